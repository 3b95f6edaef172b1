
/- AreTasks, program and reference: one plain test. Conditions: none. -/
import Derived.Test.YtmhepomjbaendaaTasks
import Derived.Test.YtmhepomjbaendaaBlk
namespace Go.Proofs.Ytmhepomjbaendaa
open Go.RowKit Go.BigFrame
set_option linter.unusedVariables false
set_option linter.unusedSimpArgs false
attribute [local go_sem] Oper.semAt_some

def befAt (i : Int) (bs : List Int) (k : Nat) : Bool := win (nth bs k) 0 (i - 1) && (k == 0 || decide (nth bs (k - 1) < nth bs k))
def befTo (i : Int) (bs : List Int) (m : Nat) : Bool := (List.range m).all (befAt i bs)
def lagsOk (ls : List Int) : Bool := ls.all fun n => win n (-100) 100
def taskHead (x : Tk) : Bool := win x.1 0 100 && win x.2.1 0 20 && decide (x.2.2.1.length = x.2.2.2.length)
def taskOk (i : Int) (x : Tk) : Bool := taskHead x && lagsOk x.2.2.2 && befTo i x.2.2.1 x.2.2.1.length
def tkAt (xs : List Tk) (i : Nat) : Tk := xs.getD i (0, 0, [], [])
theorem tkAt_eq {xs : List Tk} {i : Nat} (h : i < xs.length) : tkAt xs i = xs[i] := by simp [tkAt, List.getD_eq_getElem?_getD, List.getElem?_eq_getElem h]
def tasksOk (xs : List Tk) : Bool := ((List.range xs.length).all fun i => taskOk i (tkAt xs i)) && decide (1 ≤ xs.length) && decide (xs.length ≤ 16)
theorem tasksOk_bad {xs : List Tk} {i : Nat} (hi : i < xs.length) (h : taskOk i xs[i] = false) : tasksOk xs = false := by
  unfold tasksOk
  have : ((List.range xs.length).all fun i => taskOk i (tkAt xs i)) = false := by
    rw [List.all_eq_false]
    exact ⟨i, List.mem_range.2 hi, by rw [tkAt_eq hi, h]; simp⟩
  rw [this]; rfl
theorem tasksOk_end {xs : List Tk} (h : ∀ i (hi : i < xs.length), taskOk i xs[i] = true) : tasksOk xs = (decide (1 ≤ xs.length) && decide (xs.length ≤ 16)) := by
  unfold tasksOk
  have : ((List.range xs.length).all fun i => taskOk i (tkAt xs i)) = true := by
    rw [List.all_eq_true]
    intro i hi
    have := List.mem_range.1 hi
    rw [tkAt_eq this, h i this]
  rw [this, Bool.true_and]
theorem befTo_succ (i : Int) (bs : List Int) (m : Nat) : befTo i bs (m + 1) = (befTo i bs m && befAt i bs m) := by
  unfold befTo; rw [List.range_succ, List.all_append]; simp
theorem befTo_bad {i : Int} {bs : List Int} {k : Nat} (hk : k < bs.length) (h : befAt i bs k = false) : befTo i bs bs.length = false := by
  unfold befTo
  rw [List.all_eq_false]
  exact ⟨k, List.mem_range.2 hk, by rw [h]; simp⟩

set_option maxRecDepth 100000 in
set_option maxHeartbeats 4000000 in
theorem areTasks_any (v : Value) (xs : List Tk) (w : World) (hv : TasksR w v xs) : Calls Try.prog 80 #[v] w fun e w' => e = .returned (.bool (tasksOk xs)) ∧ Below w.heap.size w w' := by
  have HV : Hid (∀ W, Below w.heap.size w W → TasksR W v xs) := fun W hW => hv.below hW (Nat.le_refl _)
  have hm0 := hv.1
  unfold maxLen at hm0
  obtain ⟨a, c, rfl, hcap, _⟩ := hv.at_
  clear hv
  go_enter Try.func80, Try.ntmps80
  go_wp2
  go_loopw [9] (fun vi wr => ∃ i : Nat, i ≤ xs.length ∧ vi = .int .i64 i ∧ Below w.heap.size w wr ∧ Hid (∀ j (hj : j < xs.length), j < i → taskOk j xs[j] = true)) (fun vi _ => xs.length - (intOf vi).toNat)
  case atStart => exact ⟨0, Nat.zero_le _, rfl, Below.refl _ _, fun j hj h => by omega⟩
  case round =>
    obtain ⟨i, hi, rfl, hB, hok⟩ := hrel
    obtain ⟨wr', rfl⟩ : ∃ wr' : World, wr' = wr := ⟨_, rfl⟩
    have HB := Lib.hid hB
    by_cases hlt : i < xs.length
    · obtain ⟨a3, c3, hsl3, _, hc⟩ := (HV.out wr' hB).at_
      obtain ⟨rfl, rfl⟩ : a = a3 ∧ c = c3 := by simpa using hsl3
      obtain ⟨b, o, vb, vl, rfl, hbs, h1, h2, y0, y1, e0, e1, e2, e3⟩ := hc i hlt
      have HBAD : Hid (taskOk i xs[i] = false → tasksOk xs = false) := fun h => tasksOk_bad hlt h
      have HX : Hid (∀ bs ls x0 x1, xs[i].1 = x0 → xs[i].2.1 = x1 → xs[i].2.2.1 = bs → xs[i].2.2.2 = ls → taskOk i xs[i] = (win x0 0 100 && win x1 0 20 && decide (bs.length = ls.length) && lagsOk ls && befTo i bs bs.length)) := fun bs ls x0 x1 q0 q1 q2 q3 => by unfold taskOk taskHead; rw [q0, q1, q2, q3]
      obtain ⟨x0, hx0⟩ : ∃ x0, xs[i].1 = x0 := ⟨_, rfl⟩
      obtain ⟨x1, hx1⟩ : ∃ x1, xs[i].2.1 = x1 := ⟨_, rfl⟩
      obtain ⟨bs, hbs2⟩ : ∃ bs, xs[i].2.2.1 = bs := ⟨_, rfl⟩
      obtain ⟨ls, hls2⟩ : ∃ ls, xs[i].2.2.2 = ls := ⟨_, rfl⟩
      have HT := Lib.hid (HX.out bs ls x0 x1 hx0 hx1 hbs2 hls2)
      rw [hx0] at e0
      rw [hx1] at e1
      rw [hbs2] at h1
      rw [hls2] at h2
      obtain ⟨hm1, b1, b2, rfl, hcap1, hcells⟩ := h1.ints.1
      obtain ⟨hm2, l1, l2, rfl, hcap2, _⟩ := h2.ints.1
      unfold maxLen at hm1 hm2
      have hBA : Below w.heap.size w (wr'.alloc (.cells #[.int .i64 x0, .int .i64 x1, .slice b1 bs.length b2, .slice l1 ls.length l2] 86)) := hB.alloc hB.size _
      have HBA := Lib.hid hBA
      have hAW := areWithin_any (.slice l1 ls.length l2) ls (-100) 100 (wr'.alloc (.cells #[.int .i64 x0, .int .i64 x1, .slice b1 bs.length b2, .slice l1 ls.length l2] 86)) (h2.ints.1.below ((Below.refl _ _).alloc (Nat.le_refl _) _) (Nat.le_refl _))
      have HAW := Lib.hid hAW
      have HCELL : Hid (∀ k, k < bs.length → ∃ bb oo, b1 = some ⟨bb, oo, none⟩ ∧ bb < wr'.heap.size ∧ wr'.cell? ⟨bb, oo + k, none⟩ = some (.int .i64 (nth bs k))) := fun k hk => by
        obtain ⟨bb, oo, q1, q2, q3⟩ := hcells k hk
        exact ⟨bb, oo, q1, q2, by rw [q3, nth_eq hk]⟩
      have k0 : (0 : Int) ≤ (i : Int) := by omega
      have k1 : (i : Int) < (xs.length : Int) := by omega
      clear hAW hBA hcells h1 h2 hc hsl3 hx0 hx1 hbs2 hls2 HX hB y0 y1
      cases z0 : win x0 0 100
      · have HF := Lib.hid (HBAD.out (by rw [HT.out, z0]; rfl))
        go_wp2_with (first | (go_at_call 60; refine (within_any _ _ _ _).mono ?_; rintro e w' ⟨rfl, rfl⟩) | (go_at_call 99; refine HAW.out.mono ?_; rintro e w' ⟨rfl, rfl⟩))
        go_ret
        exact ⟨ret_bool HF.out.symm, HBA.out⟩
      · cases z1 : win x1 0 20
        · have HF := Lib.hid (HBAD.out (by rw [HT.out, z0, z1]; rfl))
          go_wp2_with (first | (go_at_call 60; refine (within_any _ _ _ _).mono ?_; rintro e w' ⟨rfl, rfl⟩) | (go_at_call 99; refine HAW.out.mono ?_; rintro e w' ⟨rfl, rfl⟩))
          go_ret
          exact ⟨ret_bool HF.out.symm, HBA.out⟩
        · by_cases z2 : bs.length = ls.length
          · have hne : ((bs.length : Int) != (ls.length : Int)) = false := by simp; omega
            cases z3 : lagsOk ls
            · have HF := Lib.hid (HBAD.out (by rw [HT.out, z0, z1, z3]; simp))
              have HAW2 := HAW.out
              rw [show (ls.all fun n => win n (-100) 100) = false from z3] at HAW2
              have HAW := Lib.hid HAW2
              clear HAW2 z2
              go_wp2_with (first | (go_at_call 60; refine (within_any _ _ _ _).mono ?_; rintro e w' ⟨rfl, rfl⟩) | (go_at_call 99; refine HAW.out.mono ?_; rintro e w' ⟨rfl, rfl⟩))
              go_ret
              exact ⟨ret_bool HF.out.symm, HBA.out⟩
            · have HT2 : Hid (taskOk i xs[i] = befTo i bs bs.length) := by show _ = _; rw [HT.out, z0, z1, z3]; simp [z2]
              have HAW2 := HAW.out
              rw [show (ls.all fun n => win n (-100) 100) = true from z3] at HAW2
              have HAW := Lib.hid HAW2
              clear HAW2 z2 z3
              go_wp2_with (first | (go_at_call 60; refine (within_any _ _ _ _).mono ?_; rintro e w' ⟨rfl, rfl⟩) | (go_at_call 99; refine HAW.out.mono ?_; rintro e w' ⟨rfl, rfl⟩))
              obtain ⟨W1, hW1⟩ : ∃ W1, (wr'.alloc (.cells #[.int .i64 x0, .int .i64 x1, .slice b1 bs.length b2, .slice l1 ls.length l2] 86)) = W1 := ⟨_, rfl⟩
              have hk1 : Blk W1 wr'.heap.size 86 [.int .i64 x0, .int .i64 x1, .slice b1 bs.length b2, .slice l1 ls.length l2] := by rw [← hW1]; exact Blk.new wr' _ _
              have hbx := hk1.cell 2 _ rfl
              have HBW := HBA.out
              have HCW : Hid (∀ k, k < bs.length → ∃ bb oo, b1 = some ⟨bb, oo, none⟩ ∧ W1.cell? ⟨bb, oo + k, none⟩ = some (.int .i64 (nth bs k))) := fun k hk => by
                obtain ⟨bb, oo, q1, q2, q3⟩ := HCELL.out k hk
                exact ⟨bb, oo, q1, by rw [← hW1]; exact (((Below.refl wr'.heap.size wr').alloc (Nat.le_refl _) _).cell (p := ⟨bb, oo + k, none⟩) q2).trans q3⟩
              rw [hW1] at HBW ⊢
              have HB1 := Lib.hid HBW
              clear hW1 HBW HBA HAW hk1 HCELL e0 e1 e2 e3
              go_loopw [42] (fun vk wk => ∃ k : Nat, k ≤ bs.length ∧ vk = .int .i64 k ∧ Hid (befTo i bs k = true) ∧ W1 = wk) (fun vk _ => bs.length - (intOf vk).toNat)
              case atStart => exact ⟨0, Nat.zero_le _, rfl, rfl, rfl⟩
              case round =>
                obtain ⟨k, hk, rfl, hbef, rfl⟩ := hrel
                by_cases hkl : k < bs.length
                · have hsc := befTo_succ i bs k
                  rw [hbef.out, Bool.true_and] at hsc
                  have HBF : Hid (befAt i bs k = false → taskOk i xs[i] = false) := fun h => by rw [HT2.out]; exact befTo_bad hkl h
                  have HBE : Hid (befAt i bs k = (win (nth bs k) 0 ((i : Int) - 1) && (k == 0 || decide (nth bs (k - 1) < nth bs k)))) := rfl
                  obtain ⟨bb, oo, rfl, f0⟩ := HCW.out k hkl
                  obtain ⟨p, hp⟩ : ∃ p, nth bs k = p := ⟨_, rfl⟩
                  rw [hp] at f0 HBE
                  have HSC := Lib.hid hsc
                  have q0 : (0 : Int) ≤ (k : Int) := by omega
                  have q1 : (k : Int) < (bs.length : Int) := by omega
                  clear hsc hp
                  cases u0 : win p 0 ((i : Int) - 1)
                  · have HF := Lib.hid (HBAD.out (HBF.out (by rw [HBE.out, u0]; rfl)))
                    go_wp2_with (first | (go_at_call 60; refine (within_any _ _ _ _).mono ?_; rintro e w' ⟨rfl, rfl⟩) | (go_at_call 99; refine HAW.out.mono ?_; rintro e w' ⟨rfl, rfl⟩))
                    go_ret
                    exact ⟨ret_bool HF.out.symm, HB1.out⟩
                  · by_cases hk0 : k = 0
                    · have HN : Hid (befTo i bs (k + 1) = true) := by show _ = _; rw [HSC.out, HBE.out, u0, hk0]; rfl
                      have hdN : decide (0 < k) = false := by simp; omega
                      clear hk0
                      go_wp2_with (first | (go_at_call 60; refine (within_any _ _ _ _).mono ?_; rintro e w' ⟨rfl, rfl⟩) | (go_at_call 99; refine HAW.out.mono ?_; rintro e w' ⟨rfl, rfl⟩))
                      go_roundw
                      case rel => exact ⟨k + 1, by omega, by go_num, HN.out, trivial⟩
                      case measure => simp [intOf]; omega
                    · obtain ⟨k', rfl⟩ : ∃ k', k = k' + 1 := ⟨k - 1, by omega⟩
                      obtain ⟨bb2, oo2, hb2, f1⟩ := HCW.out k' (by omega)
                      obtain ⟨rfl, rfl⟩ : bb = bb2 ∧ oo = oo2 := by simpa using hb2
                      rw [show k' + 1 - 1 = k' from rfl] at HBE
                      obtain ⟨r, hr⟩ : ∃ r, nth bs k' = r := ⟨_, rfl⟩
                      rw [hr] at f1 HBE
                      have hkp : (0 : Int) < ((k' + 1 : Nat) : Int) := by omega
                      have hkm : ((k' + 1 : Nat) : Int) - 1 = (k' : Int) := by omega
                      have q2 : (0 : Int) ≤ (k' : Int) := by omega
                      have q3 : (k' : Int) < (bs.length : Int) := by omega
                      have hk1 : ((k' + 1 == 0) : Bool) = false := rfl
                      rw [hk1, Bool.false_or] at HBE
                      clear hb2 hr hk1
                      by_cases hpr : r < p
                      · have hle : ¬ p ≤ r := by omega
                        have HN : Hid (befTo i bs (k' + 1 + 1) = true) := by show _ = _; rw [HSC.out, HBE.out, u0]; simp [hpr]
                        go_wp2_with (first | (go_at_call 60; refine (within_any _ _ _ _).mono ?_; rintro e w' ⟨rfl, rfl⟩) | (go_at_call 99; refine HAW.out.mono ?_; rintro e w' ⟨rfl, rfl⟩))
                        go_roundw
                        case rel => exact ⟨k' + 1 + 1, by omega, by go_num, HN.out, trivial⟩
                        case measure => simp [intOf]; omega
                      · have hle : p ≤ r := by omega
                        have HF := Lib.hid (HBAD.out (HBF.out (by rw [HBE.out, u0]; simp [hpr])))
                        go_wp2_with (first | (go_at_call 60; refine (within_any _ _ _ _).mono ?_; rintro e w' ⟨rfl, rfl⟩) | (go_at_call 99; refine HAW.out.mono ?_; rintro e w' ⟨rfl, rfl⟩))
                        go_ret
                        exact ⟨ret_bool HF.out.symm, HB1.out⟩
                · obtain rfl : k = bs.length := by omega
                  have HOK : Hid (taskOk i xs[i] = true) := by show _ = _; rw [HT2.out]; exact hbef.out
                  clear hbef hkl
                  go_wp2
                  go_roundw
                  case rel =>
                    refine ⟨i + 1, by omega, by go_num, HB1.out, fun j hj h => ?_⟩
                    rcases Nat.lt_succ_iff_lt_or_eq.1 h with h | rfl
                    · exact hok.out j hj h
                    · exact HOK.out
                  case measure => simp [intOf]; omega
          · have hne : ((bs.length : Int) != (ls.length : Int)) = true := by simp; omega
            have HF := Lib.hid (HBAD.out (by rw [HT.out, z0, z1]; simp [z2]))
            clear z2
            go_wp2_with (first | (go_at_call 60; refine (within_any _ _ _ _).mono ?_; rintro e w' ⟨rfl, rfl⟩) | (go_at_call 99; refine HAW.out.mono ?_; rintro e w' ⟨rfl, rfl⟩))
            go_ret
            exact ⟨ret_bool HF.out.symm, HBA.out⟩
    · have HE := Lib.hid (tasksOk_end (xs := xs) (fun j hj => hok.out j hj (by omega)))
      clear hok
      by_cases h1 : 1 ≤ xs.length
      · by_cases h2 : xs.length ≤ 16
        · go_wp2
          go_ret
          exact ⟨ret_bool (by rw [HE.out]; simp [h1]; omega), HB.out⟩
        · go_wp2
          go_ret
          exact ⟨ret_bool (by rw [HE.out]; simp [h1]; omega), HB.out⟩
      · have hd : decide ((1 : Int) ≤ (xs.length : Int)) = false := by simp; omega
        go_wp2
        go_ret
        exact ⟨ret_bool (by rw [HE.out]; simp [h1]), HB.out⟩

/-- The reference's test of one index. -/
def befLag (i : Int) (bs ls : List Int) (k : Nat) : Bool := befAt i bs k && win (nth ls k) (-100) 100
theorem befLag_bad {i : Int} {x : Tk} {k : Nat} (hk : k < x.2.2.1.length) (hl : x.2.2.1.length = x.2.2.2.length) (h : befLag i x.2.2.1 x.2.2.2 k = false) : taskOk i x = false := by
  unfold befLag at h
  rw [Bool.and_eq_false_iff] at h
  unfold taskOk
  rcases h with h | h
  · rw [befTo_bad hk h, Bool.and_false]
  · have : lagsOk x.2.2.2 = false := by
      unfold lagsOk
      rw [List.all_eq_false]
      exact ⟨x.2.2.2[k]'(by omega), List.getElem_mem _, by rw [nth_eq (by omega)] at h; rw [h]; simp⟩
    rw [this, Bool.and_false, Bool.false_and]
theorem befLag_all {i : Int} {x : Tk} (hl : x.2.2.1.length = x.2.2.2.length) (hh : taskHead x = true) (h : ∀ k, k < x.2.2.1.length → befLag i x.2.2.1 x.2.2.2 k = true) : taskOk i x = true := by
  unfold taskOk
  rw [hh, Bool.true_and, Bool.and_eq_true]
  refine ⟨?_, ?_⟩
  · unfold lagsOk
    rw [List.all_eq_true]
    intro n hn
    obtain ⟨k, hk, rfl⟩ := List.mem_iff_getElem.1 hn
    have := h k (by omega)
    unfold befLag at this
    rw [Bool.and_eq_true, nth_eq hk] at this
    exact this.2
  · unfold befTo
    rw [List.all_eq_true]
    intro k hk
    have := h k (List.mem_range.1 hk)
    unfold befLag at this
    rw [Bool.and_eq_true] at this
    exact this.1

set_option maxRecDepth 100000 in
set_option maxHeartbeats 4000000 in
theorem l03Task_any (i : Nat) (b o : Nat) (x : Tk) (vb vl : Value) (w : World) (hi : i ≤ 1000000000) (e0 : w.cell? ⟨b, o, none⟩ = some (.int .i64 x.1)) (e1 : w.cell? ⟨b, o + 1, none⟩ = some (.int .i64 x.2.1)) (e2 : w.cell? ⟨b, o + 2, none⟩ = some vb) (e3 : w.cell? ⟨b, o + 3, none⟩ = some vl) (h1 : Ints w vb x.2.2.1) (h2 : Ints w vl x.2.2.2) :
    Calls Try.prog 135 #[.pointer (some ⟨b, o, none⟩), .int .i64 i] w fun e w' => e = .returned (.bool (taskOk i x)) ∧ ∃ q, w' = w.drewN q := by
  have HBAD : Hid (taskHead x = false → taskOk i x = false) := fun h => by unfold taskOk; rw [h]; rfl
  have HALL : Hid (x.2.2.1.length = x.2.2.2.length → taskHead x = true → (∀ k, k < x.2.2.1.length → befLag i x.2.2.1 x.2.2.2 k = true) → taskOk i x = true) := befLag_all
  have HNO : Hid (∀ k, k < x.2.2.1.length → x.2.2.1.length = x.2.2.2.length → befLag i x.2.2.1 x.2.2.2 k = false → taskOk i x = false) := fun k hk hl h => befLag_bad hk hl h
  have HH : Hid (taskHead x = (win x.1 0 100 && win x.2.1 0 20 && decide (x.2.2.1.length = x.2.2.2.length))) := rfl
  obtain ⟨x0, hx0⟩ : ∃ x0, x.1 = x0 := ⟨_, rfl⟩
  obtain ⟨x1, hx1⟩ : ∃ x1, x.2.1 = x1 := ⟨_, rfl⟩
  obtain ⟨bs, hbs⟩ : ∃ bs, x.2.2.1 = bs := ⟨_, rfl⟩
  obtain ⟨ls, hls⟩ : ∃ ls, x.2.2.2 = ls := ⟨_, rfl⟩
  obtain ⟨ok, hok⟩ : ∃ ok, taskOk (i : Int) x = ok := ⟨_, rfl⟩
  rw [hx0] at e0 HH
  rw [hx1] at e1 HH
  rw [hbs] at h1 HH HALL HNO
  rw [hls] at h2 HH HALL HNO
  rw [hok] at HBAD HALL HNO ⊢
  obtain ⟨hm1, b1, b2, rfl, hcap1, hc1⟩ := h1
  obtain ⟨hm2, l1, l2, rfl, hcap2, hc2⟩ := h2
  unfold maxLen at hm1 hm2
  have HC1 := Lib.hid hc1
  have HC2 := Lib.hid hc2
  have k0 : (0 : Int) ≤ (i : Int) := by omega
  have hsub : IntKind.i64.wrap ((i : Int) - 1) = (i : Int) - 1 := IntWalk.i64_in _ (by omega)
  clear hc1 hc2 hx0 hx1 hbs hls hok
  cases z0 : win x0 0 100
  · have HF := Lib.hid (HBAD.out (by rw [HH.out, z0]; rfl))
    go_enter Try.func135, Try.ntmps135
    go_wp2
    go_quiet ((first | (go_at_call 68; exact quiet_eq (l00In_any _ _ _ _))))
    go_wp2
    go_ret
    exact ⟨ret_bool HF.out.symm, _, rfl⟩
  · cases z1 : win x1 0 20
    · have HF := Lib.hid (HBAD.out (by rw [HH.out, z0, z1]; rfl))
      go_enter Try.func135, Try.ntmps135
      go_wp2
      go_quiet ((first | (go_at_call 68; exact quiet_eq (l00In_any _ _ _ _))))
      go_wp2
      go_ret
      exact ⟨ret_bool HF.out.symm, _, rfl⟩
    · by_cases z2 : bs.length = ls.length
      · have hne : ((ls.length : Int) != (bs.length : Int)) = false := by simp; omega
        have HTH : Hid (taskHead x = true) := by show _ = _; rw [HH.out, z0, z1]; simp [z2]
        have HZ2 := Lib.hid z2
        clear z2
        go_enter Try.func135, Try.ntmps135
        go_wp2
        go_quiet ((first | (go_at_call 68; exact quiet_eq (l00In_any _ _ _ _))))
        go_wp2
        go_loopw [38] (fun vk wk => ∃ k : Nat, k ≤ bs.length ∧ vk = .int .i64 k ∧ Hid (∀ j, j < k → befLag i bs ls j = true) ∧ Hid (∃ q, wk = w.drewN q)) (fun vk _ => bs.length - (intOf vk).toNat)
        case atStart => exact ⟨0, Nat.zero_le _, rfl, fun j hj => by omega, _, rfl⟩
        case round =>
          obtain ⟨k, hk, rfl, hall, hq⟩ := hrel
          obtain ⟨wk, rfl⟩ : ∃ wk : World, wk = wr := ⟨_, rfl⟩
          have g2 : wk.cell? ⟨b, o + 2, none⟩ = some (.slice b1 bs.length b2) := by obtain ⟨q, rfl⟩ := hq.out; exact e2
          have g3 : wk.cell? ⟨b, o + 3, none⟩ = some (.slice l1 ls.length l2) := by obtain ⟨q, rfl⟩ := hq.out; exact e3
          have HCA : Hid (∀ j, j < bs.length → ∃ bb oo, b1 = some ⟨bb, oo, none⟩ ∧ wk.cell? ⟨bb, oo + j, none⟩ = some (.int .i64 (nth bs j))) := fun j hj => by
            obtain ⟨q, rfl⟩ := hq.out
            obtain ⟨bb, oo, q1, _, q3⟩ := HC1.out j hj
            exact ⟨bb, oo, q1, by rw [nth_eq hj]; exact q3⟩
          have HCB : Hid (∀ j, j < ls.length → ∃ bb oo, l1 = some ⟨bb, oo, none⟩ ∧ wk.cell? ⟨bb, oo + j, none⟩ = some (.int .i64 (nth ls j))) := fun j hj => by
            obtain ⟨q, rfl⟩ := hq.out
            obtain ⟨bb, oo, q1, _, q3⟩ := HC2.out j hj
            exact ⟨bb, oo, q1, by rw [nth_eq hj]; exact q3⟩
          have HWQ : Hid (∀ q, ∃ q', wk.drewN q = w.drewN q') := fun q => by obtain ⟨q0, rfl⟩ := hq.out; exact ⟨q0 + q, by simp⟩
          clear e0 e1 e2 e3 hq
          by_cases hkl : k < bs.length
          · obtain ⟨bb, oo, rfl, f0⟩ := HCA.out k hkl
            obtain ⟨lb, lo, rfl, f1⟩ := HCB.out k (by rw [← HZ2.out]; exact hkl)
            have HBL : Hid (befLag i bs ls k = ((win (nth bs k) 0 ((i : Int) - 1) && (k == 0 || decide (nth bs (k - 1) < nth bs k))) && win (nth ls k) (-100) 100)) := rfl
            have HNK := Lib.hid (HNO.out k hkl HZ2.out)
            obtain ⟨p, hp⟩ : ∃ p, nth bs k = p := ⟨_, rfl⟩
            obtain ⟨lg, hlg⟩ : ∃ lg, nth ls k = lg := ⟨_, rfl⟩
            rw [hp] at f0 HBL
            rw [hlg] at f1 HBL
            have q0 : (0 : Int) ≤ (k : Int) := by omega
            have q1 : (k : Int) < (bs.length : Int) := by omega
            have q2 : (k : Int) < (ls.length : Int) := by have := HZ2.out; omega
            clear hp hlg
            cases u0 : win p 0 ((i : Int) - 1)
            · have HF := Lib.hid (HNK.out (by rw [HBL.out, u0]; rfl))
              go_wp2
              go_quiet ((first | (go_at_call 68; exact quiet_eq (l00In_any _ _ _ _))))
              go_wp2
              go_ret
              exact ⟨ret_bool HF.out.symm, HWQ.out _⟩
            · by_cases hk0 : k = 0
              · have HBL2 : Hid (befLag i bs ls k = win lg (-100) 100) := by show _ = _; rw [HBL.out, u0, hk0]; rfl
                have hd : decide ((0 : Int) < (k : Int)) = false := by simp; omega
                have hdN : decide (0 < k) = false := by simp; omega
                clear hk0
                cases u1 : win lg (-100) 100
                · have HF := Lib.hid (HNK.out (by rw [HBL2.out, u1]))
                  go_wp2
                  go_quiet ((first | (go_at_call 68; exact quiet_eq (l00In_any _ _ _ _))))
                  go_wp2
                  go_ret
                  exact ⟨ret_bool HF.out.symm, HWQ.out _⟩
                · have HY : Hid (befLag i bs ls k = true) := by show _ = _; rw [HBL2.out, u1]
                  go_wp2
                  go_quiet ((first | (go_at_call 68; exact quiet_eq (l00In_any _ _ _ _))))
                  go_wp2
                  go_roundw
                  case rel =>
                    refine ⟨k + 1, by omega, by go_num, fun j hj => ?_, HWQ.out _⟩
                    rcases Nat.lt_succ_iff_lt_or_eq.1 hj with h | rfl
                    · exact hall.out j h
                    · exact HY.out
                  case measure => simp [intOf]; omega
              · obtain ⟨k', rfl⟩ : ∃ k', k = k' + 1 := ⟨k - 1, by omega⟩
                obtain ⟨bb2, oo2, hb2, f2⟩ := HCA.out k' (by omega)
                obtain ⟨rfl, rfl⟩ : bb = bb2 ∧ oo = oo2 := by simpa using hb2
                rw [show k' + 1 - 1 = k' from rfl] at HBL
                obtain ⟨r, hr⟩ : ∃ r, nth bs k' = r := ⟨_, rfl⟩
                rw [hr] at f2 HBL
                have hk1 : ((k' + 1 == 0) : Bool) = false := rfl
                rw [hk1, Bool.false_or, u0, Bool.true_and] at HBL
                have hd : decide ((0 : Int) < ((k' + 1 : Nat) : Int)) = true := by simp
                have hkp : (0 : Int) < ((k' + 1 : Nat) : Int) := by omega
                have hkm : ((k' + 1 : Nat) : Int) - 1 = (k' : Int) := by omega
                have hkw : IntKind.i64.wrap (((k' + 1 : Nat) : Int) - 1) = (k' : Int) := by rw [hkm]; exact IntWalk.i64_in _ (by omega)
                have q3 : (0 : Int) ≤ (k' : Int) := by omega
                have q4 : (k' : Int) < (bs.length : Int) := by omega
                clear hb2 hr hk1 hk0 hkm
                by_cases hpr : r < p
                · have hle : decide (p ≤ r) = false := by simp; omega
                  have HBL2 : Hid (befLag i bs ls (k' + 1) = win lg (-100) 100) := by show _ = _; rw [HBL.out]; simp [hpr]
                  cases u1 : win lg (-100) 100
                  · have HF := Lib.hid (HNK.out (by rw [HBL2.out, u1]))
                    go_wp2
                    go_quiet ((first | (go_at_call 68; exact quiet_eq (l00In_any _ _ _ _))))
                    go_wp2
                    go_ret
                    exact ⟨ret_bool HF.out.symm, HWQ.out _⟩
                  · have HY : Hid (befLag i bs ls (k' + 1) = true) := by show _ = _; rw [HBL2.out, u1]
                    go_wp2
                    go_quiet ((first | (go_at_call 68; exact quiet_eq (l00In_any _ _ _ _))))
                    go_wp2
                    go_roundw
                    case rel =>
                      refine ⟨k' + 1 + 1, by omega, by go_num, fun j hj => ?_, HWQ.out _⟩
                      rcases Nat.lt_succ_iff_lt_or_eq.1 hj with h | rfl
                      · exact hall.out j h
                      · exact HY.out
                    case measure => simp [intOf]; omega
                · have hle : decide (p ≤ r) = true := by simp; omega
                  have HF := Lib.hid (HNK.out (by rw [HBL.out]; simp [hpr]))
                  go_wp2
                  go_quiet ((first | (go_at_call 68; exact quiet_eq (l00In_any _ _ _ _))))
                  go_wp2
                  go_ret
                  exact ⟨ret_bool HF.out.symm, HWQ.out _⟩
          · obtain rfl : k = bs.length := by omega
            have HF : Hid (ok = true) := HALL.out HZ2.out HTH.out hall.out
            clear hall hkl
            go_wp2
            go_ret
            exact ⟨ret_bool HF.out.symm, HWQ.out 0⟩
      · have hne : ((ls.length : Int) != (bs.length : Int)) = true := by simp; omega
        have HF := Lib.hid (HBAD.out (by rw [HH.out, z0, z1]; simp [z2]))
        clear z2
        go_enter Try.func135, Try.ntmps135
        go_wp2
        go_quiet ((first | (go_at_call 68; exact quiet_eq (l00In_any _ _ _ _))))
        go_wp2
        go_ret
        exact ⟨ret_bool HF.out.symm, _, rfl⟩
end Go.Proofs.Ytmhepomjbaendaa
