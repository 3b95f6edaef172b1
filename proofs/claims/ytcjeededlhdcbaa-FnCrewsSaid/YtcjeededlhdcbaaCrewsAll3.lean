/- slices.SortStableFunc on integers: the walks of its exchanges, rotations and insertions. Conditions: at most 2^20 elements. With texts that it needs. -/
import Derived.Test.YtcjeededlhdcbaaCrewsAll1
import Derived.Test.YtcjeededlhdcbaaCrewsAll2
import Derived.Deep.RegionWith
import Derived.Deep.CutRange
namespace Go.Proofs.Ytcjeededlhdcbaa
open Go.RowKit Go.BigFrame
set_option linter.unusedVariables false
set_option linter.unusedSimpArgs false
attribute [local go_sem] Oper.semAt_some

def befAt (i : Int) (bs : List Int) (k : Nat) : Bool := win (nth bs k) 0 (i - 1) && (k == 0 || decide (nth bs (k - 1) < nth bs k))
def befTo (i : Int) (bs : List Int) (m : Nat) : Bool := (List.range m).all (befAt i bs)
def lagsOk (ls : List Int) : Bool := ls.all fun n => win n (-100) 100
def taskHead (x : Tk) : Bool := win x.1 0 100 && win x.2.1 0 20 && decide (x.2.2.1.length = x.2.2.2.length)
def taskOk (i : Int) (x : Tk) : Bool := taskHead x && lagsOk x.2.2.2 && befTo i x.2.2.1 x.2.2.1.length
def tkAt (xs : List Tk) (i : Nat) : Tk := xs.getD i (0, 0, [], [])
theorem tkAt_eq {xs : List Tk} {i : Nat} (h : i < xs.length) : tkAt xs i = xs[i] := by simp [tkAt, List.getD_eq_getElem?_getD, List.getElem?_eq_getElem h]
def tasksOk (xs : List Tk) : Bool := ((List.range xs.length).all fun i => taskOk i (tkAt xs i)) && decide (1 ≤ xs.length) && decide (xs.length ≤ 16)
theorem tasksOk_bad {xs : List Tk} {i : Nat} (hi : i < xs.length) (h : taskOk i xs[i] = false) : tasksOk xs = false := by
  unfold tasksOk
  have : ((List.range xs.length).all fun i => taskOk i (tkAt xs i)) = false := by
    rw [List.all_eq_false]
    exact ⟨i, List.mem_range.2 hi, by rw [tkAt_eq hi, h]; simp⟩
  rw [this]; rfl
theorem tasksOk_end {xs : List Tk} (h : ∀ i (hi : i < xs.length), taskOk i xs[i] = true) : tasksOk xs = (decide (1 ≤ xs.length) && decide (xs.length ≤ 16)) := by
  unfold tasksOk
  have : ((List.range xs.length).all fun i => taskOk i (tkAt xs i)) = true := by
    rw [List.all_eq_true]
    intro i hi
    have := List.mem_range.1 hi
    rw [tkAt_eq this, h i this]
  rw [this, Bool.true_and]
theorem befTo_succ (i : Int) (bs : List Int) (m : Nat) : befTo i bs (m + 1) = (befTo i bs m && befAt i bs m) := by
  unfold befTo; rw [List.range_succ, List.all_append]; simp
theorem befTo_bad {i : Int} {bs : List Int} {k : Nat} (hk : k < bs.length) (h : befAt i bs k = false) : befTo i bs bs.length = false := by
  unfold befTo
  rw [List.all_eq_false]
  exact ⟨k, List.mem_range.2 hk, by rw [h]; simp⟩

set_option maxRecDepth 100000 in
set_option maxHeartbeats 4000000 in
theorem areTasks_any (v : Value) (xs : List Tk) (w : World) (hv : TasksR w v xs) : Calls Try.prog 66 #[v] w fun e w' => e = .returned (.bool (tasksOk xs)) ∧ Below w.heap.size w w' := by
  have HV : Hid (∀ W, Below w.heap.size w W → TasksR W v xs) := fun W hW => hv.below hW (Nat.le_refl _)
  have hm0 := hv.1
  unfold maxLen at hm0
  obtain ⟨a, c, rfl, hcap, _⟩ := hv.at_
  clear hv
  go_enter Try.func66, Try.ntmps66
  go_wp2
  go_loopw [9] (fun vi wr => ∃ i : Nat, i ≤ xs.length ∧ vi = .int .i64 i ∧ Below w.heap.size w wr ∧ Hid (∀ j (hj : j < xs.length), j < i → taskOk j xs[j] = true)) (fun vi _ => xs.length - (intOf vi).toNat)
  case atStart => exact ⟨0, Nat.zero_le _, rfl, Below.refl _ _, fun j hj h => by omega⟩
  case round =>
    obtain ⟨i, hi, rfl, hB, hok⟩ := hrel
    obtain ⟨wr', rfl⟩ : ∃ wr' : World, wr' = wr := ⟨_, rfl⟩
    have HB := Lib.hid hB
    by_cases hlt : i < xs.length
    · obtain ⟨a3, c3, hsl3, _, hc⟩ := (HV.out wr' hB).at_
      obtain ⟨rfl, rfl⟩ : a = a3 ∧ c = c3 := by simpa using hsl3
      obtain ⟨b, o, vb, vl, rfl, hbs, h1, h2, y0, y1, e0, e1, e2, e3⟩ := hc i hlt
      have HBAD : Hid (taskOk i xs[i] = false → tasksOk xs = false) := fun h => tasksOk_bad hlt h
      have HX : Hid (∀ bs ls x0 x1, xs[i].1 = x0 → xs[i].2.1 = x1 → xs[i].2.2.1 = bs → xs[i].2.2.2 = ls → taskOk i xs[i] = (win x0 0 100 && win x1 0 20 && decide (bs.length = ls.length) && lagsOk ls && befTo i bs bs.length)) := fun bs ls x0 x1 q0 q1 q2 q3 => by unfold taskOk taskHead; rw [q0, q1, q2, q3]
      obtain ⟨x0, hx0⟩ : ∃ x0, xs[i].1 = x0 := ⟨_, rfl⟩
      obtain ⟨x1, hx1⟩ : ∃ x1, xs[i].2.1 = x1 := ⟨_, rfl⟩
      obtain ⟨bs, hbs2⟩ : ∃ bs, xs[i].2.2.1 = bs := ⟨_, rfl⟩
      obtain ⟨ls, hls2⟩ : ∃ ls, xs[i].2.2.2 = ls := ⟨_, rfl⟩
      have HT := Lib.hid (HX.out bs ls x0 x1 hx0 hx1 hbs2 hls2)
      rw [hx0] at e0
      rw [hx1] at e1
      rw [hbs2] at h1
      rw [hls2] at h2
      obtain ⟨hm1, b1, b2, rfl, hcap1, hcells⟩ := h1.ints.1
      obtain ⟨hm2, l1, l2, rfl, hcap2, _⟩ := h2.ints.1
      unfold maxLen at hm1 hm2
      have hBA : Below w.heap.size w (wr'.alloc (.cells #[.int .i64 x0, .int .i64 x1, .slice b1 bs.length b2, .slice l1 ls.length l2] 40)) := hB.alloc hB.size _
      have HBA := Lib.hid hBA
      have hAW := areWithin_any (.slice l1 ls.length l2) ls (-100) 100 (wr'.alloc (.cells #[.int .i64 x0, .int .i64 x1, .slice b1 bs.length b2, .slice l1 ls.length l2] 40)) (h2.ints.1.below ((Below.refl _ _).alloc (Nat.le_refl _) _) (Nat.le_refl _))
      have HAW := Lib.hid hAW
      have HCELL : Hid (∀ k, k < bs.length → ∃ bb oo, b1 = some ⟨bb, oo, none⟩ ∧ bb < wr'.heap.size ∧ wr'.cell? ⟨bb, oo + k, none⟩ = some (.int .i64 (nth bs k))) := fun k hk => by
        obtain ⟨bb, oo, q1, q2, q3⟩ := hcells k hk
        exact ⟨bb, oo, q1, q2, by rw [q3, nth_eq hk]⟩
      have k0 : (0 : Int) ≤ (i : Int) := by omega
      have k1 : (i : Int) < (xs.length : Int) := by omega
      clear hAW hBA hcells h1 h2 hc hsl3 hx0 hx1 hbs2 hls2 HX hB y0 y1
      cases z0 : win x0 0 100
      · have HF := Lib.hid (HBAD.out (by rw [HT.out, z0]; rfl))
        go_wp2_with (first | (go_at_call 54; refine (within_any _ _ _ _).mono ?_; rintro e w' ⟨rfl, rfl⟩) | (go_at_call 76; refine HAW.out.mono ?_; rintro e w' ⟨rfl, rfl⟩))
        go_ret
        exact ⟨ret_bool HF.out.symm, HBA.out⟩
      · cases z1 : win x1 0 20
        · have HF := Lib.hid (HBAD.out (by rw [HT.out, z0, z1]; rfl))
          go_wp2_with (first | (go_at_call 54; refine (within_any _ _ _ _).mono ?_; rintro e w' ⟨rfl, rfl⟩) | (go_at_call 76; refine HAW.out.mono ?_; rintro e w' ⟨rfl, rfl⟩))
          go_ret
          exact ⟨ret_bool HF.out.symm, HBA.out⟩
        · by_cases z2 : bs.length = ls.length
          · have hne : ((bs.length : Int) != (ls.length : Int)) = false := by simp; omega
            cases z3 : lagsOk ls
            · have HF := Lib.hid (HBAD.out (by rw [HT.out, z0, z1, z3]; simp))
              have HAW2 := HAW.out
              rw [show (ls.all fun n => win n (-100) 100) = false from z3] at HAW2
              have HAW := Lib.hid HAW2
              clear HAW2 z2
              go_wp2_with (first | (go_at_call 54; refine (within_any _ _ _ _).mono ?_; rintro e w' ⟨rfl, rfl⟩) | (go_at_call 76; refine HAW.out.mono ?_; rintro e w' ⟨rfl, rfl⟩))
              go_ret
              exact ⟨ret_bool HF.out.symm, HBA.out⟩
            · have HT2 : Hid (taskOk i xs[i] = befTo i bs bs.length) := by show _ = _; rw [HT.out, z0, z1, z3]; simp [z2]
              have HAW2 := HAW.out
              rw [show (ls.all fun n => win n (-100) 100) = true from z3] at HAW2
              have HAW := Lib.hid HAW2
              clear HAW2 z2 z3
              go_wp2_with (first | (go_at_call 54; refine (within_any _ _ _ _).mono ?_; rintro e w' ⟨rfl, rfl⟩) | (go_at_call 76; refine HAW.out.mono ?_; rintro e w' ⟨rfl, rfl⟩))
              obtain ⟨W1, hW1⟩ : ∃ W1, (wr'.alloc (.cells #[.int .i64 x0, .int .i64 x1, .slice b1 bs.length b2, .slice l1 ls.length l2] 40)) = W1 := ⟨_, rfl⟩
              have hk1 : Blk W1 wr'.heap.size 40 [.int .i64 x0, .int .i64 x1, .slice b1 bs.length b2, .slice l1 ls.length l2] := by rw [← hW1]; exact Blk.new wr' _ _
              have hbx := hk1.cell 2 _ rfl
              have HBW := HBA.out
              have HCW : Hid (∀ k, k < bs.length → ∃ bb oo, b1 = some ⟨bb, oo, none⟩ ∧ W1.cell? ⟨bb, oo + k, none⟩ = some (.int .i64 (nth bs k))) := fun k hk => by
                obtain ⟨bb, oo, q1, q2, q3⟩ := HCELL.out k hk
                exact ⟨bb, oo, q1, by rw [← hW1]; exact (((Below.refl wr'.heap.size wr').alloc (Nat.le_refl _) _).cell (p := ⟨bb, oo + k, none⟩) q2).trans q3⟩
              rw [hW1] at HBW ⊢
              have HB1 := Lib.hid HBW
              clear hW1 HBW HBA HAW hk1 HCELL e0 e1 e2 e3
              go_loopw [42] (fun vk wk => ∃ k : Nat, k ≤ bs.length ∧ vk = .int .i64 k ∧ Hid (befTo i bs k = true) ∧ W1 = wk) (fun vk _ => bs.length - (intOf vk).toNat)
              case atStart => exact ⟨0, Nat.zero_le _, rfl, rfl, rfl⟩
              case round =>
                obtain ⟨k, hk, rfl, hbef, rfl⟩ := hrel
                by_cases hkl : k < bs.length
                · have hsc := befTo_succ i bs k
                  rw [hbef.out, Bool.true_and] at hsc
                  have HBF : Hid (befAt i bs k = false → taskOk i xs[i] = false) := fun h => by rw [HT2.out]; exact befTo_bad hkl h
                  have HBE : Hid (befAt i bs k = (win (nth bs k) 0 ((i : Int) - 1) && (k == 0 || decide (nth bs (k - 1) < nth bs k)))) := rfl
                  obtain ⟨bb, oo, rfl, f0⟩ := HCW.out k hkl
                  obtain ⟨p, hp⟩ : ∃ p, nth bs k = p := ⟨_, rfl⟩
                  rw [hp] at f0 HBE
                  have HSC := Lib.hid hsc
                  have q0 : (0 : Int) ≤ (k : Int) := by omega
                  have q1 : (k : Int) < (bs.length : Int) := by omega
                  clear hsc hp
                  cases u0 : win p 0 ((i : Int) - 1)
                  · have HF := Lib.hid (HBAD.out (HBF.out (by rw [HBE.out, u0]; rfl)))
                    go_wp2_with (first | (go_at_call 54; refine (within_any _ _ _ _).mono ?_; rintro e w' ⟨rfl, rfl⟩) | (go_at_call 76; refine HAW.out.mono ?_; rintro e w' ⟨rfl, rfl⟩))
                    go_ret
                    exact ⟨ret_bool HF.out.symm, HB1.out⟩
                  · by_cases hk0 : k = 0
                    · have HN : Hid (befTo i bs (k + 1) = true) := by show _ = _; rw [HSC.out, HBE.out, u0, hk0]; rfl
                      have hdN : decide (0 < k) = false := by simp; omega
                      clear hk0
                      go_wp2_with (first | (go_at_call 54; refine (within_any _ _ _ _).mono ?_; rintro e w' ⟨rfl, rfl⟩) | (go_at_call 76; refine HAW.out.mono ?_; rintro e w' ⟨rfl, rfl⟩))
                      go_roundw
                      case rel => exact ⟨k + 1, by omega, by go_num, HN.out, trivial⟩
                      case measure => simp [intOf]; omega
                    · obtain ⟨k', rfl⟩ : ∃ k', k = k' + 1 := ⟨k - 1, by omega⟩
                      obtain ⟨bb2, oo2, hb2, f1⟩ := HCW.out k' (by omega)
                      obtain ⟨rfl, rfl⟩ : bb = bb2 ∧ oo = oo2 := by simpa using hb2
                      rw [show k' + 1 - 1 = k' from rfl] at HBE
                      obtain ⟨r, hr⟩ : ∃ r, nth bs k' = r := ⟨_, rfl⟩
                      rw [hr] at f1 HBE
                      have hkp : (0 : Int) < ((k' + 1 : Nat) : Int) := by omega
                      have hkm : ((k' + 1 : Nat) : Int) - 1 = (k' : Int) := by omega
                      have q2 : (0 : Int) ≤ (k' : Int) := by omega
                      have q3 : (k' : Int) < (bs.length : Int) := by omega
                      have hk1 : ((k' + 1 == 0) : Bool) = false := rfl
                      rw [hk1, Bool.false_or] at HBE
                      clear hb2 hr hk1
                      by_cases hpr : r < p
                      · have hle : ¬ p ≤ r := by omega
                        have HN : Hid (befTo i bs (k' + 1 + 1) = true) := by show _ = _; rw [HSC.out, HBE.out, u0]; simp [hpr]
                        go_wp2_with (first | (go_at_call 54; refine (within_any _ _ _ _).mono ?_; rintro e w' ⟨rfl, rfl⟩) | (go_at_call 76; refine HAW.out.mono ?_; rintro e w' ⟨rfl, rfl⟩))
                        go_roundw
                        case rel => exact ⟨k' + 1 + 1, by omega, by go_num, HN.out, trivial⟩
                        case measure => simp [intOf]; omega
                      · have hle : p ≤ r := by omega
                        have HF := Lib.hid (HBAD.out (HBF.out (by rw [HBE.out, u0]; simp [hpr])))
                        go_wp2_with (first | (go_at_call 54; refine (within_any _ _ _ _).mono ?_; rintro e w' ⟨rfl, rfl⟩) | (go_at_call 76; refine HAW.out.mono ?_; rintro e w' ⟨rfl, rfl⟩))
                        go_ret
                        exact ⟨ret_bool HF.out.symm, HB1.out⟩
                · obtain rfl : k = bs.length := by omega
                  have HOK : Hid (taskOk i xs[i] = true) := by show _ = _; rw [HT2.out]; exact hbef.out
                  clear hbef hkl
                  go_wp2
                  go_roundw
                  case rel =>
                    refine ⟨i + 1, by omega, by go_num, HB1.out, fun j hj h => ?_⟩
                    rcases Nat.lt_succ_iff_lt_or_eq.1 h with h | rfl
                    · exact hok.out j hj h
                    · exact HOK.out
                  case measure => simp [intOf]; omega
          · have hne : ((bs.length : Int) != (ls.length : Int)) = true := by simp; omega
            have HF := Lib.hid (HBAD.out (by rw [HT.out, z0, z1]; simp [z2]))
            clear z2
            go_wp2_with (first | (go_at_call 54; refine (within_any _ _ _ _).mono ?_; rintro e w' ⟨rfl, rfl⟩) | (go_at_call 76; refine HAW.out.mono ?_; rintro e w' ⟨rfl, rfl⟩))
            go_ret
            exact ⟨ret_bool HF.out.symm, HBA.out⟩
    · have HE := Lib.hid (tasksOk_end (xs := xs) (fun j hj => hok.out j hj (by omega)))
      clear hok
      by_cases h1 : 1 ≤ xs.length
      · by_cases h2 : xs.length ≤ 16
        · go_wp2
          go_ret
          exact ⟨ret_bool (by rw [HE.out]; simp [h1]; omega), HB.out⟩
        · go_wp2
          go_ret
          exact ⟨ret_bool (by rw [HE.out]; simp [h1]; omega), HB.out⟩
      · have hd : decide ((1 : Int) ≤ (xs.length : Int)) = false := by simp; omega
        go_wp2
        go_ret
        exact ⟨ret_bool (by rw [HE.out]; simp [h1]), HB.out⟩

/-- The reference's test of one index. -/
def befLag (i : Int) (bs ls : List Int) (k : Nat) : Bool := befAt i bs k && win (nth ls k) (-100) 100
theorem befLag_bad {i : Int} {x : Tk} {k : Nat} (hk : k < x.2.2.1.length) (hl : x.2.2.1.length = x.2.2.2.length) (h : befLag i x.2.2.1 x.2.2.2 k = false) : taskOk i x = false := by
  unfold befLag at h
  rw [Bool.and_eq_false_iff] at h
  unfold taskOk
  rcases h with h | h
  · rw [befTo_bad hk h, Bool.and_false]
  · have : lagsOk x.2.2.2 = false := by
      unfold lagsOk
      rw [List.all_eq_false]
      exact ⟨x.2.2.2[k]'(by omega), List.getElem_mem _, by rw [nth_eq (by omega)] at h; rw [h]; simp⟩
    rw [this, Bool.and_false, Bool.false_and]
theorem befLag_all {i : Int} {x : Tk} (hl : x.2.2.1.length = x.2.2.2.length) (hh : taskHead x = true) (h : ∀ k, k < x.2.2.1.length → befLag i x.2.2.1 x.2.2.2 k = true) : taskOk i x = true := by
  unfold taskOk
  rw [hh, Bool.true_and, Bool.and_eq_true]
  refine ⟨?_, ?_⟩
  · unfold lagsOk
    rw [List.all_eq_true]
    intro n hn
    obtain ⟨k, hk, rfl⟩ := List.mem_iff_getElem.1 hn
    have := h k (by omega)
    unfold befLag at this
    rw [Bool.and_eq_true, nth_eq hk] at this
    exact this.2
  · unfold befTo
    rw [List.all_eq_true]
    intro k hk
    have := h k (List.mem_range.1 hk)
    unfold befLag at this
    rw [Bool.and_eq_true] at this
    exact this.1

set_option maxRecDepth 100000 in
set_option maxHeartbeats 4000000 in
theorem l03Task_any (i : Nat) (b o : Nat) (x : Tk) (vb vl : Value) (w : World) (hi : i ≤ 1000000000) (e0 : w.cell? ⟨b, o, none⟩ = some (.int .i64 x.1)) (e1 : w.cell? ⟨b, o + 1, none⟩ = some (.int .i64 x.2.1)) (e2 : w.cell? ⟨b, o + 2, none⟩ = some vb) (e3 : w.cell? ⟨b, o + 3, none⟩ = some vl) (h1 : Ints w vb x.2.2.1) (h2 : Ints w vl x.2.2.2) :
    Calls Try.prog 154 #[.pointer (some ⟨b, o, none⟩), .int .i64 i] w fun e w' => e = .returned (.bool (taskOk i x)) ∧ ∃ q, w' = w.drewN q := by
  have HBAD : Hid (taskHead x = false → taskOk i x = false) := fun h => by unfold taskOk; rw [h]; rfl
  have HALL : Hid (x.2.2.1.length = x.2.2.2.length → taskHead x = true → (∀ k, k < x.2.2.1.length → befLag i x.2.2.1 x.2.2.2 k = true) → taskOk i x = true) := befLag_all
  have HNO : Hid (∀ k, k < x.2.2.1.length → x.2.2.1.length = x.2.2.2.length → befLag i x.2.2.1 x.2.2.2 k = false → taskOk i x = false) := fun k hk hl h => befLag_bad hk hl h
  have HH : Hid (taskHead x = (win x.1 0 100 && win x.2.1 0 20 && decide (x.2.2.1.length = x.2.2.2.length))) := rfl
  obtain ⟨x0, hx0⟩ : ∃ x0, x.1 = x0 := ⟨_, rfl⟩
  obtain ⟨x1, hx1⟩ : ∃ x1, x.2.1 = x1 := ⟨_, rfl⟩
  obtain ⟨bs, hbs⟩ : ∃ bs, x.2.2.1 = bs := ⟨_, rfl⟩
  obtain ⟨ls, hls⟩ : ∃ ls, x.2.2.2 = ls := ⟨_, rfl⟩
  obtain ⟨ok, hok⟩ : ∃ ok, taskOk (i : Int) x = ok := ⟨_, rfl⟩
  rw [hx0] at e0 HH
  rw [hx1] at e1 HH
  rw [hbs] at h1 HH HALL HNO
  rw [hls] at h2 HH HALL HNO
  rw [hok] at HBAD HALL HNO ⊢
  obtain ⟨hm1, b1, b2, rfl, hcap1, hc1⟩ := h1
  obtain ⟨hm2, l1, l2, rfl, hcap2, hc2⟩ := h2
  unfold maxLen at hm1 hm2
  have HC1 := Lib.hid hc1
  have HC2 := Lib.hid hc2
  have k0 : (0 : Int) ≤ (i : Int) := by omega
  have hsub : IntKind.i64.wrap ((i : Int) - 1) = (i : Int) - 1 := IntWalk.i64_in _ (by omega)
  clear hc1 hc2 hx0 hx1 hbs hls hok
  cases z0 : win x0 0 100
  · have HF := Lib.hid (HBAD.out (by rw [HH.out, z0]; rfl))
    go_enter Try.func154, Try.ntmps154
    go_wp2
    go_quiet ((first | (go_at_call 58; exact quiet_eq (l00In_any _ _ _ _))))
    go_wp2
    go_ret
    exact ⟨ret_bool HF.out.symm, _, rfl⟩
  · cases z1 : win x1 0 20
    · have HF := Lib.hid (HBAD.out (by rw [HH.out, z0, z1]; rfl))
      go_enter Try.func154, Try.ntmps154
      go_wp2
      go_quiet ((first | (go_at_call 58; exact quiet_eq (l00In_any _ _ _ _))))
      go_wp2
      go_ret
      exact ⟨ret_bool HF.out.symm, _, rfl⟩
    · by_cases z2 : bs.length = ls.length
      · have hne : ((ls.length : Int) != (bs.length : Int)) = false := by simp; omega
        have HTH : Hid (taskHead x = true) := by show _ = _; rw [HH.out, z0, z1]; simp [z2]
        have HZ2 := Lib.hid z2
        clear z2
        go_enter Try.func154, Try.ntmps154
        go_wp2
        go_quiet ((first | (go_at_call 58; exact quiet_eq (l00In_any _ _ _ _))))
        go_wp2
        go_loopw [38] (fun vk wk => ∃ k : Nat, k ≤ bs.length ∧ vk = .int .i64 k ∧ Hid (∀ j, j < k → befLag i bs ls j = true) ∧ Hid (∃ q, wk = w.drewN q)) (fun vk _ => bs.length - (intOf vk).toNat)
        case atStart => exact ⟨0, Nat.zero_le _, rfl, fun j hj => by omega, _, rfl⟩
        case round =>
          obtain ⟨k, hk, rfl, hall, hq⟩ := hrel
          obtain ⟨wk, rfl⟩ : ∃ wk : World, wk = wr := ⟨_, rfl⟩
          have g2 : wk.cell? ⟨b, o + 2, none⟩ = some (.slice b1 bs.length b2) := by obtain ⟨q, rfl⟩ := hq.out; exact e2
          have g3 : wk.cell? ⟨b, o + 3, none⟩ = some (.slice l1 ls.length l2) := by obtain ⟨q, rfl⟩ := hq.out; exact e3
          have HCA : Hid (∀ j, j < bs.length → ∃ bb oo, b1 = some ⟨bb, oo, none⟩ ∧ wk.cell? ⟨bb, oo + j, none⟩ = some (.int .i64 (nth bs j))) := fun j hj => by
            obtain ⟨q, rfl⟩ := hq.out
            obtain ⟨bb, oo, q1, _, q3⟩ := HC1.out j hj
            exact ⟨bb, oo, q1, by rw [nth_eq hj]; exact q3⟩
          have HCB : Hid (∀ j, j < ls.length → ∃ bb oo, l1 = some ⟨bb, oo, none⟩ ∧ wk.cell? ⟨bb, oo + j, none⟩ = some (.int .i64 (nth ls j))) := fun j hj => by
            obtain ⟨q, rfl⟩ := hq.out
            obtain ⟨bb, oo, q1, _, q3⟩ := HC2.out j hj
            exact ⟨bb, oo, q1, by rw [nth_eq hj]; exact q3⟩
          have HWQ : Hid (∀ q, ∃ q', wk.drewN q = w.drewN q') := fun q => by obtain ⟨q0, rfl⟩ := hq.out; exact ⟨q0 + q, by simp⟩
          clear e0 e1 e2 e3 hq
          by_cases hkl : k < bs.length
          · obtain ⟨bb, oo, rfl, f0⟩ := HCA.out k hkl
            obtain ⟨lb, lo, rfl, f1⟩ := HCB.out k (by rw [← HZ2.out]; exact hkl)
            have HBL : Hid (befLag i bs ls k = ((win (nth bs k) 0 ((i : Int) - 1) && (k == 0 || decide (nth bs (k - 1) < nth bs k))) && win (nth ls k) (-100) 100)) := rfl
            have HNK := Lib.hid (HNO.out k hkl HZ2.out)
            obtain ⟨p, hp⟩ : ∃ p, nth bs k = p := ⟨_, rfl⟩
            obtain ⟨lg, hlg⟩ : ∃ lg, nth ls k = lg := ⟨_, rfl⟩
            rw [hp] at f0 HBL
            rw [hlg] at f1 HBL
            have q0 : (0 : Int) ≤ (k : Int) := by omega
            have q1 : (k : Int) < (bs.length : Int) := by omega
            have q2 : (k : Int) < (ls.length : Int) := by have := HZ2.out; omega
            clear hp hlg
            cases u0 : win p 0 ((i : Int) - 1)
            · have HF := Lib.hid (HNK.out (by rw [HBL.out, u0]; rfl))
              go_wp2
              go_quiet ((first | (go_at_call 58; exact quiet_eq (l00In_any _ _ _ _))))
              go_wp2
              go_ret
              exact ⟨ret_bool HF.out.symm, HWQ.out _⟩
            · by_cases hk0 : k = 0
              · have HBL2 : Hid (befLag i bs ls k = win lg (-100) 100) := by show _ = _; rw [HBL.out, u0, hk0]; rfl
                have hd : decide ((0 : Int) < (k : Int)) = false := by simp; omega
                have hdN : decide (0 < k) = false := by simp; omega
                clear hk0
                cases u1 : win lg (-100) 100
                · have HF := Lib.hid (HNK.out (by rw [HBL2.out, u1]))
                  go_wp2
                  go_quiet ((first | (go_at_call 58; exact quiet_eq (l00In_any _ _ _ _))))
                  go_wp2
                  go_ret
                  exact ⟨ret_bool HF.out.symm, HWQ.out _⟩
                · have HY : Hid (befLag i bs ls k = true) := by show _ = _; rw [HBL2.out, u1]
                  go_wp2
                  go_quiet ((first | (go_at_call 58; exact quiet_eq (l00In_any _ _ _ _))))
                  go_wp2
                  go_roundw
                  case rel =>
                    refine ⟨k + 1, by omega, by go_num, fun j hj => ?_, HWQ.out _⟩
                    rcases Nat.lt_succ_iff_lt_or_eq.1 hj with h | rfl
                    · exact hall.out j h
                    · exact HY.out
                  case measure => simp [intOf]; omega
              · obtain ⟨k', rfl⟩ : ∃ k', k = k' + 1 := ⟨k - 1, by omega⟩
                obtain ⟨bb2, oo2, hb2, f2⟩ := HCA.out k' (by omega)
                obtain ⟨rfl, rfl⟩ : bb = bb2 ∧ oo = oo2 := by simpa using hb2
                rw [show k' + 1 - 1 = k' from rfl] at HBL
                obtain ⟨r, hr⟩ : ∃ r, nth bs k' = r := ⟨_, rfl⟩
                rw [hr] at f2 HBL
                have hk1 : ((k' + 1 == 0) : Bool) = false := rfl
                rw [hk1, Bool.false_or, u0, Bool.true_and] at HBL
                have hd : decide ((0 : Int) < ((k' + 1 : Nat) : Int)) = true := by simp
                have hkp : (0 : Int) < ((k' + 1 : Nat) : Int) := by omega
                have hkm : ((k' + 1 : Nat) : Int) - 1 = (k' : Int) := by omega
                have hkw : IntKind.i64.wrap (((k' + 1 : Nat) : Int) - 1) = (k' : Int) := by rw [hkm]; exact IntWalk.i64_in _ (by omega)
                have q3 : (0 : Int) ≤ (k' : Int) := by omega
                have q4 : (k' : Int) < (bs.length : Int) := by omega
                clear hb2 hr hk1 hk0 hkm
                by_cases hpr : r < p
                · have hle : decide (p ≤ r) = false := by simp; omega
                  have HBL2 : Hid (befLag i bs ls (k' + 1) = win lg (-100) 100) := by show _ = _; rw [HBL.out]; simp [hpr]
                  cases u1 : win lg (-100) 100
                  · have HF := Lib.hid (HNK.out (by rw [HBL2.out, u1]))
                    go_wp2
                    go_quiet ((first | (go_at_call 58; exact quiet_eq (l00In_any _ _ _ _))))
                    go_wp2
                    go_ret
                    exact ⟨ret_bool HF.out.symm, HWQ.out _⟩
                  · have HY : Hid (befLag i bs ls (k' + 1) = true) := by show _ = _; rw [HBL2.out, u1]
                    go_wp2
                    go_quiet ((first | (go_at_call 58; exact quiet_eq (l00In_any _ _ _ _))))
                    go_wp2
                    go_roundw
                    case rel =>
                      refine ⟨k' + 1 + 1, by omega, by go_num, fun j hj => ?_, HWQ.out _⟩
                      rcases Nat.lt_succ_iff_lt_or_eq.1 hj with h | rfl
                      · exact hall.out j h
                      · exact HY.out
                    case measure => simp [intOf]; omega
                · have hle : decide (p ≤ r) = true := by simp; omega
                  have HF := Lib.hid (HNK.out (by rw [HBL.out]; simp [hpr]))
                  go_wp2
                  go_quiet ((first | (go_at_call 58; exact quiet_eq (l00In_any _ _ _ _))))
                  go_wp2
                  go_ret
                  exact ⟨ret_bool HF.out.symm, HWQ.out _⟩
          · obtain rfl : k = bs.length := by omega
            have HF : Hid (ok = true) := HALL.out HZ2.out HTH.out hall.out
            clear hall hkl
            go_wp2
            go_ret
            exact ⟨ret_bool HF.out.symm, HWQ.out 0⟩
      · have hne : ((ls.length : Int) != (bs.length : Int)) = true := by simp; omega
        have HF := Lib.hid (HBAD.out (by rw [HH.out, z0, z1]; simp [z2]))
        clear z2
        go_enter Try.func154, Try.ntmps154
        go_wp2
        go_quiet ((first | (go_at_call 58; exact quiet_eq (l00In_any _ _ _ _))))
        go_wp2
        go_ret
        exact ⟨ret_bool HF.out.symm, _, rfl⟩
end Go.Proofs.Ytcjeededlhdcbaa

namespace Go.Proofs.Ytcjeededlhdcbaa
open Go.RowKit
set_option linter.unusedVariables false
set_option linter.unusedSimpArgs false

def runs (ts : List Tk) (st : List Int) (t : Int) (i : Nat) : Prop := nth st i ≤ t ∧ t < nth st i + timeN ts i
instance (ts : List Tk) (st : List Int) (t : Int) (i : Nat) : Decidable (runs ts st t i) := by unfold runs; infer_instance
/-- What the first i tasks need at time t. -/
def useN (ts : List Tk) (st : List Int) (t : Int) : Nat → Int
  | 0 => 0
  | i + 1 => useN ts st t i + (if runs ts st t i then needN ts i else 0)
theorem useN_bounds {ts : List Tk} {st : List Int} {t : Int} (ht : SmTs ts) : ∀ i, i ≤ ts.length → 0 ≤ useN ts st t i ∧ useN ts st t i ≤ 20 * (i : Int)
  | 0, _ => ⟨Int.le_refl _, by show (0 : Int) ≤ _; omega⟩
  | i + 1, h => by
    obtain ⟨h1, h2⟩ := useN_bounds (st := st) (t := t) ht i (by omega)
    have := ht.need i (by omega)
    unfold useN
    split <;> omega
/-- The row while task i is being entered, up to time at. -/
def useM (ts : List Tk) (st : List Int) (E i : Nat) (at_ : Int) : List Int := (List.range E).map fun (t : Nat) => useN ts st t i + (if nth st i ≤ t ∧ (t : Int) < at_ then needN ts i else 0)
def useL (ts : List Tk) (st : List Int) (E i : Nat) : List Int := (List.range E).map fun (t : Nat) => useN ts st t i
theorem useL_len (ts : List Tk) (st : List Int) (E i : Nat) : (useL ts st E i).length = E := by simp [useL]
theorem useM_len (ts : List Tk) (st : List Int) (E i : Nat) (a : Int) : (useM ts st E i a).length = E := by simp [useM]
theorem useL_nth {ts : List Tk} {st : List Int} {E i t : Nat} (h : t < E) : nth (useL ts st E i) t = useN ts st t i := by rw [nth_eq (by rw [useL_len]; exact h)]; simp [useL]
theorem useM_nth {ts : List Tk} {st : List Int} {E i t : Nat} {a : Int} (h : t < E) : nth (useM ts st E i a) t = useN ts st t i + (if nth st i ≤ t ∧ (t : Int) < a then needN ts i else 0) := by rw [nth_eq (by rw [useM_len]; exact h)]; simp [useM]
theorem list_nth {a b : List Int} (hl : a.length = b.length) (h : ∀ k, k < a.length → nth a k = nth b k) : a = b := by
  apply List.ext_getElem hl
  intro k h1 h2
  have := h k h1
  rwa [nth_eq h1, nth_eq h2] at this
theorem useL_zero (ts : List Tk) (st : List Int) (E : Nat) : useL ts st E 0 = List.replicate E 0 := by
  refine list_nth (by rw [useL_len]; simp) fun k hk => ?_
  rw [useL_len] at hk
  rw [useL_nth hk, nth_eq (by simpa using hk)]; simp [useN]
theorem useM_start (ts : List Tk) (st : List Int) (E i : Nat) : useM ts st E i (nth st i) = useL ts st E i := by
  refine list_nth (by rw [useL_len, useM_len]) fun k hk => ?_
  rw [useM_len] at hk
  rw [useL_nth hk, useM_nth hk, if_neg (by omega)]; omega
theorem useM_end {ts : List Tk} {st : List Int} {E i : Nat} {a : Int} (h : a = nth st i + timeN ts i) : useM ts st E i a = useL ts st E (i + 1) := by
  subst h
  refine list_nth (by rw [useL_len, useM_len]) fun k hk => ?_
  rw [useM_len] at hk
  rw [useL_nth hk, useM_nth hk]; rfl
theorem useM_step {ts : List Tk} {st : List Int} {E i t : Nat} (hs : nth st i ≤ t) (ht : t < E) : (useM ts st E i t).set t (nth (useM ts st E i t) t + needN ts i) = useM ts st E i ((t : Int) + 1) := by
  refine list_nth (by rw [List.length_set, useM_len, useM_len]) fun k hk => ?_
  rw [List.length_set, useM_len] at hk
  rw [nth_set1 _ (by rw [useM_len]; exact ht), useM_nth hk, useM_nth hk, useM_nth ht]
  by_cases e : t = k
  · subst e
    rw [if_pos rfl, if_neg (by omega), if_pos (by omega)]; omega
  · rw [if_neg e]
    by_cases h2 : nth st i ≤ k ∧ (k : Int) < t
    · rw [if_pos h2, if_pos (by omega)]
    · rw [if_neg h2, if_neg (by omega)]
theorem end_ge {ts : List Tk} {st : List Int} : ∀ n i, i < n → nth st i + timeN ts i ≤ endTo ts st n
  | 0, i, h => absurd h (Nat.not_lt_zero _)
  | n + 1, i, h => by
    unfold endTo
    by_cases e : i = n
    · subst e; exact Int.le_max_right _ _
    · exact Int.le_trans (end_ge n i (by omega)) (Int.le_max_left _ _)

theorem tkN_at {ts : List Tk} {i : Nat} : tkN ts i = tkAt ts i := rfl
/-- Rising numbers from 0 on are at least as great as their places. -/
theorem rising_ge {bs : List Int} {n : Nat} (h : ∀ k, k < n → 0 ≤ nth bs k ∧ (0 < k → nth bs (k - 1) < nth bs k)) : ∀ k, k < n → (k : Int) ≤ nth bs k
  | 0, hk => (h 0 hk).1
  | k + 1, hk => by
    have h1 := rising_ge h k (by omega)
    have h2 := (h (k + 1) hk).2 (by omega)
    rw [show k + 1 - 1 = k by omega] at h2
    omega
theorem tasks_sm {ts : List Tk} (h : tasksOk ts = true) : SmTs ts := by
  unfold tasksOk at h
  rw [Bool.and_eq_true, Bool.and_eq_true, List.all_eq_true] at h
  obtain ⟨⟨h1, h2⟩, h3⟩ := h
  have h2 : 1 ≤ ts.length := by simpa using h2
  have h3 : ts.length ≤ 16 := by simpa using h3
  have hx : ∀ i, i < ts.length → (0 ≤ timeN ts i ∧ timeN ts i ≤ 100) ∧ (0 ≤ needN ts i ∧ needN ts i ≤ 20) ∧ (befN ts i).length = (lagN ts i).length ∧ (∀ k, k < (lagN ts i).length → -100 ≤ nth (lagN ts i) k ∧ nth (lagN ts i) k ≤ 100) ∧ ∀ k, k < (befN ts i).length → (0 ≤ nth (befN ts i) k ∧ nth (befN ts i) k ≤ (i : Int) - 1) ∧ (0 < k → nth (befN ts i) (k - 1) < nth (befN ts i) k) := fun i hi => by
    have ha := h1 i (List.mem_range.2 hi)
    unfold taskOk taskHead at ha
    rw [Bool.and_eq_true, Bool.and_eq_true, Bool.and_eq_true, Bool.and_eq_true] at ha
    obtain ⟨⟨⟨⟨a1, a2⟩, a3⟩, a4⟩, a5⟩ := ha
    refine ⟨win_true.1 a1, win_true.1 a2, of_decide_eq_true a3, fun k hk => ?_, fun k hk => ?_⟩
    · unfold lagsOk at a4
      rw [List.all_eq_true] at a4
      have := a4 _ (List.getElem_mem hk)
      rw [← nth_eq hk] at this
      exact win_true.1 this
    · unfold befTo at a5
      rw [List.all_eq_true] at a5
      have := a5 k (List.mem_range.2 hk)
      unfold befAt at this
      rw [Bool.and_eq_true, Bool.or_eq_true] at this
      refine ⟨win_true.1 this.1, fun hk0 => ?_⟩
      rcases this.2 with h | h
      · exact absurd (by simpa using h) (by omega : ¬ k = 0)
      · exact of_decide_eq_true h
  refine ⟨h2, h3, fun i hi => (hx i hi).1, fun i hi => (hx i hi).2.1, fun i hi => (hx i hi).2.2.1.symm, fun i hi => ?_, fun i hi k hk => ?_, fun i hi k hk => (hx i hi).2.2.2.1 k (by have := (hx i hi).2.2.1; omega)⟩
  · have h5 := (hx i hi).2.2.2.2
    rcases Nat.eq_zero_or_pos (befN ts i).length with h0 | h0
    · omega
    · have := rising_ge (bs := befN ts i) (n := (befN ts i).length) (fun k hk => ⟨(h5 k hk).1.1, (h5 k hk).2⟩) ((befN ts i).length - 1) (by omega)
      have := (h5 ((befN ts i).length - 1) (by omega)).1.2
      omega
  · have := ((hx i hi).2.2.2.2 k hk).1; omega
def usesOk (ts : List Tk) (st : List Int) : Bool := tasksOk ts && many st ts.length ts.length 0 100000 && decide (endTo ts st ts.length ≤ 400)
def planHd (ts : List Tk) (st : List Int) (crew : Int) : Bool := usesOk ts st && win crew 0 20
def planOk (ts : List Tk) (st : List Int) (crew : Int) : Bool :=
  planHd ts st crew && (List.range ts.length).all (fun i => decide (leastN ts st i ≤ nth st i)) && (List.range (endTo ts st ts.length).toNat).all (fun t => decide (useN ts st t ts.length ≤ crew))
theorem uses_sm {ts : List Tk} {st : List Int} (h1 : tasksOk ts = true) (h2 : many st ts.length ts.length 0 100000 = true) : SmTs ts ∧ SmSt st ts.length ∧ ∀ k, k < ts.length → 0 ≤ nth st k := by
  obtain ⟨m1, m2, m3⟩ := many_true.1 h2
  have hl : st.length = ts.length := by omega
  have hb : ∀ k, k < ts.length → 0 ≤ nth st k ∧ nth st k ≤ 100000 := fun k hk => by
    rw [List.all_eq_true] at m3
    have := m3 _ (List.getElem_mem (show k < st.length by omega))
    rw [← nth_eq] at this
    exact win_true.1 this
  exact ⟨tasks_sm h1, ⟨hl, fun k hk => by have := hb k hk; omega⟩, fun k hk => (hb k hk).1⟩
end Go.Proofs.Ytcjeededlhdcbaa

namespace Go.Proofs.Ytcjeededlhdcbaa
open Go.RowKit
set_option linter.unusedVariables false
set_option linter.unusedSimpArgs false

/-- From s on, for that long, there is room. -/
def freeW (u : Nat → Int) (crew need time s : Int) : Prop := ∀ k : Nat, s ≤ k → (k : Int) < s + time → u k + need ≤ crew
/-- No start from a to s has room. -/
def noneW (u : Nat → Int) (crew need time a s : Int) : Prop := ∀ s', a ≤ s' → s' < s → ∃ k : Nat, s' ≤ k ∧ (k : Int) < s' + time ∧ crew < u k + need
/-- s is the least start from a on. -/
structure Fit (u : Nat → Int) (crew need time a s : Int) : Prop where
  le : a ≤ s
  free : freeW u crew need time s
  none_ : noneW u crew need time a s
theorem Fit.unique {u : Nat → Int} {crew need time a s t : Int} (h : Fit u crew need time a s) (k : Fit u crew need time a t) : s = t := by
  rcases Int.lt_trichotomy s t with h1 | h1 | h1
  · obtain ⟨q, q1, q2, q3⟩ := k.none_ s h.le h1
    have := h.free q q1 q2; omega
  · exact h1
  · obtain ⟨q, q1, q2, q3⟩ := h.none_ t k.le h1
    have := k.free q q1 q2; omega
theorem Fit.congr {u v : Nat → Int} {crew need time a s : Int} (h : Fit u crew need time a s) (he : ∀ k, u k = v k) : Fit v crew need time a s :=
  ⟨h.le, fun k h1 h2 => by rw [← he]; exact h.free k h1 h2, fun s' h1 h2 => by obtain ⟨k, a1, a2, a3⟩ := h.none_ s' h1 h2; exact ⟨k, a1, a2, by rw [← he]; exact a3⟩⟩
theorem noneW.start (u : Nat → Int) (crew need time a : Int) : noneW u crew need time a a := fun s' h1 h2 => by omega
/-- A busy time: all starts up to it are gone. -/
theorem noneW.jump {u : Nat → Int} {crew need time a s : Int} {b : Nat} (h : noneW u crew need time a s) (h1 : s ≤ b) (h2 : (b : Int) < s + time) (hb : crew < u b + need) : noneW u crew need time a ((b : Int) + 1) := fun s' q1 q2 => by
  by_cases hs : s' < s
  · exact h s' q1 hs
  · exact ⟨b, by omega, by omega, hb⟩
/-- The last busy time from a to k, -1 for none. -/
def LastB (u : Nat → Int) (crew need a k b : Int) : Prop :=
  (b = -1 ∧ ∀ q : Nat, a ≤ q → (q : Int) < k → u q + need ≤ crew) ∨ (a ≤ b ∧ b < k ∧ crew < u b.toNat + need)
theorem LastB.start (u : Nat → Int) (crew need a : Int) : LastB u crew need a a (-1) := .inl ⟨rfl, fun q h1 h2 => by omega⟩
theorem LastB.next {u : Nat → Int} {crew need a b : Int} {k : Nat} (h : LastB u crew need a k b) (hk : a ≤ k) (h0 : 0 ≤ a) : LastB u crew need a ((k : Int) + 1) (if crew < u k + need then k else b) := by
  split
  · rename_i hc
    exact .inr ⟨hk, by omega, by simpa using hc⟩
  · rename_i hc
    rcases h with ⟨h1, h2⟩ | ⟨h1, h2, h3⟩
    · refine .inl ⟨h1, fun q q1 q2 => ?_⟩
      by_cases e : q = k
      · subst e; omega
      · exact h2 q q1 (by omega)
    · exact .inr ⟨h1, by omega, h3⟩
theorem nth_over {U : List Int} {k : Nat} (h : U.length ≤ k) : nth U k = 0 := by
  unfold nth; rw [List.getD_eq_getElem?_getD, List.getElem?_eq_none h]; rfl
theorem nth_zeros {U : List Int} {k : Nat} : nth (U ++ [0]) k = nth U k := by
  by_cases h : k < U.length
  · unfold nth; rw [List.getD_eq_getElem?_getD, List.getD_eq_getElem?_getD, List.getElem?_append_left h]
  · rw [nth_over (U := U) (by omega)]
    by_cases e : k = U.length
    · subst e; unfold nth; rw [List.getD_eq_getElem?_getD, List.getElem?_append_right (Nat.le_refl _)]; simp
    · exact nth_over (by simp; omega)
/-- All that is kept but block b: what lies below N. -/
structure Frm (b N : Nat) (A W : World) : Prop where
  os : W.os = A.os
  tape : W.tape = A.tape
  output : W.output = A.output
  size : A.heap.size ≤ W.heap.size
  block : ∀ i, i < N → i ≠ b → W.heap[i]? = A.heap[i]?
theorem Frm.refl (b N : Nat) (A : World) : Frm b N A A := ⟨rfl, rfl, rfl, Nat.le_refl _, fun _ _ _ => rfl⟩
theorem Frm.trans {b N : Nat} {A B C : World} (h : Frm b N A B) (k : Frm b N B C) : Frm b N A C := ⟨k.os.trans h.os, k.tape.trans h.tape, k.output.trans h.output, Nat.le_trans h.size k.size, fun i h1 h2 => (k.block i h1 h2).trans (h.block i h1 h2)⟩
theorem Frm.grown {b N : Nat} {A W W' : World} {row : Option Nat} (h : Frm b N A W) (hg : W.grownBy W' row) (hr : ∀ j, row = some j → N ≤ j) (hN : N ≤ W.heap.size) : Frm b N A W' :=
  ⟨hg.os.trans h.os, hg.tape.trans h.tape, hg.output.trans h.output, Nat.le_trans h.size hg.size, fun i h1 h2 => (hg.block i (by omega) (fun e => by have := hr i e.symm; omega)).trans (h.block i h1 h2)⟩
theorem Frm.setB {b N o : Nat} {A W : World} (h : Frm b N A W) (v : Value) : Frm b N A (W.setCell ⟨b, o, none⟩ v) :=
  ⟨h.os, h.tape, h.output, by rw [World.size_setCell]; exact h.size, fun i h1 h2 => (Below.heap_setCell _ _ _ _ h2).trans (h.block i h1 h2)⟩
theorem Frm.drewN {b N : Nat} {A W : World} (h : Frm b N A W) (q : Nat) : Frm b N A (W.drewN q) := ⟨h.os, h.tape, h.output, h.size, h.block⟩
theorem Frm.alloc {b N : Nat} {A W : World} (h : Frm b N A W) (hN : N ≤ W.heap.size) (o : Obj) : Frm b N A (W.alloc o) :=
  ⟨h.os, h.tape, h.output, by simp; have := h.size; omega, fun i h1 h2 => (Below.heap_alloc _ _ _ (by omega)).trans (h.block i h1 h2)⟩
end Go.Proofs.Ytcjeededlhdcbaa

namespace Go.Proofs.Ytcjeededlhdcbaa
open Go.RowKit
set_option linter.unusedVariables false
set_option linter.unusedSimpArgs false

/-- Two stores into a row of the call's own. -/
theorem OwnI.swap {w : World} {N g n c : Nat} {d : List Int} (h : OwnI w N (.slice (some ⟨g, 0, none⟩) n c) d) (hn : n = d.length) (i j : Nat) (hi : i < d.length) (hj : j < d.length) :
    OwnI ((w.setCell ⟨g, i, none⟩ (.int .i64 (nth d j))).setCell ⟨g, j, none⟩ (.int .i64 (nth d i))) N (.slice (some ⟨g, 0, none⟩) n c) (swp2 d i j) ∧ w.grownBy ((w.setCell ⟨g, i, none⟩ (.int .i64 (nth d j))).setCell ⟨g, j, none⟩ (.int .i64 (nth d i))) (some g) := by
  obtain ⟨_, _, o1, g1⟩ := h.store hn i hi (nth d j)
  obtain ⟨_, _, o2, g2⟩ := o1.store (by rw [List.length_set]; exact hn) j (by rw [List.length_set]; exact hj) (nth d i)
  exact ⟨o2, grownBy_trans g1 g2⟩
theorem grownBy_drew (W : World) (row : Option Nat) : W.grownBy W.drew row := ⟨rfl, rfl, rfl, Nat.le_refl _, fun k hk _ => rfl⟩
theorem OwnI.drewG {w : World} {N g n c : Nat} {d : List Int} (h : OwnI w N (.slice (some ⟨g, 0, none⟩) n c) d) : OwnI w.drew N (.slice (some ⟨g, 0, none⟩) n c) d := h.drewN 1

set_option maxRecDepth 100000 in
set_option maxHeartbeats 2000000 in
theorem swapRange_any (g n c x y m N : Nat) (D : List Int) (f : Value) (w : World) (ho : OwnI w N (.slice (some ⟨g, 0, none⟩) n c) D) (hn : n = D.length) (hxy : x + m ≤ y) (hy : y + m ≤ n) (hsz : n ≤ 1048576) :
    Calls Try.prog 175 #[.slice (some ⟨g, 0, none⟩) n c, .int .i64 x, .int .i64 y, .int .i64 m, f] w fun e w' => e = .returned (.tuple #[]) ∧ ∃ E, OwnI w' N (.slice (some ⟨g, 0, none⟩) n c) E ∧ Swapped D E x y m ∧ SegSame D E x (y + m) ∧ w.grownBy w' (some g) := by
  have HO := Lib.hid ho
  have HN := Lib.hid hn
  clear ho hn
  go_enter Try.func175, Try.ntmps175
  go_wp2
  go_loopw [10] (fun vk wr => ∃ (k : Nat) (E : List Int), k ≤ m ∧ vk = .int .i64 k ∧ Hid (OwnI wr N (.slice (some ⟨g, 0, none⟩) n c) E) ∧ Hid (Swapped D E x y k ∧ SegSame D E x (y + m) ∧ E.length = n) ∧ Hid (w.grownBy wr (some g))) (fun vk _ => m - (intOf vk).toNat)
  case atStart => exact ⟨0, D, Nat.zero_le _, rfl, HO.out, ⟨Swapped.zero _ _ _, SegSame.refl _ _ _, HN.out.symm⟩, grownBy_refl _ _⟩
  case round =>
    obtain ⟨k, E, hk, rfl, HE, HS, HG⟩ := hrel
    by_cases hkm : k < m
    · obtain ⟨p, hp⟩ : ∃ p, x + k = p := ⟨_, rfl⟩
      obtain ⟨q, hq⟩ : ∃ q, y + k = q := ⟨_, rfl⟩
      have hpi : (x : Int) + (k : Int) = (p : Int) := by omega
      have hqi : (y : Int) + (k : Int) = (q : Int) := by omega
      have hpn : p < n := by omega
      have hqn : q < n := by omega
      have hpw : IntKind.i64.wrap (p : Int) = (p : Int) := IntWalk.i64_in _ (by omega)
      have hqw : IntKind.i64.wrap (q : Int) = (q : Int) := IntWalk.i64_in _ (by omega)
      have hp0 : (0 : Int) ≤ (p : Int) := by omega
      have hq0 : (0 : Int) ≤ (q : Int) := by omega
      have hp1 : (p : Int) < (n : Int) := by omega
      have hq1 : (q : Int) < (n : Int) := by omega
      have cp := HE.out.at_ HS.out.2.2.symm p (by rw [HS.out.2.2]; exact hpn)
      have cq := HE.out.at_ HS.out.2.2.symm q (by rw [HS.out.2.2]; exact hqn)
      have fp := (HE.out.store HS.out.2.2.symm p (by rw [HS.out.2.2]; exact hpn) 0).2.1
      have fq := (HE.out.store HS.out.2.2.symm q (by rw [HS.out.2.2]; exact hqn) 0).2.1
      have HSW := Lib.hid (HE.out.swap HS.out.2.2.symm p q (by rw [HS.out.2.2]; exact hpn) (by rw [HS.out.2.2]; exact hqn))
      have HS2 : Hid (Swapped D (swp2 E p q) x y (k + 1) ∧ SegSame D (swp2 E p q) x (y + m) ∧ (swp2 E p q).length = n) := by
        obtain ⟨h1, h2, h3⟩ := HS.out
        refine ⟨?_, h2.trans (SegSame.swap (by omega) (by omega) (by omega) (by omega) (by omega)), by rw [swp2_len, h3]⟩
        have := h1.step hkm hxy (by rw [← HN.out]; exact hy)
        rwa [hp, hq] at this
      have hpq : ¬ p = q := by omega
      have hqp : ¬ q = p := by omega
      have k1 : (k : Int) < (m : Int) := by omega
      clear hp hq HE HS
      go_wp2
      go_region
      go_wp2
      go_roundw
      case rel => exact ⟨k + 1, swp2 E p q, by omega, by go_num, HSW.out.1.drewN 1, HS2.out, grownBy_trans HG.out (grownBy_trans HSW.out.2 (grownBy_drew _ _))⟩
      case measure => simp [intOf]; omega
    · have hkm2 : k = m := by omega
      have HFIN : Hid (∃ E, OwnI wr N (.slice (some ⟨g, 0, none⟩) n c) E ∧ Swapped D E x y m ∧ SegSame D E x (y + m) ∧ w.grownBy wr (some g)) := by
        have h := HS.out.1
        rw [hkm2] at h
        exact ⟨E, HE.out, h, HS.out.2.1, HG.out⟩
      clear HE HS HG hkm2
      go_wp2
      go_end0
      exact ⟨rfl, HFIN.out⟩

set_option maxRecDepth 100000 in
set_option maxHeartbeats 2000000 in
theorem rotate_any (g n c a m b N : Nat) (D : List Int) (f : Value) (w : World) (ho : OwnI w N (.slice (some ⟨g, 0, none⟩) n c) D) (hn : n = D.length) (ham : a < m) (hmb : m < b) (hb : b ≤ n) (hsz : n ≤ 1048576) :
    Calls Try.prog 174 #[.slice (some ⟨g, 0, none⟩) n c, .int .i64 a, .int .i64 m, .int .i64 b, f] w fun e w' => e = .returned (.tuple #[]) ∧ ∃ E, OwnI w' N (.slice (some ⟨g, 0, none⟩) n c) E ∧ Rotated D E a m b ∧ SegSame D E a b ∧ w.grownBy w' (some g) := by
  have HSW : Hid (∀ (x y q : Nat) (E : List Int) W, OwnI W N (.slice (some ⟨g, 0, none⟩) n c) E → n = E.length → x + q ≤ y → y + q ≤ n → Calls Try.prog 175 #[.slice (some ⟨g, 0, none⟩) n c, .int .i64 x, .int .i64 y, .int .i64 q, f] W fun e w' => e = .returned (.tuple #[]) ∧ ∃ F, OwnI w' N (.slice (some ⟨g, 0, none⟩) n c) F ∧ Swapped E F x y q ∧ SegSame E F x (y + q) ∧ W.grownBy w' (some g)) := fun x y q E W h1 h2 h3 h4 => swapRange_any g n c x y q N E f W h1 h2 h3 h4 hsz
  have HO := Lib.hid ho
  have HN := Lib.hid hn
  have hma : (m : Int) - (a : Int) = ((m - a : Nat) : Int) := by omega
  have hbm : (b : Int) - (m : Int) = ((b - m : Nat) : Int) := by omega
  obtain ⟨i0, hi0⟩ : ∃ i, m - a = i := ⟨_, rfl⟩
  obtain ⟨j0, hj0⟩ : ∃ j, b - m = j := ⟨_, rfl⟩
  rw [hi0] at hma
  rw [hj0] at hbm
  have H0 : Hid (m - i0 = a ∧ m + j0 = b ∧ 1 ≤ i0 ∧ 1 ≤ j0) := by show _ ∧ _; omega
  have hi1 : i0 ≤ 1048576 := by omega
  have hj1 : j0 ≤ 1048576 := by omega
  have hm1 : m ≤ 1048576 := by omega
  clear ho hn hi0 hj0
  go_enter Try.func174, Try.ntmps174
  go_wp2
  go_loopw [10, 11] (fun vi vj wr => ∃ (i j : Nat) (E : List Int), vi = .int .i64 i ∧ vj = .int .i64 j ∧ 1 ≤ i ∧ 1 ≤ j ∧ i ≤ m ∧ i ≤ 1048576 ∧ j ≤ 1048576 ∧ Hid (a ≤ m - i ∧ m + j ≤ b) ∧ Hid (OwnI wr N (.slice (some ⟨g, 0, none⟩) n c) E) ∧ Hid (SegSame D E a b ∧ E.length = n ∧ ∀ F, Rotated E F (m - i) m (m + j) → Rotated D F a m b) ∧ Hid (w.grownBy wr (some g))) (fun vi vj _ => (intOf vi).toNat + (intOf vj).toNat)
  case atStart => exact ⟨i0, j0, D, rfl, rfl, H0.out.2.2.1, H0.out.2.2.2, by omega, hi1, hj1, by have := H0.out; show _ ∧ _; omega, HO.out, ⟨SegSame.refl _ _ _, HN.out.symm, fun F hF => by rw [H0.out.1, H0.out.2.1] at hF; exact hF⟩, grownBy_refl _ _⟩
  case round =>
    obtain ⟨i, j, E, rfl, rfl, i1, j1, him, i2, j2, HAB, HE, HS, HG⟩ := hrel
    clear H0 hma hbm
    have hab := HAB.out
    have hmi : (m : Int) - (i : Int) = ((m - i : Nat) : Int) := by omega
    obtain ⟨s, hs⟩ : ∃ s, m - i = s := ⟨_, rfl⟩
    rw [hs] at hmi
    rcases Nat.lt_trichotomy i j with h | h | h
    · -- i < j
      have b0 : ((i : Int) != (j : Int)) = true := by simp; omega
      have b1 : ¬ (i : Int) > (j : Int) := by omega
      have hmj : (m : Int) + (j : Int) - (i : Int) = ((m + j - i : Nat) : Int) := by omega
      have hji : (j : Int) - (i : Int) = ((j - i : Nat) : Int) := by omega
      have HC := Lib.hid (HSW.out s (m + j - i) i E wr HE.out HS.out.2.1.symm (by omega) (by omega))
      have HST : Hid (∀ F G, Swapped E F s (m + j - i) i → Rotated F G s m (m + (j - i)) → Rotated E G s m (m + j)) := fun F G h1 h2 => by
        rw [← hs] at h1 h2 ⊢
        exact rot_lt h1 h him h2
      obtain ⟨t, ht⟩ : ∃ t, m + j - i = t := ⟨_, rfl⟩
      obtain ⟨u, hu⟩ : ∃ u, j - i = u := ⟨_, rfl⟩
      rw [ht] at hmj HC HST
      rw [hu] at hji HST
      have HU : Hid (1 ≤ u ∧ u ≤ 1048576 ∧ u < j ∧ m + u ≤ b ∧ t + i ≤ b ∧ a ≤ s) := by show _ ∧ _; omega
      have HSS := Lib.hid hs
      clear hs ht hu h
      go_wp2_with fail
      refine HC.out.mono ?_
      rintro e W1 ⟨rfl, F, hf, hsw, hss, hg⟩
      have HF := Lib.hid (And.intro hf (And.intro hsw (And.intro hss hg)))
      clear hf hsw hss hg HC
      go_wp2
      go_roundw
      case rel =>
        obtain ⟨hf, hsw, hss, hg⟩ := HF.out
        obtain ⟨u1, u2, u3, u4, u5, u6⟩ := HU.out
        refine ⟨i, u, F, rfl, by go_num, i1, u1, him, i2, u2, ?_, hf, ⟨HS.out.1.trans (hss.wide u6 u5), hss.len.trans HS.out.2.1, fun G hG => ?_⟩, grownBy_trans HG.out hg⟩
        · show _ ∧ _; rw [HSS.out]; exact ⟨u6, u4⟩
        · rw [HSS.out] at hG
          have := HST.out F G hsw hG
          exact HS.out.2.2 G (by rw [HSS.out]; exact this)
      case measure => have := HU.out; simp [intOf]; omega
    · -- i = j: the last exchange
      subst h
      have b0 : ((i : Int) != (i : Int)) = false := by simp
      have HC := Lib.hid (HSW.out s m i E wr HE.out HS.out.2.1.symm (by omega) (by omega))
      have HST : Hid (∀ F, Swapped E F s m i → Rotated E F s m (m + i)) := fun F h1 => by
        rw [← hs] at h1 ⊢
        exact rot_eq h1 him
      have HU : Hid (m + i ≤ b ∧ a ≤ s) := by show _ ∧ _; omega
      have HSS := Lib.hid hs
      clear hs
      go_wp2_with fail
      refine HC.out.mono ?_
      rintro e W1 ⟨rfl, F, hf, hsw, hss, hg⟩
      have HF := Lib.hid (And.intro hf (And.intro hsw (And.intro hss hg)))
      clear hf hsw hss hg HC
      go_wp2
      obtain ⟨hf, hsw, hss, hg⟩ := HF.out
      go_end0
      exact ⟨rfl, F, hf, HS.out.2.2 F (by rw [HSS.out]; exact HST.out F hsw), HS.out.1.trans (hss.wide HU.out.2 HU.out.1), grownBy_trans HG.out hg⟩
    · -- i > j
      have b0 : ((i : Int) != (j : Int)) = true := by simp; omega
      have b1 : (i : Int) > (j : Int) := by omega
      have hij : (i : Int) - (j : Int) = ((i - j : Nat) : Int) := by omega
      have HC := Lib.hid (HSW.out s m j E wr HE.out HS.out.2.1.symm (by omega) (by omega))
      have HST : Hid (∀ F G, Swapped E F s m j → Rotated F G (m - (i - j)) m (m + j) → Rotated E G s m (m + j)) := fun F G h1 h2 => by
        rw [← hs] at h1 ⊢
        exact rot_gt h1 h him h2
      obtain ⟨u, hu⟩ : ∃ u, i - j = u := ⟨_, rfl⟩
      rw [hu] at hij HST
      have HU : Hid (1 ≤ u ∧ u ≤ 1048576 ∧ u < i ∧ u ≤ m ∧ a ≤ m - u ∧ m + j ≤ b ∧ a ≤ s) := by show _ ∧ _; omega
      have HSS := Lib.hid hs
      clear hs hu h
      go_wp2_with fail
      refine HC.out.mono ?_
      rintro e W1 ⟨rfl, F, hf, hsw, hss, hg⟩
      have HF := Lib.hid (And.intro hf (And.intro hsw (And.intro hss hg)))
      clear hf hsw hss hg HC
      go_wp2
      go_roundw
      case rel =>
        obtain ⟨hf, hsw, hss, hg⟩ := HF.out
        obtain ⟨u1, u2, u3, u4, u5, u6, u7⟩ := HU.out
        refine ⟨u, j, F, by go_num, rfl, u1, j1, u4, u2, j2, ⟨u5, u6⟩, hf, ⟨HS.out.1.trans (hss.wide u7 u6), hss.len.trans HS.out.2.1, fun G hG => ?_⟩, grownBy_trans HG.out hg⟩
        have := HST.out F G hsw hG
        exact HS.out.2.2 G (by rw [HSS.out]; exact this)
      case measure => have := HU.out; simp [intOf]; omega
end Go.Proofs.Ytcjeededlhdcbaa
