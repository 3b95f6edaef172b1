
/- Stored plans, whatever their size. Conditions: none. -/
import Derived.Test.YtmhepomjbaendaaLoad
import Derived.Test.YtmhepomjbaendaaStoreAll
namespace Go.Proofs.Ytmhepomjbaendaa
open Go.RowKit Go.Shelf Go.BigFrame
set_option linter.unusedVariables false
set_option linter.unusedSimpArgs false
attribute [local go_sem] Oper.semAt_some

theorem before_len {s : ByteArray} {ts : List Tk} {st : List Int} (h : savedOk (s, ts, st) = true) : ∀ x ∈ ts, x.2.2.1.length ≤ 1048576 := fun x hx => by
  obtain ⟨k, hk, rfl⟩ := List.mem_iff_getElem.1 hx
  have := saved_tkB h k hk
  obtain ⟨_, _, _, _, h5, _⟩ := this
  exact Nat.le_trans h5 (by decide)
set_option maxRecDepth 100000 in
set_option maxHeartbeats 1000000 in
theorem implStore_v (s : ByteArray) (vt vs : Value) (ts : List Tk) (st : List Int) (w : World) (hsz : s.size ≤ maxLen) (ht : TasksR w vt ts) (hs : Ints w vs st) :
    Calls Try.prog 22 #[savedV s vt vs] w fun e w' => e = .returned (.tuple #[.string (storeR (s, ts, st)), .bool (savedOk (s, ts, st))]) ∧ Below w.heap.size w w' := by
  cases hok : savedOk (s, ts, st)
  · have HVS : Hid (∀ W, Below w.heap.size w W → Calls Try.prog 29 #[savedV s vt vs] W fun e w' => e = .returned (.bool false) ∧ Below W.heap.size W w') := fun W hW => by
      have := validSaved_any s vt vs ts st W hsz (ht.below hW (Nat.le_refl _)) (hs.below hW (Nat.le_refl _)); rwa [hok] at this
    have HR := Lib.hid (storeR_no hok)
    obtain ⟨t1, t2, rfl⟩ : ∃ t1 t2, vt = .slice t1 ts.length t2 := by obtain ⟨_, t1, t2, h, _⟩ := ht; exact ⟨t1, t2, h⟩
    obtain ⟨s1, s2, rfl⟩ : ∃ t1 t2, vs = .slice t1 st.length t2 := by obtain ⟨_, t1, t2, h, _⟩ := hs; exact ⟨t1, t2, h⟩
    have hB0 : Below w.heap.size w (w.alloc (.cells #[.string s, .slice t1 ts.length t2, .slice s1 st.length s2] 44)) := (Below.refl _ w).alloc (Nat.le_refl _) _
    have HV := Lib.hid (HVS.out _ hB0)
    have HB0 := Lib.hid hB0
    unfold savedV at HV ⊢
    clear ht hs hok HVS hB0
    go_enter Try.func22, Try.ntmps22
    go_wp2_with (go_at_call 29; refine HV.out.mono ?_; rintro e w' ⟨rfl, hb⟩; have HB := Lib.hid hb; clear hb)
    go_ret2
    exact ⟨by rw [HR.out]; rfl, HB0.out.trans (HB.out.mono HB0.out.size)⟩
  · rw [storeR_yes hok]
    exact implStore_yes s vt vs ts st w hsz ht hs hok (before_len hok)

set_option maxRecDepth 100000 in
set_option maxHeartbeats 4000000 in
theorem l03Task_big (i : Nat) (b o : Nat) (x : Tk) (vb vl : Value) (w : World) (hi : i ≤ 9223372036854775806) (e0 : w.cell? ⟨b, o, none⟩ = some (.int .i64 x.1)) (e1 : w.cell? ⟨b, o + 1, none⟩ = some (.int .i64 x.2.1)) (e2 : w.cell? ⟨b, o + 2, none⟩ = some vb) (e3 : w.cell? ⟨b, o + 3, none⟩ = some vl) (h1 : Ints w vb x.2.2.1) (h2 : Ints w vl x.2.2.2) :
    Calls Try.prog 135 #[.pointer (some ⟨b, o, none⟩), .int .i64 i] w fun e w' => e = .returned (.bool (taskOk i x)) ∧ ∃ q, w' = w.drewN q := by
  have HBAD : Hid (taskHead x = false → taskOk i x = false) := fun h => by unfold taskOk; rw [h]; rfl
  have HALL : Hid (x.2.2.1.length = x.2.2.2.length → taskHead x = true → (∀ k, k < x.2.2.1.length → befLag i x.2.2.1 x.2.2.2 k = true) → taskOk i x = true) := befLag_all
  have HNO : Hid (∀ k, k < x.2.2.1.length → x.2.2.1.length = x.2.2.2.length → befLag i x.2.2.1 x.2.2.2 k = false → taskOk i x = false) := fun k hk hl h => befLag_bad hk hl h
  have HH : Hid (taskHead x = (win x.1 0 100 && win x.2.1 0 20 && decide (x.2.2.1.length = x.2.2.2.length))) := rfl
  obtain ⟨x0, hx0⟩ : ∃ x0, x.1 = x0 := ⟨_, rfl⟩
  obtain ⟨x1, hx1⟩ : ∃ x1, x.2.1 = x1 := ⟨_, rfl⟩
  obtain ⟨bs, hbs⟩ : ∃ bs, x.2.2.1 = bs := ⟨_, rfl⟩
  obtain ⟨ls, hls⟩ : ∃ ls, x.2.2.2 = ls := ⟨_, rfl⟩
  obtain ⟨ok, hok⟩ : ∃ ok, taskOk (i : Int) x = ok := ⟨_, rfl⟩
  rw [hx0] at e0 HH
  rw [hx1] at e1 HH
  rw [hbs] at h1 HH HALL HNO
  rw [hls] at h2 HH HALL HNO
  rw [hok] at HBAD HALL HNO ⊢
  obtain ⟨hm1, b1, b2, rfl, hcap1, hc1⟩ := h1
  obtain ⟨hm2, l1, l2, rfl, hcap2, hc2⟩ := h2
  unfold maxLen at hm1 hm2
  have HC1 := Lib.hid hc1
  have HC2 := Lib.hid hc2
  have k0 : (0 : Int) ≤ (i : Int) := by omega
  have hsub : IntKind.i64.wrap ((i : Int) - 1) = (i : Int) - 1 := IntWalk.i64_in _ (by omega)
  clear hc1 hc2 hx0 hx1 hbs hls hok
  cases z0 : win x0 0 100
  · have HF := Lib.hid (HBAD.out (by rw [HH.out, z0]; rfl))
    go_enter Try.func135, Try.ntmps135
    go_wp2
    go_quiet ((first | (go_at_call 68; exact quiet_eq (l00In_any _ _ _ _))))
    go_wp2
    go_ret
    exact ⟨ret_bool HF.out.symm, _, rfl⟩
  · cases z1 : win x1 0 20
    · have HF := Lib.hid (HBAD.out (by rw [HH.out, z0, z1]; rfl))
      go_enter Try.func135, Try.ntmps135
      go_wp2
      go_quiet ((first | (go_at_call 68; exact quiet_eq (l00In_any _ _ _ _))))
      go_wp2
      go_ret
      exact ⟨ret_bool HF.out.symm, _, rfl⟩
    · by_cases z2 : bs.length = ls.length
      · have hne : ((ls.length : Int) != (bs.length : Int)) = false := by simp; omega
        have HTH : Hid (taskHead x = true) := by show _ = _; rw [HH.out, z0, z1]; simp [z2]
        have HZ2 := Lib.hid z2
        clear z2
        go_enter Try.func135, Try.ntmps135
        go_wp2
        go_quiet ((first | (go_at_call 68; exact quiet_eq (l00In_any _ _ _ _))))
        go_wp2
        go_loopw [38] (fun vk wk => ∃ k : Nat, k ≤ bs.length ∧ vk = .int .i64 k ∧ Hid (∀ j, j < k → befLag i bs ls j = true) ∧ Hid (∃ q, wk = w.drewN q)) (fun vk _ => bs.length - (intOf vk).toNat)
        case atStart => exact ⟨0, Nat.zero_le _, rfl, fun j hj => by omega, _, rfl⟩
        case round =>
          obtain ⟨k, hk, rfl, hall, hq⟩ := hrel
          obtain ⟨wk, rfl⟩ : ∃ wk : World, wk = wr := ⟨_, rfl⟩
          have g2 : wk.cell? ⟨b, o + 2, none⟩ = some (.slice b1 bs.length b2) := by obtain ⟨q, rfl⟩ := hq.out; exact e2
          have g3 : wk.cell? ⟨b, o + 3, none⟩ = some (.slice l1 ls.length l2) := by obtain ⟨q, rfl⟩ := hq.out; exact e3
          have HCA : Hid (∀ j, j < bs.length → ∃ bb oo, b1 = some ⟨bb, oo, none⟩ ∧ wk.cell? ⟨bb, oo + j, none⟩ = some (.int .i64 (nth bs j))) := fun j hj => by
            obtain ⟨q, rfl⟩ := hq.out
            obtain ⟨bb, oo, q1, _, q3⟩ := HC1.out j hj
            exact ⟨bb, oo, q1, by rw [nth_eq hj]; exact q3⟩
          have HCB : Hid (∀ j, j < ls.length → ∃ bb oo, l1 = some ⟨bb, oo, none⟩ ∧ wk.cell? ⟨bb, oo + j, none⟩ = some (.int .i64 (nth ls j))) := fun j hj => by
            obtain ⟨q, rfl⟩ := hq.out
            obtain ⟨bb, oo, q1, _, q3⟩ := HC2.out j hj
            exact ⟨bb, oo, q1, by rw [nth_eq hj]; exact q3⟩
          have HWQ : Hid (∀ q, ∃ q', wk.drewN q = w.drewN q') := fun q => by obtain ⟨q0, rfl⟩ := hq.out; exact ⟨q0 + q, by simp⟩
          clear e0 e1 e2 e3 hq
          by_cases hkl : k < bs.length
          · obtain ⟨bb, oo, rfl, f0⟩ := HCA.out k hkl
            obtain ⟨lb, lo, rfl, f1⟩ := HCB.out k (by rw [← HZ2.out]; exact hkl)
            have HBL : Hid (befLag i bs ls k = ((win (nth bs k) 0 ((i : Int) - 1) && (k == 0 || decide (nth bs (k - 1) < nth bs k))) && win (nth ls k) (-100) 100)) := rfl
            have HNK := Lib.hid (HNO.out k hkl HZ2.out)
            obtain ⟨p, hp⟩ : ∃ p, nth bs k = p := ⟨_, rfl⟩
            obtain ⟨lg, hlg⟩ : ∃ lg, nth ls k = lg := ⟨_, rfl⟩
            rw [hp] at f0 HBL
            rw [hlg] at f1 HBL
            have q0 : (0 : Int) ≤ (k : Int) := by omega
            have q1 : (k : Int) < (bs.length : Int) := by omega
            have q2 : (k : Int) < (ls.length : Int) := by have := HZ2.out; omega
            clear hp hlg
            cases u0 : win p 0 ((i : Int) - 1)
            · have HF := Lib.hid (HNK.out (by rw [HBL.out, u0]; rfl))
              go_wp2
              go_quiet ((first | (go_at_call 68; exact quiet_eq (l00In_any _ _ _ _))))
              go_wp2
              go_ret
              exact ⟨ret_bool HF.out.symm, HWQ.out _⟩
            · by_cases hk0 : k = 0
              · have HBL2 : Hid (befLag i bs ls k = win lg (-100) 100) := by show _ = _; rw [HBL.out, u0, hk0]; rfl
                have hd : decide ((0 : Int) < (k : Int)) = false := by simp; omega
                have hdN : decide (0 < k) = false := by simp; omega
                clear hk0
                cases u1 : win lg (-100) 100
                · have HF := Lib.hid (HNK.out (by rw [HBL2.out, u1]))
                  go_wp2
                  go_quiet ((first | (go_at_call 68; exact quiet_eq (l00In_any _ _ _ _))))
                  go_wp2
                  go_ret
                  exact ⟨ret_bool HF.out.symm, HWQ.out _⟩
                · have HY : Hid (befLag i bs ls k = true) := by show _ = _; rw [HBL2.out, u1]
                  go_wp2
                  go_quiet ((first | (go_at_call 68; exact quiet_eq (l00In_any _ _ _ _))))
                  go_wp2
                  go_roundw
                  case rel =>
                    refine ⟨k + 1, by omega, by go_num, fun j hj => ?_, HWQ.out _⟩
                    rcases Nat.lt_succ_iff_lt_or_eq.1 hj with h | rfl
                    · exact hall.out j h
                    · exact HY.out
                  case measure => simp [intOf]; omega
              · obtain ⟨k', rfl⟩ : ∃ k', k = k' + 1 := ⟨k - 1, by omega⟩
                obtain ⟨bb2, oo2, hb2, f2⟩ := HCA.out k' (by omega)
                obtain ⟨rfl, rfl⟩ : bb = bb2 ∧ oo = oo2 := by simpa using hb2
                rw [show k' + 1 - 1 = k' from rfl] at HBL
                obtain ⟨r, hr⟩ : ∃ r, nth bs k' = r := ⟨_, rfl⟩
                rw [hr] at f2 HBL
                have hk1 : ((k' + 1 == 0) : Bool) = false := rfl
                rw [hk1, Bool.false_or, u0, Bool.true_and] at HBL
                have hd : decide ((0 : Int) < ((k' + 1 : Nat) : Int)) = true := by simp
                have hkp : (0 : Int) < ((k' + 1 : Nat) : Int) := by omega
                have hkm : ((k' + 1 : Nat) : Int) - 1 = (k' : Int) := by omega
                have hkw : IntKind.i64.wrap (((k' + 1 : Nat) : Int) - 1) = (k' : Int) := by rw [hkm]; exact IntWalk.i64_in _ (by omega)
                have q3 : (0 : Int) ≤ (k' : Int) := by omega
                have q4 : (k' : Int) < (bs.length : Int) := by omega
                clear hb2 hr hk1 hk0 hkm
                by_cases hpr : r < p
                · have hle : decide (p ≤ r) = false := by simp; omega
                  have HBL2 : Hid (befLag i bs ls (k' + 1) = win lg (-100) 100) := by show _ = _; rw [HBL.out]; simp [hpr]
                  cases u1 : win lg (-100) 100
                  · have HF := Lib.hid (HNK.out (by rw [HBL2.out, u1]))
                    go_wp2
                    go_quiet ((first | (go_at_call 68; exact quiet_eq (l00In_any _ _ _ _))))
                    go_wp2
                    go_ret
                    exact ⟨ret_bool HF.out.symm, HWQ.out _⟩
                  · have HY : Hid (befLag i bs ls (k' + 1) = true) := by show _ = _; rw [HBL2.out, u1]
                    go_wp2
                    go_quiet ((first | (go_at_call 68; exact quiet_eq (l00In_any _ _ _ _))))
                    go_wp2
                    go_roundw
                    case rel =>
                      refine ⟨k' + 1 + 1, by omega, by go_num, fun j hj => ?_, HWQ.out _⟩
                      rcases Nat.lt_succ_iff_lt_or_eq.1 hj with h | rfl
                      · exact hall.out j h
                      · exact HY.out
                    case measure => simp [intOf]; omega
                · have hle : decide (p ≤ r) = true := by simp; omega
                  have HF := Lib.hid (HNK.out (by rw [HBL.out]; simp [hpr]))
                  go_wp2
                  go_quiet ((first | (go_at_call 68; exact quiet_eq (l00In_any _ _ _ _))))
                  go_wp2
                  go_ret
                  exact ⟨ret_bool HF.out.symm, HWQ.out _⟩
          · obtain rfl : k = bs.length := by omega
            have HF : Hid (ok = true) := HALL.out HZ2.out HTH.out hall.out
            clear hall hkl
            go_wp2
            go_ret
            exact ⟨ret_bool HF.out.symm, HWQ.out 0⟩
      · have hne : ((ls.length : Int) != (bs.length : Int)) = true := by simp; omega
        have HF := Lib.hid (HBAD.out (by rw [HH.out, z0, z1]; simp [z2]))
        clear z2
        go_enter Try.func135, Try.ntmps135
        go_wp2
        go_quiet ((first | (go_at_call 68; exact quiet_eq (l00In_any _ _ _ _))))
        go_wp2
        go_ret
        exact ⟨ret_bool HF.out.symm, _, rfl⟩

set_option maxRecDepth 100000 in
set_option maxHeartbeats 1000000 in
theorem l03Are_big (v : Value) (xs : List Tk) (w : World) (hv : TasksR w v xs) : Calls Try.prog 118 #[v] w fun e w' => e = .returned (.bool (tasksOk xs)) ∧ ∃ q, w' = w.drewN q := by
  have HV := Lib.hid hv
  have hl := hv.1
  unfold maxLen at hl
  obtain ⟨a, c, rfl, hcap, _⟩ := hv.at_
  clear hv
  go_enter Try.func118, Try.ntmps118
  go_wp2
  go_loopw [6] (fun vi wr => ∃ i : Nat, i ≤ xs.length ∧ vi = .int .i64 i ∧ Hid (∃ q, wr = w.drewN q) ∧ Hid (∀ j (hj : j < xs.length), j < i → taskOk j xs[j] = true)) (fun vi _ => xs.length - (intOf vi).toNat)
  case atStart => exact ⟨0, Nat.zero_le _, rfl, ⟨0, rfl⟩, fun j hj h => by omega⟩
  case round =>
    obtain ⟨i, hi, rfl, hq, hok⟩ := hrel
    obtain ⟨wr', rfl⟩ : ∃ wr' : World, wr' = wr := ⟨_, rfl⟩
    by_cases hlt : i < xs.length
    · have hVr : TasksR wr' (.slice a xs.length c) xs := by obtain ⟨q, rfl⟩ := hq.out; exact HV.out.below (below_drewN q (Below.refl _ _)) (Nat.le_refl _)
      obtain ⟨a3, c3, hsl3, _, hc⟩ := hVr.at_
      obtain ⟨rfl, rfl⟩ : a = a3 ∧ c = c3 := by simpa using hsl3
      obtain ⟨b, o, vb, vl, rfl, hbs, h1, h2, y0, y1, e0, e1, e2, e3⟩ := hc i hlt
      have hcall := l03Task_big i b (o + i * 4) xs[i] vb vl wr' (by omega) e0 e1 e2 e3 h1.ints.1 h2.ints.1
      have HBAD : Hid (taskOk i xs[i] = false → tasksOk xs = false) := fun h => tasksOk_bad hlt h
      obtain ⟨ok, hokk⟩ : ∃ ok, taskOk (i : Int) xs[i] = ok := ⟨_, rfl⟩
      rw [hokk] at hcall HBAD
      have HC := Lib.hid hcall
      have HOKK := Lib.hid hokk
      have HWQ : Hid (∀ q, ∃ q', wr'.drewN q = w.drewN q') := fun q => by obtain ⟨q0, rfl⟩ := hq.out; exact ⟨q0 + q, by simp⟩
      have k0 : (0 : Int) ≤ (i : Int) := by omega
      have k1 : (i : Int) < (xs.length : Int) := by omega
      clear hcall hokk hc hsl3 h1 h2 y0 y1 e0 e1 e2 e3 hVr hq
      cases ok
      · have HF := Lib.hid (HBAD.out rfl)
        go_wp2_with (go_at_call 135; refine HC.out.mono ?_; rintro e w' ⟨rfl, q, rfl⟩)
        go_ret
        exact ⟨ret_bool HF.out.symm, HWQ.out _⟩
      · go_wp2_with (go_at_call 135; refine HC.out.mono ?_; rintro e w' ⟨rfl, q, rfl⟩)
        go_roundw
        case rel =>
          refine ⟨i + 1, by omega, by go_num, HWQ.out _, fun j hj h => ?_⟩
          rcases Nat.lt_succ_iff_lt_or_eq.1 h with h | rfl
          · exact hok.out j hj h
          · exact HOKK.out
        case measure => simp [intOf]; omega
    · have HE := Lib.hid (tasksOk_end (xs := xs) (fun j hj => hok.out j hj (by omega)))
      have HQ := Lib.hid hq.out
      clear hok hq
      by_cases h1 : 1 ≤ xs.length
      · by_cases h2 : xs.length ≤ 16
        · go_wp2
          go_ret
          exact ⟨ret_bool (by rw [HE.out]; simp [h1]; omega), HQ.out⟩
        · go_wp2
          go_ret
          exact ⟨ret_bool (by rw [HE.out]; simp [h1]; omega), HQ.out⟩
      · have hd : decide ((1 : Int) ≤ (xs.length : Int)) = false := by simp; omega
        go_wp2
        go_ret
        exact ⟨ret_bool (by rw [HE.out]; simp [h1]), HQ.out⟩


set_option maxRecDepth 100000 in
set_option maxHeartbeats 2000000 in
theorem l07Saved_big (b o : Nat) (s : ByteArray) (vt vs : Value) (ts : List Tk) (st : List Int) (w : World) (hsz : s.size ≤ maxLen) (ht : TasksR w vt ts) (hs : Ints w vs st)
    (e0 : w.cell? ⟨b, o, none⟩ = some (.string s)) (e1 : w.cell? ⟨b, o + 1, none⟩ = some vt) (e2 : w.cell? ⟨b, o + 2, none⟩ = some vs) :
    Calls Try.prog 71 #[.pointer (some ⟨b, o, none⟩)] w fun e w' => e = .returned (.bool (savedOk (s, ts, st))) ∧ ∃ q, w' = w.drewN q := by
  have H1 : Hid (∀ W, Calls Try.prog 117 #[.string s] W fun e w' => e = .returned (.bool (nameOk s)) ∧ W = w') := fun W => l07Name_any s W hsz
  have H2 : Hid (∀ n, Calls Try.prog 118 #[vt] (w.drewN n) fun e w' => e = .returned (.bool (tasksOk ts)) ∧ ∃ q, w' = (w.drewN n).drewN q) := fun n => l03Are_big vt ts _ (ht.below (below_drewN n (Below.refl _ _)) (Nat.le_refl _))
  have HX : Hid (savedOk (s, ts, st) = (nameOk s && tasksOk ts && startsOk ts st)) := rfl
  have hm := ht.1
  unfold maxLen at hm
  obtain ⟨_, t1, t2, rfl, _⟩ := ht
  obtain ⟨hm2, s1, s2, rfl, hcap, hc⟩ := hs
  have HC : Hid (∀ i, i < st.length → ∃ bb oo, s1 = some ⟨bb, oo, none⟩ ∧ w.cell? ⟨bb, oo + i, none⟩ = some (.int .i64 (nth st i))) := fun i hi => by
    obtain ⟨bb, oo, q1, q2, q3⟩ := hc i hi
    exact ⟨bb, oo, q1, by rw [q3, nth_eq hi]⟩
  unfold maxLen at hm2
  clear hsz hc
  cases z1 : nameOk s
  · have HF : Hid (savedOk (s, ts, st) = false) := by show _ = _; rw [HX.out, z1]; rfl
    go_enter Try.func71, Try.ntmps71
    go_wp2_with fail
    go_quiet ((first | (go_at_call 117; exact quiet_eq (H1.out _)) | (go_at_call 118; exact quiet_drew (H2.out _))))
    go_wp2
    go_ret
    exact ⟨ret_bool HF.out.symm, _, rfl⟩
  · cases z2 : tasksOk ts
    · have HF : Hid (savedOk (s, ts, st) = false) := by show _ = _; rw [HX.out, z1, z2]; rfl
      go_enter Try.func71, Try.ntmps71
      go_wp2_with fail
      go_quiet ((first | (go_at_call 117; exact quiet_eq (H1.out _)) | (go_at_call 118; exact quiet_drew (H2.out _))))
      go_wp2
      go_ret
      exact ⟨ret_bool HF.out.symm, _, rfl⟩
    · have HX2 : Hid (savedOk (s, ts, st) = startsOk ts st) := by show _ = _; rw [HX.out, z1, z2]; rfl
      by_cases hne : st.length = ts.length
      · have hnb : ((st.length : Int) != (ts.length : Int)) = false := by simp; omega
        have HBAD : Hid (∀ i, i < st.length → win (nth st i) 0 65535 = false → savedOk (s, ts, st) = false) := fun i hi hb => by rw [HX2.out]; exact startsOk_bad hne hi hb
        have HEND : Hid ((∀ i, i < st.length → win (nth st i) 0 65535 = true) → savedOk (s, ts, st) = true) := fun hb => by rw [HX2.out]; exact startsOk_end hne hb
        rw [z1] at H1
        rw [z2] at H2
        clear hne z1 z2
        go_enter Try.func71, Try.ntmps71
        go_wp2_with fail
        go_quiet ((first | (go_at_call 117; exact quiet_eq (H1.out _)) | (go_at_call 118; exact quiet_drew (H2.out _))))
        go_wp2
        go_loopw [36] (fun vi wr => ∃ i : Nat, i ≤ st.length ∧ vi = .int .i64 i ∧ Hid (∃ q, wr = w.drewN q) ∧ Hid (∀ j, j < i → win (nth st j) 0 65535 = true)) (fun vi _ => st.length - (intOf vi).toNat)
        case atStart => exact ⟨0, Nat.zero_le _, rfl, ⟨_, rfl⟩, fun j h => by omega⟩
        case round =>
          obtain ⟨i, hi, rfl, hq, hok⟩ := hrel
          by_cases hlt : i < st.length
          · obtain ⟨bb, oo, rfl, hcell⟩ := HC.out i hlt
            obtain ⟨q, rfl⟩ := hq.out
            have HBAD2 := Lib.hid (HBAD.out i hlt)
            obtain ⟨p, hp⟩ : ∃ p, nth st i = p := ⟨_, rfl⟩
            have HOK : Hid (win p 0 65535 = true → ∀ j, j < i + 1 → win (nth st j) 0 65535 = true) := fun h j hj => by
              rcases Nat.lt_succ_iff_lt_or_eq.1 hj with h1 | rfl
              · exact hok.out j h1
              · rw [hp]; exact h
            rw [hp] at hcell HBAD2
            have k0 : (0 : Int) ≤ (i : Int) := by omega
            have k1 : (i : Int) < (st.length : Int) := by omega
            clear hp hok
            cases z : win p 0 65535
            · have HF := Lib.hid (HBAD2.out z)
              go_wp2_with (go_at_call 68; refine (l00In_any _ _ _ _).mono ?_; rintro e w' ⟨rfl, rfl⟩)
              go_ret
              exact ⟨ret_bool HF.out.symm, _, rfl⟩
            · go_wp2_with (go_at_call 68; refine (l00In_any _ _ _ _).mono ?_; rintro e w' ⟨rfl, rfl⟩)
              go_roundw
              case rel => exact ⟨i + 1, by omega, by go_num, ⟨q, rfl⟩, HOK.out z⟩
              case measure => simp [intOf]; omega
          · obtain ⟨q, rfl⟩ := hq.out
            have HF := Lib.hid (HEND.out fun j hj => hok.out j (by omega))
            clear hok
            go_wp2
            go_ret
            exact ⟨ret_bool HF.out.symm, _, rfl⟩
      · have hnb : ((st.length : Int) != (ts.length : Int)) = true := by simp; omega
        have HF : Hid (savedOk (s, ts, st) = false) := by show _ = _; rw [HX2.out]; exact startsOk_len hne
        clear hne
        go_enter Try.func71, Try.ntmps71
        go_wp2_with fail
        go_quiet ((first | (go_at_call 117; exact quiet_eq (H1.out _)) | (go_at_call 118; exact quiet_drew (H2.out _))))
        go_wp2
        go_ret
        exact ⟨ret_bool HF.out.symm, _, rfl⟩


set_option maxRecDepth 100000 in
set_option maxHeartbeats 1000000 in
theorem specStore_v (s : ByteArray) (vt vs : Value) (ts : List Tk) (st : List Int) (w : World) (hsz : s.size ≤ maxLen) (ht : TasksR w vt ts) (hs : Ints w vs st) :
    Calls Try.prog 23 #[savedV s vt vs] w fun e w' => e = .returned (.tuple #[.string (storeR (s, ts, st)), .bool (savedOk (s, ts, st))]) ∧ Below w.heap.size w w' := by
  obtain ⟨t1, t2, rfl⟩ : ∃ t1 t2, vt = .slice t1 ts.length t2 := by obtain ⟨_, t1, t2, h, _⟩ := ht; exact ⟨t1, t2, h⟩
  obtain ⟨s1, s2, rfl⟩ : ∃ t1 t2, vs = .slice t1 st.length t2 := by obtain ⟨_, t1, t2, h, _⟩ := hs; exact ⟨t1, t2, h⟩
  have hB0 : Below w.heap.size w (w.alloc (.cells #[.string s, .slice t1 ts.length t2, .slice s1 st.length s2] 44)) := (Below.refl _ w).alloc (Nat.le_refl _) _
  have k1 : Blk (w.alloc (.cells #[.string s, .slice t1 ts.length t2, .slice s1 st.length s2] 44)) w.heap.size 44 [.string s, .slice t1 ts.length t2, .slice s1 st.length s2] := Blk.new w _ _
  have H := Lib.hid (l07Saved_big w.heap.size 0 s _ _ ts st _ hsz (ht.below hB0 (Nat.le_refl _)) (hs.below hB0 (Nat.le_refl _)) (k1.cell 0 _ rfl) (k1.cell 1 _ rfl) (k1.cell 2 _ rfl))
  have HB0 := Lib.hid hB0
  cases hok : savedOk (s, ts, st)
  · rw [hok] at H
    have HR := Lib.hid (storeR_no hok)
    unfold savedV
    clear hB0 k1 ht hs hsz hok
    go_enter Try.func23, Try.ntmps23
    go_wp2_with (go_at_call 71; refine H.out.mono ?_; rintro e w' ⟨rfl, q, rfl⟩)
    go_ret2
    exact ⟨by rw [HR.out]; rfl, below_drewN q HB0.out⟩
  · rw [hok] at H
    have HR := Lib.hid (storeR_yes hok)
    have hlt := k1.lt
    have hsm : ∀ x ∈ ts, x.2.2.1.length ≤ 1048576 := before_len hok
    have HST : Hid (∀ q, Calls Try.prog 72 #[.pointer (some ⟨w.heap.size, 0, none⟩)] ((w.alloc (.cells #[.string s, .slice t1 ts.length t2, .slice s1 st.length s2] 44)).drewN q) fun e w' => e = .returned (.string (storeS (s, ts, st))) ∧ Below w.heap.size w w') := fun q => by
      have hq : Below (w.alloc (.cells #[.string s, .slice t1 ts.length t2, .slice s1 st.length s2] 44)).heap.size _ ((w.alloc (.cells #[.string s, .slice t1 ts.length t2, .slice s1 st.length s2] 44)).drewN q) := below_drewN q (Below.refl _ _)
      have hB1 := hB0.trans (hq.mono hB0.size)
      have kq := k1.below hq hlt
      refine (l07Store_yes w.heap.size 0 s _ _ ts st _ (ht.below hB1 (Nat.le_refl _)) (hs.below hB1 (Nat.le_refl _)) hok hsm kq.lt (kq.cell 0 _ rfl) (kq.cell 1 _ rfl) (kq.cell 2 _ rfl)).mono ?_
      rintro e w' ⟨rfl, hb⟩
      exact ⟨rfl, hB1.trans (hb.mono hB1.size)⟩
    unfold savedV
    clear hB0 k1 ht hs hsz hok hlt hsm
    go_enter Try.func23, Try.ntmps23
    go_wp2_with (first
      | (go_at_call 71; refine H.out.mono ?_; rintro e w' ⟨rfl, q, rfl⟩)
      | (go_at_call 72; refine (HST.out q).mono ?_; rintro e w' ⟨rfl, hb⟩; have HB := Lib.hid hb; clear hb))
    go_ret2
    exact ⟨by rw [HR.out]; rfl, HB.out⟩

end Go.Proofs.Ytmhepomjbaendaa
