/- spec.l03Take: tasks taken in an order. Conditions: small numbers, an order with each task once behind all of its Before, no task needs more than the crew. With texts that it needs. -/
import Derived.Test.YtnpfninkopffmaaMendedAll11
import Derived.Test.YtnpfninkopffmaaMendedAll9
import Derived.Test.YtnpfninkopffmaaMendedAll13
import Derived.Test.YtnpfninkopffmaaMendedAll1
import Derived.Test.YtnpfninkopffmaaMendedAll12
import Derived.Deep.QuietTactic
import Derived.BigQuiet
namespace Go.Proofs.Ytnpfninkopffmaa
open Go.RowKit
set_option linter.unusedVariables false
set_option linter.unusedSimpArgs false

set_option maxRecDepth 100000 in
set_option maxHeartbeats 1000000 in
theorem specAre_any (v : Value) (xs : List Tk) (w : World) (hv : TasksR w v xs) (hxs : xs.length ≤ 1000000) : Calls Try.prog 116 #[v] w fun e w' => e = .returned (.bool (tasksOk xs)) ∧ ∃ q, w' = w.drewN q := by
  have HV := Lib.hid hv
  have hl := hv.1
  unfold maxLen at hl
  obtain ⟨a, c, rfl, hcap, _⟩ := hv.at_
  clear hv
  go_enter Try.func116, Try.ntmps116
  go_wp2
  go_loopw [6] (fun vi wr => ∃ i : Nat, i ≤ xs.length ∧ vi = .int .i64 i ∧ Hid (∃ q, wr = w.drewN q) ∧ Hid (∀ j (hj : j < xs.length), j < i → taskOk j xs[j] = true)) (fun vi _ => xs.length - (intOf vi).toNat)
  case atStart => exact ⟨0, Nat.zero_le _, rfl, ⟨0, rfl⟩, fun j hj h => by omega⟩
  case round =>
    obtain ⟨i, hi, rfl, hq, hok⟩ := hrel
    obtain ⟨wr', rfl⟩ : ∃ wr' : World, wr' = wr := ⟨_, rfl⟩
    by_cases hlt : i < xs.length
    · have hVr : TasksR wr' (.slice a xs.length c) xs := by obtain ⟨q, rfl⟩ := hq.out; exact HV.out.below (below_drewN q (Below.refl _ _)) (Nat.le_refl _)
      obtain ⟨a3, c3, hsl3, _, hc⟩ := hVr.at_
      obtain ⟨rfl, rfl⟩ : a = a3 ∧ c = c3 := by simpa using hsl3
      obtain ⟨b, o, vb, vl, rfl, hbs, h1, h2, y0, y1, e0, e1, e2, e3⟩ := hc i hlt
      have hcall := l03Task_any i b (o + i * 4) xs[i] vb vl wr' (by omega) e0 e1 e2 e3 h1.ints.1 h2.ints.1
      have HBAD : Hid (taskOk i xs[i] = false → tasksOk xs = false) := fun h => tasksOk_bad hlt h
      obtain ⟨ok, hokk⟩ : ∃ ok, taskOk (i : Int) xs[i] = ok := ⟨_, rfl⟩
      rw [hokk] at hcall HBAD
      have HC := Lib.hid hcall
      have HOKK := Lib.hid hokk
      have HWQ : Hid (∀ q, ∃ q', wr'.drewN q = w.drewN q') := fun q => by obtain ⟨q0, rfl⟩ := hq.out; exact ⟨q0 + q, by simp⟩
      have k0 : (0 : Int) ≤ (i : Int) := by omega
      have k1 : (i : Int) < (xs.length : Int) := by omega
      clear hcall hokk hc hsl3 h1 h2 y0 y1 e0 e1 e2 e3 hVr hq
      cases ok
      · have HF := Lib.hid (HBAD.out rfl)
        go_wp2_with (go_at_call 139; refine HC.out.mono ?_; rintro e w' ⟨rfl, q, rfl⟩)
        go_ret
        exact ⟨ret_bool HF.out.symm, HWQ.out _⟩
      · go_wp2_with (go_at_call 139; refine HC.out.mono ?_; rintro e w' ⟨rfl, q, rfl⟩)
        go_roundw
        case rel =>
          refine ⟨i + 1, by omega, by go_num, HWQ.out _, fun j hj h => ?_⟩
          rcases Nat.lt_succ_iff_lt_or_eq.1 h with h | rfl
          · exact hok.out j hj h
          · exact HOKK.out
        case measure => simp [intOf]; omega
    · have HE := Lib.hid (tasksOk_end (xs := xs) (fun j hj => hok.out j hj (by omega)))
      have HQ := Lib.hid hq.out
      clear hok hq
      by_cases h1 : 1 ≤ xs.length
      · by_cases h2 : xs.length ≤ 16
        · go_wp2
          go_ret
          exact ⟨ret_bool (by rw [HE.out]; simp [h1]; omega), HQ.out⟩
        · go_wp2
          go_ret
          exact ⟨ret_bool (by rw [HE.out]; simp [h1]; omega), HQ.out⟩
      · have hd : decide ((1 : Int) ≤ (xs.length : Int)) = false := by simp; omega
        go_wp2
        go_ret
        exact ⟨ret_bool (by rw [HE.out]; simp [h1]), HQ.out⟩


def SUseO (ts : List Tk) (st : List Int) (E T g N : Nat) (w : World) (vk : Value) (wr : World) : Prop :=
  ∃ (k : Nat), k ≤ T ∧ vk = .int .i64 k ∧ Hid (OwnI wr N (.slice (some ⟨g, 0, none⟩) E E) (useL ts st E k)) ∧ Hid (Below N w wr)
def SUseK (ts : List Tk) (st : List Int) (E g N k : Nat) (W1 : World) (va : Value) (wr : World) : Prop :=
  ∃ (a : Int), va = .int .i64 a ∧ nth st k ≤ a ∧ a ≤ nth st k + timeN ts k ∧ Hid (OwnI wr N (.slice (some ⟨g, 0, none⟩) E E) (useM ts st E k a)) ∧ Hid (GrownL [g] W1 wr)

set_option maxRecDepth 100000 in
set_option maxHeartbeats 4000000 in
theorem specUse_any (vt vs : Value) (ts : List Tk) (st : List Int) (E : Nat) (w : World) (ht : TasksR w vt ts) (hs : Ints w vs st) (hsm : SmTs ts) (hst : SmSt st ts.length) (hst0 : ∀ k, k < ts.length → 0 ≤ nth st k) (hE : endTo ts st ts.length = E) (hE4 : E ≤ 2000000) :
    Calls Try.prog 138 #[vt, vs] w fun e w' => (∃ g, e = .returned (.slice (some ⟨g, 0, none⟩) E E) ∧ OwnI w' w.heap.size (.slice (some ⟨g, 0, none⟩) E E) (useL ts st E ts.length)) ∧ Below w.heap.size w w' := by
  have HL := Lib.hid (specEnd_any vt vs ts st w ht hs hsm hst)
  rw [hE] at HL
  obtain ⟨b, o, c, AB, CB, AL, CL, rfl, hcap, hbw, hV⟩ := ht.view hsm.n1
  obtain ⟨aS, cS, rfl, scap, hS⟩ := hs.view
  have HV := Lib.hid hV
  have HS := Lib.hid hS
  have HSM := Lib.hid hsm
  have HST := Lib.hid hst
  have HS0 := Lib.hid hst0
  have HEN := Lib.hid hE
  obtain ⟨T, hT⟩ : ∃ T, ts.length = T := ⟨_, rfl⟩
  have HT : Hid (ts.length = T) := hT
  rw [hst.1, hT] at HL ⊢
  rw [hT] at hcap
  have hT16 : T ≤ 16 := by rw [← hT]; exact hsm.n16
  obtain ⟨i0, hi, hz0, hz1, hz2⟩ := info_parts info_i64
  have hEm : E ≤ maxLen := by unfold maxLen; omega
  clear ht hs hV hS hsm hst hst0 hT scap hE
  go_enter Try.func138, Try.ntmps138
  go_wp2_with fail
  refine HL.out.mono ?_
  rintro e W0 ⟨rfl, hb0⟩
  have HB0 := Lib.hid hb0
  clear hb0
  go_wp2_with (at_make; refine wpList_make_full _ rfl _ _ 29 rfl w.heap.size 2 i0 (.int .i64 0) 1 Try.underlying29 hi hz0 hz1 _ _ _ _ E rfl rfl rfl rfl (by rw [hz2]; omega) (by unfold maxLen at *; omega) HB0.out.size ?_; intro w2 hown2 hgrow2; have HA2 := Lib.hid (And.intro hown2 hgrow2); clear hown2 hgrow2)
  obtain ⟨g, hg⟩ : ∃ g, W0.heap.size = g := ⟨_, rfl⟩
  rw [hg] at HA2
  have HR0 : Hid (SUseO ts st E T g w.heap.size w (.int .i64 0) w2) := by
    obtain ⟨ho, hgw⟩ := HA2.out
    exact ⟨0, Nat.zero_le _, rfl, by show OwnI _ _ _ _; rw [useL_zero]; exact made_replicate ho, HB0.out.grown hgw HB0.out.size (fun k e => by cases e)⟩
  simp only [hg]
  have hgN : Hid (w.heap.size ≤ g) := by show _ ≤ _; rw [← hg]; exact HB0.out.size
  clear HA2 HB0 hi hz0 hz1 hz2 hg HL
  go_loopw [14] (fun vk wr => SUseO ts st E T g w.heap.size w vk wr) (fun vk _ => T - (intOf vk).toNat)
  case atStart => exact HR0.out
  case round =>
    obtain ⟨k, hk, rfl, HO, HB⟩ := hrel
    clear HR0
    by_cases hkT : k < T
    · have k1 : (k : Int) < (T : Int) := by omega
      have k0 : (0 : Int) ≤ (k : Int) := by omega
      have hC := HV.out wr HB.out k (by rw [HT.out]; exact hkT)
      have e0 := hC.time
      have e1 := hC.need
      have e2 := hC.bef
      have e3 := hC.lag
      have hts := HSM.out.time k (by rw [HT.out]; exact hkT)
      have hnd := HSM.out.need k (by rw [HT.out]; exact hkT)
      have hss := HS0.out k (by rw [HT.out]; exact hkT)
      have hse : nth st k + timeN ts k ≤ (E : Int) := by rw [← HEN.out]; exact end_ge _ k (by rw [HT.out]; exact hkT)
      obtain ⟨b3, o3, haS, cs'⟩ := HS.out wr HB.out k (by rw [HST.out.1, HT.out]; exact hkT)
      subst haS
      have HCS : Hid (∀ W, Below w.heap.size w W → W.cell? ⟨b3, o3 + k, none⟩ = some (.int .i64 (nth st k))) := fun W hW => by
        obtain ⟨b4, o4, hb4, c4⟩ := HS.out W hW k (by rw [HST.out.1, HT.out]; exact hkT)
        obtain ⟨rfl, rfl⟩ : b3 = b4 ∧ o3 = o4 := by simpa using hb4
        exact c4
      have HUB : Hid (∀ t, 0 ≤ useN ts st t k ∧ useN ts st t k ≤ 400) := fun t => by
        have h1 := useN_bounds (st := st) (t := t) HSM.out k (by rw [HT.out]; omega)
        omega
      obtain ⟨W1, hW1⟩ : ∃ W : World, W = wr := ⟨_, rfl⟩
      subst hW1
      have HK0 : Hid (SUseK ts st E g w.heap.size k W1 (.int .i64 (nth st k)) W1) := ⟨nth st k, rfl, Int.le_refl _, by omega, by show OwnI _ _ _ _; rw [useM_start]; exact HO.out, GrownL.refl _ _⟩
      have HBW1 : Hid (Below w.heap.size w W1) := HB.out
      clear hC HO HB
      have cs1 := HCS.out W1 HBW1.out
      go_wp2
      clear cs1 e0 e1 e2 e3 cs'
      go_loopw [7] (fun va wi => SUseK ts st E g w.heap.size k W1 va wi) (fun va _ => (nth st k + timeN ts k - intOf va).toNat)
      case atStart => exact HK0.out
      case round =>
        obtain ⟨a, rfl, ha1, ha2, HO, HG⟩ := hrel
        have HBi : Hid (Below w.heap.size w wr) := HG.out.toBelow HBW1.out HBW1.out.size (fun i hi => by have := hgN.out; simp; omega)
        have cs2 := HCS.out wr HBi.out
        have c0 := (HV.out wr HBi.out k (by rw [HT.out]; exact hkT)).time
        have c1 := (HV.out wr HBi.out k (by rw [HT.out]; exact hkT)).need
        have HK0' := HK0
        clear HK0 HK0'
        obtain ⟨s, hs⟩ : ∃ s, nth st k = s := ⟨_, rfl⟩
        obtain ⟨t, ht⟩ : ∃ t, timeN ts k = t := ⟨_, rfl⟩
        obtain ⟨nd, hnd'⟩ : ∃ nd, needN ts k = nd := ⟨_, rfl⟩
        have HV3 : Hid (nth st k = s ∧ timeN ts k = t ∧ needN ts k = nd) := ⟨hs, ht, hnd'⟩
        rw [hs] at ha1 ha2 hse hss cs2
        rw [ht] at ha2 hse hts
        rw [show (tkN ts k).1 = t from ht] at c0
        rw [hnd'] at hnd
        rw [show (tkN ts k).2.1 = nd from hnd'] at c1
        have w1 : IntKind.i64.wrap (s + t) = s + t := IntWalk.i64_in _ (by omega)
        clear hs ht hnd'
        by_cases hlt : a < s + t
        · obtain ⟨p, rfl⟩ : ∃ p : Nat, a = p := ⟨a.toNat, by omega⟩
          have hpE : p < E := by omega
          have cp := HO.out.at_ (useM_len _ _ _ _ _).symm p (by rw [useM_len]; exact hpE)
          have fp := (HO.out.store (useM_len _ _ _ _ _).symm p (by rw [useM_len]; exact hpE) (nth (useM ts st E k p) p + nd)).2.1
          have HST2 := Lib.hid (HO.out.store (useM_len _ _ _ _ _).symm p (by rw [useM_len]; exact hpE) (nth (useM ts st E k p) p + nd)).2.2
          have HMS : Hid ((useM ts st E k p).set p (nth (useM ts st E k p) p + nd) = useM ts st E k ((p : Int) + 1)) := by
            show _ = _
            rw [← HV3.out.2.2]; exact useM_step (by rw [HV3.out.1]; exact ha1) hpE
          have hub : 0 ≤ nth (useM ts st E k p) p ∧ nth (useM ts st E k p) p ≤ 420 := by
            rw [useM_nth hpE]
            have := HUB.out p
            rw [HV3.out.2.2]
            split <;> omega
          obtain ⟨u, hu⟩ : ∃ u, nth (useM ts st E k p) p = u := ⟨_, rfl⟩
          rw [hu] at cp HST2 HMS hub
          have w2 : IntKind.i64.wrap (u + nd) = u + nd := IntWalk.i64_in _ (by omega)
          have p0 : (0 : Int) ≤ (p : Int) := by omega
          have p1 : (p : Int) < (E : Int) := by omega
          clear hu
          go_wp2
          go_quiet (fail)
          go_wp2
          go_region
          go_wp2
          go_roundw
          case rel => exact ⟨(p : Int) + 1, by go_num, by rw [HV3.out.1]; omega, by rw [HV3.out.1, HV3.out.2.1]; omega, by show OwnI _ _ _ _; rw [← HMS.out]; exact HST2.out.1.drewN (nq + 1), (HG.out.rowU HST2.out.2).drewN (nq + 1)⟩
          case measure => rw [HV3.out.1, HV3.out.2.1]; simp [intOf]; omega
        · have HAE : Hid (a = nth st k + timeN ts k) := by show _ = _; rw [HV3.out.1, HV3.out.2.1]; omega
          have HOE : Hid (OwnI wr w.heap.size (.slice (some ⟨g, 0, none⟩) E E) (useL ts st E (k + 1))) := by
            have := HO.out; rw [useM_end HAE.out] at this; exact this
          clear HO HG
          go_wp2
          go_quiet (fail)
          go_wp2
          go_roundw
          case rel => exact ⟨k + 1, by omega, by go_num, HOE.out.drewN _, below_drewN _ HBi.out⟩
          case measure => simp [intOf]; omega
    · have k1 : ¬ (k : Int) < (T : Int) := by omega
      have HE : Hid (k = T) := by show _ = _; omega
      clear hkT
      go_wp2
      go_ret
      exact ⟨⟨g, rfl, by rw [← HE.out]; exact HO.out⟩, HB.out⟩


def StR (st : List Int) (T : Nat) (w : World) (vk : Value) (wr : World) : Prop :=
  ∃ k : Nat, k ≤ T ∧ vk = .int .i64 k ∧ Hid (∀ j, j < k → win (nth st j) 0 100000 = true) ∧ Hid (Below w.heap.size w wr)
set_option maxRecDepth 100000 in
set_option maxHeartbeats 2000000 in
theorem specStarts_any (vt vs : Value) (ts : List Tk) (st : List Int) (w : World) (ht : TasksR w vt ts) (hs : Ints w vs st) (hxs : ts.length ≤ 1000000) :
    Calls Try.prog 137 #[vt, vs] w fun e w' => e = .returned (.bool (tasksOk ts && many st ts.length ts.length 0 100000)) ∧ Below w.heap.size w w' := by
  have HT := Lib.hid (specAre_any vt ts w ht hxs)
  obtain ⟨R, hR⟩ : ∃ R, (tasksOk ts && many st ts.length ts.length 0 100000) = R := ⟨_, rfl⟩
  have HR : Hid ((tasksOk ts && many st ts.length ts.length 0 100000) = R) := hR
  rw [hR]
  have hm := hs.1
  unfold maxLen at hm
  obtain ⟨a, c, rfl, hcap, _⟩ := ht.at_
  obtain ⟨aS, cS, rfl, scap, hS⟩ := hs.view
  have HS := Lib.hid hS
  clear ht hs hS hR
  cases h1 : tasksOk ts
  · have hf : Hid (R = false) := by have := HR.out; rw [h1] at this; exact this.symm
    rw [h1] at HT
    go_enter Try.func137, Try.ntmps137
    go_wp2_with fail
    refine HT.out.mono ?_
    rintro e W1 ⟨rfl, q, rfl⟩
    go_wp2
    go_ret
    exact ⟨ret_bool hf.out.symm, below_drewN _ (Below.refl _ _)⟩
  · rw [h1] at HT
    by_cases hl : st.length = ts.length
    · have hb : ((st.length : Int) != (ts.length : Int)) = false := by simp [hl]
      have HL := Lib.hid hl
      have hl1 : st.length ≤ ts.length := by omega
      obtain ⟨T, hT⟩ : ∃ T, st.length = T := ⟨_, rfl⟩
      have HTT : Hid (st.length = T) := hT
      have HBAD : Hid (∀ k, k < T → win (nth st k) 0 100000 = false → R = false) := fun k hk h => by
        have : st.all (fun n => win n 0 100000) = false := List.all_eq_false.2 ⟨_, List.getElem_mem (show k < st.length by omega), by rw [← nth_eq, h]; exact Bool.false_ne_true⟩
        rw [← HR.out]; unfold many; rw [this]; simp
      have HALL : Hid ((∀ j, j < T → win (nth st j) 0 100000 = true) → R = true) := fun h => by
        have : st.all (fun n => win n 0 100000) = true := List.all_eq_true.2 fun x hx => by
          obtain ⟨i, hi, rfl⟩ := List.getElem_of_mem hx
          rw [← nth_eq]; exact h i (by omega)
        rw [← HR.out, h1]; unfold many; rw [this, decide_eq_true (show (ts.length : Int) ≤ (st.length : Int) by omega), decide_eq_true (show (st.length : Int) ≤ (ts.length : Int) by omega)]; rfl
      rw [hT] at hb scap ⊢
      have hT6 : T ≤ 1000000 := by omega
      clear hl hl1 hT hm
      go_enter Try.func137, Try.ntmps137
      go_wp2_with fail
      refine HT.out.mono ?_
      rintro e W1 ⟨rfl, q, rfl⟩
      go_wp2
      go_loopw [18] (fun vk wr => StR st T w vk wr) (fun vk _ => T - (intOf vk).toNat)
      case atStart => exact ⟨0, Nat.zero_le _, rfl, fun j hj => absurd hj (Nat.not_lt_zero _), below_drewN _ (Below.refl _ _)⟩
      case round =>
        obtain ⟨k, hk, rfl, HK, HW⟩ := hrel
        by_cases hkT : k < T
        · have k1 : (k : Int) < (T : Int) := by omega
          have k0 : (0 : Int) ≤ (k : Int) := by omega
          obtain ⟨b3, o3, haS, cs'⟩ := HS.out wr HW.out k (by rw [HTT.out]; exact hkT)
          subst haS
          obtain ⟨s, hs⟩ : ∃ s, nth st k = s := ⟨_, rfl⟩
          rw [hs] at cs'
          have HC := Lib.hid (l00In_any s 0 100000 wr)
          have HSS := Lib.hid hs
          clear hs
          cases hw : win s 0 100000
          · have HF := Lib.hid (HBAD.out k hkT (by rw [HSS.out]; exact hw))
            rw [hw] at HC
            go_wp2_with (go_at_call 54; refine HC.out.mono ?_; rintro e w' ⟨rfl, rfl⟩)
            go_ret
            exact ⟨ret_bool HF.out.symm, HW.out⟩
          · rw [hw] at HC
            have HN : Hid (∀ j, j < k + 1 → win (nth st j) 0 100000 = true) := fun j hj => by
              by_cases e : j = k
              · rw [e, HSS.out]; exact hw
              · exact HK.out j (by omega)
            go_wp2_with (go_at_call 54; refine HC.out.mono ?_; rintro e w' ⟨rfl, rfl⟩)
            go_roundw
            case rel => exact ⟨k + 1, by omega, by go_num, HN.out, HW.out⟩
            case measure => simp [intOf]; omega
        · have k1 : ¬ (k : Int) < (T : Int) := by omega
          have HF := Lib.hid (HALL.out fun j hj => HK.out j (by omega))
          clear HK
          go_wp2
          go_ret
          exact ⟨ret_bool HF.out.symm, HW.out⟩
    · have hb : ((st.length : Int) != (ts.length : Int)) = true := by simp; omega
      have hf : Hid (R = false) := by
        have hmf : many st ts.length ts.length 0 100000 = false := by
          cases hmm : many st ts.length ts.length 0 100000
          · rfl
          · have := many_true.1 hmm; omega
        show _ = _
        rw [← HR.out, hmf, Bool.and_false]
      clear hl
      go_enter Try.func137, Try.ntmps137
      go_wp2_with fail
      refine HT.out.mono ?_
      rintro e W1 ⟨rfl, q, rfl⟩
      go_wp2
      go_ret
      exact ⟨ret_bool hf.out.symm, below_drewN _ (Below.refl _ _)⟩

set_option maxRecDepth 100000 in
set_option maxHeartbeats 2000000 in
theorem specCrewUse_any (vt vs : Value) (ts : List Tk) (st : List Int) (w : World) (ht : TasksR w vt ts) (hs : Ints w vs st) (hxs : ts.length ≤ 1000000) :
    Calls Try.prog 114 #[vt, vs] w fun e w' => (∃ u, e = .returned (.tuple #[u, .bool (usesOk ts st)]) ∧ (usesOk ts st = true → OwnI w' w.heap.size u (useL ts st (endTo ts st ts.length).toNat ts.length))) ∧ Below w.heap.size w w' := by
  have HT := Lib.hid (specStarts_any vt vs ts st w ht hs hxs)
  have HL : Hid ((tasksOk ts && many st ts.length ts.length 0 100000) = true → ∀ W, Below w.heap.size w W → Calls Try.prog 88 #[vt, vs] W fun e w' => e = .returned (.int .i64 (endTo ts st ts.length)) ∧ Below W.heap.size W w') := fun h W hW => by
    rw [Bool.and_eq_true] at h
    exact specEnd_any vt vs ts st W (ht.below hW (Nat.le_refl _)) (hs.below hW (Nat.le_refl _)) (uses_sm h.1 h.2).1 (uses_sm h.1 h.2).2.1
  have HU : Hid ((tasksOk ts && many st ts.length ts.length 0 100000) = true → ∀ E : Nat, endTo ts st ts.length = E → E ≤ 400 → ∀ W, Below w.heap.size w W → Calls Try.prog 138 #[vt, vs] W fun e w' => (∃ g, e = .returned (.slice (some ⟨g, 0, none⟩) E E) ∧ OwnI w' W.heap.size (.slice (some ⟨g, 0, none⟩) E E) (useL ts st E ts.length)) ∧ Below W.heap.size W w') := fun h E hE hE4 W hW => by
    rw [Bool.and_eq_true] at h
    exact specUse_any vt vs ts st E W (ht.below hW (Nat.le_refl _)) (hs.below hW (Nat.le_refl _)) (uses_sm h.1 h.2).1 (uses_sm h.1 h.2).2.1 (uses_sm h.1 h.2).2.2 hE (by omega)
  have HEB : Hid ((tasksOk ts && many st ts.length ts.length 0 100000) = true → 0 ≤ endTo ts st ts.length) := fun h => by
    rw [Bool.and_eq_true] at h
    exact (endTo_bounds (uses_sm h.1 h.2).1 (uses_sm h.1 h.2).2.1 _ (Nat.le_refl _)).1
  have HUO : Hid (usesOk ts st = (tasksOk ts && many st ts.length ts.length 0 100000 && decide (endTo ts st ts.length ≤ 400))) := rfl
  obtain ⟨Z, hZ⟩ : ∃ Z, endTo ts st ts.length = Z := ⟨_, rfl⟩
  obtain ⟨U, hU⟩ : ∃ U, usesOk ts st = U := ⟨_, rfl⟩
  obtain ⟨M, hM⟩ : ∃ M, (tasksOk ts && many st ts.length ts.length 0 100000) = M := ⟨_, rfl⟩
  rw [hZ] at HL HU HEB HUO ⊢
  rw [hU] at HUO ⊢
  rw [hM] at HT HL HU HEB HUO
  clear ht hs hZ hU hM
  cases M
  · have hu : Hid (U = false) := by have := HUO.out; exact this
    go_enter Try.func114, Try.ntmps114
    go_wp2_with fail
    refine HT.out.mono ?_
    rintro e W1 ⟨rfl, hb1⟩
    have HB1 := Lib.hid hb1
    clear hb1
    go_wp2
    go_ret2
    exact ⟨⟨.slice none 0 0, by rw [hu.out]; rfl, fun h => by rw [hu.out] at h; cases h⟩, HB1.out⟩
  · have HL2 := Lib.hid (HL.out rfl)
    have HU1 := Lib.hid (HU.out rfl)
    have hz0 := HEB.out rfl
    clear HL HU HEB
    by_cases h4 : Z ≤ 400
    · have hu : Hid (U = true) := by have := HUO.out; rw [decide_eq_true h4] at this; exact this
      obtain ⟨E, rfl⟩ : ∃ E : Nat, Z = E := ⟨Z.toNat, by omega⟩
      have HU2 := Lib.hid (HU1.out E rfl (by omega))
      clear HU1
      rw [Int.toNat_natCast]
      go_enter Try.func114, Try.ntmps114
      go_wp2_with fail
      refine HT.out.mono ?_
      rintro e W1 ⟨rfl, hb1⟩
      have HB1 := Lib.hid hb1
      clear hb1
      go_wp2_with fail
      refine (HL2.out _ HB1.out).mono ?_
      rintro e W2 ⟨rfl, hb2⟩
      have HB2 : Hid (Below w.heap.size w W2) := HB1.out.trans (hb2.mono HB1.out.size)
      clear hb2
      go_wp2_with fail
      refine (HU2.out _ HB2.out).mono ?_
      rintro e W3 ⟨⟨g, rfl, ho⟩, hb3⟩
      have H3 := Lib.hid (And.intro (ho.mono HB2.out.size) (HB2.out.trans (hb3.mono HB2.out.size)))
      clear ho hb3
      go_wp2
      go_ret2
      exact ⟨⟨_, by rw [hu.out]; rfl, fun _ => H3.out.1⟩, H3.out.2⟩
    · have hu : Hid (U = false) := by have := HUO.out; rw [decide_eq_false h4] at this; exact this
      have hd : Z > 400 := by omega
      go_enter Try.func114, Try.ntmps114
      go_wp2_with fail
      refine HT.out.mono ?_
      rintro e W1 ⟨rfl, hb1⟩
      have HB1 := Lib.hid hb1
      clear hb1
      go_wp2_with fail
      refine (HL2.out _ HB1.out).mono ?_
      rintro e W2 ⟨rfl, hb2⟩
      have HB2 : Hid (Below w.heap.size w W2) := HB1.out.trans (hb2.mono HB1.out.size)
      clear hb2
      go_wp2
      go_ret2
      exact ⟨⟨.slice none 0 0, by rw [hu.out]; rfl, fun h => by rw [hu.out] at h; cases h⟩, HB2.out⟩

theorem quiet_drewU {P : Program} {f : FuncId} {args : Array Value} {w : World} {n : Nat} {v : Value}
    (h : Calls P f args (w.drewN n) fun e w' => e = .returned v ∧ ∃ q, w' = (w.drewN n).drewN q) : Calls P f args (w.drewN n) fun e w'' => e = .returned v ∧ ∃ m, w'' = w.drewN m :=
  h.mono fun _ _ ⟨he, q, hq⟩ => ⟨he, n + q, by rw [hq]; simp⟩
def SPlanR (ts : List Tk) (st : List Int) (T : Nat) (w : World) (vk : Value) (wr : World) : Prop :=
  ∃ k : Nat, k ≤ T ∧ vk = .int .i64 k ∧ Hid ((List.range k).all (fun i => decide (leastN ts st i ≤ nth st i)) = true) ∧ Hid (Below w.heap.size w wr)
def UsR (ts : List Tk) (st : List Int) (crew : Int) (E T : Nat) (w : World) (vk : Value) (wr : World) : Prop :=
  ∃ k : Nat, k ≤ E ∧ vk = .int .i64 k ∧ Hid (∀ j, j < k → useN ts st (j : Nat) T ≤ crew) ∧ Hid (Below w.heap.size w wr)
set_option maxRecDepth 100000 in
set_option maxHeartbeats 2000000 in
theorem specIsCrewPlan_any (vt vs : Value) (ts : List Tk) (st : List Int) (crew : Int) (w : World) (ht : TasksR w vt ts) (hs : Ints w vs st) (hxs : ts.length ≤ 1000000) :
    Calls Try.prog 76 #[vt, vs, .int .i64 crew] w fun e w' => e = .returned (.bool (planOk ts st crew)) ∧ Below w.heap.size w w' := by
  have HU := Lib.hid (specCrewUse_any vt vs ts st w ht hs hxs)
  have HA : Hid (∀ W, Calls Try.prog 54 #[.int .i64 crew, .int .i64 0, .int .i64 20] W fun e w' => e = .returned (.bool (win crew 0 20)) ∧ W = w') := fun W => l00In_any crew 0 20 W
  cases hu : usesOk ts st
  · have hp : Hid (planOk ts st crew = false) := uses_no hu
    rw [hu] at HU
    go_enter Try.func76, Try.ntmps76
    go_wp2_with fail
    refine HU.out.mono ?_
    rintro e W1 ⟨⟨u, rfl, _⟩, hb1⟩
    have HB1 := Lib.hid hb1
    clear hb1
    go_wp2
    go_ret
    exact ⟨ret_bool hp.out.symm, HB1.out⟩
  · obtain ⟨hsm, hst, hs0, hz0, hz4⟩ := uses_yes hu
    have HSM := Lib.hid hsm
    have HST := Lib.hid hst
    have HE : Hid (∀ (i : Nat) W, Below w.heap.size w W → i < ts.length → Calls Try.prog 77 #[vt, vs, .int .i64 i] W fun e w' => e = .returned (.int .i64 (leastN ts st i)) ∧ ∃ q, w' = W.drewN q) := fun i W hW hi => specLeast_any vt vs ts st i W (ht.below hW (Nat.le_refl _)) (hs.below hW (Nat.le_refl _)) hsm hst hi
    obtain ⟨aS, cS, rfl, scap, hS⟩ := hs.view
    have HS := Lib.hid hS
    obtain ⟨aT, cT, rfl, tcap, _⟩ := ht.at_
    have HP : Hid (planOk ts st crew = (win crew 0 20 && (List.range ts.length).all (fun i => decide (leastN ts st i ≤ nth st i)) && (List.range (endTo ts st ts.length).toNat).all (fun t => decide (useN ts st t ts.length ≤ crew)))) := by
      show _ = _; unfold planOk planHd; rw [hu]; rfl
    obtain ⟨E, hE⟩ : ∃ E, (endTo ts st ts.length).toNat = E := ⟨_, rfl⟩
    have hE4 : E ≤ 400 := by omega
    rw [hu, hE] at HU
    rw [hE] at HP
    have HUL := Lib.hid (useL_within (st := st) (E := E) (crew := crew) hsm)
    have h16 := hsm.n16
    obtain ⟨T, hT⟩ : ∃ T, ts.length = T := ⟨_, rfl⟩
    have hTs : st.length = T := by rw [hst.1]; exact hT
    rw [hTs, hT] at HU HE ⊢
    rw [hT] at HP HUL h16
    have HTT : Hid (ts.length = T ∧ st.length = T) := ⟨hT, hTs⟩
    clear ht hs hS hsm hst hs0 hz0 hz4 hE scap hT hTs
    cases hc : win crew 0 20
    · have hp : Hid (planOk ts st crew = false) := by have := HP.out; rw [hc] at this; exact this
      rw [hc] at HA
      go_enter Try.func76, Try.ntmps76
      go_wp2_with fail
      refine HU.out.mono ?_
      rintro e W1 ⟨⟨u, rfl, _⟩, hb1⟩
      have HB1 := Lib.hid hb1
      clear hb1
      go_wp2_with (go_at_call 54; refine (HA.out _).mono ?_; rintro e w' ⟨rfl, rfl⟩)
      go_ret
      exact ⟨ret_bool hp.out.symm, HB1.out⟩
    · rw [hc] at HA HP
      go_enter Try.func76, Try.ntmps76
      go_wp2_with fail
      refine HU.out.mono ?_
      rintro e W1 ⟨⟨u, rfl, ho⟩, hb1⟩
      have HB1 := Lib.hid hb1
      have HO1 := Lib.hid (ho trivial).ints
      clear hb1 ho
      go_wp2_with (go_at_call 54; refine (HA.out _).mono ?_; rintro e w' ⟨rfl, rfl⟩)
      go_loopw [26] (fun vk wr => SPlanR ts st T W1 vk wr) (fun vk _ => T - (intOf vk).toNat)
      case atStart => exact ⟨0, Nat.zero_le _, rfl, rfl, Below.refl _ _⟩
      case round =>
        obtain ⟨k, hk, rfl, HK, HW⟩ := hrel
        have HWW : Hid (Below w.heap.size w wr) := HB1.out.trans (HW.out.mono HB1.out.size)
        by_cases hkT : k < T
        · have k1 : (k : Int) < (T : Int) := by omega
          have k0 : (0 : Int) ≤ (k : Int) := by omega
          obtain ⟨b3, o3, haS, cs'⟩ := HS.out wr HWW.out k (by rw [HTT.out.2]; exact hkT)
          subst haS
          have HC : Hid (∀ q, Calls Try.prog 77 #[.slice aT T cT, .slice (some ⟨b3, o3, none⟩) T cS, .int .i64 k] (wr.drewN q) fun e w' => e = .returned (.int .i64 (leastN ts st k)) ∧ ∃ q', w' = (wr.drewN q).drewN q') := fun q => HE.out k (wr.drewN q) (below_drewN q HWW.out) hkT
          have HKN : Hid ((List.range (k + 1)).all (fun i => decide (leastN ts st i ≤ nth st i)) = decide (leastN ts st k ≤ nth st k)) := by
            show _ = _; rw [List.range_succ, List.all_append, HK.out]; simp
          have HBAD : Hid (¬ leastN ts st k ≤ nth st k → planOk ts st crew = false) := fun h => by
            have h3 : (List.range T).all (fun i => decide (leastN ts st i ≤ nth st i)) = false := List.all_eq_false.2 ⟨k, List.mem_range.2 hkT, by simpa using h⟩
            have := HP.out; rw [h3] at this; exact this
          obtain ⟨s, hs⟩ : ∃ s, nth st k = s := ⟨_, rfl⟩
          obtain ⟨l, hl⟩ : ∃ l, leastN ts st k = l := ⟨_, rfl⟩
          rw [hs] at cs' HKN HBAD
          simp only [hl] at HC
          rw [hl] at HKN HBAD
          clear hs hl
          have HCQ : Hid (∀ q, Calls Try.prog 77 #[.slice aT T cT, .slice (some ⟨b3, o3, none⟩) T cS, .int .i64 k] (wr.drewN q) fun e w' => e = .returned (.int .i64 l) ∧ ∃ q', w' = (wr.drewN q).drewN q') := fun q => HC.out q
          by_cases hlt : s < l
          · have HR := Lib.hid (HBAD.out (by omega))
            clear HC
            go_wp2
            go_quiet ((first | (go_at_call 77; exact quiet_drewU (HCQ.out _))))
            go_wp2
            go_ret
            exact ⟨ret_bool HR.out.symm, below_drewN _ HWW.out⟩
          · have HR : Hid ((List.range (k + 1)).all (fun i => decide (leastN ts st i ≤ nth st i)) = true) := by show _ = _; rw [HKN.out]; simp; omega
            clear HC
            go_wp2
            go_quiet ((first | (go_at_call 77; exact quiet_drewU (HCQ.out _))))
            go_wp2
            go_roundw
            case rel => exact ⟨k + 1, by omega, by go_num, HR.out, below_drewN _ HW.out⟩
            case measure => simp [intOf]; omega
        · have k1 : ¬ (k : Int) < (T : Int) := by omega
          have HKT : Hid ((List.range T).all (fun i => decide (leastN ts st i ≤ nth st i)) = true) := by have := HK.out; rw [show k = T by omega] at this; exact this
          have HFIN : Hid (planOk ts st crew = (List.range E).all fun t => decide (useN ts st t T ≤ crew)) := by have := HP.out; rw [HKT.out] at this; show _ = _; simpa using this
          obtain ⟨au, cu, rfl, ucap, hU⟩ := HO1.out.view
          have hul : (useL ts st E T).length = E := useL_len _ _ _ _
          rw [hul]
          have HU2 : Hid (∀ W, Below W1.heap.size W1 W → ∀ k, k < E → ∃ b o, au = some ⟨b, o, none⟩ ∧ W.cell? ⟨b, o + k, none⟩ = some (.int .i64 (useN ts st k T))) := fun W hW k hk => by
            obtain ⟨b, o, h1, h2⟩ := hU W hW k (by rw [hul]; exact hk)
            rw [useL_nth hk] at h2
            exact ⟨b, o, h1, h2⟩
          have HST2 : Hid (UsR ts st crew E T W1 (.int .i64 0) wr) := ⟨0, Nat.zero_le _, rfl, fun j hj => absurd hj (Nat.not_lt_zero _), HW.out⟩
          clear HK HKT hU hul ucap HUL HO1 HW
          go_wp2
          go_loopw [41] (fun vk wr => UsR ts st crew E T W1 vk wr) (fun vk _ => E - (intOf vk).toNat)
          case atStart => exact HST2.out
          case round =>
            obtain ⟨k, hk, rfl, HK, HW⟩ := hrel
            clear HST2
            have HWW : Hid (Below w.heap.size w wr) := HB1.out.trans (HW.out.mono HB1.out.size)
            by_cases hkE : k < E
            · have k1 : (k : Int) < (E : Int) := by omega
              have k0 : (0 : Int) ≤ (k : Int) := by omega
              obtain ⟨b4, o4, hau, cu'⟩ := HU2.out wr HW.out k hkE
              subst hau
              have HBAD : Hid (¬ useN ts st k T ≤ crew → planOk ts st crew = false) := fun h => by
                have h3 : (List.range E).all (fun t => decide (useN ts st t T ≤ crew)) = false := List.all_eq_false.2 ⟨k, List.mem_range.2 hkE, by simpa using h⟩
                rw [HFIN.out, h3]
              obtain ⟨s, hs⟩ : ∃ s, useN ts st k T = s := ⟨_, rfl⟩
              rw [hs] at cu' HBAD
              have HSS := Lib.hid hs
              clear hs
              by_cases hgt : s > crew
              · have HR := Lib.hid (HBAD.out (by omega))
                go_wp2
                go_ret
                exact ⟨ret_bool HR.out.symm, HWW.out⟩
              · have HN : Hid (∀ j, j < k + 1 → useN ts st (j : Nat) T ≤ crew) := fun j hj => by
                  by_cases e : j = k
                  · rw [e, HSS.out]; omega
                  · exact HK.out j (by omega)
                go_wp2
                go_roundw
                case rel => exact ⟨k + 1, by omega, by go_num, HN.out, HW.out⟩
                case measure => simp [intOf]; omega
            · have k1 : ¬ (k : Int) < (E : Int) := by omega
              have HR : Hid (planOk ts st crew = true) := by
                show _ = _
                rw [HFIN.out, List.all_eq_true]
                intro t ht
                have := HK.out t (by have := List.mem_range.1 ht; omega)
                simpa using this
              clear HK
              go_wp2
              go_ret
              exact ⟨ret_bool HR.out.symm, HWW.out⟩
end Go.Proofs.Ytnpfninkopffmaa

namespace Go.Proofs.Ytnpfninkopffmaa
open Go.RowKit
set_option linter.unusedVariables false
set_option linter.unusedSimpArgs false

theorem OwnI.rowT {w W : World} {N g n c : Nat} {xs : List Int} (h : OwnI w N (.slice (some ⟨g, 0, none⟩) n c) xs) {r : Nat} (hg : w.grownBy W (some r)) (hn : g ≠ r) : OwnI W N (.slice (some ⟨g, 0, none⟩) n c) xs :=
  h.kept hg (.inr (by rw [ownBlock_slice]; intro e; injection e with e; exact hn e))
theorem OwnB.rowT {w W : World} {N g n c : Nat} {xs : List Bool} (h : OwnB w N (.slice (some ⟨g, 0, none⟩) n c) xs) {r : Nat} (hg : w.grownBy W (some r)) (hn : g ≠ r) : OwnB W N (.slice (some ⟨g, 0, none⟩) n c) xs :=
  h.kept hg (.inr (by rw [ownBlock_slice]; intro e; injection e with e; exact hn e))
/-- What the rounds know. -/
structure TakeQ (T : Nat) (ts : List Tk) (crew : Int) (E : List Int) (go gt N k : Nat) (W0 wr : World) (out : List Int) : Prop where
  inv : TakeI ts (zeroS T) crew E k out
  own : OwnI wr N (.slice (some ⟨go, 0, none⟩) T T) (zerL out)
  ownB : OwnB wr N (.slice (some ⟨gt, 0, none⟩) T T) (tldL out)
  frm : GrownL [go, gt] W0 wr
theorem TakeQ.drewN {T : Nat} {ts : List Tk} {crew : Int} {E : List Int} {go gt N k : Nat} {W0 wr : World} {out : List Int} (h : TakeQ T ts crew E go gt N k W0 wr out) (q : Nat) : TakeQ T ts crew E go gt N k W0 (wr.drewN q) out :=
  ⟨h.inv, h.own.drewN q, h.ownB.drewN q, h.frm.drewN q⟩
def TakeQR (T : Nat) (ts : List Tk) (crew : Int) (E : List Int) (go gt N : Nat) (W0 : World) (vk : Value) (wr : World) : Prop :=
  ∃ (k : Nat) (out : List Int), vk = .int .i64 k ∧ k ≤ T ∧ Hid (TakeQ T ts crew E go gt N k W0 wr out)
/-- The search for a start. -/
def TakeC (u : Nat → Int) (crew need time a B : Int) (W : World) (vs : Value) (wr : World) : Prop :=
  ∃ (m : Nat) (s : Int), vs = .int .i64 s ∧ a ≤ s ∧ s ≤ B ∧ Hid (noneW u crew need time a s) ∧ wr = W.drewN m
/-- The search for a clash. -/
def TakeD (u : Nat → Int) (crew need time s B : Int) (W : World) (vc vt : Value) (wr : World) : Prop :=
  ∃ (t m : Nat) (c : Int), vc = .int .i64 c ∧ vt = .int .i64 t ∧ s ≤ t ∧ (t : Int) ≤ s + time ∧ Hid ((c = -1 ∧ ∀ j : Nat, s ≤ j → (j : Int) < t → u j + need ≤ crew) ∨ (s ≤ c ∧ c < s + time ∧ c + 1 ≤ B ∧ crew < u c.toNat + need)) ∧ wr = W.drewN m
def TakeU (ts : List Tk) (out : List Int) (need : Int) (t T : Nat) (W : World) (vu vk : Value) (wr : World) : Prop :=
  ∃ (k m : Nat), vu = .int .i64 (need + useO ts out t k) ∧ vk = .int .i64 k ∧ k ≤ T ∧ wr = W.drewN m
theorem TakeQ.put {T : Nat} {ts : List Tk} {crew s : Int} {E : List Int} {go gt N k i : Nat} {W0 wr : World} {out : List Int} (h : TakeQ T ts crew E go gt N k W0 wr out) (hs : 0 ≤ s) (hi : i < T) (hl : T = out.length) (hgo : go < gt)
    (hI : TakeI ts (zeroS T) crew E (k + 1) (out.set i s)) :
    wr.frozen? ⟨go, i, none⟩ = false ∧ wr.cell? ⟨go, i, none⟩ = some (.int .i64 (nth (zerL out) i)) ∧ (wr.setCell ⟨go, i, none⟩ (.int .i64 s)).frozen? ⟨gt, i, none⟩ = false ∧ (wr.setCell ⟨go, i, none⟩ (.int .i64 s)).cell? ⟨gt, i, none⟩ = some (.bool (decide (0 ≤ nth out i))) ∧
      TakeQ T ts crew E go gt N (k + 1) W0 ((wr.setCell ⟨go, i, none⟩ (.int .i64 s)).setCell ⟨gt, i, none⟩ (.bool true)) (out.set i s) := by
  have hz : T = (zerL out).length := by rw [zerL_len]; exact hl
  have ht : T = (tldL out).length := by rw [tldL_len]; exact hl
  obtain ⟨s1, s2, s3, s4⟩ := h.own.store hz i (by omega) s
  have hb := h.ownB.rowT s4 (by omega)
  obtain ⟨t1, t2, t3, t4⟩ := hb.store ht i (by omega) true
  rw [tldL_at] at t1
  refine ⟨s2, h.own.at_ hz i (by omega), t2, t1, hI, ?_, ?_, (h.frm.grown s4 (fun j e => .inl (by cases e; simp))).grown t4 (fun j e => .inl (by cases e; simp))⟩
  · rw [zerL_set _ _ hs]; exact s3.rowT t4 (by omega)
  · rw [tldL_set _ _ hs]; exact t3
theorem zerL_all {out : List Int} (h : ∀ j, j < out.length → 0 ≤ nth out j) : zerL out = out := by
  unfold zerL
  conv => rhs; rw [← List.map_id out]
  apply List.map_congr_left
  intro x hx
  obtain ⟨j, hj, rfl⟩ := List.getElem_of_mem hx
  have := h j hj
  rw [nth_eq hj] at this
  show max _ _ = _
  simp only [id]
  omega
set_option maxRecDepth 100000 in
set_option maxHeartbeats 4000000 in
theorem specTake_any (vt vo : Value) (ts : List Tk) (E : List Int) (crew : Int) (w : World) (ht : TasksR w vt ts) (ho : Ints w vo E) (hsm : SmTs ts) (hE : OrdOk ts E) (hneed : ∀ i, i < ts.length → needN ts i ≤ crew) (hcw : 0 ≤ crew ∧ crew ≤ 20) :
    Calls Try.prog 86 #[vt, vo, .int .i64 crew] w fun e w' => (∃ out g, takeL ts crew E = some out ∧ e = .returned (.slice (some ⟨g, 0, none⟩) ts.length ts.length) ∧ OwnI w' w.heap.size (.slice (some ⟨g, 0, none⟩) ts.length ts.length) out) ∧ Below w.heap.size w w' := by
  have HCW : Hid (0 ≤ crew ∧ crew ≤ 20) := hcw
  have hEL := OrdOk.len hE.perm
  have HTK : Hid (∀ W, Below w.heap.size w W → TasksR W vt ts) := fun W hW => ht.below hW (Nat.le_refl _)
  obtain ⟨b, o, c, VB, VL, rfl, hcap, hbw, hsrc⟩ := ht.src hsm.n1
  have hT16 := hsm.n16
  obtain ⟨aE, cE, rfl, ecap, hS⟩ := ho.view
  rw [hEL] at hS ecap ⊢
  have HSRC : Hid (∀ i, i < ts.length → TkSrc w b o ts VB VL i) := hsrc
  have HSM := Lib.hid hsm
  have HE := Lib.hid hE
  have HND := Lib.hid hneed
  have HPF : Hid (takeL ts crew E = mendL ts (zeroS ts.length) crew E (noneL ts.length)) := rfl
  obtain ⟨T, hT⟩ : ∃ T, ts.length = T := ⟨_, rfl⟩
  have HT : Hid (ts.length = T) := hT
  rw [hT] at hcap hT16 HSRC hS ecap hEL HND HPF ⊢
  have hT1 : 1 ≤ T := by rw [← hT]; exact hsm.n1
  obtain ⟨bE, oE, rfl, _⟩ := hS w (Below.refl _ _) 0 (by omega)
  have HEC : Hid (∀ W, Below w.heap.size w W → ∀ k, k < T → W.cell? ⟨bE, oE + k, none⟩ = some (.int .i64 (nth E k))) := fun W hW k hk => by
    obtain ⟨b', o', e', c'⟩ := hS W hW k (by omega)
    obtain ⟨rfl, rfl⟩ : bE = b' ∧ oE = o' := by simpa using e'
    exact c'
  have HNE : Hid (∀ i, i < T → 0 ≤ needN ts i ∧ needN ts i ≤ crew ∧ needN ts i ≤ 20) := fun i hi => by
    have h1 := HSM.out.need i (by rw [HT.out]; exact hi)
    have h2 := HND.out i hi
    omega
  obtain ⟨i0, hi, hz0, hz1, hz2⟩ := info_parts info_i64
  obtain ⟨i1, ji, jz0, jz1, jz2⟩ := info_parts info_bool
  clear ht ho hsrc hsm hE hneed hT hS hEL hcw
  go_enter Try.func86, Try.ntmps86
  go_wp2_with (first
    | (at_make; refine wpList_make_full _ rfl _ _ 29 rfl w.heap.size 2 i0 (.int .i64 0) 1 Try.underlying29 hi hz0 hz1 _ _ _ _ T rfl rfl rfl rfl (by rw [hz2]; omega) (by unfold maxLen; omega) (Nat.le_refl _) ?_; intro W4 hown4 hgrow4; have HA4 := Lib.hid (And.intro hown4 hgrow4); have HB4 : Hid (Below w.heap.size w W4) := (Below.refl _ w).grown hgrow4 (Nat.le_refl _) (fun k e => by cases e); clear hown4 hgrow4)
    | (at_make; refine wpList_make_full _ rfl _ _ 91 rfl w.heap.size 4 i1 (.bool false) 1 Try.underlying91 ji jz0 jz1 _ _ _ _ T rfl rfl rfl rfl (by rw [jz2]; omega) (by unfold maxLen; omega) HB4.out.size ?_; intro W5 hown5 hgrow5; have HA5 := Lib.hid (And.intro hown5 hgrow5); have HB5 : Hid (Below w.heap.size w W5) := HB4.out.grown hgrow5 HB4.out.size (fun k e => by cases e); clear hown5 hgrow5))
  obtain ⟨go, hgo⟩ : ∃ g, w.heap.size = g := ⟨_, rfl⟩
  obtain ⟨gt, hgt⟩ : ∃ g, W4.heap.size = g := ⟨_, rfl⟩
  have HWG : Hid (w.heap.size = go) := hgo
  have HU4 : Hid (OwnI W4 go (.slice (some ⟨go, 0, none⟩) T T) (List.replicate T 0)) := by have h := made_replicate HA4.out.1; rw [hgo] at h; exact h
  rw [hgt] at HA5
  have HU5 : Hid (OwnI W5 go (.slice (some ⟨go, 0, none⟩) T T) (List.replicate T 0)) := HU4.out.kept HA5.out.2 (.inr (by rw [ownBlock_slice]; simp))
  have HV5 : Hid (OwnB W5 go (.slice (some ⟨gt, 0, none⟩) T T) (List.replicate T false)) := by have h := OwnB.made HA5.out.1; rw [hgo] at h; exact h
  have HGB : Hid (go < gt ∧ gt < W5.heap.size) := by
    have h1 := HU4.out.lt go rfl
    have h2 := HV5.out.lt gt rfl
    show _ ∧ _
    omega
  rw [hgo] at HB5 HEC HTK hbw ⊢
  have HQ0 : Hid (TakeQR T ts crew E go gt go W5 (.int .i64 0) W5) := by
    refine ⟨0, noneL T, rfl, Nat.zero_le _, ?_⟩
    have hI := takeI_start (st := zeroS T) (crew := crew) HSM.out HE.out.perm
    rw [HT.out] at hI
    exact ⟨hI, by rw [zerL_none]; exact HU5.out, by rw [tldL_none]; exact HV5.out, GrownL.refl _ _⟩
  have HKB : Hid (∀ W, GrownL [go, gt] W5 W → Below go w W) := fun W hW => hW.toBelow HB5.out (by have := HGB.out; omega) (fun j hj => by have := HGB.out; simp; omega)
  have HKC : Hid (∀ W, GrownL [go, gt] W5 W → ∀ i, i < T → W.cell? ⟨b, o + i * 4, none⟩ = some (.int .i64 (timeN ts i)) ∧ W.cell? ⟨b, o + i * 4 + 1, none⟩ = some (.int .i64 (needN ts i))) := fun W hW i hi => by
    have hB := HKB.out W hW
    exact ⟨(hB.cell (p := ⟨b, o + i * 4, none⟩) hbw).trans (HSRC.out i hi).c0, (hB.cell (p := ⟨b, o + i * 4 + 1, none⟩) hbw).trans (HSRC.out i hi).c1⟩
  simp only [hgt]
  clear HA4 HA5 HU4 HU5 HV5 HB4 hi hz0 hz1 hz2 ji jz0 jz1 jz2 hgo hgt
  go_loopw [24] (fun vk wr => TakeQR T ts crew E go gt go W5 vk wr) (fun vk _ => T - (intOf vk).toNat)
  case atStart => exact HQ0.out
  case round =>
    obtain ⟨k, out, rfl, hk, HQ⟩ := hrel
    clear HQ0
    by_cases hkT : k < T
    · have k2 : (k : Int) < (T : Int) := by omega
      have k3 : (0 : Int) ≤ (k : Int) := by omega
      have hnx := HQ.out.inv.next HE.out.perm (by rw [HT.out]; exact hkT)
      have HTD := Lib.hid (HQ.out.inv.toldOk HE.out (by rw [HT.out]; exact hkT))
      rw [HT.out] at hnx
      have ce := HEC.out wr (HKB.out wr HQ.out.frm) k hkT
      obtain ⟨i, hi⟩ : ∃ i : Nat, nth E k = i := ⟨(nth E k).toNat, by omega⟩
      have HI : Hid (nth E k = i) := hi
      rw [hi, Int.toNat_natCast] at hnx
      rw [hi, Int.toNat_natCast] at HTD
      rw [hi] at ce
      have hiT := hnx.2.2.1
      have HNI : Hid (nth out i = -1) := hnx.2.2.2
      have i0 : (0 : Int) ≤ (i : Int) := by omega
      have i1 : (i : Int) < (T : Int) := by omega
      have HLEN : Hid (T = out.length) := by have := HQ.out.inv.len; have := HT.out; show _ = _; omega
      clear hi hnx
      have HOB : Hid (∀ j, j < T → -1 ≤ nth out j ∧ nth out j + timeN ts j ≤ 500 + 300 * (k : Int) ∧ 0 ≤ timeN ts j ∧ timeN ts j ≤ 100) := fun j hj => by
        have h1 := HQ.out.inv.lo j (by rw [HT.out]; exact hj)
        have h2 := HQ.out.inv.hi j (by rw [HT.out]; exact hj)
        have h3 := HSM.out.time j (by rw [HT.out]; exact hj)
        exact ⟨h1, h2, h3.1, h3.2⟩
      have HSZ : Hid (SmSt (zerL out) ts.length) := ⟨by rw [zerL_len, ← HLEN.out, HT.out], fun j hj => by
        have hj' : j < T := by rw [← HT.out]; exact hj
        have h1 := HOB.out j hj'
        rw [zerL_at (by rw [← HLEN.out]; exact hj')]
        omega⟩
      have HZE : Hid (leastN ts (zerL out) i = leastN ts out i) := leastN_zer HSM.out (by rw [← HLEN.out, HT.out]) (by rw [HT.out]; exact hiT) HTD.out
      have HEA : Hid (∀ m, Calls Try.prog 77 #[.slice (some ⟨b, o, none⟩) T c, .slice (some ⟨go, 0, none⟩) T T, .int .i64 i] (wr.drewN m) fun e w' => e = .returned (.int .i64 (leastN ts out i)) ∧ ∃ q, w' = (wr.drewN m).drewN q) := fun m => by
        have h := specLeast_any _ _ ts (zerL out) i (wr.drewN m) (HTK.out _ (HKB.out _ (HQ.out.frm.drewN m))) ((HQ.out.own.drewN m).ints) HSM.out HSZ.out (by rw [HT.out]; exact hiT)
        rw [HZE.out] at h
        rw [HT.out] at h
        exact h
      have HA0 : Hid (0 ≤ leastN ts out i ∧ leastN ts out i ≤ 600 + 300 * (k : Int)) := by
        have h1 := leastTo_le (B := 500 + 300 * (k : Int)) HSM.out (i := i) (out := out) (by rw [HT.out]; exact hiT) (by omega) HQ.out.inv.hi _ (Nat.le_refl _)
        have h2 := leastN_nn ts out i
        have h6 : leastN ts out i ≤ 500 + 300 * (k : Int) + 100 := h1
        show _ ∧ _
        omega
      obtain ⟨a, ha⟩ : ∃ x, leastN ts out i = x := ⟨_, rfl⟩
      have HLE : Hid (max (nth (zeroS T) i) (leastN ts out i) = a) := by show _ = _; rw [max_zeroS]; exact ha
      rw [ha] at HEA HA0
      have ha0 : 0 ≤ a ∧ a ≤ 600 + 300 * (k : Int) := HA0.out
      have HEA0 : Hid (Calls Try.prog 77 #[.slice (some ⟨b, o, none⟩) T c, .slice (some ⟨go, 0, none⟩) T T, .int .i64 i] wr fun e w' => e = .returned (.int .i64 a) ∧ ∃ q, w' = (wr.drewN 0).drewN q) := HEA.out 0
      clear ha HA0 HZE HSZ HEA
      go_wp2_with fail
      refine HEA0.out.mono ?_
      rintro e W6 ⟨rfl, q6, rfl⟩
      clear HEA0
      have HQ2 : Hid (TakeQ T ts crew E go gt go k W5 ((wr.drewN 0).drewN q6) out) := (HQ.out.drewN 0).drewN q6
      obtain ⟨V, hV⟩ : ∃ V, (wr.drewN 0).drewN q6 = V := ⟨_, rfl⟩
      rw [hV] at HQ2 ⊢
      clear hV HQ ce
      have hcs := HKC.out V HQ2.out.frm
      have HCS := Lib.hid hcs
      obtain ⟨d0, d1⟩ := hcs i hiT
      have HTC : Hid (∀ j, j < T → V.cell? ⟨gt, j, none⟩ = some (.bool (decide (0 ≤ nth out j)))) := fun j hj => by
        have h := (HQ2.out.ownB.store (by rw [tldL_len]; exact HLEN.out) j (by rw [tldL_len, ← HLEN.out]; exact hj) true).1
        rw [tldL_at] at h
        exact h
      have HOC : Hid (∀ j, j < T → V.cell? ⟨go, j, none⟩ = some (.int .i64 (max (nth out j) 0))) := fun j hj => by
        have h := HQ2.out.own.at_ (by rw [zerL_len]; exact HLEN.out) j (by rw [zerL_len, ← HLEN.out]; exact hj)
        rw [zerL_at (by rw [← HLEN.out]; exact hj)] at h
        exact h
      have HNI2 := HNE.out i hiT
      have HTI := HOB.out i hiT
      obtain ⟨tmI, htmI⟩ : ∃ x, timeN ts i = x := ⟨_, rfl⟩
      obtain ⟨ndI, hndI⟩ : ∃ x, needN ts i = x := ⟨_, rfl⟩
      have HTI' : Hid (timeN ts i = tmI) := htmI
      have HND' : Hid (needN ts i = ndI) := hndI
      rw [htmI] at d0 HTI
      rw [hndI] at d1 HNI2
      clear htmI hndI hcs
      have HM0 : Hid (TakeC (fun t : Nat => useO ts out t T) crew ndI tmI a (600 + 300 * (k : Int)) V (.int .i64 a) V) := ⟨0, a, rfl, Int.le_refl _, ha0.2, noneW.start _ _ _ _ _, rfl⟩
      go_wp2
      go_loopw [11] (fun vs wi => TakeC (fun t : Nat => useO ts out t T) crew ndI tmI a (600 + 300 * (k : Int)) V vs wi) (fun vs _ => (600 + 300 * (k : Int) + 1 - intOf vs).toNat)
      case atStart => exact HM0.out
      case round =>
        obtain ⟨m4, s, rfl, has, hsB, HNW, rfl⟩ := hrel
        clear HM0
        have w3 : IntKind.i64.wrap (s + tmI) = s + tmI := IntWalk.i64_in _ (by omega)
        have HD0 : Hid (TakeD (fun t : Nat => useO ts out t T) crew ndI tmI s (600 + 300 * (k : Int)) V (.int .i64 (-1)) (.int .i64 s) (V.drewN m4)) :=
          ⟨s.toNat, m4, -1, rfl, by go_num, by omega, by omega, .inl ⟨rfl, fun j h1 h2 => by omega⟩, rfl⟩
        go_wp2
        go_loopw [12, 13] (fun vc vt wi => TakeD (fun t : Nat => useO ts out t T) crew ndI tmI s (600 + 300 * (k : Int)) V vc vt wi) (fun _ vt _ => (s + tmI - intOf vt).toNat)
        case atStart => exact HD0.out
        case round =>
          obtain ⟨t, m6, cl, rfl, rfl, hst, hts, HCL, rfl⟩ := hrel
          clear HD0
          have w4 : IntKind.i64.wrap ((t : Int) + 1) = (t : Int) + 1 := IntWalk.i64_in _ (by omega)
          by_cases hcl0 : cl < 0
          · have HFR : Hid (cl = -1 ∧ ∀ j : Nat, s ≤ j → (j : Int) < t → useO ts out j T + ndI ≤ crew) := by
              rcases HCL.out with h | h
              · exact h
              · exfalso; omega
            have hcl1 : cl = -1 := HFR.out.1
            subst hcl1
            clear HCL hcl0
            by_cases hlt : (t : Int) < s + tmI
            · have hd0 : decide ((t : Int) < s + tmI) = true := by simpa using hlt
              have HU0 : Hid (TakeU ts out ndI t T V (.int .i64 ndI) (.int .i64 0) (V.drewN m6)) := ⟨0, m6, by show Value.int .i64 _ = Value.int .i64 (_ + 0); congr 1; omega, rfl, Nat.zero_le _, rfl⟩
              go_wp2
              go_loopw [14, 58] (fun vu vk wi => TakeU ts out ndI t T V vu vk wi) (fun _ vk _ => T - (intOf vk).toNat)
              case atStart => exact HU0.out
              case round =>
                obtain ⟨j, m5, rfl, rfl, hj, rfl⟩ := hrel
                clear HU0
                have hub := useO_bounds (ts := ts) (out := out) (t := (t : Int)) HSM.out j (by rw [HT.out]; exact hj)
                by_cases hjT : j < T
                · have j1 : (j : Int) < (T : Int) := by omega
                  have j0 : (0 : Int) ≤ (j : Int) := by omega
                  have ct := HTC.out j hjT
                  have co := HOC.out j hjT
                  obtain ⟨e0, e1⟩ := HCS.out j hjT
                  have hob := HOB.out j hjT
                  have hnj := HNE.out j hjT
                  have HUN : Hid (useO ts out t (j + 1) = useO ts out t j + if 0 ≤ nth out j ∧ nth out j ≤ t ∧ (t : Int) < nth out j + timeN ts j then needN ts j else 0) := rfl
                  obtain ⟨u, hu⟩ : ∃ u, useO ts out t j = u := ⟨_, rfl⟩
                  obtain ⟨F, hF⟩ : ∃ F, nth out j = F := ⟨_, rfl⟩
                  obtain ⟨tmJ, htJ⟩ : ∃ x, timeN ts j = x := ⟨_, rfl⟩
                  obtain ⟨ndJ, hnJ⟩ : ∃ x, needN ts j = x := ⟨_, rfl⟩
                  rw [hu] at HUN hub ⊢
                  rw [hF] at HUN co ct hob
                  rw [htJ] at HUN e0 hob
                  rw [hnJ] at HUN e1 hnj
                  clear hu hF htJ hnJ
                  by_cases hF0 : 0 ≤ F
                  · rw [decide_eq_true hF0] at ct
                    rw [show max F 0 = F by omega] at co
                    have w6 : IntKind.i64.wrap (F + tmJ) = F + tmJ := IntWalk.i64_in _ (by omega)
                    have w7 : IntKind.i64.wrap (ndI + u + ndJ) = ndI + u + ndJ := IntWalk.i64_in _ (by omega)
                    by_cases h1 : F ≤ (t : Int)
                    · have hd1 : decide (F ≤ (t : Int)) = true := by simpa using h1
                      by_cases h2 : (t : Int) < F + tmJ
                      · have hd2 : decide ((t : Int) < F + tmJ) = true := by simpa using h2
                        have HUN2 : Hid (ndI + useO ts out t (j + 1) = ndI + u + ndJ) := by show _ = _; rw [HUN.out, if_pos ⟨hF0, h1, h2⟩]; omega
                        clear HUN
                        go_wp2
                        go_quiet (fail)
                        go_wp2
                        go_roundw
                        case rel => exact ⟨j + 1, _, by rw [HUN2.out], by go_num, by omega, rfl⟩
                        case measure => simp [intOf]; omega
                      · have hd2 : decide ((t : Int) < F + tmJ) = false := by simpa using h2
                        have HUN2 : Hid (ndI + useO ts out t (j + 1) = ndI + u) := by show _ = _; rw [HUN.out, if_neg (fun h => h2 h.2.2)]; omega
                        clear HUN
                        go_wp2
                        go_quiet (fail)
                        go_wp2
                        go_roundw
                        case rel => exact ⟨j + 1, _, by rw [HUN2.out], by go_num, by omega, rfl⟩
                        case measure => simp [intOf]; omega
                    · have hd1 : decide (F ≤ (t : Int)) = false := by simpa using h1
                      have HUN2 : Hid (ndI + useO ts out t (j + 1) = ndI + u) := by show _ = _; rw [HUN.out, if_neg (fun h => h1 h.2.1)]; omega
                      clear HUN
                      go_wp2
                      go_quiet (fail)
                      go_wp2
                      go_roundw
                      case rel => exact ⟨j + 1, _, by rw [HUN2.out], by go_num, by omega, rfl⟩
                      case measure => simp [intOf]; omega
                  · rw [decide_eq_false hF0] at ct
                    have HUN2 : Hid (ndI + useO ts out t (j + 1) = ndI + u) := by show _ = _; rw [HUN.out, if_neg (fun h => hF0 h.1)]; omega
                    clear HUN
                    go_wp2
                    go_quiet (fail)
                    go_wp2
                    go_roundw
                    case rel => exact ⟨j + 1, _, by rw [HUN2.out], by go_num, by omega, rfl⟩
                    case measure => simp [intOf]; omega
                · have j1 : ¬ (j : Int) < (T : Int) := by omega
                  obtain rfl : j = T := by omega
                  have HUA : Hid (500 + 300 * (k : Int) ≤ (t : Int) → useO ts out t j = 0) := fun h => useO_none_after h j (fun q hq => (HOB.out q hq).2.1)
                  obtain ⟨u, hu⟩ : ∃ u, useO ts out t j = u := ⟨_, rfl⟩
                  have HU : Hid (useO ts out t j = u) := hu
                  rw [hu] at HUA hub ⊢
                  clear hu
                  by_cases hcl : crew < ndI + u
                  · have htB : (t : Int) < 500 + 300 * (k : Int) := by
                      rcases Int.lt_or_le (t : Int) (500 + 300 * (k : Int)) with h | h
                      · exact h
                      · exfalso; have := HUA.out h; omega
                    have HC2 : Hid (((t : Int) = -1 ∧ ∀ q : Nat, s ≤ q → (q : Int) < ((t + 1 : Nat) : Int) → useO ts out q j + ndI ≤ crew) ∨ (s ≤ (t : Int) ∧ (t : Int) < s + tmI ∧ (t : Int) + 1 ≤ 600 + 300 * (k : Int) ∧ crew < useO ts out ((t : Int).toNat : Nat) j + ndI)) := .inr ⟨hst, hlt, by omega, by rw [Int.toNat_natCast, HU.out]; omega⟩
                    go_wp2
                    go_roundw
                    case rel => exact ⟨t + 1, _, (t : Int), rfl, by go_num, by omega, by omega, HC2.out, rfl⟩
                    case measure => simp [intOf]; omega
                  · have HC2 : Hid ((((-1 : Int)) = -1 ∧ ∀ q : Nat, s ≤ q → (q : Int) < ((t + 1 : Nat) : Int) → useO ts out q j + ndI ≤ crew) ∨ (s ≤ (-1 : Int) ∧ (-1 : Int) < s + tmI ∧ (-1 : Int) + 1 ≤ 600 + 300 * (k : Int) ∧ crew < useO ts out ((-1 : Int).toNat : Nat) j + ndI)) := .inl ⟨rfl, fun q h1 h2 => by
                      by_cases e : q = t
                      · subst e; rw [HU.out]; omega
                      · exact HFR.out.2 q h1 (by omega)⟩
                    go_wp2
                    go_roundw
                    case rel => exact ⟨t + 1, _, -1, rfl, by go_num, by omega, by omega, HC2.out, rfl⟩
                    case measure => simp [intOf]; omega
            · have hd0 : decide ((t : Int) < s + tmI) = false := by simpa using hlt
              have HFIT : Hid (Fit (fun t : Nat => useO ts out t T) crew ndI tmI a s) := fit_of_search has (by omega) HNW.out HFR.out.2
              clear HNW HFR
              have HQ3 : Hid (TakeQ T ts crew E go gt go k W5 (V.drewN m6) out) := HQ2.out.drewN m6
              obtain ⟨X, hX⟩ : ∃ X, V.drewN m6 = X := ⟨_, rfl⟩
              rw [hX] at HQ3 ⊢
              clear hX HQ2 HOC HTC
              have hIN : TakeI ts (zeroS T) crew E (k + 1) (out.set i s) := by
                have h := HQ3.out.inv.step (s := s) HE.out.perm (by rw [HT.out]; exact hkT) HSM.out (by rw [HI.out, Int.toNat_natCast]; exact HTD.out) (by rw [HI.out, Int.toNat_natCast, HT.out, HND'.out, HTI'.out, HLE.out]; exact HFIT.out) (by omega) hsB
                rw [HI.out, Int.toNat_natCast] at h
                exact h
              have hs0 : 0 ≤ s := by omega
              obtain ⟨f1, f2, f3, f4, hput⟩ := HQ3.out.put hs0 hiT HLEN.out HGB.out.1 hIN
              have HPUT := Lib.hid hput
              obtain ⟨g0, _⟩ := HKC.out X HQ3.out.frm i hiT
              rw [HTI'.out] at g0
              clear hput hIN
              go_wp2
              go_roundw
              case rel => exact ⟨k + 1, _, by go_num, by omega, HPUT.out⟩
              case measure => simp [intOf]; omega
          · have HC2 : Hid (s ≤ cl ∧ cl < s + tmI ∧ cl + 1 ≤ 600 + 300 * (k : Int) ∧ crew < useO ts out (cl.toNat : Nat) T + ndI) := by
              rcases HCL.out with h | h
              · exfalso; omega
              · exact h
            obtain ⟨q1, q2, q3, q4⟩ := HC2.out
            have hd1 : decide (cl < 0) = false := by simpa using hcl0
            have HNW2 : Hid (noneW (fun t : Nat => useO ts out t T) crew ndI tmI a (cl + 1)) := by
              have h := HNW.out.jump (b := cl.toNat) (by omega) (by omega) q4
              rw [Int.toNat_of_nonneg (by omega)] at h
              exact h
            have w8 : IntKind.i64.wrap (cl + 1) = cl + 1 := IntWalk.i64_in _ (by omega)
            clear HCL HC2 q4
            by_cases hlt : (t : Int) < s + tmI
            · have hd0 : decide ((t : Int) < s + tmI) = true := by simpa using hlt
              go_wp2
              go_roundw
              case rel => exact ⟨_, cl + 1, rfl, by omega, q3, HNW2.out, rfl⟩
              case measure => simp [intOf]; omega
            · have hd0 : decide ((t : Int) < s + tmI) = false := by simpa using hlt
              go_wp2
              go_roundw
              case rel => exact ⟨_, cl + 1, rfl, by omega, q3, HNW2.out, rfl⟩
              case measure => simp [intOf]; omega
    · have k2 : ¬ (k : Int) < (T : Int) := by omega
      have HKTT : Hid (k = T) := by show _ = _; omega
      have HFIN : Hid (takeL ts crew E = some out ∧ zerL out = out) := by
        have h := HQ.out.inv
        rw [HKTT.out, ← HT.out] at h
        refine ⟨?_, zerL_all fun j hj => ?_⟩
        · rw [HPF.out]
          have h2 := h.done HE.out.perm
          rw [HT.out] at h2
          exact h2
        · rw [h.len] at hj
          have h3 := h.told (j : Int) (by rw [List.take_of_length_le (by rw [OrdOk.len HE.out.perm]; exact Nat.le_refl _)]; exact HE.out.perm.mem_iff.2 (idL_mem.2 (by omega)))
          simpa using h3
      have HOW : Hid (OwnI wr go (.slice (some ⟨go, 0, none⟩) T T) out) := by
        have h := HQ.out.own
        rw [HFIN.out.2] at h
        exact h
      clear hkT
      go_wp2
      go_ret
      first
        | exact ⟨⟨out, HFIN.out.1, go, rfl, HOW.out⟩, HKB.out wr HQ.out.frm⟩
        | (rw [HWG.out]; exact ⟨⟨out, HFIN.out.1, go, rfl, HOW.out⟩, HKB.out wr HQ.out.frm⟩)
end Go.Proofs.Ytnpfninkopffmaa
