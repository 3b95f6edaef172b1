/- impl.OrderPlan where the crew is enough and the order is one. Conditions: as each says. With texts that it needs. -/
import Derived.Test.YtcjeededlhdcbaaCrewsAll18
import Derived.Test.YtcjeededlhdcbaaCrewsAll14
import Derived.Test.YtcjeededlhdcbaaCrewsAll11
import Derived.Test.YtcjeededlhdcbaaCrewsAll10
import Derived.Test.YtcjeededlhdcbaaCrewsAll1
import Derived.Deep.QuietTactic
import Derived.BigQuiet
import Derived.Test.YtcjeededlhdcbaaCrewsAll15
import Derived.Deep.RegionHeld3
namespace Go.Proofs.Ytcjeededlhdcbaa
open Go.RowKit Go.Shelf
set_option linter.unusedVariables false
set_option linter.unusedSimpArgs false
attribute [local go_sem] Oper.semAt_some

/-- An order in which each task stands behind its Before gives a plan. -/
theorem takeL_some {ts : List Tk} {crew : Int} {E : List Int} (hsm : SmTs ts) (hneed : ∀ i, i < ts.length → needN ts i ≤ crew) (hcw : 0 ≤ crew) (hE : OrdOk ts E) : ∃ out, takeL ts crew E = some out := by
  have hb : PlanB ts (zeroS ts.length) crew 0 100 100 := ⟨hsm, hneed, fun i _ => by rw [zeroS_at]; exact Int.le_refl _, fun i hi k hk => by
    have := hsm.lag i hi k hk; omega, fun i hi => (hsm.time i hi).2, by omega, by omega, by omega⟩
  have hl := OrdOk.len hE.perm
  have H : ∀ k, k ≤ E.length → ∃ o, mendL ts (zeroS ts.length) crew (E.take k) (noneL ts.length) = some o := by
    intro k
    induction k with
    | zero => intro _; exact ⟨_, by rw [List.take_zero]; rfl⟩
    | succ k ih =>
      intro hk
      obtain ⟨o, ho⟩ := ih (by omega)
      rw [List.take_succ_eq_append_getElem (by omega), mendL_append, ho, Option.bind_some]
      obtain ⟨_, _, h3⟩ := mendL_plan hb (E.take k) (noneL ts.length) o 0 (PlanI.start hcw) (Int.le_refl _) (fun y hy => by
        have h := idL_mem.1 (hE.perm.mem_iff.1 (List.mem_of_mem_take hy))
        exact ⟨h.1, h.2, nth_replicate (by omega)⟩) (List.Pairwise.sublist (List.take_sublist k E) (perm_nodup hE.perm)) ho
      have ht : toldB ts o (E[k]).toNat = true := toldB_iff.2 fun q hq => by
        have := hE.bef k (by omega) q (by rw [nth_eq (by omega)]; exact hq)
        rw [nth_eq (show k < E.length by omega)] at this
        exact h3 _ this
      unfold mendL
      rw [if_pos ht]
      exact ⟨_, rfl⟩
  obtain ⟨o, ho⟩ := H E.length (Nat.le_refl _)
  rw [List.take_length] at ho
  exact ⟨o, ho⟩
theorem ordOk_id {ts : List Tk} (hsm : SmTs ts) : OrdOk ts (idL ts.length) := by
  refine ⟨List.Perm.refl _, fun k hk q hq => ?_⟩
  rw [idL_get hk, Int.toNat_natCast] at hq ⊢
  have h1 := hsm.bef k hk q hq
  have h2 : (idL ts.length).take k = idL k := by
    unfold idL
    rw [← List.map_take, List.take_range, Nat.min_eq_left (by omega)]
  rw [h2]
  exact idL_mem.2 h1
theorem firstL_try {ts : List Tk} {crew : Int} (hsm : SmTs ts) : firstL ts.length (endOfL ts crew) = tryF ts (flStep (endOfL ts crew)) ts.length [] none :=
  permF_tryF hsm (fun s E h => flStep_none (endOfL_none h)) _ _ _ (PreOk.nil _)
theorem firstL_some {ts : List Tk} {crew : Int} (hsm : SmTs ts) (hneed : ∀ i, i < ts.length → needN ts i ≤ crew) (hcw : 0 ≤ crew) : ∃ E l out, firstL ts.length (endOfL ts crew) = some (E, l) ∧ takeL ts crew E = some out ∧ l = endTo ts out ts.length ∧ E.Perm (idL ts.length) := by
  obtain ⟨o, ho⟩ := takeL_some hsm hneed hcw (ordOk_id hsm)
  obtain ⟨h1, h2⟩ := firstL_spec (n := ts.length) (f := endOfL ts crew)
  cases h : firstL ts.length (endOfL ts crew) with
  | none =>
    have := h1 h (idL ts.length) (List.Perm.refl _)
    rw [endOfL_some ho] at this
    cases this
  | some b =>
    obtain ⟨E, l⟩ := b
    obtain ⟨a1, a2, a3⟩ := h2 E l h
    cases ht : takeL ts crew E with
    | none => rw [endOfL_none ht] at a2; cases a2
    | some out =>
      rw [endOfL_some ht] at a2
      injection a2 with a2
      exact ⟨E, l, out, rfl, ht, a2.symm, a1⟩
set_option maxRecDepth 100000 in
theorem specBest_any (vt : Value) (ts : List Tk) (crew : Int) (w : World) (ht : TasksR w vt ts) (hok : tasksOk ts = true) (h7 : ts.length ≤ 7) (hcw : 0 ≤ crew ∧ crew ≤ 20) (hneed : ∀ i, i < ts.length → needN ts i ≤ crew) :
    Calls Try.prog 13 #[vt, .int .i64 crew] w fun e w' => (∃ E l out g, firstL ts.length (endOfL ts crew) = some (E, l) ∧ takeL ts crew E = some out ∧ l = endTo ts out ts.length ∧ e = .returned (.tuple #[.slice (some ⟨g, 0, none⟩) ts.length ts.length, .int .i64 l, .bool true]) ∧ OwnI w' w.heap.size (.slice (some ⟨g, 0, none⟩) ts.length ts.length) out) ∧ Below w.heap.size w w' := by
  have hsm := tasks_sm hok
  obtain ⟨E0, l0, out0, hF0, hT0, hl0, _⟩ := firstL_some hsm hneed hcw.1
  have HF : Hid (tryF ts (flStep (endOfL ts crew)) ts.length [] none = some (E0, l0)) := by show _ = _; rw [← firstL_try hsm]; exact hF0
  have HF0 := Lib.hid hF0
  have HT0 := Lib.hid hT0
  have HL0 := Lib.hid hl0
  obtain ⟨b, o, c, VB, VL, rfl, hcap, hbw, hsrc⟩ := ht.src hsm.n1
  obtain ⟨T, hT⟩ : ∃ T, ts.length = T := ⟨_, rfl⟩
  rw [hT] at ht hcap HF HF0 HL0 h7 ⊢
  have HC := Lib.hid (specCrew_any (.slice (some ⟨b, o, none⟩) T c) ts crew w ht hok hneed hcw)
  have HTRY : Hid (∀ (W0 W : World) (g : Nat), Below w.heap.size w W0 → Below W0.heap.size W0 W → SpE T ts crew W0.heap.size none W → OwnI W (W0.heap.size + 1) (.slice (some ⟨g, 0, none⟩) 0 0) [] →
      Calls Try.prog 65 #[.slice (some ⟨b, o, none⟩) T c, .slice (some ⟨g, 0, none⟩) 0 0, .int .i64 crew, .pointer (some ⟨W0.heap.size, 0, none⟩)] W fun e W' => e = .returned (.tuple #[]) ∧ Hid (SpE T ts crew W0.heap.size (some (E0, l0)) W') ∧ Hid (GrownL [W0.heap.size] W W')) := fun W0 W g h0 hW hs ho => by
    have h := specTry_any b o c T ts crew W0 W0.heap.size (ht.below h0 (Nat.le_refl _)) hT hok hcw hneed (Nat.le_refl _) T [] (by simp) (OrdPre.nil ts) W none g 0 hW hs (by simpa using ho)
    rw [HF.out] at h
    simpa using h
  have g1 : ¬ (7 : Int) < (T : Int) := by omega
  clear ht hok hneed hsrc hT hsm hF0 hT0 hl0 HF
  go_enter Try.func13, Try.ntmps13
  go_wp2_with fail
  refine HC.out.mono ?_
  rintro e W1 ⟨rfl, q1, rfl⟩
  obtain ⟨W1, hW1⟩ : ∃ W, w.drewN q1 = W := ⟨_, rfl⟩
  have HB1 : Hid (Below w.heap.size w W1) := by rw [← hW1]; exact below_drewN q1 (Below.refl _ _)
  rw [hW1]
  clear hW1 HC
  go_wp2_with fail
  have hbx : ((W1.alloc (.cells #[.slice none 0 0, .int .i64 (-1)] 89)).alloc (.cells #[] 2)).heap[W1.heap.size]? = some (.cells #[.slice none 0 0, .int .i64 (-1)] 89 (0, 0)) := by
    rw [Below.heap_alloc _ _ _ (by simp)]
    exact World.alloc_heap_new W1 _
  have hbe : Below W1.heap.size W1 ((W1.alloc (.cells #[.slice none 0 0, .int .i64 (-1)] 89)).alloc (.cells #[] 2)) := ((Below.refl _ W1).alloc (Nat.le_refl _) _).alloc (by simp) _
  have HT1 := Lib.hid (HTRY.out W1 _ (W1.heap.size + 1) HB1.out hbe hbx (by
    have h := OwnI.lit (W1.alloc (.cells #[.slice none 0 0, .int .i64 (-1)] 89)) (W1.heap.size + 1) [] (by simp) (by unfold maxLen; simp)
    rw [World.size_alloc] at h
    exact h))
  have HBE := Lib.hid hbe
  clear hbx hbe HTRY
  refine HT1.out.mono ?_
  rintro e W5 ⟨rfl, HS5, HG5⟩
  have HB5 : Hid (Below w.heap.size w W5) := HB1.out.trans ((HG5.out.toBelow HBE.out (by have := HBE.out.size; omega) (fun i hi => by simp; omega)).mono HB1.out.size)
  obtain ⟨hl0, g3, out3, ht3, hbk, ho3⟩ := HS5.out
  obtain ⟨k1, k2, k3, k4⟩ := two_cells hbk
  have HO3 := Lib.hid (ho3.mono (show w.heap.size ≤ W1.heap.size + 1 by have := HB1.out.size; omega))
  have HT3 := Lib.hid ht3
  clear hbk ho3 ht3 HT1 HBE HS5 HG5
  go_wp2
  go_quiet (fail)
  go_wp2
  go_ret3
  exact ⟨⟨E0, l0, out3, g3, HF0.out, HT3.out, by have h := HT3.out; rw [HT0.out] at h; injection h with h; rw [← h]; exact HL0.out, rfl, HO3.out.drewN _⟩, below_drewN _ HB5.out⟩
end Go.Proofs.Ytcjeededlhdcbaa

namespace Go.Proofs.Ytcjeededlhdcbaa
open Go.RowKit
set_option linter.unusedVariables false
set_option linter.unusedSimpArgs false

theorem areWorkersC_any (n : Int) (w : World) : Calls Try.prog 67 #[.int .i64 n] w fun e w' => e = .returned (.bool (win n 1 8)) ∧ w = w' := by
  go_enter Try.func67, Try.ntmps67
  go_wp2_with (go_at_call 54; refine (within_any _ _ _ _).mono ?_; rintro e w' ⟨rfl, rfl⟩)
  go_ret
  exact ⟨rfl, rfl⟩
/-- The end of the plan of a rule. -/
noncomputable def endR (ts : List Tk) (kind crew : Int) : Int := match takeL ts crew (ruleN ts kind) with
  | some out => endTo ts out ts.length
  | none => 0
theorem endR_some {ts : List Tk} {kind crew : Int} {out : List Int} (h : takeL ts crew (ruleN ts kind) = some out) : endR ts kind crew = endTo ts out ts.length := by unfold endR; rw [h]
theorem endR_bounds {ts : List Tk} {kind crew : Int} (hsm : SmTs ts) (hneed : ∀ i, i < ts.length → needN ts i ≤ crew) (hcw : 0 ≤ crew) : 0 ≤ endR ts kind crew ∧ endR ts kind crew ≤ 1000100 := by
  obtain ⟨out, h⟩ := takeL_some hsm hneed hcw (ruleN_ok hsm kind)
  rw [endR_some h]
  exact endTo_bounds hsm (takeL_sm hsm hneed hcw (ruleN_ok hsm kind).perm h).1 _ (Nat.le_refl _)
/-- RulePlan, by its result alone. -/
theorem RulePlanE_any (vt : Value) (ts : List Tk) (kind crew : Int) (w : World) (ht : TasksR w vt ts) (hok : tasksOk ts = true) (hkd : kind = 0 ∨ kind = 1 ∨ kind = 2 ∨ kind = 3) (hcr : 0 ≤ crew ∧ crew ≤ 20) (hneed : ∀ i, i < ts.length → needN ts i ≤ crew) :
    Calls Try.prog 9 #[vt, .int .i64 kind, .int .i64 crew] w fun e w' => (∃ out g, takeL ts crew (ruleN ts kind) = some out ∧ SmSt out ts.length ∧ e = .returned (.tuple #[.slice (some ⟨g, 0, none⟩) ts.length ts.length, .int .i64 (endR ts kind crew), .bool true]) ∧ OwnI w' w.heap.size (.slice (some ⟨g, 0, none⟩) ts.length ts.length) out) ∧ Below w.heap.size w w' := by
  have hsm := tasks_sm hok
  obtain ⟨o, ho⟩ := takeL_some hsm hneed hcr.1 (ruleN_ok hsm kind)
  refine (RulePlan_any vt ts kind crew w ht hok hkd hcr hneed).mono ?_
  rintro e w' ⟨h, hb⟩
  rcases h with ⟨h1, _⟩ | ⟨out, g, h1, h2, h3, h4⟩
  · rw [ho] at h1; cases h1
  · exact ⟨⟨out, g, h1, h2, by rw [endR_some h1]; exact h3, h4⟩, hb⟩
/-- What a round knows. -/
def CrsR (ts : List Tk) (cs : List Int) (C : Nat) (w : World) (vo vk : Value) (wr : World) : Prop :=
  ∃ (k g c : Nat), k ≤ C ∧ vk = .int .i64 k ∧ vo = .slice (some ⟨g, 0, none⟩) k c ∧ Hid (OwnI wr w.heap.size (.slice (some ⟨g, 0, none⟩) k c) ((cs.take k).map (endR ts 0))) ∧ Hid (Below w.heap.size w wr)
set_option maxRecDepth 100000 in
set_option maxHeartbeats 1000000 in
theorem CrewsShared_any (vt vc : Value) (ts : List Tk) (cs : List Int) (workers : Int) (w : World) (ht : TasksR w vt ts) (hok : tasksOk ts = true) (hc : Ints w vc cs) (hc16 : cs.length ≤ 16) (hcs : ∀ c ∈ cs, (0 ≤ c ∧ c ≤ 20) ∧ ∀ i, i < ts.length → needN ts i ≤ c) (hw : 1 ≤ workers ∧ workers ≤ 8) :
    Calls Try.prog 14 #[vt, vc, .int .i64 workers] w fun e w' => (∃ g c, e = .returned (.tuple #[.slice (some ⟨g, 0, none⟩) cs.length c, .bool true]) ∧ OwnI w' w.heap.size (.slice (some ⟨g, 0, none⟩) cs.length c) (cs.map (endR ts 0))) ∧ Below w.heap.size w w' := by
  have hsm := tasks_sm hok
  have HA := Lib.hid (areTasks_any vt ts w ht)
  rw [hok] at HA
  have HWK : Hid (∀ W, Calls Try.prog 67 #[.int .i64 workers] W fun e w' => e = .returned (.bool true) ∧ W = w') := fun W => by
    have h := areWorkersC_any workers W
    rwa [show win workers 1 8 = true from win_true.2 hw] at h
  have HR : Hid (∀ (x : Int) W, x ∈ cs → Below w.heap.size w W → Calls Try.prog 9 #[vt, .int .i64 0, .int .i64 x] W fun e w' => (∃ g, e = .returned (.tuple #[.slice (some ⟨g, 0, none⟩) ts.length ts.length, .int .i64 (endR ts 0 x), .bool true])) ∧ Below W.heap.size W w') := fun x W hx hW => by
    refine (RulePlanE_any vt ts 0 x W (ht.below hW (Nat.le_refl _)) hok (.inl rfl) (hcs x hx).1 (hcs x hx).2).mono ?_
    rintro e w' ⟨⟨out, g, _, _, h3, _⟩, h5⟩
    exact ⟨⟨g, h3⟩, h5⟩
  obtain ⟨b, o, c, VB, VL, rfl, hcap, hbw, hsrc⟩ := ht.src hsm.n1
  obtain ⟨aC, cC, rfl, ccap, hC⟩ := hc.view
  have HC : Hid (∀ W, Below w.heap.size w W → ∀ k, k < cs.length → ∃ b o, aC = some ⟨b, o, none⟩ ∧ W.cell? ⟨b, o + k, none⟩ = some (.int .i64 (nth cs k))) := hC
  obtain ⟨T, hT⟩ : ∃ T, ts.length = T := ⟨_, rfl⟩
  obtain ⟨C, hCl⟩ : ∃ C, cs.length = C := ⟨_, rfl⟩
  have HCL := Lib.hid hCl
  have HEB : Hid (∀ x ∈ cs, 0 ≤ endR ts 0 x ∧ endR ts 0 x ≤ 1000100) := fun x hx => endR_bounds hsm (hcs x hx).2 (hcs x hx).1.1
  rw [hT] at HA HR hcap ⊢
  rw [hCl] at HC hc16 ccap ⊢
  clear ht hok hc hcs hsm hsrc hC hT hCl
  have g16 : ¬ (16 : Int) < (C : Int) := by omega
  go_enter Try.func14, Try.ntmps14
  go_wp2_with fail
  refine HA.out.mono ?_
  rintro e W1 ⟨rfl, hb1⟩
  have HB1 := Lib.hid hb1
  clear hb1 HA
  go_wp2_with fail
  refine (HWK.out _).mono ?_
  rintro e w' ⟨rfl, rfl⟩
  go_wp2_with fail
  have HR0 : Hid (CrsR ts cs C w (.slice (some ⟨W1.heap.size, 0, none⟩) 0 0) (.int .i64 0) (W1.alloc (.cells #[] 2))) :=
    ⟨0, W1.heap.size, 0, Nat.zero_le _, rfl, rfl, by
      have h := (OwnI.lit W1 W1.heap.size [] (Nat.le_refl _) (by unfold maxLen; simp)).mono HB1.out.size
      show OwnI _ _ _ _
      simpa using h, HB1.out.alloc HB1.out.size _⟩
  go_loopw [8, 30] (fun vo vk wr => CrsR ts cs C w vo vk wr) (fun _ vk _ => C - (intOf vk).toNat)
  case atStart => exact HR0.out
  case round =>
    obtain ⟨k, g, c8, hk, rfl, rfl, HO, HB⟩ := hrel
    clear HR0
    by_cases hkC : k < C
    · obtain ⟨b2, o2, rfl, cc⟩ := HC.out wr HB.out k hkC
      have k0 : (0 : Int) ≤ (k : Int) := by omega
      have k1 : (k : Int) < (C : Int) := by omega
      have hx : nth cs k ∈ cs := nth_mem (by rw [HCL.out]; exact hkC)
      have hmap : (cs.take (k + 1)).map (endR ts 0) = (cs.take k).map (endR ts 0) ++ [endR ts 0 (nth cs k)] := by
        rw [List.take_succ_eq_append_getElem (by rw [HCL.out]; exact hkC), List.map_append, nth_eq (by rw [HCL.out]; exact hkC)]; rfl
      obtain ⟨x, hxe⟩ : ∃ x, nth cs k = x := ⟨_, rfl⟩
      rw [hxe] at cc hx hmap
      have HMP := Lib.hid hmap
      have HRX := Lib.hid (HR.out x wr hx HB.out)
      have hbx := HEB.out x hx
      obtain ⟨ex, hex⟩ : ∃ ex, endR ts 0 x = ex := ⟨_, rfl⟩
      rw [hex] at HMP HRX hbx
      have hlk : ((cs.take k).map (endR ts 0)).length = k := by simp; have := HCL.out; omega
      have HLK := Lib.hid hlk
      clear hxe hmap hx hex hlk
      go_wp2_with (first
        | (go_at_call 9; refine HRX.out.mono ?_; rintro e W2 ⟨⟨g2, rfl⟩, hb2⟩; have HB2 : Hid (Below w.heap.size w W2) := HB.out.trans (hb2.mono HB.out.size); have HO2 := Lib.hid (HO.out.below hb2 (Nat.le_refl _)); have hs2 : w.heap.size ≤ W2.heap.size := HB2.out.size; clear hb2)
        | (at_builtin; refine append_i64 rfl _ _ rfl w.heap.size (.slice (some ⟨g, 0, none⟩) k c8) ((cs.take k).map (endR ts 0)) [ex] (Nat.zero_lt_succ _) rfl _ rfl HO2.out hs2 (by rw [HLK.out]; simp; omega) ?_; intro g3 c3 w3 ho3 hg3; have hb3 := Below.app HB2.out HO2.out hg3 hs2; rw [HLK.out] at ho3; rw [HLK.out]; have HO3 := Lib.hid ho3; have HB3 := Lib.hid hb3; clear ho3 hb3 hg3))
      go_roundw
      case rel => exact ⟨k + 1, g3, c3, by omega, by go_num, rfl, by show OwnI _ _ _ _; rw [HMP.out]; exact HO3.out, HB3.out⟩
      case measure => simp [intOf]; omega
    · obtain rfl : k = C := by omega
      go_wp2
      go_ret2
      refine ⟨⟨g, c8, rfl, ?_⟩, HB.out⟩
      have h := HO.out
      rwa [← HCL.out, List.take_length, HCL.out] at h
end Go.Proofs.Ytcjeededlhdcbaa

namespace Go.Proofs.Ytcjeededlhdcbaa
open Go.RowKit
set_option linter.unusedVariables false
set_option linter.unusedSimpArgs false

/-- A lag of i is below 0. -/
def negB (ts : List Tk) (i : Nat) : Bool := (lagN ts i).any fun x => decide (x < 0)
def anyNeg (ts : List Tk) : Bool := (List.range ts.length).any fun i => negB ts i
theorem anyNeg_true {ts : List Tk} {i : Nat} (hi : i < ts.length) (h : negB ts i = true) : anyNeg ts = true := by
  unfold anyNeg; rw [List.any_eq_true]; exact ⟨i, List.mem_range.2 hi, h⟩
theorem anyNeg_false {ts : List Tk} (h : ∀ i, i < ts.length → negB ts i = false) : anyNeg ts = false := by
  unfold anyNeg; rw [List.any_eq_false]; exact fun i hi => by rw [h i (List.mem_range.1 hi)]; simp
def workTo (ts : List Tk) : Nat → Int
  | 0 => 0
  | k + 1 => workTo ts k + timeN ts k * needN ts k
theorem workTo_bounds {ts : List Tk} (h : SmTs ts) : ∀ k, k ≤ ts.length → 0 ≤ workTo ts k ∧ workTo ts k ≤ 2000 * (k : Int)
  | 0, _ => by unfold workTo; omega
  | k + 1, hk => by
    have h1 := workTo_bounds h k (by omega)
    have h2 := h.time k (by omega)
    have h3 := h.need k (by omega)
    have h4 : timeN ts k * needN ts k ≤ 100 * 20 := Int.mul_le_mul h2.2 h3.2 h3.1 (by omega)
    have h5 : 0 ≤ timeN ts k * needN ts k := Int.mul_nonneg h2.1 h3.1
    unfold workTo
    omega
def boundV (ts : List Tk) (crew : Int) : Int := max (endN ts) ((workTo ts ts.length + crew - 1) / crew)
theorem upward_any (a b : Int) (w : World) (ha : 0 ≤ a ∧ a ≤ 1000000000) (hb : 1 ≤ b ∧ b ≤ 1000000) : Calls Try.prog 71 #[.int .i64 a, .int .i64 b] w fun e w' => e = .returned (.int .i64 ((a + b - 1) / b)) ∧ w = w' := by
  have w1 : IntKind.i64.wrap (a + b) = a + b := IntWalk.i64_in _ (by omega)
  have w2 : IntKind.i64.wrap (a + b - 1) = a + b - 1 := IntWalk.i64_in _ (by omega)
  have hne : b ≠ 0 := by omega
  go_enter Try.func71, Try.ntmps71
  go_wp2
  go_ret
  exact ⟨rfl, rfl⟩
theorem negTest_any (x : Int) (w : World) : TestAt 70 #[] (fun x => decide (x < 0)) x w := by
  unfold TestAt
  go_enter Try.func70, Try.ntmps70
  go_wp2
  go_ret
  exact ⟨rfl, 0, rfl⟩
def BouR (ts : List Tk) (T : Nat) (w : World) (vs vk : Value) (wr : World) : Prop :=
  ∃ k : Nat, k ≤ T ∧ vk = .int .i64 k ∧ vs = .int .i64 (workTo ts k) ∧ Hid (∀ i, i < k → negB ts i = false) ∧ Hid (Below w.heap.size w wr)
set_option maxRecDepth 100000 in
set_option maxHeartbeats 1000000 in
theorem PlanBound_any (vt : Value) (ts : List Tk) (crew : Int) (w : World) (ht : TasksR w vt ts) (hok : tasksOk ts = true) (hcr : 1 ≤ crew ∧ crew ≤ 20) (hneed : ∀ i, i < ts.length → needN ts i ≤ crew) :
    Calls Try.prog 15 #[vt, .int .i64 crew] w fun e w' => ((anyNeg ts = true ∧ e = .returned (.tuple #[.int .i64 0, .bool false])) ∨ (anyNeg ts = false ∧ e = .returned (.tuple #[.int .i64 (boundV ts crew), .bool true]))) ∧ Below w.heap.size w w' := by
  have hsm := tasks_sm hok
  have heg := enters_of Try.func70 (by kernel_rfl) rfl
  have HES := Lib.hid (EarlyStarts_any vt ts w ht hok)
  have HWI : Hid (∀ W, Calls Try.prog 54 #[.int .i64 crew, .int .i64 1, .int .i64 20] W fun e w' => e = .returned (.bool true) ∧ W = w') := fun W => by
    have h := within_any crew 1 20 W
    rwa [show win crew 1 20 = true from win_true.2 hcr] at h
  obtain ⟨b, o, c, AB, CB, AL, CL, rfl, hcap, hbw, hV⟩ := ht.view hsm.n1
  have HV : Hid (∀ W, Below w.heap.size w W → TkView W b o ts AB CB AL CL) := hV
  have HND := Lib.hid hneed
  have HSM := Lib.hid hsm
  have HWB : Hid (∀ k, k ≤ ts.length → 0 ≤ workTo ts k ∧ workTo ts k ≤ 2000 * (k : Int)) := workTo_bounds hsm
  obtain ⟨T, hT⟩ : ∃ T, ts.length = T := ⟨_, rfl⟩
  have HT : Hid (ts.length = T) := hT
  have h16 : T ≤ 16 := by have := hsm.n16; omega
  have HUP : Hid (∀ W, Calls Try.prog 71 #[.int .i64 (workTo ts T), .int .i64 crew] W fun e w' => e = .returned (.int .i64 ((workTo ts T + crew - 1) / crew)) ∧ W = w') := fun W => upward_any _ _ W (by have := HWB.out T (by omega); omega) (by omega)
  have HBV : Hid (boundV ts crew = max (endN ts) ((workTo ts T + crew - 1) / crew)) := by show _ = _; unfold boundV; rw [hT]
  obtain ⟨X, hX⟩ : ∃ X, (workTo ts T + crew - 1) / crew = X := ⟨_, rfl⟩
  rw [hX] at HUP HBV
  obtain ⟨E, hE⟩ : ∃ E, endN ts = E := ⟨_, rfl⟩
  rw [hE] at HES HBV
  rw [hT] at HES HWB hcap ⊢
  clear ht hok hneed hsm hV hT hX hE
  go_enter Try.func15, Try.ntmps15
  go_wp2_with fail
  refine HES.out.mono ?_
  rintro e W1 ⟨⟨g1, rfl, _⟩, hb1⟩
  have HB1 := Lib.hid hb1
  clear hb1 HES
  go_wp2_with fail
  refine (HWI.out _).mono ?_
  rintro e w' ⟨rfl, rfl⟩
  have HR0 : Hid (BouR ts T w (.int .i64 0) (.int .i64 0) W1) := ⟨0, Nat.zero_le _, rfl, rfl, fun i hi => absurd hi (Nat.not_lt_zero _), HB1.out⟩
  go_wp2_with fail
  go_loopw [9, 27] (fun vs vk wr => BouR ts T w vs vk wr) (fun _ vk _ => T - (intOf vk).toNat)
  case atStart => exact HR0.out
  case round =>
    obtain ⟨k, hk, rfl, rfl, HN, HB⟩ := hrel
    clear HR0 HB1
    by_cases hkT : k < T
    · have k0 : (0 : Int) ≤ (k : Int) := by omega
      have k1 : (k : Int) < (T : Int) := by omega
      have hc := HV.out wr HB.out k (by rw [HT.out]; exact hkT)
      have c0 := hc.time
      have c1 := hc.need
      have c2 := hc.bef
      have c3 := hc.lag
      obtain ⟨LB, hLB⟩ : ∃ n, (tkN ts k).2.2.1.length = n := ⟨_, rfl⟩
      obtain ⟨LL, hLL⟩ : ∃ n, (tkN ts k).2.2.2.length = n := ⟨_, rfl⟩
      rw [hLB] at c2
      rw [hLL] at c3
      have hl16 : LL ≤ 16 := by
        have h1 := HSM.out.len k (by rw [HT.out]; exact hkT)
        have h2 := HSM.out.blen k (by rw [HT.out]; exact hkT)
        have h3 : (lagN ts k).length = LL := hLL
        omega
      have hnk : needN ts k ≤ crew := HND.out k (by rw [HT.out]; exact hkT)
      have htb := HSM.out.time k (by rw [HT.out]; exact hkT)
      have hnb := HSM.out.need k (by rw [HT.out]; exact hkT)
      have HCF : Hid (∀ W, Below w.heap.size w W → Calls Try.prog 69 #[.slice (AL k) LL (CL k), .func (.func 70) #[] #[]] W fun e w' => e = .returned (.bool (negB ts k)) ∧ Below W.heap.size W w') := fun W hW => by
        have hcv := HV.out W hW k (by rw [HT.out]; exact hkT)
        have h := containsF_any (AL k) (CL k) (lagN ts k) 70 #[] (fun x => decide (x < 0)) W (by have h3 : (lagN ts k).length = LL := hLL; omega) hcv.lagAt (fun j hj q => negTest_any _ _) heg
        rw [show (lagN ts k).length = LL from hLL] at h
        refine h.mono ?_
        rintro e w' ⟨h1, q, rfl⟩
        exact ⟨h1, below_drewN q (Below.refl _ _)⟩
      have hwk := HWB.out k hk
      have hwk1 := HWB.out (k + 1) hkT
      have hstep : workTo ts (k + 1) = workTo ts k + timeN ts k * needN ts k := rfl
      obtain ⟨nb, hnb2⟩ : ∃ nb, negB ts k = nb := ⟨_, rfl⟩
      have HNB := Lib.hid hnb2
      rw [hnb2] at HCF
      obtain ⟨Y, hY⟩ : ∃ Y, workTo ts k = Y := ⟨_, rfl⟩
      obtain ⟨Z, hZ⟩ : ∃ Z, workTo ts (k + 1) = Z := ⟨_, rfl⟩
      have HZ := Lib.hid hZ
      obtain ⟨tm, htm⟩ : ∃ x, timeN ts k = x := ⟨_, rfl⟩
      obtain ⟨nd, hnd⟩ : ∃ x, needN ts k = x := ⟨_, rfl⟩
      rw [hY, hZ, htm, hnd] at hstep
      rw [hY] at hwk ⊢
      rw [hZ] at hwk1
      rw [show (tkN ts k).1 = tm from htm] at c0
      rw [show (tkN ts k).2.1 = nd from hnd] at c1
      rw [hnd] at hnk hnb
      rw [htm] at htb
      have hmul : 0 ≤ tm * nd ∧ tm * nd ≤ 2000 := ⟨Int.mul_nonneg htb.1 hnb.1, Int.mul_le_mul htb.2 hnb.2 hnb.1 (by omega)⟩
      have hn3 : ¬ crew < nd := by omega
      have w9 : IntKind.i64.wrap (tm * nd) = tm * nd := IntWalk.i64_in _ (by omega)
      have w8 : IntKind.i64.wrap (Y + tm * nd) = Y + tm * nd := IntWalk.i64_in _ (by omega)
      have HSTP := Lib.hid hstep
      clear hc hLB hLL hnb2 hY hZ htm hnd hstep hwk1 hmul
      go_wp2_with fail
      refine (HCF.out _ (HB.out.alloc HB.out.size _)).mono ?_
      rintro e W2 ⟨rfl, hb2⟩
      have d0 : W2.cell? ⟨wr.heap.size, 0, none⟩ = some (.int .i64 tm) := (hb2.cell (p := ⟨wr.heap.size, 0, none⟩) (by show wr.heap.size < _; simp)).trans (by simp)
      have d1 : W2.cell? ⟨wr.heap.size, 1, none⟩ = some (.int .i64 nd) := (hb2.cell (p := ⟨wr.heap.size, 1, none⟩) (by show wr.heap.size < _; simp)).trans (by simp)
      have HB2 : Hid (Below w.heap.size w W2) := (HB.out.alloc HB.out.size _).trans (hb2.mono (by have := HB.out.size; simp; omega))
      clear hb2 HCF c0 c1 c2 c3
      cases nb
      · go_wp2
        go_roundw
        case rel =>
          refine ⟨k + 1, by omega, by go_num, ?_, fun i hi => ?_, HB2.out⟩
          · rw [HZ.out, HSTP.out]
          · rcases Nat.lt_succ_iff_lt_or_eq.1 hi with h | rfl
            · exact HN.out i h
            · exact HNB.out
        case measure => simp [intOf]; omega
      · have HAN := Lib.hid (anyNeg_true (ts := ts) (i := k) (by rw [HT.out]; exact hkT) HNB.out)
        go_wp2
        go_ret2
        exact ⟨.inl ⟨HAN.out, rfl⟩, HB2.out⟩
    · obtain rfl : k = T := by omega
      have HAN : Hid (anyNeg ts = false) := anyNeg_false fun i hi => HN.out i (by rw [← HT.out]; exact hi)
      have HUW := Lib.hid (HUP.out wr)
      obtain ⟨Y, hY⟩ : ∃ Y, workTo ts k = Y := ⟨_, rfl⟩
      rw [hY] at HUW ⊢
      clear hY HUP
      go_wp2_with (go_at_call 71; refine HUW.out.mono ?_; rintro e w' ⟨rfl, rfl⟩)
      go_ret2
      exact ⟨.inr ⟨HAN.out, by rw [HBV.out]; rfl⟩, HB.out⟩
end Go.Proofs.Ytcjeededlhdcbaa

namespace Go.Proofs.Ytcjeededlhdcbaa
open Go.RowKit
set_option linter.unusedVariables false
set_option linter.unusedSimpArgs false

/-- What is done by the time at, of the first k tasks. -/
def doneTo (ts : List Tk) (st : List Int) (at_ : Int) : Nat → Int
  | 0 => 0
  | k + 1 => doneTo ts st at_ k + needN ts k * max 0 (min (timeN ts k) (at_ - nth st k))
def allTo (ts : List Tk) : Nat → Int
  | 0 => 0
  | k + 1 => allTo ts k + needN ts k * timeN ts k
theorem allTo_bounds {ts : List Tk} (h : SmTs ts) : ∀ k, k ≤ ts.length → 0 ≤ allTo ts k ∧ allTo ts k ≤ 2000 * (k : Int)
  | 0, _ => by unfold allTo; omega
  | k + 1, hk => by
    have h1 := allTo_bounds h k (by omega)
    have h2 := h.time k (by omega)
    have h3 := h.need k (by omega)
    have h4 : needN ts k * timeN ts k ≤ 20 * 100 := Int.mul_le_mul h3.2 h2.2 h2.1 (by omega)
    have h5 : 0 ≤ needN ts k * timeN ts k := Int.mul_nonneg h3.1 h2.1
    unfold allTo
    omega
theorem doneTo_bounds {ts : List Tk} {st : List Int} {at_ : Int} (h : SmTs ts) : ∀ k, k ≤ ts.length → 0 ≤ doneTo ts st at_ k ∧ doneTo ts st at_ k ≤ 2000 * (k : Int)
  | 0, _ => by unfold doneTo; omega
  | k + 1, hk => by
    have h1 := doneTo_bounds (st := st) (at_ := at_) h k (by omega)
    have h2 := h.time k (by omega)
    have h3 := h.need k (by omega)
    have h6 : 0 ≤ max 0 (min (timeN ts k) (at_ - nth st k)) ∧ max 0 (min (timeN ts k) (at_ - nth st k)) ≤ 100 := by omega
    have h4 : needN ts k * max 0 (min (timeN ts k) (at_ - nth st k)) ≤ 20 * 100 := Int.mul_le_mul h3.2 h6.2 h6.1 (by omega)
    have h5 : 0 ≤ needN ts k * max 0 (min (timeN ts k) (at_ - nth st k)) := Int.mul_nonneg h3.1 h6.1
    unfold doneTo
    omega
def ProR (ts : List Tk) (st : List Int) (at_ : Int) (T : Nat) (w : World) (vd va vk : Value) (wr : World) : Prop :=
  ∃ k : Nat, k ≤ T ∧ vk = .int .i64 k ∧ vd = .int .i64 (doneTo ts st at_ k) ∧ va = .int .i64 (allTo ts k) ∧ Hid (Below w.heap.size w wr)
set_option maxRecDepth 100000 in
set_option maxHeartbeats 1000000 in
theorem ProgressOf_any (vt vs : Value) (ts : List Tk) (st : List Int) (at_ : Int) (w : World) (ht : TasksR w vt ts) (hs : Ints w vs st) (hok : tasksOk ts = true) (hst : many st ts.length ts.length 0 100000 = true) (hat : 0 ≤ at_ ∧ at_ ≤ 100000) :
    Calls Try.prog 20 #[vt, vs, .int .i64 at_] w fun e w' => e = .returned (.tuple #[.int .i64 (doneTo ts st at_ ts.length), .int .i64 (allTo ts ts.length), .bool true]) ∧ Below w.heap.size w w' := by
  have hsm := tasks_sm hok
  have HA := Lib.hid (areTasks_any vt ts w ht)
  rw [hok] at HA
  have HM : Hid (∀ W, Below w.heap.size w W → Calls Try.prog 77 #[vs, .int .i64 ts.length, .int .i64 ts.length, .int .i64 0, .int .i64 100000] W fun e w' => e = .returned (.bool true) ∧ W = w') := fun W hW => by
    have h := areMany_any vs st ts.length ts.length 0 100000 W (hs.below hW (Nat.le_refl _))
    rwa [hst] at h
  have HWI : Hid (∀ W, Calls Try.prog 54 #[.int .i64 at_, .int .i64 0, .int .i64 100000] W fun e w' => e = .returned (.bool true) ∧ W = w') := fun W => by
    have h := within_any at_ 0 100000 W
    rwa [show win at_ 0 100000 = true from win_true.2 hat] at h
  obtain ⟨hm1, hm2, hm3⟩ := many_true.1 hst
  have hsl : st.length = ts.length := by omega
  have HSB : Hid (∀ k, k < ts.length → 0 ≤ nth st k ∧ nth st k ≤ 100000) := fun k hk => by
    rw [List.all_eq_true] at hm3
    exact win_true.1 (hm3 _ (by rw [nth_eq (by omega)]; exact List.getElem_mem _))
  obtain ⟨b, o, c, AB, CB, AL, CL, rfl, hcap, hbw, hV⟩ := ht.view hsm.n1
  obtain ⟨aS, cS, rfl, scap, hS⟩ := hs.view
  rw [hsl] at scap hS HM ⊢
  have HV : Hid (∀ W, Below w.heap.size w W → TkView W b o ts AB CB AL CL) := hV
  have HS : Hid (∀ W, Below w.heap.size w W → ∀ k, k < ts.length → ∃ b o, aS = some ⟨b, o, none⟩ ∧ W.cell? ⟨b, o + k, none⟩ = some (.int .i64 (nth st k))) := hS
  have HSM := Lib.hid hsm
  have HAB : Hid (∀ k, k ≤ ts.length → 0 ≤ allTo ts k ∧ allTo ts k ≤ 2000 * (k : Int)) := allTo_bounds hsm
  have HDB : Hid (∀ k, k ≤ ts.length → 0 ≤ doneTo ts st at_ k ∧ doneTo ts st at_ k ≤ 2000 * (k : Int)) := doneTo_bounds hsm
  obtain ⟨T, hT⟩ : ∃ T, ts.length = T := ⟨_, rfl⟩
  have HT : Hid (ts.length = T) := hT
  have h16 : T ≤ 16 := by have := hsm.n16; omega
  rw [hT] at HM HSB HS HAB HDB hcap scap ⊢
  have HR0 : ∀ W1, Below w.heap.size w W1 → Hid (ProR ts st at_ T w (.int .i64 0) (.int .i64 0) (.int .i64 0) W1) := fun W1 h => ⟨0, Nat.zero_le _, rfl, rfl, rfl, h⟩
  rw [hT] at HA
  clear ht hs hok hst hsm hV hT hS hm1 hm2 hm3 hsl
  go_enter Try.func20, Try.ntmps20
  go_wp2_with fail
  refine HA.out.mono ?_
  rintro e W1 ⟨rfl, hb1⟩
  have HB1 := Lib.hid hb1
  clear hb1 HA
  go_wp2_with fail
  refine (HM.out _ HB1.out).mono ?_
  rintro e w' ⟨rfl, rfl⟩
  go_wp2_with fail
  refine (HWI.out _).mono ?_
  rintro e w' ⟨rfl, rfl⟩
  have HR1 := HR0 _ HB1.out
  clear HR0
  go_wp2_with fail
  go_loopw [9, 10, 32] (fun vd va vk wr => ProR ts st at_ T w vd va vk wr) (fun _ _ vk _ => T - (intOf vk).toNat)
  case atStart => exact HR1.out
  case round =>
    obtain ⟨k, hk, rfl, rfl, rfl, HB⟩ := hrel
    clear HR1 HB1
    by_cases hkT : k < T
    · have k0 : (0 : Int) ≤ (k : Int) := by omega
      have k1 : (k : Int) < (T : Int) := by omega
      have hc := HV.out wr HB.out k (by rw [HT.out]; exact hkT)
      have c0 := hc.time
      have c1 := hc.need
      have c2 := hc.bef
      have c3 := hc.lag
      obtain ⟨LB, hLB⟩ : ∃ n, (tkN ts k).2.2.1.length = n := ⟨_, rfl⟩
      obtain ⟨LL, hLL⟩ : ∃ n, (tkN ts k).2.2.2.length = n := ⟨_, rfl⟩
      rw [hLB] at c2
      rw [hLL] at c3
      obtain ⟨bs, os, rfl, cs⟩ := HS.out wr HB.out k hkT
      have hbs := lt_of_cell cs
      have hsb := HSB.out k hkT
      have htb := HSM.out.time k (by rw [HT.out]; exact hkT)
      have hnb := HSM.out.need k (by rw [HT.out]; exact hkT)
      have hd := HDB.out k hk
      have ha := HAB.out k hk
      have hd1 : doneTo ts st at_ (k + 1) = doneTo ts st at_ k + needN ts k * max 0 (min (timeN ts k) (at_ - nth st k)) := rfl
      have ha1 : allTo ts (k + 1) = allTo ts k + needN ts k * timeN ts k := rfl
      obtain ⟨D, hD⟩ : ∃ D, doneTo ts st at_ k = D := ⟨_, rfl⟩
      obtain ⟨A, hA⟩ : ∃ A, allTo ts k = A := ⟨_, rfl⟩
      obtain ⟨tm, htm⟩ : ∃ x, timeN ts k = x := ⟨_, rfl⟩
      obtain ⟨nd, hnd⟩ : ∃ x, needN ts k = x := ⟨_, rfl⟩
      obtain ⟨s, hs⟩ : ∃ x, nth st k = x := ⟨_, rfl⟩
      rw [hD, htm, hnd, hs] at hd1
      rw [hA, htm, hnd] at ha1
      rw [hD] at hd ⊢
      rw [hA] at ha ⊢
      rw [hs] at cs hsb
      rw [show (tkN ts k).1 = tm from htm] at c0
      rw [show (tkN ts k).2.1 = nd from hnd] at c1
      rw [hnd] at hnb
      rw [htm] at htb
      have HD1 := Lib.hid hd1
      have HA1 := Lib.hid ha1
      have w0 : IntKind.i64.wrap (at_ - s) = at_ - s := IntWalk.i64_in _ (by omega)
      have hmx : 0 ≤ max 0 (min tm (at_ - s)) ∧ max 0 (min tm (at_ - s)) ≤ 100 := by omega
      have hm1 : 0 ≤ nd * max 0 (min tm (at_ - s)) ∧ nd * max 0 (min tm (at_ - s)) ≤ 2000 := ⟨Int.mul_nonneg hnb.1 hmx.1, Int.mul_le_mul hnb.2 hmx.2 hmx.1 (by omega)⟩
      have hm2 : 0 ≤ nd * tm ∧ nd * tm ≤ 2000 := ⟨Int.mul_nonneg hnb.1 htb.1, Int.mul_le_mul hnb.2 htb.2 htb.1 (by omega)⟩
      have w1 : IntKind.i64.wrap (nd * max 0 (min tm (at_ - s))) = nd * max 0 (min tm (at_ - s)) := IntWalk.i64_in _ (by omega)
      have w2 : IntKind.i64.wrap (D + nd * max 0 (min tm (at_ - s))) = D + nd * max 0 (min tm (at_ - s)) := IntWalk.i64_in _ (by omega)
      have w3 : IntKind.i64.wrap (nd * tm) = nd * tm := IntWalk.i64_in _ (by omega)
      have w4 : IntKind.i64.wrap (A + nd * tm) = A + nd * tm := IntWalk.i64_in _ (by omega)
      have HIF : Hid ((if 0 < if at_ - s < tm then at_ - s else tm then if at_ - s < tm then at_ - s else tm else 0) = max 0 (min tm (at_ - s))) := by
        show _ = _
        by_cases q : at_ - s < tm
        · rw [if_pos q, show min tm (at_ - s) = at_ - s by omega]
          split <;> omega
        · rw [if_neg q, show min tm (at_ - s) = tm by omega]
          split <;> omega
      have HW1 : Hid (wrap64 (D + wrap64 (nd * max 0 (min tm (at_ - s)))) = D + nd * max 0 (min tm (at_ - s))) := by
        show _ = _
        have e1 : wrap64 (nd * max 0 (min tm (at_ - s))) = nd * max 0 (min tm (at_ - s)) := IntWalk.wrap64_in _ (by omega)
        rw [e1]
        exact IntWalk.wrap64_in _ (by omega)
      clear hc hLB hLL hd1 ha1 hD hA htm hnd hs hmx hm1 hm2
      go_wp2
      go_quiet (fail)
      go_wp2
      go_roundw
      case rel => exact ⟨k + 1, by omega, by go_num, by first | rw [HD1.out] | rw [HIF.out, HD1.out, HW1.out], by rw [HA1.out], below_drewN _ (HB.out.alloc HB.out.size _)⟩
      case measure => simp [intOf]; omega
    · obtain rfl : k = T := by omega
      go_wp2
      go_ret3
      exact ⟨rfl, HB.out⟩
end Go.Proofs.Ytcjeededlhdcbaa

namespace Go.Proofs.Ytcjeededlhdcbaa
open Go.RowKit
set_option linter.unusedVariables false
set_option linter.unusedSimpArgs false

/-- The plan of an order. -/
theorem planE_ok {ts : List Tk} {st E : List Int} {crew : Int} (h : Drawn ts) (h1 : 1 ≤ ts.length) (h2 : ts.length ≤ 16) (hc : 3 ≤ crew ∧ crew ≤ 20) (hE : E.Perm (idL ts.length)) (hp : takeL ts crew E = some st) :
    planOk ts st crew = true ∧ st.length = ts.length ∧ (∀ j, j < ts.length → 0 ≤ nth st j ∧ nth st j ≤ 144) ∧ ∀ j, j < ts.length → leastN ts st j ≤ nth st j := by
  have hok := drawn_ok h h1 h2
  have hsm := tasks_sm hok
  have hb := planB_drawn (st := zeroS ts.length) (crew := crew) (S := 0) (x := 0) (task := 0) h h1 h2 (by omega) (by omega) hc.1 (Int.le_refl _) (fun i _ => by rw [zeroS_at]; exact Int.le_refl _)
  rw [longT_zero (by omega)] at hb
  obtain ⟨r1, r2⟩ := mendL_all hb (by omega) hE hp
  have hB : 0 + (3 + (6 + 0) : Int) * (ts.length : Int) ≤ 144 := by omega
  refine ⟨r1.planOk hok (by omega) (by omega) r2, r1.len, fun j hj => ?_, fun j hj => (r1.ok j hj (r2 j hj)).2.1⟩
  have h3 := r1.hi j hj (r2 j hj)
  have h4 := hsm.time j hj
  exact ⟨r2 j hj, by omega⟩
/-- The early starts are the least ones. -/
theorem leastTo_mono {ts : List Tk} {a b : List Int} {i : Nat} (ht : SmTs ts) (hi : i < ts.length) (h : ∀ j, j < i → nth a j ≤ nth b j) : ∀ k, k ≤ (befN ts i).length → leastTo ts a i k ≤ leastTo ts b i k
  | 0, _ => Int.le_refl _
  | k + 1, hk => by
    have h1 := leastTo_mono ht hi h k (by omega)
    have h2 := ht.bef i hi k (by omega)
    have h3 := h (nth (befN ts i) k).toNat (by omega)
    unfold leastTo
    omega
theorem earlyTo_le {ts : List Tk} {st : List Int} (ht : SmTs ts) (h0 : ∀ j, j < ts.length → 0 ≤ nth st j) (hl : ∀ j, j < ts.length → leastN ts st j ≤ nth st j) : ∀ k, k ≤ ts.length → ∀ j, j < ts.length → nth (earlyTo ts k) j ≤ nth st j
  | 0, _, j, hj => by unfold earlyTo; rw [zeroS_at]; exact h0 j hj
  | k + 1, hk, j, hj => by
    have ih := earlyTo_le ht h0 hl k (by omega)
    unfold earlyTo
    rw [nth_setM _ (by rw [earlyTo_len]; omega)]
    split
    · rename_i e; subst e
      exact Int.le_trans (leastTo_mono ht (by omega) (fun j hj => ih j (by omega)) _ (Nat.le_refl _)) (hl k (by omega))
    · exact ih j hj
theorem endTo_mono {ts : List Tk} {a b : List Int} : ∀ n, (∀ j, j < n → nth a j ≤ nth b j) → endTo ts a n ≤ endTo ts b n
  | 0, _ => Int.le_refl _
  | n + 1, h => by
    have h1 := endTo_mono (ts := ts) n (fun j hj => h j (by omega))
    have h2 := h n (by omega)
    unfold endTo
    omega
/-- A run's share of the first m times. -/
def sumF (f : Nat → Int) : Nat → Int
  | 0 => 0
  | m + 1 => sumF f m + f m
theorem sumF_add (f g : Nat → Int) : ∀ m, sumF (fun t => f t + g t) m = sumF f m + sumF g m
  | 0 => rfl
  | m + 1 => by unfold sumF; rw [sumF_add f g m]; omega
theorem sumF_run (s L d : Int) (h0 : 0 ≤ s) (hL : 0 ≤ L) : ∀ m : Nat, sumF (fun t => if s ≤ (t : Int) ∧ (t : Int) < s + L then d else 0) m = max 0 (min L ((m : Int) - s)) * d
  | 0 => by
    have : max 0 (min L (((0 : Nat) : Int) - s)) = 0 := by omega
    rw [this, Int.zero_mul]; rfl
  | m + 1 => by
    unfold sumF
    rw [sumF_run s L d h0 hL m]
    by_cases h : s ≤ (m : Int) ∧ (m : Int) < s + L
    · rw [if_pos h]
      have e : max 0 (min L (((m + 1 : Nat) : Int) - s)) = max 0 (min L ((m : Int) - s)) + 1 := by omega
      rw [e, Int.add_mul, Int.one_mul]
    · rw [if_neg h]
      have e : max 0 (min L (((m + 1 : Nat) : Int) - s)) = max 0 (min L ((m : Int) - s)) := by omega
      rw [e, Int.add_zero]
theorem sumF_use {ts : List Tk} {st : List Int} (ht : SmTs ts) (h0 : ∀ j, j < ts.length → 0 ≤ nth st j) (E : Nat) (hE : ∀ j, j < ts.length → nth st j + timeN ts j ≤ (E : Int)) : ∀ k, k ≤ ts.length → sumF (fun t => useN ts st (t : Int) k) E = workTo ts k
  | 0, _ => by
    have : ∀ m, sumF (fun t => useN ts st (t : Int) 0) m = 0 := fun m => by
      induction m with
      | zero => rfl
      | succ m ih => unfold sumF; rw [ih]; rfl
    rw [this]; rfl
  | k + 1, hk => by
    have ih := sumF_use ht h0 E hE k (by omega)
    have h1 : (fun t : Nat => useN ts st (t : Int) (k + 1)) = fun t : Nat => useN ts st (t : Int) k + (if nth st k ≤ (t : Int) ∧ (t : Int) < nth st k + timeN ts k then needN ts k else 0) := by
      funext t
      show useN ts st (t : Int) k + (if runs ts st t k then needN ts k else 0) = _
      unfold runs
      rfl
    rw [h1, sumF_add, ih, sumF_run _ _ _ (h0 k (by omega)) (ht.time k (by omega)).1]
    have h2 := hE k (by omega)
    have h3 := (ht.time k (by omega)).1
    have h4 := h0 k (by omega)
    rw [show max 0 (min (timeN ts k) ((E : Int) - nth st k)) = timeN ts k by omega]
    rfl
theorem sumF_le {f : Nat → Int} {c : Int} : ∀ m, (∀ t, t < m → f t ≤ c) → sumF f m ≤ c * (m : Int)
  | 0, _ => by unfold sumF; simp
  | m + 1, h => by
    have h1 := sumF_le m (fun t ht => h t (by omega))
    have h2 := h m (by omega)
    unfold sumF
    have e : c * ((m + 1 : Nat) : Int) = c * (m : Int) + c := by rw [show ((m + 1 : Nat) : Int) = (m : Int) + 1 by omega, Int.mul_add, Int.mul_one]
    omega
theorem done_all {ts : List Tk} {st : List Int} {E : Int} (hE : ∀ j, j < ts.length → nth st j + timeN ts j ≤ E) (ht : SmTs ts) : ∀ k, k ≤ ts.length → doneTo ts st E k = allTo ts k
  | 0, _ => rfl
  | k + 1, hk => by
    have h1 := done_all hE ht k (by omega)
    have h2 := hE k (by omega)
    have h3 := (ht.time k (by omega)).1
    unfold doneTo allTo
    rw [h1, show max 0 (min (timeN ts k) (E - nth st k)) = timeN ts k by omega]
theorem done_none {ts : List Tk} {st : List Int} (h0 : ∀ j, j < ts.length → 0 ≤ nth st j) (ht : SmTs ts) : ∀ k, k ≤ ts.length → doneTo ts st 0 k = 0
  | 0, _ => rfl
  | k + 1, hk => by
    have h1 := done_none h0 ht k (by omega)
    have h2 := h0 k (by omega)
    have h3 := (ht.time k (by omega)).1
    unfold doneTo
    rw [h1, show max 0 (min (timeN ts k) (0 - nth st k)) = 0 by omega, Int.mul_zero]; rfl
/-- What the law asks of a plan. -/
structure CrewOk (ts : List Tk) (crew : Int) (st : List Int) (e : Nat) : Prop where
  ok : planOk ts st crew = true
  uses : usesOk ts st = true
  len : st.length = ts.length
  lo : ∀ j, j < ts.length → 0 ≤ nth st j ∧ nth st j ≤ 144
  many : many st ts.length ts.length 0 100000 = true
  eq : endTo ts st ts.length = e
  e4 : e ≤ 400
  sum : sumF (fun t => useN ts st (t : Int) ts.length) e = workTo ts ts.length
  use : ∀ t : Nat, t < e → 0 ≤ useN ts st (t : Int) ts.length ∧ useN ts st (t : Int) ts.length ≤ crew
  done : doneTo ts st (e : Int) ts.length = allTo ts ts.length
  none : doneTo ts st 0 ts.length = 0
  bound : boundV ts crew ≤ (e : Int)
theorem crewOk {ts : List Tk} {st E : List Int} {crew : Int} (h : Drawn ts) (h1 : 1 ≤ ts.length) (h2 : ts.length ≤ 16) (hc : 3 ≤ crew ∧ crew ≤ 20) (hE : E.Perm (idL ts.length)) (hp : takeL ts crew E = some st) : ∃ e : Nat, CrewOk ts crew st e := by
  have hsm := tasks_sm (drawn_ok h h1 h2)
  obtain ⟨k1, k2, k3, k4⟩ := planE_ok h h1 h2 hc hE hp
  have hpl := k1
  unfold planOk planHd at hpl
  simp only [Bool.and_eq_true, decide_eq_true_eq, List.all_eq_true, List.mem_range] at hpl
  obtain ⟨⟨⟨hu, _⟩, _⟩, huse⟩ := hpl
  have hu' := hu
  unfold usesOk at hu'
  simp only [Bool.and_eq_true, decide_eq_true_eq] at hu'
  obtain ⟨⟨_, hm⟩, he4⟩ := hu'
  have hb := endTo_bounds hsm (show SmSt st ts.length from ⟨k2, fun k hk => by have := k3 k hk; omega⟩) _ (Nat.le_refl _)
  obtain ⟨e, he⟩ : ∃ e : Nat, endTo ts st ts.length = e := ⟨(endTo ts st ts.length).toNat, by omega⟩
  have hEnd : ∀ j, j < ts.length → nth st j + timeN ts j ≤ (e : Int) := fun j hj => by rw [← he]; exact end_ge _ _ hj
  have h0 : ∀ j, j < ts.length → 0 ≤ nth st j := fun j hj => (k3 j hj).1
  have hsum := sumF_use hsm h0 e hEnd _ (Nat.le_refl _)
  have huse2 : ∀ t : Nat, t < e → useN ts st (t : Int) ts.length ≤ crew := fun t ht => huse t (by rw [he]; simpa using ht)
  refine ⟨e, k1, hu, k2, k3, hm, he, by omega, hsum, fun t ht => ⟨(useN_bounds hsm _ (Nat.le_refl _)).1, huse2 t ht⟩, done_all hEnd hsm _ (Nat.le_refl _), done_none h0 hsm _ (Nat.le_refl _), ?_⟩
  unfold boundV
  have b1 : endN ts ≤ (e : Int) := by
    rw [← he]
    exact endTo_mono _ (earlyTo_le hsm h0 k4 _ (Nat.le_refl _))
  have b2 := sumF_le e huse2
  rw [hsum] at b2
  have b3 : (workTo ts ts.length + crew - 1) / crew ≤ (e : Int) := by
    have : workTo ts ts.length + crew - 1 < ((e : Int) + 1) * crew := by rw [Int.add_mul, Int.one_mul, Int.mul_comm]; omega
    have := Int.ediv_lt_of_lt_mul (by omega) this
    omega
  omega
end Go.Proofs.Ytcjeededlhdcbaa

namespace Go.Proofs.Ytcjeededlhdcbaa
open Go.RowKit
set_option linter.unusedVariables false
set_option linter.unusedSimpArgs false

def BouSR (ts : List Tk) (T : Nat) (w : World) (vs vk : Value) (wr : World) : Prop :=
  ∃ (k m : Nat), k ≤ T ∧ vk = .int .i64 k ∧ vs = .int .i64 (workTo ts k) ∧ Hid (∀ i, i < k → negB ts i = false) ∧ wr = w.drewN m
def BouSL (l : List Int) (L : Nat) (w : World) (vq : Value) (wr : World) : Prop :=
  ∃ (q m : Nat), q ≤ L ∧ vq = .int .i64 q ∧ Hid (∀ j, j < q → 0 ≤ nth l j) ∧ wr = w.drewN m
set_option maxRecDepth 100000 in
set_option maxHeartbeats 1000000 in
theorem specBound_any (vt : Value) (ts : List Tk) (crew : Int) (w : World) (ht : TasksR w vt ts) (hok : tasksOk ts = true) (hcr : 1 ≤ crew ∧ crew ≤ 20) (hneed : ∀ i, i < ts.length → needN ts i ≤ crew) :
    Calls Try.prog 16 #[vt, .int .i64 crew] w fun e w' => ((anyNeg ts = true ∧ e = .returned (.tuple #[.int .i64 0, .bool false])) ∨ (anyNeg ts = false ∧ ∃ x, e = .returned (.tuple #[.int .i64 x, .bool true]))) ∧ Below w.heap.size w w' := by
  have hsm := tasks_sm hok
  have HC := Lib.hid (specCrew_any vt ts crew w ht hok hneed (by omega))
  have HEA : Hid (∀ W, Below w.heap.size w W → Calls Try.prog 73 #[vt] W fun e w' => (∃ g, e = .returned (.slice (some ⟨g, 0, none⟩) ts.length ts.length) ∧ OwnI w' W.heap.size (.slice (some ⟨g, 0, none⟩) ts.length ts.length) (earlyN ts)) ∧ Below W.heap.size W w') := fun W hW => specEarly_any vt ts W (ht.below hW (Nat.le_refl _)) hsm
  have HEN : Hid (∀ vs W, Below w.heap.size w W → Ints W vs (earlyN ts) → Calls Try.prog 61 #[vt, vs] W fun e w' => e = .returned (.int .i64 (endN ts)) ∧ Below W.heap.size W w') := fun vs W hW hs => specEnd_any vt vs ts (earlyN ts) W (ht.below hW (Nat.le_refl _)) hs hsm (earlyTo_sm hsm _ (Nat.le_refl _))
  obtain ⟨b, o, c, AB, CB, AL, CL, rfl, hcap, hbw, hV⟩ := ht.view hsm.n1
  have HV : Hid (∀ W, Below w.heap.size w W → TkView W b o ts AB CB AL CL) := hV
  have HSM := Lib.hid hsm
  have HWB : Hid (∀ k, k ≤ ts.length → 0 ≤ workTo ts k ∧ workTo ts k ≤ 2000 * (k : Int)) := workTo_bounds hsm
  obtain ⟨T, hT⟩ : ∃ T, ts.length = T := ⟨_, rfl⟩
  have HT : Hid (ts.length = T) := hT
  have h16 : T ≤ 16 := by have := hsm.n16; omega
  rw [hT] at HC HEA HEN HWB hcap ⊢
  have hc1 : ¬ crew < 1 := by omega
  clear ht hok hneed hsm hV hT
  go_enter Try.func16, Try.ntmps16
  go_wp2_with fail
  refine HC.out.mono ?_
  rintro e W1 ⟨rfl, q1, rfl⟩
  have HR0 : Hid (BouSR ts T w (.int .i64 0) (.int .i64 0) (w.drewN q1)) := ⟨0, q1, Nat.zero_le _, rfl, rfl, fun i hi => absurd hi (Nat.not_lt_zero _), rfl⟩
  clear HC
  go_wp2_with fail
  go_loopw [6, 19] (fun vs vk wr => BouSR ts T w vs vk wr) (fun _ vk _ => T - (intOf vk).toNat)
  case atStart => exact HR0.out
  case round =>
    obtain ⟨k, m, hk, rfl, rfl, HN, rfl⟩ := hrel
    clear HR0
    by_cases hkT : k < T
    · have k0 : (0 : Int) ≤ (k : Int) := by omega
      have k1 : (k : Int) < (T : Int) := by omega
      have hc := HV.out w (Below.refl _ _) k (by rw [HT.out]; exact hkT)
      have c0 := hc.time
      have c1 := hc.need
      have c3 := hc.lag
      obtain ⟨LL, hLL⟩ : ∃ n, (lagN ts k).length = n := ⟨_, rfl⟩
      have HLL := Lib.hid hLL
      rw [show (tkN ts k).2.2.2.length = LL from hLL] at c3
      have hl16 : LL ≤ 16 := by
        have h1 := HSM.out.len k (by rw [HT.out]; exact hkT)
        have h2 := HSM.out.blen k (by rw [HT.out]; exact hkT)
        omega
      have HLA : Hid (∀ q, q < LL → ∃ b' o', AL k = some ⟨b', o', none⟩ ∧ w.cell? ⟨b', o' + q, none⟩ = some (.int .i64 (nth (lagN ts k) q))) := fun q hq => hc.lagAt q (by rw [show (tkN ts k).2.2.2.length = LL from hLL]; exact hq)
      have htb := HSM.out.time k (by rw [HT.out]; exact hkT)
      have hnb := HSM.out.need k (by rw [HT.out]; exact hkT)
      have hwk := HWB.out k hk
      have hwk1 := HWB.out (k + 1) hkT
      have hstep : workTo ts (k + 1) = workTo ts k + timeN ts k * needN ts k := rfl
      obtain ⟨Y, hY⟩ : ∃ Y, workTo ts k = Y := ⟨_, rfl⟩
      obtain ⟨Z, hZ⟩ : ∃ Z, workTo ts (k + 1) = Z := ⟨_, rfl⟩
      have HZ := Lib.hid hZ
      obtain ⟨tm, htm⟩ : ∃ x, timeN ts k = x := ⟨_, rfl⟩
      obtain ⟨nd, hnd⟩ : ∃ x, needN ts k = x := ⟨_, rfl⟩
      rw [hY, hZ, htm, hnd] at hstep
      rw [hY] at hwk ⊢
      rw [hZ] at hwk1
      rw [show (tkN ts k).1 = tm from htm] at c0
      rw [show (tkN ts k).2.1 = nd from hnd] at c1
      rw [hnd] at hnb
      rw [htm] at htb
      have hmul : 0 ≤ tm * nd ∧ tm * nd ≤ 2000 := ⟨Int.mul_nonneg htb.1 hnb.1, Int.mul_le_mul htb.2 hnb.2 hnb.1 (by omega)⟩
      have w9 : IntKind.i64.wrap (tm * nd) = tm * nd := IntWalk.i64_in _ (by omega)
      have w8 : IntKind.i64.wrap (Y + tm * nd) = Y + tm * nd := IntWalk.i64_in _ (by omega)
      have HSTP := Lib.hid hstep
      have HQ0 : Hid (∀ n, BouSL (lagN ts k) LL w (.int .i64 0) (w.drewN n)) := fun n => ⟨0, n, Nat.zero_le _, rfl, fun j hj => absurd hj (Nat.not_lt_zero _), rfl⟩
      clear hc hLL hY hZ htm hnd hstep hwk1 hmul
      go_wp2
      go_quiet (fail)
      go_wp2_with fail
      go_loopw [41] (fun vq wi => BouSL (lagN ts k) LL w vq wi) (fun vq _ => LL - (intOf vq).toNat)
      case atStart => exact HQ0.out _
      case round =>
        obtain ⟨q, n, hq, rfl, HL, rfl⟩ := hrel
        clear HQ0
        by_cases hqL : q < LL
        · obtain ⟨b2, o2, hal, cb⟩ := HLA.out q hqL
          rw [hal] at c3
          have q0 : (0 : Int) ≤ (q : Int) := by omega
          have q1 : (q : Int) < (LL : Int) := by omega
          obtain ⟨x, hx⟩ : ∃ x, nth (lagN ts k) q = x := ⟨_, rfl⟩
          have HX := Lib.hid hx
          rw [hx] at cb
          clear hx
          by_cases hx0 : x < 0
          · have HAN : Hid (anyNeg ts = true) := anyNeg_true (i := k) (by rw [HT.out]; exact hkT) (by
              unfold negB
              rw [List.any_eq_true]
              exact ⟨x, by rw [← HX.out]; exact nth_mem (by rw [HLL.out]; exact hqL), by simpa using hx0⟩)
            go_wp2
            go_ret2
            exact ⟨.inl ⟨HAN.out, rfl⟩, below_drewN _ (Below.refl _ _)⟩
          · have HL2 : Hid (∀ j, j < q + 1 → 0 ≤ nth (lagN ts k) j) := fun j hj => by
              rcases Nat.lt_succ_iff_lt_or_eq.1 hj with h | rfl
              · exact HL.out j h
              · rw [HX.out]; omega
            go_wp2
            go_roundw
            case rel => exact ⟨q + 1, n, by omega, by go_num, HL2.out, rfl⟩
            case measure => simp [intOf]; omega
        · have HNB : Hid (negB ts k = false) := by
            show _ = _
            unfold negB
            rw [List.any_eq_false]
            intro y hy
            obtain ⟨j, hj, rfl⟩ := List.getElem_of_mem hy
            have := HL.out j (by rw [HLL.out] at hj; omega)
            rw [nth_eq hj] at this
            simpa using this
          go_wp2
          go_roundw
          case rel =>
            refine ⟨k + 1, n, by omega, by go_num, ?_, fun i hi => ?_, rfl⟩
            · rw [HZ.out, HSTP.out]
            · rcases Nat.lt_succ_iff_lt_or_eq.1 hi with h | rfl
              · exact HN.out i h
              · exact HNB.out
          case measure => simp [intOf]; omega
    · obtain rfl : k = T := by omega
      have HAN : Hid (anyNeg ts = false) := anyNeg_false fun i hi => HN.out i (by rw [← HT.out]; exact hi)
      have hwk := HWB.out k (Nat.le_refl _)
      obtain ⟨Y, hY⟩ : ∃ Y, workTo ts k = Y := ⟨_, rfl⟩
      rw [hY] at hwk ⊢
      have w1 : IntKind.i64.wrap (Y + crew) = Y + crew := IntWalk.i64_in _ (by omega)
      have w2 : IntKind.i64.wrap (Y + crew - 1) = Y + crew - 1 := IntWalk.i64_in _ (by omega)
      have hne : crew ≠ 0 := by omega
      have HEA1 : Hid (∀ n, Calls Try.prog 73 #[.slice (some ⟨b, o, none⟩) k c] (w.drewN n) fun e w' => (∃ g, e = .returned (.slice (some ⟨g, 0, none⟩) k k) ∧ OwnI w' w.heap.size (.slice (some ⟨g, 0, none⟩) k k) (earlyN ts)) ∧ Below w.heap.size w w') := fun n => by
        refine (HEA.out (w.drewN n) (below_drewN n (Below.refl _ _))).mono ?_
        rintro e w' ⟨h1, h2⟩
        exact ⟨h1, (below_drewN n (Below.refl _ _)).trans h2⟩
      have HMX : Hid (∀ a b' W, Calls Try.prog 72 #[.int .i64 a, .int .i64 b'] W fun e w' => e = .returned (.int .i64 (max a b')) ∧ W = w') := fun a b' W => maxP_any a b' W
      clear hY HEA HWB
      go_wp2
      go_region_held3 (fun w' => True) (trivial)
        (first
          | (go_at_call 73; refine (HEA1.out _).mono ?_; rintro e W3 ⟨⟨g3, rfl, ho3⟩, hb3⟩; have HB3 := Lib.hid hb3; have HI3 := Lib.hid ho3.ints; clear ho3 hb3)
          | (go_at_call 61; refine (HEN.out _ _ HB3.out HI3.out).mono ?_; rintro e W4 ⟨rfl, hb4⟩; have HB4 : Hid (Below w.heap.size w W4) := HB3.out.trans (hb4.mono HB3.out.size); clear hb4)
          | (go_at_call 72; refine (HMX.out _ _ _).mono ?_; rintro e W5 ⟨rfl, rfl⟩))
      go_wp2
      go_ret2
      exact ⟨.inr ⟨HAN.out, _, rfl⟩, HB4.out⟩
end Go.Proofs.Ytcjeededlhdcbaa

namespace Go.Proofs.Ytcjeededlhdcbaa
open Go.RowKit Go.BigFrame
set_option linter.unusedVariables false
set_option linter.unusedSimpArgs false
attribute [local go_sem] Oper.semAt_some

/-- A list that has all numbers from 0 to n - 1, each once. -/
def orders (n : Int) (xs : List Int) : Bool := decide ((xs.length : Int) = n) && isAllB xs
/-- The first k numbers are different ones from 0 to n - 1. -/
def ordPre (n : Int) (xs : List Int) (k : Nat) : Prop := ∀ i, i < k → win (nth xs i) 0 (n - 1) = true ∧ (xs.take i).any (· == nth xs i) = false
theorem orders_yes {n : Int} {xs : List Int} (hl : (xs.length : Int) = n) (h : ordPre n xs xs.length) : orders n xs = true := by
  unfold orders isAllB
  rw [hl, decide_eq_true rfl, Bool.true_and, List.all_eq_true]
  intro i hi
  obtain ⟨h1, h2⟩ := h i (List.mem_range.1 hi)
  rw [h1, h2]; rfl
theorem orders_no {n : Int} {xs : List Int} {k : Nat} (hk : k < xs.length) (h : win (nth xs k) 0 (n - 1) = false ∨ (xs.take k).any (· == nth xs k) = true) : orders n xs = false := by
  unfold orders isAllB
  by_cases hl : (xs.length : Int) = n
  · rw [hl, decide_eq_true rfl, Bool.true_and, List.all_eq_false]
    refine ⟨k, List.mem_range.2 hk, ?_⟩
    rcases h with h | h <;> rw [h] <;> simp
  · rw [decide_eq_false hl, Bool.false_and]
theorem orders_pre {n : Int} {xs : List Int} (h : orders n xs = true) : (xs.length : Int) = n ∧ ordPre n xs xs.length := by
  unfold orders isAllB at h
  rw [Bool.and_eq_true, decide_eq_true_eq, List.all_eq_true] at h
  refine ⟨h.1, fun i hi => ?_⟩
  have := h.2 i (List.mem_range.2 hi)
  rw [h.1, Bool.and_eq_true] at this
  exact ⟨this.1, by simpa using this.2⟩

theorem isOrder_any (n : Int) (v : Value) (xs : List Int) (w : World) (hv : Ints w v xs) (hl : xs.length ≤ 1048576) :
    Calls Try.prog 62 #[v, .int .i64 n] w fun e w' => e = .returned (.bool (win n 1 24 && orders n xs)) ∧ Below w.heap.size w w' := by
  have hall := isAll_any v xs w hv hl
  have HALL := Lib.hid hall
  obtain ⟨_, a, c, rfl, _, _⟩ := hv
  clear hall
  cases hw : win n 1 24
  · go_enter Try.func62, Try.ntmps62
    go_wp2_with (first | (go_at_call 54; refine (within_any _ _ _ _).mono ?_; rintro e w' ⟨rfl, rfl⟩))
    go_ret
    exact ⟨rfl, Below.refl _ _⟩
  · by_cases hne : (xs.length : Int) = n
    · have HE := Lib.hid hne
      have hd : ((xs.length : Int) != n) = false := by simpa using hne
      clear hne
      go_enter Try.func62, Try.ntmps62
      go_wp2_with (first | (go_at_call 54; refine (within_any _ _ _ _).mono ?_; rintro e w' ⟨rfl, rfl⟩) | (go_at_call 124; refine HALL.out.mono ?_; rintro e w' ⟨rfl, hb⟩))
      go_ret
      exact ⟨ret_bool (by unfold orders; rw [HE.out]; simp), hb⟩
    · have HE := Lib.hid hne
      have hd : ((xs.length : Int) != n) = true := by simpa using hne
      clear hne
      go_enter Try.func62, Try.ntmps62
      go_wp2_with (first | (go_at_call 54; refine (within_any _ _ _ _).mono ?_; rintro e w' ⟨rfl, rfl⟩))
      go_ret
      exact ⟨ret_bool (by unfold orders; rw [decide_eq_false HE.out]; rfl), Below.refl _ _⟩
end Go.Proofs.Ytcjeededlhdcbaa

namespace Go.Proofs.Ytcjeededlhdcbaa
open Go.RowKit
set_option linter.unusedVariables false
set_option linter.unusedSimpArgs false

set_option maxRecDepth 100000 in
theorem OrderPlan_any (vt vo : Value) (ts : List Tk) (E : List Int) (crew : Int) (w : World) (ht : TasksR w vt ts) (ho : Ints w vo E) (hE : E.Perm (idL ts.length)) (hok : tasksOk ts = true) (hcr : 0 ≤ crew ∧ crew ≤ 20) (hneed : ∀ i, i < ts.length → needN ts i ≤ crew)
    (hord : ∀ W, Below w.heap.size w W → Calls Try.prog 62 #[vo, .int .i64 ts.length] W fun e w' => e = .returned (.bool true) ∧ Below W.heap.size W w') :
    Calls Try.prog 11 #[vt, vo, .int .i64 crew] w fun e w' => ((takeL ts crew E = none ∧ e = .returned (.tuple #[.slice none 0 0, .int .i64 0, .bool false])) ∨
      ∃ out g, takeL ts crew E = some out ∧ SmSt out ts.length ∧ e = .returned (.tuple #[.slice (some ⟨g, 0, none⟩) ts.length ts.length, .int .i64 (endTo ts out ts.length), .bool true]) ∧ OwnI w' w.heap.size (.slice (some ⟨g, 0, none⟩) ts.length ts.length) out) ∧ Below w.heap.size w w' := by
  have hsm := tasks_sm hok
  have HF := Lib.hid (fitsCrew_any vt ts crew w ht hok hcr hneed)
  have HO : Hid (∀ W, Below w.heap.size w W → Calls Try.prog 62 #[vo, .int .i64 ts.length] W fun e w' => e = .returned (.bool true) ∧ Below W.heap.size W w') := hord
  have HP : Hid (∀ W, Below w.heap.size w W → Calls Try.prog 55 #[vt, vo, .int .i64 crew] W fun e w' => ((takeL ts crew E = none ∧ e = .returned (.tuple #[.slice none 0 0, .int .i64 0, .bool false])) ∨
      ∃ out g, takeL ts crew E = some out ∧ SmSt out ts.length ∧ e = .returned (.tuple #[.slice (some ⟨g, 0, none⟩) ts.length ts.length, .int .i64 (endTo ts out ts.length), .bool true]) ∧ OwnI w' W.heap.size (.slice (some ⟨g, 0, none⟩) ts.length ts.length) out) ∧ Below W.heap.size W w') := fun W hW => orderPlan_any vt vo ts E crew W (ht.below hW (Nat.le_refl _)) (ho.below hW (Nat.le_refl _)) hE hsm hcr hneed
  obtain ⟨b, o, c, VB, VL, rfl, hcap, hbw, hsrc⟩ := ht.src hsm.n1
  obtain ⟨_, aE, cE, rfl, _⟩ := ho
  clear ht hord hok hsm hcr hneed hsrc
  go_enter Try.func11, Try.ntmps11
  go_wp2_with fail
  refine HF.out.mono ?_
  rintro e W1 ⟨rfl, hb1⟩
  have HB1 := Lib.hid hb1
  clear hb1 HF
  go_wp2_with fail
  refine (HO.out W1 HB1.out).mono ?_
  rintro e W2 ⟨rfl, hb2⟩
  have HB2 : Hid (Below w.heap.size w W2) := HB1.out.trans (hb2.mono HB1.out.size)
  clear hb2
  go_wp2_with fail
  refine (HP.out W2 HB2.out).mono ?_
  rintro e W3 ⟨hr, hb3⟩
  have HB3 : Hid (Below w.heap.size w W3) := HB2.out.trans (hb3.mono HB2.out.size)
  clear hb3 HP HO
  rcases hr with ⟨h1, rfl⟩ | ⟨out, g, h1, h2, rfl, h3⟩
  · have H1 := Lib.hid h1
    clear h1
    go_wp2
    go_ret3
    exact ⟨.inl ⟨H1.out, rfl⟩, HB3.out⟩
  · have H1 := Lib.hid h1
    have H2 := Lib.hid h2
    have H3 := Lib.hid h3
    clear h1 h2 h3
    go_wp2
    go_ret3
    exact ⟨.inr ⟨out, g, H1.out, H2.out, rfl, H3.out.mono HB2.out.size⟩, HB3.out⟩
end Go.Proofs.Ytcjeededlhdcbaa
