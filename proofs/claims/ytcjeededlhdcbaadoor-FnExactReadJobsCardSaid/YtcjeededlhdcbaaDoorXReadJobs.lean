
/- The walk of FnExactReadJobs. Conditions: the library's tables and its two error values stand. -/
import Derived.Test.YtcjeededlhdcbaaDoorRdJobsS
import Derived.Test.YtcjeededlhdcbaaDoorLaidW
import Derived.Test.YtcjeededlhdcbaaDoorDeskLaw
namespace Go.Proofs.YtcjeededlhdcbaaDoor
open Go.RowKit Go.Shelf Go.BigFrame
set_option linter.unusedVariables false
set_option linter.unusedSimpArgs false

theorem rjL_len (t : ByteArray) : (rjL t).length ≤ 24 := by
  unfold rjL
  split
  · rename_i h
    unfold rjB at h
    rw [Bool.and_eq_true] at h
    have h2 := h.2
    unfold jobsOk at h2
    rw [Bool.and_eq_true] at h2
    exact of_decide_eq_true h2.2
  · exact Nat.zero_le _
set_option maxRecDepth 100000 in
set_option maxHeartbeats 2000000 in
theorem walkFnExactReadJobs (t : ByteArray) (w : World) (hs : t.size ≤ maxLen) (hL : laidMetH Tryd.prog Rows.fnExactReadJobsRow.laid w) (hsh : w.ShapedOpen Tryd.prog) :
    Calls Tryd.prog 4 #[.string t] w fun e w' => e = .returned (.bool true) ∧ Below w.heap.size w w' := by
  obtain ⟨ht, he⟩ := laid_facts (by kernel_rfl) rfl (by kernel_rfl) (by kernel_rfl) hL
  obtain ⟨m, hm⟩ := Tryd.laysM146.s1_3 w hsh
  have hm : w.cell? ⟨0, 0, none⟩ = some (.int .i64 m) := hm
  have h0 : 0 < w.heap.size := lt_of_cell hm
  by_cases hlong : t.size ≤ 1048576
  · have h1 : ¬ (t.size : Int) > 1048576 := by omega
    have HI : Hid (∀ W, Below w.heap.size w W → Calls Tryd.prog 10 #[.string t] W fun e w' => (∃ v, e = .returned (.tuple #[v, .bool (rjB t)]) ∧ OwnZ 60 4 w' W.heap.size v (rjL t).length (jbRaw (rjL t))) ∧ Below W.heap.size W w') := fun W hW => readJobs_any t m W hlong ((hW.cell (p := ⟨0, 0, none⟩) h0).trans hm) (ht.below hW) (he.below hW)
    have HS : Hid (Calls Tryd.prog 9 #[.string t] w fun e w' => (∃ v, e = .returned (.tuple #[v, .bool (rjB t)]) ∧ OwnZ 60 4 w' w.heap.size v (rjL t).length (jbRaw (rjL t))) ∧ Below w.heap.size w w') := specReadJobs_any t w hlong
    have hn := rjL_len t
    obtain ⟨js, hj⟩ : ∃ js, rjL t = js := ⟨_, rfl⟩
    obtain ⟨B, hB⟩ : ∃ b, rjB t = b := ⟨_, rfl⟩
    rw [hj] at HS hn
    rw [hB] at HS
    simp only [hj, hB] at HI
    clear hj hB hL hsh ht he hm hs hlong h0
    have HE : Hid (∀ v u W, Jobs W v js → Jobs W u js → Calls Tryd.prog 11 #[v, u] W fun e w' => e = .returned (.bool true) ∧ Below W.heap.size W w') := fun v u W hv hu => by
      have h := eqJobS_any v u js js W hv hu
      rwa [beq_self_eq_true] at h
    have HMK : Hid (∀ v N W, OwnZ 60 4 W N v js.length (jbRaw js) → Calls Tryd.prog 12 #[v, .int .i64 1] W fun e w' => e = .returned (.int .i64 (1 + ((js.length * 4 : Nat) : Int))) ∧ OwnZ 60 4 w' N v js.length (marks 1 (js.length * 4)) ∧ W.grownBy w' v.ownBlock) := fun v N W h => markJobS_any v js.length (jbRaw js) 1 N W h (by omega) (by omega) (by omega)
    have HHD : Hid (∀ v N W, OwnZ 60 4 W N v js.length (marks 1 (js.length * 4)) → Calls Tryd.prog 13 #[v, .int .i64 1] W fun e w' => e = .returned (.int .i64 (1 + ((js.length * 4 : Nat) : Int))) ∧ w' = W) := fun v N W h => (heldJobS_any v js.length 1 N W h (by omega) (by omega) (by omega)).mono (fun e w' q => ⟨q.1, q.2.symm⟩)
    obtain ⟨M, hM⟩ : ∃ M : Int, 1 + ((js.length * 4 : Nat) : Int) = M := ⟨_, rfl⟩
    have hM0 : ¬ M < 0 := by omega
    simp only [hM] at HMK HHD
    clear hM hn
    cases B
    all_goals
      go_enter Tryd.func4, Tryd.ntmps4
      go_wp2_with fail
      refine HS.out.mono ?_
      rintro e W1 ⟨⟨v0, rfl, o0⟩, hb1⟩
      have HB1 := Lib.hid hb1
      have HO0 := Lib.hid o0
      clear hb1 HS o0
      go_wp2_with fail
      refine (HI.out W1 HB1.out).mono ?_
      rintro e W2 ⟨⟨v1, rfl, o1⟩, hb2⟩
      have HB2 : Hid (Below w.heap.size w W2) := HB1.out.trans (hb2.mono HB1.out.size)
      have HO1 := Lib.hid o1
      have HO02 := Lib.hid (HO0.out.below hb2 (Nat.le_refl _))
      have H0L : Hid (∀ k, v0.ownBlock = some k → k < W1.heap.size) := fun k hk => (HO0.out.lt k hk).2
      clear hb2 o1 HO0
      go_wp2_with fail
      refine (HE.out v1 v0 W2 HO1.out.jobs HO02.out.jobs).mono ?_
      rintro e W3 ⟨rfl, hb3⟩
      have HB3 : Hid (Below w.heap.size w W3) := HB2.out.trans (hb3.mono HB2.out.size)
      have HO13 := Lib.hid (HO1.out.below hb3 (Nat.le_refl _))
      have HO03 := Lib.hid (HO02.out.below hb3 (Nat.le_refl _))
      clear hb3 HO1 HO02
      go_wp2_with fail
      refine (HMK.out v1 _ W3 HO13.out).mono ?_
      rintro e W4 ⟨rfl, o4, hg4⟩
      have HB4 : Hid (Below w.heap.size w W4) := HB3.out.grown hg4 HB3.out.size (fun k e => by have := (HO13.out.lt k e).1; have := HB1.out.size; omega)
      have HO14 := Lib.hid o4
      have HO04 : Hid (OwnZ 60 4 W4 w.heap.size v0 js.length (jbRaw js)) := HO03.out.kept hg4 (by
        cases h : v0.ownBlock with
        | none => exact .inl rfl
        | some k =>
          refine .inr (fun e => ?_)
          have h2 := H0L.out k h
          have h3 := (HO13.out.lt k e.symm).1
          omega)
      clear o4 hg4 HO13 HO03
      go_wp2_with fail
      refine (HHD.out v1 _ W4 HO14.out).mono ?_
      rintro e W5 ⟨rfl, hw5⟩
      subst hw5
      go_wp2_with fail
      refine (HI.out _ HB4.out).mono ?_
      rintro e W6 ⟨⟨v2, rfl, o2⟩, hb6⟩
      have HB6 : Hid (Below w.heap.size w W6) := HB4.out.trans (hb6.mono HB4.out.size)
      have HO16 := Lib.hid (HO14.out.below hb6 (Nat.le_refl _))
      have HO06 := Lib.hid (HO04.out.below hb6 (Nat.le_refl _))
      have HO26 := Lib.hid o2
      clear hb6 o2 HO14 HO04
      go_wp2_with fail
      refine (HE.out v2 v0 W6 HO26.out.jobs HO06.out.jobs).mono ?_
      rintro e W7 ⟨rfl, hb7⟩
      have HB7 : Hid (Below w.heap.size w W7) := HB6.out.trans (hb7.mono HB6.out.size)
      have HO17 := Lib.hid (HO16.out.below hb7 (Nat.le_refl _))
      clear hb7 HO16 HO06 HO26
      go_wp2_with fail
      refine (HHD.out v1 _ W7 HO17.out).mono ?_
      rintro e W8 ⟨rfl, hw8⟩
      subst hw8
      go_wp2
      go_ret
      exact ⟨rfl, HB7.out⟩
  · have h1 : (t.size : Int) > 1048576 := by omega
    go_enter Tryd.func4, Tryd.ntmps4
    go_wp2
    go_ret
    exact ⟨rfl, Below.refl _ _⟩
end Go.Proofs.YtcjeededlhdcbaaDoor
