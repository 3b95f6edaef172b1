
/- The walk of FnExactFreeTime. Conditions: none. -/
import Derived.Test.YtnpfninkopffmaaFreeImpl
namespace Go.Proofs.Ytnpfninkopffmaa
open Go.RowKit
set_option linter.unusedVariables false
set_option linter.unusedSimpArgs false

set_option maxHeartbeats 4000000 in
theorem walkFnExactFreeTime (a0 : Value) (xs0 : List (List Int)) (a1 : Int) (a2 : Int) (a3 : Int) (w : World) (hv0 : SlR (rSl rInt) w a0 xs0) (w1 : (Lit.int .i64 a1).wf = true) (w2 : (Lit.int .i64 a2).wf = true) (w3 : (Lit.int .i64 a3).wf = true) :
    Calls Try.prog 3 #[a0, .int .i64 a1, .int .i64 a2, .int .i64 a3] w fun e w' => e = .returned (.bool true) ∧ Below w.heap.size w w' := by
  have HS : Hid (∀ v W, MatR W v xs0 → Calls Try.prog 11 #[v, .int .i64 a1, .int .i64 a2, .int .i64 a3] W fun e w' => e = retF (freeR xs0 a1 a2 a3) ∧ Below W.heap.size W w') := fun v W hv => specFree_any v xs0 a1 a2 a3 W hv
  have HI : Hid (∀ v W, MatR W v xs0 → Calls Try.prog 13 #[v, .int .i64 a1, .int .i64 a2, .int .i64 a3] W fun e w' => e = retF (freeR xs0 a1 a2 a3) ∧ Below W.heap.size W w') := fun v W hv => implFree_any v xs0 a1 a2 a3 W hv
  unfold retF at HS HI
  obtain ⟨X, hX⟩ : ∃ X, (freeR xs0 a1 a2 a3).getD 0 = X := ⟨_, rfl⟩
  obtain ⟨Y, hY⟩ : ∃ Y, (freeR xs0 a1 a2 a3).isSome = Y := ⟨_, rfl⟩
  simp only [hX, hY] at HS HI
  have hxx : (X != X) = false := by simp
  have hyy : (Y != Y) = false := by simp
  clear hX hY w1 w2 w3
  go_enter Try.func3, Try.ntmps3
  go_wp2_with fail
  refine (szInt64SS_any _ xs0 _ hv0).mono ?_
  rintro e w' ⟨⟨r0, rfl, hr0⟩, rfl⟩
  by_cases hn0 : r0 < 0
  · go_wp2_with fail
    go_ret
    exact ⟨rfl, Below.refl _ _⟩
  have hsm0 : smallMat xs0 := by rcases hr0 with h | h; omega; exact h.2
  clear hr0
  go_wp2_with fail
  refine (toInt64SS_any _ xs0 _ hv0 hsm0).mono ?_
  rintro e W1 ⟨⟨v1, rfl, ho1⟩, hB1⟩
  have fs1 := ho1.read
  clear ho1
  go_wp2_with fail
  refine (HS.out _ _ fs1).mono ?_
  rintro e W2 ⟨rfl, hb2⟩
  have hB2 : Below w.heap.size w W2 := hB1.trans (hb2.mono hB1.size)
  clear hb2 hB1 fs1
  go_wp2_with fail
  refine (toInt64SS_any _ xs0 _ (hv0.below hB2 (Nat.le_refl _)) hsm0).mono ?_
  rintro e W3 ⟨⟨v3, rfl, ho3⟩, hb3⟩
  have hB3 : Below w.heap.size w W3 := hB2.trans (hb3.mono hB2.size)
  have fx3 := ho3.read
  clear hb3 hB2 ho3
  go_wp2_with fail
  refine (HI.out _ _ fx3).mono ?_
  rintro e W4 ⟨rfl, hb4⟩
  have hB4 : Below w.heap.size w W4 := hB3.trans (hb4.mono hB3.size)
  have fx4 := fx3.below hb4 (Nat.le_refl _)
  clear hb4 hB3 fx3
  go_wp2_with fail
  refine (toInt64SS_any _ xs0 _ (hv0.below hB4 (Nat.le_refl _)) hsm0).mono ?_
  rintro e W5 ⟨⟨v5, rfl, ho5⟩, hb5⟩
  have hB5 : Below w.heap.size w W5 := hB4.trans (hb5.mono hB4.size)
  have fx5 := fx4.below hb5 (Nat.le_refl _)
  have fy5 := ho5.read
  clear hb5 hB4 fx4 ho5
  go_wp2_with fail
  refine (eqInt64SS_same _ _ xs0 _ fx5 fy5).mono ?_
  rintro e W6 ⟨rfl, hb6⟩
  have hB6 : Below w.heap.size w W6 := hB5.trans (hb6.mono hB5.size)
  clear hb6 hB5 fx5 fy5
  go_wp2_with fail
  go_ret
  exact ⟨rfl, hB6⟩
end Go.Proofs.Ytnpfninkopffmaa
