/- The walk of FnExactCircleRounds. Conditions: none. -/
import Derived.Test.YthnjbgncomoiiaaMarks
import Derived.Test.YthnjbgncomoiiaaCircle
namespace Go.Proofs.Ythnjbgncomoiiaa
open Go.RowKit
set_option linter.unusedVariables false
set_option linter.unusedSimpArgs false

set_option maxHeartbeats 4000000 in
theorem walkFnExactCircleRounds (a0 : Int) (w : World) (w0 : (Lit.int .i64 a0).wf = true) :
    Calls Try.prog 6 #[.int .i64 a0] w fun e w' => e = .returned (.bool true) ∧ Below w.heap.size w w' := by
  have hRL : (circL a0).length ≤ 100000000 := by have := circL_small a0; omega
  go_enter Try.func6, Try.ntmps6
  go_wp2_with fail
  refine (specCircleRounds_u _ _ w0).mono ?_
  rintro e W1 ⟨⟨v1, rfl, ho1⟩, hb1⟩
  have hs1 := hb1.size
  have hB1 : Below w.heap.size w W1 := hb1
  clear hb1
  have fw_1 := Own2.of ho1
  clear ho1
  go_wp2_with fail
  refine (implCircleRounds_u _ _ w0).mono ?_
  rintro e W2 ⟨⟨v2, rfl, ho2⟩, hb2⟩
  have hs2 := hb2.size
  have hB2 : Below w.heap.size w W2 := hB1.trans (hb2.mono (by omega))
  have fw_2 := fw_1.below hb2
  clear fw_1
  clear hb2
  clear hB1
  have fg_2 := Own2.of ho2
  clear ho2
  go_wp2_with fail
  refine (eqInt64S_any _ _ (circL a0) (circL a0) _ fg_2.ints fw_2.ints).mono ?_
  rintro e W3 ⟨rfl, hb3⟩
  have hs3 := hb3.size
  have hB3 : Below w.heap.size w W3 := hB2.trans (hb3.mono (by omega))
  have fw_3 := fw_2.below hb3
  clear fw_2
  have fg_3 := fg_2.below hb3
  clear fg_2
  clear hb3
  clear hB2
  rw [show ((circL a0) == (circL a0)) = true from beq_self_eq_true _]
  go_wp2_with fail
  refine (markInt64S_any _ (circL a0) _ _ _ fg_3.own (by omega) (by omega) (by omega)).mono ?_
  rintro e W4 ⟨rfl, ho4, hg4⟩
  have hs4 := hg4.size
  have hB4 : Below w.heap.size w W4 := Below.marked hB3 fg_3 hg4 (by omega) (by omega)
  have fw_4 := fw_3.grown fg_3 hg4 (by omega)
  clear fw_3
  have fg_4 := fg_3.marked ho4
  clear hg4 fg_3 ho4 hB3
  go_wp2_with fail
  refine (heldInt64S_any _ _ _ _ fg_4.ints (by omega) (by omega) (by omega)).mono ?_
  rintro e w' ⟨rfl, rfl⟩
  go_wp2_with fail
  refine (implCircleRounds_u _ _ w0).mono ?_
  rintro e W5 ⟨⟨v5, rfl, ho5⟩, hb5⟩
  have hs5 := hb5.size
  have hB5 : Below w.heap.size w W5 := hB4.trans (hb5.mono (by omega))
  have fw_5 := fw_4.below hb5
  clear fw_4
  have fg_5 := fg_4.below hb5
  clear fg_4
  clear hb5
  clear hB4
  have fh_5 := Own2.of ho5
  clear ho5
  go_wp2_with fail
  refine (eqInt64S_any _ _ (circL a0) (circL a0) _ fh_5.ints fw_5.ints).mono ?_
  rintro e W6 ⟨rfl, hb6⟩
  have hs6 := hb6.size
  have hB6 : Below w.heap.size w W6 := hB5.trans (hb6.mono (by omega))
  have fw_6 := fw_5.below hb6
  clear fw_5
  have fg_6 := fg_5.below hb6
  clear fg_5
  have fh_6 := fh_5.below hb6
  clear fh_5
  clear hb6
  clear hB5
  rw [show ((circL a0) == (circL a0)) = true from beq_self_eq_true _]
  go_wp2_with fail
  refine (heldInt64S_any _ _ _ _ fg_6.ints (by omega) (by omega) (by omega)).mono ?_
  rintro e w' ⟨rfl, rfl⟩
  go_wp2_with fail
  go_ret
  exact ⟨rfl, hB6⟩
end Go.Proofs.Ythnjbgncomoiiaa
