
/- The walk of FnExactWorthTalks. Conditions: none. -/
import Derived.Test.YtgllpbmagaelgaaMarks
import Derived.Test.YtgllpbmagaelgaaWorthBoth
namespace Go.Proofs.Ytgllpbmagaelgaa
open Go.RowKit
set_option linter.unusedVariables false
set_option linter.unusedSimpArgs false

set_option maxHeartbeats 4000000 in
theorem walkFnExactWorthTalks (a0 : Option Addr) (len0 cap0 : Nat) (z0 : List Int) (a1 : Option Addr) (len1 cap1 : Nat) (z1 : List Int) (w : World) (w0 : (a0 = none ∧ len0 = 0 ∧ cap0 = 0 ∧ z0 = []) ∨
      ∃ x, a0 = some x ∧ len0 ≤ cap0 ∧ cap0 ≤ maxLen ∧ z0.length = cap0 ∧ (∀ i, i < z0.length → w.cell? (x.add i) = some (.int .i64 (z0.getD i 0))) ∧ ∀ n ∈ z0, (Lit.int .i64 n).wf = true) (w1 : (a1 = none ∧ len1 = 0 ∧ cap1 = 0 ∧ z1 = []) ∨
      ∃ x, a1 = some x ∧ len1 ≤ cap1 ∧ cap1 ≤ maxLen ∧ z1.length = cap1 ∧ (∀ i, i < z1.length → w.cell? (x.add i) = some (.int .i64 (z1.getD i 0))) ∧ ∀ n ∈ z1, (Lit.int .i64 n).wf = true) :
    Calls Try.prog 11 #[.slice a0 len0 cap0, .slice a1 len1 cap1] w fun e w' => e = .returned (.bool true) ∧ Below w.heap.size w w' := by
  obtain ⟨hv0, hwf0, hlen0⟩ := ints_of_row w0
  generalize z0.take len0 = xs0 at *
  subst hlen0
  clear w0
  have hm0 := hv0.1
  unfold maxLen at hm0
  obtain ⟨hv1, hwf1, hlen1⟩ := ints_of_row w1
  generalize z1.take len1 = xs1 at *
  subst hlen1
  clear w1
  have hm1 := hv1.1
  unfold maxLen at hm1
  have hRL : (worthL xs0 xs1).length ≤ 100000000 := by have := worthL_small xs0 xs1; omega
  have hwfh0 := Lib.hid hwf0
  clear hwf0
  have hwfh1 := Lib.hid hwf1
  clear hwf1
  by_cases hbig0 : xs0.length ≤ 1048576
  · skip
    by_cases hbig1 : xs1.length ≤ 1048576
    · skip
      go_enter Try.func11, Try.ntmps11
      go_wp2_with fail
      refine (toInt64S_any _ xs0 _ hv0 hbig0).mono ?_
      rintro e W1 ⟨v1, rfl, (ho1 : OwnI _ _ _ _), hb1⟩
      have hs1 := hb1.size
      have hB1 : Below w.heap.size w W1 := hb1
      clear hb1
      have fs0_1 := Own2.of ho1
      clear ho1
      go_wp2_with fail
      refine (toInt64S_any _ xs1 _ (hv1.below hB1 (Nat.le_refl _)) hbig1).mono ?_
      rintro e W2 ⟨v2, rfl, (ho2 : OwnI _ _ _ _), hb2⟩
      have hs2 := hb2.size
      have hB2 : Below w.heap.size w W2 := hB1.trans (hb2.mono (by omega))
      have fs0_2 := fs0_1.below hb2
      clear fs0_1
      clear hb2
      clear hB1
      have fs1_2 := Own2.of ho2
      clear ho2
      go_wp2_with fail
      refine (specWorth_u _ _ xs0 xs1 _ fs0_2.ints fs1_2.ints hwfh0.out hbig1).mono ?_
      rintro e W3 ⟨⟨v3, rfl, ho3⟩, hb3⟩
      have hs3 := hb3.size
      have hB3 : Below w.heap.size w W3 := hB2.trans (hb3.mono (by omega))
      have fs0_3 := fs0_2.below hb3
      clear fs0_2
      have fs1_3 := fs1_2.below hb3
      clear fs1_2
      clear hb3
      clear hB2
      have fw_3 := Own2.of ho3
      clear ho3
      clear fs0_3
      clear fs1_3
      go_wp2_with fail
      refine (toInt64S_any _ xs0 _ (hv0.below hB3 (Nat.le_refl _)) hbig0).mono ?_
      rintro e W4 ⟨v4, rfl, (ho4 : OwnI _ _ _ _), hb4⟩
      have hs4 := hb4.size
      have hB4 : Below w.heap.size w W4 := hB3.trans (hb4.mono (by omega))
      have fw_4 := fw_3.below hb4
      clear fw_3
      clear hb4
      clear hB3
      have fx0_4 := Own2.of ho4
      clear ho4
      go_wp2_with fail
      refine (toInt64S_any _ xs1 _ (hv1.below hB4 (Nat.le_refl _)) hbig1).mono ?_
      rintro e W5 ⟨v5, rfl, (ho5 : OwnI _ _ _ _), hb5⟩
      have hs5 := hb5.size
      have hB5 : Below w.heap.size w W5 := hB4.trans (hb5.mono (by omega))
      have fw_5 := fw_4.below hb5
      clear fw_4
      have fx0_5 := fx0_4.below hb5
      clear fx0_4
      clear hb5
      clear hB4
      have fx1_5 := Own2.of ho5
      clear ho5
      go_wp2_with fail
      refine (implWorth_u _ _ xs0 xs1 _ fx0_5.ints fx1_5.ints).mono ?_
      rintro e W6 ⟨⟨v6, rfl, ho6⟩, hb6⟩
      have hs6 := hb6.size
      have hB6 : Below w.heap.size w W6 := hB5.trans (hb6.mono (by omega))
      have fw_6 := fw_5.below hb6
      clear fw_5
      have fx0_6 := fx0_5.below hb6
      clear fx0_5
      have fx1_6 := fx1_5.below hb6
      clear fx1_5
      clear hb6
      clear hB5
      have fg_6 := Own2.of ho6
      clear ho6
      go_wp2_with fail
      refine (eqInt64S_any _ _ (worthL xs0 xs1) (worthL xs0 xs1) _ fg_6.ints fw_6.ints).mono ?_
      rintro e W7 ⟨rfl, hb7⟩
      have hs7 := hb7.size
      have hB7 : Below w.heap.size w W7 := hB6.trans (hb7.mono (by omega))
      have fw_7 := fw_6.below hb7
      clear fw_6
      have fx0_7 := fx0_6.below hb7
      clear fx0_6
      have fx1_7 := fx1_6.below hb7
      clear fx1_6
      have fg_7 := fg_6.below hb7
      clear fg_6
      clear hb7
      clear hB6
      rw [show ((worthL xs0 xs1) == (worthL xs0 xs1)) = true from beq_self_eq_true _]
      go_wp2_with fail
      refine (toInt64S_any _ xs0 _ (hv0.below hB7 (Nat.le_refl _)) hbig0).mono ?_
      rintro e W8 ⟨v8, rfl, (ho8 : OwnI _ _ _ _), hb8⟩
      have hs8 := hb8.size
      have hB8 : Below w.heap.size w W8 := hB7.trans (hb8.mono (by omega))
      have fw_8 := fw_7.below hb8
      clear fw_7
      have fx0_8 := fx0_7.below hb8
      clear fx0_7
      have fx1_8 := fx1_7.below hb8
      clear fx1_7
      have fg_8 := fg_7.below hb8
      clear fg_7
      clear hb8
      clear hB7
      have fy0_8 := Own2.of ho8
      clear ho8
      go_wp2_with fail
      refine (eqInt64S_any _ _ xs0 xs0 _ fx0_8.ints fy0_8.ints).mono ?_
      rintro e W9 ⟨rfl, hb9⟩
      have hs9 := hb9.size
      have hB9 : Below w.heap.size w W9 := hB8.trans (hb9.mono (by omega))
      have fw_9 := fw_8.below hb9
      clear fw_8
      have fx0_9 := fx0_8.below hb9
      clear fx0_8
      have fx1_9 := fx1_8.below hb9
      clear fx1_8
      have fg_9 := fg_8.below hb9
      clear fg_8
      have fy0_9 := fy0_8.below hb9
      clear fy0_8
      clear hb9
      clear hB8
      rw [show (xs0 == xs0) = true from beq_self_eq_true _]
      clear fy0_9
      go_wp2_with fail
      refine (toInt64S_any _ xs1 _ (hv1.below hB9 (Nat.le_refl _)) hbig1).mono ?_
      rintro e W10 ⟨v10, rfl, (ho10 : OwnI _ _ _ _), hb10⟩
      have hs10 := hb10.size
      have hB10 : Below w.heap.size w W10 := hB9.trans (hb10.mono (by omega))
      have fw_10 := fw_9.below hb10
      clear fw_9
      have fx0_10 := fx0_9.below hb10
      clear fx0_9
      have fx1_10 := fx1_9.below hb10
      clear fx1_9
      have fg_10 := fg_9.below hb10
      clear fg_9
      clear hb10
      clear hB9
      have fy1_10 := Own2.of ho10
      clear ho10
      go_wp2_with fail
      refine (eqInt64S_any _ _ xs1 xs1 _ fx1_10.ints fy1_10.ints).mono ?_
      rintro e W11 ⟨rfl, hb11⟩
      have hs11 := hb11.size
      have hB11 : Below w.heap.size w W11 := hB10.trans (hb11.mono (by omega))
      have fw_11 := fw_10.below hb11
      clear fw_10
      have fx0_11 := fx0_10.below hb11
      clear fx0_10
      have fx1_11 := fx1_10.below hb11
      clear fx1_10
      have fg_11 := fg_10.below hb11
      clear fg_10
      have fy1_11 := fy1_10.below hb11
      clear fy1_10
      clear hb11
      clear hB10
      rw [show (xs1 == xs1) = true from beq_self_eq_true _]
      clear fy1_11
      go_wp2_with fail
      refine (markInt64S_any _ xs0 _ _ _ fx0_11.own (by omega) (by omega) (by omega)).mono ?_
      rintro e W12 ⟨rfl, ho12, hg12⟩
      have hs12 := hg12.size
      have hB12 : Below w.heap.size w W12 := Below.marked hB11 fx0_11 hg12 (by omega) (by omega)
      have fw_12 := fw_11.grown fx0_11 hg12 (by omega)
      clear fw_11
      have fx1_12 := fx1_11.grown fx0_11 hg12 (by omega)
      clear fx1_11
      have fg_12 := fg_11.grown fx0_11 hg12 (by omega)
      clear fg_11
      have fx0_12 := fx0_11.marked ho12
      clear hg12 fx0_11 ho12 hB11
      go_wp2_with fail
      refine (markInt64S_any _ xs1 _ _ _ fx1_12.own (by omega) (by omega) (by omega)).mono ?_
      rintro e W13 ⟨rfl, ho13, hg13⟩
      have hs13 := hg13.size
      have hB13 : Below w.heap.size w W13 := Below.marked hB12 fx1_12 hg13 (by omega) (by omega)
      have fw_13 := fw_12.grown fx1_12 hg13 (by omega)
      clear fw_12
      have fx0_13 := fx0_12.grown fx1_12 hg13 (by omega)
      clear fx0_12
      have fg_13 := fg_12.grown fx1_12 hg13 (by omega)
      clear fg_12
      have fx1_13 := fx1_12.marked ho13
      clear hg13 fx1_12 ho13 hB12
      go_wp2_with fail
      refine (eqInt64S_any _ _ (worthL xs0 xs1) (worthL xs0 xs1) _ fg_13.ints fw_13.ints).mono ?_
      rintro e W14 ⟨rfl, hb14⟩
      have hs14 := hb14.size
      have hB14 : Below w.heap.size w W14 := hB13.trans (hb14.mono (by omega))
      have fw_14 := fw_13.below hb14
      clear fw_13
      have fx0_14 := fx0_13.below hb14
      clear fx0_13
      have fx1_14 := fx1_13.below hb14
      clear fx1_13
      have fg_14 := fg_13.below hb14
      clear fg_13
      clear hb14
      clear hB13
      rw [show ((worthL xs0 xs1) == (worthL xs0 xs1)) = true from beq_self_eq_true _]
      clear fx0_14
      clear fx1_14
      go_wp2_with fail
      refine (markInt64S_any _ (worthL xs0 xs1) _ _ _ fg_14.own (by omega) (by omega) (by omega)).mono ?_
      rintro e W15 ⟨rfl, ho15, hg15⟩
      have hs15 := hg15.size
      have hB15 : Below w.heap.size w W15 := Below.marked hB14 fg_14 hg15 (by omega) (by omega)
      have fw_15 := fw_14.grown fg_14 hg15 (by omega)
      clear fw_14
      have fg_15 := fg_14.marked ho15
      clear hg15 fg_14 ho15 hB14
      go_wp2_with fail
      refine (heldInt64S_any _ _ _ _ fg_15.ints (by omega) (by omega) (by omega)).mono ?_
      rintro e w' ⟨rfl, rfl⟩
      go_wp2_with fail
      refine (toInt64S_any _ xs0 _ (hv0.below hB15 (Nat.le_refl _)) hbig0).mono ?_
      rintro e W16 ⟨v16, rfl, (ho16 : OwnI _ _ _ _), hb16⟩
      have hs16 := hb16.size
      have hB16 : Below w.heap.size w W16 := hB15.trans (hb16.mono (by omega))
      have fw_16 := fw_15.below hb16
      clear fw_15
      have fg_16 := fg_15.below hb16
      clear fg_15
      clear hb16
      clear hB15
      have ft0_16 := Own2.of ho16
      clear ho16
      go_wp2_with fail
      refine (toInt64S_any _ xs1 _ (hv1.below hB16 (Nat.le_refl _)) hbig1).mono ?_
      rintro e W17 ⟨v17, rfl, (ho17 : OwnI _ _ _ _), hb17⟩
      have hs17 := hb17.size
      have hB17 : Below w.heap.size w W17 := hB16.trans (hb17.mono (by omega))
      have fw_17 := fw_16.below hb17
      clear fw_16
      have fg_17 := fg_16.below hb17
      clear fg_16
      have ft0_17 := ft0_16.below hb17
      clear ft0_16
      clear hb17
      clear hB16
      have ft1_17 := Own2.of ho17
      clear ho17
      go_wp2_with fail
      refine (implWorth_u _ _ xs0 xs1 _ ft0_17.ints ft1_17.ints).mono ?_
      rintro e W18 ⟨⟨v18, rfl, ho18⟩, hb18⟩
      have hs18 := hb18.size
      have hB18 : Below w.heap.size w W18 := hB17.trans (hb18.mono (by omega))
      have fw_18 := fw_17.below hb18
      clear fw_17
      have fg_18 := fg_17.below hb18
      clear fg_17
      have ft0_18 := ft0_17.below hb18
      clear ft0_17
      have ft1_18 := ft1_17.below hb18
      clear ft1_17
      clear hb18
      clear hB17
      have fh_18 := Own2.of ho18
      clear ho18
      go_wp2_with fail
      refine (eqInt64S_any _ _ (worthL xs0 xs1) (worthL xs0 xs1) _ fh_18.ints fw_18.ints).mono ?_
      rintro e W19 ⟨rfl, hb19⟩
      have hs19 := hb19.size
      have hB19 : Below w.heap.size w W19 := hB18.trans (hb19.mono (by omega))
      have fw_19 := fw_18.below hb19
      clear fw_18
      have fg_19 := fg_18.below hb19
      clear fg_18
      have ft0_19 := ft0_18.below hb19
      clear ft0_18
      have ft1_19 := ft1_18.below hb19
      clear ft1_18
      have fh_19 := fh_18.below hb19
      clear fh_18
      clear hb19
      clear hB18
      rw [show ((worthL xs0 xs1) == (worthL xs0 xs1)) = true from beq_self_eq_true _]
      go_wp2_with fail
      refine (heldInt64S_any _ _ _ _ fg_19.ints (by omega) (by omega) (by omega)).mono ?_
      rintro e w' ⟨rfl, rfl⟩
      go_wp2_with fail
      go_ret
      exact ⟨rfl, hB19⟩
    · go_enter Try.func11, Try.ntmps11
      go_wp2_with fail
      go_ret
      exact ⟨rfl, Below.refl _ _⟩
  · go_enter Try.func11, Try.ntmps11
    go_wp2_with fail
    go_ret
    exact ⟨rfl, Below.refl _ _⟩
end Go.Proofs.Ytgllpbmagaelgaa
