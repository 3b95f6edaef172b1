
/- The walk of FnExactRoomsOf. Conditions: none. -/
import Derived.Test.YtnpfninkopffmaaMarks
import Derived.Test.YtnpfninkopffmaaRoomSpec
namespace Go.Proofs.Ytnpfninkopffmaa
open Go.RowKit
set_option linter.unusedVariables false
set_option linter.unusedSimpArgs false

set_option maxHeartbeats 4000000 in
theorem walkFnExactRoomsOf (a0 : Option Addr) (len0 cap0 : Nat) (z0 : List Int) (w : World) (w0 : (a0 = none ∧ len0 = 0 ∧ cap0 = 0 ∧ z0 = []) ∨
      ∃ x, a0 = some x ∧ len0 ≤ cap0 ∧ cap0 ≤ maxLen ∧ z0.length = cap0 ∧ (∀ i, i < z0.length → w.cell? (x.add i) = some (.int .i64 (z0.getD i 0))) ∧ ∀ n ∈ z0, (Lit.int .i64 n).wf = true) :
    Calls Try.prog 5 #[.slice a0 len0 cap0] w fun e w' => e = .returned (.bool true) ∧ Below w.heap.size w w' := by
  obtain ⟨hv0, hwf0, hlen0⟩ := ints_of_row w0
  generalize z0.take len0 = xs0 at *
  subst hlen0
  clear w0
  have hm0 := hv0.1
  unfold maxLen at hm0
  have hRL : (roomsR xs0).length ≤ 100000000 := by have := roomsR_small xs0; omega
  have hwfh0 := Lib.hid hwf0
  clear hwf0
  by_cases hbig0 : xs0.length ≤ 1048576
  · skip
    go_enter Try.func5, Try.ntmps5
    go_wp2_with fail
    refine (toInt64S_any _ xs0 _ hv0 hbig0).mono ?_
    rintro e W1 ⟨v1, rfl, (ho1 : OwnI _ _ _ _), hb1⟩
    have hs1 := hb1.size
    have hB1 : Below w.heap.size w W1 := hb1
    clear hb1
    have fs0_1 := Own2.of ho1
    clear ho1
    go_wp2_with fail
    refine (specRooms_any _ xs0 _ fs0_1.ints hwfh0.out).mono ?_
    rintro e W2 ⟨⟨v2, rfl, ho2⟩, hb2⟩
    have hs2 := hb2.size
    have hB2 : Below w.heap.size w W2 := hB1.trans (hb2.mono (by omega))
    have fs0_2 := fs0_1.below hb2
    clear fs0_1
    clear hb2
    clear hB1
    have fw_2 := Own2.of ho2
    clear ho2
    clear fs0_2
    go_wp2_with fail
    refine (toInt64S_any _ xs0 _ (hv0.below hB2 (Nat.le_refl _)) hbig0).mono ?_
    rintro e W3 ⟨v3, rfl, (ho3 : OwnI _ _ _ _), hb3⟩
    have hs3 := hb3.size
    have hB3 : Below w.heap.size w W3 := hB2.trans (hb3.mono (by omega))
    have fw_3 := fw_2.below hb3
    clear fw_2
    clear hb3
    clear hB2
    have fx0_3 := Own2.of ho3
    clear ho3
    go_wp2_with fail
    refine (implRooms_any _ xs0 _ fx0_3.ints).mono ?_
    rintro e W4 ⟨⟨v4, rfl, ho4⟩, hb4⟩
    have hs4 := hb4.size
    have hB4 : Below w.heap.size w W4 := hB3.trans (hb4.mono (by omega))
    have fw_4 := fw_3.below hb4
    clear fw_3
    have fx0_4 := fx0_3.below hb4
    clear fx0_3
    clear hb4
    clear hB3
    have fg_4 := Own2.of ho4
    clear ho4
    go_wp2_with fail
    refine (eqInt64S_any _ _ (roomsR xs0) (roomsR xs0) _ fg_4.ints fw_4.ints).mono ?_
    rintro e W5 ⟨rfl, hb5⟩
    have hs5 := hb5.size
    have hB5 : Below w.heap.size w W5 := hB4.trans (hb5.mono (by omega))
    have fw_5 := fw_4.below hb5
    clear fw_4
    have fx0_5 := fx0_4.below hb5
    clear fx0_4
    have fg_5 := fg_4.below hb5
    clear fg_4
    clear hb5
    clear hB4
    rw [show ((roomsR xs0) == (roomsR xs0)) = true from beq_self_eq_true _]
    go_wp2_with fail
    refine (toInt64S_any _ xs0 _ (hv0.below hB5 (Nat.le_refl _)) hbig0).mono ?_
    rintro e W6 ⟨v6, rfl, (ho6 : OwnI _ _ _ _), hb6⟩
    have hs6 := hb6.size
    have hB6 : Below w.heap.size w W6 := hB5.trans (hb6.mono (by omega))
    have fw_6 := fw_5.below hb6
    clear fw_5
    have fx0_6 := fx0_5.below hb6
    clear fx0_5
    have fg_6 := fg_5.below hb6
    clear fg_5
    clear hb6
    clear hB5
    have fy0_6 := Own2.of ho6
    clear ho6
    go_wp2_with fail
    refine (eqInt64S_any _ _ xs0 xs0 _ fx0_6.ints fy0_6.ints).mono ?_
    rintro e W7 ⟨rfl, hb7⟩
    have hs7 := hb7.size
    have hB7 : Below w.heap.size w W7 := hB6.trans (hb7.mono (by omega))
    have fw_7 := fw_6.below hb7
    clear fw_6
    have fx0_7 := fx0_6.below hb7
    clear fx0_6
    have fg_7 := fg_6.below hb7
    clear fg_6
    have fy0_7 := fy0_6.below hb7
    clear fy0_6
    clear hb7
    clear hB6
    rw [show (xs0 == xs0) = true from beq_self_eq_true _]
    clear fy0_7
    go_wp2_with fail
    refine (markInt64S_any _ xs0 _ _ _ fx0_7.own (by omega) (by omega) (by omega)).mono ?_
    rintro e W8 ⟨rfl, ho8, hg8⟩
    have hs8 := hg8.size
    have hB8 : Below w.heap.size w W8 := Below.marked hB7 fx0_7 hg8 (by omega) (by omega)
    have fw_8 := fw_7.grown fx0_7 hg8 (by omega)
    clear fw_7
    have fg_8 := fg_7.grown fx0_7 hg8 (by omega)
    clear fg_7
    have fx0_8 := fx0_7.marked ho8
    clear hg8 fx0_7 ho8 hB7
    go_wp2_with fail
    refine (eqInt64S_any _ _ (roomsR xs0) (roomsR xs0) _ fg_8.ints fw_8.ints).mono ?_
    rintro e W9 ⟨rfl, hb9⟩
    have hs9 := hb9.size
    have hB9 : Below w.heap.size w W9 := hB8.trans (hb9.mono (by omega))
    have fw_9 := fw_8.below hb9
    clear fw_8
    have fx0_9 := fx0_8.below hb9
    clear fx0_8
    have fg_9 := fg_8.below hb9
    clear fg_8
    clear hb9
    clear hB8
    rw [show ((roomsR xs0) == (roomsR xs0)) = true from beq_self_eq_true _]
    clear fx0_9
    go_wp2_with fail
    refine (markInt64S_any _ (roomsR xs0) _ _ _ fg_9.own (by omega) (by omega) (by omega)).mono ?_
    rintro e W10 ⟨rfl, ho10, hg10⟩
    have hs10 := hg10.size
    have hB10 : Below w.heap.size w W10 := Below.marked hB9 fg_9 hg10 (by omega) (by omega)
    have fw_10 := fw_9.grown fg_9 hg10 (by omega)
    clear fw_9
    have fg_10 := fg_9.marked ho10
    clear hg10 fg_9 ho10 hB9
    go_wp2_with fail
    refine (heldInt64S_any _ _ _ _ fg_10.ints (by omega) (by omega) (by omega)).mono ?_
    rintro e w' ⟨rfl, rfl⟩
    go_wp2_with fail
    refine (toInt64S_any _ xs0 _ (hv0.below hB10 (Nat.le_refl _)) hbig0).mono ?_
    rintro e W11 ⟨v11, rfl, (ho11 : OwnI _ _ _ _), hb11⟩
    have hs11 := hb11.size
    have hB11 : Below w.heap.size w W11 := hB10.trans (hb11.mono (by omega))
    have fw_11 := fw_10.below hb11
    clear fw_10
    have fg_11 := fg_10.below hb11
    clear fg_10
    clear hb11
    clear hB10
    have ft0_11 := Own2.of ho11
    clear ho11
    go_wp2_with fail
    refine (implRooms_any _ xs0 _ ft0_11.ints).mono ?_
    rintro e W12 ⟨⟨v12, rfl, ho12⟩, hb12⟩
    have hs12 := hb12.size
    have hB12 : Below w.heap.size w W12 := hB11.trans (hb12.mono (by omega))
    have fw_12 := fw_11.below hb12
    clear fw_11
    have fg_12 := fg_11.below hb12
    clear fg_11
    have ft0_12 := ft0_11.below hb12
    clear ft0_11
    clear hb12
    clear hB11
    have fh_12 := Own2.of ho12
    clear ho12
    go_wp2_with fail
    refine (eqInt64S_any _ _ (roomsR xs0) (roomsR xs0) _ fh_12.ints fw_12.ints).mono ?_
    rintro e W13 ⟨rfl, hb13⟩
    have hs13 := hb13.size
    have hB13 : Below w.heap.size w W13 := hB12.trans (hb13.mono (by omega))
    have fw_13 := fw_12.below hb13
    clear fw_12
    have fg_13 := fg_12.below hb13
    clear fg_12
    have ft0_13 := ft0_12.below hb13
    clear ft0_12
    have fh_13 := fh_12.below hb13
    clear fh_12
    clear hb13
    clear hB12
    rw [show ((roomsR xs0) == (roomsR xs0)) = true from beq_self_eq_true _]
    go_wp2_with fail
    refine (heldInt64S_any _ _ _ _ fg_13.ints (by omega) (by omega) (by omega)).mono ?_
    rintro e w' ⟨rfl, rfl⟩
    go_wp2_with fail
    go_ret
    exact ⟨rfl, hB13⟩
  · go_enter Try.func5, Try.ntmps5
    go_wp2_with fail
    go_ret
    exact ⟨rfl, Below.refl _ _⟩
end Go.Proofs.Ytnpfninkopffmaa
