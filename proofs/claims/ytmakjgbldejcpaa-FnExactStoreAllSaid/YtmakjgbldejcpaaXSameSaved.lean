
/- The walk of FnExactSameSaved. Conditions: none. -/
import Derived.Test.YtmakjgbldejcpaaSameSaved
namespace Go.Proofs.Ytmakjgbldejcpaa
open Go.RowKit
set_option linter.unusedVariables false
set_option linter.unusedSimpArgs false

theorem FreshR.saveds {k : Nat} {w : World} {v : Value} {xs : List Sv} (h : FreshR (rSl rSaved) k w [v] xs) : ∀ W, Below w.heap.size w W → SavedsR W v xs := fun W hW => by
  obtain ⟨v', he, hr⟩ := h.now
  simp at he; subst he
  exact hr.below hW (Nat.le_refl _)

set_option maxHeartbeats 4000000 in
theorem walkFnExactSameSaved (a0 : Value) (xs : List Sv) (a1 : Value) (ys : List Sv) (w : World) (w0 : SlR rSaved w a0 xs) (w1 : SlR rSaved w a1 ys) :
    Calls Try.prog 6 #[a0, a1] w fun e w' => e = .returned (.bool true) ∧ Below w.heap.size w w' := by
  have HV : Hid (∀ W, Below w.heap.size w W → SavedsR W a0 xs) := fun W hW => w0.below hW (Nat.le_refl _)
  have HU : Hid (∀ W, Below w.heap.size w W → SavedsR W a1 ys) := fun W hW => w1.below hW (Nat.le_refl _)
  obtain ⟨_, p1, p2, rfl, _⟩ := w0
  obtain ⟨_, q1, q2, rfl, _⟩ := w1
  go_enter Try.func6, Try.ntmps6
  go_wp2_with fail
  refine (szSavedS_any _ xs 1048576 w (HV.out _ (Below.refl _ _)) (by omega) (by omega)).mono ?_
  rintro e W1 ⟨⟨z1, rfl, hz1⟩, hb1⟩
  have HB1 := Lib.hid hb1
  clear hb1
  by_cases hn1 : z1 < 0
  · go_wp2_with fail
    go_ret
    exact ⟨rfl, HB1.out⟩
  have HSA : Hid (0 ≤ z1 ∧ z1 ≤ 1048576 ∧ smallSaveds xs) := by rcases hz1 with h | h; omega; exact h
  clear hz1
  go_wp2_with fail
  refine (szSavedS_any _ ys z1 W1 (HU.out _ HB1.out) HSA.out.1 HSA.out.2.1).mono ?_
  rintro e W2 ⟨⟨z2, rfl, hz2⟩, hb2⟩
  have HB2 := Lib.hid (HB1.out.trans (hb2.mono HB1.out.size))
  clear hb2 HB1
  by_cases hn2 : z2 < 0
  · go_wp2_with fail
    go_ret
    exact ⟨rfl, HB2.out⟩
  have HSB : Hid (smallSaveds ys) := by rcases hz2 with h | h; omega; exact h.2.2
  clear hz2
  go_wp2_with fail
  refine (toSavedS_any _ xs W2 (HV.out _ HB2.out) HSA.out.2.2).mono ?_
  rintro e W3 ⟨⟨va, rfl, hf3⟩, hb3⟩
  have HB3 := Lib.hid (HB2.out.trans (hb3.mono HB2.out.size))
  have Fa_3 := Lib.hid hf3.saveds
  clear hf3
  clear hb3 HB2
  go_wp2_with fail
  refine (toSavedS_any _ ys W3 (HU.out _ HB3.out) HSB.out).mono ?_
  rintro e W4 ⟨⟨vb, rfl, hf4⟩, hb4⟩
  have HB4 := Lib.hid (HB3.out.trans (hb4.mono HB3.out.size))
  have Fa_4 : Hid (∀ W, Below W4.heap.size W4 W → SavedsR W va xs) := fun W hW => Fa_3.out W (hb4.trans (hW.mono hb4.size))
  clear Fa_3
  have Fb_4 := Lib.hid hf4.saveds
  clear hf4
  clear hb4 HB3
  go_wp2_with fail
  refine (specSameSaved_any _ _ xs ys W4 (Fa_4.out _ (Below.refl _ _)) (Fb_4.out _ (Below.refl _ _))).mono ?_
  rintro e W5 ⟨rfl, hq5⟩
  have hb5 : Below W4.heap.size W4 W5 := by obtain ⟨q, rfl⟩ := hq5; exact below_drewN q (Below.refl _ _)
  clear hq5
  have HB5 := Lib.hid (HB4.out.trans (hb5.mono HB4.out.size))
  have Fa_5 : Hid (∀ W, Below W5.heap.size W5 W → SavedsR W va xs) := fun W hW => Fa_4.out W (hb5.trans (hW.mono hb5.size))
  clear Fa_4
  have Fb_5 : Hid (∀ W, Below W5.heap.size W5 W → SavedsR W vb ys) := fun W hW => Fb_4.out W (hb5.trans (hW.mono hb5.size))
  clear Fb_4
  clear hb5 HB4
  clear Fa_5
  clear Fb_5
  go_wp2_with fail
  refine (toSavedS_any _ xs W5 (HV.out _ HB5.out) HSA.out.2.2).mono ?_
  rintro e W6 ⟨⟨vc, rfl, hf6⟩, hb6⟩
  have HB6 := Lib.hid (HB5.out.trans (hb6.mono HB5.out.size))
  have Fc_6 := Lib.hid hf6.saveds
  clear hf6
  clear hb6 HB5
  go_wp2_with fail
  refine (toSavedS_any _ ys W6 (HU.out _ HB6.out) HSB.out).mono ?_
  rintro e W7 ⟨⟨vd, rfl, hf7⟩, hb7⟩
  have HB7 := Lib.hid (HB6.out.trans (hb7.mono HB6.out.size))
  have Fc_7 : Hid (∀ W, Below W7.heap.size W7 W → SavedsR W vc xs) := fun W hW => Fc_6.out W (hb7.trans (hW.mono hb7.size))
  clear Fc_6
  have Fd_7 := Lib.hid hf7.saveds
  clear hf7
  clear hb7 HB6
  go_wp2_with fail
  refine (implSameSaved_any _ _ xs ys W7 (Fc_7.out _ (Below.refl _ _)) (Fd_7.out _ (Below.refl _ _))).mono ?_
  rintro e W8 ⟨rfl, hb8⟩
  have HB8 := Lib.hid (HB7.out.trans (hb8.mono HB7.out.size))
  have Fc_8 : Hid (∀ W, Below W8.heap.size W8 W → SavedsR W vc xs) := fun W hW => Fc_7.out W (hb8.trans (hW.mono hb8.size))
  clear Fc_7
  have Fd_8 : Hid (∀ W, Below W8.heap.size W8 W → SavedsR W vd ys) := fun W hW => Fd_7.out W (hb8.trans (hW.mono hb8.size))
  clear Fd_7
  clear hb8 HB7
  go_wp2_with fail
  refine (toSavedS_any _ xs W8 (HV.out _ HB8.out) HSA.out.2.2).mono ?_
  rintro e W9 ⟨⟨ve, rfl, hf9⟩, hb9⟩
  have HB9 := Lib.hid (HB8.out.trans (hb9.mono HB8.out.size))
  have Fc_9 : Hid (∀ W, Below W9.heap.size W9 W → SavedsR W vc xs) := fun W hW => Fc_8.out W (hb9.trans (hW.mono hb9.size))
  clear Fc_8
  have Fd_9 : Hid (∀ W, Below W9.heap.size W9 W → SavedsR W vd ys) := fun W hW => Fd_8.out W (hb9.trans (hW.mono hb9.size))
  clear Fd_8
  have Fe_9 := Lib.hid hf9.saveds
  clear hf9
  clear hb9 HB8
  go_wp2_with fail
  refine (eqSavedS_same _ _ xs W9 (Fc_9.out _ (Below.refl _ _)) (Fe_9.out _ (Below.refl _ _))).mono ?_
  rintro e W10 ⟨rfl, hb10⟩
  have HB10 := Lib.hid (HB9.out.trans (hb10.mono HB9.out.size))
  have Fc_10 : Hid (∀ W, Below W10.heap.size W10 W → SavedsR W vc xs) := fun W hW => Fc_9.out W (hb10.trans (hW.mono hb10.size))
  clear Fc_9
  have Fd_10 : Hid (∀ W, Below W10.heap.size W10 W → SavedsR W vd ys) := fun W hW => Fd_9.out W (hb10.trans (hW.mono hb10.size))
  clear Fd_9
  have Fe_10 : Hid (∀ W, Below W10.heap.size W10 W → SavedsR W ve xs) := fun W hW => Fe_9.out W (hb10.trans (hW.mono hb10.size))
  clear Fe_9
  clear hb10 HB9
  clear Fc_10
  clear Fe_10
  go_wp2_with fail
  refine (toSavedS_any _ ys W10 (HU.out _ HB10.out) HSB.out).mono ?_
  rintro e W11 ⟨⟨vf, rfl, hf11⟩, hb11⟩
  have HB11 := Lib.hid (HB10.out.trans (hb11.mono HB10.out.size))
  have Fd_11 : Hid (∀ W, Below W11.heap.size W11 W → SavedsR W vd ys) := fun W hW => Fd_10.out W (hb11.trans (hW.mono hb11.size))
  clear Fd_10
  have Ff_11 := Lib.hid hf11.saveds
  clear hf11
  clear hb11 HB10
  go_wp2_with fail
  refine (eqSavedS_same _ _ ys W11 (Fd_11.out _ (Below.refl _ _)) (Ff_11.out _ (Below.refl _ _))).mono ?_
  rintro e W12 ⟨rfl, hb12⟩
  have HB12 := Lib.hid (HB11.out.trans (hb12.mono HB11.out.size))
  have Fd_12 : Hid (∀ W, Below W12.heap.size W12 W → SavedsR W vd ys) := fun W hW => Fd_11.out W (hb12.trans (hW.mono hb12.size))
  clear Fd_11
  have Ff_12 : Hid (∀ W, Below W12.heap.size W12 W → SavedsR W vf ys) := fun W hW => Ff_11.out W (hb12.trans (hW.mono hb12.size))
  clear Ff_11
  clear hb12 HB11
  clear Fd_12
  clear Ff_12
  go_wp2_with fail
  go_ret
  exact ⟨rfl, HB12.out⟩
end Go.Proofs.Ytmakjgbldejcpaa
