
/- The walk of FnExactStoreAll. Conditions: none. -/
import Derived.Test.YtmakjgbldejcpaaStoreAll
import Derived.Test.YtmakjgbldejcpaaXSameSaved
namespace Go.Proofs.Ytmakjgbldejcpaa
open Go.RowKit
set_option linter.unusedVariables false
set_option linter.unusedSimpArgs false

set_option maxHeartbeats 4000000 in
theorem walkFnExactStoreAll (a0 : Value) (xs : List Sv) (w : World) (w0 : SlR rSaved w a0 xs) :
    Calls Try.prog 12 #[a0] w fun e w' => e = .returned (.bool true) ∧ Below w.heap.size w w' := by
  have HV : Hid (∀ W, Below w.heap.size w W → SavedsR W a0 xs) := fun W hW => w0.below hW (Nat.le_refl _)
  obtain ⟨_, p1, p2, rfl, _⟩ := w0
  obtain ⟨R, hR⟩ : ∃ R, storeAllR xs = R := ⟨_, rfl⟩
  obtain ⟨Bk, hBk⟩ : ∃ R, allOk xs = R := ⟨_, rfl⟩
  have HRX := Lib.hid hR
  have HBX := Lib.hid hBk
  clear hR hBk
  go_enter Try.func12, Try.ntmps12
  go_wp2_with fail
  refine (szSavedS_any _ xs 1048576 w (HV.out _ (Below.refl _ _)) (by omega) (by omega)).mono ?_
  rintro e W1 ⟨⟨z1, rfl, hz1⟩, hb1⟩
  have HB1 := Lib.hid hb1
  clear hb1
  by_cases hn1 : z1 < 0
  · go_wp2_with fail
    go_ret
    exact ⟨rfl, HB1.out⟩
  have HSA : Hid (smallSaveds xs) := by rcases hz1 with h | h; omega; exact h.2.2
  clear hz1
  go_wp2_with fail
  refine (toSavedS_any _ xs W1 (HV.out _ HB1.out) HSA.out).mono ?_
  rintro e W3 ⟨⟨va, rfl, hf3⟩, hb3⟩
  have HB3 := Lib.hid (HB1.out.trans (hb3.mono HB1.out.size))
  have HC3 := Lib.hid (specStoreAll_u va xs W3 (hf3.saveds _ (Below.refl _ _)) HSA.out)
  rw [HRX.out, HBX.out] at HC3
  clear hf3 hb3 HB1
  go_wp2_with fail
  refine HC3.out.mono ?_
  rintro e W4 ⟨rfl, hb4⟩
  have HB4 := Lib.hid (HB3.out.trans (hb4.mono HB3.out.size))
  clear hb4 HB3 HC3
  go_wp2_with fail
  refine (toSavedS_any _ xs W4 (HV.out _ HB4.out) HSA.out).mono ?_
  rintro e W5 ⟨⟨vb, rfl, hf5⟩, hb5⟩
  have HB5 := Lib.hid (HB4.out.trans (hb5.mono HB4.out.size))
  have F5 := Lib.hid hf5.saveds
  have HC5 := Lib.hid (implStoreAll_u vb xs W5 (hf5.saveds _ (Below.refl _ _)) HSA.out)
  rw [HRX.out, HBX.out] at HC5
  clear hf5 hb5 HB4
  go_wp2_with fail
  refine HC5.out.mono ?_
  rintro e W6 ⟨rfl, hb6⟩
  have HB6 := Lib.hid (HB5.out.trans (hb6.mono HB5.out.size))
  have F6 : Hid (∀ W, Below W6.heap.size W6 W → SavedsR W vb xs) := fun W hW => F5.out W (hb6.trans (hW.mono hb6.size))
  clear hb6 HB5 HC5 F5
  go_wp2_with fail
  refine (toSavedS_any _ xs W6 (HV.out _ HB6.out) HSA.out).mono ?_
  rintro e W7 ⟨⟨vc, rfl, hf7⟩, hb7⟩
  have HB7 := Lib.hid (HB6.out.trans (hb7.mono HB6.out.size))
  have F7 : Hid (∀ W, Below W7.heap.size W7 W → SavedsR W vb xs) := fun W hW => F6.out W (hb7.trans (hW.mono hb7.size))
  have G7 := Lib.hid hf7.saveds
  clear hf7 hb7 HB6 F6
  go_wp2_with fail
  refine (eqSavedS_same _ _ xs W7 (F7.out _ (Below.refl _ _)) (G7.out _ (Below.refl _ _))).mono ?_
  rintro e W8 ⟨rfl, hb8⟩
  have HB8 := Lib.hid (HB7.out.trans (hb8.mono HB7.out.size))
  clear hb8 HB7
  go_wp2_with fail
  go_ret
  exact ⟨rfl, HB8.out⟩
end Go.Proofs.Ytmakjgbldejcpaa
