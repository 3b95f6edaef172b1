/- The walk of FnExactIsColour. Conditions: none. -/
import Derived.Test.YthnjbgncomoiiaaColour1
namespace Go.Proofs.Ythnjbgncomoiiaa
open Go.RowKit
set_option linter.unusedVariables false
set_option linter.unusedSimpArgs false
set_option maxHeartbeats 1000000

theorem walkFnExactIsColour (a0 : Int) (a1 : Option Addr) (len1 cap1 : Nat) (z1 : List Int) (a2 : Option Addr) (len2 cap2 : Nat) (z2 : List Int) (w : World) (w0 : (Lit.int .i64 a0).wf = true) (w1 : (a1 = none ∧ len1 = 0 ∧ cap1 = 0 ∧ z1 = []) ∨
      ∃ x, a1 = some x ∧ len1 ≤ cap1 ∧ cap1 ≤ maxLen ∧ z1.length = cap1 ∧ (∀ i, i < z1.length → w.cell? (x.add i) = some (.int .i64 (z1.getD i 0))) ∧ ∀ n ∈ z1, (Lit.int .i64 n).wf = true) (w2 : (a2 = none ∧ len2 = 0 ∧ cap2 = 0 ∧ z2 = []) ∨
      ∃ x, a2 = some x ∧ len2 ≤ cap2 ∧ cap2 ≤ maxLen ∧ z2.length = cap2 ∧ (∀ i, i < z2.length → w.cell? (x.add i) = some (.int .i64 (z2.getD i 0))) ∧ ∀ n ∈ z2, (Lit.int .i64 n).wf = true) :
    Calls Try.prog 9 #[.int .i64 a0, .slice a1 len1 cap1, .slice a2 len2 cap2] w fun e w' => e = .returned (.bool true) ∧ Below w.heap.size w w' := by
  obtain ⟨hv1, hwf1, hlen1⟩ := ints_of_row w1
  generalize z1.take len1 = xs1 at *
  subst hlen1
  clear w1
  have hm1 := hv1.1
  unfold maxLen at hm1
  obtain ⟨hv2, hwf2, hlen2⟩ := ints_of_row w2
  generalize z2.take len2 = xs2 at *
  subst hlen2
  clear w2
  have hm2 := hv2.1
  unfold maxLen at hm2
  by_cases hbig1 : xs1.length ≤ 1048576
  · skip
    by_cases hbig2 : xs2.length ≤ 1048576
    · skip
      go_enter Try.func9, Try.ntmps9
      go_wp2_with fail
      refine (toInt64S_any _ xs1 _ hv1 hbig1).mono ?_
      rintro e W1 ⟨v1, rfl, ho1, hb1⟩
      have hB1 : Below w.heap.size w W1 := hb1
      have his1_1 := ints_of_own ho1
      go_wp2_with fail
      refine (toInt64S_any _ xs2 _ (hv2.below hB1 (Nat.le_refl _)) hbig2).mono ?_
      rintro e W2 ⟨v2, rfl, ho2, hb2⟩
      have hB2 : Below w.heap.size w W2 := hB1.trans (hb2.mono hB1.size)
      have his1_2 := his1_1.below hb2 (Nat.le_refl _)
      have his2_2 := ints_of_own ho2
      go_wp2_with fail
      refine (specColour_any _ _ _ xs1 xs2 _ his1_2 his2_2 w0).mono ?_
      rintro e W3 ⟨rfl, hb3⟩
      have hB3 : Below w.heap.size w W3 := hB2.trans (hb3.mono hB2.size)
      have his1_3 := his1_2.below hb3 (Nat.le_refl _)
      have his2_3 := his2_2.below hb3 (Nat.le_refl _)
      go_wp2_with fail
      refine (toInt64S_any _ xs1 _ (hv1.below hB3 (Nat.le_refl _)) hbig1).mono ?_
      rintro e W4 ⟨v4, rfl, ho4, hb4⟩
      have hB4 : Below w.heap.size w W4 := hB3.trans (hb4.mono hB3.size)
      have hix1_4 := ints_of_own ho4
      go_wp2_with fail
      refine (toInt64S_any _ xs2 _ (hv2.below hB4 (Nat.le_refl _)) hbig2).mono ?_
      rintro e W5 ⟨v5, rfl, ho5, hb5⟩
      have hB5 : Below w.heap.size w W5 := hB4.trans (hb5.mono hB4.size)
      have hix1_5 := hix1_4.below hb5 (Nat.le_refl _)
      have hix2_5 := ints_of_own ho5
      go_wp2_with fail
      refine (implIsColour_any _ _ _ xs1 xs2 _ hix1_5 hix2_5 w0).mono ?_
      rintro e W6 ⟨rfl, hb6⟩
      have hB6 : Below w.heap.size w W6 := hB5.trans (hb6.mono hB5.size)
      have hix1_6 := hix1_5.below hb6 (Nat.le_refl _)
      have hix2_6 := hix2_5.below hb6 (Nat.le_refl _)
      go_wp2_with fail
      refine (toInt64S_any _ xs1 _ (hv1.below hB6 (Nat.le_refl _)) hbig1).mono ?_
      rintro e W7 ⟨v7, rfl, ho7, hb7⟩
      have hB7 : Below w.heap.size w W7 := hB6.trans (hb7.mono hB6.size)
      have hix1_7 := hix1_6.below hb7 (Nat.le_refl _)
      have hix2_7 := hix2_6.below hb7 (Nat.le_refl _)
      have hiy1_7 := ints_of_own ho7
      go_wp2_with fail
      refine (eqInt64S_any _ _ xs1 xs1 _ hix1_7 hiy1_7).mono ?_
      rintro e W8 ⟨rfl, hb8⟩
      have hB8 : Below w.heap.size w W8 := hB7.trans (hb8.mono hB7.size)
      have hix1_8 := hix1_7.below hb8 (Nat.le_refl _)
      have hix2_8 := hix2_7.below hb8 (Nat.le_refl _)
      have hiy1_8 := hiy1_7.below hb8 (Nat.le_refl _)
      go_wp2_with fail
      refine (toInt64S_any _ xs2 _ (hv2.below hB8 (Nat.le_refl _)) hbig2).mono ?_
      rintro e W9 ⟨v9, rfl, ho9, hb9⟩
      have hB9 : Below w.heap.size w W9 := hB8.trans (hb9.mono hB8.size)
      have hix1_9 := hix1_8.below hb9 (Nat.le_refl _)
      have hix2_9 := hix2_8.below hb9 (Nat.le_refl _)
      have hiy2_9 := ints_of_own ho9
      go_wp2_with fail
      refine (eqInt64S_any _ _ xs2 xs2 _ hix2_9 hiy2_9).mono ?_
      rintro e W10 ⟨rfl, hb10⟩
      have hB10 : Below w.heap.size w W10 := hB9.trans (hb10.mono hB9.size)
      have hix1_10 := hix1_9.below hb10 (Nat.le_refl _)
      have hix2_10 := hix2_9.below hb10 (Nat.le_refl _)
      have hiy2_10 := hiy2_9.below hb10 (Nat.le_refl _)
      go_wp2_with fail
      go_ret
      exact ⟨rfl, hB10⟩
    · go_enter Try.func9, Try.ntmps9
      go_wp2_with fail
      go_ret
      exact ⟨rfl, Below.refl _ _⟩
  · go_enter Try.func9, Try.ntmps9
    go_wp2_with fail
    go_ret
    exact ⟨rfl, Below.refl _ _⟩
end Go.Proofs.Ythnjbgncomoiiaa
