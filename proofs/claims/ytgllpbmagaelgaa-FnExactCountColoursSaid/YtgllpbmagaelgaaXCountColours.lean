
/- The walk of FnExactCountColours. Conditions: none. -/
import Derived.Test.YtgllpbmagaelgaaWaysBoth
namespace Go.Proofs.Ytgllpbmagaelgaa
open Go.RowKit
set_option linter.unusedVariables false
set_option linter.unusedSimpArgs false
set_option maxHeartbeats 1000000

theorem walkFnExactCountColours (a0 : Int) (a1 : Option Addr) (len1 cap1 : Nat) (z1 : List Int) (a2 : Int) (w : World) (w0 : (Lit.int .i64 a0).wf = true) (w1 : (a1 = none ∧ len1 = 0 ∧ cap1 = 0 ∧ z1 = []) ∨
      ∃ x, a1 = some x ∧ len1 ≤ cap1 ∧ cap1 ≤ maxLen ∧ z1.length = cap1 ∧ (∀ i, i < z1.length → w.cell? (x.add i) = some (.int .i64 (z1.getD i 0))) ∧ ∀ n ∈ z1, (Lit.int .i64 n).wf = true) (w2 : (Lit.int .i64 a2).wf = true) :
    Calls Try.prog 9 #[.int .i64 a0, .slice a1 len1 cap1, .int .i64 a2] w fun e w' => e = .returned (.bool true) ∧ Below w.heap.size w w' := by
  obtain ⟨hv1, hwf1, hlen1⟩ := ints_of_row w1
  generalize z1.take len1 = xs1 at *
  subst hlen1
  clear w1
  have hm1 := hv1.1
  unfold maxLen at hm1
  by_cases hbig1 : xs1.length ≤ 1048576
  · skip
    go_enter Try.func9, Try.ntmps9
    go_wp2_with fail
    refine (toInt64S_any _ xs1 _ hv1 hbig1).mono ?_
    rintro e W1 ⟨v1, rfl, ho1, hb1⟩
    have hB1 : Below w.heap.size w W1 := hb1
    have his1_1 := ints_of_own ho1
    go_wp2_with fail
    refine (specCount_u _ _ xs1 _ _ his1_1 w0).mono ?_
    rintro e W2 ⟨rfl, hb2⟩
    have hB2 : Below w.heap.size w W2 := hB1.trans (hb2.mono hB1.size)
    have his1_2 := his1_1.below hb2 (Nat.le_refl _)
    go_wp2_with fail
    refine (toInt64S_any _ xs1 _ (hv1.below hB2 (Nat.le_refl _)) hbig1).mono ?_
    rintro e W3 ⟨v3, rfl, ho3, hb3⟩
    have hB3 : Below w.heap.size w W3 := hB2.trans (hb3.mono hB2.size)
    have hix1_3 := ints_of_own ho3
    go_wp2_with fail
    refine (implCount_u _ _ xs1 _ _ hix1_3 w0).mono ?_
    rintro e W4 ⟨rfl, hb4⟩
    have hB4 : Below w.heap.size w W4 := hB3.trans (hb4.mono hB3.size)
    have hix1_4 := hix1_3.below hb4 (Nat.le_refl _)
    go_wp2_with fail
    refine (toInt64S_any _ xs1 _ (hv1.below hB4 (Nat.le_refl _)) hbig1).mono ?_
    rintro e W5 ⟨v5, rfl, ho5, hb5⟩
    have hB5 : Below w.heap.size w W5 := hB4.trans (hb5.mono hB4.size)
    have hix1_5 := hix1_4.below hb5 (Nat.le_refl _)
    have hiy1_5 := ints_of_own ho5
    go_wp2_with fail
    refine (eqInt64S_any _ _ xs1 xs1 _ hix1_5 hiy1_5).mono ?_
    rintro e W6 ⟨rfl, hb6⟩
    have hB6 : Below w.heap.size w W6 := hB5.trans (hb6.mono hB5.size)
    have hix1_6 := hix1_5.below hb6 (Nat.le_refl _)
    have hiy1_6 := hiy1_5.below hb6 (Nat.le_refl _)
    go_wp2_with fail
    go_ret
    exact ⟨rfl, hB6⟩
  · go_enter Try.func9, Try.ntmps9
    go_wp2_with fail
    go_ret
    exact ⟨rfl, Below.refl _ _⟩
end Go.Proofs.Ytgllpbmagaelgaa
