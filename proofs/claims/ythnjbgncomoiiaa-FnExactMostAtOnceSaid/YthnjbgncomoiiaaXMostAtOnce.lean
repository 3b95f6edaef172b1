/- The walk of FnExactMostAtOnce. Conditions: none. -/
import Derived.Test.YthnjbgncomoiiaaAtOnceImpl
namespace Go.Proofs.Ythnjbgncomoiiaa
open Go.RowKit
set_option linter.unusedVariables false
set_option linter.unusedSimpArgs false
set_option maxHeartbeats 1000000

theorem walkFnExactMostAtOnce (a0 : Option Addr) (len0 cap0 : Nat) (z0 : List Int) (w : World) (w0 : (a0 = none ∧ len0 = 0 ∧ cap0 = 0 ∧ z0 = []) ∨
      ∃ x, a0 = some x ∧ len0 ≤ cap0 ∧ cap0 ≤ maxLen ∧ z0.length = cap0 ∧ (∀ i, i < z0.length → w.cell? (x.add i) = some (.int .i64 (z0.getD i 0))) ∧ ∀ n ∈ z0, (Lit.int .i64 n).wf = true) :
    Calls Try.prog 11 #[.slice a0 len0 cap0] w fun e w' => e = .returned (.bool true) ∧ Below w.heap.size w w' := by
  obtain ⟨hv0, hwf0, hlen0⟩ := ints_of_row w0
  generalize z0.take len0 = xs0 at *
  subst hlen0
  clear w0
  have hm0 := hv0.1
  unfold maxLen at hm0
  by_cases hbig0 : xs0.length ≤ 1048576
  · skip
    go_enter Try.func11, Try.ntmps11
    go_wp2_with fail
    refine (toInt64S_any _ xs0 _ hv0 hbig0).mono ?_
    rintro e W1 ⟨v1, rfl, ho1, hb1⟩
    have hB1 : Below w.heap.size w W1 := hb1
    have his0_1 := ints_of_own ho1
    go_wp2_with fail
    refine (specAtOnce_any _ xs0 _ his0_1 hwf0).mono ?_
    rintro e W2 ⟨rfl, hb2⟩
    have hB2 : Below w.heap.size w W2 := hB1.trans (hb2.mono hB1.size)
    have his0_2 := his0_1.below hb2 (Nat.le_refl _)
    go_wp2_with fail
    refine (toInt64S_any _ xs0 _ (hv0.below hB2 (Nat.le_refl _)) hbig0).mono ?_
    rintro e W3 ⟨v3, rfl, ho3, hb3⟩
    have hB3 : Below w.heap.size w W3 := hB2.trans (hb3.mono hB2.size)
    have hix0_3 := ints_of_own ho3
    go_wp2_with fail
    refine (implAtOnce_any _ xs0 _ hix0_3).mono ?_
    rintro e W4 ⟨rfl, hb4⟩
    have hB4 : Below w.heap.size w W4 := hB3.trans (hb4.mono hB3.size)
    have hix0_4 := hix0_3.below hb4 (Nat.le_refl _)
    go_wp2_with fail
    refine (toInt64S_any _ xs0 _ (hv0.below hB4 (Nat.le_refl _)) hbig0).mono ?_
    rintro e W5 ⟨v5, rfl, ho5, hb5⟩
    have hB5 : Below w.heap.size w W5 := hB4.trans (hb5.mono hB4.size)
    have hix0_5 := hix0_4.below hb5 (Nat.le_refl _)
    have hiy0_5 := ints_of_own ho5
    go_wp2_with fail
    refine (eqInt64S_any _ _ xs0 xs0 _ hix0_5 hiy0_5).mono ?_
    rintro e W6 ⟨rfl, hb6⟩
    have hB6 : Below w.heap.size w W6 := hB5.trans (hb6.mono hB5.size)
    have hix0_6 := hix0_5.below hb6 (Nat.le_refl _)
    have hiy0_6 := hiy0_5.below hb6 (Nat.le_refl _)
    go_wp2_with fail
    go_ret
    exact ⟨rfl, hB6⟩
  · go_enter Try.func11, Try.ntmps11
    go_wp2_with fail
    go_ret
    exact ⟨rfl, Below.refl _ _⟩
end Go.Proofs.Ythnjbgncomoiiaa
