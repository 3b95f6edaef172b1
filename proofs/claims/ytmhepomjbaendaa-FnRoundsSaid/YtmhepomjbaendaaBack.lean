
/- BackRounds, program and reference. Conditions: at most 2^20 numbers. -/
import Derived.Test.YtmhepomjbaendaaRoundsSpec
import Derived.Test.YtmhepomjbaendaaClone
import Derived.Test.YtmhepomjbaendaaRoundTail
import Derived.Test.YtmhepomjbaendaaAppendStep
import Derived.IntWalk
namespace Go.Proofs.Ytmhepomjbaendaa
open Go.RowKit Go.Shelf Go.BigFrame
set_option linter.unusedVariables false
set_option linter.unusedSimpArgs false
attribute [local go_sem] Oper.semAt_some

/-- The pairs turned round. -/
def swp (xs : List Int) (k : Nat) : List Int := (List.range k).flatMap fun j => [nth xs (2 * j + 1), nth xs (2 * j)]
theorem swp_zero (xs : List Int) : swp xs 0 = [] := rfl
theorem swp_succ (xs : List Int) (k : Nat) : swp xs (k + 1) = swp xs k ++ [nth xs (2 * k + 1), nth xs (2 * k)] := by
  unfold swp; rw [List.range_succ, List.flatMap_append]; simp
theorem swp_length (xs : List Int) (k : Nat) : (swp xs k).length = 2 * k := by
  induction k with
  | zero => rfl
  | succ k ih => rw [swp_succ, List.length_append, ih]; simp; omega
def bothL (xs : List Int) : List Int := xs ++ swp xs (xs.length / 2)
def backOk (n : Int) (xs : List Int) : Bool := roundsOk n xs && decide ((xs.length : Int) ≤ n * (n - 1)) && roundsOk n (bothL xs)
def backL (n : Int) (xs : List Int) : List Int := if backOk n xs then bothL xs else []

theorem rounds_even {n : Int} {xs : List Int} (h : roundsOk n xs = true) : ∃ t : Nat, n = t ∧ 2 ≤ t ∧ t ≤ 16 ∧ 2 ≤ xs.length ∧ xs.length ≤ 480 ∧ xs.length % 2 = 0 := by
  unfold roundsOk at h
  rw [Bool.and_eq_true, Bool.and_eq_true] at h
  obtain ⟨t, R, rfl, h1, h2, h3, hlen, hR1, hR2, hdiv, _⟩ := roundsHead_bounds h.1.1
  refine ⟨t, rfl, h1, h2, ?_, ?_, ?_⟩
  · rw [hlen]; exact Nat.le_trans h1 (Nat.le_mul_of_pos_left t (by omega))
  · rw [hlen]; exact Nat.le_trans (Nat.mul_le_mul hR2 h2) (by decide)
  · rw [hlen, Nat.mul_mod, h3, Nat.mul_zero]

end Go.Proofs.Ytmhepomjbaendaa
