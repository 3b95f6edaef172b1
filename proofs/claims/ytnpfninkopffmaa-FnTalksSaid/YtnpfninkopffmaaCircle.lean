
/- CircleRounds, program and reference: the contracts of both, by one plain list; and the laws' own marks on a result. Conditions: none. -/
import Derived.Test.YtnpfninkopffmaaAppend
import Derived.Shelf.Abstract
import Derived.Deep.RegionWith
namespace Go.Proofs.Ytnpfninkopffmaa
open Go.RowKit Go.Shelf
set_option linter.unusedVariables false
set_option linter.unusedSimpArgs false

def pairL (a b : Int) (first : Bool) : List Int := if first then [a, b] else [b, a]
/-- The pairs of round r, of t teams, up to the k-th. -/
def circRow (t r k : Nat) : List Int := pairL r ((t : Int) - 1) (r % 2 == 1) ++ (List.range k).flatMap fun (j : Nat) => pairL (((r : Int) + ((j : Int) + 1)) % ((t : Int) - 1)) (((r : Int) + ((t : Int) - 1) - ((j : Int) + 1)) % ((t : Int) - 1)) ((j + 1) % 2 == 1)
def circ (t n : Nat) : List Int := (List.range n).flatMap fun r => circRow t r (t / 2 - 1)

theorem pairL_length (a b : Int) (f : Bool) : (pairL a b f).length = 2 := by cases f <;> rfl
theorem circRow_succ (t r k : Nat) : circRow t r (k + 1) = circRow t r k ++ pairL (((r : Int) + (k + 1)) % ((t : Int) - 1)) (((r : Int) + ((t : Int) - 1) - (k + 1)) % ((t : Int) - 1)) ((k + 1) % 2 == 1) := by
  simp [circRow, List.range_succ]
theorem circ_succ (t n : Nat) : circ t (n + 1) = circ t n ++ circRow t n (t / 2 - 1) := by simp [circ, List.range_succ]
theorem circRow_length (t r k : Nat) : (circRow t r k).length = 2 * k + 2 := by
  induction k with
  | zero => simp [circRow, pairL_length]
  | succ k ih => rw [circRow_succ, List.length_append, ih, pairL_length]; omega
theorem circ_length (t n : Nat) (ht : 2 ≤ t) : (circ t n).length = n * (2 * (t / 2 - 1) + 2) := by
  induction n with
  | zero => simp [circ]
  | succ n ih => rw [circ_succ, List.length_append, ih, circRow_length, Nat.add_mul]; omega

theorem circ_small (t n : Nat) (h1 : 2 ≤ t) (h2 : t ≤ 16) (hn : n ≤ 16) : (circ t n).length ≤ 256 := by
  rw [circ_length t n h1]
  calc n * (2 * (t / 2 - 1) + 2) ≤ 16 * 16 := Nat.mul_le_mul hn (by omega)
    _ = 256 := rfl

/-- A box of a slice is not the block of a row of integers. -/
theorem own_ne {w : World} {B N g n c : Nat} {v : Value} {xs : List Int} (hb : Boxed w B 29 v) (ho : OwnI w N (.slice (some ⟨g, 0, none⟩) n c) xs) : g ≠ B := by
  have := Boxed.not_row hb (by decide) ho
  rw [ownBlock_slice] at this
  exact fun e => this (by rw [e])

/-- What CircleRounds returns beside the list. -/
def teamsOk (n : Int) : Bool := win n 2 16 && (n % 2 == 0)
theorem teamsOk_bounds {n : Int} (h : teamsOk n = true) : ∃ t : Nat, n = t ∧ 2 ≤ t ∧ t ≤ 16 ∧ t % 2 = 0 := by
  simp only [teamsOk, Bool.and_eq_true, win_true, beq_iff_eq] at h
  exact ⟨n.toNat, by omega, by omega, by omega, by omega⟩

/-- The list that CircleRounds returns. -/
def circL (n : Int) : List Int := if teamsOk n then circ n.toNat (n.toNat - 1) else []
theorem circL_small (n : Int) : (circL n).length ≤ 256 := by
  unfold circL
  cases h : teamsOk n
  · simp
  · obtain ⟨t, rfl, h1, h2, h3⟩ := teamsOk_bounds h
    simpa using circ_small t (t - 1) h1 h2 (by omega)
theorem own_nil (w : World) (N : Nat) : OwnI w N (.slice none 0 0) [] := World.ownsRow_nil w N _ _

end Go.Proofs.Ytnpfninkopffmaa
