
/- MostAtOnce, program and reference: the contracts of both, by one plain function. Conditions: none. -/
import Derived.Test.YtnpfninkopffmaaTalks
namespace Go.Proofs.Ytnpfninkopffmaa
open Go.RowKit Go.Shelf Go.BigFrame
set_option linter.unusedVariables false
set_option linter.unusedSimpArgs false
attribute [local go_sem] Oper.semAt_some

/-- Talk k goes on at x. -/
def onAt (xs : List Int) (x : Int) (k : Nat) : Bool := decide (nth xs (2 * k) ≤ x) && decide (x < nth xs (2 * k + 1))
def cntAt (xs : List Int) (x : Int) (k : Nat) : Nat := (List.range k).countP (onAt xs x)
theorem cntAt_zero (xs : List Int) (x : Int) : cntAt xs x 0 = 0 := rfl
theorem cntAt_succ (xs : List Int) (x : Int) (k : Nat) : cntAt xs x (k + 1) = cntAt xs x k + if onAt xs x k then 1 else 0 := by
  unfold cntAt
  rw [List.range_succ, List.countP_append]
  simp [List.countP_cons]
theorem cntAt_le (xs : List Int) (x : Int) (k : Nat) : cntAt xs x k ≤ k := by
  unfold cntAt
  exact Nat.le_trans List.countP_le_length (by simp)
/-- Whether the time x is a better one. -/
def more (p : Int × Int) (c : Int) (x : Int) : Bool := decide (c > p.1) || (c == p.1 && decide (x < p.2))
def mostStep (xs : List Int) (p : Int × Int) (j : Nat) : Int × Int :=
  if more p (cntAt xs (nth xs (2 * j)) (xs.length / 2)) (nth xs (2 * j)) then ((cntAt xs (nth xs (2 * j)) (xs.length / 2) : Nat), nth xs (2 * j)) else p
def mostTo (xs : List Int) (j : Nat) : Int × Int := (List.range j).foldl (mostStep xs) (0, 0)
theorem mostTo_succ (xs : List Int) (j : Nat) : mostTo xs (j + 1) = mostStep xs (mostTo xs j) j := by
  unfold mostTo
  rw [List.range_succ, List.foldl_append]
  rfl
def atOnce (xs : List Int) : Int × Int := if talksOk xs then mostTo xs (xs.length / 2) else (0, 0)

theorem talksOk_len {xs : List Int} (h : talksOk xs = true) : 2 ≤ xs.length ∧ xs.length ≤ 64 ∧ xs.length % 2 = 0 := by
  simp only [talksOk, talksHead, many, Bool.and_eq_true, decide_eq_true_eq, beq_iff_eq] at h
  obtain ⟨⟨⟨⟨h1, h2⟩, _⟩, h3⟩, _⟩ := h
  omega

end Go.Proofs.Ytnpfninkopffmaa
