
/- How many ways there are to go on from some colours: a plain count, and what the program's counting function makes of it. Conditions: at most 4 colours, at most 8 exams. -/
import Derived.Test.YtmhepomjbaendaaColGen
namespace Go.Proofs.Ytmhepomjbaendaa
open Go.RowKit
set_option linter.unusedVariables false
set_option linter.unusedSimpArgs false

def ways (xs : List Int) (most : Nat) : Nat → List Int → Nat
  | 0, _ => 1
  | d + 1, cs => (List.range most).foldl (fun a c => if frC xs cs cs.length c then a + ways xs most d (cs ++ [(c : Int)]) else a) 0
def waysTo (xs : List Int) (most d : Nat) (cs : List Int) (m : Nat) : Nat := (List.range m).foldl (fun a c => if frC xs cs cs.length c then a + ways xs most d (cs ++ [(c : Int)]) else a) 0
theorem waysTo_succ (xs : List Int) (most d : Nat) (cs : List Int) (m : Nat) : waysTo xs most d cs (m + 1) = if frC xs cs cs.length m then waysTo xs most d cs m + ways xs most d (cs ++ [(m : Int)]) else waysTo xs most d cs m := by
  unfold waysTo; rw [List.range_succ, List.foldl_append]; rfl
theorem ways_le (xs : List Int) (most : Nat) (h4 : most ≤ 4) : ∀ (d : Nat) (cs : List Int), ways xs most d cs ≤ 4 ^ d := by
  intro d
  induction d with
  | zero => intro cs; exact Nat.le_refl _
  | succ d ih =>
    intro cs
    have key : ∀ m, waysTo xs most d cs m ≤ m * 4 ^ d := by
      intro m
      induction m with
      | zero => exact Nat.zero_le _
      | succ m ihm =>
        rw [waysTo_succ, Nat.add_mul, Nat.one_mul]
        have := ih (cs ++ [(m : Int)])
        split <;> omega
    show waysTo xs most d cs most ≤ _
    refine Nat.le_trans (key most) ?_
    rw [Nat.pow_succ, Nat.mul_comm]
    exact Nat.mul_le_mul_left _ h4
theorem waysTo_le (xs : List Int) (most : Nat) (h4 : most ≤ 4) (d : Nat) (cs : List Int) : ∀ m, waysTo xs most d cs m ≤ m * 4 ^ d := by
  intro m
  induction m with
  | zero => exact Nat.zero_le _
  | succ m ihm =>
    rw [waysTo_succ, Nat.add_mul, Nat.one_mul]
    have := ways_le xs most h4 d (cs ++ [(m : Int)])
    split <;> omega
theorem ways_small (xs : List Int) (most : Nat) (h4 : most ≤ 4) {d : Nat} (hd : d ≤ 8) (cs : List Int) : ways xs most d cs ≤ 65536 :=
  Nat.le_trans (ways_le xs most h4 d cs) (Nat.pow_le_pow_right (n := 4) (by decide) hd)
theorem waysTo_small (xs : List Int) (most : Nat) (h4 : most ≤ 4) {d : Nat} (hd : d + 1 ≤ 8) (cs : List Int) {m : Nat} (hm : m ≤ most) : waysTo xs most d cs m ≤ 65536 := by
  refine Nat.le_trans (waysTo_le xs most h4 d cs m) (Nat.le_trans (Nat.mul_le_mul_right _ (Nat.le_trans hm h4)) ?_)
  rw [Nat.mul_comm, ← Nat.pow_succ]
  exact Nat.pow_le_pow_right (n := 4) (by decide) hd

def cntStep (n : Int) (_ : List Int) : Int × Bool := (wrap64 (n + 1), true)
theorem runCol_cnt (xs : List Int) (most : Nat) (h4 : most ≤ 4) : ∀ (d : Nat) (cs : List Int) (n : Nat), n + 4 ^ d ≤ 1000000 → runCol xs most cntStep d cs (n : Int) = (((n + ways xs most d cs : Nat) : Int), true) := by
  intro d
  induction d with
  | zero =>
    intro cs n hn
    have : 4 ^ 0 = 1 := rfl
    show (wrap64 ((n : Int) + 1), true) = (((n + 1 : Nat) : Int), true)
    rw [IntWalk.wrap64_in _ ⟨by omega, by omega⟩]
    rfl
  | succ d ih =>
    intro cs n hn
    have key : ∀ m, m ≤ most → runTo xs most cntStep d cs (n : Int) m = (((n + waysTo xs most d cs m : Nat) : Int), true) := by
      intro m
      induction m with
      | zero => intro _; rfl
      | succ m ihm =>
        intro hm
        rw [runTo_succ, ihm (by omega), waysTo_succ]
        simp only [Bool.true_and]
        have h1 := waysTo_le xs most h4 d cs m
        have h2 : m * 4 ^ d + 4 ^ d ≤ 4 ^ (d + 1) := by
          rw [Nat.pow_succ, ← Nat.succ_mul, Nat.mul_comm]
          exact Nat.mul_le_mul_left _ (by omega)
        split
        · rw [ih _ _ (by omega), Nat.add_assoc]
        · rfl
    exact key most (Nat.le_refl _)
theorem runCol_ways (xs : List Int) (most : Nat) (h4 : most ≤ 4) {t : Nat} (ht : t ≤ 8) : runCol xs most cntStep t [] 0 = (((ways xs most t [] : Nat) : Int), true) := by
  have h1 := Nat.pow_le_pow_right (n := 4) (by decide) ht
  have := runCol_cnt xs most h4 t [] 0 (by have : 4 ^ 8 = 65536 := by decide
                                           omega)
  rw [Nat.zero_add] at this
  exact this
end Go.Proofs.Ytmhepomjbaendaa
