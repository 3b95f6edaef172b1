
/- GreatClique as a plain function: the reference's order of sets and the program's depth first order give the same. Conditions: none. -/
import Derived.Test.YtmhepomjbaendaaColPlain
namespace Go.Proofs.Ytmhepomjbaendaa
open Go.RowKit
set_option linter.unusedVariables false
set_option linter.unusedSimpArgs false

def up (best l : List Int) : List Int := if best.length < l.length then l else best
theorem up_nil (best : List Int) : up best [] = best := by simp [up]
theorem up_len (best l : List Int) : l.length ≤ (up best l).length ∧ best.length ≤ (up best l).length := by
  unfold up; split <;> constructor <;> omega
theorem up_no {best l : List Int} (h : l.length ≤ best.length) : up best l = best := by unfold up; rw [if_neg (by omega)]
theorem up_yes {best l : List Int} (h : best.length < l.length) : up best l = l := by unfold up; rw [if_pos h]

/-- All of l clash with i. -/
def okTo (xs l : List Int) (i : Nat) : Bool := l.all fun k => clashB xs k (i : Int)

/-- The program's loop: d more exams, from i on. -/
def deep (xs : List Int) : Nat → Nat → List Int → List Int → List Int
  | 0, _, _, best => best
  | d + 1, i, l, best => deep xs d (i + 1) l (if okTo xs l i then deep xs d (i + 1) (l ++ [(i : Int)]) (up best (l ++ [(i : Int)])) else best)
/-- The reference's: all that follow l, d more exams from i on, those with i ahead. -/
def sets (xs : List Int) : Nat → Nat → List Int → List Int → List Int
  | 0, _, l, best => up best l
  | d + 1, i, l, best => sets xs d (i + 1) l (if okTo xs l i then sets xs d (i + 1) (l ++ [(i : Int)]) best else best)

theorem deep_len (xs : List Int) : ∀ (d i : Nat) (l best : List Int), best.length ≤ (deep xs d i l best).length := by
  intro d
  induction d with
  | zero => intro i l best; exact Nat.le_refl _
  | succ d ih =>
    intro i l best
    unfold deep
    refine Nat.le_trans ?_ (ih _ _ _)
    split
    · exact Nat.le_trans (up_len best _).2 (ih _ _ _)
    · exact Nat.le_refl _

theorem sets_deep (xs : List Int) : ∀ (d i : Nat) (l best : List Int), sets xs d i l best = deep xs d i l (up best l) := by
  intro d
  induction d with
  | zero => intro i l best; rfl
  | succ d ih =>
    intro i l best
    unfold sets deep
    rw [ih]
    congr 1
    cases okTo xs l i
    · rfl
    · simp only [if_true]
      rw [ih]
      have h1 := deep_len xs d (i + 1) (l ++ [(i : Int)]) (up best (l ++ [(i : Int)]))
      have h2 := (up_len best (l ++ [(i : Int)])).1
      rw [up_no (best := deep xs d (i + 1) (l ++ [(i : Int)]) (up best (l ++ [(i : Int)]))) (by simp at h2; omega)]
      congr 1
      by_cases h : best.length < l.length
      · have q1 : up best (l ++ [(i : Int)]) = l ++ [(i : Int)] := up_yes (by simp; omega)
        have q2 : up l (l ++ [(i : Int)]) = l ++ [(i : Int)] := up_yes (by simp)
        rw [up_yes h, q1, q2]
      · rw [up_no (l := l) (by omega)]

/-- The exams of a set p of i digits, and whether each two of them clash. -/
def lst : Nat → Nat → List Int
  | 0, _ => []
  | i + 1, p => lst i (p / 2) ++ if p % 2 = 1 then [(i : Int)] else []
def clq (xs : List Int) : Nat → Nat → Bool
  | 0, _ => true
  | i + 1, p => clq xs i (p / 2) && if p % 2 = 1 then okTo xs (lst i (p / 2)) i else true
theorem lst_len (i : Nat) : ∀ p, (lst i p).length ≤ i := by
  induction i with
  | zero => intro p; exact Nat.le_refl _
  | succ i ih =>
    intro p
    unfold lst
    rw [List.length_append]
    have := ih (p / 2)
    split <;> simp <;> omega
theorem lst_lt (i : Nat) : ∀ p, ∀ x ∈ lst i p, 0 ≤ x ∧ x < (i : Int) := by
  induction i with
  | zero => intro p x hx; simp [lst] at hx
  | succ i ih =>
    intro p x hx
    unfold lst at hx
    rcases List.mem_append.1 hx with h | h
    · have := ih (p / 2) x h; omega
    · split at h
      · rw [List.mem_singleton] at h; omega
      · simp at h

/-- One set of the reference. -/
def cand (n : Nat) (xs : List Int) (s : Nat) (best : List Int) : List Int := if clq xs n s then up best (lst n s) else best
/-- The sets a + m - 1 down to a. -/
def rng (n : Nat) (xs : List Int) : Nat → Nat → List Int → List Int
  | _, 0, best => best
  | a, m + 1, best => cand n xs a (rng n xs (a + 1) m best)
theorem rng_add (n : Nat) (xs : List Int) : ∀ (m a k : Nat) (best : List Int), rng n xs a (m + k) best = rng n xs a m (rng n xs (a + m) k best) := by
  intro m
  induction m with
  | zero => intro a k best; simp [rng]
  | succ m ih =>
    intro a k best
    rw [show m + 1 + k = (m + k) + 1 from by omega]
    show cand n xs a (rng n xs (a + 1) (m + k) best) = cand n xs a (rng n xs (a + 1) m _)
    rw [ih, show a + 1 + m = a + (m + 1) from by omega]

theorem rng_sets (n : Nat) (xs : List Int) : ∀ (d i p : Nat) (best : List Int), i + d = n → rng n xs (p * 2 ^ d) (2 ^ d) best = if clq xs i p then sets xs d i (lst i p) best else best := by
  intro d
  induction d with
  | zero =>
    intro i p best h
    have hi : i = n := by omega
    subst hi
    simp only [Nat.pow_zero, Nat.mul_one]
    rfl
  | succ d ih =>
    intro i p best h
    have e1 : p * 2 ^ (d + 1) = (2 * p) * 2 ^ d := by rw [Nat.pow_succ]; rw [Nat.mul_comm 2 p, Nat.mul_assoc, Nat.mul_comm (2 ^ d) 2]
    have e2 : 2 ^ (d + 1) = 2 ^ d + 2 ^ d := by rw [Nat.pow_succ]; omega
    have e3 : (2 * p) * 2 ^ d + 2 ^ d = (2 * p + 1) * 2 ^ d := by rw [Nat.add_mul, Nat.one_mul]
    rw [e1, e2, rng_add, e3, ih (i + 1) (2 * p + 1) best (by omega), ih (i + 1) (2 * p) _ (by omega)]
    have l1 : lst (i + 1) (2 * p) = lst i p := by
      show lst i (2 * p / 2) ++ (if 2 * p % 2 = 1 then [(i : Int)] else []) = _
      rw [show 2 * p / 2 = p from by omega, if_neg (by omega), List.append_nil]
    have l2 : lst (i + 1) (2 * p + 1) = lst i p ++ [(i : Int)] := by
      show lst i ((2 * p + 1) / 2) ++ (if (2 * p + 1) % 2 = 1 then [(i : Int)] else []) = _
      rw [show (2 * p + 1) / 2 = p from by omega, if_pos (by omega)]
    have c1 : clq xs (i + 1) (2 * p) = clq xs i p := by
      show (clq xs i (2 * p / 2) && if 2 * p % 2 = 1 then okTo xs (lst i (2 * p / 2)) i else true) = _
      rw [show 2 * p / 2 = p from by omega, if_neg (by omega), Bool.and_true]
    have c2 : clq xs (i + 1) (2 * p + 1) = (clq xs i p && okTo xs (lst i p) i) := by
      show (clq xs i ((2 * p + 1) / 2) && if (2 * p + 1) % 2 = 1 then okTo xs (lst i ((2 * p + 1) / 2)) i else true) = _
      rw [show (2 * p + 1) / 2 = p from by omega, if_pos (by omega)]
    rw [l1, l2, c1, c2]
    cases clq xs i p
    · simp
    · simp only [Bool.true_and, if_true]
      rfl

def cliqueL (n : Nat) (xs : List Int) : List Int := deep xs n 0 [] []
theorem rng_clique (n : Nat) (xs : List Int) : rng n xs 1 (2 ^ n - 1) [] = cliqueL n xs := by
  have h := rng_sets n xs n 0 0 [] (by omega)
  have hp : 2 ^ n = (2 ^ n - 1) + 1 := by have := Nat.one_le_two_pow (n := n); omega
  have l0 : ∀ i, lst i 0 = [] := by
    intro i
    induction i with
    | zero => rfl
    | succ i ih => show lst i (0 / 2) ++ (if 0 % 2 = 1 then [(i : Int)] else []) = []; rw [show 0 / 2 = 0 from rfl, ih]; rfl
  rw [Nat.zero_mul, hp] at h
  change cand n xs 0 (rng n xs (0 + 1) (2 ^ n - 1) []) = (if true = true then sets xs n 0 [] [] else []) at h
  rw [if_pos rfl, sets_deep, up_nil] at h
  unfold cliqueL
  rw [← h]
  unfold cand
  rw [l0, up_nil]
  simp
end Go.Proofs.Ytmhepomjbaendaa
