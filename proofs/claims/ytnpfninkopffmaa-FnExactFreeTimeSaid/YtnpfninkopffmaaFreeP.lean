
/- The least time of a meeting: the plain law. Conditions: none. -/
import Derived.Test.YtnpfninkopffmaaTalks
namespace Go.Proofs.Ytnpfninkopffmaa
open Go.RowKit
set_option linter.unusedVariables false
set_option linter.unusedSimpArgs false

/-- A talk from s til e is in the way of a meeting of that length at t. -/
def hitB (long t s e : Int) : Bool := decide (s < t + long) && decide (t < e)
def freeRow (xs : List Int) (long t : Int) (k : Nat) : Bool := (List.range k).all fun j => !(hitB long t (nth xs (2 * j)) (nth xs (2 * j + 1)))
theorem freeRow_succ (xs : List Int) (long t : Int) (k : Nat) : freeRow xs long t (k + 1) = (freeRow xs long t k && !(hitB long t (nth xs (2 * k)) (nth xs (2 * k + 1)))) := by
  unfold freeRow; rw [List.range_succ, List.all_append]; simp
def freeAt (xss : List (List Int)) (long t : Int) : Bool := xss.all fun xs => freeRow xs long t (xs.length / 2)
def freeF (xss : List (List Int)) (long til : Int) : Nat → Int → Option Int
  | 0, _ => none
  | k + 1, t => if t + long ≤ til then (if freeAt xss long t then some t else freeF xss long til k (t + 1)) else none
def freeOk (xss : List (List Int)) (f til long : Int) : Bool := decide (xss.length ≤ 8) && (win f 0 10000 && win til 0 10000) && win long 1 10000 && xss.all talksOk
def freeR (xss : List (List Int)) (f til long : Int) : Option Int := if freeOk xss f til long then freeF xss long til 20001 f else none

theorem freeF_end {xss : List (List Int)} {long til t : Int} (k : Nat) (h : ¬ t + long ≤ til) : freeF xss long til k t = none := by
  cases k with
  | zero => rfl
  | succ k => unfold freeF; rw [if_neg h]
theorem freeF_hit {xss : List (List Int)} {long til t : Int} (k : Nat) (h : t + long ≤ til) (hf : freeAt xss long t = true) : freeF xss long til (k + 1) t = some t := by
  unfold freeF; rw [if_pos h, if_pos hf]
theorem freeF_next {xss : List (List Int)} {long til t : Int} (k : Nat) (h : t + long ≤ til) (hf : freeAt xss long t = false) : freeF xss long til (k + 1) t = freeF xss long til k (t + 1) := by
  conv => lhs; unfold freeF
  rw [if_pos h, if_neg (by rw [hf]; exact Bool.false_ne_true)]
/-- Where nothing is free ahead of at. -/
theorem freeF_skip {xss : List (List Int)} {long til : Int} : ∀ (d k : Nat) (t : Int), (∀ s, t ≤ s → s < t + d → freeAt xss long s = false) → freeF xss long til (k + d) t = (if t + d + long ≤ til then freeF xss long til k (t + d) else none)
  | 0, k, t, _ => by
    by_cases h : t + ((0 : Nat) : Int) + long ≤ til
    · rw [if_pos h]; simp
    · rw [if_neg h]; exact freeF_end _ (by omega)
  | d + 1, k, t, h => by
    by_cases ht : t + long ≤ til
    · rw [show k + (d + 1) = (k + d) + 1 by omega, freeF_next _ ht (h t (Int.le_refl _) (by omega)), freeF_skip d k (t + 1) (fun s h1 h2 => h s (by omega) (by omega))]
      rw [show t + 1 + (d : Int) = t + ((d + 1 : Nat) : Int) by omega]
    · rw [freeF_end _ ht, if_neg (by omega)]
/-- What the search by jumps finds. -/
theorem free_jump {xss : List (List Int)} {f til long a : Int} (hok : freeOk xss f til long = true) (h0 : f ≤ a) (h1 : a ≤ 10000) (hno : ∀ t, f ≤ t → t < a → freeAt xss long t = false) (hfree : freeAt xss long a = true) :
    freeR xss f til long = if a + long > til then none else some a := by
  unfold freeR
  rw [if_pos hok]
  have hf : 0 ≤ f := by
    simp only [freeOk, Bool.and_eq_true] at hok
    exact (win_true.1 hok.1.1.2.1).1
  obtain ⟨d, rfl⟩ : ∃ d : Nat, a = f + d := ⟨(a - f).toNat, by omega⟩
  obtain ⟨k, hk⟩ : ∃ k, 20001 = (k + 1) + d := ⟨20000 - d, by omega⟩
  rw [hk, freeF_skip d (k + 1) f hno]
  by_cases h : f + (d : Int) + long > til
  · rw [if_pos h, if_neg (by omega)]
  · rw [if_neg h, if_pos (by omega), freeF_hit _ (by omega) hfree]
/-- No time that is jumped over is free. -/
theorem jump_none {xss : List (List Int)} {long a t : Int} {xs : List Int} {j : Nat} (hx : xs ∈ xss) (hj : j < xs.length / 2) (hh : hitB long a (nth xs (2 * j)) (nth xs (2 * j + 1)) = true) (h1 : a ≤ t) (h2 : t < nth xs (2 * j + 1)) : freeAt xss long t = false := by
  unfold freeAt
  rw [List.all_eq_false]
  refine ⟨xs, hx, ?_⟩
  unfold freeRow
  rw [List.all_eq_true]
  intro h
  have := h j (List.mem_range.2 hj)
  unfold hitB at this hh
  simp at this hh
  omega
end Go.Proofs.Ytnpfninkopffmaa
