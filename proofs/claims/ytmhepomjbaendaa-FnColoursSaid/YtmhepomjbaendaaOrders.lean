
/- Orders: IsOrder and l02Orders. Conditions: at most 2^20 numbers. -/
import Derived.Test.YtmhepomjbaendaaIsAll
import Derived.Test.YtmhepomjbaendaaRound
namespace Go.Proofs.Ytmhepomjbaendaa
open Go.RowKit Go.BigFrame
set_option linter.unusedVariables false
set_option linter.unusedSimpArgs false
attribute [local go_sem] Oper.semAt_some

/-- A list that has all numbers from 0 to n - 1, each once. -/
def orders (n : Int) (xs : List Int) : Bool := decide ((xs.length : Int) = n) && isAllB xs
/-- The first k numbers are different ones from 0 to n - 1. -/
def ordPre (n : Int) (xs : List Int) (k : Nat) : Prop := ∀ i, i < k → win (nth xs i) 0 (n - 1) = true ∧ (xs.take i).any (· == nth xs i) = false
theorem orders_yes {n : Int} {xs : List Int} (hl : (xs.length : Int) = n) (h : ordPre n xs xs.length) : orders n xs = true := by
  unfold orders isAllB
  rw [hl, decide_eq_true rfl, Bool.true_and, List.all_eq_true]
  intro i hi
  obtain ⟨h1, h2⟩ := h i (List.mem_range.1 hi)
  rw [h1, h2]; rfl
theorem orders_no {n : Int} {xs : List Int} {k : Nat} (hk : k < xs.length) (h : win (nth xs k) 0 (n - 1) = false ∨ (xs.take k).any (· == nth xs k) = true) : orders n xs = false := by
  unfold orders isAllB
  by_cases hl : (xs.length : Int) = n
  · rw [hl, decide_eq_true rfl, Bool.true_and, List.all_eq_false]
    refine ⟨k, List.mem_range.2 hk, ?_⟩
    rcases h with h | h <;> rw [h] <;> simp
  · rw [decide_eq_false hl, Bool.false_and]
theorem orders_pre {n : Int} {xs : List Int} (h : orders n xs = true) : (xs.length : Int) = n ∧ ordPre n xs xs.length := by
  unfold orders isAllB at h
  rw [Bool.and_eq_true, decide_eq_true_eq, List.all_eq_true] at h
  refine ⟨h.1, fun i hi => ?_⟩
  have := h.2 i (List.mem_range.2 hi)
  rw [h.1, Bool.and_eq_true] at this
  exact ⟨this.1, by simpa using this.2⟩

theorem isOrder_any (n : Int) (v : Value) (xs : List Int) (w : World) (hv : Ints w v xs) (hl : xs.length ≤ 1048576) :
    Calls Try.prog 94 #[v, .int .i64 n] w fun e w' => e = .returned (.bool (win n 1 24 && orders n xs)) ∧ Below w.heap.size w w' := by
  have hall := isAll_any v xs w hv hl
  have HALL := Lib.hid hall
  obtain ⟨_, a, c, rfl, _, _⟩ := hv
  clear hall
  cases hw : win n 1 24
  · go_enter Try.func94, Try.ntmps94
    go_wp2_with (first | (go_at_call 60; refine (within_any _ _ _ _).mono ?_; rintro e w' ⟨rfl, rfl⟩))
    go_ret
    exact ⟨rfl, Below.refl _ _⟩
  · by_cases hne : (xs.length : Int) = n
    · have HE := Lib.hid hne
      have hd : ((xs.length : Int) != n) = false := by simpa using hne
      clear hne
      go_enter Try.func94, Try.ntmps94
      go_wp2_with (first | (go_at_call 60; refine (within_any _ _ _ _).mono ?_; rintro e w' ⟨rfl, rfl⟩) | (go_at_call 65; refine HALL.out.mono ?_; rintro e w' ⟨rfl, hb⟩))
      go_ret
      exact ⟨ret_bool (by unfold orders; rw [HE.out]; simp), hb⟩
    · have HE := Lib.hid hne
      have hd : ((xs.length : Int) != n) = true := by simpa using hne
      clear hne
      go_enter Try.func94, Try.ntmps94
      go_wp2_with (first | (go_at_call 60; refine (within_any _ _ _ _).mono ?_; rintro e w' ⟨rfl, rfl⟩))
      go_ret
      exact ⟨ret_bool (by unfold orders; rw [decide_eq_false HE.out]; rfl), Below.refl _ _⟩
end Go.Proofs.Ytmhepomjbaendaa
