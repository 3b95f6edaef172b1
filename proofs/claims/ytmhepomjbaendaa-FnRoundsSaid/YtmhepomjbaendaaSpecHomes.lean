
/- HomesOf, program and reference, as one plain function. Conditions: at most 2^20 numbers. -/
import Derived.Test.YtmhepomjbaendaaBreaks
import Derived.Test.YtmhepomjbaendaaMarksB
namespace Go.Proofs.Ytmhepomjbaendaa
open Go.RowKit Go.Shelf Go.BigFrame
set_option linter.unusedVariables false
set_option linter.unusedSimpArgs false
attribute [local go_sem] Oper.semAt_some

def homesL (n : Int) (xs : List Int) : List Bool := if roundsOk n xs then homesTo n.toNat xs (xs.length / 2) else []
theorem homesL_no {n : Int} {xs : List Int} (h : roundsOk n xs = false) : homesL n xs = [] := by unfold homesL; rw [h]; rfl
theorem homesL_yes {n : Int} {xs : List Int} (h : roundsOk n xs = true) : homesL n xs = homesTo n.toNat xs (xs.length / 2) := by unfold homesL; rw [h]; rfl
theorem rounds_nat {n : Int} {xs : List Int} (h : roundsOk n xs = true) : ∃ t : Nat, n = t := by
  unfold roundsOk at h
  rw [Bool.and_eq_true, Bool.and_eq_true] at h
  obtain ⟨t, _, h, _⟩ := roundsHead_bounds h.1.1
  exact ⟨t, h⟩
theorem homesL_small (n : Int) (xs : List Int) : (homesL n xs).length ≤ 480 := by
  cases h : roundsOk n xs
  · rw [homesL_no h]; simp
  · obtain ⟨t, rfl⟩ := rounds_nat h
    obtain ⟨R, _, _, _, _, hle, _⟩ := rounds_win h
    rw [homesL_yes h, homesTo_length]; exact hle

theorem implHomes_u (n : Int) (v : Value) (xs : List Int) (w : World) (hv : Ints w v xs) (hn : (Lit.int .i64 n).wf = true) (hl : xs.length ≤ 1048576) :
    Calls Try.prog 15 #[.int .i64 n, v] w fun e w' => (∃ v', e = .returned (.tuple #[v', .bool (roundsOk n xs)]) ∧ OwnB w' w.heap.size v' (homesL n xs)) ∧ Below w.heap.size w w' := by
  cases h : roundsOk n xs
  · refine (implHomes_no n v xs w hv hn hl h).mono ?_
    rintro e w' ⟨rfl, hb⟩
    exact ⟨⟨_, rfl, by rw [homesL_no h]; exact ownB_nil _ _⟩, hb⟩
  · refine (implHomes_yes n v xs w hv hn hl h).mono ?_
    rintro e w' ⟨⟨g, rfl, ho⟩, hb⟩
    exact ⟨⟨_, rfl, by rw [homesL_yes h]; exact ho⟩, hb⟩

end Go.Proofs.Ytmhepomjbaendaa
