
/- GreatClique, program and reference, for all arguments. Conditions: none. -/
import Derived.Test.YtmakjgbldejcpaaCliqueImpl
import Derived.Test.YtmakjgbldejcpaaCliqueSpec
import Derived.Laws.EntriesVeiled
namespace Go.Proofs.Ytmakjgbldejcpaa
open Go.RowKit Go.Shelf Go.BigFrame
set_option linter.unusedVariables false
set_option linter.unusedSimpArgs false
attribute [local go_sem] Oper.semAt_some

def cliqR (n : Int) (xs : List Int) : List Int := if clashesOk n xs then cliqueL n.toNat xs else []
theorem cliqR_no {n : Int} {xs : List Int} (h : clashesOk n xs = false) : cliqR n xs = [] := by unfold cliqR; rw [h]; rfl
theorem cliqR_yes {n : Int} {xs : List Int} (h : clashesOk n xs = true) : cliqR n xs = cliqueL n.toNat xs := by unfold cliqR; rw [h]; rfl
theorem deep_small (xs : List Int) : ∀ (d i : Nat) (l best : List Int), l.length ≤ i → best.length ≤ i + d → (deep xs d i l best).length ≤ i + d := by
  intro d
  induction d with
  | zero => intro i l best _ h; exact h
  | succ d ih =>
    intro i l best h1 h2
    unfold deep
    have key : ∀ b : List Int, b.length ≤ i + (d + 1) → (deep xs d (i + 1) l b).length ≤ i + (d + 1) := fun b hb => by
      have := ih (i + 1) l b (by omega) (by omega); omega
    split
    · refine key _ ?_
      have hu : (up best (l ++ [(i : Int)])).length ≤ i + (d + 1) := by
        unfold up
        split
        · rw [List.length_append, List.length_singleton]; omega
        · omega
      have := ih (i + 1) (l ++ [(i : Int)]) (up best (l ++ [(i : Int)])) (by simp; omega) (by omega)
      omega
    · exact key _ h2
theorem clash_bounds {n : Int} {xs : List Int} (h : clashesOk n xs = true) : ∃ t : Nat, n = t ∧ 1 ≤ t ∧ t ≤ 12 ∧ xs.length ≤ 64 ∧ xs.length % 2 = 0 ∧ (∀ k, k < xs.length → 0 ≤ nth xs k ∧ nth xs k < (t : Int)) := by
  obtain ⟨h1, h2, h3, h4, h5⟩ := clashesOk_head h
  obtain ⟨t, rfl⟩ : ∃ t : Nat, n = t := ⟨n.toNat, by omega⟩
  exact ⟨t, rfl, by omega, by omega, h3, h4, h5⟩
theorem cliqR_small (n : Int) (xs : List Int) : (cliqR n xs).length ≤ 12 := by
  unfold cliqR
  split
  · rename_i h
    obtain ⟨t, rfl, h1, h2, _⟩ := clash_bounds h
    have := deep_small xs t 0 [] [] (Nat.le_refl _) (by simp)
    unfold cliqueL
    rw [Int.toNat_natCast]
    omega
  · simp
end Go.Proofs.Ytmakjgbldejcpaa
