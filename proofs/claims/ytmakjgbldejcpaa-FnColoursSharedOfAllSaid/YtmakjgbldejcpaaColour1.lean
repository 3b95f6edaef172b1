
/- IsColour, program and reference: the contracts of both, by one plain function. Conditions: none. -/
import Derived.Test.YtmakjgbldejcpaaClashes
namespace Go.Proofs.Ytmakjgbldejcpaa
open Go.RowKit Go.Shelf Go.BigFrame
set_option linter.unusedVariables false
set_option linter.unusedSimpArgs false
attribute [local go_sem] Oper.semAt_some

def colourHead (n : Int) (xs cs : List Int) : Bool := clashesOk n xs && many cs n n 0 11
/-- The colours of a pair. -/
def colourA (xs cs : List Int) (j : Nat) : Int := nth cs (nth xs (2 * j)).toNat
def colourB (xs cs : List Int) (j : Nat) : Int := nth cs (nth xs (2 * j + 1)).toNat
def colourOk (n : Int) (xs cs : List Int) : Bool := colourHead n xs cs && (List.range (xs.length / 2)).all fun j => colourA xs cs j != colourB xs cs j

theorem clashesOk_head {n : Int} {xs : List Int} (h : clashesOk n xs = true) : 1 ≤ n ∧ n ≤ 12 ∧ xs.length ≤ 64 ∧ xs.length % 2 = 0 ∧ ∀ k, k < xs.length → 0 ≤ nth xs k ∧ nth xs k < n := by
  simp only [clashesOk, clashesHead, Bool.and_eq_true, decide_eq_true_eq, List.all_eq_true] at h
  obtain ⟨⟨⟨⟨h1, h2⟩, h3⟩, h4⟩, _⟩ := h
  have := win_true.1 h1
  refine ⟨this.1, this.2, h2, h3, fun k hk => ?_⟩
  have := win_true.1 (h4 _ (List.getElem_mem hk))
  rw [← nth_eq] at this
  omega

end Go.Proofs.Ytmakjgbldejcpaa
