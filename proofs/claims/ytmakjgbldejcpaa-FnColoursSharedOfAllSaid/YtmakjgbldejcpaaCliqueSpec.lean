
/- GreatClique, the reference: its contract. Conditions: valid clashes. -/
import Derived.Test.YtmakjgbldejcpaaCliquePlain
namespace Go.Proofs.Ytmakjgbldejcpaa
open Go.RowKit Go.BigFrame
set_option linter.unusedVariables false
set_option linter.unusedSimpArgs false
attribute [local go_sem] Oper.semAt_some

theorem half_pow (s t i K : Nat) (h : i + K + 1 = t) : s / 2 ^ (t - i) = s / 2 ^ K / 2 ∧ s / 2 ^ (t - (i + 1)) = s / 2 ^ K := by
  rw [show t - i = K + 1 from by omega, show t - (i + 1) = K from by omega]
  exact ⟨by rw [Nat.pow_succ, Nat.div_div_eq_div_mul], rfl⟩
theorem clq_pre (xs : List Int) (t s : Nat) : ∀ K i, i + K = t → clq xs t s = true → clq xs i (s / 2 ^ K) = true := by
  intro K
  induction K with
  | zero => intro i h hc; rw [Nat.pow_zero, Nat.div_one, show i = t from by omega]; exact hc
  | succ K ih =>
    intro i h hc
    have h1 := ih (i + 1) (by omega) hc
    have h2 := (half_pow s t i K (by omega)).1
    rw [show t - i = K + 1 from by omega] at h2
    rw [h2]
    change (clq xs i (s / 2 ^ K / 2) && _) = true at h1
    exact (Bool.and_eq_true _ _ ▸ h1).1
theorem clq_not {xs : List Int} {t s i K : Nat} (h : i + K = t) (hc : clq xs i (s / 2 ^ K) = false) : clq xs t s = false := by
  cases h1 : clq xs t s
  · rfl
  · rw [clq_pre xs t s K i h h1] at hc; cases hc

def cliState (xs : List Int) (t s i : Nat) (al : Bool) (l : List Int) : Prop := (al = true ∧ l = lst i (s / 2 ^ (t - i)) ∧ clq xs i (s / 2 ^ (t - i)) = true) ∨ (al = false ∧ clq xs t s = false)
theorem cliState_end {xs : List Int} {t s : Nat} {al : Bool} {l : List Int} (h : cliState xs t s t al l) (best : List Int) : cand t xs s best = if al = true ∧ best.length < l.length then l else best := by
  unfold cand
  rcases h with ⟨rfl, rfl, h⟩ | ⟨rfl, h⟩
  · rw [Nat.sub_self, Nat.pow_zero, Nat.div_one] at h ⊢
    rw [h]; simp [up]
  · rw [h]; simp
theorem cliState_no {xs : List Int} {t s i : Nat} {l : List Int} (h : cliState xs t s i false l) (best : List Int) : cand t xs s best = best := by
  unfold cand
  rcases h with ⟨h, _⟩ | ⟨_, h⟩
  · cases h
  · rw [h]; simp
theorem cliState_skip {xs : List Int} {t s i K : Nat} {l : List Int} (hK : i + K + 1 = t) (h : cliState xs t s i true l) (hb : s.testBit K = false) : cliState xs t s (i + 1) true l := by
  obtain ⟨h1, h2⟩ := half_pow s t i K hK
  rcases h with ⟨_, rfl, h⟩ | ⟨h, _⟩
  · have hm : ¬ s / 2 ^ K % 2 = 1 := by rw [Nat.testBit_eq_decide_div_mod_eq] at hb; simpa using hb
    refine .inl ⟨rfl, ?_, ?_⟩
    · rw [h2, h1]; show _ = lst i (s / 2 ^ K / 2) ++ _; rw [if_neg hm, List.append_nil]
    · rw [h2]; show (clq xs i (s / 2 ^ K / 2) && _) = true; rw [if_neg hm, Bool.and_true, ← h1]; exact h
  · cases h
theorem cliState_put {xs : List Int} {t s i K : Nat} {l : List Int} (hK : i + K + 1 = t) (h : cliState xs t s i true l) (hb : s.testBit K = true) : cliState xs t s (i + 1) (okTo xs l i) (l ++ [(i : Int)]) := by
  obtain ⟨h1, h2⟩ := half_pow s t i K hK
  rcases h with ⟨_, rfl, h⟩ | ⟨h, _⟩
  · have hm : s / 2 ^ K % 2 = 1 := by rw [Nat.testBit_eq_decide_div_mod_eq] at hb; simpa using hb
    have hc : clq xs (i + 1) (s / 2 ^ (t - (i + 1))) = okTo xs (lst i (s / 2 ^ (t - i))) i := by
      rw [h2, h1]; show (clq xs i (s / 2 ^ K / 2) && _) = _; rw [if_pos hm, ← h1, h, Bool.true_and]
    cases ho : okTo xs (lst i (s / 2 ^ (t - i))) i
    · rw [ho] at hc
      exact .inr ⟨rfl, clq_not (i := i + 1) (K := t - (i + 1)) (by omega) hc⟩
    · rw [ho] at hc
      refine .inl ⟨rfl, ?_, hc⟩
      rw [h2, h1]; show _ = lst i (s / 2 ^ K / 2) ++ _; rw [if_pos hm]
  · cases h
/-- The first y of l clash with i. -/
def okPre (xs l : List Int) (i y : Nat) : Bool := okTo xs (l.take y) i
theorem okPre_succ (xs l : List Int) (i y : Nat) (h : y < l.length) : okPre xs l i (y + 1) = (okPre xs l i y && clashB xs (nth l y) (i : Int)) := by
  unfold okPre okTo; rw [List.take_succ_eq_append_getElem h, List.all_append, nth_eq h]; simp

end Go.Proofs.Ytmakjgbldejcpaa
