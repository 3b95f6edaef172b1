
/- Valid jobs, rules, counts and patterns, program and reference: plain tests. Conditions: none. -/
import Derived.Test.YtcjeededlhdcbaaDoorDeskTo2
import Derived.Test.YtcjeededlhdcbaaDoorNames
namespace Go.Proofs.YtcjeededlhdcbaaDoor
open Go.RowKit Go.BigFrame
set_option linter.unusedVariables false
set_option linter.unusedSimpArgs false

/-! Patterns. -/
def isDay (c : UInt8) : Bool := (c.toNat == 46) || isLow c
def patOk (s : ByteArray) (m : Int) : Bool := s.data.toList.all isDay && decide (1 ≤ s.size) && decide ((s.size : Int) ≤ m)
theorem day_take_succ (s : ByteArray) (k : Nat) (h : k < s.size) : (s.data.toList.take (k + 1)).all isDay = ((s.data.toList.take k).all isDay && isDay s[k]) := by
  rw [List.take_succ_eq_append_getElem (by simpa using h), List.all_append]
  simp
  rfl
theorem day_bad (s : ByteArray) (k : Nat) (h : k < s.size) (hb : isDay s[k] = false) : s.data.toList.all isDay = false := by
  rw [List.all_eq_false]
  exact ⟨s[k], by
    have : s[k] = s.data.toList[k]'(by simpa using h) := by simp; rfl
    rw [this]; exact List.getElem_mem _, by rw [hb]; simp⟩

/-! Counts. -/
def countsOk (cs : List Int) : Bool := many cs 1 8 0 16 && win cs.sum 1 64
theorem sum_take (cs : List Int) (k : Nat) (h : k < cs.length) : (cs.take (k + 1)).sum = (cs.take k).sum + nth cs k := by
  rw [List.take_succ_eq_append_getElem h, List.sum_append, nth_eq h]; simp
theorem sum_le (cs : List Int) (h : (cs.all fun n => win n 0 16) = true) : ∀ k, k ≤ cs.length → 0 ≤ (cs.take k).sum ∧ (cs.take k).sum ≤ 16 * k := by
  intro k
  induction k with
  | zero => intro _; simp
  | succ k ih =>
    intro hk
    have h1 := ih (by omega)
    rw [sum_take cs k (by omega), nth_eq (by omega)]
    have := win_true.1 (List.all_eq_true.1 h _ (List.getElem_mem (show k < cs.length by omega)))
    omega

end Go.Proofs.YtcjeededlhdcbaaDoor
