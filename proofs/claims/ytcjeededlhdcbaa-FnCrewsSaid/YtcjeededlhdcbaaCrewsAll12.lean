/- impl.ruleOrder: the test on what a task waits for. Conditions: the row and its box stand. With texts that it needs. -/
import Derived.Test.YtcjeededlhdcbaaCrewsAll11
import Derived.Test.YtcjeededlhdcbaaCrewsAll8
import Derived.Test.YtcjeededlhdcbaaShelf
import Derived.Deep.QuietTactic
namespace Go.Proofs.Ytcjeededlhdcbaa
open Go.RowKit
set_option linter.unusedVariables false
set_option linter.unusedSimpArgs false

/-- What slices.Contains tells of a row. -/
theorem contains_any (a : Option Addr) (c : Nat) (l : List Int) (x : Int) (w : World) (hl : l.length ≤ 1048576) (hc : ∀ k, k < l.length → ∃ b o, a = some ⟨b, o, none⟩ ∧ w.cell? ⟨b, o + k, none⟩ = some (.int .i64 (nth l k))) :
    Calls Try.prog 118 #[.slice a l.length c, .int .i64 x] w fun e w' => e = .returned (.bool (l.contains x)) ∧ w' = w := by
  by_cases h0 : l.length = 0
  · have hl0 : l = [] := List.eq_nil_of_length_eq_zero h0
    subst hl0
    exact Try.slices_Contains_int_empty a c x w
  · obtain ⟨b, o, rfl, _⟩ := hc 0 (by omega)
    have h := Try.slices_Contains_int b o l.length c l x w (Nat.le_refl _) (by omega) (fun j hj => by
      obtain ⟨b2, o2, e, h⟩ := hc j hj
      injection e with e; injection e with e1 e2; subst e1 e2
      exact h)
    rw [List.take_length] at h
    exact h
theorem freeB_two (ts : List Tk) (E : List Int) (i : Nat) : freeB ts E i = (!(E.contains (i : Int)) && !((befN ts i).any fun x => !(E.contains x))) := by
  unfold freeB
  congr 1
  rw [List.not_any_eq_all_not]
  simp
set_option maxRecDepth 100000 in
theorem ruleTest_any (bx : Nat) (a : Option Addr) (c : Nat) (E : List Int) (x : Int) (W : World) (hl : E.length ≤ 1048576) (hb : Boxed W bx 27 (.slice a E.length c)) (hc : ∀ k, k < E.length → ∃ b o, a = some ⟨b, o, none⟩ ∧ W.cell? ⟨b, o + k, none⟩ = some (.int .i64 (nth E k))) :
    TestAt 119 #[.pointer (some ⟨bx, 0, none⟩)] (fun x => !(E.contains x)) x W := by
  have HC := Lib.hid (contains_any a c E x W hl hc)
  have hbc := hb.cell
  clear hc hb
  unfold TestAt
  obtain ⟨B, hB⟩ : ∃ B, E.contains x = B := ⟨_, rfl⟩
  rw [hB] at HC
  simp only [hB]
  clear hB
  cases B
  all_goals
    go_enter Try.func119, Try.ntmps119
    go_wp2_with fail
    refine HC.out.mono ?_
    rintro e w' ⟨rfl, rfl⟩
    go_wp2
    go_ret
    exact ⟨rfl, 0, rfl⟩
end Go.Proofs.Ytcjeededlhdcbaa
