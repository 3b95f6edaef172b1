
/- Contracts of the laws' own helpers on slices (copy, compare) and of the range tests on lists. Conditions: lengths at most 2^20 where a slice is made. -/
import Derived.Test.YtcjeededlhdcbaaDoorNums
namespace Go.Proofs.YtcjeededlhdcbaaDoor
open Go.RowKit
set_option linter.unusedVariables false
set_option linter.unusedSimpArgs false

theorem info_i64 : (Tryd.prog.info? 2).map (fun i => (i.zero, i.size, i.bytes)) = some (some (.int .i64 0), 1, 8) := by kernel_rfl

theorem take_set (xs : List Int) (k : Nat) (hk : k < xs.length) (m : Nat) (hm : xs.length = k + (m + 1)) :
    ((xs.take k ++ List.replicate (m + 1) 0).set k xs[k]) = xs.take (k + 1) ++ List.replicate m 0 := by
  apply List.ext_getElem
  · simp; omega
  · intro i h1 h2
    simp only [List.getElem_set]
    split
    · rename_i h; subst h; rw [List.getElem_append_left (by simp; omega)]; simp
    · rename_i h
      by_cases h3 : i < k
      · rw [List.getElem_append_left (by simp; omega), List.getElem_append_left (by simp; omega)]; simp
      · rw [List.getElem_append_right (by simp; omega), List.getElem_append_right (by simp; omega)]; simp

theorem areWithin_any (v : Value) (xs : List Int) (lo hi : Int) (w : World) (hv : Ints w v xs) :
    Calls Tryd.prog 53 #[v, .int .i64 lo, .int .i64 hi] w fun e w' => e = .returned (.bool (xs.all fun n => win n lo hi)) ∧ w = w' := by
  obtain ⟨hm, a, c, rfl, hcap, hc⟩ := hv
  unfold maxLen at hm
  go_enter Tryd.func53, Tryd.ntmps53
  go_wp2
  go_loop [8, 11] (fun x i => ∃ k : Nat, k ≤ xs.length ∧ i = .int .i64 k ∧ (xs.take k).all (fun n => win n lo hi) = true) (fun _ i => xs.length - (intOf i).toNat)
  case atStart => exact ⟨0, Nat.zero_le _, rfl, rfl⟩
  case round =>
    obtain ⟨k, hk, rfl, hr⟩ := hrel
    have Hr := Lib.hid hr
    clear hr
    by_cases hlt : k < xs.length
    · obtain ⟨b, o, rfl, _, hc1⟩ := hc k hlt
      clear hc
      cases hw : win xs[k] lo hi
      · go_wp2_with (go_at_call 37; refine (within_any _ _ _ _).mono ?_; rintro e w' ⟨rfl, rfl⟩)
        go_ret
        refine ⟨ret_bool ?_, rfl⟩
        symm
        rw [List.all_eq_false]
        exact ⟨xs[k], List.getElem_mem _, by simp [hw]⟩
      · go_wp2_with (go_at_call 37; refine (within_any _ _ _ _).mono ?_; rintro e w' ⟨rfl, rfl⟩)
        go_round
        case rel =>
          refine ⟨k + 1, by omega, by go_num, ?_⟩
          rw [List.take_succ_eq_append_getElem hlt, List.all_append, Hr.out]
          simp [hw]
        case measure => simp [intOf]; omega
    · clear hc
      go_wp2
      go_ret
      refine ⟨ret_bool ?_, rfl⟩
      have := Hr.out
      rw [List.take_of_length_le (by omega)] at this
      exact this.symm

def many (xs : List Int) (few most : Int) (lo hi : Int) : Bool := decide (few ≤ (xs.length : Int)) && decide ((xs.length : Int) ≤ most) && xs.all fun n => win n lo hi

theorem many_true {xs : List Int} {few most lo hi : Int} : many xs few most lo hi = true ↔ few ≤ xs.length ∧ (xs.length : Int) ≤ most ∧ (xs.all fun n => win n lo hi) = true := by
  simp [many, and_assoc]

theorem areMany_any (v : Value) (xs : List Int) (few most : Int) (lo hi : Int) (w : World) (hv : Ints w v xs) :
    Calls Tryd.prog 43 #[v, .int .i64 few, .int .i64 most, .int .i64 lo, .int .i64 hi] w fun e w' => e = .returned (.bool (many xs few most lo hi)) ∧ w = w' := by
  have hv2 := hv
  obtain ⟨hm, a, c, rfl, hcap, hc⟩ := hv2
  clear hc
  unfold maxLen at hm
  unfold many
  by_cases h1 : few ≤ (xs.length : Int)
  · by_cases h2 : (xs.length : Int) ≤ most
    · go_enter Tryd.func43, Tryd.ntmps43
      go_wp2_with (go_at_call 53; refine (areWithin_any _ xs _ _ _ hv).mono ?_; rintro e w' ⟨rfl, rfl⟩)
      go_ret
      exact ⟨ret_bool (by rw [decide_eq_true h1, decide_eq_true h2]; simp), rfl⟩
    · go_enter Tryd.func43, Tryd.ntmps43
      go_wp2_with fail
      go_ret
      exact ⟨ret_bool (by rw [decide_eq_false (by omega : ¬ (xs.length : Int) ≤ most)]; simp), rfl⟩
  · go_enter Tryd.func43, Tryd.ntmps43
    go_wp2_with fail
    go_ret
    exact ⟨ret_bool (by rw [decide_eq_false (by omega : ¬ few ≤ (xs.length : Int))]; simp), rfl⟩
end Go.Proofs.YtcjeededlhdcbaaDoor
