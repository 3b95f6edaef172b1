
/- counting(n): the numbers from 0 on. Conditions: n at most 2^20. -/
import Derived.Test.YtnpfninkopffmaaAppend
namespace Go.Proofs.Ytnpfninkopffmaa
open Go.RowKit
set_option linter.unusedVariables false
set_option linter.unusedSimpArgs false

/-- 0, 1, .. n - 1. -/
def idL (n : Nat) : List Int := (List.range n).map fun (i : Nat) => (i : Int)
theorem idL_length (n : Nat) : (idL n).length = n := by simp [idL]
theorem idL_succ (n : Nat) : idL (n + 1) = idL n ++ [(n : Int)] := by unfold idL; rw [List.range_succ, List.map_append]; rfl
theorem idL_get {n i : Nat} (h : i < n) : nth (idL n) i = (i : Int) := by
  rw [nth_eq (by rw [idL_length]; exact h)]; simp [idL]

theorem counting_any (n : Nat) (w : World) (hn : n ≤ 1048576) :
    Calls Try.prog 68 #[.int .i64 n] w fun e w' => (∃ g c, e = .returned (.slice (some ⟨g, 0, none⟩) n c) ∧ OwnI w' w.heap.size (.slice (some ⟨g, 0, none⟩) n c) (idL n)) ∧ Below w.heap.size w w' := by
  have HA0 : Hid (OwnI (w.alloc (.cells #[] 2)) w.heap.size (.slice (some ⟨w.heap.size, 0, none⟩) 0 0) (idL 0)) := OwnI.lit w w.heap.size [] (Nat.le_refl _) (Nat.zero_le _)
  have HB0 : Hid (Below w.heap.size w (w.alloc (.cells #[] 2))) := (Below.refl _ w).alloc (Nat.le_refl _) _
  go_enter Try.func68, Try.ntmps68
  go_wp2
  go_loopw [3, 4, 7] (fun v _ i wr => ∃ (k g c : Nat), k ≤ n ∧ i = .int .i64 k ∧ v = .slice (some ⟨g, 0, none⟩) k c ∧ OwnI wr w.heap.size (.slice (some ⟨g, 0, none⟩) k c) (idL k) ∧ Below w.heap.size w wr) (fun _ _ i _ => n - (intOf i).toNat)
  case atStart => exact ⟨0, w.heap.size, 0, Nat.zero_le _, rfl, rfl, HA0.out, HB0.out⟩
  case round =>
    obtain ⟨k, g, c, hk, rfl, rfl, ho, hb⟩ := hrel
    have hws := hb.size
    have HO := Lib.hid ho
    have HB := Lib.hid hb
    clear ho hb HA0 HB0
    by_cases hlt : k < n
    · have HLK := Lib.hid (idL_length k)
      go_wp2_with (at_builtin; refine append_i64 rfl _ _ rfl w.heap.size (.slice (some ⟨g, 0, none⟩) k c) (idL k) [(k : Int)] (by simp) rfl _ rfl HO.out hws (by rw [HLK.out]; simp; omega) ?_; intro g1 c1 w3 ho3 hg3; have hb3 := Below.app HB.out HO.out hg3 hws; have HO3 := Lib.hid ho3; have HB3 := Lib.hid hb3; clear ho3 hb3 hg3)
      go_roundw
      case rel => exact ⟨k + 1, g1, c1, by omega, by go_num, (by simp [idL_length]), by rw [idL_succ]; have := HO3.out; rw [HLK.out] at this; exact this, HB3.out⟩
      case measure => simp [intOf]; omega
    · obtain rfl : k = n := by omega
      clear hlt
      go_wp2
      go_ret
      exact ⟨⟨g, c, rfl, HO.out⟩, HB.out⟩
end Go.Proofs.Ytnpfninkopffmaa
