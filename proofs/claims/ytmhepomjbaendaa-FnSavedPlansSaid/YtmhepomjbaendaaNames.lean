
/- Names: IsName, l07Name. Conditions: none. -/
import Derived.Test.YtmhepomjbaendaaBase
namespace Go.Proofs.Ytmhepomjbaendaa
open Go.RowKit
set_option linter.unusedVariables false
set_option linter.unusedSimpArgs false

def isLow (c : UInt8) : Bool := decide (97 ≤ (c.toNat : Int)) && decide ((c.toNat : Int) ≤ 122)
def nameOk (s : ByteArray) : Bool := s.data.toList.all isLow && decide (1 ≤ s.size) && decide (s.size ≤ 8)
theorem all_take_succ (s : ByteArray) (k : Nat) (h : k < s.size) : (s.data.toList.take (k + 1)).all isLow = ((s.data.toList.take k).all isLow && isLow s[k]) := by
  rw [List.take_succ_eq_append_getElem (by simpa using h), List.all_append]
  simp
  rfl
theorem all_bad (s : ByteArray) (k : Nat) (h : k < s.size) (hb : isLow s[k] = false) : s.data.toList.all isLow = false := by
  rw [List.all_eq_false]
  exact ⟨s[k], by
    have : s[k] = s.data.toList[k]'(by simpa using h) := by simp; rfl
    rw [this]; exact List.getElem_mem _, by rw [hb]; simp⟩
theorem all_full (s : ByteArray) : s.data.toList.take s.size = s.data.toList := List.take_of_length_le (by simp)

set_option maxHeartbeats 800000 in
theorem isName_any (s : ByteArray) (w : World) (hs : s.size ≤ maxLen) : Calls Try.prog 79 #[.string s] w fun e w' => e = .returned (.bool (nameOk s)) ∧ w = w' := by
  unfold maxLen at hs
  have HFULL := Lib.hid (all_full s)
  go_enter Try.func79, Try.ntmps79
  go_wp2
  go_loop [6] (fun i => ∃ k : Nat, k ≤ s.size ∧ i = .int .i64 k ∧ Hid ((s.data.toList.take k).all isLow = true)) (fun i => s.size - (intOf i).toNat)
  case atStart => exact ⟨0, Nat.zero_le _, rfl, rfl⟩
  case round =>
    obtain ⟨k, hk, rfl, hall⟩ := hrel
    by_cases hlt : k < s.size
    · have HN := Lib.hid (all_take_succ s k hlt)
      have k0 : (0 : Int) ≤ (k : Int) := by omega
      by_cases h1 : (s[k].toNat : Int) < 97
      · have hb : isLow s[k] = false := by unfold isLow; simp; omega
        have HB : Hid (nameOk s = false) := by show _ = _; unfold nameOk; rw [all_bad s k hlt hb]; rfl
        clear hb
        go_wp2
        go_ret
        exact ⟨ret_bool HB.out.symm, rfl⟩
      · by_cases h2 : 122 < (s[k].toNat : Int)
        · have hb : isLow s[k] = false := by unfold isLow; simp; omega
          have HB : Hid (nameOk s = false) := by show _ = _; unfold nameOk; rw [all_bad s k hlt hb]; rfl
          have hd : decide ((s[k].toNat : Int) < 97) = false := by simpa using h1
          clear hb
          go_wp2
          go_ret
          exact ⟨ret_bool HB.out.symm, rfl⟩
        · have hg : isLow s[k] = true := by unfold isLow; simp; omega
          have HG := Lib.hid hg
          have hd : decide ((s[k].toNat : Int) < 97) = false := by simpa using h1
          clear hg
          go_wp2
          go_round
          case rel => exact ⟨k + 1, by omega, by go_num, by show _ = _; rw [HN.out, hall.out, HG.out]; rfl⟩
          case measure => simp [intOf]; omega
    · obtain rfl : k = s.size := by omega
      have HA : Hid (s.data.toList.all isLow = true) := by have := hall.out; rw [HFULL.out] at this; exact this
      clear hall hlt
      by_cases h1 : 1 ≤ s.size
      · by_cases h2 : s.size ≤ 8
        · have HB : Hid (nameOk s = true) := by show _ = _; unfold nameOk; rw [HA.out]; simp [h1, h2]
          go_wp2
          go_ret
          exact ⟨ret_bool (by rw [HB.out]; simp; omega), rfl⟩
        · have HB : Hid (nameOk s = false) := by show _ = _; unfold nameOk; rw [HA.out]; simp [h1, h2]
          go_wp2
          go_ret
          exact ⟨ret_bool (by rw [HB.out]; simp; omega), rfl⟩
      · have hd : decide ((1 : Int) ≤ (s.size : Int)) = false := by simp; omega
        have HB : Hid (nameOk s = false) := by show _ = _; unfold nameOk; rw [HA.out]; simp [h1]
        go_wp2
        go_ret
        exact ⟨ret_bool HB.out.symm, rfl⟩
set_option maxHeartbeats 800000 in
theorem l07Name_any (s : ByteArray) (w : World) (hs : s.size ≤ maxLen) : Calls Try.prog 117 #[.string s] w fun e w' => e = .returned (.bool (nameOk s)) ∧ w = w' := by
  unfold maxLen at hs
  have HFULL := Lib.hid (all_full s)
  go_enter Try.func117, Try.ntmps117
  go_wp2
  go_loop [3] (fun i => ∃ k : Nat, k ≤ s.size ∧ i = .int .i64 k ∧ Hid ((s.data.toList.take k).all isLow = true)) (fun i => s.size - (intOf i).toNat)
  case atStart => exact ⟨0, Nat.zero_le _, rfl, rfl⟩
  case round =>
    obtain ⟨k, hk, rfl, hall⟩ := hrel
    by_cases hlt : k < s.size
    · have HN := Lib.hid (all_take_succ s k hlt)
      have k0 : (0 : Int) ≤ (k : Int) := by omega
      by_cases h1 : (s[k].toNat : Int) < 97
      · have hb : isLow s[k] = false := by unfold isLow; simp; omega
        have HB : Hid (nameOk s = false) := by show _ = _; unfold nameOk; rw [all_bad s k hlt hb]; rfl
        clear hb
        go_wp2
        go_ret
        exact ⟨ret_bool HB.out.symm, rfl⟩
      · by_cases h2 : 122 < (s[k].toNat : Int)
        · have hb : isLow s[k] = false := by unfold isLow; simp; omega
          have HB : Hid (nameOk s = false) := by show _ = _; unfold nameOk; rw [all_bad s k hlt hb]; rfl
          have hd : decide ((s[k].toNat : Int) < 97) = false := by simpa using h1
          clear hb
          go_wp2
          go_ret
          exact ⟨ret_bool HB.out.symm, rfl⟩
        · have hg : isLow s[k] = true := by unfold isLow; simp; omega
          have HG := Lib.hid hg
          have hd : decide ((s[k].toNat : Int) < 97) = false := by simpa using h1
          clear hg
          go_wp2
          go_round
          case rel => exact ⟨k + 1, by omega, by go_num, by show _ = _; rw [HN.out, hall.out, HG.out]; rfl⟩
          case measure => simp [intOf]; omega
    · obtain rfl : k = s.size := by omega
      have HA : Hid (s.data.toList.all isLow = true) := by have := hall.out; rw [HFULL.out] at this; exact this
      clear hall hlt
      by_cases h1 : 1 ≤ s.size
      · by_cases h2 : s.size ≤ 8
        · have HB : Hid (nameOk s = true) := by show _ = _; unfold nameOk; rw [HA.out]; simp [h1, h2]
          go_wp2
          go_ret
          exact ⟨ret_bool (by rw [HB.out]; simp; omega), rfl⟩
        · have HB : Hid (nameOk s = false) := by show _ = _; unfold nameOk; rw [HA.out]; simp [h1, h2]
          go_wp2
          go_ret
          exact ⟨ret_bool (by rw [HB.out]; simp; omega), rfl⟩
      · have hd : decide ((1 : Int) ≤ (s.size : Int)) = false := by simp; omega
        have HB : Hid (nameOk s = false) := by show _ = _; unfold nameOk; rw [HA.out]; simp [h1]
        go_wp2
        go_ret
        exact ⟨ret_bool HB.out.symm, rfl⟩
end Go.Proofs.Ytmhepomjbaendaa
