
/- Valid jobs, rules, counts and patterns, program and reference: plain tests. Conditions: none. -/
import Derived.Test.YtmakjgbldejcpaaDeskTo2
import Derived.Test.YtmakjgbldejcpaaNames
namespace Go.Proofs.Ytmakjgbldejcpaa
open Go.RowKit Go.BigFrame
set_option linter.unusedVariables false
set_option linter.unusedSimpArgs false

/-! Patterns. -/
def isDay (c : UInt8) : Bool := (c.toNat == 46) || isLow c
def patOk (s : ByteArray) (m : Int) : Bool := s.data.toList.all isDay && decide (1 ≤ s.size) && decide ((s.size : Int) ≤ m)
theorem day_take_succ (s : ByteArray) (k : Nat) (h : k < s.size) : (s.data.toList.take (k + 1)).all isDay = ((s.data.toList.take k).all isDay && isDay s[k]) := by
  rw [List.take_succ_eq_append_getElem (by simpa using h), List.all_append]
  simp
  rfl
theorem day_bad (s : ByteArray) (k : Nat) (h : k < s.size) (hb : isDay s[k] = false) : s.data.toList.all isDay = false := by
  rw [List.all_eq_false]
  exact ⟨s[k], by
    have : s[k] = s.data.toList[k]'(by simpa using h) := by simp; rfl
    rw [this]; exact List.getElem_mem _, by rw [hb]; simp⟩

set_option maxHeartbeats 1600000 in
theorem isPattern_any (s : ByteArray) (m : Int) (w : World) (hs : s.size ≤ maxLen) : Calls Try.prog 99 #[.string s, .int .i64 m] w fun e w' => e = .returned (.bool (patOk s m)) ∧ w = w' := by
  unfold maxLen at hs
  have HFULL := Lib.hid (all_full s)
  go_enter Try.func99, Try.ntmps99
  go_wp2
  go_loop [8] (fun i => ∃ k : Nat, k ≤ s.size ∧ i = .int .i64 k ∧ Hid ((s.data.toList.take k).all isDay = true)) (fun i => s.size - (intOf i).toNat)
  case atStart => exact ⟨0, Nat.zero_le _, rfl, rfl⟩
  case round =>
    obtain ⟨k, hk, rfl, hall⟩ := hrel
    by_cases hlt : k < s.size
    · have HN := Lib.hid (day_take_succ s k hlt)
      have HBAD : Hid (isDay s[k] = false → patOk s m = false) := fun hb => by unfold patOk; rw [day_bad s k hlt hb]; rfl
      have HD : Hid (isDay s[k] = ((s[k].toNat == 46) || (decide (97 ≤ (s[k].toNat : Int)) && decide ((s[k].toNat : Int) ≤ 122)))) := rfl
      have k0 : (0 : Int) ≤ (k : Int) := by omega
      by_cases h0 : s[k].toNat = 46
      · have q0 : ((s[k].toNat : Int) != 46) = false := by simp; omega
        have HG : Hid (isDay s[k] = true) := by show _ = _; rw [HD.out]; simp [h0]
        clear h0
        go_wp2
        go_round
        case rel => exact ⟨k + 1, by omega, by go_num, by show _ = _; rw [HN.out, hall.out, HG.out]; rfl⟩
        case measure => simp [intOf]; omega
      · have q0 : ((s[k].toNat : Int) != 46) = true := by simp; omega
        have q0' : (s[k].toNat == 46) = false := by simpa using h0
        by_cases h1 : 97 ≤ (s[k].toNat : Int)
        · by_cases h2 : (s[k].toNat : Int) ≤ 122
          · have HG : Hid (isDay s[k] = true) := by show _ = _; rw [HD.out, q0']; simp; omega
            clear h0 q0'
            go_wp2
            go_round
            case rel => exact ⟨k + 1, by omega, by go_num, by show _ = _; rw [HN.out, hall.out, HG.out]; rfl⟩
            case measure => simp [intOf]; omega
          · have HF := Lib.hid (HBAD.out (by rw [HD.out, q0']; simp; omega))
            have hd : decide ((s[k].toNat : Int) ≤ 122) = false := by simpa using h2
            clear h0 q0'
            go_wp2
            go_ret
            exact ⟨ret_bool HF.out.symm, rfl⟩
        · have HF := Lib.hid (HBAD.out (by rw [HD.out, q0']; simp; omega))
          have hd : decide (97 ≤ (s[k].toNat : Int)) = false := by simpa using h1
          clear h0 q0'
          go_wp2
          go_ret
          exact ⟨ret_bool HF.out.symm, rfl⟩
    · obtain rfl : k = s.size := by omega
      have HA : Hid (patOk s m = (decide (1 ≤ s.size) && decide ((s.size : Int) ≤ m))) := by show _ = _; have := hall.out; rw [HFULL.out] at this; unfold patOk; rw [this]; simp
      clear hall hlt
      by_cases h1 : 1 ≤ s.size
      · go_wp2
        go_ret
        exact ⟨ret_bool (by rw [HA.out]; simp [h1]), rfl⟩
      · have hd : decide ((1 : Int) ≤ (s.size : Int)) = false := by simp; omega
        go_wp2
        go_ret
        exact ⟨ret_bool (by rw [HA.out]; simp [h1]), rfl⟩

set_option maxHeartbeats 1600000 in
theorem l06Days_any (s : ByteArray) (m : Int) (w : World) (hs : s.size ≤ maxLen) : Calls Try.prog 140 #[.string s, .int .i64 m] w fun e w' => e = .returned (.bool (patOk s m)) ∧ w = w' := by
  unfold maxLen at hs
  have HFULL := Lib.hid (all_full s)
  go_enter Try.func140, Try.ntmps140
  go_wp2
  go_loop [5] (fun i => ∃ k : Nat, k ≤ s.size ∧ i = .int .i64 k ∧ Hid ((s.data.toList.take k).all isDay = true)) (fun i => s.size - (intOf i).toNat)
  case atStart => exact ⟨0, Nat.zero_le _, rfl, rfl⟩
  case round =>
    obtain ⟨k, hk, rfl, hall⟩ := hrel
    by_cases hlt : k < s.size
    · have hki : (k : Int) < (s.size : Int) := by omega
      by_cases hkm : (k : Int) ≤ m
      · have HN := Lib.hid (day_take_succ s k hlt)
        have HBAD : Hid (isDay s[k] = false → patOk s m = false) := fun hb => by unfold patOk; rw [day_bad s k hlt hb]; rfl
        have HD : Hid (isDay s[k] = ((s[k].toNat == 46) || (decide (97 ≤ (s[k].toNat : Int)) && decide ((s[k].toNat : Int) ≤ 122)))) := rfl
        have k0 : (0 : Int) ≤ (k : Int) := by omega
        by_cases h0 : s[k].toNat = 46
        · have q0 : ((s[k].toNat : Int) != 46) = false := by simp; omega
          have HG : Hid (isDay s[k] = true) := by show _ = _; rw [HD.out]; simp [h0]
          clear h0
          go_wp2
          go_round
          case rel => exact ⟨k + 1, by omega, by go_num, by show _ = _; rw [HN.out, hall.out, HG.out]; rfl⟩
          case measure => simp [intOf]; omega
        · have q0 : ((s[k].toNat : Int) != 46) = true := by simp; omega
          have q0' : (s[k].toNat == 46) = false := by simpa using h0
          by_cases h1 : (s[k].toNat : Int) < 97
          · have HF := Lib.hid (HBAD.out (by rw [HD.out, q0']; simp; omega))
            clear h0 q0'
            go_wp2
            go_ret
            exact ⟨ret_bool HF.out.symm, rfl⟩
          · have hd1 : decide ((s[k].toNat : Int) < 97) = false := by simpa using h1
            by_cases h2 : 122 < (s[k].toNat : Int)
            · have HF := Lib.hid (HBAD.out (by rw [HD.out, q0']; simp; omega))
              clear h0 q0'
              go_wp2
              go_ret
              exact ⟨ret_bool HF.out.symm, rfl⟩
            · have HG : Hid (isDay s[k] = true) := by show _ = _; rw [HD.out, q0']; simp; omega
              clear h0 q0'
              go_wp2
              go_round
              case rel => exact ⟨k + 1, by omega, by go_num, by show _ = _; rw [HN.out, hall.out, HG.out]; rfl⟩
              case measure => simp [intOf]; omega
      · have HF : Hid (patOk s m = false) := by show _ = _; unfold patOk; simp; intros; omega
        have hd : decide ((k : Int) ≤ m) = false := by simpa using hkm
        have h1 : 1 ≤ s.size := by omega
        have hd2 : decide ((s.size : Int) ≤ m) = false := by simp; omega
        clear hall
        go_wp2
        go_ret
        exact ⟨ret_bool HF.out.symm, rfl⟩
    · obtain rfl : k = s.size := by omega
      have HA : Hid (patOk s m = (decide (1 ≤ s.size) && decide ((s.size : Int) ≤ m))) := by show _ = _; have := hall.out; rw [HFULL.out] at this; unfold patOk; rw [this]; simp
      clear hall
      by_cases h1 : 1 ≤ s.size
      · go_wp2
        go_ret
        exact ⟨ret_bool (by rw [HA.out]; simp [h1]), rfl⟩
      · have hd : decide ((1 : Int) ≤ (s.size : Int)) = false := by simp; omega
        go_wp2
        go_ret
        exact ⟨ret_bool (by rw [HA.out]; simp [h1]), rfl⟩

/-! Counts. -/
def countsOk (cs : List Int) : Bool := many cs 1 8 0 16 && win cs.sum 1 64
theorem sum_take (cs : List Int) (k : Nat) (h : k < cs.length) : (cs.take (k + 1)).sum = (cs.take k).sum + nth cs k := by
  rw [List.take_succ_eq_append_getElem h, List.sum_append, nth_eq h]; simp
theorem sum_le (cs : List Int) (h : (cs.all fun n => win n 0 16) = true) : ∀ k, k ≤ cs.length → 0 ≤ (cs.take k).sum ∧ (cs.take k).sum ≤ 16 * k := by
  intro k
  induction k with
  | zero => intro _; simp
  | succ k ih =>
    intro hk
    have h1 := ih (by omega)
    rw [sum_take cs k (by omega), nth_eq (by omega)]
    have := win_true.1 (List.all_eq_true.1 h _ (List.getElem_mem (show k < cs.length by omega)))
    omega

set_option maxHeartbeats 800000 in
theorem sumOf_any (v : Value) (cs : List Int) (w : World) (hv : Ints w v cs) (hw : (cs.all fun n => win n 0 16) = true) (hl : cs.length ≤ 8) :
    Calls Try.prog 141 #[v] w fun e w' => e = .returned (.int .i64 cs.sum) ∧ w = w' := by
  have HS := Lib.hid (sum_le cs hw)
  obtain ⟨hm, a, c, rfl, hcap, hc⟩ := hv
  have HC := Lib.hid hc
  clear hw hc hm
  go_enter Try.func141, Try.ntmps141
  go_wp2
  go_loop [3, 8] (fun s i => ∃ k : Nat, k ≤ cs.length ∧ i = .int .i64 k ∧ s = .int .i64 (cs.take k).sum) (fun _ i => cs.length - (intOf i).toNat)
  case atStart => exact ⟨0, Nat.zero_le _, rfl, by simp⟩
  case round =>
    obtain ⟨k, hk, rfl, rfl⟩ := hrel
    by_cases hlt : k < cs.length
    · obtain ⟨b, o, rfl, hbs, hck⟩ := HC.out k hlt
      have hN := sum_take cs k hlt
      rw [← nth_eq hlt] at hck
      have h1 := HS.out k hk
      have h2 := HS.out (k + 1) hlt
      obtain ⟨S, hS⟩ : ∃ S, (cs.take k).sum = S := ⟨_, rfl⟩
      obtain ⟨p, hp⟩ : ∃ p, nth cs k = p := ⟨_, rfl⟩
      rw [hS, hp] at hN
      rw [hN] at h2
      rw [hS] at h1 ⊢
      rw [hp] at hck
      have HN := Lib.hid hN
      clear hS hp hN
      go_wp2
      go_round
      case rel => exact ⟨k + 1, by omega, by go_num, by rw [HN.out]⟩
      case measure => simp [intOf]; omega
    · obtain rfl : k = cs.length := by omega
      clear hlt
      go_wp2
      go_ret
      exact ⟨ret_int (by simp), rfl⟩
set_option maxHeartbeats 800000 in
theorem l02Sum_any (v : Value) (cs : List Int) (w : World) (hv : Ints w v cs) (hw : (cs.all fun n => win n 0 16) = true) (hl : cs.length ≤ 8) :
    Calls Try.prog 156 #[v] w fun e w' => e = .returned (.int .i64 cs.sum) ∧ w = w' := by
  have HS := Lib.hid (sum_le cs hw)
  obtain ⟨hm, a, c, rfl, hcap, hc⟩ := hv
  have HC := Lib.hid hc
  clear hw hc hm
  go_enter Try.func156, Try.ntmps156
  go_wp2
  go_loop [3, 4] (fun s i => ∃ k : Nat, k ≤ cs.length ∧ i = .int .i64 k ∧ s = .int .i64 (cs.take k).sum) (fun _ i => cs.length - (intOf i).toNat)
  case atStart => exact ⟨0, Nat.zero_le _, rfl, by simp⟩
  case round =>
    obtain ⟨k, hk, rfl, rfl⟩ := hrel
    by_cases hlt : k < cs.length
    · obtain ⟨b, o, rfl, hbs, hck⟩ := HC.out k hlt
      have hN := sum_take cs k hlt
      rw [← nth_eq hlt] at hck
      have h1 := HS.out k hk
      have h2 := HS.out (k + 1) hlt
      obtain ⟨S, hS⟩ : ∃ S, (cs.take k).sum = S := ⟨_, rfl⟩
      obtain ⟨p, hp⟩ : ∃ p, nth cs k = p := ⟨_, rfl⟩
      rw [hS, hp] at hN
      rw [hN] at h2
      rw [hS] at h1 ⊢
      rw [hp] at hck
      have HN := Lib.hid hN
      clear hS hp hN
      go_wp2
      go_round
      case rel => exact ⟨k + 1, by omega, by go_num, by rw [HN.out]⟩
      case measure => simp [intOf]; omega
    · obtain rfl : k = cs.length := by omega
      clear hlt
      go_wp2
      go_ret
      exact ⟨ret_int (by simp), rfl⟩
end Go.Proofs.Ytmakjgbldejcpaa
