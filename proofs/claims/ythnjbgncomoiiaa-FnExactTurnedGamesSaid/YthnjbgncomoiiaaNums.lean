/- Contracts of the small functions on integers: ranges, zones, local times. Conditions: none beyond those named. -/
import Derived.Test.YthnjbgncomoiiaaBase
namespace Go.Proofs.Ythnjbgncomoiiaa
open Go.RowKit
set_option linter.unusedVariables false
set_option linter.unusedSimpArgs false

theorem within_any (n lo hi : Int) (w : World) : Calls Try.prog 45 #[.int .i64 n, .int .i64 lo, .int .i64 hi] w fun e w' => e = .returned (.bool (win n lo hi)) ∧ w = w' := by
  go_enter Try.func45, Try.ntmps45
  go_wp2
  all_goals
    go_ret
    refine ⟨?_, rfl⟩
    unfold win
    simp [*]
    try omega

theorem l00In_any (n lo hi : Int) (w : World) : Calls Try.prog 43 #[.int .i64 n, .int .i64 lo, .int .i64 hi] w fun e w' => e = .returned (.bool (win n lo hi)) ∧ w = w' := by
  go_enter Try.func43, Try.ntmps43
  go_wp2
  all_goals
    go_ret
    refine ⟨?_, rfl⟩
    unfold win
    simp [*]
    try omega

theorem floorMod_any (a b : Int) (w : World) (h1 : 0 < b) (h2 : b ≤ 1000000000) : Calls Try.prog 47 #[.int .i64 a, .int .i64 b] w fun e w' => e = .returned (.int .i64 (a % b)) ∧ w = w' := by
  have ht := tmod_bounds a h1
  obtain ⟨ht1, ht2⟩ := ht
  have hb : ¬ b = 0 := by omega
  have hx : (a.tmod b + b) % b = a % b := by
    rw [Int.tmod_def]
    rcases Int.le_total 0 a with h | h
    · rw [show a - b * a.tdiv b + b = a + b * (1 - a.tdiv b) by rw [Int.mul_sub]; omega, Int.add_mul_emod_self_left]
    · rw [show a - b * a.tdiv b + b = a + b * (1 - a.tdiv b) by rw [Int.mul_sub]; omega, Int.add_mul_emod_self_left]
  have hx' := Lib.hid hx
  clear hx
  go_enter Try.func47, Try.ntmps47
  go_wp2
  go_ret
  refine ⟨ret_int ?_, rfl⟩
  exact hx'.out

theorem isZone_any (n : Int) (w : World) : Calls Try.prog 46 #[.int .i64 n] w fun e w' => e = .returned (.bool (win n (-720) 840)) ∧ w = w' := by
  go_enter Try.func46, Try.ntmps46
  go_wp2_with (go_at_call 45; refine (within_any _ _ _ _).mono ?_; rintro e w' ⟨rfl, rfl⟩)
  go_ret
  exact ⟨rfl, rfl⟩

theorem localTime_no (m z : Int) (w : World) (h : (win m (-1000000) 1000000 && win z (-720) 840) = false) : Calls Try.prog 16 #[.int .i64 m, .int .i64 z] w fun e w' => e = .returned (.tuple #[.int .i64 0, .int .i64 0, .bool false]) ∧ w = w' := by
  cases h1 : win m (-1000000) 1000000
  all_goals cases h2 : win z (-720) 840
  all_goals simp [h1, h2] at h
  all_goals
    go_enter Try.func16, Try.ntmps16
    go_wp2_with (first | (go_at_call 45; refine (within_any _ _ _ _).mono ?_; rintro e w' ⟨rfl, rfl⟩) | (go_at_call 46; refine (isZone_any _ _).mono ?_; rintro e w' ⟨rfl, rfl⟩))
    go_ret3
    exact ⟨rfl, rfl⟩

theorem localTime_yes (m z : Int) (w : World) (h1 : -1000000 ≤ m) (h2 : m ≤ 1000000) (h3 : -720 ≤ z) (h4 : z ≤ 840) : Calls Try.prog 16 #[.int .i64 m, .int .i64 z] w fun e w' =>
    e = .returned (.tuple #[.int .i64 ((m + z) / 1440), .int .i64 ((m + z) % 1440), .bool true]) ∧ w = w' := by
  have e1 : win m (-1000000) 1000000 = true := by simp [win, *]
  have e2 : win z (-720) 840 = true := by simp [win, *]
  have hfin : (m + z - (m + z) % 1440).tdiv 1440 = (m + z) / 1440 := by
    have hd := Int.emod_add_mul_ediv (m + z) 1440
    rw [show m + z - (m + z) % 1440 = 1440 * ((m + z) / 1440) by omega, Int.mul_tdiv_cancel_left _ (by omega)]
  have hfin' := Lib.hid hfin
  clear hfin
  have hb : -1441 ≤ (m + z - (m + z) % 1440).tdiv 1440 ∧ (m + z - (m + z) % 1440).tdiv 1440 ≤ 1441 := by rw [hfin'.out]; omega
  obtain ⟨hb1, hb2⟩ := hb
  go_enter Try.func16, Try.ntmps16
  go_wp2_with (first | (go_at_call 45; refine (within_any _ _ _ _).mono ?_; rintro e w' ⟨rfl, rfl⟩) | (go_at_call 46; refine (isZone_any _ _).mono ?_; rintro e w' ⟨rfl, rfl⟩) | (go_at_call 47; refine (floorMod_any _ _ _ (by omega) (by omega)).mono ?_; rintro e w' ⟨rfl, rfl⟩))
  go_ret3
  exact ⟨ret_t3 (val_int hfin'.out) rfl rfl, rfl⟩

theorem l07Zone_any (n : Int) (w : World) : Calls Try.prog 44 #[.int .i64 n] w fun e w' => e = .returned (.bool (win n (-720) 840)) ∧ w = w' := by
  go_enter Try.func44, Try.ntmps44
  go_wp2_with (go_at_call 43; refine (l00In_any _ _ _ _).mono ?_; rintro e w' ⟨rfl, rfl⟩)
  go_ret
  exact ⟨rfl, rfl⟩

theorem specLocalTime_no (m z : Int) (w : World) (h : (win m (-1000000) 1000000 && win z (-720) 840) = false) : Calls Try.prog 15 #[.int .i64 m, .int .i64 z] w fun e w' => e = .returned (.tuple #[.int .i64 0, .int .i64 0, .bool false]) ∧ w = w' := by
  cases h1 : win m (-1000000) 1000000
  all_goals cases h2 : win z (-720) 840
  all_goals simp [h1, h2] at h
  all_goals
    go_enter Try.func15, Try.ntmps15
    go_wp2_with (first | (go_at_call 43; refine (l00In_any _ _ _ _).mono ?_; rintro e w' ⟨rfl, rfl⟩) | (go_at_call 44; refine (l07Zone_any _ _).mono ?_; rintro e w' ⟨rfl, rfl⟩))
    go_ret3
    exact ⟨rfl, rfl⟩

theorem specLocalTime_yes (m z : Int) (w : World) (h1 : -1000000 ≤ m) (h2 : m ≤ 1000000) (h3 : -720 ≤ z) (h4 : z ≤ 840) : Calls Try.prog 15 #[.int .i64 m, .int .i64 z] w fun e w' =>
    e = .returned (.tuple #[.int .i64 ((m + z) / 1440), .int .i64 ((m + z) % 1440), .bool true]) ∧ w = w' := by
  have e1 : win m (-1000000) 1000000 = true := by simp [win, *]
  have e2 : win z (-720) 840 = true := by simp [win, *]
  have ht := tmod_bounds (m + z) (show (0 : Int) < 1440 by omega)
  obtain ⟨ht1, ht2⟩ := ht
  have hx : ((m + z).tmod 1440 + 1440) % 1440 = (m + z) % 1440 := by
    rw [Int.tmod_def]; omega
  have hfin : (m + z - ((m + z).tmod 1440 + 1440) % 1440).tdiv 1440 = (m + z) / 1440 := by
    rw [hx]
    have hd := Int.emod_add_mul_ediv (m + z) 1440
    rw [show m + z - (m + z) % 1440 = 1440 * ((m + z) / 1440) by omega, Int.mul_tdiv_cancel_left _ (by omega)]
  have hfin' := Lib.hid hfin
  have hx' := Lib.hid hx
  clear hfin hx
  have hb : -1441 ≤ (m + z - ((m + z).tmod 1440 + 1440) % 1440).tdiv 1440 ∧ (m + z - ((m + z).tmod 1440 + 1440) % 1440).tdiv 1440 ≤ 1441 := by rw [hfin'.out]; omega
  obtain ⟨hb1, hb2⟩ := hb
  go_enter Try.func15, Try.ntmps15
  go_wp2_with (first | (go_at_call 43; refine (l00In_any _ _ _ _).mono ?_; rintro e w' ⟨rfl, rfl⟩) | (go_at_call 44; refine (l07Zone_any _ _).mono ?_; rintro e w' ⟨rfl, rfl⟩))
  go_ret3
  refine ⟨ret_t3 (val_int ?_) (val_int hx'.out) rfl, rfl⟩
  rw [← hfin'.out, Int.add_emod_right]

end Go.Proofs.Ythnjbgncomoiiaa
