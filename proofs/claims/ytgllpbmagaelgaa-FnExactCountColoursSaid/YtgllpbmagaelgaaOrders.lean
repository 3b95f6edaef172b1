
/- Orders: IsOrder and l02Orders. Conditions: at most 2^20 numbers. -/
import Derived.Test.YtgllpbmagaelgaaIsAll
import Derived.Test.YtgllpbmagaelgaaRound
namespace Go.Proofs.Ytgllpbmagaelgaa
open Go.RowKit Go.BigFrame
set_option linter.unusedVariables false
set_option linter.unusedSimpArgs false
attribute [local go_sem] Oper.semAt_some

theorem l02Has_any (v : Value) (xs : List Int) (x : Int) (w : World) (hv : Ints w v xs) :
    Calls Try.prog 145 #[v, .int .i64 x] w fun e w' => e = .returned (.bool (xs.any (· == x))) ∧ w = w' := by
  obtain ⟨hm, a, c, rfl, hcap, hc⟩ := hv
  unfold maxLen at hm
  go_enter Try.func145, Try.ntmps145
  go_wp2
  go_loopw [5] (fun i wr => ∃ k : Nat, k ≤ xs.length ∧ i = .int .i64 k ∧ w = wr ∧ ∀ i, i < k → nth xs i ≠ x) (fun i _ => xs.length - (intOf i).toNat)
  case atStart => exact ⟨0, Nat.zero_le _, rfl, rfl, fun i hi => by omega⟩
  case round =>
    obtain ⟨k, hk, rfl, rfl, hr⟩ := hrel
    have Hr := Lib.hid hr
    clear hr
    by_cases hlt : k < xs.length
    · obtain ⟨b, o, rfl, hbs, hc1⟩ := hc k hlt
      rw [← nth_eq hlt] at hc1
      obtain ⟨p, hp⟩ : ∃ p, nth xs k = p := ⟨_, rfl⟩
      rw [hp] at hc1
      have Hp := Lib.hid hp
      have hk0 : (0 : Int) ≤ (k : Int) := by omega
      have hk1 : (k : Int) < (xs.length : Int) := by omega
      clear hc hp
      cases hq : (p == x)
      · go_wp2
        go_roundw
        case rel =>
          refine ⟨k + 1, by omega, by go_num, trivial, fun i hi => ?_⟩
          rcases Nat.lt_succ_iff_lt_or_eq.1 hi with h | rfl
          · exact Hr.out i h
          · rw [Hp.out]; simpa using hq
        case measure => simp [intOf]; omega
      · go_wp2
        go_ret
        refine ⟨ret_bool ?_, rfl⟩
        symm
        rw [List.any_eq_true]
        exact ⟨xs[k], List.getElem_mem _, by rw [← nth_eq hlt, Hp.out]; exact hq⟩
    · go_wp2
      go_ret
      refine ⟨ret_bool ?_, rfl⟩
      symm
      rw [List.any_eq_false]
      intro y hy
      obtain ⟨i, hi, rfl⟩ := List.getElem_of_mem hy
      have := Hr.out i (by omega)
      rw [nth_eq hi] at this
      simpa using this


/-- A list that has all numbers from 0 to n - 1, each once. -/
def orders (n : Int) (xs : List Int) : Bool := decide ((xs.length : Int) = n) && isAllB xs
/-- The first k numbers are different ones from 0 to n - 1. -/
def ordPre (n : Int) (xs : List Int) (k : Nat) : Prop := ∀ i, i < k → win (nth xs i) 0 (n - 1) = true ∧ (xs.take i).any (· == nth xs i) = false
theorem orders_yes {n : Int} {xs : List Int} (hl : (xs.length : Int) = n) (h : ordPre n xs xs.length) : orders n xs = true := by
  unfold orders isAllB
  rw [hl, decide_eq_true rfl, Bool.true_and, List.all_eq_true]
  intro i hi
  obtain ⟨h1, h2⟩ := h i (List.mem_range.1 hi)
  rw [h1, h2]; rfl
theorem orders_no {n : Int} {xs : List Int} {k : Nat} (hk : k < xs.length) (h : win (nth xs k) 0 (n - 1) = false ∨ (xs.take k).any (· == nth xs k) = true) : orders n xs = false := by
  unfold orders isAllB
  by_cases hl : (xs.length : Int) = n
  · rw [hl, decide_eq_true rfl, Bool.true_and, List.all_eq_false]
    refine ⟨k, List.mem_range.2 hk, ?_⟩
    rcases h with h | h <;> rw [h] <;> simp
  · rw [decide_eq_false hl, Bool.false_and]
theorem orders_pre {n : Int} {xs : List Int} (h : orders n xs = true) : (xs.length : Int) = n ∧ ordPre n xs xs.length := by
  unfold orders isAllB at h
  rw [Bool.and_eq_true, decide_eq_true_eq, List.all_eq_true] at h
  refine ⟨h.1, fun i hi => ?_⟩
  have := h.2 i (List.mem_range.2 hi)
  rw [h.1, Bool.and_eq_true] at this
  exact ⟨this.1, by simpa using this.2⟩

set_option maxHeartbeats 1000000 in
theorem l02Orders_any (n : Int) (v : Value) (xs : List Int) (w : World) (hv : Ints w v xs) (hn : -1000000 ≤ n ∧ n ≤ 1000000) (hl : xs.length ≤ 1048576) :
    Calls Try.prog 116 #[v, .int .i64 n] w fun e w' => e = .returned (.bool (orders n xs)) ∧ Below w.heap.size w w' := by
  obtain ⟨hm, a, c, rfl, hcap, hc⟩ := hv
  obtain ⟨hn1, hn2⟩ := hn
  have HC := Lib.hid hc
  clear hc hm
  go_enter Try.func116, Try.ntmps116
  go_wp2
  go_loopw [5] (fun i wr => ∃ k : Nat, k ≤ xs.length ∧ i = .int .i64 k ∧ Below w.heap.size w wr ∧ Hid (ordPre n xs k)) (fun i _ => xs.length - (intOf i).toNat)
  case atStart => exact ⟨0, Nat.zero_le _, rfl, Below.refl _ _, fun i hi => by omega⟩
  case round =>
    obtain ⟨k, hk, rfl, hB, hpre⟩ := hrel
    by_cases hlt : k < xs.length
    · obtain ⟨b, o, rfl, hbs, hc1⟩ := HC.out k hlt
      rw [← nth_eq hlt] at hc1
      have hck : wr.cell? ⟨b, o + k, none⟩ = some (.int .i64 (nth xs k)) := (hB.cell (p := ⟨b, o + k, none⟩) hbs).trans hc1
      have HNO : Hid (win (nth xs k) 0 (n - 1) = false ∨ (xs.take k).any (· == nth xs k) = true → orders n xs = false) := fun h => orders_no hlt h
      have HNX : Hid (win (nth xs k) 0 (n - 1) = true → (xs.take k).any (· == nth xs k) = false → ordPre n xs (k + 1)) := fun h1 h2 i hi => by
        rcases Nat.lt_succ_iff_lt_or_eq.1 hi with h | rfl
        · exact hpre.out i h
        · exact ⟨h1, h2⟩
      obtain ⟨p, hp⟩ : ∃ p, nth xs k = p := ⟨_, rfl⟩
      rw [hp] at hck HNO HNX
      have hk0 : (0 : Int) ≤ (k : Int) := by omega
      have hk1 : (k : Int) < (xs.length : Int) := by omega
      have hkc : (k : Int) ≤ (c : Int) := by omega
      have HCC : Hid (∀ nq, Ints (wr.drewN nq) (.slice (some ⟨b, o, none⟩) k c) (xs.take k)) := fun nq => by
        have hlk : (xs.take k).length = k := by simp; omega
        refine ⟨by unfold maxLen; omega, some ⟨b, o, none⟩, c, by rw [hlk], by omega, fun i hi => ⟨b, o, rfl, ?_, ?_⟩⟩
        · have := hB.size; exact Nat.lt_of_lt_of_le hbs this
        · obtain ⟨b', o', hbo, hbs', hc2⟩ := HC.out i (by omega)
          obtain ⟨rfl, rfl⟩ : b = b' ∧ o = o' := by simpa using hbo
          have := (hB.cell (p := ⟨b, o + i, none⟩) hbs').trans hc2
          simpa using this
      clear hc1 hp
      cases hw : win p 0 (n - 1)
      · go_wp2
        go_quiet ((first | (go_at_call 65; exact quiet_eq (l00In_any _ _ _ _)) | fail))
        go_wp2
        go_ret
        exact ⟨ret_bool (HNO.out (.inl hw)).symm, below_drewN _ hB⟩
      · cases hhas : (xs.take k).any (· == p)
        · have hcall := fun nq => l02Has_any _ _ p _ (HCC.out nq)
          rw [hhas] at hcall
          go_wp2
          go_quiet ((first | (go_at_call 65; exact quiet_eq (l00In_any _ _ _ _)) | (go_at_call 145; exact quiet_eq (hcall _))))
          go_wp2
          go_roundw
          case rel => exact ⟨k + 1, by omega, by go_num, below_drewN _ hB, HNX.out hw hhas⟩
          case measure => simp [intOf]; omega
        · have hcall := fun nq => l02Has_any _ _ p _ (HCC.out nq)
          rw [hhas] at hcall
          go_wp2
          go_quiet ((first | (go_at_call 65; exact quiet_eq (l00In_any _ _ _ _)) | (go_at_call 145; exact quiet_eq (hcall _))))
          go_wp2
          go_ret
          exact ⟨ret_bool (HNO.out (.inr hhas)).symm, below_drewN _ hB⟩
    · have hke : k = xs.length := by omega
      have HKE := Lib.hid hke
      clear hke
      by_cases hne : (xs.length : Int) = n
      · have HE := Lib.hid hne
        have hd : ((xs.length : Int) == n) = true := by simpa using hne
        clear hne
        go_wp2
        go_ret
        exact ⟨ret_bool (by have := orders_yes HE.out (by rw [← HKE.out]; exact hpre.out); rw [this]), hB⟩
      · have HE := Lib.hid hne
        have hd : ((xs.length : Int) == n) = false := by simpa using hne
        clear hne
        go_wp2
        go_ret
        exact ⟨ret_bool (by unfold orders; rw [decide_eq_false HE.out, Bool.false_and]), hB⟩

theorem isOrder_any (n : Int) (v : Value) (xs : List Int) (w : World) (hv : Ints w v xs) (hl : xs.length ≤ 1048576) :
    Calls Try.prog 117 #[v, .int .i64 n] w fun e w' => e = .returned (.bool (win n 1 24 && orders n xs)) ∧ Below w.heap.size w w' := by
  have hall := isAll_any v xs w hv hl
  have HALL := Lib.hid hall
  obtain ⟨_, a, c, rfl, _, _⟩ := hv
  clear hall
  cases hw : win n 1 24
  · go_enter Try.func117, Try.ntmps117
    go_wp2_with (first | (go_at_call 68; refine (within_any _ _ _ _).mono ?_; rintro e w' ⟨rfl, rfl⟩))
    go_ret
    exact ⟨rfl, Below.refl _ _⟩
  · by_cases hne : (xs.length : Int) = n
    · have HE := Lib.hid hne
      have hd : ((xs.length : Int) != n) = false := by simpa using hne
      clear hne
      go_enter Try.func117, Try.ntmps117
      go_wp2_with (first | (go_at_call 68; refine (within_any _ _ _ _).mono ?_; rintro e w' ⟨rfl, rfl⟩) | (go_at_call 124; refine HALL.out.mono ?_; rintro e w' ⟨rfl, hb⟩))
      go_ret
      exact ⟨ret_bool (by unfold orders; rw [HE.out]; simp), hb⟩
    · have HE := Lib.hid hne
      have hd : ((xs.length : Int) != n) = true := by simpa using hne
      clear hne
      go_enter Try.func117, Try.ntmps117
      go_wp2_with (first | (go_at_call 68; refine (within_any _ _ _ _).mono ?_; rintro e w' ⟨rfl, rfl⟩))
      go_ret
      exact ⟨ret_bool (by unfold orders; rw [decide_eq_false HE.out]; rfl), Below.refl _ _⟩
end Go.Proofs.Ytgllpbmagaelgaa
