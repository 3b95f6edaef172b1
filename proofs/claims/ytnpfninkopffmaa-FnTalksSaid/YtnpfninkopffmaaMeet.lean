
/- Whether two talks meet: meet, talk, l07Meet. Conditions: the numbers of the talks are in range. -/
import Derived.Test.YtnpfninkopffmaaTalks
import Derived.BigFrame
namespace Go.Proofs.Ytnpfninkopffmaa
open Go.RowKit Go.BigFrame
set_option linter.unusedVariables false
set_option linter.unusedSimpArgs false
attribute [local go_sem] Oper.semAt_some

def meetB (xs : List Int) (i k : Nat) : Bool := decide (nth xs (2 * i) < nth xs (2 * k + 1)) && decide (nth xs (2 * k) < nth xs (2 * i + 1))
theorem meetB_comm (xs : List Int) (i k : Nat) : meetB xs i k = meetB xs k i := by unfold meetB; rw [Bool.and_comm]

theorem talk_any (v : Value) (xs : List Int) (i : Nat) (w : World) (hv : Ints w v xs) (hi : 2 * i + 1 < xs.length) (hl : xs.length ≤ 64) (p : Int) (hp : Hid (p = i)) :
    Calls Try.prog 109 #[v, .int .i64 p] w fun e w' => e = .returned (.tuple #[.int .i64 (nth xs (2 * i)), .int .i64 (nth xs (2 * i + 1))]) ∧ ∃ q, w' = w.drewN q := by
  obtain rfl := hp.out
  obtain ⟨hm, a, c, rfl, hcap, hc⟩ := hv
  obtain ⟨b, o, ha0, hbs, hcs⟩ := row_at hc
  obtain rfl := ha0 (by omega)
  have e0 := hcs (2 * i) (by omega)
  have e1 := hcs (2 * i + 1) hi
  rw [← nth_eq] at e0 e1
  obtain ⟨I, hI⟩ : ∃ I, 2 * i = I := ⟨_, rfl⟩
  rw [hI] at e0 e1 hi ⊢
  have hIi : 2 * (i : Int) = (I : Int) := by omega
  have w0 : IntKind.i64.wrap (2 * (i : Int)) = (I : Int) := by rw [hIi]; exact IntWalk.i64_in _ (by omega)
  have w1 : IntKind.i64.wrap ((I : Int) + 1) = (I : Int) + 1 := IntWalk.i64_in _ (by omega)
  have i0 : (0 : Int) ≤ (I : Int) := by omega
  have i1 : (I : Int) < (xs.length : Int) := by omega
  have i2 : (0 : Int) ≤ (I : Int) + 1 := by omega
  have i3 : (I : Int) + 1 < (xs.length : Int) := by omega
  have n1 : ((I : Int) + 1).toNat = I + 1 := by omega
  clear hp hc hcs ha0 hI
  go_enter Try.func109, Try.ntmps109
  go_wp2
  go_quiet (fail)
  go_wp2
  go_ret2
  exact ⟨rfl, _, rfl⟩

theorem meet_any (v : Value) (xs : List Int) (i k : Nat) (w : World) (hv : Ints w v xs) (hi : 2 * i + 1 < xs.length) (hk : 2 * k + 1 < xs.length) (hl : xs.length ≤ 64) (p q : Int) (hp : Hid (p = i)) (hq : Hid (q = k)) :
    Calls Try.prog 64 #[v, .int .i64 p, .int .i64 q] w fun e w' => e = .returned (.bool (meetB xs i k)) ∧ ∃ q, w' = w.drewN q := by
  have H1 := Lib.hid (talk_any v xs i w hv hi hl p hp)
  have H2 : Hid (∀ m, Calls Try.prog 109 #[v, .int .i64 q] (w.drewN m) _) := fun m => talk_any v xs k (w.drewN m) (hv.below (below_drewN m (Below.refl w.heap.size w)) (Nat.le_refl _)) hk hl q hq
  have HM : Hid (meetB xs i k = (decide (nth xs (2 * i) < nth xs (2 * k + 1)) && decide (nth xs (2 * k) < nth xs (2 * i + 1)))) := rfl
  obtain ⟨A, hA⟩ : ∃ A, nth xs (2 * i) = A := ⟨_, rfl⟩
  obtain ⟨B, hB⟩ : ∃ B, nth xs (2 * i + 1) = B := ⟨_, rfl⟩
  obtain ⟨C, hC⟩ : ∃ C, nth xs (2 * k) = C := ⟨_, rfl⟩
  obtain ⟨D, hD⟩ : ∃ D, nth xs (2 * k + 1) = D := ⟨_, rfl⟩
  rw [hA, hB] at H1
  simp only [hC, hD] at H2
  rw [hA, hB, hC, hD] at HM
  clear hA hB hC hD hp hq
  by_cases hlt : A < D
  · have h1 : decide (A < D) = true := by simpa using hlt
    go_enter Try.func64, Try.ntmps64
    go_wp2_with fail
    refine H1.out.mono ?_
    rintro e w1 ⟨rfl, m, rfl⟩
    go_wp2_with fail
    refine (H2.out m).mono ?_
    rintro e w2 ⟨rfl, m2, rfl⟩
    go_wp2
    go_ret
    exact ⟨ret_bool (by rw [HM.out]; simp [h1]), _, rfl⟩
  · have h1 : decide (A < D) = false := by simpa using hlt
    go_enter Try.func64, Try.ntmps64
    go_wp2_with fail
    refine H1.out.mono ?_
    rintro e w1 ⟨rfl, m, rfl⟩
    go_wp2_with fail
    refine (H2.out m).mono ?_
    rintro e w2 ⟨rfl, m2, rfl⟩
    go_wp2
    go_ret
    exact ⟨ret_bool (by rw [HM.out]; simp [h1]), _, rfl⟩

theorem l07Meet_any (v : Value) (xs : List Int) (i k : Nat) (w : World) (hv : Ints w v xs) (hi : 2 * i + 1 < xs.length) (hk : 2 * k + 1 < xs.length) (hl : xs.length ≤ 64) (p q : Int) (hp : Hid (p = i)) (hq : Hid (q = k)) :
    Calls Try.prog 59 #[v, .int .i64 p, .int .i64 q] w fun e w' => e = .returned (.bool (meetB xs i k)) ∧ ∃ q, w' = w.drewN q := by
  obtain rfl := hp.out
  obtain rfl := hq.out
  have HM : Hid (meetB xs i k = (decide (nth xs (2 * i) < nth xs (2 * k + 1)) && decide (nth xs (2 * k) < nth xs (2 * i + 1)))) := rfl
  obtain ⟨hm, a, c, rfl, hcap, hc⟩ := hv
  obtain ⟨b, o, ha0, hbs, hcs⟩ := row_at hc
  obtain rfl := ha0 (by omega)
  have e0 := hcs (2 * i) (by omega)
  have e1 := hcs (2 * i + 1) hi
  have f0 := hcs (2 * k) (by omega)
  have f1 := hcs (2 * k + 1) hk
  rw [← nth_eq] at e0 e1 f0 f1
  obtain ⟨I, hI⟩ : ∃ I, 2 * i = I := ⟨_, rfl⟩
  obtain ⟨K, hK⟩ : ∃ K, 2 * k = K := ⟨_, rfl⟩
  rw [hI] at e0 e1 hi HM
  rw [hK] at f0 f1 hk HM
  obtain ⟨A, hA⟩ : ∃ A, nth xs I = A := ⟨_, rfl⟩
  obtain ⟨B, hB⟩ : ∃ B, nth xs (I + 1) = B := ⟨_, rfl⟩
  obtain ⟨C, hC⟩ : ∃ C, nth xs K = C := ⟨_, rfl⟩
  obtain ⟨D, hD⟩ : ∃ D, nth xs (K + 1) = D := ⟨_, rfl⟩
  rw [hA] at e0
  rw [hB] at e1
  rw [hC] at f0
  rw [hD] at f1
  rw [hA, hB, hC, hD] at HM
  have hIi : 2 * (i : Int) = (I : Int) := by omega
  have hKi : 2 * (k : Int) = (K : Int) := by omega
  have w0 : IntKind.i64.wrap (2 * (i : Int)) = (I : Int) := by rw [hIi]; exact IntWalk.i64_in _ (by omega)
  have w1 : IntKind.i64.wrap ((I : Int) + 1) = (I : Int) + 1 := IntWalk.i64_in _ (by omega)
  have w2 : IntKind.i64.wrap (2 * (k : Int)) = (K : Int) := by rw [hKi]; exact IntWalk.i64_in _ (by omega)
  have w3 : IntKind.i64.wrap ((K : Int) + 1) = (K : Int) + 1 := IntWalk.i64_in _ (by omega)
  have i0 : (0 : Int) ≤ (I : Int) := by omega
  have i1 : (I : Int) < (xs.length : Int) := by omega
  have i2 : (0 : Int) ≤ (I : Int) + 1 := by omega
  have i3 : (I : Int) + 1 < (xs.length : Int) := by omega
  have n1 : ((I : Int) + 1).toNat = I + 1 := by omega
  have j0 : (0 : Int) ≤ (K : Int) := by omega
  have j1 : (K : Int) < (xs.length : Int) := by omega
  have j2 : (0 : Int) ≤ (K : Int) + 1 := by omega
  have j3 : (K : Int) + 1 < (xs.length : Int) := by omega
  have n2 : ((K : Int) + 1).toNat = K + 1 := by omega
  clear hp hq hc hcs ha0 hI hK hA hB hC hD
  by_cases hlt : A < D
  · have h1 : decide (A < D) = true := by simpa using hlt
    go_enter Try.func59, Try.ntmps59
    go_wp2
    go_quiet (fail)
    go_wp2
    go_ret
    exact ⟨ret_bool (by rw [HM.out]; simp [h1]), _, rfl⟩
  · have h1 : decide (A < D) = false := by simpa using hlt
    go_enter Try.func59, Try.ntmps59
    go_wp2
    go_quiet (fail)
    go_wp2
    go_ret
    exact ⟨ret_bool (by rw [HM.out]; simp [h1]), _, rfl⟩
end Go.Proofs.Ytnpfninkopffmaa
