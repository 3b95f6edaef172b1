
/- TripsOf, the program: for all arguments. Conditions: at most 2^20 numbers. -/
import Derived.Test.YtmhepomjbaendaaTripsImpl
namespace Go.Proofs.Ytmhepomjbaendaa
open Go.RowKit Go.Shelf Go.BigFrame
set_option linter.unusedVariables false
set_option linter.unusedSimpArgs false
attribute [local go_sem] Oper.semAt_some

set_option maxRecDepth 100000 in
set_option maxHeartbeats 1000000 in
theorem implTrips_no (n : Int) (v u : Value) (xs far : List Int) (w : World) (hv : Ints w v xs) (hu : Ints w u far) (hn : (Lit.int .i64 n).wf = true) (hl : xs.length ≤ 1048576) (hl2 : far.length ≤ 1048576) (hok : tripsOk n xs far = false) :
    Calls Try.prog 19 #[.int .i64 n, v, u] w fun e w' => e = .returned (.tuple #[.slice none 0 0, .bool false]) ∧ Below w.heap.size w w' := by
  have hu' := hu
  have hv' := hv
  obtain ⟨_, a', c', rfl, _, _⟩ := hu'
  obtain ⟨_, a, c, rfl, _, _⟩ := hv'
  obtain ⟨V, hV⟩ : ∃ V, (w.alloc (.cells #[.int .i64 n] 2)).alloc (.cells #[.slice a' far.length c'] 25) = V := ⟨_, rfl⟩
  have hBV : Below w.heap.size w V := by rw [← hV]; exact ((Below.refl _ w).alloc (Nat.le_refl _) _).alloc (by simp) _
  have hr := implRounds_any n _ xs V (hv.below hBV (by omega)) hn hl
  cases hro : roundsOk n xs
  · rw [hro] at hr
    have Hr := Lib.hid hr
    have HV := Lib.hid hV
    have HBV := Lib.hid hBV
    clear hr hv hu hro hok hV hBV
    go_enter Try.func19, Try.ntmps19
    go_wp2_with (go_at_call 18; rw [HV.out]; refine Hr.out.mono ?_; rintro e W1 ⟨rfl, hb1⟩)
    go_ret2
    exact ⟨rfl, HBV.out.trans (hb1.mono HBV.out.size)⟩
  · rw [hro] at hr
    have Hr := Lib.hid hr
    have hnn : ∃ t : Nat, n = t ∧ t ≤ 16 := by
      have h := hro
      unfold roundsOk at h
      rw [Bool.and_eq_true, Bool.and_eq_true] at h
      obtain ⟨t, _, h, _, h2, _⟩ := roundsHead_bounds h.1.1
      exact ⟨t, h, h2⟩
    obtain ⟨t, rfl, ht2⟩ := hnn
    obtain ⟨F, hF⟩ : ∃ F, t * t = F := ⟨_, rfl⟩
    have hF' : (t : Int) * (t : Int) = (F : Int) := by rw [← hF, Int.natCast_mul]
    have hF2 : F ≤ 256 := by rw [← hF]; exact Nat.mul_le_mul ht2 ht2
    have hrest : (decide ((far.length : Int) = (F : Int)) && far.all fun x => win x 0 1000) = false := by
      unfold tripsOk at hok; rw [hro, hF', Bool.true_and] at hok; exact hok
    have hmany : many far F F 0 1000 = false := by
      rw [← Bool.not_eq_true, many_true]
      rintro ⟨h1, h2, h3⟩
      rw [h3, Bool.and_true, decide_eq_false_iff_not] at hrest
      omega
    have HMany : Hid (∀ W, Below w.heap.size w W → Calls Try.prog 66 #[.slice a' far.length c', .int .i64 F, .int .i64 F, .int .i64 0, .int .i64 1000] W fun e w' => e = .returned (.bool false) ∧ W = w') := fun W hW => by
      have := areMany_any _ far F F 0 1000 W (hu.below hW (by omega))
      rwa [hmany] at this
    have hT0 : Boxed V w.heap.size 2 (.int .i64 t) := by rw [← hV]; exact (Boxed.new w _ _).alloc _
    have hF0 : Boxed V (w.heap.size + 1) 25 (.slice a' far.length c') := by
      rw [← hV]; have := Boxed.new (w.alloc (.cells #[.int .i64 t] 2)) 25 (.slice a' far.length c'); rw [World.size_alloc] at this; exact this
    have hVs : V.heap.size = w.heap.size + 2 := by rw [← hV]; simp
    have HT0 := Lib.hid hT0
    have HF0 := Lib.hid hF0
    have HVS := Lib.hid hVs
    have HV := Lib.hid hV
    have HBV := Lib.hid hBV
    clear hr hv hu hro hok hV hBV hF hrest hmany hT0 hF0 hVs
    go_enter Try.func19, Try.ntmps19
    go_wp2_with (first
      | (go_at_call 18; rw [HV.out]; refine Hr.out.mono ?_; rintro e W1 ⟨rfl, hb1⟩; have HB1 := Lib.hid (HBV.out.trans (hb1.mono HBV.out.size)); have hT1c := (show Boxed W1 _ _ _ from (hb1.block _ (by have := HVS.out; omega)).trans HT0.out).cell; have hF1c := (show Boxed W1 _ _ _ from (hb1.block _ (by have := HVS.out; omega)).trans HF0.out).cell; clear hb1)
      | (go_at_call 66; refine (HMany.out _ HB1.out).mono ?_; rintro e w' ⟨rfl, rfl⟩))
    go_ret2
    exact ⟨rfl, HB1.out⟩

theorem implTrips_u (n : Int) (v u : Value) (xs far : List Int) (w : World) (hv : Ints w v xs) (hu : Ints w u far) (hn : (Lit.int .i64 n).wf = true) (hl : xs.length ≤ 1048576) (hl2 : far.length ≤ 1048576) :
    Calls Try.prog 19 #[.int .i64 n, v, u] w fun e w' => (∃ v', e = .returned (.tuple #[v', .bool (tripsOk n xs far)]) ∧ OwnI w' w.heap.size v' (tripsL n xs far)) ∧ Below w.heap.size w w' := by
  cases h : tripsOk n xs far
  · refine (implTrips_no n v u xs far w hv hu hn hl hl2 h).mono ?_
    rintro e w' ⟨rfl, hb⟩
    exact ⟨⟨_, rfl, by rw [tripsL_no h]; exact own_nil _ _⟩, hb⟩
  · have hL := tripsL_yes h
    obtain ⟨t, R, rfl, ht, ht2, hev, hlen, hle, hro, hfl, hw, hf⟩ := trips_rounds h
    rw [hL, Int.toNat_natCast]
    exact implTrips_yes t R v u xs far w hv hu ht ht2 hev hlen hle hro hfl hw hf
end Go.Proofs.Ytmhepomjbaendaa
