
/- TripsOf, the reference: for all arguments. Conditions: at most 2^20 numbers. -/
import Derived.Test.YtmhepomjbaendaaTripsSpec
import Derived.Test.YtmhepomjbaendaaCircle
namespace Go.Proofs.Ytmhepomjbaendaa
open Go.RowKit Go.Shelf Go.BigFrame
set_option linter.unusedVariables false
set_option linter.unusedSimpArgs false
attribute [local go_sem] Oper.semAt_some

set_option maxRecDepth 100000 in
set_option maxHeartbeats 1000000 in
theorem specTrips_no (n : Int) (v u : Value) (xs far : List Int) (w : World) (hv : Ints w v xs) (hu : Ints w u far) (hn : (Lit.int .i64 n).wf = true) (hl : xs.length ≤ 1048576) (hl2 : far.length ≤ 1048576) (hok : tripsOk n xs far = false) :
    Calls Try.prog 20 #[.int .i64 n, v, u] w fun e w' => e = .returned (.tuple #[.slice none 0 0, .bool false]) ∧ Below w.heap.size w w' := by
  have hr := l07Rounds_any n v xs w hv hn hl
  cases hro : roundsOk n xs
  · rw [hro] at hr
    have Hr := Lib.hid hr
    clear hr hv hu hro hok
    go_enter Try.func20, Try.ntmps20
    go_wp2_with (go_at_call 63; refine Hr.out.mono ?_; rintro e W1 ⟨rfl, hb1⟩)
    go_ret2
    exact ⟨rfl, hb1⟩
  · rw [hro] at hr
    have Hr := Lib.hid hr
    have hnn : ∃ t : Nat, n = t ∧ t ≤ 16 := by
      have h := hro
      unfold roundsOk at h
      rw [Bool.and_eq_true, Bool.and_eq_true] at h
      obtain ⟨t, _, h, _, h2, _⟩ := roundsHead_bounds h.1.1
      exact ⟨t, h, h2⟩
    obtain ⟨t, rfl, ht2⟩ := hnn
    obtain ⟨F, hF⟩ : ∃ F, t * t = F := ⟨_, rfl⟩
    have hF' : (t : Int) * (t : Int) = (F : Int) := by rw [← hF, Int.natCast_mul]
    have hF2 : F ≤ 256 := by rw [← hF]; exact Nat.mul_le_mul ht2 ht2
    have hrest : (decide ((far.length : Int) = (F : Int)) && far.all fun x => win x 0 1000) = false := by
      unfold tripsOk at hok; rw [hro, hF', Bool.true_and] at hok; exact hok
    obtain ⟨hm, a, c, rfl, hcap, hc⟩ := hv
    obtain ⟨hm', a', c', rfl, hcap', hc'⟩ := hu
    by_cases hfl : far.length = F
    · have hne : ((far.length : Int) != (F : Int)) = false := by simp; omega
      have hall : (far.all fun x => win x 0 1000) = false := by simpa [hfl] using hrest
      have HALL := Lib.hid hall
      obtain ⟨b', o', ha0', hbs', hcs'⟩ := row_at hc'
      have HFS : Hid (∀ W, Below w.heap.size w W → ∀ i, i < far.length → a' = some ⟨b', o', none⟩ ∧ W.cell? ⟨b', o' + i, none⟩ = some (.int .i64 (nth far i))) := fun W hW i hi => by
        exact ⟨ha0' (by omega), by rw [hW.cell (p := ⟨b', o' + i, none⟩) (hbs' (by omega)), hcs' i hi, nth_eq hi]⟩
      have HFL := Lib.hid hfl
      clear hr hro hok hrest hc hc' ha0' hbs' hcs' hall hm hm' hF hfl
      go_enter Try.func20, Try.ntmps20
      go_wp2_with (go_at_call 63; refine Hr.out.mono ?_; rintro e W1 ⟨rfl, hb1⟩)
      have HB1 := Lib.hid hb1
      clear hb1
      go_loopw [8, 30] (fun _ i wr => ∃ k : Nat, k ≤ far.length ∧ i = .int .i64 k ∧ W1 = wr ∧ ∀ j, j < k → win (nth far j) 0 1000 = true) (fun _ i _ => far.length - (intOf i).toNat)
      case atStart => exact ⟨0, Nat.zero_le _, rfl, rfl, fun j hj => by omega⟩
      case round =>
        obtain ⟨k, hk, rfl, rfl, hall⟩ := hrel
        have HALLK := Lib.hid hall
        clear hall
        by_cases hlt : k < far.length
        · obtain ⟨rfl, e0⟩ := HFS.out _ HB1.out k hlt
          have hf256 : far.length ≤ 256 := by have := HFL.out; omega
          obtain ⟨x, hx⟩ : ∃ x, nth far k = x := ⟨_, rfl⟩
          rw [hx] at e0
          have HX := Lib.hid hx
          clear hx
          cases hwx : win x 0 1000
          · go_wp2_with (go_at_call 68; refine (l00In_any _ _ _ _).mono ?_; rintro e w' ⟨rfl, rfl⟩)
            go_ret2
            exact ⟨rfl, HB1.out⟩
          · have HWX := Lib.hid hwx
            go_wp2_with (go_at_call 68; refine (l00In_any _ _ _ _).mono ?_; rintro e w' ⟨rfl, rfl⟩)
            go_roundw
            case rel =>
              refine ⟨k + 1, by omega, by go_num, trivial, fun j hj => ?_⟩
              rcases Nat.lt_succ_iff_lt_or_eq.1 hj with h | rfl
              · exact HALLK.out j h
              · rw [HX.out]; exact HWX.out
            case measure => simp [intOf]; omega
        · exfalso
          have h1 := HALL.out
          rw [← Bool.not_eq_true, List.all_eq_true] at h1
          apply h1
          intro y hy
          obtain ⟨i, hi, rfl⟩ := List.getElem_of_mem hy
          have := HALLK.out i (by omega)
          rwa [nth_eq hi] at this
    · have hne : ((far.length : Int) != (F : Int)) = true := by simp; omega
      clear hr hro hok hrest hc hc' hF hfl
      go_enter Try.func20, Try.ntmps20
      go_wp2_with (go_at_call 63; refine Hr.out.mono ?_; rintro e W1 ⟨rfl, hb1⟩)
      go_ret2
      exact ⟨rfl, hb1⟩

theorem specTrips_u (n : Int) (v u : Value) (xs far : List Int) (w : World) (hv : Ints w v xs) (hu : Ints w u far) (hn : (Lit.int .i64 n).wf = true) (hl : xs.length ≤ 1048576) (hl2 : far.length ≤ 1048576) :
    Calls Try.prog 20 #[.int .i64 n, v, u] w fun e w' => (∃ v', e = .returned (.tuple #[v', .bool (tripsOk n xs far)]) ∧ OwnI w' w.heap.size v' (tripsL n xs far)) ∧ Below w.heap.size w w' := by
  cases h : tripsOk n xs far
  · refine (specTrips_no n v u xs far w hv hu hn hl hl2 h).mono ?_
    rintro e w' ⟨rfl, hb⟩
    exact ⟨⟨_, rfl, by rw [tripsL_no h]; exact own_nil _ _⟩, hb⟩
  · have hL := tripsL_yes h
    obtain ⟨t, R, rfl, ht, ht2, hev, hlen, hle, hro, hfl, hw, hf⟩ := trips_rounds h
    rw [hL, Int.toNat_natCast]
    exact specTrips_yes t R v u xs far w hv hu ht ht2 hev hlen hle hro hfl hw hf
end Go.Proofs.Ytmhepomjbaendaa
