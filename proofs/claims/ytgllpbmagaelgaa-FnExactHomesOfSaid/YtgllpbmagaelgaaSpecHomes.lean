
/- HomesOf, program and reference, as one plain function. Conditions: at most 2^20 numbers. -/
import Derived.Test.YtgllpbmagaelgaaBreaks
import Derived.Test.YtgllpbmagaelgaaMarksB
namespace Go.Proofs.Ytgllpbmagaelgaa
open Go.RowKit Go.Shelf Go.BigFrame
set_option linter.unusedVariables false
set_option linter.unusedSimpArgs false
attribute [local go_sem] Oper.semAt_some

def homesL (n : Int) (xs : List Int) : List Bool := if roundsOk n xs then homesTo n.toNat xs (xs.length / 2) else []
theorem homesL_no {n : Int} {xs : List Int} (h : roundsOk n xs = false) : homesL n xs = [] := by unfold homesL; rw [h]; rfl
theorem homesL_yes {n : Int} {xs : List Int} (h : roundsOk n xs = true) : homesL n xs = homesTo n.toNat xs (xs.length / 2) := by unfold homesL; rw [h]; rfl
theorem rounds_nat {n : Int} {xs : List Int} (h : roundsOk n xs = true) : ∃ t : Nat, n = t := by
  unfold roundsOk at h
  rw [Bool.and_eq_true, Bool.and_eq_true] at h
  obtain ⟨t, _, h, _⟩ := roundsHead_bounds h.1.1
  exact ⟨t, h⟩
theorem homesL_small (n : Int) (xs : List Int) : (homesL n xs).length ≤ 480 := by
  cases h : roundsOk n xs
  · rw [homesL_no h]; simp
  · obtain ⟨t, rfl⟩ := rounds_nat h
    obtain ⟨R, _, _, _, _, hle, _⟩ := rounds_win h
    rw [homesL_yes h, homesTo_length]; exact hle

theorem implHomes_u (n : Int) (v : Value) (xs : List Int) (w : World) (hv : Ints w v xs) (hn : (Lit.int .i64 n).wf = true) (hl : xs.length ≤ 1048576) :
    Calls Try.prog 27 #[.int .i64 n, v] w fun e w' => (∃ v', e = .returned (.tuple #[v', .bool (roundsOk n xs)]) ∧ OwnB w' w.heap.size v' (homesL n xs)) ∧ Below w.heap.size w w' := by
  cases h : roundsOk n xs
  · refine (implHomes_no n v xs w hv hn hl h).mono ?_
    rintro e w' ⟨rfl, hb⟩
    exact ⟨⟨_, rfl, by rw [homesL_no h]; exact ownB_nil _ _⟩, hb⟩
  · refine (implHomes_yes n v xs w hv hn hl h).mono ?_
    rintro e w' ⟨⟨g, rfl, ho⟩, hb⟩
    exact ⟨⟨_, rfl, by rw [homesL_yes h]; exact ho⟩, hb⟩

theorem specHomes_u (n : Int) (v : Value) (xs : List Int) (w : World) (hv : Ints w v xs) (hn : (Lit.int .i64 n).wf = true) (hl : xs.length ≤ 1048576) :
    Calls Try.prog 25 #[.int .i64 n, v] w fun e w' => (∃ v', e = .returned (.tuple #[v', .bool (roundsOk n xs)]) ∧ OwnB w' w.heap.size v' (homesL n xs)) ∧ Below w.heap.size w w' := by
  have hr := l07Rounds_any n v xs w hv hn hl
  cases hok : roundsOk n xs
  · rw [hok] at hr
    rw [homesL_no hok]
    have Hr := Lib.hid hr
    clear hr hv hok
    go_enter Try.func25, Try.ntmps25
    go_wp2_with (go_at_call 71; refine Hr.out.mono ?_; rintro e w' ⟨rfl, hb⟩)
    go_ret2
    exact ⟨⟨_, rfl, ownB_nil _ _⟩, hb⟩
  · rw [hok] at hr
    obtain ⟨t, rfl⟩ := rounds_nat hok
    have hL := homesL_yes hok
    obtain ⟨R, ht, ht2, hev, hlen, hle, hw⟩ := rounds_win hok
    rw [Int.toNat_natCast] at hL
    rw [hL]
    have hH := fun w' (hB : Below w.heap.size w w') => l07Homes_any t R v xs w' (hv.below hB (Nat.le_refl _)) ht ht2 hev hlen hle hw
    have Hr := Lib.hid hr
    have HH := Lib.hid hH
    clear hr hH hv hok hw hlen hL
    go_enter Try.func25, Try.ntmps25
    go_wp2_with (first | (go_at_call 71; refine Hr.out.mono ?_; rintro e W1 ⟨rfl, hb⟩) | (go_at_call 72; refine (HH.out _ hb).mono ?_; rintro e W2 ⟨⟨g, rfl, ho⟩, hb2⟩))
    go_ret2
    exact ⟨⟨_, rfl, ho.base hb.size⟩, hb.trans (hb2.mono hb.size)⟩
end Go.Proofs.Ytgllpbmagaelgaa
