
/- CountBreaks, program and reference. Conditions: at most 2^20 numbers. -/
import Derived.Test.YtgllpbmagaelgaaHomes
namespace Go.Proofs.Ytgllpbmagaelgaa
open Go.RowKit Go.Shelf Go.BigFrame
set_option linter.unusedVariables false
set_option linter.unusedSimpArgs false
attribute [local go_sem] Oper.semAt_some

/-- How often the same as one round before. -/
def brk (t : Nat) (bs : List Bool) (k : Nat) : Nat := (List.range k).countP fun j => bs.getD (t + j) false == bs.getD j false
theorem brk_succ (t : Nat) (bs : List Bool) (k : Nat) : brk t bs (k + 1) = brk t bs k + if bs.getD (t + k) false == bs.getD k false then 1 else 0 := by
  unfold brk
  rw [List.range_succ, List.countP_append]
  simp [List.countP_cons]
theorem brk_le (t : Nat) (bs : List Bool) (k : Nat) : brk t bs k ≤ k := by
  unfold brk
  exact Nat.le_trans List.countP_le_length (by simp)
def breaks (n : Int) (xs : List Int) : Int := if roundsOk n xs then (brk n.toNat (homesTo n.toNat xs (xs.length / 2)) (xs.length - n.toNat) : Nat) else 0

theorem OwnB.cell {w : World} {N g n c : Nat} {xs : List Bool} (h : OwnB w N (.slice (some ⟨g, 0, none⟩) n c) xs) (hn : n = xs.length) (j : Nat) (hj : j < xs.length) : w.cell? ⟨g, j, none⟩ = some (.bool (xs.getD j false)) := by
  rw [(h.store hn j hj true).1, List.getD_eq_getElem?_getD, List.getElem?_eq_getElem hj]; rfl

theorem OwnB.base {w : World} {B B' : Nat} {v : Value} {xs : List Bool} (h : OwnB w B v xs) (hB : B' ≤ B) : OwnB w B' v xs := by
  obtain ⟨h1, h2⟩ := h
  refine ⟨h1, ?_⟩
  rcases h2 with h2 | ⟨g, cap, cur, e1, e2, e3⟩
  · exact .inl h2
  · exact .inr ⟨g, cap, cur, e1, Nat.le_trans hB e2, e3⟩

theorem implHomes_no (n : Int) (v : Value) (xs : List Int) (w : World) (hv : Ints w v xs) (hn : (Lit.int .i64 n).wf = true) (hl : xs.length ≤ 1048576) (hok : roundsOk n xs = false) :
    Calls Try.prog 27 #[.int .i64 n, v] w fun e w' => e = .returned (.tuple #[.slice none 0 0, .bool false]) ∧ Below w.heap.size w w' := by
  have hr := implRounds_any n v xs w hv hn hl
  rw [hok] at hr
  have Hr := Lib.hid hr
  clear hr hv hok
  go_enter Try.func27, Try.ntmps27
  go_wp2_with (go_at_call 73; refine Hr.out.mono ?_; rintro e w' ⟨rfl, hb⟩)
  go_ret2
  exact ⟨rfl, hb⟩
theorem implHomes_yes (n : Int) (v : Value) (xs : List Int) (w : World) (hv : Ints w v xs) (hn : (Lit.int .i64 n).wf = true) (hl : xs.length ≤ 1048576) (hok : roundsOk n xs = true) :
    Calls Try.prog 27 #[.int .i64 n, v] w fun e w' => (∃ g, e = .returned (.tuple #[.slice (some ⟨g, 0, none⟩) xs.length xs.length, .bool true]) ∧ OwnB w' w.heap.size (.slice (some ⟨g, 0, none⟩) xs.length xs.length) (homesTo n.toNat xs (xs.length / 2))) ∧ Below w.heap.size w w' := by
  have hr := implRounds_any n v xs w hv hn hl
  rw [hok] at hr
  have hnn : ∃ t : Nat, n = t := by
    unfold roundsOk at hok
    rw [Bool.and_eq_true, Bool.and_eq_true] at hok
    obtain ⟨t, _, h, _⟩ := roundsHead_bounds hok.1.1
    exact ⟨t, h⟩
  obtain ⟨t, rfl⟩ := hnn
  obtain ⟨R, ht, ht2, hev, hlen, hle, hw⟩ := rounds_win hok
  rw [Int.toNat_natCast]
  have hH := fun w' (hB : Below w.heap.size w w') => homesOf_any t R v xs w' (hv.below hB (Nat.le_refl _)) ht ht2 hev hlen hle hw
  have Hr := Lib.hid hr
  have HH := Lib.hid hH
  clear hr hH hv hok hw hlen
  go_enter Try.func27, Try.ntmps27
  go_wp2_with (first | (go_at_call 73; refine Hr.out.mono ?_; rintro e W1 ⟨rfl, hb⟩) | (go_at_call 74; refine (HH.out _ hb).mono ?_; rintro e W2 ⟨⟨g, rfl, ho⟩, hb2⟩))
  go_ret2
  exact ⟨⟨g, rfl, ho.base hb.size⟩, hb.trans (hb2.mono hb.size)⟩

end Go.Proofs.Ytgllpbmagaelgaa
