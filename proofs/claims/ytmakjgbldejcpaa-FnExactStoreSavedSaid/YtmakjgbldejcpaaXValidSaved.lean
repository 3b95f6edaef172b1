
/- The walk of FnExactValidSaved. Conditions: none. -/
import Derived.Test.YtmakjgbldejcpaaSavedSpec
import Derived.Deep.RegionWith
namespace Go.Proofs.Ytmakjgbldejcpaa
open Go.RowKit Go.BigFrame
set_option linter.unusedVariables false
set_option linter.unusedSimpArgs false

theorem FreshR.saved {k : Nat} {w : World} {s : ByteArray} {ut us : Value} {ts : List Tk} {st : List Int} (h : FreshR rSaved k w [.string s, ut, us] (s, ts, st)) : s.size ≤ maxLen ∧ TasksR w ut ts ∧ Ints w us st := by
  obtain ⟨vt, vs, he, h1, h2, h3⟩ := saved_cells.1 h.now
  simp at he
  obtain ⟨rfl, rfl⟩ := he
  exact ⟨h1, h2, h3.ints.1⟩

set_option maxRecDepth 100000 in
set_option maxHeartbeats 4000000 in
theorem walkFnExactValidSaved (a0 : Array Value) (x0 : Sv) (w : World) (w0 : rSaved.R w a0.toList x0) :
    Calls Try.prog 5 #[.agg a0] w fun e w' => e = .returned (.bool true) ∧ Below w.heap.size w w' := by
  obtain ⟨l⟩ := a0
  obtain ⟨s, ts, st⟩ := x0
  obtain ⟨vt, vs, hl, hsz, ht, hs⟩ := saved_cells.1 w0
  simp only at hl hsz ht hs
  subst hl
  clear w0
  show Calls Try.prog 5 #[savedV s vt vs] w _
  have HT : Hid (∀ W, Below w.heap.size w W → TasksR W vt ts) := fun W hW => ht.below hW (Nat.le_refl _)
  have HS : Hid (∀ W, Below w.heap.size w W → SlR rInt W vs st) := fun W hW => hs.below hW (Nat.le_refl _)
  have HSZ := Lib.hid hsz
  have hB0 : Below w.heap.size w (w.alloc (.cells #[.string s, vt, vs] 45)) := (Below.refl _ w).alloc (Nat.le_refl _) _
  have k1 : Blk (w.alloc (.cells #[.string s, vt, vs] 45)) w.heap.size 45 [.string s, vt, vs] := Blk.new w _ _
  obtain ⟨t1, t2, rfl⟩ : ∃ t1 t2, vt = .slice t1 ts.length t2 := by obtain ⟨_, t1, t2, h, _⟩ := ht; exact ⟨t1, t2, h⟩
  obtain ⟨s1, s2, rfl⟩ : ∃ t1 t2, vs = .slice t1 st.length t2 := by obtain ⟨_, t1, t2, h, _⟩ := hs; exact ⟨t1, t2, h⟩
  have HB0 := Lib.hid hB0
  have HK0 := Lib.hid k1
  clear hB0 k1 ht hs hsz
  unfold savedV
  go_enter Try.func5, Try.ntmps5
  go_wp2_with fail
  obtain ⟨W0, hW0⟩ : ∃ W0, w.alloc (.cells #[.string s, .slice t1 ts.length t2, .slice s1 st.length s2] 45) = W0 := ⟨_, rfl⟩
  rw [hW0] at HB0 HK0 ⊢
  clear hW0
  have c0 := HK0.out.cell 0 _ rfl
  have c1 := HK0.out.cell 1 _ rfl
  have c2 := HK0.out.cell 2 _ rfl
  go_wp2_with fail
  refine (szSaved_any s _ _ ts st 1048576 W0 HSZ.out (HT.out _ HB0.out) (HS.out _ HB0.out).ints.1 (by omega) (by omega)).mono ?_
  rintro e W1 ⟨⟨r, rfl, hr⟩, hb1⟩
  have HB1 := Lib.hid (HB0.out.trans (hb1.mono HB0.out.size))
  have HK1 := Lib.hid (HK0.out.below hb1 HK0.out.lt)
  clear hb1 HB0 HK0 c0 c1 c2
  have d0 := HK1.out.cell 0 _ rfl
  have d1 := HK1.out.cell 1 _ rfl
  have d2 := HK1.out.cell 2 _ rfl
  by_cases hr0 : r < 0
  · go_wp2
    go_ret
    exact ⟨rfl, HB1.out⟩
  · have hsm : smallSaved (s, ts, st) := by rcases hr with h | h; omega; exact h.2.2
    have HTO : Hid (∀ W, Below w.heap.size w W → Calls Try.prog 27 #[savedV s (.slice t1 ts.length t2) (.slice s1 st.length s2)] W fun e w' => (∃ ut us, e = .returned (savedV s ut us) ∧ FreshR rSaved W.heap.size w' [.string s, ut, us] (s, ts, st)) ∧ Below W.heap.size W w') := fun W hW => toSaved_any s _ _ ts st W HSZ.out (HT.out _ hW) (HS.out _ hW) hsm
    have HSM := Lib.hid hsm
    unfold savedV at HTO
    clear hr hsm
    go_wp2_with fail
    refine (HTO.out W1 HB1.out).mono ?_
    rintro e W2 ⟨⟨ut, us, rfl, hf2⟩, hb2⟩
    obtain ⟨_, hut, hus⟩ := hf2.saved
    have HB2 := Lib.hid (HB1.out.trans (hb2.mono HB1.out.size))
    have HK2 := Lib.hid (HK1.out.below hb2 HK1.out.lt)
    have HSP := Lib.hid (specValidSaved_any s ut us ts st W2 HSZ.out hut hus HSM.out.2.1.1)
    clear hb2 hf2 hut hus HB1 HK1 d0 d1 d2
    go_wp2_with fail
    refine HSP.out.mono ?_
    rintro e W3 ⟨rfl, hb3⟩
    have HB3 := Lib.hid (HB2.out.trans (hb3.mono HB2.out.size))
    have HK3 := Lib.hid (HK2.out.below hb3 HK2.out.lt)
    have d0 := HK3.out.cell 0 _ rfl
    have d1 := HK3.out.cell 1 _ rfl
    have d2 := HK3.out.cell 2 _ rfl
    clear hb3 HB2 HK2 HSP
    go_wp2_with fail
    refine (HTO.out W3 HB3.out).mono ?_
    rintro e W4 ⟨⟨vt2, vs2, rfl, hf4⟩, hb4⟩
    obtain ⟨_, hvt, hvs⟩ := hf4.saved
    obtain ⟨e1, e2, rfl⟩ : ∃ t1 t2, vt2 = .slice t1 ts.length t2 := by obtain ⟨_, t1, t2, h, _⟩ := hvt; exact ⟨t1, t2, h⟩
    obtain ⟨e3, e4, rfl⟩ : ∃ t1 t2, vs2 = .slice t1 st.length t2 := by obtain ⟨_, t1, t2, h, _⟩ := hvs; exact ⟨t1, t2, h⟩
    have HB4 := Lib.hid (HB3.out.trans (hb4.mono HB3.out.size))
    have HK4 := Lib.hid (HK3.out.below hb4 HK3.out.lt)
    have HVT := Lib.hid hvt
    have HVS := Lib.hid hvs
    clear hb4 hf4 hvt hvs HB3 HK3 d0 d1 d2
    go_wp2_with fail
    obtain ⟨S4, hS4⟩ : ∃ S4, W4.heap.size = S4 := ⟨_, rfl⟩
    obtain ⟨W5, hW5⟩ : ∃ W5, W4.alloc (.cells #[.string s, .slice e1 ts.length e2, .slice e3 st.length e4] 50) = W5 := ⟨_, rfl⟩
    have hB45 : Below S4 W4 W5 := by rw [← hW5]; exact (Below.refl _ W4).alloc (by omega) _
    have k5 : Blk W5 S4 50 [.string s, .slice e1 ts.length e2, .slice e3 st.length e4] := by rw [← hW5, ← hS4]; exact Blk.new W4 _ _
    have HB5 : Hid (Below w.heap.size w W5) := HB4.out.trans (hB45.mono (by have := HB4.out.size; omega))
    have HK5 : Hid (Blk W5 w.heap.size 45 [.string s, .slice t1 ts.length t2, .slice s1 st.length s2]) := HK4.out.below hB45 (by have := HK4.out.lt; omega)
    have HVT5 : Hid (∀ W, Below W5.heap.size W5 W → TasksR W (.slice e1 ts.length e2) ts) := fun W hW => (HVT.out.below hB45 (by omega)).below hW (Nat.le_refl _)
    have HVS5 : Hid (∀ W, Below W5.heap.size W5 W → Ints W (.slice e3 st.length e4) st) := fun W hW => (HVS.out.below hB45 (by omega)).below hW (Nat.le_refl _)
    have HL5 : Hid (S4 < W5.heap.size) := by rw [← hW5]; show S4 < _; rw [World.size_alloc]; omega
    have HKX := Lib.hid k5
    rw [hW5, hS4]
    clear hB45 k5 hW5 HB4 HK4 HVT HVS
    refine (validSaved_any s _ _ ts st W5 HSZ.out (HVT5.out _ (Below.refl _ _)) (HVS5.out _ (Below.refl _ _))).mono ?_
    rintro e W6 ⟨rfl, hb6⟩
    have HB6 := Lib.hid (HB5.out.trans (hb6.mono HB5.out.size))
    have HL6 := Lib.hid hb6
    have k6 := HKX.out.below hb6 HL5.out
    have d0 := (HK5.out.below hb6 HK5.out.lt).cell 0 _ rfl
    have d1 := (HK5.out.below hb6 HK5.out.lt).cell 1 _ rfl
    have d2 := (HK5.out.below hb6 HK5.out.lt).cell 2 _ rfl
    have g0 := k6.cell 0 _ rfl
    have g1 := k6.cell 1 _ rfl
    have g2 := k6.cell 2 _ rfl
    have HK6 := Lib.hid k6
    clear hb6 k6
    go_wp2_with fail
    go_region_with (first | (go_at_call 27; refine (HTO.out _ HB6.out.drew).mono ?_; rintro e W7 ⟨⟨vt3, vs3, rfl, hf7⟩, hb7⟩; have hb67 : Below W6.heap.size W6 W7 := ((Below.refl _ W6).drew).trans (hb7.mono (by simp)); have hd7 := hb7.drew; have k7 := HK6.out.below hb67 HK6.out.lt; have m0 := k7.cell 0 _ rfl; have m1 := k7.cell 1 _ rfl; have m2 := k7.cell 2 _ rfl; have HF7 := Lib.hid hf7; have HB7 := Lib.hid hb67; clear hb67 hf7 hb7 hd7 k7) | (go_at_call 29; refine (eqSaved_same s _ _ _ _ ts st _ ?_ ?_ ?_ ?_).mono ?_; exact HVT5.out _ (HL6.out.trans (HB7.out.mono HL6.out.size)); exact HVS5.out _ (HL6.out.trans (HB7.out.mono HL6.out.size)); exact HF7.out.saved.2.1; exact HF7.out.saved.2.2; rintro e W8 ⟨rfl, hb8⟩; have HB8 := Lib.hid hb8; clear hb8))
    all_goals
      go_wp2
      go_ret
      exact ⟨rfl, HB6.out.trans ((HB7.out.trans (HB8.out.mono HB7.out.size)).mono HB6.out.size)⟩
end Go.Proofs.Ytmakjgbldejcpaa
