
/- ColourBy, the program: its contract. Conditions: at most 2^20 numbers. -/
import Derived.Test.YtmhepomjbaendaaColPlain
namespace Go.Proofs.Ytmhepomjbaendaa
open Go.RowKit Go.Shelf Go.BigFrame
set_option linter.unusedVariables false
set_option linter.unusedSimpArgs false
attribute [local go_sem] Oper.semAt_some

set_option maxRecDepth 100000 in
set_option maxHeartbeats 2000000 in
theorem implColBy_yes (t : Nat) (v u : Value) (xs order : List Int) (w : World) (hv : Ints w v xs) (hu : Ints w u order) (ht1 : 1 ≤ t) (ht : t ≤ 12) (hl : xs.length ≤ 64) (hev : xs.length % 2 = 0) (hw : ∀ k, k < xs.length → 0 ≤ nth xs k ∧ nth xs k < (t : Int))
    (hol : order.length = t) (ho : ∀ i, i < order.length → 0 ≤ nth order i ∧ nth order i < (t : Int)) (hc1 : clashesOk (t : Int) xs = true) (hc2 : orders (t : Int) order = true) :
    Calls Try.prog 37 #[.int .i64 t, v, u] w fun e w' => (∃ v', e = .returned (.tuple #[v', .bool true]) ∧ OwnI w' w.heap.size v' (colTo t xs order t)) ∧ Below w.heap.size w w' := by
  have hca := implAreClashes_any (t : Int) v xs w hv (wf_i64_iff.2 ⟨by omega, by omega⟩)
  rw [hc1] at hca
  have HCA := Lib.hid hca
  have HIO : Hid (∀ W, Below w.heap.size w W → Calls Try.prog 94 #[u, .int .i64 t] W fun e w' => e = .returned (.bool true) ∧ Below W.heap.size W w') := fun W hW => by
    have := isOrder_any (t : Int) u order W (hu.below hW (Nat.le_refl _)) (by omega)
    rw [hc2, show win (t : Int) 1 24 = true from win_true.2 ⟨by omega, by omega⟩] at this
    exact this
  have HCS : Hid (∀ W, Below w.heap.size w W → Calls Try.prog 85 #[.int .i64 t, v] W fun e w' => (∃ g, e = .returned (.slice (some ⟨g, 0, none⟩) t t) ∧ OwnI w' W.heap.size (.slice (some ⟨g, 0, none⟩) t t) (mInts (masks t xs))) ∧ Below W.heap.size W w') := fun W hW =>
    clashSets_any t v xs W (hv.below hW (Nat.le_refl _)) ht1 ht hl hev hw
  have HU : Hid (∀ W, Below w.heap.size w W → Ints W u order) := fun W hW => hu.below hW (Nat.le_refl _)
  have hinv := masks_inv ht hw
  obtain ⟨hm, a, c, rfl, hcap, hc⟩ := hv
  obtain ⟨hm', a', c', rfl, hcap', hc'⟩ := hu
  have HINV := Lib.hid hinv
  have HW := Lib.hid hw
  have HO := Lib.hid ho
  have HOL := Lib.hid hol
  clear hca hinv hw ho hol hc1 hc2 hc hc' hm hm'
  go_enter Try.func37, Try.ntmps37
  go_wp2_with (first
    | (go_at_call 39; refine HCA.out.mono ?_; rintro e W1 ⟨rfl, hb1⟩; have HB1 := Lib.hid hb1; clear hb1)
    | (go_at_call 94; refine (HIO.out _ HB1.out).mono ?_; rintro e W2 ⟨rfl, hb2⟩; have HB2 := Lib.hid (HB1.out.trans (hb2.mono HB1.out.size)); clear hb2)
    | (go_at_call 85; refine (HCS.out _ HB2.out).mono ?_; rintro e W3 ⟨⟨gs, rfl, hos⟩, hb3⟩; have HB3 := Lib.hid (HB2.out.trans (hb3.mono HB2.out.size)); have HOS := Lib.hid (hos.mono (B' := w.heap.size) HB2.out.size); clear hb3 hos)
    | (go_at_call 95; refine (none_any t _ ht1 (by omega)).mono ?_; rintro e W4 ⟨⟨go, rfl, hoo⟩, hb4⟩))
  have hgo := hoo.lt go rfl
  have hgs := HOS.out.lt gs rfl
  have HB4 := Lib.hid (HB3.out.trans (hb4.mono HB3.out.size))
  have HOS4 := Lib.hid (HOS.out.below hb4 (Nat.le_refl _))
  have HOO4 : Hid (OwnI W4 w.heap.size (.slice (some ⟨go, 0, none⟩) t t) (colTo t xs order 0)) := hoo.mono (B' := w.heap.size) HB3.out.size
  have hne : gs ≠ go := by omega
  have hgoN : w.heap.size ≤ go := by have := HB3.out.size; omega
  clear hb4 hoo HOS hgs hgo
  go_loopw [11, 12, 30] (fun _ _ i wr => ∃ s : Nat, s ≤ order.length ∧ i = .int .i64 s ∧ Below w.heap.size w wr ∧ OwnI wr w.heap.size (.slice (some ⟨gs, 0, none⟩) t t) (mInts (masks t xs)) ∧ OwnI wr w.heap.size (.slice (some ⟨go, 0, none⟩) t t) (colTo t xs order s)) (fun _ _ i _ => order.length - (intOf i).toNat)
  case atStart => exact ⟨0, Nat.zero_le _, rfl, HB4.out, HOS4.out, HOO4.out⟩
  case round =>
    obtain ⟨s, hs, rfl, hB, hos, hoo⟩ := hrel
    clear HB4 HOS4 HOO4
    have HB := Lib.hid hB
    have HOS := Lib.hid hos
    have HOO := Lib.hid hoo
    by_cases hlt : s < order.length
    · obtain ⟨_, a2, c2, hsl, _, hcell⟩ := HU.out wr hB
      obtain ⟨bo, oo, ha2, _, e0⟩ := hcell s hlt
      obtain ⟨rfl, rfl⟩ : a' = a2 ∧ c' = c2 := by simpa using hsl
      subst ha2
      rw [← nth_eq hlt] at e0
      obtain ⟨p1, p2⟩ := HO.out s hlt
      obtain ⟨e, he⟩ : ∃ e : Nat, nth order s = e := ⟨(nth order s).toNat, by omega⟩
      rw [he] at e0 p1 p2
      have het : e < t := by omega
      have hci := colTo_inv (xs := xs) HOL.out HO.out s (by have := HOL.out; omega)
      have hnext : colTo t xs order (s + 1) = colStep xs (colTo t xs order s) e := by show colStep _ _ _ = _; rw [he, Int.toNat_natCast]
      obtain ⟨out, hout⟩ : ∃ out, colTo t xs order s = out := ⟨_, rfl⟩
      rw [hout] at hci hnext hoo
      obtain ⟨d, d1, d2, d3, d4, d5⟩ := hci.step (xs := xs) e het (by have := HOL.out; omega)
      rw [d4] at hnext
      have hol2 : out.length = t := hci.len
      have HFREE : Hid (∀ x : Nat, Calls Try.prog 96 #[.slice (some ⟨gs, 0, none⟩) t t, .slice (some ⟨go, 0, none⟩) t t, .int .i64 e, .int .i64 x] wr fun y w' => y = .returned (.bool (frC xs out e x)) ∧ wr = w') := fun x => by
        have h1 := canHave_any (.slice (some ⟨gs, 0, none⟩) t t) (.slice (some ⟨go, 0, none⟩) t t) (masks t xs) out e (x : Int) wr hos.ints (by have := hoo.ints; exact this) (by rw [HINV.out.len]; exact het) HINV.out.lt (by omega) (by rw [HINV.out.len]; omega)
        rw [freeB_frC ht HW.out e x het] at h1
        exact h1
      have HSTORE : Hid (wr.cell? ⟨go, e, none⟩ = some (.int .i64 (nth out e)) ∧ wr.frozen? ⟨go, e, none⟩ = false ∧ OwnI (wr.setCell ⟨go, e, none⟩ (.int .i64 d)) w.heap.size (.slice (some ⟨go, 0, none⟩) t t) (out.set e (d : Int)) ∧ OwnI (wr.setCell ⟨go, e, none⟩ (.int .i64 d)) w.heap.size (.slice (some ⟨gs, 0, none⟩) t t) (mInts (masks t xs)) ∧ Below w.heap.size w (wr.setCell ⟨go, e, none⟩ (.int .i64 d))) := by
        obtain ⟨s1, s2, s3, s4⟩ := hoo.store hol2.symm e (by omega) (d : Int)
        rw [← nth_eq (by omega)] at s1
        exact ⟨s1, s2, s3, hos.setCell (p := ⟨go, e, none⟩) (.int .i64 d) (by show some gs ≠ some go; intro h; injection h with h; exact hne h), hB.setCell hgoN _⟩
      have HD2 := Lib.hid d2
      have HD3 := Lib.hid d3
      have HNEXT := Lib.hid hnext
      have hs12 : s ≤ 12 := by have := HOL.out; omega
      have i0 : (0 : Int) ≤ (e : Int) := by omega
      have i1 : (e : Int) < (t : Int) := by omega
      clear hcell hB hos hoo he hout hnext hci d2 d3 d4 d5 hsl hol2
      go_wp2
      go_loopw [12] (fun v wk => ∃ x : Nat, x ≤ d ∧ v = .int .i64 x ∧ wr = wk) (fun v _ => d - (intOf v).toNat)
      case atStart => exact ⟨0, Nat.zero_le _, rfl, rfl⟩
      case round =>
        obtain ⟨x, hx, rfl, rfl⟩ := hrel
        by_cases hxd : x < d
        · have hfx := HD2.out x hxd
          have hcall := HFREE.out x
          rw [hfx] at hcall
          have HCALL := Lib.hid hcall
          clear hfx hcall
          go_wp2_with (go_at_call 96; refine HCALL.out.mono ?_; rintro y w' ⟨rfl, rfl⟩)
          go_roundw
          case rel => exact ⟨x + 1, by omega, by go_num, trivial⟩
          case measure => simp [intOf]; omega
        · obtain rfl : x = d := by omega
          have hcall := HFREE.out x
          rw [HD3.out] at hcall
          have HCALL := Lib.hid hcall
          obtain ⟨s1, s2, _⟩ := HSTORE.out
          clear hcall
          go_wp2_with (go_at_call 96; refine HCALL.out.mono ?_; rintro y w' ⟨rfl, rfl⟩)
          go_roundw
          case rel => exact ⟨s + 1, by omega, by go_num, HSTORE.out.2.2.2.2, HSTORE.out.2.2.2.1, by rw [HNEXT.out]; exact HSTORE.out.2.2.1⟩
          case measure => simp [intOf]; omega
    · have hse : s = t := by have := HOL.out; omega
      have HO3 : Hid (OwnI wr w.heap.size (.slice (some ⟨go, 0, none⟩) t t) (colTo t xs order t)) := by rw [← hse] at hoo ⊢; exact hoo
      clear hoo hos hB
      go_wp2
      go_ret2
      exact ⟨⟨_, rfl, HO3.out⟩, HB.out⟩
end Go.Proofs.Ytmhepomjbaendaa
