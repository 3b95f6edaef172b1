
/- Lists of saved plans: how they read; the laws' szSavedS, toSavedS, eqSavedS. Conditions: at most 2^20 numbers. -/
import Derived.Test.YtmakjgbldejcpaaSaved
namespace Go.Proofs.Ytmakjgbldejcpaa
open Go.RowKit
set_option linter.unusedVariables false
set_option linter.unusedSimpArgs false

abbrev SavedsR (w : World) (v : Value) (xs : List Sv) : Prop := SlR rSaved w v xs
theorem SavedsR.at_ {w : World} {v : Value} {xs : List Sv} (h : SavedsR w v xs) : ∃ a c, v = .slice a xs.length c ∧ xs.length ≤ c ∧ ∀ i (hi : i < xs.length), ∃ b o vt vs, a = some ⟨b, o, none⟩ ∧ b < w.heap.size ∧ xs[i].1.size ≤ maxLen ∧ TasksR w vt xs[i].2.1 ∧ SlR rInt w vs xs[i].2.2 ∧
    w.cell? ⟨b, o + i * 3, none⟩ = some (.string xs[i].1) ∧ w.cell? ⟨b, o + i * 3 + 1, none⟩ = some vt ∧ w.cell? ⟨b, o + i * 3 + 2, none⟩ = some vs := by
  obtain ⟨hm, a, c, hv, hcap, hc⟩ := h
  refine ⟨a, c, hv, hcap, fun i hi => ?_⟩
  obtain ⟨b, o, cs, ha, hbs, hr, hcell⟩ := hc i hi
  obtain ⟨vt, vs, rfl, h1, h2, h3⟩ := saved_cells.1 hr
  exact ⟨b, o, vt, vs, ha, hbs, h1, h2, h3, hcell 0 (by simp), hcell 1 (by simp), hcell 2 (by simp)⟩
def smallSaveds (xs : List Sv) : Prop := xs.length ≤ 1048576 ∧ ∀ x ∈ xs, smallSaved x

theorem FillR.put3 {α : Type} {r : Rdr α} {N : Nat} {w : World} {raw : List Value} {xs : List α} {k : Nat} (h : FillR r N w raw xs k) (h3 : r.size = 3) (c0 c1 c2 : Value) (hk : k < xs.length) (hl : raw.length = xs.length * 3) (hx : FreshR r N w [c0, c1, c2] xs[k]) :
    FillR r N w (((raw.set (k * 3) c0).set (k * 3 + 1) c1).set (k * 3 + 2) c2) xs (k + 1) := by
  intro i hi hik
  by_cases he : i = k
  · subst he
    refine ⟨_, hx, fun j hj => ?_⟩
    rw [h3]
    have hj3 : j < 3 := by simpa using hj
    match j, hj3 with
    | 0, _ => simp [List.getElem?_set]; omega
    | 1, _ => simp [List.getElem?_set]; omega
    | 2, _ => simp [List.getElem?_set]; omega
  · obtain ⟨cs, h1, h2⟩ := h i hi (by omega)
    refine ⟨cs, h1, fun j hj => ?_⟩
    have h4 := h2 j hj
    have hj3 : j < 3 := by have := r.len h1.now; omega
    rw [h3] at h4 ⊢
    rw [List.getElem?_set_ne (by omega), List.getElem?_set_ne (by omega), List.getElem?_set_ne (by omega)]
    exact h4

set_option maxHeartbeats 1000000 in
theorem szSavedS_any (v : Value) (xs : List Sv) (left : Int) (w : World) (hv : SavedsR w v xs) (h0 : 0 ≤ left) (h1 : left ≤ 1048576) :
    Calls Try.prog 30 #[v, .int .i64 left] w fun e w' => (∃ r : Int, e = .returned (.int .i64 r) ∧ (r = -1 ∨ 0 ≤ r ∧ r ≤ left ∧ smallSaveds xs)) ∧ Below w.heap.size w w' := by
  have hm := hv.1
  have HV : Hid (∀ W, Below w.heap.size w W → SavedsR W v xs) := fun W hW => hv.below hW (Nat.le_refl _)
  obtain ⟨a, c, rfl, hcap, hc⟩ := hv.at_
  unfold maxLen at hm
  clear hc hv
  by_cases hlt : left < (xs.length : Int)
  · have hd : left - (xs.length : Int) < 0 := by omega
    go_enter Try.func30, Try.ntmps30
    go_wp2
    go_ret
    exact ⟨⟨-1, rfl, .inl rfl⟩, Below.refl _ _⟩
  · have hd : ¬ left - (xs.length : Int) < 0 := by omega
    have hxl : xs.length ≤ 1048576 := by omega
    go_enter Try.func30, Try.ntmps30
    go_wp2
    go_loopw [1, 5] (fun vl vi wr => ∃ (k : Nat) (q : Int), k ≤ xs.length ∧ vi = .int .i64 k ∧ vl = .int .i64 q ∧ 0 ≤ q ∧ q ≤ left ∧ Below w.heap.size w wr ∧ Hid (∀ i (hi : i < xs.length), i < k → smallSaved xs[i])) (fun _ vi _ => xs.length - (intOf vi).toNat)
    case atStart => exact ⟨0, _, Nat.zero_le _, rfl, rfl, by omega, by omega, Below.refl _ _, fun i hi h => by omega⟩
    case round =>
      obtain ⟨k, q, hk, rfl, rfl, hq0, hq1, hB, hs⟩ := hrel
      have HB := Lib.hid hB
      by_cases hkl : k < xs.length
      · obtain ⟨_, a2, c2, hsl, _⟩ := HV.out wr hB
        obtain ⟨a3, c3, hsl3, _, hc⟩ := (HV.out wr hB).at_
        obtain ⟨rfl, rfl⟩ : a = a3 ∧ c = c3 := by simpa using hsl3
        obtain ⟨b, o, vt, vs, rfl, hbs, h0, h1, h2, e0, e1, e2⟩ := hc k hkl
        have hsz := szSaved_any xs[k].1 vt vs xs[k].2.1 xs[k].2.2 q wr h0 h1 h2.ints.1 hq0 (by omega)
        rw [show (xs[k].1, xs[k].2.1, xs[k].2.2) = xs[k] from rfl] at hsz
        obtain ⟨x0, hx0⟩ : ∃ x0, xs[k].1 = x0 := ⟨_, rfl⟩
        rw [hx0] at e0 hsz
        obtain ⟨_, p1, p2, rfl, _⟩ := h1
        obtain ⟨_, r1, r2, rfl, _⟩ := h2
        unfold savedV at hsz
        have k0 : (0 : Int) ≤ (k : Int) := by omega
        have k1 : (k : Int) < (xs.length : Int) := by omega
        have HSZ := Lib.hid hsz
        clear hsz hc hsl hsl3 h0 hx0 hB
        go_wp2_with fail
        refine HSZ.out.mono ?_
        rintro e W1 ⟨⟨r, rfl, hr⟩, hb1⟩
        have HB1 := Lib.hid (HB.out.trans (hb1.mono HB.out.size))
        clear hb1
        by_cases hr0 : r < 0
        · go_wp2
          go_ret
          exact ⟨⟨-1, rfl, .inl rfl⟩, HB1.out⟩
        · have HR : Hid (0 ≤ r ∧ r ≤ q ∧ smallSaved xs[k]) := by rcases hr with h | h; omega; exact ⟨h.1, h.2.1, h.2.2⟩
          clear hr
          go_wp2
          go_roundw
          case rel =>
            refine ⟨k + 1, r, by omega, by go_num, rfl, HR.out.1, by have := HR.out; omega, HB1.out, fun i hi h => ?_⟩
            rcases Nat.lt_succ_iff_lt_or_eq.1 h with h | rfl
            · exact hs.out i hi h
            · exact HR.out.2.2
          case measure => simp [intOf]; omega
      · have HS : Hid (smallSaveds xs) := ⟨hxl, fun x hx => by
          obtain ⟨i, hi, rfl⟩ := List.mem_iff_getElem.1 hx
          exact hs.out i hi (by omega)⟩
        clear hs hB
        go_wp2
        go_ret
        exact ⟨⟨q, rfl, .inr ⟨hq0, hq1, HS.out⟩⟩, HB.out⟩
theorem info_saved : (Try.prog.info? 50).map (fun i => (i.zero, i.size, i.bytes)) = some (some (.agg #[.string { data := #[] }, .slice none 0 0, .slice none 0 0]), 3, 64) := by kernel_rfl

set_option maxRecDepth 100000 in
set_option maxHeartbeats 2000000 in
theorem toSavedS_any (v : Value) (xs : List Sv) (w : World) (hv : SavedsR w v xs) (hs : smallSaveds xs) :
    Calls Try.prog 32 #[v] w fun e w' => (∃ v', e = .returned v' ∧ FreshR (rSl rSaved) w.heap.size w' [v'] xs) ∧ Below w.heap.size w w' := by
  have HV : Hid (∀ W, Below w.heap.size w W → SavedsR W v xs) := fun W hW => hv.below hW (Nat.le_refl _)
  have hm0 := hv.1
  obtain ⟨a, c, rfl, hcap, hc⟩ := hv.at_
  obtain ⟨i0, hi, hz0, hz1, hz2⟩ := info_parts info_saved
  have hl := hs.1
  have HS := Lib.hid hs
  unfold maxLen at hm0
  clear hc hv hs
  go_enter Try.func32, Try.ntmps32
  go_wp2_with (at_make; refine wpList_make_full _ rfl _ _ 57 rfl w.heap.size 50 i0 (.agg #[.string { data := #[] }, .slice none 0 0, .slice none 0 0]) 3 Try.underlying57 hi hz0 hz1 _ _ _ _ xs.length rfl rfl rfl rfl (by rw [hz2]; omega) (by unfold maxLen at *; omega) (Nat.le_refl _) ?_; intro w1 hown1 hgrow1)
  obtain ⟨g, hg⟩ : ∃ g, w.heap.size = g := ⟨_, rfl⟩
  obtain ⟨raw0, hO1⟩ : ∃ raw, OwnV 50 3 w1 g (.slice (some ⟨g, 0, none⟩) xs.length xs.length) xs.length raw := by subst hg; exact ⟨_, hown1⟩
  have HO1 := Lib.hid hO1
  have HB1 := Lib.hid ((Below.refl g w).grown hgrow1 (by omega) (fun k e => by cases e))
  have HG := Lib.hid hg
  rw [hg]
  clear hown1 hgrow1 hi hz0 hz1 hz2 hg hO1
  go_loopw [4] (fun vi wr => ∃ (k : Nat) (raw : List Value), k ≤ xs.length ∧ vi = .int .i64 k ∧ OwnV 50 3 wr g (.slice (some ⟨g, 0, none⟩) xs.length xs.length) xs.length raw ∧ FillR rSaved (g + 1) wr raw xs k ∧ Below g w wr) (fun vi _ => xs.length - (intOf vi).toNat)
  case atStart => exact ⟨0, _, Nat.zero_le _, rfl, HO1.out, fun i _ h => by omega, HB1.out⟩
  case round =>
    obtain ⟨k, raw, hk, rfl, hO, hF, hB⟩ := hrel
    obtain ⟨wr', rfl⟩ : ∃ wr' : World, wr' = wr := ⟨_, rfl⟩
    have HO := Lib.hid hO
    have HF := Lib.hid hF
    have HB := Lib.hid hB
    have hgl := (hO.lt g rfl).2
    clear hO hF hB HO1 HB1
    by_cases hkl : k < xs.length
    · have hV := HV.out wr' (by rw [HG.out]; exact HB.out)
      obtain ⟨a3, c3, hsl3, _, hc⟩ := hV.at_
      obtain ⟨rfl, rfl⟩ : a = a3 ∧ c = c3 := by simpa using hsl3
      obtain ⟨b, o, vt, vs, rfl, hbs, h0, h1, h2, e0, e1, e2⟩ := hc k hkl
      have hsm := HS.out.2 _ (List.getElem_mem hkl)
      have hto := toSaved_any xs[k].1 vt vs xs[k].2.1 xs[k].2.2 wr' h0 h1 h2 hsm
      have HX : Hid ((xs[k].1, xs[k].2.1, xs[k].2.2) = xs[k]) := rfl
      obtain ⟨x0, hx0⟩ : ∃ x0, xs[k].1 = x0 := ⟨_, rfl⟩
      rw [hx0] at e0 hto HX
      obtain ⟨_, p1, p2, rfl, _⟩ := h1
      obtain ⟨_, r1, r2, rfl, _⟩ := h2
      unfold savedV at hto
      have k0 : (0 : Int) ≤ (k : Int) := by omega
      have k1 : (k : Int) < (xs.length : Int) := by omega
      have hlen := HO.out.length
      have HTO := Lib.hid hto
      have HLEN := Lib.hid hlen
      clear hto hc hsl3 h0 hx0 hV hsm hlen
      go_wp2_with fail
      refine HTO.out.mono ?_
      rintro e W1 ⟨⟨ub, ul, rfl, hfr⟩, hb1⟩
      obtain ⟨ua, uc, rfl⟩ : ∃ a c, ub = .slice a xs[k].2.1.length c := by obtain ⟨vb', vl', he, _, h3, _⟩ := saved_cells.1 hfr.now; obtain ⟨_, a, c, h, _⟩ := h3; simp at he; exact ⟨a, c, by rw [he.1]; exact h⟩
      obtain ⟨ulb, ulc, rfl⟩ : ∃ a c, ul = .slice a xs[k].2.2.length c := by obtain ⟨vb', vl', he, _, _, h3⟩ := saved_cells.1 hfr.now; obtain ⟨_, a, c, h, _⟩ := h3.ints.1; simp at he; exact ⟨a, c, by rw [he.2]; exact h⟩
      have hO1 := HO.out.below hb1 (Nat.le_refl _)
      have hF1 := HF.out.later (Agree.below hb1 (Nat.le_refl _))
      have hfr2 := hfr.mono (show g + 1 ≤ wr'.heap.size by omega)
      have hB1 := HB.out.trans (hb1.mono (by omega))
      have hput := hF1.put3 rfl _ _ _ hkl HLEN.out (by rw [← HX.out]; exact hfr2)
      obtain ⟨s0, f0, o0, _⟩ := hO1.store (k * 3) (by rw [HLEN.out]; omega) (.string x0)
      obtain ⟨s1, f1, o1, _⟩ := o0.store (k * 3 + 1) (by rw [List.length_set, HLEN.out]; omega) (.slice ua xs[k].2.1.length uc)
      obtain ⟨s2, f2, o2, _⟩ := o1.store (k * 3 + 2) (by rw [List.length_set, List.length_set, HLEN.out]; omega) (.slice ulb xs[k].2.2.length ulc)
      have t1 := (hO1.store (k * 3 + 1) (by rw [HLEN.out]; omega) (.bool true)).1
      have t2 := (hO1.store (k * 3 + 2) (by rw [HLEN.out]; omega) (.bool true)).1
      have z1 := (hO1.store (k * 3 + 1) (by rw [HLEN.out]; omega) (.bool true)).2.1
      have z2 := (hO1.store (k * 3 + 2) (by rw [HLEN.out]; omega) (.bool true)).2.1
      have HO3 := Lib.hid o2
      have HPUT := Lib.hid hput
      have HB1 := Lib.hid hB1
      clear s1 f1 o0 s2 f2 o1 o2 hfr hfr2 hput hb1 hO1 hF1 hB1
      go_wp2_with fail
      go_roundw
      case rel => exact ⟨k + 1, _, by omega, by go_num, HO3.out, HPUT.out.later (((Agree.setCell _ ⟨g, k * 3, none⟩ _ (by show g < g + 1; omega)).trans (Agree.setCell _ ⟨g, k * 3 + 1, none⟩ _ (by show g < g + 1; omega))).trans (Agree.setCell _ ⟨g, k * 3 + 2, none⟩ _ (by show g < g + 1; omega))), ((HB1.out.setCell (p := ⟨g, k * 3, none⟩) (Nat.le_refl _) _).setCell (p := ⟨g, k * 3 + 1, none⟩) (Nat.le_refl _) _).setCell (p := ⟨g, k * 3 + 2, none⟩) (Nat.le_refl _) _⟩
      case measure => simp [intOf]; omega
    · obtain rfl : k = xs.length := by omega
      clear hkl
      go_wp2_with fail
      go_ret
      rw [HG.out]
      exact ⟨⟨_, rfl, FillR.done HO.out HF.out (by unfold maxLen; omega)⟩, HB.out⟩

set_option maxRecDepth 100000 in
set_option maxHeartbeats 1000000 in
theorem eqSavedS_same (v u : Value) (xs : List Sv) (w : World) (hv : SavedsR w v xs) (hu : SavedsR w u xs) :
    Calls Try.prog 34 #[v, u] w fun e w' => e = .returned (.bool true) ∧ Below w.heap.size w w' := by
  have HV : Hid (∀ W, Below w.heap.size w W → SavedsR W v xs) := fun W hW => hv.below hW (Nat.le_refl _)
  have HU : Hid (∀ W, Below w.heap.size w W → SavedsR W u xs) := fun W hW => hu.below hW (Nat.le_refl _)
  have hm0 := hv.1
  unfold maxLen at hm0
  obtain ⟨a, c, rfl, hcap, _⟩ := hv.at_
  obtain ⟨a', c', rfl, hcap', _⟩ := hu.at_
  clear hv hu
  go_enter Try.func34, Try.ntmps34
  go_wp2
  go_loopw [5] (fun i wr => ∃ k : Nat, k ≤ xs.length ∧ i = .int .i64 k ∧ Below w.heap.size w wr) (fun i _ => xs.length - (intOf i).toNat)
  case atStart => exact ⟨0, Nat.zero_le _, rfl, Below.refl _ _⟩
  case round =>
    obtain ⟨k, hk, rfl, hb⟩ := hrel
    obtain ⟨wr', rfl⟩ : ∃ wr' : World, wr' = wr := ⟨_, rfl⟩
    have HB := Lib.hid hb
    by_cases hlt : k < xs.length
    · obtain ⟨a3, c3, hsl3, _, hc⟩ := (HV.out wr' hb).at_
      obtain ⟨rfl, rfl⟩ : a = a3 ∧ c = c3 := by simpa using hsl3
      obtain ⟨b, o, vb, vl, rfl, hbs, h0, h1, h2, e0, e1, e2⟩ := hc k hlt
      obtain ⟨a4, c4, hsl4, _, hc'⟩ := (HU.out wr' hb).at_
      obtain ⟨rfl, rfl⟩ : a' = a4 ∧ c' = c4 := by simpa using hsl4
      obtain ⟨b', o', ub, ul, rfl, hbs', h0', h1', h2', f0, f1, f2⟩ := hc' k hlt
      have HCALL : Hid (∀ q, Calls Try.prog 29 #[savedV xs[k].1 vb vl, savedV xs[k].1 ub ul] (wr'.drewN q) _) := fun q =>
        eqSaved_same xs[k].1 vb vl ub ul xs[k].2.1 xs[k].2.2 (wr'.drewN q) (h1.below (below_drewN q (Below.refl _ _)) (Nat.le_refl _)) (h2.ints.1.below (below_drewN q (Below.refl _ _)) (Nat.le_refl _)) (h1'.below (below_drewN q (Below.refl _ _)) (Nat.le_refl _)) (h2'.ints.1.below (below_drewN q (Below.refl _ _)) (Nat.le_refl _))
      obtain ⟨x0, hx0⟩ : ∃ x0, xs[k].1 = x0 := ⟨_, rfl⟩
      rw [hx0] at e0 f0 HCALL
      obtain ⟨_, p1, p2, rfl, _⟩ := h1
      obtain ⟨_, r1, r2, rfl, _⟩ := h2
      obtain ⟨_, s1, s2, rfl, _⟩ := h1'
      obtain ⟨_, t1, t2, rfl, _⟩ := h2'
      unfold savedV at HCALL
      have hk0 : (0 : Int) ≤ (k : Int) := by omega
      have hk1 : (k : Int) < (xs.length : Int) := by omega
      clear hc hc' hsl3 hsl4 h0 h0' hx0 hb
      go_wp2
      go_still_tail 8, (by kernel_rfl)
      go_wp2_with (go_at_call 29; refine (HCALL.out 1).mono ?_; rintro e W1 ⟨rfl, hb1⟩; have HB1 := Lib.hid ((below_drewN 1 HB.out).trans (hb1.mono (by have := HB.out.size; exact this))); clear hb1)
      go_roundw
      case rel => exact ⟨k + 1, by omega, by go_num, HB1.out⟩
      case measure => simp [intOf]; omega
    · clear hb
      go_wp2
      go_ret
      exact ⟨rfl, HB.out⟩
end Go.Proofs.Ytmakjgbldejcpaa
