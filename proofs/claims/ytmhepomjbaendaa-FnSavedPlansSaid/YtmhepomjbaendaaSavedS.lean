
/- Lists of saved plans: how they read; the laws' szSavedS, toSavedS, eqSavedS. Conditions: at most 2^20 numbers. -/
import Derived.Test.YtmhepomjbaendaaSaved
namespace Go.Proofs.Ytmhepomjbaendaa
open Go.RowKit
set_option linter.unusedVariables false
set_option linter.unusedSimpArgs false

abbrev SavedsR (w : World) (v : Value) (xs : List Sv) : Prop := SlR rSaved w v xs
theorem SavedsR.at_ {w : World} {v : Value} {xs : List Sv} (h : SavedsR w v xs) : ∃ a c, v = .slice a xs.length c ∧ xs.length ≤ c ∧ ∀ i (hi : i < xs.length), ∃ b o vt vs, a = some ⟨b, o, none⟩ ∧ b < w.heap.size ∧ xs[i].1.size ≤ maxLen ∧ TasksR w vt xs[i].2.1 ∧ SlR rInt w vs xs[i].2.2 ∧
    w.cell? ⟨b, o + i * 3, none⟩ = some (.string xs[i].1) ∧ w.cell? ⟨b, o + i * 3 + 1, none⟩ = some vt ∧ w.cell? ⟨b, o + i * 3 + 2, none⟩ = some vs := by
  obtain ⟨hm, a, c, hv, hcap, hc⟩ := h
  refine ⟨a, c, hv, hcap, fun i hi => ?_⟩
  obtain ⟨b, o, cs, ha, hbs, hr, hcell⟩ := hc i hi
  obtain ⟨vt, vs, rfl, h1, h2, h3⟩ := saved_cells.1 hr
  exact ⟨b, o, vt, vs, ha, hbs, h1, h2, h3, hcell 0 (by simp), hcell 1 (by simp), hcell 2 (by simp)⟩
def smallSaveds (xs : List Sv) : Prop := xs.length ≤ 1048576 ∧ ∀ x ∈ xs, smallSaved x

theorem FillR.put3 {α : Type} {r : Rdr α} {N : Nat} {w : World} {raw : List Value} {xs : List α} {k : Nat} (h : FillR r N w raw xs k) (h3 : r.size = 3) (c0 c1 c2 : Value) (hk : k < xs.length) (hl : raw.length = xs.length * 3) (hx : FreshR r N w [c0, c1, c2] xs[k]) :
    FillR r N w (((raw.set (k * 3) c0).set (k * 3 + 1) c1).set (k * 3 + 2) c2) xs (k + 1) := by
  intro i hi hik
  by_cases he : i = k
  · subst he
    refine ⟨_, hx, fun j hj => ?_⟩
    rw [h3]
    have hj3 : j < 3 := by simpa using hj
    match j, hj3 with
    | 0, _ => simp [List.getElem?_set]; omega
    | 1, _ => simp [List.getElem?_set]; omega
    | 2, _ => simp [List.getElem?_set]; omega
  · obtain ⟨cs, h1, h2⟩ := h i hi (by omega)
    refine ⟨cs, h1, fun j hj => ?_⟩
    have h4 := h2 j hj
    have hj3 : j < 3 := by have := r.len h1.now; omega
    rw [h3] at h4 ⊢
    rw [List.getElem?_set_ne (by omega), List.getElem?_set_ne (by omega), List.getElem?_set_ne (by omega)]
    exact h4

theorem info_saved : (Try.prog.info? 44).map (fun i => (i.zero, i.size, i.bytes)) = some (some (.agg #[.string { data := #[] }, .slice none 0 0, .slice none 0 0]), 3, 64) := by kernel_rfl

set_option maxRecDepth 100000 in
set_option maxHeartbeats 1000000 in
theorem eqSavedS_same (v u : Value) (xs : List Sv) (w : World) (hv : SavedsR w v xs) (hu : SavedsR w u xs) :
    Calls Try.prog 48 #[v, u] w fun e w' => e = .returned (.bool true) ∧ Below w.heap.size w w' := by
  have HV : Hid (∀ W, Below w.heap.size w W → SavedsR W v xs) := fun W hW => hv.below hW (Nat.le_refl _)
  have HU : Hid (∀ W, Below w.heap.size w W → SavedsR W u xs) := fun W hW => hu.below hW (Nat.le_refl _)
  have hm0 := hv.1
  unfold maxLen at hm0
  obtain ⟨a, c, rfl, hcap, _⟩ := hv.at_
  obtain ⟨a', c', rfl, hcap', _⟩ := hu.at_
  clear hv hu
  go_enter Try.func48, Try.ntmps48
  go_wp2
  go_loopw [5] (fun i wr => ∃ k : Nat, k ≤ xs.length ∧ i = .int .i64 k ∧ Below w.heap.size w wr) (fun i _ => xs.length - (intOf i).toNat)
  case atStart => exact ⟨0, Nat.zero_le _, rfl, Below.refl _ _⟩
  case round =>
    obtain ⟨k, hk, rfl, hb⟩ := hrel
    obtain ⟨wr', rfl⟩ : ∃ wr' : World, wr' = wr := ⟨_, rfl⟩
    have HB := Lib.hid hb
    by_cases hlt : k < xs.length
    · obtain ⟨a3, c3, hsl3, _, hc⟩ := (HV.out wr' hb).at_
      obtain ⟨rfl, rfl⟩ : a = a3 ∧ c = c3 := by simpa using hsl3
      obtain ⟨b, o, vb, vl, rfl, hbs, h0, h1, h2, e0, e1, e2⟩ := hc k hlt
      obtain ⟨a4, c4, hsl4, _, hc'⟩ := (HU.out wr' hb).at_
      obtain ⟨rfl, rfl⟩ : a' = a4 ∧ c' = c4 := by simpa using hsl4
      obtain ⟨b', o', ub, ul, rfl, hbs', h0', h1', h2', f0, f1, f2⟩ := hc' k hlt
      have HCALL : Hid (∀ q, Calls Try.prog 44 #[savedV xs[k].1 vb vl, savedV xs[k].1 ub ul] (wr'.drewN q) _) := fun q =>
        eqSaved_same xs[k].1 vb vl ub ul xs[k].2.1 xs[k].2.2 (wr'.drewN q) (h1.below (below_drewN q (Below.refl _ _)) (Nat.le_refl _)) (h2.ints.1.below (below_drewN q (Below.refl _ _)) (Nat.le_refl _)) (h1'.below (below_drewN q (Below.refl _ _)) (Nat.le_refl _)) (h2'.ints.1.below (below_drewN q (Below.refl _ _)) (Nat.le_refl _))
      obtain ⟨x0, hx0⟩ : ∃ x0, xs[k].1 = x0 := ⟨_, rfl⟩
      rw [hx0] at e0 f0 HCALL
      obtain ⟨_, p1, p2, rfl, _⟩ := h1
      obtain ⟨_, r1, r2, rfl, _⟩ := h2
      obtain ⟨_, s1, s2, rfl, _⟩ := h1'
      obtain ⟨_, t1, t2, rfl, _⟩ := h2'
      unfold savedV at HCALL
      have hk0 : (0 : Int) ≤ (k : Int) := by omega
      have hk1 : (k : Int) < (xs.length : Int) := by omega
      clear hc hc' hsl3 hsl4 h0 h0' hx0 hb
      go_wp2
      go_still_tail 8, (by kernel_rfl)
      go_wp2_with (go_at_call 44; refine (HCALL.out 1).mono ?_; rintro e W1 ⟨rfl, hb1⟩; have HB1 := Lib.hid ((below_drewN 1 HB.out).trans (hb1.mono (by have := HB.out.size; exact this))); clear hb1)
      go_roundw
      case rel => exact ⟨k + 1, by omega, by go_num, HB1.out⟩
      case measure => simp [intOf]; omega
    · clear hb
      go_wp2
      go_ret
      exact ⟨rfl, HB.out⟩
end Go.Proofs.Ytmhepomjbaendaa
