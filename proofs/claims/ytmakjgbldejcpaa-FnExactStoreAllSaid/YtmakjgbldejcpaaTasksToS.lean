
/- Tasks: the laws' toTaskS, eqTask, eqTaskS. Conditions: at most 2^20 numbers. -/
import Derived.Test.YtmakjgbldejcpaaTasksTo
namespace Go.Proofs.Ytmakjgbldejcpaa
open Go.RowKit
set_option linter.unusedVariables false
set_option linter.unusedSimpArgs false

theorem info_task : (Try.prog.info? 119).map (fun i => (i.zero, i.size, i.bytes)) = some (some (.agg #[.int .i64 0, .int .i64 0, .slice none 0 0, .slice none 0 0]), 4, 64) := by kernel_rfl

set_option maxRecDepth 100000 in
set_option maxHeartbeats 2000000 in
theorem toTaskS_any (v : Value) (xs : List Tk) (w : World) (hv : TasksR w v xs) (hs : smallTasks xs) :
    Calls Try.prog 85 #[v] w fun e w' => (∃ v', e = .returned v' ∧ FreshR (rSl rTask) w.heap.size w' [v'] xs) ∧ Below w.heap.size w w' := by
  have HV : Hid (∀ W, Below w.heap.size w W → TasksR W v xs) := fun W hW => hv.below hW (Nat.le_refl _)
  have hm0 := hv.1
  obtain ⟨a, c, rfl, hcap, hc⟩ := hv.at_
  obtain ⟨i0, hi, hz0, hz1, hz2⟩ := info_parts info_task
  have hl := hs.1
  have HS := Lib.hid hs
  unfold maxLen at hm0
  clear hc hv hs
  go_enter Try.func85, Try.ntmps85
  go_wp2_with (at_make; refine wpList_make_full _ rfl _ _ 48 rfl w.heap.size 119 i0 (.agg #[.int .i64 0, .int .i64 0, .slice none 0 0, .slice none 0 0]) 4 Try.underlying48 hi hz0 hz1 _ _ _ _ xs.length rfl rfl rfl rfl (by rw [hz2]; omega) (by unfold maxLen at *; omega) (Nat.le_refl _) ?_; intro w1 hown1 hgrow1)
  obtain ⟨g, hg⟩ : ∃ g, w.heap.size = g := ⟨_, rfl⟩
  obtain ⟨raw0, hO1⟩ : ∃ raw, OwnV 119 4 w1 g (.slice (some ⟨g, 0, none⟩) xs.length xs.length) xs.length raw := by subst hg; exact ⟨_, hown1⟩
  have HO1 := Lib.hid hO1
  have HB1 := Lib.hid ((Below.refl g w).grown hgrow1 (by omega) (fun k e => by cases e))
  have HG := Lib.hid hg
  rw [hg]
  clear hown1 hgrow1 hi hz0 hz1 hz2 hg hO1
  go_loopw [4] (fun vi wr => ∃ (k : Nat) (raw : List Value), k ≤ xs.length ∧ vi = .int .i64 k ∧ OwnV 119 4 wr g (.slice (some ⟨g, 0, none⟩) xs.length xs.length) xs.length raw ∧ FillR rTask (g + 1) wr raw xs k ∧ Below g w wr) (fun vi _ => xs.length - (intOf vi).toNat)
  case atStart => exact ⟨0, _, Nat.zero_le _, rfl, HO1.out, fun i _ h => by omega, HB1.out⟩
  case round =>
    obtain ⟨k, raw, hk, rfl, hO, hF, hB⟩ := hrel
    obtain ⟨wr', rfl⟩ : ∃ wr' : World, wr' = wr := ⟨_, rfl⟩
    have HO := Lib.hid hO
    have HF := Lib.hid hF
    have HB := Lib.hid hB
    have hgl := (hO.lt g rfl).2
    clear hO hF hB HO1 HB1
    by_cases hkl : k < xs.length
    · have hV := HV.out wr' (by rw [HG.out]; exact HB.out)
      obtain ⟨a3, c3, hsl3, _, hc⟩ := hV.at_
      obtain ⟨rfl, rfl⟩ : a = a3 ∧ c = c3 := by simpa using hsl3
      obtain ⟨b, o, vb, vl, rfl, hbs, h1, h2, y0, y1, e0, e1, e2, e3⟩ := hc k hkl
      have hsm := HS.out.2 _ (List.getElem_mem hkl)
      have hto := toTask_any xs[k].1 xs[k].2.1 vb vl xs[k].2.2.1 xs[k].2.2.2 wr' h1 h2 hsm.1 hsm.2 y0 y1
      have HX : Hid ((xs[k].1, xs[k].2.1, xs[k].2.2.1, xs[k].2.2.2) = xs[k]) := rfl
      obtain ⟨x0, hx0⟩ : ∃ x0, xs[k].1 = x0 := ⟨_, rfl⟩
      obtain ⟨x1, hx1⟩ : ∃ x1, xs[k].2.1 = x1 := ⟨_, rfl⟩
      rw [hx0] at e0 hto HX
      rw [hx1] at e1 hto HX
      have k0 : (0 : Int) ≤ (k : Int) := by omega
      have k1 : (k : Int) < (xs.length : Int) := by omega
      have hlen := HO.out.length
      have HTO := Lib.hid hto
      have HLEN := Lib.hid hlen
      clear hto hc hsl3 h1 h2 hx0 hx1 hV hsm y0 y1 hlen
      go_wp2_with fail
      refine HTO.out.mono ?_
      rintro e W1 ⟨⟨ub, ul, rfl, hfr⟩, hb1⟩
      obtain ⟨ua, uc, rfl⟩ : ∃ a c, ub = .slice a xs[k].2.2.1.length c := by obtain ⟨vb', vl', he, _, _, h3, _⟩ := task_cells.1 hfr.now; obtain ⟨_, a, c, h, _⟩ := h3.ints.1; simp at he; exact ⟨a, c, by rw [he.1]; exact h⟩
      obtain ⟨ulb, ulc, rfl⟩ : ∃ a c, ul = .slice a xs[k].2.2.2.length c := by obtain ⟨vb', vl', he, _, _, _, h3⟩ := task_cells.1 hfr.now; obtain ⟨_, a, c, h, _⟩ := h3.ints.1; simp at he; exact ⟨a, c, by rw [he.2]; exact h⟩
      have hO1 := HO.out.below hb1 (Nat.le_refl _)
      have hF1 := HF.out.later (Agree.below hb1 (Nat.le_refl _))
      have hfr2 := hfr.mono (show g + 1 ≤ wr'.heap.size by omega)
      have hB1 := HB.out.trans (hb1.mono (by omega))
      have hput := hF1.put4 rfl _ _ _ _ hkl HLEN.out (by rw [← HX.out]; exact hfr2)
      obtain ⟨s0, f0, o0, _⟩ := hO1.store (k * 4) (by rw [HLEN.out]; omega) (.int .i64 x0)
      obtain ⟨s1, f1, o1, _⟩ := o0.store (k * 4 + 1) (by rw [List.length_set, HLEN.out]; omega) (.int .i64 x1)
      obtain ⟨s2, f2, o2, _⟩ := o1.store (k * 4 + 2) (by rw [List.length_set, List.length_set, HLEN.out]; omega) (.slice ua xs[k].2.2.1.length uc)
      obtain ⟨s3, f3, o3, _⟩ := o2.store (k * 4 + 3) (by rw [List.length_set, List.length_set, List.length_set, HLEN.out]; omega) (.slice ulb xs[k].2.2.2.length ulc)
      have t1 := (hO1.store (k * 4 + 1) (by rw [HLEN.out]; omega) (.bool true)).1
      have t2 := (hO1.store (k * 4 + 2) (by rw [HLEN.out]; omega) (.bool true)).1
      have t3 := (hO1.store (k * 4 + 3) (by rw [HLEN.out]; omega) (.bool true)).1
      have z1 := (hO1.store (k * 4 + 1) (by rw [HLEN.out]; omega) (.bool true)).2.1
      have z2 := (hO1.store (k * 4 + 2) (by rw [HLEN.out]; omega) (.bool true)).2.1
      have z3 := (hO1.store (k * 4 + 3) (by rw [HLEN.out]; omega) (.bool true)).2.1
      have HO3 := Lib.hid o3
      have HPUT := Lib.hid hput
      have HB1 := Lib.hid hB1
      clear s1 f1 o0 s2 f2 o1 s3 f3 o2 o3 hfr hfr2 hput hb1 hO1 hF1 hB1
      go_wp2_with fail
      go_roundw
      case rel => exact ⟨k + 1, _, by omega, by go_num, HO3.out, HPUT.out.later ((((Agree.setCell _ ⟨g, k * 4, none⟩ _ (by show g < g + 1; omega)).trans (Agree.setCell _ ⟨g, k * 4 + 1, none⟩ _ (by show g < g + 1; omega))).trans (Agree.setCell _ ⟨g, k * 4 + 2, none⟩ _ (by show g < g + 1; omega))).trans (Agree.setCell _ ⟨g, k * 4 + 3, none⟩ _ (by show g < g + 1; omega))), (((HB1.out.setCell (p := ⟨g, k * 4, none⟩) (Nat.le_refl _) _).setCell (p := ⟨g, k * 4 + 1, none⟩) (Nat.le_refl _) _).setCell (p := ⟨g, k * 4 + 2, none⟩) (Nat.le_refl _) _).setCell (p := ⟨g, k * 4 + 3, none⟩) (Nat.le_refl _) _⟩
      case measure => simp [intOf]; omega
    · obtain rfl : k = xs.length := by omega
      clear hkl
      go_wp2_with fail
      go_ret
      rw [HG.out]
      exact ⟨⟨_, rfl, FillR.done HO.out HF.out (by unfold maxLen; omega)⟩, HB.out⟩

set_option maxRecDepth 100000 in
set_option maxHeartbeats 1000000 in
theorem eqTask_same (a0 a1 : Int) (vb vl ub ul : Value) (bs ls : List Int) (w : World) (hb : Ints w vb bs) (hl : Ints w vl ls) (hb' : Ints w ub bs) (hl' : Ints w ul ls) :
    Calls Try.prog 134 #[.agg #[.int .i64 a0, .int .i64 a1, vb, vl], .agg #[.int .i64 a0, .int .i64 a1, ub, ul]] w fun e w' => e = .returned (.bool true) ∧ Below w.heap.size w w' := by
  have H1 : Hid (∀ W, Below w.heap.size w W → Calls Try.prog 43 #[vb, ub] W fun e w' => e = .returned (.bool true) ∧ Below W.heap.size W w') := fun W hW => by
    have := eqInt64S_any vb ub bs bs W (hb.below hW (Nat.le_refl _)) (hb'.below hW (Nat.le_refl _)); rwa [beq_self_eq_true] at this
  have H2 : Hid (∀ W, Below w.heap.size w W → Calls Try.prog 43 #[vl, ul] W fun e w' => e = .returned (.bool true) ∧ Below W.heap.size W w') := fun W hW => by
    have := eqInt64S_any vl ul ls ls W (hl.below hW (Nat.le_refl _)) (hl'.below hW (Nat.le_refl _)); rwa [beq_self_eq_true] at this
  obtain ⟨_, b1, b2, rfl, _⟩ := hb
  obtain ⟨_, l1, l2, rfl, _⟩ := hl
  obtain ⟨_, b3, b4, rfl, _⟩ := hb'
  obtain ⟨_, l3, l4, rfl, _⟩ := hl'
  go_enter Try.func134, Try.ntmps134
  go_wp2_with fail
  obtain ⟨W0, hW0⟩ : ∃ W0, ((w.alloc (.cells #[.int .i64 a0, .int .i64 a1, .slice b1 bs.length b2, .slice l1 ls.length l2] 119)).alloc (.cells #[.int .i64 a0, .int .i64 a1, .slice b3 bs.length b4, .slice l3 ls.length l4] 119)) = W0 := ⟨_, rfl⟩
  have hB0 : Below w.heap.size w W0 := by rw [← hW0]; exact ((Below.refl _ w).alloc (Nat.le_refl _) _).alloc (by simp) _
  have k1 : Blk W0 w.heap.size 119 [.int .i64 a0, .int .i64 a1, .slice b1 bs.length b2, .slice l1 ls.length l2] := by rw [← hW0]; exact (Blk.new w _ _).alloc _
  have k2 : Blk W0 (w.heap.size + 1) 119 [.int .i64 a0, .int .i64 a1, .slice b3 bs.length b4, .slice l3 ls.length l4] := by
    rw [← hW0]
    have := Blk.new (w.alloc (.cells #[.int .i64 a0, .int .i64 a1, .slice b1 bs.length b2, .slice l1 ls.length l2] 119)) 119 [.int .i64 a0, .int .i64 a1, .slice b3 bs.length b4, .slice l3 ls.length l4]
    rwa [World.size_alloc] at this
  rw [hW0]
  have HB0 := Lib.hid hB0
  have l1' := k1.lt
  have l2' := k2.lt
  clear hW0 hB0
  refine (H1.out W0 HB0.out).mono ?_
  rintro e W1 ⟨rfl, hb1⟩
  have m1 := k1.below hb1 l1'
  have m2 := k2.below hb1 l2'
  have c1 := m1.cell 3 _ rfl
  have c2 := m2.cell 3 _ rfl
  have HB1 := Lib.hid (HB0.out.trans (hb1.mono HB0.out.size))
  clear hb1 m1 m2 k1 k2
  go_wp2_with fail
  refine (H2.out W1 HB1.out).mono ?_
  rintro e W2 ⟨rfl, hb2⟩
  have HB2 := Lib.hid (HB1.out.trans (hb2.mono HB1.out.size))
  clear hb2
  go_wp2
  go_ret
  exact ⟨rfl, HB2.out⟩

set_option maxRecDepth 100000 in
set_option maxHeartbeats 1000000 in
theorem eqTaskS_same (v u : Value) (xs : List Tk) (w : World) (hv : TasksR w v xs) (hu : TasksR w u xs) :
    Calls Try.prog 89 #[v, u] w fun e w' => e = .returned (.bool true) ∧ Below w.heap.size w w' := by
  have HV : Hid (∀ W, Below w.heap.size w W → TasksR W v xs) := fun W hW => hv.below hW (Nat.le_refl _)
  have HU : Hid (∀ W, Below w.heap.size w W → TasksR W u xs) := fun W hW => hu.below hW (Nat.le_refl _)
  have hm0 := hv.1
  unfold maxLen at hm0
  obtain ⟨a, c, rfl, hcap, _⟩ := hv.at_
  obtain ⟨a', c', rfl, hcap', _⟩ := hu.at_
  clear hv hu
  go_enter Try.func89, Try.ntmps89
  go_wp2
  go_loopw [5] (fun i wr => ∃ k : Nat, k ≤ xs.length ∧ i = .int .i64 k ∧ Below w.heap.size w wr) (fun i _ => xs.length - (intOf i).toNat)
  case atStart => exact ⟨0, Nat.zero_le _, rfl, Below.refl _ _⟩
  case round =>
    obtain ⟨k, hk, rfl, hb⟩ := hrel
    obtain ⟨wr', rfl⟩ : ∃ wr' : World, wr' = wr := ⟨_, rfl⟩
    have HB := Lib.hid hb
    by_cases hlt : k < xs.length
    · obtain ⟨a3, c3, hsl3, _, hc⟩ := (HV.out wr' hb).at_
      obtain ⟨rfl, rfl⟩ : a = a3 ∧ c = c3 := by simpa using hsl3
      obtain ⟨b, o, vb, vl, rfl, hbs, h1, h2, _, _, e0, e1, e2, e3⟩ := hc k hlt
      obtain ⟨a4, c4, hsl4, _, hc'⟩ := (HU.out wr' hb).at_
      obtain ⟨rfl, rfl⟩ : a' = a4 ∧ c' = c4 := by simpa using hsl4
      obtain ⟨b', o', ub, ul, rfl, hbs', h1', h2', _, _, f0, f1, f2, f3⟩ := hc' k hlt
      have HCALL : Hid (∀ q, Calls Try.prog 134 #[.agg #[.int .i64 xs[k].1, .int .i64 xs[k].2.1, vb, vl], .agg #[.int .i64 xs[k].1, .int .i64 xs[k].2.1, ub, ul]] (wr'.drewN q) _) := fun q =>
        eqTask_same xs[k].1 xs[k].2.1 vb vl ub ul xs[k].2.2.1 xs[k].2.2.2 (wr'.drewN q) (h1.ints.1.below (below_drewN q (Below.refl _ _)) (Nat.le_refl _)) (h2.ints.1.below (below_drewN q (Below.refl _ _)) (Nat.le_refl _)) (h1'.ints.1.below (below_drewN q (Below.refl _ _)) (Nat.le_refl _)) (h2'.ints.1.below (below_drewN q (Below.refl _ _)) (Nat.le_refl _))
      obtain ⟨x0, hx0⟩ : ∃ x0, xs[k].1 = x0 := ⟨_, rfl⟩
      obtain ⟨x1, hx1⟩ : ∃ x1, xs[k].2.1 = x1 := ⟨_, rfl⟩
      rw [hx0] at e0 f0 HCALL
      rw [hx1] at e1 f1 HCALL
      have hk0 : (0 : Int) ≤ (k : Int) := by omega
      have hk1 : (k : Int) < (xs.length : Int) := by omega
      clear hc hc' hsl3 hsl4 h1 h2 h1' h2' hx0 hx1 hb
      go_wp2
      go_still_tail 8, (by kernel_rfl)
      go_wp2_with (go_at_call 134; refine (HCALL.out 1).mono ?_; rintro e W1 ⟨rfl, hb1⟩; have HB1 := Lib.hid ((below_drewN 1 HB.out).trans (hb1.mono (by have := HB.out.size; exact this))); clear hb1)
      go_roundw
      case rel => exact ⟨k + 1, by omega, by go_num, HB1.out⟩
      case measure => simp [intOf]; omega
    · clear hb
      go_wp2
      go_ret
      exact ⟨rfl, HB.out⟩
end Go.Proofs.Ytmakjgbldejcpaa
