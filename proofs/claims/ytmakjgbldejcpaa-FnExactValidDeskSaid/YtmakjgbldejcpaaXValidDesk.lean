
/- The walk of FnExactValidDesk. Conditions: none. -/
import Derived.Test.YtmakjgbldejcpaaValidBoth
import Derived.Deep.RegionWith
namespace Go.Proofs.Ytmakjgbldejcpaa
open Go.RowKit Go.BigFrame
set_option linter.unusedVariables false
set_option linter.unusedSimpArgs false

theorem FreshR.desk {k : Nat} {w : World} {uj uc : Value} {r : Rl} {p : ByteArray} {x : Dk} (h : FreshR rDesk k w (deskCells uj r uc p) x) : JobsR w uj x.1 ∧ SlR rInt w uc x.2.2.1 := by
  obtain ⟨vj, vc, he, h1, _, h2, _⟩ := desk_cells.1 h.now
  simp [deskCells] at he
  obtain ⟨rfl, _, _, _, _, _, rfl, _⟩ := he
  exact ⟨h1, h2⟩
theorem blk8 {W : World} {b : Nat} {T : TypeId} {vj vc : Value} {a0 a1 a2 a3 a4 : Int} {p : ByteArray} (k : Blk W b T [vj, .int .i64 a0, .int .i64 a1, .int .i64 a2, .int .i64 a3, .int .i64 a4, vc, .string p]) :
    W.cell? ⟨b, 0, none⟩ = some vj ∧ W.cell? ⟨b, 1, none⟩ = some (.int .i64 a0) ∧ W.cell? ⟨b, 2, none⟩ = some (.int .i64 a1) ∧ W.cell? ⟨b, 3, none⟩ = some (.int .i64 a2) ∧ W.cell? ⟨b, 4, none⟩ = some (.int .i64 a3) ∧ W.cell? ⟨b, 5, none⟩ = some (.int .i64 a4) ∧ W.cell? ⟨b, 6, none⟩ = some vc ∧ W.cell? ⟨b, 7, none⟩ = some (.string p) :=
  ⟨k.cell 0 _ rfl, k.cell 1 _ rfl, k.cell 2 _ rfl, k.cell 3 _ rfl, k.cell 4 _ rfl, k.cell 5 _ rfl, k.cell 6 _ rfl, k.cell 7 _ rfl⟩
theorem sl_form {α : Type} {r : Rdr α} {w : World} {v : Value} {xs : List α} (h : SlR r w v xs) : ∃ a c, v = .slice a xs.length c := by obtain ⟨_, a, c, h, _⟩ := h; exact ⟨a, c, h⟩

set_option maxRecDepth 100000 in
set_option maxHeartbeats 8000000 in
theorem walkFnExactValidDesk (a0 : Array Value) (x0 : Dk) (w : World) (w0 : rDesk.R w a0.toList x0) :
    Calls Try.prog 7 #[.agg a0] w fun e w' => e = .returned (.bool true) ∧ Below w.heap.size w w' := by
  obtain ⟨l⟩ := a0
  obtain ⟨js, r, cs, p⟩ := x0
  obtain ⟨vj, vc, hl, hj, hr, hc, hp⟩ := desk_cells.1 w0
  simp only at hl hj hr hc hp
  subst hl
  clear w0
  show Calls Try.prog 7 #[deskV vj r vc p] w _
  have HJ : Hid (∀ W, Below w.heap.size w W → JobsR W vj js) := fun W hW => hj.below hW (Nat.le_refl _)
  have HC : Hid (∀ W, Below w.heap.size w W → SlR rInt W vc cs) := fun W hW => hc.below hW (Nat.le_refl _)
  have HP := Lib.hid hp
  have HTA : Hid (smallDesk (js, r, cs, p) → ∀ W, Below w.heap.size w W → Calls Try.prog 22 #[deskV vj r vc p] W fun e w' => (∃ uj uc, e = .returned (deskV uj r uc p) ∧ FreshR rDesk W.heap.size w' (deskCells uj r uc p) (js, r, cs, p)) ∧ Below W.heap.size W w') := fun hsm W hW => toDesk_any vj r vc p js cs W (HJ.out W hW) (HC.out W hW) hp hr hsm
  have HSZA : Hid (∀ W, Below w.heap.size w W → Calls Try.prog 20 #[deskV vj r vc p, .int .i64 1048576] W fun e w' => (∃ q : Int, e = .returned (.int .i64 q) ∧ (q = -1 ∨ 0 ≤ q ∧ q ≤ 1048576 ∧ smallDesk (js, r, cs, p))) ∧ Below W.heap.size W w') := fun W hW => szDesk_any vj r vc p js cs 1048576 W (HJ.out W hW).jobs (HC.out W hW).ints.1 hp (by omega) (by omega)
  obtain ⟨ja, jc, rfl⟩ := sl_form hj
  obtain ⟨ca, cc, rfl⟩ := sl_form hc
  obtain ⟨r0, r1, r2, r3, r4⟩ := r
  unfold deskV at HTA HSZA ⊢
  clear hj hc hp hr
  go_enter Try.func7, Try.ntmps7
  go_wp2_with fail
  obtain ⟨A, hA⟩ : ∃ A, w.heap.size = A := ⟨_, rfl⟩
  obtain ⟨W0, hW0⟩ : ∃ W0, (w.alloc (.cells #[.slice ja js.length jc, .int .i64 r0, .int .i64 r1, .int .i64 r2, .int .i64 r3, .int .i64 r4, .slice ca cs.length cc, .string p] 34)) = W0 := ⟨_, rfl⟩
  have hB0 : Below w.heap.size w W0 := by rw [← hW0]; exact (Below.refl _ w).alloc (Nat.le_refl _) _
  have k1 : Blk W0 A 34 [.slice ja js.length jc, .int .i64 r0, .int .i64 r1, .int .i64 r2, .int .i64 r3, .int .i64 r4, .slice ca cs.length cc, .string p] := by rw [← hW0, ← hA]; exact Blk.new w _ _
  rw [hW0, hA]
  have HA := Lib.hid hA
  have HB0 := Lib.hid hB0
  have HK1 := Lib.hid k1
  clear hW0 hA hB0 k1
  refine (HSZA.out W0 HB0.out).mono ?_
  rintro e W1 ⟨⟨z1, rfl, hz1⟩, hb1⟩
  have HB1 := Lib.hid (HB0.out.trans (hb1.mono HB0.out.size))
  have HK11 := Lib.hid (HK1.out.below hb1 HK1.out.lt)
  clear hb1 HB0 HK1
  by_cases hn1 : z1 < 0
  · go_wp2
    go_ret
    exact ⟨rfl, HB1.out⟩
  have HSA : Hid (smallDesk (js, (r0, r1, r2, r3, r4), cs, p)) := by rcases hz1 with h | h; omega; exact h.2.2
  obtain ⟨d0, d1, d2, d3, d4, d5, d6, d7⟩ := blk8 HK11.out
  have HTA2 := Lib.hid (HTA.out HSA.out)
  clear hz1 HTA HSZA
  go_wp2_with fail
  refine (HTA2.out W1 HB1.out).mono ?_
  rintro e W2 ⟨⟨u2, c2, rfl, hf2⟩, hb2⟩
  obtain ⟨hj2, hc2⟩ := hf2.desk
  have HB2 := Lib.hid (HB1.out.trans (hb2.mono HB1.out.size))
  have HK2 := Lib.hid (HK11.out.below hb2 HK11.out.lt)
  have HSP := Lib.hid (specValidDesk_any u2 c2 (r0, r1, r2, r3, r4) p js cs W2 hj2.jobs hc2.ints.1 HP.out)
  clear hb2 hf2 hj2 hc2 HB1 HK11 d0 d1 d2 d3 d4 d5 d6 d7
  unfold deskV at HSP
  go_wp2_with fail
  refine HSP.out.mono ?_
  rintro e W3 ⟨rfl, hb3⟩
  have HB3 := Lib.hid (HB2.out.trans (hb3.mono HB2.out.size))
  have HK3 := Lib.hid (HK2.out.below hb3 HK2.out.lt)
  obtain ⟨d0, d1, d2, d3, d4, d5, d6, d7⟩ := blk8 HK3.out
  clear hb3 HB2 HK2 HSP
  go_wp2_with fail
  refine (HTA2.out W3 HB3.out).mono ?_
  rintro e W4 ⟨⟨u4, c4, rfl, hf4⟩, hb4⟩
  obtain ⟨ua, ub, rfl⟩ := sl_form hf4.desk.1
  obtain ⟨va, vb, rfl⟩ := sl_form hf4.desk.2
  have HB4 := Lib.hid (HB3.out.trans (hb4.mono HB3.out.size))
  have HK4 := Lib.hid (HK3.out.below hb4 HK3.out.lt)
  have HF4 := Lib.hid hf4
  clear hb4 hf4 HB3 HK3 d0 d1 d2 d3 d4 d5 d6 d7
  go_wp2_with fail
  obtain ⟨B, hB⟩ : ∃ B, W4.heap.size = B := ⟨_, rfl⟩
  obtain ⟨W5, hW5⟩ : ∃ W5, W4.alloc (.cells #[.slice ua js.length ub, .int .i64 r0, .int .i64 r1, .int .i64 r2, .int .i64 r3, .int .i64 r4, .slice va cs.length vb, .string p] 40) = W5 := ⟨_, rfl⟩
  have hb45 : Below B W4 W5 := by rw [← hW5]; exact (Below.refl _ W4).alloc (by omega) _
  have k5 : Blk W5 B 40 [.slice ua js.length ub, .int .i64 r0, .int .i64 r1, .int .i64 r2, .int .i64 r3, .int .i64 r4, .slice va cs.length vb, .string p] := by rw [← hW5, ← hB]; exact Blk.new W4 _ _
  have HB5 : Hid (Below w.heap.size w W5) := HB4.out.trans (hb45.mono (by have := HB4.out.size; omega))
  have HK5 := Lib.hid (HK4.out.below hb45 (by have := HK4.out.lt; omega))
  have HF5 := Lib.hid (HF4.out.later (Agree.below hb45 (by omega)))
  have HA5 := Lib.hid k5
  have HVD := Lib.hid (validDesk_any (.slice ua js.length ub) (.slice va cs.length vb) (r0, r1, r2, r3, r4) p js cs W5 HF5.out.desk.1.jobs HF5.out.desk.2.ints.1 HP.out)
  rw [hW5, hB]
  unfold deskV at HVD
  clear hW5 hb45 k5 hB HB4 HK4 HF4
  refine HVD.out.mono ?_
  rintro e W6 ⟨rfl, hb6⟩
  have HB6 := Lib.hid (HB5.out.trans (hb6.mono HB5.out.size))
  have HK6 := Lib.hid (HK5.out.below hb6 HK5.out.lt)
  have HA6 := Lib.hid (HA5.out.below hb6 HA5.out.lt)
  have HM6 : Hid (∀ W, Below W6.heap.size W6 W → JobsR W (.slice ua js.length ub) js ∧ Ints W (.slice va cs.length vb) cs) := fun W hW => ⟨(HF5.out.desk.1.below hb6 (Nat.le_refl _)).below hW (Nat.le_refl _), (HF5.out.desk.2.ints.1.below hb6 (Nat.le_refl _)).below hW (Nat.le_refl _)⟩
  obtain ⟨d0, d1, d2, d3, d4, d5, d6, d7⟩ := blk8 HK6.out
  obtain ⟨f0, f1, f2, f3, f4, f5, f6, f7⟩ := blk8 HA6.out
  clear hb6 HB5 HK5 HF5 HA5 HVD
  go_wp2_with fail
  go_region_with (first
    | (go_at_call 22; refine (HTA2.out _ HB6.out.drew).mono ?_; rintro e W7 ⟨⟨u7, c7, rfl, hf7⟩, hb7⟩; have hb67 : Below W6.heap.size W6 W7 := ((Below.refl _ W6).drew).trans (hb7.mono (by simp)); have HB67 := Lib.hid hb67; obtain ⟨g0, g1, g2, g3, g4, g5, g6, g7⟩ := blk8 (HA6.out.below hb67 HA6.out.lt); have HF7 := Lib.hid hf7; clear hb7 hb67 hf7)
    | (go_at_call 24; refine (eqDesk_same (.slice ua js.length ub) u7 js (r0, r1, r2, r3, r4) (.slice va cs.length vb) c7 cs p W7 ?_ ?_ ?_ ?_).mono ?_; exact (HM6.out _ HB67.out).1.jobs; exact HF7.out.desk.1.jobs; exact (HM6.out _ HB67.out).2; exact HF7.out.desk.2.ints.1; rintro e W8 ⟨rfl, hb8⟩; have HB8 := Lib.hid (HB6.out.trans ((HB67.out.trans (hb8.mono HB67.out.size)).mono HB6.out.size)); clear hb8))
  all_goals
    go_wp2
    go_ret
    exact ⟨rfl, HB8.out⟩
end Go.Proofs.Ytmakjgbldejcpaa
