
/- The walk of FnExactSameDesk. Conditions: none. -/
import Derived.Test.YtmakjgbldejcpaaSameDesk
import Derived.Deep.RegionWith
namespace Go.Proofs.Ytmakjgbldejcpaa
open Go.RowKit Go.BigFrame
set_option linter.unusedVariables false
set_option linter.unusedSimpArgs false

theorem FreshR.desk {k : Nat} {w : World} {uj uc : Value} {r : Rl} {p : ByteArray} {x : Dk} (h : FreshR rDesk k w (deskCells uj r uc p) x) : JobsR w uj x.1 ∧ SlR rInt w uc x.2.2.1 := by
  obtain ⟨vj, vc, he, h1, _, h2, _⟩ := desk_cells.1 h.now
  simp [deskCells] at he
  obtain ⟨rfl, _, _, _, _, _, rfl, _⟩ := he
  exact ⟨h1, h2⟩
theorem blk8 {W : World} {b : Nat} {T : TypeId} {vj vc : Value} {a0 a1 a2 a3 a4 : Int} {p : ByteArray} (k : Blk W b T [vj, .int .i64 a0, .int .i64 a1, .int .i64 a2, .int .i64 a3, .int .i64 a4, vc, .string p]) :
    W.cell? ⟨b, 0, none⟩ = some vj ∧ W.cell? ⟨b, 1, none⟩ = some (.int .i64 a0) ∧ W.cell? ⟨b, 2, none⟩ = some (.int .i64 a1) ∧ W.cell? ⟨b, 3, none⟩ = some (.int .i64 a2) ∧ W.cell? ⟨b, 4, none⟩ = some (.int .i64 a3) ∧ W.cell? ⟨b, 5, none⟩ = some (.int .i64 a4) ∧ W.cell? ⟨b, 6, none⟩ = some vc ∧ W.cell? ⟨b, 7, none⟩ = some (.string p) :=
  ⟨k.cell 0 _ rfl, k.cell 1 _ rfl, k.cell 2 _ rfl, k.cell 3 _ rfl, k.cell 4 _ rfl, k.cell 5 _ rfl, k.cell 6 _ rfl, k.cell 7 _ rfl⟩
theorem cut_share {P G : Prop} (main : P) (cont : P → G) : G := cont main
theorem sl_form {α : Type} {r : Rdr α} {w : World} {v : Value} {xs : List α} (h : SlR r w v xs) : ∃ a c, v = .slice a xs.length c := by obtain ⟨_, a, c, h, _⟩ := h; exact ⟨a, c, h⟩

set_option maxRecDepth 100000 in
set_option maxHeartbeats 8000000 in
theorem walkFnExactSameDesk (a0 : Array Value) (x0 : Dk) (a1 : Array Value) (x1 : Dk) (w : World) (w0 : rDesk.R w a0.toList x0) (w1 : rDesk.R w a1.toList x1) :
    Calls Try.prog 4 #[.agg a0, .agg a1] w fun e w' => e = .returned (.bool true) ∧ Below w.heap.size w w' := by
  obtain ⟨l⟩ := a0
  obtain ⟨l'⟩ := a1
  obtain ⟨js, r, cs, p⟩ := x0
  obtain ⟨ks, s, ds, q⟩ := x1
  obtain ⟨vj, vc, hl, hj, hr, hc, hp⟩ := desk_cells.1 w0
  obtain ⟨uj, uc, hl', hk, hs, hd, hq⟩ := desk_cells.1 w1
  simp only at hl hj hr hc hp hl' hk hs hd hq
  subst hl
  subst hl'
  clear w0 w1
  show Calls Try.prog 4 #[deskV vj r vc p, deskV uj s uc q] w _
  have HJ : Hid (∀ W, Below w.heap.size w W → JobsR W vj js) := fun W hW => hj.below hW (Nat.le_refl _)
  have HK : Hid (∀ W, Below w.heap.size w W → JobsR W uj ks) := fun W hW => hk.below hW (Nat.le_refl _)
  have HC : Hid (∀ W, Below w.heap.size w W → SlR rInt W vc cs) := fun W hW => hc.below hW (Nat.le_refl _)
  have HD : Hid (∀ W, Below w.heap.size w W → SlR rInt W uc ds) := fun W hW => hd.below hW (Nat.le_refl _)
  have HP := Lib.hid hp
  have HQ := Lib.hid hq
  have HTA : Hid (smallDesk (js, r, cs, p) → ∀ W, Below w.heap.size w W → Calls Try.prog 22 #[deskV vj r vc p] W fun e w' => (∃ uj uc, e = .returned (deskV uj r uc p) ∧ FreshR rDesk W.heap.size w' (deskCells uj r uc p) (js, r, cs, p)) ∧ Below W.heap.size W w') := fun hsm W hW => toDesk_any vj r vc p js cs W (HJ.out W hW) (HC.out W hW) hp hr hsm
  have HTB : Hid (smallDesk (ks, s, ds, q) → ∀ W, Below w.heap.size w W → Calls Try.prog 22 #[deskV uj s uc q] W fun e w' => (∃ uj uc, e = .returned (deskV uj s uc q) ∧ FreshR rDesk W.heap.size w' (deskCells uj s uc q) (ks, s, ds, q)) ∧ Below W.heap.size W w') := fun hsm W hW => toDesk_any uj s uc q ks ds W (HK.out W hW) (HD.out W hW) hq hs hsm
  have HSZA : Hid (∀ W, Below w.heap.size w W → Calls Try.prog 20 #[deskV vj r vc p, .int .i64 1048576] W fun e w' => (∃ q : Int, e = .returned (.int .i64 q) ∧ (q = -1 ∨ 0 ≤ q ∧ q ≤ 1048576 ∧ smallDesk (js, r, cs, p))) ∧ Below W.heap.size W w') := fun W hW => szDesk_any vj r vc p js cs 1048576 W (HJ.out W hW).jobs (HC.out W hW).ints.1 hp (by omega) (by omega)
  have HSZB : Hid (∀ left, 0 ≤ left → left ≤ 1048576 → ∀ W, Below w.heap.size w W → Calls Try.prog 20 #[deskV uj s uc q, .int .i64 left] W fun e w' => (∃ q2 : Int, e = .returned (.int .i64 q2) ∧ (q2 = -1 ∨ 0 ≤ q2 ∧ q2 ≤ left ∧ smallDesk (ks, s, ds, q))) ∧ Below W.heap.size W w') := fun left h0 h1 W hW => szDesk_any uj s uc q ks ds left W (HK.out W hW).jobs (HD.out W hW).ints.1 hq h0 h1
  obtain ⟨ja, jc, rfl⟩ := sl_form hj
  obtain ⟨ka, kc, rfl⟩ := sl_form hk
  obtain ⟨ca, cc, rfl⟩ := sl_form hc
  obtain ⟨da, dc, rfl⟩ := sl_form hd
  obtain ⟨r0, r1, r2, r3, r4⟩ := r
  obtain ⟨s0, s1, s2, s3, s4⟩ := s
  unfold deskV at HTA HTB HSZA HSZB ⊢
  clear hj hk hc hd hp hq hr hs
  go_enter Try.func4, Try.ntmps4
  go_wp2_with fail
  obtain ⟨A, hA⟩ : ∃ A, w.heap.size = A := ⟨_, rfl⟩
  obtain ⟨W0, hW0⟩ : ∃ W0, (w.alloc (.cells #[.slice ja js.length jc, .int .i64 r0, .int .i64 r1, .int .i64 r2, .int .i64 r3, .int .i64 r4, .slice ca cs.length cc, .string p] 34)).alloc (.cells #[.slice ka ks.length kc, .int .i64 s0, .int .i64 s1, .int .i64 s2, .int .i64 s3, .int .i64 s4, .slice da ds.length dc, .string q] 34) = W0 := ⟨_, rfl⟩
  have hB0 : Below w.heap.size w W0 := by rw [← hW0]; exact ((Below.refl _ w).alloc (Nat.le_refl _) _).alloc (by simp) _
  have k1 : Blk W0 A 34 [.slice ja js.length jc, .int .i64 r0, .int .i64 r1, .int .i64 r2, .int .i64 r3, .int .i64 r4, .slice ca cs.length cc, .string p] := by rw [← hW0, ← hA]; exact (Blk.new w _ _).alloc _
  have k2 : Blk W0 (A + 1) 34 [.slice ka ks.length kc, .int .i64 s0, .int .i64 s1, .int .i64 s2, .int .i64 s3, .int .i64 s4, .slice da ds.length dc, .string q] := by
    rw [← hW0, ← hA]
    have := Blk.new (w.alloc (.cells #[.slice ja js.length jc, .int .i64 r0, .int .i64 r1, .int .i64 r2, .int .i64 r3, .int .i64 r4, .slice ca cs.length cc, .string p] 34)) 34 [.slice ka ks.length kc, .int .i64 s0, .int .i64 s1, .int .i64 s2, .int .i64 s3, .int .i64 s4, .slice da ds.length dc, .string q]
    rwa [World.size_alloc] at this
  rw [hW0, hA]
  have HA := Lib.hid hA
  have HB0 := Lib.hid hB0
  have HK1 := Lib.hid k1
  have HK2 := Lib.hid k2
  clear hW0 hA hB0 k1 k2
  refine (HSZA.out W0 HB0.out).mono ?_
  rintro e W1 ⟨⟨z1, rfl, hz1⟩, hb1⟩
  have HB1 := Lib.hid (HB0.out.trans (hb1.mono HB0.out.size))
  have HK11 := Lib.hid (HK1.out.below hb1 HK1.out.lt)
  have HK21 := Lib.hid (HK2.out.below hb1 HK2.out.lt)
  clear hb1 HB0 HK1 HK2
  by_cases hn1 : z1 < 0
  · go_wp2
    go_ret
    exact ⟨rfl, HB1.out⟩
  have HSA : Hid (0 ≤ z1 ∧ z1 ≤ 1048576 ∧ smallDesk (js, (r0, r1, r2, r3, r4), cs, p)) := by rcases hz1 with h | h; omega; exact h
  obtain ⟨d0, d1, d2, d3, d4, d5, d6, d7⟩ := blk8 HK21.out
  clear hz1
  go_wp2_with fail
  refine (HSZB.out z1 HSA.out.1 HSA.out.2.1 W1 HB1.out).mono ?_
  rintro e W2 ⟨⟨z2, rfl, hz2⟩, hb2⟩
  have HB2 := Lib.hid (HB1.out.trans (hb2.mono HB1.out.size))
  have HK12 := Lib.hid (HK11.out.below hb2 HK11.out.lt)
  have HK22 := Lib.hid (HK21.out.below hb2 HK21.out.lt)
  clear hb2 HB1 HK11 HK21 d0 d1 d2 d3 d4 d5 d6 d7
  by_cases hn2 : z2 < 0
  · go_wp2
    go_ret
    exact ⟨rfl, HB2.out⟩
  have HSB : Hid (smallDesk (ks, (s0, s1, s2, s3, s4), ds, q)) := by rcases hz2 with h | h; omega; exact h.2.2
  have HTA2 := Lib.hid (HTA.out HSA.out.2.2)
  have HTB2 := Lib.hid (HTB.out HSB.out)
  have HBIG : Hid (js.length ≤ 1048576 ∧ ks.length ≤ 1048576) := ⟨HSA.out.2.2.1, HSB.out.1⟩
  obtain ⟨d0, d1, d2, d3, d4, d5, d6, d7⟩ := blk8 HK12.out
  obtain ⟨e0, e1, e2, e3, e4, e5, e6, e7⟩ := blk8 HK22.out
  clear hz2 HTA HTB HSZA HSZB HSA HSB
  go_wp2_with fail
  refine cut_share (P := ?P8) ?main8 ?cont8
  case cont8 =>
    intro key
    go_region_with (first
      | (go_at_call_of 22 ja; refine (HTA2.out _ HB2.out.drew).mono ?_; rintro e W3 ⟨⟨u3, c3, rfl, hf3⟩, hb3⟩; have hb23 : Below W2.heap.size W2 W3 := ((Below.refl _ W2).drew).trans (hb3.mono (by simp)); have HB3 := Lib.hid (HB2.out.trans (hb23.mono HB2.out.size)); have HK13 := Lib.hid (HK12.out.below hb23 HK12.out.lt); have HK23 := Lib.hid (HK22.out.below hb23 HK22.out.lt); obtain ⟨e0, e1, e2, e3, e4, e5, e6, e7⟩ := blk8 HK23.out; have HF3 := Lib.hid hf3; clear hb3 hb23 hf3)
      | (go_at_call_of 22 ka; refine (HTB2.out _ HB3.out).mono ?_; rintro e W4 ⟨⟨u4, c4, rfl, hf4⟩, hb4⟩; have HB4 := Lib.hid (HB3.out.trans (hb4.mono HB3.out.size)); have HK14 := Lib.hid (HK13.out.below hb4 HK13.out.lt); have HK24 := Lib.hid (HK23.out.below hb4 HK23.out.lt); have HF4 := Lib.hid hf4; have HG3 := Lib.hid (HF3.out.later (Agree.below hb4 (Nat.le_refl _))); clear hb4 hf4)
      | (go_at_call 21; refine (specSameDesk_any u3 u4 c3 c4 (r0, r1, r2, r3, r4) (s0, s1, s2, s3, s4) p q js ks cs ds W4 ?_ ?_ ?_ ?_ ?_ ?_).mono ?_; exact HG3.out.desk.1.jobs; exact HF4.out.desk.1.jobs; exact HG3.out.desk.2.ints.1; exact HF4.out.desk.2.ints.1; exact HBIG.out.1; exact HBIG.out.2; rintro e W5 ⟨rfl, hb5⟩; have HB5 := Lib.hid (HB4.out.trans (hb5.mono HB4.out.size)); have HK15 := Lib.hid (HK14.out.below hb5 HK14.out.lt); have HK25 := Lib.hid (HK24.out.below hb5 HK24.out.lt); clear hb5))
    all_goals
      clear HF3 HF4 HG3
      revert u3 c3 u4 c4 W5
      exact key
  intro u3 c3 u4 c4 W5 HB5 HK15 HK25
  clear d0 d1 d2 d3 d4 d5 d6 d7 HK12 HK22
  obtain ⟨d0, d1, d2, d3, d4, d5, d6, d7⟩ := blk8 HK15.out
  have HSB := Lib.hid HBIG.out
  clear e0 e1 e2 e3 e4 e5 e6 e7
  go_wp2_with fail
  refine (HTA2.out _ HB5.out).mono ?_
  rintro e W6 ⟨⟨u6, c6, rfl, hf6⟩, hb6⟩
  obtain ⟨ua, ub, rfl⟩ := sl_form hf6.desk.1
  obtain ⟨va, vb, rfl⟩ := sl_form hf6.desk.2
  have HB6 := Lib.hid (HB5.out.trans (hb6.mono HB5.out.size))
  have HK16 := Lib.hid (HK15.out.below hb6 HK15.out.lt)
  have HK26 := Lib.hid (HK25.out.below hb6 HK25.out.lt)
  obtain ⟨e0, e1, e2, e3, e4, e5, e6, e7⟩ := blk8 HK26.out
  have hl6 := HK26.out.lt
  have HF6 := Lib.hid hf6
  clear hb6 hf6 d0 d1 d2 d3 d4 d5 d6 d7 HB5 HK15 HK25
  go_wp2_with fail
  obtain ⟨B, hB⟩ : ∃ B, W6.heap.size = B := ⟨_, rfl⟩
  obtain ⟨W7, hW7⟩ : ∃ W7, W6.alloc (.cells #[.slice ua js.length ub, .int .i64 r0, .int .i64 r1, .int .i64 r2, .int .i64 r3, .int .i64 r4, .slice va cs.length vb, .string p] 40) = W7 := ⟨_, rfl⟩
  have hb67 : Below B W6 W7 := by rw [← hW7]; exact (Below.refl _ W6).alloc (by omega) _
  have k7 : Blk W7 B 40 [.slice ua js.length ub, .int .i64 r0, .int .i64 r1, .int .i64 r2, .int .i64 r3, .int .i64 r4, .slice va cs.length vb, .string p] := by rw [← hW7, ← hB]; exact Blk.new W6 _ _
  have HB7 : Hid (Below w.heap.size w W7) := HB6.out.trans (hb67.mono (by have := HB6.out.size; omega))
  have HK17 := Lib.hid (HK16.out.below hb67 (by have := HK16.out.lt; omega))
  have HK27 := Lib.hid (HK26.out.below hb67 (by have := HK26.out.lt; omega))
  have HF7 := Lib.hid (HF6.out.later (Agree.below hb67 (by omega)))
  have HA7 := Lib.hid k7
  rw [hW7, hB]
  have HBB := Lib.hid hB
  clear hW7 hb67 k7 hB HB6 HK16 HK26 HF6 e0 e1 e2 e3 e4 e5 e6 e7
  refine (HTB2.out _ HB7.out).mono ?_
  rintro e W8 ⟨⟨u8, c8, rfl, hf8⟩, hb8⟩
  obtain ⟨xa, xb, rfl⟩ := sl_form hf8.desk.1
  obtain ⟨ya, yb, rfl⟩ := sl_form hf8.desk.2
  have HB8 := Lib.hid (HB7.out.trans (hb8.mono HB7.out.size))
  have HK18 := Lib.hid (HK17.out.below hb8 HK17.out.lt)
  have HK28 := Lib.hid (HK27.out.below hb8 HK27.out.lt)
  have HA8 := Lib.hid (HA7.out.below hb8 HA7.out.lt)
  have HF78 := Lib.hid (HF7.out.later (Agree.below hb8 (Nat.le_refl _)))
  have HF8 := Lib.hid hf8
  obtain ⟨f0, f1, f2, f3, f4, f5, f6, f7⟩ := blk8 HA8.out
  have hl8 := HA8.out.lt
  clear hb8 hf8 HB7 HK17 HK27 HA7 HF7
  go_wp2_with fail
  obtain ⟨C, hC⟩ : ∃ C, W8.heap.size = C := ⟨_, rfl⟩
  obtain ⟨W9, hW9⟩ : ∃ W9, W8.alloc (.cells #[.slice xa ks.length xb, .int .i64 s0, .int .i64 s1, .int .i64 s2, .int .i64 s3, .int .i64 s4, .slice ya ds.length yb, .string q] 40) = W9 := ⟨_, rfl⟩
  have hb89 : Below C W8 W9 := by rw [← hW9]; exact (Below.refl _ W8).alloc (by omega) _
  have k9 : Blk W9 C 40 [.slice xa ks.length xb, .int .i64 s0, .int .i64 s1, .int .i64 s2, .int .i64 s3, .int .i64 s4, .slice ya ds.length yb, .string q] := by rw [← hW9, ← hC]; exact Blk.new W8 _ _
  have HB9 : Hid (Below w.heap.size w W9) := HB8.out.trans (hb89.mono (by have := HB8.out.size; omega))
  have HK19 := Lib.hid (HK18.out.below hb89 (by have := HK18.out.lt; omega))
  have HK29 := Lib.hid (HK28.out.below hb89 (by have := HK28.out.lt; omega))
  have HA9 := Lib.hid (HA8.out.below hb89 (by omega))
  have HF79 := Lib.hid (HF78.out.later (Agree.below hb89 (by omega)))
  have HF89 := Lib.hid (HF8.out.later (Agree.below hb89 (by omega)))
  have HC9 := Lib.hid k9
  have HSAME := Lib.hid (implSameDesk_any (.slice ua js.length ub) (.slice xa ks.length xb) (.slice va cs.length vb) (.slice ya ds.length yb) (r0, r1, r2, r3, r4) (s0, s1, s2, s3, s4) p q js ks cs ds W9 HF79.out.desk.1.jobs HF89.out.desk.1.jobs HF79.out.desk.2.ints.1 HF89.out.desk.2.ints.1 HBIG.out.1 HBIG.out.2)
  have HMEM : Hid (JobsR W9 (.slice ua js.length ub) js ∧ JobsR W9 (.slice xa ks.length xb) ks ∧ Ints W9 (.slice va cs.length vb) cs ∧ Ints W9 (.slice ya ds.length yb) ds) := ⟨HF79.out.desk.1, HF89.out.desk.1, HF79.out.desk.2.ints.1, HF89.out.desk.2.ints.1⟩
  rw [hW9, hC]
  clear hW9 hb89 k9 hC HB8 HK18 HK28 HA8 HF78 HF8 HF79 HF89 f0 f1 f2 f3 f4 f5 f6 f7 hl8 hl6
  refine HSAME.out.mono ?_
  rintro e W10 ⟨rfl, hb10⟩
  have HB10 := Lib.hid (HB9.out.trans (hb10.mono HB9.out.size))
  have HK110 := Lib.hid (HK19.out.below hb10 HK19.out.lt)
  have HK210 := Lib.hid (HK29.out.below hb10 HK29.out.lt)
  have HA10 := Lib.hid (HA9.out.below hb10 HA9.out.lt)
  have HC10 := Lib.hid (HC9.out.below hb10 HC9.out.lt)
  have HM10 : Hid (∀ W, Below W10.heap.size W10 W → JobsR W (.slice ua js.length ub) js ∧ JobsR W (.slice xa ks.length xb) ks ∧ Ints W (.slice va cs.length vb) cs ∧ Ints W (.slice ya ds.length yb) ds) := fun W hW => ⟨(HMEM.out.1.below hb10 (Nat.le_refl _)).below hW (Nat.le_refl _), (HMEM.out.2.1.below hb10 (Nat.le_refl _)).below hW (Nat.le_refl _), (HMEM.out.2.2.1.below hb10 (Nat.le_refl _)).below hW (Nat.le_refl _), (HMEM.out.2.2.2.below hb10 (Nat.le_refl _)).below hW (Nat.le_refl _)⟩
  obtain ⟨d0, d1, d2, d3, d4, d5, d6, d7⟩ := blk8 HK110.out
  obtain ⟨f0, f1, f2, f3, f4, f5, f6, f7⟩ := blk8 HA10.out
  clear hb10 HB9 HK19 HK29 HA9 HC9 HSAME HMEM
  go_wp2_with fail
  refine cut_share (P := ?P14) ?main14 ?cont14
  case cont14 =>
    intro key
    go_region_with (first
      | (go_at_call_of 22 ja; refine (HTA2.out _ HB10.out.drew).mono ?_; rintro e W11 ⟨⟨u11, c11, rfl, hf11⟩, hb11⟩; have hb1011 : Below W10.heap.size W10 W11 := ((Below.refl _ W10).drew).trans (hb11.mono (by simp)); have HB1011 := Lib.hid hb1011; obtain ⟨g0, g1, g2, g3, g4, g5, g6, g7⟩ := blk8 (HA10.out.below hb1011 HA10.out.lt); have HF11 := Lib.hid hf11; clear hb11 hb1011 hf11)
      | (go_at_call 24; refine (eqDesk_same (.slice ua js.length ub) u11 js (r0, r1, r2, r3, r4) (.slice va cs.length vb) c11 cs p W11 ?_ ?_ ?_ ?_).mono ?_; exact (HM10.out _ HB1011.out).1.jobs; exact HF11.out.desk.1.jobs; exact (HM10.out _ HB1011.out).2.2.1; exact HF11.out.desk.2.ints.1; rintro e W12 ⟨rfl, hb12⟩; have HB1012 := Lib.hid (HB1011.out.trans (hb12.mono HB1011.out.size)); clear hb12))
    all_goals
      clear HF11
      revert u11 c11 W12
      exact key
  intro u11 c11 W12 HB1012
  clear d0 d1 d2 d3 d4 d5 d6 d7 f0 f1 f2 f3 f4 f5 f6 f7
  have HK212 := Lib.hid (HK210.out.below HB1012.out HK210.out.lt)
  have HC12 := Lib.hid (HC10.out.below HB1012.out HC10.out.lt)
  have HB12 := Lib.hid (HB10.out.trans (HB1012.out.mono HB10.out.size))
  have HM12 : Hid (∀ W, Below W12.heap.size W12 W → JobsR W (.slice xa ks.length xb) ks ∧ Ints W (.slice ya ds.length yb) ds) := fun W hW => have h := HM10.out _ (HB1012.out.trans (hW.mono HB1012.out.size)); ⟨h.2.1, h.2.2.2⟩
  obtain ⟨d0, d1, d2, d3, d4, d5, d6, d7⟩ := blk8 HK212.out
  obtain ⟨f0, f1, f2, f3, f4, f5, f6, f7⟩ := blk8 HC12.out
  clear HK110 HK210 HA10 HC10 HM10 HB10 HB1012
  go_wp2_with fail
  go_region_with (first
    | (go_at_call_of 22 ka; refine (HTB2.out _ HB12.out.drew).mono ?_; rintro e W13 ⟨⟨u13, c13, rfl, hf13⟩, hb13⟩; have hb1213 : Below W12.heap.size W12 W13 := ((Below.refl _ W12).drew).trans (hb13.mono (by simp)); have HB1213 := Lib.hid hb1213; obtain ⟨g0, g1, g2, g3, g4, g5, g6, g7⟩ := blk8 (HC12.out.below hb1213 HC12.out.lt); have HF13 := Lib.hid hf13; clear hb13 hb1213 hf13)
    | (go_at_call 24; refine (eqDesk_same (.slice xa ks.length xb) u13 ks (s0, s1, s2, s3, s4) (.slice ya ds.length yb) c13 ds q W13 ?_ ?_ ?_ ?_).mono ?_; exact (HM12.out _ HB1213.out).1.jobs; exact HF13.out.desk.1.jobs; exact (HM12.out _ HB1213.out).2; exact HF13.out.desk.2.ints.1; rintro e W14 ⟨rfl, hb14⟩; have HB14 := Lib.hid (HB12.out.trans ((HB1213.out.trans (hb14.mono HB1213.out.size)).mono HB12.out.size)); clear hb14))
  all_goals
    go_wp2
    go_ret
    exact ⟨rfl, HB14.out⟩
end Go.Proofs.Ytmakjgbldejcpaa
