
/- Tasks: the laws' toTask, toTaskS, eqTask, eqTaskS. Conditions: at most 2^20 numbers. -/
import Derived.Test.YtmakjgbldejcpaaTasks
import Derived.Test.YtmakjgbldejcpaaBlk
namespace Go.Proofs.Ytmakjgbldejcpaa
open Go.RowKit
set_option linter.unusedVariables false
set_option linter.unusedSimpArgs false

theorem OwnI.slR {w : World} {B : Nat} {v : Value} {xs : List Int} (h : OwnI w B v xs) (hw : ∀ n ∈ xs, (Lit.int .i64 n).wf = true) : SlR rInt w v xs := SlR.of_ints h.ints hw

set_option maxRecDepth 100000 in
set_option maxHeartbeats 1000000 in
theorem toTask_any (a0 a1 : Int) (vb vl : Value) (bs ls : List Int) (w : World) (hb : SlR rInt w vb bs) (hl : SlR rInt w vl ls) (h0 : bs.length ≤ 1048576) (h1 : ls.length ≤ 1048576) (y0 : (Lit.int .i64 a0).wf = true) (y1 : (Lit.int .i64 a1).wf = true) :
    Calls Try.prog 133 #[.agg #[.int .i64 a0, .int .i64 a1, vb, vl]] w fun e w' => (∃ ub ul, e = .returned (.agg #[.int .i64 a0, .int .i64 a1, ub, ul]) ∧ FreshR rTask w.heap.size w' [.int .i64 a0, .int .i64 a1, ub, ul] (a0, a1, bs, ls)) ∧ Below w.heap.size w w' := by
  have HC1 : Hid (∀ W, Below w.heap.size w W → Calls Try.prog 41 #[vb] W fun e w' => ∃ v', e = .returned v' ∧ OwnI w' W.heap.size v' bs ∧ Below W.heap.size W w') := fun W hW => by
    have := toInt64S_any vb bs W (hb.ints.1.below hW (Nat.le_refl _)) h0
    exact this
  have HC2 : Hid (∀ W, Below w.heap.size w W → Calls Try.prog 41 #[vl] W fun e w' => ∃ v', e = .returned v' ∧ OwnI w' W.heap.size v' ls ∧ Below W.heap.size W w') := fun W hW => by
    have := toInt64S_any vl ls W (hl.ints.1.below hW (Nat.le_refl _)) h1
    exact this
  have HW1 := Lib.hid hb.ints.2
  have HW2 := Lib.hid hl.ints.2
  obtain ⟨_, b1, b2, rfl, _⟩ := hb
  obtain ⟨_, l1, l2, rfl, _⟩ := hl
  go_enter Try.func133, Try.ntmps133
  go_wp2_with fail
  obtain ⟨S, hS⟩ : ∃ S, w.heap.size = S := ⟨_, rfl⟩
  obtain ⟨W0, hW0⟩ : ∃ W0, (((w.alloc (.cells #[.int .i64 a0, .int .i64 a1, .slice b1 bs.length b2, .slice l1 ls.length l2] 138)).alloc (.cells #[.int .i64 0, .int .i64 0, .slice none 0 0, .slice none 0 0] 119)).alloc (.cells #[.int .i64 a0, .int .i64 a1, .slice none 0 0, .slice none 0 0] 119)) = W0 := ⟨_, rfl⟩
  have hB0 : Below S w W0 := by rw [← hW0, ← hS]; exact (((Below.refl _ w).alloc (Nat.le_refl _) _).alloc (by simp) _).alloc (by simp; omega) _
  have k1 : Blk W0 S 138 [.int .i64 a0, .int .i64 a1, .slice b1 bs.length b2, .slice l1 ls.length l2] := by rw [← hW0, ← hS]; exact ((Blk.new w _ _).alloc _).alloc _
  have k2 : Blk W0 (S + 1) 119 [.int .i64 0, .int .i64 0, .slice none 0 0, .slice none 0 0] := by
    rw [← hW0, ← hS]
    have := (Blk.new (w.alloc (.cells #[.int .i64 a0, .int .i64 a1, .slice b1 bs.length b2, .slice l1 ls.length l2] 138)) 119 [.int .i64 0, .int .i64 0, .slice none 0 0, .slice none 0 0]).alloc (.cells #[.int .i64 a0, .int .i64 a1, .slice none 0 0, .slice none 0 0] 119)
    rwa [World.size_alloc] at this
  have k3 : Blk W0 (S + 1 + 1) 119 [.int .i64 a0, .int .i64 a1, .slice none 0 0, .slice none 0 0] := by
    rw [← hW0, ← hS]
    have := Blk.new ((w.alloc (.cells #[.int .i64 a0, .int .i64 a1, .slice b1 bs.length b2, .slice l1 ls.length l2] 138)).alloc (.cells #[.int .i64 0, .int .i64 0, .slice none 0 0, .slice none 0 0] 119)) 119 [.int .i64 a0, .int .i64 a1, .slice none 0 0, .slice none 0 0]
    rwa [World.size_alloc, World.size_alloc] at this
  rw [hW0, hS]
  have HS := Lib.hid hS
  have HB0 := Lib.hid hB0
  have hs0 : S + 1 + 1 < W0.heap.size := k3.lt
  clear hW0 hS hB0
  refine (HC1.out W0 (by rw [HS.out]; exact HB0.out)).mono ?_
  rintro e W1 ⟨ub, rfl, ho1, hb1⟩
  have m1 := k1.below hb1 (by omega)
  have m2 := k2.below hb1 (by omega)
  have m3 := k3.below hb1 (by omega)
  have c1 := m1.cell 3 _ rfl
  have c3 := m3.cell 2 _ rfl
  have f3 := m3.frozen 2
  have hs1 := hb1.size
  have HO1 := Lib.hid ho1
  have HB1 := Lib.hid (HB0.out.trans (hb1.mono (by omega)))
  have M1 := Lib.hid m1
  have M2 := Lib.hid m2
  have M3 := Lib.hid m3
  have hub : ∃ a c, ub = .slice a bs.length c := by obtain ⟨_, a, c, h, _⟩ := ho1.ints; exact ⟨a, c, h⟩
  obtain ⟨ua, uc, rfl⟩ := hub
  clear ho1 hb1 m1 m2 m3 k1 k2 k3
  go_wp2_with fail
  obtain ⟨W2, hW2⟩ : ∃ W2, W1.setCell ⟨S + 1 + 1, 2, none⟩ (.slice ua bs.length uc) = W2 := ⟨_, rfl⟩
  rw [hW2]
  have n1 := M1.out.far ⟨S + 1 + 1, 2, none⟩ (.slice ua bs.length uc) (by show S ≠ S + 1 + 1; omega)
  have n2 := M2.out.far ⟨S + 1 + 1, 2, none⟩ (.slice ua bs.length uc) (by show S + 1 ≠ S + 1 + 1; omega)
  have n3 := M3.out.set 2 (.slice ua bs.length uc)
  rw [hW2] at n1 n2 n3
  have ho2 : OwnI W2 W0.heap.size (.slice ua bs.length uc) bs := by
    rw [← hW2]
    exact HO1.out.setCell _ (fun e => by have := (HO1.out.lt _ e).1; simp at this; omega)
  have hb2 : Below S w W2 := by rw [← hW2]; exact HB1.out.setCell (by show S ≤ S + 1 + 1; omega) _
  have hs2 : W2.heap.size = W1.heap.size := by rw [← hW2]; simp
  have HB2 := Lib.hid hb2
  have HO2 := Lib.hid ho2
  clear hW2 HO1 HB1 M1 M2 M3 c1 c3 f3 hb2 ho2
  refine (HC2.out W2 (by rw [HS.out]; exact HB2.out)).mono ?_
  rintro e W3 ⟨ul, rfl, ho3, hb3⟩
  have m1 := n1.below hb3 (by omega)
  have m2 := n2.below hb3 (by omega)
  have m3 := n3.below hb3 (by omega)
  have hs3 := hb3.size
  obtain ⟨ulb, ulc, rfl⟩ : ∃ a c, ul = .slice a ls.length c := by obtain ⟨_, a, c, h, _⟩ := ho3.ints; exact ⟨a, c, h⟩
  have c3 := m3.cell 3 _ rfl
  have f3 := m3.frozen 3
  have d0 := m3.cell 0 _ rfl
  have d1 := m3.cell 1 _ rfl
  have d2 := m3.cell 2 _ rfl
  have g0 := m2.cell 0 _ rfl
  have g1 := m2.cell 1 _ rfl
  have g2 := m2.cell 2 _ rfl
  have g3 := m2.cell 3 _ rfl
  have e0 := m2.frozen 0
  have e1 := m2.frozen 1
  have e2 := m2.frozen 2
  have e3 := m2.frozen 3
  have HO3 := Lib.hid ho3
  have HO4 := Lib.hid (HO2.out.below hb3 (Nat.le_refl _))
  have HB3 := Lib.hid (HB2.out.trans (hb3.mono (by omega)))
  clear ho3 hb3 m1 m2 m3 n1 n2 n3 HO2 HB2
  go_wp2_with fail
  have far : ∀ (v : Value) (N : Nat) (zs : List Int), W0.heap.size ≤ N → OwnI W3 N v zs → ∀ b, b < W0.heap.size → v.ownBlock ≠ some b := fun v N zs hN ho b hb e => by
    have := (ho.lt b e).1; omega
  have q1 : ∀ (v : Value) (N : Nat) (zs : List Int) (x0 x1 x2 x3 x4 : Value), W0.heap.size ≤ N → OwnI W3 N v zs → OwnI (((((W3.setCell ⟨S + 1 + 1, 3, none⟩ x0).setCell ⟨S + 1, 0, none⟩ x1).setCell ⟨S + 1, 1, none⟩ x2).setCell ⟨S + 1, 2, none⟩ x3).setCell ⟨S + 1, 3, none⟩ x4) N v zs := fun v N zs x0 x1 x2 x3 x4 hN ho =>
    ((((ho.setCell _ (far v N zs hN ho _ hs0)).setCell _ (far v N zs hN ho _ (by show S + 1 < _; omega))).setCell _ (far v N zs hN ho _ (by show S + 1 < _; omega))).setCell _ (far v N zs hN ho _ (by show S + 1 < _; omega))).setCell _ (far v N zs hN ho _ (by show S + 1 < _; omega))
  have p1 := q1 _ _ _ (.slice ulb ls.length ulc) (.int .i64 a0) (.int .i64 a1) (.slice ua bs.length uc) (.slice ulb ls.length ulc) (Nat.le_refl _) HO4.out
  have p2 := q1 _ _ _ (.slice ulb ls.length ulc) (.int .i64 a0) (.int .i64 a1) (.slice ua bs.length uc) (.slice ulb ls.length ulc) (by omega) HO3.out
  refine bodyPost_ret (v := .agg #[.int .i64 a0, .int .i64 a1, .slice ua bs.length uc, .slice ulb ls.length ulc]) (by simp [results, Try.results133, go_sem, g0, g1, g2, g3]) rfl ⟨⟨_, _, rfl, (FreshR.int _ _ _ y0).pair ((FreshR.int _ _ _ y1).pair (((p1.fresh HW1.out).mono (by rw [HS.out]; omega)).pair ((p2.fresh HW2.out).mono (by rw [HS.out]; omega))))⟩, ?_⟩
  rw [HS.out]
  exact ((((HB3.out.setCell (by show S ≤ S + 1 + 1; omega) _).setCell (by show S ≤ S + 1; omega) _).setCell (by show S ≤ S + 1; omega) _).setCell (by show S ≤ S + 1; omega) _).setCell (by show S ≤ S + 1; omega) _
end Go.Proofs.Ytmakjgbldejcpaa
