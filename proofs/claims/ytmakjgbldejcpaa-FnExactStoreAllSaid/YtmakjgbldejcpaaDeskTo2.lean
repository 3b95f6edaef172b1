
/- Desks: the laws' szDesk, toDesk. Conditions: at most 2^20 numbers. -/
import Derived.Test.YtmakjgbldejcpaaDeskTo
namespace Go.Proofs.Ytmakjgbldejcpaa
open Go.RowKit
set_option linter.unusedVariables false
set_option linter.unusedSimpArgs false

set_option maxHeartbeats 1000000 in
theorem szDesk_any (vj : Value) (r : Rl) (vc : Value) (p : ByteArray) (js : List Jb) (cs : List Int) (left : Int) (w : World) (hj : Jobs w vj js) (hc : Ints w vc cs) (hp : p.size ≤ maxLen) (h0 : 0 ≤ left) (h1 : left ≤ 1048576) :
    Calls Try.prog 20 #[deskV vj r vc p, .int .i64 left] w fun e w' => (∃ q : Int, e = .returned (.int .i64 q) ∧ (q = -1 ∨ 0 ≤ q ∧ q ≤ left ∧ smallDesk (js, r, cs, p))) ∧ Below w.heap.size w w' := by
  obtain ⟨a0, a1, a2, a3, a4⟩ := r
  unfold deskV
  obtain ⟨T0, hT0⟩ : ∃ T0, (Obj.cells #[vj, .int .i64 a0, .int .i64 a1, .int .i64 a2, .int .i64 a3, .int .i64 a4, vc, .string p] 34) = T0 := ⟨_, rfl⟩
  have hB0 : Below w.heap.size w (w.alloc T0) := (Below.refl _ w).alloc (Nat.le_refl _) _
  have H1 := Lib.hid (szJobS_any vj js left (w.alloc T0) (hj.below hB0 (Nat.le_refl _)) h0 h1)
  have H2 : Hid (∀ q, 0 ≤ q → q ≤ 1048576 → Calls Try.prog 65 #[vc, .int .i64 q] (w.alloc T0) _) := fun q q0 q1 => szInt64S_any vc cs q (w.alloc T0) (hc.below hB0 (Nat.le_refl _)) q0 q1
  have HB0 := Lib.hid hB0
  obtain ⟨_, j1, j2, rfl, _⟩ := hj
  obtain ⟨_, c1, c2, rfl, _⟩ := hc
  subst hT0
  unfold maxLen at hp
  clear hB0
  go_enter Try.func20, Try.ntmps20
  go_wp2_with fail
  refine H1.out.mono ?_
  rintro e w' ⟨⟨q, rfl, hq⟩, rfl⟩
  by_cases hq0 : q < 0
  · go_wp2
    go_ret
    exact ⟨⟨-1, rfl, .inl rfl⟩, HB0.out⟩
  · have HQ : Hid (0 ≤ q ∧ q ≤ left ∧ js.length ≤ 1048576) := by rcases hq with h | h; omega; exact h
    have r0 := HQ.out.1
    have r1 := HQ.out.2.1
    clear hq
    go_wp2_with fail
    refine (H2.out q r0 (by omega)).mono ?_
    rintro e w' ⟨⟨q2, rfl, hq2⟩, rfl⟩
    by_cases hq20 : q2 < 0
    · go_wp2
      go_ret
      exact ⟨⟨-1, rfl, .inl rfl⟩, HB0.out⟩
    · have HQ2 : Hid (0 ≤ q2 ∧ q2 ≤ q ∧ cs.length ≤ 1048576) := by rcases hq2 with h | h; omega; exact h
      have s0 := HQ2.out.1
      have s1 := HQ2.out.2.1
      clear hq2
      by_cases hq3 : q2 - (p.size : Int) < 0
      · go_wp2
        go_ret
        exact ⟨⟨-1, rfl, .inl rfl⟩, HB0.out⟩
      · have hd : decide (q2 - (p.size : Int) < 0) = false := by simpa using hq3
        go_wp2
        go_ret
        exact ⟨⟨_, rfl, .inr ⟨by omega, by omega, HQ.out.2.2, HQ2.out.2.2, by show p.size ≤ _; omega⟩⟩, HB0.out⟩

set_option maxRecDepth 100000 in
set_option maxHeartbeats 2000000 in
theorem toDesk_any (vj : Value) (r : Rl) (vc : Value) (p : ByteArray) (js : List Jb) (cs : List Int) (w : World) (hj : JobsR w vj js) (hc : SlR rInt w vc cs) (hp : p.size ≤ maxLen) (hr : ruleWf r) (hsm : smallDesk (js, r, cs, p)) :
    Calls Try.prog 22 #[deskV vj r vc p] w fun e w' => (∃ uj uc, e = .returned (deskV uj r uc p) ∧ FreshR rDesk w.heap.size w' (deskCells uj r uc p) (js, r, cs, p)) ∧ Below w.heap.size w w' := by
  have HC1 : Hid (∀ W, Below w.heap.size w W → Calls Try.prog 76 #[vj] W fun e w' => (∃ v', e = .returned v' ∧ FreshR (rSl rJob) W.heap.size w' [v'] js) ∧ Below W.heap.size W w') := fun W hW => toJobS_any vj js W (hj.below hW (Nat.le_refl _)) hsm.1
  have HC2 : Hid (∀ W, Below w.heap.size w W → Calls Try.prog 41 #[vc] W fun e w' => ∃ v', e = .returned v' ∧ OwnI w' W.heap.size v' cs ∧ Below W.heap.size W w') := fun W hW => by
    have := toInt64S_any vc cs W (hc.ints.1.below hW (Nat.le_refl _)) hsm.2.1
    exact this
  have HW2 := Lib.hid hc.ints.2
  have HP := Lib.hid hp
  have HRW := Lib.hid hr
  obtain ⟨_, t1, t2, rfl, _⟩ := hj
  obtain ⟨_, s1, s2, rfl, _⟩ := hc
  obtain ⟨a0, a1, a2, a3, a4⟩ := r
  unfold deskV
  clear hp hsm hr
  go_enter Try.func22, Try.ntmps22
  go_wp2_with fail
  obtain ⟨S, hS⟩ : ∃ S, w.heap.size = S := ⟨_, rfl⟩
  obtain ⟨W0, hW0⟩ : ∃ W0, (((w.alloc (.cells #[.slice t1 js.length t2, .int .i64 a0, .int .i64 a1, .int .i64 a2, .int .i64 a3, .int .i64 a4, .slice s1 cs.length s2, .string p] 34)).alloc (.cells #[.slice none 0 0, .int .i64 0, .int .i64 0, .int .i64 0, .int .i64 0, .int .i64 0, .slice none 0 0, .string { data := #[] }] 40)).alloc (.cells #[.slice none 0 0, .int .i64 0, .int .i64 0, .int .i64 0, .int .i64 0, .int .i64 0, .slice none 0 0, .string { data := #[] }] 40)) = W0 := ⟨_, rfl⟩
  have hB0 : Below S w W0 := by rw [← hW0, ← hS]; exact (((Below.refl _ w).alloc (Nat.le_refl _) _).alloc (by simp) _).alloc (by simp; omega) _
  have k1 : Blk W0 S 34 [.slice t1 js.length t2, .int .i64 a0, .int .i64 a1, .int .i64 a2, .int .i64 a3, .int .i64 a4, .slice s1 cs.length s2, .string p] := by rw [← hW0, ← hS]; exact ((Blk.new w _ _).alloc _).alloc _
  have k2 : Blk W0 (S + 1) 40 [.slice none 0 0, .int .i64 0, .int .i64 0, .int .i64 0, .int .i64 0, .int .i64 0, .slice none 0 0, .string { data := #[] }] := by
    rw [← hW0, ← hS]
    have := (Blk.new (w.alloc (.cells #[.slice t1 js.length t2, .int .i64 a0, .int .i64 a1, .int .i64 a2, .int .i64 a3, .int .i64 a4, .slice s1 cs.length s2, .string p] 34)) 40 [.slice none 0 0, .int .i64 0, .int .i64 0, .int .i64 0, .int .i64 0, .int .i64 0, .slice none 0 0, .string { data := #[] }]).alloc (.cells #[.slice none 0 0, .int .i64 0, .int .i64 0, .int .i64 0, .int .i64 0, .int .i64 0, .slice none 0 0, .string { data := #[] }] 40)
    rwa [World.size_alloc] at this
  have k3 : Blk W0 (S + 1 + 1) 40 [.slice none 0 0, .int .i64 0, .int .i64 0, .int .i64 0, .int .i64 0, .int .i64 0, .slice none 0 0, .string { data := #[] }] := by
    rw [← hW0, ← hS]
    have := Blk.new ((w.alloc (.cells #[.slice t1 js.length t2, .int .i64 a0, .int .i64 a1, .int .i64 a2, .int .i64 a3, .int .i64 a4, .slice s1 cs.length s2, .string p] 34)).alloc (.cells #[.slice none 0 0, .int .i64 0, .int .i64 0, .int .i64 0, .int .i64 0, .int .i64 0, .slice none 0 0, .string { data := #[] }] 40)) 40 [.slice none 0 0, .int .i64 0, .int .i64 0, .int .i64 0, .int .i64 0, .int .i64 0, .slice none 0 0, .string { data := #[] }]
    rwa [World.size_alloc, World.size_alloc] at this
  rw [hW0, hS]
  have HS := Lib.hid hS
  have HB0 := Lib.hid hB0
  have hs0 : S + 1 + 1 < W0.heap.size := k3.lt
  clear hW0 hS hB0
  refine (HC1.out W0 (by rw [HS.out]; exact HB0.out)).mono ?_
  rintro e W1 ⟨⟨ut, rfl, hf1⟩, hb1⟩
  have m1 := k1.below hb1 (by omega)
  have m2 := k2.below hb1 (by omega)
  have m3 := k3.below hb1 (by omega)
  have d1 := m1.cell 1 _ rfl
  have d2 := m1.cell 2 _ rfl
  have d3 := m1.cell 3 _ rfl
  have d4 := m1.cell 4 _ rfl
  have d5 := m1.cell 5 _ rfl
  have c3 := m3.cell 0 _ rfl
  have f3 := m3.frozen 0
  have hs1 := hb1.size
  have HF1 := Lib.hid hf1
  have HB1 := Lib.hid (HB0.out.trans (hb1.mono (by omega)))
  have M1 := Lib.hid m1
  have M2 := Lib.hid m2
  have M3 := Lib.hid m3
  obtain ⟨ua, uc, rfl⟩ : ∃ a c, ut = .slice a js.length c := by obtain ⟨v', he, _, a, c, h, _⟩ := hf1.now; simp at he; exact ⟨a, c, by rw [he]; exact h⟩
  clear hf1 hb1 m1 m2 m3 k1 k2 k3
  go_wp2_with fail
  obtain ⟨W2, hW2⟩ : ∃ W2, W1.setCell ⟨S + 1 + 1, 0, none⟩ (.slice ua js.length uc) = W2 := ⟨_, rfl⟩
  rw [hW2]
  have n1 := M1.out.far ⟨S + 1 + 1, 0, none⟩ (.slice ua js.length uc) (by show S ≠ S + 1 + 1; omega)
  have n2 := M2.out.far ⟨S + 1 + 1, 0, none⟩ (.slice ua js.length uc) (by show S + 1 ≠ S + 1 + 1; omega)
  have n3 := M3.out.set 0 (.slice ua js.length uc)
  rw [hW2] at n1 n2 n3
  have ho2 : FreshR (rSl rJob) W0.heap.size W2 [.slice ua js.length uc] js := by
    rw [← hW2]
    exact HF1.out.later (Agree.setCell _ _ _ hs0)
  have hb2 : Below S w W2 := by rw [← hW2]; exact HB1.out.setCell (by show S ≤ S + 1 + 1; omega) _
  have hs2 : W2.heap.size = W1.heap.size := by rw [← hW2]; simp
  clear hW2 HF1 HB1 M1 M2 M3 c3 f3 d1 d2 d3 d4 d5
  refine (toRule_any a0 a1 a2 a3 a4 W2).mono ?_
  rintro e W3 ⟨rfl, hb3⟩
  have m1 := n1.below hb3 (by omega)
  have m2 := n2.below hb3 (by omega)
  have m3 := n3.below hb3 (by omega)
  have hs3 := hb3.size
  have c6 := m1.cell 6 _ rfl
  have x1 := m3.cell 1 _ rfl
  have x2 := m3.cell 2 _ rfl
  have x3 := m3.cell 3 _ rfl
  have x4 := m3.cell 4 _ rfl
  have x5 := m3.cell 5 _ rfl
  have f1 := m3.frozen 1
  have f2 := m3.frozen 2
  have f3 := m3.frozen 3
  have f4 := m3.frozen 4
  have f5 := m3.frozen 5
  have HO3 := Lib.hid (ho2.later (Agree.below hb3 (Nat.le_refl _)))
  have HB3 := Lib.hid (hb2.trans (hb3.mono (by omega)))
  have M1 := Lib.hid m1
  have M2 := Lib.hid m2
  have M3 := Lib.hid m3
  clear n1 n2 n3 ho2 hb2 hb3 m1 m2 m3
  go_wp2_with fail
  obtain ⟨W4, hW4⟩ : ∃ W4, ((((W3.setCell ⟨S + 1 + 1, 1, none⟩ (.int .i64 a0)).setCell ⟨S + 1 + 1, 2, none⟩ (.int .i64 a1)).setCell ⟨S + 1 + 1, 3, none⟩ (.int .i64 a2)).setCell ⟨S + 1 + 1, 4, none⟩ (.int .i64 a3)).setCell ⟨S + 1 + 1, 5, none⟩ (.int .i64 a4) = W4 := ⟨_, rfl⟩
  rw [hW4]
  have n1 := ((((M1.out.far ⟨S + 1 + 1, 1, none⟩ (.int .i64 a0) (by show S ≠ S + 1 + 1; omega)).far ⟨S + 1 + 1, 2, none⟩ (.int .i64 a1) (by show S ≠ S + 1 + 1; omega)).far ⟨S + 1 + 1, 3, none⟩ (.int .i64 a2) (by show S ≠ S + 1 + 1; omega)).far ⟨S + 1 + 1, 4, none⟩ (.int .i64 a3) (by show S ≠ S + 1 + 1; omega)).far ⟨S + 1 + 1, 5, none⟩ (.int .i64 a4) (by show S ≠ S + 1 + 1; omega)
  have n2 := ((((M2.out.far ⟨S + 1 + 1, 1, none⟩ (.int .i64 a0) (by show S + 1 ≠ S + 1 + 1; omega)).far ⟨S + 1 + 1, 2, none⟩ (.int .i64 a1) (by show S + 1 ≠ S + 1 + 1; omega)).far ⟨S + 1 + 1, 3, none⟩ (.int .i64 a2) (by show S + 1 ≠ S + 1 + 1; omega)).far ⟨S + 1 + 1, 4, none⟩ (.int .i64 a3) (by show S + 1 ≠ S + 1 + 1; omega)).far ⟨S + 1 + 1, 5, none⟩ (.int .i64 a4) (by show S + 1 ≠ S + 1 + 1; omega)
  have n3 := ((((M3.out.set 1 (.int .i64 a0)).set 2 (.int .i64 a1)).set 3 (.int .i64 a2)).set 4 (.int .i64 a3)).set 5 (.int .i64 a4)
  rw [hW4] at n1 n2 n3
  have ag : ∀ (A : World) (o : Nat) (x : Value), Agree W0.heap.size A (A.setCell ⟨S + 1 + 1, o, none⟩ x) := fun A o x => Agree.setCell _ _ _ hs0
  have hf4 : FreshR (rSl rJob) W0.heap.size W4 [.slice ua js.length uc] js := by
    rw [← hW4]
    exact HO3.out.later (((((ag _ _ _).trans (ag _ _ _)).trans (ag _ _ _)).trans (ag _ _ _)).trans (ag _ _ _))
  have hb4 : Below S w W4 := by
    rw [← hW4]
    exact ((((HB3.out.setCell (by show S ≤ S + 1 + 1; omega) _).setCell (by show S ≤ S + 1 + 1; omega) _).setCell (by show S ≤ S + 1 + 1; omega) _).setCell (by show S ≤ S + 1 + 1; omega) _).setCell (by show S ≤ S + 1 + 1; omega) _
  have hs4 : W4.heap.size = W3.heap.size := by rw [← hW4]; simp
  have HB4 := Lib.hid hb4
  have HF4 := Lib.hid hf4
  clear hW4 HO3 HB3 M1 M2 M3 c6 x1 x2 x3 x4 x5 f1 f2 f3 f4 f5 hb4 hf4 ag
  refine (HC2.out W4 (by rw [HS.out]; exact HB4.out)).mono ?_
  rintro e W5 ⟨us, rfl, ho5, hb5⟩
  have m1 := n1.below hb5 (by omega)
  have m2 := n2.below hb5 (by omega)
  have m3 := n3.below hb5 (by omega)
  have hs5 := hb5.size
  obtain ⟨ulb, ulc, rfl⟩ : ∃ a c, us = .slice a cs.length c := by obtain ⟨_, a, c, h, _⟩ := ho5.ints; exact ⟨a, c, h⟩
  have c7 := m1.cell 7 _ rfl
  have y0 := m3.cell 0 _ rfl
  have y1 := m3.cell 1 _ rfl
  have y2 := m3.cell 2 _ rfl
  have y3 := m3.cell 3 _ rfl
  have y4 := m3.cell 4 _ rfl
  have y5 := m3.cell 5 _ rfl
  have y6 := m3.cell 6 _ rfl
  have y7 := m3.cell 7 _ rfl
  have f6 := m3.frozen 6
  have f7 := m3.frozen 7
  have g0 := m2.cell 0 _ rfl
  have g1 := m2.cell 1 _ rfl
  have g2 := m2.cell 2 _ rfl
  have g3 := m2.cell 3 _ rfl
  have g4 := m2.cell 4 _ rfl
  have g5 := m2.cell 5 _ rfl
  have g6 := m2.cell 6 _ rfl
  have g7 := m2.cell 7 _ rfl
  have e0 := m2.frozen 0
  have e1 := m2.frozen 1
  have e2 := m2.frozen 2
  have e3 := m2.frozen 3
  have e4 := m2.frozen 4
  have e5 := m2.frozen 5
  have e6 := m2.frozen 6
  have e7 := m2.frozen 7
  have HO5 := Lib.hid (ho5.fresh HW2.out)
  have HF5 := Lib.hid (HF4.out.later (Agree.below hb5 (Nat.le_refl _)))
  have HB5 := Lib.hid (HB4.out.trans (hb5.mono (by omega)))
  clear ho5 hb5 m1 m2 m3 n1 n2 n3 HF4 HB4
  go_wp2_with fail
  refine bodyPost_ret (v := .agg #[.slice ua js.length uc, .int .i64 a0, .int .i64 a1, .int .i64 a2, .int .i64 a3, .int .i64 a4, .slice ulb cs.length ulc, .string p]) (by simp [results, Try.results22, go_sem, g0, g1, g2, g3, g4, g5, g6, g7]) rfl ?_
  have ag : ∀ (A : World) (b o : Nat) (x : Value), b < W0.heap.size → Agree W0.heap.size A (A.setCell ⟨b, o, none⟩ x) := fun A b o x h => Agree.setCell _ _ _ h
  have hSS : w.heap.size = S := HS.out
  refine ⟨⟨_, _, rfl, fun W hW => ?_⟩, ?_⟩
  · refine desk_cells.2 ⟨_, _, rfl, ?_, HRW.out, ?_, HP.out⟩
    · have := HF5.out W (((((((((((ag _ (S + 1 + 1) _ _ (by omega)).trans (ag _ (S + 1 + 1) _ _ (by omega))).trans (ag _ (S + 1) _ _ (by omega))).trans (ag _ (S + 1) _ _ (by omega))).trans (ag _ (S + 1) _ _ (by omega))).trans (ag _ (S + 1) _ _ (by omega))).trans (ag _ (S + 1) _ _ (by omega))).trans (ag _ (S + 1) _ _ (by omega))).trans (ag _ (S + 1) _ _ (by omega))).trans (ag _ (S + 1) _ _ (by omega))).trans (hW.mono (by omega)))
      obtain ⟨v', he, h⟩ := this
      simp at he; subst he; exact h
    · have := HO5.out W ((((((((((((ag _ (S + 1 + 1) _ _ (by omega)).trans (ag _ (S + 1 + 1) _ _ (by omega))).trans (ag _ (S + 1) _ _ (by omega))).trans (ag _ (S + 1) _ _ (by omega))).trans (ag _ (S + 1) _ _ (by omega))).trans (ag _ (S + 1) _ _ (by omega))).trans (ag _ (S + 1) _ _ (by omega))).trans (ag _ (S + 1) _ _ (by omega))).trans (ag _ (S + 1) _ _ (by omega))).trans (ag _ (S + 1) _ _ (by omega))).mono (show W0.heap.size ≤ W4.heap.size by omega)).trans (hW.mono (by omega)))
      obtain ⟨v', he, h⟩ := this
      simp at he; subst he; exact h
  · rw [HS.out]
    exact ((((((((((HB5.out.setCell (by show S ≤ S + 1 + 1; omega) _).setCell (by show S ≤ S + 1 + 1; omega) _).setCell (by show S ≤ S + 1; omega) _).setCell (by show S ≤ S + 1; omega) _).setCell (by show S ≤ S + 1; omega) _).setCell (by show S ≤ S + 1; omega) _).setCell (by show S ≤ S + 1; omega) _).setCell (by show S ≤ S + 1; omega) _).setCell (by show S ≤ S + 1; omega) _).setCell (by show S ≤ S + 1; omega) _)
end Go.Proofs.Ytmakjgbldejcpaa
