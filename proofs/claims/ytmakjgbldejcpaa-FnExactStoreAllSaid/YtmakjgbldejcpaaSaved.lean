
/- Saved plans: how they read; the laws' szSaved, toSaved, eqSaved. Conditions: at most 2^20 numbers. -/
import Derived.Test.YtmakjgbldejcpaaTasksToS
namespace Go.Proofs.Ytmakjgbldejcpaa
open Go.RowKit
set_option linter.unusedVariables false
set_option linter.unusedSimpArgs false

abbrev Sv := ByteArray × List Tk × List Int
def rSaved : Rdr Sv := rPair rStr (rPair (rSl rTask) (rSl rInt))
theorem saved_cells {w : World} {cs : List Value} {x : Sv} : rSaved.R w cs x ↔ ∃ vt vs, cs = [.string x.1, vt, vs] ∧ x.1.size ≤ maxLen ∧ TasksR w vt x.2.1 ∧ SlR rInt w vs x.2.2 := by
  constructor
  · rintro ⟨c1, c2, rfl, ⟨rfl, h1⟩, c3, c4, rfl, ⟨vt, rfl, h2⟩, vs, rfl, h3⟩
    exact ⟨vt, vs, rfl, h1, h2, h3⟩
  · rintro ⟨vt, vs, rfl, h1, h2, h3⟩
    exact ⟨_, _, rfl, ⟨rfl, h1⟩, _, _, rfl, ⟨vt, rfl, h2⟩, vs, rfl, h3⟩
def smallSaved (x : Sv) : Prop := x.1.size ≤ 1048576 ∧ smallTasks x.2.1 ∧ x.2.2.length ≤ 1048576
def savedV (s : ByteArray) (vt vs : Value) : Value := .agg #[.string s, vt, vs]

set_option maxHeartbeats 1000000 in
theorem szSaved_any (s : ByteArray) (vt vs : Value) (ts : List Tk) (st : List Int) (left : Int) (w : World) (hsz : s.size ≤ maxLen) (ht : TasksR w vt ts) (hs : Ints w vs st) (h0 : 0 ≤ left) (h1 : left ≤ 1048576) :
    Calls Try.prog 25 #[savedV s vt vs, .int .i64 left] w fun e w' => (∃ r : Int, e = .returned (.int .i64 r) ∧ (r = -1 ∨ 0 ≤ r ∧ r ≤ left ∧ smallSaved (s, ts, st))) ∧ Below w.heap.size w w' := by
  have H1 : Hid (∀ W q, Below w.heap.size w W → 0 ≤ q → q ≤ 1048576 → Calls Try.prog 83 #[vt, .int .i64 q] W fun e w' => (∃ r : Int, e = .returned (.int .i64 r) ∧ (r = -1 ∨ 0 ≤ r ∧ r ≤ q ∧ smallTasks ts)) ∧ Below W.heap.size W w') := fun W q hW q0 q1 => szTaskS_any vt ts q W (ht.below hW (Nat.le_refl _)) q0 q1
  have H2 : Hid (∀ W q, Below w.heap.size w W → 0 ≤ q → q ≤ 1048576 → Calls Try.prog 65 #[vs, .int .i64 q] W fun e w' => (∃ r : Int, e = .returned (.int .i64 r) ∧ (r = -1 ∨ 0 ≤ r ∧ r ≤ q ∧ st.length ≤ 1048576)) ∧ W = w') := fun W q hW q0 q1 => szInt64S_any vs st q W (hs.below hW (Nat.le_refl _)) q0 q1
  obtain ⟨_, t1, t2, rfl, _⟩ := ht
  obtain ⟨_, s1, s2, rfl, _⟩ := hs
  have hB0 : Below w.heap.size w (w.alloc (.cells #[.string s, .slice t1 ts.length t2, .slice s1 st.length s2] 45)) := (Below.refl _ w).alloc (Nat.le_refl _) _
  have k1 : Blk (w.alloc (.cells #[.string s, .slice t1 ts.length t2, .slice s1 st.length s2] 45)) w.heap.size 45 [.string s, .slice t1 ts.length t2, .slice s1 st.length s2] := Blk.new w _ _
  have HB0 := Lib.hid hB0
  have HK1 := Lib.hid k1
  unfold savedV
  unfold maxLen at hsz
  clear hB0 k1
  by_cases hlt : left < (s.size : Int)
  · have hd : left - (s.size : Int) < 0 := by omega
    go_enter Try.func25, Try.ntmps25
    go_wp2
    go_ret
    exact ⟨⟨-1, rfl, .inl rfl⟩, HB0.out⟩
  · have hd : ¬ left - (s.size : Int) < 0 := by omega
    go_enter Try.func25, Try.ntmps25
    go_wp2_with fail
    refine (H1.out _ _ HB0.out (by omega) (by omega)).mono ?_
    rintro e W1 ⟨⟨r, rfl, hr⟩, hb1⟩
    have c2 := (HK1.out.below hb1 HK1.out.lt).cell 2 _ rfl
    have HB1 := Lib.hid (HB0.out.trans (hb1.mono HB0.out.size))
    clear hb1
    by_cases hr0 : r < 0
    · go_wp2
      go_ret
      exact ⟨⟨-1, rfl, .inl rfl⟩, HB1.out⟩
    · have HR : Hid (0 ≤ r ∧ r ≤ left - (s.size : Int) ∧ smallTasks ts) := by rcases hr with h | h; omega; exact h
      have r0 := HR.out.1
      have r1 := HR.out.2.1
      clear hr
      go_wp2_with fail
      refine (H2.out _ r HB1.out r0 (by omega)).mono ?_
      rintro e w' ⟨⟨r2, rfl, hr2⟩, rfl⟩
      by_cases hr20 : r2 < 0
      · go_wp2
        go_ret
        exact ⟨⟨-1, rfl, .inl rfl⟩, HB1.out⟩
      · have HR2 : Hid (0 ≤ r2 ∧ r2 ≤ r ∧ st.length ≤ 1048576) := by rcases hr2 with h | h; omega; exact h
        clear hr2
        go_wp2
        go_ret
        exact ⟨⟨r2, rfl, .inr ⟨HR2.out.1, by have := HR2.out; omega, by show s.size ≤ _; omega, HR.out.2.2, HR2.out.2.2⟩⟩, HB1.out⟩

set_option maxRecDepth 100000 in
set_option maxHeartbeats 1000000 in
theorem toSaved_any (s : ByteArray) (vt vs : Value) (ts : List Tk) (st : List Int) (w : World) (hsz : s.size ≤ maxLen) (ht : TasksR w vt ts) (hs : SlR rInt w vs st) (hsm : smallSaved (s, ts, st)) :
    Calls Try.prog 27 #[savedV s vt vs] w fun e w' => (∃ ut us, e = .returned (savedV s ut us) ∧ FreshR rSaved w.heap.size w' [.string s, ut, us] (s, ts, st)) ∧ Below w.heap.size w w' := by
  have HC1 : Hid (∀ W, Below w.heap.size w W → Calls Try.prog 85 #[vt] W fun e w' => (∃ v', e = .returned v' ∧ FreshR (rSl rTask) W.heap.size w' [v'] ts) ∧ Below W.heap.size W w') := fun W hW => toTaskS_any vt ts W (ht.below hW (Nat.le_refl _)) hsm.2.1
  have HC2 : Hid (∀ W, Below w.heap.size w W → Calls Try.prog 41 #[vs] W fun e w' => ∃ v', e = .returned v' ∧ OwnI w' W.heap.size v' st ∧ Below W.heap.size W w') := fun W hW => by
    have := toInt64S_any vs st W (hs.ints.1.below hW (Nat.le_refl _)) hsm.2.2
    exact this
  have HW2 := Lib.hid hs.ints.2
  have HSZ := Lib.hid hsz
  obtain ⟨_, t1, t2, rfl, _⟩ := ht
  obtain ⟨_, s1, s2, rfl, _⟩ := hs
  unfold savedV
  clear hsz hsm
  go_enter Try.func27, Try.ntmps27
  go_wp2_with fail
  obtain ⟨S, hS⟩ : ∃ S, w.heap.size = S := ⟨_, rfl⟩
  obtain ⟨W0, hW0⟩ : ∃ W0, (((w.alloc (.cells #[.string s, .slice t1 ts.length t2, .slice s1 st.length s2] 45)).alloc (.cells #[.string { data := #[] }, .slice none 0 0, .slice none 0 0] 50)).alloc (.cells #[.string s, .slice none 0 0, .slice none 0 0] 50)) = W0 := ⟨_, rfl⟩
  have hB0 : Below S w W0 := by rw [← hW0, ← hS]; exact (((Below.refl _ w).alloc (Nat.le_refl _) _).alloc (by simp) _).alloc (by simp; omega) _
  have k1 : Blk W0 S 45 [.string s, .slice t1 ts.length t2, .slice s1 st.length s2] := by rw [← hW0, ← hS]; exact ((Blk.new w _ _).alloc _).alloc _
  have k2 : Blk W0 (S + 1) 50 [.string { data := #[] }, .slice none 0 0, .slice none 0 0] := by
    rw [← hW0, ← hS]
    have := (Blk.new (w.alloc (.cells #[.string s, .slice t1 ts.length t2, .slice s1 st.length s2] 45)) 50 [.string { data := #[] }, .slice none 0 0, .slice none 0 0]).alloc (.cells #[.string s, .slice none 0 0, .slice none 0 0] 50)
    rwa [World.size_alloc] at this
  have k3 : Blk W0 (S + 1 + 1) 50 [.string s, .slice none 0 0, .slice none 0 0] := by
    rw [← hW0, ← hS]
    have := Blk.new ((w.alloc (.cells #[.string s, .slice t1 ts.length t2, .slice s1 st.length s2] 45)).alloc (.cells #[.string { data := #[] }, .slice none 0 0, .slice none 0 0] 50)) 50 [.string s, .slice none 0 0, .slice none 0 0]
    rwa [World.size_alloc, World.size_alloc] at this
  rw [hW0, hS]
  have HS := Lib.hid hS
  have HB0 := Lib.hid hB0
  have hs0 : S + 1 + 1 < W0.heap.size := k3.lt
  clear hW0 hS hB0
  refine (HC1.out W0 (by rw [HS.out]; exact HB0.out)).mono ?_
  rintro e W1 ⟨⟨ut, rfl, hf1⟩, hb1⟩
  have m1 := k1.below hb1 (by omega)
  have m2 := k2.below hb1 (by omega)
  have m3 := k3.below hb1 (by omega)
  have c1 := m1.cell 2 _ rfl
  have c3 := m3.cell 1 _ rfl
  have f3 := m3.frozen 1
  have hs1 := hb1.size
  have HF1 := Lib.hid hf1
  have HB1 := Lib.hid (HB0.out.trans (hb1.mono (by omega)))
  have M1 := Lib.hid m1
  have M2 := Lib.hid m2
  have M3 := Lib.hid m3
  obtain ⟨ua, uc, rfl⟩ : ∃ a c, ut = .slice a ts.length c := by obtain ⟨v', he, _, a, c, h, _⟩ := hf1.now; simp at he; exact ⟨a, c, by rw [he]; exact h⟩
  clear hf1 hb1 m1 m2 m3 k1 k2 k3
  go_wp2_with fail
  obtain ⟨W2, hW2⟩ : ∃ W2, W1.setCell ⟨S + 1 + 1, 1, none⟩ (.slice ua ts.length uc) = W2 := ⟨_, rfl⟩
  rw [hW2]
  have n1 := M1.out.far ⟨S + 1 + 1, 1, none⟩ (.slice ua ts.length uc) (by show S ≠ S + 1 + 1; omega)
  have n2 := M2.out.far ⟨S + 1 + 1, 1, none⟩ (.slice ua ts.length uc) (by show S + 1 ≠ S + 1 + 1; omega)
  have n3 := M3.out.set 1 (.slice ua ts.length uc)
  rw [hW2] at n1 n2 n3
  have ho2 : FreshR (rSl rTask) W0.heap.size W2 [.slice ua ts.length uc] ts := by
    rw [← hW2]
    exact HF1.out.later (Agree.setCell _ _ _ hs0)
  have hb2 : Below S w W2 := by rw [← hW2]; exact HB1.out.setCell (by show S ≤ S + 1 + 1; omega) _
  have hs2 : W2.heap.size = W1.heap.size := by rw [← hW2]; simp
  have HB2 := Lib.hid hb2
  have HO2 := Lib.hid ho2
  clear hW2 HF1 HB1 M1 M2 M3 c1 c3 f3 hb2 ho2
  refine (HC2.out W2 (by rw [HS.out]; exact HB2.out)).mono ?_
  rintro e W3 ⟨us, rfl, ho3, hb3⟩
  have m1 := n1.below hb3 (by omega)
  have m2 := n2.below hb3 (by omega)
  have m3 := n3.below hb3 (by omega)
  have hs3 := hb3.size
  obtain ⟨ulb, ulc, rfl⟩ : ∃ a c, us = .slice a st.length c := by obtain ⟨_, a, c, h, _⟩ := ho3.ints; exact ⟨a, c, h⟩
  have c3 := m3.cell 2 _ rfl
  have f3 := m3.frozen 2
  have d0 := m3.cell 0 _ rfl
  have d1 := m3.cell 1 _ rfl
  have g0 := m2.cell 0 _ rfl
  have g1 := m2.cell 1 _ rfl
  have g2 := m2.cell 2 _ rfl
  have e0 := m2.frozen 0
  have e1 := m2.frozen 1
  have e2 := m2.frozen 2
  have HO3 := Lib.hid (ho3.fresh HW2.out)
  have HO4 := Lib.hid (HO2.out.later (Agree.below hb3 (Nat.le_refl _)))
  have HB3 := Lib.hid (HB2.out.trans (hb3.mono (by omega)))
  clear ho3 hb3 m1 m2 m3 n1 n2 n3 HO2 HB2
  go_wp2_with fail
  have ag : ∀ (x0 x1 x2 x3 : Value), Agree W0.heap.size W3 ((((W3.setCell ⟨S + 1 + 1, 2, none⟩ x0).setCell ⟨S + 1, 0, none⟩ x1).setCell ⟨S + 1, 1, none⟩ x2).setCell ⟨S + 1, 2, none⟩ x3) := fun x0 x1 x2 x3 =>
    (((Agree.setCell _ _ _ hs0).trans (Agree.setCell _ _ _ (by show S + 1 < _; omega))).trans (Agree.setCell _ _ _ (by show S + 1 < _; omega))).trans (Agree.setCell _ _ _ (by show S + 1 < _; omega))
  have p1 := HO4.out.later (ag (.slice ulb st.length ulc) (.string s) (.slice ua ts.length uc) (.slice ulb st.length ulc))
  have p2 := HO3.out.later ((ag (.slice ulb st.length ulc) (.string s) (.slice ua ts.length uc) (.slice ulb st.length ulc)).mono (by omega))
  refine bodyPost_ret (v := .agg #[.string s, .slice ua ts.length uc, .slice ulb st.length ulc]) (by simp [results, Try.results27, go_sem, g0, g1, g2]) rfl ⟨⟨_, _, rfl, (FreshR.str _ _ _ HSZ.out).pair ((p1.mono (by rw [HS.out]; omega)).pair (p2.mono (by rw [HS.out]; omega)))⟩, ?_⟩
  rw [HS.out]
  exact (((HB3.out.setCell (by show S ≤ S + 1 + 1; omega) _).setCell (by show S ≤ S + 1; omega) _).setCell (by show S ≤ S + 1; omega) _).setCell (by show S ≤ S + 1; omega) _

set_option maxRecDepth 100000 in
set_option maxHeartbeats 1000000 in
theorem eqSaved_same (s : ByteArray) (vt vs ut us : Value) (ts : List Tk) (st : List Int) (w : World) (ht : TasksR w vt ts) (hs : Ints w vs st) (ht' : TasksR w ut ts) (hs' : Ints w us st) :
    Calls Try.prog 29 #[savedV s vt vs, savedV s ut us] w fun e w' => e = .returned (.bool true) ∧ Below w.heap.size w w' := by
  have H1 : Hid (∀ W, Below w.heap.size w W → Calls Try.prog 89 #[vt, ut] W fun e w' => e = .returned (.bool true) ∧ Below W.heap.size W w') := fun W hW => eqTaskS_same vt ut ts W (ht.below hW (Nat.le_refl _)) (ht'.below hW (Nat.le_refl _))
  have H2 : Hid (∀ W, Below w.heap.size w W → Calls Try.prog 43 #[vs, us] W fun e w' => e = .returned (.bool true) ∧ Below W.heap.size W w') := fun W hW => by
    have := eqInt64S_any vs us st st W (hs.below hW (Nat.le_refl _)) (hs'.below hW (Nat.le_refl _)); rwa [beq_self_eq_true] at this
  obtain ⟨_, t1, t2, rfl, _⟩ := ht
  obtain ⟨_, s1, s2, rfl, _⟩ := hs
  obtain ⟨_, t3, t4, rfl, _⟩ := ht'
  obtain ⟨_, s3, s4, rfl, _⟩ := hs'
  unfold savedV
  go_enter Try.func29, Try.ntmps29
  go_wp2_with fail
  obtain ⟨W0, hW0⟩ : ∃ W0, ((w.alloc (.cells #[.string s, .slice t1 ts.length t2, .slice s1 st.length s2] 50)).alloc (.cells #[.string s, .slice t3 ts.length t4, .slice s3 st.length s4] 50)) = W0 := ⟨_, rfl⟩
  have hB0 : Below w.heap.size w W0 := by rw [← hW0]; exact ((Below.refl _ w).alloc (Nat.le_refl _) _).alloc (by simp) _
  have k1 : Blk W0 w.heap.size 50 [.string s, .slice t1 ts.length t2, .slice s1 st.length s2] := by rw [← hW0]; exact (Blk.new w _ _).alloc _
  have k2 : Blk W0 (w.heap.size + 1) 50 [.string s, .slice t3 ts.length t4, .slice s3 st.length s4] := by
    rw [← hW0]
    have := Blk.new (w.alloc (.cells #[.string s, .slice t1 ts.length t2, .slice s1 st.length s2] 50)) 50 [.string s, .slice t3 ts.length t4, .slice s3 st.length s4]
    rwa [World.size_alloc] at this
  rw [hW0]
  have HB0 := Lib.hid hB0
  have l1' := k1.lt
  have l2' := k2.lt
  clear hW0 hB0
  refine (H1.out W0 HB0.out).mono ?_
  rintro e W1 ⟨rfl, hb1⟩
  have m1 := k1.below hb1 l1'
  have m2 := k2.below hb1 l2'
  have c1 := m1.cell 2 _ rfl
  have c2 := m2.cell 2 _ rfl
  have HB1 := Lib.hid (HB0.out.trans (hb1.mono HB0.out.size))
  clear hb1 m1 m2 k1 k2
  go_wp2_with fail
  refine (H2.out W1 HB1.out).mono ?_
  rintro e W2 ⟨rfl, hb2⟩
  have HB2 := Lib.hid (HB1.out.trans (hb2.mono HB1.out.size))
  clear hb2
  go_wp2
  go_ret
  exact ⟨rfl, HB2.out⟩
end Go.Proofs.Ytmakjgbldejcpaa
