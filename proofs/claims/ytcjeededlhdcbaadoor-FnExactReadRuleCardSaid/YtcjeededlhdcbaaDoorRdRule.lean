
/- ReadRule by both. Conditions: texts of at most 2^20 bytes; the library's tables and its two error values stand. -/
import Derived.Test.YtcjeededlhdcbaaDoorRdS
import Derived.Test.YtcjeededlhdcbaaDoorBlk
import Derived.Test.YtcjeededlhdcbaaDoorValidDesk
import Derived.Deep.RegionHeld3
namespace Go.Proofs.YtcjeededlhdcbaaDoor
open Go.RowKit Go.Shelf Go.BigFrame
set_option linter.unusedVariables false
set_option linter.unusedSimpArgs false

def rlT (s : ByteArray) : Rl := (nth (rlL s) 0, nth (rlL s) 1, nth (rlL s) 2, nth (rlL s) 3, nth (rlL s) 4)
def rrB (s : ByteArray) : Bool := rlB s && decide ((rlL s).length = 5) && ruleOk (rlT s)
def rrR (s : ByteArray) : Rl := if rrB s = true then rlT s else (0, 0, 0, 0, 0)
def rlV (r : Rl) : Value := .agg #[.int .i64 r.1, .int .i64 r.2.1, .int .i64 r.2.2.1, .int .i64 r.2.2.2.1, .int .i64 r.2.2.2.2]
theorem below5 {R : Nat} {w W : World} (h : Below R w W) (a b c d e : Value) : Below R w (((((W.setCell ⟨R, 0, none⟩ a).setCell ⟨R, 1, none⟩ b).setCell ⟨R, 2, none⟩ c).setCell ⟨R, 3, none⟩ d).setCell ⟨R, 4, none⟩ e) :=
  (((((h.setCell (Nat.le_refl _) _).setCell (Nat.le_refl _) _).setCell (Nat.le_refl _) _).setCell (Nat.le_refl _) _).setCell (Nat.le_refl _) _)
theorem rr_no {s : ByteArray} (h : rrB s = false) : rrR s = (0, 0, 0, 0, 0) := by unfold rrR; rw [h]; rfl
theorem rr_yes {s : ByteArray} (h : rrB s = true) : rrR s = rlT s := by unfold rrR; rw [h]; rfl
set_option maxRecDepth 100000 in
set_option maxHeartbeats 4000000 in
theorem ReadRule_any (s : ByteArray) (m : Int) (w : World) (hs : s.size ≤ 1048576) (hm : w.cell? ⟨0, 0, none⟩ = some (.int .i64 m)) (ht : Tab10 w) (he : ErrW w) :
    Calls Tryd.prog 7 #[.string s] w fun e w' => e = .returned (.tuple #[rlV (rrR s), .bool (rrB s)]) ∧ Below w.heap.size w w' := by
  obtain ⟨R, hR⟩ : ∃ R, w.heap.size = R := ⟨_, rfl⟩
  have hmG := lt_of_cell hm
  have HRL : Hid (∀ W, Below R w W → Calls Tryd.prog 28 #[.string s] W fun e w' => (∃ v, e = .returned (.tuple #[v, .bool (rlB s)]) ∧ OwnI w' W.heap.size v (rlL s)) ∧ Below W.heap.size W w') := fun W hW => ReadList_any s m W hs ((hW.cell (p := ⟨0, 0, none⟩) (by rw [← hR]; exact hmG)).trans hm) (ht.below (by rw [hR]; exact hW)) (he.below (by rw [hR]; exact hW))
  have KR0 : Hid (Blk (w.alloc (.cells #[.int .i64 0, .int .i64 0, .int .i64 0, .int .i64 0, .int .i64 0] 23)) R 23 [.int .i64 0, .int .i64 0, .int .i64 0, .int .i64 0, .int .i64 0]) := by
    rw [← hR]; exact Blk.new w _ [.int .i64 0, .int .i64 0, .int .i64 0, .int .i64 0, .int .i64 0]
  have B0 : Hid (Below R w (w.alloc (.cells #[.int .i64 0, .int .i64 0, .int .i64 0, .int .i64 0, .int .i64 0] 23))) := by
    rw [← hR]; exact (Below.refl _ w).alloc (Nat.le_refl _) _
  have hsz : (w.alloc (.cells #[.int .i64 0, .int .i64 0, .int .i64 0, .int .i64 0, .int .i64 0] 23)).heap.size = R + 1 := by rw [← hR]; simp
  have HC := Lib.hid (HRL.out _ B0.out)
  have HX : Hid (rrB s = (rlB s && decide ((rlL s).length = 5) && ruleOk (rlT s))) := rfl
  have HNO : Hid (rrB s = false → rrR s = (0, 0, 0, 0, 0)) := rr_no
  have HYES : Hid (rrB s = true → rrR s = rlT s) := rr_yes
  have HTT : Hid (rlT s = (nth (rlL s) 0, nth (rlL s) 1, nth (rlL s) 2, nth (rlL s) 3, nth (rlL s) 4)) := rfl
  have HR := Lib.hid hR
  have HSZ := Lib.hid hsz
  clear hm ht he hmG HRL hsz
  obtain ⟨L, hL⟩ : ∃ L, rlL s = L := ⟨_, rfl⟩
  rw [hL] at HC HX HTT
  clear hL
  rw [hR]
  go_enter Tryd.func7, Tryd.ntmps7
  go_wp2_with fail
  refine HC.out.mono ?_
  rintro e W1 ⟨⟨v, rfl, ho⟩, hb⟩
  obtain ⟨_, a, c, hv, _⟩ := ho.ints
  subst hv
  have B1 := Lib.hid (B0.out.trans (hb.mono (by have := HSZ.out; omega)))
  have K1 := Lib.hid (KR0.out.below hb (by have := HSZ.out; omega))
  have HO := Lib.hid ho
  have r0 := K1.out.cell 0 _ rfl
  have r1 := K1.out.cell 1 _ rfl
  have r2 := K1.out.cell 2 _ rfl
  have r3 := K1.out.cell 3 _ rfl
  have r4 := K1.out.cell 4 _ rfl
  have f0 := K1.out.frozen 0
  have f1 := K1.out.frozen 1
  have f2 := K1.out.frozen 2
  have f3 := K1.out.frozen 3
  have f4 := K1.out.frozen 4
  have hrl := K1.out.lt
  have HF5 : Hid (∀ a b c d e, Below R w (((((W1.setCell ⟨R, 0, none⟩ a).setCell ⟨R, 1, none⟩ b).setCell ⟨R, 2, none⟩ c).setCell ⟨R, 3, none⟩ d).setCell ⟨R, 4, none⟩ e)) := fun a b c d e => below5 B1.out a b c d e
  clear ho hb HC KR0 B0 hR
  cases hb : rlB s
  · have HB : Hid (rrB s = false) := by show _ = _; rw [HX.out, hb]; rfl
    have HF := Lib.hid (HNO.out HB.out)
    go_wp2
    refine bodyPost_ret (v := .tuple #[.agg #[.int .i64 0, .int .i64 0, .int .i64 0, .int .i64 0, .int .i64 0], .bool false]) (by simp [results, Tryd.results7, go_sem, r0, r1, r2, r3, r4, hrl]) rfl ⟨?_, ?_⟩
    · rw [HF.out, HB.out]; rfl
    · exact HF5.out _ _ _ _ _
  · obtain ⟨n, hn⟩ : ∃ n, L.length = n := ⟨_, rfl⟩
    have HN := Lib.hid hn
    rw [hn] at HX HO
    rw [hn]
    clear hn
    by_cases h5 : n = 5
    · subst h5
      obtain ⟨a0, e0⟩ : ∃ x, nth L 0 = x := ⟨_, rfl⟩
      obtain ⟨a1, e1⟩ : ∃ x, nth L 1 = x := ⟨_, rfl⟩
      obtain ⟨a2, e2⟩ : ∃ x, nth L 2 = x := ⟨_, rfl⟩
      obtain ⟨a3, e3⟩ : ∃ x, nth L 3 = x := ⟨_, rfl⟩
      obtain ⟨a4, e4⟩ : ∃ x, nth L 4 = x := ⟨_, rfl⟩
      rw [e0, e1, e2, e3, e4] at HTT
      obtain ⟨g, rfl⟩ : ∃ g, a = some ⟨g, 0, none⟩ := by
        rcases HO.out.2 with ⟨h1, h2⟩ | ⟨g, cap, cur, h1, _⟩
        · have := HN.out; omega
        · injection h1 with h1 _ _; exact ⟨g, h1⟩
      have c0 := HO.out.at_ HN.out.symm 0 (by have := HN.out; omega)
      have c1 := HO.out.at_ HN.out.symm 1 (by have := HN.out; omega)
      have c2 := HO.out.at_ HN.out.symm 2 (by have := HN.out; omega)
      have c3 := HO.out.at_ HN.out.symm 3 (by have := HN.out; omega)
      have c4 := HO.out.at_ HN.out.symm 4 (by have := HN.out; omega)
      rw [e0] at c0
      rw [e1] at c1
      rw [e2] at c2
      rw [e3] at c3
      rw [e4] at c4
      have hRT : rrB s = ruleOk (a0, a1, a2, a3, a4) := by rw [HX.out, hb, HTT.out]; rfl
      have HRT := Lib.hid hRT
      obtain ⟨N1, hN1⟩ : ∃ x, W1.heap.size = x := ⟨_, rfl⟩
      have hgl := HO.out.lt g rfl
      have hRN : R < N1 := by omega
      have hgN : g < N1 := by omega
      have hRne : ¬ R = N1 := by omega
      have HVR : Hid (∀ W, Calls Tryd.prog 20 #[.agg #[.int .i64 a0, .int .i64 a1, .int .i64 a2, .int .i64 a3, .int .i64 a4]] W fun e w' => e = .returned (.bool (ruleOk (a0, a1, a2, a3, a4))) ∧ Below W.heap.size W w') := fun W => validRule_any a0 a1 a2 a3 a4 W
      clear e0 e1 e2 e3 e4 hRT hgl
      go_wp2
      go_region_held3 (fun w' => w'.cell? ⟨g, 0, none⟩ = some (.int .i64 a0) ∧ w'.cell? ⟨g, 1, none⟩ = some (.int .i64 a1) ∧ w'.cell? ⟨g, 2, none⟩ = some (.int .i64 a2) ∧ w'.cell? ⟨g, 3, none⟩ = some (.int .i64 a3) ∧ w'.cell? ⟨g, 4, none⟩ = some (.int .i64 a4))
        (first | go_keep)
        (fail)
      obtain ⟨W2, hW2⟩ : ∃ W, (W1.alloc (.cells #[.int .i64 a0, .int .i64 a1, .int .i64 a2, .int .i64 a3, .int .i64 a4] 23)).drew = W := ⟨_, rfl⟩
      have KR2 : Hid (Blk W2 R 23 [.int .i64 0, .int .i64 0, .int .i64 0, .int .i64 0, .int .i64 0]) := by show Blk _ _ _ _; rw [← hW2]; exact K1.out.alloc _
      have KN2 : Hid (Blk W2 N1 23 [.int .i64 a0, .int .i64 a1, .int .i64 a2, .int .i64 a3, .int .i64 a4]) := by show Blk _ _ _ _; rw [← hW2, ← hN1]; exact Blk.new W1 _ [.int .i64 a0, .int .i64 a1, .int .i64 a2, .int .i64 a3, .int .i64 a4]
      have B2 : Hid (Below R w W2) := by show Below _ _ _; rw [← hW2]; exact (B1.out.alloc (by omega) _).drew
      rw [hW2]
      clear hW2 K1 B1 HF5 r0 r1 r2 r3 r4 f0 f1 f2 f3 f4 c0 c1 c2 c3 c4 hrl hN1 HO
      have d0 := KN2.out.cell 0 _ rfl
      have d1 := KN2.out.cell 1 _ rfl
      have d2 := KN2.out.cell 2 _ rfl
      have d3 := KN2.out.cell 3 _ rfl
      have d4 := KN2.out.cell 4 _ rfl
      go_wp2_with fail
      refine (HVR.out W2).mono ?_
      rintro e W3 ⟨rfl, hb3⟩
      have KR3 := Lib.hid (KR2.out.below hb3 KR2.out.lt)
      have KN3 := Lib.hid (KN2.out.below hb3 KN2.out.lt)
      have B3 : Hid (Below R w W3) := B2.out.trans (hb3.mono (by have := KR2.out.lt; omega))
      clear hb3 KR2 KN2 B2 d0 d1 d2 d3 d4 HVR
      have d0 := KN3.out.cell 0 _ rfl
      have d1 := KN3.out.cell 1 _ rfl
      have d2 := KN3.out.cell 2 _ rfl
      have d3 := KN3.out.cell 3 _ rfl
      have d4 := KN3.out.cell 4 _ rfl
      have r0 := KR3.out.cell 0 _ rfl
      have r1 := KR3.out.cell 1 _ rfl
      have r2 := KR3.out.cell 2 _ rfl
      have r3 := KR3.out.cell 3 _ rfl
      have r4 := KR3.out.cell 4 _ rfl
      have f0 := KR3.out.frozen 0
      have f1 := KR3.out.frozen 1
      have f2 := KR3.out.frozen 2
      have f3 := KR3.out.frozen 3
      have f4 := KR3.out.frozen 4
      have hrl := KR3.out.lt
      have HF5 : Hid (∀ a b c d e, Below R w (((((W3.setCell ⟨R, 0, none⟩ a).setCell ⟨R, 1, none⟩ b).setCell ⟨R, 2, none⟩ c).setCell ⟨R, 3, none⟩ d).setCell ⟨R, 4, none⟩ e)) := fun a b c d e => below5 B3.out a b c d e
      cases hok : ruleOk (a0, a1, a2, a3, a4)
      · have HB : Hid (rrB s = false) := by show _ = _; rw [HRT.out, hok]
        have HF := Lib.hid (HNO.out HB.out)
        go_wp2
        refine bodyPost_ret (v := .tuple #[.agg #[.int .i64 0, .int .i64 0, .int .i64 0, .int .i64 0, .int .i64 0], .bool false]) (by simp [results, Tryd.results7, go_sem, r0, r1, r2, r3, r4, hrl]) rfl ⟨?_, ?_⟩
        · rw [HF.out, HB.out]; rfl
        · exact HF5.out _ _ _ _ _
      · have HB : Hid (rrB s = true) := by show _ = _; rw [HRT.out, hok]
        have HF := Lib.hid (HYES.out HB.out)
        go_wp2
        refine bodyPost_ret (v := .tuple #[.agg #[.int .i64 a0, .int .i64 a1, .int .i64 a2, .int .i64 a3, .int .i64 a4], .bool true]) (by simp [results, Tryd.results7, go_sem, r0, r1, r2, r3, r4, hrl]) rfl ⟨?_, ?_⟩
        · rw [HF.out, HB.out, HTT.out]; rfl
        · exact HF5.out _ _ _ _ _
    · have HB : Hid (rrB s = false) := by show _ = _; rw [HX.out, hb, decide_eq_false h5]; rfl
      have HF := Lib.hid (HNO.out HB.out)
      have h5i : ¬ (n : Int) = 5 := by omega
      have h5b : ((n : Int) != 5) = true := by simp; omega
      have h5c : ((n : Int) == 5) = false := by simp; omega
      go_wp2
      refine bodyPost_ret (v := .tuple #[.agg #[.int .i64 0, .int .i64 0, .int .i64 0, .int .i64 0, .int .i64 0], .bool false]) (by simp [results, Tryd.results7, go_sem, r0, r1, r2, r3, r4, hrl]) rfl ⟨?_, ?_⟩
      · rw [HF.out, HB.out]; rfl
      · exact HF5.out _ _ _ _ _
set_option maxRecDepth 100000 in
set_option maxHeartbeats 4000000 in
theorem l08ReadRule_any (s : ByteArray) (w : World) (hs : s.size ≤ 1048576) :
    Calls Tryd.prog 27 #[.string s] w fun e w' => e = .returned (.tuple #[rlV (rrR s), .bool (rrB s)]) ∧ Below w.heap.size w w' := by
  obtain ⟨R, hR⟩ : ∃ R, w.heap.size = R := ⟨_, rfl⟩
  have HRL : Hid (∀ W, Calls Tryd.prog 47 #[.string s] W fun e w' => (∃ v, e = .returned (.tuple #[v, .bool (rlB s)]) ∧ OwnI w' W.heap.size v (rlL s)) ∧ Below W.heap.size W w') := fun W => l01Numbers_any s W hs
  have KR0 : Hid (Blk (w.alloc (.cells #[.int .i64 0, .int .i64 0, .int .i64 0, .int .i64 0, .int .i64 0] 23)) R 23 [.int .i64 0, .int .i64 0, .int .i64 0, .int .i64 0, .int .i64 0]) := by
    rw [← hR]; exact Blk.new w _ [.int .i64 0, .int .i64 0, .int .i64 0, .int .i64 0, .int .i64 0]
  have B0 : Hid (Below R w (w.alloc (.cells #[.int .i64 0, .int .i64 0, .int .i64 0, .int .i64 0, .int .i64 0] 23))) := by
    rw [← hR]; exact (Below.refl _ w).alloc (Nat.le_refl _) _
  have hsz : (w.alloc (.cells #[.int .i64 0, .int .i64 0, .int .i64 0, .int .i64 0, .int .i64 0] 23)).heap.size = R + 1 := by rw [← hR]; simp
  have HC := Lib.hid (HRL.out (w.alloc (.cells #[.int .i64 0, .int .i64 0, .int .i64 0, .int .i64 0, .int .i64 0] 23)))
  have HX : Hid (rrB s = (rlB s && decide ((rlL s).length = 5) && ruleOk (rlT s))) := rfl
  have HNO : Hid (rrB s = false → rrR s = (0, 0, 0, 0, 0)) := rr_no
  have HYES : Hid (rrB s = true → rrR s = rlT s) := rr_yes
  have HTT : Hid (rlT s = (nth (rlL s) 0, nth (rlL s) 1, nth (rlL s) 2, nth (rlL s) 3, nth (rlL s) 4)) := rfl
  have HR := Lib.hid hR
  have HSZ := Lib.hid hsz
  clear HRL hsz
  obtain ⟨L, hL⟩ : ∃ L, rlL s = L := ⟨_, rfl⟩
  rw [hL] at HC HX HTT
  clear hL
  rw [hR]
  go_enter Tryd.func27, Tryd.ntmps27
  go_wp2_with fail
  refine HC.out.mono ?_
  rintro e W1 ⟨⟨v, rfl, ho⟩, hb⟩
  obtain ⟨_, a, c, hv, _⟩ := ho.ints
  subst hv
  have B1 := Lib.hid (B0.out.trans (hb.mono (by have := HSZ.out; omega)))
  have K1 := Lib.hid (KR0.out.below hb (by have := HSZ.out; omega))
  have HO := Lib.hid ho
  have r0 := K1.out.cell 0 _ rfl
  have r1 := K1.out.cell 1 _ rfl
  have r2 := K1.out.cell 2 _ rfl
  have r3 := K1.out.cell 3 _ rfl
  have r4 := K1.out.cell 4 _ rfl
  have f0 := K1.out.frozen 0
  have f1 := K1.out.frozen 1
  have f2 := K1.out.frozen 2
  have f3 := K1.out.frozen 3
  have f4 := K1.out.frozen 4
  have hrl := K1.out.lt
  have HF5 : Hid (∀ a b c d e, Below R w (((((W1.setCell ⟨R, 0, none⟩ a).setCell ⟨R, 1, none⟩ b).setCell ⟨R, 2, none⟩ c).setCell ⟨R, 3, none⟩ d).setCell ⟨R, 4, none⟩ e)) := fun a b c d e => below5 B1.out a b c d e
  clear ho hb HC KR0 B0 hR
  cases hb : rlB s
  · have HB : Hid (rrB s = false) := by show _ = _; rw [HX.out, hb]; rfl
    have HF := Lib.hid (HNO.out HB.out)
    go_wp2
    refine bodyPost_ret (v := .tuple #[.agg #[.int .i64 0, .int .i64 0, .int .i64 0, .int .i64 0, .int .i64 0], .bool false]) (by simp [results, Tryd.results27, go_sem, r0, r1, r2, r3, r4, hrl]) rfl ⟨?_, ?_⟩
    · rw [HF.out, HB.out]; rfl
    · exact HF5.out _ _ _ _ _
  · obtain ⟨n, hn⟩ : ∃ n, L.length = n := ⟨_, rfl⟩
    have HN := Lib.hid hn
    rw [hn] at HX HO
    rw [hn]
    clear hn
    by_cases h5 : n = 5
    · subst h5
      obtain ⟨a0, e0⟩ : ∃ x, nth L 0 = x := ⟨_, rfl⟩
      obtain ⟨a1, e1⟩ : ∃ x, nth L 1 = x := ⟨_, rfl⟩
      obtain ⟨a2, e2⟩ : ∃ x, nth L 2 = x := ⟨_, rfl⟩
      obtain ⟨a3, e3⟩ : ∃ x, nth L 3 = x := ⟨_, rfl⟩
      obtain ⟨a4, e4⟩ : ∃ x, nth L 4 = x := ⟨_, rfl⟩
      rw [e0, e1, e2, e3, e4] at HTT
      obtain ⟨g, rfl⟩ : ∃ g, a = some ⟨g, 0, none⟩ := by
        rcases HO.out.2 with ⟨h1, h2⟩ | ⟨g, cap, cur, h1, _⟩
        · have := HN.out; omega
        · injection h1 with h1 _ _; exact ⟨g, h1⟩
      have c0 := HO.out.at_ HN.out.symm 0 (by have := HN.out; omega)
      have c1 := HO.out.at_ HN.out.symm 1 (by have := HN.out; omega)
      have c2 := HO.out.at_ HN.out.symm 2 (by have := HN.out; omega)
      have c3 := HO.out.at_ HN.out.symm 3 (by have := HN.out; omega)
      have c4 := HO.out.at_ HN.out.symm 4 (by have := HN.out; omega)
      rw [e0] at c0
      rw [e1] at c1
      rw [e2] at c2
      rw [e3] at c3
      rw [e4] at c4
      have hRT : rrB s = ruleOk (a0, a1, a2, a3, a4) := by rw [HX.out, hb, HTT.out]; rfl
      have HRT := Lib.hid hRT
      obtain ⟨N1, hN1⟩ : ∃ x, W1.heap.size = x := ⟨_, rfl⟩
      have hgl := HO.out.lt g rfl
      have hRN : R < N1 := by omega
      have hgN : g < N1 := by omega
      have hRne : ¬ R = N1 := by omega
      have HVR : Hid (∀ W, W.cell? ⟨N1, 0, none⟩ = some (.int .i64 a0) → W.cell? ⟨N1, 1, none⟩ = some (.int .i64 a1) → W.cell? ⟨N1, 2, none⟩ = some (.int .i64 a2) → W.cell? ⟨N1, 3, none⟩ = some (.int .i64 a3) → W.cell? ⟨N1, 4, none⟩ = some (.int .i64 a4) → Calls Tryd.prog 48 #[.pointer (some ⟨N1, 0, none⟩)] W fun e w' => e = .returned (.bool (ruleOk (a0, a1, a2, a3, a4))) ∧ ∃ q, w' = W.drewN q) := fun W q0 q1 q2 q3 q4 => l06Is_any N1 0 a0 a1 a2 a3 a4 W q0 q1 q2 q3 q4
      clear e0 e1 e2 e3 e4 hRT hgl
      go_wp2
      go_region_held3 (fun w' => w'.cell? ⟨g, 0, none⟩ = some (.int .i64 a0) ∧ w'.cell? ⟨g, 1, none⟩ = some (.int .i64 a1) ∧ w'.cell? ⟨g, 2, none⟩ = some (.int .i64 a2) ∧ w'.cell? ⟨g, 3, none⟩ = some (.int .i64 a3) ∧ w'.cell? ⟨g, 4, none⟩ = some (.int .i64 a4))
        (first | go_keep)
        (fail)
      obtain ⟨W2, hW2⟩ : ∃ W, (W1.alloc (.cells #[.int .i64 a0, .int .i64 a1, .int .i64 a2, .int .i64 a3, .int .i64 a4] 23)).drew = W := ⟨_, rfl⟩
      have KR2 : Hid (Blk W2 R 23 [.int .i64 0, .int .i64 0, .int .i64 0, .int .i64 0, .int .i64 0]) := by show Blk _ _ _ _; rw [← hW2]; exact K1.out.alloc _
      have KN2 : Hid (Blk W2 N1 23 [.int .i64 a0, .int .i64 a1, .int .i64 a2, .int .i64 a3, .int .i64 a4]) := by show Blk _ _ _ _; rw [← hW2, ← hN1]; exact Blk.new W1 _ [.int .i64 a0, .int .i64 a1, .int .i64 a2, .int .i64 a3, .int .i64 a4]
      have B2 : Hid (Below R w W2) := by show Below _ _ _; rw [← hW2]; exact (B1.out.alloc (by omega) _).drew
      rw [hW2]
      clear hW2 K1 B1 HF5 r0 r1 r2 r3 r4 f0 f1 f2 f3 f4 c0 c1 c2 c3 c4 hrl hN1 HO
      have d0 := KN2.out.cell 0 _ rfl
      have d1 := KN2.out.cell 1 _ rfl
      have d2 := KN2.out.cell 2 _ rfl
      have d3 := KN2.out.cell 3 _ rfl
      have d4 := KN2.out.cell 4 _ rfl
      go_wp2_with fail
      refine (HVR.out W2 d0 d1 d2 d3 d4).mono ?_
      rintro e W3' ⟨rfl, q3, hq3⟩
      obtain ⟨W3, hW3⟩ : ∃ W, W3' = W := ⟨_, rfl⟩
      rw [hW3] at hq3 ⊢
      have hb3 : Below W2.heap.size W2 W3 := by rw [hq3]; exact below_drewN q3 (Below.refl _ _)
      clear hW3 hq3
      have KR3 := Lib.hid (KR2.out.below hb3 KR2.out.lt)
      have KN3 := Lib.hid (KN2.out.below hb3 KN2.out.lt)
      have B3 : Hid (Below R w W3) := B2.out.trans (hb3.mono (by have := KR2.out.lt; omega))
      clear hb3 KR2 KN2 B2 d0 d1 d2 d3 d4 HVR
      have d0 := KN3.out.cell 0 _ rfl
      have d1 := KN3.out.cell 1 _ rfl
      have d2 := KN3.out.cell 2 _ rfl
      have d3 := KN3.out.cell 3 _ rfl
      have d4 := KN3.out.cell 4 _ rfl
      have r0 := KR3.out.cell 0 _ rfl
      have r1 := KR3.out.cell 1 _ rfl
      have r2 := KR3.out.cell 2 _ rfl
      have r3 := KR3.out.cell 3 _ rfl
      have r4 := KR3.out.cell 4 _ rfl
      have f0 := KR3.out.frozen 0
      have f1 := KR3.out.frozen 1
      have f2 := KR3.out.frozen 2
      have f3 := KR3.out.frozen 3
      have f4 := KR3.out.frozen 4
      have hrl := KR3.out.lt
      have HF5 : Hid (∀ a b c d e, Below R w (((((W3.setCell ⟨R, 0, none⟩ a).setCell ⟨R, 1, none⟩ b).setCell ⟨R, 2, none⟩ c).setCell ⟨R, 3, none⟩ d).setCell ⟨R, 4, none⟩ e)) := fun a b c d e => below5 B3.out a b c d e
      cases hok : ruleOk (a0, a1, a2, a3, a4)
      · have HB : Hid (rrB s = false) := by show _ = _; rw [HRT.out, hok]
        have HF := Lib.hid (HNO.out HB.out)
        go_wp2
        refine bodyPost_ret (v := .tuple #[.agg #[.int .i64 0, .int .i64 0, .int .i64 0, .int .i64 0, .int .i64 0], .bool false]) (by simp [results, Tryd.results27, go_sem, r0, r1, r2, r3, r4, hrl]) rfl ⟨?_, ?_⟩
        · rw [HF.out, HB.out]; rfl
        · exact HF5.out _ _ _ _ _
      · have HB : Hid (rrB s = true) := by show _ = _; rw [HRT.out, hok]
        have HF := Lib.hid (HYES.out HB.out)
        go_wp2
        refine bodyPost_ret (v := .tuple #[.agg #[.int .i64 a0, .int .i64 a1, .int .i64 a2, .int .i64 a3, .int .i64 a4], .bool true]) (by simp [results, Tryd.results27, go_sem, r0, r1, r2, r3, r4, hrl]) rfl ⟨?_, ?_⟩
        · rw [HF.out, HB.out, HTT.out]; rfl
        · exact HF5.out _ _ _ _ _
    · have HB : Hid (rrB s = false) := by show _ = _; rw [HX.out, hb, decide_eq_false h5]; rfl
      have HF := Lib.hid (HNO.out HB.out)
      have h5i : ¬ (n : Int) = 5 := by omega
      have h5b : ((n : Int) != 5) = true := by simp; omega
      have h5c : ((n : Int) == 5) = false := by simp; omega
      go_wp2
      refine bodyPost_ret (v := .tuple #[.agg #[.int .i64 0, .int .i64 0, .int .i64 0, .int .i64 0, .int .i64 0], .bool false]) (by simp [results, Tryd.results27, go_sem, r0, r1, r2, r3, r4, hrl]) rfl ⟨?_, ?_⟩
      · rw [HF.out, HB.out]; rfl
      · exact HF5.out _ _ _ _ _
set_option maxRecDepth 100000 in
set_option maxHeartbeats 4000000 in
theorem specReadRule_any (s : ByteArray) (w : World) (hs : s.size ≤ 1048576) :
    Calls Tryd.prog 6 #[.string s] w fun e w' => e = .returned (.tuple #[rlV (rrR s), .bool (rrB s)]) ∧ Below w.heap.size w w' := by
  obtain ⟨R, hR⟩ : ∃ R, w.heap.size = R := ⟨_, rfl⟩
  have KR0 : Hid (Blk (w.alloc (.cells #[.int .i64 0, .int .i64 0, .int .i64 0, .int .i64 0, .int .i64 0] 23)) R 23 [.int .i64 0, .int .i64 0, .int .i64 0, .int .i64 0, .int .i64 0]) := by
    rw [← hR]; exact Blk.new w _ [.int .i64 0, .int .i64 0, .int .i64 0, .int .i64 0, .int .i64 0]
  have B0 : Hid (Below R w (w.alloc (.cells #[.int .i64 0, .int .i64 0, .int .i64 0, .int .i64 0, .int .i64 0] 23))) := by
    rw [← hR]; exact (Below.refl _ w).alloc (Nat.le_refl _) _
  have hsz : (w.alloc (.cells #[.int .i64 0, .int .i64 0, .int .i64 0, .int .i64 0, .int .i64 0] 23)).heap.size = R + 1 := by rw [← hR]; simp
  have HC := Lib.hid (l08ReadRule_any s (w.alloc (.cells #[.int .i64 0, .int .i64 0, .int .i64 0, .int .i64 0, .int .i64 0] 23)) hs)
  have HSZ := Lib.hid hsz
  clear hsz
  obtain ⟨⟨a0, a1, a2, a3, a4⟩, hr⟩ : ∃ r, rrR s = r := ⟨_, rfl⟩
  rw [hr] at HC ⊢
  clear hr
  rw [hR]
  go_enter Tryd.func6, Tryd.ntmps6
  go_wp2_with fail
  refine HC.out.mono ?_
  rintro e W1 ⟨rfl, hb⟩
  have B1 := Lib.hid (B0.out.trans (hb.mono (by have := HSZ.out; omega)))
  have K1 := Lib.hid (KR0.out.below hb (by have := HSZ.out; omega))
  have r0 := K1.out.cell 0 _ rfl
  have r1 := K1.out.cell 1 _ rfl
  have r2 := K1.out.cell 2 _ rfl
  have r3 := K1.out.cell 3 _ rfl
  have r4 := K1.out.cell 4 _ rfl
  have f0 := K1.out.frozen 0
  have f1 := K1.out.frozen 1
  have f2 := K1.out.frozen 2
  have f3 := K1.out.frozen 3
  have f4 := K1.out.frozen 4
  have hrl := K1.out.lt
  have HF5 : Hid (∀ a b c d e, Below R w (((((W1.setCell ⟨R, 0, none⟩ a).setCell ⟨R, 1, none⟩ b).setCell ⟨R, 2, none⟩ c).setCell ⟨R, 3, none⟩ d).setCell ⟨R, 4, none⟩ e)) := fun a b c d e => below5 B1.out a b c d e
  clear hb HC KR0 B0 hR
  unfold rlV
  go_wp2
  refine bodyPost_ret (v := .tuple #[.agg #[.int .i64 a0, .int .i64 a1, .int .i64 a2, .int .i64 a3, .int .i64 a4], .bool (rrB s)]) (by simp [results, Tryd.results6, go_sem, r0, r1, r2, r3, r4, hrl]) rfl ⟨?_, ?_⟩
  · rfl
  · exact HF5.out _ _ _ _ _
end Go.Proofs.YtcjeededlhdcbaaDoor
