
/- spec.LoadSaved. Conditions: at most 2^20 bytes. -/
import Derived.Test.YtmhepomjbaendaaLoad
import Derived.Test.YtmhepomjbaendaaBegin
namespace Go.Proofs.Ytmhepomjbaendaa
open Go.RowKit Go.Shelf Go.BigFrame
set_option linter.unusedVariables false
set_option linter.unusedSimpArgs false

set_option maxRecDepth 100000 in
set_option maxHeartbeats 2000000 in
theorem specLoad_any (s : ByteArray) (w : World) (hs : s.size ≤ 1048576) :
    Calls Try.prog 43 #[.string s] w fun e w' => (∃ vt vs, e = .returned (.tuple #[savedV (ldX s).1 vt vs, .bool (ldB s)]) ∧ OwnSv w' w.heap.size vt vs (ldX s)) ∧ Below w.heap.size w w' := by
  obtain ⟨R, hR⟩ : ∃ R, w.heap.size = R := ⟨_, rfl⟩
  have HTA := Lib.hid (l07Begin_any s (w.alloc (.cells #[.string ⟨#[]⟩, .slice none 0 0, .slice none 0 0] 44)) hs)
  have KR0 : Hid (Blk (w.alloc (.cells #[.string ⟨#[]⟩, .slice none 0 0, .slice none 0 0] 44)) R 44 (svC ByteArray.empty (.slice none 0 0) (.slice none 0 0))) := by
    rw [← hR]; exact Blk.new w _ (svC ByteArray.empty (.slice none 0 0) (.slice none 0 0))
  have B0 : Hid (Below R w (w.alloc (.cells #[.string ⟨#[]⟩, .slice none 0 0, .slice none 0 0] 44))) := by
    rw [← hR]; exact (Below.refl _ w).alloc (Nat.le_refl _) _
  have hsz : (w.alloc (.cells #[.string ⟨#[]⟩, .slice none 0 0, .slice none 0 0] 44)).heap.size = R + 1 := by rw [← hR]; simp
  rw [hsz] at HTA
  have HNO : Hid (ldB s = false → ldX s = (ByteArray.empty, [], [])) := ld_no
  have HYES : Hid (ldB s = true → ldX s = gotX s) := ld_yes
  have HLD : Hid (ldB s = (decide (gotN s ≠ 0) && decide (gotN s = s.size))) := rfl
  obtain ⟨G, hG⟩ : ∃ G, gotN s = G := ⟨_, rfl⟩
  rw [hG] at HTA HLD
  have HSZ := Lib.hid hsz
  clear hsz hG
  go_enter Try.func43, Try.ntmps43
  rw [hR]
  go_wp2_with fail
  refine HTA.out.mono ?_
  rintro e W1 ⟨⟨vt, vs, rfl, ho⟩, hb⟩
  have B1 := Lib.hid (B0.out.trans (hb.mono (by omega)))
  have KR1 := Lib.hid (KR0.out.below hb (by omega))
  have HO := Lib.hid ho
  have hrl : R < W1.heap.size := KR1.out.lt
  have hrl2 : ¬ R = W1.heap.size := by omega
  unfold savedV
  obtain ⟨ta, tl, tc, rfl⟩ := (show ∃ a l c, vt = .slice a l c from by obtain ⟨raw, mid, h1, _⟩ := ho; exact h1.form)
  obtain ⟨sa, sl, sc, rfl⟩ := (show ∃ a l c, vs = .slice a l c from by obtain ⟨raw, mid, _, _, _, h1, _⟩ := ho; exact h1.form)
  have r0 := KR1.out.cell 0 _ rfl
  have r1 := KR1.out.cell 1 _ rfl
  have r2 := KR1.out.cell 2 _ rfl
  have q0 := KR1.out.frozen 0
  have q1 := KR1.out.frozen 1
  have q2 := KR1.out.frozen 2
  clear ho hb HTA KR0 B0
  have HFIN : Hid (∀ (a b c : Value), Below R w ((((W1.setCell ⟨R, 0, none⟩ a).setCell ⟨R, 1, none⟩ b).setCell ⟨R, 2, none⟩ c).alloc (.cells #[.string (gotX s).1, .slice ta tl tc, .slice sa sl sc] 44))) := fun a b c => (below3 B1.out a b c).alloc (by simp [World.setCell]; omega) _
  have HOW : Hid (∀ (a b c : Value), OwnSv ((((W1.setCell ⟨R, 0, none⟩ a).setCell ⟨R, 1, none⟩ b).setCell ⟨R, 2, none⟩ c).alloc (.cells #[.string (gotX s).1, .slice ta tl tc, .slice sa sl sc] 44)) R (.slice ta tl tc) (.slice sa sl sc) (gotX s)) := fun a b c =>
    OwnSv.lo (OwnSv.below (HO.out.grown (grown_set3 W1 R a b c) (by omega)) ((Below.refl _ _).alloc (Nat.le_refl _) _)) (by omega)
  obtain ⟨NM, hNM⟩ : ∃ x, (gotX s).1 = x := ⟨_, rfl⟩
  have HNM := Lib.hid hNM
  rw [hNM] at HFIN HOW
  rw [hNM]
  clear hNM
  cases hz : (decide (G ≠ 0) && decide (G = s.size))
  · have HF := Lib.hid (HNO.out (by rw [HLD.out, hz]))
    have HB : Hid (ldB s = false) := by show _ = _; rw [HLD.out, hz]
    clear HNO HYES HLD
    by_cases h0 : G = 0
    · subst h0
      clear hz
      go_wp2
      refine bodyPost_ret (v := .tuple #[.agg #[.string ⟨#[]⟩, .slice none 0 0, .slice none 0 0], .bool false]) (by simp [results, Try.results43, go_sem, r0, r1, r2, hrl, hrl2]) rfl ⟨⟨.slice none 0 0, .slice none 0 0, ?_, ?_⟩, HFIN.out _ _ _⟩
      · rw [HF.out, HB.out]; rfl
      · rw [HF.out]; exact OwnSv.nil _ _
    · have i1 : ¬ ((G : Int) = 0) := by omega
      have i2 : ¬ ((G : Int) = (s.size : Int)) := by
        intro e
        have e2 : G = s.size := by omega
        rw [decide_eq_true e2, decide_eq_true h0] at hz
        cases hz
      have b1 : ((G : Int) == 0) = false := by simp; exact h0
      have b2 : ((G : Int) == (s.size : Int)) = false := by rw [beq_eq_false_iff_ne]; exact i2
      have b3 : ((G : Int) != (s.size : Int)) = true := by rw [bne, b2]; rfl
      clear hz h0
      go_wp2
      refine bodyPost_ret (v := .tuple #[.agg #[.string ⟨#[]⟩, .slice none 0 0, .slice none 0 0], .bool false]) (by simp [results, Try.results43, go_sem, r0, r1, r2, hrl, hrl2]) rfl ⟨⟨.slice none 0 0, .slice none 0 0, ?_, ?_⟩, HFIN.out _ _ _⟩
      · rw [HF.out, HB.out]; rfl
      · rw [HF.out]; exact OwnSv.nil _ _
  · have HF := Lib.hid (HYES.out (by rw [HLD.out, hz]))
    have HB : Hid (ldB s = true) := by show _ = _; rw [HLD.out, hz]
    simp only [Bool.and_eq_true, decide_eq_true_eq] at hz
    obtain ⟨g0, g1⟩ := hz
    subst g1
    have i1 : ¬ ((s.size : Int) = 0) := by omega
    clear HNO HYES HLD
    go_wp2
    refine bodyPost_ret (v := .tuple #[.agg #[.string NM, .slice ta tl tc, .slice sa sl sc], .bool true]) (by simp [results, Try.results43, go_sem, r0, r1, r2, hrl, hrl2]) rfl ⟨⟨.slice ta tl tc, .slice sa sl sc, ?_, ?_⟩, HFIN.out _ _ _⟩
    · rw [HF.out, HB.out, HNM.out]; rfl
    · rw [HF.out]; exact HOW.out _ _ _
end Go.Proofs.Ytmhepomjbaendaa
