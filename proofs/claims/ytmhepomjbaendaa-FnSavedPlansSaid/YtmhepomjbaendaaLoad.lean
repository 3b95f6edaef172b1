
/- impl.LoadSaved, impl.RecoverAll. Conditions: at most 2^20 bytes. -/
import Derived.Test.YtmhepomjbaendaaTaken
import Derived.Test.YtmhepomjbaendaaSavedS
namespace Go.Proofs.Ytmhepomjbaendaa
open Go.RowKit Go.Shelf Go.BigFrame
set_option linter.unusedVariables false
set_option linter.unusedSimpArgs false

def ldB (s : ByteArray) : Bool := decide (gotN s ≠ 0) && decide (gotN s = s.size)
def ldX (s : ByteArray) : Sv := if ldB s then gotX s else (ByteArray.empty, [], [])
theorem ld_no {s : ByteArray} (h : ldB s = false) : ldX s = (ByteArray.empty, [], []) := by unfold ldX; rw [h]; rfl
theorem ld_yes {s : ByteArray} (h : ldB s = true) : ldX s = gotX s := by unfold ldX; rw [h]; rfl
theorem OwnSv.below {w W : World} {lo : Nat} {vt vs : Value} {x : Sv} (h : OwnSv w lo vt vs x) (hb : Below w.heap.size w W) : OwnSv W lo vt vs x := by
  obtain ⟨raw, mid, h1, h2, h3, h4, h5⟩ := h
  have hg := grown_below (none : Option Nat) hb (Nat.le_refl _)
  exact ⟨raw, mid, h1.below hb (Nat.le_refl _), h2, h3.kept hg (fun k e => by cases e), h4.below hb (Nat.le_refl _), h5⟩
/-- What is read of a plan is small. -/
def SvW (x : Sv) : Prop := x.1.size ≤ 1048576 ∧ x.2.1.length ≤ 255 ∧ (∀ t ∈ x.2.1, TkW t) ∧ (∀ n ∈ x.2.2, 0 ≤ n ∧ n ≤ 65535) ∧ x.2.2.length ≤ 255
theorem SvW.nil : SvW (ByteArray.empty, [], []) := ⟨by simp, by simp, fun t h => by simp at h, fun n h => by simp at h, by simp⟩
theorem gotX_w {s : ByteArray} (hs : s.size ≤ 1048576) : SvW (gotX s) := by
  cases h : gotB s
  · rw [(got_no h).1]; exact SvW.nil
  · rw [(got_yes h).1]
    have h1 := (cnt_cast s).2
    refine ⟨nmS_size s hs, ?_, tsk_mem _ _ _, sts_mem _ _ _, ?_⟩
    · show (tsk s (st4 s) (cnt s)).1.length ≤ 255
      rw [tsk_len]; exact h1
    · show (sts s (st5 s) (cnt s)).1.length ≤ 255
      rw [sts_len]; exact h1
theorem ldX_w {s : ByteArray} (hs : s.size ≤ 1048576) : SvW (ldX s) := by
  unfold ldX
  split
  · exact gotX_w hs
  · exact SvW.nil
theorem OwnSv.reads {w : World} {lo : Nat} {vt vs : Value} {x : Sv} (h : OwnSv w lo vt vs x) (hw : SvW x) : TasksR w vt x.2.1 ∧ SlR rInt w vs x.2.2 := by
  obtain ⟨raw, mid, h1, h2, h3, h4, h5⟩ := h
  obtain ⟨n1, n2, n3, n4, n5⟩ := hw
  refine ⟨h3.reads h1 (by unfold maxLen; omega) (fun i hi => ?_), OwnI.slR h4 (fun n hn => wf_i64_iff.2 ⟨by have := n4 n hn; omega, by have := n4 n hn; omega⟩)⟩
  obtain ⟨w1, w2, w3, w4, _⟩ := n3 _ (List.getElem_mem hi)
  exact ⟨wf_i64_iff.2 ⟨by omega, by omega⟩, wf_i64_iff.2 ⟨by omega, by omega⟩, fun n hn => wf_i64_iff.2 ⟨by have := w3 n hn; omega, by have := w3 n hn; omega⟩, fun n hn => wf_i64_iff.2 ⟨by have := w4 n hn; omega, by have := w4 n hn; omega⟩⟩
theorem got_le (s : ByteArray) : gotN s ≤ s.size := by
  unfold gotN
  split
  · exact st7_le s
  · exact Nat.zero_le _
theorem OwnSv.grown {w W : World} {lo R : Nat} {vt vs : Value} {x : Sv} (h : OwnSv w lo vt vs x) (hg : w.grownBy W (some R)) (hR : R < lo) : OwnSv W lo vt vs x := by
  obtain ⟨raw, mid, h1, h2, h3, h4, h5⟩ := h
  refine ⟨raw, mid, ownsRow_kept (N := 0) h1 h2 hg (fun j e => by cases e; exact .inl hR), h2, h3.kept hg (fun j e => by cases e; exact .inl hR), h4.kept hg (.inr (ownT_ne h4 (by omega))), h5⟩
theorem OwnSv.lo {w : World} {lo lo' : Nat} {vt vs : Value} {x : Sv} (h : OwnSv w lo vt vs x) (hl : lo' ≤ lo) : OwnSv w lo' vt vs x := by
  obtain ⟨raw, mid, h1, h2, h3, h4, h5⟩ := h
  exact ⟨raw, mid, h1.mono hl, h2, h3.lo hl, h4, by omega⟩

set_option maxRecDepth 100000 in
set_option maxHeartbeats 2000000 in
theorem implLoad_any (s : ByteArray) (w : World) (hs : s.size ≤ 1048576) :
    Calls Try.prog 24 #[.string s] w fun e w' => (∃ vt vs, e = .returned (.tuple #[savedV (ldX s).1 vt vs, .bool (ldB s)]) ∧ OwnSv w' w.heap.size vt vs (ldX s)) ∧ Below w.heap.size w w' := by
  obtain ⟨R, hR⟩ : ∃ R, w.heap.size = R := ⟨_, rfl⟩
  have HTA := Lib.hid (taken_any s (w.alloc (.cells #[.string ⟨#[]⟩, .slice none 0 0, .slice none 0 0] 44)) hs)
  have KR0 : Hid (Blk (w.alloc (.cells #[.string ⟨#[]⟩, .slice none 0 0, .slice none 0 0] 44)) R 44 (svC ByteArray.empty (.slice none 0 0) (.slice none 0 0))) := by
    rw [← hR]; exact Blk.new w _ (svC ByteArray.empty (.slice none 0 0) (.slice none 0 0))
  have B0 : Hid (Below R w (w.alloc (.cells #[.string ⟨#[]⟩, .slice none 0 0, .slice none 0 0] 44))) := by
    rw [← hR]; exact (Below.refl _ w).alloc (Nat.le_refl _) _
  have hsz : (w.alloc (.cells #[.string ⟨#[]⟩, .slice none 0 0, .slice none 0 0] 44)).heap.size = R + 1 := by rw [← hR]; simp
  rw [hsz] at HTA
  have HNO : Hid (ldB s = false → ldX s = (ByteArray.empty, [], [])) := ld_no
  have HYES : Hid (ldB s = true → ldX s = gotX s) := ld_yes
  have HLD : Hid (ldB s = (decide (gotN s ≠ 0) && decide (gotN s = s.size))) := rfl
  obtain ⟨G, hG⟩ : ∃ G, gotN s = G := ⟨_, rfl⟩
  rw [hG] at HTA HLD
  have HSZ := Lib.hid hsz
  clear hsz hG
  go_enter Try.func24, Try.ntmps24
  rw [hR]
  go_wp2_with fail
  refine HTA.out.mono ?_
  rintro e W1 ⟨⟨vt, vs, rfl, ho⟩, hb⟩
  have B1 := Lib.hid (B0.out.trans (hb.mono (by omega)))
  have KR1 := Lib.hid (KR0.out.below hb (by omega))
  have HO := Lib.hid ho
  have hrl : R < W1.heap.size := KR1.out.lt
  have hrl2 : ¬ R = W1.heap.size := by omega
  unfold savedV
  obtain ⟨ta, tl, tc, rfl⟩ := (show ∃ a l c, vt = .slice a l c from by obtain ⟨raw, mid, h1, _⟩ := ho; exact h1.form)
  obtain ⟨sa, sl, sc, rfl⟩ := (show ∃ a l c, vs = .slice a l c from by obtain ⟨raw, mid, _, _, _, h1, _⟩ := ho; exact h1.form)
  have r0 := KR1.out.cell 0 _ rfl
  have r1 := KR1.out.cell 1 _ rfl
  have r2 := KR1.out.cell 2 _ rfl
  have q0 := KR1.out.frozen 0
  have q1 := KR1.out.frozen 1
  have q2 := KR1.out.frozen 2
  clear ho hb HTA KR0 B0
  have HFIN : Hid (∀ (a b c : Value), Below R w ((((W1.setCell ⟨R, 0, none⟩ a).setCell ⟨R, 1, none⟩ b).setCell ⟨R, 2, none⟩ c).alloc (.cells #[.string (gotX s).1, .slice ta tl tc, .slice sa sl sc] 44))) := fun a b c => (below3 B1.out a b c).alloc (by simp [World.setCell]; omega) _
  have HOW : Hid (∀ (a b c : Value), OwnSv ((((W1.setCell ⟨R, 0, none⟩ a).setCell ⟨R, 1, none⟩ b).setCell ⟨R, 2, none⟩ c).alloc (.cells #[.string (gotX s).1, .slice ta tl tc, .slice sa sl sc] 44)) R (.slice ta tl tc) (.slice sa sl sc) (gotX s)) := fun a b c =>
    OwnSv.lo (OwnSv.below (HO.out.grown (grown_set3 W1 R a b c) (by omega)) ((Below.refl _ _).alloc (Nat.le_refl _) _)) (by omega)
  obtain ⟨NM, hNM⟩ : ∃ x, (gotX s).1 = x := ⟨_, rfl⟩
  have HNM := Lib.hid hNM
  rw [hNM] at HFIN HOW
  rw [hNM]
  clear hNM
  cases hz : (decide (G ≠ 0) && decide (G = s.size))
  · have HF := Lib.hid (HNO.out (by rw [HLD.out, hz]))
    have HB : Hid (ldB s = false) := by show _ = _; rw [HLD.out, hz]
    clear HNO HYES HLD
    by_cases h0 : G = 0
    · subst h0
      clear hz
      go_wp2
      refine bodyPost_ret (v := .tuple #[.agg #[.string ⟨#[]⟩, .slice none 0 0, .slice none 0 0], .bool false]) (by simp [results, Try.results24, go_sem, r0, r1, r2, hrl, hrl2]) rfl ⟨⟨.slice none 0 0, .slice none 0 0, ?_, ?_⟩, HFIN.out _ _ _⟩
      · rw [HF.out, HB.out]; rfl
      · rw [HF.out]; exact OwnSv.nil _ _
    · have i1 : ¬ ((G : Int) = 0) := by omega
      have i2 : ¬ ((G : Int) = (s.size : Int)) := by
        intro e
        have e2 : G = s.size := by omega
        rw [decide_eq_true e2, decide_eq_true h0] at hz
        cases hz
      have b1 : ((G : Int) == 0) = false := by simp; exact h0
      have b2 : ((G : Int) == (s.size : Int)) = false := by rw [beq_eq_false_iff_ne]; exact i2
      have b3 : ((G : Int) != (s.size : Int)) = true := by rw [bne, b2]; rfl
      clear hz h0
      go_wp2
      refine bodyPost_ret (v := .tuple #[.agg #[.string ⟨#[]⟩, .slice none 0 0, .slice none 0 0], .bool false]) (by simp [results, Try.results24, go_sem, r0, r1, r2, hrl, hrl2]) rfl ⟨⟨.slice none 0 0, .slice none 0 0, ?_, ?_⟩, HFIN.out _ _ _⟩
      · rw [HF.out, HB.out]; rfl
      · rw [HF.out]; exact OwnSv.nil _ _
  · have HF := Lib.hid (HYES.out (by rw [HLD.out, hz]))
    have HB : Hid (ldB s = true) := by show _ = _; rw [HLD.out, hz]
    simp only [Bool.and_eq_true, decide_eq_true_eq] at hz
    obtain ⟨g0, g1⟩ := hz
    subst g1
    have i1 : ¬ ((s.size : Int) = 0) := by omega
    clear HNO HYES HLD
    go_wp2
    refine bodyPost_ret (v := .tuple #[.agg #[.string NM, .slice ta tl tc, .slice sa sl sc], .bool true]) (by simp [results, Try.results24, go_sem, r0, r1, r2, hrl, hrl2]) rfl ⟨⟨.slice ta tl tc, .slice sa sl sc, ?_, ?_⟩, HFIN.out _ _ _⟩
    · rw [HF.out, HB.out, HNM.out]; rfl
    · rw [HF.out]; exact HOW.out _ _ _
end Go.Proofs.Ytmhepomjbaendaa
