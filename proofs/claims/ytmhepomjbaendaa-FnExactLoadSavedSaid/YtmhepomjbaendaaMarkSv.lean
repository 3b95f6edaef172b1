
/- The laws' marks on a saved plan: markSaved, heldSaved. Conditions: at most 10^8 numbers. -/
import Derived.Test.YtmhepomjbaendaaMarkTk
namespace Go.Proofs.Ytmhepomjbaendaa
open Go.RowKit Go.Shelf Go.BigFrame
set_option linter.unusedVariables false
set_option linter.unusedSimpArgs false

structure SvA (w : World) (lo mid hi : Nat) (B : Nat → Nat) (vt vs : Value) (raw : List Value) (ts : List Tk) (st : List Int) : Prop where
  t : TkA w lo mid B vt raw ts
  s : OwnH w mid hi vs st
  lm : lo ≤ mid
  mh : mid ≤ hi
  hs : hi ≤ w.heap.size
theorem SvA.kept {w w' : World} {lo mid hi : Nat} {B : Nat → Nat} {vt vs : Value} {raw : List Value} {ts : List Tk} {st : List Int} {row : Option Nat} (h : SvA w lo mid hi B vt vs raw ts st) (hg : w.grownBy w' row) (hr : ∀ k, row = some k → k < lo ∨ hi ≤ k) : SvA w' lo mid hi B vt vs raw ts st where
  t := h.t.kept hg fun k e => by have := h.mh; rcases hr k e with h | h <;> omega
  s := h.s.kept hg fun k e => by have := h.lm; rcases hr k e with h | h <;> omega
  lm := h.lm
  mh := h.mh
  hs := Nat.le_trans h.hs hg.size
theorem SvA.below {w W : World} {lo mid hi : Nat} {B : Nat → Nat} {vt vs : Value} {raw : List Value} {ts : List Tk} {st : List Int} (h : SvA w lo mid hi B vt vs raw ts st) (hb : Below w.heap.size w W) : SvA W lo mid hi B vt vs raw ts st := h.kept (grown_below (none : Option Nat) hb (Nat.le_refl _)) (fun k e => by cases e)
theorem SvA.of {w : World} {lo : Nat} {vt vs : Value} {x : Sv} (h : OwnSv w lo vt vs x) (hlo : lo ≤ w.heap.size) : ∃ mid B raw, SvA w lo mid w.heap.size B vt vs raw x.2.1 x.2.2 := by
  obtain ⟨raw, mid, h1, h2, h3, h4, h5⟩ := h
  obtain ⟨B, hB⟩ := TkA.of h1 h2 h3
  -- the place between may lie above the world only if nothing lies above it
  by_cases hm : mid ≤ w.heap.size
  · exact ⟨mid, B, raw, hB, ⟨h4, fun k hk => (h4.lt k hk).2⟩, h5, hm, Nat.le_refl _⟩
  · have hn : vs.ownBlock = none := by
      cases hv : vs.ownBlock with
      | none => rfl
      | some j => have := h4.lt j hv; omega
    have h4' : OwnI w w.heap.size vs x.2.2 := by
      rcases h4.2 with ⟨e1, e2⟩ | ⟨g, cap, cur, e1, _⟩
      · exact ⟨h4.1, .inl ⟨e1, e2⟩⟩
      · rw [e1] at hn; simp [Value.ownBlock] at hn
    refine ⟨w.heap.size, fun i => min (B i) w.heap.size, raw, ⟨hB.own, fun j hj => (hB.own.lt j hj).2, ?_, fun i j hij => ?_, fun i => Nat.min_le_right _ _, fun i hi => ?_⟩, ⟨h4', fun k hk => by rw [hn] at hk; cases hk⟩, hlo, Nat.le_refl _, Nat.le_refl _⟩
    · have := hB.b0; show lo ≤ min _ _; omega
    · have := hB.mono i j hij; show min _ _ ≤ min _ _; omega
    · obtain ⟨vb, vl, e0, e1, e2, e3, o1, o2, o3⟩ := hB.at_ i hi
      have key : ∀ {v : Value} {xs : List Int}, OwnH w (B i) (B (i + 1)) v xs → OwnH w (min (B i) w.heap.size) (min (B (i + 1)) w.heap.size) v xs := fun {v xs} h => ⟨h.1.mono (Nat.min_le_left _ _), fun k hk => by have h1 := (h.1.lt k hk).2; have h2 := h.2 k hk; omega⟩
      exact ⟨vb, vl, e0, e1, e2, e3, key o1, key o2, o3⟩
theorem OwnH.grownL {lo hi a b : Nat} {w W : World} {v : Value} {xs : List Int} (h : OwnH w lo hi v xs) (hg : GrownL (spanT a b) w W) (hd : hi ≤ a ∨ b ≤ lo) : OwnH W lo hi v xs := by
  refine ⟨?_, h.2⟩
  rcases h.1.nil_or with ⟨rfl, rfl⟩ | ⟨g, c, rfl⟩
  · exact World.ownsRow_nil _ _ _ _
  · have h1 := h.1.lt g rfl
    have h2 := h.2 g rfl
    exact hg.own h.1 fun e => by rw [mem_spanT] at e; omega
theorem SvA.reads {w : World} {lo mid hi k : Nat} {B : Nat → Nat} {vt vs : Value} {raw : List Value} {ts : List Tk} {st : List Int} (h : SvA w lo mid hi B vt vs raw (mkAll k ts) st) (hs : k + tksN ts ≤ 100000000) : TasksR w vt (mkAll k ts) ∧ Ints w vs st := ⟨h.t.marked hs, h.s.1.ints⟩

set_option maxHeartbeats 1000000 in
theorem markSaved_any (nm : ByteArray) (vt vs : Value) (ts : List Tk) (st : List Int) (raw : List Value) (B : Nat → Nat) (k lo mid hi : Nat) (w : World) (h : SvA w lo mid hi B vt vs raw ts st) (hk : 1 ≤ k) (hs : k + tksN ts + st.length ≤ 100000000) :
    Calls Try.prog 45 #[savedV nm vt vs, .int .i64 k] w fun e w' => e = .returned (.int .i64 ((k + tksN ts + st.length : Nat) : Int)) ∧ (∃ raw', SvA w' lo mid hi B vt vs raw' (mkAll k ts) (marks ((k + tksN ts : Nat) : Int) st.length)) ∧ GrownL (spanT lo hi) w w' := by
  obtain ⟨W1, hW1⟩ : ∃ W, w.alloc (.cells #[.string nm, vt, vs] 44) = W := ⟨_, rfl⟩
  have h1 : SvA W1 lo mid hi B vt vs raw ts st := by rw [← hW1]; exact h.kept (grown_alloc w _ none) (fun j e => by cases e)
  have k1 : Blk W1 w.heap.size 44 [.string nm, vt, vs] := by rw [← hW1]; exact Blk.new w _ _
  have g1 : GrownL (spanT lo hi) w W1 := by rw [← hW1]; exact (GrownL.refl _ w).alloc _
  have hhs := h.hs
  have HM1 := Lib.hid (markTaskS_any vt ts raw B k lo mid W1 h1.t hk (by omega))
  obtain ⟨K, hK⟩ : ∃ K, k + tksN ts = K := ⟨_, rfl⟩
  rw [hK] at HM1 hs ⊢
  have H1 := Lib.hid (And.intro h1 (And.intro k1 g1))
  have c1 := k1.cell 1 _ rfl
  obtain ⟨ta, tl, tc, rfl⟩ := h.t.own.form
  obtain ⟨sa, sl, sc, rfl⟩ := h.s.1.form
  clear h1 k1 g1 h
  unfold savedV
  go_enter Try.func45, Try.ntmps45
  go_wp2_with fail
  refine HM1.out.mono ?_
  rintro e W2 ⟨rfl, ⟨raw2, ht2⟩, hg2⟩
  obtain ⟨h1, k1, g1⟩ := H1.out
  have hmh := h1.mh
  have hlm := h1.lm
  have hb : w.heap.size ∉ spanT lo mid := fun e => by rw [mem_spanT] at e; omega
  have k2 := k1.grownL hg2 hb
  have c2 := k2.cell 2 _ rfl
  have hs2 := h1.s.grownL hg2 (.inr (Nat.le_refl _))
  have g2 : GrownL (spanT lo hi) w W2 := ⟨hg2.os.trans g1.os, hg2.tape.trans g1.tape, hg2.output.trans g1.output, Nat.le_trans g1.size hg2.size, fun i hi hn => (hg2.block i (Nat.lt_of_lt_of_le hi g1.size) (fun e => hn (by rw [mem_spanT] at e ⊢; omega))).trans (g1.block i hi hn)⟩
  have HM2 := Lib.hid (markInt64S_any (.slice sa sl sc) st (K : Int) mid W2 hs2.1 (by omega) (by omega) (by omega))
  have H2 := Lib.hid (And.intro ht2 (And.intro hs2 (And.intro g2 (And.intro hlm hmh))))
  have HSZ : Hid (hi ≤ W2.heap.size) := Nat.le_trans h1.hs hg2.size
  clear h1 k1 g1 hb k2 hs2 g2 ht2 hg2 H1 HM1 hlm hmh
  go_wp2_with fail
  refine HM2.out.mono ?_
  rintro e W3 ⟨rfl, ho3, hg3⟩
  obtain ⟨ht2, hs2, g2, hlm, hmh⟩ := H2.out
  have HE : Hid (SvA W3 lo mid hi B (.slice ta tl tc) (.slice sa sl sc) raw2 (mkAll k ts) (marks (K : Int) st.length)) := ⟨ht2.kept hg3 (fun j e => .inr (hs2.1.lt j e).1), ⟨ho3, hs2.2⟩, hlm, hmh, Nat.le_trans HSZ.out hg3.size⟩
  have HG : Hid (GrownL (spanT lo hi) w W3) := g2.spanned hg3 fun q e => ⟨Nat.le_trans hlm (hs2.1.lt q e).1, hs2.2 q e⟩
  clear ht2 hs2 g2 hlm hmh ho3 hg3 H2 HM2
  go_wp2
  go_ret
  exact ⟨ret_int (by push_cast; rfl), ⟨raw2, HE.out⟩, HG.out⟩

set_option maxHeartbeats 1000000 in
theorem heldSaved_any (nm : ByteArray) (vt vs : Value) (ts : List Tk) (n : Nat) (k : Nat) (w : World) (ht : TasksR w vt (mkAll k ts)) (hv : Ints w vs (marks ((k + tksN ts : Nat) : Int) n)) (hk : 1 ≤ k) (hs : k + tksN ts + n ≤ 100000000) :
    Calls Try.prog 46 #[savedV nm vt vs, .int .i64 k] w fun e w' => e = .returned (.int .i64 ((k + tksN ts + n : Nat) : Int)) ∧ Below w.heap.size w w' := by
  obtain ⟨W1, hW1⟩ : ∃ W, w.alloc (.cells #[.string nm, vt, vs] 44) = W := ⟨_, rfl⟩
  have hb1 : Below w.heap.size w W1 := by rw [← hW1]; exact (Below.refl _ w).alloc (Nat.le_refl _) _
  have k1 : Blk W1 w.heap.size 44 [.string nm, vt, vs] := by rw [← hW1]; exact Blk.new w _ _
  have HM1 := Lib.hid (heldTaskS_any vt ts k W1 (ht.below hb1 (Nat.le_refl _)) hk (by omega))
  have HM2 := Lib.hid (heldInt64S_any vs ((k + tksN ts : Nat) : Int) n W1 (hv.below hb1 (Nat.le_refl _)) (by omega) (by omega) (by omega))
  obtain ⟨K, hK⟩ : ∃ K, k + tksN ts = K := ⟨_, rfl⟩
  rw [hK] at HM1 HM2 hs ⊢
  have c1 := k1.cell 1 _ rfl
  have c2 := k1.cell 2 _ rfl
  have HB := Lib.hid hb1
  obtain ⟨tn, t1, t2, rfl⟩ : ∃ tn t1 t2, vt = .slice t1 tn t2 := by obtain ⟨_, t1, t2, h, _⟩ := ht; exact ⟨_, t1, t2, h⟩
  obtain ⟨sn, s1, s2, rfl⟩ : ∃ tn t1 t2, vs = .slice t1 tn t2 := by obtain ⟨_, t1, t2, h, _⟩ := hv; exact ⟨_, t1, t2, h⟩
  have n1 : ¬ (K : Int) < 0 := by omega
  have n2 : ¬ (K : Int) + (n : Int) < 0 := by omega
  clear k1 hb1 ht hv
  unfold savedV
  go_enter Try.func46, Try.ntmps46
  go_wp2_with (first
    | (go_at_call 107; refine HM1.out.mono ?_; rintro e W2 ⟨rfl, rfl⟩)
    | (go_at_call 108; refine HM2.out.mono ?_; rintro e W2 ⟨rfl, rfl⟩))
  go_ret
  exact ⟨ret_int (by push_cast; rfl), HB.out⟩
end Go.Proofs.Ytmhepomjbaendaa
