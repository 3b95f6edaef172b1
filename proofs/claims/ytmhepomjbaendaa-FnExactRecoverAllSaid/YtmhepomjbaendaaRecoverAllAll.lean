/- The walk of FnExactRecoverAll. Conditions: none. With the texts that it alone needs. -/
import Derived.Test.YtmhepomjbaendaaLoad
import Derived.Test.YtmhepomjbaendaaBegin
import Derived.Test.YtmhepomjbaendaaRecov
import Derived.Test.YtmhepomjbaendaaGrownC
import Derived.Test.YtmhepomjbaendaaMarkT
namespace Go.Proofs.Ytmhepomjbaendaa
open Go.RowKit Go.Shelf Go.BigFrame
set_option linter.unusedVariables false
set_option linter.unusedSimpArgs false

set_option maxRecDepth 100000 in
set_option maxHeartbeats 2000000 in
theorem specLoad_any (s : ByteArray) (w : World) (hs : s.size ≤ 1048576) :
    Calls Try.prog 43 #[.string s] w fun e w' => (∃ vt vs, e = .returned (.tuple #[savedV (ldX s).1 vt vs, .bool (ldB s)]) ∧ OwnSv w' w.heap.size vt vs (ldX s)) ∧ Below w.heap.size w w' := by
  obtain ⟨R, hR⟩ : ∃ R, w.heap.size = R := ⟨_, rfl⟩
  have HTA := Lib.hid (l07Begin_any s (w.alloc (.cells #[.string ⟨#[]⟩, .slice none 0 0, .slice none 0 0] 44)) hs)
  have KR0 : Hid (Blk (w.alloc (.cells #[.string ⟨#[]⟩, .slice none 0 0, .slice none 0 0] 44)) R 44 (svC ByteArray.empty (.slice none 0 0) (.slice none 0 0))) := by
    rw [← hR]; exact Blk.new w _ (svC ByteArray.empty (.slice none 0 0) (.slice none 0 0))
  have B0 : Hid (Below R w (w.alloc (.cells #[.string ⟨#[]⟩, .slice none 0 0, .slice none 0 0] 44))) := by
    rw [← hR]; exact (Below.refl _ w).alloc (Nat.le_refl _) _
  have hsz : (w.alloc (.cells #[.string ⟨#[]⟩, .slice none 0 0, .slice none 0 0] 44)).heap.size = R + 1 := by rw [← hR]; simp
  rw [hsz] at HTA
  have HNO : Hid (ldB s = false → ldX s = (ByteArray.empty, [], [])) := ld_no
  have HYES : Hid (ldB s = true → ldX s = gotX s) := ld_yes
  have HLD : Hid (ldB s = (decide (gotN s ≠ 0) && decide (gotN s = s.size))) := rfl
  obtain ⟨G, hG⟩ : ∃ G, gotN s = G := ⟨_, rfl⟩
  rw [hG] at HTA HLD
  have HSZ := Lib.hid hsz
  clear hsz hG
  go_enter Try.func43, Try.ntmps43
  rw [hR]
  go_wp2_with fail
  refine HTA.out.mono ?_
  rintro e W1 ⟨⟨vt, vs, rfl, ho⟩, hb⟩
  have B1 := Lib.hid (B0.out.trans (hb.mono (by omega)))
  have KR1 := Lib.hid (KR0.out.below hb (by omega))
  have HO := Lib.hid ho
  have hrl : R < W1.heap.size := KR1.out.lt
  have hrl2 : ¬ R = W1.heap.size := by omega
  unfold savedV
  obtain ⟨ta, tl, tc, rfl⟩ := (show ∃ a l c, vt = .slice a l c from by obtain ⟨raw, mid, h1, _⟩ := ho; exact h1.form)
  obtain ⟨sa, sl, sc, rfl⟩ := (show ∃ a l c, vs = .slice a l c from by obtain ⟨raw, mid, _, _, _, h1, _⟩ := ho; exact h1.form)
  have r0 := KR1.out.cell 0 _ rfl
  have r1 := KR1.out.cell 1 _ rfl
  have r2 := KR1.out.cell 2 _ rfl
  have q0 := KR1.out.frozen 0
  have q1 := KR1.out.frozen 1
  have q2 := KR1.out.frozen 2
  clear ho hb HTA KR0 B0
  have HFIN : Hid (∀ (a b c : Value), Below R w ((((W1.setCell ⟨R, 0, none⟩ a).setCell ⟨R, 1, none⟩ b).setCell ⟨R, 2, none⟩ c).alloc (.cells #[.string (gotX s).1, .slice ta tl tc, .slice sa sl sc] 44))) := fun a b c => (below3 B1.out a b c).alloc (by simp [World.setCell]; omega) _
  have HOW : Hid (∀ (a b c : Value), OwnSv ((((W1.setCell ⟨R, 0, none⟩ a).setCell ⟨R, 1, none⟩ b).setCell ⟨R, 2, none⟩ c).alloc (.cells #[.string (gotX s).1, .slice ta tl tc, .slice sa sl sc] 44)) R (.slice ta tl tc) (.slice sa sl sc) (gotX s)) := fun a b c =>
    OwnSv.lo (OwnSv.below (HO.out.grown (grown_set3 W1 R a b c) (by omega)) ((Below.refl _ _).alloc (Nat.le_refl _) _)) (by omega)
  obtain ⟨NM, hNM⟩ : ∃ x, (gotX s).1 = x := ⟨_, rfl⟩
  have HNM := Lib.hid hNM
  rw [hNM] at HFIN HOW
  rw [hNM]
  clear hNM
  cases hz : (decide (G ≠ 0) && decide (G = s.size))
  · have HF := Lib.hid (HNO.out (by rw [HLD.out, hz]))
    have HB : Hid (ldB s = false) := by show _ = _; rw [HLD.out, hz]
    clear HNO HYES HLD
    by_cases h0 : G = 0
    · subst h0
      clear hz
      go_wp2
      refine bodyPost_ret (v := .tuple #[.agg #[.string ⟨#[]⟩, .slice none 0 0, .slice none 0 0], .bool false]) (by simp [results, Try.results43, go_sem, r0, r1, r2, hrl, hrl2]) rfl ⟨⟨.slice none 0 0, .slice none 0 0, ?_, ?_⟩, HFIN.out _ _ _⟩
      · rw [HF.out, HB.out]; rfl
      · rw [HF.out]; exact OwnSv.nil _ _
    · have i1 : ¬ ((G : Int) = 0) := by omega
      have i2 : ¬ ((G : Int) = (s.size : Int)) := by
        intro e
        have e2 : G = s.size := by omega
        rw [decide_eq_true e2, decide_eq_true h0] at hz
        cases hz
      have b1 : ((G : Int) == 0) = false := by simp; exact h0
      have b2 : ((G : Int) == (s.size : Int)) = false := by rw [beq_eq_false_iff_ne]; exact i2
      have b3 : ((G : Int) != (s.size : Int)) = true := by rw [bne, b2]; rfl
      clear hz h0
      go_wp2
      refine bodyPost_ret (v := .tuple #[.agg #[.string ⟨#[]⟩, .slice none 0 0, .slice none 0 0], .bool false]) (by simp [results, Try.results43, go_sem, r0, r1, r2, hrl, hrl2]) rfl ⟨⟨.slice none 0 0, .slice none 0 0, ?_, ?_⟩, HFIN.out _ _ _⟩
      · rw [HF.out, HB.out]; rfl
      · rw [HF.out]; exact OwnSv.nil _ _
  · have HF := Lib.hid (HYES.out (by rw [HLD.out, hz]))
    have HB : Hid (ldB s = true) := by show _ = _; rw [HLD.out, hz]
    simp only [Bool.and_eq_true, decide_eq_true_eq] at hz
    obtain ⟨g0, g1⟩ := hz
    subst g1
    have i1 : ¬ ((s.size : Int) = 0) := by omega
    clear HNO HYES HLD
    go_wp2
    refine bodyPost_ret (v := .tuple #[.agg #[.string NM, .slice ta tl tc, .slice sa sl sc], .bool true]) (by simp [results, Try.results43, go_sem, r0, r1, r2, hrl, hrl2]) rfl ⟨⟨.slice ta tl tc, .slice sa sl sc, ?_, ?_⟩, HFIN.out _ _ _⟩
    · rw [HF.out, HB.out, HNM.out]; rfl
    · rw [HF.out]; exact HOW.out _ _ _
end Go.Proofs.Ytmhepomjbaendaa

namespace Go.Proofs.Ytmhepomjbaendaa
open Go.RowKit Go.Shelf Go.BigFrame
set_option linter.unusedVariables false
set_option linter.unusedSimpArgs false

/-- The blocks between lo and hi. -/
abbrev spanT (lo hi : Nat) : List Nat := List.range' lo (hi - lo)
theorem mem_spanT {lo hi b : Nat} : b ∈ spanT lo hi ↔ lo ≤ b ∧ b < hi := by
  unfold spanT; rw [List.mem_range'_1]; omega
/-- The cells and rows of task i. -/
def TkAt (w : World) (l u : Nat) (raw : List Value) (i : Nat) (x : Tk) : Prop := ∃ vb vl, raw[i * 4]? = some (.int .i64 x.1) ∧ raw[i * 4 + 1]? = some (.int .i64 x.2.1) ∧ raw[i * 4 + 2]? = some vb ∧ raw[i * 4 + 3]? = some vl ∧ OwnH w l u vb x.2.2.1 ∧ OwnH w l u vl x.2.2.2 ∧ (vb.ownBlock = none ∨ vb.ownBlock ≠ vl.ownBlock)
structure TkA (w : World) (lo hi : Nat) (B : Nat → Nat) (v : Value) (raw : List Value) (ts : List Tk) : Prop where
  own : OwnV 86 4 w lo v ts.length raw
  vb : ∀ j, v.ownBlock = some j → j < hi
  b0 : lo ≤ B 0
  mono : ∀ i j, i ≤ j → B i ≤ B j
  b1 : ∀ i, B i ≤ hi
  at_ : ∀ i (h : i < ts.length), TkAt w (B i) (B (i + 1)) raw i ts[i]
theorem TkOwn.cells {w : World} {l u l' u' i : Nat} {cs raw : List Value} {x : Tk} (h : TkOwn w l u cs x) (h1 : l' ≤ l) (h2 : u ≤ u') (hr : ∀ j, j < 4 → raw[i * 4 + j]? = cs[j]?) : TkAt w l' u' raw i x := by
  obtain ⟨vb, vl, rfl, a, b, c⟩ := h
  exact ⟨vb, vl, hr 0 (by omega), hr 1 (by omega), hr 2 (by omega), hr 3 (by omega), a.mono h1 h2, b.mono h1 h2, c⟩
theorem TkAt.raw_ {w : World} {l u i : Nat} {raw raw' : List Value} {x : Tk} (h : TkAt w l u raw i x) (hr : ∀ j, j < 4 → raw'[i * 4 + j]? = raw[i * 4 + j]?) : TkAt w l u raw' i x := by
  obtain ⟨vb, vl, e0, e1, e2, e3, r⟩ := h
  exact ⟨vb, vl, (hr 0 (by omega)).trans e0, (hr 1 (by omega)).trans e1, (hr 2 (by omega)).trans e2, (hr 3 (by omega)).trans e3, r⟩
theorem TkAt.kept {w w' : World} {l u i : Nat} {raw : List Value} {x : Tk} {row : Option Nat} (h : TkAt w l u raw i x) (hg : w.grownBy w' row) (hr : ∀ k, row = some k → k < l ∨ u ≤ k) : TkAt w' l u raw i x := by
  obtain ⟨vb, vl, e0, e1, e2, e3, a, b, c⟩ := h
  exact ⟨vb, vl, e0, e1, e2, e3, a.kept hg hr, b.kept hg hr, c⟩
theorem TksOwn.places {w : World} {lo hi : Nat} {raw : List Value} {ts : List Tk} (h : TksOwn w lo hi raw ts) : ∃ B : Nat → Nat, lo ≤ B 0 ∧ (∀ i j, i ≤ j → B i ≤ B j) ∧ (∀ i, B i ≤ hi) ∧ ∀ i (h : i < ts.length), TkAt w (B i) (B (i + 1)) raw i ts[i] := by
  induction h with
  | nil h => exact ⟨fun _ => lo, Nat.le_refl _, fun _ _ _ => Nat.le_refl _, fun _ => h, fun i hi => absurd hi (Nat.not_lt_zero _)⟩
  | snoc h2 h3 h4 ih =>
    rename_i mid hi raw cs xs x
    obtain ⟨B, b0, b1, b2, b3⟩ := ih
    have hl := h2.len
    refine ⟨fun i => if i ≤ xs.length then B i else hi, ?_, fun i j hij => ?_, fun i => ?_, fun i hi' => ?_⟩
    · simp; exact b0
    · by_cases h : j ≤ xs.length
      · simp only [h, show i ≤ xs.length by omega, if_true]; exact b1 i j hij
      · simp only [h, if_false]
        show (if i ≤ xs.length then B i else hi) ≤ hi
        split
        · have := b2 i; omega
        · exact Nat.le_refl _
    · show (if i ≤ xs.length then B i else hi) ≤ hi
      split
      · have := b2 i; omega
      · exact Nat.le_refl _
    · rw [List.length_append, List.length_singleton] at hi'
      by_cases hx : i < xs.length
      · simp only [show i ≤ xs.length by omega, show i + 1 ≤ xs.length by omega, if_true]
        rw [List.getElem_append_left hx]
        exact (b3 i hx).raw_ fun j hj => List.getElem?_append_left (by omega)
      · obtain rfl : i = xs.length := by omega
        simp only [Nat.le_refl, if_true, show ¬ xs.length + 1 ≤ xs.length by omega, if_false]
        rw [List.getElem_append_right (Nat.le_refl _)]
        simp only [Nat.sub_self, List.getElem_singleton]
        exact h3.cells (b2 _) (Nat.le_refl _) fun j hj => by
          rw [List.getElem?_append_right (by omega), hl, Nat.add_sub_cancel_left]
theorem TkA.of {w : World} {lo hi : Nat} {v : Value} {raw : List Value} {ts : List Tk} (ho : OwnV 86 4 w lo v ts.length raw) (hb : ∀ k, v.ownBlock = some k → k < hi) (h : TksOwn w lo hi raw ts) : ∃ B, TkA w lo hi B v raw ts := by
  obtain ⟨B, b0, b1, b2, b3⟩ := h.places
  exact ⟨B, ho, hb, b0, b1, b2, b3⟩
theorem TkA.kept {w w' : World} {lo hi : Nat} {B : Nat → Nat} {v : Value} {raw : List Value} {ts : List Tk} {row : Option Nat} (h : TkA w lo hi B v raw ts) (hg : w.grownBy w' row) (hr : ∀ k, row = some k → k < lo ∨ hi ≤ k) : TkA w' lo hi B v raw ts where
  own := ownsRow_kept (N := 0) h.own h.vb hg hr
  vb := h.vb
  b0 := h.b0
  mono := h.mono
  b1 := h.b1
  at_ := fun i hi => (h.at_ i hi).kept hg fun k e => by
    have h1 := h.b0
    have h2 := h.mono 0 i (Nat.zero_le _)
    have h3 := h.b1 (i + 1)
    rcases hr k e with h | h <;> omega
/-- A number of task i is put in. -/
theorem TkA.put {w : World} {lo hi : Nat} {B : Nat → Nat} {g n c : Nat} {raw : List Value} {ts : List Tk} (h : TkA w lo hi B (.slice (some ⟨g, 0, none⟩) n c) raw ts) (hn : n = ts.length) (i : Nat) (hi' : i < ts.length) (y : Int) :
    TkA (w.setCell ⟨g, i * 4, none⟩ (.int .i64 y)) lo hi B (.slice (some ⟨g, 0, none⟩) n c) (raw.set (i * 4) (.int .i64 y)) (ts.set i (y, ts[i].2)) ∧ TkA (w.setCell ⟨g, i * 4 + 1, none⟩ (.int .i64 y)) lo hi B (.slice (some ⟨g, 0, none⟩) n c) (raw.set (i * 4 + 1) (.int .i64 y)) (ts.set i (ts[i].1, y, ts[i].2.2)) ∧
    (∃ vb vl, w.cell? ⟨g, i * 4, none⟩ = some (.int .i64 ts[i].1) ∧ w.cell? ⟨g, i * 4 + 1, none⟩ = some (.int .i64 ts[i].2.1) ∧ w.cell? ⟨g, i * 4 + 2, none⟩ = some vb ∧ w.cell? ⟨g, i * 4 + 3, none⟩ = some vl) ∧ w.frozen? ⟨g, i * 4, none⟩ = false ∧ w.frozen? ⟨g, i * 4 + 1, none⟩ = false := by
  subst hn
  have hlen := h.own.length
  obtain ⟨_, f0, o0, g0⟩ := h.own.store (i * 4) (by omega) (.int .i64 y)
  obtain ⟨_, f1, o1, g1⟩ := h.own.store (i * 4 + 1) (by omega) (.int .i64 y)
  obtain ⟨c0, _⟩ := h.own.store (i * 4) (by omega) (.bool true)
  obtain ⟨c1, _⟩ := h.own.store (i * 4 + 1) (by omega) (.bool true)
  obtain ⟨c2, _⟩ := h.own.store (i * 4 + 2) (by omega) (.bool true)
  obtain ⟨c3, _⟩ := h.own.store (i * 4 + 3) (by omega) (.bool true)
  have key : ∀ (j : Nat) (w' : World) (u : Value), w.grownBy w' (some g) → ∀ k (hk : k < ts.length), TkAt w' (B k) (B (k + 1)) raw k ts[k] := fun j w' u hg k hk => by
    obtain ⟨vb, vl, e0, e1, e2, e3, a, b, c⟩ := h.at_ k hk
    have hty := h.own.typed g rfl
    obtain ⟨cur, fr, hb⟩ := hty
    exact ⟨vb, vl, e0, e1, e2, e3, a.keptT hg hb (by decide), b.keptT hg hb (by decide), c⟩
  have put : ∀ (q : Nat) (w' : World) (x : Tk), q < 2 → TkAt w' (B i) (B (i + 1)) (raw.set (i * 4 + q) (.int .i64 y)) i x → OwnV 86 4 w' lo (.slice (some ⟨g, 0, none⟩) ts.length c) ts.length (raw.set (i * 4 + q) (.int .i64 y)) → w.grownBy w' (some g) → TkA w' lo hi B (.slice (some ⟨g, 0, none⟩) ts.length c) (raw.set (i * 4 + q) (.int .i64 y)) (ts.set i x) := fun q w' x hq hx ho hg => {
    own := by rw [List.length_set]; exact ho
    vb := h.vb
    b0 := h.b0
    mono := h.mono
    b1 := h.b1
    at_ := fun k hk => by
      rw [List.length_set] at hk
      by_cases hik : k = i
      · subst hik; rw [List.getElem_set_self]; exact hx
      · rw [List.getElem_set_ne (fun e => hik e.symm)]
        exact (key 0 w' (.bool true) hg k hk).raw_ fun j hj => by rw [List.getElem?_set_ne (by omega)] }
  obtain ⟨vb, vl, e0, e1, e2, e3, a, b, c'⟩ := h.at_ i hi'
  refine ⟨put 0 _ _ (by omega) ?_ o0 g0, put 1 _ _ (by omega) ?_ o1 g1, ⟨vb, vl, ?_, ?_, ?_, ?_⟩, f0, f1⟩
  · obtain ⟨vb, vl, e0, e1, e2, e3, a, b, c'⟩ := key 0 _ (.bool true) g0 i hi'
    exact ⟨vb, vl, List.getElem?_set_self (by omega), by rw [List.getElem?_set_ne (by omega)]; exact e1, by rw [List.getElem?_set_ne (by omega)]; exact e2, by rw [List.getElem?_set_ne (by omega)]; exact e3, a, b, c'⟩
  · obtain ⟨vb, vl, e0, e1, e2, e3, a, b, c'⟩ := key 0 _ (.bool true) g1 i hi'
    exact ⟨vb, vl, by rw [List.getElem?_set_ne (by omega)]; exact e0, List.getElem?_set_self (by omega), by rw [List.getElem?_set_ne (by omega)]; exact e2, by rw [List.getElem?_set_ne (by omega)]; exact e3, a, b, c'⟩
  · rw [List.getElem?_eq_getElem (by omega)] at e0; rw [c0]; exact e0
  · rw [List.getElem?_eq_getElem (by omega)] at e1; rw [c1]; exact e1
  · rw [List.getElem?_eq_getElem (by omega)] at e2; rw [c2]; exact e2
  · rw [List.getElem?_eq_getElem (by omega)] at e3; rw [c3]; exact e3
theorem OwnH.sameI {w w' : World} {lo hi : Nat} {v : Value} {xs ys : List Int} (h : OwnH w lo hi v xs) (k : OwnI w' lo v ys) : OwnH w' lo hi v ys := ⟨k, h.2⟩
/-- A row of task i is written. -/
theorem TkA.row {w w' : World} {lo hi : Nat} {B : Nat → Nat} {g n c : Nat} {raw : List Value} {ts : List Tk} (h : TkA w lo hi B (.slice (some ⟨g, 0, none⟩) n c) raw ts) (hn : n = ts.length) (i : Nat) (hi' : i < ts.length) (vb vl : Value) (c2 : w.cell? ⟨g, i * 4 + 2, none⟩ = some vb) (c3 : w.cell? ⟨g, i * 4 + 3, none⟩ = some vl) :
    OwnH w (B i) (B (i + 1)) vb ts[i].2.2.1 ∧ OwnH w (B i) (B (i + 1)) vl ts[i].2.2.2 ∧
    (∀ ys, OwnI w' (B i) vb ys → w.grownBy w' vb.ownBlock → TkA w' lo hi B (.slice (some ⟨g, 0, none⟩) n c) raw (ts.set i (ts[i].1, ts[i].2.1, ys, ts[i].2.2.2))) ∧
    (∀ ys, OwnI w' (B i) vl ys → w.grownBy w' vl.ownBlock → TkA w' lo hi B (.slice (some ⟨g, 0, none⟩) n c) raw (ts.set i (ts[i].1, ts[i].2.1, ts[i].2.2.1, ys))) := by
  subst hn
  have hlen := h.own.length
  obtain ⟨d2, _⟩ := h.own.store (i * 4 + 2) (by omega) (.bool true)
  obtain ⟨d3, _⟩ := h.own.store (i * 4 + 3) (by omega) (.bool true)
  obtain ⟨vb', vl', e0, e1, e2, e3, a, b, c'⟩ := h.at_ i hi'
  obtain rfl : vb' = vb := by
    rw [List.getElem?_eq_getElem (by omega)] at e2
    rw [c2] at d2
    exact Option.some.inj (e2.symm.trans d2.symm)
  obtain rfl : vl' = vl := by
    rw [List.getElem?_eq_getElem (by omega)] at e3
    rw [c3] at d3
    exact Option.some.inj (e3.symm.trans d3.symm)
  have hm := h.mono
  have key : ∀ (u : Value) (xs : List Int) (x : Tk), OwnH w (B i) (B (i + 1)) u xs → w.grownBy w' u.ownBlock → TkAt w' (B i) (B (i + 1)) raw i x → TkA w' lo hi B (.slice (some ⟨g, 0, none⟩) ts.length c) raw (ts.set i x) := fun u xs x hu hg hx => {
    own := by rw [List.length_set]; exact h.own.keptV (T' := 2) (size' := 1) (n' := xs.length) hu.1 (by decide) hg
    vb := h.vb
    b0 := h.b0
    mono := h.mono
    b1 := h.b1
    at_ := fun k hk => by
      rw [List.length_set] at hk
      by_cases hik : k = i
      · subst hik; rw [List.getElem_set_self]; exact hx
      · rw [List.getElem_set_ne (fun e => hik e.symm)]
        refine (h.at_ k hk).kept hg fun q e => ?_
        have h1 := (hu.1.lt q e).1
        have h2 := hu.2 q e
        rcases Nat.lt_or_gt_of_ne hik with h3 | h3
        · have := hm (k + 1) i (by omega); omega
        · have := hm (i + 1) k (by omega); omega }
  have hsym : vl'.ownBlock = none ∨ vl'.ownBlock ≠ vb'.ownBlock := by
    rcases c' with h1 | h1
    · rw [h1]
      cases vl'.ownBlock with
      | none => exact .inl rfl
      | some j => exact .inr (by simp)
    · exact .inr (Ne.symm h1)
  refine ⟨a, b, fun ys ho hg => key vb' _ _ a hg ⟨vb', vl', e0, e1, e2, e3, a.sameI ho, ⟨b.1.kept hg hsym, b.2⟩, c'⟩, fun ys ho hg => key vl' _ _ b hg ⟨vb', vl', e0, e1, e2, e3, ⟨a.1.kept hg c', a.2⟩, b.sameI ho, c'⟩⟩

def tkN (t : Tk) : Nat := 2 + t.2.2.1.length + t.2.2.2.length
def mkIx (k : Nat) (ts : List Tk) (i : Nat) : Nat := k + ((ts.take i).map tkN).sum
def tksN (ts : List Tk) : Nat := (ts.map tkN).sum
theorem mkIx_zero (k : Nat) (ts : List Tk) : mkIx k ts 0 = k := by simp [mkIx]
theorem mkIx_succ (k : Nat) (ts : List Tk) (i : Nat) (h : i < ts.length) : mkIx k ts (i + 1) = mkIx k ts i + tkN ts[i] := by
  unfold mkIx
  rw [List.take_succ_eq_append_getElem h, List.map_append, List.sum_append]
  simp; omega
theorem mkIx_full (k : Nat) (ts : List Tk) : mkIx k ts ts.length = k + tksN ts := by simp [mkIx, tksN]
theorem mkIx_mono (k : Nat) (ts : List Tk) : ∀ i, i ≤ ts.length → mkIx k ts i ≤ k + tksN ts := by
  intro i hi
  have h1 : (ts.take i).map tkN ++ (ts.drop i).map tkN = ts.map tkN := by rw [← List.map_append, List.take_append_drop]
  have h2 := congrArg List.sum h1
  rw [List.sum_append] at h2
  unfold mkIx tksN; omega
def mkTk (k : Nat) (t : Tk) : Tk := ((k : Int), (k : Int) + 1, marks ((k : Int) + 2) t.2.2.1.length, marks ((k : Int) + 2 + t.2.2.1.length) t.2.2.2.length)
def mkAll (k : Nat) (ts : List Tk) : List Tk := (List.range ts.length).map fun i => mkTk (mkIx k ts i) (ts[i]?.getD (0, 0, [], []))
theorem mkAll_length (k : Nat) (ts : List Tk) : (mkAll k ts).length = ts.length := by simp [mkAll]
theorem mkAll_get (k : Nat) (ts : List Tk) (i : Nat) (h : i < ts.length) : (mkAll k ts)[i]'(by rw [mkAll_length]; exact h) = mkTk (mkIx k ts i) ts[i] := by
  simp [mkAll, h]
/-- What stands when the first i tasks are marked. -/
def MkTo (k : Nat) (ts ys : List Tk) (i : Nat) : Prop := ys.length = ts.length ∧ ∀ j (h : j < ts.length) (h' : j < ys.length), ys[j] = if j < i then mkTk (mkIx k ts j) ts[j] else ts[j]
theorem MkTo.zero (k : Nat) (ts : List Tk) : MkTo k ts ts 0 := ⟨rfl, fun j h h' => by simp⟩
theorem MkTo.full {k : Nat} {ts ys : List Tk} (h : MkTo k ts ys ts.length) : ys = mkAll k ts := by
  refine List.ext_getElem (by rw [h.1, mkAll_length]) fun i h1 h2 => ?_
  rw [mkAll_length] at h2
  rw [h.2 i h2 h1, mkAll_get k ts i h2, if_pos h2]
theorem MkTo.cur {k : Nat} {ts ys : List Tk} {i : Nat} (h : MkTo k ts ys i) (hi : i < ts.length) (hi' : i < ys.length) : ys[i] = ts[i] := by rw [h.2 i hi hi', if_neg (Nat.lt_irrefl _)]
theorem MkTo.succ {k : Nat} {ts ys : List Tk} {i : Nat} (h : MkTo k ts ys i) (hi : i < ts.length) (x : Tk) (hx : x = mkTk (mkIx k ts i) ts[i]) : MkTo k ts (ys.set i x) (i + 1) := by
  refine ⟨by rw [List.length_set]; exact h.1, fun j hj hj' => ?_⟩
  by_cases hij : i = j
  · subst hij; rw [List.getElem_set_self, if_pos (by omega), hx]
  · rw [List.getElem_set_ne hij, h.2 j hj (by rw [h.1]; exact hj)]
    by_cases h2 : j < i
    · rw [if_pos h2, if_pos (by omega)]
    · rw [if_neg h2, if_neg (by omega)]
/-- Only blocks from lo to hi have changed, and only rows of tasks and of integers. -/
def GrownK (lo hi : Nat) (w W : World) : Prop := GrownL (spanT lo hi) w W ∧ ∀ (i : Nat) (cur : Array Value) (t : TypeId) (fr : Nat × Nat), w.heap[i]? = some (.cells cur t fr) → t ≠ 86 → t ≠ 2 → W.heap[i]? = w.heap[i]?
theorem GrownK.refl (lo hi : Nat) (w : World) : GrownK lo hi w w := ⟨GrownL.refl _ _, fun _ _ _ _ _ _ _ => rfl⟩
theorem GrownK.step {lo hi : Nat} {w W W' : World} {row : Option Nat} (h : GrownK lo hi w W) (hg : W.grownBy W' row) (hr : ∀ k, row = some k → lo ≤ k ∧ k < hi) (ht : ∀ k, row = some k → ∃ (cur : Array Value) (t : TypeId) (fr : Nat × Nat), W.heap[k]? = some (.cells cur t fr) ∧ (t = 86 ∨ t = 2)) : GrownK lo hi w W' := by
  refine ⟨h.1.grown hg fun j e => .inl (mem_spanT.2 (hr j e)), fun i cur t fr e n1 n2 => ?_⟩
  have h1 := h.2 i cur t fr e n1 n2
  have h2 : W.heap[i]? = some (.cells cur t fr) := h1.trans e
  refine (hg.block i (Array.getElem?_eq_some_iff.1 h2).1 fun e2 => ?_).trans h1
  obtain ⟨c2, t2, f2, e3, e4⟩ := ht i e2.symm
  rw [h2] at e3
  injection e3 with e3
  injection e3 with _ e5
  subst e5
  rcases e4 with e4 | e4
  · exact n1 e4
  · exact n2 e4
theorem GrownK.mono {lo hi lo' hi' : Nat} {w W : World} (h : GrownK lo hi w W) (h1 : lo' ≤ lo) (h2 : hi ≤ hi') : GrownK lo' hi' w W :=
  ⟨⟨h.1.os, h.1.tape, h.1.output, h.1.size, fun i hi hn => h.1.block i hi (fun e => hn (by rw [mem_spanT] at e ⊢; omega))⟩, h.2⟩
theorem GrownK.trans {lo hi : Nat} {a b c : World} (h : GrownK lo hi a b) (k : GrownK lo hi b c) : GrownK lo hi a c :=
  ⟨h.1.trans k.1, fun i cur t fr e n1 n2 => (k.2 i cur t fr ((h.2 i cur t fr e n1 n2).trans e) n1 n2).trans (h.2 i cur t fr e n1 n2)⟩
theorem OwnV.isTask {size n : Nat} {w : World} {B : Nat} {v : Value} {raw : List Value} (h : OwnV 86 size w B v n raw) : ∀ k, v.ownBlock = some k → ∃ (cur : Array Value) (t : TypeId) (fr : Nat × Nat), w.heap[k]? = some (.cells cur t fr) ∧ (t = 86 ∨ t = 2) := fun k e => by
  obtain ⟨cur, fr, h1⟩ := h.typed k e
  exact ⟨cur, _, fr, h1, .inl rfl⟩
theorem OwnI.isInt {w : World} {B : Nat} {v : Value} {xs : List Int} (h : OwnI w B v xs) : ∀ k, v.ownBlock = some k → ∃ (cur : Array Value) (t : TypeId) (fr : Nat × Nat), w.heap[k]? = some (.cells cur t fr) ∧ (t = 86 ∨ t = 2) := fun k e => by
  obtain ⟨cur, fr, h1⟩ := OwnV.typed (T := 2) (size := 1) h k e
  exact ⟨cur, _, fr, h1, .inr rfl⟩

set_option maxHeartbeats 2000000 in
theorem markTaskS_any (v : Value) (ts : List Tk) (raw : List Value) (B : Nat → Nat) (k lo hi : Nat) (w : World) (h : TkA w lo hi B v raw ts) (hk : 1 ≤ k) (hs : k + tksN ts ≤ 100000000) :
    Calls Try.prog 105 #[v, .int .i64 k] w fun e w' => e = .returned (.int .i64 ((k + tksN ts : Nat) : Int)) ∧ (∃ raw', TkA w' lo hi B v raw' (mkAll k ts)) ∧ GrownK lo hi w w' := by
  obtain ⟨n, hn⟩ : ∃ n, ts.length = n := ⟨_, rfl⟩
  have HV : ∃ a c, v = .slice a n c ∧ (0 < n → ∃ g, a = some ⟨g, 0, none⟩) := by
    rcases h.own.2 with ⟨h1, h0⟩ | ⟨g, cap, cur, h1, _⟩
    · exact ⟨none, 0, by rw [h1, ← hn, h0], fun h => by omega⟩
    · exact ⟨_, cap, by rw [h1, hn], fun _ => ⟨g, rfl⟩⟩
  obtain ⟨a, c, rfl, ha⟩ := HV
  have HA := Lib.hid ha
  have HN := Lib.hid hn
  have H0 := Lib.hid h
  have HIX : Hid (∀ i, i ≤ n → mkIx k ts i ≤ 100000000) := fun i hi => Nat.le_trans (mkIx_mono k ts i (by omega)) hs
  have HF : Hid (mkIx k ts n = k + tksN ts) := by show _ = _; rw [← hn]; exact mkIx_full k ts
  have HI0 : Hid (mkIx k ts 0 = k) := mkIx_zero k ts
  have hn31 : n ≤ 100000000 := by
    have h1 : ∀ l : List Tk, l.length ≤ tksN l := by
      intro l
      induction l with
      | nil => simp [tksN]
      | cons x l ih => simp only [tksN, List.map_cons, List.sum_cons, List.length_cons, tkN] at ih ⊢; omega
    have := h1 ts
    omega
  rw [← HF.out]
  clear h ha hn hs
  go_enter Try.func105, Try.ntmps105
  go_wp2
  go_loopw [1, 5] (fun vk vi wr => ∃ i K : Nat, i ≤ n ∧ Hid (K = mkIx k ts i) ∧ vi = .int .i64 i ∧ vk = .int .i64 K ∧ Hid (∃ raw' ys, TkA wr lo hi B (.slice a n c) raw' ys ∧ MkTo k ts ys i) ∧ Hid (GrownK lo hi w wr)) (fun _ vi _ => n - (intOf vi).toNat)
  case atStart => exact ⟨0, k, Nat.zero_le _, HI0.out.symm, rfl, rfl, ⟨raw, ts, H0.out, MkTo.zero k ts⟩, GrownK.refl _ _ _⟩
  case round =>
    obtain ⟨i, K, hi', HK, rfl, rfl, HT, HG⟩ := hrel
    obtain ⟨wr', rfl⟩ : ∃ wr' : World, wr' = wr := ⟨_, rfl⟩
    clear H0 HI0
    by_cases hlt : i < n
    · obtain ⟨g, rfl⟩ := HA.out (by omega)
      obtain ⟨raw', ys, ht, hm⟩ := HT.out
      have hts : i < ts.length := by rw [HN.out]; exact hlt
      have hyl : ys.length = n := by rw [hm.1, HN.out]
      have hys : i < ys.length := by omega
      have hcur := hm.cur hts hys
      have hKb := HIX.out (i + 1) (by omega)
      rw [mkIx_succ k ts i hts, ← HK.out] at hKb
      have HKS : Hid (mkIx k ts (i + 1) = K + tkN ts[i]) := by show _ = _; rw [mkIx_succ k ts i hts, HK.out]
      obtain ⟨p1, p1', ⟨vb, vl, k0, k1, c2, c3⟩, f0, f1⟩ := ht.put hyl.symm i hys (K : Int)
      have p2 := (p1.put (by rw [List.length_set]; exact hyl.symm) i (by rw [List.length_set]; exact hys) ((K : Int) + 1)).2.1
      obtain ⟨u0, c0⟩ : ∃ u, wr'.cell? ⟨g, i * 4, none⟩ = some u := ⟨_, k0⟩
      obtain ⟨u1, c1⟩ : ∃ u, wr'.cell? ⟨g, i * 4 + 1, none⟩ = some u := ⟨_, k1⟩
      clear p1' k0 k1
      rw [List.getElem_set_self, List.set_set] at p2
      obtain ⟨t, htk⟩ : ∃ t, ts[i] = t := ⟨_, rfl⟩
      rw [hcur, htk] at p2
      rw [htk] at hKb HKS
      have hgv := (ht.own.lt g rfl).1
      have hgh := ht.vb g rfl
      have hg1 := (show OwnV _ _ _ _ (.slice (some ⟨g, 0, none⟩) n c) n raw' from by have := ht.own; rwa [hyl] at this).store (i * 4) (by rw [ht.own.length]; omega) (.int .i64 (K : Int)) |>.2.2.2
      have hg2 := (show OwnV _ _ _ _ (.slice (some ⟨g, 0, none⟩) n c) n _ from by have := p1.own; rwa [List.length_set, hyl] at this).store (i * 4 + 1) (by rw [p1.own.length, List.length_set]; omega) (.int .i64 ((K : Int) + 1)) |>.2.2.2
      have G2 := Lib.hid ((HG.out.step hg1 (fun q e => by cases e; exact ⟨hgv, hgh⟩) (fun q e => ht.own.isTask q e)).step hg2 (fun q e => by cases e; exact ⟨hgv, hgh⟩) (fun q e => p1.own.isTask q e))
      obtain ⟨W2, hW2⟩ : ∃ W, (wr'.setCell ⟨g, i * 4, none⟩ (.int .i64 (K : Int))).setCell ⟨g, i * 4 + 1, none⟩ (.int .i64 ((K : Int) + 1)) = W := ⟨_, rfl⟩
      rw [hW2] at p2 G2
      obtain ⟨ys2, hys2⟩ : ∃ z, ys.set i ((K : Int), (K : Int) + 1, t.2.2) = z := ⟨_, rfl⟩
      have hl2 : ys2.length = n := by rw [← hys2, List.length_set]; exact hyl
      have hi2 : i < ys2.length := by omega
      have hv2 : ys2[i] = ((K : Int), (K : Int) + 1, t.2.2) := by simp only [← hys2, List.getElem_set_self]
      rw [hys2] at p2
      obtain ⟨vb2, vl2, q0, q1, d2, d3⟩ := (p2.put hl2.symm i hi2 0).2.2.1
      clear q0 q1
      have ob := (p2.row (w' := W2) hl2.symm i hi2 vb2 vl2 d2 d3).1
      have hb := fun w' => (p2.row (w' := w') hl2.symm i hi2 vb2 vl2 d2 d3).2.2.1
      simp only [hv2] at hb
      rw [hv2] at ob
      have hN : tkN t = 2 + t.2.2.1.length + t.2.2.2.length := rfl
      have HM1 := Lib.hid (markInt64S_any vb2 t.2.2.1 ((K : Int) + 1 + 1) (B i) W2 ob.1 (by omega) (by omega) (by omega))
      obtain ⟨L1, hL1⟩ : ∃ z, t.2.2.1.length = z := ⟨_, rfl⟩
      obtain ⟨L2, hL2⟩ : ∃ z, t.2.2.2.length = z := ⟨_, rfl⟩
      have HNN : Hid (tkN t = 2 + L1 + L2) := by show _ = _; rw [hN, hL1, hL2]
      have h100 : K + 2 + L1 + L2 ≤ 100000000 := by have := HNN.out; omega
      rw [hL1] at HM1
      have HOB := Lib.hid ob
      have HROW := Lib.hid hb
      have HP2 := Lib.hid p2
      have HMM := Lib.hid hm
      have HTS := Lib.hid hts
      have HHI2 := Lib.hid hl2
      have HTK := Lib.hid htk
      have HL := Lib.hid (And.intro hL1 hL2)
      have HYS := Lib.hid hys2
      have hi0 : (0 : Int) ≤ (i : Int) := by omega
      have hi1 : (i : Int) < (n : Int) := by omega
      have e2 := d2
      clear hv2 hL1 hL2 ob hb p2 hm hl2 htk hys2 hg1 hg2 p1 ht hcur hyl hys hKb HIX HG HT hN d3 hgv hgh
      go_wp2_with fail
      refine HM1.out.mono ?_
      rintro e W3 ⟨rfl, ho3, hg3⟩
      have hl2 := HHI2.out
      have p3 := HROW.out W3 _ ho3 hg3
      have G3 := Lib.hid (G2.out.step hg3 (fun q e => ⟨by have h1 := (HOB.out.1.lt q e).1; have h2 := HP2.out.b0; have h3 := HP2.out.mono 0 i (Nat.zero_le _); omega, by have h1 := HOB.out.2 q e; have h2 := HP2.out.b1 (i + 1); omega⟩) HOB.out.1.isInt)
      obtain ⟨ys3, hys3⟩ : ∃ z, ys2.set i ((K : Int), (K : Int) + 1, marks ((K : Int) + 1 + 1) L1, t.2.2.2) = z := ⟨_, rfl⟩
      have hl3 : ys3.length = n := by rw [← hys3, List.length_set]; exact hl2
      have hi3 : i < ys3.length := by omega
      have hv3 : ys3[i] = ((K : Int), (K : Int) + 1, marks ((K : Int) + 1 + 1) L1, t.2.2.2) := by simp only [← hys3, List.getElem_set_self]
      rw [hys3] at p3
      obtain ⟨vb3, vl3, q0, q1, d2, d3⟩ := (p3.put hl3.symm i hi3 0).2.2.1
      clear q0 q1
      have ol := (p3.row (w' := W3) hl3.symm i hi3 vb3 vl3 d2 d3).2.1
      have hb := fun w' => (p3.row (w' := w') hl3.symm i hi3 vb3 vl3 d2 d3).2.2.2
      simp only [hv3] at hb
      rw [hv3] at ol
      have HM2 := Lib.hid (markInt64S_any vl3 t.2.2.2 ((K : Int) + 1 + 1 + (L1 : Int)) (B i) W3 ol.1 (by omega) (by omega) (by have := HL.out; omega))
      rw [HL.out.2] at HM2
      have HOB3 := Lib.hid ol
      have HROW3 := Lib.hid hb
      have HP3 := Lib.hid p3
      have HYS3 := Lib.hid hys3
      clear hl2 p3 HM1 HROW ho3 hg3 hl3 hv3 hys3 ol hb d2 c0 c1 c2 c3 f0 f1 e2 HOB HHI2 G2
      go_wp2_with fail
      refine HM2.out.mono ?_
      rintro e W4 ⟨rfl, ho4, hg4⟩
      have p4 := HROW3.out W4 _ ho4 hg4
      have G4 := Lib.hid (G3.out.step hg4 (fun q e => ⟨by have h1 := (HOB3.out.1.lt q e).1; have h2 := HP2.out.b0; have h3 := HP2.out.mono 0 i (Nat.zero_le _); omega, by have h1 := HOB3.out.2 q e; have h2 := HP2.out.b1 (i + 1); omega⟩) HOB3.out.1.isInt)
      have HT4 : Hid (∃ raw' ys, TkA W4 lo hi B (.slice (some ⟨g, 0, none⟩) n c) raw' ys ∧ MkTo k ts ys (i + 1)) := by
        refine ⟨_, _, p4, ?_⟩
        rw [← HYS3.out, ← HYS.out, List.set_set, List.set_set]
        refine HMM.out.succ HTS.out _ ?_
        rw [HTK.out, ← HK.out]
        unfold mkTk
        rw [HL.out.1, HL.out.2, show (K : Int) + 1 + 1 = (K : Int) + 2 by omega]
      obtain ⟨K', hK'⟩ : ∃ K', K + 2 + L1 + L2 = K' := ⟨_, rfl⟩
      have HK' : Hid (K' = mkIx k ts (i + 1)) := by show _ = _; rw [HKS.out, HNN.out]; omega
      have hKK : (K : Int) + 1 + 1 + (L1 : Int) + (L2 : Int) = (K' : Int) := by omega
      have HKK := Lib.hid hKK
      clear p4 ho4 hg4 HM2 HROW3 HP2 HP3 HYS HYS3 HMM HTS HOB3 G3 hK' hKK d3
      go_wp2
      go_roundw
      case rel => exact ⟨i + 1, K', by omega, HK'.out, by go_num, by rw [← HKK.out], HT4.out, G4.out⟩
      case measure => simp [intOf]; omega
    · have hin : i = n := by omega
      clear HIX
      have HEND : Hid (∃ raw', TkA wr' lo hi B (.slice a n c) raw' (mkAll k ts)) := by
        obtain ⟨raw', ys, ht, hm⟩ := HT.out
        rw [hin, ← HN.out] at hm
        rw [hm.full] at ht
        exact ⟨raw', ht⟩
      have HKE : Hid (K = mkIx k ts n) := by have := HK.out; rw [hin] at this; exact this
      clear HT HK HF
      go_wp2
      go_ret
      exact ⟨ret_int (by rw [← HKE.out]), HEND.out, HG.out⟩
theorem TkA.reads {w : World} {lo hi : Nat} {B : Nat → Nat} {v : Value} {raw : List Value} {xs : List Tk} (h : TkA w lo hi B v raw xs) (hm : xs.length ≤ maxLen)
    (hw : ∀ i (h : i < xs.length), (Lit.int .i64 xs[i].1).wf = true ∧ (Lit.int .i64 xs[i].2.1).wf = true ∧ (∀ n ∈ xs[i].2.2.1, (Lit.int .i64 n).wf = true) ∧ (∀ n ∈ xs[i].2.2.2, (Lit.int .i64 n).wf = true)) : TasksR w v xs := by
  have hv := h.own
  by_cases h0 : 1 ≤ xs.length
  · rcases hv.2 with ⟨_, h1⟩ | ⟨g, cap, cur, rfl, hg, hb, hc⟩
    · omega
    refine ⟨hm, _, cap, rfl, hc.1, fun i hi => ?_⟩
    obtain ⟨vb, vl, p0, p1, p2, p3, o1, o2, _⟩ := h.at_ i hi
    obtain ⟨w1, w2, w3, w4⟩ := hw i hi
    refine ⟨g, 0, _, rfl, (hv.lt g rfl).2, task_cells.2 ⟨vb, vl, rfl, w1, w2, OwnI.slR o1.1 w3, OwnI.slR o2.1 w4⟩, fun j hj => ?_⟩
    have hj4 : j < 4 := hj
    have hl := hv.length
    have h5 := (hv.store (i * 4 + j) (by omega) (.bool true)).1
    rw [Nat.zero_add]
    show w.cell? ⟨g, i * 4 + j, none⟩ = _
    rw [h5]
    have hj5 : j = 0 ∨ j = 1 ∨ j = 2 ∨ j = 3 := by omega
    rcases hj5 with rfl | rfl | rfl | rfl
    · rw [← List.getElem?_eq_getElem]; exact p0
    · rw [← List.getElem?_eq_getElem]; exact p1
    · rw [← List.getElem?_eq_getElem]; exact p2
    · rw [← List.getElem?_eq_getElem]; exact p3
  · obtain rfl : xs = [] := List.eq_nil_of_length_eq_zero (by omega)
    rcases hv.2 with ⟨h2, _⟩ | ⟨g, cap, cur, h2, _⟩
    · exact ⟨hm, _, _, h2, Nat.le_refl _, fun i hi => absurd hi (Nat.not_lt_zero _)⟩
    · exact ⟨hm, _, _, h2, Nat.zero_le _, fun i hi => absurd hi (Nat.not_lt_zero _)⟩
theorem marks_win {k : Int} {n : Nat} (h0 : 0 ≤ k) (h1 : k + n ≤ 1000000000) : ∀ x ∈ marks k n, (Lit.int .i64 x).wf = true := fun x hx => by
  obtain ⟨i, hi, rfl⟩ := List.getElem_of_mem hx
  rw [marks_length] at hi
  rw [marks_get]
  exact wf_i64_iff.2 ⟨by omega, by omega⟩
theorem tksN_len (ts : List Tk) : ts.length ≤ tksN ts := by
  induction ts with
  | nil => simp [tksN]
  | cons x l ih => simp only [tksN, List.map_cons, List.sum_cons, List.length_cons, tkN] at ih ⊢; omega
theorem TkA.marked {w : World} {lo hi k : Nat} {B : Nat → Nat} {v : Value} {raw : List Value} {ts : List Tk} (h : TkA w lo hi B v raw (mkAll k ts)) (hs : k + tksN ts ≤ 100000000) : TasksR w v (mkAll k ts) := by
  have hl := tksN_len ts
  refine h.reads (by rw [mkAll_length]; unfold maxLen; omega) fun i hi => ?_
  rw [mkAll_length] at hi
  have h1 := mkIx_mono k ts (i + 1) (by omega)
  rw [mkIx_succ k ts i hi] at h1
  rw [mkAll_get k ts i hi]
  have h2 : tkN ts[i] = 2 + ts[i].2.2.1.length + ts[i].2.2.2.length := rfl
  unfold mkTk
  refine ⟨wf_i64_iff.2 ⟨by omega, by omega⟩, wf_i64_iff.2 ⟨by simp only; omega, by simp only; omega⟩, marks_win (by omega) (by omega), marks_win (by omega) (by omega)⟩

set_option maxHeartbeats 1000000 in
theorem heldTaskS_any (v : Value) (ts : List Tk) (k : Nat) (w : World) (h : TasksR w v (mkAll k ts)) (hk : 1 ≤ k) (hs : k + tksN ts ≤ 100000000) :
    Calls Try.prog 107 #[v, .int .i64 k] w fun e w' => e = .returned (.int .i64 ((k + tksN ts : Nat) : Int)) ∧ w = w' := by
  obtain ⟨n, hn⟩ : ∃ n, ts.length = n := ⟨_, rfl⟩
  obtain ⟨a, c, rfl, hcap, hc⟩ := h.at_
  rw [mkAll_length, hn] at hcap ⊢
  have HN := Lib.hid hn
  have HIX : Hid (∀ i, i ≤ n → mkIx k ts i ≤ 100000000) := fun i hi => Nat.le_trans (mkIx_mono k ts i (by omega)) hs
  have HF : Hid (mkIx k ts n = k + tksN ts) := by show _ = _; rw [← hn]; exact mkIx_full k ts
  have HI0 : Hid (mkIx k ts 0 = k) := mkIx_zero k ts
  have hn31 : n ≤ 100000000 := by have := tksN_len ts; omega
  have HC : Hid (∀ i (hi : i < ts.length), ∃ b o vb vl, a = some ⟨b, o, none⟩ ∧ b < w.heap.size ∧ Ints w vb (marks ((mkIx k ts i : Int) + 1 + 1) ts[i].2.2.1.length) ∧ Ints w vl (marks ((mkIx k ts i : Int) + 1 + 1 + (ts[i].2.2.1.length : Int)) ts[i].2.2.2.length) ∧
      w.cell? ⟨b, o + i * 4, none⟩ = some (.int .i64 (mkIx k ts i : Int)) ∧ w.cell? ⟨b, o + i * 4 + 1, none⟩ = some (.int .i64 ((mkIx k ts i : Int) + 1)) ∧ w.cell? ⟨b, o + i * 4 + 2, none⟩ = some vb ∧ w.cell? ⟨b, o + i * 4 + 3, none⟩ = some vl) := fun i hi => by
    obtain ⟨b, o, vb, vl, h1, h2, h3, h4, _, _, c0, c1, c2, c3⟩ := hc i (by rw [mkAll_length]; exact hi)
    rw [mkAll_get k ts i hi] at h3 h4 c0 c1
    have e2 : (mkIx k ts i : Int) + 1 + 1 = (mkIx k ts i : Int) + 2 := by omega
    rw [e2]
    exact ⟨b, o, vb, vl, h1, h2, h3.ints.1, h4.ints.1, c0, c1, c2, c3⟩
  clear h hc hn hs
  go_enter Try.func107, Try.ntmps107
  go_wp2
  go_loop [1, 5] (fun vk vi => ∃ i K : Nat, i ≤ n ∧ Hid (K = mkIx k ts i) ∧ vi = .int .i64 i ∧ vk = .int .i64 K) (fun _ vi => n - (intOf vi).toNat)
  case atStart => exact ⟨0, k, Nat.zero_le _, HI0.out.symm, rfl, rfl⟩
  case round =>
    obtain ⟨i, K, hi', HK, rfl, rfl⟩ := hrel
    clear HI0
    by_cases hlt : i < n
    · have hts : i < ts.length := by rw [HN.out]; exact hlt
      obtain ⟨b, o, vb, vl, rfl, hb, h1, h2, c0, c1, c2, c3⟩ := HC.out i hts
      have hKb := HIX.out (i + 1) (by omega)
      rw [mkIx_succ k ts i hts, ← HK.out] at hKb
      have HKS : Hid (mkIx k ts (i + 1) = K + tkN ts[i]) := by show _ = _; rw [mkIx_succ k ts i hts, HK.out]
      rw [← HK.out] at h1 h2 c0 c1
      have hN : tkN ts[i] = 2 + ts[i].2.2.1.length + ts[i].2.2.2.length := rfl
      obtain ⟨L1, hL1⟩ : ∃ z, ts[i].2.2.1.length = z := ⟨_, rfl⟩
      obtain ⟨L2, hL2⟩ : ∃ z, ts[i].2.2.2.length = z := ⟨_, rfl⟩
      rw [hL1, hL2] at hN
      rw [hL1] at h1 h2
      rw [hL2] at h2
      have HM1 := Lib.hid (heldInt64S_any vb ((K : Int) + 1 + 1) L1 w h1 (by omega) (by omega) (by omega))
      have HM2 := Lib.hid (heldInt64S_any vl ((K : Int) + 1 + 1 + (L1 : Int)) L2 w h2 (by omega) (by omega) (by omega))
      obtain ⟨K', hK'⟩ : ∃ K', K + 2 + L1 + L2 = K' := ⟨_, rfl⟩
      have HK' : Hid (K' = mkIx k ts (i + 1)) := by show _ = _; rw [HKS.out, hN]; omega
      have HKK : Hid ((K : Int) + 1 + 1 + (L1 : Int) + (L2 : Int) = (K' : Int)) := by show _ = _; omega
      have hKm : K + 2 + L1 + L2 ≤ 100000000 := by omega
      have i0 : (0 : Int) ≤ (i : Int) := by omega
      have i1 : (i : Int) < (n : Int) := by omega
      have n1 : ¬ (K : Int) + 1 + 1 + (L1 : Int) < 0 := by omega
      have n2 : ¬ (K : Int) + 1 + 1 + (L1 : Int) + (L2 : Int) < 0 := by omega
      clear h1 h2 hKb hL1 hL2 hN hK' HC HIX HKS
      go_wp2_with (first
        | (go_at_call_of 108 vb; refine HM1.out.mono ?_; rintro e W1 ⟨rfl, rfl⟩)
        | (go_at_call_of 108 vl; refine HM2.out.mono ?_; rintro e W1 ⟨rfl, rfl⟩))
      go_round
      case rel => exact ⟨i + 1, K', by omega, HK'.out, by go_num, by rw [← HKK.out]⟩
      case measure => simp [intOf]; omega
    · have hin : i = n := by omega
      have HKE : Hid (K = k + tksN ts) := by have := HK.out; rw [hin, HF.out] at this; exact this
      clear HC HIX HK HF
      go_wp2
      go_ret
      exact ⟨ret_int (by have := HKE.out; omega), rfl⟩
end Go.Proofs.Ytmhepomjbaendaa

namespace Go.Proofs.Ytmhepomjbaendaa
open Go.RowKit Go.Shelf Go.BigFrame
set_option linter.unusedVariables false
set_option linter.unusedSimpArgs false

structure SvA (w : World) (lo mid hi : Nat) (B : Nat → Nat) (vt vs : Value) (raw : List Value) (ts : List Tk) (st : List Int) : Prop where
  t : TkA w lo mid B vt raw ts
  s : OwnH w mid hi vs st
  lm : lo ≤ mid
  mh : mid ≤ hi
  hs : hi ≤ w.heap.size
theorem SvA.kept {w w' : World} {lo mid hi : Nat} {B : Nat → Nat} {vt vs : Value} {raw : List Value} {ts : List Tk} {st : List Int} {row : Option Nat} (h : SvA w lo mid hi B vt vs raw ts st) (hg : w.grownBy w' row) (hr : ∀ k, row = some k → k < lo ∨ hi ≤ k) : SvA w' lo mid hi B vt vs raw ts st where
  t := h.t.kept hg fun k e => by have := h.mh; rcases hr k e with h | h <;> omega
  s := h.s.kept hg fun k e => by have := h.lm; rcases hr k e with h | h <;> omega
  lm := h.lm
  mh := h.mh
  hs := Nat.le_trans h.hs hg.size
theorem SvA.below {w W : World} {lo mid hi : Nat} {B : Nat → Nat} {vt vs : Value} {raw : List Value} {ts : List Tk} {st : List Int} (h : SvA w lo mid hi B vt vs raw ts st) (hb : Below w.heap.size w W) : SvA W lo mid hi B vt vs raw ts st := h.kept (grown_below (none : Option Nat) hb (Nat.le_refl _)) (fun k e => by cases e)
theorem SvA.of {w : World} {lo : Nat} {vt vs : Value} {x : Sv} (h : OwnSv w lo vt vs x) (hlo : lo ≤ w.heap.size) : ∃ mid B raw, SvA w lo mid w.heap.size B vt vs raw x.2.1 x.2.2 := by
  obtain ⟨raw, mid, h1, h2, h3, h4, h5⟩ := h
  obtain ⟨B, hB⟩ := TkA.of h1 h2 h3
  -- the place between may lie above the world only if nothing lies above it
  by_cases hm : mid ≤ w.heap.size
  · exact ⟨mid, B, raw, hB, ⟨h4, fun k hk => (h4.lt k hk).2⟩, h5, hm, Nat.le_refl _⟩
  · have hn : vs.ownBlock = none := by
      cases hv : vs.ownBlock with
      | none => rfl
      | some j => have := h4.lt j hv; omega
    have h4' : OwnI w w.heap.size vs x.2.2 := by
      rcases h4.2 with ⟨e1, e2⟩ | ⟨g, cap, cur, e1, _⟩
      · exact ⟨h4.1, .inl ⟨e1, e2⟩⟩
      · rw [e1] at hn; simp [Value.ownBlock] at hn
    refine ⟨w.heap.size, fun i => min (B i) w.heap.size, raw, ⟨hB.own, fun j hj => (hB.own.lt j hj).2, ?_, fun i j hij => ?_, fun i => Nat.min_le_right _ _, fun i hi => ?_⟩, ⟨h4', fun k hk => by rw [hn] at hk; cases hk⟩, hlo, Nat.le_refl _, Nat.le_refl _⟩
    · have := hB.b0; show lo ≤ min _ _; omega
    · have := hB.mono i j hij; show min _ _ ≤ min _ _; omega
    · obtain ⟨vb, vl, e0, e1, e2, e3, o1, o2, o3⟩ := hB.at_ i hi
      have key : ∀ {v : Value} {xs : List Int}, OwnH w (B i) (B (i + 1)) v xs → OwnH w (min (B i) w.heap.size) (min (B (i + 1)) w.heap.size) v xs := fun {v xs} h => ⟨h.1.mono (Nat.min_le_left _ _), fun k hk => by have h1 := (h.1.lt k hk).2; have h2 := h.2 k hk; omega⟩
      exact ⟨vb, vl, e0, e1, e2, e3, key o1, key o2, o3⟩
theorem OwnH.grownL {lo hi a b : Nat} {w W : World} {v : Value} {xs : List Int} (h : OwnH w lo hi v xs) (hg : GrownL (spanT a b) w W) (hd : hi ≤ a ∨ b ≤ lo) : OwnH W lo hi v xs := by
  refine ⟨?_, h.2⟩
  rcases h.1.nil_or with ⟨rfl, rfl⟩ | ⟨g, c, rfl⟩
  · exact World.ownsRow_nil _ _ _ _
  · have h1 := h.1.lt g rfl
    have h2 := h.2 g rfl
    exact hg.own h.1 fun e => by rw [mem_spanT] at e; omega
theorem SvA.reads {w : World} {lo mid hi k : Nat} {B : Nat → Nat} {vt vs : Value} {raw : List Value} {ts : List Tk} {st : List Int} (h : SvA w lo mid hi B vt vs raw (mkAll k ts) st) (hs : k + tksN ts ≤ 100000000) : TasksR w vt (mkAll k ts) ∧ Ints w vs st := ⟨h.t.marked hs, h.s.1.ints⟩

theorem OwnV.grownL {T size n lo hi a b : Nat} {w W : World} {v : Value} {raw : List Value} (h : OwnV T size w lo v n raw) (hb : ∀ k, v.ownBlock = some k → k < hi) (hg : GrownL (spanT a b) w W) (hd : hi ≤ a ∨ b ≤ lo) : OwnV T size W lo v n raw := by
  refine ⟨h.1, ?_⟩
  rcases h.2 with h1 | ⟨g, cap, cur, rfl, h2, h3, r⟩
  · exact .inl h1
  · refine .inr ⟨g, cap, cur, rfl, h2, ?_, r⟩
    have h4 := hb g rfl
    exact (hg.block g (Array.getElem?_eq_some_iff.1 h3).1 fun e => by rw [mem_spanT] at e; omega).trans h3
theorem TkA.grownL {w W : World} {lo hi a b : Nat} {B : Nat → Nat} {v : Value} {raw : List Value} {ts : List Tk} (h : TkA w lo hi B v raw ts) (hg : GrownL (spanT a b) w W) (hd : hi ≤ a ∨ b ≤ lo) : TkA W lo hi B v raw ts where
  own := h.own.grownL h.vb hg hd
  vb := h.vb
  b0 := h.b0
  mono := h.mono
  b1 := h.b1
  at_ := fun i hi => by
    obtain ⟨vb, vl, e0, e1, e2, e3, o1, o2, o3⟩ := h.at_ i hi
    have h1 := h.b0
    have h2 := h.mono 0 i (Nat.zero_le _)
    have h3 := h.b1 (i + 1)
    exact ⟨vb, vl, e0, e1, e2, e3, o1.grownL hg (by omega), o2.grownL hg (by omega), o3⟩
theorem SvA.grownL {w W : World} {lo mid hi a b : Nat} {B : Nat → Nat} {vt vs : Value} {raw : List Value} {ts : List Tk} {st : List Int} (h : SvA w lo mid hi B vt vs raw ts st) (hg : GrownL (spanT a b) w W) (hd : hi ≤ a ∨ b ≤ lo) : SvA W lo mid hi B vt vs raw ts st where
  t := h.t.grownL hg (by have := h.mh; omega)
  s := h.s.grownL hg (by have := h.lm; omega)
  lm := h.lm
  mh := h.mh
  hs := Nat.le_trans h.hs hg.size
theorem SvA.tasks {w w' : World} {lo mid hi : Nat} {B : Nat → Nat} {vt vs : Value} {raw raw' : List Value} {ts ts' : List Tk} {st : List Int} (h : SvA w lo mid hi B vt vs raw ts st) (ht : TkA w' lo mid B vt raw' ts') (hg : GrownK lo mid w w') : SvA w' lo mid hi B vt vs raw' ts' st ∧ GrownK lo hi w w' :=
  ⟨⟨ht, h.s.grownL hg.1 (.inr (Nat.le_refl _)), h.lm, h.mh, Nat.le_trans h.hs hg.1.size⟩, hg.mono (Nat.le_refl _) h.mh⟩
theorem SvA.starts {w w' : World} {lo mid hi : Nat} {B : Nat → Nat} {vt vs : Value} {raw : List Value} {ts : List Tk} {st st' : List Int} (h : SvA w lo mid hi B vt vs raw ts st) (ho : OwnI w' mid vs st') (hg : w.grownBy w' vs.ownBlock) : SvA w' lo mid hi B vt vs raw ts st' ∧ GrownK lo hi w w' :=
  ⟨⟨h.t.kept hg (fun j e => .inr (h.s.1.lt j e).1), ⟨ho, h.s.2⟩, h.lm, h.mh, Nat.le_trans h.hs hg.size⟩, (GrownK.refl lo hi w).step hg (fun q e => ⟨Nat.le_trans h.lm (h.s.1.lt q e).1, h.s.2 q e⟩) h.s.1.isInt⟩

set_option maxHeartbeats 1000000 in
theorem markSaved_any (nm : ByteArray) (vt vs : Value) (ts : List Tk) (st : List Int) (raw : List Value) (B : Nat → Nat) (k lo mid hi : Nat) (w : World) (h : SvA w lo mid hi B vt vs raw ts st) (hk : 1 ≤ k) (hs : k + tksN ts + st.length ≤ 100000000) :
    Calls Try.prog 45 #[savedV nm vt vs, .int .i64 k] w fun e w' => e = .returned (.int .i64 ((k + tksN ts + st.length : Nat) : Int)) ∧ (∃ raw', SvA w' lo mid hi B vt vs raw' (mkAll k ts) (marks ((k + tksN ts : Nat) : Int) st.length)) ∧ GrownL (spanT lo hi) w w' := by
  obtain ⟨W1, hW1⟩ : ∃ W, w.alloc (.cells #[.string nm, vt, vs] 44) = W := ⟨_, rfl⟩
  have h1 : SvA W1 lo mid hi B vt vs raw ts st := by rw [← hW1]; exact h.kept (grown_alloc w _ none) (fun j e => by cases e)
  have k1 : Blk W1 w.heap.size 44 [.string nm, vt, vs] := by rw [← hW1]; exact Blk.new w _ _
  have g1 : GrownL (spanT lo hi) w W1 := by rw [← hW1]; exact (GrownL.refl _ w).alloc _
  have hhs := h.hs
  have HM1 := Lib.hid (markTaskS_any vt ts raw B k lo mid W1 h1.t hk (by omega))
  obtain ⟨K, hK⟩ : ∃ K, k + tksN ts = K := ⟨_, rfl⟩
  rw [hK] at HM1 hs ⊢
  have H1 := Lib.hid (And.intro h1 (And.intro k1 g1))
  have c1 := k1.cell 1 _ rfl
  obtain ⟨ta, tl, tc, rfl⟩ := h.t.own.form
  obtain ⟨sa, sl, sc, rfl⟩ := h.s.1.form
  clear h1 k1 g1 h
  unfold savedV
  go_enter Try.func45, Try.ntmps45
  go_wp2_with fail
  refine HM1.out.mono ?_
  rintro e W2 ⟨rfl, ⟨raw2, ht2⟩, hg2⟩
  obtain ⟨h1, k1, g1⟩ := H1.out
  obtain ⟨h2, hg2'⟩ := h1.tasks ht2 hg2
  have hb : w.heap.size ∉ spanT lo hi := fun e => by rw [mem_spanT] at e; omega
  have k2 := k1.grownL hg2'.1 hb
  have c2 := k2.cell 2 _ rfl
  have HM2 := Lib.hid (markInt64S_any (.slice sa sl sc) st (K : Int) mid W2 h2.s.1 (by omega) (by omega) (by omega))
  have H2 := Lib.hid (And.intro h2 (g1.trans hg2'.1))
  clear h1 k1 g1 hb k2 ht2 hg2 hg2' H1 HM1 h2
  go_wp2_with fail
  refine HM2.out.mono ?_
  rintro e W3 ⟨rfl, ho3, hg3⟩
  have H3 := Lib.hid (H2.out.1.starts ho3 hg3)
  have HG : Hid (GrownL (spanT lo hi) w W3) := H2.out.2.trans H3.out.2.1
  clear ho3 hg3 H2 HM2
  go_wp2
  go_ret
  exact ⟨ret_int (by push_cast; rfl), ⟨raw2, H3.out.1⟩, HG.out⟩

set_option maxHeartbeats 1000000 in
theorem heldSaved_any (nm : ByteArray) (vt vs : Value) (ts : List Tk) (n : Nat) (k : Nat) (w : World) (ht : TasksR w vt (mkAll k ts)) (hv : Ints w vs (marks ((k + tksN ts : Nat) : Int) n)) (hk : 1 ≤ k) (hs : k + tksN ts + n ≤ 100000000) :
    Calls Try.prog 46 #[savedV nm vt vs, .int .i64 k] w fun e w' => e = .returned (.int .i64 ((k + tksN ts + n : Nat) : Int)) ∧ Below w.heap.size w w' := by
  obtain ⟨W1, hW1⟩ : ∃ W, w.alloc (.cells #[.string nm, vt, vs] 44) = W := ⟨_, rfl⟩
  have hb1 : Below w.heap.size w W1 := by rw [← hW1]; exact (Below.refl _ w).alloc (Nat.le_refl _) _
  have k1 : Blk W1 w.heap.size 44 [.string nm, vt, vs] := by rw [← hW1]; exact Blk.new w _ _
  have HM1 := Lib.hid (heldTaskS_any vt ts k W1 (ht.below hb1 (Nat.le_refl _)) hk (by omega))
  have HM2 := Lib.hid (heldInt64S_any vs ((k + tksN ts : Nat) : Int) n W1 (hv.below hb1 (Nat.le_refl _)) (by omega) (by omega) (by omega))
  obtain ⟨K, hK⟩ : ∃ K, k + tksN ts = K := ⟨_, rfl⟩
  rw [hK] at HM1 HM2 hs ⊢
  have c1 := k1.cell 1 _ rfl
  have c2 := k1.cell 2 _ rfl
  have HB := Lib.hid hb1
  obtain ⟨tn, t1, t2, rfl⟩ : ∃ tn t1 t2, vt = .slice t1 tn t2 := by obtain ⟨_, t1, t2, h, _⟩ := ht; exact ⟨_, t1, t2, h⟩
  obtain ⟨sn, s1, s2, rfl⟩ : ∃ tn t1 t2, vs = .slice t1 tn t2 := by obtain ⟨_, t1, t2, h, _⟩ := hv; exact ⟨_, t1, t2, h⟩
  have n1 : ¬ (K : Int) < 0 := by omega
  have n2 : ¬ (K : Int) + (n : Int) < 0 := by omega
  clear k1 hb1 ht hv
  unfold savedV
  go_enter Try.func46, Try.ntmps46
  go_wp2_with (first
    | (go_at_call 107; refine HM1.out.mono ?_; rintro e W2 ⟨rfl, rfl⟩)
    | (go_at_call 108; refine HM2.out.mono ?_; rintro e W2 ⟨rfl, rfl⟩))
  go_ret
  exact ⟨ret_int (by push_cast; rfl), HB.out⟩
end Go.Proofs.Ytmhepomjbaendaa

namespace Go.Proofs.Ytmhepomjbaendaa
open Go.RowKit Go.BigFrame
set_option linter.unusedVariables false
set_option linter.unusedSimpArgs false

theorem tksN_le (c : Nat) (ts : List Tk) (h : ∀ t ∈ ts, tkN t ≤ c) : tksN ts ≤ c * ts.length := by
  induction ts with
  | nil => simp [tksN]
  | cons x l ih =>
    have h1 := h x (by simp)
    have h2 := ih fun t ht => h t (by simp [ht])
    simp only [tksN, List.map_cons, List.sum_cons, List.length_cons] at h2 ⊢
    rw [Nat.mul_add]; omega
theorem tsk_even (s : ByteArray) (st : St) : ∀ k, ∀ t ∈ (tsk s st k).1, t.2.2.1.length = t.2.2.2.length
  | 0 => fun t h => by simp [tsk] at h
  | k + 1 => fun t h => by
    have ih := tsk_even s st k
    simp only [tsk, List.mem_append, List.mem_singleton] at h
    rcases h with h | rfl
    · exact ih t h
    · have := prs_len s (nx s 1 (nx s 1 (nx s 1 (tsk s st k).2))) (byV s (nx s 1 (nx s 1 (tsk s st k).2))).toNat
      simp only
      omega
theorem gotX_even (s : ByteArray) : ∀ t ∈ (gotX s).2.1, t.2.2.1.length = t.2.2.2.length := by
  cases h : gotB s
  · rw [(got_no h).1]; intro t ht; simp at ht
  · rw [(got_yes h).1]; exact tsk_even s _ _
theorem ldX_even (s : ByteArray) : ∀ t ∈ (ldX s).2.1, t.2.2.1.length = t.2.2.2.length := by
  unfold ldX
  split
  · exact gotX_even s
  · intro t ht; simp at ht
theorem SvW.small {x : Sv} (h : SvW x) (he : ∀ t ∈ x.2.1, t.2.2.1.length = t.2.2.2.length) : tksN x.2.1 + x.2.2.length ≤ 200000 := by
  obtain ⟨_, h2, h3, _, h5⟩ := h
  have h6 := tksN_le 512 x.2.1 fun t ht => by
    obtain ⟨_, _, _, _, h⟩ := h3 t ht
    have := he t ht
    unfold tkN; omega
  have : 512 * x.2.1.length ≤ 512 * 255 := Nat.mul_le_mul_left _ h2
  omega
theorem OwnSv.forms {w : World} {lo : Nat} {vt vs : Value} {x : Sv} (h : OwnSv w lo vt vs x) : (∃ a l c, vt = .slice a l c) ∧ ∃ a l c, vs = .slice a l c := by
  obtain ⟨raw, mid, h1, _, _, h4, _⟩ := h
  exact ⟨h1.form, h4.form⟩

set_option maxRecDepth 100000 in
set_option maxHeartbeats 4000000 in
theorem walkFnExactLoadSaved (a0 : ByteArray) (w : World) (w0 : a0.size ≤ maxLen) :
    Calls Try.prog 7 #[.string a0] w fun e w' => e = .returned (.bool true) ∧ Below w.heap.size w w' := by
  by_cases hbig : 1048576 < a0.size
  · go_enter Try.func7, Try.ntmps7
    go_wp2
    go_ret
    exact ⟨rfl, Below.refl _ _⟩
  have hs : a0.size ≤ 1048576 := by omega
  have HC1 := Lib.hid (specLoad_any a0 w hs)
  have HC2 : Hid (∀ W, Calls Try.prog 24 #[.string a0] W fun e w' => (∃ vt vs, e = .returned (.tuple #[savedV (ldX a0).1 vt vs, .bool (ldB a0)]) ∧ OwnSv w' W.heap.size vt vs (ldX a0)) ∧ Below W.heap.size W w') := fun W => implLoad_any a0 W hs
  have HW := Lib.hid (ldX_w hs)
  have HEV := Lib.hid (ldX_even a0)
  obtain ⟨Bk, hBk⟩ : ∃ B, ldB a0 = B := ⟨_, rfl⟩
  obtain ⟨⟨nm, ts, st⟩, hX⟩ : ∃ X, ldX a0 = X := ⟨_, rfl⟩
  rw [hBk, hX] at HC1 HC2
  rw [hX] at HW HEV
  have HSM : Hid (tksN ts + st.length ≤ 200000) := HW.out.small HEV.out
  clear hBk hX
  unfold savedV at HC1 HC2
  obtain ⟨S, hS⟩ : ∃ S, 1 + tksN ts + st.length = S := ⟨_, rfl⟩
  have hSb : S ≤ 200001 := by have := HSM.out; omega
  have HS := Lib.hid hS
  clear hS
  go_enter Try.func7, Try.ntmps7
  go_wp2_with fail
  refine HC1.out.mono ?_
  rintro e W1 ⟨⟨ut, us, rfl, hu⟩, hb1⟩
  have HU : Hid (∀ W, Below W1.heap.size W1 W → TasksR W ut ts ∧ Ints W us st) := fun W hW => by
    have := (hu.below hW).reads HW.out
    exact ⟨this.1, this.2.ints.1⟩
  obtain ⟨⟨ua, ul, uc, rfl⟩, vua, vul, vuc, rfl⟩ := hu.forms
  have HB1 := Lib.hid hb1
  clear hu hb1 HC1
  obtain ⟨W1a, hW1a⟩ : ∃ W, W1.alloc (.cells #[.string nm, .slice ua ul uc, .slice vua vul vuc] 44) = W := ⟨_, rfl⟩
  have hb1a : Below W1.heap.size W1 W1a := by rw [← hW1a]; exact (Below.refl _ _).alloc (Nat.le_refl _) _
  have K1 : Blk W1a W1.heap.size 44 [.string nm, .slice ua ul uc, .slice vua vul vuc] := by rw [← hW1a]; exact Blk.new W1 _ _
  obtain ⟨P, hP⟩ : ∃ P, W1.heap.size = P := ⟨_, rfl⟩
  rw [hP] at K1 hb1a HU
  have HK1 := Lib.hid (And.intro K1 hb1a)
  have HC := Lib.hid (HC2.out W1a)
  clear K1 hb1a
  go_wp2_with fail
  refine HC.out.mono ?_
  rintro e W2 ⟨⟨vt, vs, rfl, hv⟩, hb2⟩
  obtain ⟨K1, hb1a⟩ := HK1.out
  obtain ⟨mid, B, raw, hsv⟩ := SvA.of hv hb2.size
  obtain ⟨⟨va, vl, vc, rfl⟩, wa, wl, wc, rfl⟩ := hv.forms
  have K2 := K1.below hb2 K1.lt
  have hp2 : Below P W1 W2 := hb1a.trans (hb2.mono (by have := K1.lt; omega))
  obtain ⟨L, hL⟩ : ∃ L, W1a.heap.size = L := ⟨_, rfl⟩
  obtain ⟨H, hH⟩ : ∃ L, W2.heap.size = L := ⟨_, rfl⟩
  rw [hL, hH] at hsv
  have hPL : P < L := by have := K1.lt; omega
  have hLH : L ≤ H := by have := hb2.size; omega
  obtain ⟨W2a, hW2a⟩ : ∃ W, W2.alloc (.cells #[.string nm, .slice va vl vc, .slice wa wl wc] 44) = W := ⟨_, rfl⟩
  have sv2 : SvA W2a L mid H B (.slice va vl vc) (.slice wa wl wc) raw ts st := by rw [← hW2a]; exact hsv.kept (grown_alloc _ _ none) (fun k e => by cases e)
  have K2a : Blk W2a P 44 [.string nm, .slice ua ul uc, .slice vua vul vuc] := by rw [← hW2a]; exact K2.alloc _
  have G2a : Blk W2a H 44 [.string nm, .slice va vl vc, .slice wa wl wc] := by rw [← hW2a, ← hH]; exact Blk.new W2 _ _
  have hp2a : Below P W1 W2a := by rw [← hW2a]; exact hp2.alloc (by omega) _
  have hv2 : TasksR W2a (.slice va vl vc) ts ∧ Ints W2a (.slice wa wl wc) st := by
    rw [← hW2a]
    have := (hv.below (W := W2.alloc (.cells #[.string nm, .slice va vl vc, .slice wa wl wc] 44)) ((Below.refl _ _).alloc (Nat.le_refl _) _)).reads HW.out
    exact ⟨this.1, this.2.ints.1⟩
  have HEQ := Lib.hid (eqSaved_same nm (.slice va vl vc) (.slice wa wl wc) (.slice ua ul uc) (.slice vua vul vuc) ts st W2a hv2.1 hv2.2 (HU.out _ hp2a).1 (HU.out _ hp2a).2)
  unfold savedV at HEQ
  have d0 := K2a.cell 0 _ rfl
  have d1 := K2a.cell 1 _ rfl
  have d2 := K2a.cell 2 _ rfl
  have e0 := G2a.cell 0 _ rfl
  have e1 := G2a.cell 1 _ rfl
  have e2 := G2a.cell 2 _ rfl
  have HK2 := Lib.hid (And.intro sv2 (And.intro K2a (And.intro G2a hp2a)))
  have HLT := Lib.hid (And.intro hPL hLH)
  have hbb : (Bk != Bk) = false := by simp
  clear hv hsv K1 hb1a K2 hp2 sv2 K2a G2a hp2a hv2 HK1 HC hb2 hPL hLH
  go_wp2_with fail
  refine HEQ.out.mono ?_
  rintro e W3 ⟨rfl, hb3⟩
  obtain ⟨sv2, K2a, G2a, hp2a⟩ := HK2.out
  have sv3 := sv2.below hb3
  have K3 := K2a.below hb3 K2a.lt
  have G3 := G2a.below hb3 G2a.lt
  have hp3 : Below P W1 W3 := hp2a.trans (hb3.mono (by have := K2a.lt; omega))
  have HM := Lib.hid (markSaved_any nm (.slice va vl vc) (.slice wa wl wc) ts st raw B 1 L mid H W3 sv3 (Nat.le_refl _) (by have := HS.out; omega))
  rw [HS.out] at HM
  unfold savedV at HM
  have HK3 := Lib.hid (And.intro K3 (And.intro G3 hp3))
  clear d0 d1 d2 e0 e1 e2 sv2 K2a G2a hp2a sv3 hb3 HK2 HEQ
  have e0 := G3.cell 0 _ rfl
  have e1 := G3.cell 1 _ rfl
  have e2 := G3.cell 2 _ rfl
  clear K3 G3 hp3
  go_wp2_with fail
  refine HM.out.mono ?_
  rintro e W4 ⟨rfl, ⟨raw4, sv4⟩, hg4⟩
  obtain ⟨K3, G3, hp3⟩ := HK3.out
  have hPL := HLT.out.1
  have hLH := HLT.out.2
  have K4 := K3.grownL hg4 (fun e => by rw [mem_spanT] at e; omega)
  have G4 := G3.grownL hg4 (fun e => by rw [mem_spanT] at e; omega)
  have hp4 : Below P W1 W4 := hg4.toBelow hp3 (by have := K3.lt; omega) (fun i hi e => by rw [mem_spanT] at e; omega)
  have hsm : 1 + tksN ts ≤ 100000000 := by have := HS.out; omega
  have hr4 := sv4.reads hsm
  have HH := Lib.hid (heldSaved_any nm (.slice va vl vc) (.slice wa wl wc) ts st.length 1 W4 hr4.1 hr4.2 (Nat.le_refl _) (by have := HS.out; omega))
  rw [HS.out] at HH
  unfold savedV at HH
  have HK4 := Lib.hid (And.intro sv4 (And.intro K4 (And.intro G4 hp4)))
  clear e0 e1 e2 K3 G3 hp3 HK3 hg4 sv4 HM hr4 hPL hLH hsm
  have e0 := G4.cell 0 _ rfl
  have e1 := G4.cell 1 _ rfl
  have e2 := G4.cell 2 _ rfl
  clear K4 G4 hp4
  have n1 : ¬ (S : Int) < 0 := by omega
  go_wp2_with fail
  refine HH.out.mono ?_
  rintro e W5 ⟨rfl, hb5⟩
  obtain ⟨sv4, K4, G4, hp4⟩ := HK4.out
  have sv5 := sv4.below hb5
  have K5 := K4.below hb5 K4.lt
  have G5 := G4.below hb5 G4.lt
  have hp5 : Below P W1 W5 := hp4.trans (hb5.mono (by have := K4.lt; omega))
  have HK5 := Lib.hid (And.intro sv5 (And.intro K5 (And.intro G5 hp5)))
  have HC5 := Lib.hid (HC2.out W5)
  clear sv4 K4 G4 hp4 hb5 sv5 K5 G5 hp5 HK4 HH e0 e1 e2
  go_wp2_with fail
  refine HC5.out.mono ?_
  rintro e W6 ⟨⟨yt, ys, rfl, hy⟩, hb6⟩
  obtain ⟨sv5, K5, G5, hp5⟩ := HK5.out
  have sv6 := sv5.below hb6
  have K6 := K5.below hb6 K5.lt
  have G6 := G5.below hb6 G5.lt
  have hp6 : Below P W1 W6 := hp5.trans (hb6.mono (by have := K5.lt; omega))
  obtain ⟨⟨ya, yl, yc, rfl⟩, za, zl, zc, rfl⟩ := hy.forms
  obtain ⟨W6a, hW6a⟩ : ∃ W, W6.alloc (.cells #[.string nm, .slice ya yl yc, .slice za zl zc] 44) = W := ⟨_, rfl⟩
  obtain ⟨Q, hQ⟩ : ∃ L, W6.heap.size = L := ⟨_, rfl⟩
  have hb6a : Below W6.heap.size W6 W6a := by rw [← hW6a]; exact (Below.refl _ _).alloc (Nat.le_refl _) _
  have Y6a : Blk W6a Q 44 [.string nm, .slice ya yl yc, .slice za zl zc] := by rw [← hW6a, ← hQ]; exact Blk.new W6 _ _
  have hy6 := (hy.below hb6a).reads HW.out
  have sv6a := sv6.below hb6a
  have K6a := K6.below hb6a K6.lt
  have G6a := G6.below hb6a G6.lt
  have hp6a : Below P W1 W6a := hp6.trans (hb6a.mono (by have := K6.lt; omega))
  have HEQ := Lib.hid (eqSaved_same nm (.slice ya yl yc) (.slice za zl zc) (.slice ua ul uc) (.slice vua vul vuc) ts st W6a hy6.1 hy6.2.ints.1 (HU.out _ hp6a).1 (HU.out _ hp6a).2)
  unfold savedV at HEQ
  have d0 := K6a.cell 0 _ rfl
  have d1 := K6a.cell 1 _ rfl
  have d2 := K6a.cell 2 _ rfl
  have y0 := Y6a.cell 0 _ rfl
  have y1 := Y6a.cell 1 _ rfl
  have y2 := Y6a.cell 2 _ rfl
  have HK6 := Lib.hid (And.intro sv6a (And.intro G6a hp6a))
  clear sv5 K5 G5 hp5 sv6 K6 G6 hp6 hb6 hb6a hy hy6 sv6a K6a G6a hp6a Y6a HK5 HC5
  go_wp2_with fail
  refine HEQ.out.mono ?_
  rintro e W7 ⟨rfl, hb7⟩
  obtain ⟨sv6a, G6a, hp6a⟩ := HK6.out
  have sv7 := sv6a.below hb7
  have G7 := G6a.below hb7 G6a.lt
  have hp7 : Below P W1 W7 := hp6a.trans (hb7.mono (by have := G6a.lt; have := HLT.out; omega))
  have hsm : 1 + tksN ts ≤ 100000000 := by have := HS.out; omega
  have hr7 := sv7.reads hsm
  have HH := Lib.hid (heldSaved_any nm (.slice va vl vc) (.slice wa wl wc) ts st.length 1 W7 hr7.1 hr7.2 (Nat.le_refl _) (by have := HS.out; omega))
  rw [HS.out] at HH
  unfold savedV at HH
  have e0 := G7.cell 0 _ rfl
  have e1 := G7.cell 1 _ rfl
  have e2 := G7.cell 2 _ rfl
  have HP7 := Lib.hid (And.intro hp7 hP)
  clear d0 d1 d2 y0 y1 y2 sv6a G6a hp6a sv7 G7 hp7 hb7 HK6 HEQ hsm hr7
  go_wp2_with fail
  refine HH.out.mono ?_
  rintro e W8 ⟨rfl, hb8⟩
  obtain ⟨hp7, hP'⟩ := HP7.out
  have HFIN : Hid (Below w.heap.size w W8) := by
    have h1 := HB1.out.trans (hp7.mono (by rw [← hP']; exact HB1.out.size))
    exact h1.trans (hb8.mono h1.size)
  clear hp7 hP' HP7 hb8 e0 e1 e2
  go_wp2
  go_ret
  exact ⟨rfl, HFIN.out⟩
end Go.Proofs.Ytmhepomjbaendaa

namespace Go.Proofs.Ytmhepomjbaendaa
open Go.RowKit Go.Shelf Go.BigFrame
set_option linter.unusedVariables false
set_option linter.unusedSimpArgs false

theorem OwnH.keptV {T size n B lo hi : Nat} {w w' : World} {u v : Value} {rw : List Value} {xs : List Int} (h : OwnH w lo hi v xs) (hu : OwnV T size w B u n rw) (ht : T ≠ 2) (hg : w.grownBy w' u.ownBlock) : OwnH w' lo hi v xs := ⟨h.1.keptV hu ht hg, h.2⟩
theorem SvA.keptV {T size n N lo mid hi : Nat} {w w' : World} {B : Nat → Nat} {u vt vs : Value} {rw raw : List Value} {ts : List Tk} {st : List Int} (h : SvA w lo mid hi B vt vs raw ts st) (hu : OwnV T size w N u n rw) (h1 : T ≠ 2) (h2 : T ≠ 86) (hg : w.grownBy w' u.ownBlock) : SvA w' lo mid hi B vt vs raw ts st where
  t := {
    own := OwnV.keptV (show OwnV _ _ _ _ _ _ _ from h.t.own) hu (fun e => h2 e.symm) hg
    vb := h.t.vb
    b0 := h.t.b0
    mono := h.t.mono
    b1 := h.t.b1
    at_ := fun i hi => by
      obtain ⟨vb, vl, e0, e1, e2, e3, o1, o2, o3⟩ := h.t.at_ i hi
      exact ⟨vb, vl, e0, e1, e2, e3, o1.keptV hu h1 hg, o2.keptV hu h1 hg, o3⟩ }
  s := h.s.keptV hu h1 hg
  lm := h.lm
  mh := h.mh
  hs := Nat.le_trans h.hs hg.size
theorem SvA.wide {w : World} {lo mid hi lo' hi' : Nat} {B : Nat → Nat} {vt vs : Value} {raw : List Value} {ts : List Tk} {st : List Int} (h : SvA w lo mid hi B vt vs raw ts st) (h1 : lo' ≤ lo) (h2 : hi ≤ hi') (h3 : hi' ≤ w.heap.size) : SvA w lo' mid hi' B vt vs raw ts st where
  t := ⟨h.t.own.mono h1, h.t.vb, Nat.le_trans h1 h.t.b0, h.t.mono, h.t.b1, h.t.at_⟩
  s := ⟨h.s.1, fun k e => Nat.lt_of_lt_of_le (h.s.2 k e) h2⟩
  lm := Nat.le_trans h1 h.lm
  mh := Nat.le_trans h.mh h2
  hs := h3
/-- The cells and rows of plan i. -/
def SvAt (w : World) (l u : Nat) (raw : List Value) (i : Nat) (x : Sv) : Prop := ∃ vt vs mid B rw, raw[i * 3]? = some (.string x.1) ∧ raw[i * 3 + 1]? = some vt ∧ raw[i * 3 + 2]? = some vs ∧ SvA w l mid u B vt vs rw x.2.1 x.2.2
theorem SvAt.raw_ {w : World} {l u i : Nat} {raw raw' : List Value} {x : Sv} (h : SvAt w l u raw i x) (hr : ∀ j, j < 3 → raw'[i * 3 + j]? = raw[i * 3 + j]?) : SvAt w l u raw' i x := by
  obtain ⟨vt, vs, mid, B, rw, e0, e1, e2, r⟩ := h
  exact ⟨vt, vs, mid, B, rw, (hr 0 (by omega)).trans e0, (hr 1 (by omega)).trans e1, (hr 2 (by omega)).trans e2, r⟩
theorem SvAt.keptV {T size n N l u i : Nat} {w w' : World} {v : Value} {rw raw : List Value} {x : Sv} (h : SvAt w l u raw i x) (hu : OwnV T size w N v n rw) (h1 : T ≠ 2) (h2 : T ≠ 86) (hg : w.grownBy w' v.ownBlock) : SvAt w' l u raw i x := by
  obtain ⟨vt, vs, mid, B, rw, e0, e1, e2, r⟩ := h
  exact ⟨vt, vs, mid, B, rw, e0, e1, e2, r.keptV hu h1 h2 hg⟩
theorem SvAt.below {w W : World} {l u i : Nat} {raw : List Value} {x : Sv} (h : SvAt w l u raw i x) (hb : Below w.heap.size w W) : SvAt W l u raw i x := by
  obtain ⟨vt, vs, mid, B, rw, e0, e1, e2, r⟩ := h
  exact ⟨vt, vs, mid, B, rw, e0, e1, e2, r.below hb⟩
structure SvsA (w : World) (lo hi : Nat) (P : Nat → Nat) (v : Value) (raw : List Value) (xs : List Sv) : Prop where
  own : OwnV 44 3 w lo v xs.length raw
  vb : ∀ j, v.ownBlock = some j → j < hi
  p0 : lo ≤ P 0
  mono : ∀ i j, i ≤ j → P i ≤ P j
  p1 : ∀ i, P i ≤ hi
  hs : hi ≤ w.heap.size
  at_ : ∀ i (h : i < xs.length), SvAt w (P i) (P (i + 1)) raw i xs[i]
theorem SvsA.below {w W : World} {lo hi : Nat} {P : Nat → Nat} {v : Value} {raw : List Value} {xs : List Sv} (h : SvsA w lo hi P v raw xs) (hb : Below w.heap.size w W) : SvsA W lo hi P v raw xs where
  own := h.own.below hb (Nat.le_refl _)
  vb := h.vb
  p0 := h.p0
  mono := h.mono
  p1 := h.p1
  hs := Nat.le_trans h.hs hb.size
  at_ := fun i hi => (h.at_ i hi).below hb
/-- One more plan, whose rows were made last. -/
theorem SvsA.snoc {w : World} {lo hi : Nat} {P : Nat → Nat} {v u : Value} {raw : List Value} {xs : List Sv} {vt vs : Value} {x : Sv} {l mid B rw} (h : ∀ i (h : i < xs.length), SvAt w (P i) (P (i + 1)) raw i xs[i]) (p0 : lo ≤ P 0) (mono : ∀ i j, i ≤ j → P i ≤ P j) (p1 : ∀ i, P i ≤ l) (hlen : raw.length = xs.length * 3)
    (hx : SvA w l mid hi B vt vs rw x.2.1 x.2.2) :
    ∃ P' : Nat → Nat, lo ≤ P' 0 ∧ (∀ i j, i ≤ j → P' i ≤ P' j) ∧ (∀ i, P' i ≤ hi) ∧ ∀ i (h : i < (xs ++ [x]).length), SvAt w (P' i) (P' (i + 1)) (raw ++ [.string x.1, vt, vs]) i (xs ++ [x])[i] := by
  have hlh : l ≤ hi := Nat.le_trans hx.lm hx.mh
  refine ⟨fun i => if i ≤ xs.length then P i else hi, ?_, fun i j hij => ?_, fun i => ?_, fun i hi' => ?_⟩
  · simp; exact p0
  · by_cases h : j ≤ xs.length
    · simp only [h, show i ≤ xs.length by omega, if_true]; exact mono i j hij
    · simp only [h, if_false]
      show (if i ≤ xs.length then P i else hi) ≤ hi
      split
      · have := p1 i; omega
      · exact Nat.le_refl _
  · show (if i ≤ xs.length then P i else hi) ≤ hi
    split
    · have := p1 i; omega
    · exact Nat.le_refl _
  · rw [List.length_append, List.length_singleton] at hi'
    by_cases hl : i < xs.length
    · simp only [show i ≤ xs.length by omega, show i + 1 ≤ xs.length by omega, if_true]
      rw [List.getElem_append_left hl]
      exact (h i hl).raw_ fun j hj => List.getElem?_append_left (by omega)
    · obtain rfl : i = xs.length := by omega
      simp only [Nat.le_refl, if_true, show ¬ xs.length + 1 ≤ xs.length by omega, if_false]
      rw [List.getElem_append_right (Nat.le_refl _)]
      simp only [Nat.sub_self, List.getElem_singleton]
      refine ⟨vt, vs, mid, B, rw, ?_, ?_, ?_, hx.wide (p1 _) (Nat.le_refl _) hx.hs⟩
      · rw [List.getElem?_append_right (by omega), show xs.length * 3 - raw.length = 0 by omega]; rfl
      · rw [List.getElem?_append_right (by omega), show xs.length * 3 + 1 - raw.length = 1 by omega]; rfl
      · rw [List.getElem?_append_right (by omega), show xs.length * 3 + 2 - raw.length = 2 by omega]; rfl
theorem SvsA.put {w : World} {lo hi : Nat} {P : Nat → Nat} {g n c : Nat} {raw : List Value} {xs : List Sv} (h : SvsA w lo hi P (.slice (some ⟨g, 0, none⟩) n c) raw xs) (hn : n = xs.length) (i : Nat) (hi' : i < xs.length) (y : ByteArray) :
    SvsA (w.setCell ⟨g, i * 3, none⟩ (.string y)) lo hi P (.slice (some ⟨g, 0, none⟩) n c) (raw.set (i * 3) (.string y)) (xs.set i (y, xs[i].2)) ∧ w.grownBy (w.setCell ⟨g, i * 3, none⟩ (.string y)) (some g) ∧ w.frozen? ⟨g, i * 3, none⟩ = false ∧
    ∃ vt vs, w.cell? ⟨g, i * 3, none⟩ = some (.string xs[i].1) ∧ w.cell? ⟨g, i * 3 + 1, none⟩ = some vt ∧ w.cell? ⟨g, i * 3 + 2, none⟩ = some vs := by
  subst hn
  have hlen := h.own.length
  obtain ⟨c0, f0, o0, g0⟩ := h.own.store (i * 3) (by omega) (.string y)
  obtain ⟨c1, _⟩ := h.own.store (i * 3 + 1) (by omega) (.bool true)
  obtain ⟨c2, _⟩ := h.own.store (i * 3 + 2) (by omega) (.bool true)
  have key : ∀ k (hk : k < xs.length), SvAt (w.setCell ⟨g, i * 3, none⟩ (.string y)) (P k) (P (k + 1)) raw k xs[k] := fun k hk => (h.at_ k hk).keptV h.own (by decide) (by decide) g0
  refine ⟨⟨by rw [List.length_set]; exact o0, h.vb, h.p0, h.mono, h.p1, Nat.le_trans h.hs g0.size, fun k hk => ?_⟩, g0, f0, ?_⟩
  · have hk' : k < xs.length := by rw [List.length_set] at hk; exact hk
    by_cases hik : k = i
    · subst hik
      rw [List.getElem_set_self]
      obtain ⟨vt, vs, mid, B, rw, e0, e1, e2, r⟩ := key k hk'
      exact ⟨vt, vs, mid, B, rw, List.getElem?_set_self (by omega), by rw [List.getElem?_set_ne (by omega)]; exact e1, by rw [List.getElem?_set_ne (by omega)]; exact e2, r⟩
    · rw [List.getElem_set_ne (fun e => hik e.symm)]
      exact (key k hk').raw_ fun j hj => by rw [List.getElem?_set_ne (by omega)]
  · obtain ⟨vt, vs, mid, B, rw', e0, e1, e2, r⟩ := h.at_ i hi'
    refine ⟨vt, vs, ?_, ?_, ?_⟩
    · rw [List.getElem?_eq_getElem (by omega)] at e0; rw [c0]; exact e0
    · rw [List.getElem?_eq_getElem (by omega)] at e1; rw [c1]; exact e1
    · rw [List.getElem?_eq_getElem (by omega)] at e2; rw [c2]; exact e2
theorem OwnV.grownK {T size n lo a b : Nat} {w W : World} {v : Value} {raw : List Value} (h : OwnV T size w lo v n raw) (hg : GrownK a b w W) (h1 : T ≠ 2) (h2 : T ≠ 86) : OwnV T size W lo v n raw := by
  refine ⟨h.1, ?_⟩
  rcases h.2 with h3 | ⟨g, cap, cur, rfl, h3, h4, r⟩
  · exact .inl h3
  · exact .inr ⟨g, cap, cur, rfl, h3, (hg.2 _ _ _ _ h4 h2 h1).trans h4, r⟩
/-- The rows of plan i are written. -/
theorem SvsA.row {w : World} {lo hi : Nat} {P : Nat → Nat} {g n c : Nat} {raw : List Value} {xs : List Sv} (h : SvsA w lo hi P (.slice (some ⟨g, 0, none⟩) n c) raw xs) (hn : n = xs.length) (i : Nat) (hi' : i < xs.length) (vt vs : Value) (c1 : w.cell? ⟨g, i * 3 + 1, none⟩ = some vt) (c2 : w.cell? ⟨g, i * 3 + 2, none⟩ = some vs) :
    ∃ mid B rw, SvA w (P i) mid (P (i + 1)) B vt vs rw xs[i].2.1 xs[i].2.2 ∧ (∀ w', GrownK (P i) (P (i + 1)) w w' → w'.cell? ⟨g, i * 3 + 2, none⟩ = some vs) ∧
      ∀ w' rw' ts' st', SvA w' (P i) mid (P (i + 1)) B vt vs rw' ts' st' → GrownK (P i) (P (i + 1)) w w' → SvsA w' lo hi P (.slice (some ⟨g, 0, none⟩) n c) raw (xs.set i (xs[i].1, ts', st')) := by
  subst hn
  have hlen := h.own.length
  obtain ⟨d1, _⟩ := h.own.store (i * 3 + 1) (by omega) (.bool true)
  obtain ⟨d2, _⟩ := h.own.store (i * 3 + 2) (by omega) (.bool true)
  obtain ⟨vt', vs', mid, B, rw', e0, e1, e2, r⟩ := h.at_ i hi'
  obtain rfl : vt' = vt := by
    rw [List.getElem?_eq_getElem (by omega)] at e1
    rw [c1] at d1
    exact Option.some.inj (e1.symm.trans d1.symm)
  obtain rfl : vs' = vs := by
    rw [List.getElem?_eq_getElem (by omega)] at e2
    rw [c2] at d2
    exact Option.some.inj (e2.symm.trans d2.symm)
  refine ⟨mid, B, rw', r, fun w' hg => ?_, fun w' rw2 ts' st' hx hg => ?_⟩
  · have h1 := (show OwnV _ _ _ _ (.slice (some ⟨g, 0, none⟩) xs.length c) xs.length raw from h.own).grownK hg (by decide) (by decide)
    obtain ⟨d3, _⟩ := h1.store (i * 3 + 2) (by omega) (.bool true)
    rw [d3, ← d2]; exact c2
  · have hm := h.mono
    refine ⟨by rw [List.length_set]; exact (show OwnV _ _ _ _ (.slice (some ⟨g, 0, none⟩) xs.length c) xs.length raw from h.own).grownK hg (by decide) (by decide), h.vb, h.p0, h.mono, h.p1, Nat.le_trans h.hs hg.1.size, fun k hk => ?_⟩
    rw [List.length_set] at hk
    by_cases hik : k = i
    · subst hik
      rw [List.getElem_set_self]
      exact ⟨_, _, mid, B, rw2, e0, e1, e2, hx⟩
    · rw [List.getElem_set_ne (fun e => hik e.symm)]
      obtain ⟨vt, vs, mid, B, rw', e0, e1, e2, r⟩ := h.at_ k hk
      refine ⟨vt, vs, mid, B, rw', e0, e1, e2, r.grownL hg.1 ?_⟩
      rcases Nat.lt_or_gt_of_ne hik with h3 | h3
      · exact .inl (hm (k + 1) i (by omega))
      · exact .inr (hm (i + 1) k (by omega))

theorem GrownL.spanned {lo hi : Nat} {w W W' : World} {row : Option Nat} (h : GrownL (spanT lo hi) w W) (hg : W.grownBy W' row) (hr : ∀ k, row = some k → lo ≤ k ∧ k < hi) : GrownL (spanT lo hi) w W' := h.grown hg fun j e => .inl (mem_spanT.2 (hr j e))
def svN (x : Sv) : Nat := 1 + tksN x.2.1 + x.2.2.length
def mkIy (k : Nat) (xs : List Sv) (i : Nat) : Nat := k + ((xs.take i).map svN).sum
def svsN (xs : List Sv) : Nat := (xs.map svN).sum
theorem mkIy_zero (k : Nat) (ts : List Sv) : mkIy k ts 0 = k := by simp [mkIy]
theorem mkIy_succ (k : Nat) (ts : List Sv) (i : Nat) (h : i < ts.length) : mkIy k ts (i + 1) = mkIy k ts i + svN ts[i] := by
  unfold mkIy
  rw [List.take_succ_eq_append_getElem h, List.map_append, List.sum_append]
  simp; omega
theorem mkIy_full (k : Nat) (ts : List Sv) : mkIy k ts ts.length = k + svsN ts := by simp [mkIy, svsN]
theorem mkIy_mono (k : Nat) (ts : List Sv) : ∀ i, i ≤ ts.length → mkIy k ts i ≤ k + svsN ts := by
  intro i hi
  have h1 : (ts.take i).map svN ++ (ts.drop i).map svN = ts.map svN := by rw [← List.map_append, List.take_append_drop]
  have h2 := congrArg List.sum h1
  rw [List.sum_append] at h2
  unfold mkIy svsN; omega
def mkSv (k : Nat) (x : Sv) : Sv := (mtS (k : Int), mkAll (k + 1) x.2.1, marks ((k + 1 + tksN x.2.1 : Nat) : Int) x.2.2.length)
def mkAllS (k : Nat) (ts : List Sv) : List Sv := (List.range ts.length).map fun i => mkSv (mkIy k ts i) (ts[i]?.getD (ByteArray.empty, [], []))
theorem mkAllS_length (k : Nat) (ts : List Sv) : (mkAllS k ts).length = ts.length := by simp [mkAllS]
theorem mkAllS_get (k : Nat) (ts : List Sv) (i : Nat) (h : i < ts.length) : (mkAllS k ts)[i]'(by rw [mkAllS_length]; exact h) = mkSv (mkIy k ts i) ts[i] := by
  simp [mkAllS, h]
def MkToS (k : Nat) (ts ys : List Sv) (i : Nat) : Prop := ys.length = ts.length ∧ ∀ j (h : j < ts.length) (h' : j < ys.length), ys[j] = if j < i then mkSv (mkIy k ts j) ts[j] else ts[j]
theorem MkToS.zero (k : Nat) (ts : List Sv) : MkToS k ts ts 0 := ⟨rfl, fun j h h' => by simp⟩
theorem MkToS.full {k : Nat} {ts ys : List Sv} (h : MkToS k ts ys ts.length) : ys = mkAllS k ts := by
  refine List.ext_getElem (by rw [h.1, mkAllS_length]) fun i h1 h2 => ?_
  rw [mkAllS_length] at h2
  rw [h.2 i h2 h1, mkAllS_get k ts i h2, if_pos h2]
theorem MkToS.cur {k : Nat} {ts ys : List Sv} {i : Nat} (h : MkToS k ts ys i) (hi : i < ts.length) (hi' : i < ys.length) : ys[i] = ts[i] := by rw [h.2 i hi hi', if_neg (Nat.lt_irrefl _)]
theorem MkToS.succ {k : Nat} {ts ys : List Sv} {i : Nat} (h : MkToS k ts ys i) (hi : i < ts.length) (x : Sv) (hx : x = mkSv (mkIy k ts i) ts[i]) : MkToS k ts (ys.set i x) (i + 1) := by
  refine ⟨by rw [List.length_set]; exact h.1, fun j hj hj' => ?_⟩
  by_cases hij : i = j
  · subst hij; rw [List.getElem_set_self, if_pos (by omega), hx]
  · rw [List.getElem_set_ne hij, h.2 j hj (by rw [h.1]; exact hj)]
    by_cases h2 : j < i
    · rw [if_pos h2, if_pos (by omega)]
    · rw [if_neg h2, if_neg (by omega)]
theorem svsN_len (ts : List Sv) : ts.length ≤ svsN ts := by
  induction ts with
  | nil => simp [svsN]
  | cons x l ih => simp only [svsN, List.map_cons, List.sum_cons, List.length_cons, svN] at ih ⊢; omega

set_option maxHeartbeats 2000000 in
theorem markSavedS_any (v : Value) (xs : List Sv) (raw : List Value) (P : Nat → Nat) (k lo hi : Nat) (w : World) (h : SvsA w lo hi P v raw xs) (hk : 1 ≤ k) (hs : k + svsN xs ≤ 100000000) :
    Calls Try.prog 49 #[v, .int .i64 k] w fun e w' => e = .returned (.int .i64 ((k + svsN xs : Nat) : Int)) ∧ (∃ raw', SvsA w' lo hi P v raw' (mkAllS k xs)) ∧ GrownL (spanT lo hi) w w' := by
  have HMT : Hid (∀ (m : Nat) W, 1 ≤ m → m ≤ 200000000 → Calls Try.prog 109 #[.int .i64 m] W fun e w' => e = .returned (.string (mtS m)) ∧ Below W.heap.size W w') := fun m W h1 h2 => markText_any m W h1 h2
  obtain ⟨n, hn⟩ : ∃ n, xs.length = n := ⟨_, rfl⟩
  have HV : ∃ a c, v = .slice a n c ∧ (0 < n → ∃ g, a = some ⟨g, 0, none⟩) := by
    rcases h.own.2 with ⟨h1, h0⟩ | ⟨g, cap, cur, h1, _⟩
    · exact ⟨none, 0, by rw [h1, ← hn, h0], fun h => by omega⟩
    · exact ⟨_, cap, by rw [h1, hn], fun _ => ⟨g, rfl⟩⟩
  obtain ⟨a, c, rfl, ha⟩ := HV
  have HA := Lib.hid ha
  have HN := Lib.hid hn
  have H0 := Lib.hid h
  have HIX : Hid (∀ i, i ≤ n → mkIy k xs i ≤ 100000000 ∧ 1 ≤ mkIy k xs i) := fun i hi => ⟨Nat.le_trans (mkIy_mono k xs i (by omega)) hs, by unfold mkIy; omega⟩
  have HF : Hid (mkIy k xs n = k + svsN xs) := by show _ = _; rw [← hn]; exact mkIy_full k xs
  have HI0 : Hid (mkIy k xs 0 = k) := mkIy_zero k xs
  have hn31 : n ≤ 100000000 := by have := svsN_len xs; omega
  rw [← HF.out]
  clear h ha hn hs
  go_enter Try.func49, Try.ntmps49
  go_wp2
  go_loopw [1, 5] (fun vk vi wr => ∃ i K : Nat, i ≤ n ∧ Hid (K = mkIy k xs i) ∧ vi = .int .i64 i ∧ vk = .int .i64 K ∧ Hid (∃ raw' ys, SvsA wr lo hi P (.slice a n c) raw' ys ∧ MkToS k xs ys i) ∧ Hid (GrownL (spanT lo hi) w wr)) (fun _ vi _ => n - (intOf vi).toNat)
  case atStart => exact ⟨0, k, Nat.zero_le _, HI0.out.symm, rfl, rfl, ⟨raw, xs, H0.out, MkToS.zero k xs⟩, GrownL.refl _ _⟩
  case round =>
    obtain ⟨i, K, hi', HK, rfl, rfl, HT, HG⟩ := hrel
    obtain ⟨wr', rfl⟩ : ∃ wr' : World, wr' = wr := ⟨_, rfl⟩
    clear H0 HI0
    by_cases hlt : i < n
    · obtain ⟨g, rfl⟩ := HA.out (by omega)
      have hKb := HIX.out (i + 1) (by omega)
      have hKc := (HIX.out i (by omega)).2
      have hts : i < xs.length := by rw [HN.out]; exact hlt
      rw [mkIy_succ k xs i hts, ← HK.out] at hKb
      rw [← HK.out] at hKc
      have HKS : Hid (mkIy k xs (i + 1) = K + svN xs[i]) := by show _ = _; rw [mkIy_succ k xs i hts, HK.out]
      obtain ⟨x, hx⟩ : ∃ x, xs[i] = x := ⟨_, rfl⟩
      rw [hx] at hKb HKS
      have HX := Lib.hid hx
      obtain ⟨x0, ts, st⟩ := x
      have hsv : svN (x0, ts, st) = 1 + tksN ts + st.length := rfl
      rw [hsv] at hKb HKS
      have HM := Lib.hid (HMT.out K wr' hKc (by omega))
      have hKd : K + (1 + tksN ts + st.length) ≤ 100000000 := hKb.1
      obtain ⟨T1, hT1⟩ : ∃ z, tksN ts = z := ⟨_, rfl⟩
      obtain ⟨L1, hL1⟩ : ∃ z, st.length = z := ⟨_, rfl⟩
      have HTL := Lib.hid (And.intro hT1 hL1)
      rw [hT1, hL1] at hKd HKS
      have i0 : (0 : Int) ≤ (i : Int) := by omega
      have i1 : (i : Int) < (n : Int) := by omega
      clear hx hKb hsv HIX hT1 hL1
      go_wp2_with fail
      refine HM.out.mono ?_
      rintro e W1 ⟨rfl, hb1⟩
      obtain ⟨raw', ys, ht0, hm⟩ := HT.out
      have ht := ht0.below hb1
      have G1 : GrownL (spanT lo hi) w W1 := HG.out.below hb1 HG.out.size
      have hyl : ys.length = n := by rw [hm.1, HN.out]
      have hys : i < ys.length := by omega
      have hcur := (hm.cur hts hys).trans HX.out
      obtain ⟨p1, hg1, f0, vt, vs, c0, c1, c2⟩ := ht.put hyl.symm i hys (mtS (K : Int))
      rw [hcur] at p1 c0
      have hgv := (ht.own.lt g rfl).1
      have hgh := ht.vb g rfl
      have G2 := G1.spanned hg1 fun q e => by cases e; exact ⟨hgv, hgh⟩
      obtain ⟨W2, hW2⟩ : ∃ W, W1.setCell ⟨g, i * 3, none⟩ (.string (mtS (K : Int))) = W := ⟨_, rfl⟩
      rw [hW2] at p1 G2
      obtain ⟨ys2, hys2⟩ : ∃ z, ys.set i (mtS (K : Int), ts, st) = z := ⟨_, rfl⟩
      have hl2 : ys2.length = n := by rw [← hys2, List.length_set]; exact hyl
      have hi2 : i < ys2.length := by omega
      have hv2 : ys2[i] = (mtS (K : Int), ts, st) := by simp only [← hys2, List.getElem_set_self]
      rw [show (ys.set i (mtS (K : Int), (x0, ts, st).2)) = ys2 from hys2] at p1
      obtain ⟨vt2, vs2, q0, d1, d2⟩ := (p1.put hl2.symm i hi2 ByteArray.empty).2.2.2
      obtain ⟨mid, B, rw2, r2, hcell, hrow⟩ := p1.row hl2.symm i hi2 vt2 vs2 d1 d2
      rw [hv2] at r2
      simp only [hv2] at hrow
      have HM1 := Lib.hid (markTaskS_any vt2 ts rw2 B (K + 1) (P i) mid W2 r2.t (by omega) (by have := HTL.out; omega))
      rw [HTL.out.1] at HM1
      have HE1 : Hid (((K + 1 : Nat) : Int) = (K : Int) + 1) := by show _ = _; push_cast; rfl
      rw [HE1.out] at HM1
      have HST := Lib.hid (And.intro r2 (And.intro hcell (And.intro hrow (And.intro G2 hm))))
      have HYS := Lib.hid hys2
      have HPI : Hid (lo ≤ P i ∧ P (i + 1) ≤ hi) := ⟨Nat.le_trans p1.p0 (p1.mono 0 i (Nat.zero_le _)), p1.p1 _⟩
      obtain ⟨u0, k0⟩ : ∃ u, W1.cell? ⟨g, i * 3, none⟩ = some u := ⟨_, c0⟩
      obtain ⟨u2, k2⟩ : ∃ u, W1.cell? ⟨g, i * 3 + 2, none⟩ = some u := ⟨_, c2⟩
      have e1 := d1
      clear ht ht0 hm p1 hg1 c0 c1 c2 hcur G1 G2 hgv hgh hv2 q0 d2 hcell hrow r2 hys2 hb1 HM HT HG hyl
      go_wp2_with fail
      refine HM1.out.mono ?_
      rintro e W3 ⟨rfl, ⟨rw3, ht3⟩, hg3⟩
      obtain ⟨r2, hcell, hrow, G2, hm⟩ := HST.out
      obtain ⟨r3, hg3'⟩ := r2.tasks ht3 hg3
      have d2 := hcell W3 hg3'
      have HM2 := Lib.hid (markInt64S_any vs2 st (((K + 1 + T1 : Nat) : Int)) mid W3 r3.s.1 (by omega) (by omega) (by have := HTL.out; omega))
      rw [HTL.out.2] at HM2
      obtain ⟨K1, hK1⟩ : ∃ z, K + 1 + T1 = z := ⟨_, rfl⟩
      have HK1 := Lib.hid hK1
      rw [hK1] at HM2
      have H3 := Lib.hid (And.intro r3 hg3')
      rw [hK1]
      have hKe : K1 + L1 ≤ 100000000 := by omega
      clear r2 hcell hrow G2 hm ht3 hg3 r3 hg3' HM1 e1 d1 k0 u0 k2 u2 hK1 f0
      go_wp2_with fail
      refine HM2.out.mono ?_
      rintro e W4 ⟨rfl, ho4, hg4⟩
      obtain ⟨r2, hcell, hrow, G2, hm⟩ := HST.out
      obtain ⟨r4, hg4'⟩ := H3.out.1.starts ho4 hg4
      have hgk := H3.out.2.trans hg4'
      have p4 := hrow W4 _ _ _ r4 hgk
      have G4 : Hid (GrownL (spanT lo hi) w W4) := G2.trans (hgk.mono HPI.out.1 HPI.out.2).1
      have HT4 : Hid (∃ raw' ys, SvsA W4 lo hi P (.slice (some ⟨g, 0, none⟩) n c) raw' ys ∧ MkToS k xs ys (i + 1)) := by
        refine ⟨_, _, p4, ?_⟩
        rw [← HYS.out, List.set_set]
        refine hm.succ hts _ ?_
        rw [HX.out, ← HK.out]
        unfold mkSv
        simp only
        rw [HTL.out.1, HTL.out.2, HK1.out]
      obtain ⟨K', hK'⟩ : ∃ K', K1 + L1 = K' := ⟨_, rfl⟩
      have HK' : Hid (K' = mkIy k xs (i + 1)) := by show _ = _; rw [HKS.out, ← hK', ← HK1.out]; omega
      have hKK : (K1 : Int) + (L1 : Int) = (K' : Int) := by omega
      have HKK := Lib.hid hKK
      clear r2 hcell hrow G2 hm ho4 hg4 r4 hg4' hgk p4 HM2 H3 HST HYS hK' hKK d2
      go_wp2
      go_roundw
      case rel => exact ⟨i + 1, K', by omega, HK'.out, by go_num, by rw [← HKK.out], HT4.out, G4.out⟩
      case measure => simp [intOf]; omega
    · have hin : i = n := by omega
      clear HIX
      have HEND : Hid (∃ raw', SvsA wr' lo hi P (.slice a n c) raw' (mkAllS k xs)) := by
        obtain ⟨raw', ys, ht, hm⟩ := HT.out
        rw [hin, ← HN.out] at hm
        rw [hm.full] at ht
        exact ⟨raw', ht⟩
      have HKE : Hid (K = mkIy k xs n) := by have := HK.out; rw [hin] at this; exact this
      clear HT HK HF
      go_wp2
      go_ret
      exact ⟨ret_int (by rw [← HKE.out]), HEND.out, HG.out⟩
theorem mtS_size (k : Nat) (h : k ≤ 200000000) : (mtS (k : Int)).size ≤ 40 := by
  unfold mtS
  rw [← decS_eq, decI_pos]
  have h1 : (digI k).length ≤ 19 := digI_len 18 k (by have : k < 10 ^ 19 := Nat.lt_of_le_of_lt h (by decide)
                                                      exact this)
  have h2 := nums_size (digI k)
  have h3 : ((⟨#[109]⟩ : ByteArray) ++ strOfNums (digI k)).size = 1 + (strOfNums (digI k)).size := by
    rw [Go.Lib.size_eq, app_data, List.length_append, ← Go.Lib.size_eq]; rfl
  rw [h3]; omega
theorem SvsA.marked {w : World} {lo hi k : Nat} {P : Nat → Nat} {v : Value} {raw : List Value} {xs : List Sv} (h : SvsA w lo hi P v raw (mkAllS k xs)) (hs : k + svsN xs ≤ 100000000) : SavedsR w v (mkAllS k xs) := by
  have hv := h.own
  have hln := svsN_len xs
  have hL := mkAllS_length k xs
  have hm : (mkAllS k xs).length ≤ maxLen := by rw [hL]; unfold maxLen; omega
  by_cases h0 : 1 ≤ (mkAllS k xs).length
  · rcases hv.2 with ⟨_, h1⟩ | ⟨g, cap, cur, rfl, hg, hb, hc⟩
    · omega
    refine ⟨hm, _, cap, rfl, hc.1, fun i hi => ?_⟩
    obtain ⟨vt, vs, mid, B, rw', p0, p1, p2, o⟩ := h.at_ i hi
    have hi' : i < xs.length := by rw [hL] at hi; exact hi
    have h1 := mkIy_mono k xs (i + 1) (by omega)
    rw [mkIy_succ k xs i hi'] at h1
    have hsv : svN xs[i] = 1 + tksN xs[i].2.1 + xs[i].2.2.length := rfl
    rw [mkAllS_get k xs i hi'] at o p0 ⊢
    have q1 : TasksR w vt (mkAll (mkIy k xs i + 1) xs[i].2.1) := TkA.marked o.t (by omega)
    have q2 : SlR rInt w vs (marks ((mkIy k xs i + 1 + tksN xs[i].2.1 : Nat) : Int) xs[i].2.2.length) := OwnI.slR o.s.1 (marks_win (by omega) (by omega))
    have hmt := mtS_size (mkIy k xs i) (by omega)
    refine ⟨g, 0, _, rfl, (hv.lt g rfl).2, saved_cells.2 ⟨vt, vs, rfl, by show (mtS ((mkIy k xs i : Nat) : Int)).size ≤ maxLen; unfold maxLen; omega, q1, q2⟩, fun j hj => ?_⟩
    have hl := hv.length
    have hj3 : j < 3 := hj
    have h5 := (hv.store (i * 3 + j) (by omega) (.bool true)).1
    rw [Nat.zero_add]
    show w.cell? ⟨g, i * 3 + j, none⟩ = _
    rw [h5]
    have hj4 : j = 0 ∨ j = 1 ∨ j = 2 := by omega
    rcases hj4 with rfl | rfl | rfl
    · rw [← List.getElem?_eq_getElem]; exact p0
    · rw [← List.getElem?_eq_getElem]; exact p1
    · rw [← List.getElem?_eq_getElem]; exact p2
  · rcases hv.2 with ⟨h2, _⟩ | ⟨g, cap, cur, h2, _⟩
    · exact ⟨hm, _, _, by rw [h2, show (mkAllS k xs).length = 0 by omega], by omega, fun i hi => absurd hi (by omega)⟩
    · exact ⟨hm, _, _, h2, by omega, fun i hi => absurd hi (by omega)⟩

set_option maxRecDepth 100000 in
set_option maxHeartbeats 2000000 in
theorem heldSavedS_any (v : Value) (xs : List Sv) (k : Nat) (w : World) (h : SavedsR w v (mkAllS k xs)) (hk : 1 ≤ k) (hs : k + svsN xs ≤ 100000000) :
    Calls Try.prog 50 #[v, .int .i64 k] w fun e w' => e = .returned (.int .i64 ((k + svsN xs : Nat) : Int)) ∧ Below w.heap.size w w' := by
  have HMT : Hid (∀ (m : Nat) W, 1 ≤ m → m ≤ 200000000 → Calls Try.prog 109 #[.int .i64 m] W fun e w' => e = .returned (.string (mtS m)) ∧ Below W.heap.size W w') := fun m W h1 h2 => markText_any m W h1 h2
  obtain ⟨A, hA⟩ : ∃ A, w.heap.size = A := ⟨_, rfl⟩
  have HSZ : Hid (∀ W, Below A w W → A ≤ W.heap.size) := fun W h => by rw [← hA]; exact h.size
  obtain ⟨n, hn⟩ : ∃ n, xs.length = n := ⟨_, rfl⟩
  obtain ⟨a, c, rfl, hcap, hc⟩ := h.at_
  rw [mkAllS_length, hn] at hcap ⊢
  have HN := Lib.hid hn
  have HIX : Hid (∀ i, i ≤ n → mkIy k xs i ≤ 100000000 ∧ 1 ≤ mkIy k xs i) := fun i hi => ⟨Nat.le_trans (mkIy_mono k xs i (by omega)) hs, by unfold mkIy; omega⟩
  have HF : Hid (mkIy k xs n = k + svsN xs) := by show _ = _; rw [← hn]; exact mkIy_full k xs
  have HI0 : Hid (mkIy k xs 0 = k) := mkIy_zero k xs
  have hn31 : n ≤ 100000000 := by have := svsN_len xs; omega
  have HC : Hid (∀ i (hi : i < xs.length), ∃ b o vt vs, a = some ⟨b, o, none⟩ ∧ b < A ∧ TasksR w vt (mkAll (mkIy k xs i + 1) xs[i].2.1) ∧ Ints w vs (marks ((mkIy k xs i + 1 + tksN xs[i].2.1 : Nat) : Int) xs[i].2.2.length) ∧
      w.cell? ⟨b, o + i * 3, none⟩ = some (.string (mtS ((mkIy k xs i : Nat) : Int))) ∧ w.cell? ⟨b, o + i * 3 + 1, none⟩ = some vt ∧ w.cell? ⟨b, o + i * 3 + 2, none⟩ = some vs) := fun i hi => by
    obtain ⟨b, o, vt, vs, h1, h2, _, h3, h4, c0, c1, c2⟩ := hc i (by rw [mkAllS_length]; exact hi)
    rw [mkAllS_get k xs i hi] at h3 h4 c0
    exact ⟨b, o, vt, vs, h1, by omega, h3, h4.ints.1, c0, c1, c2⟩
  have HA := Lib.hid hA
  clear h hc hn hs hA
  go_enter Try.func50, Try.ntmps50
  go_wp2
  go_loopw [1, 5] (fun vk vi wr => ∃ i K : Nat, i ≤ n ∧ Hid (K = mkIy k xs i) ∧ vi = .int .i64 i ∧ vk = .int .i64 K ∧ Hid (Below A w wr)) (fun _ vi _ => n - (intOf vi).toNat)
  case atStart => exact ⟨0, k, Nat.zero_le _, HI0.out.symm, rfl, rfl, by show Below A w w; rw [← HA.out]; exact Below.refl _ _⟩
  case round =>
    obtain ⟨i, K, hi', HK, rfl, rfl, HB⟩ := hrel
    clear HI0
    have hA1 : A ≤ wr.heap.size := HSZ.out _ HB.out
    by_cases hlt : i < n
    · have hts : i < xs.length := by rw [HN.out]; exact hlt
      obtain ⟨b, o, vt, vs, rfl, hbA, h1, h2, g0, g1, g2⟩ := HC.out i hts
      have hKb := HIX.out (i + 1) (by omega)
      have hKc := (HIX.out i (by omega)).2
      rw [mkIy_succ k xs i hts, ← HK.out] at hKb
      rw [← HK.out] at hKc
      have HKS : Hid (mkIy k xs (i + 1) = K + svN xs[i]) := by show _ = _; rw [mkIy_succ k xs i hts, HK.out]
      rw [← HK.out] at h1 h2 g0
      obtain ⟨x, hx⟩ : ∃ x, xs[i] = x := ⟨_, rfl⟩
      rw [hx] at hKb HKS h1 h2
      obtain ⟨x0, ts, st⟩ := x
      simp only at h1 h2
      have hsv : svN (x0, ts, st) = 1 + tksN ts + st.length := rfl
      rw [hsv] at hKb HKS
      obtain ⟨L1, hL1⟩ : ∃ z, st.length = z := ⟨_, rfl⟩
      rw [hL1] at hKb HKS h2
      have HM := Lib.hid (HMT.out K wr.drew hKc (by omega))
      have H1 : Hid (∀ W, Below A w W → Calls Try.prog 107 #[vt, .int .i64 ((K : Int) + 1)] W fun e w' => e = .returned (.int .i64 ((K + 1 + tksN ts : Nat) : Int)) ∧ W = w') := fun W hW => by
        have := heldTaskS_any vt ts (K + 1) W (h1.below hW (by rw [HA.out]; exact Nat.le_refl _)) (by omega) (by omega)
        rwa [show ((K + 1 : Nat) : Int) = (K : Int) + 1 by push_cast; rfl] at this
      have H2 : Hid (∀ W, Below A w W → Calls Try.prog 108 #[vs, .int .i64 ((K + 1 + tksN ts : Nat) : Int)] W fun e w' => e = .returned (.int .i64 (((K + 1 + tksN ts : Nat) : Int) + (L1 : Int))) ∧ W = w') := fun W hW => by
        exact heldInt64S_any vs ((K + 1 + tksN ts : Nat) : Int) L1 W (h2.below hW (by rw [HA.out]; exact Nat.le_refl _)) (by omega) (by omega) (by omega)
      obtain ⟨K1, hK1⟩ : ∃ z, K + 1 + tksN ts = z := ⟨_, rfl⟩
      rw [hK1] at H1 H2
      have hK1b : K1 + L1 ≤ 100000000 := by omega
      obtain ⟨K', hK'⟩ : ∃ K', K1 + L1 = K' := ⟨_, rfl⟩
      have HK' : Hid (K' = mkIy k xs (i + 1)) := by show _ = _; rw [HKS.out]; omega
      have HKK : Hid ((K1 : Int) + (L1 : Int) = (K' : Int)) := by show _ = _; omega
      have HG := Lib.hid (And.intro g0 (And.intro g1 (And.intro g2 hbA)))
      have c0 := (HB.out.cell (p := ⟨b, o + i * 3, none⟩) hbA).trans g0
      obtain ⟨T, hT⟩ : ∃ T, mtS (K : Int) = T := ⟨_, rfl⟩
      rw [hT] at HM c0 HG
      have i0 : (0 : Int) ≤ (i : Int) := by omega
      have i1 : (i : Int) < (n : Int) := by omega
      have n1 : ¬ (K1 : Int) < 0 := by omega
      have n2 : ¬ (K1 : Int) + (L1 : Int) < 0 := by omega
      have hKs : K ≤ 100000000 := by omega
      clear g0 g1 g2 h1 h2 hx hsv hL1 hK1 hK' hKb HC HIX HMT hT hts HKS
      go_wp2
      refine cut_shareM (P := ?P1) ?main1 ?cont1
      case cont1 =>
        intro key
        go_region_with (go_at_call 109; refine HM.out.mono ?_; rintro e W2 ⟨rfl, hb2⟩; have HB3 : Hid (Below A w W2) := (HB.out.drew).trans (hb2.mono hA1); have c0b := (HB3.out.cell (p := ⟨b, o + i * 3, none⟩) HG.out.2.2.2).trans HG.out.1; clear hb2)
        all_goals
          clear c0b
          revert W2
          exact key.out
      intro W2 HB3
      have c1 := (HB3.out.cell (p := ⟨b, o + i * 3 + 1, none⟩) HG.out.2.2.2).trans HG.out.2.1
      have c2 := (HB3.out.cell (p := ⟨b, o + i * 3 + 2, none⟩) HG.out.2.2.2).trans HG.out.2.2.1
      have hA2 : A ≤ W2.heap.size := HSZ.out _ HB3.out
      have hM1 := Lib.hid (H1.out W2 HB3.out)
      have hM2 := Lib.hid (H2.out W2 HB3.out)
      clear H1 H2 c0
      go_wp2_with (first
        | (go_at_call 107; refine hM1.out.mono ?_; rintro e W3 ⟨rfl, rfl⟩)
        | (go_at_call 108; refine hM2.out.mono ?_; rintro e W3 ⟨rfl, rfl⟩))
      go_roundw
      case rel => exact ⟨i + 1, K', by omega, HK'.out, by go_num, by rw [← HKK.out], HB3.out⟩
      case measure => simp [intOf]; omega
    · have hin : i = n := by omega
      have HKE : Hid (K = k + svsN xs) := by have := HK.out; rw [hin, HF.out] at this; exact this
      clear HC HIX HK HF HMT
      go_wp2
      go_ret
      rw [HA.out]
      exact ⟨ret_int (by have := HKE.out; omega), HB.out⟩
end Go.Proofs.Ytmhepomjbaendaa

namespace Go.Proofs.Ytmhepomjbaendaa
open Go.RowKit Go.Shelf Go.BigFrame
set_option linter.unusedVariables false
set_option linter.unusedSimpArgs false

/-- The plans' rows lie apart, one behind the other, up to hi. -/
def SvPl (w : World) (lo hi : Nat) (raw : List Value) (xs : List Sv) : Prop := ∃ P : Nat → Nat, lo ≤ P 0 ∧ (∀ i j, i ≤ j → P i ≤ P j) ∧ (∀ i, P i ≤ hi) ∧ ∀ i (h : i < xs.length), SvAt w (P i) (P (i + 1)) raw i xs[i]
def SvsB (w : World) (lo hi : Nat) (raw : List Value) (xs : List Sv) : Prop := SvsOk w lo raw xs ∧ SvPl w lo hi raw xs
theorem SvsB.nil {lo hi : Nat} (h : lo ≤ hi) (w : World) : SvsB w lo hi [] [] := ⟨⟨rfl, fun i h => absurd h (Nat.not_lt_zero _)⟩, fun _ => lo, Nat.le_refl _, fun _ _ _ => Nat.le_refl _, fun _ => h, fun i h => absurd h (Nat.not_lt_zero _)⟩
theorem SvsB.below {w W : World} {lo hi : Nat} {raw : List Value} {xs : List Sv} (h : SvsB w lo hi raw xs) (hb : Below w.heap.size w W) : SvsB W lo hi raw xs := by
  obtain ⟨h1, P, a, b, c, d⟩ := h
  exact ⟨h1.below hb, P, a, b, c, fun i hi => (d i hi).below hb⟩
theorem SvsB.keptV {T size n N : Nat} {w w' : World} {lo hi : Nat} {u : Value} {rw raw : List Value} {xs : List Sv} (h : SvsB w lo hi raw xs) (hu : OwnV T size w N u n rw) (h1 : T ≠ 2) (h2 : T ≠ 86) (hg : w.grownBy w' u.ownBlock) : SvsB w' lo hi raw xs := by
  obtain ⟨h3, P, a, b, c, d⟩ := h
  exact ⟨h3.keptV hu h1 h2 hg, P, a, b, c, fun i hi => (d i hi).keptV hu h1 h2 hg⟩
theorem SvsB.hi {w : World} {lo hi hi' : Nat} {raw : List Value} {xs : List Sv} (h : SvsB w lo hi raw xs) (hh : hi ≤ hi') : SvsB w lo hi' raw xs := by
  obtain ⟨h1, P, a, b, c, d⟩ := h
  exact ⟨h1, P, a, b, fun i => Nat.le_trans (c i) hh, d⟩
def XB (w : World) (lo l h : Nat) (vt vs : Value) (x : Sv) : Prop := OwnSv w lo vt vs x ∧ ∃ mid B rw, SvA w l mid h B vt vs rw x.2.1 x.2.2
theorem XB.of {w : World} {lo l : Nat} {vt vs : Value} {x : Sv} (ho : OwnSv w l vt vs x) (hl : l ≤ w.heap.size) (h : lo ≤ l) : XB w lo l w.heap.size vt vs x := ⟨OwnSv.lo ho h, SvA.of ho hl⟩
theorem XB.below {w W : World} {lo l h : Nat} {vt vs : Value} {x : Sv} (hx : XB w lo l h vt vs x) (hb : Below w.heap.size w W) : XB W lo l h vt vs x := by
  obtain ⟨h1, mid, B, rw, h2⟩ := hx
  exact ⟨h1.below hb, mid, B, rw, h2.below hb⟩
theorem XB.keptV {T size n N : Nat} {w w' : World} {lo l h : Nat} {vt vs u : Value} {rw : List Value} {x : Sv} (hx : XB w lo l h vt vs x) (hu : OwnV T size w N u n rw) (h1 : T ≠ 2) (h2 : T ≠ 86) (hg : w.grownBy w' u.ownBlock) : XB w' lo l h vt vs x := by
  obtain ⟨h3, mid, B, rw, h4⟩ := hx
  exact ⟨h3.keptV hu h1 h2 hg, mid, B, rw, h4.keptV hu h1 h2 hg⟩
theorem SvsB.snoc {w : World} {lo l h : Nat} {raw : List Value} {xs : List Sv} {vt vs : Value} {x : Sv} (hs : SvsB w lo l raw xs) (hx : XB w lo l h vt vs x) (hw : SvW x) : SvsB w lo h (raw ++ [.string x.1, vt, vs]) (xs ++ [x]) := by
  obtain ⟨h1, P, a, b, c, d⟩ := hs
  obtain ⟨h3, mid, B, rw, h4⟩ := hx
  exact ⟨h1.snoc h3 hw, SvsA.snoc (v := .bool true) (u := .bool true) d a b c h1.1 h4⟩
theorem SvsB.readsA {w : World} {lo hi : Nat} {v : Value} {raw : List Value} {xs : List Sv} (h : SvsB w lo hi raw xs) (hv : OwnV 44 3 w lo v xs.length raw) (hm : xs.length ≤ maxLen) (hh : hi ≤ w.heap.size) : SavedsR w v xs ∧ ∃ raw P, SvsA w lo w.heap.size P v raw xs := by
  obtain ⟨h1, P, a, b, c, d⟩ := h
  exact ⟨h1.reads hv hm, raw, P, hv, fun j hj => (hv.lt j hj).2, a, b, fun i => Nat.le_trans (c i) hh, Nat.le_refl _, d⟩

set_option maxRecDepth 100000 in
set_option maxHeartbeats 2000000 in
theorem implRecoverA_any (s : ByteArray) (w : World) (hs : s.size ≤ 1048576) :
    Calls Try.prog 27 #[.string s] w fun e w' => (∃ v, e = .returned (.tuple #[v, .int .i64 (rvN s), .bool true]) ∧ SavedsR w' v (rvL s) ∧ ∃ raw P, SvsA w' w.heap.size w'.heap.size P v raw (rvL s)) ∧ Below w.heap.size w w' := by
  obtain ⟨A, hA⟩ : ∃ A, w.heap.size = A := ⟨_, rfl⟩
  have HSZ : Hid (∀ W, Below A w W → A ≤ W.heap.size) := fun W h => by rw [← hA]; exact h.size
  have HTA : Hid (∀ k W, Calls Try.prog 73 #[.string (s.extract (rvAt s k) s.size)] W fun e w' => (∃ vt vs, e = .returned (.tuple #[savedV (gotX (dropB s (rvAt s k))).1 vt vs, .int .i64 (gotN (dropB s (rvAt s k)))]) ∧ OwnSv w' W.heap.size vt vs (gotX (dropB s (rvAt s k)))) ∧ Below W.heap.size W w') := fun k W => taken_any (dropB s (rvAt s k)) W (by rw [dropB_size]; omega)
  have HWX : Hid (∀ k, SvW (gotX (dropB s (rvAt s k)))) := fun k => gotX_w (by rw [dropB_size]; omega)
  have HDN : Hid (∀ k, k ≤ 8 → (∀ i, i < k → gotN (dropB s (rvAt s i)) ≠ 0) → (k = 8 ∨ gotN (dropB s (rvAt s k)) = 0) → rvL s = rvX s k ∧ rvN s = rvAt s k) := fun k h1 h2 h3 => rv_done h1 h2 h3
  have HLE : Hid (∀ k, rvAt s k ≤ s.size) := rvAt_le s
  have HLN : Hid (∀ k, (rvX s k).length = k) := rvX_len s
  have HSU : Hid (∀ k, rvAt s (k + 1) = rvAt s k + gotN (dropB s (rvAt s k)) ∧ rvX s (k + 1) = rvX s k ++ [gotX (dropB s (rvAt s k))]) := fun k => ⟨rfl, rfl⟩
  have HA := Lib.hid hA
  clear hA
  go_enter Try.func27, Try.ntmps27
  go_wp2
  go_loopw [5, 6] (fun vo va wr => ∃ (k n g c : Nat) (raw : List Value), k ≤ 8 ∧ Hid (n = k) ∧ vo = .slice (some ⟨g, 0, none⟩) n c ∧ va = .int .i64 (rvAt s k) ∧ Hid (∀ i, i < k → gotN (dropB s (rvAt s i)) ≠ 0) ∧ Hid (OwnV 44 3 wr A (.slice (some ⟨g, 0, none⟩) n c) k raw) ∧ Hid (SvsB wr A wr.heap.size raw (rvX s k)) ∧ Hid (Below A w wr)) (fun vo _ _ => 8 - lenOf vo)
  case atStart =>
    refine ⟨0, 0, w.heap.size, 0, [], Nat.zero_le _, rfl, rfl, rfl, fun i h => by omega, ?_, SvsB.nil (by rw [← HA.out]; simp) _, ?_⟩
    · show OwnV _ _ _ _ _ _ _
      have := World.ownsRow_lit (e := 44) (size := 3) (base := A) w #[] 0 (by rw [HA.out]; exact Nat.le_refl _) (by unfold maxLen; simp) (by simp)
      simpa [OwnV] using this
    · show Below _ _ _
      rw [← HA.out]; exact (Below.refl _ w).alloc (Nat.le_refl _) _
  case round =>
    obtain ⟨k, n, g, c, raw, hk, HN, rfl, rfl, HG, HO, HV, HB⟩ := hrel
    have hA1 : A ≤ wr.heap.size := HSZ.out _ HB.out
    have hnk := HN.out
    by_cases hk8 : k < 8
    · have i1 : (n : Int) < 8 := by omega
      have HT1 := Lib.hid (HTA.out k wr)
      have HW1 := Lib.hid (HWX.out k)
      have hle := HLE.out k
      have HS1 := Lib.hid (HSU.out k)
      have HL1 := Lib.hid (HLN.out k)
      have HEND : Hid (gotN (dropB s (rvAt s k)) = 0 → rvL s = rvX s k ∧ rvN s = rvAt s k) := fun h => HDN.out k hk HG.out (.inr h)
      have HGO : Hid (gotN (dropB s (rvAt s k)) ≠ 0 → ∀ i, i < k + 1 → gotN (dropB s (rvAt s i)) ≠ 0) := fun h i hi => by
        rcases Nat.lt_succ_iff_lt_or_eq.1 hi with h2 | rfl
        · exact HG.out i h2
        · exact h
      have hsum : rvAt s k + gotN (dropB s (rvAt s k)) ≤ s.size := HLE.out (k + 1)
      obtain ⟨a, ha⟩ : ∃ a, rvAt s k = a := ⟨_, rfl⟩
      have HAA := Lib.hid ha
      rw [ha] at HT1 HW1 hle HS1 HEND HGO hsum
      rw [ha]
      obtain ⟨G, hG⟩ : ∃ G, gotN (dropB s a) = G := ⟨_, rfl⟩
      rw [hG] at HT1 HS1 HEND HGO hsum
      obtain ⟨x, hx⟩ : ∃ x, gotX (dropB s a) = x := ⟨_, rfl⟩
      rw [hx] at HT1 HW1 HS1
      have a0 : (0 : Int) ≤ (a : Int) := by omega
      have a1 : (a : Int) ≤ (s.size : Int) := by omega
      clear ha hG hx HTA HWX HDN HLE HLN HSU HG hnk
      go_wp2_with fail
      refine HT1.out.mono ?_
      rintro e W1 ⟨⟨vt, vs, rfl, ho⟩, hb⟩
      have B1 := Lib.hid (HB.out.trans (hb.mono hA1))
      have HO1 := Lib.hid (HO.out.below hb (Nat.le_refl _))
      have HV1 := Lib.hid (HV.out.below hb)
      have HX1 := Lib.hid (XB.of ho hb.size hA1)
      have hwz : wr.heap.size ≤ W1.heap.size := hb.size
      have hA2 : A ≤ W1.heap.size := HSZ.out _ B1.out
      unfold savedV
      obtain ⟨ta, tl, tc, rfl⟩ := (show ∃ a l c, vt = .slice a l c from by obtain ⟨raw, mid, h1, _⟩ := ho; exact h1.form)
      obtain ⟨sa, sl, sc, rfl⟩ := (show ∃ a l c, vs = .slice a l c from by obtain ⟨raw, mid, _, _, _, h1, _⟩ := ho; exact h1.form)
      clear ho hb HT1 HB HO HV
      obtain ⟨x0, x1, x2⟩ := x
      have al1 : Below W1.heap.size W1 (W1.alloc (.cells #[.string x0, .slice ta tl tc, .slice sa sl sc] 44)) := (Below.refl _ W1).alloc (Nat.le_refl _) _
      have B2 : Hid (Below A w (W1.alloc (.cells #[.string x0, .slice ta tl tc, .slice sa sl sc] 44))) := B1.out.alloc hA2 _
      have HO2 := Lib.hid (HO1.out.below al1 (Nat.le_refl _))
      have HV2 := Lib.hid (HV1.out.below al1)
      have HX2 := Lib.hid (HX1.out.below al1)
      have hwz2 : W1.heap.size ≤ (W1.alloc (.cells #[.string x0, .slice ta tl tc, .slice sa sl sc] 44)).heap.size := by simp
      clear al1 B1 HO1 HV1 HX1
      by_cases hG0 : G = 0
      · have HF := Lib.hid (HEND.out hG0)
        have b1 : ((G : Int) == 0) = true := by rw [hG0]; rfl
        have i2 : (G : Int) = 0 := by omega
        have HR := Lib.hid (HV2.out.readsA (v := .slice (some ⟨g, 0, none⟩) n c) (by rw [HL1.out]; exact HO2.out) (by rw [HL1.out]; unfold maxLen; omega) (by omega))
        have HAT : Hid ((a : Int) = (rvN s : Int)) := by show _ = _; rw [HF.out.2]
        clear HEND HGO HV2 HX2 HO2
        go_wp2
        go_ret3
        rw [HF.out.1, ← HAT.out, HA.out]
        exact ⟨⟨_, rfl, HR.out⟩, B2.out⟩
      · have HG2 := Lib.hid (HGO.out hG0)
        have b1 : ((G : Int) == 0) = false := by simp; exact hG0
        have i2 : ¬ (G : Int) = 0 := by omega
        have i3 : (a : Int) + (G : Int) ≤ (s.size : Int) := by omega
        have HONE : Hid (∀ u ∈ [Value.string x0, .slice ta tl tc, .slice sa sl sc], u.oneCell' = true) := by
          intro u hu
          simp only [List.mem_cons, List.not_mem_nil, or_false] at hu
          rcases hu with rfl | rfl | rfl <;> rfl
        have hA3 : A ≤ (W1.alloc (.cells #[.string x0, .slice ta tl tc, .slice sa sl sc] 44)).heap.size := HSZ.out _ B2.out
        have hkb : k ≤ 1000000 := by omega
        clear HEND HGO
        obtain ⟨W2, hW2⟩ : ∃ W, W1.alloc (.cells #[.string x0, .slice ta tl tc, .slice sa sl sc] 44) = W := ⟨_, rfl⟩
        have KB : Blk W2 W1.heap.size 44 [.string x0, .slice ta tl tc, .slice sa sl sc] := by rw [← hW2]; exact Blk.new W1 _ _
        have x0' := KB.cell 0 _ rfl
        have x1' := KB.cell 1 _ rfl
        have x2' := KB.cell 2 _ rfl
        rw [hW2] at B2 HO2 HV2 HX2 hA3
        have al3 : Below W2.heap.size W2 (W2.alloc (.cells #[.string x0, .slice ta tl tc, .slice sa sl sc] 44)) := (Below.refl _ W2).alloc (Nat.le_refl _) _
        have HA3 := Lib.hid hA3
        have HZ2 : Hid (W1.heap.size ≤ W2.heap.size) := by rw [hW2] at hwz2; exact hwz2
        clear KB al3 hA3 hwz2
        go_wp2_with (at_builtin; refine append_sv rfl _ _ rfl A (.slice (some ⟨g, 0, none⟩) n c) k raw [.string x0, .slice ta tl tc, .slice sa sl sc] rfl 1 rfl HO2.out rfl HONE.out HA3.out hkb ?_; intro g5 c5 n5 w5 hn5 ho5 hg5; have B5 : Hid (Below A w w5) := B2.out.grown hg5 HA3.out (fun j e => (HO2.out.lt j e).1); have HV5 : Hid (SvsB w5 A w5.heap.size (raw ++ [.string x0, .slice ta tl tc, .slice sa sl sc]) (rvX s k ++ [(x0, x1, x2)])) := ((HV2.out.keptV HO2.out (by decide) (by decide) hg5).snoc (HX2.out.keptV HO2.out (by decide) (by decide) hg5) HW1.out).hi (Nat.le_trans HZ2.out hg5.size); have HO5 := Lib.hid ho5; have HN5 := hn5; clear ho5 hg5)
        go_roundw
        case rel => exact ⟨k + 1, n5, g5, c5, _, by omega, by have := HN5.out; have := HN.out; show n5 = k + 1; omega, rfl, by rw [HS1.out.1]; go_num, HG2.out, HO5.out, by rw [HS1.out.2]; exact HV5.out, B5.out⟩
        case measure =>
          have := HN5.out
          have := HN.out
          show 8 - n5 < 8 - n
          omega
    · have i1 : ¬ (n : Int) < 8 := by omega
      have hk8' : k = 8 := by omega
      have HF := Lib.hid (HDN.out k hk HG.out (.inl hk8'))
      have HR := Lib.hid (HV.out.readsA (v := .slice (some ⟨g, 0, none⟩) n c) (by rw [HLN.out]; exact HO.out) (by rw [HLN.out]; unfold maxLen; omega) (Nat.le_refl _))
      have HAT : Hid ((rvAt s k : Int) = (rvN s : Int)) := by show _ = _; rw [HF.out.2]
      clear HTA HWX HDN HLE HLN HSU HG HO HV hk8' hnk
      go_wp2
      go_ret3
      rw [HF.out.1, ← HAT.out, HA.out]
      exact ⟨⟨_, rfl, HR.out⟩, HB.out⟩
set_option maxRecDepth 100000 in
set_option maxHeartbeats 2000000 in
theorem specRecoverA_any (s : ByteArray) (w : World) (hs : s.size ≤ 1048576) :
    Calls Try.prog 47 #[.string s] w fun e w' => (∃ v, e = .returned (.tuple #[v, .int .i64 (rvN s), .bool true]) ∧ SavedsR w' v (rvL s) ∧ ∃ raw P, SvsA w' w.heap.size w'.heap.size P v raw (rvL s)) ∧ Below w.heap.size w w' := by
  obtain ⟨A, hA⟩ : ∃ A, w.heap.size = A := ⟨_, rfl⟩
  have HSZ : Hid (∀ W, Below A w W → A ≤ W.heap.size) := fun W h => by rw [← hA]; exact h.size
  have HTA : Hid (∀ k W, Calls Try.prog 102 #[.string (s.extract (rvAt s k) s.size)] W fun e w' => (∃ vt vs, e = .returned (.tuple #[savedV (gotX (dropB s (rvAt s k))).1 vt vs, .int .i64 (gotN (dropB s (rvAt s k)))]) ∧ OwnSv w' W.heap.size vt vs (gotX (dropB s (rvAt s k)))) ∧ Below W.heap.size W w') := fun k W => l07Begin_any (dropB s (rvAt s k)) W (by rw [dropB_size]; omega)
  have HWX : Hid (∀ k, SvW (gotX (dropB s (rvAt s k)))) := fun k => gotX_w (by rw [dropB_size]; omega)
  have HDN : Hid (∀ k, k ≤ 8 → (∀ i, i < k → gotN (dropB s (rvAt s i)) ≠ 0) → (k = 8 ∨ gotN (dropB s (rvAt s k)) = 0) → rvL s = rvX s k ∧ rvN s = rvAt s k) := fun k h1 h2 h3 => rv_done h1 h2 h3
  have HLE : Hid (∀ k, rvAt s k ≤ s.size) := rvAt_le s
  have HLN : Hid (∀ k, (rvX s k).length = k) := rvX_len s
  have HSU : Hid (∀ k, rvAt s (k + 1) = rvAt s k + gotN (dropB s (rvAt s k)) ∧ rvX s (k + 1) = rvX s k ++ [gotX (dropB s (rvAt s k))]) := fun k => ⟨rfl, rfl⟩
  have HA := Lib.hid hA
  clear hA
  go_enter Try.func47, Try.ntmps47
  go_wp2
  go_loopw [5, 6] (fun vo va wr => ∃ (k n g c : Nat) (raw : List Value), k ≤ 8 ∧ Hid (n = k) ∧ vo = .slice (some ⟨g, 0, none⟩) n c ∧ va = .int .i64 (rvAt s k) ∧ Hid (∀ i, i < k → gotN (dropB s (rvAt s i)) ≠ 0) ∧ Hid (OwnV 44 3 wr A (.slice (some ⟨g, 0, none⟩) n c) k raw) ∧ Hid (SvsB wr A wr.heap.size raw (rvX s k)) ∧ Hid (Below A w wr)) (fun vo _ _ => 8 - lenOf vo)
  case atStart =>
    refine ⟨0, 0, w.heap.size, 0, [], Nat.zero_le _, rfl, rfl, rfl, fun i h => by omega, ?_, SvsB.nil (by rw [← HA.out]; simp) _, ?_⟩
    · show OwnV _ _ _ _ _ _ _
      have := World.ownsRow_lit (e := 44) (size := 3) (base := A) w #[] 0 (by rw [HA.out]; exact Nat.le_refl _) (by unfold maxLen; simp) (by simp)
      simpa [OwnV] using this
    · show Below _ _ _
      rw [← HA.out]; exact (Below.refl _ w).alloc (Nat.le_refl _) _
  case round =>
    obtain ⟨k, n, g, c, raw, hk, HN, rfl, rfl, HG, HO, HV, HB⟩ := hrel
    have hA1 : A ≤ wr.heap.size := HSZ.out _ HB.out
    have hnk := HN.out
    by_cases hk8 : k < 8
    · have i1 : (n : Int) < 8 := by omega
      have HT1 := Lib.hid (HTA.out k wr)
      have HW1 := Lib.hid (HWX.out k)
      have hle := HLE.out k
      have HS1 := Lib.hid (HSU.out k)
      have HL1 := Lib.hid (HLN.out k)
      have HEND : Hid (gotN (dropB s (rvAt s k)) = 0 → rvL s = rvX s k ∧ rvN s = rvAt s k) := fun h => HDN.out k hk HG.out (.inr h)
      have HGO : Hid (gotN (dropB s (rvAt s k)) ≠ 0 → ∀ i, i < k + 1 → gotN (dropB s (rvAt s i)) ≠ 0) := fun h i hi => by
        rcases Nat.lt_succ_iff_lt_or_eq.1 hi with h2 | rfl
        · exact HG.out i h2
        · exact h
      have hsum : rvAt s k + gotN (dropB s (rvAt s k)) ≤ s.size := HLE.out (k + 1)
      obtain ⟨a, ha⟩ : ∃ a, rvAt s k = a := ⟨_, rfl⟩
      have HAA := Lib.hid ha
      rw [ha] at HT1 HW1 hle HS1 HEND HGO hsum
      rw [ha]
      obtain ⟨G, hG⟩ : ∃ G, gotN (dropB s a) = G := ⟨_, rfl⟩
      rw [hG] at HT1 HS1 HEND HGO hsum
      obtain ⟨x, hx⟩ : ∃ x, gotX (dropB s a) = x := ⟨_, rfl⟩
      rw [hx] at HT1 HW1 HS1
      have a0 : (0 : Int) ≤ (a : Int) := by omega
      have a1 : (a : Int) ≤ (s.size : Int) := by omega
      clear ha hG hx HTA HWX HDN HLE HLN HSU HG hnk
      go_wp2_with fail
      refine HT1.out.mono ?_
      rintro e W1 ⟨⟨vt, vs, rfl, ho⟩, hb⟩
      have B1 := Lib.hid (HB.out.trans (hb.mono hA1))
      have HO1 := Lib.hid (HO.out.below hb (Nat.le_refl _))
      have HV1 := Lib.hid (HV.out.below hb)
      have HX1 := Lib.hid (XB.of ho hb.size hA1)
      have hwz : wr.heap.size ≤ W1.heap.size := hb.size
      have hA2 : A ≤ W1.heap.size := HSZ.out _ B1.out
      unfold savedV
      obtain ⟨ta, tl, tc, rfl⟩ := (show ∃ a l c, vt = .slice a l c from by obtain ⟨raw, mid, h1, _⟩ := ho; exact h1.form)
      obtain ⟨sa, sl, sc, rfl⟩ := (show ∃ a l c, vs = .slice a l c from by obtain ⟨raw, mid, _, _, _, h1, _⟩ := ho; exact h1.form)
      clear ho hb HT1 HB HO HV
      obtain ⟨x0, x1, x2⟩ := x
      have al1 : Below W1.heap.size W1 (W1.alloc (.cells #[.string x0, .slice ta tl tc, .slice sa sl sc] 44)) := (Below.refl _ W1).alloc (Nat.le_refl _) _
      have B2 : Hid (Below A w (W1.alloc (.cells #[.string x0, .slice ta tl tc, .slice sa sl sc] 44))) := B1.out.alloc hA2 _
      have HO2 := Lib.hid (HO1.out.below al1 (Nat.le_refl _))
      have HV2 := Lib.hid (HV1.out.below al1)
      have HX2 := Lib.hid (HX1.out.below al1)
      have hwz2 : W1.heap.size ≤ (W1.alloc (.cells #[.string x0, .slice ta tl tc, .slice sa sl sc] 44)).heap.size := by simp
      clear al1 B1 HO1 HV1 HX1
      by_cases hG0 : G = 0
      · have HF := Lib.hid (HEND.out hG0)
        have b1 : ((G : Int) == 0) = true := by rw [hG0]; rfl
        have i2 : (G : Int) = 0 := by omega
        have HR := Lib.hid (HV2.out.readsA (v := .slice (some ⟨g, 0, none⟩) n c) (by rw [HL1.out]; exact HO2.out) (by rw [HL1.out]; unfold maxLen; omega) (by omega))
        have HAT : Hid ((a : Int) = (rvN s : Int)) := by show _ = _; rw [HF.out.2]
        clear HEND HGO HV2 HX2 HO2
        go_wp2
        go_ret3
        rw [HF.out.1, ← HAT.out, HA.out]
        exact ⟨⟨_, rfl, HR.out⟩, B2.out⟩
      · have HG2 := Lib.hid (HGO.out hG0)
        have b1 : ((G : Int) == 0) = false := by simp; exact hG0
        have i2 : ¬ (G : Int) = 0 := by omega
        have i3 : (a : Int) + (G : Int) ≤ (s.size : Int) := by omega
        have HONE : Hid (∀ u ∈ [Value.string x0, .slice ta tl tc, .slice sa sl sc], u.oneCell' = true) := by
          intro u hu
          simp only [List.mem_cons, List.not_mem_nil, or_false] at hu
          rcases hu with rfl | rfl | rfl <;> rfl
        have hA3 : A ≤ (W1.alloc (.cells #[.string x0, .slice ta tl tc, .slice sa sl sc] 44)).heap.size := HSZ.out _ B2.out
        have hkb : k ≤ 1000000 := by omega
        clear HEND HGO
        obtain ⟨W2, hW2⟩ : ∃ W, W1.alloc (.cells #[.string x0, .slice ta tl tc, .slice sa sl sc] 44) = W := ⟨_, rfl⟩
        have KB : Blk W2 W1.heap.size 44 [.string x0, .slice ta tl tc, .slice sa sl sc] := by rw [← hW2]; exact Blk.new W1 _ _
        have x0' := KB.cell 0 _ rfl
        have x1' := KB.cell 1 _ rfl
        have x2' := KB.cell 2 _ rfl
        rw [hW2] at B2 HO2 HV2 HX2 hA3
        have al3 : Below W2.heap.size W2 (W2.alloc (.cells #[.string x0, .slice ta tl tc, .slice sa sl sc] 44)) := (Below.refl _ W2).alloc (Nat.le_refl _) _
        have HA3 := Lib.hid hA3
        have HZ2 : Hid (W1.heap.size ≤ W2.heap.size) := by rw [hW2] at hwz2; exact hwz2
        clear KB al3 hA3 hwz2
        go_wp2_with (at_builtin; refine append_sv rfl _ _ rfl A (.slice (some ⟨g, 0, none⟩) n c) k raw [.string x0, .slice ta tl tc, .slice sa sl sc] rfl 1 rfl HO2.out rfl HONE.out HA3.out hkb ?_; intro g5 c5 n5 w5 hn5 ho5 hg5; have B5 : Hid (Below A w w5) := B2.out.grown hg5 HA3.out (fun j e => (HO2.out.lt j e).1); have HV5 : Hid (SvsB w5 A w5.heap.size (raw ++ [.string x0, .slice ta tl tc, .slice sa sl sc]) (rvX s k ++ [(x0, x1, x2)])) := ((HV2.out.keptV HO2.out (by decide) (by decide) hg5).snoc (HX2.out.keptV HO2.out (by decide) (by decide) hg5) HW1.out).hi (Nat.le_trans HZ2.out hg5.size); have HO5 := Lib.hid ho5; have HN5 := hn5; clear ho5 hg5)
        go_roundw
        case rel => exact ⟨k + 1, n5, g5, c5, _, by omega, by have := HN5.out; have := HN.out; show n5 = k + 1; omega, rfl, by rw [HS1.out.1]; go_num, HG2.out, HO5.out, by rw [HS1.out.2]; exact HV5.out, B5.out⟩
        case measure =>
          have := HN5.out
          have := HN.out
          show 8 - n5 < 8 - n
          omega
    · have i1 : ¬ (n : Int) < 8 := by omega
      have hk8' : k = 8 := by omega
      have HF := Lib.hid (HDN.out k hk HG.out (.inl hk8'))
      have HR := Lib.hid (HV.out.readsA (v := .slice (some ⟨g, 0, none⟩) n c) (by rw [HLN.out]; exact HO.out) (by rw [HLN.out]; unfold maxLen; omega) (Nat.le_refl _))
      have HAT : Hid ((rvAt s k : Int) = (rvN s : Int)) := by show _ = _; rw [HF.out.2]
      clear HTA HWX HDN HLE HLN HSU HG HO HV hk8' hnk
      go_wp2
      go_ret3
      rw [HF.out.1, ← HAT.out, HA.out]
      exact ⟨⟨_, rfl, HR.out⟩, HB.out⟩
end Go.Proofs.Ytmhepomjbaendaa

namespace Go.Proofs.Ytmhepomjbaendaa
open Go.RowKit Go.BigFrame
set_option linter.unusedVariables false
set_option linter.unusedSimpArgs false

theorem rvGo_le (s : ByteArray) : ∀ f k, rvGo s f k ≤ k + f
  | 0, k => Nat.le_refl _
  | f + 1, k => by
    show (if gotN (dropB s (rvAt s k)) = 0 then k else rvGo s f (k + 1)) ≤ _
    split
    · omega
    · have := rvGo_le s f (k + 1); omega
theorem svsN_le (c : Nat) (ts : List Sv) (h : ∀ t ∈ ts, svN t ≤ c) : svsN ts ≤ c * ts.length := by
  induction ts with
  | nil => simp [svsN]
  | cons x l ih =>
    have h1 := h x (by simp)
    have h2 := ih fun t ht => h t (by simp [ht])
    simp only [svsN, List.map_cons, List.sum_cons, List.length_cons] at h2 ⊢
    rw [Nat.mul_add]; omega
theorem rvX_small {s : ByteArray} (hs : s.size ≤ 1048576) : ∀ k, ∀ x ∈ rvX s k, svN x ≤ 200001
  | 0 => fun x h => by simp [rvX] at h
  | k + 1 => fun x h => by
    have h' : x ∈ rvX s k ++ [gotX (dropB s (rvAt s k))] := h
    rw [List.mem_append, List.mem_singleton] at h'
    rcases h' with h' | rfl
    · exact rvX_small hs k x h'
    · have h1 : SvW (gotX (dropB s (rvAt s k))) := gotX_w (by rw [dropB_size]; omega)
      have h2 := h1.small (gotX_even _)
      unfold svN; omega
theorem rvL_small {s : ByteArray} (hs : s.size ≤ 1048576) : svsN (rvL s) ≤ 1600008 := by
  have h1 := svsN_le 200001 (rvL s) (rvX_small hs _)
  have h2 : (rvL s).length ≤ 8 := by
    unfold rvL; rw [rvX_len]; unfold rvK; have := rvGo_le s 8 0; omega
  have : 200001 * (rvL s).length ≤ 200001 * 8 := Nat.mul_le_mul_left _ h2
  omega

set_option maxRecDepth 100000 in
set_option maxHeartbeats 4000000 in
theorem walkFnExactRecoverAll (a0 : ByteArray) (w : World) (w0 : a0.size ≤ maxLen) :
    Calls Try.prog 8 #[.string a0] w fun e w' => e = .returned (.bool true) ∧ Below w.heap.size w w' := by
  by_cases hbig : 1048576 < a0.size
  · go_enter Try.func8, Try.ntmps8
    go_wp2
    go_ret
    exact ⟨rfl, Below.refl _ _⟩
  have hs : a0.size ≤ 1048576 := by omega
  have HC1 := Lib.hid (specRecoverA_any a0 w hs)
  have HC2 : Hid (∀ W, Calls Try.prog 27 #[.string a0] W fun e w' => (∃ v, e = .returned (.tuple #[v, .int .i64 (rvN a0), .bool true]) ∧ SavedsR w' v (rvL a0) ∧ ∃ raw P, SvsA w' W.heap.size w'.heap.size P v raw (rvL a0)) ∧ Below W.heap.size W w') := fun W => implRecoverA_any a0 W hs
  have HSM : Hid (svsN (rvL a0) ≤ 1600008) := rvL_small hs
  obtain ⟨N, hN⟩ : ∃ N, rvN a0 = N := ⟨_, rfl⟩
  obtain ⟨xs, hX⟩ : ∃ X, rvL a0 = X := ⟨_, rfl⟩
  rw [hN, hX] at HC1 HC2
  rw [hX] at HSM
  clear hX hN
  obtain ⟨S, hS⟩ : ∃ S, 1 + svsN xs = S := ⟨_, rfl⟩
  have hSb : S ≤ 1600009 := by have := HSM.out; omega
  have HS := Lib.hid hS
  clear hS
  have hbn : ((N : Int) != (N : Int)) = false := by simp
  go_enter Try.func8, Try.ntmps8
  go_wp2_with fail
  refine HC1.out.mono ?_
  rintro e W1 ⟨⟨u, rfl, hu, _⟩, hb1⟩
  have HU : Hid (∀ W, Below W1.heap.size W1 W → SavedsR W u xs) := fun W hW => hu.below hW (Nat.le_refl _)
  have HB1 := Lib.hid hb1
  have HC := Lib.hid (HC2.out W1)
  obtain ⟨_, ua, uc, rfl, _⟩ := hu
  clear hb1 HC1
  obtain ⟨P0, hP⟩ : ∃ P, W1.heap.size = P := ⟨_, rfl⟩
  rw [hP] at HU HC
  have HPP := Lib.hid hP
  clear hP
  go_wp2_with fail
  refine HC.out.mono ?_
  rintro e W2 ⟨⟨v, rfl, hv, raw, P, hsv⟩, hb2⟩
  have hp2 : Below P0 W1 W2 := hb2
  have HEQ := Lib.hid (eqSavedS_same v (.slice ua xs.length uc) xs W2 hv (HU.out _ hp2))
  obtain ⟨_, va, vc, rfl, _⟩ := hv
  obtain ⟨H, hH⟩ : ∃ L, W2.heap.size = L := ⟨_, rfl⟩
  rw [hH] at hsv
  have HK2 := Lib.hid (And.intro hsv hp2)
  have HLH : Hid (P0 ≤ H) := by have := hb2.size; have := HPP.out; show _ ≤ _; omega
  have HHH := Lib.hid hH
  clear hsv hp2 hb2 HC hH
  go_wp2_with fail
  refine HEQ.out.mono ?_
  rintro e W3 ⟨rfl, hb3⟩
  obtain ⟨hsv, hp2⟩ := HK2.out
  have sv3 := hsv.below hb3
  have hp3 : Below P0 W1 W3 := hp2.trans (hb3.mono (by have := HLH.out; have := HHH.out; omega))
  have HM := Lib.hid (markSavedS_any (.slice va xs.length vc) xs raw P 1 P0 H W3 sv3 (Nat.le_refl _) (by have := HS.out; omega))
  rw [HS.out] at HM
  have HK3 := Lib.hid hp3
  have HZ3 : Hid (P0 ≤ W3.heap.size) := Nat.le_trans HLH.out sv3.hs
  clear hsv hp2 sv3 hp3 hb3 HK2 HEQ
  go_wp2_with fail
  refine HM.out.mono ?_
  rintro e W4 ⟨rfl, ⟨raw4, sv4⟩, hg4⟩
  have hp4 : Below P0 W1 W4 := hg4.toBelow HK3.out HZ3.out (fun i hi e => by rw [mem_spanT] at e; omega)
  have hsm : 1 + svsN xs ≤ 100000000 := by have := HS.out; omega
  have HH := Lib.hid (heldSavedS_any (.slice va xs.length vc) xs 1 W4 (sv4.marked hsm) (Nat.le_refl _) hsm)
  rw [HS.out] at HH
  have HK4 := Lib.hid (And.intro sv4 hp4)
  clear hg4 sv4 HM hp4 hsm HK3
  have n1 : ¬ (S : Int) < 0 := by omega
  go_wp2_with fail
  refine HH.out.mono ?_
  rintro e W5 ⟨rfl, hb5⟩
  obtain ⟨sv4, hp4⟩ := HK4.out
  have sv5 := sv4.below hb5
  have hp5 : Below P0 W1 W5 := hp4.trans (hb5.mono (Nat.le_trans HLH.out sv4.hs))
  have HK5 := Lib.hid (And.intro sv5 hp5)
  have HC5 := Lib.hid (HC2.out W5)
  clear sv4 hp4 hb5 sv5 hp5 HK4 HH
  go_wp2_with fail
  refine HC5.out.mono ?_
  rintro e W6 ⟨⟨y, rfl, hy, _⟩, hb6⟩
  obtain ⟨sv5, hp5⟩ := HK5.out
  have sv6 := sv5.below hb6
  have hp6 : Below P0 W1 W6 := hp5.trans (hb6.mono (Nat.le_trans HLH.out sv5.hs))
  have HEQ := Lib.hid (eqSavedS_same y (.slice ua xs.length uc) xs W6 hy (HU.out _ hp6))
  obtain ⟨_, ya, yc, rfl, _⟩ := hy
  have HK6 := Lib.hid (And.intro sv6 hp6)
  clear sv5 hp5 sv6 hp6 hb6 HK5 HC5
  go_wp2_with fail
  refine HEQ.out.mono ?_
  rintro e W7 ⟨rfl, hb7⟩
  obtain ⟨sv6, hp6⟩ := HK6.out
  have sv7 := sv6.below hb7
  have hp7 : Below P0 W1 W7 := hp6.trans (hb7.mono (Nat.le_trans HLH.out sv6.hs))
  have hsm : 1 + svsN xs ≤ 100000000 := by have := HS.out; omega
  have HH := Lib.hid (heldSavedS_any (.slice va xs.length vc) xs 1 W7 (sv7.marked hsm) (Nat.le_refl _) hsm)
  rw [HS.out] at HH
  have HP7 := Lib.hid (And.intro hp7 (Nat.le_trans HLH.out sv7.hs))
  clear sv6 hp6 sv7 hp7 hb7 HK6 HEQ hsm
  go_wp2_with fail
  refine HH.out.mono ?_
  rintro e W8 ⟨rfl, hb8⟩
  have HFIN : Hid (Below w.heap.size w W8) := by
    have h1 := HB1.out.trans (HP7.out.1.mono (by rw [← HPP.out]; exact HB1.out.size))
    exact h1.trans (hb8.mono h1.size)
  clear HP7 hb8
  go_wp2
  go_ret
  exact ⟨rfl, HFIN.out⟩
end Go.Proofs.Ytmhepomjbaendaa
