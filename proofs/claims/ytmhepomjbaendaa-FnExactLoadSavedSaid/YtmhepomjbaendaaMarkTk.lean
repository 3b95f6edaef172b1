
/- The laws' marks on rows of tasks: markTaskS, heldTaskS. Conditions: at most 10^8 numbers. -/
import Derived.Test.YtmhepomjbaendaaRecov
import Derived.Test.YtmhepomjbaendaaGrownC
namespace Go.Proofs.Ytmhepomjbaendaa
open Go.RowKit Go.Shelf Go.BigFrame
set_option linter.unusedVariables false
set_option linter.unusedSimpArgs false

/-- The blocks between lo and hi. -/
abbrev spanT (lo hi : Nat) : List Nat := List.range' lo (hi - lo)
theorem mem_spanT {lo hi b : Nat} : b ∈ spanT lo hi ↔ lo ≤ b ∧ b < hi := by
  unfold spanT; rw [List.mem_range'_1]; omega
/-- The cells and rows of task i. -/
def TkAt (w : World) (l u : Nat) (raw : List Value) (i : Nat) (x : Tk) : Prop := ∃ vb vl, raw[i * 4]? = some (.int .i64 x.1) ∧ raw[i * 4 + 1]? = some (.int .i64 x.2.1) ∧ raw[i * 4 + 2]? = some vb ∧ raw[i * 4 + 3]? = some vl ∧ OwnH w l u vb x.2.2.1 ∧ OwnH w l u vl x.2.2.2 ∧ (vb.ownBlock = none ∨ vb.ownBlock ≠ vl.ownBlock)
structure TkA (w : World) (lo hi : Nat) (B : Nat → Nat) (v : Value) (raw : List Value) (ts : List Tk) : Prop where
  own : OwnV 86 4 w lo v ts.length raw
  vb : ∀ j, v.ownBlock = some j → j < hi
  b0 : lo ≤ B 0
  mono : ∀ i j, i ≤ j → B i ≤ B j
  b1 : ∀ i, B i ≤ hi
  at_ : ∀ i (h : i < ts.length), TkAt w (B i) (B (i + 1)) raw i ts[i]
theorem TkOwn.cells {w : World} {l u l' u' i : Nat} {cs raw : List Value} {x : Tk} (h : TkOwn w l u cs x) (h1 : l' ≤ l) (h2 : u ≤ u') (hr : ∀ j, j < 4 → raw[i * 4 + j]? = cs[j]?) : TkAt w l' u' raw i x := by
  obtain ⟨vb, vl, rfl, a, b, c⟩ := h
  exact ⟨vb, vl, hr 0 (by omega), hr 1 (by omega), hr 2 (by omega), hr 3 (by omega), a.mono h1 h2, b.mono h1 h2, c⟩
theorem TkAt.raw_ {w : World} {l u i : Nat} {raw raw' : List Value} {x : Tk} (h : TkAt w l u raw i x) (hr : ∀ j, j < 4 → raw'[i * 4 + j]? = raw[i * 4 + j]?) : TkAt w l u raw' i x := by
  obtain ⟨vb, vl, e0, e1, e2, e3, r⟩ := h
  exact ⟨vb, vl, (hr 0 (by omega)).trans e0, (hr 1 (by omega)).trans e1, (hr 2 (by omega)).trans e2, (hr 3 (by omega)).trans e3, r⟩
theorem TkAt.kept {w w' : World} {l u i : Nat} {raw : List Value} {x : Tk} {row : Option Nat} (h : TkAt w l u raw i x) (hg : w.grownBy w' row) (hr : ∀ k, row = some k → k < l ∨ u ≤ k) : TkAt w' l u raw i x := by
  obtain ⟨vb, vl, e0, e1, e2, e3, a, b, c⟩ := h
  exact ⟨vb, vl, e0, e1, e2, e3, a.kept hg hr, b.kept hg hr, c⟩
theorem TksOwn.places {w : World} {lo hi : Nat} {raw : List Value} {ts : List Tk} (h : TksOwn w lo hi raw ts) : ∃ B : Nat → Nat, lo ≤ B 0 ∧ (∀ i j, i ≤ j → B i ≤ B j) ∧ (∀ i, B i ≤ hi) ∧ ∀ i (h : i < ts.length), TkAt w (B i) (B (i + 1)) raw i ts[i] := by
  induction h with
  | nil h => exact ⟨fun _ => lo, Nat.le_refl _, fun _ _ _ => Nat.le_refl _, fun _ => h, fun i hi => absurd hi (Nat.not_lt_zero _)⟩
  | snoc h2 h3 h4 ih =>
    rename_i mid hi raw cs xs x
    obtain ⟨B, b0, b1, b2, b3⟩ := ih
    have hl := h2.len
    refine ⟨fun i => if i ≤ xs.length then B i else hi, ?_, fun i j hij => ?_, fun i => ?_, fun i hi' => ?_⟩
    · simp; exact b0
    · by_cases h : j ≤ xs.length
      · simp only [h, show i ≤ xs.length by omega, if_true]; exact b1 i j hij
      · simp only [h, if_false]
        show (if i ≤ xs.length then B i else hi) ≤ hi
        split
        · have := b2 i; omega
        · exact Nat.le_refl _
    · show (if i ≤ xs.length then B i else hi) ≤ hi
      split
      · have := b2 i; omega
      · exact Nat.le_refl _
    · rw [List.length_append, List.length_singleton] at hi'
      by_cases hx : i < xs.length
      · simp only [show i ≤ xs.length by omega, show i + 1 ≤ xs.length by omega, if_true]
        rw [List.getElem_append_left hx]
        exact (b3 i hx).raw_ fun j hj => List.getElem?_append_left (by omega)
      · obtain rfl : i = xs.length := by omega
        simp only [Nat.le_refl, if_true, show ¬ xs.length + 1 ≤ xs.length by omega, if_false]
        rw [List.getElem_append_right (Nat.le_refl _)]
        simp only [Nat.sub_self, List.getElem_singleton]
        exact h3.cells (b2 _) (Nat.le_refl _) fun j hj => by
          rw [List.getElem?_append_right (by omega), hl, Nat.add_sub_cancel_left]
theorem TkA.of {w : World} {lo hi : Nat} {v : Value} {raw : List Value} {ts : List Tk} (ho : OwnV 86 4 w lo v ts.length raw) (hb : ∀ k, v.ownBlock = some k → k < hi) (h : TksOwn w lo hi raw ts) : ∃ B, TkA w lo hi B v raw ts := by
  obtain ⟨B, b0, b1, b2, b3⟩ := h.places
  exact ⟨B, ho, hb, b0, b1, b2, b3⟩
theorem TkA.kept {w w' : World} {lo hi : Nat} {B : Nat → Nat} {v : Value} {raw : List Value} {ts : List Tk} {row : Option Nat} (h : TkA w lo hi B v raw ts) (hg : w.grownBy w' row) (hr : ∀ k, row = some k → k < lo ∨ hi ≤ k) : TkA w' lo hi B v raw ts where
  own := ownsRow_kept (N := 0) h.own h.vb hg hr
  vb := h.vb
  b0 := h.b0
  mono := h.mono
  b1 := h.b1
  at_ := fun i hi => (h.at_ i hi).kept hg fun k e => by
    have h1 := h.b0
    have h2 := h.mono 0 i (Nat.zero_le _)
    have h3 := h.b1 (i + 1)
    rcases hr k e with h | h <;> omega
/-- A number of task i is put in. -/
theorem TkA.put {w : World} {lo hi : Nat} {B : Nat → Nat} {g n c : Nat} {raw : List Value} {ts : List Tk} (h : TkA w lo hi B (.slice (some ⟨g, 0, none⟩) n c) raw ts) (hn : n = ts.length) (i : Nat) (hi' : i < ts.length) (y : Int) :
    TkA (w.setCell ⟨g, i * 4, none⟩ (.int .i64 y)) lo hi B (.slice (some ⟨g, 0, none⟩) n c) (raw.set (i * 4) (.int .i64 y)) (ts.set i (y, ts[i].2)) ∧ TkA (w.setCell ⟨g, i * 4 + 1, none⟩ (.int .i64 y)) lo hi B (.slice (some ⟨g, 0, none⟩) n c) (raw.set (i * 4 + 1) (.int .i64 y)) (ts.set i (ts[i].1, y, ts[i].2.2)) ∧
    (∃ vb vl, w.cell? ⟨g, i * 4, none⟩ = some (.int .i64 ts[i].1) ∧ w.cell? ⟨g, i * 4 + 1, none⟩ = some (.int .i64 ts[i].2.1) ∧ w.cell? ⟨g, i * 4 + 2, none⟩ = some vb ∧ w.cell? ⟨g, i * 4 + 3, none⟩ = some vl) ∧ w.frozen? ⟨g, i * 4, none⟩ = false ∧ w.frozen? ⟨g, i * 4 + 1, none⟩ = false := by
  subst hn
  have hlen := h.own.length
  obtain ⟨_, f0, o0, g0⟩ := h.own.store (i * 4) (by omega) (.int .i64 y)
  obtain ⟨_, f1, o1, g1⟩ := h.own.store (i * 4 + 1) (by omega) (.int .i64 y)
  obtain ⟨c0, _⟩ := h.own.store (i * 4) (by omega) (.bool true)
  obtain ⟨c1, _⟩ := h.own.store (i * 4 + 1) (by omega) (.bool true)
  obtain ⟨c2, _⟩ := h.own.store (i * 4 + 2) (by omega) (.bool true)
  obtain ⟨c3, _⟩ := h.own.store (i * 4 + 3) (by omega) (.bool true)
  have key : ∀ (j : Nat) (w' : World) (u : Value), w.grownBy w' (some g) → ∀ k (hk : k < ts.length), TkAt w' (B k) (B (k + 1)) raw k ts[k] := fun j w' u hg k hk => by
    obtain ⟨vb, vl, e0, e1, e2, e3, a, b, c⟩ := h.at_ k hk
    have hty := h.own.typed g rfl
    obtain ⟨cur, fr, hb⟩ := hty
    exact ⟨vb, vl, e0, e1, e2, e3, a.keptT hg hb (by decide), b.keptT hg hb (by decide), c⟩
  have put : ∀ (q : Nat) (w' : World) (x : Tk), q < 2 → TkAt w' (B i) (B (i + 1)) (raw.set (i * 4 + q) (.int .i64 y)) i x → OwnV 86 4 w' lo (.slice (some ⟨g, 0, none⟩) ts.length c) ts.length (raw.set (i * 4 + q) (.int .i64 y)) → w.grownBy w' (some g) → TkA w' lo hi B (.slice (some ⟨g, 0, none⟩) ts.length c) (raw.set (i * 4 + q) (.int .i64 y)) (ts.set i x) := fun q w' x hq hx ho hg => {
    own := by rw [List.length_set]; exact ho
    vb := h.vb
    b0 := h.b0
    mono := h.mono
    b1 := h.b1
    at_ := fun k hk => by
      rw [List.length_set] at hk
      by_cases hik : k = i
      · subst hik; rw [List.getElem_set_self]; exact hx
      · rw [List.getElem_set_ne (fun e => hik e.symm)]
        exact (key 0 w' (.bool true) hg k hk).raw_ fun j hj => by rw [List.getElem?_set_ne (by omega)] }
  obtain ⟨vb, vl, e0, e1, e2, e3, a, b, c'⟩ := h.at_ i hi'
  refine ⟨put 0 _ _ (by omega) ?_ o0 g0, put 1 _ _ (by omega) ?_ o1 g1, ⟨vb, vl, ?_, ?_, ?_, ?_⟩, f0, f1⟩
  · obtain ⟨vb, vl, e0, e1, e2, e3, a, b, c'⟩ := key 0 _ (.bool true) g0 i hi'
    exact ⟨vb, vl, List.getElem?_set_self (by omega), by rw [List.getElem?_set_ne (by omega)]; exact e1, by rw [List.getElem?_set_ne (by omega)]; exact e2, by rw [List.getElem?_set_ne (by omega)]; exact e3, a, b, c'⟩
  · obtain ⟨vb, vl, e0, e1, e2, e3, a, b, c'⟩ := key 0 _ (.bool true) g1 i hi'
    exact ⟨vb, vl, by rw [List.getElem?_set_ne (by omega)]; exact e0, List.getElem?_set_self (by omega), by rw [List.getElem?_set_ne (by omega)]; exact e2, by rw [List.getElem?_set_ne (by omega)]; exact e3, a, b, c'⟩
  · rw [List.getElem?_eq_getElem (by omega)] at e0; rw [c0]; exact e0
  · rw [List.getElem?_eq_getElem (by omega)] at e1; rw [c1]; exact e1
  · rw [List.getElem?_eq_getElem (by omega)] at e2; rw [c2]; exact e2
  · rw [List.getElem?_eq_getElem (by omega)] at e3; rw [c3]; exact e3
theorem OwnH.sameI {w w' : World} {lo hi : Nat} {v : Value} {xs ys : List Int} (h : OwnH w lo hi v xs) (k : OwnI w' lo v ys) : OwnH w' lo hi v ys := ⟨k, h.2⟩
/-- A row of task i is written. -/
theorem TkA.row {w w' : World} {lo hi : Nat} {B : Nat → Nat} {g n c : Nat} {raw : List Value} {ts : List Tk} (h : TkA w lo hi B (.slice (some ⟨g, 0, none⟩) n c) raw ts) (hn : n = ts.length) (i : Nat) (hi' : i < ts.length) (vb vl : Value) (c2 : w.cell? ⟨g, i * 4 + 2, none⟩ = some vb) (c3 : w.cell? ⟨g, i * 4 + 3, none⟩ = some vl) :
    OwnH w (B i) (B (i + 1)) vb ts[i].2.2.1 ∧ OwnH w (B i) (B (i + 1)) vl ts[i].2.2.2 ∧
    (∀ ys, OwnI w' (B i) vb ys → w.grownBy w' vb.ownBlock → TkA w' lo hi B (.slice (some ⟨g, 0, none⟩) n c) raw (ts.set i (ts[i].1, ts[i].2.1, ys, ts[i].2.2.2))) ∧
    (∀ ys, OwnI w' (B i) vl ys → w.grownBy w' vl.ownBlock → TkA w' lo hi B (.slice (some ⟨g, 0, none⟩) n c) raw (ts.set i (ts[i].1, ts[i].2.1, ts[i].2.2.1, ys))) := by
  subst hn
  have hlen := h.own.length
  obtain ⟨d2, _⟩ := h.own.store (i * 4 + 2) (by omega) (.bool true)
  obtain ⟨d3, _⟩ := h.own.store (i * 4 + 3) (by omega) (.bool true)
  obtain ⟨vb', vl', e0, e1, e2, e3, a, b, c'⟩ := h.at_ i hi'
  obtain rfl : vb' = vb := by
    rw [List.getElem?_eq_getElem (by omega)] at e2
    rw [c2] at d2
    exact Option.some.inj (e2.symm.trans d2.symm)
  obtain rfl : vl' = vl := by
    rw [List.getElem?_eq_getElem (by omega)] at e3
    rw [c3] at d3
    exact Option.some.inj (e3.symm.trans d3.symm)
  have hm := h.mono
  have key : ∀ (u : Value) (xs : List Int) (x : Tk), OwnH w (B i) (B (i + 1)) u xs → w.grownBy w' u.ownBlock → TkAt w' (B i) (B (i + 1)) raw i x → TkA w' lo hi B (.slice (some ⟨g, 0, none⟩) ts.length c) raw (ts.set i x) := fun u xs x hu hg hx => {
    own := by rw [List.length_set]; exact h.own.keptV (T' := 2) (size' := 1) (n' := xs.length) hu.1 (by decide) hg
    vb := h.vb
    b0 := h.b0
    mono := h.mono
    b1 := h.b1
    at_ := fun k hk => by
      rw [List.length_set] at hk
      by_cases hik : k = i
      · subst hik; rw [List.getElem_set_self]; exact hx
      · rw [List.getElem_set_ne (fun e => hik e.symm)]
        refine (h.at_ k hk).kept hg fun q e => ?_
        have h1 := (hu.1.lt q e).1
        have h2 := hu.2 q e
        rcases Nat.lt_or_gt_of_ne hik with h3 | h3
        · have := hm (k + 1) i (by omega); omega
        · have := hm (i + 1) k (by omega); omega }
  have hsym : vl'.ownBlock = none ∨ vl'.ownBlock ≠ vb'.ownBlock := by
    rcases c' with h1 | h1
    · rw [h1]
      cases vl'.ownBlock with
      | none => exact .inl rfl
      | some j => exact .inr (by simp)
    · exact .inr (Ne.symm h1)
  refine ⟨a, b, fun ys ho hg => key vb' _ _ a hg ⟨vb', vl', e0, e1, e2, e3, a.sameI ho, ⟨b.1.kept hg hsym, b.2⟩, c'⟩, fun ys ho hg => key vl' _ _ b hg ⟨vb', vl', e0, e1, e2, e3, ⟨a.1.kept hg c', a.2⟩, b.sameI ho, c'⟩⟩

def tkN (t : Tk) : Nat := 2 + t.2.2.1.length + t.2.2.2.length
def mkIx (k : Nat) (ts : List Tk) (i : Nat) : Nat := k + ((ts.take i).map tkN).sum
def tksN (ts : List Tk) : Nat := (ts.map tkN).sum
theorem mkIx_zero (k : Nat) (ts : List Tk) : mkIx k ts 0 = k := by simp [mkIx]
theorem mkIx_succ (k : Nat) (ts : List Tk) (i : Nat) (h : i < ts.length) : mkIx k ts (i + 1) = mkIx k ts i + tkN ts[i] := by
  unfold mkIx
  rw [List.take_succ_eq_append_getElem h, List.map_append, List.sum_append]
  simp; omega
theorem mkIx_full (k : Nat) (ts : List Tk) : mkIx k ts ts.length = k + tksN ts := by simp [mkIx, tksN]
theorem mkIx_mono (k : Nat) (ts : List Tk) : ∀ i, i ≤ ts.length → mkIx k ts i ≤ k + tksN ts := by
  intro i hi
  have h1 : (ts.take i).map tkN ++ (ts.drop i).map tkN = ts.map tkN := by rw [← List.map_append, List.take_append_drop]
  have h2 := congrArg List.sum h1
  rw [List.sum_append] at h2
  unfold mkIx tksN; omega
def mkTk (k : Nat) (t : Tk) : Tk := ((k : Int), (k : Int) + 1, marks ((k : Int) + 2) t.2.2.1.length, marks ((k : Int) + 2 + t.2.2.1.length) t.2.2.2.length)
def mkAll (k : Nat) (ts : List Tk) : List Tk := (List.range ts.length).map fun i => mkTk (mkIx k ts i) (ts[i]?.getD (0, 0, [], []))
theorem mkAll_length (k : Nat) (ts : List Tk) : (mkAll k ts).length = ts.length := by simp [mkAll]
theorem mkAll_get (k : Nat) (ts : List Tk) (i : Nat) (h : i < ts.length) : (mkAll k ts)[i]'(by rw [mkAll_length]; exact h) = mkTk (mkIx k ts i) ts[i] := by
  simp [mkAll, h]
/-- What stands when the first i tasks are marked. -/
def MkTo (k : Nat) (ts ys : List Tk) (i : Nat) : Prop := ys.length = ts.length ∧ ∀ j (h : j < ts.length) (h' : j < ys.length), ys[j] = if j < i then mkTk (mkIx k ts j) ts[j] else ts[j]
theorem MkTo.zero (k : Nat) (ts : List Tk) : MkTo k ts ts 0 := ⟨rfl, fun j h h' => by simp⟩
theorem MkTo.full {k : Nat} {ts ys : List Tk} (h : MkTo k ts ys ts.length) : ys = mkAll k ts := by
  refine List.ext_getElem (by rw [h.1, mkAll_length]) fun i h1 h2 => ?_
  rw [mkAll_length] at h2
  rw [h.2 i h2 h1, mkAll_get k ts i h2, if_pos h2]
theorem MkTo.cur {k : Nat} {ts ys : List Tk} {i : Nat} (h : MkTo k ts ys i) (hi : i < ts.length) (hi' : i < ys.length) : ys[i] = ts[i] := by rw [h.2 i hi hi', if_neg (Nat.lt_irrefl _)]
theorem MkTo.succ {k : Nat} {ts ys : List Tk} {i : Nat} (h : MkTo k ts ys i) (hi : i < ts.length) (x : Tk) (hx : x = mkTk (mkIx k ts i) ts[i]) : MkTo k ts (ys.set i x) (i + 1) := by
  refine ⟨by rw [List.length_set]; exact h.1, fun j hj hj' => ?_⟩
  by_cases hij : i = j
  · subst hij; rw [List.getElem_set_self, if_pos (by omega), hx]
  · rw [List.getElem_set_ne hij, h.2 j hj (by rw [h.1]; exact hj)]
    by_cases h2 : j < i
    · rw [if_pos h2, if_pos (by omega)]
    · rw [if_neg h2, if_neg (by omega)]
theorem GrownL.spanned {lo hi : Nat} {w W W' : World} {row : Option Nat} (h : GrownL (spanT lo hi) w W) (hg : W.grownBy W' row) (hr : ∀ k, row = some k → lo ≤ k ∧ k < hi) : GrownL (spanT lo hi) w W' := h.grown hg fun j e => .inl (mem_spanT.2 (hr j e))

set_option maxHeartbeats 2000000 in
theorem markTaskS_any (v : Value) (ts : List Tk) (raw : List Value) (B : Nat → Nat) (k lo hi : Nat) (w : World) (h : TkA w lo hi B v raw ts) (hk : 1 ≤ k) (hs : k + tksN ts ≤ 100000000) :
    Calls Try.prog 105 #[v, .int .i64 k] w fun e w' => e = .returned (.int .i64 ((k + tksN ts : Nat) : Int)) ∧ (∃ raw', TkA w' lo hi B v raw' (mkAll k ts)) ∧ GrownL (spanT lo hi) w w' := by
  obtain ⟨n, hn⟩ : ∃ n, ts.length = n := ⟨_, rfl⟩
  have HV : ∃ a c, v = .slice a n c ∧ (0 < n → ∃ g, a = some ⟨g, 0, none⟩) := by
    rcases h.own.2 with ⟨h1, h0⟩ | ⟨g, cap, cur, h1, _⟩
    · exact ⟨none, 0, by rw [h1, ← hn, h0], fun h => by omega⟩
    · exact ⟨_, cap, by rw [h1, hn], fun _ => ⟨g, rfl⟩⟩
  obtain ⟨a, c, rfl, ha⟩ := HV
  have HA := Lib.hid ha
  have HN := Lib.hid hn
  have H0 := Lib.hid h
  have HIX : Hid (∀ i, i ≤ n → mkIx k ts i ≤ 100000000) := fun i hi => Nat.le_trans (mkIx_mono k ts i (by omega)) hs
  have HF : Hid (mkIx k ts n = k + tksN ts) := by show _ = _; rw [← hn]; exact mkIx_full k ts
  have HI0 : Hid (mkIx k ts 0 = k) := mkIx_zero k ts
  have hn31 : n ≤ 100000000 := by
    have h1 : ∀ l : List Tk, l.length ≤ tksN l := by
      intro l
      induction l with
      | nil => simp [tksN]
      | cons x l ih => simp only [tksN, List.map_cons, List.sum_cons, List.length_cons, tkN] at ih ⊢; omega
    have := h1 ts
    omega
  rw [← HF.out]
  clear h ha hn hs
  go_enter Try.func105, Try.ntmps105
  go_wp2
  go_loopw [1, 5] (fun vk vi wr => ∃ i K : Nat, i ≤ n ∧ Hid (K = mkIx k ts i) ∧ vi = .int .i64 i ∧ vk = .int .i64 K ∧ Hid (∃ raw' ys, TkA wr lo hi B (.slice a n c) raw' ys ∧ MkTo k ts ys i) ∧ Hid (GrownL (spanT lo hi) w wr)) (fun _ vi _ => n - (intOf vi).toNat)
  case atStart => exact ⟨0, k, Nat.zero_le _, HI0.out.symm, rfl, rfl, ⟨raw, ts, H0.out, MkTo.zero k ts⟩, GrownL.refl _ _⟩
  case round =>
    obtain ⟨i, K, hi', HK, rfl, rfl, HT, HG⟩ := hrel
    obtain ⟨wr', rfl⟩ : ∃ wr' : World, wr' = wr := ⟨_, rfl⟩
    clear H0 HI0
    by_cases hlt : i < n
    · obtain ⟨g, rfl⟩ := HA.out (by omega)
      obtain ⟨raw', ys, ht, hm⟩ := HT.out
      have hts : i < ts.length := by rw [HN.out]; exact hlt
      have hyl : ys.length = n := by rw [hm.1, HN.out]
      have hys : i < ys.length := by omega
      have hcur := hm.cur hts hys
      have hKb := HIX.out (i + 1) (by omega)
      rw [mkIx_succ k ts i hts, ← HK.out] at hKb
      have HKS : Hid (mkIx k ts (i + 1) = K + tkN ts[i]) := by show _ = _; rw [mkIx_succ k ts i hts, HK.out]
      obtain ⟨p1, p1', ⟨vb, vl, k0, k1, c2, c3⟩, f0, f1⟩ := ht.put hyl.symm i hys (K : Int)
      have p2 := (p1.put (by rw [List.length_set]; exact hyl.symm) i (by rw [List.length_set]; exact hys) ((K : Int) + 1)).2.1
      obtain ⟨u0, c0⟩ : ∃ u, wr'.cell? ⟨g, i * 4, none⟩ = some u := ⟨_, k0⟩
      obtain ⟨u1, c1⟩ : ∃ u, wr'.cell? ⟨g, i * 4 + 1, none⟩ = some u := ⟨_, k1⟩
      clear p1' k0 k1
      rw [List.getElem_set_self, List.set_set] at p2
      obtain ⟨t, htk⟩ : ∃ t, ts[i] = t := ⟨_, rfl⟩
      rw [hcur, htk] at p2
      rw [htk] at hKb HKS
      have hgv := (ht.own.lt g rfl).1
      have hgh := ht.vb g rfl
      have hg1 := (show OwnV _ _ _ _ (.slice (some ⟨g, 0, none⟩) n c) n raw' from by have := ht.own; rwa [hyl] at this).store (i * 4) (by rw [ht.own.length]; omega) (.int .i64 (K : Int)) |>.2.2.2
      have hg2 := (show OwnV _ _ _ _ (.slice (some ⟨g, 0, none⟩) n c) n _ from by have := p1.own; rwa [List.length_set, hyl] at this).store (i * 4 + 1) (by rw [p1.own.length, List.length_set]; omega) (.int .i64 ((K : Int) + 1)) |>.2.2.2
      have G2 := Lib.hid ((HG.out.spanned hg1 fun q e => by cases e; exact ⟨hgv, hgh⟩).spanned hg2 fun q e => by cases e; exact ⟨hgv, hgh⟩)
      obtain ⟨W2, hW2⟩ : ∃ W, (wr'.setCell ⟨g, i * 4, none⟩ (.int .i64 (K : Int))).setCell ⟨g, i * 4 + 1, none⟩ (.int .i64 ((K : Int) + 1)) = W := ⟨_, rfl⟩
      rw [hW2] at p2 G2
      obtain ⟨ys2, hys2⟩ : ∃ z, ys.set i ((K : Int), (K : Int) + 1, t.2.2) = z := ⟨_, rfl⟩
      have hl2 : ys2.length = n := by rw [← hys2, List.length_set]; exact hyl
      have hi2 : i < ys2.length := by omega
      have hv2 : ys2[i] = ((K : Int), (K : Int) + 1, t.2.2) := by simp only [← hys2, List.getElem_set_self]
      rw [hys2] at p2
      obtain ⟨vb2, vl2, q0, q1, d2, d3⟩ := (p2.put hl2.symm i hi2 0).2.2.1
      clear q0 q1
      have ob := (p2.row (w' := W2) hl2.symm i hi2 vb2 vl2 d2 d3).1
      have hb := fun w' => (p2.row (w' := w') hl2.symm i hi2 vb2 vl2 d2 d3).2.2.1
      simp only [hv2] at hb
      rw [hv2] at ob
      have hN : tkN t = 2 + t.2.2.1.length + t.2.2.2.length := rfl
      have HM1 := Lib.hid (markInt64S_any vb2 t.2.2.1 ((K : Int) + 1 + 1) (B i) W2 ob.1 (by omega) (by omega) (by omega))
      obtain ⟨L1, hL1⟩ : ∃ z, t.2.2.1.length = z := ⟨_, rfl⟩
      obtain ⟨L2, hL2⟩ : ∃ z, t.2.2.2.length = z := ⟨_, rfl⟩
      have HNN : Hid (tkN t = 2 + L1 + L2) := by show _ = _; rw [hN, hL1, hL2]
      have h100 : K + 2 + L1 + L2 ≤ 100000000 := by have := HNN.out; omega
      rw [hL1] at HM1
      have HOB := Lib.hid ob
      have HROW := Lib.hid hb
      have HP2 := Lib.hid p2
      have HMM := Lib.hid hm
      have HTS := Lib.hid hts
      have HHI2 := Lib.hid hl2
      have HTK := Lib.hid htk
      have HL := Lib.hid (And.intro hL1 hL2)
      have HYS := Lib.hid hys2
      have hi0 : (0 : Int) ≤ (i : Int) := by omega
      have hi1 : (i : Int) < (n : Int) := by omega
      have e2 := d2
      clear hv2 hL1 hL2 ob hb p2 hm hl2 htk hys2 hg1 hg2 p1 ht hcur hyl hys hKb HIX HG HT hN d3 hgv hgh
      go_wp2_with fail
      refine HM1.out.mono ?_
      rintro e W3 ⟨rfl, ho3, hg3⟩
      have hl2 := HHI2.out
      have p3 := HROW.out W3 _ ho3 hg3
      have G3 := Lib.hid (G2.out.spanned hg3 fun q e => ⟨by have h1 := (HOB.out.1.lt q e).1; have h2 := HP2.out.b0; have h3 := HP2.out.mono 0 i (Nat.zero_le _); omega, by have h1 := HOB.out.2 q e; have h2 := HP2.out.b1 (i + 1); omega⟩)
      obtain ⟨ys3, hys3⟩ : ∃ z, ys2.set i ((K : Int), (K : Int) + 1, marks ((K : Int) + 1 + 1) L1, t.2.2.2) = z := ⟨_, rfl⟩
      have hl3 : ys3.length = n := by rw [← hys3, List.length_set]; exact hl2
      have hi3 : i < ys3.length := by omega
      have hv3 : ys3[i] = ((K : Int), (K : Int) + 1, marks ((K : Int) + 1 + 1) L1, t.2.2.2) := by simp only [← hys3, List.getElem_set_self]
      rw [hys3] at p3
      obtain ⟨vb3, vl3, q0, q1, d2, d3⟩ := (p3.put hl3.symm i hi3 0).2.2.1
      clear q0 q1
      have ol := (p3.row (w' := W3) hl3.symm i hi3 vb3 vl3 d2 d3).2.1
      have hb := fun w' => (p3.row (w' := w') hl3.symm i hi3 vb3 vl3 d2 d3).2.2.2
      simp only [hv3] at hb
      rw [hv3] at ol
      have HM2 := Lib.hid (markInt64S_any vl3 t.2.2.2 ((K : Int) + 1 + 1 + (L1 : Int)) (B i) W3 ol.1 (by omega) (by omega) (by have := HL.out; omega))
      rw [HL.out.2] at HM2
      have HOB3 := Lib.hid ol
      have HROW3 := Lib.hid hb
      have HP3 := Lib.hid p3
      have HYS3 := Lib.hid hys3
      clear hl2 p3 HM1 HROW ho3 hg3 hl3 hv3 hys3 ol hb d2 c0 c1 c2 c3 f0 f1 e2 HOB HHI2 G2
      go_wp2_with fail
      refine HM2.out.mono ?_
      rintro e W4 ⟨rfl, ho4, hg4⟩
      have p4 := HROW3.out W4 _ ho4 hg4
      have G4 := Lib.hid (G3.out.spanned hg4 fun q e => ⟨by have h1 := (HOB3.out.1.lt q e).1; have h2 := HP2.out.b0; have h3 := HP2.out.mono 0 i (Nat.zero_le _); omega, by have h1 := HOB3.out.2 q e; have h2 := HP2.out.b1 (i + 1); omega⟩)
      have HT4 : Hid (∃ raw' ys, TkA W4 lo hi B (.slice (some ⟨g, 0, none⟩) n c) raw' ys ∧ MkTo k ts ys (i + 1)) := by
        refine ⟨_, _, p4, ?_⟩
        rw [← HYS3.out, ← HYS.out, List.set_set, List.set_set]
        refine HMM.out.succ HTS.out _ ?_
        rw [HTK.out, ← HK.out]
        unfold mkTk
        rw [HL.out.1, HL.out.2, show (K : Int) + 1 + 1 = (K : Int) + 2 by omega]
      obtain ⟨K', hK'⟩ : ∃ K', K + 2 + L1 + L2 = K' := ⟨_, rfl⟩
      have HK' : Hid (K' = mkIx k ts (i + 1)) := by show _ = _; rw [HKS.out, HNN.out]; omega
      have hKK : (K : Int) + 1 + 1 + (L1 : Int) + (L2 : Int) = (K' : Int) := by omega
      have HKK := Lib.hid hKK
      clear p4 ho4 hg4 HM2 HROW3 HP2 HP3 HYS HYS3 HMM HTS HOB3 G3 hK' hKK d3
      go_wp2
      go_roundw
      case rel => exact ⟨i + 1, K', by omega, HK'.out, by go_num, by rw [← HKK.out], HT4.out, G4.out⟩
      case measure => simp [intOf]; omega
    · have hin : i = n := by omega
      clear HIX
      have HEND : Hid (∃ raw', TkA wr' lo hi B (.slice a n c) raw' (mkAll k ts)) := by
        obtain ⟨raw', ys, ht, hm⟩ := HT.out
        rw [hin, ← HN.out] at hm
        rw [hm.full] at ht
        exact ⟨raw', ht⟩
      have HKE : Hid (K = mkIx k ts n) := by have := HK.out; rw [hin] at this; exact this
      clear HT HK HF
      go_wp2
      go_ret
      exact ⟨ret_int (by rw [← HKE.out]), HEND.out, HG.out⟩
theorem TkA.reads {w : World} {lo hi : Nat} {B : Nat → Nat} {v : Value} {raw : List Value} {xs : List Tk} (h : TkA w lo hi B v raw xs) (hm : xs.length ≤ maxLen)
    (hw : ∀ i (h : i < xs.length), (Lit.int .i64 xs[i].1).wf = true ∧ (Lit.int .i64 xs[i].2.1).wf = true ∧ (∀ n ∈ xs[i].2.2.1, (Lit.int .i64 n).wf = true) ∧ (∀ n ∈ xs[i].2.2.2, (Lit.int .i64 n).wf = true)) : TasksR w v xs := by
  have hv := h.own
  by_cases h0 : 1 ≤ xs.length
  · rcases hv.2 with ⟨_, h1⟩ | ⟨g, cap, cur, rfl, hg, hb, hc⟩
    · omega
    refine ⟨hm, _, cap, rfl, hc.1, fun i hi => ?_⟩
    obtain ⟨vb, vl, p0, p1, p2, p3, o1, o2, _⟩ := h.at_ i hi
    obtain ⟨w1, w2, w3, w4⟩ := hw i hi
    refine ⟨g, 0, _, rfl, (hv.lt g rfl).2, task_cells.2 ⟨vb, vl, rfl, w1, w2, OwnI.slR o1.1 w3, OwnI.slR o2.1 w4⟩, fun j hj => ?_⟩
    have hj4 : j < 4 := hj
    have hl := hv.length
    have h5 := (hv.store (i * 4 + j) (by omega) (.bool true)).1
    rw [Nat.zero_add]
    show w.cell? ⟨g, i * 4 + j, none⟩ = _
    rw [h5]
    have hj5 : j = 0 ∨ j = 1 ∨ j = 2 ∨ j = 3 := by omega
    rcases hj5 with rfl | rfl | rfl | rfl
    · rw [← List.getElem?_eq_getElem]; exact p0
    · rw [← List.getElem?_eq_getElem]; exact p1
    · rw [← List.getElem?_eq_getElem]; exact p2
    · rw [← List.getElem?_eq_getElem]; exact p3
  · obtain rfl : xs = [] := List.eq_nil_of_length_eq_zero (by omega)
    rcases hv.2 with ⟨h2, _⟩ | ⟨g, cap, cur, h2, _⟩
    · exact ⟨hm, _, _, h2, Nat.le_refl _, fun i hi => absurd hi (Nat.not_lt_zero _)⟩
    · exact ⟨hm, _, _, h2, Nat.zero_le _, fun i hi => absurd hi (Nat.not_lt_zero _)⟩
theorem marks_win {k : Int} {n : Nat} (h0 : 0 ≤ k) (h1 : k + n ≤ 1000000000) : ∀ x ∈ marks k n, (Lit.int .i64 x).wf = true := fun x hx => by
  obtain ⟨i, hi, rfl⟩ := List.getElem_of_mem hx
  rw [marks_length] at hi
  rw [marks_get]
  exact wf_i64_iff.2 ⟨by omega, by omega⟩
theorem tksN_len (ts : List Tk) : ts.length ≤ tksN ts := by
  induction ts with
  | nil => simp [tksN]
  | cons x l ih => simp only [tksN, List.map_cons, List.sum_cons, List.length_cons, tkN] at ih ⊢; omega
theorem TkA.marked {w : World} {lo hi k : Nat} {B : Nat → Nat} {v : Value} {raw : List Value} {ts : List Tk} (h : TkA w lo hi B v raw (mkAll k ts)) (hs : k + tksN ts ≤ 100000000) : TasksR w v (mkAll k ts) := by
  have hl := tksN_len ts
  refine h.reads (by rw [mkAll_length]; unfold maxLen; omega) fun i hi => ?_
  rw [mkAll_length] at hi
  have h1 := mkIx_mono k ts (i + 1) (by omega)
  rw [mkIx_succ k ts i hi] at h1
  rw [mkAll_get k ts i hi]
  have h2 : tkN ts[i] = 2 + ts[i].2.2.1.length + ts[i].2.2.2.length := rfl
  unfold mkTk
  refine ⟨wf_i64_iff.2 ⟨by omega, by omega⟩, wf_i64_iff.2 ⟨by simp only; omega, by simp only; omega⟩, marks_win (by omega) (by omega), marks_win (by omega) (by omega)⟩

set_option maxHeartbeats 1000000 in
theorem heldTaskS_any (v : Value) (ts : List Tk) (k : Nat) (w : World) (h : TasksR w v (mkAll k ts)) (hk : 1 ≤ k) (hs : k + tksN ts ≤ 100000000) :
    Calls Try.prog 107 #[v, .int .i64 k] w fun e w' => e = .returned (.int .i64 ((k + tksN ts : Nat) : Int)) ∧ w = w' := by
  obtain ⟨n, hn⟩ : ∃ n, ts.length = n := ⟨_, rfl⟩
  obtain ⟨a, c, rfl, hcap, hc⟩ := h.at_
  rw [mkAll_length, hn] at hcap ⊢
  have HN := Lib.hid hn
  have HIX : Hid (∀ i, i ≤ n → mkIx k ts i ≤ 100000000) := fun i hi => Nat.le_trans (mkIx_mono k ts i (by omega)) hs
  have HF : Hid (mkIx k ts n = k + tksN ts) := by show _ = _; rw [← hn]; exact mkIx_full k ts
  have HI0 : Hid (mkIx k ts 0 = k) := mkIx_zero k ts
  have hn31 : n ≤ 100000000 := by have := tksN_len ts; omega
  have HC : Hid (∀ i (hi : i < ts.length), ∃ b o vb vl, a = some ⟨b, o, none⟩ ∧ b < w.heap.size ∧ Ints w vb (marks ((mkIx k ts i : Int) + 1 + 1) ts[i].2.2.1.length) ∧ Ints w vl (marks ((mkIx k ts i : Int) + 1 + 1 + (ts[i].2.2.1.length : Int)) ts[i].2.2.2.length) ∧
      w.cell? ⟨b, o + i * 4, none⟩ = some (.int .i64 (mkIx k ts i : Int)) ∧ w.cell? ⟨b, o + i * 4 + 1, none⟩ = some (.int .i64 ((mkIx k ts i : Int) + 1)) ∧ w.cell? ⟨b, o + i * 4 + 2, none⟩ = some vb ∧ w.cell? ⟨b, o + i * 4 + 3, none⟩ = some vl) := fun i hi => by
    obtain ⟨b, o, vb, vl, h1, h2, h3, h4, _, _, c0, c1, c2, c3⟩ := hc i (by rw [mkAll_length]; exact hi)
    rw [mkAll_get k ts i hi] at h3 h4 c0 c1
    have e2 : (mkIx k ts i : Int) + 1 + 1 = (mkIx k ts i : Int) + 2 := by omega
    rw [e2]
    exact ⟨b, o, vb, vl, h1, h2, h3.ints.1, h4.ints.1, c0, c1, c2, c3⟩
  clear h hc hn hs
  go_enter Try.func107, Try.ntmps107
  go_wp2
  go_loop [1, 5] (fun vk vi => ∃ i K : Nat, i ≤ n ∧ Hid (K = mkIx k ts i) ∧ vi = .int .i64 i ∧ vk = .int .i64 K) (fun _ vi => n - (intOf vi).toNat)
  case atStart => exact ⟨0, k, Nat.zero_le _, HI0.out.symm, rfl, rfl⟩
  case round =>
    obtain ⟨i, K, hi', HK, rfl, rfl⟩ := hrel
    clear HI0
    by_cases hlt : i < n
    · have hts : i < ts.length := by rw [HN.out]; exact hlt
      obtain ⟨b, o, vb, vl, rfl, hb, h1, h2, c0, c1, c2, c3⟩ := HC.out i hts
      have hKb := HIX.out (i + 1) (by omega)
      rw [mkIx_succ k ts i hts, ← HK.out] at hKb
      have HKS : Hid (mkIx k ts (i + 1) = K + tkN ts[i]) := by show _ = _; rw [mkIx_succ k ts i hts, HK.out]
      rw [← HK.out] at h1 h2 c0 c1
      have hN : tkN ts[i] = 2 + ts[i].2.2.1.length + ts[i].2.2.2.length := rfl
      obtain ⟨L1, hL1⟩ : ∃ z, ts[i].2.2.1.length = z := ⟨_, rfl⟩
      obtain ⟨L2, hL2⟩ : ∃ z, ts[i].2.2.2.length = z := ⟨_, rfl⟩
      rw [hL1, hL2] at hN
      rw [hL1] at h1 h2
      rw [hL2] at h2
      have HM1 := Lib.hid (heldInt64S_any vb ((K : Int) + 1 + 1) L1 w h1 (by omega) (by omega) (by omega))
      have HM2 := Lib.hid (heldInt64S_any vl ((K : Int) + 1 + 1 + (L1 : Int)) L2 w h2 (by omega) (by omega) (by omega))
      obtain ⟨K', hK'⟩ : ∃ K', K + 2 + L1 + L2 = K' := ⟨_, rfl⟩
      have HK' : Hid (K' = mkIx k ts (i + 1)) := by show _ = _; rw [HKS.out, hN]; omega
      have HKK : Hid ((K : Int) + 1 + 1 + (L1 : Int) + (L2 : Int) = (K' : Int)) := by show _ = _; omega
      have hKm : K + 2 + L1 + L2 ≤ 100000000 := by omega
      have i0 : (0 : Int) ≤ (i : Int) := by omega
      have i1 : (i : Int) < (n : Int) := by omega
      have n1 : ¬ (K : Int) + 1 + 1 + (L1 : Int) < 0 := by omega
      have n2 : ¬ (K : Int) + 1 + 1 + (L1 : Int) + (L2 : Int) < 0 := by omega
      clear h1 h2 hKb hL1 hL2 hN hK' HC HIX HKS
      go_wp2_with (first
        | (go_at_call_of 108 vb; refine HM1.out.mono ?_; rintro e W1 ⟨rfl, rfl⟩)
        | (go_at_call_of 108 vl; refine HM2.out.mono ?_; rintro e W1 ⟨rfl, rfl⟩))
      go_round
      case rel => exact ⟨i + 1, K', by omega, HK'.out, by go_num, by rw [← HKK.out]⟩
      case measure => simp [intOf]; omega
    · have hin : i = n := by omega
      have HKE : Hid (K = k + tksN ts) := by have := HK.out; rw [hin, HF.out] at this; exact this
      clear HC HIX HK HF
      go_wp2
      go_ret
      exact ⟨ret_int (by have := HKE.out; omega), rfl⟩
end Go.Proofs.Ytmhepomjbaendaa
