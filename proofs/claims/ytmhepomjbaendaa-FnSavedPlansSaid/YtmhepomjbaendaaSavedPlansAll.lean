/- The walk of FnSavedPlans. Conditions: none. With the texts that it alone needs. -/
import Derived.Test.YtmhepomjbaendaaTkOwn
import Derived.Test.YtmhepomjbaendaaAppendStep
import Derived.Test.YtmhepomjbaendaaTaken
import Derived.Test.YtmhepomjbaendaaDraws
import Derived.Test.YtmhepomjbaendaaAreTasks
import Derived.Test.YtmhepomjbaendaaRecov
import Derived.Test.YtmhepomjbaendaaStoredP
import Derived.Test.YtmhepomjbaendaaBigSaved
import Derived.Test.YtmhepomjbaendaaOwnInt
import Derived.Test.YtmhepomjbaendaaSameSaved
import Derived.Test.YtmhepomjbaendaaLawCode
import Derived.Deep.CutRange
namespace Go.Proofs.Ytmhepomjbaendaa
open Go.RowKit Go.Shelf Go.BigFrame
set_option linter.unusedVariables false
set_option linter.unusedSimpArgs false

/-- append at a step of a region, the world drawn. -/
theorem step_append_i64D {ops : Array Oper} {o : Oper} {a : Act} {K : Act → World → Prop} {Q : Exit → Act → World → Prop} {E : Prop} {W : World} (hgd : o.guard = none) (s x : Operand)
    (ho : o.op = .call { callee := .builtin .append, args := #[s, x], argTypes := #[25, 25] }) (B : Nat) (v : Value) (xs ys : List Int) (hy : 0 < ys.length)
    (hs : a.eval s = v) (c : Nat) (hx : a.eval x = .slice (some ⟨W.heap.size, 0, none⟩) ys.length c) (hown : OwnI W B v xs) (hB : B ≤ W.heap.size) (hsmall : xs.length + ys.length ≤ 1099511627776)
    (hK : ∀ g c n w', Hid (n = xs.length + ys.length) → OwnI w' B (.slice (some ⟨g, 0, none⟩) n c) (xs ++ ys) → W.grownBy w' v.ownBlock → (v.ownBlock = some g ∨ g = W.heap.size + 1) → K (a.put o.dst (.slice (some ⟨g, 0, none⟩) n c)) w') :
    if Region.wanted o (yielded ops a.tmps) = true then Oper.wp Try.prog o a (W.alloc (.cells (ys.map (Value.int .i64)).toArray 2)).drew K Q else E := by
  obtain ⟨i0, hi, hz0, hz1, hz2⟩ := info_parts info_i64
  have hown' : (W.alloc (.cells (ys.map (Value.int .i64)).toArray 2)).drew.ownsRow B 2 1 v xs.length (xs.map (Value.int .i64)) := World.ownsRow.drew (World.ownsRow.alloc hown _)
  refine step_append_lies _ hgd s x 25 ho B 2 i0 (.int .i64 0) 1 8 Try.underlying25 hi hz0 hz1 hz2 rfl (by decide) v xs.length _ hs hown' ⟨W.heap.size, 0, none⟩ ys.length c (ys.map (Value.int .i64)) hx (by simp) (cells_lit W _ _) ?_ hy (by unfold maxLen; omega) (by omega) (by simp; omega) (W.heap.size + 1) (by simp) ?_
  · intro u hu; obtain ⟨y, _, rfl⟩ := List.mem_map.1 hu; rfl
  · intro g cap w' h1 h2 h5 _
    have h2' : (W.alloc (.cells (ys.map (Value.int .i64)).toArray 2)).grownBy w' v.ownBlock := ⟨h2.os, h2.tape, h2.output, h2.size, h2.block⟩
    obtain ⟨g', c', he, h3, h4⟩ := app_shape hy hown h1 h2'
    obtain ⟨rfl, rfl⟩ : g = g' ∧ cap = c' := by simpa using he
    exact hK g cap _ w' rfl h3 h4 h5
end Go.Proofs.Ytmhepomjbaendaa

namespace Go.Proofs.Ytmhepomjbaendaa
open Go.RowKit
set_option linter.unusedVariables false
set_option linter.unusedSimpArgs false

/-- 'append(s, y, ..)' where the region draws its order; the new slice lies in the old block or in a new one. -/
theorem step_append_i64L {ops : Array Oper} {o : Oper} {a : Act} {K : Act → World → Prop} {Q : Exit → Act → World → Prop} {E : Prop} {W : World} (hgd : o.guard = none) (s x : Operand)
    (ho : o.op = .call { callee := .builtin .append, args := #[s, x], argTypes := #[25, 25] }) (B : Nat) (v : Value) (xs ys : List Int) (hy : 0 < ys.length)
    (hs : a.eval s = v) (c : Nat) (hx : a.eval x = .slice (some ⟨W.heap.size, 0, none⟩) ys.length c) (hown : OwnI W B v xs) (hB : B ≤ W.heap.size) (hsmall : xs.length + ys.length ≤ 1099511627776)
    (hK : ∀ g c w', OwnI w' B (.slice (some ⟨g, 0, none⟩) (xs.length + ys.length) c) (xs ++ ys) → W.grownBy w' v.ownBlock → (v.ownBlock = some g ∨ W.heap.size ≤ g) → K (a.put o.dst (.slice (some ⟨g, 0, none⟩) (xs.length + ys.length) c)) w') :
    if Region.wanted o (yielded ops a.tmps) = true then Oper.wp Try.prog o a (W.alloc (.cells (ys.map (Value.int .i64)).toArray 2)).drew K Q else E := by
  obtain ⟨i0, hi, hz0, hz1, hz2⟩ := info_parts info_i64
  have hown' : (W.alloc (.cells (ys.map (Value.int .i64)).toArray 2)).drew.ownsRow B 2 1 v xs.length (xs.map (Value.int .i64)) := World.ownsRow.drew (World.ownsRow.alloc hown _)
  refine step_append_lies _ hgd s x 25 ho B 2 i0 (.int .i64 0) 1 8 Try.underlying25 hi hz0 hz1 hz2 rfl (by decide) v xs.length _ hs hown' ⟨W.heap.size, 0, none⟩ ys.length c (ys.map (Value.int .i64)) hx (by simp) (cells_lit W _ _) ?_ hy (by unfold maxLen; omega) (by omega) (by simp; omega) (W.heap.size + 1) (by simp) ?_
  · intro u hu; obtain ⟨y, _, rfl⟩ := List.mem_map.1 hu; rfl
  · intro g cap w' h1 h2 h5 _
    have h2' : (W.alloc (.cells (ys.map (Value.int .i64)).toArray 2)).grownBy w' v.ownBlock := ⟨h2.os, h2.tape, h2.output, h2.size, h2.block⟩
    obtain ⟨g', c', he, h3, h4⟩ := app_shape hy hown h1 h2'
    obtain ⟨rfl, rfl⟩ : g = g' ∧ cap = c' := by simpa using he
    exact hK g cap w' h3 h4 (h5.imp id (fun e => by omega))
/-- .. in a plain list. -/
theorem append_i64L {ops : Array Oper} {rest : List Oper} {o : Oper} {a : Act} {Q : Exit → Act → World → Prop} {W : World} (hgd : o.guard = none) (s x : Operand)
    (ho : o.op = .call { callee := .builtin .append, args := #[s, x], argTypes := #[25, 25] }) (B : Nat) (v : Value) (xs ys : List Int) (hy : 0 < ys.length)
    (hs : a.eval s = v) (c : Nat) (hx : a.eval x = .slice (some ⟨W.heap.size, 0, none⟩) ys.length c) (hown : OwnI W B v xs) (hB : B ≤ W.heap.size) (hsmall : xs.length + ys.length ≤ 1099511627776)
    (hK : ∀ g c w', OwnI w' B (.slice (some ⟨g, 0, none⟩) (xs.length + ys.length) c) (xs ++ ys) → W.grownBy w' v.ownBlock → (v.ownBlock = some g ∨ W.heap.size ≤ g) → wpList Try.prog ops Q rest (a.put o.dst (.slice (some ⟨g, 0, none⟩) (xs.length + ys.length) c)) w') :
    wpList Try.prog ops Q (o :: rest) a (W.alloc (.cells (ys.map (Value.int .i64)).toArray 2)) := by
  obtain ⟨i0, hi, hz0, hz1, hz2⟩ := info_parts info_i64
  refine wpList_append_lies _ hgd s x 25 ho B 2 i0 (.int .i64 0) 1 8 Try.underlying25 hi hz0 hz1 hz2 rfl (by decide) v xs.length _ hs (World.ownsRow.alloc hown _) ⟨W.heap.size, 0, none⟩ ys.length c (ys.map (Value.int .i64)) hx (by simp) (cells_lit W _ _) ?_ hy (by unfold maxLen; omega) (by omega) (by simp; omega) (W.heap.size + 1) (by simp) ?_
  · intro u hu; obtain ⟨y, _, rfl⟩ := List.mem_map.1 hu; rfl
  · intro g cap w' h1 h2 h5 _
    obtain ⟨g', c', he, h3, h4⟩ := app_shape hy hown h1 h2
    obtain ⟨rfl, rfl⟩ : g = g' ∧ cap = c' := by simpa using he
    exact hK g cap w' h3 h4 (h5.imp id (fun e => by omega))
/-- A row of the call's own, cut to its first n elements. -/
theorem OwnI.cut {w : World} {B g n c : Nat} {xs : List Int} (h : OwnI w B (.slice (some ⟨g, 0, none⟩) n c) xs) (k : Nat) (hk : k ≤ xs.length) (hn : n = xs.length) : OwnI w B (.slice (some ⟨g, 0, none⟩) k c) (xs.take k) := by
  subst hn
  refine ⟨by simp, ?_⟩
  rcases h.2 with ⟨h1, _⟩ | ⟨g', cap, cur, h1, h2, h3, h4, h5, h6, h7⟩
  · cases h1
  · obtain ⟨rfl, rfl⟩ : g = g' ∧ c = cap := by simpa using h1
    have hl : (xs.take k).length = k := by simp; omega
    refine .inr ⟨g, c, cur, by rw [hl], h2, h3, by rw [hl]; omega, h5, h6, ?_⟩
    rw [hl, List.map_take, ← h7, List.take_take]
    congr 1; omega
end Go.Proofs.Ytmhepomjbaendaa

namespace Go.Proofs.Ytmhepomjbaendaa
open Go.RowKit Go.Shelf Go.BigFrame
set_option linter.unusedVariables false
set_option linter.unusedSimpArgs false

/-- append in a plain list, told with the block in which the new slice lies. -/
theorem append_i64M {ops : Array Oper} {rest : List Oper} {o : Oper} {a : Act} {Q : Exit → Act → World → Prop} {W : World} (hgd : o.guard = none) (s x : Operand)
    (ho : o.op = .call { callee := .builtin .append, args := #[s, x], argTypes := #[25, 25] }) (B : Nat) (v : Value) (xs ys : List Int) (hy : 0 < ys.length)
    (hs : a.eval s = v) (c : Nat) (hx : a.eval x = .slice (some ⟨W.heap.size, 0, none⟩) ys.length c) (hown : OwnI W B v xs) (hB : B ≤ W.heap.size) (hsmall : xs.length + ys.length ≤ 1099511627776)
    (hK : ∀ g c n w', Hid (n = xs.length + ys.length) → OwnI w' B (.slice (some ⟨g, 0, none⟩) n c) (xs ++ ys) → W.grownBy w' v.ownBlock → (v.ownBlock = some g ∨ g = W.heap.size + 1) → wpList Try.prog ops Q rest (a.put o.dst (.slice (some ⟨g, 0, none⟩) n c)) w') :
    wpList Try.prog ops Q (o :: rest) a (W.alloc (.cells (ys.map (Value.int .i64)).toArray 2)) := by
  obtain ⟨i0, hi, hz0, hz1, hz2⟩ := info_parts info_i64
  refine wpList_append_lies _ hgd s x 25 ho B 2 i0 (.int .i64 0) 1 8 Try.underlying25 hi hz0 hz1 hz2 rfl (by decide) v xs.length _ hs (World.ownsRow.alloc hown _) ⟨W.heap.size, 0, none⟩ ys.length c (ys.map (Value.int .i64)) hx (by simp) (cells_lit W _ _) ?_ hy (by unfold maxLen; omega) (by omega) (by simp; omega) (W.heap.size + 1) (by simp) ?_
  · intro u hu; obtain ⟨y, _, rfl⟩ := List.mem_map.1 hu; rfl
  · intro g cap w' h1 h2 h5 _
    obtain ⟨g', c', he, h3, h4⟩ := app_shape hy hown h1 h2
    obtain ⟨rfl, rfl⟩ : g = g' ∧ cap = c' := by simpa using he
    exact hK g cap _ w' rfl h3 h4 h5
/-- What is drawn. -/
def DrRow (i : Nat) (bs ls : List Int) : Prop := bs.length = ls.length ∧ bs.length ≤ i ∧ (∀ k, k < bs.length → 0 ≤ nth bs k ∧ nth bs k < (i : Int) ∧ (0 < k → nth bs (k - 1) < nth bs k)) ∧ ∀ k, k < ls.length → -3 ≤ nth ls k ∧ nth ls k ≤ 3
def DrTk (i : Nat) (x : Tk) : Prop := (0 ≤ x.1 ∧ x.1 ≤ 6) ∧ (0 ≤ x.2.1 ∧ x.2.1 ≤ 3) ∧ DrRow i x.2.2.1 x.2.2.2
theorem DrRow.nil : DrRow 0 [] [] := ⟨rfl, Nat.le_refl _, fun k hk => absurd hk (Nat.not_lt_zero _), fun k hk => absurd hk (Nat.not_lt_zero _)⟩
theorem DrRow.up {i : Nat} {bs ls : List Int} (h : DrRow i bs ls) : DrRow (i + 1) bs ls := ⟨h.1, by have := h.2.1; omega, fun k hk => by have := h.2.2.1 k hk; exact ⟨this.1, by omega, this.2.2⟩, h.2.2.2⟩
theorem nthD_l {l r : List Int} {k : Nat} (h : k < l.length) : nth (l ++ r) k = nth l k := by
  rw [nth_eq (by rw [List.length_append]; omega), nth_eq h, List.getElem_append_left h]
theorem nthD_at {l : List Int} {x : Int} : nth (l ++ [x]) l.length = x := by
  rw [nth_eq (by simp), List.getElem_append_right (Nat.le_refl _)]; simp
theorem DrRow.snoc {i : Nat} {bs ls : List Int} {l : Int} (h : DrRow i bs ls) (h0 : -3 ≤ l) (h1 : l ≤ 3) : DrRow (i + 1) (bs ++ [(i : Int)]) (ls ++ [l]) := by
  obtain ⟨a, b, c, d⟩ := h
  refine ⟨by simp [a], by simp; omega, fun k hk => ?_, fun k hk => ?_⟩
  · rw [List.length_append, List.length_singleton] at hk
    by_cases hl : k < bs.length
    · obtain ⟨c1, c2, c3⟩ := c k hl
      rw [nthD_l hl]
      refine ⟨c1, by omega, fun h0 => ?_⟩
      rw [nthD_l (by omega)]; exact c3 h0
    · obtain rfl : k = bs.length := by omega
      rw [nthD_at]
      refine ⟨by omega, by omega, fun h0 => ?_⟩
      rw [nthD_l (by omega)]
      have := (c (bs.length - 1) (by omega)).2.1
      omega
  · rw [List.length_append, List.length_singleton] at hk
    by_cases hl : k < ls.length
    · rw [nthD_l hl]; exact d k hl
    · obtain rfl : k = ls.length := by omega
      rw [nthD_at]; exact ⟨h0, h1⟩
theorem DrTk.ok {i : Nat} {x : Tk} (h : DrTk i x) : taskOk (i : Int) x = true := by
  obtain ⟨⟨a1, a2⟩, ⟨b1, b2⟩, c1, c2, c3, c4⟩ := h
  unfold taskOk taskHead lagsOk befTo
  simp only [Bool.and_eq_true, decide_eq_true_eq, List.all_eq_true, List.mem_range]
  refine ⟨⟨⟨⟨win_true.2 ⟨a1, by omega⟩, win_true.2 ⟨b1, by omega⟩⟩, c1⟩, fun n hn => ?_⟩, fun k hk => ?_⟩
  · obtain ⟨k, hk, rfl⟩ := List.getElem_of_mem hn
    have := c4 k hk
    rw [nth_eq hk] at this
    exact win_true.2 ⟨by omega, by omega⟩
  · obtain ⟨d1, d2, d3⟩ := c3 k hk
    unfold befAt
    simp only [Bool.and_eq_true, Bool.or_eq_true, decide_eq_true_eq]
    refine ⟨win_true.2 ⟨d1, by omega⟩, ?_⟩
    rcases Nat.eq_zero_or_pos k with h0 | h0
    · exact .inl (by simp [h0])
    · exact .inr (d3 h0)

theorem app_outD {W : World} {X : Nat} {vb : Value} {bs : List Int} (h : OwnI W (X + 1) vb bs) : ∀ j, vb.ownBlock = some j → X ≤ j := fun j e => by have := (h.lt j e).1; omega
theorem GrownL.by1 {g : Nat} {A W : World} (h : GrownL [g] A W) : A.grownBy W (some g) := ⟨h.os, h.tape, h.output, h.size, fun k hk hne => h.block k hk (by intro e; simp at e; exact hne (by rw [e]))⟩
theorem Src.by {W W' : World} {g a : Nat} {v : Value} {row : Option Nat} (h : Src W g v a) (hg : W.grownBy W' row) (hne : some g ≠ row) : Src W' g v a := by
  have hb := hg.block g h.lt hne
  have hc : ∀ o, W'.cell? ⟨g, o, none⟩ = W.cell? ⟨g, o, none⟩ := fun o => by simp only [World.cell?, hb]
  have hf : ∀ o, W'.frozen? ⟨g, o, none⟩ = W.frozen? ⟨g, o, none⟩ := fun o => by simp only [World.frozen?, hb]
  exact ⟨(hc _).trans h.c0, (hc _).trans h.c1, by obtain ⟨s, hs⟩ := h.c2; exact ⟨s, (hc _).trans hs⟩, (hf _).trans h.f1, (hf _).trans h.f2⟩
/-- The source, and the tasks that are drawn already. -/
structure EnvD (w : World) (g : Nat) (v : Value) (a N X : Nat) (vt : Value) (k : Nat) (raw : List Value) (ts : List Tk) (W : World) : Prop where
  s : Src W g v a
  v : OwnV 86 4 W N vt k raw
  vb : ∀ j, vt.ownBlock = some j → j < X
  t : TksOwn W N X raw ts
  b : GrownL [g] w W
  gn : g < N
  wn : N = w.heap.size
  nx : N ≤ X
  x : X ≤ W.heap.size
theorem EnvD.keptS {w : World} {g a a' N X k : Nat} {v vt : Value} {raw : List Value} {ts : List Tk} {W W' : World} {row : Option Nat} (h : EnvD w g v a N X vt k raw ts W) (hg : W.grownBy W' row) (hr : ∀ j, row = some j → j = g ∨ X ≤ j) (hs : Src W' g v a') : EnvD w g v a' N X vt k raw ts W' where
  s := hs
  v := ownsRow_kept (N := 0) h.v h.vb hg (fun j e => by have := h.gn; rcases hr j e with h | h <;> omega)
  vb := h.vb
  t := h.t.kept hg (fun j e => by have := h.gn; rcases hr j e with h | h <;> omega)
  b := h.b.grown hg (fun j e => by have h1 := h.nx; have h2 := h.wn; rcases hr j e with h | h; exact .inl (by simp [h]); exact .inr (by omega))
  gn := h.gn
  wn := h.wn
  nx := h.nx
  x := Nat.le_trans h.x hg.size
theorem EnvD.kept {w : World} {g a N X k : Nat} {v vt : Value} {raw : List Value} {ts : List Tk} {W W' : World} {row : Option Nat} (h : EnvD w g v a N X vt k raw ts W) (hg : W.grownBy W' row) (hr : ∀ j, row = some j → X ≤ j) : EnvD w g v a N X vt k raw ts W' :=
  h.keptS hg (fun j e => .inr (hr j e)) (h.s.by hg (fun e => by have := hr g e.symm; have := h.gn; have := h.nx; omega))
theorem EnvD.pick {w : World} {g a a' N X k : Nat} {v vt : Value} {raw : List Value} {ts : List Tk} {W W' : World} (h : EnvD w g v a N X vt k raw ts W) (hg : GrownL [g] W W') (hs : Src W' g v a') : EnvD w g v a' N X vt k raw ts W' :=
  h.keptS hg.by1 (fun j e => .inl (by simpa using e.symm)) hs
theorem EnvD.up {w : World} {g a N X X' k : Nat} {v vt : Value} {raw : List Value} {ts : List Tk} {W : World} (h : EnvD w g v a N X vt k raw ts W) (h1 : X ≤ X') (h2 : X' ≤ W.heap.size) : EnvD w g v a N X' vt k raw ts W where
  s := h.s
  v := h.v
  vb := fun j hj => by have := h.vb j hj; omega
  t := h.t.hi h1
  b := h.b
  gn := h.gn
  wn := h.wn
  nx := by have := h.nx; omega
  x := h2
theorem EnvD.app {w : World} {g a N X k : Nat} {v vt v5 : Value} {raw cs : List Value} {ts : List Tk} {x : Tk} {W w5 : World} (h : EnvD w g v a N X vt k raw ts W) (hx : TkOwn W X W.heap.size cs x) (ho : OwnV 86 4 w5 N v5 (k + 1) (raw ++ cs)) (hg : W.grownBy w5 vt.ownBlock) :
    EnvD w g v a N w5.heap.size v5 (k + 1) (raw ++ cs) (ts ++ [x]) w5 := by
  have h1 := h.gn
  have h2 := h.nx
  have h3 := h.x
  have h4 := hg.size
  have h5 := h.wn
  exact {
    s := h.s.by hg (fun e => by have := (h.v.lt _ e.symm).1; omega)
    v := ho
    vb := fun j hj => (ho.lt j hj).2
    t := .snoc (h.t.keptV h.v (by decide) hg) ((hx.keptV h.v (by decide) hg).hi h4) (by omega)
    b := h.b.grown hg (fun j e => .inr (by have := (h.v.lt _ e).1; omega))
    gn := h1
    wn := h5
    nx := by omega
    x := Nat.le_refl _ }

theorem one_any (v : Value) (xs : List Int) (g a : Nat) (n : Int) (w : World) (hv : Byts w v xs) (hb : ∀ n ∈ xs, (Lit.int .u8 n).wf = true) (hs : Src w g v a) (ha : a ≤ 1099511627776) (hn : n ≤ 200) :
    Calls Try.prog 124 #[.pointer (some ⟨g, 0, none⟩), .int .i64 n] w fun e w' => (∃ b : Bool, e = .returned (.bool b)) ∧ (∃ a', a' ≤ a + 1 ∧ Src w' g v a') ∧ GrownL [g] w w' := by
  have HC := Lib.hid (pick_any v xs g a n w hv hb hs ha hn)
  clear hv hb hs
  go_enter Try.func124, Try.ntmps124
  go_wp2_with fail
  refine HC.out.mono ?_
  rintro e w' ⟨⟨x, rfl, x0, x1⟩, hs', hg'⟩
  have H := Lib.hid (And.intro hs' hg')
  clear hs' hg' x1
  by_cases h0 : x = 0
  · subst h0
    go_wp2
    go_ret
    exact ⟨⟨_, rfl⟩, H.out⟩
  · have h1 : (x == 0) = false := by simp [h0]
    go_wp2
    go_ret
    exact ⟨⟨_, rfl⟩, H.out⟩

set_option maxRecDepth 100000 in
set_option maxHeartbeats 4000000 in
theorem drawOk_any (v : Value) (xs : List Int) (g a n : Nat) (w : World) (hv : ∀ W, GrownL [g] w W → Byts W v xs) (hb : ∀ n ∈ xs, (Lit.int .u8 n).wf = true) (hs : Src w g v a) (ha : a ≤ 549755813888) (hn : n ≤ 4) :
    Calls Try.prog 77 #[.pointer (some ⟨g, 0, none⟩), .int .i64 n] w fun e w' => ∃ vt ts raw X a', e = .returned vt ∧ EnvD w g v a' w.heap.size X vt n raw ts w' ∧ ts.length = n ∧ (∀ i (h : i < ts.length), DrTk i ts[i]) ∧ a' ≤ a + 20 * n := by
  obtain ⟨N, hN⟩ : ∃ N, w.heap.size = N := ⟨_, rfl⟩
  have hgn : g < N := by rw [← hN]; exact hs.lt
  have HPK : Hid (∀ a (m : Int) W, GrownL [g] w W → Src W g v a → a ≤ 1099511627776 → m ≤ 200 → Calls Try.prog 75 #[.pointer (some ⟨g, 0, none⟩), .int .i64 m] W fun e w' => (∃ x : Int, e = .returned (.int .i64 x) ∧ 0 ≤ x ∧ (1 ≤ m → x < m)) ∧ (∃ a', a' ≤ a + 1 ∧ Src w' g v a') ∧ GrownL [g] W w') := fun a m W hW hs ha hn => pick_any v xs g a m W (hv W hW) hb hs ha hn
  have HON : Hid (∀ a (m : Int) W, GrownL [g] w W → Src W g v a → a ≤ 1099511627776 → m ≤ 200 → Calls Try.prog 124 #[.pointer (some ⟨g, 0, none⟩), .int .i64 m] W fun e w' => (∃ b : Bool, e = .returned (.bool b)) ∧ (∃ a', a' ≤ a + 1 ∧ Src w' g v a') ∧ GrownL [g] W w') := fun a m W hW hs ha hn => one_any v xs g a m W (hv W hW) hb hs ha hn
  have HGN := Lib.hid hgn
  have HN := Lib.hid hN
  have E0 : Hid (EnvD w g v a N (N + 1) (.slice (some ⟨N, 0, none⟩) 0 0) 0 [] [] (w.alloc (.cells #[] 86))) := by
    have ho : OwnV 86 4 (w.alloc (.cells #[] 86)) N (.slice (some ⟨N, 0, none⟩) 0 0) 0 [] := by
      have := World.ownsRow_lit (e := 86) (size := 4) (base := N) w #[] 0 (by omega) (by unfold maxLen; simp) (by simp)
      rw [hN] at this
      simpa [OwnV] using this
    exact ⟨hs.by (grown_alloc w _ none) (by simp), ho, fun j e => by simp [Value.ownBlock] at e; omega, TksOwn.nil (by omega), (GrownL.refl _ w).alloc _, hgn, hN.symm, by omega, by simp; omega⟩
  clear hv hb hs
  go_enter Try.func77, Try.ntmps77
  rw [hN]
  go_wp2
  go_loopw [5, 6] (fun vo vi wr => ∃ (i m gg c X a' : Nat) (raw : List Value) (ts : List Tk), i ≤ n ∧ vi = .int .i64 i ∧ Hid (m = i) ∧ vo = .slice (some ⟨gg, 0, none⟩) m c ∧ Hid (EnvD w g v a' N X (.slice (some ⟨gg, 0, none⟩) m c) i raw ts wr) ∧ Hid (ts.length = i ∧ (∀ j (h : j < ts.length), DrTk j ts[j]) ∧ a' ≤ a + 20 * i)) (fun _ vi _ => n - (intOf vi).toNat)
  case atStart => exact ⟨0, 0, N, 0, N + 1, a, [], [], Nat.zero_le _, rfl, rfl, rfl, E0.out, ⟨rfl, fun j h => absurd h (Nat.not_lt_zero _), Nat.le_refl _⟩⟩
  case round =>
    obtain ⟨i, m, gg, c, X0, a1, raw, ts, hi, rfl, HM, rfl, E, HT⟩ := hrel
    clear E0
    by_cases hin : i < n
    · have i1 : (i : Int) < (n : Int) := by omega
      have hab := HT.out.2.2
      have ha1 : a1 ≤ 1099511627776 := by omega
      have HP1 := Lib.hid (HPK.out a1 7 wr E.out.b E.out.s ha1 (by omega))
      go_wp2_with fail
      refine HP1.out.mono ?_
      rintro e W1 ⟨⟨y0, rfl, y00, y01⟩, ⟨a2, ha2, hs2⟩, hg2⟩
      have y01 := y01 (by omega)
      have E1 := Lib.hid (E.out.pick hg2 hs2)
      clear hs2 hg2 HP1 E
      have E2 : Hid (EnvD w g v a2 N W1.heap.size (.slice (some ⟨gg, 0, none⟩) m c) i raw ts (W1.alloc (.cells #[.int .i64 y0, .int .i64 0, .slice none 0 0, .slice none 0 0] 86))) :=
        (E1.out.up E1.out.x (Nat.le_refl _)).kept (grown_alloc W1 _ none) (fun j e => by cases e)
      have KX2 : Hid (Blk (W1.alloc (.cells #[.int .i64 y0, .int .i64 0, .slice none 0 0, .slice none 0 0] 86)) W1.heap.size 86 [.int .i64 y0, .int .i64 0, .slice none 0 0, .slice none 0 0]) := Blk.new W1 _ _
      have HP2 := Lib.hid (HPK.out a2 4 _ E2.out.b E2.out.s (by omega) (by omega))
      clear E1
      go_wp2_with fail
      refine HP2.out.mono ?_
      rintro e W3 ⟨⟨y1, rfl, y10, y11⟩, ⟨a3, ha3, hs3⟩, hg3⟩
      have y11 := y11 (by omega)
      have E3 := Lib.hid (E2.out.pick hg3 hs3)
      have hgx : g < W1.heap.size := by have := E2.out.gn; have := E2.out.nx; omega
      have KX3 := Lib.hid (KX2.out.grownL hg3 (by simp; omega))
      obtain ⟨X, hX⟩ : ∃ X, W1.heap.size = X := ⟨_, rfl⟩
      rw [hX] at E3 KX3 hgx
      rw [hX]
      have c1 := KX3.out.cell 1 _ rfl
      have f1 := KX3.out.frozen 1
      clear hs3 hg3 HP2 E2 KX2 hX
      have E4 : Hid (EnvD w g v a3 N X (.slice (some ⟨gg, 0, none⟩) m c) i raw ts (W3.setCell ⟨X, 1, none⟩ (.int .i64 y1))) := E3.out.kept (grown_set W3 ⟨X, 1, none⟩ _) (fun j e => by cases e; exact Nat.le_refl _)
      have KX4 : Hid (Blk (W3.setCell ⟨X, 1, none⟩ (.int .i64 y1)) X 86 [.int .i64 y0, .int .i64 y1, .slice none 0 0, .slice none 0 0]) := KX3.out.set 1 _
      clear E3 KX3
      go_wp2
      go_loopw [8] (fun vk wi => ∃ (k a' : Nat) (vb vl : Value) (bs ls : List Int), k ≤ i ∧ vk = .int .i64 k ∧ Hid (EnvD w g v a' N X (.slice (some ⟨gg, 0, none⟩) m c) i raw ts wi) ∧ Hid (Blk wi X 86 [.int .i64 y0, .int .i64 y1, vb, vl]) ∧ Hid (OwnI wi (X + 1) vb bs ∧ OwnI wi (X + 1) vl ls ∧ (vb.ownBlock = none ∨ vb.ownBlock ≠ vl.ownBlock)) ∧ Hid (DrRow k bs ls) ∧ a' ≤ a3 + 3 * k) (fun vk _ => i - (intOf vk).toNat)
      case atStart => exact ⟨0, a3, .slice none 0 0, .slice none 0 0, [], [], Nat.zero_le _, rfl, E4.out, KX4.out, ⟨nilI _ _, nilI _ _, .inl rfl⟩, DrRow.nil, by omega⟩
      case round =>
        obtain ⟨k, a4, vb, vl, bs, ls, hk, rfl, E, KX, HO, HD, ha4⟩ := hrel
        clear E4 KX4 c1 f1
        by_cases hki : k < i
        · have k1 : (k : Int) < (i : Int) := by omega
          have HP5 := Lib.hid (HON.out a4 3 wr E.out.b E.out.s (by omega) (by omega))
          go_wp2_with fail
          refine HP5.out.mono ?_
          rintro e W5 ⟨⟨b5, rfl⟩, ⟨a5, ha5, hs5⟩, hg5⟩
          have E5 := Lib.hid (E.out.pick hg5 hs5)
          have KX5 := Lib.hid (KX.out.grownL hg5 (by simp; omega))
          have HO5 := Lib.hid (owns_kept HO.out hg5.by1 (by omega))
          clear hs5 hg5 HP5 E KX HO
          cases b5
          · have HD2 := Lib.hid HD.out.up
            go_wp2
            go_roundw
            case rel => exact ⟨k + 1, a5, vb, vl, bs, ls, by omega, by go_num, E5.out, KX5.out, HO5.out, HD2.out, by omega⟩
            case measure => simp [intOf]; omega
          · have c2 := KX5.out.cell 2 vb rfl
            have f2 := KX5.out.frozen 2
            have hxl : X + 1 ≤ W5.heap.size := KX5.out.lt
            have hxm : X < W5.heap.size := KX5.out.lt
            have hbl := HD.out.2.1
            have HZ : Hid (bs.length + [(k : Int)].length ≤ 1099511627776) := by show _ ≤ _; simp; omega
            go_wp2_with (at_builtin; refine append_i64M rfl _ _ rfl (X + 1) vb bs [(k : Int)] (by simp) rfl 1 rfl HO5.out.1 hxl HZ.out ?_; intro g6 c6 n6 w6 hn6 ho6 hg6 hl6; have KX6 := Lib.hid (KX5.out.grown hg6 (app_ne HO5.out.1 (Nat.le_refl _))); have E6 := Lib.hid (E5.out.kept hg6 (app_outD HO5.out.1)); have HO6 := Lib.hid (owns_app1 HO5.out ho6 hg6 hl6); have c2' := KX6.out.cell 2 vb rfl; have f2' := KX6.out.frozen 2; clear ho6 hg6 hl6 hn6)
            obtain ⟨vb', hvb⟩ : ∃ v, Value.slice (some ⟨g6, 0, none⟩) n6 c6 = v := ⟨_, rfl⟩
            rw [hvb] at HO6
            rw [hvb]
            obtain ⟨W7, hW7⟩ : ∃ W, w6.setCell ⟨X, 2, none⟩ vb' = W := ⟨_, rfl⟩
            have E7 : Hid (EnvD w g v a5 N X (.slice (some ⟨gg, 0, none⟩) m c) i raw ts W7) := by rw [← hW7]; exact E6.out.kept (grown_set w6 ⟨X, 2, none⟩ vb') (fun j e => by cases e; exact Nat.le_refl _)
            have KX7 : Hid (Blk W7 X 86 [.int .i64 y0, .int .i64 y1, vb', vl]) := by rw [← hW7]; exact KX6.out.set 2 vb'
            have HO7 : Hid (OwnI W7 (X + 1) vb' (bs ++ [(k : Int)]) ∧ OwnI W7 (X + 1) vl ls ∧ (vb'.ownBlock = none ∨ vb'.ownBlock ≠ vl.ownBlock)) := by rw [← hW7]; exact owns_kept HO6.out (grown_set w6 ⟨X, 2, none⟩ vb') (Nat.le_refl _)
            rw [hW7]
            clear hW7 hvb c2 f2 c2' f2' E5 KX5 HO5 E6 KX6 HO6 hxl hxm HZ
            have HP7 := Lib.hid (HON.out a5 4 W7 E7.out.b E7.out.s (by omega) (by omega))
            refine HP7.out.mono ?_
            rintro e W8 ⟨⟨b8, rfl⟩, ⟨a8, ha8, hs8⟩, hg8⟩
            have E8 := Lib.hid (E7.out.pick hg8 hs8)
            have KX8 := Lib.hid (KX7.out.grownL hg8 (by simp; omega))
            have HO8 := Lib.hid (owns_kept HO7.out hg8.by1 (by omega))
            clear hs8 hg8 HP7 E7 KX7 HO7
            cases b8
            · have c3 := KX8.out.cell 3 vl rfl
              have f3 := KX8.out.frozen 3
              have hyl : X + 1 ≤ W8.heap.size := KX8.out.lt
              have hym : X < W8.heap.size := KX8.out.lt
              have HD2 : Hid (DrRow (k + 1) (bs ++ [(k : Int)]) (ls ++ [(0 : Int)])) := HD.out.snoc (by omega) (by omega)
              have HZ2 : Hid (ls.length + [(0 : Int)].length ≤ 1099511627776) := by have := HD.out.1; have := HD.out.2.1; show _ ≤ _; simp only [List.length_singleton]; omega
              go_wp2_with (at_builtin; refine append_i64M rfl _ _ rfl (X + 1) vl ls [(0 : Int)] (by simp) rfl 1 rfl HO8.out.2.1 hyl HZ2.out ?_; intro g9 c9 n9 w9 hn9 ho9 hg9 hl9; have KX9 := Lib.hid (KX8.out.grown hg9 (app_ne HO8.out.2.1 (Nat.le_refl _))); have E9 := Lib.hid (E8.out.kept hg9 (app_outD HO8.out.2.1)); have HO9 := Lib.hid (owns_app2 HO8.out ho9 hg9 hl9); have c3' := KX9.out.cell 3 vl rfl; have f3' := KX9.out.frozen 3; clear ho9 hg9 hl9 hn9)
              go_roundw
              case rel =>
                refine ⟨k + 1, a8, vb', .slice (some ⟨g9, 0, none⟩) n9 c9, _, _, by omega, by go_num, ?_, ?_, ?_, HD2.out, by omega⟩
                · exact E9.out.kept (grown_set w9 ⟨X, 3, none⟩ _) (fun j e => by cases e; exact Nat.le_refl _)
                · exact KX9.out.set 3 _
                · exact owns_kept HO9.out (grown_set w9 ⟨X, 3, none⟩ _) (Nat.le_refl _)
              case measure => simp [intOf]; omega
            · have HP9 := Lib.hid (HPK.out a8 7 W8 E8.out.b E8.out.s (by omega) (by omega))
              go_wp2_with fail
              refine HP9.out.mono ?_
              rintro e W10 ⟨⟨z, rfl, z0, z1⟩, ⟨a10, ha10, hs10⟩, hg10⟩
              have z1 := z1 (by omega)
              have E10 := Lib.hid (E8.out.pick hg10 hs10)
              have KX10 := Lib.hid (KX8.out.grownL hg10 (by simp; omega))
              have HO10 := Lib.hid (owns_kept HO8.out hg10.by1 (by omega))
              clear hs10 hg10 HP9 E8 KX8 HO8
              have c3 := KX10.out.cell 3 vl rfl
              have f3 := KX10.out.frozen 3
              have hyl : X + 1 ≤ W10.heap.size := KX10.out.lt
              have hym : X < W10.heap.size := KX10.out.lt
              have HD2 : Hid (DrRow (k + 1) (bs ++ [(k : Int)]) (ls ++ [(z - 3)])) := HD.out.snoc (by omega) (by omega)
              have HZ2 : Hid (ls.length + [(z - 3)].length ≤ 1099511627776) := by have := HD.out.1; have := HD.out.2.1; show _ ≤ _; simp only [List.length_singleton]; omega
              go_wp2_with (at_builtin; refine append_i64M rfl _ _ rfl (X + 1) vl ls [(z - 3)] (by simp) rfl 1 rfl HO10.out.2.1 hyl HZ2.out ?_; intro g9 c9 n9 w9 hn9 ho9 hg9 hl9; have KX9 := Lib.hid (KX10.out.grown hg9 (app_ne HO10.out.2.1 (Nat.le_refl _))); have E9 := Lib.hid (E10.out.kept hg9 (app_outD HO10.out.2.1)); have HO9 := Lib.hid (owns_app2 HO10.out ho9 hg9 hl9); have c3' := KX9.out.cell 3 vl rfl; have f3' := KX9.out.frozen 3; clear ho9 hg9 hl9 hn9)
              go_roundw
              case rel =>
                refine ⟨k + 1, a10, vb', .slice (some ⟨g9, 0, none⟩) n9 c9, _, _, by omega, by go_num, ?_, ?_, ?_, HD2.out, by omega⟩
                · exact E9.out.kept (grown_set w9 ⟨X, 3, none⟩ _) (fun j e => by cases e; exact Nat.le_refl _)
                · exact KX9.out.set 3 _
                · exact owns_kept HO9.out (grown_set w9 ⟨X, 3, none⟩ _) (Nat.le_refl _)
              case measure => simp [intOf]; omega
        · have hki2 : k = i := by omega
          have k1 : ¬ (k : Int) < (i : Int) := by omega
          have x0 := KX.out.cell 0 _ rfl
          have x1 := KX.out.cell 1 _ rfl
          have x2 := KX.out.cell 2 _ rfl
          have x3 := KX.out.cell 3 _ rfl
          have HONE : Hid (∀ u ∈ [Value.int .i64 y0, .int .i64 y1, vb, vl], u.oneCell' = true) := by
            intro u hu
            simp only [List.mem_cons, List.not_mem_nil, or_false] at hu
            rcases hu with rfl | rfl | rfl | rfl
            · rfl
            · rfl
            · exact HO.out.1.one
            · exact HO.out.2.1.one
          have HSB : Hid (N ≤ wr.heap.size) := by have := E.out.nx; have := E.out.x; show _ ≤ _; omega
          have HTK1 : Hid (TkOwn wr X wr.heap.size [.int .i64 y0, .int .i64 y1, vb, vl] (y0, y1, bs, ls)) := ⟨vb, vl, rfl, ⟨HO.out.1.mono (by omega), fun q hq => (HO.out.1.lt q hq).2⟩, ⟨HO.out.2.1.mono (by omega), fun q hq => (HO.out.2.1.lt q hq).2⟩, HO.out.2.2⟩
          have HDT : Hid (DrTk i (y0, y1, bs, ls)) := ⟨⟨y00, by show y0 ≤ 6; omega⟩, ⟨y10, by show y1 ≤ 3; omega⟩, by have := HD.out; rwa [hki2] at this⟩
          have hib : i ≤ 1000000 := by omega
          have HA4 : Hid (a4 ≤ a1 + 2 + 3 * i ∧ i < 4) := by show _ ∧ _; omega
          clear hki hki2
          go_wp2_with (at_builtin; refine append_tk rfl _ _ rfl N (.slice (some ⟨gg, 0, none⟩) m c) i raw [.int .i64 y0, .int .i64 y1, vb, vl] rfl 1 rfl E.out.v rfl HONE.out HSB.out hib ?_; intro g5 c5 n5 w5 hn5 ho5 hg5; have E5 := Lib.hid (E.out.app HTK1.out ho5 hg5); have HN5 := Lib.hid hn5; clear ho5 hg5 hn5)
          go_roundw
          case rel =>
            obtain ⟨t1, t2, t3⟩ := HT.out
            obtain ⟨q1, q2⟩ := HA4.out
            refine ⟨i + 1, n5, g5, c5, w5.heap.size, a4, raw ++ [.int .i64 y0, .int .i64 y1, vb, vl], ts ++ [(y0, y1, bs, ls)], by omega, by go_num, HN5.out, rfl, E5.out, ⟨by rw [List.length_append, t1]; rfl, fun j hj => ?_, by omega⟩⟩
            rw [List.length_append, List.length_singleton] at hj
            by_cases hl : j < ts.length
            · rw [List.getElem_append_left hl]; exact t2 j hl
            · obtain rfl : j = ts.length := by omega
              rw [List.getElem_append_right (Nat.le_refl _)]
              simp only [Nat.sub_self, List.getElem_singleton]
              rw [t1]; exact HDT.out
          case measure => simp [intOf]; omega
    · have i1 : ¬ (i : Int) < (n : Int) := by omega
      have hin2 : i = n := by omega
      have HFIN : Hid (∃ ts raw X a', EnvD w g v a' N X (.slice (some ⟨gg, 0, none⟩) m c) n raw ts wr ∧ ts.length = n ∧ (∀ i (h : i < ts.length), DrTk i ts[i]) ∧ a' ≤ a + 20 * n) := by
        have h1 := E.out
        have h2 := HT.out
        rw [hin2] at h1 h2
        exact ⟨ts, raw, X0, a1, h1, h2⟩
      clear E HT hin2
      go_wp2
      go_ret
      obtain ⟨ts, raw, X, a', h⟩ := HFIN.out
      exact ⟨_, rfl, ts, raw, X, a', h⟩
end Go.Proofs.Ytmhepomjbaendaa

namespace Go.Proofs.Ytmhepomjbaendaa
open Go.RowKit Go.Shelf Go.BigFrame
set_option linter.unusedVariables false
set_option linter.unusedSimpArgs false

theorem l00Max_any (a b : Int) (w : World) : Calls Try.prog 137 #[.int .i64 a, .int .i64 b] w fun e w' => e = .returned (.int .i64 (max a b)) ∧ w = w' := by
  by_cases h : b < a
  · have hm : max a b = a := by omega
    rw [hm]
    clear hm
    go_enter Try.func137, Try.ntmps137
    go_wp2
    go_ret
    exact ⟨rfl, rfl⟩
  · have hm : max a b = b := by omega
    rw [hm]
    clear hm
    go_enter Try.func137, Try.ntmps137
    go_wp2
    go_ret
    exact ⟨rfl, rfl⟩
theorem Ints.nthAt {w : World} {v : Value} {xs : List Int} (h : Ints w v xs) (i : Nat) (hi : i < xs.length) : ∃ b o c, v = .slice (some ⟨b, o, none⟩) xs.length c ∧ b < w.heap.size ∧ w.cell? ⟨b, o + i, none⟩ = some (.int .i64 (nth xs i)) := by
  obtain ⟨_, a, c, rfl, hcap, hc⟩ := h
  obtain ⟨b, o, rfl, hb, h1⟩ := hc i hi
  exact ⟨b, o, c, rfl, hb, by rw [nth_eq hi]; exact h1⟩

set_option maxRecDepth 100000 in
set_option maxHeartbeats 2000000 in
theorem least_any (vt vs : Value) (ts : List Tk) (st : List Int) (i : Nat) (w : World) (ht : TasksR w vt ts) (hs : Ints w vs st) (hl : st.length = ts.length) (hi : i < ts.length) (hsm : ts.length ≤ 16) (hd : ∀ j (h : j < ts.length), DrTk j ts[j]) (hb : ∀ j, j < i → 0 ≤ nth st j ∧ nth st j ≤ 9 * (j : Int)) :
    Calls Try.prog 125 #[vt, vs, .int .i64 i] w fun e w' => ∃ r : Int, e = .returned (.int .i64 r) ∧ 0 ≤ r ∧ r ≤ 9 * (i : Int) ∧ ∃ q, w' = w.drewN q := by
  obtain ⟨a, c, rfl, hcap, hc⟩ := ht.at_
  obtain ⟨b, o, vb, vl, rfl, hbs, h1, h2, _, _, e0, e1, e2, e3⟩ := hc i hi
  obtain ⟨d1, d2, dr⟩ := hd i hi
  have hlen : ts[i].2.2.1.length = ts[i].2.2.2.length := dr.1
  have hbl : ts[i].2.2.1.length ≤ 16 := by have := dr.2.1; omega
  have HC : Hid (∀ k, k < ts[i].2.2.1.length → ∃ (j : Nat) (l s t : Int), j < i ∧ nth ts[i].2.2.1 k = j ∧ nth ts[i].2.2.2 k = l ∧ -3 ≤ l ∧ l ≤ 3 ∧ nth st j = s ∧ 0 ≤ s ∧ s ≤ 9 * (j : Int) ∧ 0 ≤ t ∧ t ≤ 6 ∧ w.cell? ⟨b, o + j * 4, none⟩ = some (.int .i64 t)) := fun k hk => by
    obtain ⟨q1, q2, _⟩ := dr.2.2.1 k hk
    have q3 := dr.2.2.2 k (by omega)
    obtain ⟨j, hj⟩ : ∃ j : Nat, nth ts[i].2.2.1 k = j := ⟨(nth ts[i].2.2.1 k).toNat, by omega⟩
    have hji : j < i := by omega
    obtain ⟨s0, s1⟩ := hb j hji
    obtain ⟨b', o', _, _, hb', _, _, _, _, _, c0, _⟩ := hc j (by omega)
    obtain ⟨rfl, rfl⟩ : b = b' ∧ o = o' := by simpa using hb'
    have t0 := (hd j (by omega)).1
    exact ⟨j, _, _, _, hji, hj, rfl, q3.1, q3.2, rfl, s0, s1, t0.1, t0.2, c0⟩
  have HB := Lib.hid (show ∀ k, k < ts[i].2.2.1.length → _ from fun k hk => h1.ints.1.nthAt k hk)
  have HL := Lib.hid (show ∀ k, k < ts[i].2.2.1.length → _ from fun k hk => h2.ints.1.nthAt k (by omega))
  have HS := Lib.hid (show ∀ k, k < i → _ from fun k hk => hs.nthAt k (by omega))
  obtain ⟨_, sa, sc, rfl, scap, _⟩ := hs
  obtain ⟨_, ba, bc, rfl, bcap, _⟩ := h1.ints.1
  obtain ⟨_, la, lc, rfl, lcap, _⟩ := h2.ints.1
  obtain ⟨n, hn⟩ : ∃ n, ts[i].2.2.1.length = n := ⟨_, rfl⟩
  rw [← hlen] at HL e3 lcap
  rw [hn] at HC HB HL e2 e3 hbl lcap bcap
  rw [hl] at HS
  rw [hl]
  obtain ⟨T, hT⟩ : ∃ T, ts.length = T := ⟨_, rfl⟩
  rw [hT] at hi hsm hcap HS ⊢
  obtain ⟨bl, hbl2⟩ : ∃ z, ts[i].2.2.1 = z := ⟨_, rfl⟩
  obtain ⟨ll, hll2⟩ : ∃ z, ts[i].2.2.2 = z := ⟨_, rfl⟩
  rw [hbl2] at HC HB
  rw [hll2] at HC HL
  have i0 : (0 : Int) ≤ (i : Int) := by omega
  have i1 : (i : Int) < (T : Int) := by omega
  clear hc dr d1 d2 h1 h2 hd hb ht hlen hn e0 e1 hl hbl2 hll2
  go_enter Try.func125, Try.ntmps125
  go_wp2
  go_loopw [7, 16] (fun vr vk wr => ∃ (k q : Nat) (r : Int), k ≤ n ∧ vk = .int .i64 k ∧ vr = .int .i64 r ∧ 0 ≤ r ∧ r ≤ 9 * (i : Int) ∧ Hid (wr = w.drewN q)) (fun _ vk _ => n - (intOf vk).toNat)
  case atStart => exact ⟨0, 0, 0, Nat.zero_le _, rfl, rfl, by omega, by omega, rfl⟩
  case round =>
    obtain ⟨k, q, r, hk, rfl, rfl, r0, r1, hwr⟩ := hrel
    have hcl : ∀ p, wr.cell? p = w.cell? p := fun p => by rw [hwr.out]; rfl
    have e2 := (hcl _).trans e2
    have e3 := (hcl _).trans e3
    by_cases hkn : k < n
    · obtain ⟨j, l, s, t, hji, hj, hll, l0, l1, hss, s0, s1, t0, t1, ct⟩ := HC.out k hkn
      obtain ⟨b1, o1, c1, hv1, hb1, cb⟩ := HB.out k hkn
      obtain ⟨b2, o2, c2, hv2, hb2, cl⟩ := HL.out k hkn
      obtain ⟨b3, o3, c3, hv3, hb3, cs⟩ := HS.out j hji
      rw [hj] at cb
      rw [hll] at cl
      rw [hss] at cs
      have cb := (hcl _).trans cb
      have cl := (hcl _).trans cl
      have cs := (hcl _).trans cs
      have ct := (hcl _).trans ct
      have HWQ : Hid (∀ n, ∃ q', wr.drewN n = w.drewN q') := fun n => ⟨_, by rw [hwr.out]; exact World.drewN_drewN _ _ _⟩
      obtain ⟨rfl, rfl⟩ : ba = some ⟨b1, o1, none⟩ ∧ bc = c1 := by injection hv1 with u1 u2 u3; exact ⟨u1, u3⟩
      obtain ⟨rfl, rfl⟩ : la = some ⟨b2, o2, none⟩ ∧ lc = c2 := by injection hv2 with u1 u2 u3; exact ⟨u1, u3⟩
      obtain ⟨rfl, rfl⟩ : sa = some ⟨b3, o3, none⟩ ∧ sc = c3 := by injection hv3 with u1 u2 u3; exact ⟨u1, u3⟩
      have k1 : (k : Int) < (n : Int) := by omega
      have k0 : (0 : Int) ≤ (k : Int) := by omega
      have j0 : (0 : Int) ≤ (j : Int) := by omega
      have j1 : (j : Int) < (T : Int) := by omega
      have w1 : IntKind.i64.wrap (s + t) = s + t := IntWalk.i64_in _ (by omega)
      have w2 : IntKind.i64.wrap (s + t + l) = s + t + l := IntWalk.i64_in _ (by omega)
      have HM : Hid (0 ≤ max r (s + t + l) ∧ max r (s + t + l) ≤ 9 * (i : Int)) := by show _ ∧ _; omega
      clear hj hll hss hv1 hv2 hv3 HC HB HL HS s0 s1 t0 t1 l0 l1 hcl
      go_wp2
      go_quiet ((first | (go_at_call 137; exact quiet_eq (l00Max_any _ _ _))))
      go_wp2
      go_roundw
      case rel =>
        obtain ⟨q', hq'⟩ := HWQ.out nq
        exact ⟨k + 1, q', max r (s + t + l), by omega, by go_num, rfl, HM.out.1, HM.out.2, hq'⟩
      case measure => simp [intOf]; omega
    · clear HC HB HL HS hcl
      go_wp2
      go_ret
      exact ⟨r, rfl, r0, r1, q, hwr.out⟩
theorem nth_setD {l : List Int} {m i : Nat} (v : Int) (hm : m < l.length) : nth (l.set m v) i = if m = i then v else nth l i := by
  unfold nth
  rw [List.getD_eq_getElem?_getD, List.getD_eq_getElem?_getD, List.getElem?_set]
  by_cases h : m = i
  · subst h; simp [hm]
  · simp [h]

set_option maxRecDepth 100000 in
set_option maxHeartbeats 2000000 in
theorem early_any (vt : Value) (ts : List Tk) (w : World) (ht : TasksR w vt ts) (hsm : ts.length ≤ 16) (hd : ∀ j (h : j < ts.length), DrTk j ts[j]) :
    Calls Try.prog 78 #[vt] w fun e w' => (∃ v st, e = .returned v ∧ OwnI w' w.heap.size v st ∧ st.length = ts.length ∧ ∀ j, j < ts.length → 0 ≤ nth st j ∧ nth st j ≤ 9 * (j : Int)) ∧ Below w.heap.size w w' := by
  obtain ⟨A, hA⟩ : ∃ A, w.heap.size = A := ⟨_, rfl⟩
  have HSZ : Hid (∀ W, Below A w W → A ≤ W.heap.size) := fun W h => by rw [← hA]; exact h.size
  have HLE : Hid (∀ (vs : Value) (st : List Int) (i : Nat) W, Below A w W → Ints W vs st → st.length = ts.length → i < ts.length → (∀ j, j < i → 0 ≤ nth st j ∧ nth st j ≤ 9 * (j : Int)) → Calls Try.prog 125 #[vt, vs, .int .i64 i] W fun e w' => ∃ r : Int, e = .returned (.int .i64 r) ∧ 0 ≤ r ∧ r ≤ 9 * (i : Int) ∧ ∃ q, w' = W.drewN q) := fun vs st i W hW hs hl hi hb => least_any vt vs ts st i W (ht.below (by rw [hA]; exact hW) (Nat.le_refl _)) hs hl hi hsm hd hb
  obtain ⟨a, c, rfl, hcap, _⟩ := ht.at_
  obtain ⟨n, hn⟩ : ∃ n, ts.length = n := ⟨_, rfl⟩
  rw [hn] at HLE hsm hcap ⊢
  have HA := Lib.hid hA
  obtain ⟨i0, hi, hz0, hz1, hz2⟩ := info_parts info_i64
  have hnm : n ≤ maxLen := by unfold maxLen; omega
  clear ht hd hn
  go_enter Try.func78, Try.ntmps78
  go_wp2_with (at_make; refine wpList_make_full _ rfl _ _ 25 rfl A 2 i0 (.int .i64 0) 1 Try.underlying25 hi hz0 hz1 _ _ _ _ n rfl rfl rfl rfl (by rw [hz2]; omega) (by unfold maxLen at *; omega) (by rw [hA]; exact Nat.le_refl _) ?_; intro w1 hown1 hgrow1)
  have hb1 : Below A w w1 := (Below.refl _ _).grown hgrow1 (by rw [hA]; exact Nat.le_refl _) (fun k e => by cases e)
  have hown1' : OwnI w1 A (.slice (some ⟨A, 0, none⟩) n n) (List.replicate n 0) := by
    have e : (madeCells (Value.int .i64 0).cells (n * 1)).toList = (List.replicate n (0 : Int)).map (Value.int .i64) := by
      rw [Nat.mul_one]; exact (toList_madeCells_one _ _).trans (by simp)
    unfold OwnI
    rw [← e, List.length_replicate, ← hA]
    rw [hA] at hown1 ⊢
    exact hown1
  have H1 := Lib.hid (And.intro hown1' hb1)
  clear hown1 hown1' hgrow1 hb1 hi hz0 hz1 hz2
  go_wp2
  go_loopw [10] (fun vi wr => ∃ (k : Nat) (st : List Int), k ≤ n ∧ vi = .int .i64 k ∧ Hid (OwnI wr A (.slice (some ⟨A, 0, none⟩) n n) st ∧ Below A w wr) ∧ Hid (st.length = n ∧ ∀ j, j < k → 0 ≤ nth st j ∧ nth st j ≤ 9 * (j : Int))) (fun vi _ => n - (intOf vi).toNat)
  case atStart => exact ⟨0, _, Nat.zero_le _, rfl, H1.out, ⟨by simp, fun j h => absurd h (Nat.not_lt_zero _)⟩⟩
  case round =>
    obtain ⟨k, st, hk, rfl, HO, HL⟩ := hrel
    clear H1
    by_cases hkn : k < n
    · have k0 : (0 : Int) ≤ (k : Int) := by omega
      have k1 : (k : Int) < (n : Int) := by omega
      have HC := Lib.hid (HLE.out _ st k wr HO.out.2 HO.out.1.ints HL.out.1 hkn HL.out.2)
      go_wp2_with fail
      refine HC.out.mono ?_
      rintro e W2 ⟨r, rfl, r0, r1, q, rfl⟩
      obtain ⟨s1, s2, s3, s4⟩ := (HO.out.1.drewN q).store HL.out.1.symm k (by rw [HL.out.1]; exact hkn) r
      have HS := Lib.hid (And.intro s3 ((below_drewN q HO.out.2).grown s4 (HSZ.out _ (below_drewN q HO.out.2)) (fun j e => by cases e; exact Nat.le_refl _)))
      have HL2 : Hid ((st.set k r).length = n ∧ ∀ j, j < k + 1 → 0 ≤ nth (st.set k r) j ∧ nth (st.set k r) j ≤ 9 * (j : Int)) := by
        refine ⟨by rw [List.length_set]; exact HL.out.1, fun j hj => ?_⟩
        rw [nth_setD r (by rw [HL.out.1]; exact hkn)]
        by_cases h : k = j
        · subst h; rw [if_pos rfl]; exact ⟨r0, r1⟩
        · rw [if_neg h]; exact HL.out.2 j (by omega)
      obtain ⟨u0, hu0⟩ : ∃ u, wr.cell? ⟨A, k, none⟩ = some u := ⟨_, s1⟩
      have f0 : wr.frozen? ⟨A, k, none⟩ = false := s2
      have HRR := Lib.hid (And.intro r0 r1)
      clear s1 s2 s3 s4 HC HO HL r0 r1
      go_wp2
      go_roundw
      case rel => exact ⟨k + 1, st.set k r, by omega, by go_num, HS.out, HL2.out⟩
      case measure => simp [intOf]; omega
    · have hkn2 : k = n := by omega
      have HFIN : Hid (∃ st, OwnI wr A (.slice (some ⟨A, 0, none⟩) n n) st ∧ st.length = n ∧ (∀ j, j < n → 0 ≤ nth st j ∧ nth st j ≤ 9 * (j : Int)) ∧ Below A w wr) := by
        have h := HL.out
        rw [hkn2] at h
        exact ⟨st, HO.out.1, h.1, h.2, HO.out.2⟩
      clear HO HL HLE hkn2
      go_wp2
      go_ret
      obtain ⟨st', h1, h2, h3, h4⟩ := HFIN.out
      rw [HA.out]
      exact ⟨⟨_, st', rfl, h1, h2, h3⟩, h4⟩
end Go.Proofs.Ytmhepomjbaendaa

namespace Go.Proofs.Ytmhepomjbaendaa
open Go.RowKit Go.Shelf Go.BigFrame
set_option linter.unusedVariables false
set_option linter.unusedSimpArgs false

theorem GrownL.blk {g b : Nat} {A W : World} {t : TypeId} {cs : List Value} (h : GrownL [g] A W) (hb : Blk A b t cs) (hn : b ≠ g) : Blk W b t cs := hb.grownL h (by simpa using hn)
theorem text_any (v : Value) (xs : List Int) (g a b c : Nat) (L : List ByteArray) (w : World) (hv : ∀ W, GrownL [g] w W → Byts W v xs) (hb : ∀ n ∈ xs, (Lit.int .u8 n).wf = true) (hs : Src w g v a) (ha : a ≤ 1099511627776) (h1 : 1 ≤ L.length) (h2 : L.length ≤ 200) (hk : Blk w b 9 (L.map Value.string)) (hbg : b ≠ g) :
    Calls Try.prog 76 #[.pointer (some ⟨g, 0, none⟩), .slice (some ⟨b, 0, none⟩) L.length c] w fun e w' => (∃ x ∈ L, e = .returned (.string x)) ∧ (∃ a', a' ≤ a + 1 ∧ Src w' g v a') ∧ GrownL [g] w w' := by
  have HC := Lib.hid (pick_any v xs g a L.length w (hv w (GrownL.refl _ _)) hb hs ha (by omega))
  have HK := Lib.hid hk
  obtain ⟨n, hn⟩ : ∃ n, L.length = n := ⟨_, rfl⟩
  rw [hn] at HC h1 h2 ⊢
  have HN := Lib.hid hn
  clear hv hb hs hk hn
  go_enter Try.func76, Try.ntmps76
  go_wp2_with fail
  refine HC.out.mono ?_
  rintro e w' ⟨⟨x, rfl, x0, x1⟩, hs', hg'⟩
  have x1 := x1 (by omega)
  obtain ⟨j, rfl⟩ : ∃ j : Nat, x = j := ⟨x.toNat, by omega⟩
  have hj : j < L.length := by have := HN.out; omega
  have hc := (hg'.blk HK.out hbg).cell j (.string L[j]) (by rw [List.getElem?_map, List.getElem?_eq_getElem hj]; rfl)
  have H := Lib.hid (And.intro (List.getElem_mem hj) (And.intro hs' hg'))
  obtain ⟨y, hy⟩ : ∃ y, L[j] = y := ⟨_, rfl⟩
  rw [hy] at hc H
  clear hs' hg' hy
  go_wp2
  go_ret
  exact ⟨⟨y, H.out.1, rfl⟩, H.out.2⟩

def nmsD : List ByteArray := [⟨#[97]⟩, ⟨#[104, 111, 117, 115, 101]⟩, ⟨#[115, 104, 105, 112]⟩, ⟨#[122, 122]⟩]
theorem nmsD_ok : ∀ x ∈ nmsD, nameOk x = true ∧ x.size ≤ 8 := by
  intro x hx
  simp only [nmsD, List.mem_cons, List.not_mem_nil, or_false] at hx
  rcases hx with rfl | rfl | rfl | rfl <;> decide
theorem DrTk.w {i : Nat} {x : Tk} (h : DrTk i x) (hi : i ≤ 16) : TkW x := by
  obtain ⟨⟨a1, a2⟩, ⟨b1, b2⟩, c1, c2, c3, c4⟩ := h
  refine ⟨⟨a1, by omega⟩, ⟨b1, by omega⟩, fun n hn => ?_, fun n hn => ?_, by omega⟩
  · obtain ⟨k, hk, rfl⟩ := List.getElem_of_mem hn
    have := c3 k hk
    rw [nth_eq hk] at this
    omega
  · obtain ⟨k, hk, rfl⟩ := List.getElem_of_mem hn
    have := c4 k hk
    rw [nth_eq hk] at this
    omega
theorem dr_saved {nm : ByteArray} {ts : List Tk} {st : List Int} (hn : nm ∈ nmsD) (h1 : 1 ≤ ts.length) (h2 : ts.length ≤ 4) (hd : ∀ j (h : j < ts.length), DrTk j ts[j]) (hl : st.length = ts.length) (hs : ∀ j, j < ts.length → 0 ≤ nth st j ∧ nth st j ≤ 9 * (j : Int)) : savedOk (nm, ts, st) = true ∧ SvW (nm, ts, st) := by
  obtain ⟨n1, n2⟩ := nmsD_ok nm hn
  refine ⟨?_, by show nm.size ≤ _; omega, by show ts.length ≤ _; omega, fun t ht => ?_, fun n hn => ?_, by show st.length ≤ _; omega⟩
  · unfold savedOk
    simp only [Bool.and_eq_true]
    refine ⟨⟨n1, ?_⟩, startsOk_end hl fun i hi => win_true.2 ?_⟩
    · unfold tasksOk
      simp only [Bool.and_eq_true, decide_eq_true_eq, List.all_eq_true, List.mem_range]
      refine ⟨⟨fun i hi => ?_, h1⟩, by omega⟩
      rw [tkAt_eq hi]; exact (hd i hi).ok
    · have := hs i (by omega); omega
  · obtain ⟨k, hk, rfl⟩ := List.getElem_of_mem ht
    have hk' : k < ts.length := hk
    exact (hd k hk).w (by omega)
  · obtain ⟨k, hk, rfl⟩ := List.getElem_of_mem hn
    have hk' : k < st.length := hk
    have := hs k (by omega)
    rw [nth_eq hk'] at this
    show 0 ≤ st[k] ∧ st[k] ≤ 65535
    omega
theorem SvsOk.grown {w W : World} {lo R : Nat} {raw : List Value} {xs : List Sv} (h : SvsOk w lo raw xs) (hg : w.grownBy W (some R)) (hR : R < lo) : SvsOk W lo raw xs := ⟨h.1, fun i hi => by
  obtain ⟨vt, vs, a, b⟩ := h.2 i hi
  exact ⟨vt, vs, a.grown hg hR, b⟩⟩

set_option maxRecDepth 100000 in
set_option maxHeartbeats 4000000 in
theorem b10Saved_any (v : Value) (bs : List Int) (w : World) (hv : Byts w v bs) (hb : ∀ n ∈ bs, (Lit.int .u8 n).wf = true) :
    Calls Try.prog 28 #[v] w fun e w' => (∃ u xs, e = .returned u ∧ SavedsR w' u xs ∧ xs.length ≤ 4 ∧ ∀ x ∈ xs, savedOk x = true) ∧ Below w.heap.size w w' := by
  obtain ⟨A, hA⟩ : ∃ A, w.heap.size = A := ⟨_, rfl⟩
  have HFR := Lib.hid (from_any v bs w hv)
  have HBY : Hid (∀ W, Below A w W → Byts W v bs) := fun W hW => hv.below (by rw [hA]; exact hW) (Nat.le_refl _)
  have HSZ : Hid (∀ W, Below A w W → A ≤ W.heap.size) := fun W h => by rw [← hA]; exact h.size
  have HGB : Hid (∀ W W', Below A w W → GrownL [A] W W' → Below A w W') := fun W W' h hg => hg.toBelow h (by rw [← hA]; exact h.size) (by simp; omega)
  have HPK : Hid (∀ a (m : Int) W, Below A w W → Src W A v a → a ≤ 1099511627776 → m ≤ 200 → Calls Try.prog 75 #[.pointer (some ⟨A, 0, none⟩), .int .i64 m] W fun e w' => (∃ x : Int, e = .returned (.int .i64 x) ∧ 0 ≤ x ∧ (1 ≤ m → x < m)) ∧ (∃ a', a' ≤ a + 1 ∧ Src w' A v a') ∧ GrownL [A] W w') := fun a m W hW hs ha hn => pick_any v bs A a m W (HBY.out W hW) hb hs ha hn
  have HTX : Hid (∀ a b c W, Below A w W → Src W A v a → a ≤ 1099511627776 → Blk W b 9 (nmsD.map Value.string) → b ≠ A → Calls Try.prog 76 #[.pointer (some ⟨A, 0, none⟩), .slice (some ⟨b, 0, none⟩) 4 c] W fun e w' => (∃ x ∈ nmsD, e = .returned (.string x)) ∧ (∃ a', a' ≤ a + 1 ∧ Src w' A v a') ∧ GrownL [A] W w') := fun a b c W hW hs ha hk hbg => text_any v bs A a b c nmsD W (fun W' hg => HBY.out W' (HGB.out W W' hW hg)) hb hs ha (by decide) (by decide) hk hbg
  have HDO : Hid (∀ a (n : Nat) W, Below A w W → Src W A v a → a ≤ 549755813888 → n ≤ 4 → Calls Try.prog 77 #[.pointer (some ⟨A, 0, none⟩), .int .i64 n] W fun e w' => ∃ vt ts raw X a', e = .returned vt ∧ EnvD W A v a' W.heap.size X vt n raw ts w' ∧ ts.length = n ∧ (∀ i (h : i < ts.length), DrTk i ts[i]) ∧ a' ≤ a + 20 * n) := fun a n W hW hs ha hn => drawOk_any v bs A a n W (fun W' hg => HBY.out W' (HGB.out W W' hW hg)) hb hs ha hn
  have HA := Lib.hid hA
  clear hv hb hA
  go_enter Try.func28, Try.ntmps28
  go_wp2_with fail
  refine HFR.out.mono ?_
  rintro e W1 ⟨rfl, hs1, hb1, hz1⟩
  rw [HA.out] at hs1 hb1 hz1
  rw [HA.out]
  have hs1a : Src (W1.alloc (.cells #[] 44)) A v 0 := hs1.by (grown_alloc W1 _ none) (by simp)
  have hb1a : Below A w (W1.alloc (.cells #[] 44)) := hb1.alloc (by omega) _
  have ho1 : OwnV 44 3 (W1.alloc (.cells #[] 44)) (A + 1) (.slice (some ⟨W1.heap.size, 0, none⟩) 0 0) 0 [] := by
    have := World.ownsRow_lit (e := 44) (size := 3) (base := A + 1) W1 #[] 0 (by omega) (by unfold maxLen; simp) (by simp)
    simpa [OwnV] using this
  have HP1 := Lib.hid (HPK.out 0 5 _ hb1a hs1a (by omega) (by omega))
  have H1 := Lib.hid (And.intro ho1 hb1a)
  have HZ1 := Lib.hid hz1
  clear hs1 hb1 hs1a hb1a ho1 HFR hz1
  go_wp2_with fail
  refine HP1.out.mono ?_
  rintro e W2 ⟨⟨y, rfl, y0, y1⟩, ⟨a2, ha2, hs2⟩, hg2⟩
  have y1 := y1 (by omega)
  have HS2 : Hid (Src W2 A v a2 ∧ OwnV 44 3 W2 (A + 1) (.slice (some ⟨W1.heap.size, 0, none⟩) 0 0) 0 [] ∧ Below A w W2) := ⟨hs2, H1.out.1.kept hg2.by1 (.inr (by simp [Value.ownBlock]; have := HZ1.out; omega)), HGB.out _ _ H1.out.2 hg2⟩
  clear hs2 hg2 HP1 H1
  go_wp2
  go_loopw [4, 5] (fun vo vn wr => ∃ (k m gg c a : Nat) (n : Int) (raw : List Value) (xs : List Sv), 0 ≤ n ∧ n ≤ 4 ∧ (k : Int) + n ≤ 4 ∧ vn = .int .i64 n ∧ Hid (m = k) ∧ vo = .slice (some ⟨gg, 0, none⟩) m c ∧ a + 100 * n.toNat ≤ 1000 ∧ Hid (Src wr A v a) ∧ Hid (OwnV 44 3 wr (A + 1) (.slice (some ⟨gg, 0, none⟩) m c) k raw) ∧ Hid (SvsOk wr (A + 1) raw xs) ∧ Hid (xs.length = k ∧ ∀ x ∈ xs, savedOk x = true) ∧ Hid (Below A w wr)) (fun _ vn _ => (intOf vn).toNat)
  case atStart => exact ⟨0, 0, W1.heap.size, 0, a2, y, [], [], y0, by omega, by omega, rfl, rfl, rfl, by omega, HS2.out.1, HS2.out.2.1, ⟨rfl, fun i h => absurd h (Nat.not_lt_zero _)⟩, ⟨rfl, fun x h => by simp at h⟩, HS2.out.2.2⟩
  case round =>
    obtain ⟨k, m, gg, c, a, n, raw, xs, n0, n4, hkn, rfl, HM, rfl, ha, HS, HO, HV, HX, HB⟩ := hrel
    clear HS2
    by_cases hn : 0 < n
    · have hlt : A < wr.heap.size := HS.out.lt
      have B1 : Below A w (wr.alloc (.cells (nmsD.map Value.string).toArray 9)) := HB.out.alloc (by omega) _
      have S1 : Src (wr.alloc (.cells (nmsD.map Value.string).toArray 9)) A v a := HS.out.by (grown_alloc wr _ none) (by simp)
      have HT1 := Lib.hid (HTX.out a wr.heap.size 4 _ B1 S1 (by omega) (Blk.new wr _ _) (by omega))
      have HB1 := Lib.hid B1
      clear B1 S1
      have HNM : Hid ((nmsD.map Value.string).toArray = #[.string ⟨#[97]⟩, .string ⟨#[104, 111, 117, 115, 101]⟩, .string ⟨#[115, 104, 105, 112]⟩, .string ⟨#[122, 122]⟩]) := rfl
      rw [HNM.out] at HT1 HB1
      go_wp2_with fail
      refine HT1.out.mono ?_
      rintro e W3 ⟨⟨nm, hnm, rfl⟩, ⟨a3, ha3, hs3⟩, hg3⟩
      have G3 : GrownL [A] wr W3 := ((GrownL.refl _ wr).alloc _).trans hg3
      have B3 : Below A w W3 := HGB.out _ _ HB1.out hg3
      have X3 : Below A w (W3.alloc (.cells #[.string nm, .slice none 0 0, .slice none 0 0] 44)) := B3.alloc (HSZ.out _ B3) _
      have S3 : Src (W3.alloc (.cells #[.string nm, .slice none 0 0, .slice none 0 0] 44)) A v a3 := hs3.by (grown_alloc W3 _ none) (by simp)
      have HP3 := Lib.hid (HPK.out a3 4 _ X3 S3 (by omega) (by omega))
      have HK3 := Lib.hid (And.intro (G3.alloc (.cells #[.string nm, .slice none 0 0, .slice none 0 0] 44)) (And.intro X3 (Blk.new W3 44 [.string nm, .slice none 0 0, .slice none 0 0])))
      have HNM2 := Lib.hid hnm
      have HXl : Hid (A < W3.heap.size ∧ wr.heap.size ≤ W3.heap.size) := ⟨hs3.lt, G3.size⟩
      clear G3 B3 X3 S3 hs3 hg3 hnm HT1 HB1 HNM
      go_wp2_with fail
      refine HP3.out.mono ?_
      rintro e W4 ⟨⟨z, rfl, z0, z1⟩, ⟨a4, ha4, hs4⟩, hg4⟩
      have z1 := z1 (by omega)
      obtain ⟨d, rfl⟩ : ∃ d : Nat, z = d := ⟨z.toNat, by omega⟩
      obtain ⟨X, hX⟩ : ∃ X, W3.heap.size = X := ⟨_, rfl⟩
      obtain ⟨g3, b3, k3⟩ := HK3.out
      rw [hX] at k3 HXl
      have B4 : Below A w W4 := HGB.out _ _ b3 hg4
      have K4 := k3.grownL hg4 (by simp; have := HXl.out.1; omega)
      have HDD := HDO.out a4 (1 + d) W4 B4 hs4 (by omega) (by omega)
      rw [show (((1 + d : Nat)) : Int) = 1 + (d : Int) by push_cast; rfl] at HDD
      have HD4 := Lib.hid HDD
      have HK4 := Lib.hid (And.intro (g3.trans hg4) (And.intro B4 K4))
      have HX4 : Hid (X < W4.heap.size) := K4.lt
      rw [hX]
      clear g3 b3 k3 B4 K4 hs4 hg4 HK3 HP3 hX HDD
      go_wp2_with fail
      refine HD4.out.mono ?_
      rintro e W5 ⟨vt, ts, rw5, X5, a5, rfl, hE, hlen, hdr, ha5⟩
      obtain ⟨g4, b4, k4⟩ := HK4.out
      have g5 := g4.trans hE.b
      have b5 := HGB.out _ _ b4 hE.b
      have k5 := k4.grownL hE.b (by simp; have := HXl.out.1; omega)
      have htr : TasksR W5 vt ts := hE.t.reads (by rw [hlen]; exact hE.v) (by unfold maxLen; omega) (fun i hi => by
        obtain ⟨w1, w2, w3, w4, _⟩ := (hdr i hi).w (by omega)
        exact ⟨wf_i64_iff.2 ⟨by omega, by omega⟩, wf_i64_iff.2 ⟨by omega, by omega⟩, fun n hn => wf_i64_iff.2 ⟨by have := w3 n hn; omega, by have := w3 n hn; omega⟩, fun n hn => wf_i64_iff.2 ⟨by have := w4 n hn; omega, by have := w4 n hn; omega⟩⟩)
      obtain ⟨ta, tl, tc, rfl⟩ := hE.v.form
      obtain ⟨N, hN⟩ : ∃ N, W4.heap.size = N := ⟨_, rfl⟩
      have hXN : X < N := by rw [← hN]; exact HX4.out
      rw [hN] at hE
      obtain ⟨es, ev, evb, et, _, _, _, enx, ex⟩ := hE
      have hwf : ∀ i (h : i < ts.length), (Lit.int .i64 ts[i].1).wf = true ∧ (Lit.int .i64 ts[i].2.1).wf = true ∧ (∀ n ∈ ts[i].2.2.1, (Lit.int .i64 n).wf = true) ∧ (∀ n ∈ ts[i].2.2.2, (Lit.int .i64 n).wf = true) := fun i hi => by
        obtain ⟨w1, w2, w3, w4, _⟩ := (hdr i hi).w (by omega)
        exact ⟨wf_i64_iff.2 ⟨by omega, by omega⟩, wf_i64_iff.2 ⟨by omega, by omega⟩, fun n hn => wf_i64_iff.2 ⟨by have := w3 n hn; omega, by have := w3 n hn; omega⟩, fun n hn => wf_i64_iff.2 ⟨by have := w4 n hn; omega, by have := w4 n hn; omega⟩⟩
      have hsx := grown_set W5 ⟨X, 1, none⟩ (.slice ta tl tc)
      have hXA : some A ≠ some X := fun e => by have := HXl.out.1; simp at e; omega
      have v6 := ownsRow_kept (N := 0) ev evb hsx (fun j e => by cases e; exact .inl hXN)
      have t6 := et.kept hsx (fun j e => by cases e; exact .inl hXN)
      have s6 := es.by hsx hXA
      have g6 := g5.grown hsx (fun j e => by cases e; exact .inr HXl.out.2)
      have b6 := b5.grown hsx (HSZ.out _ b5) (fun j e => by cases e; exact Nat.le_of_lt HXl.out.1)
      have k6 := k5.set 1 (.slice ta tl tc)
      have tr6 : TasksR (W5.setCell ⟨X, 1, none⟩ (.slice ta tl tc)) (.slice ta tl tc) ts := t6.reads (by rw [hlen]; exact v6) (by unfold maxLen; omega) hwf
      have HEA := Lib.hid (early_any (.slice ta tl tc) ts _ tr6 (by omega) hdr)
      have HK6 := Lib.hid (And.intro v6 (And.intro evb (And.intro t6 (And.intro s6 (And.intro g6 (And.intro b6 (And.intro k6 (And.intro hlen hdr))))))))
      have HN6 := Lib.hid (And.intro hXN (And.intro enx ex))
      have c1 := k5.cell 1 _ rfl
      have f1 := k5.frozen 1
      have c1' := k6.cell 1 _ rfl
      have hcnt : 1 + d ≤ 4 := by omega
      clear g4 b4 k4 g5 b5 k5 htr es ev evb et hwf hsx v6 t6 s6 g6 b6 k6 tr6 hlen hdr HK4 hN HD4 enx ex
      go_wp2_with fail
      refine HEA.out.mono ?_
      rintro e W7 ⟨⟨vs, st, rfl, ho7, hl7, hb7⟩, hbe⟩
      obtain ⟨v6, evb, t6, s6, g6, b6, k6, hlen, hdr⟩ := HK6.out
      obtain ⟨hXN, enx, ex⟩ := HN6.out
      have hsz6 : (W5.setCell ⟨X, 1, none⟩ (.slice ta tl tc)).heap.size = W5.heap.size := by simp [World.setCell]
      obtain ⟨M, hM⟩ : ∃ M, (W5.setCell ⟨X, 1, none⟩ (.slice ta tl tc)).heap.size = M := ⟨_, rfl⟩
      rw [hM] at ho7
      have hdrs := dr_saved HNM2.out (by omega) (by omega) hdr hl7 hb7
      have osv : OwnSv W7 N (.slice ta tl tc) vs (nm, ts, st) := by
        refine ⟨rw5, M, ?_, fun k e => by have := evb k e; omega, (t6.kept (grown_below (none : Option Nat) hbe (Nat.le_refl _)) (fun j e => by cases e)).hi (by omega), ho7, by omega⟩
        show OwnV _ _ _ _ _ ts.length _
        rw [hlen]
        exact v6.below hbe (Nat.le_refl _)
      have s7 := s6.by (grown_below (none : Option Nat) hbe (Nat.le_refl _)) (by simp)
      have g7 := g6.below hbe g6.size
      have b7 := b6.trans (hbe.mono (HSZ.out _ b6))
      have k7 := k6.below hbe k6.lt
      have hsx := grown_set W7 ⟨X, 2, none⟩ vs
      have hXA : some A ≠ some X := fun e => by have := HXl.out.1; simp at e; omega
      have osv8 := osv.grown hsx hXN
      have s8 := s7.by hsx hXA
      have g8 := g7.grown hsx (fun j e => by cases e; exact .inr HXl.out.2)
      have b8 := b7.grown hsx (HSZ.out _ b7) (fun j e => by cases e; exact Nat.le_of_lt HXl.out.1)
      have k8 : Blk (W7.setCell ⟨X, 2, none⟩ vs) X 44 [.string nm, .slice ta tl tc, vs] := k7.set 2 vs
      have o8 := HO.out.kept g8.by1 (.inr (fun e => by have := (HO.out.lt A (by simpa using e)).1; omega))
      have v8 := HV.out.grown g8.by1 (by omega)
      obtain ⟨sa, sl, sc, rfl⟩ := ho7.form
      have c2 := k7.cell 2 _ rfl
      have f2 := k7.frozen 2
      have y0' := k8.cell 0 _ rfl
      have y1' := k8.cell 1 _ rfl
      have y2' := k8.cell 2 _ rfl
      have HK8 := Lib.hid (And.intro o8 (And.intro v8 (And.intro (osv8.lo (show A + 1 ≤ N by have := HXl.out.1; omega)) (And.intro s8 (And.intro b8 hdrs)))))
      have HONE : Hid (∀ u ∈ [Value.string nm, .slice ta tl tc, .slice sa sl sc], u.oneCell' = true) := by
        intro u hu
        simp only [List.mem_cons, List.not_mem_nil, or_false] at hu
        rcases hu with rfl | rfl | rfl <;> rfl
      have HSZ8 : Hid (A + 1 ≤ (W7.setCell ⟨X, 2, none⟩ (.slice sa sl sc)).heap.size) := s8.lt
      have hkb : k ≤ 1000000 := by omega
      obtain ⟨W8, hW8⟩ : ∃ W, W7.setCell ⟨X, 2, none⟩ (.slice sa sl sc) = W := ⟨_, rfl⟩
      rw [hW8] at HK8 HSZ8 y0' y1' y2'
      clear v6 evb t6 s6 g6 b6 k6 hlen hdr ho7 hl7 hb7 hbe osv s7 g7 b7 k7 hsx osv8 s8 g8 b8 k8 o8 v8 hsz6 hM HK6 HEA c1 f1 c1' hdrs
      go_wp2_with (at_builtin; refine append_sv rfl _ _ rfl (A + 1) (.slice (some ⟨gg, 0, none⟩) m c) k raw [.string nm, .slice ta tl tc, .slice sa sl sc] rfl 1 rfl HK8.out.1 rfl HONE.out HSZ8.out hkb ?_; intro g9 c9 n9 w9 hn9 ho9 hg9; have HO9 := Lib.hid ho9; have HN9 := Lib.hid hn9; have HG9 := Lib.hid hg9; clear ho9 hg9 hn9)
      go_roundw
      case rel =>
        obtain ⟨o8, v8, osv8, s8, b8, hok, hw⟩ := HK8.out
        have hg9 := HG9.out
        have hne : ∀ j, (Value.slice (some ⟨gg, 0, none⟩) m c).ownBlock = some j → A + 1 ≤ j := fun j e => (o8.lt j e).1
        refine ⟨k + 1, n9, g9, c9, a5, n - 1, _, xs ++ [(nm, ts, st)], by omega, by omega, by omega, by go_num, HN9.out, rfl, by omega, s8.by hg9 (fun e => by have := hne A e.symm; omega), HO9.out, (v8.keptV o8 (by decide) (by decide) hg9).snoc (osv8.keptV o8 (by decide) (by decide) hg9) hw, ⟨by rw [List.length_append, HX.out.1]; rfl, fun x hx => ?_⟩, b8.grown hg9 (HSZ.out _ b8) (fun j e => by have := hne j e; omega)⟩
        rw [List.mem_append, List.mem_singleton] at hx
        rcases hx with hx | rfl
        · exact HX.out.2 x hx
        · exact hok
      case measure => simp [intOf]; omega
    · have hn2 : ¬ (0 : Int) < n := by omega
      have HFIN : Hid (SavedsR wr (.slice (some ⟨gg, 0, none⟩) m c) xs) := HV.out.reads (by rw [HX.out.1]; exact HO.out) (by have := HX.out.1; unfold maxLen; omega)
      have hxl : xs.length ≤ 4 := by have := HX.out.1; omega
      have HXL := Lib.hid hxl
      clear HTX HDO HPK HSZ HGB HBY hxl
      go_wp2
      go_ret
      rw [HA.out]
      exact ⟨⟨_, rfl, xs, HFIN.out, HXL.out, fun _ _ _ h => HX.out.2 _ h⟩, HB.out⟩
end Go.Proofs.Ytmhepomjbaendaa

namespace Go.Proofs.Ytmhepomjbaendaa
open Go.RowKit Go.Shelf Go.BigFrame
set_option linter.unusedVariables false
set_option linter.unusedSimpArgs false

/-- Where the first k stored end. -/
def endsL (xs : List Sv) (k : Nat) : List Int := (List.range (k + 1)).map fun i => (jS xs i : Int)
theorem endsL_len (xs : List Sv) (k : Nat) : (endsL xs k).length = k + 1 := by simp [endsL]
theorem endsL_get (xs : List Sv) (k i : Nat) (h : i ≤ k) : nth (endsL xs k) i = jS xs i := by
  rw [nth_eq (by rw [endsL_len]; omega)]
  simp [endsL]
theorem endsL_succ (xs : List Sv) (k : Nat) : endsL xs (k + 1) = endsL xs k ++ [(jS xs (k + 1) : Int)] := by
  unfold endsL
  rw [List.range_succ, List.map_append]; rfl

theorem OwnJ.lit (w : World) (B : Nat) (xs : List Int) (hB : B ≤ w.heap.size) (hx : xs.length ≤ maxLen) : OwnJ (w.alloc (.cells (xs.map (Value.int .i64)).toArray 3)) B (.slice (some ⟨w.heap.size, 0, none⟩) xs.length xs.length) xs := by
  have := World.ownsRow_lit (e := 3) (size := 1) w (xs.map (Value.int .i64)).toArray xs.length hB hx (by simp)
  simpa [OwnJ] using this
theorem append_jN {ops : Array Oper} {rest : List Oper} {o : Oper} {a : Act} {Q : Exit → Act → World → Prop} {W : World} (hgd : o.guard = none) (s x : Operand)
    (ho : o.op = .call { callee := .builtin .append, args := #[s, x], argTypes := #[39, 39] }) (B : Nat) (v : Value) (xs : List Int) (y : Int)
    (hs : a.eval s = v) (c : Nat) (hx : a.eval x = .slice (some ⟨W.heap.size, 0, none⟩) 1 c) (hown : OwnJ W B v xs) (hB : B ≤ W.heap.size) (hsmall : xs.length ≤ 1000000)
    (hK : ∀ g c n w', Hid (n = xs.length + 1) → OwnJ w' B (.slice (some ⟨g, 0, none⟩) n c) (xs ++ [y]) → W.grownBy w' v.ownBlock → wpList Try.prog ops Q rest (a.put o.dst (.slice (some ⟨g, 0, none⟩) n c)) w') :
    wpList Try.prog ops Q (o :: rest) a (W.alloc (.cells #[.int .i64 y] 3)) := by
  obtain ⟨i0, hi, hz0, hz1, hz2⟩ := info_parts info_gint
  have hcl := cells_lit W [Value.int .i64 y] 3
  refine wpList_append_own _ hgd s x 39 ho B 3 i0 (.int .i64 0) 1 8 Try.underlying39 hi hz0 hz1 hz2 rfl (by decide) v xs.length _ hs (World.ownsRow.alloc hown _) ⟨W.heap.size, 0, none⟩ 1 c [Value.int .i64 y] hx (by simp) hcl ?_ (by unfold maxLen; omega) (by omega) (by simp; omega) ?_
  · intro u hu
    obtain rfl : u = Value.int .i64 y := by simpa using hu
    rfl
  · intro v' w' h2 h3 _
    have h3' : W.grownBy w' v.ownBlock := ⟨h3.os, h3.tape, h3.output, Nat.le_trans (by simp) h3.size, fun k hk hne => (h3.block k (by simp; omega) hne).trans (Below.heap_alloc _ _ _ hk)⟩
    rcases h2.2 with ⟨_, h0⟩ | ⟨g, cap, cur, rfl, _⟩
    · omega
    · refine hK g cap _ w' rfl ?_ h3'
      unfold OwnJ
      rw [List.length_append, List.map_append]
      exact h2
/-- The text with another byte at place m. -/
def bentS (T : ByteArray) (m : Nat) (Y : Int) : ByteArray := strOfNums ((chs T).set m Y)
theorem bent_size (T : ByteArray) (m : Nat) (Y : Int) : (bentS T m Y).size = T.size := by
  unfold bentS
  rw [Go.Lib.size_eq, nums_bytes, List.length_map, List.length_set, chs_length]
theorem chs_back (T : ByteArray) : (chs T).map (fun n => UInt8.ofNat n.toNat) = T.data.toList := by
  unfold chs
  rw [List.map_map]
  refine List.ext_getElem (by simp) fun i h1 h2 => ?_
  simp
theorem bent_pre {T : ByteArray} {m K : Nat} {Y : Int} (h : K ≤ m) : (bentS T m Y).extract 0 K = T.extract 0 K := by
  refine bytes_eq ?_
  rw [ext_data, ext_data, List.drop_zero, List.drop_zero, Nat.sub_zero]
  unfold bentS
  rw [nums_bytes, List.map_set, chs_back, List.take_set_of_le h]
theorem nums_take (l : List Int) (o : Nat) : strOfNums (l.take o) = (strOfNums l).extract 0 o := by
  refine bytes_eq ?_
  rw [ext_data, List.drop_zero, Nat.sub_zero, nums_bytes, nums_bytes, List.map_take]
theorem conv_cells {w : World} {b c n : Nat} {l : List Int} (hn : l.length = n) (h : ∀ i, i < n → w.cell? ⟨b, i, none⟩ = some (.int .u8 (l.getD i 0))) : (convert 22 9 (.slice (some ⟨b, 0, none⟩) n c)).run Try.prog w = .ok (.string (strOfNums l)) w :=
  run_convert_bytes_arg w 22 5 Try.underlying22 Try.underlying5 b 0 n c l hn (fun i hi => by rw [Nat.zero_add]; exact h i hi) 9 Try.underlying9
/-- '[]byte(T)'. -/
theorem conv_to (T : ByteArray) (W : World) (hs : T.size ≤ 1000000) : ∃ CP W7, (convert 9 22 (.string T)).run Try.prog W = .ok (.slice (some ⟨W.heap.size, 0, none⟩) T.size CP) W7 ∧ T.size ≤ CP ∧ Below W.heap.size W W7 ∧ W.heap.size < W7.heap.size ∧ ∀ i, i < T.size → W7.cell? ⟨W.heap.size, i, none⟩ = some (.int .u8 ((chs T).getD i 0)) ∧ W7.frozen? ⟨W.heap.size, i, none⟩ = false := by
  obtain ⟨CP, hCP⟩ : ∃ CP, grownCap W T.size 0 5 = CP := ⟨_, rfl⟩
  have h := run_bytes_of_string W 9 22 5 T Try.underlying9 Try.underlying22 Try.underlying5
  rw [hCP] at h
  have hr : (bytesRow T CP).size = T.size + (CP - T.size) := by
    unfold bytesRow
    rw [Array.size_append, Array.size_map, Array.size_replicate]
    rfl
  refine ⟨CP, _, h, ?_, ?_, by simp, fun i hi => ?_⟩
  · rw [← hCP]; exact grownCap_ge _ _ _ _
  · exact ((Below.refl _ W).drew).alloc (Nat.le_refl _) _
  · have hn : (W.drew.alloc (.cells (bytesRow T CP) 5 ((bytesRow T CP).size, (bytesRow T CP).size + 1))).heap[W.heap.size]? = some (.cells (bytesRow T CP) 5 ((bytesRow T CP).size, (bytesRow T CP).size + 1)) := World.alloc_heap_new W.drew _
    constructor
    · unfold World.cell?
      simp only [hn]
      have hl : T.data.toList.length = T.size := (Go.Lib.size_eq T).symm
      have h1 : (bytesRow T CP)[i]? = some (.int .u8 ((T.data.toList.getD i 0).toNat : Int)) := by
        unfold bytesRow
        rw [Array.getElem?_append_left (by rw [Array.size_map]; exact hi), Array.getElem?_map, List.getD_eq_getElem?_getD, Array.getElem?_toList]
        have hd : T.data[i]? = some (T.data[i]'hi) := Array.getElem?_eq_getElem hi
        rw [hd]; rfl
      have h2 : (chs T).getD i 0 = ((T.data.toList.getD i 0).toNat : Int) := by
        unfold chs
        rw [List.getD_eq_getElem?_getD, List.getD_eq_getElem?_getD, List.getElem?_map, List.getElem?_eq_getElem (by omega)]
        rfl
      rw [h2]
      simpa using h1
    · unfold World.frozen?
      simp only [hn]
      simp
      omega
theorem endsJ_at {w : World} {N g n c : Nat} {xs : List Sv} {k i : Nat} (h : OwnJ w N (.slice (some ⟨g, 0, none⟩) n c) (endsL xs k)) (hn : n = k + 1) (hi : i ≤ k) : w.cell? ⟨g, i, none⟩ = some (.int .i64 (jS xs i : Int)) := by
  rw [h.at_ (by rw [endsL_len]; exact hn) i (by rw [endsL_len]; omega), endsL_get xs k i hi]

end Go.Proofs.Ytmhepomjbaendaa

namespace Go.Proofs.Ytmhepomjbaendaa
open Go.RowKit Go.Shelf Go.BigFrame
set_option linter.unusedVariables false
set_option linter.unusedSimpArgs false

theorem savedR_one {W : World} {b c : Nat} {vt vs : Value} {x : Sv} (hb : Blk W b 44 [.string x.1, vt, vs]) (hc : 1 ≤ c) (hn : x.1.size ≤ maxLen) (ht : TasksR W vt x.2.1) (hs : SlR rInt W vs x.2.2) : SavedsR W (.slice (some ⟨b, 0, none⟩) 1 c) [x] := by
  refine ⟨by unfold maxLen; simp, _, c, rfl, hc, fun i hi => ?_⟩
  obtain rfl : i = 0 := by simpa using hi
  refine ⟨b, 0, _, rfl, hb.lt, saved_cells.2 ⟨vt, vs, rfl, hn, ht, hs⟩, fun j hj => ?_⟩
  have hj3 : j < 3 := hj
  have hj4 : j = 0 ∨ j = 1 ∨ j = 2 := by omega
  rcases hj4 with rfl | rfl | rfl
  · exact hb.cell 0 _ rfl
  · exact hb.cell 1 _ rfl
  · exact hb.cell 2 _ rfl
theorem zip_self_mem {α : Type} : ∀ (l : List α) (p : α × α), p ∈ l.zip l → p.1 = p.2
  | [], p, h => by simp at h
  | x :: l, p, h => by
    simp only [List.zip_cons_cons, List.mem_cons] at h
    rcases h with rfl | h
    · rfl
    · exact zip_self_mem l p h
theorem allEq_self {α : Type} (f : α → α → Bool) (hf : ∀ x, f x x = true) (xs : List α) : allEq f xs xs = true := by
  unfold allEq
  simp only [beq_self_eq_true, decide_true, Bool.true_and, List.all_eq_true]
  rintro ⟨a, b⟩ h
  obtain rfl : a = b := zip_self_mem xs _ h
  exact hf a
theorem savedEq_self (xs : List Sv) : allEq savedEq xs xs = true :=
  allEq_self savedEq (fun x => by
    unfold savedEq
    rw [allEq_self taskEq (fun y => by simp [taskEq]) x.2.1]
    simp) xs

set_option maxRecDepth 100000 in
set_option maxHeartbeats 8000000 in
theorem walkFnSavedPlans (a0 : Option Addr) (len0 cap0 : Nat) (z0 : List Int) (a1 : Option Addr) (len1 cap1 : Nat) (z1 : List Int) (w : World)
    (w0 : (a0 = none ∧ len0 = 0 ∧ cap0 = 0 ∧ z0 = []) ∨
      ∃ x, a0 = some x ∧ len0 ≤ cap0 ∧ cap0 ≤ maxLen ∧ z0.length = cap0 ∧ (∀ i, i < z0.length → w.cell? (x.add i) = some (.int .u8 (z0.getD i 0))) ∧ ∀ n ∈ z0, (Lit.int .u8 n).wf = true)
    (w1 : (a1 = none ∧ len1 = 0 ∧ cap1 = 0 ∧ z1 = []) ∨
      ∃ x, a1 = some x ∧ len1 ≤ cap1 ∧ cap1 ≤ maxLen ∧ z1.length = cap1 ∧ (∀ i, i < z1.length → w.cell? (x.add i) = some (.int .u8 (z1.getD i 0))) ∧ ∀ n ∈ z1, (Lit.int .u8 n).wf = true) :
    Calls Try.prog 5 #[.slice a0 len0 cap0, .slice a1 len1 cap1] w fun e w' => e = .returned (.bool true) ∧ Below w.heap.size w w' := by
  obtain ⟨hv0, hwf0, hlen0⟩ := bytes_of_row w0
  obtain ⟨hv1, hwf1, hlen1⟩ := bytes_of_row w1
  generalize z0.take len0 = bs0 at *
  generalize z1.take len1 = bs1 at *
  subst hlen0 hlen1
  clear w0 w1
  obtain ⟨A, hA⟩ : ∃ A, w.heap.size = A := ⟨_, rfl⟩
  have HSZ : Hid (∀ W, Below A w W → A ≤ W.heap.size) := fun W h => by rw [← hA]; exact h.size
  have HLO := Lib.hid (b10Long_any _ _ bs0 bs1 w hv0 hv1)
  have HDR := Lib.hid (b10Saved_any _ bs0 w hv0 hwf0)
  have HAT : Hid (∀ W (i n : Int), Below A w W → 0 ≤ i → i ≤ 100 → 1 ≤ n → n ≤ 300 → Calls Try.prog 11 #[.slice a1 bs1.length cap1, .int .i64 i, .int .i64 n] W fun e w' => (∃ x, e = .returned (.int .i64 x) ∧ 0 ≤ x ∧ x < n) ∧ W = w') := fun W i n hW i0 i1 n0 n1 => b10At_any _ bs1 _ _ W (hv1.below (by rw [hA]; exact hW) (Nat.le_refl _)) hwf1 i0 (by omega) n0 (by omega)
  have HA := Lib.hid hA
  rw [hA] at HDR
  clear hv0 hv1 hwf0 hwf1 hA
  cases hlong : (decide (1048576 < bs0.length) || decide (1048576 < bs1.length))
  · rw [hlong] at HLO
    clear hlong
    go_enter Try.func5, Try.ntmps5
    go_wp2_with fail
    refine HLO.out.mono ?_
    rintro e W0 ⟨rfl, rfl⟩
    go_wp2_with fail
    refine HDR.out.mono ?_
    rintro e W1 ⟨⟨u, xs, rfl, hu, hxl, hok⟩, hb1⟩
    have hu0 := hu
    obtain ⟨a, c, rfl, hcap, _⟩ := hu.at_
    have HB1 := Lib.hid hb1
    obtain ⟨N, hN⟩ : ∃ N, W1.heap.size = N := ⟨_, rfl⟩
    have hAN : A ≤ N := by rw [← hN]; exact HSZ.out _ hb1
    have HV : Hid (∀ W, Below N W1 W → SavedsR W (.slice a xs.length c) xs) := fun W hW => hu0.below (by rw [hN]; exact hW) (Nat.le_refl _)
    have HC : Hid (∀ k (h : k < xs.length), ∃ b o vt vs, a = some ⟨b, o, none⟩ ∧ b < N ∧ W1.cell? ⟨b, o + k * 3, none⟩ = some (.string xs[k].1) ∧ W1.cell? ⟨b, o + k * 3 + 1, none⟩ = some vt ∧ W1.cell? ⟨b, o + k * 3 + 2, none⟩ = some vs ∧ (∃ p q r, vt = .slice p q r) ∧ (∃ p q r, vs = .slice p q r) ∧ xs[k].1.size ≤ maxLen ∧ (∀ W, Below N W1 W → TasksR W vt xs[k].2.1 ∧ SlR rInt W vs xs[k].2.2)) := fun k hk => by
      obtain ⟨a3, c3, hsl3, _, hc⟩ := hu0.at_
      obtain ⟨rfl, rfl⟩ : a = a3 ∧ c = c3 := by simpa using hsl3
      obtain ⟨b, o, vt, vs, e1, hbs, h0, h1, h2, g0, g1, g2⟩ := hc k hk
      refine ⟨b, o, vt, vs, e1, by omega, g0, g1, g2, ?_, ?_, h0, fun W hW => ⟨h1.below (by rw [hN]; exact hW) (Nat.le_refl _), h2.below (by rw [hN]; exact hW) (Nat.le_refl _)⟩⟩
      · obtain ⟨_, p, r, e, _⟩ := h1; exact ⟨p, _, r, e⟩
      · obtain ⟨_, p, r, e, _⟩ := h2; exact ⟨p, _, r, e⟩
    have HN := Lib.hid (And.intro hN (And.intro hAN hok))
    have HBN : Hid (∀ W, Below N W1 W → N ≤ W.heap.size ∧ Below A w W) := fun W h => ⟨by rw [← hN]; exact h.size, hb1.trans (h.mono hAN)⟩
    have HR0 : Hid (Below N W1 W1) := Below.refl _ _
    have H0 : Hid (OwnJ (W1.alloc (.cells #[.int .i64 0] 3)) N (.slice (some ⟨N, 0, none⟩) 1 1) (endsL xs 0) ∧ Below N W1 (W1.alloc (.cells #[.int .i64 0] 3))) := by
      refine ⟨?_, (Below.refl _ _).alloc (by omega) _⟩
      have := OwnJ.lit W1 N [0] (by omega) (by unfold maxLen; simp)
      rw [hN] at this
      exact this
    clear hu hu0 hok hb1 HDR HLO HSZ
    go_wp2_with fail
    clear hN
    go_loopw [6, 36] (fun ve vi wr => ∃ (k n g c' : Nat), k ≤ xs.length ∧ Hid (n = k + 1) ∧ vi = .int .i64 k ∧ ve = .slice (some ⟨g, 0, none⟩) n c' ∧ Hid (OwnJ wr N (.slice (some ⟨g, 0, none⟩) n c') (endsL xs k)) ∧ Hid (Below N W1 wr)) (fun _ vi _ => xs.length - (intOf vi).toNat)
    case atStart => exact ⟨0, 1, N, 1, Nat.zero_le _, rfl, rfl, rfl, H0.out.1, H0.out.2⟩
    case round =>
      obtain ⟨k, n, g, c', hk, HKN, rfl, rfl, HE, HB⟩ := hrel
      clear H0
      have hA1 : N ≤ wr.heap.size := (HBN.out _ HB.out).1
      by_cases hlt : k < xs.length
      · obtain ⟨b, o, vt, vs, rfl, hbN, g0, g1, g2, ⟨ta, tl, tc, rfl⟩, ⟨sa, sl, sc, rfl⟩, hnm, hrd⟩ := HC.out k hlt
        have hokk : savedOk xs[k] = true := HN.out.2.2 _ (List.getElem_mem hlt)
        have c0 := (HB.out.cell (p := ⟨b, o + k * 3, none⟩) hbN).trans g0
        have c1 := (HB.out.cell (p := ⟨b, o + k * 3 + 1, none⟩) hbN).trans g1
        have c2 := (HB.out.cell (p := ⟨b, o + k * 3 + 2, none⟩) hbN).trans g2
        have HG := Lib.hid (And.intro hbN (And.intro g0 (And.intro g1 g2)))
        have HJ : Hid (jS xs (k + 1) = jS xs k + (storeS xs[k]).size ∧ jS xs k ≤ k * 10000 ∧ (storeS xs[k]).size ≤ 10000) := ⟨jS_succ hlt, jS_small' (fun i hi _ => HN.out.2.2 _ (List.getElem_mem hi)) hk, storeS_small hokk⟩
        obtain ⟨x, hx⟩ : ∃ x, xs[k] = x := ⟨_, rfl⟩
        rw [hx] at c0 HG HJ hnm hrd hokk
        have HRD := Lib.hid hrd
        have HST : Hid (∀ W, Below N W1 W → Calls Try.prog 22 #[.agg #[.string x.1, .slice ta tl tc, .slice sa sl sc]] W fun e w' => e = .returned (.tuple #[.string (storeS x), .bool true]) ∧ Below W.heap.size W w') := fun W hW => by
          obtain ⟨r1, r2⟩ := hrd W hW
          have := implStore_v x.1 _ _ x.2.1 x.2.2 W hnm r1 r2.ints.1
          rwa [show (x.1, x.2.1, x.2.2) = x from rfl, storeR_yes hokk, hokk] at this
        have HVA : Hid (∀ W, Below N W1 W → Calls Try.prog 29 #[.agg #[.string x.1, .slice ta tl tc, .slice sa sl sc]] W fun e w' => e = .returned (.bool true) ∧ Below W.heap.size W w') := fun W hW => by
          obtain ⟨r1, r2⟩ := hrd W hW
          have := validSaved_any x.1 _ _ x.2.1 x.2.2 W hnm r1 r2.ints.1
          rwa [show (x.1, x.2.1, x.2.2) = x from rfl, hokk] at this
        have HLD : Hid (∀ W, Calls Try.prog 24 #[.string (storeS x)] W fun e w' => (∃ vt vs, e = .returned (.tuple #[.agg #[.string x.1, vt, vs], .bool true]) ∧ OwnSv w' W.heap.size vt vs x) ∧ Below W.heap.size W w') := fun W => by
          have := implLoad_any (storeS x) W (by have := HJ.out; omega)
          rw [(ld_store hokk).1, (ld_store hokk).2] at this
          exact this
        have HSW : Hid (SvW x) := by
          have := ldX_w (s := storeS x) (by have := HJ.out; omega)
          rwa [(ld_store hokk).2] at this
        have HSA : Hid (∀ W b1 b2 vt' vs', Below N W1 W → Blk W b1 44 [.string x.1, vt', vs'] → (TasksR W vt' x.2.1 ∧ SlR rInt W vs' x.2.2) → Blk W b2 44 [.string x.1, .slice ta tl tc, .slice sa sl sc] → Calls Try.prog 30 #[.slice (some ⟨b1, 0, none⟩) 1 1, .slice (some ⟨b2, 0, none⟩) 1 1] W fun e w' => e = .returned (.bool true) ∧ Below W.heap.size W w') := fun W b1 b2 vt' vs' hW k1 hr k2 => by
          obtain ⟨r1, r2⟩ := hrd W hW
          have := implSameSaved_any _ _ [x] [x] W (savedR_one k1 (Nat.le_refl _) hnm hr.1 hr.2) (savedR_one k2 (Nat.le_refl _) hnm r1 r2)
          rwa [savedEq_self] at this
        obtain ⟨Q, hQ⟩ : ∃ Q, storeS x = Q := ⟨_, rfl⟩
        rw [hQ] at HST HLD HJ
        have hQs : Q.size ≤ 10000 := HJ.out.2.2
        have k0 : (0 : Int) ≤ (k : Int) := by omega
        have k1 : (k : Int) < (xs.length : Int) := by omega
        clear g0 g1 g2 hrd hx hnm hokk hQ hbN HC HV
        go_wp2_with fail
        refine (HST.out wr HB.out).mono ?_
        rintro e W2 ⟨rfl, hb2⟩
        have B2 := Lib.hid (HB.out.trans (hb2.mono hA1))
        have HE2 := Lib.hid (HE.out.below hb2 (Nat.le_refl _))
        have hA2 : N ≤ W2.heap.size := (HBN.out _ B2.out).1
        clear hb2 HB HE c0 c1 c2 HST
        go_wp2_with fail
        refine (HLD.out W2).mono ?_
        rintro e W3 ⟨⟨vt', vs', rfl, ho3⟩, hb3⟩
        have B3 := Lib.hid (B2.out.trans (hb3.mono hA2))
        have HE3 := Lib.hid (HE2.out.below hb3 (Nat.le_refl _))
        have hA3 : N ≤ W3.heap.size := (HBN.out _ B3.out).1
        obtain ⟨⟨pa, pl, pc, rfl⟩, qa, ql, qc, rfl⟩ : (∃ a l c, vt' = .slice a l c) ∧ ∃ a l c, vs' = .slice a l c := by obtain ⟨raw, mid, h1, _, _, h4, _⟩ := ho3; exact ⟨h1.form, h4.form⟩
        have al4 : Below W3.heap.size W3 (W3.alloc (.cells #[.string x.1, .slice pa pl pc, .slice qa ql qc] 44)) := (Below.refl _ W3).alloc (Nat.le_refl _) _
        have B4 : Hid (Below N W1 (W3.alloc (.cells #[.string x.1, .slice pa pl pc, .slice qa ql qc] 44))) := B3.out.alloc hA3 _
        have HE4 := Lib.hid (HE3.out.below al4 (Nat.le_refl _))
        have HO4 := Lib.hid (ho3.below al4)
        have HK4 : Hid (Blk (W3.alloc (.cells #[.string x.1, .slice pa pl pc, .slice qa ql qc] 44)) W3.heap.size 44 [.string x.1, .slice pa pl pc, .slice qa ql qc]) := Blk.new W3 _ _
        clear ho3 hb3 HLD B2 HE2 B3 HE3 al4
        go_wp2_with fail
        obtain ⟨W4, hW4⟩ : ∃ W, W3.alloc (.cells #[.string x.1, .slice pa pl pc, .slice qa ql qc] 44) = W := ⟨_, rfl⟩
        rw [hW4] at B4 HE4 HO4 HK4 ⊢
        obtain ⟨X, hX⟩ : ∃ X, W3.heap.size = X := ⟨_, rfl⟩
        rw [hX] at HK4 ⊢
        clear hW4 hX
        have x0 := HK4.out.cell 0 _ rfl
        have x1 := HK4.out.cell 1 _ rfl
        have x2 := HK4.out.cell 2 _ rfl
        have c0 := (B4.out.cell (p := ⟨b, o + k * 3, none⟩) HG.out.1).trans HG.out.2.1
        have c1 := (B4.out.cell (p := ⟨b, o + k * 3 + 1, none⟩) HG.out.1).trans HG.out.2.2.1
        have c2 := (B4.out.cell (p := ⟨b, o + k * 3 + 2, none⟩) HG.out.1).trans HG.out.2.2.2
        have hA4 : N ≤ W4.heap.size := (HBN.out _ B4.out).1
        have hxl : X < W4.heap.size := HK4.out.lt
        have HBC : Hid (∀ W, Below N W1 W → W.cell? ⟨b, o + k * 3, none⟩ = some (.string x.1) ∧ W.cell? ⟨b, o + k * 3 + 1, none⟩ = some (.slice ta tl tc) ∧ W.cell? ⟨b, o + k * 3 + 2, none⟩ = some (.slice sa sl sc)) := fun W hW => ⟨(hW.cell (p := ⟨b, o + k * 3, none⟩) HG.out.1).trans HG.out.2.1, (hW.cell (p := ⟨b, o + k * 3 + 1, none⟩) HG.out.1).trans HG.out.2.2.1, (hW.cell (p := ⟨b, o + k * 3 + 2, none⟩) HG.out.1).trans HG.out.2.2.2⟩
        have HSP : Hid (∀ W, Below N W1 W → OwnSv W W2.heap.size (.slice pa pl pc) (.slice qa ql qc) x →
            (Calls Try.prog 30 #[.slice (some ⟨W.heap.size, 0, none⟩) 1 1, .slice (some ⟨W.heap.size + 1, 0, none⟩) 1 1] ((W.alloc (.cells #[.string x.1, .slice pa pl pc, .slice qa ql qc] 44)).alloc (.cells #[.string x.1, .slice ta tl tc, .slice sa sl sc] 44)) fun e w' => e = .returned (.bool true) ∧ Below W.heap.size W w') ∧
            (Calls Try.prog 30 #[.slice (some ⟨W.heap.size + 1, 0, none⟩) 1 1, .slice (some ⟨W.heap.size, 0, none⟩) 1 1] ((W.alloc (.cells #[.string x.1, .slice ta tl tc, .slice sa sl sc] 44)).alloc (.cells #[.string x.1, .slice pa pl pc, .slice qa ql qc] 44)) fun e w' => e = .returned (.bool true) ∧ Below W.heap.size W w')) := fun W hW ho => by
          have hNW : N ≤ W.heap.size := (HBN.out _ hW).1
          have key : ∀ o1 o2, Below W.heap.size W ((W.alloc o1).alloc o2) := fun o1 o2 => ((Below.refl _ W).alloc (Nat.le_refl _) _).alloc (by simp) _
          have rd : ∀ W', Below W.heap.size W W' → TasksR W' (.slice pa pl pc) x.2.1 ∧ SlR rInt W' (.slice qa ql qc) x.2.2 := fun W' h => (ho.below h).reads HSW.out
          constructor
          · have k1 := (Blk.new W 44 [.string x.1, .slice pa pl pc, .slice qa ql qc]).alloc (.cells #[.string x.1, .slice ta tl tc, .slice sa sl sc] 44)
            have k2 := Blk.new (W.alloc (.cells #[.string x.1, .slice pa pl pc, .slice qa ql qc] 44)) 44 [.string x.1, .slice ta tl tc, .slice sa sl sc]
            rw [show (W.alloc (.cells #[.string x.1, .slice pa pl pc, .slice qa ql qc] 44)).heap.size = W.heap.size + 1 by simp] at k2
            refine (HSA.out _ _ _ _ _ (hW.trans ((key _ _).mono hNW)) k1 (rd _ (key _ _)) k2).mono ?_
            rintro e w' ⟨rfl, hb⟩
            exact ⟨rfl, (key _ _).trans (hb.mono (key _ _).size)⟩
          · have k2 := (Blk.new W 44 [.string x.1, .slice ta tl tc, .slice sa sl sc]).alloc (.cells #[.string x.1, .slice pa pl pc, .slice qa ql qc] 44)
            have k1 := Blk.new (W.alloc (.cells #[.string x.1, .slice ta tl tc, .slice sa sl sc] 44)) 44 [.string x.1, .slice pa pl pc, .slice qa ql qc]
            rw [show (W.alloc (.cells #[.string x.1, .slice ta tl tc, .slice sa sl sc] 44)).heap.size = W.heap.size + 1 by simp] at k1
            refine (HSA.out _ _ _ _ _ (hW.trans ((key _ _).mono hNW)) k1 (rd _ (key _ _)) k2).mono ?_
            rintro e w' ⟨rfl, hb⟩
            exact ⟨rfl, (key _ _).trans (hb.mono (key _ _).size)⟩
        clear HSA
        go_cut [36, 76] from 36 to 89 (fun s36 s76 wx => s36 = .int .i64 k ∧ s76 = .bool false ∧ Hid (Below N W1 wx) ∧ Hid (OwnJ wx N (.slice (some ⟨g, 0, none⟩) n c') (endsL xs k)))
        case first =>
          refine wp_region_any (by kernel_rfl) ?_
          try (change wpAny _ _ _ _ _ _ _ (World.drew _))
          refine wpAny_take (i := 0) (v := ?v0x1) rfl (by kernel_rfl) (by kernel_rfl) (by kernel_rfl) (fun _ _ _ h => h) (Or.inl ⟨by kernel_rfl, ?y0x1⟩) ?r0x1
          case y0x1 => (intro w; go_simp <;> (try with_reducible rfl))
          refine wpAny_take (i := 1) (v := ?v1x2) rfl (by kernel_rfl) (by kernel_rfl) (by kernel_rfl) (fun _ _ _ h => h) (Or.inl ⟨by kernel_rfl, ?y1x2⟩) ?r1x2
          case y1x2 => (intro w; go_simp <;> (try with_reducible rfl))
          refine wpAny_take (i := 2) (v := ?v2x3) rfl (by kernel_rfl) (by kernel_rfl) (by kernel_rfl) (fun _ _ _ h => h) (Or.inl ⟨by kernel_rfl, ?y2x3⟩) ?r2x3
          case y2x3 => (intro w; go_simp <;> (try with_reducible rfl))
          refine wpAny_take (i := 3) (v := ?v3x4) rfl (by kernel_rfl) (by kernel_rfl) (by kernel_rfl) (fun _ _ _ h => h) (Or.inl ⟨by kernel_rfl, ?y3x4⟩) ?r3x4
          case y3x4 => (intro w; go_simp <;> (try with_reducible rfl))
          refine wpAny_take (i := 4) (v := ?v4x5) rfl (by kernel_rfl) (by kernel_rfl) (by kernel_rfl) (fun _ _ _ h => h) (Or.inl ⟨by kernel_rfl, ?y4x5⟩) ?r4x5
          case y4x5 => (intro w; go_simp <;> (try with_reducible rfl))
          refine wpAny_take (i := 5) (v := ?v5x6) rfl (by kernel_rfl) (by kernel_rfl) (by kernel_rfl) (fun _ _ _ h => h) (Or.inl ⟨by kernel_rfl, ?y5x6⟩) ?r5x6
          case y5x6 => (intro w; go_simp <;> (try with_reducible rfl))
          refine wpAny_take (i := 6) (v := ?v6x7) rfl (by kernel_rfl) (by kernel_rfl) (by kernel_rfl) (fun _ _ _ h => h) (Or.inl ⟨by kernel_rfl, ?y6x7⟩) ?r6x7
          case y6x7 => (intro w; go_simp <;> (try with_reducible rfl))
          refine wpAny_take (i := 7) (v := ?v7x8) rfl (by kernel_rfl) (by kernel_rfl) (by kernel_rfl) (fun _ _ _ h => h) (Or.inl ⟨by kernel_rfl, ?y7x8⟩) ?r7x8
          case y7x8 => (intro w; go_simp <;> (try with_reducible rfl))
          refine wpAny_take (i := 8) (v := ?v8x9) rfl (by kernel_rfl) (by kernel_rfl) (by kernel_rfl) (fun _ _ _ h => h) (Or.inl ⟨by kernel_rfl, ?y8x9⟩) ?r8x9
          case y8x9 => (intro w; go_simp <;> (try with_reducible rfl))
          refine wpAny_take (i := 9) (v := ?v9x10) rfl (by kernel_rfl) (by kernel_rfl) (by kernel_rfl) (fun _ _ _ h => h) (Or.inl ⟨by kernel_rfl, ?y9x10⟩) ?r9x10
          case y9x10 => (intro w; go_simp <;> (try with_reducible rfl))
          refine wpAny_ready (rs := [10]) (by kernel_rfl) (by simp) ?_
          refine AllReady.cons rfl (fun K hK => ?_) AllReady.nil
          go_simp
          refine hK _ _ ?_
          clear hK K
          refine wpAny_ready (rs := [11]) (by kernel_rfl) (by simp) ?_
          refine AllReady.cons rfl (fun K hK => ?_) AllReady.nil
          go_simp
          go_wp2_with (go_at_call 29; refine (HVA.out _ B4.out.drew).mono ?_; rintro e W5 ⟨rfl, hb5⟩; have h45 : Below W4.heap.size W4 W5 := ((Below.refl _ W4).drew).trans hb5; have B5 := Lib.hid (B4.out.trans (h45.mono hA4)); have K5 := Lib.hid (HK4.out.below h45 hxl); have HO5 := Lib.hid (HO4.out.below h45); have HE5 := Lib.hid (HE4.out.below h45 (Nat.le_refl _)); have c0 := (HBC.out _ B5.out).1; have c1 := (HBC.out _ B5.out).2.1; have c2 := (HBC.out _ B5.out).2.2; have x0 := K5.out.cell 0 _ rfl; have x1 := K5.out.cell 1 _ rfl; have x2 := K5.out.cell 2 _ rfl; have hA5 : N ≤ W5.heap.size := (HBN.out _ B5.out).1; have y0 : ∀ o, (W5.alloc o).cell? ⟨X, 0, none⟩ = some (.string x.1) := fun o => (K5.out.alloc o).cell 0 _ rfl; have y1 : ∀ o, (W5.alloc o).cell? ⟨X, 1, none⟩ = some (.slice pa pl pc) := fun o => (K5.out.alloc o).cell 1 _ rfl; have y2 : ∀ o, (W5.alloc o).cell? ⟨X, 2, none⟩ = some (.slice qa ql qc) := fun o => (K5.out.alloc o).cell 2 _ rfl; have d0 := fun ob => (HBC.out _ (B5.out.alloc hA5 ob)).1; have d1 := fun ob => (HBC.out _ (B5.out.alloc hA5 ob)).2.1; have d2 := fun ob => (HBC.out _ (B5.out.alloc hA5 ob)).2.2; have HS5 := Lib.hid (HSP.out W5 B5.out HO5.out); clear hb5 h45)
          refine wpAny_take (i := 12) (v := ?v12x11) rfl (by kernel_rfl) (by kernel_rfl) (by kernel_rfl) (fun _ _ _ h => h) (Or.inl ⟨by kernel_rfl, ?y12x11⟩) ?r12x11
          case y12x11 => (intro w; go_simp <;> (try with_reducible rfl))
          refine wpAny_take (i := 13) (v := ?v13x12) rfl (by kernel_rfl) (by kernel_rfl) (by kernel_rfl) (fun _ _ _ h => h) (Or.inl ⟨by kernel_rfl, ?y13x12⟩) ?r13x12
          case y13x12 => (intro w; go_simp <;> (try with_reducible rfl))
          refine wpAny_take (i := 14) (v := ?v14x13) rfl (by kernel_rfl) (by kernel_rfl) (by kernel_rfl) (fun _ _ _ h => h) (Or.inl ⟨by kernel_rfl, ?y14x13⟩) ?r14x13
          case y14x13 => (intro w; go_simp <;> (try with_reducible rfl))
          refine wpAny_take (i := 17) (v := ?v17x14) rfl (by kernel_rfl) (by kernel_rfl) (by kernel_rfl) (fun _ _ _ h => h) (Or.inl ⟨by kernel_rfl, ?y17x14⟩) ?r17x14
          case y17x14 => (intro w; go_simp <;> (try with_reducible rfl))
          refine wpAny_take (i := 18) (v := ?v18x15) rfl (by kernel_rfl) (by kernel_rfl) (by kernel_rfl) (fun _ _ _ h => h) (Or.inl ⟨by kernel_rfl, ?y18x15⟩) ?r18x15
          case y18x15 => (intro w; go_simp <;> (try with_reducible rfl))
          refine wpAny_take (i := 19) (v := ?v19x16) rfl (by kernel_rfl) (by kernel_rfl) (by kernel_rfl) (fun _ _ _ h => h) (Or.inl ⟨by kernel_rfl, ?y19x16⟩) ?r19x16
          case y19x16 => (intro w; go_simp <;> (try with_reducible rfl))
          refine wpAny_ready (rs := [15, 20]) (by kernel_rfl) (by simp) ?_
          refine AllReady.cons rfl (fun K hK => ?_) (AllReady.cons rfl (fun K hK => ?_) AllReady.nil)
          · go_simp
            refine hK _ _ ?_
            clear hK K
            refine wpAny_ready (rs := [16, 20]) (by kernel_rfl) (by simp) ?_
            refine AllReady.cons rfl (fun K hK => ?_) (AllReady.cons rfl (fun K hK => ?_) AllReady.nil)
            · go_simp
              refine hK _ _ ?_
              clear hK K
              refine wpAny_ready (rs := [20]) (by kernel_rfl) (by simp) ?_
              refine AllReady.cons rfl (fun K hK => ?_) AllReady.nil
              go_simp
              refine hK _ _ ?_
              clear hK K
              refine wpAny_ready (rs := [21]) (by kernel_rfl) (by simp) ?_
              refine AllReady.cons rfl (fun K hK => ?_) AllReady.nil
              go_simp
              refine hK _ _ ?_
              clear hK K
              -- the two lists are made
              refine wpAny_ready (rs := [22]) (by kernel_rfl) (by simp) ?_
              refine AllReady.cons rfl (fun K hK => ?_) AllReady.nil
              go_simp
              go_wp2_with (go_at_call 30; refine HS5.out.1.mono ?_; rintro e W6 ⟨rfl, hb6⟩; have B6 := Lib.hid (B5.out.trans (hb6.mono hA5)); have HE6 := Lib.hid (HE5.out.below hb6 (Nat.le_refl _)); clear hb6)
              refine wpAny_take (i := 23) (v := ?v23x17) rfl (by kernel_rfl) (by kernel_rfl) (by kernel_rfl) (fun _ _ _ h => h) (Or.inl ⟨by kernel_rfl, ?y23x17⟩) ?r23x17
              case y23x17 => (intro w; go_simp <;> (try with_reducible rfl))
              refine wpAny_take (i := 24) (v := ?v24x18) rfl (by kernel_rfl) (by kernel_rfl) (by kernel_rfl) (fun _ _ _ h => h) (Or.inl ⟨by kernel_rfl, ?y24x18⟩) ?r24x18
              case y24x18 => (intro w; go_simp <;> (try with_reducible rfl))
              refine wpAny_done (by kernel_rfl) ?_ _
              go_wp2_with fail
              go_meet
              exact ⟨rfl, rfl, B6.out, HE6.out⟩
            · go_simp
              refine hK _ _ ?_
              clear hK K
              refine wpAny_ready (rs := [16, 21]) (by kernel_rfl) (by simp) ?_
              refine AllReady.cons rfl (fun K hK => ?_) (AllReady.cons rfl (fun K hK => ?_) AllReady.nil)
              · go_simp
                refine hK _ _ ?_
                clear hK K
                refine wpAny_ready (rs := [21]) (by kernel_rfl) (by simp) ?_
                refine AllReady.cons rfl (fun K hK => ?_) AllReady.nil
                go_simp
                refine hK _ _ ?_
                clear hK K
                -- the two lists are made
                refine wpAny_ready (rs := [22]) (by kernel_rfl) (by simp) ?_
                refine AllReady.cons rfl (fun K hK => ?_) AllReady.nil
                go_simp
                go_wp2_with (go_at_call 30; refine HS5.out.1.mono ?_; rintro e W6 ⟨rfl, hb6⟩; have B6 := Lib.hid (B5.out.trans (hb6.mono hA5)); have HE6 := Lib.hid (HE5.out.below hb6 (Nat.le_refl _)); clear hb6)
                refine wpAny_take (i := 23) (v := ?v23x19) rfl (by kernel_rfl) (by kernel_rfl) (by kernel_rfl) (fun _ _ _ h => h) (Or.inl ⟨by kernel_rfl, ?y23x19⟩) ?r23x19
                case y23x19 => (intro w; go_simp <;> (try with_reducible rfl))
                refine wpAny_take (i := 24) (v := ?v24x20) rfl (by kernel_rfl) (by kernel_rfl) (by kernel_rfl) (fun _ _ _ h => h) (Or.inl ⟨by kernel_rfl, ?y24x20⟩) ?r24x20
                case y24x20 => (intro w; go_simp <;> (try with_reducible rfl))
                refine wpAny_done (by kernel_rfl) ?_ _
                go_wp2_with fail
                go_meet
                exact ⟨rfl, rfl, B6.out, HE6.out⟩
              · go_simp
                refine hK _ _ ?_
                clear hK K
                refine wpAny_ready (rs := [16]) (by kernel_rfl) (by simp) ?_
                refine AllReady.cons rfl (fun K hK => ?_) AllReady.nil
                go_simp
                refine hK _ _ ?_
                clear hK K
                -- the two lists are made
                refine wpAny_ready (rs := [22]) (by kernel_rfl) (by simp) ?_
                refine AllReady.cons rfl (fun K hK => ?_) AllReady.nil
                go_simp
                go_wp2_with (go_at_call 30; refine HS5.out.2.mono ?_; rintro e W6 ⟨rfl, hb6⟩; have B6 := Lib.hid (B5.out.trans (hb6.mono hA5)); have HE6 := Lib.hid (HE5.out.below hb6 (Nat.le_refl _)); clear hb6)
                refine wpAny_take (i := 23) (v := ?v23x21) rfl (by kernel_rfl) (by kernel_rfl) (by kernel_rfl) (fun _ _ _ h => h) (Or.inl ⟨by kernel_rfl, ?y23x21⟩) ?r23x21
                case y23x21 => (intro w; go_simp <;> (try with_reducible rfl))
                refine wpAny_take (i := 24) (v := ?v24x22) rfl (by kernel_rfl) (by kernel_rfl) (by kernel_rfl) (fun _ _ _ h => h) (Or.inl ⟨by kernel_rfl, ?y24x22⟩) ?r24x22
                case y24x22 => (intro w; go_simp <;> (try with_reducible rfl))
                refine wpAny_done (by kernel_rfl) ?_ _
                go_wp2_with fail
                go_meet
                exact ⟨rfl, rfl, B6.out, HE6.out⟩
          · go_simp
            refine hK _ _ ?_
            clear hK K
            refine wpAny_ready (rs := [15, 21]) (by kernel_rfl) (by simp) ?_
            refine AllReady.cons rfl (fun K hK => ?_) (AllReady.cons rfl (fun K hK => ?_) AllReady.nil)
            · go_simp
              refine hK _ _ ?_
              clear hK K
              refine wpAny_ready (rs := [16, 21]) (by kernel_rfl) (by simp) ?_
              refine AllReady.cons rfl (fun K hK => ?_) (AllReady.cons rfl (fun K hK => ?_) AllReady.nil)
              · go_simp
                refine hK _ _ ?_
                clear hK K
                refine wpAny_ready (rs := [21]) (by kernel_rfl) (by simp) ?_
                refine AllReady.cons rfl (fun K hK => ?_) AllReady.nil
                go_simp
                refine hK _ _ ?_
                clear hK K
                -- the two lists are made
                refine wpAny_ready (rs := [22]) (by kernel_rfl) (by simp) ?_
                refine AllReady.cons rfl (fun K hK => ?_) AllReady.nil
                go_simp
                go_wp2_with (go_at_call 30; refine HS5.out.1.mono ?_; rintro e W6 ⟨rfl, hb6⟩; have B6 := Lib.hid (B5.out.trans (hb6.mono hA5)); have HE6 := Lib.hid (HE5.out.below hb6 (Nat.le_refl _)); clear hb6)
                refine wpAny_take (i := 23) (v := ?v23x23) rfl (by kernel_rfl) (by kernel_rfl) (by kernel_rfl) (fun _ _ _ h => h) (Or.inl ⟨by kernel_rfl, ?y23x23⟩) ?r23x23
                case y23x23 => (intro w; go_simp <;> (try with_reducible rfl))
                refine wpAny_take (i := 24) (v := ?v24x24) rfl (by kernel_rfl) (by kernel_rfl) (by kernel_rfl) (fun _ _ _ h => h) (Or.inl ⟨by kernel_rfl, ?y24x24⟩) ?r24x24
                case y24x24 => (intro w; go_simp <;> (try with_reducible rfl))
                refine wpAny_done (by kernel_rfl) ?_ _
                go_wp2_with fail
                go_meet
                exact ⟨rfl, rfl, B6.out, HE6.out⟩
              · go_simp
                refine hK _ _ ?_
                clear hK K
                refine wpAny_ready (rs := [16]) (by kernel_rfl) (by simp) ?_
                refine AllReady.cons rfl (fun K hK => ?_) AllReady.nil
                go_simp
                refine hK _ _ ?_
                clear hK K
                -- the two lists are made
                refine wpAny_ready (rs := [22]) (by kernel_rfl) (by simp) ?_
                refine AllReady.cons rfl (fun K hK => ?_) AllReady.nil
                go_simp
                go_wp2_with (go_at_call 30; refine HS5.out.2.mono ?_; rintro e W6 ⟨rfl, hb6⟩; have B6 := Lib.hid (B5.out.trans (hb6.mono hA5)); have HE6 := Lib.hid (HE5.out.below hb6 (Nat.le_refl _)); clear hb6)
                refine wpAny_take (i := 23) (v := ?v23x25) rfl (by kernel_rfl) (by kernel_rfl) (by kernel_rfl) (fun _ _ _ h => h) (Or.inl ⟨by kernel_rfl, ?y23x25⟩) ?r23x25
                case y23x25 => (intro w; go_simp <;> (try with_reducible rfl))
                refine wpAny_take (i := 24) (v := ?v24x26) rfl (by kernel_rfl) (by kernel_rfl) (by kernel_rfl) (fun _ _ _ h => h) (Or.inl ⟨by kernel_rfl, ?y24x26⟩) ?r24x26
                case y24x26 => (intro w; go_simp <;> (try with_reducible rfl))
                refine wpAny_done (by kernel_rfl) ?_ _
                go_wp2_with fail
                go_meet
                exact ⟨rfl, rfl, B6.out, HE6.out⟩
            · go_simp
              refine hK _ _ ?_
              clear hK K
              refine wpAny_ready (rs := [15]) (by kernel_rfl) (by simp) ?_
              refine AllReady.cons rfl (fun K hK => ?_) AllReady.nil
              go_simp
              refine hK _ _ ?_
              clear hK K
              refine wpAny_ready (rs := [16]) (by kernel_rfl) (by simp) ?_
              refine AllReady.cons rfl (fun K hK => ?_) AllReady.nil
              go_simp
              refine hK _ _ ?_
              clear hK K
              -- the two lists are made
              refine wpAny_ready (rs := [22]) (by kernel_rfl) (by simp) ?_
              refine AllReady.cons rfl (fun K hK => ?_) AllReady.nil
              go_simp
              go_wp2_with (go_at_call 30; refine HS5.out.2.mono ?_; rintro e W6 ⟨rfl, hb6⟩; have B6 := Lib.hid (B5.out.trans (hb6.mono hA5)); have HE6 := Lib.hid (HE5.out.below hb6 (Nat.le_refl _)); clear hb6)
              refine wpAny_take (i := 23) (v := ?v23x27) rfl (by kernel_rfl) (by kernel_rfl) (by kernel_rfl) (fun _ _ _ h => h) (Or.inl ⟨by kernel_rfl, ?y23x27⟩) ?r23x27
              case y23x27 => (intro w; go_simp <;> (try with_reducible rfl))
              refine wpAny_take (i := 24) (v := ?v24x28) rfl (by kernel_rfl) (by kernel_rfl) (by kernel_rfl) (fun _ _ _ h => h) (Or.inl ⟨by kernel_rfl, ?y24x28⟩) ?r24x28
              case y24x28 => (intro w; go_simp <;> (try with_reducible rfl))
              refine wpAny_done (by kernel_rfl) ?_ _
              go_wp2_with fail
              go_meet
              exact ⟨rfl, rfl, B6.out, HE6.out⟩
        case rest =>
          obtain ⟨rfl, rfl, HB6, HE6⟩ := hcut
          obtain ⟨S, hS⟩ : ∃ S, jS xs k = S := ⟨_, rfl⟩
          have hend := endsJ_at HE6.out HKN.out (Nat.le_refl k)
          rw [hS] at HJ hend
          have hJb : S ≤ 10000000 := by have := HJ.out; omega
          have hkn := HKN.out
          have hn1 : (n : Int) - 1 = (k : Int) := by omega
          have hkn1 : k < n := by omega
          have hkn2 : (k : Int) < (n : Int) := by omega
          have HEN : Hid (endsL xs k ++ [(S : Int) + (Q.size : Int)] = endsL xs (k + 1)) := by
            show _ = _
            rw [endsL_succ, HJ.out.1]
            congr 2
          have hel : Hid ((endsL xs k).length ≤ 1000000) := by show _ ≤ _; rw [endsL_len]; omega
          have HELN : Hid ((endsL xs k).length = k + 1) := endsL_len xs k
          have HA6 : Hid (N ≤ wc.heap.size) := (HBN.out _ HB6.out).1
          clear hS hkn x0 x1 x2 c0 c1 c2 HBC HSP HK4 HE4 HO4 B4 HVA HSW HRD HG
          go_wp2_with (at_builtin; refine append_jN rfl _ _ rfl N (.slice (some ⟨g, 0, none⟩) n c') (endsL xs k) ((S : Int) + (Q.size : Int)) rfl 1 rfl HE6.out HA6.out hel.out ?_; intro g6 c6 n6 w6 hn6 ho6 hg6; rw [HEN.out] at ho6; have HO6 := Lib.hid ho6; have HN6 := hn6; have B6 : Hid (Below N W1 w6) := HB6.out.grown hg6 HA6.out (fun j e => (HE6.out.lt j e).1); clear ho6 hg6)
          go_roundw
          case rel => exact ⟨k + 1, n6, g6, c6, by omega, by have h1 := HN6.out; have h2 := HELN.out; show n6 = k + 1 + 1; omega, by go_num, rfl, HO6.out, B6.out⟩
          case measure => simp [intOf]; omega
      · have hkl : k = xs.length := by omega
        have hall : ∀ x ∈ xs, savedOk x = true := HN.out.2.2
        have hF : allOk xs = true := by
          unfold allOk
          simp only [Bool.and_eq_true, decide_eq_true_eq, List.all_eq_true]
          exact ⟨by omega, hall⟩
        have HFF := Lib.hid hF
        have HSM := Lib.hid (all_small (xs := xs) (by omega) hall)
        have hyes : storeAllR xs = joined xs xs.length := storeAllR_yes hF
        obtain ⟨T, hT⟩ : ∃ T, storeAllR xs = T := ⟨_, rfl⟩
        have HTJ : Hid (T = joined xs xs.length) := by show _ = _; rw [← hT, hyes]
        have HSI : Hid (∀ v W, SavedsR W v xs → Calls Try.prog 25 #[v] W fun e w' => e = .returned (.tuple #[.string T, .bool true]) ∧ Below W.heap.size W w') := fun v W hv => by
          have := implStoreAll_u v xs W hv HSM.out
          rwa [hT, hF] at this
        have HY3 : Hid (T.size ≤ 40000) := by
          have := jS_small hall xs.length (Nat.le_refl _)
          unfold jS at this
          show _ ≤ _
          rw [HTJ.out]; omega
        have HRV : Hid (∀ W, Calls Try.prog 27 #[.string T] W fun e w' => (∃ v, e = .returned (.tuple #[v, .int .i64 T.size, .bool true]) ∧ SavedsR w' v xs) ∧ Below W.heap.size W w') := fun W => by
          have := implRecover_any T W (by have := HY3.out; omega)
          rw [HTJ.out, (rv_whole hF).1, (rv_whole hF).2, ← HTJ.out] at this
          exact this
        have HJN : Hid (jS xs xs.length = T.size) := by show (joined xs xs.length).size = _; rw [HTJ.out]
        have HN2 : Hid (n = xs.length + 1) := by show _ = _; rw [HKN.out, hkl]
        have HE0 : Hid (OwnJ wr N (.slice (some ⟨g, 0, none⟩) n c') (endsL xs xs.length)) := by
          show OwnJ _ _ _ _
          rw [← hkl]; exact HE.out
        have i2 : ¬ (k : Int) < (xs.length : Int) := by omega
        have HI1 := Lib.hid (HSI.out _ wr (HV.out wr HB.out))
        clear hT hyes hF hall hkl HE HKN HC
        go_wp2_with fail
        refine HI1.out.mono ?_
        rintro e W2 ⟨rfl, hb2⟩
        have B2 := Lib.hid (HB.out.trans (hb2.mono hA1))
        have HE2 := Lib.hid (HE0.out.below hb2 (Nat.le_refl _))
        have HA3 := Lib.hid (HBN.out _ B2.out).1
        have HR2 := Lib.hid (HRV.out W2)
        clear hb2 HI1 HB HE0
        go_wp2_with fail
        refine HR2.out.mono ?_
        rintro e W3 ⟨⟨v3, rfl, hv3⟩, hb3⟩
        have B3 := Lib.hid (B2.out.trans (hb3.mono HA3.out))
        have HE3 := Lib.hid (HE2.out.below hb3 (Nat.le_refl _))
        have HA4 := Lib.hid (HBN.out _ B3.out).1
        have HS3 : Hid (Calls Try.prog 30 #[v3, .slice a xs.length c] W3 fun e w' => e = .returned (.bool true) ∧ Below W3.heap.size W3 w') := by
          have := implSameSaved_any v3 (.slice a xs.length c) xs xs W3 hv3 (HV.out _ B3.out)
          rwa [savedEq_self] at this
        obtain ⟨p3, q3, rfl, _⟩ := hv3.at_
        have hend := endsJ_at HE3.out HN2.out (Nat.le_refl xs.length)
        rw [HJN.out] at hend
        have hts := HY3.out
        have hn2 := HN2.out
        have hln : xs.length < n := by omega
        have hln2 : (xs.length : Int) < (n : Int) := by omega
        have hne1 : ((T.size : Int) != (T.size : Int)) = false := by simp
        clear hb3 hv3 HRV B2 HE2 HA3 HR2 hn2
        go_wp2_with fail
        refine HS3.out.mono ?_
        rintro e W4 ⟨rfl, hb4⟩
        have B4 := Lib.hid (B3.out.trans (hb4.mono HA4.out))
        have HE4 := Lib.hid (HE3.out.below hb4 (Nat.le_refl _))
        have HA5 := Lib.hid (HBN.out _ B4.out).1
        clear hb4 HS3 B3 HE3 HA4 hend hne1
        by_cases hz : T.size = 0
        · have hz1 : (T.size : Int) = 0 := by omega
          have hz2 : ((T.size : Int) == 0) = true := by rw [hz1]; rfl
          have HFIN : Hid (Below w.heap.size w W4) := by rw [HA.out]; exact (HBN.out _ B4.out).2
          clear hz
          go_wp2
          go_ret
          exact ⟨rfl, HFIN.out⟩
        have hz1 : ¬ (T.size : Int) = 0 := by omega
        have hz2 : ((T.size : Int) == 0) = false := by rw [beq_eq_false_iff_ne]; exact hz1
        have HC1 := Lib.hid (HAT.out W4 0 256 (HBN.out _ B4.out).2 (by omega) (by omega) (by omega) (by omega))
        have HC2 := Lib.hid (HAT.out W4 1 256 (HBN.out _ B4.out).2 (by omega) (by omega) (by omega) (by omega))
        go_wp2_with fail
        refine HC1.out.mono ?_
        rintro e W ⟨⟨x0, rfl, x00, x01⟩, rfl⟩
        go_wp2_with fail
        refine HC2.out.mono ?_
        rintro e W ⟨⟨x1, rfl, x10, x11⟩, rfl⟩
        obtain ⟨m, hm⟩ : ∃ m : Nat, (256 * x0 + x1) % (T.size : Int) = m := ⟨((256 * x0 + x1) % (T.size : Int)).toNat, by have := Int.emod_nonneg (256 * x0 + x1) hz1; omega⟩
        have hmT2 : (m : Int) < (T.size : Int) := by rw [← hm]; exact Int.emod_lt_of_pos _ (by omega)
        have hmT : m < T.size := by omega
        have hmt : Int.tmod (256 * x0 + x1) (T.size : Int) = (m : Int) := by rw [Int.tmod_eq_emod_of_nonneg (by omega)]; exact hm
        clear HC1 HC2
        go_wp2
        go_loop [18] (fun vk => ∃ (q : Nat), q ≤ xs.length ∧ vk = .int .i64 q ∧ Hid (jS xs q ≤ m)) (fun vk => xs.length - (intOf vk).toNat)
        case atStart => exact ⟨0, Nat.zero_le _, rfl, Nat.zero_le _⟩
        case round =>
          obtain ⟨q, hq, rfl, HQM⟩ := hrel
          have hqn : q < xs.length := by
            rcases Nat.lt_or_eq_of_le hq with h | h
            · exact h
            · have := HQM.out; rw [h, HJN.out] at this; omega
          have hcell := endsJ_at HE4.out HN2.out (show q + 1 ≤ xs.length by omega)
          have q1 : (q : Int) < (xs.length : Int) := by omega
          have q2 : (q : Int) + 1 < (n : Int) := by have := HN2.out; omega
          have q3 : (0 : Int) ≤ (q : Int) + 1 := by omega
          have q4 : q + 1 < n := by have := HN2.out; omega
          clear hm hmt
          by_cases hle : jS xs (q + 1) ≤ m
          · have HLE := Lib.hid hle
            obtain ⟨J, hJ⟩ : ∃ J, jS xs (q + 1) = J := ⟨_, rfl⟩
            rw [hJ] at hcell hle
            have hle2 : (J : Int) ≤ (m : Int) := by omega
            clear hJ hle HQM
            go_wp2
            go_round
            case rel => exact ⟨q + 1, by omega, by go_num, HLE.out⟩
            case measure => simp [intOf]; omega
          · have hlt2 : m < jS xs (q + 1) := by omega
            have hqq := HQM.out
            have hcut := rv_cut HFF.out hqn hqq hlt2
            rw [← HTJ.out] at hcut
            have hlen5 : (xs.take q).length = q := by rw [List.length_take]; omega
            have HRV : Hid (Calls Try.prog 27 #[.string (T.extract 0 m)] W4 fun e w' => (∃ v, e = .returned (.tuple #[v, .int .i64 (jS xs q), .bool true]) ∧ SavedsR w' v (xs.take q)) ∧ Below W4.heap.size W4 w') := by
              have hsz : (T.extract 0 m).size ≤ 1048576 := by
                rw [Go.Lib.size_eq, ext_data, List.length_take, List.drop_zero, data_len]; omega
              have := implRecover_any (T.extract 0 m) W4 hsz
              rw [hcut.1, hcut.2] at this
              exact this
            have HQQ := Lib.hid hqq
            have HL5 := Lib.hid hlen5
            obtain ⟨J, hJ⟩ : ∃ J, jS xs (q + 1) = J := ⟨_, rfl⟩
            rw [hJ] at hcell hle hlt2
            have hle2 : ¬ (J : Int) ≤ (m : Int) := by omega
            obtain ⟨K, hK⟩ : ∃ J, jS xs q = J := ⟨_, rfl⟩
            rw [hK] at HRV hqq
            have HKK := Lib.hid hK
            have m0 : (0 : Int) ≤ (m : Int) := by omega
            have m1 : (m : Int) ≤ (T.size : Int) := by omega
            clear hJ hK hcut hlen5 hle HQM
            go_wp2_with fail
            refine HRV.out.mono ?_
            rintro e W5 ⟨⟨v5, rfl, hv5⟩, hb5⟩
            have B5 := Lib.hid (B4.out.trans (hb5.mono HA5.out))
            have HE5 := Lib.hid (HE4.out.below hb5 (Nat.le_refl _))
            have HA6 := Lib.hid (HBN.out _ B5.out).1
            obtain ⟨p5, q5, rfl, _⟩ := hv5.at_
            rw [HL5.out]
            have hck := endsJ_at HE5.out HN2.out (show q ≤ xs.length by omega)
            rw [HKK.out] at hck
            have q6 : q < n := by omega
            have q7 : (q : Int) < (n : Int) := by omega
            clear hb5 hv5 HRV B4 HE4 HA5 hcell
            obtain ⟨CP, W7, hcv, hcp, hb7, hs7, hc7⟩ := conv_to T W5 (by omega)
            obtain ⟨b0, hb0⟩ : ∃ b, W5.heap.size = b := ⟨_, rfl⟩
            rw [hb0] at hcv hb7 hs7 hc7
            have HC7 := Lib.hid hc7
            have B7 := Lib.hid (B5.out.trans (hb7.mono (by rw [← hb0]; exact HA6.out)))
            have HAB : Hid (N ≤ b0) := by rw [← hb0]; exact HA6.out
            have cm := (hc7 m hmT).1
            have fm := (hc7 m hmT).2
            have HCP := Lib.hid hcp
            have m3 : (m : Int) < (T.size : Int) := hmT2
            have HC3 := Lib.hid (fun W hW => HAT.out W 2 255 hW (by omega) (by omega) (by omega) (by omega))
            clear hc7 hb7 hb0
            have hne2 : ((K : Int) != (K : Int)) = false := by simp
            have hne3 : ((q : Int) != (q : Int)) = false := by simp
            go_wp2_with fail
            have hB7d : Below A w W7.drew := ((HBN.out _ B7.out).2).drew
            go_cut [18] from 182 to 191 (fun s18 wx => s18 = .int .i64 q ∧ ∃ Y : Int, Hid (wx = (W7.setCell ⟨b0, m, none⟩ (.int .u8 Y)).drew))
            case first =>
              go_region_with (go_at_call 11; refine (HC3.out _ hB7d).mono ?_; rintro e W ⟨⟨x2, rfl, x20, x21⟩, rfl⟩)
              all_goals
                go_wp2_with fail
                go_meet
                exact ⟨rfl, _, rfl⟩
            case rest =>
              obtain ⟨rfl, Y, hW8⟩ := hcut
              have hc8 : ∀ i, i < T.size → wc.cell? ⟨b0, i, none⟩ = some (.int .u8 (((chs T).set m Y).getD i 0)) := fun i hi => by
                obtain ⟨h1, _⟩ := HC7.out i hi
                rw [hW8.out]
                show (W7.setCell ⟨b0, m, none⟩ (.int .u8 Y)).cell? ⟨b0, i, none⟩ = _
                by_cases him : i = m
                · subst him
                  rw [List.getD_eq_getElem?_getD, List.getElem?_set_self (by rw [chs_length]; exact hi)]
                  exact World.cell?_setCell_same _ _ _ h1
                · rw [List.getD_eq_getElem?_getD, List.getElem?_set_ne (Ne.symm him), ← List.getD_eq_getElem?_getD]
                  refine Eq.trans ?_ h1
                  first
                    | exact World.cell?_setCell_other _ _ _ _ (by intro e; cases e; exact him rfl)
                    | exact World.cell?_setCell_other _ _ (by intro e; cases e; exact him rfl)
                    | exact World.cell?_setCell_other (by intro e; cases e; exact him rfl)
                    | exact World.cell?_setCell_other _ (by intro e; cases e; exact him rfl)
              have hcv2 : (convert 22 9 (.slice (some ⟨b0, 0, none⟩) T.size CP)).run Try.prog wc = .ok (.string (bentS T m Y)) wc := conv_cells (by rw [List.length_set, chs_length]) hc8
              have B8 : Hid (Below N W1 wc) := by rw [hW8.out]; exact (B7.out.setCell (p := ⟨b0, m, none⟩) HAB.out _).drew
              have HC9 : Hid (b0 < wc.heap.size ∧ ∀ i, i < T.size → wc.cell? ⟨b0, i, none⟩ = some (.int .u8 (((chs T).set m Y).getD i 0))) := ⟨by rw [hW8.out]; simpa [World.setCell] using hs7, hc8⟩
              obtain ⟨V, hV⟩ : ∃ V, bentS T m Y = V := ⟨_, rfl⟩
              have hvs : V.size = T.size := by rw [← hV, bent_size]
              have hq8 : q ≤ 8 := by omega
              have hall8 := HFF.out
              have hp : Pre V xs q := Pre.of (by omega) (fun i hi _ => by
                unfold allOk at hall8
                simp only [Bool.and_eq_true, decide_eq_true_eq, List.all_eq_true] at hall8
                exact hall8.2 _ (List.getElem_mem hi)) (by
                rw [← hV, bent_pre HQQ.out, HTJ.out]
                obtain ⟨r0, hr0⟩ := joined_pre (xs := xs) (k := q) (m := xs.length) (by omega) (Nat.le_refl _)
                refine bytes_eq ?_
                have hjk : (joined xs q).data.toList.length = jS xs q := data_len _
                rw [ext_data, List.drop_zero, Nat.sub_zero, hr0, List.take_append_of_le_length (by omega), List.take_of_length_le (by omega)])
              have hmany := rv_many hp hq8
              have hal := rv_all V
              have HRV : Hid (Calls Try.prog 27 #[.string V] wc fun e w' => (∃ v, e = .returned (.tuple #[v, .int .i64 (rvN V), .bool true]) ∧ SavedsR w' v (rvL V)) ∧ Below wc.heap.size wc w') := implRecover_any V wc (by omega)
              have HSA2 : Hid (∀ v W, SavedsR W v (rvL V) → Calls Try.prog 25 #[v] W fun e w' => e = .returned (.tuple #[.string (V.extract 0 (rvN V)), .bool true]) ∧ Below W.heap.size W w') := fun v W hv => by
                have := implStoreAll_u v (rvL V) W hv (allOk_small hal.1)
                rw [hal.1, hal.2.1] at this
                exact this
              have hLle := hal.2.2.1
              have hole := hal.2.2.2
              obtain ⟨o, ho⟩ : ∃ o, rvN V = o := ⟨_, rfl⟩
              obtain ⟨L, hL⟩ : ∃ o, rvL V = o := ⟨_, rfl⟩
              rw [ho] at HRV HSA2 hole
              rw [hL] at HRV HSA2 hmany hLle
              have HVV := Lib.hid hV
              rw [hV] at hcv2
              clear hp hal ho hL hV hW8 hcv cm fm hs7 hall8 hc8 hck hB7d
              go_wp2_with fail
              refine HRV.out.mono ?_
              rintro e W9 ⟨⟨v9, rfl, hv9⟩, hb9⟩
              have HA8 : Hid (N ≤ wc.heap.size) := (HBN.out _ B8.out).1
              have B9 := Lib.hid (B8.out.trans (hb9.mono HA8.out))
              have HC10 : Hid (b0 < W9.heap.size ∧ ∀ i, i < T.size → W9.cell? ⟨b0, i, none⟩ = some (.int .u8 (((chs T).set m Y).getD i 0))) := ⟨by have := hb9.size; have := HC9.out.1; omega, fun i hi => (hb9.cell (p := ⟨b0, i, none⟩) HC9.out.1).trans (HC9.out.2 i hi)⟩
              have HI9 := Lib.hid (HSA2.out v9 W9 hv9)
              obtain ⟨p9, q9, rfl, _⟩ := hv9.at_
              clear hb9 hv9 HRV B8 HC9 HSA2 hcv2
              go_wp2_with fail
              refine HI9.out.mono ?_
              rintro e W10 ⟨rfl, hb10⟩
              have B10 := Lib.hid (B9.out.trans (hb10.mono (HBN.out _ B9.out).1))
              have hcv3 : (convert 22 9 (.slice (some ⟨b0, 0, none⟩) o CP)).run Try.prog W10 = .ok (.string (V.extract 0 o)) W10 := by
                have h1 := conv_cells (w := W10) (b := b0) (c := CP) (n := o) (l := ((chs T).set m Y).take o) (by rw [List.length_take, List.length_set, chs_length]; omega) (fun i hi => by
                  rw [(hb10.cell (p := ⟨b0, i, none⟩) HC10.out.1).trans (HC10.out.2 i (by omega))]
                  rw [List.getD_eq_getElem?_getD, List.getD_eq_getElem?_getD, List.getElem?_take, if_pos hi])
                rw [nums_take] at h1
                rw [← HVV.out]
                exact h1
              have o1 : (q : Int) ≤ (L.length : Int) := by omega
              have o2 : (o : Int) ≤ (T.size : Int) := by omega
              have o3 : (0 : Int) ≤ (o : Int) := by omega
              have o4 : (o : Int) ≤ (CP : Int) := by have := HCP.out; omega
              have o5 : o ≤ CP := by omega
              have HFIN : Hid (Below w.heap.size w W10) := by rw [HA.out]; exact (HBN.out _ B10.out).2
              clear hb10 HI9 B9 HC10
              go_wp2
              go_ret
              exact ⟨rfl, HFIN.out⟩
  · rw [hlong] at HLO
    go_enter Try.func5, Try.ntmps5
    go_wp2_with fail
    refine HLO.out.mono ?_
    rintro e W0 ⟨rfl, rfl⟩
    go_wp2
    go_ret
    exact ⟨rfl, Below.refl _ _⟩
end Go.Proofs.Ytmhepomjbaendaa
