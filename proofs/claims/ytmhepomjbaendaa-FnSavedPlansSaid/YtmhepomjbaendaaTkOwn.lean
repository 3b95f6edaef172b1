
/- Rows of tasks that a call owns with their slices. Conditions: none. -/
import Derived.Test.YtmhepomjbaendaaTaker
import Derived.Test.YtmhepomjbaendaaGrownC
import Derived.Test.YtmhepomjbaendaaTasksTo
import Derived.Test.YtmhepomjbaendaaAppendStep
namespace Go.Proofs.Ytmhepomjbaendaa
open Go.RowKit Go.Shelf Go.BigFrame
set_option linter.unusedVariables false
set_option linter.unusedSimpArgs false

/-- An own slice whose block lies below hi. -/
def OwnH (w : World) (lo hi : Nat) (v : Value) (xs : List Int) : Prop := OwnI w lo v xs ∧ ∀ k, v.ownBlock = some k → k < hi
theorem OwnH.kept {w w' : World} {lo hi : Nat} {v : Value} {xs : List Int} {row : Option Nat} (h : OwnH w lo hi v xs) (hg : w.grownBy w' row) (hr : ∀ k, row = some k → k < lo ∨ hi ≤ k) : OwnH w' lo hi v xs := by
  refine ⟨h.1.kept hg ?_, h.2⟩
  cases hv : v.ownBlock with
  | none => exact .inl rfl
  | some j =>
    refine .inr (fun e => ?_)
    have h1 := h.1.lt j hv
    have h2 := h.2 j hv
    rcases hr j e.symm with h3 | h3 <;> omega
/-- .. where the row that changes is of another type. -/
theorem OwnH.keptT {w w' : World} {lo hi k : Nat} {v : Value} {xs : List Int} {cur : Array Value} {t : TypeId} {fr : Nat × Nat} (h : OwnH w lo hi v xs) (hg : w.grownBy w' (some k)) (hk : w.heap[k]? = some (.cells cur t fr)) (ht : t ≠ 2) : OwnH w' lo hi v xs := by
  refine ⟨h.1.kept hg ?_, h.2⟩
  cases hv : v.ownBlock with
  | none => exact .inl rfl
  | some j =>
    refine .inr (fun e => ?_)
    rcases h.1.2 with ⟨h1, _⟩ | ⟨g, cap, cur', h1, _, h2, _⟩
    · rw [h1] at hv; cases hv
    · rw [h1] at hv
      obtain rfl : g = j := by simpa [Value.ownBlock] using hv
      obtain rfl : g = k := by simpa using e
      rw [hk] at h2
      injection h2 with h2
      injection h2 with _ h3
      exact ht h3
theorem OwnH.mono {w : World} {lo hi lo' hi' : Nat} {v : Value} {xs : List Int} (h : OwnH w lo hi v xs) (h1 : lo' ≤ lo) (h2 : hi ≤ hi') : OwnH w lo' hi' v xs := ⟨h.1.mono h1, fun k hk => Nat.lt_of_lt_of_le (h.2 k hk) h2⟩

/-- The four cells of a task whose slices are the call's own. -/
def TkOwn (w : World) (lo hi : Nat) (cs : List Value) (x : Tk) : Prop := ∃ vb vl, cs = [.int .i64 x.1, .int .i64 x.2.1, vb, vl] ∧ OwnH w lo hi vb x.2.2.1 ∧ OwnH w lo hi vl x.2.2.2 ∧ (vb.ownBlock = none ∨ vb.ownBlock ≠ vl.ownBlock)
inductive TksOwn (w : World) (lo : Nat) : Nat → List Value → List Tk → Prop where
  | nil {hi : Nat} : lo ≤ hi → TksOwn w lo hi [] []
  | snoc {mid hi : Nat} {raw cs : List Value} {xs : List Tk} {x : Tk} : TksOwn w lo mid raw xs → TkOwn w mid hi cs x → mid ≤ hi → TksOwn w lo hi (raw ++ cs) (xs ++ [x])
theorem TkOwn.len {w : World} {lo hi : Nat} {cs : List Value} {x : Tk} (h : TkOwn w lo hi cs x) : cs.length = 4 := by obtain ⟨vb, vl, rfl, _⟩ := h; rfl
theorem TkOwn.hi {w : World} {lo hi hi' : Nat} {cs : List Value} {x : Tk} (h : TkOwn w lo hi cs x) (h1 : hi ≤ hi') : TkOwn w lo hi' cs x := by
  obtain ⟨vb, vl, e, h2, h3, h4⟩ := h
  exact ⟨vb, vl, e, h2.mono (Nat.le_refl _) h1, h3.mono (Nat.le_refl _) h1, h4⟩
theorem TkOwn.kept {w w' : World} {lo hi : Nat} {cs : List Value} {x : Tk} {row : Option Nat} (h : TkOwn w lo hi cs x) (hg : w.grownBy w' row) (hr : ∀ k, row = some k → k < lo ∨ hi ≤ k) : TkOwn w' lo hi cs x := by
  obtain ⟨vb, vl, e, h1, h2, h3⟩ := h
  exact ⟨vb, vl, e, h1.kept hg hr, h2.kept hg hr, h3⟩
theorem TkOwn.keptT {w w' : World} {lo hi k : Nat} {cs : List Value} {x : Tk} {cur : Array Value} {t : TypeId} {fr : Nat × Nat} (h : TkOwn w lo hi cs x) (hg : w.grownBy w' (some k)) (hk : w.heap[k]? = some (.cells cur t fr)) (ht : t ≠ 2) : TkOwn w' lo hi cs x := by
  obtain ⟨vb, vl, e, h1, h2, h3⟩ := h
  exact ⟨vb, vl, e, h1.keptT hg hk ht, h2.keptT hg hk ht, h3⟩
theorem TksOwn.le {w : World} {lo hi : Nat} {raw : List Value} {xs : List Tk} (h : TksOwn w lo hi raw xs) : lo ≤ hi := by
  induction h with
  | nil h => exact h
  | snoc _ _ h ih => omega
theorem TksOwn.hi {w : World} {lo hi hi' : Nat} {raw : List Value} {xs : List Tk} (h : TksOwn w lo hi raw xs) (h1 : hi ≤ hi') : TksOwn w lo hi' raw xs := by
  cases h with
  | nil h => exact .nil (by omega)
  | snoc h2 h3 h4 => exact .snoc h2 (h3.hi h1) (by omega)
theorem TksOwn.kept {w w' : World} {lo hi : Nat} {raw : List Value} {xs : List Tk} {row : Option Nat} (h : TksOwn w lo hi raw xs) (hg : w.grownBy w' row) (hr : ∀ k, row = some k → k < lo ∨ hi ≤ k) : TksOwn w' lo hi raw xs := by
  induction h with
  | nil h => exact .nil h
  | snoc h2 h3 h4 ih =>
    have hl := h2.le
    exact .snoc (ih fun k hk => by rcases hr k hk with h | h <;> omega) (h3.kept hg fun k hk => by rcases hr k hk with h | h <;> omega) h4
theorem TksOwn.keptT {w w' : World} {lo hi k : Nat} {raw : List Value} {xs : List Tk} {cur : Array Value} {t : TypeId} {fr : Nat × Nat} (h : TksOwn w lo hi raw xs) (hg : w.grownBy w' (some k)) (hk : w.heap[k]? = some (.cells cur t fr)) (ht : t ≠ 2) : TksOwn w' lo hi raw xs := by
  induction h with
  | nil h => exact .nil h
  | snoc h2 h3 h4 ih => exact .snoc ih (h3.keptT hg hk ht) h4
theorem TksOwn.lo {w : World} {lo lo' hi : Nat} {raw : List Value} {xs : List Tk} (h : TksOwn w lo hi raw xs) (h1 : lo' ≤ lo) : TksOwn w lo' hi raw xs := by
  induction h with
  | nil h => exact .nil (by omega)
  | snoc _ h3 h4 ih => exact .snoc ih h3 h4
theorem OwnV.mono {T size n : Nat} {w : World} {B B' : Nat} {v : Value} {xs : List Value} (h : OwnV T size w B v n xs) (hB : B' ≤ B) : OwnV T size w B' v n xs := by
  refine ⟨h.1, ?_⟩
  rcases h.2 with h2 | ⟨g, cap, cur, hv, hg, r⟩
  · exact .inl h2
  · exact .inr ⟨g, cap, cur, hv, by omega, r⟩
theorem TksOwn.len {w : World} {lo hi : Nat} {raw : List Value} {xs : List Tk} (h : TksOwn w lo hi raw xs) : raw.length = xs.length * 4 := by
  induction h with
  | nil h => rfl
  | snoc h2 h3 h4 ih => rw [List.length_append, List.length_append, ih, h3.len, List.length_singleton]; omega
theorem TksOwn.at_ {w : World} {lo hi : Nat} {raw : List Value} {xs : List Tk} (h : TksOwn w lo hi raw xs) : ∀ i (hi' : i < xs.length), ∃ l u cs, lo ≤ l ∧ TkOwn w l u cs xs[i] ∧ ∀ j, j < 4 → raw[i * 4 + j]? = cs[j]? := by
  induction h with
  | nil h => intro i hi; exact absurd hi (Nat.not_lt_zero _)
  | snoc h2 h3 h4 ih =>
    rename_i mid hi raw cs xs x
    intro i hi'
    have hl := h2.len
    rw [List.length_append, List.length_singleton] at hi'
    by_cases hx : i < xs.length
    · obtain ⟨l, u, cs', p1, p2, p3⟩ := ih i hx
      refine ⟨l, u, cs', p1, ?_, fun j hj => ?_⟩
      · rw [List.getElem_append_left hx]; exact p2
      · rw [List.getElem?_append_left (by omega)]; exact p3 j hj
    · obtain rfl : i = xs.length := by omega
      refine ⟨mid, hi, cs, h2.le, ?_, fun j hj => ?_⟩
      · rw [List.getElem_append_right (Nat.le_refl _)]
        simpa using h3
      · rw [List.getElem?_append_right (by omega), hl, Nat.add_sub_cancel_left]
theorem TksOwn.reads {w : World} {lo hi N : Nat} {v : Value} {raw : List Value} {xs : List Tk} (h : TksOwn w lo hi raw xs) (hv : OwnV 86 4 w N v xs.length raw) (hm : xs.length ≤ maxLen)
    (hw : ∀ i (h : i < xs.length), (Lit.int .i64 xs[i].1).wf = true ∧ (Lit.int .i64 xs[i].2.1).wf = true ∧ (∀ n ∈ xs[i].2.2.1, (Lit.int .i64 n).wf = true) ∧ (∀ n ∈ xs[i].2.2.2, (Lit.int .i64 n).wf = true)) : TasksR w v xs := by
  by_cases h0 : 1 ≤ xs.length
  · rcases hv.2 with ⟨_, h1⟩ | ⟨g, cap, cur, rfl, hg, hb, hc⟩
    · omega
    refine ⟨hm, _, cap, rfl, hc.1, fun i hi => ?_⟩
    obtain ⟨l, u, cs, _, ⟨vb, vl, rfl, o1, o2, _⟩, p3⟩ := h.at_ i hi
    obtain ⟨w1, w2, w3, w4⟩ := hw i hi
    refine ⟨g, 0, _, rfl, (hv.lt g rfl).2, task_cells.2 ⟨vb, vl, rfl, w1, w2, OwnI.slR o1.1 w3, OwnI.slR o2.1 w4⟩, fun j hj => ?_⟩
    have hj4 : j < 4 := hj
    have h4 := p3 j hj4
    have hl := h.len
    have hv' : OwnV 86 4 w N (.slice (some ⟨g, 0, none⟩) xs.length cap) xs.length raw := hv
    have h5 := (hv'.store (i * 4 + j) (by omega) (.bool true)).1
    rw [Nat.zero_add]
    show w.cell? ⟨g, i * 4 + j, none⟩ = _
    rw [h5]
    rw [List.getElem?_eq_getElem (by omega)] at h4
    rw [h4, List.getElem?_eq_getElem hj]
  · obtain rfl : xs = [] := List.eq_nil_of_length_eq_zero (by omega)
    rcases hv.2 with ⟨h2, _⟩ | ⟨g, cap, cur, h2, _⟩
    · exact ⟨hm, _, _, h2, Nat.le_refl _, fun i hi => absurd hi (Nat.not_lt_zero _)⟩
    · exact ⟨hm, _, _, h2, Nat.zero_le _, fun i hi => absurd hi (Nat.not_lt_zero _)⟩
/-- s.Tasks = append(s.Tasks, x). -/
theorem append_tk {ops : Array Oper} {rest : List Oper} {o : Oper} {a : Act} {Q : Exit → Act → World → Prop} {W : World} (hgd : o.guard = none) (s x : Operand)
    (ho : o.op = .call { callee := .builtin .append, args := #[s, x], argTypes := #[42, 42] }) (B : Nat) (v : Value) (n : Nat) (raw cs : List Value)
    (hs : a.eval s = v) (c : Nat) (hx : a.eval x = .slice (some ⟨W.heap.size, 0, none⟩) 1 c) (hown : OwnV 86 4 W B v n raw) (hc : cs.length = 4) (h1 : ∀ u ∈ cs, u.oneCell' = true) (hB : B ≤ W.heap.size) (hsmall : n ≤ 1000000)
    (hK : ∀ g c n' w', Hid (n' = n + 1) → OwnV 86 4 w' B (.slice (some ⟨g, 0, none⟩) n' c) (n + 1) (raw ++ cs) → W.grownBy w' v.ownBlock → wpList Try.prog ops Q rest (a.put o.dst (.slice (some ⟨g, 0, none⟩) n' c)) w') :
    wpList Try.prog ops Q (o :: rest) a (W.alloc (.cells cs.toArray 86)) := by
  obtain ⟨i0, hi, hz0, hz1, hz2⟩ := info_parts info_task
  refine wpList_append_own _ hgd s x 42 ho B 86 i0 (.agg #[.int .i64 0, .int .i64 0, .slice none 0 0, .slice none 0 0]) 4 64 Try.underlying42 hi hz0 hz1 hz2 rfl (by decide) v n raw hs (World.ownsRow.alloc hown _) ⟨W.heap.size, 0, none⟩ 1 c cs hx (by omega) (cells_lit W _ _) h1 (by unfold maxLen; omega) (by omega) (by simp; omega) ?_
  intro v' w' h2 h3 _
  have h3' : W.grownBy w' v.ownBlock := ⟨h3.os, h3.tape, h3.output, Nat.le_trans (by simp) h3.size, fun k hk hne => (h3.block k (by simp; omega) hne).trans (Below.heap_alloc _ _ _ hk)⟩
  rcases h2.2 with ⟨_, h0⟩ | ⟨g, cap, cur, rfl, _⟩
  · omega
  · exact hK g cap _ w' rfl h2 h3'
theorem OwnI.one {w : World} {B : Nat} {v : Value} {xs : List Int} (h : OwnI w B v xs) : v.oneCell' = true := by
  rcases h.2 with ⟨h1, _⟩ | ⟨g, cap, cur, h1, _⟩
  · rw [h1]; rfl
  · rw [h1]; rfl
/-- The row's own block is one of tasks. -/
theorem OwnV.typed {T size n : Nat} {w : World} {B : Nat} {v : Value} {raw : List Value} (h : OwnV T size w B v n raw) : ∀ k, v.ownBlock = some k → ∃ cur fr, w.heap[k]? = some (.cells cur T fr) := fun k hk => by
  rcases h.2 with ⟨h1, _⟩ | ⟨g, cap, cur, h1, _, h2, _⟩
  · rw [h1] at hk; cases hk
  · rw [h1] at hk
    obtain rfl : g = k := by simpa [Value.ownBlock] using hk
    exact ⟨_, _, h2⟩
theorem TksOwn.keptV {T size n B : Nat} {w w' : World} {lo hi : Nat} {raw rw : List Value} {xs : List Tk} {v : Value} (h : TksOwn w lo hi raw xs) (hv : OwnV T size w B v n rw) (ht : T ≠ 2) (hg : w.grownBy w' v.ownBlock) : TksOwn w' lo hi raw xs := by
  cases e : v.ownBlock with
  | none => rw [e] at hg; exact h.kept hg (fun k hk => by cases hk)
  | some k =>
    obtain ⟨cur, fr, h1⟩ := hv.typed k e
    rw [e] at hg
    exact h.keptT hg h1 ht
theorem TkOwn.keptV {T size n B : Nat} {w w' : World} {lo hi : Nat} {rw cs : List Value} {x : Tk} {v : Value} (h : TkOwn w lo hi cs x) (hv : OwnV T size w B v n rw) (ht : T ≠ 2) (hg : w.grownBy w' v.ownBlock) : TkOwn w' lo hi cs x := by
  cases e : v.ownBlock with
  | none => rw [e] at hg; exact h.kept hg (fun k hk => by cases hk)
  | some k =>
    obtain ⟨cur, fr, h1⟩ := hv.typed k e
    rw [e] at hg
    exact h.keptT hg h1 ht
/-- append at a step of a region, the world without a draw. -/
theorem step_append_i64N {ops : Array Oper} {o : Oper} {a : Act} {K : Act → World → Prop} {Q : Exit → Act → World → Prop} {E : Prop} {W : World} (hgd : o.guard = none) (s x : Operand)
    (ho : o.op = .call { callee := .builtin .append, args := #[s, x], argTypes := #[25, 25] }) (B : Nat) (v : Value) (xs ys : List Int) (hy : 0 < ys.length)
    (hs : a.eval s = v) (c : Nat) (hx : a.eval x = .slice (some ⟨W.heap.size, 0, none⟩) ys.length c) (hown : OwnI W B v xs) (hB : B ≤ W.heap.size) (hsmall : xs.length + ys.length ≤ 1099511627776)
    (hK : ∀ g c n w', Hid (n = xs.length + ys.length) → OwnI w' B (.slice (some ⟨g, 0, none⟩) n c) (xs ++ ys) → W.grownBy w' v.ownBlock → (v.ownBlock = some g ∨ g = W.heap.size + 1) → K (a.put o.dst (.slice (some ⟨g, 0, none⟩) n c)) w') :
    if Region.wanted o (yielded ops a.tmps) = true then Oper.wp Try.prog o a (W.alloc (.cells (ys.map (Value.int .i64)).toArray 2)) K Q else E := by
  obtain ⟨i0, hi, hz0, hz1, hz2⟩ := info_parts info_i64
  have hown' : (W.alloc (.cells (ys.map (Value.int .i64)).toArray 2)).ownsRow B 2 1 v xs.length (xs.map (Value.int .i64)) := World.ownsRow.alloc hown _
  refine step_append_lies _ hgd s x 25 ho B 2 i0 (.int .i64 0) 1 8 Try.underlying25 hi hz0 hz1 hz2 rfl (by decide) v xs.length _ hs hown' ⟨W.heap.size, 0, none⟩ ys.length c (ys.map (Value.int .i64)) hx (by simp) (cells_lit W _ _) ?_ hy (by unfold maxLen; omega) (by omega) (by simp; omega) (W.heap.size + 1) (by simp) ?_
  · intro u hu; obtain ⟨y, _, rfl⟩ := List.mem_map.1 hu; rfl
  · intro g cap w' h1 h2 h5 _
    have h2' : (W.alloc (.cells (ys.map (Value.int .i64)).toArray 2)).grownBy w' v.ownBlock := ⟨h2.os, h2.tape, h2.output, h2.size, h2.block⟩
    obtain ⟨g', c', he, h3, h4⟩ := app_shape hy hown h1 h2'
    obtain ⟨rfl, rfl⟩ : g = g' ∧ cap = c' := by simpa using he
    exact hK g cap _ w' rfl h3 h4 h5
end Go.Proofs.Ytmhepomjbaendaa
