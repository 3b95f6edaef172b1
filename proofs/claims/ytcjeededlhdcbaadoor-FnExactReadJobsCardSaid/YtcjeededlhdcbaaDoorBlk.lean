
/- A block known whole: what its cells hold through stores, new blocks and contracts. Conditions: none. -/
import Derived.Test.YtcjeededlhdcbaaDoorGrownC
import Derived.Test.YtcjeededlhdcbaaDoorRead
namespace Go.Proofs.YtcjeededlhdcbaaDoor
open Go.RowKit
set_option linter.unusedVariables false
set_option linter.unusedSimpArgs false

/-- Block b holds the cells cs, none of them frozen. -/
def Blk (W : World) (b : Nat) (t : TypeId) (cs : List Value) : Prop := W.heap[b]? = some (.cells cs.toArray t (0, 0))
theorem Blk.lt {W : World} {b : Nat} {t : TypeId} {cs : List Value} (h : Blk W b t cs) : b < W.heap.size := (Array.getElem?_eq_some_iff.1 h).1
theorem Blk.cell {W : World} {b : Nat} {t : TypeId} {cs : List Value} (h : Blk W b t cs) (j : Nat) (v : Value) (hj : cs[j]? = some v) : W.cell? ⟨b, j, none⟩ = some v := by
  unfold World.cell?
  rw [show W.heap[b]? = _ from h]
  simpa using hj
theorem Blk.frozen {W : World} {b : Nat} {t : TypeId} {cs : List Value} (h : Blk W b t cs) (j : Nat) : W.frozen? ⟨b, j, none⟩ = false := by
  simp [World.frozen?, show W.heap[b]? = _ from h]
theorem Blk.new (W : World) (t : TypeId) (cs : List Value) : Blk (W.alloc (.cells cs.toArray t)) W.heap.size t cs := World.alloc_heap_new W _
theorem Blk.alloc {W : World} {b : Nat} {t : TypeId} {cs : List Value} (h : Blk W b t cs) (o : Obj) : Blk (W.alloc o) b t cs := (Below.heap_alloc _ _ _ h.lt).trans h
theorem Blk.below {W W' : World} {b B : Nat} {t : TypeId} {cs : List Value} (h : Blk W b t cs) (hb : Below B W W') (hB : b < B) : Blk W' b t cs := (hb.block b hB).trans h
theorem Blk.grown {W W' : World} {b : Nat} {t : TypeId} {cs : List Value} {row : Option Nat} (h : Blk W b t cs) (hg : W.grownBy W' row) (hne : some b ≠ row) : Blk W' b t cs := (hg.block b h.lt hne).trans h
theorem Blk.grownL {W W' : World} {b : Nat} {t : TypeId} {cs : List Value} {L : List Nat} (h : Blk W b t cs) (hg : GrownL L W W') (hne : b ∉ L) : Blk W' b t cs := (hg.block b h.lt hne).trans h
theorem Blk.drewN {W : World} {b : Nat} {t : TypeId} {cs : List Value} (h : Blk W b t cs) (q : Nat) : Blk (W.drewN q) b t cs := h
theorem Blk.far {W : World} {b : Nat} {t : TypeId} {cs : List Value} (h : Blk W b t cs) (p : Addr) (v : Value) (hne : b ≠ p.block) : Blk (W.setCell p v) b t cs := (Below.heap_setCell _ _ _ _ hne).trans h
theorem Blk.set {W : World} {b : Nat} {t : TypeId} {cs : List Value} (h : Blk W b t cs) (j : Nat) (v : Value) : Blk (W.setCell ⟨b, j, none⟩ v) b t (cs.set j v) := by
  obtain ⟨hlt, hk⟩ := Array.getElem?_eq_some_iff.1 h
  show (W.heap.modify b _)[b]? = _
  rw [Array.getElem?_eq_getElem (by rw [Array.size_modify]; exact hlt), Array.getElem_modify_self, hk]
  simp
theorem Boxed.blk {W : World} {b : Nat} {t : TypeId} {v : Value} (h : Boxed W b t v) : Blk W b t [v] := h

/-- A row of the call's own, of whatever elements: n elements of type T, size cells each. -/
def OwnV (T size : Nat) (w : World) (N : Nat) (v : Value) (n : Nat) (raw : List Value) : Prop := w.ownsRow N T size v n raw
theorem OwnV.kept {T size n : Nat} {w w' : World} {B : Nat} {v : Value} {xs : List Value} {row : Option Nat} (h : OwnV T size w B v n xs) (hg : w.grownBy w' row) (hne : v.ownBlock = none ∨ v.ownBlock ≠ row) : OwnV T size w' B v n xs := World.ownsRow.kept h hg hne
theorem OwnV.lt {T size n : Nat} {w : World} {B : Nat} {v : Value} {xs : List Value} (h : OwnV T size w B v n xs) : ∀ k, v.ownBlock = some k → B ≤ k ∧ k < w.heap.size := World.ownsRow.lt h
theorem OwnV.below {T size n : Nat} {w w' : World} {B N : Nat} {v : Value} {xs : List Value} (h : OwnV T size w B v n xs) (hb : Below N w w') (hN : w.heap.size ≤ N) : OwnV T size w' B v n xs := by
  refine h.kept (row := none) ⟨hb.os, hb.tape, hb.output, hb.size, fun k hk _ => hb.block k (by omega)⟩ ?_
  cases v.ownBlock <;> simp
theorem OwnV.length {T size n : Nat} {w : World} {B : Nat} {v : Value} {xs : List Value} (h : OwnV T size w B v n xs) : xs.length = n * size := h.1
theorem OwnV.store {T size n c g : Nat} {w : World} {N : Nat} {xs : List Value} (h : OwnV T size w N (.slice (some ⟨g, 0, none⟩) n c) n xs) (j : Nat) (hj : j < xs.length) (y : Value) :
    w.cell? ⟨g, j, none⟩ = some xs[j] ∧ w.frozen? ⟨g, j, none⟩ = false ∧ OwnV T size (w.setCell ⟨g, j, none⟩ y) N (.slice (some ⟨g, 0, none⟩) n c) n (xs.set j y) ∧ w.grownBy (w.setCell ⟨g, j, none⟩ y) (some g) := by
  have h' : w.ownsRow N T size (.slice (some ⟨g, 0, none⟩) n c) n xs := h
  obtain ⟨h1, h2⟩ := h'.stored j y
  refine ⟨?_, h'.frozenAt j, h1, h2⟩
  rw [h'.cellAt j (by rw [← h.length]; exact hj), List.getElem?_eq_getElem hj]

/-- It reads so in every world that keeps the blocks from N on. -/
def Agree (N : Nat) (w W : World) : Prop := w.heap.size ≤ W.heap.size ∧ ∀ b, N ≤ b → b < w.heap.size → W.heap[b]? = w.heap[b]?
theorem Agree.refl (N : Nat) (w : World) : Agree N w w := ⟨Nat.le_refl _, fun _ _ _ => rfl⟩
theorem Agree.trans {N : Nat} {a b c : World} (h : Agree N a b) (k : Agree N b c) : Agree N a c := ⟨Nat.le_trans h.1 k.1, fun i h1 h2 => (k.2 i h1 (by have := h.1; omega)).trans (h.2 i h1 h2)⟩
theorem Agree.mono {N N' : Nat} {a b : World} (h : Agree N a b) (hN : N ≤ N') : Agree N' a b := ⟨h.1, fun i h1 h2 => h.2 i (by omega) h2⟩
theorem Agree.below {N B : Nat} {a b : World} (h : Below B a b) (hB : a.heap.size ≤ B) : Agree N a b := ⟨h.size, fun i _ h2 => h.block i (by omega)⟩
theorem Agree.setCell {N : Nat} (a : World) (p : Addr) (v : Value) (hp : p.block < N) : Agree N a (a.setCell p v) := ⟨by simp, fun i h1 _ => Below.heap_setCell _ _ _ _ (by omega)⟩
theorem Agree.grown {N : Nat} {a b : World} {row : Option Nat} (h : a.grownBy b row) (hr : ∀ k, row = some k → k < N) : Agree N a b := ⟨h.size, fun i h1 h2 => h.block i h2 (fun e => by have := hr i e.symm; omega)⟩
def FreshR {α : Type} (r : Rdr α) (N : Nat) (w : World) (cs : List Value) (x : α) : Prop := ∀ W, Agree N w W → r.R W cs x
theorem FreshR.now {α : Type} {r : Rdr α} {N : Nat} {w : World} {cs : List Value} {x : α} (h : FreshR r N w cs x) : r.R w cs x := h w (Agree.refl _ _)
theorem FreshR.later {α : Type} {r : Rdr α} {N : Nat} {w w' : World} {cs : List Value} {x : α} (h : FreshR r N w cs x) (ha : Agree N w w') : FreshR r N w' cs x := fun W hW => h W (ha.trans hW)
theorem FreshR.mono {α : Type} {r : Rdr α} {N N' : Nat} {w : World} {cs : List Value} {x : α} (h : FreshR r N w cs x) (hN : N' ≤ N) : FreshR r N' w cs x := fun W hW => h W (hW.mono hN)
theorem FreshR.pair {α β : Type} {r : Rdr α} {s : Rdr β} {N : Nat} {w : World} {c1 c2 : List Value} {x : α} {y : β} (h : FreshR r N w c1 x) (k : FreshR s N w c2 y) : FreshR (rPair r s) N w (c1 ++ c2) (x, y) := fun W hW => ⟨c1, c2, rfl, h W hW, k W hW⟩
theorem FreshR.int (N : Nat) (w : World) (n : Int) (h : (Lit.int .i64 n).wf = true) : FreshR rInt N w [.int .i64 n] n := fun _ _ => ⟨rfl, h⟩
theorem FreshR.str (N : Nat) (w : World) (s : ByteArray) (h : s.size ≤ maxLen) : FreshR rStr N w [.string s] s := fun _ _ => ⟨rfl, h⟩
theorem ownsRow_agree {w W : World} {N e size n : Nat} {v : Value} {xs : List Value} (h : w.ownsRow N e size v n xs) (ha : Agree N w W) : W.ownsRow N e size v n xs := by
  refine ⟨h.1, ?_⟩
  rcases h.2 with h1 | ⟨g, cap, cur, hv, hg, hh, r⟩
  · exact .inl h1
  · exact .inr ⟨g, cap, cur, hv, hg, (ha.2 g hg (Array.getElem?_eq_some_iff.1 hh).1).trans hh, r⟩
theorem OwnI.fresh {w : World} {N : Nat} {v : Value} {xs : List Int} (h : OwnI w N v xs) (hw : ∀ n ∈ xs, (Lit.int .i64 n).wf = true) : FreshR (rSl rInt) N w [v] xs :=
  fun W hW => ⟨v, rfl, SlR.of_ints (OwnI.ints (ownsRow_agree h hW)) hw⟩
/-- The first k elements of a row that is being filled read as the first k of xs. -/
def FillR {α : Type} (r : Rdr α) (N : Nat) (w : World) (raw : List Value) (xs : List α) (k : Nat) : Prop := ∀ i (h : i < xs.length), i < k → ∃ cs, FreshR r N w cs xs[i] ∧ ∀ j (hj : j < cs.length), raw[i * r.size + j]? = some cs[j]
theorem FillR.later {α : Type} {r : Rdr α} {N : Nat} {w w' : World} {raw : List Value} {xs : List α} {k : Nat} (h : FillR r N w raw xs k) (ha : Agree N w w') : FillR r N w' raw xs k := fun i hi hk => by
  obtain ⟨cs, h1, h2⟩ := h i hi hk
  exact ⟨cs, h1.later ha, h2⟩
theorem FillR.done {α : Type} {r : Rdr α} {T : Nat} {w : World} {g : Nat} {raw : List Value} {xs : List α} (ho : OwnV T r.size w g (.slice (some ⟨g, 0, none⟩) xs.length xs.length) xs.length raw) (hf : FillR r (g + 1) w raw xs xs.length) (hm : xs.length ≤ maxLen) : FreshR (rSl r) g w [.slice (some ⟨g, 0, none⟩) xs.length xs.length] xs := by
  intro W hW
  have ho' : OwnV T r.size W g (.slice (some ⟨g, 0, none⟩) xs.length xs.length) xs.length raw := ownsRow_agree ho hW
  refine ⟨_, rfl, hm, _, _, rfl, Nat.le_refl _, fun i hi => ?_⟩
  obtain ⟨cs, h1, h2⟩ := hf i hi hi
  refine ⟨g, 0, cs, rfl, (ho'.lt g rfl).2, h1 W (hW.mono (by omega)), fun j hj => ?_⟩
  obtain ⟨h4, h5⟩ := List.getElem?_eq_some_iff.1 (h2 j hj)
  rw [Nat.zero_add, (ho'.store _ h4 (.bool true)).1, h5]
/-- One more element, of four cells. -/
theorem FillR.put4 {α : Type} {r : Rdr α} {N : Nat} {w : World} {raw : List Value} {xs : List α} {k : Nat} (h : FillR r N w raw xs k) (h4 : r.size = 4) (c0 c1 c2 c3 : Value) (hk : k < xs.length) (hl : raw.length = xs.length * 4) (hx : FreshR r N w [c0, c1, c2, c3] xs[k]) :
    FillR r N w ((((raw.set (k * 4) c0).set (k * 4 + 1) c1).set (k * 4 + 2) c2).set (k * 4 + 3) c3) xs (k + 1) := by
  intro i hi hik
  by_cases he : i = k
  · subst he
    refine ⟨_, hx, fun j hj => ?_⟩
    rw [h4]
    have hj4 : j < 4 := by simpa using hj
    match j, hj4 with
    | 0, _ => simp [List.getElem?_set]; omega
    | 1, _ => simp [List.getElem?_set]; omega
    | 2, _ => simp [List.getElem?_set]; omega
    | 3, _ => simp [List.getElem?_set]; omega
  · obtain ⟨cs, h1, h2⟩ := h i hi (by omega)
    refine ⟨cs, h1, fun j hj => ?_⟩
    have h3 := h2 j hj
    have hj4 : j < 4 := by have := r.len h1.now; omega
    rw [h4] at h3 ⊢
    rw [List.getElem?_set_ne (by omega), List.getElem?_set_ne (by omega), List.getElem?_set_ne (by omega), List.getElem?_set_ne (by omega)]
    exact h3
end Go.Proofs.YtcjeededlhdcbaaDoor
