
/- slices.Chunk of a slice of integers: the contract of its call, of the iterator that it returns, and the law of a loop over it. Conditions: the chunks are all whole (the length is a multiple of the size). -/
import Derived.Test.YtcjeededlhdcbaaDoorSlices
import Derived.Test.YtcjeededlhdcbaaDoorRound
import Derived.RangeFuncNested
import Derived.RangeFuncBound
import Derived.RangeFuncCalls
import Derived.RangeFuncLeaves
import Derived.Shelf.Abstract
import Derived.Shelf.RegionOpen
import Derived.OwnWalkIn
import Derived.TacticsInMore
import Derived.LoopNIn
import Derived.LoopIn
import Derived.Sort.BigQuietIn
namespace Go.Proofs.YtcjeededlhdcbaaDoor
open Go.RowKit Go.Shelf
set_option linter.unusedVariables false
set_option linter.unusedSimpArgs false
attribute [local go_sem] Oper.semAt_some

/-- The world behind the call. -/
structure ChunkW (w w' : World) (v : Value) (n : Int) : Prop where
  size : w'.heap.size = w.heap.size + 2
  below : Below w.heap.size w w'
  s : w'.cell? ⟨w.heap.size, 0, none⟩ = some v
  n : w'.cell? ⟨w.heap.size + 1, 0, none⟩ = some (.int .i64 n)

/-- The two numbers of a pair, in whatever later world. -/
theorem pair_cells {w W : World} {N b o m : Nat} {xs : List Int} (hbs : 0 < xs.length → b < w.heap.size) (hcs : ∀ i (h : i < xs.length), w.cell? ⟨b, o + i, none⟩ = some (.int .i64 xs[i]))
    (hB : Below N w W) (hN : w.heap.size ≤ N) (hxm : xs.length = 2 * m) (x : Fin m) :
    W.cell? ⟨b, o + x.1 * 2, none⟩ = some (.int .i64 (nth xs (2 * x.1))) ∧ W.cell? ⟨b, o + x.1 * 2 + 1, none⟩ = some (.int .i64 (nth xs (2 * x.1 + 1))) := by
  have hx := x.2
  have h0 := hbs (by omega)
  refine ⟨?_, ?_⟩
  · rw [hB.cell (p := ⟨b, o + x.1 * 2, none⟩) (show b < N by omega), Nat.mul_comm x.1 2, hcs _ (by omega), nth_eq (by omega)]
  · rw [hB.cell (p := ⟨b, o + x.1 * 2 + 1, none⟩) (show b < N by omega), Nat.mul_comm x.1 2, Nat.add_assoc, hcs _ (by omega), nth_eq (by omega)]

/-- The elements that come: the j-th chunk. -/
def chunkAt (b off n : Nat) (j : Nat) : Value := .slice (some ⟨b, off + j * n, none⟩) n n

theorem hmul (n m j : Nat) (h : j < m) : j * n + n ≤ n * m := by
  have := Nat.mul_le_mul_right n (show j + 1 ≤ m from h)
  rw [Nat.add_mul, Nat.one_mul, Nat.mul_comm m n] at this
  exact this

/-- What a round over slices.Chunk must keep: the two boxes of the iterator. -/
structure Keep2 (Bs Bn : Nat) (W W' : World) : Prop where
  s : W'.heap[Bs]? = W.heap[Bs]?
  n : W'.heap[Bn]? = W.heap[Bn]?

theorem Keep2.refl (Bs Bn : Nat) (W : World) : Keep2 Bs Bn W W := ⟨rfl, rfl⟩
theorem Keep2.trans {Bs Bn : Nat} {A B C : World} (h : Keep2 Bs Bn A B) (k : Keep2 Bs Bn B C) : Keep2 Bs Bn A C := ⟨k.s.trans h.s, k.n.trans h.n⟩
theorem Keep2.below {Bs Bn N : Nat} {A B C : World} (h : Keep2 Bs Bn A B) (k : Below N B C) (h1 : Bs < N) (h2 : Bn < N) : Keep2 Bs Bn A C := h.trans ⟨k.block _ h1, k.block _ h2⟩
theorem Keep2.drewN {Bs Bn : Nat} {A B : World} (h : Keep2 Bs Bn A B) (q : Nat) : Keep2 Bs Bn A (B.drewN q) := h.trans ⟨rfl, rfl⟩
theorem Keep2.drew {Bs Bn : Nat} {A B : World} (h : Keep2 Bs Bn A B) : Keep2 Bs Bn A B.drew := h.trans ⟨rfl, rfl⟩
theorem Keep2.setCell {Bs Bn : Nat} {A B : World} (h : Keep2 Bs Bn A B) {p : Addr} (h1 : Bs ≠ p.block) (h2 : Bn ≠ p.block) (v : Value) : Keep2 Bs Bn A (B.setCell p v) :=
  h.trans ⟨Below.heap_setCell _ _ _ _ h1, Below.heap_setCell _ _ _ _ h2⟩
theorem Keep2.alloc {Bs Bn : Nat} {A B : World} (h : Keep2 Bs Bn A B) (h1 : Bs < B.heap.size) (h2 : Bn < B.heap.size) (o : Obj) : Keep2 Bs Bn A (B.alloc o) :=
  h.trans ⟨Below.heap_alloc _ _ _ h1, Below.heap_alloc _ _ _ h2⟩
theorem Keep2.grown {Bs Bn : Nat} {A B C : World} {row : Option Nat} (h : Keep2 Bs Bn A B) (g : B.grownBy C row) (h1 : Bs < B.heap.size) (h2 : Bn < B.heap.size) (h3 : some Bs ≠ row) (h4 : some Bn ≠ row) : Keep2 Bs Bn A C :=
  h.trans ⟨g.block _ h1 h3, g.block _ h2 h4⟩
theorem Keep2.cell {Bs Bn : Nat} {A B : World} (h : Keep2 Bs Bn A B) : B.cell? ⟨Bs, 0, none⟩ = A.cell? ⟨Bs, 0, none⟩ ∧ B.cell? ⟨Bn, 0, none⟩ = A.cell? ⟨Bn, 0, none⟩ :=
  ⟨World.cell?_of_block h.s, World.cell?_of_block h.n⟩

theorem min_eq (n r : Nat) (h : n ≤ r) : (if (n : Int) < (r : Int) then (n : Int) else (r : Int)) = (n : Int) := by
  split <;> omega

theorem keep2_b {Bs Bn : Nat} {w : World} (h1 : Bs < w.heap.size) (h2 : Bn < w.heap.size) (W : World) (l : Nat) (o o' : Obj) (hl : w.heap.size ≤ l) (_ : W.heap[l]? = some o) (_ : o.isCells = false) (_ : o.isWalk = false) : Keep2 Bs Bn W (W.putObj l o') :=
  ⟨World.putObj_heap_other (by omega), World.putObj_heap_other (by omega)⟩

/-! Small words on what such a loop keeps. -/
theorem _root_.Go.KeepsFrom.below {B N : Nat} {A W W' : World} (h : KeepsFrom B A W) (k : Below N W W') (hN : W.heap.size ≤ N) : KeepsFrom B A W' :=
  h.trans ⟨k.size, fun i o _ hi _ => (k.block i (by have := (Array.getElem?_eq_some_iff.1 hi).1; omega)).trans hi⟩
theorem _root_.Go.KeepsFrom.drewN {B : Nat} {A W : World} (h : KeepsFrom B A W) (q : Nat) : KeepsFrom B A (W.drewN q) := h.trans ⟨Nat.le_refl _, fun _ _ _ hi _ => hi⟩
theorem _root_.Go.KeepsFrom.drew {B : Nat} {A W : World} (h : KeepsFrom B A W) : KeepsFrom B A W.drew := h.trans ⟨Nat.le_refl _, fun _ _ _ hi _ => hi⟩
theorem _root_.Go.KeepsFrom.setCell {B : Nat} {A W : World} (h : KeepsFrom B A W) (p : Addr) (v : Value) : KeepsFrom B A (W.setCell p v) := h.trans ((KeepsOthers.setCell W p v).from B)
theorem _root_.Go.KeepsFrom.alloc {B : Nat} {A W : World} (h : KeepsFrom B A W) (o : Obj) : KeepsFrom B A (W.alloc o) := h.trans ((KeepsOthers.alloc W o).from B)
theorem ownFrom_cell {β : Type} (B : Nat) (p : β → Addr) (v : β → Value) : OwnFrom B (fun s W => W.cell? (p s) = some (v s)) :=
  fun s A B' row hs hg hr => cell_kept hs hg (fun r e => (hr r e).2)
theorem ownFrom_frozen {β : Type} (B : Nat) (p : β → Addr) (v : β → Value) (b : β → Bool) : OwnFrom B (fun s W => W.cell? (p s) = some (v s) ∧ W.frozen? (p s) = b s) :=
  fun s A B' row hs hg hr => ⟨cell_kept hs.1 hg (fun r e => (hr r e).2), (frozen_kept hs.1 hg (fun r e => (hr r e).2)).trans hs.2⟩
theorem ownFrom_boxed {β : Type} (N B : Nat) (t : TypeId) (v : β → Value) : OwnFrom N (fun s W => Boxed W B t (v s)) := (boxed_own B t v).from N

/-- The end of a function that holds one loop over an iterator. -/
theorem bodyM_ret {P : Program} {n : Nat} {fn : Func} {R : Ending → World → Prop} {a : Act} {W : World} {D : Nat} {v : Value} (hd : a.defers = [{ target := .collected D, args := #[] }]) (hK : W.heap[D]? = some (.deferred (some [])))
    (hres : (results fn a.tmps).run P (W.putObj D (.deferred none)) = .ok v (W.putObj D (.deferred none))) (hR : R (.returned v) (W.putObj D (.deferred none))) : bodyPostM Fence.wide n P fn R .ret a W := by
  show LeavesInM Fence.wide n P fn a.tmps R a.defers .returning W
  rw [hd]
  exact ⟨by simp, .inl ⟨_, _, rfl, run_takeDeferred hK, v, hres, hR⟩⟩

theorem below_putObj {N D : Nat} {w W : World} {o o' : Obj} (h : Below N w W) (hN : N ≤ D) (hD : W.heap[D]? = some o) : Below N w (W.putObj D o') :=
  h.trans ⟨rfl, rfl, rfl, by simp [World.putObj], fun k hk => World.putObj_heap_other (by omega)⟩

theorem boxed_putObj {W : World} {B D : Nat} {t : TypeId} {v : Value} {o' : Obj} (h : Boxed W B t v) (hD : W.heap[D]? = some (.deferred (some []))) : Boxed (W.putObj D o') B t v := by
  have hne : B ≠ D := fun e => by subst e; have h1 : W.heap[B]? = some (.cells #[v] t (0, 0)) := h; rw [h1] at hD; cases hD
  exact (World.putObj_heap_other hne).trans h

theorem kept_setCell {W : World} {D : Nat} {p : Addr} {v : Value} (hK : W.heap[D]? = some (.deferred (some []))) : (W.setCell p v).heap[D]? = some (.deferred (some [])) :=
  (KeepsOthers.setCell W p v).same D _ hK rfl

/-- A chunk reads as its part of the list, in whatever later world. -/
theorem chunk_ints {w W : World} {N b o n j : Nat} {xs : List Int} (hbs : 0 < xs.length → b < w.heap.size) (hcs : ∀ i (h : i < xs.length), w.cell? ⟨b, o + i, none⟩ = some (.int .i64 xs[i]))
    (hB : Below N w W) (hN : w.heap.size ≤ N) (hj : j * n + n ≤ xs.length) (hsm : n ≤ 1048576) : Ints W (chunkAt b o n j) ((xs.drop (j * n)).take n) := by
  have hlen : ((xs.drop (j * n)).take n).length = n := by simp; omega
  refine ⟨by unfold maxLen; omega, some ⟨b, o + j * n, none⟩, n, by rw [hlen]; rfl, by omega, fun i hi => ⟨b, o + j * n, rfl, ?_, ?_⟩⟩
  · have h0 := hbs (by omega); have := hB.size; omega
  · rw [hlen] at hi
    have h0 := hbs (by omega)
    rw [hB.cell (p := ⟨b, o + j * n + i, none⟩) (show b < N by omega), Nat.add_assoc, hcs _ (by omega)]
    simp
end Go.Proofs.YtcjeededlhdcbaaDoor
