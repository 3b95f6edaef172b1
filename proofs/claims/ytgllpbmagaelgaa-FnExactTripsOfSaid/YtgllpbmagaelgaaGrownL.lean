
/- A world in which, of the blocks of an elder one, only some named ones have changed. Conditions: none. -/
import Derived.Test.YtgllpbmagaelgaaOwnBox
import Derived.Test.YtgllpbmagaelgaaMarks
namespace Go.Proofs.Ytgllpbmagaelgaa
open Go.RowKit Go.Shelf
set_option linter.unusedVariables false
set_option linter.unusedSimpArgs false

structure GrownL (gs : List Nat) (A W : World) : Prop where
  os : W.os = A.os
  tape : W.tape = A.tape
  output : W.output = A.output
  size : A.heap.size ≤ W.heap.size
  block : ∀ i, i < A.heap.size → i ∉ gs → W.heap[i]? = A.heap[i]?

theorem GrownL.refl (gs : List Nat) (A : World) : GrownL gs A A := ⟨rfl, rfl, rfl, Nat.le_refl _, fun _ _ _ => rfl⟩
theorem GrownL.trans {gs : List Nat} {A B C : World} (h : GrownL gs A B) (k : GrownL gs B C) : GrownL gs A C :=
  ⟨k.os.trans h.os, k.tape.trans h.tape, k.output.trans h.output, Nat.le_trans h.size k.size, fun i hi hn => (k.block i (Nat.lt_of_lt_of_le hi h.size) hn).trans (h.block i hi hn)⟩
theorem GrownL.grown {gs : List Nat} {A W W' : World} {row : Option Nat} (h : GrownL gs A W) (k : W.grownBy W' row) (hr : ∀ j, row = some j → j ∈ gs ∨ A.heap.size ≤ j) : GrownL gs A W' :=
  ⟨k.os.trans h.os, k.tape.trans h.tape, k.output.trans h.output, Nat.le_trans h.size k.size, fun i hi hn => (k.block i (Nat.lt_of_lt_of_le hi h.size) (fun e => by
    rcases hr i e.symm with h1 | h1
    · exact hn h1
    · omega)).trans (h.block i hi hn)⟩
theorem GrownL.below {gs : List Nat} {A W W' : World} {N : Nat} (h : GrownL gs A W) (k : Below N W W') (hN : A.heap.size ≤ N) : GrownL gs A W' :=
  ⟨k.os.trans h.os, k.tape.trans h.tape, k.output.trans h.output, Nat.le_trans h.size k.size, fun i hi hn => (k.block i (by omega)).trans (h.block i hi hn)⟩
theorem GrownL.drewN {gs : List Nat} {A W : World} (h : GrownL gs A W) (q : Nat) : GrownL gs A (W.drewN q) := ⟨h.os, h.tape, h.output, h.size, h.block⟩
theorem GrownL.drew {gs : List Nat} {A W : World} (h : GrownL gs A W) : GrownL gs A W.drew := ⟨h.os, h.tape, h.output, h.size, h.block⟩
theorem GrownL.setCell {gs : List Nat} {A W : World} (h : GrownL gs A W) (p : Addr) (v : Value) (hp : p.block ∈ gs ∨ A.heap.size ≤ p.block) : GrownL gs A (W.setCell p v) :=
  ⟨h.os, h.tape, h.output, by rw [World.size_setCell]; exact h.size, fun i hi hn => (Below.heap_setCell _ _ _ _ (fun e => by
    rcases hp with h1 | h1
    · rw [e] at hn; exact hn h1
    · omega)).trans (h.block i hi hn)⟩
theorem GrownL.alloc {gs : List Nat} {A W : World} (h : GrownL gs A W) (o : Obj) : GrownL gs A (W.alloc o) :=
  ⟨h.os, h.tape, h.output, by simp; have := h.size; omega, fun i hi hn => (Below.heap_alloc _ _ _ (Nat.lt_of_lt_of_le hi h.size)).trans (h.block i hi hn)⟩
theorem GrownL.boxed {gs : List Nat} {A W : World} (h : GrownL gs A W) {b : Nat} {t : TypeId} {v : Value} (hb : Boxed A b t v) (hn : b ∉ gs) : Boxed W b t v := by
  have h0 : A.heap[b]? = some (.cells #[v] t (0, 0)) := hb
  exact (h.block b (Array.getElem?_eq_some_iff.1 h0).1 hn).trans h0
theorem GrownL.cell {gs : List Nat} {A W : World} (h : GrownL gs A W) {p : Addr} (hp : p.block < A.heap.size) (hn : p.block ∉ gs) : W.cell? p = A.cell? p := World.cell?_of_block (h.block _ hp hn)
theorem GrownL.toBelow {gs : List Nat} {A W w : World} {N : Nat} (h : GrownL gs A W) (hb : Below N w A) (hN : N ≤ A.heap.size) (hg : ∀ i, i < N → i ∉ gs) : Below N w W :=
  ⟨h.os.trans hb.os, h.tape.trans hb.tape, h.output.trans hb.output, Nat.le_trans hb.size h.size, fun k hk => (h.block k (by omega) (hg k hk)).trans (hb.block k hk)⟩
theorem GrownL.keep2 {gs : List Nat} {A W : World} (h : GrownL gs A W) {Bs Bn : Nat} (h1 : Bs < A.heap.size) (h2 : Bn < A.heap.size) (n1 : Bs ∉ gs) (n2 : Bn ∉ gs) : Keep2 Bs Bn A W := ⟨h.block _ h1 n1, h.block _ h2 n2⟩
theorem GrownL.keepsFrom {gs : List Nat} {A W : World} (h : GrownL gs A W) {B : Nat} (hB : ∀ i, B ≤ i → i ∉ gs) : KeepsFrom B A W :=
  ⟨h.size, fun k o hk ho _ => (h.block k (Array.getElem?_eq_some_iff.1 ho).1 (hB k hk)).trans ho⟩
theorem ownFrom_grownL {β : Type} {B : Nat} {gs : List Nat} {A : World} (hA : A.heap.size ≤ B) : OwnFrom B (fun (_ : β) W => GrownL gs A W) :=
  fun s W W' row hs hg hr => hs.grown hg (fun j e => .inr (by have := (hr j e).1; omega))
theorem ownFrom_ownI {β : Type} {B N g n c : Nat} (f : β → List Int) : OwnFrom B (fun s W => OwnI W N (.slice (some ⟨g, 0, none⟩) n c) (f s)) := by
  intro s W W' row h2 hg hr
  refine h2.kept hg (.inr ?_)
  intro e
  obtain ⟨_, o, ho, hc⟩ := hr g e.symm
  obtain ⟨cur, hcur⟩ := h2.block
  rw [ho] at hcur
  cases hcur
  cases hc
theorem cell_far {w : World} {p q : Addr} {u v : Value} (k : Nat) (h : p.block ≠ q.block) (hc : w.cell? p = some v) : ((w.drewN k).setCell q u).cell? p = some v :=
  (World.cell?_of_block (w := w.drewN k) (Below.heap_setCell _ _ _ _ h)).trans hc
theorem GrownL.own {gs : List Nat} {A W : World} (h : GrownL gs A W) {N g n c : Nat} {ys : List Int} (ho : OwnI A N (.slice (some ⟨g, 0, none⟩) n c) ys) (hn : g ∉ gs) : OwnI W N (.slice (some ⟨g, 0, none⟩) n c) ys := by
  refine ⟨ho.1, ?_⟩
  rcases ho.2 with h1 | ⟨g', cap, cur, h1, h2, h3, r⟩
  · exact .inl h1
  · refine .inr ⟨g', cap, cur, h1, h2, ?_, r⟩
    obtain ⟨rfl⟩ : g = g' := by simp at h1; exact h1.1
    exact (h.block g (Array.getElem?_eq_some_iff.1 h3).1 hn).trans h3
end Go.Proofs.Ytgllpbmagaelgaa
