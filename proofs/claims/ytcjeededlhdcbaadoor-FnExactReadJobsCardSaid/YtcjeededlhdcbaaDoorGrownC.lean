
/- A world in which, of the blocks of an elder one, only some named ones have changed. Conditions: none. -/
import Derived.Test.YtcjeededlhdcbaaDoorMarks
namespace Go.Proofs.YtcjeededlhdcbaaDoor
open Go.RowKit
set_option linter.unusedVariables false
set_option linter.unusedSimpArgs false

theorem OwnI.block {W : World} {N g n c : Nat} {ys : List Int} (h : OwnI W N (.slice (some ⟨g, 0, none⟩) n c) ys) : ∃ cur, W.heap[g]? = some (.cells cur 2 (0, 0)) := by
  rcases h.2 with ⟨h1, _⟩ | ⟨g', cap, cur, h1, _, h2, _⟩
  · cases h1
  · obtain ⟨rfl, _⟩ : g = g' ∧ True := by
      simp at h1; exact ⟨h1.1, trivial⟩
    exact ⟨cur, h2⟩
theorem OwnI.ne_box {W : World} {N g n c b : Nat} {t : TypeId} {u : Value} {ys : List Int} (h : OwnI W N (.slice (some ⟨g, 0, none⟩) n c) ys) (hb : Boxed W b t u) (ht : t ≠ 2) : b ≠ g := by
  rintro rfl
  obtain ⟨cur, h1⟩ := h.block
  have h2 : W.heap[b]? = some (.cells #[u] t (0, 0)) := hb
  rw [h1] at h2
  injection h2 with h2
  injection h2 with _ h3
  exact ht h3.symm

theorem far_cell {w w' : World} {row : Option Nat} (h : w.grownBy w' row) {p : Addr} (hp : p.block < w.heap.size) (hne : some p.block ≠ row) : w'.cell? p = w.cell? p := World.cell?_of_block (h.block _ hp hne)

structure GrownL (gs : List Nat) (A W : World) : Prop where
  os : W.os = A.os
  tape : W.tape = A.tape
  output : W.output = A.output
  size : A.heap.size ≤ W.heap.size
  block : ∀ i, i < A.heap.size → i ∉ gs → W.heap[i]? = A.heap[i]?

theorem GrownL.refl (gs : List Nat) (A : World) : GrownL gs A A := ⟨rfl, rfl, rfl, Nat.le_refl _, fun _ _ _ => rfl⟩
theorem GrownL.trans {gs : List Nat} {A B C : World} (h : GrownL gs A B) (k : GrownL gs B C) : GrownL gs A C :=
  ⟨k.os.trans h.os, k.tape.trans h.tape, k.output.trans h.output, Nat.le_trans h.size k.size, fun i hi hn => (k.block i (Nat.lt_of_lt_of_le hi h.size) hn).trans (h.block i hi hn)⟩
theorem GrownL.grown {gs : List Nat} {A W W' : World} {row : Option Nat} (h : GrownL gs A W) (k : W.grownBy W' row) (hr : ∀ j, row = some j → j ∈ gs ∨ A.heap.size ≤ j) : GrownL gs A W' :=
  ⟨k.os.trans h.os, k.tape.trans h.tape, k.output.trans h.output, Nat.le_trans h.size k.size, fun i hi hn => (k.block i (Nat.lt_of_lt_of_le hi h.size) (fun e => by
    rcases hr i e.symm with h1 | h1
    · exact hn h1
    · omega)).trans (h.block i hi hn)⟩
theorem GrownL.below {gs : List Nat} {A W W' : World} {N : Nat} (h : GrownL gs A W) (k : Below N W W') (hN : A.heap.size ≤ N) : GrownL gs A W' :=
  ⟨k.os.trans h.os, k.tape.trans h.tape, k.output.trans h.output, Nat.le_trans h.size k.size, fun i hi hn => (k.block i (by omega)).trans (h.block i hi hn)⟩
theorem GrownL.drewN {gs : List Nat} {A W : World} (h : GrownL gs A W) (q : Nat) : GrownL gs A (W.drewN q) := ⟨h.os, h.tape, h.output, h.size, h.block⟩
theorem GrownL.drew {gs : List Nat} {A W : World} (h : GrownL gs A W) : GrownL gs A W.drew := ⟨h.os, h.tape, h.output, h.size, h.block⟩
theorem GrownL.setCell {gs : List Nat} {A W : World} (h : GrownL gs A W) (p : Addr) (v : Value) (hp : p.block ∈ gs ∨ A.heap.size ≤ p.block) : GrownL gs A (W.setCell p v) :=
  ⟨h.os, h.tape, h.output, by rw [World.size_setCell]; exact h.size, fun i hi hn => (Below.heap_setCell _ _ _ _ (fun e => by
    rcases hp with h1 | h1
    · rw [e] at hn; exact hn h1
    · omega)).trans (h.block i hi hn)⟩
theorem GrownL.alloc {gs : List Nat} {A W : World} (h : GrownL gs A W) (o : Obj) : GrownL gs A (W.alloc o) :=
  ⟨h.os, h.tape, h.output, by simp; have := h.size; omega, fun i hi hn => (Below.heap_alloc _ _ _ (Nat.lt_of_lt_of_le hi h.size)).trans (h.block i hi hn)⟩
theorem GrownL.boxed {gs : List Nat} {A W : World} (h : GrownL gs A W) {b : Nat} {t : TypeId} {v : Value} (hb : Boxed A b t v) (hn : b ∉ gs) : Boxed W b t v := by
  have h0 : A.heap[b]? = some (.cells #[v] t (0, 0)) := hb
  exact (h.block b (Array.getElem?_eq_some_iff.1 h0).1 hn).trans h0
theorem GrownL.cell {gs : List Nat} {A W : World} (h : GrownL gs A W) {p : Addr} (hp : p.block < A.heap.size) (hn : p.block ∉ gs) : W.cell? p = A.cell? p := World.cell?_of_block (h.block _ hp hn)
theorem GrownL.toBelow {gs : List Nat} {A W w : World} {N : Nat} (h : GrownL gs A W) (hb : Below N w A) (hN : N ≤ A.heap.size) (hg : ∀ i, i < N → i ∉ gs) : Below N w W :=
  ⟨h.os.trans hb.os, h.tape.trans hb.tape, h.output.trans hb.output, Nat.le_trans hb.size h.size, fun k hk => (h.block k (by omega) (hg k hk)).trans (hb.block k hk)⟩
theorem cell_far {w : World} {p q : Addr} {u v : Value} (k : Nat) (h : p.block ≠ q.block) (hc : w.cell? p = some v) : ((w.drewN k).setCell q u).cell? p = some v :=
  (World.cell?_of_block (w := w.drewN k) (Below.heap_setCell _ _ _ _ h)).trans hc
theorem GrownL.own {gs : List Nat} {A W : World} (h : GrownL gs A W) {N g n c : Nat} {ys : List Int} (ho : OwnI A N (.slice (some ⟨g, 0, none⟩) n c) ys) (hn : g ∉ gs) : OwnI W N (.slice (some ⟨g, 0, none⟩) n c) ys := by
  refine ⟨ho.1, ?_⟩
  rcases ho.2 with h1 | ⟨g', cap, cur, h1, h2, h3, r⟩
  · exact .inl h1
  · refine .inr ⟨g', cap, cur, h1, h2, ?_, r⟩
    obtain ⟨rfl⟩ : g = g' := by simp at h1; exact h1.1
    exact (h.block g (Array.getElem?_eq_some_iff.1 h3).1 hn).trans h3
end Go.Proofs.YtcjeededlhdcbaaDoor
