
/- Slices of Go's own type int that a call itself makes. Conditions: none. -/
import Derived.Test.YtnpfninkopffmaaAppend
import Derived.Test.YtnpfninkopffmaaMarks
namespace Go.Proofs.Ytnpfninkopffmaa
open Go.RowKit
set_option linter.unusedVariables false
set_option linter.unusedSimpArgs false

theorem info_gint : (Try.prog.info? 3).map (fun i => (i.zero, i.size, i.bytes)) = some (some (.int .i64 0), 1, 8) := by kernel_rfl
/-- v is a slice of ints of the call's own, and it holds xs. -/
def OwnJ (w : World) (B : Nat) (v : Value) (xs : List Int) : Prop := w.ownsRow B 3 1 v xs.length (xs.map (Value.int .i64))
theorem OwnJ.store {w : World} {N g n c : Nat} {xs : List Int} (h : OwnJ w N (.slice (some ⟨g, 0, none⟩) n c) xs) (hn : n = xs.length) (j : Nat) (hj : j < xs.length) (y : Int) :
    w.cell? ⟨g, j, none⟩ = some (.int .i64 xs[j]) ∧ w.frozen? ⟨g, j, none⟩ = false ∧ OwnJ (w.setCell ⟨g, j, none⟩ (.int .i64 y)) N (.slice (some ⟨g, 0, none⟩) n c) (xs.set j y) ∧ w.grownBy (w.setCell ⟨g, j, none⟩ (.int .i64 y)) (some g) := by
  subst hn
  have h' : w.ownsRow N 3 1 (.slice (some ⟨g, 0, none⟩) xs.length c) xs.length (xs.map (Value.int .i64)) := h
  obtain ⟨h1, h2⟩ := h'.stored j (.int .i64 y)
  refine ⟨?_, h'.frozenAt j, ?_, h2⟩
  · rw [h'.cellAt j (by omega), List.getElem?_map, List.getElem?_eq_getElem hj]; rfl
  · unfold OwnJ
    rw [List.length_set, List.map_set]; exact h1
theorem OwnJ.at_ {w : World} {N g n c : Nat} {xs : List Int} (h : OwnJ w N (.slice (some ⟨g, 0, none⟩) n c) xs) (hn : n = xs.length) (j : Nat) (hj : j < xs.length) : w.cell? ⟨g, j, none⟩ = some (.int .i64 (nth xs j)) := by
  rw [nth_eq hj]; exact (h.store hn j hj 0).1
theorem OwnJ.alloc {w : World} {B : Nat} {v : Value} {xs : List Int} (h : OwnJ w B v xs) (o : Obj) : OwnJ (w.alloc o) B v xs := World.ownsRow.alloc h o
theorem OwnJ.kept {w w' : World} {B : Nat} {v : Value} {xs : List Int} {row : Option Nat} (h : OwnJ w B v xs) (hg : w.grownBy w' row) (hne : v.ownBlock = none ∨ v.ownBlock ≠ row) : OwnJ w' B v xs := World.ownsRow.kept h hg hne
theorem OwnJ.lt {w : World} {B : Nat} {v : Value} {xs : List Int} (h : OwnJ w B v xs) : ∀ k, v.ownBlock = some k → B ≤ k ∧ k < w.heap.size := World.ownsRow.lt h
theorem OwnJ.below {w w' : World} {B N : Nat} {v : Value} {xs : List Int} (h : OwnJ w B v xs) (hb : Below N w w') (hN : w.heap.size ≤ N) : OwnJ w' B v xs := by
  refine h.kept (row := none) ⟨hb.os, hb.tape, hb.output, hb.size, fun k hk _ => hb.block k (by omega)⟩ ?_
  cases v.ownBlock <;> simp
theorem OwnJ.drewN {w : World} {B : Nat} {v : Value} {xs : List Int} (h : OwnJ w B v xs) (q : Nat) : OwnJ (w.drewN q) B v xs := h.below (below_drewN q (Below.refl w.heap.size w)) (Nat.le_refl _)
theorem OwnJ.drew {w : World} {B : Nat} {v : Value} {xs : List Int} (h : OwnJ w B v xs) : OwnJ w.drew B v xs := h.below (B := B) (N := w.heap.size) (Below.refl _ _).drew (Nat.le_refl _)
theorem OwnJ.setCell {w : World} {B : Nat} {v : Value} {xs : List Int} (h : OwnJ w B v xs) {p : Addr} (u : Value) (hne : v.ownBlock ≠ some p.block) : OwnJ (w.setCell p u) B v xs :=
  h.kept (row := some p.block) ⟨rfl, rfl, rfl, by simp [World.setCell], fun k hk hk' => Below.heap_setCell _ _ _ _ (fun e => hk' (by rw [e]))⟩ (.inr hne)
/-- What make([]int, n) leaves. -/
theorem OwnJ.made {w : World} {base g : Nat} {n : Nat} (h : w.ownsRow base 3 1 (.slice (some ⟨g, 0, none⟩) n n) n (madeCells (Value.int .i64 0).cells (n * 1)).toList) : OwnJ w base (.slice (some ⟨g, 0, none⟩) n n) (List.replicate n 0) := by
  have e : (madeCells (Value.int .i64 0).cells (n * 1)).toList = (List.replicate n (0 : Int)).map (Value.int .i64) := by
    rw [Nat.mul_one]; exact (toList_madeCells_one _ _).trans (by simp)
  rw [e] at h
  unfold OwnJ
  rwa [List.length_replicate]
end Go.Proofs.Ytnpfninkopffmaa
