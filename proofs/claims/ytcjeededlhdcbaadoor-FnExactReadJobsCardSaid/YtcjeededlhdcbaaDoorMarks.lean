
/- The laws' own marks on a result that is a slice of integers: they write 1, 2, 3 .. into it and look later whether these still stand. Conditions: lengths at most 2^31. -/
import Derived.Test.YtcjeededlhdcbaaDoorAppend
namespace Go.Proofs.YtcjeededlhdcbaaDoor
open Go.RowKit
set_option linter.unusedVariables false
set_option linter.unusedSimpArgs false

def marks (k : Int) (n : Nat) : List Int := (List.range n).map fun (i : Nat) => k + (i : Int)
theorem marks_length (k : Int) (n : Nat) : (marks k n).length = n := by simp [marks]
theorem marks_get (k : Int) (n i : Nat) (h : i < (marks k n).length) : (marks k n)[i] = k + i := by simp [marks]

/-- What stands when j marks have been laid. -/
def markTo (k : Int) (xs : List Int) (j : Nat) : List Int := marks k j ++ xs.drop j
theorem markTo_length (k : Int) (xs : List Int) (j : Nat) (h : j ≤ xs.length) : (markTo k xs j).length = xs.length := by simp [markTo, marks_length]; omega
theorem markTo_set (k : Int) (xs : List Int) (j : Nat) (h : j < xs.length) : (markTo k xs j).set j (k + j) = markTo k xs (j + 1) := by
  unfold markTo
  apply List.ext_getElem
  · simp [marks_length]; omega
  · intro i h1 h2
    have h1' : i < xs.length := by simp [marks_length] at h1; omega
    rw [List.getElem_set]
    split
    · rename_i e; subst e
      rw [List.getElem_append_left (by rw [marks_length]; omega), marks_get]
    · rename_i e
      by_cases h3 : i < j
      · rw [List.getElem_append_left (by rw [marks_length]; omega), List.getElem_append_left (by rw [marks_length]; omega), marks_get, marks_get]
      · rw [List.getElem_append_right (by rw [marks_length]; omega), List.getElem_append_right (by rw [marks_length]; omega)]
        simp only [marks_length, List.getElem_drop]
        congr 1; omega

/-- A store into a row of the call's own. -/
theorem OwnI.store {w : World} {N g n c : Nat} {xs : List Int} (h : OwnI w N (.slice (some ⟨g, 0, none⟩) n c) xs) (hn : n = xs.length) (j : Nat) (hj : j < xs.length) (y : Int) :
    w.cell? ⟨g, j, none⟩ = some (.int .i64 xs[j]) ∧ w.frozen? ⟨g, j, none⟩ = false ∧ OwnI (w.setCell ⟨g, j, none⟩ (.int .i64 y)) N (.slice (some ⟨g, 0, none⟩) n c) (xs.set j y) ∧ w.grownBy (w.setCell ⟨g, j, none⟩ (.int .i64 y)) (some g) := by
  subst hn
  have h' : w.ownsRow N 2 1 (.slice (some ⟨g, 0, none⟩) xs.length c) xs.length (xs.map (Value.int .i64)) := h
  obtain ⟨h1, h2⟩ := h'.stored j (.int .i64 y)
  refine ⟨?_, h'.frozenAt j, ?_, h2⟩
  · rw [h'.cellAt j (by omega), List.getElem?_map, List.getElem?_eq_getElem hj]; rfl
  · unfold OwnI
    rw [List.length_set, List.map_set]; exact h1

theorem OwnI.at_ {w : World} {N g n c : Nat} {xs : List Int} (h : OwnI w N (.slice (some ⟨g, 0, none⟩) n c) xs) (hn : n = xs.length) (j : Nat) (hj : j < xs.length) : w.cell? ⟨g, j, none⟩ = some (.int .i64 (nth xs j)) := by
  rw [nth_eq hj]; exact (h.store hn j hj 0).1

theorem grownBy_refl (w : World) (row : Option Nat) : w.grownBy w row := ⟨rfl, rfl, rfl, Nat.le_refl _, fun _ _ _ => rfl⟩
theorem grownBy_trans {a b c : World} {row : Option Nat} (h : a.grownBy b row) (k : b.grownBy c row) : a.grownBy c row :=
  ⟨k.os.trans h.os, k.tape.trans h.tape, k.output.trans h.output, Nat.le_trans h.size k.size, fun i hi hne => (k.block i (by have := h.size; omega) hne).trans (h.block i hi hne)⟩

theorem OwnI.nil_or {w : World} {N : Nat} {v : Value} {xs : List Int} (h : OwnI w N v xs) : (v = .slice none 0 0 ∧ xs = []) ∨ ∃ g c, v = .slice (some ⟨g, 0, none⟩) xs.length c := by
  rcases h.2 with ⟨h1, h2⟩ | ⟨g, cap, cur, h1, _⟩
  · exact .inl ⟨h1, List.eq_nil_of_length_eq_zero h2⟩
  · exact .inr ⟨g, cap, h1⟩

/-- A slice of the call's own whose block lies below hi. -/
structure Own2 (w : World) (lo hi : Nat) (v : Value) (xs : List Int) : Prop where
  own : OwnI w lo v xs
  hi : ∀ k, v.ownBlock = some k → k < hi
theorem Own2.of {w : World} {lo : Nat} {v : Value} {xs : List Int} (h : OwnI w lo v xs) : Own2 w lo w.heap.size v xs := ⟨h, fun k hk => (h.lt k hk).2⟩
theorem Own2.below {w w' : World} {lo hi : Nat} {v : Value} {xs : List Int} (h : Own2 w lo hi v xs) (hb : Below w.heap.size w w') : Own2 w' lo hi v xs := ⟨h.own.below hb (Nat.le_refl _), h.hi⟩
theorem Own2.grown {w w' : World} {lo hi lo' hi' : Nat} {v u : Value} {xs ys : List Int} (h : Own2 w lo hi v xs) (k : Own2 w lo' hi' u ys) (hg : w.grownBy w' u.ownBlock) (hd : hi ≤ lo' ∨ hi' ≤ lo) : Own2 w' lo hi v xs := by
  refine ⟨h.own.kept hg ?_, h.hi⟩
  cases hv : v.ownBlock with
  | none => exact .inl rfl
  | some j =>
    refine .inr (fun e => ?_)
    have h1 := h.own.lt j hv
    have h2 := h.hi j hv
    have h3 := k.own.lt j e.symm
    have h4 := k.hi j e.symm
    omega
theorem Own2.marked {w w' : World} {lo hi : Nat} {v : Value} {xs ys : List Int} (h : Own2 w lo hi v xs) (k : OwnI w' lo v ys) : Own2 w' lo hi v ys := ⟨k, h.hi⟩
theorem Own2.ints {w : World} {lo hi : Nat} {v : Value} {xs : List Int} (h : Own2 w lo hi v xs) : Ints w v xs := h.own.ints
theorem Below.marked {B : Nat} {w W W' : World} {lo hi : Nat} {v : Value} {xs : List Int} (h : Below B w W) (k : Own2 W lo hi v xs) (hg : W.grownBy W' v.ownBlock) (hlo : B ≤ lo) (hB : B ≤ W.heap.size) : Below B w W' :=
  h.grown hg hB (fun j e => by have := (k.own.lt j e).1; omega)
end Go.Proofs.YtcjeededlhdcbaaDoor
