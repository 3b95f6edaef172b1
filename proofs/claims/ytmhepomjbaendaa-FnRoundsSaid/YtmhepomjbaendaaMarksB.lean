
/- The laws' own marks on a result that is a slice of bools. Conditions: lengths at most 2^26. -/
import Derived.Test.YtmhepomjbaendaaMarks
import Derived.Test.YtmhepomjbaendaaIsAll
namespace Go.Proofs.Ytmhepomjbaendaa
open Go.RowKit
set_option linter.unusedVariables false
set_option linter.unusedSimpArgs false

def marksB (k : Int) (n : Nat) : List Bool := (List.range n).map fun (i : Nat) => (k + (i : Int)) % 3 == 0
theorem marksB_length (k : Int) (n : Nat) : (marksB k n).length = n := by simp [marksB]
theorem marksB_get (k : Int) (n i : Nat) (h : i < (marksB k n).length) : (marksB k n)[i] = ((k + i) % 3 == 0) := by simp [marksB]
def markToB (k : Int) (xs : List Bool) (j : Nat) : List Bool := marksB k j ++ xs.drop j
theorem markToB_length (k : Int) (xs : List Bool) (j : Nat) (h : j ≤ xs.length) : (markToB k xs j).length = xs.length := by simp [markToB, marksB_length]; omega
theorem markToB_set (k : Int) (xs : List Bool) (j : Nat) (h : j < xs.length) : (markToB k xs j).set j ((k + j) % 3 == 0) = markToB k xs (j + 1) := by
  unfold markToB
  apply List.ext_getElem
  · simp [marksB_length]; omega
  · intro i h1 h2
    have h1' : i < xs.length := by simp [marksB_length] at h1; omega
    rw [List.getElem_set]
    split
    · rename_i e; subst e
      rw [List.getElem_append_left (by rw [marksB_length]; omega), marksB_get]
    · rename_i e
      by_cases h3 : i < j
      · rw [List.getElem_append_left (by rw [marksB_length]; omega), List.getElem_append_left (by rw [marksB_length]; omega), marksB_get, marksB_get]
      · rw [List.getElem_append_right (by rw [marksB_length]; omega), List.getElem_append_right (by rw [marksB_length]; omega)]
        simp only [marksB_length, List.getElem_drop]
        congr 1; omega

theorem OwnB.nil_or {w : World} {N : Nat} {v : Value} {xs : List Bool} (h : OwnB w N v xs) : (v = .slice none 0 0 ∧ xs = []) ∨ ∃ g c, v = .slice (some ⟨g, 0, none⟩) xs.length c := by
  rcases h.2 with ⟨h1, h2⟩ | ⟨g, cap, cur, h1, _⟩
  · exact .inl ⟨h1, List.eq_nil_of_length_eq_zero h2⟩
  · exact .inr ⟨g, cap, h1⟩
theorem ownB_nil (w : World) (N : Nat) : OwnB w N (.slice none 0 0) [] := World.ownsRow_nil w N _ _

/-- A slice of bools of the call's own whose block lies below hi. -/
structure Own2B (w : World) (lo hi : Nat) (v : Value) (xs : List Bool) : Prop where
  own : OwnB w lo v xs
  hi : ∀ k, v.ownBlock = some k → k < hi
theorem Own2B.of {w : World} {lo : Nat} {v : Value} {xs : List Bool} (h : OwnB w lo v xs) : Own2B w lo w.heap.size v xs := ⟨h, fun k hk => (h.lt k hk).2⟩
theorem Own2B.below {w w' : World} {lo hi : Nat} {v : Value} {xs : List Bool} (h : Own2B w lo hi v xs) (hb : Below w.heap.size w w') : Own2B w' lo hi v xs := ⟨h.own.below hb (Nat.le_refl _), h.hi⟩
theorem Own2B.grown {w w' : World} {lo hi lo' hi' : Nat} {v u : Value} {xs : List Bool} {ys : List Int} (h : Own2B w lo hi v xs) (k : Own2 w lo' hi' u ys) (hg : w.grownBy w' u.ownBlock) (hd : hi ≤ lo' ∨ hi' ≤ lo) : Own2B w' lo hi v xs := by
  refine ⟨h.own.kept hg ?_, h.hi⟩
  cases hv : v.ownBlock with
  | none => exact .inl rfl
  | some j =>
    refine .inr (fun e => ?_)
    have h1 := h.own.lt j hv
    have h2 := h.hi j hv
    have h3 := k.own.lt j e.symm
    have h4 := k.hi j e.symm
    omega
theorem Own2B.grownB {w w' : World} {lo hi lo' hi' : Nat} {v u : Value} {xs ys : List Bool} (h : Own2B w lo hi v xs) (k : Own2B w lo' hi' u ys) (hg : w.grownBy w' u.ownBlock) (hd : hi ≤ lo' ∨ hi' ≤ lo) : Own2B w' lo hi v xs := by
  refine ⟨h.own.kept hg ?_, h.hi⟩
  cases hv : v.ownBlock with
  | none => exact .inl rfl
  | some j =>
    refine .inr (fun e => ?_)
    have h1 := h.own.lt j hv
    have h2 := h.hi j hv
    have h3 := k.own.lt j e.symm
    have h4 := k.hi j e.symm
    omega
theorem Own2B.marked {w w' : World} {lo hi : Nat} {v : Value} {xs ys : List Bool} (h : Own2B w lo hi v xs) (k : OwnB w' lo v ys) : Own2B w' lo hi v ys := ⟨k, h.hi⟩
theorem Own2B.ints {w : World} {lo hi : Nat} {v : Value} {xs : List Bool} (h : Own2B w lo hi v xs) : Bools w v xs := h.own.bools
theorem Below.markedB {B : Nat} {w W W' : World} {lo hi : Nat} {v : Value} {xs : List Bool} (h : Below B w W) (k : Own2B W lo hi v xs) (hg : W.grownBy W' v.ownBlock) (hlo : B ≤ lo) (hB : B ≤ W.heap.size) : Below B w W' :=
  h.grown hg hB (fun j e => by have := (k.own.lt j e).1; omega)
end Go.Proofs.Ytmhepomjbaendaa
