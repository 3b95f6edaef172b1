
/- GreatClique, the program: the closure that calls itself, by a contract of its own. Conditions: valid clashes. -/
import Derived.Test.YtmakjgbldejcpaaCliquePlain
import Derived.Test.YtmakjgbldejcpaaAppendLies
import Derived.Test.YtmakjgbldejcpaaClone
import Derived.Test.YtmakjgbldejcpaaFuncs
import Derived.Test.YtmakjgbldejcpaaCanHave
import Derived.Test.YtmakjgbldejcpaaCircle
import Derived.Deep.LoopGhost
namespace Go.Proofs.Ytmakjgbldejcpaa
open Go.RowKit Go.Shelf Go.BigFrame
set_option linter.unusedVariables false
set_option linter.unusedSimpArgs false
attribute [local go_sem] Oper.semAt_some

/-- What the two variables hold: the list, and the best one. -/
structure CliqB (W : World) (B bl bb : Nat) (l best : List Int) (gl : Nat) : Prop where
  list : ∃ c, Boxed W bl 32 (.slice (some ⟨gl, 0, none⟩) l.length c) ∧ OwnI W B (.slice (some ⟨gl, 0, none⟩) l.length c) l
  best : ∃ a c, Boxed W bb 32 (.slice a best.length c) ∧ OwnI W B (.slice a best.length c) best ∧ (Value.slice a best.length c).ownBlock ≠ some gl
theorem boxed_below {W W' : World} {b : Nat} {t : TypeId} {v : Value} (h : Boxed W b t v) (hb : Below W.heap.size W W') : Boxed W' b t v := by
  have h0 : W.heap[b]? = some (.cells #[v] t (0, 0)) := h
  exact (hb.block b (Array.getElem?_eq_some_iff.1 h0).1).trans h0
theorem boxed_setFar {W : World} {b b' : Nat} {t : TypeId} {v u : Value} (h : Boxed W b t v) (hne : b ≠ b') : Boxed (W.setCell ⟨b', 0, none⟩ u) b t v :=
  (Below.heap_setCell _ _ _ _ hne).trans h
theorem GrownL.trans2 {gs hs : List Nat} {A B C : World} (h : GrownL gs A B) (k : GrownL hs B C) (hh : ∀ i ∈ hs, i ∈ gs ∨ A.heap.size ≤ i) : GrownL gs A C :=
  ⟨k.os.trans h.os, k.tape.trans h.tape, k.output.trans h.output, Nat.le_trans h.size k.size, fun i hi hn => (k.block i (Nat.lt_of_lt_of_le hi h.size) (fun e => by
    rcases hh i e with h1 | h1
    · exact hn h1
    · omega)).trans (h.block i hi hn)⟩
theorem CliqB.below {W W' : World} {B bl bb : Nat} {l best : List Int} {gl : Nat} (h : CliqB W B bl bb l best gl) (hb : Below W.heap.size W W') : CliqB W' B bl bb l best gl := by
  obtain ⟨c, h1, h2⟩ := h.list
  obtain ⟨a, c', h3, h4, h5⟩ := h.best
  exact ⟨⟨c, boxed_below h1 hb, h2.below hb (Nat.le_refl _)⟩, ⟨a, c', boxed_below h3 hb, h4.below hb (Nat.le_refl _), h5⟩⟩
theorem CliqB.lt {W : World} {B bl bb : Nat} {l best : List Int} {gl : Nat} (h : CliqB W B bl bb l best gl) : B ≤ gl ∧ gl < W.heap.size ∧ bl < W.heap.size ∧ bb < W.heap.size ∧ gl ≠ bl ∧ gl ≠ bb := by
  obtain ⟨c, h1, h2⟩ := h.list
  obtain ⟨a, c', h3, h4, h5⟩ := h.best
  have := h2.lt gl rfl
  exact ⟨this.1, this.2, h1.lt, h3.lt, own_ne h1 h2, own_ne h3 h2⟩
theorem own_neV {w : World} {B N n c : Nat} {v : Value} {a : Option Addr} {xs : List Int} (hb : Boxed w B 32 v) (ho : OwnI w N (.slice a n c) xs) : (Value.slice a n c).ownBlock ≠ some B := by
  rcases ho.nil_or with ⟨h, _⟩ | ⟨g, c', h⟩
  · rw [h]; simp [Value.ownBlock]
  · rw [h] at ho ⊢
    rw [ownBlock_slice]
    intro e
    cases e
    exact own_ne hb ho rfl
theorem CliqB.push {W W2 : World} {B bl bb : Nat} {l best : List Int} {gl g1 c1 : Nat} {x : Int} (h : CliqB W B bl bb l best gl) (ho : OwnI W2 B (.slice (some ⟨g1, 0, none⟩) (l.length + 1) c1) (l ++ [x])) (hg : W.grownBy W2 (some gl)) (hl : (some gl = some g1) ∨ W.heap.size ≤ g1) (hne : bl ≠ bb) :
    CliqB (W2.setCell ⟨bl, 0, none⟩ (.slice (some ⟨g1, 0, none⟩) (l.length + 1) c1)) B bl bb (l ++ [x]) best g1 ∧ Boxed W2 bl 32 (.slice (some ⟨gl, 0, none⟩) l.length (h.list.choose)) := by
  obtain ⟨q1, q2, q3, q4, q5, q6⟩ := h.lt
  have h1 := h.list.choose_spec.1
  obtain ⟨a, c', h3, h4, h5⟩ := h.best
  have hb1 : Boxed W2 bl _ _ := h1.kept hg (by intro e; exact q5 (by injection e with e; exact e.symm))
  have hb3 : Boxed W2 bb _ _ := h3.kept hg (by intro e; exact q6 (by injection e with e; exact e.symm))
  have h4' := h4.kept hg (.inr h5)
  refine ⟨⟨⟨c1, by rw [List.length_append]; exact hb1.set _, ?_⟩, ⟨a, c', boxed_setFar hb3 hne.symm, h4'.setCell _ (own_neV hb1 h4'), ?_⟩⟩, hb1⟩
  · have h6 := ho.setCell (p := ⟨bl, 0, none⟩) (.slice (some ⟨g1, 0, none⟩) (l.length + 1) c1) (own_neV hb1 ho)
    rw [List.length_append]; exact h6
  · rcases hl with hl | hl
    · rw [← hl]; exact h5
    · intro e
      have := (h4.lt g1 e).2
      omega
theorem CliqB.pop {W : World} {B bl bb : Nat} {l best : List Int} {gl c : Nat} {x : Int} (h1 : Boxed W bl 32 (.slice (some ⟨gl, 0, none⟩) (l ++ [x]).length c)) (h2 : OwnI W B (.slice (some ⟨gl, 0, none⟩) (l ++ [x]).length c) (l ++ [x]))
    (hbest : ∃ a c, Boxed W bb 32 (.slice a best.length c) ∧ OwnI W B (.slice a best.length c) best ∧ (Value.slice a best.length c).ownBlock ≠ some gl) (hne : bl ≠ bb) :
    CliqB (W.setCell ⟨bl, 0, none⟩ (.slice (some ⟨gl, 0, none⟩) l.length c)) B bl bb l best gl := by
  obtain ⟨a, c', h3, h4, h5⟩ := hbest
  refine ⟨⟨c, h1.set _, ?_⟩, ⟨a, c', boxed_setFar h3 hne.symm, h4.setCell _ (own_neV h1 h4), h5⟩⟩
  have := h2.cut l.length (by simp) rfl
  rw [List.take_left] at this
  exact this.setCell _ (own_neV h1 this)
theorem CliqB.took {W W1 : World} {B bl bb : Nat} {l best : List Int} {gl g c : Nat} (h : CliqB W B bl bb l best gl) (hb : Below W.heap.size W W1) (ho : OwnI W1 W.heap.size (.slice (some ⟨g, 0, none⟩) l.length c) l) (hne : bl ≠ bb) (hB : B ≤ W.heap.size) :
    CliqB (W1.setCell ⟨bb, 0, none⟩ (.slice (some ⟨g, 0, none⟩) l.length c)) B bl bb l l gl := by
  obtain ⟨q1, q2, q3, q4, q5, q6⟩ := h.lt
  obtain ⟨c2, h1, h2⟩ := (h.below hb).list
  obtain ⟨a, c', h3, h4, h5⟩ := (h.below hb).best
  have := (ho.lt g rfl).1
  have ho' := ho.mono hB
  refine ⟨⟨c2, boxed_setFar h1 hne, h2.setCell _ (own_neV h3 h2)⟩, ⟨_, c, h3.set _, ho'.setCell _ (own_neV h3 ho'), ?_⟩⟩
  rw [ownBlock_slice]
  intro e
  injection e with e
  omega

end Go.Proofs.Ytmakjgbldejcpaa
