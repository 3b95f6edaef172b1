
/- A variable of a call's own, boxed, that holds a slice of integers of the call's own; slices.Chunk's two boxes told whole. Conditions: none. -/
import Derived.Test.YtnpfninkopffmaaAppend
import Derived.Test.YtnpfninkopffmaaChunk
import Derived.Test.YtnpfninkopffmaaGrownC
namespace Go.Proofs.Ytnpfninkopffmaa
open Go.RowKit Go.Shelf
set_option linter.unusedVariables false
set_option linter.unusedSimpArgs false

/-- Box b holds a slice that owns its cells, and these are ys. -/
def OwnBox (W : World) (b N : Nat) (ys : List Int) : Prop := ∃ g c, Boxed W b 29 (.slice (some ⟨g, 0, none⟩) ys.length c) ∧ OwnI W N (.slice (some ⟨g, 0, none⟩) ys.length c) ys

theorem ownFrom_ownBox {β : Type} (B b N : Nat) (f : β → List Int) : OwnFrom B (fun s W => OwnBox W b N (f s)) := by
  rintro s W W' row ⟨g, c, h1, h2⟩ hg hr
  refine ⟨g, c, (ownFrom_boxed B b _ (fun (_ : β) => Value.slice (some ⟨g, 0, none⟩) (f s).length c)) s W W' row h1 hg hr, h2.kept hg (.inr ?_)⟩
  intro e
  obtain ⟨_, o, ho, hc⟩ := hr g e.symm
  obtain ⟨cur, hcur⟩ := h2.block
  rw [ho] at hcur
  cases hcur
  cases hc


theorem ownFrom_sz {β : Type} (B n : Nat) : OwnFrom B (fun (_ : β) W => n ≤ W.heap.size) := fun s W W' row hs hg hr => Nat.le_trans hs hg.size

/-- THE LAW OF A LOOP over the chunks of a slice, where the loop variable is a plain slot; a round knows how many came before it. -/
theorem chunk_loopL {g : Operand} {ps : Array Tmp} {assign body : Code} {Q : Exit → Act → World → Prop} {a : Act} {w : World} {k : Nat} (hk : 2 ≤ k)
    {Bs Bn : Nat} (hg : a.eval g = .func (.func 104) #[] #[.pointer (some ⟨Bs, 0, none⟩), .pointer (some ⟨Bn, 0, none⟩)])
    (b off c n m L : Nat) (ad : Option Addr) (hL : L = n * m) (hn : 1 ≤ n) (hm : L ≤ 1048576) (ha : 0 < L → ad = some ⟨b, off, none⟩)
    (hBs : w.cell? ⟨Bs, 0, none⟩ = some (.slice ad L c)) (hc : L ≤ c) (hBn : w.cell? ⟨Bn, 0, none⟩ = some (.int .i64 n)) (hps : ps.size = 1)
    (I : List (Fin m) → World → Prop) (Ix : Code → List (Fin m) → World → Prop) (hI : OwnFrom w.heap.size I) (hIx : ∀ c, OwnFrom w.heap.size (Ix c)) (h0 : I [] w) (a₁ : Fin m → Act)
    (hassign : ∀ (l : Nat) (x : Fin m) (W : World) (K : Act → World → Prop), K (a₁ x) W →
      assign.wpIn (Fence.wide.inRound l) (k - 1 - 1) Try.prog (Exit.then K (fun _ _ _ => False)) { tmps := (ps.zip #[chunkAt b off n x.1]).foldl (fun t (p, v) => t.setIfInBounds p v) a.tmps, defers := [] } W)
    (hbody : ∀ (l : Nat) (pre : List (Fin m)) (x : Fin m) (W : World), w.heap.size ≤ l → (∃ r, W.heap[l]? = some (.loop r)) → I pre W → pre.length < m → body.wpIn (Fence.wide.inRound l) (k - 1 - 1) Try.prog (ownPostG w.heap.size (Keep2 Bs Bn) I Ix (pre ++ [x]) W) (a₁ x) W)
    (hdone : ∀ (D : Nat) (W : World), w.heap.size ≤ D → I (List.finRange m) W → W.heap[D]? = some (.deferred (some [])) → Q .normal { a with defers := { target := .collected D, args := #[] } :: a.defers } W)
    (hstop : ∀ (D : Nat) (c : Code) (pre : List (Fin m)) (W : World), w.heap.size ≤ D → pre <+: List.finRange m → Ix c pre W → W.heap[D]? = some (.deferred (some [])) → c.wp Try.prog Q { a with defers := { target := .collected D, args := #[] } :: a.defers } W) :
    (Code.rangeFunc g ps assign body).wp Try.prog Q a w :=
  chunk_loopH hk hg b off c n m L ad hL hn hm ha hBs hc hBn hps I Ix hI hIx h0 (fun x a' _ => a' = a₁ x) (fun _ _ _ _ _ _ hs _ _ => hs)
    (fun l pre x W K hi hK => hassign l x W K (hK _ _ (KeepsFrom.refl _ _) (Keep2.refl _ _ _) hi rfl)) (fun l pre x a' W hl hr hi e hlen => by subst e; exact hbody l pre x W hl hr hi hlen) hdone hstop

theorem chunk_callB (a : Option Addr) (l c : Nat) (n : Int) (w : World) (hn : 1 ≤ n) :
    Calls Try.prog 58 #[.slice a l c, .int .i64 n] w fun e w' =>
      e = .returned (.func (.func 104) #[] #[.pointer (some ⟨w.heap.size, 0, none⟩), .pointer (some ⟨w.heap.size + 1, 0, none⟩)]) ∧ ChunkW w w' (.slice a l c) n ∧ Boxed w' w.heap.size 29 (.slice a l c) ∧ Boxed w' (w.heap.size + 1) 3 (.int .i64 n) := by
  refine (chunk_any a l c n w hn).mono ?_
  rintro e w' ⟨rfl, rfl⟩
  have h1 : Boxed ((w.alloc (.cells #[.slice a l c] 29)).alloc (.cells #[.int .i64 n] 3)) w.heap.size 29 (.slice a l c) := (Boxed.new w _ _).alloc _
  have h2 : Boxed ((w.alloc (.cells #[.slice a l c] 29)).alloc (.cells #[.int .i64 n] 3)) (w.heap.size + 1) 3 (.int .i64 n) := by
    have := Boxed.new (w.alloc (.cells #[.slice a l c] 29)) 3 (.int .i64 n)
    rwa [World.size_alloc] at this
  exact ⟨rfl, ⟨by simp, ((Below.refl _ w).alloc (Nat.le_refl _) _).alloc (by simp) _, h1.cell, h2.cell⟩, h1, h2⟩
end Go.Proofs.Ytnpfninkopffmaa
