
/- A variable of a call's own, boxed, that holds a slice of integers of the call's own; slices.Chunk's two boxes told whole. Conditions: none. -/
import Derived.Test.YtcjeededlhdcbaaDoorAppend
import Derived.Test.YtcjeededlhdcbaaDoorChunk
import Derived.Test.YtcjeededlhdcbaaDoorGrownC
namespace Go.Proofs.YtcjeededlhdcbaaDoor
open Go.RowKit Go.Shelf
set_option linter.unusedVariables false
set_option linter.unusedSimpArgs false

/-- Box b holds a slice that owns its cells, and these are ys. -/
def OwnBox (W : World) (b N : Nat) (ys : List Int) : Prop := ∃ g c, Boxed W b 42 (.slice (some ⟨g, 0, none⟩) ys.length c) ∧ OwnI W N (.slice (some ⟨g, 0, none⟩) ys.length c) ys

theorem ownFrom_ownBox {β : Type} (B b N : Nat) (f : β → List Int) : OwnFrom B (fun s W => OwnBox W b N (f s)) := by
  rintro s W W' row ⟨g, c, h1, h2⟩ hg hr
  refine ⟨g, c, (ownFrom_boxed B b _ (fun (_ : β) => Value.slice (some ⟨g, 0, none⟩) (f s).length c)) s W W' row h1 hg hr, h2.kept hg (.inr ?_)⟩
  intro e
  obtain ⟨_, o, ho, hc⟩ := hr g e.symm
  obtain ⟨cur, hcur⟩ := h2.block
  rw [ho] at hcur
  cases hcur
  cases hc


theorem ownFrom_sz {β : Type} (B n : Nat) : OwnFrom B (fun (_ : β) W => n ≤ W.heap.size) := fun s W W' row hs hg hr => Nat.le_trans hs hg.size

end Go.Proofs.YtcjeededlhdcbaaDoor
