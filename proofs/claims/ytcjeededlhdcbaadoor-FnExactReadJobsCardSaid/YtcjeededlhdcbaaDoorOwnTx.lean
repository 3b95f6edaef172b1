
/- Own slices of texts: their cells. Conditions: none. -/
import Derived.Test.YtcjeededlhdcbaaDoorStrs
import Derived.Test.YtcjeededlhdcbaaDoorGrownL
namespace Go.Proofs.YtcjeededlhdcbaaDoor
open Go.RowKit Go.Shelf Go.BigFrame
set_option linter.unusedVariables false
set_option linter.unusedSimpArgs false

/-- The texts L lie in block b. -/
def TxC (w : World) (b : Nat) (L : List ByteArray) : Prop := b < w.heap.size ∧ ∀ i, i < L.length → w.cell? ⟨b, i, none⟩ = some (.string (L.getD i ByteArray.empty))
theorem TxC.below {w w' : World} {b N : Nat} {L : List ByteArray} (h : TxC w b L) (hb : Below N w w') (hN : w.heap.size ≤ N) : TxC w' b L :=
  ⟨by have := hb.size; have := h.1; omega, fun i hi => (hb.cell (p := ⟨b, i, none⟩) (by show b < N; have := h.1; omega)).trans (h.2 i hi)⟩
theorem lt_of_heap {w : World} {g : Nat} {o : Obj} (h : w.heap[g]? = some o) : g < w.heap.size := by
  obtain ⟨h1, _⟩ := Array.getElem?_eq_some_iff.1 h
  exact h1
theorem OwnT.txc {w : World} {B : Nat} {v : Value} {L : List ByteArray} (h : OwnT w B v L) (h0 : 1 ≤ L.length) : ∃ g c, v = .slice (some ⟨g, 0, none⟩) L.length c ∧ L.length ≤ c ∧ TxC w g L := by
  rcases h.2 with ⟨_, h1⟩ | ⟨g, cap, cur, rfl, hg, hb, hc⟩
  · omega
  · refine ⟨g, cap, rfl, hc.1, lt_of_heap hb, fun i hi => ?_⟩
    have h4 := hc.2.2.2
    rw [Nat.mul_one] at h4
    have h5 := congrArg (fun x => x[i]?) h4
    simp only [List.getElem?_take, hi, if_true, List.getElem?_map, List.getElem?_eq_getElem hi, Option.map_some] at h5
    unfold World.cell?
    rw [hb, List.getD_eq_getElem?_getD, List.getElem?_eq_getElem hi]
    simpa using h5
end Go.Proofs.YtcjeededlhdcbaaDoor
