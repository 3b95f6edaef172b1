
/- .. in loops over a function. Conditions: none. -/
import Derived.Test.YtcjeededlhdcbaaDoorOwnBox
import Derived.Test.YtcjeededlhdcbaaDoorGrownC
namespace Go.Proofs.YtcjeededlhdcbaaDoor
open Go.RowKit Go.Shelf
set_option linter.unusedVariables false
set_option linter.unusedSimpArgs false

theorem GrownL.keep2 {gs : List Nat} {A W : World} (h : GrownL gs A W) {Bs Bn : Nat} (h1 : Bs < A.heap.size) (h2 : Bn < A.heap.size) (n1 : Bs ∉ gs) (n2 : Bn ∉ gs) : Keep2 Bs Bn A W := ⟨h.block _ h1 n1, h.block _ h2 n2⟩
theorem GrownL.keepsFrom {gs : List Nat} {A W : World} (h : GrownL gs A W) {B : Nat} (hB : ∀ i, B ≤ i → i ∉ gs) : KeepsFrom B A W :=
  ⟨h.size, fun k o hk ho _ => (h.block k (Array.getElem?_eq_some_iff.1 ho).1 (hB k hk)).trans ho⟩
theorem ownFrom_grownL {β : Type} {B : Nat} {gs : List Nat} {A : World} (hA : A.heap.size ≤ B) : OwnFrom B (fun (_ : β) W => GrownL gs A W) :=
  fun s W W' row hs hg hr => hs.grown hg (fun j e => .inr (by have := (hr j e).1; omega))
theorem ownFrom_ownI {β : Type} {B N g n c : Nat} (f : β → List Int) : OwnFrom B (fun s W => OwnI W N (.slice (some ⟨g, 0, none⟩) n c) (f s)) := by
  intro s W W' row h2 hg hr
  refine h2.kept hg (.inr ?_)
  intro e
  obtain ⟨_, o, ho, hc⟩ := hr g e.symm
  obtain ⟨cur, hcur⟩ := h2.block
  rw [ho] at hcur
  cases hcur
  cases hc
end Go.Proofs.YtcjeededlhdcbaaDoor
