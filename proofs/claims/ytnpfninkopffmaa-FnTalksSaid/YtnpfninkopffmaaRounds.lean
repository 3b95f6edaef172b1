
/- AreRounds, program and reference: the contracts of both, by one plain function. Conditions: at most 2^20 numbers. -/
import Derived.Test.YtnpfninkopffmaaRoundsPlain
import Derived.Test.YtnpfninkopffmaaChunk
import Derived.Test.YtnpfninkopffmaaRoundAlloc
namespace Go.Proofs.Ytnpfninkopffmaa
open Go.RowKit Go.Shelf Go.BigFrame
set_option linter.unusedVariables false
set_option linter.unusedSimpArgs false
attribute [local go_sem] Oper.semAt_some

theorem ownFrom_keeps {β : Type} {B B0 : Nat} {A : World} (hA : A.heap.size ≤ B) : OwnFrom B (fun (_ : β) W => KeepsFrom B0 A W) :=
  fun s W W' row hs hg hr => ⟨Nat.le_trans hs.size hg.size, fun k o hB hk ho => (hg.block k (Array.getElem?_eq_some_iff.1 (hs.same k o hB hk ho)).1 (fun e => by have := (hr k e.symm).1; have := (Array.getElem?_eq_some_iff.1 hk).1; omega)).trans (hs.same k o hB hk ho)⟩
theorem ownFrom_keep2 {β : Type} {B Bs Bn : Nat} {A : World} (h1 : Bs < B) (h2 : Bn < B) (hA1 : Bs < A.heap.size) (hA2 : Bn < A.heap.size) : OwnFrom B (fun (_ : β) W => Keep2 Bs Bn A W) :=
  fun s W W' row hs hg hr => by
    have k1 : Bs < W.heap.size := (Array.getElem?_eq_some_iff.1 (hs.s.trans (Array.getElem?_eq_getElem hA1))).1
    have k2 : Bn < W.heap.size := (Array.getElem?_eq_some_iff.1 (hs.n.trans (Array.getElem?_eq_getElem hA2))).1
    exact hs.grown hg k1 k2 (fun e => by have := (hr _ e.symm).1; omega) (fun e => by have := (hr _ e.symm).1; omega)

end Go.Proofs.Ytnpfninkopffmaa
