
/- The package variables that a card lays: the table of powers of ten, the two errors of the library. Conditions: what the card lays. -/
import Derived.Test.YtcjeededlhdcbaaDoorRdI
import Derived.LaidLaws
import Derived.LaidHandle
import Derived.Stop.LaidErr
import Derived.MakeChecks
namespace Go.Proofs.YtcjeededlhdcbaaDoor
open Go.RowKit Go.Shelf Go.BigFrame
set_option linter.unusedVariables false
set_option linter.unusedSimpArgs false

theorem err_head {W : World} {name nm : String} {d : DataW Unit} {rest : List (String × DataW Unit)} {g : Nat} {t : TypeId} {ms : Array (String × TypeId)}
    (hg : Tryd.prog.globalNamed name = some g) (hty : (Tryd.prog.globals[g]?).map (·.type) = some t) (hi : Tryd.prog.underlying t = some (.interface ms)) (h : laidMet Tryd.prog ((name, .iface nm d) :: rest) W) : ∃ tp p, W.cell? ⟨g, 0, none⟩ = some (.iface tp p) := by
  obtain ⟨ps, ⟨g', t', cs, fuel, p, q, hg', ht', hvar, hd, _, _⟩, _⟩ := h
  obtain rfl := Option.some.inj (hg.symm.trans hg')
  obtain rfl := Option.some.inj (hty.symm.trans ht')
  obtain ⟨f', u, v, hcs, _, _⟩ := iface_of_trod hi hd
  have h1 := World.var?_cell hg hvar 0
  have h2 : cs[0]? = some (.iface u v) := by
    have := congrArg (fun l => l[0]?) hcs
    simpa using this
  exact ⟨u, v, h1.trans h2⟩
set_option maxRecDepth 100000 in
theorem laid_facts {L : List (String × DataW Unit)} {w : World} {a b c : String × DataW Unit} {n1 n2 m1 m2 : String} {d1 d2 : DataW Unit} {rest : List (String × DataW Unit)} (hp : (L.all fun x => x.2.handleName?.isNone) = true) (hd : L = a :: b :: (p10, Lib.tabData .u64 Lib.pow10Tab) :: c :: (n1, .iface m1 d1) :: (n2, .iface m2 d2) :: rest)
    (h1 : Tryd.prog.globalNamed n1 = some 4) (h2 : Tryd.prog.globalNamed n2 = some 3) (hL : laidMetH Tryd.prog L w) : Tab10 w ∧ ErrW w := by
  rw [MakeChecks.laidMetH_plain _ _ _ hp] at hL
  subst hd
  have h3 := hL.tail.tail
  have h4 := h3.tail.tail
  have h5 := h4.tail
  refine ⟨Lib.tabIs_of_head (rest := c :: (n1, .iface m1 d1) :: (n2, .iface m2 d2) :: rest) (g := 5) (t := 155) (e := 90) (by kernel_rfl) (by kernel_rfl) Tryd.underlying155 Tryd.underlying90 (by kernel_rfl) (by kernel_rfl) h3, ?_, ?_⟩
  · exact err_head h2 (by kernel_rfl) Tryd.underlying112 h5
  · exact err_head h1 (by kernel_rfl) Tryd.underlying112 h4
end Go.Proofs.YtcjeededlhdcbaaDoor
