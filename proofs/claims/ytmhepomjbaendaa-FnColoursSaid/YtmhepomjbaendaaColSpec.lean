
/- ColourBy, the reference: its contract. Conditions: at most 2^20 numbers. -/
import Derived.Test.YtmhepomjbaendaaColPlain
namespace Go.Proofs.Ytmhepomjbaendaa
open Go.RowKit Go.BigFrame
set_option linter.unusedVariables false
set_option linter.unusedSimpArgs false
attribute [local go_sem] Oper.semAt_some

theorem reps_succ (k : Nat) : List.replicate (k + 1) (-1 : Int) = List.replicate k (-1) ++ [-1] := by rw [List.replicate_succ', ]

end Go.Proofs.Ytmhepomjbaendaa
