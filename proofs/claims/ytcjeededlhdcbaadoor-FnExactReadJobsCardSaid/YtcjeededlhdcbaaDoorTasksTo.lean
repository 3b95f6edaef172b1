
/- Tasks: the laws' toTask, toTaskS, eqTask, eqTaskS. Conditions: at most 2^20 numbers. -/
import Derived.Test.YtcjeededlhdcbaaDoorTasks
import Derived.Test.YtcjeededlhdcbaaDoorBlk
namespace Go.Proofs.YtcjeededlhdcbaaDoor
open Go.RowKit
set_option linter.unusedVariables false
set_option linter.unusedSimpArgs false

theorem OwnI.slR {w : World} {B : Nat} {v : Value} {xs : List Int} (h : OwnI w B v xs) (hw : ∀ n ∈ xs, (Lit.int .i64 n).wf = true) : SlR rInt w v xs := SlR.of_ints h.ints hw

end Go.Proofs.YtcjeededlhdcbaaDoor
