
/- slices.Clone of a slice of integers that is not empty. Conditions: at most 2^20 numbers. -/
import Derived.Test.YtmhepomjbaendaaDoorAppendFrom
namespace Go.Proofs.YtmhepomjbaendaaDoor
open Go.RowKit
set_option linter.unusedVariables false
set_option linter.unusedSimpArgs false

theorem sl_nil (p : Addr) (n c : Nat) (W : World) : (binOp .eql 56 (.slice (some p) n c) (.slice none 0 0)).run Tryd.prog W = .ok (.bool false) W := by kernel_rfl

end Go.Proofs.YtmhepomjbaendaaDoor
