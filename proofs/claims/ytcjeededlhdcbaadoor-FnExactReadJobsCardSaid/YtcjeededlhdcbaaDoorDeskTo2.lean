
/- Desks: the laws' szDesk, toDesk. Conditions: at most 2^20 numbers. -/
import Derived.Test.YtcjeededlhdcbaaDoorDeskTo
namespace Go.Proofs.YtcjeededlhdcbaaDoor
open Go.RowKit
set_option linter.unusedVariables false
set_option linter.unusedSimpArgs false

end Go.Proofs.YtcjeededlhdcbaaDoor
