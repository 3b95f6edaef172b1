
/- The text of a list of numbers, by the program and by the reference. Conditions: at most 2^20 numbers; the library's table of powers of ten stands. -/
import Derived.Test.YtcjeededlhdcbaaDoorDec
import Derived.Test.YtcjeededlhdcbaaDoorTxtP
import Derived.Test.YtcjeededlhdcbaaDoorStrs
import Derived.Test.YtcjeededlhdcbaaDoorOwnTx
namespace Go.Proofs.YtcjeededlhdcbaaDoor
open Go.RowKit Go.Shelf Go.BigFrame
set_option linter.unusedVariables false
set_option linter.unusedSimpArgs false

end Go.Proofs.YtcjeededlhdcbaaDoor
