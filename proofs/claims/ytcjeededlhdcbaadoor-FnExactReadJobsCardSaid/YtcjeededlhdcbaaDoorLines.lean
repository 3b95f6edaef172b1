
/- The lines of a text, by the program and by the reference. Conditions: texts of at most 2^20 bytes. -/
import Derived.Test.YtcjeededlhdcbaaDoorCut
import Derived.Test.YtcjeededlhdcbaaDoorClone
import Derived.Test.YtcjeededlhdcbaaDoorShelf
import Derived.Test.YtcjeededlhdcbaaDoorOwnTx
import Derived.Lib.SplitLaws
namespace Go.Proofs.YtcjeededlhdcbaaDoor
open Go.RowKit Go.Shelf Go.BigFrame
set_option linter.unusedVariables false
set_option linter.unusedSimpArgs false

theorem cutB_length (m : UInt8) (s : ByteArray) : (cutB m s).length = Go.Lib.countB s ⟨#[m]⟩ + 1 := Go.Lib.splitB_all ⟨#[m]⟩ (Nat.le_refl 1) 0 _ s rfl

def lineN (s : ByteArray) : Nat := (cutB 10 s).length - 1
def lastB (s : ByteArray) : ByteArray := (cutB 10 s).getD (lineN s) ByteArray.empty
def linesOk (s : ByteArray) : Bool := decide (s.size ≤ 16000) && (lastB s).toList.isEmpty

end Go.Proofs.YtcjeededlhdcbaaDoor
