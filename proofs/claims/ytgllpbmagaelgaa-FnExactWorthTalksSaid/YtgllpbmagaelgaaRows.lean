/-
  No cell of these rows narrows 'for every input' (looked for: loops, veiled, ifaces, maps, wideKeys, modest, calm, conditions, laid).
  DERIVED. THE GIVEN ROWS OF THIS SEAT. 12 by the template 'for every input the law returns true; each argument reads behind the call as it read before'; 0 by the template 'total and deterministic' (their statements: YtgllpbmagaelgaaTotals.lean).
  GIVEN WITH THE SEED: the statements are not yours to turn. If you find one false, say at which input.
  Laid BY PROGRAM, IN A SANDBOX (cutbox-rows.mjs): the forced cells as the released guide's own fill.sh prints them over the translation 27833296af029144… (all of the seat's roots in one cut). By AI agents, Wed Nov 11 2026. No macro, syntax, notation, axiom, sorry.
-/
import Derived.Test.YtgllpbmagaelgaaChecked
import GoSem.Claim
import GoSem.ClaimJoined
import GoSem.ClaimMapViews
import Derived.JoinedTies
import Derived.KernelRfl
namespace Go.Proofs.Ytgllpbmagaelgaa
/- THE CELL 'sum', in the pinned program and in every row, IS THE sha256 OF THE DUMP (.gsa) THAT YtgllpbmagaelgaaProg.lean LOADS. Nothing in Lean hashes anything: it is a label: what it is worth is what the hold of that sum in a sandbox is worth. -/
noncomputable def Try.pinned : Pinned := { name := "ytgllpbmagaelgaa", sum := "27833296af029144d89c4181202aeb94cdee093b6d38007a00d1d0a48d7a12b9", checked := Try.checked }
namespace Rows
def none {H : Type} : Left H := { results := [], args := [] }

/-- 'laws.FnExactNewDesk': WHATEVER THE INPUT: true; the input reads as it did. -/
def fnExactNewDeskSpec : ChangeSpec := { name := "fnExactNewDesk", fn := fun _ => fun
  | [] => { results := [.lit (.bool true)], args := [] }
  | _ => none }
def fnExactNewDeskRow : OpenClaim := { program := "ytgllpbmagaelgaa", sum := "27833296af029144d89c4181202aeb94cdee093b6d38007a00d1d0a48d7a12b9", func := "loop.example/g01389/laws.FnExactNewDesk", spec := "fnExactNewDesk", plainKeys := false, apart := false }
def FnExactNewDeskSaid : Prop := fnExactNewDeskRow.holds Try.pinned (OpenSpec.ofChange fnExactNewDeskSpec)

/-- ITS FALSE NEIGHBOUR: 'it returns false'. Refute it at one input. -/
def fnExactNewDeskWrong : ChangeSpec := { name := "fnExactNewDesk", fn := fun _ => fun
  | [] => { results := [.lit (.bool false)], args := [] }
  | _ => none }
def FnExactNewDeskWrongFalsely : Prop := fnExactNewDeskRow.holds Try.pinned (OpenSpec.ofChange fnExactNewDeskWrong)

/-- 'laws.FnExactFreeTime': WHATEVER THE INPUT: true; the input reads as it did. -/
def fnExactFreeTimeSpec : ChangeSpec := { name := "fnExactFreeTime", fn := fun _ => fun
  | [d1, d2, d3, d4] => { results := [.lit (.bool true)], args := [d1, d2, d3, d4] }
  | _ => none }
def fnExactFreeTimeRow : OpenClaim := { program := "ytgllpbmagaelgaa", sum := "27833296af029144d89c4181202aeb94cdee093b6d38007a00d1d0a48d7a12b9", func := "loop.example/g01389/laws.FnExactFreeTime", spec := "fnExactFreeTime", unfollowed := true, recurses := true, plainKeys := false, apart := false }
def FnExactFreeTimeSaid : Prop := fnExactFreeTimeRow.holds Try.pinned (OpenSpec.ofChange fnExactFreeTimeSpec)

/-- ITS FALSE NEIGHBOUR: 'it returns false'. Refute it at one input. -/
def fnExactFreeTimeWrong : ChangeSpec := { name := "fnExactFreeTime", fn := fun _ => fun
  | [d1, d2, d3, d4] => { results := [.lit (.bool false)], args := [d1, d2, d3, d4] }
  | _ => none }
def FnExactFreeTimeWrongFalsely : Prop := fnExactFreeTimeRow.holds Try.pinned (OpenSpec.ofChange fnExactFreeTimeWrong)

/-- 'laws.FnExactHomesOf': WHATEVER THE INPUT: true; the input reads as it did. -/
def fnExactHomesOfSpec : ChangeSpec := { name := "fnExactHomesOf", fn := fun _ => fun
  | [d1, d2] => { results := [.lit (.bool true)], args := [d1, d2] }
  | _ => none }
def fnExactHomesOfRow : OpenClaim := { program := "ytgllpbmagaelgaa", sum := "27833296af029144d89c4181202aeb94cdee093b6d38007a00d1d0a48d7a12b9", func := "loop.example/g01389/laws.FnExactHomesOf", spec := "fnExactHomesOf", unfollowed := true, recurses := true, plainKeys := false, apart := false }
def FnExactHomesOfSaid : Prop := fnExactHomesOfRow.holds Try.pinned (OpenSpec.ofChange fnExactHomesOfSpec)

/-- ITS FALSE NEIGHBOUR: 'it returns false'. Refute it at one input. -/
def fnExactHomesOfWrong : ChangeSpec := { name := "fnExactHomesOf", fn := fun _ => fun
  | [d1, d2] => { results := [.lit (.bool false)], args := [d1, d2] }
  | _ => none }
def FnExactHomesOfWrongFalsely : Prop := fnExactHomesOfRow.holds Try.pinned (OpenSpec.ofChange fnExactHomesOfWrong)

/-- 'laws.FnExactGreatClique': WHATEVER THE INPUT: true; the input reads as it did. -/
def fnExactGreatCliqueSpec : ChangeSpec := { name := "fnExactGreatClique", fn := fun _ => fun
  | [d1, d2] => { results := [.lit (.bool true)], args := [d1, d2] }
  | _ => none }
def fnExactGreatCliqueRow : OpenClaim := { program := "ytgllpbmagaelgaa", sum := "27833296af029144d89c4181202aeb94cdee093b6d38007a00d1d0a48d7a12b9", func := "loop.example/g01389/laws.FnExactGreatClique", spec := "fnExactGreatClique", unfollowed := true, recurses := true, plainKeys := false, apart := false }
def FnExactGreatCliqueSaid : Prop := fnExactGreatCliqueRow.holds Try.pinned (OpenSpec.ofChange fnExactGreatCliqueSpec)

/-- ITS FALSE NEIGHBOUR: 'it returns false'. Refute it at one input. -/
def fnExactGreatCliqueWrong : ChangeSpec := { name := "fnExactGreatClique", fn := fun _ => fun
  | [d1, d2] => { results := [.lit (.bool false)], args := [d1, d2] }
  | _ => none }
def FnExactGreatCliqueWrongFalsely : Prop := fnExactGreatCliqueRow.holds Try.pinned (OpenSpec.ofChange fnExactGreatCliqueWrong)

/-- 'laws.FnExactTripsOf': WHATEVER THE INPUT: true; the input reads as it did. -/
def fnExactTripsOfSpec : ChangeSpec := { name := "fnExactTripsOf", fn := fun _ => fun
  | [d1, d2, d3] => { results := [.lit (.bool true)], args := [d1, d2, d3] }
  | _ => none }
def fnExactTripsOfRow : OpenClaim := { program := "ytgllpbmagaelgaa", sum := "27833296af029144d89c4181202aeb94cdee093b6d38007a00d1d0a48d7a12b9", func := "loop.example/g01389/laws.FnExactTripsOf", spec := "fnExactTripsOf", unfollowed := true, recurses := true, plainKeys := false, apart := false }
def FnExactTripsOfSaid : Prop := fnExactTripsOfRow.holds Try.pinned (OpenSpec.ofChange fnExactTripsOfSpec)

/-- ITS FALSE NEIGHBOUR: 'it returns false'. Refute it at one input. -/
def fnExactTripsOfWrong : ChangeSpec := { name := "fnExactTripsOf", fn := fun _ => fun
  | [d1, d2, d3] => { results := [.lit (.bool false)], args := [d1, d2, d3] }
  | _ => none }
def FnExactTripsOfWrongFalsely : Prop := fnExactTripsOfRow.holds Try.pinned (OpenSpec.ofChange fnExactTripsOfWrong)

/-- 'laws.FnExactSameDesk': WHATEVER THE INPUT: true; the input reads as it did. -/
def fnExactSameDeskSpec : ChangeSpec := { name := "fnExactSameDesk", fn := fun _ => fun
  | [d1, d2] => { results := [.lit (.bool true)], args := [d1, d2] }
  | _ => none }
def fnExactSameDeskRow : OpenClaim := { program := "ytgllpbmagaelgaa", sum := "27833296af029144d89c4181202aeb94cdee093b6d38007a00d1d0a48d7a12b9", func := "loop.example/g01389/laws.FnExactSameDesk", spec := "fnExactSameDesk", plainKeys := false, apart := false }
def FnExactSameDeskSaid : Prop := fnExactSameDeskRow.holds Try.pinned (OpenSpec.ofChange fnExactSameDeskSpec)

/-- ITS FALSE NEIGHBOUR: 'it returns false'. Refute it at one input. -/
def fnExactSameDeskWrong : ChangeSpec := { name := "fnExactSameDesk", fn := fun _ => fun
  | [d1, d2] => { results := [.lit (.bool false)], args := [d1, d2] }
  | _ => none }
def FnExactSameDeskWrongFalsely : Prop := fnExactSameDeskRow.holds Try.pinned (OpenSpec.ofChange fnExactSameDeskWrong)

/-- 'laws.FnExactCountColours': WHATEVER THE INPUT: true; the input reads as it did. -/
def fnExactCountColoursSpec : ChangeSpec := { name := "fnExactCountColours", fn := fun _ => fun
  | [d1, d2, d3] => { results := [.lit (.bool true)], args := [d1, d2, d3] }
  | _ => none }
def fnExactCountColoursRow : OpenClaim := { program := "ytgllpbmagaelgaa", sum := "27833296af029144d89c4181202aeb94cdee093b6d38007a00d1d0a48d7a12b9", func := "loop.example/g01389/laws.FnExactCountColours", spec := "fnExactCountColours", unfollowed := true, recurses := true, plainKeys := false, apart := false }
def FnExactCountColoursSaid : Prop := fnExactCountColoursRow.holds Try.pinned (OpenSpec.ofChange fnExactCountColoursSpec)

/-- ITS FALSE NEIGHBOUR: 'it returns false'. Refute it at one input. -/
def fnExactCountColoursWrong : ChangeSpec := { name := "fnExactCountColours", fn := fun _ => fun
  | [d1, d2, d3] => { results := [.lit (.bool false)], args := [d1, d2, d3] }
  | _ => none }
def FnExactCountColoursWrongFalsely : Prop := fnExactCountColoursRow.holds Try.pinned (OpenSpec.ofChange fnExactCountColoursWrong)

/-- 'laws.FnExactValidSaved': WHATEVER THE INPUT: true; the input reads as it did. -/
def fnExactValidSavedSpec : ChangeSpec := { name := "fnExactValidSaved", fn := fun _ => fun
  | [d] => { results := [.lit (.bool true)], args := [d] }
  | _ => none }
def fnExactValidSavedRow : OpenClaim := { program := "ytgllpbmagaelgaa", sum := "27833296af029144d89c4181202aeb94cdee093b6d38007a00d1d0a48d7a12b9", func := "loop.example/g01389/laws.FnExactValidSaved", spec := "fnExactValidSaved", plainKeys := false, apart := false }
def FnExactValidSavedSaid : Prop := fnExactValidSavedRow.holds Try.pinned (OpenSpec.ofChange fnExactValidSavedSpec)

/-- ITS FALSE NEIGHBOUR: 'it returns false'. Refute it at one input. -/
def fnExactValidSavedWrong : ChangeSpec := { name := "fnExactValidSaved", fn := fun _ => fun
  | [d] => { results := [.lit (.bool false)], args := [d] }
  | _ => none }
def FnExactValidSavedWrongFalsely : Prop := fnExactValidSavedRow.holds Try.pinned (OpenSpec.ofChange fnExactValidSavedWrong)

/-- 'laws.FnExactWorthTalks': WHATEVER THE INPUT: true; the input reads as it did. -/
def fnExactWorthTalksSpec : ChangeSpec := { name := "fnExactWorthTalks", fn := fun _ => fun
  | [d1, d2] => { results := [.lit (.bool true)], args := [d1, d2] }
  | _ => none }
def fnExactWorthTalksRow : OpenClaim := { program := "ytgllpbmagaelgaa", sum := "27833296af029144d89c4181202aeb94cdee093b6d38007a00d1d0a48d7a12b9", func := "loop.example/g01389/laws.FnExactWorthTalks", spec := "fnExactWorthTalks", unfollowed := true, recurses := true, plainKeys := false, apart := false }
def FnExactWorthTalksSaid : Prop := fnExactWorthTalksRow.holds Try.pinned (OpenSpec.ofChange fnExactWorthTalksSpec)

/-- ITS FALSE NEIGHBOUR: 'it returns false'. Refute it at one input. -/
def fnExactWorthTalksWrong : ChangeSpec := { name := "fnExactWorthTalks", fn := fun _ => fun
  | [d1, d2] => { results := [.lit (.bool false)], args := [d1, d2] }
  | _ => none }
def FnExactWorthTalksWrongFalsely : Prop := fnExactWorthTalksRow.holds Try.pinned (OpenSpec.ofChange fnExactWorthTalksWrong)

/-- 'laws.FnExactSameSaved': WHATEVER THE INPUT: true; the input reads as it did. -/
def fnExactSameSavedSpec : ChangeSpec := { name := "fnExactSameSaved", fn := fun _ => fun
  | [d1, d2] => { results := [.lit (.bool true)], args := [d1, d2] }
  | _ => none }
def fnExactSameSavedRow : OpenClaim := { program := "ytgllpbmagaelgaa", sum := "27833296af029144d89c4181202aeb94cdee093b6d38007a00d1d0a48d7a12b9", func := "loop.example/g01389/laws.FnExactSameSaved", spec := "fnExactSameSaved", unfollowed := true, recurses := true, plainKeys := false, apart := false }
def FnExactSameSavedSaid : Prop := fnExactSameSavedRow.holds Try.pinned (OpenSpec.ofChange fnExactSameSavedSpec)

/-- ITS FALSE NEIGHBOUR: 'it returns false'. Refute it at one input. -/
def fnExactSameSavedWrong : ChangeSpec := { name := "fnExactSameSaved", fn := fun _ => fun
  | [d1, d2] => { results := [.lit (.bool false)], args := [d1, d2] }
  | _ => none }
def FnExactSameSavedWrongFalsely : Prop := fnExactSameSavedRow.holds Try.pinned (OpenSpec.ofChange fnExactSameSavedWrong)

/-- 'laws.FnExactValidDesk': WHATEVER THE INPUT: true; the input reads as it did. -/
def fnExactValidDeskSpec : ChangeSpec := { name := "fnExactValidDesk", fn := fun _ => fun
  | [d] => { results := [.lit (.bool true)], args := [d] }
  | _ => none }
def fnExactValidDeskRow : OpenClaim := { program := "ytgllpbmagaelgaa", sum := "27833296af029144d89c4181202aeb94cdee093b6d38007a00d1d0a48d7a12b9", func := "loop.example/g01389/laws.FnExactValidDesk", spec := "fnExactValidDesk", plainKeys := false, apart := false }
def FnExactValidDeskSaid : Prop := fnExactValidDeskRow.holds Try.pinned (OpenSpec.ofChange fnExactValidDeskSpec)

/-- ITS FALSE NEIGHBOUR: 'it returns false'. Refute it at one input. -/
def fnExactValidDeskWrong : ChangeSpec := { name := "fnExactValidDesk", fn := fun _ => fun
  | [d] => { results := [.lit (.bool false)], args := [d] }
  | _ => none }
def FnExactValidDeskWrongFalsely : Prop := fnExactValidDeskRow.holds Try.pinned (OpenSpec.ofChange fnExactValidDeskWrong)

/-- 'laws.FnExactColourBy': WHATEVER THE INPUT: true; the input reads as it did. -/
def fnExactColourBySpec : ChangeSpec := { name := "fnExactColourBy", fn := fun _ => fun
  | [d1, d2, d3] => { results := [.lit (.bool true)], args := [d1, d2, d3] }
  | _ => none }
def fnExactColourByRow : OpenClaim := { program := "ytgllpbmagaelgaa", sum := "27833296af029144d89c4181202aeb94cdee093b6d38007a00d1d0a48d7a12b9", func := "loop.example/g01389/laws.FnExactColourBy", spec := "fnExactColourBy", unfollowed := true, recurses := true, plainKeys := false, apart := false }
def FnExactColourBySaid : Prop := fnExactColourByRow.holds Try.pinned (OpenSpec.ofChange fnExactColourBySpec)

/-- ITS FALSE NEIGHBOUR: 'it returns false'. Refute it at one input. -/
def fnExactColourByWrong : ChangeSpec := { name := "fnExactColourBy", fn := fun _ => fun
  | [d1, d2, d3] => { results := [.lit (.bool false)], args := [d1, d2, d3] }
  | _ => none }
def FnExactColourByWrongFalsely : Prop := fnExactColourByRow.holds Try.pinned (OpenSpec.ofChange fnExactColourByWrong)

/- THE SECOND FORM. 'bulk': how many values and letters a reading holds, each counted each time it is reached (what is shared counts as often as it is met; a slice's spare places count too). A statement '..UptoSaid' is the law's where the arguments, and the package variables that the reading takes, are together of bulk at most 1048576: NARROWER than '..Said'. Prove '..Said' where nothing that the law and all that it calls make is longer than what came in: it says more and counts as full. Else prove '..UptoSaid'. A law counts once. -/
mutual
def uptoBulk {H : Type} : DataW H → Nat
  | .lit (.string bytes) => bytes.length + 1
  | .lit _ => 1
  | .nil => 1
  | .ptr d => uptoBulk d + 1
  | .slice elems spare => uptoBulkAll elems + uptoBulkAll spare + 1
  | .agg parts => uptoBulkAll parts + 1
  | .iface _ d => uptoBulk d + 1
  | .map entries => uptoBulkEntries entries + 1
  | .held _ => 1
def uptoBulkAll {H : Type} : List (DataW H) → Nat
  | [] => 0
  | d :: r => uptoBulk d + uptoBulkAll r
def uptoBulkEntries {H : Type} : List (Lit × DataW H) → Nat
  | [] => 0
  | x :: r => uptoBulkEntry x + uptoBulkEntries r
def uptoBulkEntry {H : Type} : Lit × DataW H → Nat
  | (.string bytes, d) => bytes.length + uptoBulk d + 1
  | (_, d) => uptoBulk d + 1
 end
def uptoSmall : (H : Type) → List (DataW H) → Bool := fun _ ds => decide (uptoBulkAll ds ≤ 1048576)
def OpenSpec.upto (s : _root_.Go.ChangeSpec) : _root_.Go.OpenSpec := { _root_.Go.OpenSpec.ofChange s with cond := some uptoSmall }

/-- 'laws.FnExactNewDesk', WHERE WHAT IT READS IS OF BULK AT MOST 1048576: true; the input reads as it did. -/
def fnExactNewDeskUptoRow : OpenClaim := { program := "ytgllpbmagaelgaa", sum := "27833296af029144d89c4181202aeb94cdee093b6d38007a00d1d0a48d7a12b9", func := "loop.example/g01389/laws.FnExactNewDesk", spec := "fnExactNewDesk", plainKeys := false, apart := false, narrowed := true }
def FnExactNewDeskUptoSaid : Prop := fnExactNewDeskUptoRow.holds Try.pinned (OpenSpec.upto fnExactNewDeskSpec)

/-- 'laws.FnExactFreeTime', WHERE WHAT IT READS IS OF BULK AT MOST 1048576: true; the input reads as it did. -/
def fnExactFreeTimeUptoRow : OpenClaim := { program := "ytgllpbmagaelgaa", sum := "27833296af029144d89c4181202aeb94cdee093b6d38007a00d1d0a48d7a12b9", func := "loop.example/g01389/laws.FnExactFreeTime", spec := "fnExactFreeTime", unfollowed := true, recurses := true, plainKeys := false, apart := false, narrowed := true }
def FnExactFreeTimeUptoSaid : Prop := fnExactFreeTimeUptoRow.holds Try.pinned (OpenSpec.upto fnExactFreeTimeSpec)

/-- 'laws.FnExactHomesOf', WHERE WHAT IT READS IS OF BULK AT MOST 1048576: true; the input reads as it did. -/
def fnExactHomesOfUptoRow : OpenClaim := { program := "ytgllpbmagaelgaa", sum := "27833296af029144d89c4181202aeb94cdee093b6d38007a00d1d0a48d7a12b9", func := "loop.example/g01389/laws.FnExactHomesOf", spec := "fnExactHomesOf", unfollowed := true, recurses := true, plainKeys := false, apart := false, narrowed := true }
def FnExactHomesOfUptoSaid : Prop := fnExactHomesOfUptoRow.holds Try.pinned (OpenSpec.upto fnExactHomesOfSpec)

/-- 'laws.FnExactGreatClique', WHERE WHAT IT READS IS OF BULK AT MOST 1048576: true; the input reads as it did. -/
def fnExactGreatCliqueUptoRow : OpenClaim := { program := "ytgllpbmagaelgaa", sum := "27833296af029144d89c4181202aeb94cdee093b6d38007a00d1d0a48d7a12b9", func := "loop.example/g01389/laws.FnExactGreatClique", spec := "fnExactGreatClique", unfollowed := true, recurses := true, plainKeys := false, apart := false, narrowed := true }
def FnExactGreatCliqueUptoSaid : Prop := fnExactGreatCliqueUptoRow.holds Try.pinned (OpenSpec.upto fnExactGreatCliqueSpec)

/-- 'laws.FnExactTripsOf', WHERE WHAT IT READS IS OF BULK AT MOST 1048576: true; the input reads as it did. -/
def fnExactTripsOfUptoRow : OpenClaim := { program := "ytgllpbmagaelgaa", sum := "27833296af029144d89c4181202aeb94cdee093b6d38007a00d1d0a48d7a12b9", func := "loop.example/g01389/laws.FnExactTripsOf", spec := "fnExactTripsOf", unfollowed := true, recurses := true, plainKeys := false, apart := false, narrowed := true }
def FnExactTripsOfUptoSaid : Prop := fnExactTripsOfUptoRow.holds Try.pinned (OpenSpec.upto fnExactTripsOfSpec)

/-- 'laws.FnExactSameDesk', WHERE WHAT IT READS IS OF BULK AT MOST 1048576: true; the input reads as it did. -/
def fnExactSameDeskUptoRow : OpenClaim := { program := "ytgllpbmagaelgaa", sum := "27833296af029144d89c4181202aeb94cdee093b6d38007a00d1d0a48d7a12b9", func := "loop.example/g01389/laws.FnExactSameDesk", spec := "fnExactSameDesk", plainKeys := false, apart := false, narrowed := true }
def FnExactSameDeskUptoSaid : Prop := fnExactSameDeskUptoRow.holds Try.pinned (OpenSpec.upto fnExactSameDeskSpec)

/-- 'laws.FnExactCountColours', WHERE WHAT IT READS IS OF BULK AT MOST 1048576: true; the input reads as it did. -/
def fnExactCountColoursUptoRow : OpenClaim := { program := "ytgllpbmagaelgaa", sum := "27833296af029144d89c4181202aeb94cdee093b6d38007a00d1d0a48d7a12b9", func := "loop.example/g01389/laws.FnExactCountColours", spec := "fnExactCountColours", unfollowed := true, recurses := true, plainKeys := false, apart := false, narrowed := true }
def FnExactCountColoursUptoSaid : Prop := fnExactCountColoursUptoRow.holds Try.pinned (OpenSpec.upto fnExactCountColoursSpec)

/-- 'laws.FnExactValidSaved', WHERE WHAT IT READS IS OF BULK AT MOST 1048576: true; the input reads as it did. -/
def fnExactValidSavedUptoRow : OpenClaim := { program := "ytgllpbmagaelgaa", sum := "27833296af029144d89c4181202aeb94cdee093b6d38007a00d1d0a48d7a12b9", func := "loop.example/g01389/laws.FnExactValidSaved", spec := "fnExactValidSaved", plainKeys := false, apart := false, narrowed := true }
def FnExactValidSavedUptoSaid : Prop := fnExactValidSavedUptoRow.holds Try.pinned (OpenSpec.upto fnExactValidSavedSpec)

/-- 'laws.FnExactWorthTalks', WHERE WHAT IT READS IS OF BULK AT MOST 1048576: true; the input reads as it did. -/
def fnExactWorthTalksUptoRow : OpenClaim := { program := "ytgllpbmagaelgaa", sum := "27833296af029144d89c4181202aeb94cdee093b6d38007a00d1d0a48d7a12b9", func := "loop.example/g01389/laws.FnExactWorthTalks", spec := "fnExactWorthTalks", unfollowed := true, recurses := true, plainKeys := false, apart := false, narrowed := true }
def FnExactWorthTalksUptoSaid : Prop := fnExactWorthTalksUptoRow.holds Try.pinned (OpenSpec.upto fnExactWorthTalksSpec)

/-- 'laws.FnExactSameSaved', WHERE WHAT IT READS IS OF BULK AT MOST 1048576: true; the input reads as it did. -/
def fnExactSameSavedUptoRow : OpenClaim := { program := "ytgllpbmagaelgaa", sum := "27833296af029144d89c4181202aeb94cdee093b6d38007a00d1d0a48d7a12b9", func := "loop.example/g01389/laws.FnExactSameSaved", spec := "fnExactSameSaved", unfollowed := true, recurses := true, plainKeys := false, apart := false, narrowed := true }
def FnExactSameSavedUptoSaid : Prop := fnExactSameSavedUptoRow.holds Try.pinned (OpenSpec.upto fnExactSameSavedSpec)

/-- 'laws.FnExactValidDesk', WHERE WHAT IT READS IS OF BULK AT MOST 1048576: true; the input reads as it did. -/
def fnExactValidDeskUptoRow : OpenClaim := { program := "ytgllpbmagaelgaa", sum := "27833296af029144d89c4181202aeb94cdee093b6d38007a00d1d0a48d7a12b9", func := "loop.example/g01389/laws.FnExactValidDesk", spec := "fnExactValidDesk", plainKeys := false, apart := false, narrowed := true }
def FnExactValidDeskUptoSaid : Prop := fnExactValidDeskUptoRow.holds Try.pinned (OpenSpec.upto fnExactValidDeskSpec)

/-- 'laws.FnExactColourBy', WHERE WHAT IT READS IS OF BULK AT MOST 1048576: true; the input reads as it did. -/
def fnExactColourByUptoRow : OpenClaim := { program := "ytgllpbmagaelgaa", sum := "27833296af029144d89c4181202aeb94cdee093b6d38007a00d1d0a48d7a12b9", func := "loop.example/g01389/laws.FnExactColourBy", spec := "fnExactColourBy", unfollowed := true, recurses := true, plainKeys := false, apart := false, narrowed := true }
def FnExactColourByUptoSaid : Prop := fnExactColourByUptoRow.holds Try.pinned (OpenSpec.upto fnExactColourBySpec)

end Rows
end Go.Proofs.Ytgllpbmagaelgaa
