/-
  No cell of these rows narrows 'for every input' (looked for: loops, veiled, ifaces, maps, wideKeys, modest, calm, conditions, laid).
  DERIVED. THE GIVEN ROWS OF THIS SEAT. 7 by the template 'for every input the law returns true; each argument reads behind the call as it read before'; 0 by the template 'total and deterministic' (their statements: YtmhepomjbaendaaTotals.lean).
  GIVEN WITH THE SEED: the statements are not yours to turn. If you find one false, say at which input.
  Laid BY PROGRAM, IN A SANDBOX (cutbox-rows.mjs): the forced cells as the released guide's own fill.sh prints them over the translation 55b23f1aae9fbcfe… (all of the seat's roots in one cut). By AI agents, Wed Nov 11 2026. No macro, syntax, notation, axiom, sorry.
-/
import Derived.Test.YtmhepomjbaendaaChecked
import GoSem.Claim
import GoSem.ClaimJoined
import GoSem.ClaimMapViews
import Derived.JoinedTies
import Derived.KernelRfl
namespace Go.Proofs.Ytmhepomjbaendaa
/- THE CELL 'sum', in the pinned program and in every row, IS THE sha256 OF THE DUMP (.gsa) THAT YtmhepomjbaendaaProg.lean LOADS. Nothing in Lean hashes anything: it is a label: what it is worth is what the hold of that sum in a sandbox is worth. -/
noncomputable def Try.pinned : Pinned := { name := "ytmhepomjbaendaa", sum := "55b23f1aae9fbcfe3982e77d5d623c1eb332c8b839ffd1b3b9b7855910d94599", checked := Try.checked }
namespace Rows
def none {H : Type} : Left H := { results := [], args := [] }

/-- 'laws.FnRounds': WHATEVER THE INPUT: true; the input reads as it did. -/
def fnRoundsSpec : ChangeSpec := { name := "fnRounds", fn := fun _ => fun
  | [d1, d2] => { results := [.lit (.bool true)], args := [d1, d2] }
  | _ => none }
def fnRoundsRow : OpenClaim := { program := "ytmhepomjbaendaa", sum := "55b23f1aae9fbcfe3982e77d5d623c1eb332c8b839ffd1b3b9b7855910d94599", func := "loop.example/g01389/laws.FnRounds", spec := "fnRounds", unfollowed := true, recurses := true, plainKeys := false, apart := false }
def FnRoundsSaid : Prop := fnRoundsRow.holds Try.pinned (OpenSpec.ofChange fnRoundsSpec)

/-- ITS FALSE NEIGHBOUR: 'it returns false'. Refute it at one input. -/
def fnRoundsWrong : ChangeSpec := { name := "fnRounds", fn := fun _ => fun
  | [d1, d2] => { results := [.lit (.bool false)], args := [d1, d2] }
  | _ => none }
def FnRoundsWrongFalsely : Prop := fnRoundsRow.holds Try.pinned (OpenSpec.ofChange fnRoundsWrong)

/-- 'laws.FnStoredOfAll': WHATEVER THE INPUT: true; the input reads as it did. -/
def fnStoredOfAllSpec : ChangeSpec := { name := "fnStoredOfAll", fn := fun _ => fun
  | [d1, d2, d3] => { results := [.lit (.bool true)], args := [d1, d2, d3] }
  | _ => none }
def fnStoredOfAllRow : OpenClaim := { program := "ytmhepomjbaendaa", sum := "55b23f1aae9fbcfe3982e77d5d623c1eb332c8b839ffd1b3b9b7855910d94599", func := "loop.example/g01389/laws.FnStoredOfAll", spec := "fnStoredOfAll", inPlace := ["internal/abi.NoEscape", "internal/bytealg.MakeNoZero"], plainKeys := false, apart := false }
def FnStoredOfAllSaid : Prop := fnStoredOfAllRow.holds Try.pinned (OpenSpec.ofChange fnStoredOfAllSpec)

/-- ITS FALSE NEIGHBOUR: 'it returns false'. Refute it at one input. -/
def fnStoredOfAllWrong : ChangeSpec := { name := "fnStoredOfAll", fn := fun _ => fun
  | [d1, d2, d3] => { results := [.lit (.bool false)], args := [d1, d2, d3] }
  | _ => none }
def FnStoredOfAllWrongFalsely : Prop := fnStoredOfAllRow.holds Try.pinned (OpenSpec.ofChange fnStoredOfAllWrong)

/-- 'laws.FnSavedPlans': WHATEVER THE INPUT: true; the input reads as it did. -/
def fnSavedPlansSpec : ChangeSpec := { name := "fnSavedPlans", fn := fun _ => fun
  | [d1, d2] => { results := [.lit (.bool true)], args := [d1, d2] }
  | _ => none }
def fnSavedPlansRow : OpenClaim := { program := "ytmhepomjbaendaa", sum := "55b23f1aae9fbcfe3982e77d5d623c1eb332c8b839ffd1b3b9b7855910d94599", func := "loop.example/g01389/laws.FnSavedPlans", spec := "fnSavedPlans", inPlace := ["internal/abi.NoEscape", "internal/bytealg.MakeNoZero"], unfollowed := true, recurses := true, plainKeys := false, apart := false }
def FnSavedPlansSaid : Prop := fnSavedPlansRow.holds Try.pinned (OpenSpec.ofChange fnSavedPlansSpec)

/-- ITS FALSE NEIGHBOUR: 'it returns false'. Refute it at one input. -/
def fnSavedPlansWrong : ChangeSpec := { name := "fnSavedPlans", fn := fun _ => fun
  | [d1, d2] => { results := [.lit (.bool false)], args := [d1, d2] }
  | _ => none }
def FnSavedPlansWrongFalsely : Prop := fnSavedPlansRow.holds Try.pinned (OpenSpec.ofChange fnSavedPlansWrong)

/-- 'laws.FnColours': WHATEVER THE INPUT: true; the input reads as it did. -/
def fnColoursSpec : ChangeSpec := { name := "fnColours", fn := fun _ => fun
  | [d1, d2] => { results := [.lit (.bool true)], args := [d1, d2] }
  | _ => none }
def fnColoursRow : OpenClaim := { program := "ytmhepomjbaendaa", sum := "55b23f1aae9fbcfe3982e77d5d623c1eb332c8b839ffd1b3b9b7855910d94599", func := "loop.example/g01389/laws.FnColours", spec := "fnColours", unfollowed := true, recurses := true, plainKeys := false, apart := false }
def FnColoursSaid : Prop := fnColoursRow.holds Try.pinned (OpenSpec.ofChange fnColoursSpec)

/-- ITS FALSE NEIGHBOUR: 'it returns false'. Refute it at one input. -/
def fnColoursWrong : ChangeSpec := { name := "fnColours", fn := fun _ => fun
  | [d1, d2] => { results := [.lit (.bool false)], args := [d1, d2] }
  | _ => none }
def FnColoursWrongFalsely : Prop := fnColoursRow.holds Try.pinned (OpenSpec.ofChange fnColoursWrong)

/-- 'laws.FnExactLoadSaved': WHATEVER THE INPUT: true; the input reads as it did. -/
def fnExactLoadSavedSpec : ChangeSpec := { name := "fnExactLoadSaved", fn := fun _ => fun
  | [d] => { results := [.lit (.bool true)], args := [d] }
  | _ => none }
def fnExactLoadSavedRow : OpenClaim := { program := "ytmhepomjbaendaa", sum := "55b23f1aae9fbcfe3982e77d5d623c1eb332c8b839ffd1b3b9b7855910d94599", func := "loop.example/g01389/laws.FnExactLoadSaved", spec := "fnExactLoadSaved", inPlace := ["internal/abi.NoEscape", "internal/bytealg.MakeNoZero"], plainKeys := false, apart := false }
def FnExactLoadSavedSaid : Prop := fnExactLoadSavedRow.holds Try.pinned (OpenSpec.ofChange fnExactLoadSavedSpec)

/-- ITS FALSE NEIGHBOUR: 'it returns false'. Refute it at one input. -/
def fnExactLoadSavedWrong : ChangeSpec := { name := "fnExactLoadSaved", fn := fun _ => fun
  | [d] => { results := [.lit (.bool false)], args := [d] }
  | _ => none }
def FnExactLoadSavedWrongFalsely : Prop := fnExactLoadSavedRow.holds Try.pinned (OpenSpec.ofChange fnExactLoadSavedWrong)

/-- 'laws.FnExactRecoverAll': WHATEVER THE INPUT: true; the input reads as it did. -/
def fnExactRecoverAllSpec : ChangeSpec := { name := "fnExactRecoverAll", fn := fun _ => fun
  | [d] => { results := [.lit (.bool true)], args := [d] }
  | _ => none }
def fnExactRecoverAllRow : OpenClaim := { program := "ytmhepomjbaendaa", sum := "55b23f1aae9fbcfe3982e77d5d623c1eb332c8b839ffd1b3b9b7855910d94599", func := "loop.example/g01389/laws.FnExactRecoverAll", spec := "fnExactRecoverAll", inPlace := ["internal/abi.NoEscape", "internal/bytealg.MakeNoZero"], plainKeys := false, apart := false }
def FnExactRecoverAllSaid : Prop := fnExactRecoverAllRow.holds Try.pinned (OpenSpec.ofChange fnExactRecoverAllSpec)

/-- ITS FALSE NEIGHBOUR: 'it returns false'. Refute it at one input. -/
def fnExactRecoverAllWrong : ChangeSpec := { name := "fnExactRecoverAll", fn := fun _ => fun
  | [d] => { results := [.lit (.bool false)], args := [d] }
  | _ => none }
def FnExactRecoverAllWrongFalsely : Prop := fnExactRecoverAllRow.holds Try.pinned (OpenSpec.ofChange fnExactRecoverAllWrong)

/-- 'laws.FnExactFreeTime': WHATEVER THE INPUT: true; the input reads as it did. -/
def fnExactFreeTimeSpec : ChangeSpec := { name := "fnExactFreeTime", fn := fun _ => fun
  | [d1, d2, d3, d4] => { results := [.lit (.bool true)], args := [d1, d2, d3, d4] }
  | _ => none }
def fnExactFreeTimeRow : OpenClaim := { program := "ytmhepomjbaendaa", sum := "55b23f1aae9fbcfe3982e77d5d623c1eb332c8b839ffd1b3b9b7855910d94599", func := "loop.example/g01389/laws.FnExactFreeTime", spec := "fnExactFreeTime", unfollowed := true, recurses := true, plainKeys := false, apart := false }
def FnExactFreeTimeSaid : Prop := fnExactFreeTimeRow.holds Try.pinned (OpenSpec.ofChange fnExactFreeTimeSpec)

/-- ITS FALSE NEIGHBOUR: 'it returns false'. Refute it at one input. -/
def fnExactFreeTimeWrong : ChangeSpec := { name := "fnExactFreeTime", fn := fun _ => fun
  | [d1, d2, d3, d4] => { results := [.lit (.bool false)], args := [d1, d2, d3, d4] }
  | _ => none }
def FnExactFreeTimeWrongFalsely : Prop := fnExactFreeTimeRow.holds Try.pinned (OpenSpec.ofChange fnExactFreeTimeWrong)

/- THE SECOND FORM. 'bulk': how many values and letters a reading holds, each counted each time it is reached (what is shared counts as often as it is met; a slice's spare places count too). A statement '..UptoSaid' is the law's where the arguments, and the package variables that the reading takes, are together of bulk at most 1048576: NARROWER than '..Said'. Prove '..Said' where nothing that the law and all that it calls make is longer than what came in: it says more and counts as full. Else prove '..UptoSaid'. A law counts once. -/
mutual
def uptoBulk {H : Type} : DataW H → Nat
  | .lit (.string bytes) => bytes.length + 1
  | .lit _ => 1
  | .nil => 1
  | .ptr d => uptoBulk d + 1
  | .slice elems spare => uptoBulkAll elems + uptoBulkAll spare + 1
  | .agg parts => uptoBulkAll parts + 1
  | .iface _ d => uptoBulk d + 1
  | .map entries => uptoBulkEntries entries + 1
  | .held _ => 1
def uptoBulkAll {H : Type} : List (DataW H) → Nat
  | [] => 0
  | d :: r => uptoBulk d + uptoBulkAll r
def uptoBulkEntries {H : Type} : List (Lit × DataW H) → Nat
  | [] => 0
  | x :: r => uptoBulkEntry x + uptoBulkEntries r
def uptoBulkEntry {H : Type} : Lit × DataW H → Nat
  | (.string bytes, d) => bytes.length + uptoBulk d + 1
  | (_, d) => uptoBulk d + 1
 end
def uptoSmall : (H : Type) → List (DataW H) → Bool := fun _ ds => decide (uptoBulkAll ds ≤ 1048576)
def OpenSpec.upto (s : _root_.Go.ChangeSpec) : _root_.Go.OpenSpec := { _root_.Go.OpenSpec.ofChange s with cond := some uptoSmall }

/-- 'laws.FnRounds', WHERE WHAT IT READS IS OF BULK AT MOST 1048576: true; the input reads as it did. -/
def fnRoundsUptoRow : OpenClaim := { program := "ytmhepomjbaendaa", sum := "55b23f1aae9fbcfe3982e77d5d623c1eb332c8b839ffd1b3b9b7855910d94599", func := "loop.example/g01389/laws.FnRounds", spec := "fnRounds", unfollowed := true, recurses := true, plainKeys := false, apart := false, narrowed := true }
def FnRoundsUptoSaid : Prop := fnRoundsUptoRow.holds Try.pinned (OpenSpec.upto fnRoundsSpec)

/-- 'laws.FnStoredOfAll', WHERE WHAT IT READS IS OF BULK AT MOST 1048576: true; the input reads as it did. -/
def fnStoredOfAllUptoRow : OpenClaim := { program := "ytmhepomjbaendaa", sum := "55b23f1aae9fbcfe3982e77d5d623c1eb332c8b839ffd1b3b9b7855910d94599", func := "loop.example/g01389/laws.FnStoredOfAll", spec := "fnStoredOfAll", inPlace := ["internal/abi.NoEscape", "internal/bytealg.MakeNoZero"], plainKeys := false, apart := false, narrowed := true }
def FnStoredOfAllUptoSaid : Prop := fnStoredOfAllUptoRow.holds Try.pinned (OpenSpec.upto fnStoredOfAllSpec)

/-- 'laws.FnSavedPlans', WHERE WHAT IT READS IS OF BULK AT MOST 1048576: true; the input reads as it did. -/
def fnSavedPlansUptoRow : OpenClaim := { program := "ytmhepomjbaendaa", sum := "55b23f1aae9fbcfe3982e77d5d623c1eb332c8b839ffd1b3b9b7855910d94599", func := "loop.example/g01389/laws.FnSavedPlans", spec := "fnSavedPlans", inPlace := ["internal/abi.NoEscape", "internal/bytealg.MakeNoZero"], unfollowed := true, recurses := true, plainKeys := false, apart := false, narrowed := true }
def FnSavedPlansUptoSaid : Prop := fnSavedPlansUptoRow.holds Try.pinned (OpenSpec.upto fnSavedPlansSpec)

/-- 'laws.FnColours', WHERE WHAT IT READS IS OF BULK AT MOST 1048576: true; the input reads as it did. -/
def fnColoursUptoRow : OpenClaim := { program := "ytmhepomjbaendaa", sum := "55b23f1aae9fbcfe3982e77d5d623c1eb332c8b839ffd1b3b9b7855910d94599", func := "loop.example/g01389/laws.FnColours", spec := "fnColours", unfollowed := true, recurses := true, plainKeys := false, apart := false, narrowed := true }
def FnColoursUptoSaid : Prop := fnColoursUptoRow.holds Try.pinned (OpenSpec.upto fnColoursSpec)

/-- 'laws.FnExactLoadSaved', WHERE WHAT IT READS IS OF BULK AT MOST 1048576: true; the input reads as it did. -/
def fnExactLoadSavedUptoRow : OpenClaim := { program := "ytmhepomjbaendaa", sum := "55b23f1aae9fbcfe3982e77d5d623c1eb332c8b839ffd1b3b9b7855910d94599", func := "loop.example/g01389/laws.FnExactLoadSaved", spec := "fnExactLoadSaved", inPlace := ["internal/abi.NoEscape", "internal/bytealg.MakeNoZero"], plainKeys := false, apart := false, narrowed := true }
def FnExactLoadSavedUptoSaid : Prop := fnExactLoadSavedUptoRow.holds Try.pinned (OpenSpec.upto fnExactLoadSavedSpec)

/-- 'laws.FnExactRecoverAll', WHERE WHAT IT READS IS OF BULK AT MOST 1048576: true; the input reads as it did. -/
def fnExactRecoverAllUptoRow : OpenClaim := { program := "ytmhepomjbaendaa", sum := "55b23f1aae9fbcfe3982e77d5d623c1eb332c8b839ffd1b3b9b7855910d94599", func := "loop.example/g01389/laws.FnExactRecoverAll", spec := "fnExactRecoverAll", inPlace := ["internal/abi.NoEscape", "internal/bytealg.MakeNoZero"], plainKeys := false, apart := false, narrowed := true }
def FnExactRecoverAllUptoSaid : Prop := fnExactRecoverAllUptoRow.holds Try.pinned (OpenSpec.upto fnExactRecoverAllSpec)

/-- 'laws.FnExactFreeTime', WHERE WHAT IT READS IS OF BULK AT MOST 1048576: true; the input reads as it did. -/
def fnExactFreeTimeUptoRow : OpenClaim := { program := "ytmhepomjbaendaa", sum := "55b23f1aae9fbcfe3982e77d5d623c1eb332c8b839ffd1b3b9b7855910d94599", func := "loop.example/g01389/laws.FnExactFreeTime", spec := "fnExactFreeTime", unfollowed := true, recurses := true, plainKeys := false, apart := false, narrowed := true }
def FnExactFreeTimeUptoSaid : Prop := fnExactFreeTimeUptoRow.holds Try.pinned (OpenSpec.upto fnExactFreeTimeSpec)

end Rows
end Go.Proofs.Ytmhepomjbaendaa
