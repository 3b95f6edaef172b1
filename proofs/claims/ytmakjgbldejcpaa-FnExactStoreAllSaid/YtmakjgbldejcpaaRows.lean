/-
  No cell of these rows narrows 'for every input' (looked for: loops, veiled, ifaces, maps, wideKeys, modest, calm, conditions, laid).
  DERIVED. THE GIVEN ROWS OF THIS SEAT. 12 by the template 'for every input the law returns true; each argument reads behind the call as it read before'; 0 by the template 'total and deterministic' (their statements: YtmakjgbldejcpaaTotals.lean).
  GIVEN WITH THE SEED: the statements are not yours to turn. If you find one false, say at which input.
  Laid BY PROGRAM, IN A SANDBOX (cutbox-rows.mjs): the forced cells as the released guide's own fill.sh prints them over the translation acd0a8fcb3c1c416… (all of the seat's roots in one cut). By AI agents, Wed Nov 11 2026. No macro, syntax, notation, axiom, sorry.
-/
import Derived.Test.YtmakjgbldejcpaaChecked
import GoSem.Claim
import GoSem.ClaimJoined
import GoSem.ClaimMapViews
import Derived.JoinedTies
import Derived.KernelRfl
namespace Go.Proofs.Ytmakjgbldejcpaa
/- THE CELL 'sum', in the pinned program and in every row, IS THE sha256 OF THE DUMP (.gsa) THAT YtmakjgbldejcpaaProg.lean LOADS. Nothing in Lean hashes anything: it is a label: what it is worth is what the hold of that sum in a sandbox is worth. -/
noncomputable def Try.pinned : Pinned := { name := "ytmakjgbldejcpaa", sum := "acd0a8fcb3c1c416094b27336e5f5c9e7b04adead793e33963ba388eac227502", checked := Try.checked }
namespace Rows
def none {H : Type} : Left H := { results := [], args := [] }

/-- 'laws.FnExactFreeTime': WHATEVER THE INPUT: true; the input reads as it did. -/
def fnExactFreeTimeSpec : ChangeSpec := { name := "fnExactFreeTime", fn := fun _ => fun
  | [d1, d2, d3, d4] => { results := [.lit (.bool true)], args := [d1, d2, d3, d4] }
  | _ => none }
def fnExactFreeTimeRow : OpenClaim := { program := "ytmakjgbldejcpaa", sum := "acd0a8fcb3c1c416094b27336e5f5c9e7b04adead793e33963ba388eac227502", func := "loop.example/g01389/laws.FnExactFreeTime", spec := "fnExactFreeTime", unfollowed := true, recurses := true, plainKeys := false, apart := false }
def FnExactFreeTimeSaid : Prop := fnExactFreeTimeRow.holds Try.pinned (OpenSpec.ofChange fnExactFreeTimeSpec)

/-- ITS FALSE NEIGHBOUR: 'it returns false'. Refute it at one input. -/
def fnExactFreeTimeWrong : ChangeSpec := { name := "fnExactFreeTime", fn := fun _ => fun
  | [d1, d2, d3, d4] => { results := [.lit (.bool false)], args := [d1, d2, d3, d4] }
  | _ => none }
def FnExactFreeTimeWrongFalsely : Prop := fnExactFreeTimeRow.holds Try.pinned (OpenSpec.ofChange fnExactFreeTimeWrong)

/-- 'laws.FnExactSameDesk': WHATEVER THE INPUT: true; the input reads as it did. -/
def fnExactSameDeskSpec : ChangeSpec := { name := "fnExactSameDesk", fn := fun _ => fun
  | [d1, d2] => { results := [.lit (.bool true)], args := [d1, d2] }
  | _ => none }
def fnExactSameDeskRow : OpenClaim := { program := "ytmakjgbldejcpaa", sum := "acd0a8fcb3c1c416094b27336e5f5c9e7b04adead793e33963ba388eac227502", func := "loop.example/g01389/laws.FnExactSameDesk", spec := "fnExactSameDesk", plainKeys := false, apart := false }
def FnExactSameDeskSaid : Prop := fnExactSameDeskRow.holds Try.pinned (OpenSpec.ofChange fnExactSameDeskSpec)

/-- ITS FALSE NEIGHBOUR: 'it returns false'. Refute it at one input. -/
def fnExactSameDeskWrong : ChangeSpec := { name := "fnExactSameDesk", fn := fun _ => fun
  | [d1, d2] => { results := [.lit (.bool false)], args := [d1, d2] }
  | _ => none }
def FnExactSameDeskWrongFalsely : Prop := fnExactSameDeskRow.holds Try.pinned (OpenSpec.ofChange fnExactSameDeskWrong)

/-- 'laws.FnExactValidSaved': WHATEVER THE INPUT: true; the input reads as it did. -/
def fnExactValidSavedSpec : ChangeSpec := { name := "fnExactValidSaved", fn := fun _ => fun
  | [d] => { results := [.lit (.bool true)], args := [d] }
  | _ => none }
def fnExactValidSavedRow : OpenClaim := { program := "ytmakjgbldejcpaa", sum := "acd0a8fcb3c1c416094b27336e5f5c9e7b04adead793e33963ba388eac227502", func := "loop.example/g01389/laws.FnExactValidSaved", spec := "fnExactValidSaved", plainKeys := false, apart := false }
def FnExactValidSavedSaid : Prop := fnExactValidSavedRow.holds Try.pinned (OpenSpec.ofChange fnExactValidSavedSpec)

/-- ITS FALSE NEIGHBOUR: 'it returns false'. Refute it at one input. -/
def fnExactValidSavedWrong : ChangeSpec := { name := "fnExactValidSaved", fn := fun _ => fun
  | [d] => { results := [.lit (.bool false)], args := [d] }
  | _ => none }
def FnExactValidSavedWrongFalsely : Prop := fnExactValidSavedRow.holds Try.pinned (OpenSpec.ofChange fnExactValidSavedWrong)

/-- 'laws.FnExactSameSaved': WHATEVER THE INPUT: true; the input reads as it did. -/
def fnExactSameSavedSpec : ChangeSpec := { name := "fnExactSameSaved", fn := fun _ => fun
  | [d1, d2] => { results := [.lit (.bool true)], args := [d1, d2] }
  | _ => none }
def fnExactSameSavedRow : OpenClaim := { program := "ytmakjgbldejcpaa", sum := "acd0a8fcb3c1c416094b27336e5f5c9e7b04adead793e33963ba388eac227502", func := "loop.example/g01389/laws.FnExactSameSaved", spec := "fnExactSameSaved", unfollowed := true, recurses := true, plainKeys := false, apart := false }
def FnExactSameSavedSaid : Prop := fnExactSameSavedRow.holds Try.pinned (OpenSpec.ofChange fnExactSameSavedSpec)

/-- ITS FALSE NEIGHBOUR: 'it returns false'. Refute it at one input. -/
def fnExactSameSavedWrong : ChangeSpec := { name := "fnExactSameSaved", fn := fun _ => fun
  | [d1, d2] => { results := [.lit (.bool false)], args := [d1, d2] }
  | _ => none }
def FnExactSameSavedWrongFalsely : Prop := fnExactSameSavedRow.holds Try.pinned (OpenSpec.ofChange fnExactSameSavedWrong)

/-- 'laws.FnExactValidDesk': WHATEVER THE INPUT: true; the input reads as it did. -/
def fnExactValidDeskSpec : ChangeSpec := { name := "fnExactValidDesk", fn := fun _ => fun
  | [d] => { results := [.lit (.bool true)], args := [d] }
  | _ => none }
def fnExactValidDeskRow : OpenClaim := { program := "ytmakjgbldejcpaa", sum := "acd0a8fcb3c1c416094b27336e5f5c9e7b04adead793e33963ba388eac227502", func := "loop.example/g01389/laws.FnExactValidDesk", spec := "fnExactValidDesk", plainKeys := false, apart := false }
def FnExactValidDeskSaid : Prop := fnExactValidDeskRow.holds Try.pinned (OpenSpec.ofChange fnExactValidDeskSpec)

/-- ITS FALSE NEIGHBOUR: 'it returns false'. Refute it at one input. -/
def fnExactValidDeskWrong : ChangeSpec := { name := "fnExactValidDesk", fn := fun _ => fun
  | [d] => { results := [.lit (.bool false)], args := [d] }
  | _ => none }
def FnExactValidDeskWrongFalsely : Prop := fnExactValidDeskRow.holds Try.pinned (OpenSpec.ofChange fnExactValidDeskWrong)

/-- 'laws.FnColoursSharedOfAll': WHATEVER THE INPUT: true; the input reads as it did. -/
def fnColoursSharedOfAllSpec : ChangeSpec := { name := "fnColoursSharedOfAll", fn := fun _ => fun
  | [d1, d2, d3, d4] => { results := [.lit (.bool true)], args := [d1, d2, d3, d4] }
  | _ => none }
def fnColoursSharedOfAllRow : OpenClaim := { program := "ytmakjgbldejcpaa", sum := "acd0a8fcb3c1c416094b27336e5f5c9e7b04adead793e33963ba388eac227502", func := "loop.example/g01389/laws.FnColoursSharedOfAll", spec := "fnColoursSharedOfAll", unfollowed := true, recurses := true, plainKeys := false, apart := false }
def FnColoursSharedOfAllSaid : Prop := fnColoursSharedOfAllRow.holds Try.pinned (OpenSpec.ofChange fnColoursSharedOfAllSpec)

/-- ITS FALSE NEIGHBOUR: 'it returns false'. Refute it at one input. -/
def fnColoursSharedOfAllWrong : ChangeSpec := { name := "fnColoursSharedOfAll", fn := fun _ => fun
  | [d1, d2, d3, d4] => { results := [.lit (.bool false)], args := [d1, d2, d3, d4] }
  | _ => none }
def FnColoursSharedOfAllWrongFalsely : Prop := fnColoursSharedOfAllRow.holds Try.pinned (OpenSpec.ofChange fnColoursSharedOfAllWrong)

/-- 'laws.FnExactLeastColours': WHATEVER THE INPUT: true; the input reads as it did. -/
def fnExactLeastColoursSpec : ChangeSpec := { name := "fnExactLeastColours", fn := fun _ => fun
  | [d1, d2] => { results := [.lit (.bool true)], args := [d1, d2] }
  | _ => none }
def fnExactLeastColoursRow : OpenClaim := { program := "ytmakjgbldejcpaa", sum := "acd0a8fcb3c1c416094b27336e5f5c9e7b04adead793e33963ba388eac227502", func := "loop.example/g01389/laws.FnExactLeastColours", spec := "fnExactLeastColours", unfollowed := true, recurses := true, plainKeys := false, apart := false }
def FnExactLeastColoursSaid : Prop := fnExactLeastColoursRow.holds Try.pinned (OpenSpec.ofChange fnExactLeastColoursSpec)

/-- ITS FALSE NEIGHBOUR: 'it returns false'. Refute it at one input. -/
def fnExactLeastColoursWrong : ChangeSpec := { name := "fnExactLeastColours", fn := fun _ => fun
  | [d1, d2] => { results := [.lit (.bool false)], args := [d1, d2] }
  | _ => none }
def FnExactLeastColoursWrongFalsely : Prop := fnExactLeastColoursRow.holds Try.pinned (OpenSpec.ofChange fnExactLeastColoursWrong)

/-- 'laws.FnExactStoreSaved': WHATEVER THE INPUT: true; the input reads as it did. -/
def fnExactStoreSavedSpec : ChangeSpec := { name := "fnExactStoreSaved", fn := fun _ => fun
  | [d] => { results := [.lit (.bool true)], args := [d] }
  | _ => none }
def fnExactStoreSavedRow : OpenClaim := { program := "ytmakjgbldejcpaa", sum := "acd0a8fcb3c1c416094b27336e5f5c9e7b04adead793e33963ba388eac227502", func := "loop.example/g01389/laws.FnExactStoreSaved", spec := "fnExactStoreSaved", plainKeys := false, apart := false }
def FnExactStoreSavedSaid : Prop := fnExactStoreSavedRow.holds Try.pinned (OpenSpec.ofChange fnExactStoreSavedSpec)

/-- ITS FALSE NEIGHBOUR: 'it returns false'. Refute it at one input. -/
def fnExactStoreSavedWrong : ChangeSpec := { name := "fnExactStoreSaved", fn := fun _ => fun
  | [d] => { results := [.lit (.bool false)], args := [d] }
  | _ => none }
def FnExactStoreSavedWrongFalsely : Prop := fnExactStoreSavedRow.holds Try.pinned (OpenSpec.ofChange fnExactStoreSavedWrong)

/-- 'laws.FnRounds': WHATEVER THE INPUT: true; the input reads as it did. -/
def fnRoundsSpec : ChangeSpec := { name := "fnRounds", fn := fun _ => fun
  | [d1, d2] => { results := [.lit (.bool true)], args := [d1, d2] }
  | _ => none }
def fnRoundsRow : OpenClaim := { program := "ytmakjgbldejcpaa", sum := "acd0a8fcb3c1c416094b27336e5f5c9e7b04adead793e33963ba388eac227502", func := "loop.example/g01389/laws.FnRounds", spec := "fnRounds", unfollowed := true, recurses := true, plainKeys := false, apart := false }
def FnRoundsSaid : Prop := fnRoundsRow.holds Try.pinned (OpenSpec.ofChange fnRoundsSpec)

/-- ITS FALSE NEIGHBOUR: 'it returns false'. Refute it at one input. -/
def fnRoundsWrong : ChangeSpec := { name := "fnRounds", fn := fun _ => fun
  | [d1, d2] => { results := [.lit (.bool false)], args := [d1, d2] }
  | _ => none }
def FnRoundsWrongFalsely : Prop := fnRoundsRow.holds Try.pinned (OpenSpec.ofChange fnRoundsWrong)

/-- 'laws.FnExactStoreAll': WHATEVER THE INPUT: true; the input reads as it did. -/
def fnExactStoreAllSpec : ChangeSpec := { name := "fnExactStoreAll", fn := fun _ => fun
  | [d] => { results := [.lit (.bool true)], args := [d] }
  | _ => none }
def fnExactStoreAllRow : OpenClaim := { program := "ytmakjgbldejcpaa", sum := "acd0a8fcb3c1c416094b27336e5f5c9e7b04adead793e33963ba388eac227502", func := "loop.example/g01389/laws.FnExactStoreAll", spec := "fnExactStoreAll", plainKeys := false, apart := false }
def FnExactStoreAllSaid : Prop := fnExactStoreAllRow.holds Try.pinned (OpenSpec.ofChange fnExactStoreAllSpec)

/-- ITS FALSE NEIGHBOUR: 'it returns false'. Refute it at one input. -/
def fnExactStoreAllWrong : ChangeSpec := { name := "fnExactStoreAll", fn := fun _ => fun
  | [d] => { results := [.lit (.bool false)], args := [d] }
  | _ => none }
def FnExactStoreAllWrongFalsely : Prop := fnExactStoreAllRow.holds Try.pinned (OpenSpec.ofChange fnExactStoreAllWrong)

/-- 'laws.FnExactMostTalks': WHATEVER THE INPUT: true; the input reads as it did. -/
def fnExactMostTalksSpec : ChangeSpec := { name := "fnExactMostTalks", fn := fun _ => fun
  | [d] => { results := [.lit (.bool true)], args := [d] }
  | _ => none }
def fnExactMostTalksRow : OpenClaim := { program := "ytmakjgbldejcpaa", sum := "acd0a8fcb3c1c416094b27336e5f5c9e7b04adead793e33963ba388eac227502", func := "loop.example/g01389/laws.FnExactMostTalks", spec := "fnExactMostTalks", unfollowed := true, recurses := true, plainKeys := false, apart := false }
def FnExactMostTalksSaid : Prop := fnExactMostTalksRow.holds Try.pinned (OpenSpec.ofChange fnExactMostTalksSpec)

/-- ITS FALSE NEIGHBOUR: 'it returns false'. Refute it at one input. -/
def fnExactMostTalksWrong : ChangeSpec := { name := "fnExactMostTalks", fn := fun _ => fun
  | [d] => { results := [.lit (.bool false)], args := [d] }
  | _ => none }
def FnExactMostTalksWrongFalsely : Prop := fnExactMostTalksRow.holds Try.pinned (OpenSpec.ofChange fnExactMostTalksWrong)

/-- 'laws.FnExactColoursShared': WHATEVER THE INPUT: true; the input reads as it did. -/
def fnExactColoursSharedSpec : ChangeSpec := { name := "fnExactColoursShared", fn := fun _ => fun
  | [d1, d2, d3] => { results := [.lit (.bool true)], args := [d1, d2, d3] }
  | _ => none }
def fnExactColoursSharedRow : OpenClaim := { program := "ytmakjgbldejcpaa", sum := "acd0a8fcb3c1c416094b27336e5f5c9e7b04adead793e33963ba388eac227502", func := "loop.example/g01389/laws.FnExactColoursShared", spec := "fnExactColoursShared", unfollowed := true, recurses := true, plainKeys := false, apart := false }
def FnExactColoursSharedSaid : Prop := fnExactColoursSharedRow.holds Try.pinned (OpenSpec.ofChange fnExactColoursSharedSpec)

/-- ITS FALSE NEIGHBOUR: 'it returns false'. Refute it at one input. -/
def fnExactColoursSharedWrong : ChangeSpec := { name := "fnExactColoursShared", fn := fun _ => fun
  | [d1, d2, d3] => { results := [.lit (.bool false)], args := [d1, d2, d3] }
  | _ => none }
def FnExactColoursSharedWrongFalsely : Prop := fnExactColoursSharedRow.holds Try.pinned (OpenSpec.ofChange fnExactColoursSharedWrong)

/- THE SECOND FORM. 'bulk': how many values and letters a reading holds, each counted each time it is reached (what is shared counts as often as it is met; a slice's spare places count too). A statement '..UptoSaid' is the law's where the arguments, and the package variables that the reading takes, are together of bulk at most 1048576: NARROWER than '..Said'. Prove '..Said' where nothing that the law and all that it calls make is longer than what came in: it says more and counts as full. Else prove '..UptoSaid'. A law counts once. -/
mutual
def uptoBulk {H : Type} : DataW H → Nat
  | .lit (.string bytes) => bytes.length + 1
  | .lit _ => 1
  | .nil => 1
  | .ptr d => uptoBulk d + 1
  | .slice elems spare => uptoBulkAll elems + uptoBulkAll spare + 1
  | .agg parts => uptoBulkAll parts + 1
  | .iface _ d => uptoBulk d + 1
  | .map entries => uptoBulkEntries entries + 1
  | .held _ => 1
def uptoBulkAll {H : Type} : List (DataW H) → Nat
  | [] => 0
  | d :: r => uptoBulk d + uptoBulkAll r
def uptoBulkEntries {H : Type} : List (Lit × DataW H) → Nat
  | [] => 0
  | x :: r => uptoBulkEntry x + uptoBulkEntries r
def uptoBulkEntry {H : Type} : Lit × DataW H → Nat
  | (.string bytes, d) => bytes.length + uptoBulk d + 1
  | (_, d) => uptoBulk d + 1
 end
def uptoSmall : (H : Type) → List (DataW H) → Bool := fun _ ds => decide (uptoBulkAll ds ≤ 1048576)
def OpenSpec.upto (s : _root_.Go.ChangeSpec) : _root_.Go.OpenSpec := { _root_.Go.OpenSpec.ofChange s with cond := some uptoSmall }

/-- 'laws.FnExactFreeTime', WHERE WHAT IT READS IS OF BULK AT MOST 1048576: true; the input reads as it did. -/
def fnExactFreeTimeUptoRow : OpenClaim := { program := "ytmakjgbldejcpaa", sum := "acd0a8fcb3c1c416094b27336e5f5c9e7b04adead793e33963ba388eac227502", func := "loop.example/g01389/laws.FnExactFreeTime", spec := "fnExactFreeTime", unfollowed := true, recurses := true, plainKeys := false, apart := false, narrowed := true }
def FnExactFreeTimeUptoSaid : Prop := fnExactFreeTimeUptoRow.holds Try.pinned (OpenSpec.upto fnExactFreeTimeSpec)

/-- 'laws.FnExactSameDesk', WHERE WHAT IT READS IS OF BULK AT MOST 1048576: true; the input reads as it did. -/
def fnExactSameDeskUptoRow : OpenClaim := { program := "ytmakjgbldejcpaa", sum := "acd0a8fcb3c1c416094b27336e5f5c9e7b04adead793e33963ba388eac227502", func := "loop.example/g01389/laws.FnExactSameDesk", spec := "fnExactSameDesk", plainKeys := false, apart := false, narrowed := true }
def FnExactSameDeskUptoSaid : Prop := fnExactSameDeskUptoRow.holds Try.pinned (OpenSpec.upto fnExactSameDeskSpec)

/-- 'laws.FnExactValidSaved', WHERE WHAT IT READS IS OF BULK AT MOST 1048576: true; the input reads as it did. -/
def fnExactValidSavedUptoRow : OpenClaim := { program := "ytmakjgbldejcpaa", sum := "acd0a8fcb3c1c416094b27336e5f5c9e7b04adead793e33963ba388eac227502", func := "loop.example/g01389/laws.FnExactValidSaved", spec := "fnExactValidSaved", plainKeys := false, apart := false, narrowed := true }
def FnExactValidSavedUptoSaid : Prop := fnExactValidSavedUptoRow.holds Try.pinned (OpenSpec.upto fnExactValidSavedSpec)

/-- 'laws.FnExactSameSaved', WHERE WHAT IT READS IS OF BULK AT MOST 1048576: true; the input reads as it did. -/
def fnExactSameSavedUptoRow : OpenClaim := { program := "ytmakjgbldejcpaa", sum := "acd0a8fcb3c1c416094b27336e5f5c9e7b04adead793e33963ba388eac227502", func := "loop.example/g01389/laws.FnExactSameSaved", spec := "fnExactSameSaved", unfollowed := true, recurses := true, plainKeys := false, apart := false, narrowed := true }
def FnExactSameSavedUptoSaid : Prop := fnExactSameSavedUptoRow.holds Try.pinned (OpenSpec.upto fnExactSameSavedSpec)

/-- 'laws.FnExactValidDesk', WHERE WHAT IT READS IS OF BULK AT MOST 1048576: true; the input reads as it did. -/
def fnExactValidDeskUptoRow : OpenClaim := { program := "ytmakjgbldejcpaa", sum := "acd0a8fcb3c1c416094b27336e5f5c9e7b04adead793e33963ba388eac227502", func := "loop.example/g01389/laws.FnExactValidDesk", spec := "fnExactValidDesk", plainKeys := false, apart := false, narrowed := true }
def FnExactValidDeskUptoSaid : Prop := fnExactValidDeskUptoRow.holds Try.pinned (OpenSpec.upto fnExactValidDeskSpec)

/-- 'laws.FnColoursSharedOfAll', WHERE WHAT IT READS IS OF BULK AT MOST 1048576: true; the input reads as it did. -/
def fnColoursSharedOfAllUptoRow : OpenClaim := { program := "ytmakjgbldejcpaa", sum := "acd0a8fcb3c1c416094b27336e5f5c9e7b04adead793e33963ba388eac227502", func := "loop.example/g01389/laws.FnColoursSharedOfAll", spec := "fnColoursSharedOfAll", unfollowed := true, recurses := true, plainKeys := false, apart := false, narrowed := true }
def FnColoursSharedOfAllUptoSaid : Prop := fnColoursSharedOfAllUptoRow.holds Try.pinned (OpenSpec.upto fnColoursSharedOfAllSpec)

/-- 'laws.FnExactLeastColours', WHERE WHAT IT READS IS OF BULK AT MOST 1048576: true; the input reads as it did. -/
def fnExactLeastColoursUptoRow : OpenClaim := { program := "ytmakjgbldejcpaa", sum := "acd0a8fcb3c1c416094b27336e5f5c9e7b04adead793e33963ba388eac227502", func := "loop.example/g01389/laws.FnExactLeastColours", spec := "fnExactLeastColours", unfollowed := true, recurses := true, plainKeys := false, apart := false, narrowed := true }
def FnExactLeastColoursUptoSaid : Prop := fnExactLeastColoursUptoRow.holds Try.pinned (OpenSpec.upto fnExactLeastColoursSpec)

/-- 'laws.FnExactStoreSaved', WHERE WHAT IT READS IS OF BULK AT MOST 1048576: true; the input reads as it did. -/
def fnExactStoreSavedUptoRow : OpenClaim := { program := "ytmakjgbldejcpaa", sum := "acd0a8fcb3c1c416094b27336e5f5c9e7b04adead793e33963ba388eac227502", func := "loop.example/g01389/laws.FnExactStoreSaved", spec := "fnExactStoreSaved", plainKeys := false, apart := false, narrowed := true }
def FnExactStoreSavedUptoSaid : Prop := fnExactStoreSavedUptoRow.holds Try.pinned (OpenSpec.upto fnExactStoreSavedSpec)

/-- 'laws.FnRounds', WHERE WHAT IT READS IS OF BULK AT MOST 1048576: true; the input reads as it did. -/
def fnRoundsUptoRow : OpenClaim := { program := "ytmakjgbldejcpaa", sum := "acd0a8fcb3c1c416094b27336e5f5c9e7b04adead793e33963ba388eac227502", func := "loop.example/g01389/laws.FnRounds", spec := "fnRounds", unfollowed := true, recurses := true, plainKeys := false, apart := false, narrowed := true }
def FnRoundsUptoSaid : Prop := fnRoundsUptoRow.holds Try.pinned (OpenSpec.upto fnRoundsSpec)

/-- 'laws.FnExactStoreAll', WHERE WHAT IT READS IS OF BULK AT MOST 1048576: true; the input reads as it did. -/
def fnExactStoreAllUptoRow : OpenClaim := { program := "ytmakjgbldejcpaa", sum := "acd0a8fcb3c1c416094b27336e5f5c9e7b04adead793e33963ba388eac227502", func := "loop.example/g01389/laws.FnExactStoreAll", spec := "fnExactStoreAll", plainKeys := false, apart := false, narrowed := true }
def FnExactStoreAllUptoSaid : Prop := fnExactStoreAllUptoRow.holds Try.pinned (OpenSpec.upto fnExactStoreAllSpec)

/-- 'laws.FnExactMostTalks', WHERE WHAT IT READS IS OF BULK AT MOST 1048576: true; the input reads as it did. -/
def fnExactMostTalksUptoRow : OpenClaim := { program := "ytmakjgbldejcpaa", sum := "acd0a8fcb3c1c416094b27336e5f5c9e7b04adead793e33963ba388eac227502", func := "loop.example/g01389/laws.FnExactMostTalks", spec := "fnExactMostTalks", unfollowed := true, recurses := true, plainKeys := false, apart := false, narrowed := true }
def FnExactMostTalksUptoSaid : Prop := fnExactMostTalksUptoRow.holds Try.pinned (OpenSpec.upto fnExactMostTalksSpec)

/-- 'laws.FnExactColoursShared', WHERE WHAT IT READS IS OF BULK AT MOST 1048576: true; the input reads as it did. -/
def fnExactColoursSharedUptoRow : OpenClaim := { program := "ytmakjgbldejcpaa", sum := "acd0a8fcb3c1c416094b27336e5f5c9e7b04adead793e33963ba388eac227502", func := "loop.example/g01389/laws.FnExactColoursShared", spec := "fnExactColoursShared", unfollowed := true, recurses := true, plainKeys := false, apart := false, narrowed := true }
def FnExactColoursSharedUptoSaid : Prop := fnExactColoursSharedUptoRow.holds Try.pinned (OpenSpec.upto fnExactColoursSharedSpec)

end Rows
end Go.Proofs.Ytmakjgbldejcpaa
