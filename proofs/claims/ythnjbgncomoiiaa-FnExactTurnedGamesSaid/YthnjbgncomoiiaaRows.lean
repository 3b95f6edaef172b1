/-
  No cell of these rows narrows 'for every input' (looked for: loops, veiled, ifaces, maps, wideKeys, modest, calm, conditions, laid).
  DERIVED. THE GIVEN ROWS OF THIS SEAT. 12 by the template 'for every input the law returns true; each argument reads behind the call as it read before'; 0 by the template 'total and deterministic' (their statements: YthnjbgncomoiiaaTotals.lean).
  GIVEN WITH THE SEED: the statements are not yours to turn. If you find one false, say at which input.
  Laid BY PROGRAM, IN A SANDBOX (cutbox-rows.mjs): the forced cells as the released guide's own fill.sh prints them over the translation 58189cca7731f909… (all of the seat's roots in one cut). By AI agents, Wed Nov 11 2026. No macro, syntax, notation, axiom, sorry.
-/
import Derived.Test.YthnjbgncomoiiaaChecked
import GoSem.Claim
import GoSem.ClaimJoined
import GoSem.ClaimMapViews
import Derived.JoinedTies
import Derived.KernelRfl
namespace Go.Proofs.Ythnjbgncomoiiaa
/- THE CELL 'sum', in the pinned program and in every row, IS THE sha256 OF THE DUMP (.gsa) THAT YthnjbgncomoiiaaProg.lean LOADS. Nothing in Lean hashes anything: it is a label: what it is worth is what the hold of that sum in a sandbox is worth. -/
noncomputable def Try.pinned : Pinned := { name := "ythnjbgncomoiiaa", sum := "58189cca7731f909e3a5da5eebe1ad46cad1a82f32514a8f69a33d8fe6dcdb5e", checked := Try.checked }
namespace Rows
def none {H : Type} : Left H := { results := [], args := [] }

/-- 'laws.FnExactLocalTime': WHATEVER THE INPUT: true; the input reads as it did. -/
def fnExactLocalTimeSpec : ChangeSpec := { name := "fnExactLocalTime", fn := fun _ => fun
  | [d1, d2] => { results := [.lit (.bool true)], args := [d1, d2] }
  | _ => none }
def fnExactLocalTimeRow : OpenClaim := { program := "ythnjbgncomoiiaa", sum := "58189cca7731f909e3a5da5eebe1ad46cad1a82f32514a8f69a33d8fe6dcdb5e", func := "loop.example/g01389/laws.FnExactLocalTime", spec := "fnExactLocalTime", plainKeys := false, apart := false }
def FnExactLocalTimeSaid : Prop := fnExactLocalTimeRow.holds Try.pinned (OpenSpec.ofChange fnExactLocalTimeSpec)

/-- ITS FALSE NEIGHBOUR: 'it returns false'. Refute it at one input. -/
def fnExactLocalTimeWrong : ChangeSpec := { name := "fnExactLocalTime", fn := fun _ => fun
  | [d1, d2] => { results := [.lit (.bool false)], args := [d1, d2] }
  | _ => none }
def FnExactLocalTimeWrongFalsely : Prop := fnExactLocalTimeRow.holds Try.pinned (OpenSpec.ofChange fnExactLocalTimeWrong)

/-- 'laws.FnExactAreClashes': WHATEVER THE INPUT: true; the input reads as it did. -/
def fnExactAreClashesSpec : ChangeSpec := { name := "fnExactAreClashes", fn := fun _ => fun
  | [d1, d2] => { results := [.lit (.bool true)], args := [d1, d2] }
  | _ => none }
def fnExactAreClashesRow : OpenClaim := { program := "ythnjbgncomoiiaa", sum := "58189cca7731f909e3a5da5eebe1ad46cad1a82f32514a8f69a33d8fe6dcdb5e", func := "loop.example/g01389/laws.FnExactAreClashes", spec := "fnExactAreClashes", unfollowed := true, recurses := true, plainKeys := false, apart := false }
def FnExactAreClashesSaid : Prop := fnExactAreClashesRow.holds Try.pinned (OpenSpec.ofChange fnExactAreClashesSpec)

/-- ITS FALSE NEIGHBOUR: 'it returns false'. Refute it at one input. -/
def fnExactAreClashesWrong : ChangeSpec := { name := "fnExactAreClashes", fn := fun _ => fun
  | [d1, d2] => { results := [.lit (.bool false)], args := [d1, d2] }
  | _ => none }
def FnExactAreClashesWrongFalsely : Prop := fnExactAreClashesRow.holds Try.pinned (OpenSpec.ofChange fnExactAreClashesWrong)

/-- 'laws.FnExactAreTalks': WHATEVER THE INPUT: true; the input reads as it did. -/
def fnExactAreTalksSpec : ChangeSpec := { name := "fnExactAreTalks", fn := fun _ => fun
  | [d] => { results := [.lit (.bool true)], args := [d] }
  | _ => none }
def fnExactAreTalksRow : OpenClaim := { program := "ythnjbgncomoiiaa", sum := "58189cca7731f909e3a5da5eebe1ad46cad1a82f32514a8f69a33d8fe6dcdb5e", func := "loop.example/g01389/laws.FnExactAreTalks", spec := "fnExactAreTalks", unfollowed := true, recurses := true, plainKeys := false, apart := false }
def FnExactAreTalksSaid : Prop := fnExactAreTalksRow.holds Try.pinned (OpenSpec.ofChange fnExactAreTalksSpec)

/-- ITS FALSE NEIGHBOUR: 'it returns false'. Refute it at one input. -/
def fnExactAreTalksWrong : ChangeSpec := { name := "fnExactAreTalks", fn := fun _ => fun
  | [d] => { results := [.lit (.bool false)], args := [d] }
  | _ => none }
def FnExactAreTalksWrongFalsely : Prop := fnExactAreTalksRow.holds Try.pinned (OpenSpec.ofChange fnExactAreTalksWrong)

/-- 'laws.FnExactCircleRounds': WHATEVER THE INPUT: true; the input reads as it did. -/
def fnExactCircleRoundsSpec : ChangeSpec := { name := "fnExactCircleRounds", fn := fun _ => fun
  | [d] => { results := [.lit (.bool true)], args := [d] }
  | _ => none }
def fnExactCircleRoundsRow : OpenClaim := { program := "ythnjbgncomoiiaa", sum := "58189cca7731f909e3a5da5eebe1ad46cad1a82f32514a8f69a33d8fe6dcdb5e", func := "loop.example/g01389/laws.FnExactCircleRounds", spec := "fnExactCircleRounds", unfollowed := true, recurses := true, plainKeys := false, apart := false }
def FnExactCircleRoundsSaid : Prop := fnExactCircleRoundsRow.holds Try.pinned (OpenSpec.ofChange fnExactCircleRoundsSpec)

/-- ITS FALSE NEIGHBOUR: 'it returns false'. Refute it at one input. -/
def fnExactCircleRoundsWrong : ChangeSpec := { name := "fnExactCircleRounds", fn := fun _ => fun
  | [d] => { results := [.lit (.bool false)], args := [d] }
  | _ => none }
def FnExactCircleRoundsWrongFalsely : Prop := fnExactCircleRoundsRow.holds Try.pinned (OpenSpec.ofChange fnExactCircleRoundsWrong)

/-- 'laws.FnMeetings': WHATEVER THE INPUT: true; the input reads as it did. -/
def fnMeetingsSpec : ChangeSpec := { name := "fnMeetings", fn := fun _ => fun
  | [d1, d2] => { results := [.lit (.bool true)], args := [d1, d2] }
  | _ => none }
def fnMeetingsRow : OpenClaim := { program := "ythnjbgncomoiiaa", sum := "58189cca7731f909e3a5da5eebe1ad46cad1a82f32514a8f69a33d8fe6dcdb5e", func := "loop.example/g01389/laws.FnMeetings", spec := "fnMeetings", unfollowed := true, recurses := true, plainKeys := false, apart := false }
def FnMeetingsSaid : Prop := fnMeetingsRow.holds Try.pinned (OpenSpec.ofChange fnMeetingsSpec)

/-- ITS FALSE NEIGHBOUR: 'it returns false'. Refute it at one input. -/
def fnMeetingsWrong : ChangeSpec := { name := "fnMeetings", fn := fun _ => fun
  | [d1, d2] => { results := [.lit (.bool false)], args := [d1, d2] }
  | _ => none }
def FnMeetingsWrongFalsely : Prop := fnMeetingsRow.holds Try.pinned (OpenSpec.ofChange fnMeetingsWrong)

/-- 'laws.FnExactMeetingTime': WHATEVER THE INPUT: true; the input reads as it did. -/
def fnExactMeetingTimeSpec : ChangeSpec := { name := "fnExactMeetingTime", fn := fun _ => fun
  | [d1, d2, d3, d4] => { results := [.lit (.bool true)], args := [d1, d2, d3, d4] }
  | _ => none }
def fnExactMeetingTimeRow : OpenClaim := { program := "ythnjbgncomoiiaa", sum := "58189cca7731f909e3a5da5eebe1ad46cad1a82f32514a8f69a33d8fe6dcdb5e", func := "loop.example/g01389/laws.FnExactMeetingTime", spec := "fnExactMeetingTime", unfollowed := true, recurses := true, plainKeys := false, apart := false }
def FnExactMeetingTimeSaid : Prop := fnExactMeetingTimeRow.holds Try.pinned (OpenSpec.ofChange fnExactMeetingTimeSpec)

/-- ITS FALSE NEIGHBOUR: 'it returns false'. Refute it at one input. -/
def fnExactMeetingTimeWrong : ChangeSpec := { name := "fnExactMeetingTime", fn := fun _ => fun
  | [d1, d2, d3, d4] => { results := [.lit (.bool false)], args := [d1, d2, d3, d4] }
  | _ => none }
def FnExactMeetingTimeWrongFalsely : Prop := fnExactMeetingTimeRow.holds Try.pinned (OpenSpec.ofChange fnExactMeetingTimeWrong)

/-- 'laws.FnExactIsColour': WHATEVER THE INPUT: true; the input reads as it did. -/
def fnExactIsColourSpec : ChangeSpec := { name := "fnExactIsColour", fn := fun _ => fun
  | [d1, d2, d3] => { results := [.lit (.bool true)], args := [d1, d2, d3] }
  | _ => none }
def fnExactIsColourRow : OpenClaim := { program := "ythnjbgncomoiiaa", sum := "58189cca7731f909e3a5da5eebe1ad46cad1a82f32514a8f69a33d8fe6dcdb5e", func := "loop.example/g01389/laws.FnExactIsColour", spec := "fnExactIsColour", unfollowed := true, recurses := true, plainKeys := false, apart := false }
def FnExactIsColourSaid : Prop := fnExactIsColourRow.holds Try.pinned (OpenSpec.ofChange fnExactIsColourSpec)

/-- ITS FALSE NEIGHBOUR: 'it returns false'. Refute it at one input. -/
def fnExactIsColourWrong : ChangeSpec := { name := "fnExactIsColour", fn := fun _ => fun
  | [d1, d2, d3] => { results := [.lit (.bool false)], args := [d1, d2, d3] }
  | _ => none }
def FnExactIsColourWrongFalsely : Prop := fnExactIsColourRow.holds Try.pinned (OpenSpec.ofChange fnExactIsColourWrong)

/-- 'laws.FnExactAreRounds': WHATEVER THE INPUT: true; the input reads as it did. -/
def fnExactAreRoundsSpec : ChangeSpec := { name := "fnExactAreRounds", fn := fun _ => fun
  | [d1, d2] => { results := [.lit (.bool true)], args := [d1, d2] }
  | _ => none }
def fnExactAreRoundsRow : OpenClaim := { program := "ythnjbgncomoiiaa", sum := "58189cca7731f909e3a5da5eebe1ad46cad1a82f32514a8f69a33d8fe6dcdb5e", func := "loop.example/g01389/laws.FnExactAreRounds", spec := "fnExactAreRounds", unfollowed := true, recurses := true, plainKeys := false, apart := false }
def FnExactAreRoundsSaid : Prop := fnExactAreRoundsRow.holds Try.pinned (OpenSpec.ofChange fnExactAreRoundsSpec)

/-- ITS FALSE NEIGHBOUR: 'it returns false'. Refute it at one input. -/
def fnExactAreRoundsWrong : ChangeSpec := { name := "fnExactAreRounds", fn := fun _ => fun
  | [d1, d2] => { results := [.lit (.bool false)], args := [d1, d2] }
  | _ => none }
def FnExactAreRoundsWrongFalsely : Prop := fnExactAreRoundsRow.holds Try.pinned (OpenSpec.ofChange fnExactAreRoundsWrong)

/-- 'laws.FnExactMostAtOnce': WHATEVER THE INPUT: true; the input reads as it did. -/
def fnExactMostAtOnceSpec : ChangeSpec := { name := "fnExactMostAtOnce", fn := fun _ => fun
  | [d] => { results := [.lit (.bool true)], args := [d] }
  | _ => none }
def fnExactMostAtOnceRow : OpenClaim := { program := "ythnjbgncomoiiaa", sum := "58189cca7731f909e3a5da5eebe1ad46cad1a82f32514a8f69a33d8fe6dcdb5e", func := "loop.example/g01389/laws.FnExactMostAtOnce", spec := "fnExactMostAtOnce", unfollowed := true, recurses := true, plainKeys := false, apart := false }
def FnExactMostAtOnceSaid : Prop := fnExactMostAtOnceRow.holds Try.pinned (OpenSpec.ofChange fnExactMostAtOnceSpec)

/-- ITS FALSE NEIGHBOUR: 'it returns false'. Refute it at one input. -/
def fnExactMostAtOnceWrong : ChangeSpec := { name := "fnExactMostAtOnce", fn := fun _ => fun
  | [d] => { results := [.lit (.bool false)], args := [d] }
  | _ => none }
def FnExactMostAtOnceWrongFalsely : Prop := fnExactMostAtOnceRow.holds Try.pinned (OpenSpec.ofChange fnExactMostAtOnceWrong)

/-- 'laws.FnExactCountBreaks': WHATEVER THE INPUT: true; the input reads as it did. -/
def fnExactCountBreaksSpec : ChangeSpec := { name := "fnExactCountBreaks", fn := fun _ => fun
  | [d1, d2] => { results := [.lit (.bool true)], args := [d1, d2] }
  | _ => none }
def fnExactCountBreaksRow : OpenClaim := { program := "ythnjbgncomoiiaa", sum := "58189cca7731f909e3a5da5eebe1ad46cad1a82f32514a8f69a33d8fe6dcdb5e", func := "loop.example/g01389/laws.FnExactCountBreaks", spec := "fnExactCountBreaks", unfollowed := true, recurses := true, plainKeys := false, apart := false }
def FnExactCountBreaksSaid : Prop := fnExactCountBreaksRow.holds Try.pinned (OpenSpec.ofChange fnExactCountBreaksSpec)

/-- ITS FALSE NEIGHBOUR: 'it returns false'. Refute it at one input. -/
def fnExactCountBreaksWrong : ChangeSpec := { name := "fnExactCountBreaks", fn := fun _ => fun
  | [d1, d2] => { results := [.lit (.bool false)], args := [d1, d2] }
  | _ => none }
def FnExactCountBreaksWrongFalsely : Prop := fnExactCountBreaksRow.holds Try.pinned (OpenSpec.ofChange fnExactCountBreaksWrong)

/-- 'laws.FnExactBackRounds': WHATEVER THE INPUT: true; the input reads as it did. -/
def fnExactBackRoundsSpec : ChangeSpec := { name := "fnExactBackRounds", fn := fun _ => fun
  | [d1, d2] => { results := [.lit (.bool true)], args := [d1, d2] }
  | _ => none }
def fnExactBackRoundsRow : OpenClaim := { program := "ythnjbgncomoiiaa", sum := "58189cca7731f909e3a5da5eebe1ad46cad1a82f32514a8f69a33d8fe6dcdb5e", func := "loop.example/g01389/laws.FnExactBackRounds", spec := "fnExactBackRounds", unfollowed := true, recurses := true, plainKeys := false, apart := false }
def FnExactBackRoundsSaid : Prop := fnExactBackRoundsRow.holds Try.pinned (OpenSpec.ofChange fnExactBackRoundsSpec)

/-- ITS FALSE NEIGHBOUR: 'it returns false'. Refute it at one input. -/
def fnExactBackRoundsWrong : ChangeSpec := { name := "fnExactBackRounds", fn := fun _ => fun
  | [d1, d2] => { results := [.lit (.bool false)], args := [d1, d2] }
  | _ => none }
def FnExactBackRoundsWrongFalsely : Prop := fnExactBackRoundsRow.holds Try.pinned (OpenSpec.ofChange fnExactBackRoundsWrong)

/-- 'laws.FnExactTurnedGames': WHATEVER THE INPUT: true; the input reads as it did. -/
def fnExactTurnedGamesSpec : ChangeSpec := { name := "fnExactTurnedGames", fn := fun _ => fun
  | [d1, d2, d3] => { results := [.lit (.bool true)], args := [d1, d2, d3] }
  | _ => none }
def fnExactTurnedGamesRow : OpenClaim := { program := "ythnjbgncomoiiaa", sum := "58189cca7731f909e3a5da5eebe1ad46cad1a82f32514a8f69a33d8fe6dcdb5e", func := "loop.example/g01389/laws.FnExactTurnedGames", spec := "fnExactTurnedGames", unfollowed := true, recurses := true, plainKeys := false, apart := false }
def FnExactTurnedGamesSaid : Prop := fnExactTurnedGamesRow.holds Try.pinned (OpenSpec.ofChange fnExactTurnedGamesSpec)

/-- ITS FALSE NEIGHBOUR: 'it returns false'. Refute it at one input. -/
def fnExactTurnedGamesWrong : ChangeSpec := { name := "fnExactTurnedGames", fn := fun _ => fun
  | [d1, d2, d3] => { results := [.lit (.bool false)], args := [d1, d2, d3] }
  | _ => none }
def FnExactTurnedGamesWrongFalsely : Prop := fnExactTurnedGamesRow.holds Try.pinned (OpenSpec.ofChange fnExactTurnedGamesWrong)

/- THE SECOND FORM. 'bulk': how many values and letters a reading holds, each counted each time it is reached (what is shared counts as often as it is met; a slice's spare places count too). A statement '..UptoSaid' is the law's where the arguments, and the package variables that the reading takes, are together of bulk at most 1048576: NARROWER than '..Said'. Prove '..Said' where nothing that the law and all that it calls make is longer than what came in: it says more and counts as full. Else prove '..UptoSaid'. A law counts once. -/
mutual
def uptoBulk {H : Type} : DataW H → Nat
  | .lit (.string bytes) => bytes.length + 1
  | .lit _ => 1
  | .nil => 1
  | .ptr d => uptoBulk d + 1
  | .slice elems spare => uptoBulkAll elems + uptoBulkAll spare + 1
  | .agg parts => uptoBulkAll parts + 1
  | .iface _ d => uptoBulk d + 1
  | .map entries => uptoBulkEntries entries + 1
  | .held _ => 1
def uptoBulkAll {H : Type} : List (DataW H) → Nat
  | [] => 0
  | d :: r => uptoBulk d + uptoBulkAll r
def uptoBulkEntries {H : Type} : List (Lit × DataW H) → Nat
  | [] => 0
  | x :: r => uptoBulkEntry x + uptoBulkEntries r
def uptoBulkEntry {H : Type} : Lit × DataW H → Nat
  | (.string bytes, d) => bytes.length + uptoBulk d + 1
  | (_, d) => uptoBulk d + 1
 end
def uptoSmall : (H : Type) → List (DataW H) → Bool := fun _ ds => decide (uptoBulkAll ds ≤ 1048576)
def OpenSpec.upto (s : _root_.Go.ChangeSpec) : _root_.Go.OpenSpec := { _root_.Go.OpenSpec.ofChange s with cond := some uptoSmall }

/-- 'laws.FnExactLocalTime', WHERE WHAT IT READS IS OF BULK AT MOST 1048576: true; the input reads as it did. -/
def fnExactLocalTimeUptoRow : OpenClaim := { program := "ythnjbgncomoiiaa", sum := "58189cca7731f909e3a5da5eebe1ad46cad1a82f32514a8f69a33d8fe6dcdb5e", func := "loop.example/g01389/laws.FnExactLocalTime", spec := "fnExactLocalTime", plainKeys := false, apart := false, narrowed := true }
def FnExactLocalTimeUptoSaid : Prop := fnExactLocalTimeUptoRow.holds Try.pinned (OpenSpec.upto fnExactLocalTimeSpec)

/-- 'laws.FnExactAreClashes', WHERE WHAT IT READS IS OF BULK AT MOST 1048576: true; the input reads as it did. -/
def fnExactAreClashesUptoRow : OpenClaim := { program := "ythnjbgncomoiiaa", sum := "58189cca7731f909e3a5da5eebe1ad46cad1a82f32514a8f69a33d8fe6dcdb5e", func := "loop.example/g01389/laws.FnExactAreClashes", spec := "fnExactAreClashes", unfollowed := true, recurses := true, plainKeys := false, apart := false, narrowed := true }
def FnExactAreClashesUptoSaid : Prop := fnExactAreClashesUptoRow.holds Try.pinned (OpenSpec.upto fnExactAreClashesSpec)

/-- 'laws.FnExactAreTalks', WHERE WHAT IT READS IS OF BULK AT MOST 1048576: true; the input reads as it did. -/
def fnExactAreTalksUptoRow : OpenClaim := { program := "ythnjbgncomoiiaa", sum := "58189cca7731f909e3a5da5eebe1ad46cad1a82f32514a8f69a33d8fe6dcdb5e", func := "loop.example/g01389/laws.FnExactAreTalks", spec := "fnExactAreTalks", unfollowed := true, recurses := true, plainKeys := false, apart := false, narrowed := true }
def FnExactAreTalksUptoSaid : Prop := fnExactAreTalksUptoRow.holds Try.pinned (OpenSpec.upto fnExactAreTalksSpec)

/-- 'laws.FnExactCircleRounds', WHERE WHAT IT READS IS OF BULK AT MOST 1048576: true; the input reads as it did. -/
def fnExactCircleRoundsUptoRow : OpenClaim := { program := "ythnjbgncomoiiaa", sum := "58189cca7731f909e3a5da5eebe1ad46cad1a82f32514a8f69a33d8fe6dcdb5e", func := "loop.example/g01389/laws.FnExactCircleRounds", spec := "fnExactCircleRounds", unfollowed := true, recurses := true, plainKeys := false, apart := false, narrowed := true }
def FnExactCircleRoundsUptoSaid : Prop := fnExactCircleRoundsUptoRow.holds Try.pinned (OpenSpec.upto fnExactCircleRoundsSpec)

/-- 'laws.FnMeetings', WHERE WHAT IT READS IS OF BULK AT MOST 1048576: true; the input reads as it did. -/
def fnMeetingsUptoRow : OpenClaim := { program := "ythnjbgncomoiiaa", sum := "58189cca7731f909e3a5da5eebe1ad46cad1a82f32514a8f69a33d8fe6dcdb5e", func := "loop.example/g01389/laws.FnMeetings", spec := "fnMeetings", unfollowed := true, recurses := true, plainKeys := false, apart := false, narrowed := true }
def FnMeetingsUptoSaid : Prop := fnMeetingsUptoRow.holds Try.pinned (OpenSpec.upto fnMeetingsSpec)

/-- 'laws.FnExactMeetingTime', WHERE WHAT IT READS IS OF BULK AT MOST 1048576: true; the input reads as it did. -/
def fnExactMeetingTimeUptoRow : OpenClaim := { program := "ythnjbgncomoiiaa", sum := "58189cca7731f909e3a5da5eebe1ad46cad1a82f32514a8f69a33d8fe6dcdb5e", func := "loop.example/g01389/laws.FnExactMeetingTime", spec := "fnExactMeetingTime", unfollowed := true, recurses := true, plainKeys := false, apart := false, narrowed := true }
def FnExactMeetingTimeUptoSaid : Prop := fnExactMeetingTimeUptoRow.holds Try.pinned (OpenSpec.upto fnExactMeetingTimeSpec)

/-- 'laws.FnExactIsColour', WHERE WHAT IT READS IS OF BULK AT MOST 1048576: true; the input reads as it did. -/
def fnExactIsColourUptoRow : OpenClaim := { program := "ythnjbgncomoiiaa", sum := "58189cca7731f909e3a5da5eebe1ad46cad1a82f32514a8f69a33d8fe6dcdb5e", func := "loop.example/g01389/laws.FnExactIsColour", spec := "fnExactIsColour", unfollowed := true, recurses := true, plainKeys := false, apart := false, narrowed := true }
def FnExactIsColourUptoSaid : Prop := fnExactIsColourUptoRow.holds Try.pinned (OpenSpec.upto fnExactIsColourSpec)

/-- 'laws.FnExactAreRounds', WHERE WHAT IT READS IS OF BULK AT MOST 1048576: true; the input reads as it did. -/
def fnExactAreRoundsUptoRow : OpenClaim := { program := "ythnjbgncomoiiaa", sum := "58189cca7731f909e3a5da5eebe1ad46cad1a82f32514a8f69a33d8fe6dcdb5e", func := "loop.example/g01389/laws.FnExactAreRounds", spec := "fnExactAreRounds", unfollowed := true, recurses := true, plainKeys := false, apart := false, narrowed := true }
def FnExactAreRoundsUptoSaid : Prop := fnExactAreRoundsUptoRow.holds Try.pinned (OpenSpec.upto fnExactAreRoundsSpec)

/-- 'laws.FnExactMostAtOnce', WHERE WHAT IT READS IS OF BULK AT MOST 1048576: true; the input reads as it did. -/
def fnExactMostAtOnceUptoRow : OpenClaim := { program := "ythnjbgncomoiiaa", sum := "58189cca7731f909e3a5da5eebe1ad46cad1a82f32514a8f69a33d8fe6dcdb5e", func := "loop.example/g01389/laws.FnExactMostAtOnce", spec := "fnExactMostAtOnce", unfollowed := true, recurses := true, plainKeys := false, apart := false, narrowed := true }
def FnExactMostAtOnceUptoSaid : Prop := fnExactMostAtOnceUptoRow.holds Try.pinned (OpenSpec.upto fnExactMostAtOnceSpec)

/-- 'laws.FnExactCountBreaks', WHERE WHAT IT READS IS OF BULK AT MOST 1048576: true; the input reads as it did. -/
def fnExactCountBreaksUptoRow : OpenClaim := { program := "ythnjbgncomoiiaa", sum := "58189cca7731f909e3a5da5eebe1ad46cad1a82f32514a8f69a33d8fe6dcdb5e", func := "loop.example/g01389/laws.FnExactCountBreaks", spec := "fnExactCountBreaks", unfollowed := true, recurses := true, plainKeys := false, apart := false, narrowed := true }
def FnExactCountBreaksUptoSaid : Prop := fnExactCountBreaksUptoRow.holds Try.pinned (OpenSpec.upto fnExactCountBreaksSpec)

/-- 'laws.FnExactBackRounds', WHERE WHAT IT READS IS OF BULK AT MOST 1048576: true; the input reads as it did. -/
def fnExactBackRoundsUptoRow : OpenClaim := { program := "ythnjbgncomoiiaa", sum := "58189cca7731f909e3a5da5eebe1ad46cad1a82f32514a8f69a33d8fe6dcdb5e", func := "loop.example/g01389/laws.FnExactBackRounds", spec := "fnExactBackRounds", unfollowed := true, recurses := true, plainKeys := false, apart := false, narrowed := true }
def FnExactBackRoundsUptoSaid : Prop := fnExactBackRoundsUptoRow.holds Try.pinned (OpenSpec.upto fnExactBackRoundsSpec)

/-- 'laws.FnExactTurnedGames', WHERE WHAT IT READS IS OF BULK AT MOST 1048576: true; the input reads as it did. -/
def fnExactTurnedGamesUptoRow : OpenClaim := { program := "ythnjbgncomoiiaa", sum := "58189cca7731f909e3a5da5eebe1ad46cad1a82f32514a8f69a33d8fe6dcdb5e", func := "loop.example/g01389/laws.FnExactTurnedGames", spec := "fnExactTurnedGames", unfollowed := true, recurses := true, plainKeys := false, apart := false, narrowed := true }
def FnExactTurnedGamesUptoSaid : Prop := fnExactTurnedGamesUptoRow.holds Try.pinned (OpenSpec.upto fnExactTurnedGamesSpec)

end Rows
end Go.Proofs.Ythnjbgncomoiiaa
