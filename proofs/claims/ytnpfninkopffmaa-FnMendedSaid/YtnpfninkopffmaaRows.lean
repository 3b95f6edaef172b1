/-
  No cell of these rows narrows 'for every input' (looked for: loops, veiled, ifaces, maps, wideKeys, modest, calm, conditions, laid).
  DERIVED. THE GIVEN ROWS OF THIS SEAT. 7 by the template 'for every input the law returns true; each argument reads behind the call as it read before'; 0 by the template 'total and deterministic' (their statements: YtnpfninkopffmaaTotals.lean).
  GIVEN WITH THE SEED: the statements are not yours to turn. If you find one false, say at which input.
  Laid BY PROGRAM, IN A SANDBOX (cutbox-rows.mjs): the forced cells as the released guide's own fill.sh prints them over the translation de18b27dee4fed05… (all of the seat's roots in one cut). By AI agents, Wed Nov 11 2026. No macro, syntax, notation, axiom, sorry.
-/
import Derived.Test.YtnpfninkopffmaaChecked
import GoSem.Claim
import GoSem.ClaimJoined
import GoSem.ClaimMapViews
import Derived.JoinedTies
import Derived.KernelRfl
namespace Go.Proofs.Ytnpfninkopffmaa
/- THE CELL 'sum', in the pinned program and in every row, IS THE sha256 OF THE DUMP (.gsa) THAT YtnpfninkopffmaaProg.lean LOADS. Nothing in Lean hashes anything: it is a label: what it is worth is what the hold of that sum in a sandbox is worth. -/
noncomputable def Try.pinned : Pinned := { name := "ytnpfninkopffmaa", sum := "de18b27dee4fed0576a192b0394fe0dba0d11e59686032ff7455a97a026ca93a", checked := Try.checked }
namespace Rows
def none {H : Type} : Left H := { results := [], args := [] }

/-- 'laws.FnExactFreeTime': WHATEVER THE INPUT: true; the input reads as it did. -/
def fnExactFreeTimeSpec : ChangeSpec := { name := "fnExactFreeTime", fn := fun _ => fun
  | [d1, d2, d3, d4] => { results := [.lit (.bool true)], args := [d1, d2, d3, d4] }
  | _ => none }
def fnExactFreeTimeRow : OpenClaim := { program := "ytnpfninkopffmaa", sum := "de18b27dee4fed0576a192b0394fe0dba0d11e59686032ff7455a97a026ca93a", func := "loop.example/g01389/laws.FnExactFreeTime", spec := "fnExactFreeTime", unfollowed := true, recurses := true, apart := false }
def FnExactFreeTimeSaid : Prop := fnExactFreeTimeRow.holds Try.pinned (OpenSpec.ofChange fnExactFreeTimeSpec)

/-- ITS FALSE NEIGHBOUR: 'it returns false'. Refute it at one input. -/
def fnExactFreeTimeWrong : ChangeSpec := { name := "fnExactFreeTime", fn := fun _ => fun
  | [d1, d2, d3, d4] => { results := [.lit (.bool false)], args := [d1, d2, d3, d4] }
  | _ => none }
def FnExactFreeTimeWrongFalsely : Prop := fnExactFreeTimeRow.holds Try.pinned (OpenSpec.ofChange fnExactFreeTimeWrong)

/-- 'laws.FnExactMostTalks': WHATEVER THE INPUT: true; the input reads as it did. -/
def fnExactMostTalksSpec : ChangeSpec := { name := "fnExactMostTalks", fn := fun _ => fun
  | [d] => { results := [.lit (.bool true)], args := [d] }
  | _ => none }
def fnExactMostTalksRow : OpenClaim := { program := "ytnpfninkopffmaa", sum := "de18b27dee4fed0576a192b0394fe0dba0d11e59686032ff7455a97a026ca93a", func := "loop.example/g01389/laws.FnExactMostTalks", spec := "fnExactMostTalks", unfollowed := true, recurses := true, apart := false }
def FnExactMostTalksSaid : Prop := fnExactMostTalksRow.holds Try.pinned (OpenSpec.ofChange fnExactMostTalksSpec)

/-- ITS FALSE NEIGHBOUR: 'it returns false'. Refute it at one input. -/
def fnExactMostTalksWrong : ChangeSpec := { name := "fnExactMostTalks", fn := fun _ => fun
  | [d] => { results := [.lit (.bool false)], args := [d] }
  | _ => none }
def FnExactMostTalksWrongFalsely : Prop := fnExactMostTalksRow.holds Try.pinned (OpenSpec.ofChange fnExactMostTalksWrong)

/-- 'laws.FnExactRoomsOf': WHATEVER THE INPUT: true; the input reads as it did. -/
def fnExactRoomsOfSpec : ChangeSpec := { name := "fnExactRoomsOf", fn := fun _ => fun
  | [d] => { results := [.lit (.bool true)], args := [d] }
  | _ => none }
def fnExactRoomsOfRow : OpenClaim := { program := "ytnpfninkopffmaa", sum := "de18b27dee4fed0576a192b0394fe0dba0d11e59686032ff7455a97a026ca93a", func := "loop.example/g01389/laws.FnExactRoomsOf", spec := "fnExactRoomsOf", unfollowed := true, recurses := true, apart := false }
def FnExactRoomsOfSaid : Prop := fnExactRoomsOfRow.holds Try.pinned (OpenSpec.ofChange fnExactRoomsOfSpec)

/-- ITS FALSE NEIGHBOUR: 'it returns false'. Refute it at one input. -/
def fnExactRoomsOfWrong : ChangeSpec := { name := "fnExactRoomsOf", fn := fun _ => fun
  | [d] => { results := [.lit (.bool false)], args := [d] }
  | _ => none }
def FnExactRoomsOfWrongFalsely : Prop := fnExactRoomsOfRow.holds Try.pinned (OpenSpec.ofChange fnExactRoomsOfWrong)

/-- 'laws.FnTalks': WHATEVER THE INPUT: true; the input reads as it did. -/
def fnTalksSpec : ChangeSpec := { name := "fnTalks", fn := fun _ => fun
  | [d1, d2] => { results := [.lit (.bool true)], args := [d1, d2] }
  | _ => none }
def fnTalksRow : OpenClaim := { program := "ytnpfninkopffmaa", sum := "de18b27dee4fed0576a192b0394fe0dba0d11e59686032ff7455a97a026ca93a", func := "loop.example/g01389/laws.FnTalks", spec := "fnTalks", unfollowed := true, recurses := true, apart := false }
def FnTalksSaid : Prop := fnTalksRow.holds Try.pinned (OpenSpec.ofChange fnTalksSpec)

/-- ITS FALSE NEIGHBOUR: 'it returns false'. Refute it at one input. -/
def fnTalksWrong : ChangeSpec := { name := "fnTalks", fn := fun _ => fun
  | [d1, d2] => { results := [.lit (.bool false)], args := [d1, d2] }
  | _ => none }
def FnTalksWrongFalsely : Prop := fnTalksRow.holds Try.pinned (OpenSpec.ofChange fnTalksWrong)

/-- 'laws.FnExactMendPlan': WHATEVER THE INPUT: true; the input reads as it did. -/
def fnExactMendPlanSpec : ChangeSpec := { name := "fnExactMendPlan", fn := fun _ => fun
  | [d1, d2, d3, d4, d5] => { results := [.lit (.bool true)], args := [d1, d2, d3, d4, d5] }
  | _ => none }
def fnExactMendPlanRow : OpenClaim := { program := "ytnpfninkopffmaa", sum := "de18b27dee4fed0576a192b0394fe0dba0d11e59686032ff7455a97a026ca93a", func := "loop.example/g01389/laws.FnExactMendPlan", spec := "fnExactMendPlan", unfollowed := true, recurses := true, apart := false }
def FnExactMendPlanSaid : Prop := fnExactMendPlanRow.holds Try.pinned (OpenSpec.ofChange fnExactMendPlanSpec)

/-- ITS FALSE NEIGHBOUR: 'it returns false'. Refute it at one input. -/
def fnExactMendPlanWrong : ChangeSpec := { name := "fnExactMendPlan", fn := fun _ => fun
  | [d1, d2, d3, d4, d5] => { results := [.lit (.bool false)], args := [d1, d2, d3, d4, d5] }
  | _ => none }
def FnExactMendPlanWrongFalsely : Prop := fnExactMendPlanRow.holds Try.pinned (OpenSpec.ofChange fnExactMendPlanWrong)

/-- 'laws.FnMended': WHATEVER THE INPUT: true; the input reads as it did. -/
def fnMendedSpec : ChangeSpec := { name := "fnMended", fn := fun _ => fun
  | [d1, d2] => { results := [.lit (.bool true)], args := [d1, d2] }
  | _ => none }
def fnMendedRow : OpenClaim := { program := "ytnpfninkopffmaa", sum := "de18b27dee4fed0576a192b0394fe0dba0d11e59686032ff7455a97a026ca93a", func := "loop.example/g01389/laws.FnMended", spec := "fnMended", unfollowed := true, recurses := true, apart := false }
def FnMendedSaid : Prop := fnMendedRow.holds Try.pinned (OpenSpec.ofChange fnMendedSpec)

/-- ITS FALSE NEIGHBOUR: 'it returns false'. Refute it at one input. -/
def fnMendedWrong : ChangeSpec := { name := "fnMended", fn := fun _ => fun
  | [d1, d2] => { results := [.lit (.bool false)], args := [d1, d2] }
  | _ => none }
def FnMendedWrongFalsely : Prop := fnMendedRow.holds Try.pinned (OpenSpec.ofChange fnMendedWrong)

/-- 'laws.FnBestJobs': WHATEVER THE INPUT: true; the input reads as it did. -/
def fnBestJobsSpec : ChangeSpec := { name := "fnBestJobs", fn := fun _ => fun
  | [d1, d2] => { results := [.lit (.bool true)], args := [d1, d2] }
  | _ => none }
def fnBestJobsRow : OpenClaim := { program := "ytnpfninkopffmaa", sum := "de18b27dee4fed0576a192b0394fe0dba0d11e59686032ff7455a97a026ca93a", func := "loop.example/g01389/laws.FnBestJobs", spec := "fnBestJobs", unfollowed := true, recurses := true, apart := false }
def FnBestJobsSaid : Prop := fnBestJobsRow.holds Try.pinned (OpenSpec.ofChange fnBestJobsSpec)

/-- ITS FALSE NEIGHBOUR: 'it returns false'. Refute it at one input. -/
def fnBestJobsWrong : ChangeSpec := { name := "fnBestJobs", fn := fun _ => fun
  | [d1, d2] => { results := [.lit (.bool false)], args := [d1, d2] }
  | _ => none }
def FnBestJobsWrongFalsely : Prop := fnBestJobsRow.holds Try.pinned (OpenSpec.ofChange fnBestJobsWrong)

/- THE SECOND FORM. 'bulk': how many values and letters a reading holds, each counted each time it is reached (what is shared counts as often as it is met; a slice's spare places count too). A statement '..UptoSaid' is the law's where the arguments, and the package variables that the reading takes, are together of bulk at most 1048576: NARROWER than '..Said'. Prove '..Said' where nothing that the law and all that it calls make is longer than what came in: it says more and counts as full. Else prove '..UptoSaid'. A law counts once. -/
mutual
def uptoBulk {H : Type} : DataW H → Nat
  | .lit (.string bytes) => bytes.length + 1
  | .lit _ => 1
  | .nil => 1
  | .ptr d => uptoBulk d + 1
  | .slice elems spare => uptoBulkAll elems + uptoBulkAll spare + 1
  | .agg parts => uptoBulkAll parts + 1
  | .iface _ d => uptoBulk d + 1
  | .map entries => uptoBulkEntries entries + 1
  | .held _ => 1
def uptoBulkAll {H : Type} : List (DataW H) → Nat
  | [] => 0
  | d :: r => uptoBulk d + uptoBulkAll r
def uptoBulkEntries {H : Type} : List (Lit × DataW H) → Nat
  | [] => 0
  | x :: r => uptoBulkEntry x + uptoBulkEntries r
def uptoBulkEntry {H : Type} : Lit × DataW H → Nat
  | (.string bytes, d) => bytes.length + uptoBulk d + 1
  | (_, d) => uptoBulk d + 1
 end
def uptoSmall : (H : Type) → List (DataW H) → Bool := fun _ ds => decide (uptoBulkAll ds ≤ 1048576)
def OpenSpec.upto (s : _root_.Go.ChangeSpec) : _root_.Go.OpenSpec := { _root_.Go.OpenSpec.ofChange s with cond := some uptoSmall }

/-- 'laws.FnExactFreeTime', WHERE WHAT IT READS IS OF BULK AT MOST 1048576: true; the input reads as it did. -/
def fnExactFreeTimeUptoRow : OpenClaim := { program := "ytnpfninkopffmaa", sum := "de18b27dee4fed0576a192b0394fe0dba0d11e59686032ff7455a97a026ca93a", func := "loop.example/g01389/laws.FnExactFreeTime", spec := "fnExactFreeTime", unfollowed := true, recurses := true, apart := false, narrowed := true }
def FnExactFreeTimeUptoSaid : Prop := fnExactFreeTimeUptoRow.holds Try.pinned (OpenSpec.upto fnExactFreeTimeSpec)

/-- 'laws.FnExactMostTalks', WHERE WHAT IT READS IS OF BULK AT MOST 1048576: true; the input reads as it did. -/
def fnExactMostTalksUptoRow : OpenClaim := { program := "ytnpfninkopffmaa", sum := "de18b27dee4fed0576a192b0394fe0dba0d11e59686032ff7455a97a026ca93a", func := "loop.example/g01389/laws.FnExactMostTalks", spec := "fnExactMostTalks", unfollowed := true, recurses := true, apart := false, narrowed := true }
def FnExactMostTalksUptoSaid : Prop := fnExactMostTalksUptoRow.holds Try.pinned (OpenSpec.upto fnExactMostTalksSpec)

/-- 'laws.FnExactRoomsOf', WHERE WHAT IT READS IS OF BULK AT MOST 1048576: true; the input reads as it did. -/
def fnExactRoomsOfUptoRow : OpenClaim := { program := "ytnpfninkopffmaa", sum := "de18b27dee4fed0576a192b0394fe0dba0d11e59686032ff7455a97a026ca93a", func := "loop.example/g01389/laws.FnExactRoomsOf", spec := "fnExactRoomsOf", unfollowed := true, recurses := true, apart := false, narrowed := true }
def FnExactRoomsOfUptoSaid : Prop := fnExactRoomsOfUptoRow.holds Try.pinned (OpenSpec.upto fnExactRoomsOfSpec)

/-- 'laws.FnTalks', WHERE WHAT IT READS IS OF BULK AT MOST 1048576: true; the input reads as it did. -/
def fnTalksUptoRow : OpenClaim := { program := "ytnpfninkopffmaa", sum := "de18b27dee4fed0576a192b0394fe0dba0d11e59686032ff7455a97a026ca93a", func := "loop.example/g01389/laws.FnTalks", spec := "fnTalks", unfollowed := true, recurses := true, apart := false, narrowed := true }
def FnTalksUptoSaid : Prop := fnTalksUptoRow.holds Try.pinned (OpenSpec.upto fnTalksSpec)

/-- 'laws.FnExactMendPlan', WHERE WHAT IT READS IS OF BULK AT MOST 1048576: true; the input reads as it did. -/
def fnExactMendPlanUptoRow : OpenClaim := { program := "ytnpfninkopffmaa", sum := "de18b27dee4fed0576a192b0394fe0dba0d11e59686032ff7455a97a026ca93a", func := "loop.example/g01389/laws.FnExactMendPlan", spec := "fnExactMendPlan", unfollowed := true, recurses := true, apart := false, narrowed := true }
def FnExactMendPlanUptoSaid : Prop := fnExactMendPlanUptoRow.holds Try.pinned (OpenSpec.upto fnExactMendPlanSpec)

/-- 'laws.FnMended', WHERE WHAT IT READS IS OF BULK AT MOST 1048576: true; the input reads as it did. -/
def fnMendedUptoRow : OpenClaim := { program := "ytnpfninkopffmaa", sum := "de18b27dee4fed0576a192b0394fe0dba0d11e59686032ff7455a97a026ca93a", func := "loop.example/g01389/laws.FnMended", spec := "fnMended", unfollowed := true, recurses := true, apart := false, narrowed := true }
def FnMendedUptoSaid : Prop := fnMendedUptoRow.holds Try.pinned (OpenSpec.upto fnMendedSpec)

/-- 'laws.FnBestJobs', WHERE WHAT IT READS IS OF BULK AT MOST 1048576: true; the input reads as it did. -/
def fnBestJobsUptoRow : OpenClaim := { program := "ytnpfninkopffmaa", sum := "de18b27dee4fed0576a192b0394fe0dba0d11e59686032ff7455a97a026ca93a", func := "loop.example/g01389/laws.FnBestJobs", spec := "fnBestJobs", unfollowed := true, recurses := true, apart := false, narrowed := true }
def FnBestJobsUptoSaid : Prop := fnBestJobsUptoRow.holds Try.pinned (OpenSpec.upto fnBestJobsSpec)

end Rows
end Go.Proofs.Ytnpfninkopffmaa
