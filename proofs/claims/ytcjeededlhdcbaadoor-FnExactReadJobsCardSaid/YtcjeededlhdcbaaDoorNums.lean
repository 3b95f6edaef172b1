
/- Contracts of the small functions on integers: ranges, zones, local times. Conditions: none beyond those named. -/
import Derived.Test.YtcjeededlhdcbaaDoorBase
namespace Go.Proofs.YtcjeededlhdcbaaDoor
open Go.RowKit
set_option linter.unusedVariables false
set_option linter.unusedSimpArgs false

theorem within_any (n lo hi : Int) (w : World) : Calls Tryd.prog 37 #[.int .i64 n, .int .i64 lo, .int .i64 hi] w fun e w' => e = .returned (.bool (win n lo hi)) ∧ w = w' := by
  go_enter Tryd.func37, Tryd.ntmps37
  go_wp2
  all_goals
    go_ret
    refine ⟨?_, rfl⟩
    unfold win
    simp [*]
    try omega

theorem l00In_any (n lo hi : Int) (w : World) : Calls Tryd.prog 58 #[.int .i64 n, .int .i64 lo, .int .i64 hi] w fun e w' => e = .returned (.bool (win n lo hi)) ∧ w = w' := by
  go_enter Tryd.func58, Tryd.ntmps58
  go_wp2
  all_goals
    go_ret
    refine ⟨?_, rfl⟩
    unfold win
    simp [*]
    try omega

end Go.Proofs.YtcjeededlhdcbaaDoor
