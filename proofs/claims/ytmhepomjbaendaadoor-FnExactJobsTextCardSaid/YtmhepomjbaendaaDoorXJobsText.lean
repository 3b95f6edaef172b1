
/- The walk of FnExactJobsText. Conditions: the library's table of powers of ten stands. -/
import Derived.Test.YtmhepomjbaendaaDoorJobsTxt
import Derived.Test.YtmhepomjbaendaaDoorXRuleText
namespace Go.Proofs.YtmhepomjbaendaaDoor
open Go.RowKit Go.Shelf Go.BigFrame
set_option linter.unusedVariables false
set_option linter.unusedSimpArgs false

set_option maxHeartbeats 2000000 in
theorem walkFnExactJobsText (v0 : Value) (x0 : List Jb) (w : World) (w0 : SlR rJob w v0 x0) (hL : laidMetH Tryd.prog Rows.fnExactJobsTextRow.laid w) (hsh : w.ShapedOpen Tryd.prog) :
    Calls Tryd.prog 5 #[v0] w fun e w' => e = .returned (.bool true) ∧ Below w.heap.size w w' := by
  have ht := tab10_of (by kernel_rfl) ⟨_, _, rfl⟩ hL
  have HJ0 : Hid (∀ W, Below w.heap.size w W → JobsR W v0 x0) := fun W hW => JobsR.of w0 hW
  have HSZ := Lib.hid (szJobS_any v0 x0 1048576 w (JobsR.of w0 (Below.refl _ _)).jobs (by omega) (by omega))
  have HTO : Hid (x0.length ≤ 1048576 → ∀ W, Below w.heap.size w W → Calls Tryd.prog 15 #[v0] W fun e w' => (∃ v', e = .returned v' ∧ FreshR (rSl rJob) W.heap.size w' [v'] x0) ∧ Below W.heap.size W w') := fun h W hW => toJobS_any v0 x0 W (HJ0.out W hW) h
  have HI : Hid (∀ v W, Below w.heap.size w W → JobsR W v x0 → Calls Tryd.prog 16 #[v] W fun e w' => e = .returned (.tuple #[.string (jobsS x0), .bool (jobsOk x0)]) ∧ Below W.heap.size W w') := fun v W hW hj => implJobsText_any v x0 W hj (ht.below hW)
  have HS : Hid (∀ v W, JobsR W v x0 → Calls Tryd.prog 14 #[v] W fun e w' => e = .returned (.tuple #[.string (jobsS x0), .bool (jobsOk x0)]) ∧ Below W.heap.size W w') := fun v W hj => specJobsText_any v x0 W hj
  have HEQ : Hid (∀ v u W, JobsR W v x0 → JobsR W u x0 → Calls Tryd.prog 17 #[v, u] W fun e w' => e = .returned (.bool true) ∧ Below W.heap.size W w') := fun v u W hv hu => by
    have := eqJobS_any v u x0 x0 W hv.jobs hu.jobs
    simpa using this
  have HFR : Hid (∀ N W W' v, FreshR (rSl rJob) N W [v] x0 → Below W.heap.size W W' → JobsR W' v x0) := fun N W W' v h hb => JobsR.of_fresh h hb
  obtain ⟨T, hT⟩ : ∃ T, jobsS x0 = T := ⟨_, rfl⟩
  obtain ⟨K, hK⟩ : ∃ T, jobsOk x0 = T := ⟨_, rfl⟩
  rw [hT, hK] at HI HS
  obtain ⟨a, c, rfl, hcap, _⟩ := (JobsR.of w0 (Below.refl _ _)).jobs.at_
  clear hT hK hL hsh ht w0
  go_enter Tryd.func5, Tryd.ntmps5
  go_wp2_with fail
  refine HSZ.out.mono ?_
  rintro e w' ⟨⟨r, rfl, hr⟩, rfl⟩
  by_cases hn : r < 0
  · go_wp2
    go_ret
    exact ⟨rfl, Below.refl _ _⟩
  have HT1 := Lib.hid (HTO.out (by rcases hr with h | h; omega; exact h.2.2))
  clear HTO hr HSZ
  go_wp2_with fail
  refine (HT1.out _ (Below.refl _ _)).mono ?_
  rintro e W1 ⟨⟨v1, rfl, hf1⟩, hb1⟩
  have B1 := Lib.hid hb1
  have HS1 := Lib.hid (HS.out v1 W1 (HFR.out _ _ _ _ hf1 (Below.refl _ _)))
  clear hb1 hf1 HS
  go_wp2_with fail
  refine HS1.out.mono ?_
  rintro e W2 ⟨rfl, hb2⟩
  have B2 := Lib.hid (B1.out.trans (hb2.mono B1.out.size))
  clear hb2 B1 HS1
  go_wp2_with fail
  refine (HT1.out _ B2.out).mono ?_
  rintro e W3 ⟨⟨v3, rfl, hf3⟩, hb3⟩
  have B3 := Lib.hid (B2.out.trans (hb3.mono B2.out.size))
  have HV3 : Hid (∀ W, Below W3.heap.size W3 W → JobsR W v3 x0) := fun W hW => HFR.out _ _ _ _ hf3 hW
  have HI3 := Lib.hid (HI.out v3 W3 B3.out (HV3.out _ (Below.refl _ _)))
  clear hb3 hf3 B2 HI
  go_wp2_with fail
  refine HI3.out.mono ?_
  rintro e W4 ⟨rfl, hb4⟩
  have B4 := Lib.hid (B3.out.trans (hb4.mono B3.out.size))
  have HV4 : Hid (∀ W, Below W4.heap.size W4 W → JobsR W v3 x0) := fun W hW => HV3.out W (hb4.trans (hW.mono hb4.size))
  clear hb4 B3 HI3 HV3
  cases K
  all_goals
    go_wp2_with fail
    refine (HT1.out _ B4.out).mono ?_
    rintro e W5 ⟨⟨v5, rfl, hf5⟩, hb5⟩
    have B5 := Lib.hid (B4.out.trans (hb5.mono B4.out.size))
    have HQ := Lib.hid (HEQ.out v3 v5 W5 (HV4.out _ hb5) (HFR.out _ _ _ _ hf5 (Below.refl _ _)))
    clear hb5 hf5
    go_wp2_with fail
    refine HQ.out.mono ?_
    rintro e W6 ⟨rfl, hb6⟩
    have B6 := Lib.hid (B5.out.trans (hb6.mono B5.out.size))
    clear hb6
    go_wp2
    go_ret
    exact ⟨rfl, B6.out⟩
end Go.Proofs.YtmhepomjbaendaaDoor
