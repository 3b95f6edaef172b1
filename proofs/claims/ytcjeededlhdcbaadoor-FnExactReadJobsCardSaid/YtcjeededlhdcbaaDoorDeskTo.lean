
/- Desks: how they read; the laws' szDesk, toDesk. Conditions: at most 2^20 numbers. -/
import Derived.Test.YtcjeededlhdcbaaDoorTasksTo
import Derived.Test.YtcjeededlhdcbaaDoorDeskLaw
namespace Go.Proofs.YtcjeededlhdcbaaDoor
open Go.RowKit
set_option linter.unusedVariables false
set_option linter.unusedSimpArgs false

def rJob : Rdr Jb := rPair rInt (rPair rInt (rPair rInt rInt))
def jobWf (j : Jb) : Prop := (Lit.int .i64 j.1).wf = true ∧ (Lit.int .i64 j.2.1).wf = true ∧ (Lit.int .i64 j.2.2.1).wf = true ∧ (Lit.int .i64 j.2.2.2).wf = true
theorem job_cells {w : World} {cs : List Value} {x : Jb} : rJob.R w cs x ↔ cs = jbCells x ∧ jobWf x := by
  constructor
  · rintro ⟨c1, c2, rfl, ⟨rfl, h1⟩, c3, c4, rfl, ⟨rfl, h2⟩, c5, c6, rfl, ⟨rfl, h3⟩, rfl, h4⟩
    exact ⟨rfl, h1, h2, h3, h4⟩
  · rintro ⟨rfl, h1, h2, h3, h4⟩
    exact ⟨_, _, rfl, ⟨rfl, h1⟩, _, _, rfl, ⟨rfl, h2⟩, _, _, rfl, ⟨rfl, h3⟩, rfl, h4⟩
abbrev JobsR (w : World) (v : Value) (xs : List Jb) : Prop := SlR rJob w v xs
theorem JobsR.jobs {w : World} {v : Value} {xs : List Jb} (h : JobsR w v xs) : Jobs w v xs := by
  obtain ⟨hm, a, c, hv, hcap, hc⟩ := h
  refine ⟨hm, a, c, hv, hcap, fun i hi => ?_⟩
  obtain ⟨b, o, cs, ha, hbs, hr, hcell⟩ := hc i hi
  obtain ⟨rfl, _⟩ := job_cells.1 hr
  exact ⟨b, o, ha, hbs, hcell⟩
theorem JobsR.wf {w : World} {v : Value} {xs : List Jb} (h : JobsR w v xs) : ∀ i (hi : i < xs.length), jobWf xs[i] := fun i hi => by
  obtain ⟨hm, a, c, hv, hcap, hc⟩ := h
  obtain ⟨b, o, cs, ha, hbs, hr, hcell⟩ := hc i hi
  exact (job_cells.1 hr).2
theorem Jobs.at_ {w : World} {v : Value} {xs : List Jb} (h : Jobs w v xs) : ∃ a c, v = .slice a xs.length c ∧ xs.length ≤ c ∧ ∀ i (hi : i < xs.length), ∃ b o, a = some ⟨b, o, none⟩ ∧ b < w.heap.size ∧
    w.cell? ⟨b, o + i * 4, none⟩ = some (.int .i64 xs[i].1) ∧ w.cell? ⟨b, o + i * 4 + 1, none⟩ = some (.int .i64 xs[i].2.1) ∧ w.cell? ⟨b, o + i * 4 + 2, none⟩ = some (.int .i64 xs[i].2.2.1) ∧ w.cell? ⟨b, o + i * 4 + 3, none⟩ = some (.int .i64 xs[i].2.2.2) := by
  obtain ⟨hm, a, c, hv, hcap, hc⟩ := h
  refine ⟨a, c, hv, hcap, fun i hi => ?_⟩
  obtain ⟨b, o, ha, hbs, hcell⟩ := hc i hi
  exact ⟨b, o, ha, hbs, hcell 0 (by simp [jbCells]), hcell 1 (by simp [jbCells]), hcell 2 (by simp [jbCells]), hcell 3 (by simp [jbCells])⟩
def rRule : Rdr Rl := rPair rInt (rPair rInt (rPair rInt (rPair rInt rInt)))
abbrev Dk := List Jb × Rl × List Int × ByteArray
def rDesk : Rdr Dk := rPair (rSl rJob) (rPair rRule (rPair (rSl rInt) rStr))
def deskCells (vj : Value) (r : Rl) (vc : Value) (p : ByteArray) : List Value := [vj, .int .i64 r.1, .int .i64 r.2.1, .int .i64 r.2.2.1, .int .i64 r.2.2.2.1, .int .i64 r.2.2.2.2, vc, .string p]
def ruleWf (r : Rl) : Prop := (Lit.int .i64 r.1).wf = true ∧ (Lit.int .i64 r.2.1).wf = true ∧ (Lit.int .i64 r.2.2.1).wf = true ∧ (Lit.int .i64 r.2.2.2.1).wf = true ∧ (Lit.int .i64 r.2.2.2.2).wf = true
theorem rule_cells {w : World} {cs : List Value} {r : Rl} : rRule.R w cs r ↔ cs = [.int .i64 r.1, .int .i64 r.2.1, .int .i64 r.2.2.1, .int .i64 r.2.2.2.1, .int .i64 r.2.2.2.2] ∧ ruleWf r := by
  constructor
  · rintro ⟨_, _, rfl, ⟨rfl, h1⟩, _, _, rfl, ⟨rfl, h2⟩, _, _, rfl, ⟨rfl, h3⟩, _, _, rfl, ⟨rfl, h4⟩, rfl, h5⟩
    exact ⟨rfl, h1, h2, h3, h4, h5⟩
  · rintro ⟨rfl, h1, h2, h3, h4, h5⟩
    exact ⟨_, _, rfl, ⟨rfl, h1⟩, _, _, rfl, ⟨rfl, h2⟩, _, _, rfl, ⟨rfl, h3⟩, _, _, rfl, ⟨rfl, h4⟩, rfl, h5⟩
theorem desk_cells {w : World} {cs : List Value} {x : Dk} : rDesk.R w cs x ↔ ∃ vj vc, cs = deskCells vj x.2.1 vc x.2.2.2 ∧ JobsR w vj x.1 ∧ ruleWf x.2.1 ∧ SlR rInt w vc x.2.2.1 ∧ x.2.2.2.size ≤ maxLen := by
  constructor
  · rintro ⟨_, _, rfl, ⟨vj, rfl, h1⟩, _, _, rfl, h2, _, _, rfl, ⟨vc, rfl, h3⟩, rfl, h4⟩
    obtain ⟨rfl, h5⟩ := rule_cells.1 h2
    exact ⟨vj, vc, rfl, h1, h5, h3, h4⟩
  · rintro ⟨vj, vc, rfl, h1, h2, h3, h4⟩
    exact ⟨_, _, rfl, ⟨vj, rfl, h1⟩, _, _, rfl, rule_cells.2 ⟨rfl, h2⟩, _, _, rfl, ⟨vc, rfl, h3⟩, rfl, h4⟩
theorem deskV_cells (vj : Value) (r : Rl) (vc : Value) (p : ByteArray) : deskV vj r vc p = .agg (deskCells vj r vc p).toArray := rfl
def smallDesk (x : Dk) : Prop := x.1.length ≤ 1048576 ∧ x.2.2.1.length ≤ 1048576 ∧ x.2.2.2.size ≤ 1048576

theorem info_job : (Tryd.prog.info? 60).map (fun i => (i.zero, i.size, i.bytes)) = some (some (.agg #[.int .i64 0, .int .i64 0, .int .i64 0, .int .i64 0]), 4, 32) := by kernel_rfl

end Go.Proofs.YtcjeededlhdcbaaDoor
