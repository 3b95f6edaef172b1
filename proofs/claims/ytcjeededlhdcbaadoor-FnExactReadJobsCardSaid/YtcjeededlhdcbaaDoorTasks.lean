
/- Tasks: how they read; the laws' szTask, toTask, eqTask and those over lists. Conditions: at most 2^20 numbers. -/
import Derived.Test.YtcjeededlhdcbaaDoorRead
import Derived.Test.YtcjeededlhdcbaaDoorDeskLaw
import Derived.StillTailTactics
namespace Go.Proofs.YtcjeededlhdcbaaDoor
open Go.RowKit
set_option linter.unusedVariables false
set_option linter.unusedSimpArgs false

abbrev Tk := Int × Int × List Int × List Int
def rTask : Rdr Tk := rPair rInt (rPair rInt (rPair (rSl rInt) (rSl rInt)))
theorem task_cells {w : World} {cs : List Value} {x : Tk} : rTask.R w cs x ↔ ∃ vb vl, cs = [.int .i64 x.1, .int .i64 x.2.1, vb, vl] ∧ (Lit.int .i64 x.1).wf = true ∧ (Lit.int .i64 x.2.1).wf = true ∧ SlR rInt w vb x.2.2.1 ∧ SlR rInt w vl x.2.2.2 := by
  constructor
  · rintro ⟨c1, c2, rfl, ⟨rfl, h1⟩, c3, c4, rfl, ⟨rfl, h2⟩, c5, c6, rfl, ⟨vb, rfl, h3⟩, vl, rfl, h4⟩
    exact ⟨vb, vl, rfl, h1, h2, h3, h4⟩
  · rintro ⟨vb, vl, rfl, h1, h2, h3, h4⟩
    exact ⟨_, _, rfl, ⟨rfl, h1⟩, _, _, rfl, ⟨rfl, h2⟩, _, _, rfl, ⟨vb, rfl, h3⟩, vl, rfl, h4⟩
abbrev TasksR (w : World) (v : Value) (xs : List Tk) : Prop := SlR rTask w v xs
theorem rTask_size : rTask.size = 4 := rfl
/-- The four cells of a task. -/
theorem TasksR.at_ {w : World} {v : Value} {xs : List Tk} (h : TasksR w v xs) : ∃ a c, v = .slice a xs.length c ∧ xs.length ≤ c ∧ ∀ i (hi : i < xs.length), ∃ b o vb vl, a = some ⟨b, o, none⟩ ∧ b < w.heap.size ∧ SlR rInt w vb xs[i].2.2.1 ∧ SlR rInt w vl xs[i].2.2.2 ∧ (Lit.int .i64 xs[i].1).wf = true ∧ (Lit.int .i64 xs[i].2.1).wf = true ∧
    w.cell? ⟨b, o + i * 4, none⟩ = some (.int .i64 xs[i].1) ∧ w.cell? ⟨b, o + i * 4 + 1, none⟩ = some (.int .i64 xs[i].2.1) ∧ w.cell? ⟨b, o + i * 4 + 2, none⟩ = some vb ∧ w.cell? ⟨b, o + i * 4 + 3, none⟩ = some vl := by
  obtain ⟨hm, a, c, hv, hcap, hc⟩ := h
  refine ⟨a, c, hv, hcap, fun i hi => ?_⟩
  obtain ⟨b, o, cs, ha, hbs, hr, hcell⟩ := hc i hi
  obtain ⟨vb, vl, rfl, h1, h2, h3, h4⟩ := task_cells.1 hr
  refine ⟨b, o, vb, vl, ha, hbs, h3, h4, h1, h2, ?_, ?_, ?_, ?_⟩
  · exact hcell 0 (by simp)
  · exact hcell 1 (by simp)
  · exact hcell 2 (by simp)
  · exact hcell 3 (by simp)

/-- No more numbers than a machine can copy at once. -/
def smallTask (x : Tk) : Prop := x.2.2.1.length ≤ 1048576 ∧ x.2.2.2.length ≤ 1048576
def smallTasks (xs : List Tk) : Prop := xs.length ≤ 1048576 ∧ ∀ x ∈ xs, smallTask x


end Go.Proofs.YtcjeededlhdcbaaDoor
