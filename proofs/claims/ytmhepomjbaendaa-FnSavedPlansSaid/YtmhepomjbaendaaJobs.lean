
/- Slices of structs of some cells; jobs; the laws' eqJob, eqJobS. Conditions: none. -/
import Derived.Test.YtmhepomjbaendaaMarks
import Derived.StillTailTactics
namespace Go.Proofs.Ytmhepomjbaendaa
open Go.RowKit
set_option linter.unusedVariables false
set_option linter.unusedSimpArgs false

/-- The slice value v reads as the list xs, k cells an element. -/
def SlN {α : Type} (k : Nat) (enc : α → List Value) (w : World) (v : Value) (xs : List α) : Prop :=
  xs.length ≤ maxLen ∧ ∃ a c, v = .slice a xs.length c ∧ xs.length ≤ c ∧ ∀ i (h : i < xs.length), ∃ b o, a = some ⟨b, o, none⟩ ∧ b < w.heap.size ∧ ∀ j (hj : j < (enc xs[i]).length), w.cell? ⟨b, o + (i * k + j), none⟩ = some (enc xs[i])[j]
theorem SlN.below {α : Type} {k : Nat} {enc : α → List Value} {w w' : World} {v : Value} {xs : List α} {B : Nat} (h : SlN k enc w v xs) (hb : Below B w w') (hB : w.heap.size ≤ B) : SlN k enc w' v xs := by
  obtain ⟨hm, a, c, hv, hcap, hc⟩ := h
  refine ⟨hm, a, c, hv, hcap, fun i hi => ?_⟩
  obtain ⟨b, o, ha, hbs, hcell⟩ := hc i hi
  exact ⟨b, o, ha, by have := hb.size; omega, fun j hj => (hb.cell (p := ⟨b, o + (i * k + j), none⟩) (by show b < B; omega)).trans (hcell j hj)⟩

abbrev Jb := Int × Int × Int × Int
def jbCells (j : Jb) : List Value := [.int .i64 j.1, .int .i64 j.2.1, .int .i64 j.2.2.1, .int .i64 j.2.2.2]
abbrev Jobs (w : World) (v : Value) (xs : List Jb) : Prop := SlN 4 jbCells w v xs
def jbAgg (j : Jb) : Value := .agg #[.int .i64 j.1, .int .i64 j.2.1, .int .i64 j.2.2.1, .int .i64 j.2.2.2]

end Go.Proofs.Ytmhepomjbaendaa
