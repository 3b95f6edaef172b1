
/- Rows of structs of integers that a call owns; the laws' eqDesk, markDesk, heldDesk. Conditions: lengths at most 2^24. -/
import Derived.Test.YtmhepomjbaendaaJobs
import Derived.Test.YtmhepomjbaendaaGrownC
namespace Go.Proofs.Ytmhepomjbaendaa
open Go.RowKit
set_option linter.unusedVariables false
set_option linter.unusedSimpArgs false

/-- v is a row of n elements of type T, size integers each, of the call's own. -/
def OwnZ (T size : Nat) (w : World) (N : Nat) (v : Value) (n : Nat) (raw : List Int) : Prop := w.ownsRow N T size v n (raw.map (Value.int .i64))
theorem OwnZ.kept {T size n : Nat} {w w' : World} {B : Nat} {v : Value} {xs : List Int} {row : Option Nat} (h : OwnZ T size w B v n xs) (hg : w.grownBy w' row) (hne : v.ownBlock = none ∨ v.ownBlock ≠ row) : OwnZ T size w' B v n xs := World.ownsRow.kept h hg hne
theorem OwnZ.lt {T size n : Nat} {w : World} {B : Nat} {v : Value} {xs : List Int} (h : OwnZ T size w B v n xs) : ∀ k, v.ownBlock = some k → B ≤ k ∧ k < w.heap.size := World.ownsRow.lt h
theorem OwnZ.below {T size n : Nat} {w w' : World} {B N : Nat} {v : Value} {xs : List Int} (h : OwnZ T size w B v n xs) (hb : Below N w w') (hN : w.heap.size ≤ N) : OwnZ T size w' B v n xs := by
  refine h.kept (row := none) ⟨hb.os, hb.tape, hb.output, hb.size, fun k hk _ => hb.block k (by omega)⟩ ?_
  cases v.ownBlock <;> simp
theorem OwnZ.length {T size n : Nat} {w : World} {B : Nat} {v : Value} {xs : List Int} (h : OwnZ T size w B v n xs) : xs.length = n * size := by have := h.1; simpa using this
theorem OwnZ.store {T size n c g : Nat} {w : World} {N : Nat} {xs : List Int} (h : OwnZ T size w N (.slice (some ⟨g, 0, none⟩) n c) n xs) (j : Nat) (hj : j < xs.length) (y : Int) :
    w.cell? ⟨g, j, none⟩ = some (.int .i64 (nth xs j)) ∧ w.frozen? ⟨g, j, none⟩ = false ∧ OwnZ T size (w.setCell ⟨g, j, none⟩ (.int .i64 y)) N (.slice (some ⟨g, 0, none⟩) n c) n (xs.set j y) ∧ w.grownBy (w.setCell ⟨g, j, none⟩ (.int .i64 y)) (some g) := by
  have h' : w.ownsRow N T size (.slice (some ⟨g, 0, none⟩) n c) n (xs.map (Value.int .i64)) := h
  obtain ⟨h1, h2⟩ := h'.stored j (.int .i64 y)
  refine ⟨?_, h'.frozenAt j, ?_, h2⟩
  · rw [h'.cellAt j (by rw [← h.length]; exact hj), List.getElem?_map, List.getElem?_eq_getElem hj, nth_eq hj]; rfl
  · unfold OwnZ
    rw [List.map_set]; exact h1
theorem OwnZ.nil_or {T size n : Nat} {w : World} {N : Nat} {v : Value} {xs : List Int} (h : OwnZ T size w N v n xs) : (v = .slice none 0 0 ∧ n = 0) ∨ ∃ g c, v = .slice (some ⟨g, 0, none⟩) n c := by
  rcases h.2 with ⟨h1, h2⟩ | ⟨g, cap, cur, h1, _⟩
  · exact .inl ⟨h1, h2⟩
  · exact .inr ⟨g, cap, h1⟩

def jbInts (j : Jb) : List Int := [j.1, j.2.1, j.2.2.1, j.2.2.2]
theorem jbInts_cells (j : Jb) : (jbInts j).map (Value.int .i64) = jbCells j := rfl
def jbRaw (js : List Jb) : List Int := js.flatMap jbInts
theorem jbRaw_length (js : List Jb) : (jbRaw js).length = js.length * 4 := by
  induction js with
  | nil => rfl
  | cons a t ih => show (jbInts a ++ jbRaw t).length = _; rw [List.length_append, ih]; simp [jbInts]; omega
theorem jbRaw_get (js : List Jb) (i j : Nat) (hi : i < js.length) (hj : j < 4) : (jbRaw js)[i * 4 + j]? = some ((jbInts js[i])[j]'(by simp [jbInts]; omega)) := by
  induction js generalizing i with
  | nil => simp at hi
  | cons a t ih =>
    show (jbInts a ++ jbRaw t)[i * 4 + j]? = _
    cases i with
    | zero =>
      rw [List.getElem?_append_left (by simp [jbInts]; omega), List.getElem?_eq_getElem (by simp [jbInts]; omega)]
      simp
    | succ i =>
      rw [List.getElem?_append_right (by simp [jbInts]; omega), show (i + 1) * 4 + j - (jbInts a).length = i * 4 + j by simp [jbInts]; omega, ih i (by simpa using hi)]
      simp
theorem OwnZ.jobs {T : Nat} {w : World} {N : Nat} {v : Value} {js : List Jb} (h : OwnZ T 4 w N v js.length (jbRaw js)) : Jobs w v js := by
  have hr := h
  rcases h.2 with ⟨rfl, h0⟩ | ⟨g, cap, cur, rfl, hg, hh, hc, hm, hcs, ht⟩
  · exact ⟨by omega, none, 0, by rw [h0], by omega, fun i hi => by omega⟩
  · refine ⟨by omega, _, cap, rfl, by omega, fun i hi => ⟨g, 0, rfl, (Array.getElem?_eq_some_iff.1 hh).1, fun j hj => ?_⟩⟩
    have hj4 : j < 4 := by simpa [jbCells] using hj
    have := World.ownsRow.cellAt (g := g) (cap := cap) hr (i * 4 + j) (by omega)
    rw [Nat.zero_add, this, List.getElem?_map, jbRaw_get js i j hi hj4]
    simp only [← jbInts_cells, List.getElem_map, Option.map_some]

/-- A rule's five numbers. -/
abbrev Rl := Int × Int × Int × Int × Int
/-- A desk's value. -/
def deskV (vj : Value) (r : Rl) (vc : Value) (p : ByteArray) : Value := .agg #[vj, .int .i64 r.1, .int .i64 r.2.1, .int .i64 r.2.2.1, .int .i64 r.2.2.2.1, .int .i64 r.2.2.2.2, vc, .string p]

theorem bcell {W w1 : World} (hb : Below W.heap.size W w1) : (∀ b o, b < W.heap.size → w1.cell? ⟨b, o, none⟩ = W.cell? ⟨b, o, none⟩) ∧ (∀ b o, b < W.heap.size → w1.frozen? ⟨b, o, none⟩ = W.frozen? ⟨b, o, none⟩) :=
  ⟨fun b o h => hb.cell (p := ⟨b, o, none⟩) h, fun b o h => hb.frozen (p := ⟨b, o, none⟩) h⟩

def deskBlocks (vj vc : Value) : List Nat := vj.ownBlock.toList ++ vc.ownBlock.toList

theorem own_ne {T size n : Nat} {w : World} {lo lo' : Nat} {vj vc : Value} {jr cr : List Int} (hT : T ≠ 2) (h : OwnZ T size w lo vj n jr) (k : OwnI w lo' vc cr) : vj.ownBlock = none ∨ vj.ownBlock ≠ vc.ownBlock := by
  rcases h.2 with ⟨rfl, _⟩ | ⟨g, cap, cur, rfl, _, hh, _⟩
  · exact .inl rfl
  · refine .inr ?_
    rcases k.2 with ⟨rfl, _⟩ | ⟨g', cap', cur', rfl, _, hh', _⟩
    · intro e; cases e
    · intro e
      have e2 : some g = some g' := e
      injection e2 with e2
      subst e2
      rw [hh] at hh'
      injection hh' with hh'
      injection hh' with _ h3
      exact hT h3
theorem own_ne' {T size n : Nat} {w : World} {lo lo' : Nat} {vj vc : Value} {jr cr : List Int} (hT : T ≠ 2) (h : OwnZ T size w lo vj n jr) (k : OwnI w lo' vc cr) : vc.ownBlock = none ∨ vc.ownBlock ≠ vj.ownBlock := by
  rcases own_ne hT h k with h1 | h1
  · cases hv : vc.ownBlock with
    | none => exact .inl rfl
    | some x => rw [h1]; exact .inr (by simp)
  · exact .inr (Ne.symm h1)

end Go.Proofs.Ytmhepomjbaendaa
