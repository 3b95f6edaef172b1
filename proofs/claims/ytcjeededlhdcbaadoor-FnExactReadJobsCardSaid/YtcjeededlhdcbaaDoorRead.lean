
/- How cells read as plain data, whatever its type: integers, bools, texts, slices, structs; and that an argument that came in reads so. Conditions: none. -/
import Derived.Test.YtcjeededlhdcbaaDoorMarks
import Derived.Deep.Slices
import Derived.ChangeArms
namespace Go.Proofs.YtcjeededlhdcbaaDoor
open Go.RowKit Go.ChangeShapes Go.WideShapes Go.Deep
set_option linter.unusedVariables false
set_option linter.unusedSimpArgs false

/-- How a list of cells reads as a datum. -/
structure Rdr (α : Type) where
  size : Nat
  R : World → List Value → α → Prop
  len : ∀ {w : World} {cs : List Value} {x : α}, R w cs x → cs.length = size
  below : ∀ {w w' : World} {cs : List Value} {x : α} {B : Nat}, R w cs x → Below B w w' → w.heap.size ≤ B → R w' cs x

def rInt : Rdr Int := ⟨1, fun _ cs n => cs = [.int .i64 n] ∧ (Lit.int .i64 n).wf = true, fun h => by rw [h.1]; rfl, fun h _ _ => h⟩
def rBool : Rdr Bool := ⟨1, fun _ cs b => cs = [.bool b], fun h => by rw [h]; rfl, fun h _ _ => h⟩
def rStr : Rdr ByteArray := ⟨1, fun _ cs s => cs = [.string s] ∧ s.size ≤ maxLen, fun h => by rw [h.1]; rfl, fun h _ _ => h⟩
def rPair {α β : Type} (r : Rdr α) (s : Rdr β) : Rdr (α × β) := ⟨r.size + s.size, fun w cs x => ∃ c1 c2, cs = c1 ++ c2 ∧ r.R w c1 x.1 ∧ s.R w c2 x.2,
  fun h => by obtain ⟨c1, c2, rfl, h1, h2⟩ := h; rw [List.length_append, r.len h1, s.len h2],
  fun h hb hB => by obtain ⟨c1, c2, rfl, h1, h2⟩ := h; exact ⟨c1, c2, rfl, r.below h1 hb hB, s.below h2 hb hB⟩⟩

/-- The slice value v reads as the list xs. -/
def SlR {α : Type} (r : Rdr α) (w : World) (v : Value) (xs : List α) : Prop :=
  xs.length ≤ maxLen ∧ ∃ a c, v = .slice a xs.length c ∧ xs.length ≤ c ∧ ∀ i (h : i < xs.length), ∃ b o cs, a = some ⟨b, o, none⟩ ∧ b < w.heap.size ∧ r.R w cs xs[i] ∧ ∀ j (hj : j < cs.length), w.cell? ⟨b, o + (i * r.size + j), none⟩ = some cs[j]
theorem SlR.below {α : Type} {r : Rdr α} {w w' : World} {v : Value} {xs : List α} {B : Nat} (h : SlR r w v xs) (hb : Below B w w') (hB : w.heap.size ≤ B) : SlR r w' v xs := by
  obtain ⟨hm, a, c, hv, hcap, hc⟩ := h
  refine ⟨hm, a, c, hv, hcap, fun i hi => ?_⟩
  obtain ⟨b, o, cs, ha, hbs, hr, hcell⟩ := hc i hi
  exact ⟨b, o, cs, ha, by have := hb.size; omega, r.below hr hb hB, fun j hj => (hb.cell (p := ⟨b, o + (i * r.size + j), none⟩) (by show b < B; omega)).trans (hcell j hj)⟩
def rSl {α : Type} (r : Rdr α) : Rdr (List α) := ⟨1, fun w cs xs => ∃ v, cs = [v] ∧ SlR r w v xs, fun h => by obtain ⟨v, rfl, _⟩ := h; rfl, fun h hb hB => by obtain ⟨v, rfl, h⟩ := h; exact ⟨v, rfl, h.below hb hB⟩⟩

theorem SlR.ints {w : World} {v : Value} {xs : List Int} (h : SlR rInt w v xs) : Ints w v xs ∧ ∀ n ∈ xs, (Lit.int .i64 n).wf = true := by
  obtain ⟨hm, a, c, hv, hcap, hc⟩ := h
  refine ⟨⟨hm, a, c, hv, hcap, fun i hi => ?_⟩, fun n hn => ?_⟩
  · obtain ⟨b, o, cs, ha, hbs, ⟨rfl, _⟩, hcell⟩ := hc i hi
    have := hcell 0 (by simp)
    exact ⟨b, o, ha, hbs, by simpa [rInt] using this⟩
  · obtain ⟨i, hi, rfl⟩ := List.mem_iff_getElem.1 hn
    obtain ⟨b, o, cs, ha, hbs, ⟨rfl, hw⟩, hcell⟩ := hc i hi
    exact hw
theorem SlR.of_ints {w : World} {v : Value} {xs : List Int} (h : Ints w v xs) (hw : ∀ n ∈ xs, (Lit.int .i64 n).wf = true) : SlR rInt w v xs := by
  obtain ⟨hm, a, c, hv, hcap, hc⟩ := h
  refine ⟨hm, a, c, hv, hcap, fun i hi => ?_⟩
  obtain ⟨b, o, ha, hbs, hcell⟩ := hc i hi
  refine ⟨b, o, [.int .i64 xs[i]], ha, hbs, ⟨rfl, hw _ (List.getElem_mem _)⟩, fun j hj => ?_⟩
  obtain rfl : j = 0 := by simpa using hj
  simpa [rInt] using hcell

/-! An argument that came in. -/
/-- Whatever reads as a datum of type t reads by r. -/
def Opens {α : Type} (t : TypeId) (r : Rdr α) : Prop := Tryd.prog.cellsOf t = r.size ∧ ∀ {H : Type} {enc : TypeId × Value → H} {w : World} {base : Nat} {sp : Nat → Bool} {held : Bool} {fuel : Nat} {cs : List Value} {x : DataW H × List MemPlace},
  DataW.trod enc Tryd.prog w base sp held fuel t cs = some x → ∃ y : α, r.R w cs y
theorem opens_int {t : TypeId} (ht : Tryd.prog.underlying t = some (.int .i64)) (hc : Tryd.prog.cellsOf t = 1) : Opens t rInt := ⟨hc, fun h => by
  obtain ⟨n, h1, _, h2⟩ := DataW.trod_int ht h
  exact ⟨n, h1, h2⟩⟩
theorem opens_bool {t : TypeId} (ht : Tryd.prog.underlying t = some .bool) (hc : Tryd.prog.cellsOf t = 1) : Opens t rBool := ⟨hc, fun h => by
  obtain ⟨n, h1, _⟩ := DataW.trod_bool ht h
  exact ⟨n, h1⟩⟩
theorem opens_str {t : TypeId} (ht : Tryd.prog.underlying t = some .string) (hc : Tryd.prog.cellsOf t = 1) : Opens t rStr := ⟨hc, fun h => by
  obtain ⟨n, h1, _, h2⟩ := DataW.trod_string ht h
  exact ⟨n, h1, h2⟩⟩
theorem spot_none {w : World} {x : Addr} {v : Value} (h : w.cell? x = some v) : x.spot = none := by
  unfold World.cell? at h
  cases hs : x.spot with
  | none => rfl
  | some s => rw [hs] at h; split at h <;> simp at h
theorem list_of {α : Type} (n : Nat) (p : Nat → α → Prop) (h : ∀ i, i < n → ∃ y, p i y) : ∃ xs : List α, xs.length = n ∧ ∀ i (hi : i < xs.length), p i xs[i] := by
  induction n with
  | zero => exact ⟨[], rfl, fun i hi => by simp at hi⟩
  | succ n ih =>
    obtain ⟨xs, hl, hx⟩ := ih (fun i hi => h i (by omega))
    obtain ⟨y, hy⟩ := h n (by omega)
    refine ⟨xs ++ [y], by simp [hl], fun i hi => ?_⟩
    by_cases hlt : i < xs.length
    · rw [List.getElem_append_left hlt]; exact hx i hlt
    · have : i = n := by simp at hi; omega
      subst this
      rw [List.getElem_append_right (by omega)]
      simpa [hl] using hy
theorem opens_slice {α : Type} {t e : TypeId} {r : Rdr α} (ht : Tryd.prog.underlying t = some (.slice e)) (hc : Tryd.prog.cellsOf t = 1) (he : Opens e r) (hr : 0 < r.size) : Opens t (rSl r) := ⟨hc, fun {H enc w base sp held fuel cs x} h => by
  rcases DataW.trod_slice ht h with ⟨rfl, _⟩ | ⟨a, len, cap, elems, rest, n, _, rfl, _, _, hl, hm, hel, hi, _⟩
  · exact ⟨[], _, rfl, Nat.zero_le _, none, 0, rfl, Nat.le_refl _, fun i hi => by simp at hi⟩
  · rw [he.1] at hi
    have key : ∀ i, i < len → ∃ y : α, ∃ cs' : List Value, (∀ j, j < cs'.length → w.cell? ((a.add (i * r.size)).add j) = cs'[j]?) ∧ r.R w cs' y := by
      intro i hil
      have h1 := hi i hil
      rw [List.getElem?_eq_getElem (by omega)] at h1
      cases hcs : w.cells? base (a.add (i * r.size)) r.size with
      | none => rw [hcs] at h1; cases h1
      | some cs' =>
        rw [hcs] at h1
        obtain ⟨y, hy⟩ := he.2 h1
        obtain ⟨_, hcl, hat⟩ := World.cells?_some hcs
        refine ⟨y, cs', fun j hj => ?_, hy⟩
        exact hat j (by omega)
    obtain ⟨xs, hxl, hxs⟩ := list_of len (fun (i : Nat) (y : α) => ∃ cs' : List Value, (∀ j, j < cs'.length → w.cell? ((a.add (i * r.size)).add j) = cs'[j]?) ∧ r.R w cs' y) key
    subst hxl
    refine ⟨xs, _, rfl, by omega, some a, cap, rfl, by omega, fun i hil => ?_⟩
    obtain ⟨cs', h1, h2⟩ := hxs i hil
    have h0 := (h1 0 (by rw [r.len h2]; exact hr)).trans (List.getElem?_eq_getElem (by rw [r.len h2]; exact hr))
    obtain ⟨cz, z1, z2⟩ := hxs 0 (by omega)
    have z0 := (z1 0 (by rw [r.len z2]; exact hr)).trans (List.getElem?_eq_getElem (by rw [r.len z2]; exact hr))
    have hz : (a.add (0 * r.size)).add 0 = a := by rw [Nat.zero_mul]; simp [Addr.add]
    rw [hz] at z0
    have hsp := spot_none z0
    obtain ⟨b, o, s⟩ := a
    obtain rfl : s = none := hsp
    have hadd : ∀ j, ((⟨b, o, none⟩ : Addr).add (i * r.size)).add j = ⟨b, o + (i * r.size + j), none⟩ := fun j => by
      simp only [Addr.add]
      split <;> split <;> simp_all <;> omega
    refine ⟨b, o, cs', rfl, ?_, h2, fun j hj => by rw [← hadd]; exact (h1 j hj).trans (List.getElem?_eq_getElem hj)⟩
    rw [hadd] at h0
    exact lt_of_cell h0⟩

/-- The fields from a place on. -/
def OpensF {α : Type} (fs : List Field) (off : Nat) (r : Rdr α) : Prop := ∀ {H : Type} {enc : TypeId × Value → H} {w : World} {base : Nat} {sp : Nat → Bool} {held : Bool} {n : Nat} {cs : List Value},
  (∀ (i : Nat) (f : Field), fs[i]? = some f → ∃ x, DataW.trod enc Tryd.prog w base sp held n f.type ((cs.drop f.offset).take (Tryd.prog.cellsOf f.type)) = some x) → ∃ y : α, r.R w ((cs.drop off).take r.size) y
theorem opensF_one {α : Type} {f : Field} {off : Nat} {r : Rdr α} (h : Opens f.type r) (ho : f.offset = off) : OpensF [f] off r := by
  intro H enc w base sp held n cs hf
  obtain ⟨x, hx⟩ := hf 0 f rfl
  obtain ⟨y, hy⟩ := h.2 hx
  rw [h.1, ho] at hy
  exact ⟨y, hy⟩
theorem opensF_cons {α β : Type} {f : Field} {fs : List Field} {off : Nat} {r : Rdr α} {s : Rdr β} (h : Opens f.type r) (ho : f.offset = off) (hs : OpensF fs (off + r.size) s) : OpensF (f :: fs) off (rPair r s) := by
  intro H enc w base sp held n cs hf
  obtain ⟨x, hx⟩ := hf 0 f rfl
  obtain ⟨y, hy⟩ := h.2 hx
  rw [h.1, ho] at hy
  obtain ⟨z, hz⟩ := hs (fun i g hg => hf (i + 1) g hg)
  refine ⟨(y, z), _, _, ?_, hy, hz⟩
  show (cs.drop off).take (r.size + s.size) = _
  rw [List.take_add, List.drop_drop]
theorem opens_struct {α : Type} {t : TypeId} {fs : Array Field} {r : Rdr α} (ht : Tryd.prog.underlying t = some (.struct fs)) (hc : Tryd.prog.cellsOf t = r.size) (hf : OpensF fs.toList 0 r) : Opens t r := ⟨hc, fun h => by
  obtain ⟨xs, n, _, _, hl, hxl, hat⟩ := DataW.trod_struct ht h
  obtain ⟨y, hy⟩ := hf (cs := _) (fun i f hif => ⟨_, (hat i f (by simpa using hif)).trans (List.getElem?_eq_getElem (by
    have := (List.getElem?_eq_some_iff.1 hif).1
    rw [hxl]; simpa using this))⟩)
  rw [List.drop_zero, List.take_of_length_le (by omega)] at hy
  exact ⟨y, hy⟩⟩
end Go.Proofs.YtcjeededlhdcbaaDoor
