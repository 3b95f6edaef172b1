/- Sorting by a key, equal ones in their order: the plain law of insertion, rotation and merging in place. Conditions: none. With texts that it needs. -/
import Derived.Test.YtcopjdhnmkfkfaaBestAll1
import Derived.Deep.Slices
import Derived.ChangeArms
import Derived.StillTailTactics
import Derived.Deep.AppendLies
import Derived.Deep.RegionHeld3
namespace Go.Proofs.Ytcopjdhnmkfkfaa
open Go.RowKit Go.ChangeShapes Go.WideShapes Go.Deep
set_option linter.unusedVariables false
set_option linter.unusedSimpArgs false

/-- How a list of cells reads as a datum. -/
structure Rdr (α : Type) where
  size : Nat
  R : World → List Value → α → Prop
  len : ∀ {w : World} {cs : List Value} {x : α}, R w cs x → cs.length = size
  below : ∀ {w w' : World} {cs : List Value} {x : α} {B : Nat}, R w cs x → Below B w w' → w.heap.size ≤ B → R w' cs x

def rInt : Rdr Int := ⟨1, fun _ cs n => cs = [.int .i64 n] ∧ (Lit.int .i64 n).wf = true, fun h => by rw [h.1]; rfl, fun h _ _ => h⟩
def rBool : Rdr Bool := ⟨1, fun _ cs b => cs = [.bool b], fun h => by rw [h]; rfl, fun h _ _ => h⟩
def rStr : Rdr ByteArray := ⟨1, fun _ cs s => cs = [.string s] ∧ s.size ≤ maxLen, fun h => by rw [h.1]; rfl, fun h _ _ => h⟩
def rPair {α β : Type} (r : Rdr α) (s : Rdr β) : Rdr (α × β) := ⟨r.size + s.size, fun w cs x => ∃ c1 c2, cs = c1 ++ c2 ∧ r.R w c1 x.1 ∧ s.R w c2 x.2,
  fun h => by obtain ⟨c1, c2, rfl, h1, h2⟩ := h; rw [List.length_append, r.len h1, s.len h2],
  fun h hb hB => by obtain ⟨c1, c2, rfl, h1, h2⟩ := h; exact ⟨c1, c2, rfl, r.below h1 hb hB, s.below h2 hb hB⟩⟩

/-- The slice value v reads as the list xs. -/
def SlR {α : Type} (r : Rdr α) (w : World) (v : Value) (xs : List α) : Prop :=
  xs.length ≤ maxLen ∧ ∃ a c, v = .slice a xs.length c ∧ xs.length ≤ c ∧ ∀ i (h : i < xs.length), ∃ b o cs, a = some ⟨b, o, none⟩ ∧ b < w.heap.size ∧ r.R w cs xs[i] ∧ ∀ j (hj : j < cs.length), w.cell? ⟨b, o + (i * r.size + j), none⟩ = some cs[j]
theorem SlR.below {α : Type} {r : Rdr α} {w w' : World} {v : Value} {xs : List α} {B : Nat} (h : SlR r w v xs) (hb : Below B w w') (hB : w.heap.size ≤ B) : SlR r w' v xs := by
  obtain ⟨hm, a, c, hv, hcap, hc⟩ := h
  refine ⟨hm, a, c, hv, hcap, fun i hi => ?_⟩
  obtain ⟨b, o, cs, ha, hbs, hr, hcell⟩ := hc i hi
  exact ⟨b, o, cs, ha, by have := hb.size; omega, r.below hr hb hB, fun j hj => (hb.cell (p := ⟨b, o + (i * r.size + j), none⟩) (by show b < B; omega)).trans (hcell j hj)⟩
def rSl {α : Type} (r : Rdr α) : Rdr (List α) := ⟨1, fun w cs xs => ∃ v, cs = [v] ∧ SlR r w v xs, fun h => by obtain ⟨v, rfl, _⟩ := h; rfl, fun h hb hB => by obtain ⟨v, rfl, h⟩ := h; exact ⟨v, rfl, h.below hb hB⟩⟩

theorem SlR.ints {w : World} {v : Value} {xs : List Int} (h : SlR rInt w v xs) : Ints w v xs ∧ ∀ n ∈ xs, (Lit.int .i64 n).wf = true := by
  obtain ⟨hm, a, c, hv, hcap, hc⟩ := h
  refine ⟨⟨hm, a, c, hv, hcap, fun i hi => ?_⟩, fun n hn => ?_⟩
  · obtain ⟨b, o, cs, ha, hbs, ⟨rfl, _⟩, hcell⟩ := hc i hi
    have := hcell 0 (by simp)
    exact ⟨b, o, ha, hbs, by simpa [rInt] using this⟩
  · obtain ⟨i, hi, rfl⟩ := List.mem_iff_getElem.1 hn
    obtain ⟨b, o, cs, ha, hbs, ⟨rfl, hw⟩, hcell⟩ := hc i hi
    exact hw
theorem SlR.of_ints {w : World} {v : Value} {xs : List Int} (h : Ints w v xs) (hw : ∀ n ∈ xs, (Lit.int .i64 n).wf = true) : SlR rInt w v xs := by
  obtain ⟨hm, a, c, hv, hcap, hc⟩ := h
  refine ⟨hm, a, c, hv, hcap, fun i hi => ?_⟩
  obtain ⟨b, o, ha, hbs, hcell⟩ := hc i hi
  refine ⟨b, o, [.int .i64 xs[i]], ha, hbs, ⟨rfl, hw _ (List.getElem_mem _)⟩, fun j hj => ?_⟩
  obtain rfl : j = 0 := by simpa using hj
  simpa [rInt] using hcell

/-! An argument that came in. -/
/-- Whatever reads as a datum of type t reads by r. -/
def Opens {α : Type} (t : TypeId) (r : Rdr α) : Prop := Try.prog.cellsOf t = r.size ∧ ∀ {H : Type} {enc : TypeId × Value → H} {w : World} {base : Nat} {sp : Nat → Bool} {held : Bool} {fuel : Nat} {cs : List Value} {x : DataW H × List MemPlace},
  DataW.trod enc Try.prog w base sp held fuel t cs = some x → ∃ y : α, r.R w cs y
theorem opens_int {t : TypeId} (ht : Try.prog.underlying t = some (.int .i64)) (hc : Try.prog.cellsOf t = 1) : Opens t rInt := ⟨hc, fun h => by
  obtain ⟨n, h1, _, h2⟩ := DataW.trod_int ht h
  exact ⟨n, h1, h2⟩⟩
theorem opens_bool {t : TypeId} (ht : Try.prog.underlying t = some .bool) (hc : Try.prog.cellsOf t = 1) : Opens t rBool := ⟨hc, fun h => by
  obtain ⟨n, h1, _⟩ := DataW.trod_bool ht h
  exact ⟨n, h1⟩⟩
theorem opens_str {t : TypeId} (ht : Try.prog.underlying t = some .string) (hc : Try.prog.cellsOf t = 1) : Opens t rStr := ⟨hc, fun h => by
  obtain ⟨n, h1, _, h2⟩ := DataW.trod_string ht h
  exact ⟨n, h1, h2⟩⟩
theorem spot_none {w : World} {x : Addr} {v : Value} (h : w.cell? x = some v) : x.spot = none := by
  unfold World.cell? at h
  cases hs : x.spot with
  | none => rfl
  | some s => rw [hs] at h; split at h <;> simp at h
theorem list_of {α : Type} (n : Nat) (p : Nat → α → Prop) (h : ∀ i, i < n → ∃ y, p i y) : ∃ xs : List α, xs.length = n ∧ ∀ i (hi : i < xs.length), p i xs[i] := by
  induction n with
  | zero => exact ⟨[], rfl, fun i hi => by simp at hi⟩
  | succ n ih =>
    obtain ⟨xs, hl, hx⟩ := ih (fun i hi => h i (by omega))
    obtain ⟨y, hy⟩ := h n (by omega)
    refine ⟨xs ++ [y], by simp [hl], fun i hi => ?_⟩
    by_cases hlt : i < xs.length
    · rw [List.getElem_append_left hlt]; exact hx i hlt
    · have : i = n := by simp at hi; omega
      subst this
      rw [List.getElem_append_right (by omega)]
      simpa [hl] using hy
theorem opens_slice {α : Type} {t e : TypeId} {r : Rdr α} (ht : Try.prog.underlying t = some (.slice e)) (hc : Try.prog.cellsOf t = 1) (he : Opens e r) (hr : 0 < r.size) : Opens t (rSl r) := ⟨hc, fun {H enc w base sp held fuel cs x} h => by
  rcases DataW.trod_slice ht h with ⟨rfl, _⟩ | ⟨a, len, cap, elems, rest, n, _, rfl, _, _, hl, hm, hel, hi, _⟩
  · exact ⟨[], _, rfl, Nat.zero_le _, none, 0, rfl, Nat.le_refl _, fun i hi => by simp at hi⟩
  · rw [he.1] at hi
    have key : ∀ i, i < len → ∃ y : α, ∃ cs' : List Value, (∀ j, j < cs'.length → w.cell? ((a.add (i * r.size)).add j) = cs'[j]?) ∧ r.R w cs' y := by
      intro i hil
      have h1 := hi i hil
      rw [List.getElem?_eq_getElem (by omega)] at h1
      cases hcs : w.cells? base (a.add (i * r.size)) r.size with
      | none => rw [hcs] at h1; cases h1
      | some cs' =>
        rw [hcs] at h1
        obtain ⟨y, hy⟩ := he.2 h1
        obtain ⟨_, hcl, hat⟩ := World.cells?_some hcs
        refine ⟨y, cs', fun j hj => ?_, hy⟩
        exact hat j (by omega)
    obtain ⟨xs, hxl, hxs⟩ := list_of len (fun (i : Nat) (y : α) => ∃ cs' : List Value, (∀ j, j < cs'.length → w.cell? ((a.add (i * r.size)).add j) = cs'[j]?) ∧ r.R w cs' y) key
    subst hxl
    refine ⟨xs, _, rfl, by omega, some a, cap, rfl, by omega, fun i hil => ?_⟩
    obtain ⟨cs', h1, h2⟩ := hxs i hil
    have h0 := (h1 0 (by rw [r.len h2]; exact hr)).trans (List.getElem?_eq_getElem (by rw [r.len h2]; exact hr))
    obtain ⟨cz, z1, z2⟩ := hxs 0 (by omega)
    have z0 := (z1 0 (by rw [r.len z2]; exact hr)).trans (List.getElem?_eq_getElem (by rw [r.len z2]; exact hr))
    have hz : (a.add (0 * r.size)).add 0 = a := by rw [Nat.zero_mul]; simp [Addr.add]
    rw [hz] at z0
    have hsp := spot_none z0
    obtain ⟨b, o, s⟩ := a
    obtain rfl : s = none := hsp
    have hadd : ∀ j, ((⟨b, o, none⟩ : Addr).add (i * r.size)).add j = ⟨b, o + (i * r.size + j), none⟩ := fun j => by
      simp only [Addr.add]
      split <;> split <;> simp_all <;> omega
    refine ⟨b, o, cs', rfl, ?_, h2, fun j hj => by rw [← hadd]; exact (h1 j hj).trans (List.getElem?_eq_getElem hj)⟩
    rw [hadd] at h0
    exact lt_of_cell h0⟩

/-- The fields from a place on. -/
def OpensF {α : Type} (fs : List Field) (off : Nat) (r : Rdr α) : Prop := ∀ {H : Type} {enc : TypeId × Value → H} {w : World} {base : Nat} {sp : Nat → Bool} {held : Bool} {n : Nat} {cs : List Value},
  (∀ (i : Nat) (f : Field), fs[i]? = some f → ∃ x, DataW.trod enc Try.prog w base sp held n f.type ((cs.drop f.offset).take (Try.prog.cellsOf f.type)) = some x) → ∃ y : α, r.R w ((cs.drop off).take r.size) y
theorem opensF_one {α : Type} {f : Field} {off : Nat} {r : Rdr α} (h : Opens f.type r) (ho : f.offset = off) : OpensF [f] off r := by
  intro H enc w base sp held n cs hf
  obtain ⟨x, hx⟩ := hf 0 f rfl
  obtain ⟨y, hy⟩ := h.2 hx
  rw [h.1, ho] at hy
  exact ⟨y, hy⟩
theorem opensF_cons {α β : Type} {f : Field} {fs : List Field} {off : Nat} {r : Rdr α} {s : Rdr β} (h : Opens f.type r) (ho : f.offset = off) (hs : OpensF fs (off + r.size) s) : OpensF (f :: fs) off (rPair r s) := by
  intro H enc w base sp held n cs hf
  obtain ⟨x, hx⟩ := hf 0 f rfl
  obtain ⟨y, hy⟩ := h.2 hx
  rw [h.1, ho] at hy
  obtain ⟨z, hz⟩ := hs (fun i g hg => hf (i + 1) g hg)
  refine ⟨(y, z), _, _, ?_, hy, hz⟩
  show (cs.drop off).take (r.size + s.size) = _
  rw [List.take_add, List.drop_drop]
theorem opens_struct {α : Type} {t : TypeId} {fs : Array Field} {r : Rdr α} (ht : Try.prog.underlying t = some (.struct fs)) (hc : Try.prog.cellsOf t = r.size) (hf : OpensF fs.toList 0 r) : Opens t r := ⟨hc, fun h => by
  obtain ⟨xs, n, _, _, hl, hxl, hat⟩ := DataW.trod_struct ht h
  obtain ⟨y, hy⟩ := hf (cs := _) (fun i f hif => ⟨_, (hat i f (by simpa using hif)).trans (List.getElem?_eq_getElem (by
    have := (List.getElem?_eq_some_iff.1 hif).1
    rw [hxl]; simpa using this))⟩)
  rw [List.drop_zero, List.take_of_length_le (by omega)] at hy
  exact ⟨y, hy⟩⟩
end Go.Proofs.Ytcopjdhnmkfkfaa

namespace Go.Proofs.Ytcopjdhnmkfkfaa
open Go.RowKit
set_option linter.unusedVariables false
set_option linter.unusedSimpArgs false

/-- Block b holds the cells cs, none of them frozen. -/
def Blk (W : World) (b : Nat) (t : TypeId) (cs : List Value) : Prop := W.heap[b]? = some (.cells cs.toArray t (0, 0))
theorem Blk.lt {W : World} {b : Nat} {t : TypeId} {cs : List Value} (h : Blk W b t cs) : b < W.heap.size := (Array.getElem?_eq_some_iff.1 h).1
theorem Blk.cell {W : World} {b : Nat} {t : TypeId} {cs : List Value} (h : Blk W b t cs) (j : Nat) (v : Value) (hj : cs[j]? = some v) : W.cell? ⟨b, j, none⟩ = some v := by
  unfold World.cell?
  rw [show W.heap[b]? = _ from h]
  simpa using hj
theorem Blk.frozen {W : World} {b : Nat} {t : TypeId} {cs : List Value} (h : Blk W b t cs) (j : Nat) : W.frozen? ⟨b, j, none⟩ = false := by
  simp [World.frozen?, show W.heap[b]? = _ from h]
theorem Blk.new (W : World) (t : TypeId) (cs : List Value) : Blk (W.alloc (.cells cs.toArray t)) W.heap.size t cs := World.alloc_heap_new W _
theorem Blk.alloc {W : World} {b : Nat} {t : TypeId} {cs : List Value} (h : Blk W b t cs) (o : Obj) : Blk (W.alloc o) b t cs := (Below.heap_alloc _ _ _ h.lt).trans h
theorem Blk.below {W W' : World} {b B : Nat} {t : TypeId} {cs : List Value} (h : Blk W b t cs) (hb : Below B W W') (hB : b < B) : Blk W' b t cs := (hb.block b hB).trans h
theorem Blk.grown {W W' : World} {b : Nat} {t : TypeId} {cs : List Value} {row : Option Nat} (h : Blk W b t cs) (hg : W.grownBy W' row) (hne : some b ≠ row) : Blk W' b t cs := (hg.block b h.lt hne).trans h
theorem Blk.grownL {W W' : World} {b : Nat} {t : TypeId} {cs : List Value} {L : List Nat} (h : Blk W b t cs) (hg : GrownL L W W') (hne : b ∉ L) : Blk W' b t cs := (hg.block b h.lt hne).trans h
theorem Blk.drewN {W : World} {b : Nat} {t : TypeId} {cs : List Value} (h : Blk W b t cs) (q : Nat) : Blk (W.drewN q) b t cs := h
theorem Blk.far {W : World} {b : Nat} {t : TypeId} {cs : List Value} (h : Blk W b t cs) (p : Addr) (v : Value) (hne : b ≠ p.block) : Blk (W.setCell p v) b t cs := (Below.heap_setCell _ _ _ _ hne).trans h
theorem Blk.set {W : World} {b : Nat} {t : TypeId} {cs : List Value} (h : Blk W b t cs) (j : Nat) (v : Value) : Blk (W.setCell ⟨b, j, none⟩ v) b t (cs.set j v) := by
  obtain ⟨hlt, hk⟩ := Array.getElem?_eq_some_iff.1 h
  show (W.heap.modify b _)[b]? = _
  rw [Array.getElem?_eq_getElem (by rw [Array.size_modify]; exact hlt), Array.getElem_modify_self, hk]
  simp
theorem Boxed.blk {W : World} {b : Nat} {t : TypeId} {v : Value} (h : Boxed W b t v) : Blk W b t [v] := h

/-- A row of the call's own, of whatever elements: n elements of type T, size cells each. -/
def OwnV (T size : Nat) (w : World) (N : Nat) (v : Value) (n : Nat) (raw : List Value) : Prop := w.ownsRow N T size v n raw
theorem OwnV.kept {T size n : Nat} {w w' : World} {B : Nat} {v : Value} {xs : List Value} {row : Option Nat} (h : OwnV T size w B v n xs) (hg : w.grownBy w' row) (hne : v.ownBlock = none ∨ v.ownBlock ≠ row) : OwnV T size w' B v n xs := World.ownsRow.kept h hg hne
theorem OwnV.lt {T size n : Nat} {w : World} {B : Nat} {v : Value} {xs : List Value} (h : OwnV T size w B v n xs) : ∀ k, v.ownBlock = some k → B ≤ k ∧ k < w.heap.size := World.ownsRow.lt h
theorem OwnV.below {T size n : Nat} {w w' : World} {B N : Nat} {v : Value} {xs : List Value} (h : OwnV T size w B v n xs) (hb : Below N w w') (hN : w.heap.size ≤ N) : OwnV T size w' B v n xs := by
  refine h.kept (row := none) ⟨hb.os, hb.tape, hb.output, hb.size, fun k hk _ => hb.block k (by omega)⟩ ?_
  cases v.ownBlock <;> simp
theorem OwnV.length {T size n : Nat} {w : World} {B : Nat} {v : Value} {xs : List Value} (h : OwnV T size w B v n xs) : xs.length = n * size := h.1
theorem OwnV.store {T size n c g : Nat} {w : World} {N : Nat} {xs : List Value} (h : OwnV T size w N (.slice (some ⟨g, 0, none⟩) n c) n xs) (j : Nat) (hj : j < xs.length) (y : Value) :
    w.cell? ⟨g, j, none⟩ = some xs[j] ∧ w.frozen? ⟨g, j, none⟩ = false ∧ OwnV T size (w.setCell ⟨g, j, none⟩ y) N (.slice (some ⟨g, 0, none⟩) n c) n (xs.set j y) ∧ w.grownBy (w.setCell ⟨g, j, none⟩ y) (some g) := by
  have h' : w.ownsRow N T size (.slice (some ⟨g, 0, none⟩) n c) n xs := h
  obtain ⟨h1, h2⟩ := h'.stored j y
  refine ⟨?_, h'.frozenAt j, h1, h2⟩
  rw [h'.cellAt j (by rw [← h.length]; exact hj), List.getElem?_eq_getElem hj]

/-- It reads so in every world that keeps the blocks from N on. -/
def Agree (N : Nat) (w W : World) : Prop := w.heap.size ≤ W.heap.size ∧ ∀ b, N ≤ b → b < w.heap.size → W.heap[b]? = w.heap[b]?
theorem Agree.refl (N : Nat) (w : World) : Agree N w w := ⟨Nat.le_refl _, fun _ _ _ => rfl⟩
theorem Agree.trans {N : Nat} {a b c : World} (h : Agree N a b) (k : Agree N b c) : Agree N a c := ⟨Nat.le_trans h.1 k.1, fun i h1 h2 => (k.2 i h1 (by have := h.1; omega)).trans (h.2 i h1 h2)⟩
theorem Agree.mono {N N' : Nat} {a b : World} (h : Agree N a b) (hN : N ≤ N') : Agree N' a b := ⟨h.1, fun i h1 h2 => h.2 i (by omega) h2⟩
theorem Agree.below {N B : Nat} {a b : World} (h : Below B a b) (hB : a.heap.size ≤ B) : Agree N a b := ⟨h.size, fun i _ h2 => h.block i (by omega)⟩
theorem Agree.setCell {N : Nat} (a : World) (p : Addr) (v : Value) (hp : p.block < N) : Agree N a (a.setCell p v) := ⟨by simp, fun i h1 _ => Below.heap_setCell _ _ _ _ (by omega)⟩
theorem Agree.grown {N : Nat} {a b : World} {row : Option Nat} (h : a.grownBy b row) (hr : ∀ k, row = some k → k < N) : Agree N a b := ⟨h.size, fun i h1 h2 => h.block i h2 (fun e => by have := hr i e.symm; omega)⟩
def FreshR {α : Type} (r : Rdr α) (N : Nat) (w : World) (cs : List Value) (x : α) : Prop := ∀ W, Agree N w W → r.R W cs x
theorem FreshR.now {α : Type} {r : Rdr α} {N : Nat} {w : World} {cs : List Value} {x : α} (h : FreshR r N w cs x) : r.R w cs x := h w (Agree.refl _ _)
theorem FreshR.later {α : Type} {r : Rdr α} {N : Nat} {w w' : World} {cs : List Value} {x : α} (h : FreshR r N w cs x) (ha : Agree N w w') : FreshR r N w' cs x := fun W hW => h W (ha.trans hW)
theorem FreshR.mono {α : Type} {r : Rdr α} {N N' : Nat} {w : World} {cs : List Value} {x : α} (h : FreshR r N w cs x) (hN : N' ≤ N) : FreshR r N' w cs x := fun W hW => h W (hW.mono hN)
theorem FreshR.pair {α β : Type} {r : Rdr α} {s : Rdr β} {N : Nat} {w : World} {c1 c2 : List Value} {x : α} {y : β} (h : FreshR r N w c1 x) (k : FreshR s N w c2 y) : FreshR (rPair r s) N w (c1 ++ c2) (x, y) := fun W hW => ⟨c1, c2, rfl, h W hW, k W hW⟩
theorem FreshR.int (N : Nat) (w : World) (n : Int) (h : (Lit.int .i64 n).wf = true) : FreshR rInt N w [.int .i64 n] n := fun _ _ => ⟨rfl, h⟩
theorem FreshR.str (N : Nat) (w : World) (s : ByteArray) (h : s.size ≤ maxLen) : FreshR rStr N w [.string s] s := fun _ _ => ⟨rfl, h⟩
theorem ownsRow_agree {w W : World} {N e size n : Nat} {v : Value} {xs : List Value} (h : w.ownsRow N e size v n xs) (ha : Agree N w W) : W.ownsRow N e size v n xs := by
  refine ⟨h.1, ?_⟩
  rcases h.2 with h1 | ⟨g, cap, cur, hv, hg, hh, r⟩
  · exact .inl h1
  · exact .inr ⟨g, cap, cur, hv, hg, (ha.2 g hg (Array.getElem?_eq_some_iff.1 hh).1).trans hh, r⟩
theorem OwnI.fresh {w : World} {N : Nat} {v : Value} {xs : List Int} (h : OwnI w N v xs) (hw : ∀ n ∈ xs, (Lit.int .i64 n).wf = true) : FreshR (rSl rInt) N w [v] xs :=
  fun W hW => ⟨v, rfl, SlR.of_ints (OwnI.ints (ownsRow_agree h hW)) hw⟩
/-- The first k elements of a row that is being filled read as the first k of xs. -/
def FillR {α : Type} (r : Rdr α) (N : Nat) (w : World) (raw : List Value) (xs : List α) (k : Nat) : Prop := ∀ i (h : i < xs.length), i < k → ∃ cs, FreshR r N w cs xs[i] ∧ ∀ j (hj : j < cs.length), raw[i * r.size + j]? = some cs[j]
theorem FillR.later {α : Type} {r : Rdr α} {N : Nat} {w w' : World} {raw : List Value} {xs : List α} {k : Nat} (h : FillR r N w raw xs k) (ha : Agree N w w') : FillR r N w' raw xs k := fun i hi hk => by
  obtain ⟨cs, h1, h2⟩ := h i hi hk
  exact ⟨cs, h1.later ha, h2⟩
theorem FillR.done {α : Type} {r : Rdr α} {T : Nat} {w : World} {g : Nat} {raw : List Value} {xs : List α} (ho : OwnV T r.size w g (.slice (some ⟨g, 0, none⟩) xs.length xs.length) xs.length raw) (hf : FillR r (g + 1) w raw xs xs.length) (hm : xs.length ≤ maxLen) : FreshR (rSl r) g w [.slice (some ⟨g, 0, none⟩) xs.length xs.length] xs := by
  intro W hW
  have ho' : OwnV T r.size W g (.slice (some ⟨g, 0, none⟩) xs.length xs.length) xs.length raw := ownsRow_agree ho hW
  refine ⟨_, rfl, hm, _, _, rfl, Nat.le_refl _, fun i hi => ?_⟩
  obtain ⟨cs, h1, h2⟩ := hf i hi hi
  refine ⟨g, 0, cs, rfl, (ho'.lt g rfl).2, h1 W (hW.mono (by omega)), fun j hj => ?_⟩
  obtain ⟨h4, h5⟩ := List.getElem?_eq_some_iff.1 (h2 j hj)
  rw [Nat.zero_add, (ho'.store _ h4 (.bool true)).1, h5]
/-- One more element, of four cells. -/
theorem FillR.put4 {α : Type} {r : Rdr α} {N : Nat} {w : World} {raw : List Value} {xs : List α} {k : Nat} (h : FillR r N w raw xs k) (h4 : r.size = 4) (c0 c1 c2 c3 : Value) (hk : k < xs.length) (hl : raw.length = xs.length * 4) (hx : FreshR r N w [c0, c1, c2, c3] xs[k]) :
    FillR r N w ((((raw.set (k * 4) c0).set (k * 4 + 1) c1).set (k * 4 + 2) c2).set (k * 4 + 3) c3) xs (k + 1) := by
  intro i hi hik
  by_cases he : i = k
  · subst he
    refine ⟨_, hx, fun j hj => ?_⟩
    rw [h4]
    have hj4 : j < 4 := by simpa using hj
    match j, hj4 with
    | 0, _ => simp [List.getElem?_set]; omega
    | 1, _ => simp [List.getElem?_set]; omega
    | 2, _ => simp [List.getElem?_set]; omega
    | 3, _ => simp [List.getElem?_set]; omega
  · obtain ⟨cs, h1, h2⟩ := h i hi (by omega)
    refine ⟨cs, h1, fun j hj => ?_⟩
    have h3 := h2 j hj
    have hj4 : j < 4 := by have := r.len h1.now; omega
    rw [h4] at h3 ⊢
    rw [List.getElem?_set_ne (by omega), List.getElem?_set_ne (by omega), List.getElem?_set_ne (by omega), List.getElem?_set_ne (by omega)]
    exact h3
end Go.Proofs.Ytcopjdhnmkfkfaa

namespace Go.Proofs.Ytcopjdhnmkfkfaa
open Go.RowKit
set_option linter.unusedVariables false
set_option linter.unusedSimpArgs false

/-- The slice value v reads as the list xs, k cells an element. -/
def SlN {α : Type} (k : Nat) (enc : α → List Value) (w : World) (v : Value) (xs : List α) : Prop :=
  xs.length ≤ maxLen ∧ ∃ a c, v = .slice a xs.length c ∧ xs.length ≤ c ∧ ∀ i (h : i < xs.length), ∃ b o, a = some ⟨b, o, none⟩ ∧ b < w.heap.size ∧ ∀ j (hj : j < (enc xs[i]).length), w.cell? ⟨b, o + (i * k + j), none⟩ = some (enc xs[i])[j]
theorem SlN.below {α : Type} {k : Nat} {enc : α → List Value} {w w' : World} {v : Value} {xs : List α} {B : Nat} (h : SlN k enc w v xs) (hb : Below B w w') (hB : w.heap.size ≤ B) : SlN k enc w' v xs := by
  obtain ⟨hm, a, c, hv, hcap, hc⟩ := h
  refine ⟨hm, a, c, hv, hcap, fun i hi => ?_⟩
  obtain ⟨b, o, ha, hbs, hcell⟩ := hc i hi
  exact ⟨b, o, ha, by have := hb.size; omega, fun j hj => (hb.cell (p := ⟨b, o + (i * k + j), none⟩) (by show b < B; omega)).trans (hcell j hj)⟩

abbrev Jb := Int × Int × Int × Int
def jbCells (j : Jb) : List Value := [.int .i64 j.1, .int .i64 j.2.1, .int .i64 j.2.2.1, .int .i64 j.2.2.2]
abbrev Jobs (w : World) (v : Value) (xs : List Jb) : Prop := SlN 4 jbCells w v xs
def jbAgg (j : Jb) : Value := .agg #[.int .i64 j.1, .int .i64 j.2.1, .int .i64 j.2.2.1, .int .i64 j.2.2.2]

end Go.Proofs.Ytcopjdhnmkfkfaa

namespace Go.Proofs.Ytcopjdhnmkfkfaa
open Go.RowKit
set_option linter.unusedVariables false
set_option linter.unusedSimpArgs false

/-- v is a row of n elements of type T, size integers each, of the call's own. -/
def OwnZ (T size : Nat) (w : World) (N : Nat) (v : Value) (n : Nat) (raw : List Int) : Prop := w.ownsRow N T size v n (raw.map (Value.int .i64))
theorem OwnZ.kept {T size n : Nat} {w w' : World} {B : Nat} {v : Value} {xs : List Int} {row : Option Nat} (h : OwnZ T size w B v n xs) (hg : w.grownBy w' row) (hne : v.ownBlock = none ∨ v.ownBlock ≠ row) : OwnZ T size w' B v n xs := World.ownsRow.kept h hg hne
theorem OwnZ.lt {T size n : Nat} {w : World} {B : Nat} {v : Value} {xs : List Int} (h : OwnZ T size w B v n xs) : ∀ k, v.ownBlock = some k → B ≤ k ∧ k < w.heap.size := World.ownsRow.lt h
theorem OwnZ.below {T size n : Nat} {w w' : World} {B N : Nat} {v : Value} {xs : List Int} (h : OwnZ T size w B v n xs) (hb : Below N w w') (hN : w.heap.size ≤ N) : OwnZ T size w' B v n xs := by
  refine h.kept (row := none) ⟨hb.os, hb.tape, hb.output, hb.size, fun k hk _ => hb.block k (by omega)⟩ ?_
  cases v.ownBlock <;> simp
theorem OwnZ.length {T size n : Nat} {w : World} {B : Nat} {v : Value} {xs : List Int} (h : OwnZ T size w B v n xs) : xs.length = n * size := by have := h.1; simpa using this
theorem OwnZ.store {T size n c g : Nat} {w : World} {N : Nat} {xs : List Int} (h : OwnZ T size w N (.slice (some ⟨g, 0, none⟩) n c) n xs) (j : Nat) (hj : j < xs.length) (y : Int) :
    w.cell? ⟨g, j, none⟩ = some (.int .i64 (nth xs j)) ∧ w.frozen? ⟨g, j, none⟩ = false ∧ OwnZ T size (w.setCell ⟨g, j, none⟩ (.int .i64 y)) N (.slice (some ⟨g, 0, none⟩) n c) n (xs.set j y) ∧ w.grownBy (w.setCell ⟨g, j, none⟩ (.int .i64 y)) (some g) := by
  have h' : w.ownsRow N T size (.slice (some ⟨g, 0, none⟩) n c) n (xs.map (Value.int .i64)) := h
  obtain ⟨h1, h2⟩ := h'.stored j (.int .i64 y)
  refine ⟨?_, h'.frozenAt j, ?_, h2⟩
  · rw [h'.cellAt j (by rw [← h.length]; exact hj), List.getElem?_map, List.getElem?_eq_getElem hj, nth_eq hj]; rfl
  · unfold OwnZ
    rw [List.map_set]; exact h1
theorem OwnZ.nil_or {T size n : Nat} {w : World} {N : Nat} {v : Value} {xs : List Int} (h : OwnZ T size w N v n xs) : (v = .slice none 0 0 ∧ n = 0) ∨ ∃ g c, v = .slice (some ⟨g, 0, none⟩) n c := by
  rcases h.2 with ⟨h1, h2⟩ | ⟨g, cap, cur, h1, _⟩
  · exact .inl ⟨h1, h2⟩
  · exact .inr ⟨g, cap, h1⟩

def jbInts (j : Jb) : List Int := [j.1, j.2.1, j.2.2.1, j.2.2.2]
theorem jbInts_cells (j : Jb) : (jbInts j).map (Value.int .i64) = jbCells j := rfl
def jbRaw (js : List Jb) : List Int := js.flatMap jbInts
theorem jbRaw_length (js : List Jb) : (jbRaw js).length = js.length * 4 := by
  induction js with
  | nil => rfl
  | cons a t ih => show (jbInts a ++ jbRaw t).length = _; rw [List.length_append, ih]; simp [jbInts]; omega
theorem jbRaw_get (js : List Jb) (i j : Nat) (hi : i < js.length) (hj : j < 4) : (jbRaw js)[i * 4 + j]? = some ((jbInts js[i])[j]'(by simp [jbInts]; omega)) := by
  induction js generalizing i with
  | nil => simp at hi
  | cons a t ih =>
    show (jbInts a ++ jbRaw t)[i * 4 + j]? = _
    cases i with
    | zero =>
      rw [List.getElem?_append_left (by simp [jbInts]; omega), List.getElem?_eq_getElem (by simp [jbInts]; omega)]
      simp
    | succ i =>
      rw [List.getElem?_append_right (by simp [jbInts]; omega), show (i + 1) * 4 + j - (jbInts a).length = i * 4 + j by simp [jbInts]; omega, ih i (by simpa using hi)]
      simp
theorem OwnZ.jobs {T : Nat} {w : World} {N : Nat} {v : Value} {js : List Jb} (h : OwnZ T 4 w N v js.length (jbRaw js)) : Jobs w v js := by
  have hr := h
  rcases h.2 with ⟨rfl, h0⟩ | ⟨g, cap, cur, rfl, hg, hh, hc, hm, hcs, ht⟩
  · exact ⟨by omega, none, 0, by rw [h0], by omega, fun i hi => by omega⟩
  · refine ⟨by omega, _, cap, rfl, by omega, fun i hi => ⟨g, 0, rfl, (Array.getElem?_eq_some_iff.1 hh).1, fun j hj => ?_⟩⟩
    have hj4 : j < 4 := by simpa [jbCells] using hj
    have := World.ownsRow.cellAt (g := g) (cap := cap) hr (i * 4 + j) (by omega)
    rw [Nat.zero_add, this, List.getElem?_map, jbRaw_get js i j hi hj4]
    simp only [← jbInts_cells, List.getElem_map, Option.map_some]

/-- A rule's five numbers. -/
abbrev Rl := Int × Int × Int × Int × Int
/-- A desk's value. -/
def deskV (vj : Value) (r : Rl) (vc : Value) (p : ByteArray) : Value := .agg #[vj, .int .i64 r.1, .int .i64 r.2.1, .int .i64 r.2.2.1, .int .i64 r.2.2.2.1, .int .i64 r.2.2.2.2, vc, .string p]

theorem bcell {W w1 : World} (hb : Below W.heap.size W w1) : (∀ b o, b < W.heap.size → w1.cell? ⟨b, o, none⟩ = W.cell? ⟨b, o, none⟩) ∧ (∀ b o, b < W.heap.size → w1.frozen? ⟨b, o, none⟩ = W.frozen? ⟨b, o, none⟩) :=
  ⟨fun b o h => hb.cell (p := ⟨b, o, none⟩) h, fun b o h => hb.frozen (p := ⟨b, o, none⟩) h⟩

structure OwnDesk (w : World) (lo hi : Nat) (vj vc : Value) (n : Nat) (jr cr : List Int) : Prop where
  j : OwnZ 37 4 w lo vj n jr
  c : OwnI w lo vc cr
  hj : ∀ k, vj.ownBlock = some k → k < hi
  hc : ∀ k, vc.ownBlock = some k → k < hi
def deskBlocks (vj vc : Value) : List Nat := vj.ownBlock.toList ++ vc.ownBlock.toList

theorem own_ne {T size n : Nat} {w : World} {lo lo' : Nat} {vj vc : Value} {jr cr : List Int} (hT : T ≠ 2) (h : OwnZ T size w lo vj n jr) (k : OwnI w lo' vc cr) : vj.ownBlock = none ∨ vj.ownBlock ≠ vc.ownBlock := by
  rcases h.2 with ⟨rfl, _⟩ | ⟨g, cap, cur, rfl, _, hh, _⟩
  · exact .inl rfl
  · refine .inr ?_
    rcases k.2 with ⟨rfl, _⟩ | ⟨g', cap', cur', rfl, _, hh', _⟩
    · intro e; cases e
    · intro e
      have e2 : some g = some g' := e
      injection e2 with e2
      subst e2
      rw [hh] at hh'
      injection hh' with hh'
      injection hh' with _ h3
      exact hT h3
theorem own_ne' {T size n : Nat} {w : World} {lo lo' : Nat} {vj vc : Value} {jr cr : List Int} (hT : T ≠ 2) (h : OwnZ T size w lo vj n jr) (k : OwnI w lo' vc cr) : vc.ownBlock = none ∨ vc.ownBlock ≠ vj.ownBlock := by
  rcases own_ne hT h k with h1 | h1
  · cases hv : vc.ownBlock with
    | none => exact .inl rfl
    | some x => rw [h1]; exact .inr (by simp)
  · exact .inr (Ne.symm h1)

end Go.Proofs.Ytcopjdhnmkfkfaa

namespace Go.Proofs.Ytcopjdhnmkfkfaa
open Go.RowKit
set_option linter.unusedVariables false
set_option linter.unusedSimpArgs false

/-- 'append(s, y, ..)' where the region draws its order. -/
theorem step_append_i64 {ops : Array Oper} {o : Oper} {a : Act} {K : Act → World → Prop} {Q : Exit → Act → World → Prop} {E : Prop} {W : World} (hgd : o.guard = none) (s x : Operand)
    (ho : o.op = .call { callee := .builtin .append, args := #[s, x], argTypes := #[27, 27] }) (B : Nat) (v : Value) (xs ys : List Int) (hy : 0 < ys.length)
    (hs : a.eval s = v) (c : Nat) (hx : a.eval x = .slice (some ⟨W.heap.size, 0, none⟩) ys.length c) (hown : OwnI W B v xs) (hB : B ≤ W.heap.size) (hsmall : xs.length + ys.length ≤ 1099511627776)
    (hK : ∀ g c w', OwnI w' B (.slice (some ⟨g, 0, none⟩) (xs.length + ys.length) c) (xs ++ ys) → W.grownBy w' v.ownBlock → K (a.put o.dst (.slice (some ⟨g, 0, none⟩) (xs.length + ys.length) c)) w') :
    if Region.wanted o (yielded ops a.tmps) = true then Oper.wp Try.prog o a (W.alloc (.cells (ys.map (Value.int .i64)).toArray 2)).drew K Q else E := by
  obtain ⟨i0, hi, hz0, hz1, hz2⟩ := info_parts info_i64
  have hown' : (W.alloc (.cells (ys.map (Value.int .i64)).toArray 2)).drew.ownsRow B 2 1 v xs.length (xs.map (Value.int .i64)) := World.ownsRow.drew (World.ownsRow.alloc hown _)
  refine step_append_lies _ hgd s x 27 ho B 2 i0 (.int .i64 0) 1 8 Try.underlying27 hi hz0 hz1 hz2 rfl (by decide) v xs.length _ hs hown' ⟨W.heap.size, 0, none⟩ ys.length c (ys.map (Value.int .i64)) hx (by simp) (cells_lit W _ _) ?_ hy (by unfold maxLen; omega) (by omega) (by simp; omega) (W.heap.size + 1) (by simp) ?_
  · intro u hu; obtain ⟨y, _, rfl⟩ := List.mem_map.1 hu; rfl
  · intro g cap w' h1 h2 _ _
    have h2' : (W.alloc (.cells (ys.map (Value.int .i64)).toArray 2)).grownBy w' v.ownBlock := ⟨h2.os, h2.tape, h2.output, h2.size, h2.block⟩
    obtain ⟨g', c', he, h3, h4⟩ := app_shape hy hown h1 h2'
    obtain ⟨rfl, rfl⟩ : g = g' ∧ cap = c' := by simpa using he
    exact hK g cap w' h3 h4
end Go.Proofs.Ytcopjdhnmkfkfaa

namespace Go.Proofs.Ytcopjdhnmkfkfaa
open Go.RowKit
set_option linter.unusedVariables false
set_option linter.unusedSimpArgs false

/-- 'append(s, y, ..)' where the region draws its order; the new slice lies in the old block or in a new one. -/
theorem step_append_i64L {ops : Array Oper} {o : Oper} {a : Act} {K : Act → World → Prop} {Q : Exit → Act → World → Prop} {E : Prop} {W : World} (hgd : o.guard = none) (s x : Operand)
    (ho : o.op = .call { callee := .builtin .append, args := #[s, x], argTypes := #[27, 27] }) (B : Nat) (v : Value) (xs ys : List Int) (hy : 0 < ys.length)
    (hs : a.eval s = v) (c : Nat) (hx : a.eval x = .slice (some ⟨W.heap.size, 0, none⟩) ys.length c) (hown : OwnI W B v xs) (hB : B ≤ W.heap.size) (hsmall : xs.length + ys.length ≤ 1099511627776)
    (hK : ∀ g c w', OwnI w' B (.slice (some ⟨g, 0, none⟩) (xs.length + ys.length) c) (xs ++ ys) → W.grownBy w' v.ownBlock → (v.ownBlock = some g ∨ W.heap.size ≤ g) → K (a.put o.dst (.slice (some ⟨g, 0, none⟩) (xs.length + ys.length) c)) w') :
    if Region.wanted o (yielded ops a.tmps) = true then Oper.wp Try.prog o a (W.alloc (.cells (ys.map (Value.int .i64)).toArray 2)).drew K Q else E := by
  obtain ⟨i0, hi, hz0, hz1, hz2⟩ := info_parts info_i64
  have hown' : (W.alloc (.cells (ys.map (Value.int .i64)).toArray 2)).drew.ownsRow B 2 1 v xs.length (xs.map (Value.int .i64)) := World.ownsRow.drew (World.ownsRow.alloc hown _)
  refine step_append_lies _ hgd s x 27 ho B 2 i0 (.int .i64 0) 1 8 Try.underlying27 hi hz0 hz1 hz2 rfl (by decide) v xs.length _ hs hown' ⟨W.heap.size, 0, none⟩ ys.length c (ys.map (Value.int .i64)) hx (by simp) (cells_lit W _ _) ?_ hy (by unfold maxLen; omega) (by omega) (by simp; omega) (W.heap.size + 1) (by simp) ?_
  · intro u hu; obtain ⟨y, _, rfl⟩ := List.mem_map.1 hu; rfl
  · intro g cap w' h1 h2 h5 _
    have h2' : (W.alloc (.cells (ys.map (Value.int .i64)).toArray 2)).grownBy w' v.ownBlock := ⟨h2.os, h2.tape, h2.output, h2.size, h2.block⟩
    obtain ⟨g', c', he, h3, h4⟩ := app_shape hy hown h1 h2'
    obtain ⟨rfl, rfl⟩ : g = g' ∧ cap = c' := by simpa using he
    exact hK g cap w' h3 h4 (h5.imp id (fun e => by omega))
/-- .. in a plain list. -/
theorem append_i64L {ops : Array Oper} {rest : List Oper} {o : Oper} {a : Act} {Q : Exit → Act → World → Prop} {W : World} (hgd : o.guard = none) (s x : Operand)
    (ho : o.op = .call { callee := .builtin .append, args := #[s, x], argTypes := #[27, 27] }) (B : Nat) (v : Value) (xs ys : List Int) (hy : 0 < ys.length)
    (hs : a.eval s = v) (c : Nat) (hx : a.eval x = .slice (some ⟨W.heap.size, 0, none⟩) ys.length c) (hown : OwnI W B v xs) (hB : B ≤ W.heap.size) (hsmall : xs.length + ys.length ≤ 1099511627776)
    (hK : ∀ g c w', OwnI w' B (.slice (some ⟨g, 0, none⟩) (xs.length + ys.length) c) (xs ++ ys) → W.grownBy w' v.ownBlock → (v.ownBlock = some g ∨ W.heap.size ≤ g) → wpList Try.prog ops Q rest (a.put o.dst (.slice (some ⟨g, 0, none⟩) (xs.length + ys.length) c)) w') :
    wpList Try.prog ops Q (o :: rest) a (W.alloc (.cells (ys.map (Value.int .i64)).toArray 2)) := by
  obtain ⟨i0, hi, hz0, hz1, hz2⟩ := info_parts info_i64
  refine wpList_append_lies _ hgd s x 27 ho B 2 i0 (.int .i64 0) 1 8 Try.underlying27 hi hz0 hz1 hz2 rfl (by decide) v xs.length _ hs (World.ownsRow.alloc hown _) ⟨W.heap.size, 0, none⟩ ys.length c (ys.map (Value.int .i64)) hx (by simp) (cells_lit W _ _) ?_ hy (by unfold maxLen; omega) (by omega) (by simp; omega) (W.heap.size + 1) (by simp) ?_
  · intro u hu; obtain ⟨y, _, rfl⟩ := List.mem_map.1 hu; rfl
  · intro g cap w' h1 h2 h5 _
    obtain ⟨g', c', he, h3, h4⟩ := app_shape hy hown h1 h2
    obtain ⟨rfl, rfl⟩ : g = g' ∧ cap = c' := by simpa using he
    exact hK g cap w' h3 h4 (h5.imp id (fun e => by omega))
/-- A row of the call's own, cut to its first n elements. -/
theorem OwnI.cut {w : World} {B g n c : Nat} {xs : List Int} (h : OwnI w B (.slice (some ⟨g, 0, none⟩) n c) xs) (k : Nat) (hk : k ≤ xs.length) (hn : n = xs.length) : OwnI w B (.slice (some ⟨g, 0, none⟩) k c) (xs.take k) := by
  subst hn
  refine ⟨by simp, ?_⟩
  rcases h.2 with ⟨h1, _⟩ | ⟨g', cap, cur, h1, h2, h3, h4, h5, h6, h7⟩
  · cases h1
  · obtain ⟨rfl, rfl⟩ : g = g' ∧ c = cap := by simpa using h1
    have hl : (xs.take k).length = k := by simp; omega
    refine .inr ⟨g, c, cur, by rw [hl], h2, h3, by rw [hl]; omega, h5, h6, ?_⟩
    rw [hl, List.map_take, ← h7, List.take_take]
    congr 1; omega
end Go.Proofs.Ytcopjdhnmkfkfaa

namespace Go.Proofs.Ytcopjdhnmkfkfaa
open Go.RowKit
set_option linter.unusedVariables false
set_option linter.unusedSimpArgs false

/-- x stands before y. -/
def lexLt (key : Int → Int) (x y : Int) : Prop := key x < key y ∨ key x = key y ∧ x < y
theorem lexLt.trans {key : Int → Int} {x y z : Int} (h : lexLt key x y) (k : lexLt key y z) : lexLt key x z := by
  unfold lexLt at *; omega
/-- From a to b it is sorted. -/
def SortedOn (key : Int → Int) (d : List Int) (a b : Nat) : Prop := ∀ i j, a ≤ i → i < j → j < b → lexLt key (nth d i) (nth d j)
theorem SortedOn.sub {key : Int → Int} {d : List Int} {a b a' b' : Nat} (h : SortedOn key d a b) (h1 : a ≤ a') (h2 : b' ≤ b) : SortedOn key d a' b' := fun i j x y z => h i j (by omega) y (by omega)
theorem nth_set1 {l : List Int} {m i : Nat} (v : Int) (hm : m < l.length) : nth (l.set m v) i = if m = i then v else nth l i := by
  unfold nth
  rw [List.getD_eq_getElem?_getD, List.getD_eq_getElem?_getD, List.getElem?_set]
  by_cases h : m = i
  · subst h; simp [hm]
  · simp [h]
def swp2 (d : List Int) (i j : Nat) : List Int := (d.set i (nth d j)).set j (nth d i)
theorem swp2_len (d : List Int) (i j : Nat) : (swp2 d i j).length = d.length := by simp [swp2]
theorem nth_swp2 {d : List Int} {i j : Nat} (hi : i < d.length) (hj : j < d.length) (k : Nat) : nth (swp2 d i j) k = if j = k then nth d i else if i = k then nth d j else nth d k := by
  unfold swp2
  rw [nth_set1 _ (by rw [List.length_set]; exact hj), nth_set1 _ hi]
theorem swp2_perm {d : List Int} {i j : Nat} (hi : i < d.length) (hj : j < d.length) : (swp2 d i j).Perm d := by
  rw [List.perm_iff_count]
  intro x
  unfold swp2
  have h1 : j < (d.set i (nth d j)).length := by rw [List.length_set]; exact hj
  rw [List.count_set h1, List.count_set hi]
  have e1 : (d.set i (nth d j))[j] = if i = j then nth d j else d[j] := by rw [List.getElem_set]
  have ei : d[i] = nth d i := (nth_eq hi).symm
  have ej : d[j] = nth d j := (nth_eq hj).symm
  have hci : (if d[i] == x then 1 else 0) ≤ List.count x d := by
    split
    · rename_i h
      have : x ∈ d := by rw [← (beq_iff_eq.1 h)]; exact List.getElem_mem hi
      exact List.one_le_count_iff.2 this
    · omega
  rw [e1]
  by_cases hij : i = j
  · subst hij
    simp only [if_true, ei] at *
    omega
  · simp only [if_neg hij, ei, ej] at *
    have hcj : nth d i ≠ nth d j → (if nth d i == x then 1 else 0) + (if nth d j == x then 1 else 0) ≤ 1 := fun hne => by
      by_cases ha : nth d i = x
      · have hb : ¬ nth d j = x := fun hb => hne (ha.trans hb.symm)
        simp [ha, hb]
      · simp only [beq_iff_eq, ha, if_false]; split <;> omega
    omega

/-! Insertion. -/
/-- The element at j is being put in; all else from a to i is sorted, and what stands behind it is greater. -/
structure InsInv (key : Int → Int) (d : List Int) (a i j : Nat) : Prop where
  aj : a ≤ j
  ji : j ≤ i
  rest : ∀ p q, a ≤ p → p < q → q ≤ i → p ≠ j → q ≠ j → lexLt key (nth d p) (nth d q)
  more : ∀ q, j < q → q ≤ i → key (nth d j) < key (nth d q)
  last : ∀ p, a ≤ p → p < j → nth d p < nth d j
theorem InsInv.start {key : Int → Int} {d : List Int} {a i : Nat} (hs : SortedOn key d a i) (ha : a ≤ i) (hl : ∀ p, a ≤ p → p < i → nth d p < nth d i) : InsInv key d a i i :=
  ⟨ha, Nat.le_refl _, fun p q h1 h2 h3 h4 h5 => hs p q h1 h2 (by omega), fun q h1 h2 => by omega, hl⟩
theorem InsInv.step {key : Int → Int} {d : List Int} {a i j : Nat} (h : InsInv key d a i j) (haj : a < j) (hi : i < d.length) (hk : key (nth d j) < key (nth d (j - 1))) : InsInv key (swp2 d j (j - 1)) a i (j - 1) := by
  have hji := h.ji
  have hn : ∀ k, nth (swp2 d j (j - 1)) k = if j - 1 = k then nth d j else if j = k then nth d (j - 1) else nth d k := fun k => nth_swp2 (by omega) (by omega) k
  refine ⟨by omega, by omega, fun p q h1 h2 h3 h4 h5 => ?_, fun q h1 h2 => ?_, fun p h1 h2 => ?_⟩
  · rw [hn p, hn q, if_neg (Ne.symm h4), if_neg (Ne.symm h5)]
    by_cases hp : j = p
    · subst hp
      rw [if_pos rfl, if_neg (by omega)]
      exact h.rest (j - 1) q (by omega) (by omega) h3 (by omega) (by omega)
    · rw [if_neg hp]
      by_cases hq : j = q
      · subst hq
        rw [if_pos rfl]
        exact h.rest p (j - 1) h1 (by omega) (by omega) (by omega) (by omega)
      · rw [if_neg hq]
        exact h.rest p q h1 h2 h3 (Ne.symm hp) (Ne.symm hq)
  · rw [hn (j - 1), hn q, if_pos rfl, if_neg (by omega)]
    by_cases hq : j = q
    · rw [if_pos hq]; exact hk
    · rw [if_neg hq]; exact h.more q (by omega) h2
  · rw [hn (j - 1), hn p, if_pos rfl, if_neg (by omega), if_neg (by omega)]
    exact h.last p h1 (by omega)
theorem InsInv.done {key : Int → Int} {d : List Int} {a i j : Nat} (h : InsInv key d a i j) (he : j = a ∨ ¬ key (nth d j) < key (nth d (j - 1))) : SortedOn key d a (i + 1) := by
  intro p q h1 h2 h3
  by_cases hp : p = j
  · subst hp; exact .inl (h.more q h2 (by omega))
  by_cases hq : q = j
  · subst hq
    have hpr : lexLt key (nth d (q - 1)) (nth d q) := by
      rcases he with he | he
      · omega
      · have := h.last (q - 1) (by omega) (by omega)
        unfold lexLt; omega
    by_cases hpq : p = q - 1
    · rw [hpq]; exact hpr
    · exact (h.rest p (q - 1) h1 (by omega) (by have := h.ji; omega) hp (by omega)).trans hpr
  exact h.rest p q h1 h2 (by omega) hp hq

/-! Rotation and merging. -/
/-- Of d, only the places from a to b have changed, and they hold what stood there. -/
structure SegSame (d d' : List Int) (a b : Nat) : Prop where
  len : d'.length = d.length
  out : ∀ k, k < a ∨ b ≤ k → nth d' k = nth d k
  mem : ∀ k, a ≤ k → k < b → ∃ k', a ≤ k' ∧ k' < b ∧ nth d' k = nth d k'
  perm : d'.Perm d
theorem SegSame.refl (d : List Int) (a b : Nat) : SegSame d d a b := ⟨rfl, fun _ _ => rfl, fun k h1 h2 => ⟨k, h1, h2, rfl⟩, List.Perm.refl _⟩
theorem SegSame.trans {d d' d'' : List Int} {a b : Nat} (h : SegSame d d' a b) (k : SegSame d' d'' a b) : SegSame d d'' a b :=
  ⟨k.len.trans h.len, fun q hq => (k.out q hq).trans (h.out q hq), fun q h1 h2 => by
    obtain ⟨q', a1, a2, a3⟩ := k.mem q h1 h2
    obtain ⟨q'', b1, b2, b3⟩ := h.mem q' a1 a2
    exact ⟨q'', b1, b2, a3.trans b3⟩, k.perm.trans h.perm⟩
theorem SegSame.wide {d d' : List Int} {a b a' b' : Nat} (h : SegSame d d' a b) (h1 : a' ≤ a) (h2 : b ≤ b') : SegSame d d' a' b' :=
  ⟨h.len, fun k hk => h.out k (by omega), fun k k1 k2 => by
    by_cases hk : a ≤ k ∧ k < b
    · obtain ⟨k', x, y, z⟩ := h.mem k hk.1 hk.2
      exact ⟨k', by omega, by omega, z⟩
    · exact ⟨k, k1, k2, h.out k (by omega)⟩, h.perm⟩
theorem SegSame.swap {d : List Int} {a b i j : Nat} (hb : b ≤ d.length) (h1 : a ≤ i) (h2 : i < b) (h3 : a ≤ j) (h4 : j < b) : SegSame d (swp2 d i j) a b := by
  have hn := fun k => nth_swp2 (d := d) (i := i) (j := j) (by omega) (by omega) k
  refine ⟨swp2_len _ _ _, fun k hk => ?_, fun k k1 k2 => ?_, swp2_perm (by omega) (by omega)⟩
  · rw [hn, if_neg (by omega), if_neg (by omega)]
  · rw [hn]
    by_cases e1 : j = k
    · rw [if_pos e1]; exact ⟨i, h1, h2, rfl⟩
    · rw [if_neg e1]
      by_cases e2 : i = k
      · rw [if_pos e2]; exact ⟨j, h3, h4, rfl⟩
      · rw [if_neg e2]; exact ⟨k, k1, k2, rfl⟩
/-- Two sorted pieces, that on the left elder. -/
structure MergePre (key : Int → Int) (d : List Int) (a m b : Nat) : Prop where
  l : SortedOn key d a m
  r : SortedOn key d m b
  side : ∀ p q, a ≤ p → p < m → m ≤ q → q < b → key (nth d p) = key (nth d q) → nth d p < nth d q
/-- What stood from m to e stands from s on, what stood from s to m behind it. -/
structure Rotated (d d' : List Int) (s m e : Nat) : Prop where
  len : d'.length = d.length
  out : ∀ k, k < s ∨ e ≤ k → nth d' k = nth d k
  lo : ∀ k, k < e - m → nth d' (s + k) = nth d (m + k)
  hi : ∀ k, k < m - s → nth d' (s + (e - m) + k) = nth d (s + k)
/-- Where the two pieces are parted, the halves are. -/
theorem merge_halves {key : Int → Int} {d d' : List Int} {a m b s e mid : Nat} (h : MergePre key d a m b) (hr : Rotated d d' s m e) (has : a ≤ s) (hsm : s ≤ m) (hme : m ≤ e) (heb : e ≤ b) (hmid : mid = s + (e - m))
    (h1 : ∀ p q, a ≤ p → p < s → e ≤ q → q < b → lexLt key (nth d p) (nth d q)) (h2 : ∀ p q, m ≤ p → p < e → s ≤ q → q < m → lexLt key (nth d p) (nth d q)) :
    MergePre key d' a s mid ∧ MergePre key d' mid e b ∧ ∀ p q, a ≤ p → p < mid → mid ≤ q → q < b → lexLt key (nth d' p) (nth d' q) := by
  have lo : ∀ k, s ≤ k → k < mid → nth d' k = nth d (m + (k - s)) := fun k k1 k2 => by
    have := hr.lo (k - s) (by omega)
    rwa [show s + (k - s) = k by omega] at this
  have hi : ∀ k, mid ≤ k → k < e → nth d' k = nth d (s + (k - mid)) := fun k k1 k2 => by
    have := hr.hi (k - mid) (by omega)
    rwa [show s + (e - m) + (k - mid) = k by omega] at this
  have ol : ∀ k, k < s → nth d' k = nth d k := fun k hk => hr.out k (.inl hk)
  have oh : ∀ k, e ≤ k → nth d' k = nth d k := fun k hk => hr.out k (.inr hk)
  refine ⟨⟨fun i j x y z => ?_, fun i j x y z => ?_, fun p q x y z t hk => ?_⟩, ⟨fun i j x y z => ?_, fun i j x y z => ?_, fun p q x y z t hk => ?_⟩, fun p q x y z t => ?_⟩
  · rw [ol i (by omega), ol j (by omega)]; exact h.l i j x y (by omega)
  · rw [lo i x (by omega), lo j (by omega) z]; exact h.r _ _ (by omega) (by omega) (by omega)
  · rw [ol p y, lo q z t] at hk ⊢
    exact h.side _ _ x (by omega) (by omega) (by omega) hk
  · rw [hi i x (by omega), hi j (by omega) z]; exact h.l _ _ (by omega) (by omega) (by omega)
  · rw [oh i x, oh j (by omega)]; exact h.r _ _ (by omega) y z
  · rw [hi p x y, oh q z] at hk ⊢
    exact h.side _ _ (by omega) (by omega) (by omega) t hk
  · by_cases hp : p < s
    · rw [ol p hp]
      by_cases hq : q < e
      · rw [hi q z hq]; exact h.l _ _ x (by omega) (by omega)
      · rw [oh q (by omega)]; exact h1 _ _ x hp (by omega) t
    · rw [lo p (by omega) y]
      by_cases hq : q < e
      · rw [hi q z hq]; exact h2 _ _ (by omega) (by omega) (by omega) (by omega)
      · rw [oh q (by omega)]; exact h.r _ _ (by omega) (by omega) t
/-- Two sorted halves, each of the first before each of the second. -/
theorem halves_sorted {key : Int → Int} {d d' : List Int} {a mid b : Nat} (hd : ∀ p q, a ≤ p → p < mid → mid ≤ q → q < b → lexLt key (nth d p) (nth d q)) (ham : a ≤ mid) (hmb : mid ≤ b)
    (h1 : SortedOn key d' a mid) (h2 : SortedOn key d' mid b) (m1 : ∀ k, a ≤ k → k < mid → ∃ k', a ≤ k' ∧ k' < mid ∧ nth d' k = nth d k') (m2 : ∀ k, mid ≤ k → k < b → ∃ k', mid ≤ k' ∧ k' < b ∧ nth d' k = nth d k') : SortedOn key d' a b := by
  intro i j x y z
  by_cases hi : i < mid
  · by_cases hj : j < mid
    · exact h1 i j x y hj
    · obtain ⟨i', a1, a2, a3⟩ := m1 i x hi
      obtain ⟨j', b1, b2, b3⟩ := m2 j (by omega) z
      rw [a3, b3]; exact hd _ _ a1 a2 b1 b2
  · exact h2 i j (by omega) y z
/-- The search of the place where the pieces are parted. -/
structure Search (key : Int → Int) (d : List Int) (p s0 r0 s r : Nat) : Prop where
  s0s : s0 ≤ s
  sr : s ≤ r
  rr : r ≤ r0
  no : ∀ c, s0 ≤ c → c < s → ¬ key (nth d (p - c)) < key (nth d c)
  yes : ∀ c, r ≤ c → c < r0 → key (nth d (p - c)) < key (nth d c)
theorem Search.start (key : Int → Int) (d : List Int) {p s0 r0 : Nat} (h : s0 ≤ r0) : Search key d p s0 r0 s0 r0 := ⟨Nat.le_refl _, h, Nat.le_refl _, fun c h1 h2 => by omega, fun c h1 h2 => by omega⟩
/-- Both pieces are sorted: what holds at c holds before it, or behind it. -/
theorem Search.low {key : Int → Int} {d : List Int} {a m b p s0 r0 s r c : Nat} (h : Search key d p s0 r0 s r) (hm : MergePre key d a m b) (hs : s ≤ c) (hr : c < r) (ha : a ≤ s0) (hrm : r0 ≤ m) (hp1 : ∀ c, s0 ≤ c → c < r0 → m ≤ p - c ∧ p - c < b ∧ c ≤ p) (hk : ¬ key (nth d (p - c)) < key (nth d c)) : Search key d p s0 r0 (c + 1) r := by
  have e1 := h.s0s
  have e2 := h.rr
  refine ⟨by omega, by omega, h.rr, fun q h1 h2 => ?_, h.yes⟩
  by_cases hq : q = c
  · rw [hq]; exact hk
  obtain ⟨u1, u2, u3⟩ := hp1 q h1 (by omega)
  obtain ⟨v1, v2, v3⟩ := hp1 c (by omega) (by omega)
  have k1 := hm.l q c (by omega) (by omega) (by omega)
  have k2 := hm.r (p - c) (p - q) v1 (by omega) u2
  unfold lexLt at k1 k2
  omega
theorem Search.high {key : Int → Int} {d : List Int} {a m b p s0 r0 s r c : Nat} (h : Search key d p s0 r0 s r) (hm : MergePre key d a m b) (hs : s ≤ c) (hr : c < r) (ha : a ≤ s0) (hrm : r0 ≤ m) (hp1 : ∀ c, s0 ≤ c → c < r0 → m ≤ p - c ∧ p - c < b ∧ c ≤ p) (hk : key (nth d (p - c)) < key (nth d c)) : Search key d p s0 r0 s c := by
  have e1 := h.s0s
  have e2 := h.rr
  refine ⟨h.s0s, hs, by omega, h.no, fun q h1 h2 => ?_⟩
  by_cases hq : q = c
  · rw [hq]; exact hk
  obtain ⟨u1, u2, u3⟩ := hp1 q (by omega) h2
  obtain ⟨v1, v2, v3⟩ := hp1 c (by omega) (by omega)
  have k1 := hm.l c q (by omega) (by omega) (by omega)
  have k2 := hm.r (p - q) (p - c) u1 (by omega) v2
  unfold lexLt at k1 k2
  omega
theorem Search.parts {key : Int → Int} {d : List Int} {a m b mid s0 r0 s : Nat} (h : Search key d (mid + m - 1) s0 r0 s s) (hm : MergePre key d a m b) (ham : a < m) (hmb : m < b) (hmid : mid = (a + b) / 2) (h0 : m > mid ∧ s0 = mid + m - b ∧ r0 = mid ∨ m ≤ mid ∧ s0 = a ∧ r0 = m) :
    a ≤ s ∧ s ≤ m ∧ s ≤ mid ∧ m ≤ mid + m - s ∧ mid + m - s ≤ b ∧ mid = s + (mid + m - s - m) ∧
    (∀ p q, a ≤ p → p < s → mid + m - s ≤ q → q < b → lexLt key (nth d p) (nth d q)) ∧ (∀ p q, m ≤ p → p < mid + m - s → s ≤ q → q < m → lexLt key (nth d p) (nth d q)) := by
  have e1 := h.s0s
  have e2 := h.rr
  have hms : s ≤ mid := by omega
  have hsm : s ≤ m := by omega
  refine ⟨by omega, hsm, hms, by omega, by omega, by omega, fun p q h1 h2 h3 h4 => ?_, fun p q h1 h2 h3 h4 => ?_⟩
  · have hs : s0 < s := by
      rcases Nat.lt_or_eq_of_le e1 with h | h
      · exact h
      · omega
    have k := h.no (s - 1) (by omega) (by omega)
    rw [show mid + m - 1 - (s - 1) = mid + m - s by omega] at k
    have sd := hm.side (s - 1) (mid + m - s) (by omega) (by omega) (by omega) (by omega)
    have c1 : lexLt key (nth d (s - 1)) (nth d (mid + m - s)) := by
      unfold lexLt
      by_cases he : key (nth d (s - 1)) = key (nth d (mid + m - s))
      · exact .inr ⟨he, sd he⟩
      · exact .inl (by omega)
    have c2 : lexLt key (nth d p) (nth d (mid + m - s)) := by
      by_cases hp : p = s - 1
      · rw [hp]; exact c1
      · exact (hm.l p (s - 1) h1 (by omega) (by omega)).trans c1
    by_cases hq : q = mid + m - s
    · rw [hq]; exact c2
    · exact c2.trans (hm.r _ q (by omega) (by omega) h4)
  · have hs : s < r0 := by
      rcases Nat.lt_or_eq_of_le e2 with h | h
      · exact h
      · omega
    have k := h.yes s (Nat.le_refl _) hs
    rw [show mid + m - 1 - s = mid + m - s - 1 by omega] at k
    have c1 : lexLt key (nth d (mid + m - s - 1)) (nth d s) := .inl k
    have c2 : lexLt key (nth d p) (nth d s) := by
      by_cases hp : p = mid + m - s - 1
      · rw [hp]; exact c1
      · exact (hm.r p (mid + m - s - 1) h1 (by omega) (by omega)).trans c1
    by_cases hq : q = s
    · rw [hq]; exact c2
    · exact c2.trans (hm.l s q (by omega) (by omega) h4)
/-! Exchanges of ranges; rotation. -/
structure Swapped (D E : List Int) (x y n : Nat) : Prop where
  len : E.length = D.length
  lo : ∀ k, k < n → nth E (x + k) = nth D (y + k)
  hi : ∀ k, k < n → nth E (y + k) = nth D (x + k)
  out : ∀ k, k < x ∨ x + n ≤ k ∧ k < y ∨ y + n ≤ k → nth E k = nth D k
theorem Swapped.zero (D : List Int) (x y : Nat) : Swapped D D x y 0 := ⟨rfl, fun k h => absurd h (Nat.not_lt_zero _), fun k h => absurd h (Nat.not_lt_zero _), fun _ _ => rfl⟩
theorem Swapped.step {D E : List Int} {x y n k : Nat} (h : Swapped D E x y k) (hk : k < n) (hxy : x + n ≤ y) (hy : y + n ≤ D.length) : Swapped D (swp2 E (x + k) (y + k)) x y (k + 1) := by
  have hn := fun q => nth_swp2 (d := E) (i := x + k) (j := y + k) (by rw [h.len]; omega) (by rw [h.len]; omega) q
  refine ⟨by rw [swp2_len, h.len], fun q hq => ?_, fun q hq => ?_, fun q hq => ?_⟩
  · rw [hn, if_neg (by omega)]
    by_cases e : q = k
    · rw [e, if_pos rfl, h.out (y + k) (by omega)]
    · rw [if_neg (by omega), h.lo q (by omega)]
  · rw [hn]
    by_cases e : q = k
    · rw [e, if_pos rfl, h.out (x + k) (by omega)]
    · rw [if_neg (by omega), if_neg (by omega), h.hi q (by omega)]
  · rw [hn, if_neg (by omega), if_neg (by omega)]
    exact h.out q (by omega)
theorem Rotated.none_l (d : List Int) {s m e : Nat} (h : s = m) : Rotated d d s m e := ⟨rfl, fun _ _ => rfl, fun k _ => by rw [h], fun k hk => by omega⟩
theorem Rotated.none_r (d : List Int) {s m e : Nat} (h : e = m) : Rotated d d s m e := ⟨rfl, fun _ _ => rfl, fun k hk => by omega, fun k hk => by rw [h]; congr 1; omega⟩
theorem rot_eq {D E : List Int} {m i : Nat} (h : Swapped D E (m - i) m i) (him : i ≤ m) : Rotated D E (m - i) m (m + i) :=
  ⟨h.len, fun k hk => h.out k (by omega), fun k hk => h.lo k (by omega), fun k hk => by
    have := h.hi k (by omega)
    rwa [show m - i + (m + i - m) + k = m + k by omega]⟩
theorem rot_gt {D E F : List Int} {m i j : Nat} (h : Swapped D E (m - i) m j) (hji : j < i) (him : i ≤ m) (hr : Rotated E F (m - (i - j)) m (m + j)) : Rotated D F (m - i) m (m + j) := by
  refine ⟨hr.len.trans h.len, fun k hk => ?_, fun k hk => ?_, fun k hk => ?_⟩
  · rw [hr.out k (by omega)]; exact h.out k (by omega)
  · rw [hr.out (m - i + k) (by omega)]; exact h.lo k (by omega)
  · -- the place m - i + j + k
    by_cases hkj : k < j
    · have h1 := hr.lo k (by omega)
      rw [show m - (i - j) + k = m - i + (m + j - m) + k by omega] at h1
      rw [h1]; exact h.hi k hkj
    · have h1 := hr.hi (k - j) (by omega)
      rw [show m - (i - j) + (m + j - m) + (k - j) = m - i + (m + j - m) + k by omega] at h1
      rw [h1, show m - (i - j) + (k - j) = m - i + k by omega]
      exact h.out _ (by omega)
theorem rot_lt {D E F : List Int} {m i j : Nat} (h : Swapped D E (m - i) (m + j - i) i) (hij : i < j) (him : i ≤ m) (hr : Rotated E F (m - i) m (m + (j - i))) : Rotated D F (m - i) m (m + j) := by
  refine ⟨hr.len.trans h.len, fun k hk => ?_, fun k hk => ?_, fun k hk => ?_⟩
  · rw [hr.out k (by omega)]; exact h.out k (by omega)
  · by_cases hk2 : k < j - i
    · have h1 := hr.lo k (by omega)
      rw [h1]; exact h.out _ (by omega)
    · have h1 := hr.hi (k - (j - i)) (by omega)
      rw [show m - i + (m + (j - i) - m) + (k - (j - i)) = m - i + k by omega] at h1
      rw [h1]
      have h2 := h.lo (k - (j - i)) (by omega)
      rw [show m - i + (k - (j - i)) = m - i + (k - (j - i)) from rfl] at h2
      rw [h2]
      congr 1; omega
  · rw [hr.out (m - i + (m + j - m) + k) (by omega)]
    have h1 := h.hi k (by omega)
    rw [show m + j - i + k = m - i + (m + j - m) + k by omega] at h1
    exact h1
/-- One element goes to the right, or to the left. -/
theorem Rotated.right {d D : List Int} {a k : Nat} (h : Rotated d D a (a + 1) (k + 1)) (hak : a ≤ k) (hk : k + 1 < d.length) : Rotated d (swp2 D k (k + 1)) a (a + 1) (k + 2) := by
  have hn := fun q => nth_swp2 (d := D) (i := k) (j := k + 1) (by rw [h.len]; omega) (by rw [h.len]; omega) q
  have hx : nth D k = nth d a := by
    have := h.hi 0 (by omega)
    rwa [show a + (k + 1 - (a + 1)) + 0 = k by omega, Nat.add_zero] at this
  refine ⟨by rw [swp2_len, h.len], fun q hq => ?_, fun q hq => ?_, fun q hq => ?_⟩
  · rw [hn, if_neg (by omega), if_neg (by omega)]; exact h.out q (by omega)
  · rw [hn, if_neg (by omega)]
    by_cases e : k = a + q
    · rw [if_pos e, h.out (k + 1) (by omega), e]; congr 1; omega
    · rw [if_neg e]; exact h.lo q (by omega)
  · obtain rfl : q = 0 := by omega
    rw [hn, if_pos (by omega), hx, Nat.add_zero]
theorem Rotated.left {d D : List Int} {k m : Nat} (h : Rotated d D k m (m + 1)) (h0 : 0 < k) (hkm : k ≤ m) (hm : m < d.length) : Rotated d (swp2 D k (k - 1)) (k - 1) m (m + 1) := by
  have hn := fun q => nth_swp2 (d := D) (i := k) (j := k - 1) (by rw [h.len]; omega) (by rw [h.len]; omega) q
  have hx : nth D k = nth d m := by
    have := h.lo 0 (by omega)
    rwa [Nat.add_zero, Nat.add_zero] at this
  refine ⟨by rw [swp2_len, h.len], fun q hq => ?_, fun q hq => ?_, fun q hq => ?_⟩
  · rw [hn, if_neg (by omega), if_neg (by omega)]; exact h.out q (by omega)
  · obtain rfl : q = 0 := by omega
    rw [hn, if_pos (by omega), hx, Nat.add_zero]
  · rw [hn, if_neg (by omega)]
    by_cases e : q = 0
    · subst e
      rw [if_pos (by omega), h.out (k - 1) (by omega), Nat.add_zero]
    · rw [if_neg (by omega)]
      have := h.hi (q - 1) (by omega)
      rw [show k + (m + 1 - m) + (q - 1) = k - 1 + (m + 1 - m) + q by omega, show k + (q - 1) = k - 1 + q by omega] at this
      exact this
theorem sorted_join {key : Int → Int} {d : List Int} {a mid b : Nat} (ham : a ≤ mid) (hmb : mid ≤ b) (h1 : SortedOn key d a mid) (h2 : SortedOn key d mid b) (hd : ∀ p q, a ≤ p → p < mid → mid ≤ q → q < b → lexLt key (nth d p) (nth d q)) : SortedOn key d a b :=
  halves_sorted hd ham hmb h1 h2 (fun k k1 k2 => ⟨k, k1, k2, rfl⟩) (fun k k1 k2 => ⟨k, k1, k2, rfl⟩)
/-- One element on the left. -/
theorem merge_one_l {key : Int → Int} {d d' : List Int} {a b i : Nat} (h : MergePre key d a (a + 1) b) (hi1 : a + 1 ≤ i) (hi2 : i ≤ b) (hlo : ∀ c, a + 1 ≤ c → c < i → key (nth d c) < key (nth d a)) (hhi : ∀ c, i ≤ c → c < b → ¬ key (nth d c) < key (nth d a)) (hr : Rotated d d' a (a + 1) i) : SortedOn key d' a b := by
  have hc : ∀ q, i ≤ q → q < b → lexLt key (nth d a) (nth d q) := fun q q1 q2 => by
    have k := hhi q q1 q2
    have s := h.side a q (Nat.le_refl _) (by omega) (by omega) q2
    unfold lexLt
    by_cases e : key (nth d a) = key (nth d q)
    · exact .inr ⟨e, s e⟩
    · exact .inl (by omega)
  obtain ⟨m1, m2, m3⟩ := merge_halves (mid := a + (i - (a + 1))) h hr (Nat.le_refl _) (by omega) hi1 hi2 rfl (fun p q p1 p2 => by omega) (fun p q p1 p2 q1 q2 => by
    obtain rfl : q = a := by omega
    exact .inl (hlo p p1 p2))
  refine sorted_join (by omega) (by omega) m1.r ?_ m3
  refine sorted_join (mid := i) (by omega) hi2 m2.l m2.r fun p q p1 p2 q1 q2 => ?_
  obtain rfl : p = a + (i - (a + 1)) := by omega
  have := hr.hi 0 (by omega)
  rw [Nat.add_zero, Nat.add_zero] at this
  rw [this, hr.out q (.inr q1)]
  exact hc q q1 q2
/-- One element on the right. -/
theorem merge_one_r {key : Int → Int} {d d' : List Int} {a m i : Nat} (h : MergePre key d a m (m + 1)) (hi1 : a ≤ i) (hi2 : i ≤ m) (hlo : ∀ c, a ≤ c → c < i → ¬ key (nth d m) < key (nth d c)) (hhi : ∀ c, i ≤ c → c < m → key (nth d m) < key (nth d c)) (hr : Rotated d d' i m (m + 1)) : SortedOn key d' a (m + 1) := by
  obtain ⟨m1, m2, m3⟩ := merge_halves (mid := i + (m + 1 - m)) h hr hi1 hi2 (by omega) (Nat.le_refl _) rfl (fun p q p1 p2 q1 q2 => by omega) (fun p q p1 p2 q1 q2 => by
    obtain rfl : p = m := by omega
    exact .inl (hhi q q1 q2))
  refine sorted_join (by omega) (by omega) ?_ m2.l m3
  refine sorted_join (mid := i) hi1 (by omega) m1.l m1.r fun p q p1 p2 q1 q2 => ?_
  obtain rfl : q = i := by omega
  have hq := hr.lo 0 (by omega)
  rw [Nat.add_zero, Nat.add_zero] at hq
  rw [hq, hr.out p (.inl p2)]
  have k := hlo p p1 p2
  have s := h.side p m p1 (by omega) (Nat.le_refl _) (by omega)
  unfold lexLt
  by_cases e : key (nth d p) = key (nth d m)
  · exact .inr ⟨e, s e⟩
  · exact .inl (by omega)
end Go.Proofs.Ytcopjdhnmkfkfaa
