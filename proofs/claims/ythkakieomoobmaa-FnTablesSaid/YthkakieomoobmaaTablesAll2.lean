/- Tables of events, plain part: waits, digits, the odometer, what is found. Conditions: none. With texts that it needs. -/
import Derived.Test.YthkakieomoobmaaTablesAll1
import Derived.Laws.BitsLemmas
import Derived.Deep.Slices
import Derived.ChangeArms
import Derived.StillTailTactics
import Derived.Deep.AppendLies
import Derived.Deep.RegionHeld3
namespace Go.Proofs.Ythkakieomoobmaa
open Go.RowKit Go.Shelf Go.BigFrame
set_option linter.unusedVariables false
set_option linter.unusedSimpArgs false
attribute [local go_sem] Oper.semAt_some

/-- At g lies a source over the bytes v, of which a choices have been made. -/
structure Src (W : World) (g : Nat) (v : Value) (a : Nat) : Prop where
  c0 : W.cell? ⟨g, 0, none⟩ = some v
  c1 : W.cell? ⟨g, 1, none⟩ = some (.int .i64 a)
  c2 : ∃ s : Int, W.cell? ⟨g, 2, none⟩ = some (.int .u64 s)
  f1 : W.frozen? ⟨g, 1, none⟩ = false
  f2 : W.frozen? ⟨g, 2, none⟩ = false
theorem Src.lt {W : World} {g : Nat} {v : Value} {a : Nat} (h : Src W g v a) : g < W.heap.size := lt_of_cell h.c0
theorem Src.grown {W W' : World} {g : Nat} {v : Value} {a : Nat} {L : List Nat} (h : Src W g v a) (hg : GrownL L W W') (hn : g ∉ L) : Src W' g v a := by
  have hb := hg.block g h.lt hn
  have hc : ∀ o, W'.cell? ⟨g, o, none⟩ = W.cell? ⟨g, o, none⟩ := fun o => by simp only [World.cell?, hb]
  have hf : ∀ o, W'.frozen? ⟨g, o, none⟩ = W.frozen? ⟨g, o, none⟩ := fun o => by simp only [World.frozen?, hb]
  exact ⟨(hc _).trans h.c0, (hc _).trans h.c1, by obtain ⟨s, hs⟩ := h.c2; exact ⟨s, (hc _).trans hs⟩, (hf _).trans h.f1, (hf _).trans h.f2⟩

theorem and255 (s : Int) : 0 ≤ bits .and .u64 (IntKind.u64.wrap s / 1099511627776) 255 ∧ bits .and .u64 (IntKind.u64.wrap s / 1099511627776) 255 ≤ 255 := by
  have hw : IntKind.u64.wrap s = s % 18446744073709551616 := by simp [IntKind.wrap, IntKind.bits, IntKind.signed]
  obtain ⟨n, hn⟩ : ∃ n : Nat, IntKind.u64.wrap s / 1099511627776 = n := ⟨(IntKind.u64.wrap s / 1099511627776).toNat, by rw [hw]; omega⟩
  have hlt : n < 2 ^ 32 := by rw [hw] at hn; omega
  have h1 := (bits_nat .u64 32 (by decide) (fun m h0 h1 => by rw [show IntKind.u64.wrap m = m % 18446744073709551616 by simp [IntKind.wrap, IntKind.bits, IntKind.signed]]; omega) n 255 hlt (by decide)).1
  have h2 : ((255 : Nat) : Int) = 255 := rfl
  rw [h2] at h1
  rw [hn, h1]
  have := Nat.and_le_right (n := n) (m := 255)
  omega

theorem Src.drewN {w : World} {g a : Nat} {v : Value} (h : Src w g v a) (q : Nat) : Src (w.drewN q) g v a := by
  have hc : ∀ p, (w.drewN q).cell? p = w.cell? p := fun _ => rfl
  have hf : ∀ p, (w.drewN q).frozen? p = w.frozen? p := fun _ => rfl
  exact ⟨h.c0, h.c1, h.c2, h.f1, h.f2⟩
/-- What one choice leaves of the source. -/
theorem Src.next {w : World} {g a : Nat} {v : Value} (hs : Src w g v a) (s : Int) (p q : Nat) : Src ((((w.drewN p).setCell ⟨g, 1, none⟩ (.int .i64 ((a : Int) + 1))).setCell ⟨g, 2, none⟩ (.int .u64 s)).drewN q) g v (a + 1) ∧ GrownL [g] w ((((w.drewN p).setCell ⟨g, 1, none⟩ (.int .i64 ((a : Int) + 1))).setCell ⟨g, 2, none⟩ (.int .u64 s)).drewN q) := by
  have hs' := hs.drewN p
  obtain ⟨W, hW⟩ : ∃ W, w.drewN p = W := ⟨_, rfl⟩
  have hg : GrownL [g] w W := by rw [← hW]; exact (GrownL.refl [g] w).drewN p
  rw [hW] at hs' ⊢
  have c0 := hs'.c0
  have c1 := hs'.c1
  obtain ⟨s0, c2⟩ := hs'.c2
  have f1 := hs'.f1
  have f2 := hs'.f2
  refine ⟨Src.drewN ⟨?_, ?_, ⟨s, ?_⟩, ?_, ?_⟩ q, ((hg.setCell _ _ (.inl (by simp))).setCell _ _ (.inl (by simp))).drewN q⟩
  all_goals simp [go_sem, c0, c1, c2, f1, f2]

set_option maxHeartbeats 1000000 in
theorem next_any (v : Value) (xs : List Int) (g a : Nat) (w : World) (hv : Byts w v xs) (hb : ∀ n ∈ xs, (Lit.int .u8 n).wf = true) (hs : Src w g v a) (ha : a ≤ 1099511627776) :
    Calls Try.prog 58 #[.pointer (some ⟨g, 0, none⟩)] w fun e w' => (∃ x : Int, e = .returned (.int .i64 x) ∧ 0 ≤ x ∧ x ≤ 255) ∧ Src w' g v (a + 1) ∧ GrownL [g] w w' := by
  obtain ⟨hm, ad, c, rfl, hcap, hc⟩ := hv
  have c0 := hs.c0
  have c1 := hs.c1
  obtain ⟨s, c2⟩ := hs.c2
  have f1 := hs.f1
  have f2 := hs.f2
  have HC := Lib.hid hc
  unfold maxLen at hm
  clear hc
  go_enter Try.func58, Try.ntmps58
  have HN := Lib.hid (fun s p q => hs.next s p q)
  clear hs
  by_cases hlt : a < xs.length
  · obtain ⟨b, off, rfl, hbl, h1⟩ := HC.out a hlt
    have hlt' : (a : Int) < (xs.length : Int) := by omega
    have i0 : (0 : Int) ≤ (a : Int) := by omega
    have hx := wf_u8_iff.1 (hb _ (List.getElem_mem hlt))
    obtain ⟨x, hx'⟩ : ∃ x, xs[a] = x := ⟨_, rfl⟩
    rw [hx'] at hx h1
    have hw : wrap64 x = x := IntWalk.wrap64_in _ ⟨by omega, by omega⟩
    go_wp2
    go_quiet (fail)
    go_wp2
    go_quiet (fail)
    go_wp2
    go_quiet (fail)
    go_wp2
    go_ret
    exact ⟨⟨x, rfl, hx.1, hx.2⟩, HN.out _ _ _⟩
  · have hlt' : ¬ (a : Int) < (xs.length : Int) := by omega
    have hle : ¬ (a : Int) + 1 ≤ (xs.length : Int) := by omega
    go_wp2
    go_quiet (fail)
    go_wp2
    go_quiet (fail)
    go_wp2
    go_ret
    have h255 := and255 (IntKind.u64.wrap (IntKind.u64.wrap (s * 6364136223846793005)) + 1442695040888963407)
    refine ⟨⟨_, rfl, ?_, ?_⟩, HN.out _ _ _⟩
    · rw [IntWalk.wrap64_in _ ⟨by omega, by omega⟩]; exact h255.1
    · rw [IntWalk.wrap64_in _ ⟨by omega, by omega⟩]; exact h255.2

theorem from_any (v : Value) (xs : List Int) (w : World) (hv : Byts w v xs) :
    Calls Try.prog 23 #[v] w fun e w' => e = .returned (.pointer (some ⟨w.heap.size, 0, none⟩)) ∧ Src w' w.heap.size v 0 ∧ Below w.heap.size w w' ∧ w'.heap.size = w.heap.size + 1 := by
  obtain ⟨hm, ad, c, rfl, hcap, hc⟩ := hv
  clear hc
  go_enter Try.func23, Try.ntmps23
  go_wp2
  go_ret
  refine ⟨rfl, ⟨?_, ?_, ⟨0, ?_⟩, ?_, ?_⟩, (Below.refl _ _).alloc (Nat.le_refl _) _, by simp⟩
  all_goals simp [go_sem]

set_option maxHeartbeats 1000000 in
theorem pick_any (v : Value) (xs : List Int) (g a : Nat) (n : Int) (w : World) (hv : Byts w v xs) (hb : ∀ n ∈ xs, (Lit.int .u8 n).wf = true) (hs : Src w g v a) (ha : a ≤ 1099511627776) (hn : n ≤ 200) :
    Calls Try.prog 43 #[.pointer (some ⟨g, 0, none⟩), .int .i64 n] w fun e w' => (∃ x : Int, e = .returned (.int .i64 x) ∧ 0 ≤ x ∧ (1 ≤ n → x < n)) ∧ (∃ a', a' ≤ a + 1 ∧ Src w' g v a') ∧ GrownL [g] w w' := by
  have hcall := next_any v xs g a w hv hb hs ha
  have HC := Lib.hid hcall
  have HS := Lib.hid hs
  clear hcall hs hv hb
  by_cases h1 : n ≤ 1
  · go_enter Try.func43, Try.ntmps43
    go_wp2
    go_ret
    exact ⟨⟨0, rfl, Int.le_refl _, fun h => by omega⟩, ⟨a, by omega, HS.out⟩, GrownL.refl _ _⟩
  · have h2 : ¬ n > 200 := by omega
    have h3 : n ≠ 0 := by omega
    go_enter Try.func43, Try.ntmps43
    go_wp2_with fail
    refine HC.out.mono ?_
    rintro e w' ⟨⟨x, rfl, x0, x1⟩, hs', hg'⟩
    have HS' := Lib.hid hs'
    have HG' := Lib.hid hg'
    clear hs' hg'
    go_wp2
    go_ret
    exact ⟨⟨x % n, rfl, Int.emod_nonneg _ h3, fun _ => Int.emod_lt_of_pos _ (by omega)⟩, ⟨a + 1, Nat.le_refl _, HS'.out⟩, HG'.out⟩
end Go.Proofs.Ythkakieomoobmaa

namespace Go.Proofs.Ythkakieomoobmaa
open Go.RowKit Go.ChangeShapes Go.WideShapes Go.Deep
set_option linter.unusedVariables false
set_option linter.unusedSimpArgs false

/-- How a list of cells reads as a datum. -/
structure Rdr (α : Type) where
  size : Nat
  R : World → List Value → α → Prop
  len : ∀ {w : World} {cs : List Value} {x : α}, R w cs x → cs.length = size
  below : ∀ {w w' : World} {cs : List Value} {x : α} {B : Nat}, R w cs x → Below B w w' → w.heap.size ≤ B → R w' cs x

def rInt : Rdr Int := ⟨1, fun _ cs n => cs = [.int .i64 n] ∧ (Lit.int .i64 n).wf = true, fun h => by rw [h.1]; rfl, fun h _ _ => h⟩
def rBool : Rdr Bool := ⟨1, fun _ cs b => cs = [.bool b], fun h => by rw [h]; rfl, fun h _ _ => h⟩
def rStr : Rdr ByteArray := ⟨1, fun _ cs s => cs = [.string s] ∧ s.size ≤ maxLen, fun h => by rw [h.1]; rfl, fun h _ _ => h⟩
def rPair {α β : Type} (r : Rdr α) (s : Rdr β) : Rdr (α × β) := ⟨r.size + s.size, fun w cs x => ∃ c1 c2, cs = c1 ++ c2 ∧ r.R w c1 x.1 ∧ s.R w c2 x.2,
  fun h => by obtain ⟨c1, c2, rfl, h1, h2⟩ := h; rw [List.length_append, r.len h1, s.len h2],
  fun h hb hB => by obtain ⟨c1, c2, rfl, h1, h2⟩ := h; exact ⟨c1, c2, rfl, r.below h1 hb hB, s.below h2 hb hB⟩⟩

/-- The slice value v reads as the list xs. -/
def SlR {α : Type} (r : Rdr α) (w : World) (v : Value) (xs : List α) : Prop :=
  xs.length ≤ maxLen ∧ ∃ a c, v = .slice a xs.length c ∧ xs.length ≤ c ∧ ∀ i (h : i < xs.length), ∃ b o cs, a = some ⟨b, o, none⟩ ∧ b < w.heap.size ∧ r.R w cs xs[i] ∧ ∀ j (hj : j < cs.length), w.cell? ⟨b, o + (i * r.size + j), none⟩ = some cs[j]
theorem SlR.below {α : Type} {r : Rdr α} {w w' : World} {v : Value} {xs : List α} {B : Nat} (h : SlR r w v xs) (hb : Below B w w') (hB : w.heap.size ≤ B) : SlR r w' v xs := by
  obtain ⟨hm, a, c, hv, hcap, hc⟩ := h
  refine ⟨hm, a, c, hv, hcap, fun i hi => ?_⟩
  obtain ⟨b, o, cs, ha, hbs, hr, hcell⟩ := hc i hi
  exact ⟨b, o, cs, ha, by have := hb.size; omega, r.below hr hb hB, fun j hj => (hb.cell (p := ⟨b, o + (i * r.size + j), none⟩) (by show b < B; omega)).trans (hcell j hj)⟩
def rSl {α : Type} (r : Rdr α) : Rdr (List α) := ⟨1, fun w cs xs => ∃ v, cs = [v] ∧ SlR r w v xs, fun h => by obtain ⟨v, rfl, _⟩ := h; rfl, fun h hb hB => by obtain ⟨v, rfl, h⟩ := h; exact ⟨v, rfl, h.below hb hB⟩⟩

theorem SlR.ints {w : World} {v : Value} {xs : List Int} (h : SlR rInt w v xs) : Ints w v xs ∧ ∀ n ∈ xs, (Lit.int .i64 n).wf = true := by
  obtain ⟨hm, a, c, hv, hcap, hc⟩ := h
  refine ⟨⟨hm, a, c, hv, hcap, fun i hi => ?_⟩, fun n hn => ?_⟩
  · obtain ⟨b, o, cs, ha, hbs, ⟨rfl, _⟩, hcell⟩ := hc i hi
    have := hcell 0 (by simp)
    exact ⟨b, o, ha, hbs, by simpa [rInt] using this⟩
  · obtain ⟨i, hi, rfl⟩ := List.mem_iff_getElem.1 hn
    obtain ⟨b, o, cs, ha, hbs, ⟨rfl, hw⟩, hcell⟩ := hc i hi
    exact hw
theorem SlR.of_ints {w : World} {v : Value} {xs : List Int} (h : Ints w v xs) (hw : ∀ n ∈ xs, (Lit.int .i64 n).wf = true) : SlR rInt w v xs := by
  obtain ⟨hm, a, c, hv, hcap, hc⟩ := h
  refine ⟨hm, a, c, hv, hcap, fun i hi => ?_⟩
  obtain ⟨b, o, ha, hbs, hcell⟩ := hc i hi
  refine ⟨b, o, [.int .i64 xs[i]], ha, hbs, ⟨rfl, hw _ (List.getElem_mem _)⟩, fun j hj => ?_⟩
  obtain rfl : j = 0 := by simpa using hj
  simpa [rInt] using hcell

/-! An argument that came in. -/
/-- Whatever reads as a datum of type t reads by r. -/
def Opens {α : Type} (t : TypeId) (r : Rdr α) : Prop := Try.prog.cellsOf t = r.size ∧ ∀ {H : Type} {enc : TypeId × Value → H} {w : World} {base : Nat} {sp : Nat → Bool} {held : Bool} {fuel : Nat} {cs : List Value} {x : DataW H × List MemPlace},
  DataW.trod enc Try.prog w base sp held fuel t cs = some x → ∃ y : α, r.R w cs y
theorem opens_int {t : TypeId} (ht : Try.prog.underlying t = some (.int .i64)) (hc : Try.prog.cellsOf t = 1) : Opens t rInt := ⟨hc, fun h => by
  obtain ⟨n, h1, _, h2⟩ := DataW.trod_int ht h
  exact ⟨n, h1, h2⟩⟩
theorem opens_bool {t : TypeId} (ht : Try.prog.underlying t = some .bool) (hc : Try.prog.cellsOf t = 1) : Opens t rBool := ⟨hc, fun h => by
  obtain ⟨n, h1, _⟩ := DataW.trod_bool ht h
  exact ⟨n, h1⟩⟩
theorem opens_str {t : TypeId} (ht : Try.prog.underlying t = some .string) (hc : Try.prog.cellsOf t = 1) : Opens t rStr := ⟨hc, fun h => by
  obtain ⟨n, h1, _, h2⟩ := DataW.trod_string ht h
  exact ⟨n, h1, h2⟩⟩
theorem spot_none {w : World} {x : Addr} {v : Value} (h : w.cell? x = some v) : x.spot = none := by
  unfold World.cell? at h
  cases hs : x.spot with
  | none => rfl
  | some s => rw [hs] at h; split at h <;> simp at h
theorem list_of {α : Type} (n : Nat) (p : Nat → α → Prop) (h : ∀ i, i < n → ∃ y, p i y) : ∃ xs : List α, xs.length = n ∧ ∀ i (hi : i < xs.length), p i xs[i] := by
  induction n with
  | zero => exact ⟨[], rfl, fun i hi => by simp at hi⟩
  | succ n ih =>
    obtain ⟨xs, hl, hx⟩ := ih (fun i hi => h i (by omega))
    obtain ⟨y, hy⟩ := h n (by omega)
    refine ⟨xs ++ [y], by simp [hl], fun i hi => ?_⟩
    by_cases hlt : i < xs.length
    · rw [List.getElem_append_left hlt]; exact hx i hlt
    · have : i = n := by simp at hi; omega
      subst this
      rw [List.getElem_append_right (by omega)]
      simpa [hl] using hy
theorem opens_slice {α : Type} {t e : TypeId} {r : Rdr α} (ht : Try.prog.underlying t = some (.slice e)) (hc : Try.prog.cellsOf t = 1) (he : Opens e r) (hr : 0 < r.size) : Opens t (rSl r) := ⟨hc, fun {H enc w base sp held fuel cs x} h => by
  rcases DataW.trod_slice ht h with ⟨rfl, _⟩ | ⟨a, len, cap, elems, rest, n, _, rfl, _, _, hl, hm, hel, hi, _⟩
  · exact ⟨[], _, rfl, Nat.zero_le _, none, 0, rfl, Nat.le_refl _, fun i hi => by simp at hi⟩
  · rw [he.1] at hi
    have key : ∀ i, i < len → ∃ y : α, ∃ cs' : List Value, (∀ j, j < cs'.length → w.cell? ((a.add (i * r.size)).add j) = cs'[j]?) ∧ r.R w cs' y := by
      intro i hil
      have h1 := hi i hil
      rw [List.getElem?_eq_getElem (by omega)] at h1
      cases hcs : w.cells? base (a.add (i * r.size)) r.size with
      | none => rw [hcs] at h1; cases h1
      | some cs' =>
        rw [hcs] at h1
        obtain ⟨y, hy⟩ := he.2 h1
        obtain ⟨_, hcl, hat⟩ := World.cells?_some hcs
        refine ⟨y, cs', fun j hj => ?_, hy⟩
        exact hat j (by omega)
    obtain ⟨xs, hxl, hxs⟩ := list_of len (fun (i : Nat) (y : α) => ∃ cs' : List Value, (∀ j, j < cs'.length → w.cell? ((a.add (i * r.size)).add j) = cs'[j]?) ∧ r.R w cs' y) key
    subst hxl
    refine ⟨xs, _, rfl, by omega, some a, cap, rfl, by omega, fun i hil => ?_⟩
    obtain ⟨cs', h1, h2⟩ := hxs i hil
    have h0 := (h1 0 (by rw [r.len h2]; exact hr)).trans (List.getElem?_eq_getElem (by rw [r.len h2]; exact hr))
    obtain ⟨cz, z1, z2⟩ := hxs 0 (by omega)
    have z0 := (z1 0 (by rw [r.len z2]; exact hr)).trans (List.getElem?_eq_getElem (by rw [r.len z2]; exact hr))
    have hz : (a.add (0 * r.size)).add 0 = a := by rw [Nat.zero_mul]; simp [Addr.add]
    rw [hz] at z0
    have hsp := spot_none z0
    obtain ⟨b, o, s⟩ := a
    obtain rfl : s = none := hsp
    have hadd : ∀ j, ((⟨b, o, none⟩ : Addr).add (i * r.size)).add j = ⟨b, o + (i * r.size + j), none⟩ := fun j => by
      simp only [Addr.add]
      split <;> split <;> simp_all <;> omega
    refine ⟨b, o, cs', rfl, ?_, h2, fun j hj => by rw [← hadd]; exact (h1 j hj).trans (List.getElem?_eq_getElem hj)⟩
    rw [hadd] at h0
    exact lt_of_cell h0⟩

/-- The fields from a place on. -/
def OpensF {α : Type} (fs : List Field) (off : Nat) (r : Rdr α) : Prop := ∀ {H : Type} {enc : TypeId × Value → H} {w : World} {base : Nat} {sp : Nat → Bool} {held : Bool} {n : Nat} {cs : List Value},
  (∀ (i : Nat) (f : Field), fs[i]? = some f → ∃ x, DataW.trod enc Try.prog w base sp held n f.type ((cs.drop f.offset).take (Try.prog.cellsOf f.type)) = some x) → ∃ y : α, r.R w ((cs.drop off).take r.size) y
theorem opensF_one {α : Type} {f : Field} {off : Nat} {r : Rdr α} (h : Opens f.type r) (ho : f.offset = off) : OpensF [f] off r := by
  intro H enc w base sp held n cs hf
  obtain ⟨x, hx⟩ := hf 0 f rfl
  obtain ⟨y, hy⟩ := h.2 hx
  rw [h.1, ho] at hy
  exact ⟨y, hy⟩
theorem opensF_cons {α β : Type} {f : Field} {fs : List Field} {off : Nat} {r : Rdr α} {s : Rdr β} (h : Opens f.type r) (ho : f.offset = off) (hs : OpensF fs (off + r.size) s) : OpensF (f :: fs) off (rPair r s) := by
  intro H enc w base sp held n cs hf
  obtain ⟨x, hx⟩ := hf 0 f rfl
  obtain ⟨y, hy⟩ := h.2 hx
  rw [h.1, ho] at hy
  obtain ⟨z, hz⟩ := hs (fun i g hg => hf (i + 1) g hg)
  refine ⟨(y, z), _, _, ?_, hy, hz⟩
  show (cs.drop off).take (r.size + s.size) = _
  rw [List.take_add, List.drop_drop]
theorem opens_struct {α : Type} {t : TypeId} {fs : Array Field} {r : Rdr α} (ht : Try.prog.underlying t = some (.struct fs)) (hc : Try.prog.cellsOf t = r.size) (hf : OpensF fs.toList 0 r) : Opens t r := ⟨hc, fun h => by
  obtain ⟨xs, n, _, _, hl, hxl, hat⟩ := DataW.trod_struct ht h
  obtain ⟨y, hy⟩ := hf (cs := _) (fun i f hif => ⟨_, (hat i f (by simpa using hif)).trans (List.getElem?_eq_getElem (by
    have := (List.getElem?_eq_some_iff.1 hif).1
    rw [hxl]; simpa using this))⟩)
  rw [List.drop_zero, List.take_of_length_le (by omega)] at hy
  exact ⟨y, hy⟩⟩
end Go.Proofs.Ythkakieomoobmaa

namespace Go.Proofs.Ythkakieomoobmaa
open Go.RowKit
set_option linter.unusedVariables false
set_option linter.unusedSimpArgs false

/-- Block b holds the cells cs, none of them frozen. -/
def Blk (W : World) (b : Nat) (t : TypeId) (cs : List Value) : Prop := W.heap[b]? = some (.cells cs.toArray t (0, 0))
theorem Blk.lt {W : World} {b : Nat} {t : TypeId} {cs : List Value} (h : Blk W b t cs) : b < W.heap.size := (Array.getElem?_eq_some_iff.1 h).1
theorem Blk.cell {W : World} {b : Nat} {t : TypeId} {cs : List Value} (h : Blk W b t cs) (j : Nat) (v : Value) (hj : cs[j]? = some v) : W.cell? ⟨b, j, none⟩ = some v := by
  unfold World.cell?
  rw [show W.heap[b]? = _ from h]
  simpa using hj
theorem Blk.frozen {W : World} {b : Nat} {t : TypeId} {cs : List Value} (h : Blk W b t cs) (j : Nat) : W.frozen? ⟨b, j, none⟩ = false := by
  simp [World.frozen?, show W.heap[b]? = _ from h]
theorem Blk.new (W : World) (t : TypeId) (cs : List Value) : Blk (W.alloc (.cells cs.toArray t)) W.heap.size t cs := World.alloc_heap_new W _
theorem Blk.alloc {W : World} {b : Nat} {t : TypeId} {cs : List Value} (h : Blk W b t cs) (o : Obj) : Blk (W.alloc o) b t cs := (Below.heap_alloc _ _ _ h.lt).trans h
theorem Blk.below {W W' : World} {b B : Nat} {t : TypeId} {cs : List Value} (h : Blk W b t cs) (hb : Below B W W') (hB : b < B) : Blk W' b t cs := (hb.block b hB).trans h
theorem Blk.grown {W W' : World} {b : Nat} {t : TypeId} {cs : List Value} {row : Option Nat} (h : Blk W b t cs) (hg : W.grownBy W' row) (hne : some b ≠ row) : Blk W' b t cs := (hg.block b h.lt hne).trans h
theorem Blk.grownL {W W' : World} {b : Nat} {t : TypeId} {cs : List Value} {L : List Nat} (h : Blk W b t cs) (hg : GrownL L W W') (hne : b ∉ L) : Blk W' b t cs := (hg.block b h.lt hne).trans h
theorem Blk.drewN {W : World} {b : Nat} {t : TypeId} {cs : List Value} (h : Blk W b t cs) (q : Nat) : Blk (W.drewN q) b t cs := h
theorem Blk.far {W : World} {b : Nat} {t : TypeId} {cs : List Value} (h : Blk W b t cs) (p : Addr) (v : Value) (hne : b ≠ p.block) : Blk (W.setCell p v) b t cs := (Below.heap_setCell _ _ _ _ hne).trans h
theorem Blk.set {W : World} {b : Nat} {t : TypeId} {cs : List Value} (h : Blk W b t cs) (j : Nat) (v : Value) : Blk (W.setCell ⟨b, j, none⟩ v) b t (cs.set j v) := by
  obtain ⟨hlt, hk⟩ := Array.getElem?_eq_some_iff.1 h
  show (W.heap.modify b _)[b]? = _
  rw [Array.getElem?_eq_getElem (by rw [Array.size_modify]; exact hlt), Array.getElem_modify_self, hk]
  simp
theorem Boxed.blk {W : World} {b : Nat} {t : TypeId} {v : Value} (h : Boxed W b t v) : Blk W b t [v] := h

/-- A row of the call's own, of whatever elements: n elements of type T, size cells each. -/
def OwnV (T size : Nat) (w : World) (N : Nat) (v : Value) (n : Nat) (raw : List Value) : Prop := w.ownsRow N T size v n raw
theorem OwnV.kept {T size n : Nat} {w w' : World} {B : Nat} {v : Value} {xs : List Value} {row : Option Nat} (h : OwnV T size w B v n xs) (hg : w.grownBy w' row) (hne : v.ownBlock = none ∨ v.ownBlock ≠ row) : OwnV T size w' B v n xs := World.ownsRow.kept h hg hne
theorem OwnV.lt {T size n : Nat} {w : World} {B : Nat} {v : Value} {xs : List Value} (h : OwnV T size w B v n xs) : ∀ k, v.ownBlock = some k → B ≤ k ∧ k < w.heap.size := World.ownsRow.lt h
theorem OwnV.below {T size n : Nat} {w w' : World} {B N : Nat} {v : Value} {xs : List Value} (h : OwnV T size w B v n xs) (hb : Below N w w') (hN : w.heap.size ≤ N) : OwnV T size w' B v n xs := by
  refine h.kept (row := none) ⟨hb.os, hb.tape, hb.output, hb.size, fun k hk _ => hb.block k (by omega)⟩ ?_
  cases v.ownBlock <;> simp
theorem OwnV.length {T size n : Nat} {w : World} {B : Nat} {v : Value} {xs : List Value} (h : OwnV T size w B v n xs) : xs.length = n * size := h.1
theorem OwnV.store {T size n c g : Nat} {w : World} {N : Nat} {xs : List Value} (h : OwnV T size w N (.slice (some ⟨g, 0, none⟩) n c) n xs) (j : Nat) (hj : j < xs.length) (y : Value) :
    w.cell? ⟨g, j, none⟩ = some xs[j] ∧ w.frozen? ⟨g, j, none⟩ = false ∧ OwnV T size (w.setCell ⟨g, j, none⟩ y) N (.slice (some ⟨g, 0, none⟩) n c) n (xs.set j y) ∧ w.grownBy (w.setCell ⟨g, j, none⟩ y) (some g) := by
  have h' : w.ownsRow N T size (.slice (some ⟨g, 0, none⟩) n c) n xs := h
  obtain ⟨h1, h2⟩ := h'.stored j y
  refine ⟨?_, h'.frozenAt j, h1, h2⟩
  rw [h'.cellAt j (by rw [← h.length]; exact hj), List.getElem?_eq_getElem hj]

/-- It reads so in every world that keeps the blocks from N on. -/
def Agree (N : Nat) (w W : World) : Prop := w.heap.size ≤ W.heap.size ∧ ∀ b, N ≤ b → b < w.heap.size → W.heap[b]? = w.heap[b]?
theorem Agree.refl (N : Nat) (w : World) : Agree N w w := ⟨Nat.le_refl _, fun _ _ _ => rfl⟩
theorem Agree.trans {N : Nat} {a b c : World} (h : Agree N a b) (k : Agree N b c) : Agree N a c := ⟨Nat.le_trans h.1 k.1, fun i h1 h2 => (k.2 i h1 (by have := h.1; omega)).trans (h.2 i h1 h2)⟩
theorem Agree.mono {N N' : Nat} {a b : World} (h : Agree N a b) (hN : N ≤ N') : Agree N' a b := ⟨h.1, fun i h1 h2 => h.2 i (by omega) h2⟩
theorem Agree.below {N B : Nat} {a b : World} (h : Below B a b) (hB : a.heap.size ≤ B) : Agree N a b := ⟨h.size, fun i _ h2 => h.block i (by omega)⟩
theorem Agree.setCell {N : Nat} (a : World) (p : Addr) (v : Value) (hp : p.block < N) : Agree N a (a.setCell p v) := ⟨by simp, fun i h1 _ => Below.heap_setCell _ _ _ _ (by omega)⟩
theorem Agree.grown {N : Nat} {a b : World} {row : Option Nat} (h : a.grownBy b row) (hr : ∀ k, row = some k → k < N) : Agree N a b := ⟨h.size, fun i h1 h2 => h.block i h2 (fun e => by have := hr i e.symm; omega)⟩
def FreshR {α : Type} (r : Rdr α) (N : Nat) (w : World) (cs : List Value) (x : α) : Prop := ∀ W, Agree N w W → r.R W cs x
theorem FreshR.now {α : Type} {r : Rdr α} {N : Nat} {w : World} {cs : List Value} {x : α} (h : FreshR r N w cs x) : r.R w cs x := h w (Agree.refl _ _)
theorem FreshR.later {α : Type} {r : Rdr α} {N : Nat} {w w' : World} {cs : List Value} {x : α} (h : FreshR r N w cs x) (ha : Agree N w w') : FreshR r N w' cs x := fun W hW => h W (ha.trans hW)
theorem FreshR.mono {α : Type} {r : Rdr α} {N N' : Nat} {w : World} {cs : List Value} {x : α} (h : FreshR r N w cs x) (hN : N' ≤ N) : FreshR r N' w cs x := fun W hW => h W (hW.mono hN)
theorem FreshR.pair {α β : Type} {r : Rdr α} {s : Rdr β} {N : Nat} {w : World} {c1 c2 : List Value} {x : α} {y : β} (h : FreshR r N w c1 x) (k : FreshR s N w c2 y) : FreshR (rPair r s) N w (c1 ++ c2) (x, y) := fun W hW => ⟨c1, c2, rfl, h W hW, k W hW⟩
theorem FreshR.int (N : Nat) (w : World) (n : Int) (h : (Lit.int .i64 n).wf = true) : FreshR rInt N w [.int .i64 n] n := fun _ _ => ⟨rfl, h⟩
theorem FreshR.str (N : Nat) (w : World) (s : ByteArray) (h : s.size ≤ maxLen) : FreshR rStr N w [.string s] s := fun _ _ => ⟨rfl, h⟩
theorem ownsRow_agree {w W : World} {N e size n : Nat} {v : Value} {xs : List Value} (h : w.ownsRow N e size v n xs) (ha : Agree N w W) : W.ownsRow N e size v n xs := by
  refine ⟨h.1, ?_⟩
  rcases h.2 with h1 | ⟨g, cap, cur, hv, hg, hh, r⟩
  · exact .inl h1
  · exact .inr ⟨g, cap, cur, hv, hg, (ha.2 g hg (Array.getElem?_eq_some_iff.1 hh).1).trans hh, r⟩
theorem OwnI.fresh {w : World} {N : Nat} {v : Value} {xs : List Int} (h : OwnI w N v xs) (hw : ∀ n ∈ xs, (Lit.int .i64 n).wf = true) : FreshR (rSl rInt) N w [v] xs :=
  fun W hW => ⟨v, rfl, SlR.of_ints (OwnI.ints (ownsRow_agree h hW)) hw⟩
/-- The first k elements of a row that is being filled read as the first k of xs. -/
def FillR {α : Type} (r : Rdr α) (N : Nat) (w : World) (raw : List Value) (xs : List α) (k : Nat) : Prop := ∀ i (h : i < xs.length), i < k → ∃ cs, FreshR r N w cs xs[i] ∧ ∀ j (hj : j < cs.length), raw[i * r.size + j]? = some cs[j]
theorem FillR.later {α : Type} {r : Rdr α} {N : Nat} {w w' : World} {raw : List Value} {xs : List α} {k : Nat} (h : FillR r N w raw xs k) (ha : Agree N w w') : FillR r N w' raw xs k := fun i hi hk => by
  obtain ⟨cs, h1, h2⟩ := h i hi hk
  exact ⟨cs, h1.later ha, h2⟩
theorem FillR.done {α : Type} {r : Rdr α} {T : Nat} {w : World} {g : Nat} {raw : List Value} {xs : List α} (ho : OwnV T r.size w g (.slice (some ⟨g, 0, none⟩) xs.length xs.length) xs.length raw) (hf : FillR r (g + 1) w raw xs xs.length) (hm : xs.length ≤ maxLen) : FreshR (rSl r) g w [.slice (some ⟨g, 0, none⟩) xs.length xs.length] xs := by
  intro W hW
  have ho' : OwnV T r.size W g (.slice (some ⟨g, 0, none⟩) xs.length xs.length) xs.length raw := ownsRow_agree ho hW
  refine ⟨_, rfl, hm, _, _, rfl, Nat.le_refl _, fun i hi => ?_⟩
  obtain ⟨cs, h1, h2⟩ := hf i hi hi
  refine ⟨g, 0, cs, rfl, (ho'.lt g rfl).2, h1 W (hW.mono (by omega)), fun j hj => ?_⟩
  obtain ⟨h4, h5⟩ := List.getElem?_eq_some_iff.1 (h2 j hj)
  rw [Nat.zero_add, (ho'.store _ h4 (.bool true)).1, h5]
/-- One more element, of four cells. -/
theorem FillR.put4 {α : Type} {r : Rdr α} {N : Nat} {w : World} {raw : List Value} {xs : List α} {k : Nat} (h : FillR r N w raw xs k) (h4 : r.size = 4) (c0 c1 c2 c3 : Value) (hk : k < xs.length) (hl : raw.length = xs.length * 4) (hx : FreshR r N w [c0, c1, c2, c3] xs[k]) :
    FillR r N w ((((raw.set (k * 4) c0).set (k * 4 + 1) c1).set (k * 4 + 2) c2).set (k * 4 + 3) c3) xs (k + 1) := by
  intro i hi hik
  by_cases he : i = k
  · subst he
    refine ⟨_, hx, fun j hj => ?_⟩
    rw [h4]
    have hj4 : j < 4 := by simpa using hj
    match j, hj4 with
    | 0, _ => simp [List.getElem?_set]; omega
    | 1, _ => simp [List.getElem?_set]; omega
    | 2, _ => simp [List.getElem?_set]; omega
    | 3, _ => simp [List.getElem?_set]; omega
  · obtain ⟨cs, h1, h2⟩ := h i hi (by omega)
    refine ⟨cs, h1, fun j hj => ?_⟩
    have h3 := h2 j hj
    have hj4 : j < 4 := by have := r.len h1.now; omega
    rw [h4] at h3 ⊢
    rw [List.getElem?_set_ne (by omega), List.getElem?_set_ne (by omega), List.getElem?_set_ne (by omega), List.getElem?_set_ne (by omega)]
    exact h3
end Go.Proofs.Ythkakieomoobmaa

namespace Go.Proofs.Ythkakieomoobmaa
open Go.RowKit
set_option linter.unusedVariables false
set_option linter.unusedSimpArgs false

/-- The slice value v reads as the list xs, k cells an element. -/
def SlN {α : Type} (k : Nat) (enc : α → List Value) (w : World) (v : Value) (xs : List α) : Prop :=
  xs.length ≤ maxLen ∧ ∃ a c, v = .slice a xs.length c ∧ xs.length ≤ c ∧ ∀ i (h : i < xs.length), ∃ b o, a = some ⟨b, o, none⟩ ∧ b < w.heap.size ∧ ∀ j (hj : j < (enc xs[i]).length), w.cell? ⟨b, o + (i * k + j), none⟩ = some (enc xs[i])[j]
theorem SlN.below {α : Type} {k : Nat} {enc : α → List Value} {w w' : World} {v : Value} {xs : List α} {B : Nat} (h : SlN k enc w v xs) (hb : Below B w w') (hB : w.heap.size ≤ B) : SlN k enc w' v xs := by
  obtain ⟨hm, a, c, hv, hcap, hc⟩ := h
  refine ⟨hm, a, c, hv, hcap, fun i hi => ?_⟩
  obtain ⟨b, o, ha, hbs, hcell⟩ := hc i hi
  exact ⟨b, o, ha, by have := hb.size; omega, fun j hj => (hb.cell (p := ⟨b, o + (i * k + j), none⟩) (by show b < B; omega)).trans (hcell j hj)⟩

abbrev Jb := Int × Int × Int × Int
def jbCells (j : Jb) : List Value := [.int .i64 j.1, .int .i64 j.2.1, .int .i64 j.2.2.1, .int .i64 j.2.2.2]
abbrev Jobs (w : World) (v : Value) (xs : List Jb) : Prop := SlN 4 jbCells w v xs
def jbAgg (j : Jb) : Value := .agg #[.int .i64 j.1, .int .i64 j.2.1, .int .i64 j.2.2.1, .int .i64 j.2.2.2]

end Go.Proofs.Ythkakieomoobmaa

namespace Go.Proofs.Ythkakieomoobmaa
open Go.RowKit
set_option linter.unusedVariables false
set_option linter.unusedSimpArgs false

/-- v is a row of n elements of type T, size integers each, of the call's own. -/
def OwnZ (T size : Nat) (w : World) (N : Nat) (v : Value) (n : Nat) (raw : List Int) : Prop := w.ownsRow N T size v n (raw.map (Value.int .i64))
theorem OwnZ.kept {T size n : Nat} {w w' : World} {B : Nat} {v : Value} {xs : List Int} {row : Option Nat} (h : OwnZ T size w B v n xs) (hg : w.grownBy w' row) (hne : v.ownBlock = none ∨ v.ownBlock ≠ row) : OwnZ T size w' B v n xs := World.ownsRow.kept h hg hne
theorem OwnZ.lt {T size n : Nat} {w : World} {B : Nat} {v : Value} {xs : List Int} (h : OwnZ T size w B v n xs) : ∀ k, v.ownBlock = some k → B ≤ k ∧ k < w.heap.size := World.ownsRow.lt h
theorem OwnZ.below {T size n : Nat} {w w' : World} {B N : Nat} {v : Value} {xs : List Int} (h : OwnZ T size w B v n xs) (hb : Below N w w') (hN : w.heap.size ≤ N) : OwnZ T size w' B v n xs := by
  refine h.kept (row := none) ⟨hb.os, hb.tape, hb.output, hb.size, fun k hk _ => hb.block k (by omega)⟩ ?_
  cases v.ownBlock <;> simp
theorem OwnZ.length {T size n : Nat} {w : World} {B : Nat} {v : Value} {xs : List Int} (h : OwnZ T size w B v n xs) : xs.length = n * size := by have := h.1; simpa using this
theorem OwnZ.store {T size n c g : Nat} {w : World} {N : Nat} {xs : List Int} (h : OwnZ T size w N (.slice (some ⟨g, 0, none⟩) n c) n xs) (j : Nat) (hj : j < xs.length) (y : Int) :
    w.cell? ⟨g, j, none⟩ = some (.int .i64 (nth xs j)) ∧ w.frozen? ⟨g, j, none⟩ = false ∧ OwnZ T size (w.setCell ⟨g, j, none⟩ (.int .i64 y)) N (.slice (some ⟨g, 0, none⟩) n c) n (xs.set j y) ∧ w.grownBy (w.setCell ⟨g, j, none⟩ (.int .i64 y)) (some g) := by
  have h' : w.ownsRow N T size (.slice (some ⟨g, 0, none⟩) n c) n (xs.map (Value.int .i64)) := h
  obtain ⟨h1, h2⟩ := h'.stored j (.int .i64 y)
  refine ⟨?_, h'.frozenAt j, ?_, h2⟩
  · rw [h'.cellAt j (by rw [← h.length]; exact hj), List.getElem?_map, List.getElem?_eq_getElem hj, nth_eq hj]; rfl
  · unfold OwnZ
    rw [List.map_set]; exact h1
theorem OwnZ.nil_or {T size n : Nat} {w : World} {N : Nat} {v : Value} {xs : List Int} (h : OwnZ T size w N v n xs) : (v = .slice none 0 0 ∧ n = 0) ∨ ∃ g c, v = .slice (some ⟨g, 0, none⟩) n c := by
  rcases h.2 with ⟨h1, h2⟩ | ⟨g, cap, cur, h1, _⟩
  · exact .inl ⟨h1, h2⟩
  · exact .inr ⟨g, cap, h1⟩

def jbInts (j : Jb) : List Int := [j.1, j.2.1, j.2.2.1, j.2.2.2]
theorem jbInts_cells (j : Jb) : (jbInts j).map (Value.int .i64) = jbCells j := rfl
def jbRaw (js : List Jb) : List Int := js.flatMap jbInts
theorem jbRaw_length (js : List Jb) : (jbRaw js).length = js.length * 4 := by
  induction js with
  | nil => rfl
  | cons a t ih => show (jbInts a ++ jbRaw t).length = _; rw [List.length_append, ih]; simp [jbInts]; omega
theorem jbRaw_get (js : List Jb) (i j : Nat) (hi : i < js.length) (hj : j < 4) : (jbRaw js)[i * 4 + j]? = some ((jbInts js[i])[j]'(by simp [jbInts]; omega)) := by
  induction js generalizing i with
  | nil => simp at hi
  | cons a t ih =>
    show (jbInts a ++ jbRaw t)[i * 4 + j]? = _
    cases i with
    | zero =>
      rw [List.getElem?_append_left (by simp [jbInts]; omega), List.getElem?_eq_getElem (by simp [jbInts]; omega)]
      simp
    | succ i =>
      rw [List.getElem?_append_right (by simp [jbInts]; omega), show (i + 1) * 4 + j - (jbInts a).length = i * 4 + j by simp [jbInts]; omega, ih i (by simpa using hi)]
      simp
theorem OwnZ.jobs {T : Nat} {w : World} {N : Nat} {v : Value} {js : List Jb} (h : OwnZ T 4 w N v js.length (jbRaw js)) : Jobs w v js := by
  have hr := h
  rcases h.2 with ⟨rfl, h0⟩ | ⟨g, cap, cur, rfl, hg, hh, hc, hm, hcs, ht⟩
  · exact ⟨by omega, none, 0, by rw [h0], by omega, fun i hi => by omega⟩
  · refine ⟨by omega, _, cap, rfl, by omega, fun i hi => ⟨g, 0, rfl, (Array.getElem?_eq_some_iff.1 hh).1, fun j hj => ?_⟩⟩
    have hj4 : j < 4 := by simpa [jbCells] using hj
    have := World.ownsRow.cellAt (g := g) (cap := cap) hr (i * 4 + j) (by omega)
    rw [Nat.zero_add, this, List.getElem?_map, jbRaw_get js i j hi hj4]
    simp only [← jbInts_cells, List.getElem_map, Option.map_some]

/-- A rule's five numbers. -/
abbrev Rl := Int × Int × Int × Int × Int
/-- A desk's value. -/
def deskV (vj : Value) (r : Rl) (vc : Value) (p : ByteArray) : Value := .agg #[vj, .int .i64 r.1, .int .i64 r.2.1, .int .i64 r.2.2.1, .int .i64 r.2.2.2.1, .int .i64 r.2.2.2.2, vc, .string p]

theorem bcell {W w1 : World} (hb : Below W.heap.size W w1) : (∀ b o, b < W.heap.size → w1.cell? ⟨b, o, none⟩ = W.cell? ⟨b, o, none⟩) ∧ (∀ b o, b < W.heap.size → w1.frozen? ⟨b, o, none⟩ = W.frozen? ⟨b, o, none⟩) :=
  ⟨fun b o h => hb.cell (p := ⟨b, o, none⟩) h, fun b o h => hb.frozen (p := ⟨b, o, none⟩) h⟩

def deskBlocks (vj vc : Value) : List Nat := vj.ownBlock.toList ++ vc.ownBlock.toList

theorem own_ne {T size n : Nat} {w : World} {lo lo' : Nat} {vj vc : Value} {jr cr : List Int} (hT : T ≠ 2) (h : OwnZ T size w lo vj n jr) (k : OwnI w lo' vc cr) : vj.ownBlock = none ∨ vj.ownBlock ≠ vc.ownBlock := by
  rcases h.2 with ⟨rfl, _⟩ | ⟨g, cap, cur, rfl, _, hh, _⟩
  · exact .inl rfl
  · refine .inr ?_
    rcases k.2 with ⟨rfl, _⟩ | ⟨g', cap', cur', rfl, _, hh', _⟩
    · intro e; cases e
    · intro e
      have e2 : some g = some g' := e
      injection e2 with e2
      subst e2
      rw [hh] at hh'
      injection hh' with hh'
      injection hh' with _ h3
      exact hT h3
theorem own_ne' {T size n : Nat} {w : World} {lo lo' : Nat} {vj vc : Value} {jr cr : List Int} (hT : T ≠ 2) (h : OwnZ T size w lo vj n jr) (k : OwnI w lo' vc cr) : vc.ownBlock = none ∨ vc.ownBlock ≠ vj.ownBlock := by
  rcases own_ne hT h k with h1 | h1
  · cases hv : vc.ownBlock with
    | none => exact .inl rfl
    | some x => rw [h1]; exact .inr (by simp)
  · exact .inr (Ne.symm h1)

end Go.Proofs.Ythkakieomoobmaa

namespace Go.Proofs.Ythkakieomoobmaa
open Go.RowKit
set_option linter.unusedVariables false
set_option linter.unusedSimpArgs false

/-- 'append(s, y, ..)' where the region draws its order. -/
theorem step_append_i64 {ops : Array Oper} {o : Oper} {a : Act} {K : Act → World → Prop} {Q : Exit → Act → World → Prop} {E : Prop} {W : World} (hgd : o.guard = none) (s x : Operand)
    (ho : o.op = .call { callee := .builtin .append, args := #[s, x], argTypes := #[29, 29] }) (B : Nat) (v : Value) (xs ys : List Int) (hy : 0 < ys.length)
    (hs : a.eval s = v) (c : Nat) (hx : a.eval x = .slice (some ⟨W.heap.size, 0, none⟩) ys.length c) (hown : OwnI W B v xs) (hB : B ≤ W.heap.size) (hsmall : xs.length + ys.length ≤ 1099511627776)
    (hK : ∀ g c w', OwnI w' B (.slice (some ⟨g, 0, none⟩) (xs.length + ys.length) c) (xs ++ ys) → W.grownBy w' v.ownBlock → K (a.put o.dst (.slice (some ⟨g, 0, none⟩) (xs.length + ys.length) c)) w') :
    if Region.wanted o (yielded ops a.tmps) = true then Oper.wp Try.prog o a (W.alloc (.cells (ys.map (Value.int .i64)).toArray 2)).drew K Q else E := by
  obtain ⟨i0, hi, hz0, hz1, hz2⟩ := info_parts info_i64
  have hown' : (W.alloc (.cells (ys.map (Value.int .i64)).toArray 2)).drew.ownsRow B 2 1 v xs.length (xs.map (Value.int .i64)) := World.ownsRow.drew (World.ownsRow.alloc hown _)
  refine step_append_lies _ hgd s x 29 ho B 2 i0 (.int .i64 0) 1 8 Try.underlying29 hi hz0 hz1 hz2 rfl (by decide) v xs.length _ hs hown' ⟨W.heap.size, 0, none⟩ ys.length c (ys.map (Value.int .i64)) hx (by simp) (cells_lit W _ _) ?_ hy (by unfold maxLen; omega) (by omega) (by simp; omega) (W.heap.size + 1) (by simp) ?_
  · intro u hu; obtain ⟨y, _, rfl⟩ := List.mem_map.1 hu; rfl
  · intro g cap w' h1 h2 _ _
    have h2' : (W.alloc (.cells (ys.map (Value.int .i64)).toArray 2)).grownBy w' v.ownBlock := ⟨h2.os, h2.tape, h2.output, h2.size, h2.block⟩
    obtain ⟨g', c', he, h3, h4⟩ := app_shape hy hown h1 h2'
    obtain ⟨rfl, rfl⟩ : g = g' ∧ cap = c' := by simpa using he
    exact hK g cap w' h3 h4
end Go.Proofs.Ythkakieomoobmaa

namespace Go.Proofs.Ythkakieomoobmaa
open Go.RowKit
set_option linter.unusedVariables false
set_option linter.unusedSimpArgs false

/-- 'append(s, y, ..)' where the region draws its order; the new slice lies in the old block or in a new one. -/
theorem step_append_i64L {ops : Array Oper} {o : Oper} {a : Act} {K : Act → World → Prop} {Q : Exit → Act → World → Prop} {E : Prop} {W : World} (hgd : o.guard = none) (s x : Operand)
    (ho : o.op = .call { callee := .builtin .append, args := #[s, x], argTypes := #[29, 29] }) (B : Nat) (v : Value) (xs ys : List Int) (hy : 0 < ys.length)
    (hs : a.eval s = v) (c : Nat) (hx : a.eval x = .slice (some ⟨W.heap.size, 0, none⟩) ys.length c) (hown : OwnI W B v xs) (hB : B ≤ W.heap.size) (hsmall : xs.length + ys.length ≤ 1099511627776)
    (hK : ∀ g c w', OwnI w' B (.slice (some ⟨g, 0, none⟩) (xs.length + ys.length) c) (xs ++ ys) → W.grownBy w' v.ownBlock → (v.ownBlock = some g ∨ W.heap.size ≤ g) → K (a.put o.dst (.slice (some ⟨g, 0, none⟩) (xs.length + ys.length) c)) w') :
    if Region.wanted o (yielded ops a.tmps) = true then Oper.wp Try.prog o a (W.alloc (.cells (ys.map (Value.int .i64)).toArray 2)).drew K Q else E := by
  obtain ⟨i0, hi, hz0, hz1, hz2⟩ := info_parts info_i64
  have hown' : (W.alloc (.cells (ys.map (Value.int .i64)).toArray 2)).drew.ownsRow B 2 1 v xs.length (xs.map (Value.int .i64)) := World.ownsRow.drew (World.ownsRow.alloc hown _)
  refine step_append_lies _ hgd s x 29 ho B 2 i0 (.int .i64 0) 1 8 Try.underlying29 hi hz0 hz1 hz2 rfl (by decide) v xs.length _ hs hown' ⟨W.heap.size, 0, none⟩ ys.length c (ys.map (Value.int .i64)) hx (by simp) (cells_lit W _ _) ?_ hy (by unfold maxLen; omega) (by omega) (by simp; omega) (W.heap.size + 1) (by simp) ?_
  · intro u hu; obtain ⟨y, _, rfl⟩ := List.mem_map.1 hu; rfl
  · intro g cap w' h1 h2 h5 _
    have h2' : (W.alloc (.cells (ys.map (Value.int .i64)).toArray 2)).grownBy w' v.ownBlock := ⟨h2.os, h2.tape, h2.output, h2.size, h2.block⟩
    obtain ⟨g', c', he, h3, h4⟩ := app_shape hy hown h1 h2'
    obtain ⟨rfl, rfl⟩ : g = g' ∧ cap = c' := by simpa using he
    exact hK g cap w' h3 h4 (h5.imp id (fun e => by omega))
/-- .. in a plain list. -/
theorem append_i64L {ops : Array Oper} {rest : List Oper} {o : Oper} {a : Act} {Q : Exit → Act → World → Prop} {W : World} (hgd : o.guard = none) (s x : Operand)
    (ho : o.op = .call { callee := .builtin .append, args := #[s, x], argTypes := #[29, 29] }) (B : Nat) (v : Value) (xs ys : List Int) (hy : 0 < ys.length)
    (hs : a.eval s = v) (c : Nat) (hx : a.eval x = .slice (some ⟨W.heap.size, 0, none⟩) ys.length c) (hown : OwnI W B v xs) (hB : B ≤ W.heap.size) (hsmall : xs.length + ys.length ≤ 1099511627776)
    (hK : ∀ g c w', OwnI w' B (.slice (some ⟨g, 0, none⟩) (xs.length + ys.length) c) (xs ++ ys) → W.grownBy w' v.ownBlock → (v.ownBlock = some g ∨ W.heap.size ≤ g) → wpList Try.prog ops Q rest (a.put o.dst (.slice (some ⟨g, 0, none⟩) (xs.length + ys.length) c)) w') :
    wpList Try.prog ops Q (o :: rest) a (W.alloc (.cells (ys.map (Value.int .i64)).toArray 2)) := by
  obtain ⟨i0, hi, hz0, hz1, hz2⟩ := info_parts info_i64
  refine wpList_append_lies _ hgd s x 29 ho B 2 i0 (.int .i64 0) 1 8 Try.underlying29 hi hz0 hz1 hz2 rfl (by decide) v xs.length _ hs (World.ownsRow.alloc hown _) ⟨W.heap.size, 0, none⟩ ys.length c (ys.map (Value.int .i64)) hx (by simp) (cells_lit W _ _) ?_ hy (by unfold maxLen; omega) (by omega) (by simp; omega) (W.heap.size + 1) (by simp) ?_
  · intro u hu; obtain ⟨y, _, rfl⟩ := List.mem_map.1 hu; rfl
  · intro g cap w' h1 h2 h5 _
    obtain ⟨g', c', he, h3, h4⟩ := app_shape hy hown h1 h2
    obtain ⟨rfl, rfl⟩ : g = g' ∧ cap = c' := by simpa using he
    exact hK g cap w' h3 h4 (h5.imp id (fun e => by omega))
/-- A row of the call's own, cut to its first n elements. -/
theorem OwnI.cut {w : World} {B g n c : Nat} {xs : List Int} (h : OwnI w B (.slice (some ⟨g, 0, none⟩) n c) xs) (k : Nat) (hk : k ≤ xs.length) (hn : n = xs.length) : OwnI w B (.slice (some ⟨g, 0, none⟩) k c) (xs.take k) := by
  subst hn
  refine ⟨by simp, ?_⟩
  rcases h.2 with ⟨h1, _⟩ | ⟨g', cap, cur, h1, h2, h3, h4, h5, h6, h7⟩
  · cases h1
  · obtain ⟨rfl, rfl⟩ : g = g' ∧ c = cap := by simpa using h1
    have hl : (xs.take k).length = k := by simp; omega
    refine .inr ⟨g, c, cur, by rw [hl], h2, h3, by rw [hl]; omega, h5, h6, ?_⟩
    rw [hl, List.map_take, ← h7, List.take_take]
    congr 1; omega
end Go.Proofs.Ythkakieomoobmaa

namespace Go.Proofs.Ythkakieomoobmaa
open Go.RowKit
set_option linter.unusedVariables false
set_option linter.unusedSimpArgs false

/-- A rule: from, to, least, most. -/
abbrev Ru4 := Int × Int × Int × Int
def RlOk (e p : Int) (r : Ru4) : Prop := 0 ≤ r.1 ∧ r.1 < e ∧ 0 ≤ r.2.1 ∧ r.2.1 < e ∧ r.1 ≠ r.2.1 ∧ 0 ≤ r.2.2.1 ∧ r.2.2.1 < p ∧ r.2.2.1 ≤ r.2.2.2 ∧ r.2.2.2 < r.2.2.1 + p
/-- The wait of a rule. -/
def wtL (p : Int) (ts : List Int) (r : Ru4) : Int := r.2.2.1 + (nth ts r.2.1.toNat - nth ts r.1.toNat - r.2.2.1) % p
def okTo (p : Int) (ts : List Int) (rs : List Ru4) : Nat → Bool
  | 0 => true
  | k + 1 => okTo p ts rs k && decide (wtL p ts (rs.getD k (0, 0, 0, 0)) ≤ (rs.getD k (0, 0, 0, 0)).2.2.2)
def suTo (p : Int) (ts : List Int) (rs : List Ru4) : Nat → Int
  | 0 => 0
  | k + 1 => suTo p ts rs k + wtL p ts (rs.getD k (0, 0, 0, 0))
theorem okTo_le {p : Int} {ts : List Int} {rs : List Ru4} : ∀ {k m : Nat}, k ≤ m → okTo p ts rs k = false → okTo p ts rs m = false
  | k, 0, h, hk => by obtain rfl : k = 0 := by omega
                      exact hk
  | k, m + 1, h, hk => by
    by_cases e : k = m + 1
    · subst e; exact hk
    · rw [okTo, okTo_le (show k ≤ m by omega) hk, Bool.false_and]
/-- What is kept: the sum of the waits. -/
def waL (p : Int) (ts : List Int) (rs : List Ru4) : Option Int := if okTo p ts rs rs.length then some (suTo p ts rs rs.length) else none
theorem wtL_bounds {e p : Int} {ts : List Int} {r : Ru4} (h : RlOk e p r) (hp : 0 < p) : 0 ≤ wtL p ts r ∧ wtL p ts r < 2 * p := by
  have h1 := Int.emod_nonneg (nth ts r.2.1.toNat - nth ts r.1.toNat - r.2.2.1) (by omega : p ≠ 0)
  have h2 := Int.emod_lt_of_pos (nth ts r.2.1.toNat - nth ts r.1.toNat - r.2.2.1) hp
  unfold wtL
  obtain ⟨a, b, c, d, f, g, h, i, j⟩ := h
  omega
theorem suTo_bounds {e p : Int} {ts : List Int} {rs : List Ru4} (h : ∀ r ∈ rs, RlOk e p r) (hp : 0 < p) : ∀ k, k ≤ rs.length → 0 ≤ suTo p ts rs k ∧ suTo p ts rs k ≤ 2 * p * k
  | 0, _ => by simp [suTo]
  | k + 1, hk => by
    obtain ⟨h1, h2⟩ := suTo_bounds (ts := ts) h hp k (by omega)
    have h3 : rs.getD k (0, 0, 0, 0) ∈ rs := by rw [List.getD_eq_getElem?_getD, List.getElem?_eq_getElem (by omega)]; exact List.getElem_mem _
    obtain ⟨h4, h5⟩ := wtL_bounds (ts := ts) (h _ h3) hp
    rw [suTo]
    refine ⟨by omega, ?_⟩
    have e : 2 * p * ((k + 1 : Nat) : Int) = 2 * p * (k : Int) + 2 * p := by rw [Int.natCast_add, Int.mul_add]; simp
    omega

/-- The digits of the k-th table. -/
def dgT (e p k i : Nat) : Nat := if i = 0 then 0 else k / p ^ (e - 1 - i) % p
def tabL (e p k : Nat) : List Int := (List.range e).map fun i => ((dgT e p k i : Nat) : Int)
theorem tabL_len (e p k : Nat) : (tabL e p k).length = e := by unfold tabL; simp
theorem tabL_at {e p k i : Nat} (h : i < e) : nth (tabL e p k) i = (dgT e p k i : Nat) := by
  rw [nth_eq (by rw [tabL_len]; exact h)]
  unfold tabL
  simp
theorem dgT_lt {e p k i : Nat} (hp : 0 < p) : dgT e p k i < p := by
  unfold dgT
  split
  · exact hp
  · exact Nat.mod_lt _ hp
theorem tabL_bounds {e p k : Nat} (hp : 0 < p) : ∀ x ∈ tabL e p k, 0 ≤ x ∧ x < p := fun x hx => by
  unfold tabL at hx
  obtain ⟨i, hi, rfl⟩ := List.mem_map.1 hx
  have := dgT_lt (e := e) (k := k) (i := i) hp
  omega
theorem nth_extI {xs ys : List Int} (hl : xs.length = ys.length) (h : ∀ i, i < xs.length → nth xs i = nth ys i) : xs = ys := by
  refine List.ext_getElem hl fun i h1 h2 => ?_
  have := h i h1
  rwa [nth_eq h1, nth_eq h2] at this
theorem nth_setI {xs : List Int} {i j : Nat} {x : Int} (hi : i < xs.length) (hj : j < xs.length) : nth (xs.set i x) j = if i = j then x else nth xs j := by
  rw [nth_eq (by rw [List.length_set]; exact hj), List.getElem_set, ← nth_eq hj]
/-- The odometer: the digits behind place j are turned to 0. -/
def odoL (e p k j : Nat) : List Int := (List.range e).map fun i => if j < i then 0 else ((dgT e p k i : Nat) : Int)
theorem odoL_len (e p k j : Nat) : (odoL e p k j).length = e := by unfold odoL; simp
theorem odoL_at {e p k i j : Nat} (h : i < e) : nth (odoL e p k j) i = if j < i then 0 else ((dgT e p k i : Nat) : Int) := by
  rw [nth_eq (by rw [odoL_len]; exact h)]
  unfold odoL
  simp
theorem odoL_start (e p k : Nat) : odoL e p k (e - 1) = tabL e p k := by
  refine nth_extI (by rw [odoL_len, tabL_len]) fun i hi => ?_
  rw [odoL_len] at hi
  rw [odoL_at hi, tabL_at hi, if_neg (by omega)]
theorem odoL_back {e p k j : Nat} (hj : 0 < j) (hje : j < e) : (odoL e p k j).set j 0 = odoL e p k (j - 1) := by
  refine nth_extI (by rw [List.length_set, odoL_len, odoL_len]) fun i hi => ?_
  rw [List.length_set, odoL_len] at hi
  rw [nth_setI (by rw [odoL_len]; exact hje) (by rw [odoL_len]; exact hi), odoL_at hi, odoL_at hi]
  by_cases h1 : j = i
  · rw [if_pos h1, if_pos (by omega)]
  · rw [if_neg h1]
    by_cases h2 : j < i
    · rw [if_pos h2, if_pos (by omega)]
    · rw [if_neg h2, if_neg (by omega)]
/-- All digits behind place j are the greatest. -/
def FullB (e p k j : Nat) : Prop := (k + 1) % p ^ (e - 1 - j) = 0
theorem FullB.start (e p k : Nat) : FullB e p k (e - 1) := by unfold FullB; rw [Nat.sub_self, Nat.pow_zero, Nat.mod_one]
theorem FullB.quot {e p k j : Nat} (hp : 0 < p) (h : FullB e p k j) : (k + 1) / p ^ (e - 1 - j) = k / p ^ (e - 1 - j) + 1 := by
  have hm : 0 < p ^ (e - 1 - j) := Nat.pow_pos hp
  unfold FullB at h
  exact Nat.succ_div_of_mod_eq_zero h
theorem FullB.back {e p k j : Nat} (hp : 0 < p) (hj : 0 < j) (hje : j < e) (h : FullB e p k j) (hd : dgT e p k j = p - 1) : FullB e p k (j - 1) := by
  have hq := h.quot hp
  have hm : 0 < p ^ (e - 1 - j) := Nat.pow_pos hp
  unfold dgT at hd
  rw [if_neg (by omega)] at hd
  unfold FullB at h ⊢
  have e1 : e - 1 - (j - 1) = (e - 1 - j) + 1 := by omega
  rw [e1, Nat.pow_succ]
  obtain ⟨q, hq2⟩ : ∃ q, k / p ^ (e - 1 - j) = q := ⟨_, rfl⟩
  rw [hq2] at hq hd
  have h1 : (q + 1) % p = 0 := by
    rw [Nat.add_mod, hd]
    by_cases hp1 : p = 1
    · subst hp1; omega
    · rw [Nat.mod_eq_of_lt (show 1 < p by omega), show p - 1 + 1 = p by omega, Nat.mod_self]
  have h2 : k + 1 = p ^ (e - 1 - j) * (q + 1) := by
    have := Nat.div_add_mod (k + 1) (p ^ (e - 1 - j))
    rw [h, hq] at this
    omega
  rw [h2, Nat.mul_mod_mul_left, h1, Nat.mul_zero]
theorem FullB.over {e p k : Nat} (hp : 0 < p) (he : 1 ≤ e) (h : FullB e p k 0) (hk : k < p ^ (e - 1)) : k + 1 = p ^ (e - 1) := by
  unfold FullB at h
  rw [Nat.sub_zero] at h
  have := Nat.le_of_dvd (by omega) (Nat.dvd_of_mod_eq_zero h)
  omega
/-- The next table. -/
theorem odoL_next {e p k j : Nat} (hp : 0 < p) (hj : 0 < j) (hje : j < e) (h : FullB e p k j) (hd : dgT e p k j ≠ p - 1) : (odoL e p k j).set j ((dgT e p k j : Int) + 1) = tabL e p (k + 1) := by
  have hq := h.quot hp
  have hm : 0 < p ^ (e - 1 - j) := Nat.pow_pos hp
  have hlt := dgT_lt (e := e) (k := k) (i := j) hp
  obtain ⟨q, hq2⟩ : ∃ q, k / p ^ (e - 1 - j) = q := ⟨_, rfl⟩
  rw [hq2] at hq
  have hdj : dgT e p k j = q % p := by unfold dgT; rw [if_neg (by omega), hq2]
  have hnc : q % p + 1 < p := by rw [← hdj]; omega
  have hq1 : (q + 1) % p = q % p + 1 := by rw [Nat.add_mod, Nat.mod_eq_of_lt (show 1 < p by omega), Nat.mod_eq_of_lt hnc]
  have hqd : (q + 1) / p = q / p := by
    have h1 := Nat.div_add_mod q p
    have h2 : q + 1 = p * (q / p) + (q % p + 1) := by omega
    rw [h2, Nat.mul_add_div hp, Nat.div_eq_of_lt hnc, Nat.add_zero]
  refine nth_extI (by rw [List.length_set, odoL_len, tabL_len]) fun i hi => ?_
  rw [List.length_set, odoL_len] at hi
  rw [nth_setI (by rw [odoL_len]; exact hje) (by rw [odoL_len]; exact hi), odoL_at hi, tabL_at hi]
  by_cases h1 : j = i
  · subst h1
    rw [if_pos rfl]
    have e1 : dgT e p (k + 1) j = (q + 1) % p := by unfold dgT; rw [if_neg (by omega), hq]
    rw [e1, hq1, hdj]
    omega
  · rw [if_neg h1]
    by_cases h2 : j < i
    · rw [if_pos h2]
      have e1 : dgT e p (k + 1) i = 0 := by
        unfold dgT
        rw [if_neg (by omega)]
        have e2 : e - 1 - j = (e - 1 - i) + (i - j) := by omega
        have h3 : k + 1 = p ^ (e - 1 - j) * (q + 1) := by
          have := Nat.div_add_mod (k + 1) (p ^ (e - 1 - j))
          unfold FullB at h
          rw [h, hq] at this
          omega
        have e3 : p ^ (i - j) = p * p ^ (i - j - 1) := by rw [← Nat.pow_succ', show (i - j - 1).succ = i - j by omega]
        rw [h3, e2, Nat.pow_add, Nat.mul_assoc, Nat.mul_div_cancel_left _ (Nat.pow_pos hp), e3, Nat.mul_assoc, Nat.mul_mod_right]
      rw [e1]
      rfl
    · rw [if_neg h2]
      unfold dgT
      by_cases h3 : i = 0
      · rw [if_pos h3, if_pos h3]
      · rw [if_neg h3, if_neg h3]
        have e2 : e - 1 - i = (e - 1 - j) + (1 + (j - i - 1)) := by omega
        rw [e2, Nat.pow_add, Nat.pow_add, Nat.pow_one, ← Nat.div_div_eq_div_mul, ← Nat.div_div_eq_div_mul, ← Nat.div_div_eq_div_mul, ← Nat.div_div_eq_div_mul, hq, hq2, hqd]
/-- What is counted, what is first, what is best among the first k tables. -/
def cntT (kp : Nat → Option Int) : Nat → Nat
  | 0 => 0
  | k + 1 => cntT kp k + (if (kp k).isSome then 1 else 0)
def fstT (kp : Nat → Option Int) : Nat → Option Nat
  | 0 => none
  | k + 1 => match fstT kp k with
    | some j => some j
    | none => if (kp k).isSome then some k else none
def bstT (kp : Nat → Option Int) : Nat → Option (Nat × Int)
  | 0 => none
  | k + 1 => match kp k with
    | none => bstT kp k
    | some x => match bstT kp k with
      | none => some (k, x)
      | some (j, y) => if x < y then some (k, x) else some (j, y)
theorem cntT_le (kp : Nat → Option Int) : ∀ k, cntT kp k ≤ k
  | 0 => Nat.le_refl _
  | k + 1 => by have := cntT_le kp k; unfold cntT; split <;> omega
theorem fstT_lt {kp : Nat → Option Int} : ∀ {k j : Nat}, fstT kp k = some j → j < k ∧ (kp j).isSome = true
  | 0, j, h => by cases h
  | k + 1, j, h => by
    unfold fstT at h
    cases e : fstT kp k with
    | some i => rw [e] at h; cases h; have := fstT_lt e; exact ⟨by omega, this.2⟩
    | none =>
      rw [e] at h
      dsimp only at h
      split at h
      · cases h; exact ⟨by omega, by assumption⟩
      · cases h
theorem fstT_mono {kp : Nat → Option Int} {j : Nat} : ∀ {k m : Nat}, k ≤ m → fstT kp k = some j → fstT kp m = some j
  | k, 0, h, hk => by obtain rfl : k = 0 := by omega
                      exact hk
  | k, m + 1, h, hk => by
    by_cases e : k = m + 1
    · subst e; exact hk
    · rw [fstT, fstT_mono (show k ≤ m by omega) hk]
theorem fst_cnt (kp : Nat → Option Int) : ∀ k, (fstT kp k = none ↔ cntT kp k = 0)
  | 0 => by simp [fstT, cntT]
  | k + 1 => by
    have ih := fst_cnt kp k
    unfold fstT cntT
    cases e : fstT kp k with
    | some j =>
      have h0 : cntT kp k ≠ 0 := fun h => by rw [ih.2 h] at e; cases e
      constructor
      · intro h; cases h
      · intro h; omega
    | none =>
      have h0 := ih.1 e
      dsimp only
      split
      · constructor
        · intro h; cases h
        · intro h; omega
      · constructor
        · intro _; omega
        · intro _; rfl
theorem bst_cnt (kp : Nat → Option Int) : ∀ k, (bstT kp k = none ↔ cntT kp k = 0)
  | 0 => by simp [bstT, cntT]
  | k + 1 => by
    have ih := bst_cnt kp k
    unfold bstT cntT
    cases e : kp k with
    | none => simpa using ih
    | some x =>
      dsimp only
      constructor
      · intro h
        cases e2 : bstT kp k with
        | none => rw [e2] at h; cases h
        | some b => rw [e2] at h; dsimp only at h; split at h <;> cases h
      · intro h; simp at h
theorem bstT_lt {kp : Nat → Option Int} : ∀ {k : Nat} {b : Nat × Int}, bstT kp k = some b → b.1 < k ∧ kp b.1 = some b.2
  | 0, b, h => by cases h
  | k + 1, b, h => by
    unfold bstT at h
    cases e : kp k with
    | none => rw [e] at h; have := bstT_lt h; exact ⟨by omega, this.2⟩
    | some x =>
      rw [e] at h
      dsimp only at h
      cases e2 : bstT kp k with
      | none => rw [e2] at h; cases h; exact ⟨by show k < k + 1; omega, e⟩
      | some c =>
        rw [e2] at h
        dsimp only at h
        split at h
        · cases h; exact ⟨by show k < k + 1; omega, e⟩
        · cases h; have := bstT_lt e2; exact ⟨by have := this.1; show c.1 < k + 1; omega, this.2⟩
/-- A wait is known by its remainder. -/
theorem wtL_of {p d q : Int} {ts : List Int} {r : Ru4} (h1 : r.2.2.1 ≤ d) (h2 : d < r.2.2.1 + p) (h3 : d = nth ts r.2.1.toNat - nth ts r.1.toNat + p * q) : d = wtL p ts r := by
  unfold wtL
  have e : nth ts r.2.1.toNat - nth ts r.1.toNat - r.2.2.1 = (d - r.2.2.1) + p * (-q) := by rw [Int.mul_neg]; omega
  rw [e, Int.add_mul_emod_self_left, Int.emod_eq_of_lt (by omega) (by omega)]
  omega
/-- A table that is turned has the same waits. -/
theorem wtL_turn {p b : Int} {ts us : List Int} {r : Ru4} (h1 : nth us r.1.toNat = (nth ts r.1.toNat + b) % p) (h2 : nth us r.2.1.toNat = (nth ts r.2.1.toNat + b) % p) : wtL p us r = wtL p ts r := by
  unfold wtL
  rw [h1, h2]
  have e1 := Int.emod_add_mul_ediv (nth ts r.2.1.toNat + b) p
  have e2 := Int.emod_add_mul_ediv (nth ts r.1.toNat + b) p
  have e : (nth ts r.2.1.toNat + b) % p - (nth ts r.1.toNat + b) % p - r.2.2.1 = (nth ts r.2.1.toNat - nth ts r.1.toNat - r.2.2.1) + p * ((nth ts r.1.toNat + b) / p - (nth ts r.2.1.toNat + b) / p) := by rw [Int.mul_sub]; omega
  rw [e, Int.add_mul_emod_self_left]
theorem okTo_congr {p : Int} {ts us : List Int} {rs : List Ru4} (h : ∀ r ∈ rs, wtL p us r = wtL p ts r) : ∀ k, k ≤ rs.length → okTo p us rs k = okTo p ts rs k
  | 0, _ => rfl
  | k + 1, hk => by
    have h3 : rs.getD k (0, 0, 0, 0) ∈ rs := by rw [List.getD_eq_getElem?_getD, List.getElem?_eq_getElem (by omega)]; exact List.getElem_mem _
    rw [okTo, okTo, okTo_congr h k (by omega), h _ h3]
/-- A list of times turned. -/
def turnL (p b : Int) (ts : List Int) : List Int := ts.map fun t => (t + b) % p
theorem turnL_at {p b : Int} {ts : List Int} {i : Nat} (h : i < ts.length) : nth (turnL p b ts) i = (nth ts i + b) % p := by
  rw [nth_eq (by unfold turnL; simpa using h), nth_eq h]
  unfold turnL
  simp
theorem turn_keeps {e p b : Int} {ts : List Int} {rs : List Ru4} (hr : ∀ r ∈ rs, RlOk e p r) (he : (ts.length : Int) = e) (h : okTo p ts rs rs.length = true) : okTo p (turnL p b ts) rs rs.length = true := by
  rw [okTo_congr (ts := ts) (fun r hx => ?_) rs.length (Nat.le_refl _)]
  · exact h
  · obtain ⟨a1, a2, a3, a4, _⟩ := hr r hx
    exact wtL_turn (turnL_at (by omega)) (turnL_at (by omega))
theorem okTo_at {p : Int} {ts : List Int} {rs : List Ru4} (h : okTo p ts rs rs.length = true) : ∀ k, k < rs.length → wtL p ts (rs.getD k (0, 0, 0, 0)) ≤ (rs.getD k (0, 0, 0, 0)).2.2.2 := fun k hk => by
  cases e : okTo p ts rs (k + 1)
  · rw [okTo_le hk e] at h; cases h
  · rw [okTo, Bool.and_eq_true] at e
    exact of_decide_eq_true e.2
end Go.Proofs.Ythkakieomoobmaa
