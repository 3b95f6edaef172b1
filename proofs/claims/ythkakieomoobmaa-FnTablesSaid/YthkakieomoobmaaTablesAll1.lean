/- .. in loops over a function. Conditions: none. With texts that it needs. -/
import Derived.Test.YthkakieomoobmaaProg
import Derived.WalkKit
import Derived.WalkSpells
import Derived.WalkLawsBesides
import Derived.Lib.Hide
import Derived.Deep.QuietTactic
import Derived.BigQuiet
import Derived.Sort.BigQuietIn
import Derived.RangeFuncNested
import Derived.OwnWalkIn
import Derived.Maps.AppendAt
import Derived.RangeFuncBound
import Derived.RangeFuncCalls
import Derived.RangeFuncLeaves
import Derived.Shelf.Abstract
import Derived.Shelf.RegionOpen
import Derived.TacticsInMore
import Derived.LoopNIn
import Derived.LoopIn
namespace Go.Proofs.Ythkakieomoobmaa
open Go.RowKit
set_option linter.unusedVariables false
set_option linter.unusedSimpArgs false

/-- The slice value v reads as the list xs, an element a cell. -/
def Sl {α : Type} (enc : α → Value) (w : World) (v : Value) (xs : List α) : Prop :=
  xs.length ≤ maxLen ∧ ∃ a c, v = .slice a xs.length c ∧ xs.length ≤ c ∧ ∀ i (h : i < xs.length), ∃ b o, a = some ⟨b, o, none⟩ ∧ b < w.heap.size ∧ w.cell? ⟨b, o + i, none⟩ = some (enc xs[i])

/-- The slice value v reads as the integers xs. -/
abbrev Ints (w : World) (v : Value) (xs : List Int) : Prop := Sl (Value.int .i64) w v xs

theorem lt_of_cell {w : World} {a : Addr} {v : Value} (h : w.cell? a = some v) : a.block < w.heap.size := World.block_lt_of_cell? w a h

theorem Sl.below {α : Type} {enc : α → Value} {w w' : World} {v : Value} {xs : List α} {B : Nat} (h : Sl enc w v xs) (hb : Below B w w') (hB : w.heap.size ≤ B) : Sl enc w' v xs := by
  obtain ⟨hm, a, c, hv, hcap, hc⟩ := h
  refine ⟨hm, a, c, hv, hcap, fun i hi => ?_⟩
  obtain ⟨b, o, ha, hbs, hcell⟩ := hc i hi
  exact ⟨b, o, ha, by have := hb.size; omega, (hb.cell (p := ⟨b, o + i, none⟩) (by show b < B; omega)).trans hcell⟩

/-- The place of a slice's cells, whether or not there is one. -/
theorem row_at {α : Type} {enc : α → Value} {w : World} {a : Option Addr} {xs : List α}
    (hc : ∀ i (h : i < xs.length), ∃ b o, a = some ⟨b, o, none⟩ ∧ b < w.heap.size ∧ w.cell? ⟨b, o + i, none⟩ = some (enc xs[i])) :
    ∃ b o, (0 < xs.length → a = some ⟨b, o, none⟩) ∧ (0 < xs.length → b < w.heap.size) ∧ ∀ i (h : i < xs.length), w.cell? ⟨b, o + i, none⟩ = some (enc xs[i]) := by
  by_cases h : 0 < xs.length
  · obtain ⟨b, o, ha, hb, _⟩ := hc 0 h
    refine ⟨b, o, fun _ => ha, fun _ => hb, fun i hi => ?_⟩
    obtain ⟨b', o', ha', _, hcell⟩ := hc i hi
    rw [ha] at ha'
    obtain ⟨rfl, rfl⟩ : b = b' ∧ o = o' := by simpa using ha'
    exact hcell
  · exact ⟨0, 0, fun h' => absurd h' h, fun h' => absurd h' h, fun i hi => by omega⟩

theorem Sl.drew {α : Type} {enc : α → Value} {w : World} {v : Value} {xs : List α} (h : Sl enc w v xs) : Sl enc w.drew v xs := h.below (B := w.heap.size) (Below.refl _ _).drew (Nat.le_refl _)

theorem below_drewN {B : Nat} {a w : World} (n : Nat) (h : Below B a w) : Below B a (w.drewN n) := ⟨h.os, h.tape, h.output, h.size, h.block⟩

/-- What a slice of integers that came in (a row's argument) reads as. -/
theorem ints_of_row {w : World} {a : Option Addr} {len cap : Nat} {zs : List Int}
    (h : (a = none ∧ len = 0 ∧ cap = 0 ∧ zs = []) ∨
      ∃ x, a = some x ∧ len ≤ cap ∧ cap ≤ maxLen ∧ zs.length = cap ∧ (∀ i, i < zs.length → w.cell? (x.add i) = some (.int .i64 (zs.getD i 0))) ∧ ∀ n ∈ zs, (Lit.int .i64 n).wf = true) :
    Ints w (.slice a len cap) (zs.take len) ∧ (∀ n ∈ zs.take len, (Lit.int .i64 n).wf = true) ∧ (zs.take len).length = len := by
  rcases h with ⟨rfl, rfl, rfl, rfl⟩ | ⟨x, rfl, hl, hm, hz, hc, hw⟩
  · exact ⟨⟨Nat.zero_le _, none, 0, rfl, Nat.zero_le _, fun i hi => by simp at hi⟩, by simp, rfl⟩
  · have hlen : (zs.take len).length = len := by simp; omega
    refine ⟨⟨by omega, some x, cap, by rw [hlen], by omega, fun i hi => ?_⟩, fun n hn => hw n (List.mem_of_mem_take hn), hlen⟩
    have h0 := hc 0 (by omega)
    have hx : x.spot = none := by
      have : x.add 0 = x := by simp [Addr.add]
      rw [this] at h0
      unfold World.cell? at h0
      cases hs : x.spot with
      | none => rfl
      | some s => rw [hs] at h0; split at h0 <;> simp at h0
    obtain ⟨b, o, s⟩ := x
    subst hx
    have hci := hc i (by omega)
    have hadd : (⟨b, o, none⟩ : Addr).add i = ⟨b, o + i, none⟩ := by
      by_cases h : i = 0
      · subst h; rfl
      · simp [Addr.add, h]
    rw [hadd] at hci
    refine ⟨b, o, rfl, lt_of_cell hci, ?_⟩
    rw [hci]
    simp [List.getD_eq_getElem?_getD, List.getElem?_eq_getElem (show i < zs.length by omega)]

/-- What a slice of bytes that came in reads as. -/
abbrev Byts (w : World) (v : Value) (xs : List Int) : Prop := Sl (Value.int .u8) w v xs
theorem bytes_of_row {w : World} {a : Option Addr} {len cap : Nat} {zs : List Int}
    (h : (a = none ∧ len = 0 ∧ cap = 0 ∧ zs = []) ∨
      ∃ x, a = some x ∧ len ≤ cap ∧ cap ≤ maxLen ∧ zs.length = cap ∧ (∀ i, i < zs.length → w.cell? (x.add i) = some (.int .u8 (zs.getD i 0))) ∧ ∀ n ∈ zs, (Lit.int .u8 n).wf = true) :
    Byts w (.slice a len cap) (zs.take len) ∧ (∀ n ∈ zs.take len, (Lit.int .u8 n).wf = true) ∧ (zs.take len).length = len := by
  rcases h with ⟨rfl, rfl, rfl, rfl⟩ | ⟨x, rfl, hl, hm, hz, hc, hw⟩
  · exact ⟨⟨Nat.zero_le _, none, 0, rfl, Nat.zero_le _, fun i hi => by simp at hi⟩, by simp, rfl⟩
  · have hlen : (zs.take len).length = len := by simp; omega
    refine ⟨⟨by omega, some x, cap, by rw [hlen], by omega, fun i hi => ?_⟩, fun n hn => hw n (List.mem_of_mem_take hn), hlen⟩
    have h0 := hc 0 (by omega)
    have hx : x.spot = none := by
      have : x.add 0 = x := by simp [Addr.add]
      rw [this] at h0
      unfold World.cell? at h0
      cases hs : x.spot with
      | none => rfl
      | some s => rw [hs] at h0; split at h0 <;> simp at h0
    obtain ⟨b, o, s⟩ := x
    subst hx
    have hci := hc i (by omega)
    have hadd : (⟨b, o, none⟩ : Addr).add i = ⟨b, o + i, none⟩ := by
      by_cases h : i = 0
      · subst h; rfl
      · simp [Addr.add, h]
    rw [hadd] at hci
    refine ⟨b, o, rfl, lt_of_cell hci, ?_⟩
    rw [hci]
    simp [List.getD_eq_getElem?_getD, List.getElem?_eq_getElem (show i < zs.length by omega)]

/-- An owned row of integers reads as them. -/
theorem ints_of_own {w : World} {base : Nat} {e : TypeId} {v : Value} {n : Nat} {xs : List Int} (h : w.ownsRow base e 1 v n (xs.map (Value.int .i64))) : Ints w v xs := by
  have hn : xs.length = n := by have := h.1; simpa using this
  subst hn
  rcases h.2 with ⟨rfl, h0⟩ | ⟨g, cap, cur, rfl, hg, hh, hc, hm, hcs, ht⟩
  · exact ⟨by omega, none, 0, by rw [h0], by omega, fun i hi => by omega⟩
  · refine ⟨by omega, _, cap, rfl, by omega, fun i hi => ⟨g, 0, rfl, (Array.getElem?_eq_some_iff.1 hh).1, ?_⟩⟩
    have := h.cellAt (g := g) (cap := cap) i (by omega)
    rw [Nat.zero_add, this]
    simp [hi]

/-- The k-th number. -/
def nth (xs : List Int) (k : Nat) : Int := xs.getD k 0
theorem nth_eq {xs : List Int} {k : Nat} (h : k < xs.length) : nth xs k = xs[k] := by simp [nth, List.getD_eq_getElem?_getD, List.getElem?_eq_getElem h]

theorem finRange_val (m : Nat) : (List.finRange m).map (·.1) = List.range m := by
  apply List.ext_getElem <;> simp

theorem wf_u8_iff {n : Int} : (Lit.int .u8 n).wf = true ↔ 0 ≤ n ∧ n ≤ 255 := by
  simp [Lit.wf, IntKind.min, IntKind.max, IntKind.signed, IntKind.bits]

/-- In the range. -/
def win (n lo hi : Int) : Bool := decide (lo ≤ n) && decide (n ≤ hi)
theorem win_true {n lo hi : Int} : win n lo hi = true ↔ lo ≤ n ∧ n ≤ hi := by simp [win]
theorem win_false {n lo hi : Int} : win n lo hi = false ↔ n < lo ∨ hi < n := by simp [win]; omega

/-- A contract that leaves the world alone, met in a quiet region. -/
theorem quiet_eq {P : Program} {f : FuncId} {args : Array Value} {w : World} {n : Nat} {v : Value}
    (h : Calls P f args (w.drewN n) fun e w' => e = .returned v ∧ w.drewN n = w') : Calls P f args (w.drewN n) fun e w'' => e = .returned v ∧ ∃ m, w'' = w.drewN m :=
  h.mono fun _ _ ⟨he, hm⟩ => ⟨he, n, hm.symm⟩

theorem ret_int {k : IntKind} {a b : Int} (h : a = b) : Ending.returned (.int k a) = .returned (.int k b) := by rw [h]
theorem ret_bool {a b : Bool} (h : a = b) : Ending.returned (.bool a) = .returned (.bool b) := by rw [h]

theorem val_int {k : IntKind} {a b : Int} (h : a = b) : Value.int k a = .int k b := by rw [h]
theorem val_bool {a b : Bool} (h : a = b) : Value.bool a = .bool b := by rw [h]
theorem ret_val {a b : Value} (h : a = b) : Ending.returned a = .returned b := by rw [h]
theorem ret_t2 {a a' b b' : Value} (h1 : a = a') (h2 : b = b') : Ending.returned (.tuple #[a, b]) = .returned (.tuple #[a', b']) := by rw [h1, h2]
theorem ret_t3 {a a' b b' c c' : Value} (h1 : a = a') (h2 : b = b') (h3 : c = c') : Ending.returned (.tuple #[a, b, c]) = .returned (.tuple #[a', b', c']) := by rw [h1, h2, h3]

theorem wf_i64_iff {n : Int} : (Lit.int .i64 n).wf = true ↔ -9223372036854775808 ≤ n ∧ n ≤ 9223372036854775807 := by
  simp [Lit.wf, IntKind.min, IntKind.max, IntKind.signed, IntKind.bits]

theorem tmod_bounds (a : Int) {b : Int} (hb : 0 < b) : -b < a.tmod b ∧ a.tmod b < b := by
  have h1 := Int.tmod_lt_of_pos a hb
  refine ⟨?_, h1⟩
  rcases Int.le_total 0 a with h | h
  · have := Int.tmod_nonneg b h; omega
  · have h2 := Int.tmod_lt_of_pos (-a) hb
    rw [Int.neg_tmod] at h2; omega

end Go.Proofs.Ythkakieomoobmaa
-- Rows8

namespace Go.Proofs.Ythkakieomoobmaa
open Go.RowKit
set_option linter.unusedVariables false
set_option linter.unusedSimpArgs false

theorem within_any (n lo hi : Int) (w : World) : Calls Try.prog 35 #[.int .i64 n, .int .i64 lo, .int .i64 hi] w fun e w' => e = .returned (.bool (win n lo hi)) ∧ w = w' := by
  go_enter Try.func35, Try.ntmps35
  go_wp2
  all_goals
    go_ret
    refine ⟨?_, rfl⟩
    unfold win
    simp [*]
    try omega

theorem l00In_any (n lo hi : Int) (w : World) : Calls Try.prog 46 #[.int .i64 n, .int .i64 lo, .int .i64 hi] w fun e w' => e = .returned (.bool (win n lo hi)) ∧ w = w' := by
  go_enter Try.func46, Try.ntmps46
  go_wp2
  all_goals
    go_ret
    refine ⟨?_, rfl⟩
    unfold win
    simp [*]
    try omega

theorem floorMod_any (a b : Int) (w : World) (h1 : 0 < b) (h2 : b ≤ 1000000000) : Calls Try.prog 39 #[.int .i64 a, .int .i64 b] w fun e w' => e = .returned (.int .i64 (a % b)) ∧ w = w' := by
  have ht := tmod_bounds a h1
  obtain ⟨ht1, ht2⟩ := ht
  have hb : ¬ b = 0 := by omega
  have hx : (a.tmod b + b) % b = a % b := by
    rw [Int.tmod_def]
    rcases Int.le_total 0 a with h | h
    · rw [show a - b * a.tdiv b + b = a + b * (1 - a.tdiv b) by rw [Int.mul_sub]; omega, Int.add_mul_emod_self_left]
    · rw [show a - b * a.tdiv b + b = a + b * (1 - a.tdiv b) by rw [Int.mul_sub]; omega, Int.add_mul_emod_self_left]
  have hx' := Lib.hid hx
  clear hx
  go_enter Try.func39, Try.ntmps39
  go_wp2
  go_ret
  refine ⟨ret_int ?_, rfl⟩
  exact hx'.out
end Go.Proofs.Ythkakieomoobmaa

namespace Go.Proofs.Ythkakieomoobmaa
open Go.RowKit
set_option linter.unusedVariables false
set_option linter.unusedSimpArgs false

theorem info_i64 : (Try.prog.info? 2).map (fun i => (i.zero, i.size, i.bytes)) = some (some (.int .i64 0), 1, 8) := by kernel_rfl

theorem take_set (xs : List Int) (k : Nat) (hk : k < xs.length) (m : Nat) (hm : xs.length = k + (m + 1)) :
    ((xs.take k ++ List.replicate (m + 1) 0).set k xs[k]) = xs.take (k + 1) ++ List.replicate m 0 := by
  apply List.ext_getElem
  · simp; omega
  · intro i h1 h2
    simp only [List.getElem_set]
    split
    · rename_i h; subst h; rw [List.getElem_append_left (by simp; omega)]; simp
    · rename_i h
      by_cases h3 : i < k
      · rw [List.getElem_append_left (by simp; omega), List.getElem_append_left (by simp; omega)]; simp
      · rw [List.getElem_append_right (by simp; omega), List.getElem_append_right (by simp; omega)]; simp

theorem areWithin_any (v : Value) (xs : List Int) (lo hi : Int) (w : World) (hv : Ints w v xs) :
    Calls Try.prog 57 #[v, .int .i64 lo, .int .i64 hi] w fun e w' => e = .returned (.bool (xs.all fun n => win n lo hi)) ∧ w = w' := by
  obtain ⟨hm, a, c, rfl, hcap, hc⟩ := hv
  unfold maxLen at hm
  go_enter Try.func57, Try.ntmps57
  go_wp2
  go_loop [8, 11] (fun x i => ∃ k : Nat, k ≤ xs.length ∧ i = .int .i64 k ∧ (xs.take k).all (fun n => win n lo hi) = true) (fun _ i => xs.length - (intOf i).toNat)
  case atStart => exact ⟨0, Nat.zero_le _, rfl, rfl⟩
  case round =>
    obtain ⟨k, hk, rfl, hr⟩ := hrel
    have Hr := Lib.hid hr
    clear hr
    by_cases hlt : k < xs.length
    · obtain ⟨b, o, rfl, _, hc1⟩ := hc k hlt
      clear hc
      cases hw : win xs[k] lo hi
      · go_wp2_with (go_at_call 35; refine (within_any _ _ _ _).mono ?_; rintro e w' ⟨rfl, rfl⟩)
        go_ret
        refine ⟨ret_bool ?_, rfl⟩
        symm
        rw [List.all_eq_false]
        exact ⟨xs[k], List.getElem_mem _, by simp [hw]⟩
      · go_wp2_with (go_at_call 35; refine (within_any _ _ _ _).mono ?_; rintro e w' ⟨rfl, rfl⟩)
        go_round
        case rel =>
          refine ⟨k + 1, by omega, by go_num, ?_⟩
          rw [List.take_succ_eq_append_getElem hlt, List.all_append, Hr.out]
          simp [hw]
        case measure => simp [intOf]; omega
    · clear hc
      go_wp2
      go_ret
      refine ⟨ret_bool ?_, rfl⟩
      have := Hr.out
      rw [List.take_of_length_le (by omega)] at this
      exact this.symm

def many (xs : List Int) (few most : Int) (lo hi : Int) : Bool := decide (few ≤ (xs.length : Int)) && decide ((xs.length : Int) ≤ most) && xs.all fun n => win n lo hi

theorem many_true {xs : List Int} {few most lo hi : Int} : many xs few most lo hi = true ↔ few ≤ xs.length ∧ (xs.length : Int) ≤ most ∧ (xs.all fun n => win n lo hi) = true := by
  simp [many, and_assoc]

theorem areMany_any (v : Value) (xs : List Int) (few most : Int) (lo hi : Int) (w : World) (hv : Ints w v xs) :
    Calls Try.prog 42 #[v, .int .i64 few, .int .i64 most, .int .i64 lo, .int .i64 hi] w fun e w' => e = .returned (.bool (many xs few most lo hi)) ∧ w = w' := by
  have hv2 := hv
  obtain ⟨hm, a, c, rfl, hcap, hc⟩ := hv2
  clear hc
  unfold maxLen at hm
  unfold many
  by_cases h1 : few ≤ (xs.length : Int)
  · by_cases h2 : (xs.length : Int) ≤ most
    · go_enter Try.func42, Try.ntmps42
      go_wp2_with (go_at_call 57; refine (areWithin_any _ xs _ _ _ hv).mono ?_; rintro e w' ⟨rfl, rfl⟩)
      go_ret
      exact ⟨ret_bool (by rw [decide_eq_true h1, decide_eq_true h2]; simp), rfl⟩
    · go_enter Try.func42, Try.ntmps42
      go_wp2_with fail
      go_ret
      exact ⟨ret_bool (by rw [decide_eq_false (by omega : ¬ (xs.length : Int) ≤ most)]; simp), rfl⟩
  · go_enter Try.func42, Try.ntmps42
    go_wp2_with fail
    go_ret
    exact ⟨ret_bool (by rw [decide_eq_false (by omega : ¬ few ≤ (xs.length : Int))]; simp), rfl⟩
end Go.Proofs.Ythkakieomoobmaa

namespace Go.Proofs.Ythkakieomoobmaa
open Go.RowKit
set_option linter.unusedVariables false

def noDefer (l : List Oper) : Bool := l.all fun o => match o.op with | .defer _ => false | _ => true

theorem noDefer_spec {l : List Oper} (h : noDefer l = true) {o : Oper} (ho : o ∈ l) : ∀ c, o.op ≠ .defer c := fun c hc => by
  have := List.all_eq_true.1 h o ho
  rw [hc] at this
  exact absurd this (by simp)

section
variable {F : Fence} {n : Nat} {P : Program} {ops : Array Oper} {md : Region.Mode} {C : World → Prop}

theorem wpIn_of_quiet_round {o : Oper} {a : Act} {K : Act → Prop} {K' : Act → World → Prop} {Q' : Exit → Act → World → Prop} {w : World} (hnd : ∀ c, o.op ≠ .defer c) (hw : C w) (h : ∀ a w', C w' → K a → K' a w')
    (ha : o.askedIn F P a C) (hh : o.quietIn F n P a C K) : o.wpIn F n P a w K' Q' := by
  obtain ⟨v, h1, h2⟩ := hh
  have h3 := h1 w hw
  unfold Oper.quietAtIn at h3
  unfold Oper.wpIn
  refine ⟨ha w hw, ?_⟩
  rw [Oper.semAt_eq _ _ _ hnd]
  generalize (execOp a.eval o).run P w = r at *
  cases r with
  | ok x w' =>
    cases x <;> simp only [Oper.quietUponIn] at h3 <;> simp only [Oper.uponIn]
    case value u =>
      obtain ⟨e1, e2⟩ := h3
      rw [e1, e2]
      exact h _ _ hw h2
    case skip =>
      obtain ⟨e1, e2⟩ := h3
      rw [e1, ← e2]
      exact h _ _ hw h2
    case enter f args =>
      obtain ⟨e1, hd, hc⟩ := h3
      rw [e1]
      exact ⟨hd, hc.mono fun e w'' ⟨he, hw''⟩ => by subst he; exact h _ _ hw'' h2⟩
  | halt x w' => simp only [Oper.quietUponIn] at h3

theorem wpOpIn_of_qOpIn_round {i : Nat} {a : Act} {K : Act → Prop} {K' : Act → World → Prop} {Q' : Exit → Act → World → Prop} {w : World} (hnd : noDefer ops.toList = true) (hC : C w) (h : ∀ a w', C w' → K a → K' a w')
    (hh : qOpIn F n P ops C i K a) : wpOpIn F n P ops Q' i K' a w := by
  unfold qOpIn at hh
  unfold wpOpIn
  split
  · rename_i ho; simp only [ho] at hh; exact h _ _ hC hh
  · rename_i o ho
    simp only [ho] at hh
    obtain ⟨ha, hh⟩ := hh
    have hmem : o ∈ ops.toList := by
      obtain ⟨h1, h2⟩ := Array.getElem?_eq_some_iff.1 ho
      rw [← h2]; simp
    split
    · rename_i hw; simp only [hw, if_true] at hh; exact wpIn_of_quiet_round (noDefer_spec hnd hmem) hC h ha hh
    · rename_i hw; simp only [hw] at hh; exact ⟨ha w hC, h _ _ hC hh⟩

theorem wpAnyIn_of_quiet_round {Q : Act → Prop} {Q' : Exit → Act → World → Prop} (hnd : noDefer ops.toList = true) (hQ : ∀ a w, C w → Q a → Q' .normal a w) : ∀ (fuel : Nat) (listed : Array Bool) (a : Act) (w : World), C w →
    wpAnyQIn F n P md ops C Q fuel listed a → wpAnyIn F n P md ops Q' fuel listed a w
  | 0, _, _, _, hw, h => ⟨h.1, hQ _ _ hw h.2⟩
  | fuel + 1, _, _, _, hw, h => ⟨fun h0 => hQ _ _ hw (h.1 h0), fun i hi => wpOpIn_of_qOpIn_round hnd hw (fun a' w' hw' => wpAnyIn_of_quiet_round hnd hQ fuel _ a' w' hw') (h.2 i hi)⟩

theorem round_quiet {id : Nat} {Q : Exit → Act → World → Prop} {a : Act} {w : World} (hnd : noDefer ops.toList = true) (hm : P.follows .mixedOrders = true) (hB : Region.lexB .any ops = true) (hC : C { w with drawn := w.drawn + 1 })
    (h : wpQuietIn F n P ops C (fun a' => ∀ w', C w' → Q .normal a' w') ops.toList a) : (Code.region id ops true).wpIn F n P Q a w := by
  simp only [Region.lexB, Bool.and_eq_true] at hB
  refine wpIn_region_any hm (wpAnyIn_of_quiet_round (Q := fun a' => ∀ w', C w' → Q .normal a' w') hnd (fun _ w' hw' h => h w' hw') _ _ _ _ hC ?_)
  have := wpAnyQIn_lex (F := F) (n := n) (C := C) (md := .any) hB.1 ops.toList 0 (Array.replicate ops.size false) a (by simp) (by simpa using hB.2) h
  simpa using this

theorem round_quiet_lit {id : Nat} {Q : Exit → Act → World → Prop} {a : Act} {w : World} {l : List Oper} (hnd : noDefer l = true) (hm : P.follows .mixedOrders = true) (hB : Region.lexB .any l.toArray = true)
    (h : wpQuietIn F n P l.toArray (fun w' => ∃ n, w' = w.drewN n) (fun a' => ∀ w', (∃ n, w' = w.drewN n) → Q .normal a' w') l a) : (Code.region id l.toArray true).wpIn F n P Q a w :=
  round_quiet (C := fun w' => ∃ n, w' = w.drewN n) (by simpa using hnd) hm hB ⟨1, rfl⟩ (by simpa using h)
end
end Go.Proofs.Ythkakieomoobmaa

namespace Go.Proofs.Ythkakieomoobmaa
open Go.RowKit
set_option linter.unusedVariables false
set_option linter.unusedSimpArgs false

/-- v is a slice of the call's own (in a block from B on, or nil), and it holds the integers xs. -/
def OwnI (w : World) (B : Nat) (v : Value) (xs : List Int) : Prop := w.ownsRow B 2 1 v xs.length (xs.map (Value.int .i64))

theorem OwnI.ints {w : World} {B : Nat} {v : Value} {xs : List Int} (h : OwnI w B v xs) : Ints w v xs := ints_of_own h
theorem OwnI.alloc {w : World} {B : Nat} {v : Value} {xs : List Int} (h : OwnI w B v xs) (o : Obj) : OwnI (w.alloc o) B v xs := World.ownsRow.alloc h o
theorem OwnI.kept {w w' : World} {B : Nat} {v : Value} {xs : List Int} {row : Option Nat} (h : OwnI w B v xs) (hg : w.grownBy w' row) (hne : v.ownBlock = none ∨ v.ownBlock ≠ row) : OwnI w' B v xs := World.ownsRow.kept h hg hne
theorem OwnI.lt {w : World} {B : Nat} {v : Value} {xs : List Int} (h : OwnI w B v xs) : ∀ k, v.ownBlock = some k → B ≤ k ∧ k < w.heap.size := World.ownsRow.lt h
theorem OwnI.below {w w' : World} {B N : Nat} {v : Value} {xs : List Int} (h : OwnI w B v xs) (hb : Below N w w') (hN : w.heap.size ≤ N) : OwnI w' B v xs := by
  refine h.kept (row := none) ⟨hb.os, hb.tape, hb.output, hb.size, fun k hk _ => hb.block k (by omega)⟩ ?_
  cases v.ownBlock <;> simp
theorem OwnI.drewN {w : World} {B : Nat} {v : Value} {xs : List Int} (h : OwnI w B v xs) (q : Nat) : OwnI (w.drewN q) B v xs := h.below (below_drewN q (Below.refl w.heap.size w)) (Nat.le_refl _)
theorem OwnI.mono {w : World} {B B' : Nat} {v : Value} {xs : List Int} (h : OwnI w B v xs) (hB : B' ≤ B) : OwnI w B' v xs := by
  refine ⟨h.1, ?_⟩
  rcases h.2 with h2 | ⟨g, cap, cur, hv, hg, r⟩
  · exact .inl h2
  · exact .inr ⟨g, cap, cur, hv, by omega, r⟩
theorem OwnI.setCell {w : World} {B : Nat} {v : Value} {xs : List Int} (h : OwnI w B v xs) {p : Addr} (u : Value) (hne : v.ownBlock ≠ some p.block) : OwnI (w.setCell p u) B v xs :=
  h.kept (row := some p.block) ⟨rfl, rfl, rfl, by simp [World.setCell], fun k hk hk' => Below.heap_setCell _ _ _ _ (fun e => hk' (by rw [e]))⟩ (.inr hne)

/-- A slice literal. -/
theorem OwnI.lit (w : World) (B : Nat) (xs : List Int) (hB : B ≤ w.heap.size) (hx : xs.length ≤ maxLen) : OwnI (w.alloc (.cells (xs.map (Value.int .i64)).toArray 2)) B (.slice (some ⟨w.heap.size, 0, none⟩) xs.length xs.length) xs := by
  have := World.ownsRow_lit (e := 2) (size := 1) w (xs.map (Value.int .i64)).toArray xs.length hB hx (by simp)
  simpa [OwnI] using this

theorem cells_lit (W : World) (vs : List Value) (t : TypeId) : ∀ j u, vs[j]? = some u → (W.alloc (.cells vs.toArray t)).cell? ((⟨W.heap.size, 0, none⟩ : Addr).add j) = some u := by
  intro j u hj
  have hadd : (⟨W.heap.size, 0, none⟩ : Addr).add j = ⟨W.heap.size, j, none⟩ := by unfold Addr.add; split <;> simp_all
  have hh : (W.alloc (.cells vs.toArray t)).heap[W.heap.size]? = some (.cells vs.toArray t (0, 0)) := World.alloc_heap_new W _
  rw [hadd]
  unfold World.cell?
  rw [hh]
  simpa using hj

/-- What is known behind an append of at least one element. -/
theorem app_shape {W w' : World} {B : Nat} {v v' : Value} {xs ys : List Int} {t : TypeId} (hy : 0 < ys.length) (hown : OwnI W B v xs)
    (h1 : w'.ownsRow B 2 1 v' (xs.length + ys.length) (xs.map (Value.int .i64) ++ ys.map (Value.int .i64))) (h2 : (W.alloc (.cells (ys.map (Value.int .i64)).toArray t)).grownBy w' v.ownBlock) :
    ∃ g c, v' = .slice (some ⟨g, 0, none⟩) (xs.length + ys.length) c ∧ OwnI w' B (.slice (some ⟨g, 0, none⟩) (xs.length + ys.length) c) (xs ++ ys) ∧ W.grownBy w' v.ownBlock := by
  have hg : W.grownBy w' v.ownBlock := ⟨h2.os, h2.tape, h2.output, Nat.le_trans (by simp) h2.size, fun k hk hne => (h2.block k (by simp; omega) hne).trans (Below.heap_alloc _ _ _ hk)⟩
  have h1' : OwnI w' B v' (xs ++ ys) := by unfold OwnI; simpa using h1
  rcases h1.2 with ⟨_, h0⟩ | ⟨g, cap, cur, rfl, _⟩
  · omega
  · exact ⟨g, cap, rfl, h1', hg⟩

/-- 'append(s, y, ..)', outside every round. -/
theorem append_i64 {ops : Array Oper} {rest : List Oper} {o : Oper} {a : Act} {Q : Exit → Act → World → Prop} {W : World} (hgd : o.guard = none) (s x : Operand)
    (ho : o.op = .call { callee := .builtin .append, args := #[s, x], argTypes := #[29, 29] }) (B : Nat) (v : Value) (xs ys : List Int) (hy : 0 < ys.length)
    (hs : a.eval s = v) (c : Nat) (hx : a.eval x = .slice (some ⟨W.heap.size, 0, none⟩) ys.length c) (hown : OwnI W B v xs) (hB : B ≤ W.heap.size) (hsmall : xs.length + ys.length ≤ 1099511627776)
    (hK : ∀ g c w', OwnI w' B (.slice (some ⟨g, 0, none⟩) (xs.length + ys.length) c) (xs ++ ys) → W.grownBy w' v.ownBlock → wpList Try.prog ops Q rest (a.put o.dst (.slice (some ⟨g, 0, none⟩) (xs.length + ys.length) c)) w') :
    wpList Try.prog ops Q (o :: rest) a (W.alloc (.cells (ys.map (Value.int .i64)).toArray 2)) := by
  obtain ⟨i0, hi, hz0, hz1, hz2⟩ := info_parts info_i64
  refine wpList_append_own _ hgd s x 29 ho B 2 i0 (.int .i64 0) 1 8 Try.underlying29 hi hz0 hz1 hz2 rfl (by decide) v xs.length _ hs (World.ownsRow.alloc hown _) ⟨W.heap.size, 0, none⟩ ys.length c (ys.map (Value.int .i64)) hx (by simp) (cells_lit W _ _) ?_ (by unfold maxLen; omega) (by omega) (by simp; omega) ?_
  · intro u hu; obtain ⟨y, _, rfl⟩ := List.mem_map.1 hu; rfl
  · intro v' w' h1 h2 _
    obtain ⟨g, c', rfl, h3, h4⟩ := app_shape hy hown h1 h2
    exact hK g c' w' h3 h4

/-- .. inside a fence or a round. -/
theorem append_i64In {F : Fence} {n : Nat} {ops : Array Oper} {rest : List Oper} {o : Oper} {a : Act} {Q : Exit → Act → World → Prop} {W : World} (hgd : o.guard = none) (s x : Operand)
    (ho : o.op = .call { callee := .builtin .append, args := #[s, x], argTypes := #[29, 29] }) (B : Nat) (v : Value) (xs ys : List Int) (hy : 0 < ys.length)
    (hs : a.eval s = v) (c : Nat) (hx : a.eval x = .slice (some ⟨W.heap.size, 0, none⟩) ys.length c) (hown : OwnI W B v xs) (hB : B ≤ W.heap.size) (hsmall : xs.length + ys.length ≤ 1099511627776)
    (hK : ∀ g c w', OwnI w' B (.slice (some ⟨g, 0, none⟩) (xs.length + ys.length) c) (xs ++ ys) → W.grownBy w' v.ownBlock → wpListIn F n Try.prog ops Q rest (a.put o.dst (.slice (some ⟨g, 0, none⟩) (xs.length + ys.length) c)) w') :
    wpListIn F n Try.prog ops Q (o :: rest) a (W.alloc (.cells (ys.map (Value.int .i64)).toArray 2)) := by
  obtain ⟨i0, hi, hz0, hz1, hz2⟩ := info_parts info_i64
  refine wpListIn_append_own _ hgd s x 29 ho B 2 i0 (.int .i64 0) 1 8 Try.underlying29 hi hz0 hz1 hz2 rfl (by decide) v xs.length _ hs (World.ownsRow.alloc hown _) ⟨W.heap.size, 0, none⟩ ys.length c (ys.map (Value.int .i64)) hx (by simp) (cells_lit W _ _) ?_ (by unfold maxLen; omega) (by omega) (by simp; omega) ?_
  · intro u hu; obtain ⟨y, _, rfl⟩ := List.mem_map.1 hu; rfl
  · intro v' w' h1 h2 _
    obtain ⟨g, c', rfl, h3, h4⟩ := app_shape hy hown h1 h2
    exact hK g c' w' h3 h4

theorem ownBlock_slice (g n c : Nat) : (Value.slice (some ⟨g, 0, none⟩) n c).ownBlock = some g := rfl

/-- 'Below' behind an append to a slice of the call's own. -/
theorem Below.app {B : Nat} {w W w' : World} {v : Value} {xs : List Int} (h : Below B w W) (hown : OwnI W B v xs) (hg : W.grownBy w' v.ownBlock) (hB : B ≤ W.heap.size) : Below B w w' :=
  h.grown hg hB (fun k e => (hown.lt k e).1)
end Go.Proofs.Ythkakieomoobmaa

namespace Go.Proofs.Ythkakieomoobmaa
open Go.RowKit
set_option linter.unusedVariables false
set_option linter.unusedSimpArgs false

theorem append_from {ops : Array Oper} {rest : List Oper} {o : Oper} {a : Act} {Q : Exit → Act → World → Prop} {W : World} (hgd : o.guard = none) (s x : Operand)
    (ho : o.op = .call { callee := .builtin .append, args := #[s, x], argTypes := #[29, 29] }) (B : Nat) (v : Value) (xs ys : List Int) (hy : 0 < ys.length)
    (hs : a.eval s = v) (b off c : Nat) (hx : a.eval x = .slice (some ⟨b, off, none⟩) ys.length c) (hcells : ∀ i (h : i < ys.length), W.cell? ⟨b, off + i, none⟩ = some (.int .i64 ys[i])) (hown : OwnI W B v xs) (hB : B ≤ W.heap.size) (hsmall : xs.length + ys.length ≤ 1099511627776)
    (hK : ∀ g c w', OwnI w' B (.slice (some ⟨g, 0, none⟩) (xs.length + ys.length) c) (xs ++ ys) → W.grownBy w' v.ownBlock → wpList Try.prog ops Q rest (a.put o.dst (.slice (some ⟨g, 0, none⟩) (xs.length + ys.length) c)) w') :
    wpList Try.prog ops Q (o :: rest) a W := by
  obtain ⟨i0, hi, hz0, hz1, hz2⟩ := info_parts info_i64
  refine wpList_append_own _ hgd s x 29 ho B 2 i0 (.int .i64 0) 1 8 Try.underlying29 hi hz0 hz1 hz2 rfl (by decide) v xs.length _ hs hown ⟨b, off, none⟩ ys.length c (ys.map (Value.int .i64)) hx (by simp) ?_ ?_ (by unfold maxLen; omega) (by omega) hB ?_
  · intro j u hj
    rw [List.getElem?_map] at hj
    cases h : ys[j]? with
    | none => rw [h] at hj; cases hj
    | some y =>
      rw [h] at hj
      obtain ⟨h1, h2⟩ := List.getElem?_eq_some_iff.1 h
      have hadd : (⟨b, off, none⟩ : Addr).add j = ⟨b, off + j, none⟩ := by unfold Addr.add; split <;> simp_all
      rw [hadd, hcells j h1, h2]
      simpa using hj
  · intro u hu; obtain ⟨y, _, rfl⟩ := List.mem_map.1 hu; rfl
  · intro v' w' h1 h2 _
    have h1' : OwnI w' B v' (xs ++ ys) := by unfold OwnI; simpa using h1
    rcases h1.2 with ⟨_, h0⟩ | ⟨g, cap, cur, rfl, _⟩
    · omega
    · exact hK g cap w' h1' h2
end Go.Proofs.Ythkakieomoobmaa

namespace Go.Proofs.Ythkakieomoobmaa
open Go.RowKit
set_option linter.unusedVariables false
set_option linter.unusedSimpArgs false

theorem sl_nil (p : Addr) (n c : Nat) (W : World) : (binOp .eql 29 (.slice (some p) n c) (.slice none 0 0)).run Try.prog W = .ok (.bool false) W := by kernel_rfl

theorem clone_any (v : Value) (xs : List Int) (w : World) (hv : Ints w v xs) (h0 : 0 < xs.length) (hl : xs.length ≤ 1048576) :
    Calls Try.prog 30 #[v] w fun e w' => (∃ g c, e = .returned (.slice (some ⟨g, 0, none⟩) xs.length c) ∧ OwnI w' w.heap.size (.slice (some ⟨g, 0, none⟩) xs.length c) xs) ∧ Below w.heap.size w w' := by
  obtain ⟨hm, a, c, rfl, hcap, hc⟩ := hv
  obtain ⟨b, o, ha0, hbs, hcs⟩ := row_at hc
  obtain rfl := ha0 h0
  have hbs := hbs h0
  have ho : OwnI (w.alloc (.cells #[] 2)) w.heap.size (.slice (some ⟨w.heap.size, 0, none⟩) 0 0) [] := OwnI.lit w w.heap.size [] (Nat.le_refl _) (by unfold maxLen; simp)
  have hB : Below w.heap.size w (w.alloc (.cells #[] 2)) := (Below.refl _ w).alloc (Nat.le_refl _) _
  have hcs' : ∀ i (h : i < xs.length), (w.alloc (.cells #[] 2)).cell? ⟨b, o + i, none⟩ = some (.int .i64 xs[i]) := fun i h => (hB.cell (p := ⟨b, o + i, none⟩) hbs).trans (hcs i h)
  have HO := Lib.hid ho
  have HB := Lib.hid hB
  have HCS := Lib.hid hcs'
  clear hc hcs hcs' ho hB ha0
  have hsn := sl_nil
  go_enter Try.func30, Try.ntmps30
  go_wp2_with (at_builtin; refine append_from rfl _ _ rfl w.heap.size (.slice (some ⟨w.heap.size, 0, none⟩) 0 0) [] xs h0 rfl b o c rfl HCS.out HO.out (by simp) (by simp; omega) ?_; intro g1 c1 w1 ho1 hg1; have hb1 := Below.app (hB := by simp) (HB.out.trans (Below.refl _ _)) HO.out hg1; have Ho1 := Lib.hid ho1; have Hb1 := Lib.hid hb1; clear ho1 hg1 hb1)
  go_ret
  have h1 := Ho1.out
  simp at h1
  exact ⟨⟨g1, c1, rfl, h1⟩, Hb1.out⟩
end Go.Proofs.Ythkakieomoobmaa

namespace Go.Proofs.Ythkakieomoobmaa
open Go.RowKit Go.Shelf
set_option linter.unusedVariables false
set_option linter.unusedSimpArgs false
attribute [local go_sem] Oper.semAt_some

/-- The world behind the call. -/
structure ChunkW (w w' : World) (v : Value) (n : Int) : Prop where
  size : w'.heap.size = w.heap.size + 2
  below : Below w.heap.size w w'
  s : w'.cell? ⟨w.heap.size, 0, none⟩ = some v
  n : w'.cell? ⟨w.heap.size + 1, 0, none⟩ = some (.int .i64 n)

/-- The two numbers of a pair, in whatever later world. -/
theorem pair_cells {w W : World} {N b o m : Nat} {xs : List Int} (hbs : 0 < xs.length → b < w.heap.size) (hcs : ∀ i (h : i < xs.length), w.cell? ⟨b, o + i, none⟩ = some (.int .i64 xs[i]))
    (hB : Below N w W) (hN : w.heap.size ≤ N) (hxm : xs.length = 2 * m) (x : Fin m) :
    W.cell? ⟨b, o + x.1 * 2, none⟩ = some (.int .i64 (nth xs (2 * x.1))) ∧ W.cell? ⟨b, o + x.1 * 2 + 1, none⟩ = some (.int .i64 (nth xs (2 * x.1 + 1))) := by
  have hx := x.2
  have h0 := hbs (by omega)
  refine ⟨?_, ?_⟩
  · rw [hB.cell (p := ⟨b, o + x.1 * 2, none⟩) (show b < N by omega), Nat.mul_comm x.1 2, hcs _ (by omega), nth_eq (by omega)]
  · rw [hB.cell (p := ⟨b, o + x.1 * 2 + 1, none⟩) (show b < N by omega), Nat.mul_comm x.1 2, Nat.add_assoc, hcs _ (by omega), nth_eq (by omega)]

/-- The elements that come: the j-th chunk. -/
def chunkAt (b off n : Nat) (j : Nat) : Value := .slice (some ⟨b, off + j * n, none⟩) n n

theorem hmul (n m j : Nat) (h : j < m) : j * n + n ≤ n * m := by
  have := Nat.mul_le_mul_right n (show j + 1 ≤ m from h)
  rw [Nat.add_mul, Nat.one_mul, Nat.mul_comm m n] at this
  exact this

/-- What a round over slices.Chunk must keep: the two boxes of the iterator. -/
structure Keep2 (Bs Bn : Nat) (W W' : World) : Prop where
  s : W'.heap[Bs]? = W.heap[Bs]?
  n : W'.heap[Bn]? = W.heap[Bn]?

theorem Keep2.refl (Bs Bn : Nat) (W : World) : Keep2 Bs Bn W W := ⟨rfl, rfl⟩
theorem Keep2.trans {Bs Bn : Nat} {A B C : World} (h : Keep2 Bs Bn A B) (k : Keep2 Bs Bn B C) : Keep2 Bs Bn A C := ⟨k.s.trans h.s, k.n.trans h.n⟩
theorem Keep2.below {Bs Bn N : Nat} {A B C : World} (h : Keep2 Bs Bn A B) (k : Below N B C) (h1 : Bs < N) (h2 : Bn < N) : Keep2 Bs Bn A C := h.trans ⟨k.block _ h1, k.block _ h2⟩
theorem Keep2.drewN {Bs Bn : Nat} {A B : World} (h : Keep2 Bs Bn A B) (q : Nat) : Keep2 Bs Bn A (B.drewN q) := h.trans ⟨rfl, rfl⟩
theorem Keep2.drew {Bs Bn : Nat} {A B : World} (h : Keep2 Bs Bn A B) : Keep2 Bs Bn A B.drew := h.trans ⟨rfl, rfl⟩
theorem Keep2.setCell {Bs Bn : Nat} {A B : World} (h : Keep2 Bs Bn A B) {p : Addr} (h1 : Bs ≠ p.block) (h2 : Bn ≠ p.block) (v : Value) : Keep2 Bs Bn A (B.setCell p v) :=
  h.trans ⟨Below.heap_setCell _ _ _ _ h1, Below.heap_setCell _ _ _ _ h2⟩
theorem Keep2.alloc {Bs Bn : Nat} {A B : World} (h : Keep2 Bs Bn A B) (h1 : Bs < B.heap.size) (h2 : Bn < B.heap.size) (o : Obj) : Keep2 Bs Bn A (B.alloc o) :=
  h.trans ⟨Below.heap_alloc _ _ _ h1, Below.heap_alloc _ _ _ h2⟩
theorem Keep2.grown {Bs Bn : Nat} {A B C : World} {row : Option Nat} (h : Keep2 Bs Bn A B) (g : B.grownBy C row) (h1 : Bs < B.heap.size) (h2 : Bn < B.heap.size) (h3 : some Bs ≠ row) (h4 : some Bn ≠ row) : Keep2 Bs Bn A C :=
  h.trans ⟨g.block _ h1 h3, g.block _ h2 h4⟩
theorem Keep2.cell {Bs Bn : Nat} {A B : World} (h : Keep2 Bs Bn A B) : B.cell? ⟨Bs, 0, none⟩ = A.cell? ⟨Bs, 0, none⟩ ∧ B.cell? ⟨Bn, 0, none⟩ = A.cell? ⟨Bn, 0, none⟩ :=
  ⟨World.cell?_of_block h.s, World.cell?_of_block h.n⟩

theorem min_eq (n r : Nat) (h : n ≤ r) : (if (n : Int) < (r : Int) then (n : Int) else (r : Int)) = (n : Int) := by
  split <;> omega

theorem keep2_b {Bs Bn : Nat} {w : World} (h1 : Bs < w.heap.size) (h2 : Bn < w.heap.size) (W : World) (l : Nat) (o o' : Obj) (hl : w.heap.size ≤ l) (_ : W.heap[l]? = some o) (_ : o.isCells = false) (_ : o.isWalk = false) : Keep2 Bs Bn W (W.putObj l o') :=
  ⟨World.putObj_heap_other (by omega), World.putObj_heap_other (by omega)⟩

/-! Small words on what such a loop keeps. -/
theorem _root_.Go.KeepsFrom.below {B N : Nat} {A W W' : World} (h : KeepsFrom B A W) (k : Below N W W') (hN : W.heap.size ≤ N) : KeepsFrom B A W' :=
  h.trans ⟨k.size, fun i o _ hi _ => (k.block i (by have := (Array.getElem?_eq_some_iff.1 hi).1; omega)).trans hi⟩
theorem _root_.Go.KeepsFrom.drewN {B : Nat} {A W : World} (h : KeepsFrom B A W) (q : Nat) : KeepsFrom B A (W.drewN q) := h.trans ⟨Nat.le_refl _, fun _ _ _ hi _ => hi⟩
theorem _root_.Go.KeepsFrom.drew {B : Nat} {A W : World} (h : KeepsFrom B A W) : KeepsFrom B A W.drew := h.trans ⟨Nat.le_refl _, fun _ _ _ hi _ => hi⟩
theorem _root_.Go.KeepsFrom.setCell {B : Nat} {A W : World} (h : KeepsFrom B A W) (p : Addr) (v : Value) : KeepsFrom B A (W.setCell p v) := h.trans ((KeepsOthers.setCell W p v).from B)
theorem _root_.Go.KeepsFrom.alloc {B : Nat} {A W : World} (h : KeepsFrom B A W) (o : Obj) : KeepsFrom B A (W.alloc o) := h.trans ((KeepsOthers.alloc W o).from B)
theorem ownFrom_cell {β : Type} (B : Nat) (p : β → Addr) (v : β → Value) : OwnFrom B (fun s W => W.cell? (p s) = some (v s)) :=
  fun s A B' row hs hg hr => cell_kept hs hg (fun r e => (hr r e).2)
theorem ownFrom_frozen {β : Type} (B : Nat) (p : β → Addr) (v : β → Value) (b : β → Bool) : OwnFrom B (fun s W => W.cell? (p s) = some (v s) ∧ W.frozen? (p s) = b s) :=
  fun s A B' row hs hg hr => ⟨cell_kept hs.1 hg (fun r e => (hr r e).2), (frozen_kept hs.1 hg (fun r e => (hr r e).2)).trans hs.2⟩
theorem ownFrom_boxed {β : Type} (N B : Nat) (t : TypeId) (v : β → Value) : OwnFrom N (fun s W => Boxed W B t (v s)) := (boxed_own B t v).from N

/-- The end of a function that holds one loop over an iterator. -/
theorem bodyM_ret {P : Program} {n : Nat} {fn : Func} {R : Ending → World → Prop} {a : Act} {W : World} {D : Nat} {v : Value} (hd : a.defers = [{ target := .collected D, args := #[] }]) (hK : W.heap[D]? = some (.deferred (some [])))
    (hres : (results fn a.tmps).run P (W.putObj D (.deferred none)) = .ok v (W.putObj D (.deferred none))) (hR : R (.returned v) (W.putObj D (.deferred none))) : bodyPostM Fence.wide n P fn R .ret a W := by
  show LeavesInM Fence.wide n P fn a.tmps R a.defers .returning W
  rw [hd]
  exact ⟨by simp, .inl ⟨_, _, rfl, run_takeDeferred hK, v, hres, hR⟩⟩

theorem below_putObj {N D : Nat} {w W : World} {o o' : Obj} (h : Below N w W) (hN : N ≤ D) (hD : W.heap[D]? = some o) : Below N w (W.putObj D o') :=
  h.trans ⟨rfl, rfl, rfl, by simp [World.putObj], fun k hk => World.putObj_heap_other (by omega)⟩

theorem boxed_putObj {W : World} {B D : Nat} {t : TypeId} {v : Value} {o' : Obj} (h : Boxed W B t v) (hD : W.heap[D]? = some (.deferred (some []))) : Boxed (W.putObj D o') B t v := by
  have hne : B ≠ D := fun e => by subst e; have h1 : W.heap[B]? = some (.cells #[v] t (0, 0)) := h; rw [h1] at hD; cases hD
  exact (World.putObj_heap_other hne).trans h

theorem kept_setCell {W : World} {D : Nat} {p : Addr} {v : Value} (hK : W.heap[D]? = some (.deferred (some []))) : (W.setCell p v).heap[D]? = some (.deferred (some [])) :=
  (KeepsOthers.setCell W p v).same D _ hK rfl

/-- A chunk reads as its part of the list, in whatever later world. -/
theorem chunk_ints {w W : World} {N b o n j : Nat} {xs : List Int} (hbs : 0 < xs.length → b < w.heap.size) (hcs : ∀ i (h : i < xs.length), w.cell? ⟨b, o + i, none⟩ = some (.int .i64 xs[i]))
    (hB : Below N w W) (hN : w.heap.size ≤ N) (hj : j * n + n ≤ xs.length) (hsm : n ≤ 1048576) : Ints W (chunkAt b o n j) ((xs.drop (j * n)).take n) := by
  have hlen : ((xs.drop (j * n)).take n).length = n := by simp; omega
  refine ⟨by unfold maxLen; omega, some ⟨b, o + j * n, none⟩, n, by rw [hlen]; rfl, by omega, fun i hi => ⟨b, o + j * n, rfl, ?_, ?_⟩⟩
  · have h0 := hbs (by omega); have := hB.size; omega
  · rw [hlen] at hi
    have h0 := hbs (by omega)
    rw [hB.cell (p := ⟨b, o + j * n + i, none⟩) (show b < N by omega), Nat.add_assoc, hcs _ (by omega)]
    simp
end Go.Proofs.Ythkakieomoobmaa

namespace Go.Proofs.Ythkakieomoobmaa
open Go.RowKit
set_option linter.unusedVariables false
set_option linter.unusedSimpArgs false

def marks (k : Int) (n : Nat) : List Int := (List.range n).map fun (i : Nat) => k + (i : Int)
theorem marks_length (k : Int) (n : Nat) : (marks k n).length = n := by simp [marks]
theorem marks_get (k : Int) (n i : Nat) (h : i < (marks k n).length) : (marks k n)[i] = k + i := by simp [marks]

/-- What stands when j marks have been laid. -/
def markTo (k : Int) (xs : List Int) (j : Nat) : List Int := marks k j ++ xs.drop j
theorem markTo_length (k : Int) (xs : List Int) (j : Nat) (h : j ≤ xs.length) : (markTo k xs j).length = xs.length := by simp [markTo, marks_length]; omega
theorem markTo_set (k : Int) (xs : List Int) (j : Nat) (h : j < xs.length) : (markTo k xs j).set j (k + j) = markTo k xs (j + 1) := by
  unfold markTo
  apply List.ext_getElem
  · simp [marks_length]; omega
  · intro i h1 h2
    have h1' : i < xs.length := by simp [marks_length] at h1; omega
    rw [List.getElem_set]
    split
    · rename_i e; subst e
      rw [List.getElem_append_left (by rw [marks_length]; omega), marks_get]
    · rename_i e
      by_cases h3 : i < j
      · rw [List.getElem_append_left (by rw [marks_length]; omega), List.getElem_append_left (by rw [marks_length]; omega), marks_get, marks_get]
      · rw [List.getElem_append_right (by rw [marks_length]; omega), List.getElem_append_right (by rw [marks_length]; omega)]
        simp only [marks_length, List.getElem_drop]
        congr 1; omega

/-- A store into a row of the call's own. -/
theorem OwnI.store {w : World} {N g n c : Nat} {xs : List Int} (h : OwnI w N (.slice (some ⟨g, 0, none⟩) n c) xs) (hn : n = xs.length) (j : Nat) (hj : j < xs.length) (y : Int) :
    w.cell? ⟨g, j, none⟩ = some (.int .i64 xs[j]) ∧ w.frozen? ⟨g, j, none⟩ = false ∧ OwnI (w.setCell ⟨g, j, none⟩ (.int .i64 y)) N (.slice (some ⟨g, 0, none⟩) n c) (xs.set j y) ∧ w.grownBy (w.setCell ⟨g, j, none⟩ (.int .i64 y)) (some g) := by
  subst hn
  have h' : w.ownsRow N 2 1 (.slice (some ⟨g, 0, none⟩) xs.length c) xs.length (xs.map (Value.int .i64)) := h
  obtain ⟨h1, h2⟩ := h'.stored j (.int .i64 y)
  refine ⟨?_, h'.frozenAt j, ?_, h2⟩
  · rw [h'.cellAt j (by omega), List.getElem?_map, List.getElem?_eq_getElem hj]; rfl
  · unfold OwnI
    rw [List.length_set, List.map_set]; exact h1

theorem OwnI.at_ {w : World} {N g n c : Nat} {xs : List Int} (h : OwnI w N (.slice (some ⟨g, 0, none⟩) n c) xs) (hn : n = xs.length) (j : Nat) (hj : j < xs.length) : w.cell? ⟨g, j, none⟩ = some (.int .i64 (nth xs j)) := by
  rw [nth_eq hj]; exact (h.store hn j hj 0).1

theorem grownBy_refl (w : World) (row : Option Nat) : w.grownBy w row := ⟨rfl, rfl, rfl, Nat.le_refl _, fun _ _ _ => rfl⟩
theorem grownBy_trans {a b c : World} {row : Option Nat} (h : a.grownBy b row) (k : b.grownBy c row) : a.grownBy c row :=
  ⟨k.os.trans h.os, k.tape.trans h.tape, k.output.trans h.output, Nat.le_trans h.size k.size, fun i hi hne => (k.block i (by have := h.size; omega) hne).trans (h.block i hi hne)⟩

theorem OwnI.nil_or {w : World} {N : Nat} {v : Value} {xs : List Int} (h : OwnI w N v xs) : (v = .slice none 0 0 ∧ xs = []) ∨ ∃ g c, v = .slice (some ⟨g, 0, none⟩) xs.length c := by
  rcases h.2 with ⟨h1, h2⟩ | ⟨g, cap, cur, h1, _⟩
  · exact .inl ⟨h1, List.eq_nil_of_length_eq_zero h2⟩
  · exact .inr ⟨g, cap, h1⟩

/-- A slice of the call's own whose block lies below hi. -/
structure Own2 (w : World) (lo hi : Nat) (v : Value) (xs : List Int) : Prop where
  own : OwnI w lo v xs
  hi : ∀ k, v.ownBlock = some k → k < hi
theorem Own2.of {w : World} {lo : Nat} {v : Value} {xs : List Int} (h : OwnI w lo v xs) : Own2 w lo w.heap.size v xs := ⟨h, fun k hk => (h.lt k hk).2⟩
theorem Own2.below {w w' : World} {lo hi : Nat} {v : Value} {xs : List Int} (h : Own2 w lo hi v xs) (hb : Below w.heap.size w w') : Own2 w' lo hi v xs := ⟨h.own.below hb (Nat.le_refl _), h.hi⟩
theorem Own2.grown {w w' : World} {lo hi lo' hi' : Nat} {v u : Value} {xs ys : List Int} (h : Own2 w lo hi v xs) (k : Own2 w lo' hi' u ys) (hg : w.grownBy w' u.ownBlock) (hd : hi ≤ lo' ∨ hi' ≤ lo) : Own2 w' lo hi v xs := by
  refine ⟨h.own.kept hg ?_, h.hi⟩
  cases hv : v.ownBlock with
  | none => exact .inl rfl
  | some j =>
    refine .inr (fun e => ?_)
    have h1 := h.own.lt j hv
    have h2 := h.hi j hv
    have h3 := k.own.lt j e.symm
    have h4 := k.hi j e.symm
    omega
theorem Own2.marked {w w' : World} {lo hi : Nat} {v : Value} {xs ys : List Int} (h : Own2 w lo hi v xs) (k : OwnI w' lo v ys) : Own2 w' lo hi v ys := ⟨k, h.hi⟩
theorem Own2.ints {w : World} {lo hi : Nat} {v : Value} {xs : List Int} (h : Own2 w lo hi v xs) : Ints w v xs := h.own.ints
theorem Below.marked {B : Nat} {w W W' : World} {lo hi : Nat} {v : Value} {xs : List Int} (h : Below B w W) (k : Own2 W lo hi v xs) (hg : W.grownBy W' v.ownBlock) (hlo : B ≤ lo) (hB : B ≤ W.heap.size) : Below B w W' :=
  h.grown hg hB (fun j e => by have := (k.own.lt j e).1; omega)
end Go.Proofs.Ythkakieomoobmaa

namespace Go.Proofs.Ythkakieomoobmaa
open Go.RowKit
set_option linter.unusedVariables false
set_option linter.unusedSimpArgs false

theorem OwnI.block {W : World} {N g n c : Nat} {ys : List Int} (h : OwnI W N (.slice (some ⟨g, 0, none⟩) n c) ys) : ∃ cur, W.heap[g]? = some (.cells cur 2 (0, 0)) := by
  rcases h.2 with ⟨h1, _⟩ | ⟨g', cap, cur, h1, _, h2, _⟩
  · cases h1
  · obtain ⟨rfl, _⟩ : g = g' ∧ True := by
      simp at h1; exact ⟨h1.1, trivial⟩
    exact ⟨cur, h2⟩
theorem OwnI.ne_box {W : World} {N g n c b : Nat} {t : TypeId} {u : Value} {ys : List Int} (h : OwnI W N (.slice (some ⟨g, 0, none⟩) n c) ys) (hb : Boxed W b t u) (ht : t ≠ 2) : b ≠ g := by
  rintro rfl
  obtain ⟨cur, h1⟩ := h.block
  have h2 : W.heap[b]? = some (.cells #[u] t (0, 0)) := hb
  rw [h1] at h2
  injection h2 with h2
  injection h2 with _ h3
  exact ht h3.symm

theorem far_cell {w w' : World} {row : Option Nat} (h : w.grownBy w' row) {p : Addr} (hp : p.block < w.heap.size) (hne : some p.block ≠ row) : w'.cell? p = w.cell? p := World.cell?_of_block (h.block _ hp hne)

structure GrownL (gs : List Nat) (A W : World) : Prop where
  os : W.os = A.os
  tape : W.tape = A.tape
  output : W.output = A.output
  size : A.heap.size ≤ W.heap.size
  block : ∀ i, i < A.heap.size → i ∉ gs → W.heap[i]? = A.heap[i]?

theorem GrownL.refl (gs : List Nat) (A : World) : GrownL gs A A := ⟨rfl, rfl, rfl, Nat.le_refl _, fun _ _ _ => rfl⟩
theorem GrownL.trans {gs : List Nat} {A B C : World} (h : GrownL gs A B) (k : GrownL gs B C) : GrownL gs A C :=
  ⟨k.os.trans h.os, k.tape.trans h.tape, k.output.trans h.output, Nat.le_trans h.size k.size, fun i hi hn => (k.block i (Nat.lt_of_lt_of_le hi h.size) hn).trans (h.block i hi hn)⟩
theorem GrownL.grown {gs : List Nat} {A W W' : World} {row : Option Nat} (h : GrownL gs A W) (k : W.grownBy W' row) (hr : ∀ j, row = some j → j ∈ gs ∨ A.heap.size ≤ j) : GrownL gs A W' :=
  ⟨k.os.trans h.os, k.tape.trans h.tape, k.output.trans h.output, Nat.le_trans h.size k.size, fun i hi hn => (k.block i (Nat.lt_of_lt_of_le hi h.size) (fun e => by
    rcases hr i e.symm with h1 | h1
    · exact hn h1
    · omega)).trans (h.block i hi hn)⟩
theorem GrownL.below {gs : List Nat} {A W W' : World} {N : Nat} (h : GrownL gs A W) (k : Below N W W') (hN : A.heap.size ≤ N) : GrownL gs A W' :=
  ⟨k.os.trans h.os, k.tape.trans h.tape, k.output.trans h.output, Nat.le_trans h.size k.size, fun i hi hn => (k.block i (by omega)).trans (h.block i hi hn)⟩
theorem GrownL.drewN {gs : List Nat} {A W : World} (h : GrownL gs A W) (q : Nat) : GrownL gs A (W.drewN q) := ⟨h.os, h.tape, h.output, h.size, h.block⟩
theorem GrownL.drew {gs : List Nat} {A W : World} (h : GrownL gs A W) : GrownL gs A W.drew := ⟨h.os, h.tape, h.output, h.size, h.block⟩
theorem GrownL.setCell {gs : List Nat} {A W : World} (h : GrownL gs A W) (p : Addr) (v : Value) (hp : p.block ∈ gs ∨ A.heap.size ≤ p.block) : GrownL gs A (W.setCell p v) :=
  ⟨h.os, h.tape, h.output, by rw [World.size_setCell]; exact h.size, fun i hi hn => (Below.heap_setCell _ _ _ _ (fun e => by
    rcases hp with h1 | h1
    · rw [e] at hn; exact hn h1
    · omega)).trans (h.block i hi hn)⟩
theorem GrownL.alloc {gs : List Nat} {A W : World} (h : GrownL gs A W) (o : Obj) : GrownL gs A (W.alloc o) :=
  ⟨h.os, h.tape, h.output, by simp; have := h.size; omega, fun i hi hn => (Below.heap_alloc _ _ _ (Nat.lt_of_lt_of_le hi h.size)).trans (h.block i hi hn)⟩
theorem GrownL.boxed {gs : List Nat} {A W : World} (h : GrownL gs A W) {b : Nat} {t : TypeId} {v : Value} (hb : Boxed A b t v) (hn : b ∉ gs) : Boxed W b t v := by
  have h0 : A.heap[b]? = some (.cells #[v] t (0, 0)) := hb
  exact (h.block b (Array.getElem?_eq_some_iff.1 h0).1 hn).trans h0
theorem GrownL.cell {gs : List Nat} {A W : World} (h : GrownL gs A W) {p : Addr} (hp : p.block < A.heap.size) (hn : p.block ∉ gs) : W.cell? p = A.cell? p := World.cell?_of_block (h.block _ hp hn)
theorem GrownL.toBelow {gs : List Nat} {A W w : World} {N : Nat} (h : GrownL gs A W) (hb : Below N w A) (hN : N ≤ A.heap.size) (hg : ∀ i, i < N → i ∉ gs) : Below N w W :=
  ⟨h.os.trans hb.os, h.tape.trans hb.tape, h.output.trans hb.output, Nat.le_trans hb.size h.size, fun k hk => (h.block k (by omega) (hg k hk)).trans (hb.block k hk)⟩
theorem cell_far {w : World} {p q : Addr} {u v : Value} (k : Nat) (h : p.block ≠ q.block) (hc : w.cell? p = some v) : ((w.drewN k).setCell q u).cell? p = some v :=
  (World.cell?_of_block (w := w.drewN k) (Below.heap_setCell _ _ _ _ h)).trans hc
theorem GrownL.own {gs : List Nat} {A W : World} (h : GrownL gs A W) {N g n c : Nat} {ys : List Int} (ho : OwnI A N (.slice (some ⟨g, 0, none⟩) n c) ys) (hn : g ∉ gs) : OwnI W N (.slice (some ⟨g, 0, none⟩) n c) ys := by
  refine ⟨ho.1, ?_⟩
  rcases ho.2 with h1 | ⟨g', cap, cur, h1, h2, h3, r⟩
  · exact .inl h1
  · refine .inr ⟨g', cap, cur, h1, h2, ?_, r⟩
    obtain ⟨rfl⟩ : g = g' := by simp at h1; exact h1.1
    exact (h.block g (Array.getElem?_eq_some_iff.1 h3).1 hn).trans h3
end Go.Proofs.Ythkakieomoobmaa

namespace Go.Proofs.Ythkakieomoobmaa
open Go.RowKit Go.Shelf
set_option linter.unusedVariables false
set_option linter.unusedSimpArgs false

/-- Box b holds a slice that owns its cells, and these are ys. -/
def OwnBox (W : World) (b N : Nat) (ys : List Int) : Prop := ∃ g c, Boxed W b 29 (.slice (some ⟨g, 0, none⟩) ys.length c) ∧ OwnI W N (.slice (some ⟨g, 0, none⟩) ys.length c) ys

theorem ownFrom_ownBox {β : Type} (B b N : Nat) (f : β → List Int) : OwnFrom B (fun s W => OwnBox W b N (f s)) := by
  rintro s W W' row ⟨g, c, h1, h2⟩ hg hr
  refine ⟨g, c, (ownFrom_boxed B b _ (fun (_ : β) => Value.slice (some ⟨g, 0, none⟩) (f s).length c)) s W W' row h1 hg hr, h2.kept hg (.inr ?_)⟩
  intro e
  obtain ⟨_, o, ho, hc⟩ := hr g e.symm
  obtain ⟨cur, hcur⟩ := h2.block
  rw [ho] at hcur
  cases hcur
  cases hc


theorem ownFrom_sz {β : Type} (B n : Nat) : OwnFrom B (fun (_ : β) W => n ≤ W.heap.size) := fun s W W' row hs hg hr => Nat.le_trans hs hg.size

end Go.Proofs.Ythkakieomoobmaa

namespace Go.Proofs.Ythkakieomoobmaa
open Go.RowKit Go.Shelf
set_option linter.unusedVariables false
set_option linter.unusedSimpArgs false

theorem GrownL.keep2 {gs : List Nat} {A W : World} (h : GrownL gs A W) {Bs Bn : Nat} (h1 : Bs < A.heap.size) (h2 : Bn < A.heap.size) (n1 : Bs ∉ gs) (n2 : Bn ∉ gs) : Keep2 Bs Bn A W := ⟨h.block _ h1 n1, h.block _ h2 n2⟩
theorem GrownL.keepsFrom {gs : List Nat} {A W : World} (h : GrownL gs A W) {B : Nat} (hB : ∀ i, B ≤ i → i ∉ gs) : KeepsFrom B A W :=
  ⟨h.size, fun k o hk ho _ => (h.block k (Array.getElem?_eq_some_iff.1 ho).1 (hB k hk)).trans ho⟩
theorem ownFrom_grownL {β : Type} {B : Nat} {gs : List Nat} {A : World} (hA : A.heap.size ≤ B) : OwnFrom B (fun (_ : β) W => GrownL gs A W) :=
  fun s W W' row hs hg hr => hs.grown hg (fun j e => .inr (by have := (hr j e).1; omega))
theorem ownFrom_ownI {β : Type} {B N g n c : Nat} (f : β → List Int) : OwnFrom B (fun s W => OwnI W N (.slice (some ⟨g, 0, none⟩) n c) (f s)) := by
  intro s W W' row h2 hg hr
  refine h2.kept hg (.inr ?_)
  intro e
  obtain ⟨_, o, ho, hc⟩ := hr g e.symm
  obtain ⟨cur, hcur⟩ := h2.block
  rw [ho] at hcur
  cases hcur
  cases hc
end Go.Proofs.Ythkakieomoobmaa
