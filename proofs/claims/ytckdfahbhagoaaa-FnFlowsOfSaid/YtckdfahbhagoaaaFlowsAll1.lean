/- Two machines: Johnson's order ends no later than any other one. Plain law. Conditions: times of at least 0. With texts that it needs. -/
import Derived.Test.YtckdfahbhagoaaaProg
import Derived.WalkKit
import Derived.WalkSpells
import Derived.WalkLawsBesides
import Derived.Lib.Hide
import Derived.Deep.QuietTactic
import Derived.BigQuiet
import Derived.Sort.BigQuietIn
import Derived.RangeFuncNested
import Derived.OwnWalkIn
import Derived.Maps.AppendAt
namespace Go.Proofs.Ytckdfahbhagoaaa
open Go.RowKit
set_option linter.unusedVariables false
set_option linter.unusedSimpArgs false

/-- The slice value v reads as the list xs, an element a cell. -/
def Sl {α : Type} (enc : α → Value) (w : World) (v : Value) (xs : List α) : Prop :=
  xs.length ≤ maxLen ∧ ∃ a c, v = .slice a xs.length c ∧ xs.length ≤ c ∧ ∀ i (h : i < xs.length), ∃ b o, a = some ⟨b, o, none⟩ ∧ b < w.heap.size ∧ w.cell? ⟨b, o + i, none⟩ = some (enc xs[i])

/-- The slice value v reads as the integers xs. -/
abbrev Ints (w : World) (v : Value) (xs : List Int) : Prop := Sl (Value.int .i64) w v xs

theorem lt_of_cell {w : World} {a : Addr} {v : Value} (h : w.cell? a = some v) : a.block < w.heap.size := World.block_lt_of_cell? w a h

theorem Sl.below {α : Type} {enc : α → Value} {w w' : World} {v : Value} {xs : List α} {B : Nat} (h : Sl enc w v xs) (hb : Below B w w') (hB : w.heap.size ≤ B) : Sl enc w' v xs := by
  obtain ⟨hm, a, c, hv, hcap, hc⟩ := h
  refine ⟨hm, a, c, hv, hcap, fun i hi => ?_⟩
  obtain ⟨b, o, ha, hbs, hcell⟩ := hc i hi
  exact ⟨b, o, ha, by have := hb.size; omega, (hb.cell (p := ⟨b, o + i, none⟩) (by show b < B; omega)).trans hcell⟩

/-- The place of a slice's cells, whether or not there is one. -/
theorem row_at {α : Type} {enc : α → Value} {w : World} {a : Option Addr} {xs : List α}
    (hc : ∀ i (h : i < xs.length), ∃ b o, a = some ⟨b, o, none⟩ ∧ b < w.heap.size ∧ w.cell? ⟨b, o + i, none⟩ = some (enc xs[i])) :
    ∃ b o, (0 < xs.length → a = some ⟨b, o, none⟩) ∧ (0 < xs.length → b < w.heap.size) ∧ ∀ i (h : i < xs.length), w.cell? ⟨b, o + i, none⟩ = some (enc xs[i]) := by
  by_cases h : 0 < xs.length
  · obtain ⟨b, o, ha, hb, _⟩ := hc 0 h
    refine ⟨b, o, fun _ => ha, fun _ => hb, fun i hi => ?_⟩
    obtain ⟨b', o', ha', _, hcell⟩ := hc i hi
    rw [ha] at ha'
    obtain ⟨rfl, rfl⟩ : b = b' ∧ o = o' := by simpa using ha'
    exact hcell
  · exact ⟨0, 0, fun h' => absurd h' h, fun h' => absurd h' h, fun i hi => by omega⟩

theorem Sl.drew {α : Type} {enc : α → Value} {w : World} {v : Value} {xs : List α} (h : Sl enc w v xs) : Sl enc w.drew v xs := h.below (B := w.heap.size) (Below.refl _ _).drew (Nat.le_refl _)

theorem below_drewN {B : Nat} {a w : World} (n : Nat) (h : Below B a w) : Below B a (w.drewN n) := ⟨h.os, h.tape, h.output, h.size, h.block⟩

/-- What a slice of integers that came in (a row's argument) reads as. -/
theorem ints_of_row {w : World} {a : Option Addr} {len cap : Nat} {zs : List Int}
    (h : (a = none ∧ len = 0 ∧ cap = 0 ∧ zs = []) ∨
      ∃ x, a = some x ∧ len ≤ cap ∧ cap ≤ maxLen ∧ zs.length = cap ∧ (∀ i, i < zs.length → w.cell? (x.add i) = some (.int .i64 (zs.getD i 0))) ∧ ∀ n ∈ zs, (Lit.int .i64 n).wf = true) :
    Ints w (.slice a len cap) (zs.take len) ∧ (∀ n ∈ zs.take len, (Lit.int .i64 n).wf = true) ∧ (zs.take len).length = len := by
  rcases h with ⟨rfl, rfl, rfl, rfl⟩ | ⟨x, rfl, hl, hm, hz, hc, hw⟩
  · exact ⟨⟨Nat.zero_le _, none, 0, rfl, Nat.zero_le _, fun i hi => by simp at hi⟩, by simp, rfl⟩
  · have hlen : (zs.take len).length = len := by simp; omega
    refine ⟨⟨by omega, some x, cap, by rw [hlen], by omega, fun i hi => ?_⟩, fun n hn => hw n (List.mem_of_mem_take hn), hlen⟩
    have h0 := hc 0 (by omega)
    have hx : x.spot = none := by
      have : x.add 0 = x := by simp [Addr.add]
      rw [this] at h0
      unfold World.cell? at h0
      cases hs : x.spot with
      | none => rfl
      | some s => rw [hs] at h0; split at h0 <;> simp at h0
    obtain ⟨b, o, s⟩ := x
    subst hx
    have hci := hc i (by omega)
    have hadd : (⟨b, o, none⟩ : Addr).add i = ⟨b, o + i, none⟩ := by
      by_cases h : i = 0
      · subst h; rfl
      · simp [Addr.add, h]
    rw [hadd] at hci
    refine ⟨b, o, rfl, lt_of_cell hci, ?_⟩
    rw [hci]
    simp [List.getD_eq_getElem?_getD, List.getElem?_eq_getElem (show i < zs.length by omega)]

/-- What a slice of bytes that came in reads as. -/
abbrev Byts (w : World) (v : Value) (xs : List Int) : Prop := Sl (Value.int .u8) w v xs
theorem bytes_of_row {w : World} {a : Option Addr} {len cap : Nat} {zs : List Int}
    (h : (a = none ∧ len = 0 ∧ cap = 0 ∧ zs = []) ∨
      ∃ x, a = some x ∧ len ≤ cap ∧ cap ≤ maxLen ∧ zs.length = cap ∧ (∀ i, i < zs.length → w.cell? (x.add i) = some (.int .u8 (zs.getD i 0))) ∧ ∀ n ∈ zs, (Lit.int .u8 n).wf = true) :
    Byts w (.slice a len cap) (zs.take len) ∧ (∀ n ∈ zs.take len, (Lit.int .u8 n).wf = true) ∧ (zs.take len).length = len := by
  rcases h with ⟨rfl, rfl, rfl, rfl⟩ | ⟨x, rfl, hl, hm, hz, hc, hw⟩
  · exact ⟨⟨Nat.zero_le _, none, 0, rfl, Nat.zero_le _, fun i hi => by simp at hi⟩, by simp, rfl⟩
  · have hlen : (zs.take len).length = len := by simp; omega
    refine ⟨⟨by omega, some x, cap, by rw [hlen], by omega, fun i hi => ?_⟩, fun n hn => hw n (List.mem_of_mem_take hn), hlen⟩
    have h0 := hc 0 (by omega)
    have hx : x.spot = none := by
      have : x.add 0 = x := by simp [Addr.add]
      rw [this] at h0
      unfold World.cell? at h0
      cases hs : x.spot with
      | none => rfl
      | some s => rw [hs] at h0; split at h0 <;> simp at h0
    obtain ⟨b, o, s⟩ := x
    subst hx
    have hci := hc i (by omega)
    have hadd : (⟨b, o, none⟩ : Addr).add i = ⟨b, o + i, none⟩ := by
      by_cases h : i = 0
      · subst h; rfl
      · simp [Addr.add, h]
    rw [hadd] at hci
    refine ⟨b, o, rfl, lt_of_cell hci, ?_⟩
    rw [hci]
    simp [List.getD_eq_getElem?_getD, List.getElem?_eq_getElem (show i < zs.length by omega)]

/-- An owned row of integers reads as them. -/
theorem ints_of_own {w : World} {base : Nat} {e : TypeId} {v : Value} {n : Nat} {xs : List Int} (h : w.ownsRow base e 1 v n (xs.map (Value.int .i64))) : Ints w v xs := by
  have hn : xs.length = n := by have := h.1; simpa using this
  subst hn
  rcases h.2 with ⟨rfl, h0⟩ | ⟨g, cap, cur, rfl, hg, hh, hc, hm, hcs, ht⟩
  · exact ⟨by omega, none, 0, by rw [h0], by omega, fun i hi => by omega⟩
  · refine ⟨by omega, _, cap, rfl, by omega, fun i hi => ⟨g, 0, rfl, (Array.getElem?_eq_some_iff.1 hh).1, ?_⟩⟩
    have := h.cellAt (g := g) (cap := cap) i (by omega)
    rw [Nat.zero_add, this]
    simp [hi]

/-- The k-th number. -/
def nth (xs : List Int) (k : Nat) : Int := xs.getD k 0
theorem nth_eq {xs : List Int} {k : Nat} (h : k < xs.length) : nth xs k = xs[k] := by simp [nth, List.getD_eq_getElem?_getD, List.getElem?_eq_getElem h]

theorem finRange_val (m : Nat) : (List.finRange m).map (·.1) = List.range m := by
  apply List.ext_getElem <;> simp

theorem wf_u8_iff {n : Int} : (Lit.int .u8 n).wf = true ↔ 0 ≤ n ∧ n ≤ 255 := by
  simp [Lit.wf, IntKind.min, IntKind.max, IntKind.signed, IntKind.bits]

/-- In the range. -/
def win (n lo hi : Int) : Bool := decide (lo ≤ n) && decide (n ≤ hi)
theorem win_true {n lo hi : Int} : win n lo hi = true ↔ lo ≤ n ∧ n ≤ hi := by simp [win]
theorem win_false {n lo hi : Int} : win n lo hi = false ↔ n < lo ∨ hi < n := by simp [win]; omega

/-- A contract that leaves the world alone, met in a quiet region. -/
theorem quiet_eq {P : Program} {f : FuncId} {args : Array Value} {w : World} {n : Nat} {v : Value}
    (h : Calls P f args (w.drewN n) fun e w' => e = .returned v ∧ w.drewN n = w') : Calls P f args (w.drewN n) fun e w'' => e = .returned v ∧ ∃ m, w'' = w.drewN m :=
  h.mono fun _ _ ⟨he, hm⟩ => ⟨he, n, hm.symm⟩

theorem ret_int {k : IntKind} {a b : Int} (h : a = b) : Ending.returned (.int k a) = .returned (.int k b) := by rw [h]
theorem ret_bool {a b : Bool} (h : a = b) : Ending.returned (.bool a) = .returned (.bool b) := by rw [h]

theorem val_int {k : IntKind} {a b : Int} (h : a = b) : Value.int k a = .int k b := by rw [h]
theorem val_bool {a b : Bool} (h : a = b) : Value.bool a = .bool b := by rw [h]
theorem ret_val {a b : Value} (h : a = b) : Ending.returned a = .returned b := by rw [h]
theorem ret_t2 {a a' b b' : Value} (h1 : a = a') (h2 : b = b') : Ending.returned (.tuple #[a, b]) = .returned (.tuple #[a', b']) := by rw [h1, h2]
theorem ret_t3 {a a' b b' c c' : Value} (h1 : a = a') (h2 : b = b') (h3 : c = c') : Ending.returned (.tuple #[a, b, c]) = .returned (.tuple #[a', b', c']) := by rw [h1, h2, h3]

theorem wf_i64_iff {n : Int} : (Lit.int .i64 n).wf = true ↔ -9223372036854775808 ≤ n ∧ n ≤ 9223372036854775807 := by
  simp [Lit.wf, IntKind.min, IntKind.max, IntKind.signed, IntKind.bits]

theorem tmod_bounds (a : Int) {b : Int} (hb : 0 < b) : -b < a.tmod b ∧ a.tmod b < b := by
  have h1 := Int.tmod_lt_of_pos a hb
  refine ⟨?_, h1⟩
  rcases Int.le_total 0 a with h | h
  · have := Int.tmod_nonneg b h; omega
  · have h2 := Int.tmod_lt_of_pos (-a) hb
    rw [Int.neg_tmod] at h2; omega

end Go.Proofs.Ytckdfahbhagoaaa
-- Rows8

namespace Go.Proofs.Ytckdfahbhagoaaa
open Go.RowKit
set_option linter.unusedVariables false
set_option linter.unusedSimpArgs false

theorem within_any (n lo hi : Int) (w : World) : Calls Try.prog 48 #[.int .i64 n, .int .i64 lo, .int .i64 hi] w fun e w' => e = .returned (.bool (win n lo hi)) ∧ w = w' := by
  go_enter Try.func48, Try.ntmps48
  go_wp2
  all_goals
    go_ret
    refine ⟨?_, rfl⟩
    unfold win
    simp [*]
    try omega

end Go.Proofs.Ytckdfahbhagoaaa

namespace Go.Proofs.Ytckdfahbhagoaaa
open Go.RowKit
set_option linter.unusedVariables false
set_option linter.unusedSimpArgs false

theorem info_i64 : (Try.prog.info? 2).map (fun i => (i.zero, i.size, i.bytes)) = some (some (.int .i64 0), 1, 8) := by kernel_rfl

theorem take_set (xs : List Int) (k : Nat) (hk : k < xs.length) (m : Nat) (hm : xs.length = k + (m + 1)) :
    ((xs.take k ++ List.replicate (m + 1) 0).set k xs[k]) = xs.take (k + 1) ++ List.replicate m 0 := by
  apply List.ext_getElem
  · simp; omega
  · intro i h1 h2
    simp only [List.getElem_set]
    split
    · rename_i h; subst h; rw [List.getElem_append_left (by simp; omega)]; simp
    · rename_i h
      by_cases h3 : i < k
      · rw [List.getElem_append_left (by simp; omega), List.getElem_append_left (by simp; omega)]; simp
      · rw [List.getElem_append_right (by simp; omega), List.getElem_append_right (by simp; omega)]; simp

theorem areWithin_any (v : Value) (xs : List Int) (lo hi : Int) (w : World) (hv : Ints w v xs) :
    Calls Try.prog 51 #[v, .int .i64 lo, .int .i64 hi] w fun e w' => e = .returned (.bool (xs.all fun n => win n lo hi)) ∧ w = w' := by
  obtain ⟨hm, a, c, rfl, hcap, hc⟩ := hv
  unfold maxLen at hm
  go_enter Try.func51, Try.ntmps51
  go_wp2
  go_loop [8, 11] (fun x i => ∃ k : Nat, k ≤ xs.length ∧ i = .int .i64 k ∧ (xs.take k).all (fun n => win n lo hi) = true) (fun _ i => xs.length - (intOf i).toNat)
  case atStart => exact ⟨0, Nat.zero_le _, rfl, rfl⟩
  case round =>
    obtain ⟨k, hk, rfl, hr⟩ := hrel
    have Hr := Lib.hid hr
    clear hr
    by_cases hlt : k < xs.length
    · obtain ⟨b, o, rfl, _, hc1⟩ := hc k hlt
      clear hc
      cases hw : win xs[k] lo hi
      · go_wp2_with (go_at_call 48; refine (within_any _ _ _ _).mono ?_; rintro e w' ⟨rfl, rfl⟩)
        go_ret
        refine ⟨ret_bool ?_, rfl⟩
        symm
        rw [List.all_eq_false]
        exact ⟨xs[k], List.getElem_mem _, by simp [hw]⟩
      · go_wp2_with (go_at_call 48; refine (within_any _ _ _ _).mono ?_; rintro e w' ⟨rfl, rfl⟩)
        go_round
        case rel =>
          refine ⟨k + 1, by omega, by go_num, ?_⟩
          rw [List.take_succ_eq_append_getElem hlt, List.all_append, Hr.out]
          simp [hw]
        case measure => simp [intOf]; omega
    · clear hc
      go_wp2
      go_ret
      refine ⟨ret_bool ?_, rfl⟩
      have := Hr.out
      rw [List.take_of_length_le (by omega)] at this
      exact this.symm

end Go.Proofs.Ytckdfahbhagoaaa

namespace Go.Proofs.Ytckdfahbhagoaaa
open Go.RowKit
set_option linter.unusedVariables false

def noDefer (l : List Oper) : Bool := l.all fun o => match o.op with | .defer _ => false | _ => true

theorem noDefer_spec {l : List Oper} (h : noDefer l = true) {o : Oper} (ho : o ∈ l) : ∀ c, o.op ≠ .defer c := fun c hc => by
  have := List.all_eq_true.1 h o ho
  rw [hc] at this
  exact absurd this (by simp)

section
variable {F : Fence} {n : Nat} {P : Program} {ops : Array Oper} {md : Region.Mode} {C : World → Prop}

theorem wpIn_of_quiet_round {o : Oper} {a : Act} {K : Act → Prop} {K' : Act → World → Prop} {Q' : Exit → Act → World → Prop} {w : World} (hnd : ∀ c, o.op ≠ .defer c) (hw : C w) (h : ∀ a w', C w' → K a → K' a w')
    (ha : o.askedIn F P a C) (hh : o.quietIn F n P a C K) : o.wpIn F n P a w K' Q' := by
  obtain ⟨v, h1, h2⟩ := hh
  have h3 := h1 w hw
  unfold Oper.quietAtIn at h3
  unfold Oper.wpIn
  refine ⟨ha w hw, ?_⟩
  rw [Oper.semAt_eq _ _ _ hnd]
  generalize (execOp a.eval o).run P w = r at *
  cases r with
  | ok x w' =>
    cases x <;> simp only [Oper.quietUponIn] at h3 <;> simp only [Oper.uponIn]
    case value u =>
      obtain ⟨e1, e2⟩ := h3
      rw [e1, e2]
      exact h _ _ hw h2
    case skip =>
      obtain ⟨e1, e2⟩ := h3
      rw [e1, ← e2]
      exact h _ _ hw h2
    case enter f args =>
      obtain ⟨e1, hd, hc⟩ := h3
      rw [e1]
      exact ⟨hd, hc.mono fun e w'' ⟨he, hw''⟩ => by subst he; exact h _ _ hw'' h2⟩
  | halt x w' => simp only [Oper.quietUponIn] at h3

theorem wpOpIn_of_qOpIn_round {i : Nat} {a : Act} {K : Act → Prop} {K' : Act → World → Prop} {Q' : Exit → Act → World → Prop} {w : World} (hnd : noDefer ops.toList = true) (hC : C w) (h : ∀ a w', C w' → K a → K' a w')
    (hh : qOpIn F n P ops C i K a) : wpOpIn F n P ops Q' i K' a w := by
  unfold qOpIn at hh
  unfold wpOpIn
  split
  · rename_i ho; simp only [ho] at hh; exact h _ _ hC hh
  · rename_i o ho
    simp only [ho] at hh
    obtain ⟨ha, hh⟩ := hh
    have hmem : o ∈ ops.toList := by
      obtain ⟨h1, h2⟩ := Array.getElem?_eq_some_iff.1 ho
      rw [← h2]; simp
    split
    · rename_i hw; simp only [hw, if_true] at hh; exact wpIn_of_quiet_round (noDefer_spec hnd hmem) hC h ha hh
    · rename_i hw; simp only [hw] at hh; exact ⟨ha w hC, h _ _ hC hh⟩

theorem wpAnyIn_of_quiet_round {Q : Act → Prop} {Q' : Exit → Act → World → Prop} (hnd : noDefer ops.toList = true) (hQ : ∀ a w, C w → Q a → Q' .normal a w) : ∀ (fuel : Nat) (listed : Array Bool) (a : Act) (w : World), C w →
    wpAnyQIn F n P md ops C Q fuel listed a → wpAnyIn F n P md ops Q' fuel listed a w
  | 0, _, _, _, hw, h => ⟨h.1, hQ _ _ hw h.2⟩
  | fuel + 1, _, _, _, hw, h => ⟨fun h0 => hQ _ _ hw (h.1 h0), fun i hi => wpOpIn_of_qOpIn_round hnd hw (fun a' w' hw' => wpAnyIn_of_quiet_round hnd hQ fuel _ a' w' hw') (h.2 i hi)⟩

theorem round_quiet {id : Nat} {Q : Exit → Act → World → Prop} {a : Act} {w : World} (hnd : noDefer ops.toList = true) (hm : P.follows .mixedOrders = true) (hB : Region.lexB .any ops = true) (hC : C { w with drawn := w.drawn + 1 })
    (h : wpQuietIn F n P ops C (fun a' => ∀ w', C w' → Q .normal a' w') ops.toList a) : (Code.region id ops true).wpIn F n P Q a w := by
  simp only [Region.lexB, Bool.and_eq_true] at hB
  refine wpIn_region_any hm (wpAnyIn_of_quiet_round (Q := fun a' => ∀ w', C w' → Q .normal a' w') hnd (fun _ w' hw' h => h w' hw') _ _ _ _ hC ?_)
  have := wpAnyQIn_lex (F := F) (n := n) (C := C) (md := .any) hB.1 ops.toList 0 (Array.replicate ops.size false) a (by simp) (by simpa using hB.2) h
  simpa using this

theorem round_quiet_lit {id : Nat} {Q : Exit → Act → World → Prop} {a : Act} {w : World} {l : List Oper} (hnd : noDefer l = true) (hm : P.follows .mixedOrders = true) (hB : Region.lexB .any l.toArray = true)
    (h : wpQuietIn F n P l.toArray (fun w' => ∃ n, w' = w.drewN n) (fun a' => ∀ w', (∃ n, w' = w.drewN n) → Q .normal a' w') l a) : (Code.region id l.toArray true).wpIn F n P Q a w :=
  round_quiet (C := fun w' => ∃ n, w' = w.drewN n) (by simpa using hnd) hm hB ⟨1, rfl⟩ (by simpa using h)
end
end Go.Proofs.Ytckdfahbhagoaaa

namespace Go.Proofs.Ytckdfahbhagoaaa
open Go.RowKit
set_option linter.unusedVariables false
set_option linter.unusedSimpArgs false

/-- v is a slice of the call's own (in a block from B on, or nil), and it holds the integers xs. -/
def OwnI (w : World) (B : Nat) (v : Value) (xs : List Int) : Prop := w.ownsRow B 2 1 v xs.length (xs.map (Value.int .i64))

theorem OwnI.ints {w : World} {B : Nat} {v : Value} {xs : List Int} (h : OwnI w B v xs) : Ints w v xs := ints_of_own h
theorem OwnI.alloc {w : World} {B : Nat} {v : Value} {xs : List Int} (h : OwnI w B v xs) (o : Obj) : OwnI (w.alloc o) B v xs := World.ownsRow.alloc h o
theorem OwnI.kept {w w' : World} {B : Nat} {v : Value} {xs : List Int} {row : Option Nat} (h : OwnI w B v xs) (hg : w.grownBy w' row) (hne : v.ownBlock = none ∨ v.ownBlock ≠ row) : OwnI w' B v xs := World.ownsRow.kept h hg hne
theorem OwnI.lt {w : World} {B : Nat} {v : Value} {xs : List Int} (h : OwnI w B v xs) : ∀ k, v.ownBlock = some k → B ≤ k ∧ k < w.heap.size := World.ownsRow.lt h
theorem OwnI.below {w w' : World} {B N : Nat} {v : Value} {xs : List Int} (h : OwnI w B v xs) (hb : Below N w w') (hN : w.heap.size ≤ N) : OwnI w' B v xs := by
  refine h.kept (row := none) ⟨hb.os, hb.tape, hb.output, hb.size, fun k hk _ => hb.block k (by omega)⟩ ?_
  cases v.ownBlock <;> simp
theorem OwnI.drewN {w : World} {B : Nat} {v : Value} {xs : List Int} (h : OwnI w B v xs) (q : Nat) : OwnI (w.drewN q) B v xs := h.below (below_drewN q (Below.refl w.heap.size w)) (Nat.le_refl _)
theorem OwnI.mono {w : World} {B B' : Nat} {v : Value} {xs : List Int} (h : OwnI w B v xs) (hB : B' ≤ B) : OwnI w B' v xs := by
  refine ⟨h.1, ?_⟩
  rcases h.2 with h2 | ⟨g, cap, cur, hv, hg, r⟩
  · exact .inl h2
  · exact .inr ⟨g, cap, cur, hv, by omega, r⟩
theorem OwnI.setCell {w : World} {B : Nat} {v : Value} {xs : List Int} (h : OwnI w B v xs) {p : Addr} (u : Value) (hne : v.ownBlock ≠ some p.block) : OwnI (w.setCell p u) B v xs :=
  h.kept (row := some p.block) ⟨rfl, rfl, rfl, by simp [World.setCell], fun k hk hk' => Below.heap_setCell _ _ _ _ (fun e => hk' (by rw [e]))⟩ (.inr hne)

/-- A slice literal. -/
theorem OwnI.lit (w : World) (B : Nat) (xs : List Int) (hB : B ≤ w.heap.size) (hx : xs.length ≤ maxLen) : OwnI (w.alloc (.cells (xs.map (Value.int .i64)).toArray 2)) B (.slice (some ⟨w.heap.size, 0, none⟩) xs.length xs.length) xs := by
  have := World.ownsRow_lit (e := 2) (size := 1) w (xs.map (Value.int .i64)).toArray xs.length hB hx (by simp)
  simpa [OwnI] using this

theorem cells_lit (W : World) (vs : List Value) (t : TypeId) : ∀ j u, vs[j]? = some u → (W.alloc (.cells vs.toArray t)).cell? ((⟨W.heap.size, 0, none⟩ : Addr).add j) = some u := by
  intro j u hj
  have hadd : (⟨W.heap.size, 0, none⟩ : Addr).add j = ⟨W.heap.size, j, none⟩ := by unfold Addr.add; split <;> simp_all
  have hh : (W.alloc (.cells vs.toArray t)).heap[W.heap.size]? = some (.cells vs.toArray t (0, 0)) := World.alloc_heap_new W _
  rw [hadd]
  unfold World.cell?
  rw [hh]
  simpa using hj

/-- What is known behind an append of at least one element. -/
theorem app_shape {W w' : World} {B : Nat} {v v' : Value} {xs ys : List Int} {t : TypeId} (hy : 0 < ys.length) (hown : OwnI W B v xs)
    (h1 : w'.ownsRow B 2 1 v' (xs.length + ys.length) (xs.map (Value.int .i64) ++ ys.map (Value.int .i64))) (h2 : (W.alloc (.cells (ys.map (Value.int .i64)).toArray t)).grownBy w' v.ownBlock) :
    ∃ g c, v' = .slice (some ⟨g, 0, none⟩) (xs.length + ys.length) c ∧ OwnI w' B (.slice (some ⟨g, 0, none⟩) (xs.length + ys.length) c) (xs ++ ys) ∧ W.grownBy w' v.ownBlock := by
  have hg : W.grownBy w' v.ownBlock := ⟨h2.os, h2.tape, h2.output, Nat.le_trans (by simp) h2.size, fun k hk hne => (h2.block k (by simp; omega) hne).trans (Below.heap_alloc _ _ _ hk)⟩
  have h1' : OwnI w' B v' (xs ++ ys) := by unfold OwnI; simpa using h1
  rcases h1.2 with ⟨_, h0⟩ | ⟨g, cap, cur, rfl, _⟩
  · omega
  · exact ⟨g, cap, rfl, h1', hg⟩

/-- 'append(s, y, ..)', outside every round. -/
theorem append_i64 {ops : Array Oper} {rest : List Oper} {o : Oper} {a : Act} {Q : Exit → Act → World → Prop} {W : World} (hgd : o.guard = none) (s x : Operand)
    (ho : o.op = .call { callee := .builtin .append, args := #[s, x], argTypes := #[25, 25] }) (B : Nat) (v : Value) (xs ys : List Int) (hy : 0 < ys.length)
    (hs : a.eval s = v) (c : Nat) (hx : a.eval x = .slice (some ⟨W.heap.size, 0, none⟩) ys.length c) (hown : OwnI W B v xs) (hB : B ≤ W.heap.size) (hsmall : xs.length + ys.length ≤ 1099511627776)
    (hK : ∀ g c w', OwnI w' B (.slice (some ⟨g, 0, none⟩) (xs.length + ys.length) c) (xs ++ ys) → W.grownBy w' v.ownBlock → wpList Try.prog ops Q rest (a.put o.dst (.slice (some ⟨g, 0, none⟩) (xs.length + ys.length) c)) w') :
    wpList Try.prog ops Q (o :: rest) a (W.alloc (.cells (ys.map (Value.int .i64)).toArray 2)) := by
  obtain ⟨i0, hi, hz0, hz1, hz2⟩ := info_parts info_i64
  refine wpList_append_own _ hgd s x 25 ho B 2 i0 (.int .i64 0) 1 8 Try.underlying25 hi hz0 hz1 hz2 rfl (by decide) v xs.length _ hs (World.ownsRow.alloc hown _) ⟨W.heap.size, 0, none⟩ ys.length c (ys.map (Value.int .i64)) hx (by simp) (cells_lit W _ _) ?_ (by unfold maxLen; omega) (by omega) (by simp; omega) ?_
  · intro u hu; obtain ⟨y, _, rfl⟩ := List.mem_map.1 hu; rfl
  · intro v' w' h1 h2 _
    obtain ⟨g, c', rfl, h3, h4⟩ := app_shape hy hown h1 h2
    exact hK g c' w' h3 h4

/-- .. inside a fence or a round. -/
theorem append_i64In {F : Fence} {n : Nat} {ops : Array Oper} {rest : List Oper} {o : Oper} {a : Act} {Q : Exit → Act → World → Prop} {W : World} (hgd : o.guard = none) (s x : Operand)
    (ho : o.op = .call { callee := .builtin .append, args := #[s, x], argTypes := #[25, 25] }) (B : Nat) (v : Value) (xs ys : List Int) (hy : 0 < ys.length)
    (hs : a.eval s = v) (c : Nat) (hx : a.eval x = .slice (some ⟨W.heap.size, 0, none⟩) ys.length c) (hown : OwnI W B v xs) (hB : B ≤ W.heap.size) (hsmall : xs.length + ys.length ≤ 1099511627776)
    (hK : ∀ g c w', OwnI w' B (.slice (some ⟨g, 0, none⟩) (xs.length + ys.length) c) (xs ++ ys) → W.grownBy w' v.ownBlock → wpListIn F n Try.prog ops Q rest (a.put o.dst (.slice (some ⟨g, 0, none⟩) (xs.length + ys.length) c)) w') :
    wpListIn F n Try.prog ops Q (o :: rest) a (W.alloc (.cells (ys.map (Value.int .i64)).toArray 2)) := by
  obtain ⟨i0, hi, hz0, hz1, hz2⟩ := info_parts info_i64
  refine wpListIn_append_own _ hgd s x 25 ho B 2 i0 (.int .i64 0) 1 8 Try.underlying25 hi hz0 hz1 hz2 rfl (by decide) v xs.length _ hs (World.ownsRow.alloc hown _) ⟨W.heap.size, 0, none⟩ ys.length c (ys.map (Value.int .i64)) hx (by simp) (cells_lit W _ _) ?_ (by unfold maxLen; omega) (by omega) (by simp; omega) ?_
  · intro u hu; obtain ⟨y, _, rfl⟩ := List.mem_map.1 hu; rfl
  · intro v' w' h1 h2 _
    obtain ⟨g, c', rfl, h3, h4⟩ := app_shape hy hown h1 h2
    exact hK g c' w' h3 h4

theorem ownBlock_slice (g n c : Nat) : (Value.slice (some ⟨g, 0, none⟩) n c).ownBlock = some g := rfl

/-- 'Below' behind an append to a slice of the call's own. -/
theorem Below.app {B : Nat} {w W w' : World} {v : Value} {xs : List Int} (h : Below B w W) (hown : OwnI W B v xs) (hg : W.grownBy w' v.ownBlock) (hB : B ≤ W.heap.size) : Below B w w' :=
  h.grown hg hB (fun k e => (hown.lt k e).1)
end Go.Proofs.Ytckdfahbhagoaaa

namespace Go.Proofs.Ytckdfahbhagoaaa
open Go.RowKit
set_option linter.unusedVariables false
set_option linter.unusedSimpArgs false

/-- 0, 1, .. n - 1. -/
def idL (n : Nat) : List Int := (List.range n).map fun (i : Nat) => (i : Int)
theorem idL_length (n : Nat) : (idL n).length = n := by simp [idL]
theorem idL_succ (n : Nat) : idL (n + 1) = idL n ++ [(n : Int)] := by unfold idL; rw [List.range_succ, List.map_append]; rfl
theorem idL_get {n i : Nat} (h : i < n) : nth (idL n) i = (i : Int) := by
  rw [nth_eq (by rw [idL_length]; exact h)]; simp [idL]

theorem counting_any (n : Nat) (w : World) (hn : n ≤ 1048576) :
    Calls Try.prog 44 #[.int .i64 n] w fun e w' => (∃ g c, e = .returned (.slice (some ⟨g, 0, none⟩) n c) ∧ OwnI w' w.heap.size (.slice (some ⟨g, 0, none⟩) n c) (idL n)) ∧ Below w.heap.size w w' := by
  have HA0 : Hid (OwnI (w.alloc (.cells #[] 2)) w.heap.size (.slice (some ⟨w.heap.size, 0, none⟩) 0 0) (idL 0)) := OwnI.lit w w.heap.size [] (Nat.le_refl _) (Nat.zero_le _)
  have HB0 : Hid (Below w.heap.size w (w.alloc (.cells #[] 2))) := (Below.refl _ w).alloc (Nat.le_refl _) _
  go_enter Try.func44, Try.ntmps44
  go_wp2
  go_loopw [3, 4, 7] (fun v _ i wr => ∃ (k g c : Nat), k ≤ n ∧ i = .int .i64 k ∧ v = .slice (some ⟨g, 0, none⟩) k c ∧ OwnI wr w.heap.size (.slice (some ⟨g, 0, none⟩) k c) (idL k) ∧ Below w.heap.size w wr) (fun _ _ i _ => n - (intOf i).toNat)
  case atStart => exact ⟨0, w.heap.size, 0, Nat.zero_le _, rfl, rfl, HA0.out, HB0.out⟩
  case round =>
    obtain ⟨k, g, c, hk, rfl, rfl, ho, hb⟩ := hrel
    have hws := hb.size
    have HO := Lib.hid ho
    have HB := Lib.hid hb
    clear ho hb HA0 HB0
    by_cases hlt : k < n
    · have HLK := Lib.hid (idL_length k)
      go_wp2_with (at_builtin; refine append_i64 rfl _ _ rfl w.heap.size (.slice (some ⟨g, 0, none⟩) k c) (idL k) [(k : Int)] (by simp) rfl _ rfl HO.out hws (by rw [HLK.out]; simp; omega) ?_; intro g1 c1 w3 ho3 hg3; have hb3 := Below.app HB.out HO.out hg3 hws; have HO3 := Lib.hid ho3; have HB3 := Lib.hid hb3; clear ho3 hb3 hg3)
      go_roundw
      case rel => exact ⟨k + 1, g1, c1, by omega, by go_num, (by simp [idL_length]), by rw [idL_succ]; have := HO3.out; rw [HLK.out] at this; exact this, HB3.out⟩
      case measure => simp [intOf]; omega
    · obtain rfl : k = n := by omega
      clear hlt
      go_wp2
      go_ret
      exact ⟨⟨g, c, rfl, HO.out⟩, HB.out⟩
end Go.Proofs.Ytckdfahbhagoaaa

namespace Go.Proofs.Ytckdfahbhagoaaa
open Go.RowKit
set_option linter.unusedVariables false
set_option linter.unusedSimpArgs false

/-- The time of job i on machine m. -/
def tF (ts : List Int) (M i m : Nat) : Int := nth ts (i * M + m)
def fRow (t free : Nat → Int) : Nat → Int
  | 0 => max 0 (free 0) + t 0
  | m + 1 => max (fRow t free m) (free (m + 1)) + t (m + 1)
/-- When the first k jobs of an order have ended, machine by machine. -/
def fC (ts : List Int) (M : Nat) (E : List Int) : Nat → Nat → Int
  | 0 => fun _ => 0
  | k + 1 => fRow (tF ts M (nth E k).toNat) (fC ts M E k)
/-- The last end. -/
def fL (ts : List Int) (M : Nat) (E : List Int) : Int := fC ts M E E.length (M - 1)
theorem fC_succ0 (ts : List Int) (M : Nat) (E : List Int) (k : Nat) : fC ts M E (k + 1) 0 = max 0 (fC ts M E k 0) + tF ts M (nth E k).toNat 0 := rfl
theorem fC_succ (ts : List Int) (M : Nat) (E : List Int) (k m : Nat) : fC ts M E (k + 1) (m + 1) = max (fC ts M E (k + 1) m) (fC ts M E k (m + 1)) + tF ts M (nth E k).toNat (m + 1) := rfl
/-- Times are from 0 to 10000. -/
structure TmF (ts : List Int) (M n : Nat) (E : List Int) : Prop where
  tm : ∀ i m, i < n → m < M → 0 ≤ tF ts M i m ∧ tF ts M i m ≤ 10000
  el : ∀ k, k < E.length → ∃ i : Nat, nth E k = i ∧ i < n
theorem TmF.at_ {ts : List Int} {M n : Nat} {E : List Int} (h : TmF ts M n E) {k m : Nat} (hk : k < E.length) (hm : m < M) : 0 ≤ tF ts M (nth E k).toNat m ∧ tF ts M (nth E k).toNat m ≤ 10000 := by
  obtain ⟨i, hi, hn⟩ := h.el k hk
  rw [hi, Int.toNat_natCast]
  exact h.tm i m hn hm
theorem fC_bounds {ts : List Int} {M n : Nat} {E : List Int} (h : TmF ts M n E) : ∀ k, k ≤ E.length → ∀ m, m < M → 0 ≤ fC ts M E k m ∧ fC ts M E k m ≤ 10000 * ((k : Int) + m)
  | 0, _, m, _ => by show (0 : Int) ≤ 0 ∧ (0 : Int) ≤ _; omega
  | k + 1, hk, m, hm => by
    have ih := fC_bounds h k (by omega)
    induction m with
    | zero =>
      have h1 := ih 0 hm
      have h2 := h.at_ (show k < E.length by omega) hm
      rw [fC_succ0]; omega
    | succ m ihm =>
      have h1 := ih (m + 1) hm
      have h2 := h.at_ (show k < E.length by omega) hm
      have h3 := ihm (by omega)
      rw [fC_succ]; omega
/-- Each end is behind the one of the same machine, and behind the one of the same job. -/
theorem fC_up {ts : List Int} {M n : Nat} {E : List Int} (h : TmF ts M n E) {k : Nat} (hk : k < E.length) {m : Nat} (hm : m < M) : fC ts M E k m + tF ts M (nth E k).toNat m ≤ fC ts M E (k + 1) m ∧ (0 < m → fC ts M E (k + 1) (m - 1) + tF ts M (nth E k).toNat m ≤ fC ts M E (k + 1) m) := by
  cases m with
  | zero => rw [fC_succ0]; exact ⟨by omega, fun h => absurd h (Nat.lt_irrefl _)⟩
  | succ m => rw [fC_succ]; exact ⟨by omega, fun _ => by show fC ts M E (k + 1) m + _ ≤ _; omega⟩
/-! Sums. -/
def sF (f : Nat → Int) : Nat → Int
  | 0 => 0
  | n + 1 => sF f n + f n
theorem sF_succ (f : Nat → Int) (n : Nat) : sF f (n + 1) = sF f n + f n := rfl
theorem sF_congr {f g : Nat → Int} : ∀ n, (∀ i, i < n → f i = g i) → sF f n = sF g n
  | 0, _ => rfl
  | n + 1, h => by rw [sF_succ, sF_succ, sF_congr n (fun i hi => h i (by omega)), h n (by omega)]
theorem sF_le {f g : Nat → Int} : ∀ n, (∀ i, i < n → f i ≤ g i) → sF f n ≤ sF g n
  | 0, _ => Int.le_refl _
  | n + 1, h => by have h1 := sF_le n (fun i hi => h i (by omega)); have h2 := h n (by omega); rw [sF_succ, sF_succ]; omega
theorem sF_nn {f : Nat → Int} : ∀ n, (∀ i, i < n → 0 ≤ f i) → 0 ≤ sF f n
  | 0, _ => Int.le_refl _
  | n + 1, h => by have h1 := sF_nn n (fun i hi => h i (by omega)); have h2 := h n (by omega); rw [sF_succ]; omega
/-- The sum along a list. -/
def sL (g : Int → Int) : List Int → Int
  | [] => 0
  | x :: l => g x + sL g l
theorem sL_app (g : Int → Int) : ∀ l k : List Int, sL g (l ++ k) = sL g l + sL g k
  | [], k => by simp [sL]
  | x :: l, k => by
    show g x + sL g (l ++ k) = g x + sL g l + sL g k
    rw [sL_app g l k]; omega
theorem sL_perm {g : Int → Int} {l k : List Int} (h : l.Perm k) : sL g l = sL g k := by
  induction h with
  | nil => rfl
  | cons x _ ih => unfold sL; rw [ih]
  | swap x y l => unfold sL; unfold sL; omega
  | trans _ _ i1 i2 => rw [i1, i2]
theorem sL_idL (g : Int → Int) : ∀ n, sL g (idL n) = sF (fun i => g (i : Int)) n
  | 0 => rfl
  | n + 1 => by rw [idL_succ, sL_app, sL_idL g n, sF_succ]; unfold sL; unfold sL; omega
theorem sL_nth (g : Int → Int) : ∀ l : List Int, sL g l = sF (fun k => g (nth l k)) l.length := fun l => by
  have key : ∀ n, n ≤ l.length → sL g (l.take n) = sF (fun k => g (nth l k)) n := fun n => by
    induction n with
    | zero => intro _; rfl
    | succ n ih =>
      intro hn
      rw [List.take_succ_eq_append_getElem (by omega), sL_app, ih (by omega), sF_succ, ← nth_eq]
      unfold sL; unfold sL; omega
  have := key l.length (Nat.le_refl _)
  rwa [List.take_length] at this
theorem sF_order (g : Int → Int) {E : List Int} {n : Nat} (hE : E.Perm (idL n)) : sF (fun k => g (nth E k)) n = sF (fun i => g (i : Int)) n := by
  have hl : E.length = n := by rw [hE.length_eq, idL_length]
  have h := sL_nth g E
  rw [hl] at h
  rw [← h, sL_perm hE, sL_idL]
/-! The bound. -/
theorem fC_head {ts : List Int} {M n : Nat} {E : List Int} (h : TmF ts M n E) {k : Nat} (hk : k < E.length) : ∀ m, m < M → sF (tF ts M (nth E k).toNat) (m + 1) ≤ fC ts M E (k + 1) m
  | 0, hm => by
    have h1 := (fC_up h hk hm).1
    have h2 := (fC_bounds h k (by omega) 0 hm).1
    show 0 + tF ts M (nth E k).toNat 0 ≤ _
    omega
  | m + 1, hm => by
    have h1 := fC_head h hk m (by omega)
    have h2 := (fC_up h hk hm).2 (by omega)
    rw [sF_succ]
    have h3 : m + 1 - 1 = m := by omega
    rw [h3] at h2
    omega
theorem fC_tail {ts : List Int} {M n : Nat} {E : List Int} (h : TmF ts M n E) {k m : Nat} (hk : k < E.length) : ∀ d : Nat, m + d < M → fC ts M E (k + 1) m + sF (fun j => tF ts M (nth E k).toNat (m + 1 + j)) d ≤ fC ts M E (k + 1) (m + d)
  | 0, _ => by show _ + 0 ≤ _; rw [Int.add_zero]; exact Int.le_refl _
  | d + 1, hm => by
    have h1 := fC_tail (m := m) h hk d (by omega)
    have h2 := (fC_up (m := m + (d + 1)) h hk hm).2 (by omega)
    rw [show m + (d + 1) - 1 = m + d by omega] at h2
    rw [sF_succ]
    rw [show m + 1 + d = m + (d + 1) by omega]
    omega
theorem fC_sum {ts : List Int} {M n : Nat} {E : List Int} (h : TmF ts M n E) {m : Nat} (hm : m < M) {b : Int} (hb : ∀ i, i < n → b ≤ sF (tF ts M i) m) : ∀ k, k < E.length → b + sF (fun j => tF ts M (nth E j).toNat m) (k + 1) ≤ fC ts M E (k + 1) m
  | 0, hk => by
    obtain ⟨i, hi, hn⟩ := h.el 0 hk
    have h1 := fC_head h hk m hm
    have h2 := hb i hn
    rw [sF_succ] at h1
    rw [hi, Int.toNat_natCast] at h1
    show b + (0 + tF ts M (nth E 0).toNat m) ≤ _
    rw [hi, Int.toNat_natCast]
    omega
  | k + 1, hk => by
    have h1 := fC_sum h hm hb k (by omega)
    have h2 := (fC_up h hk hm).1
    rw [sF_succ]
    omega
/-- No order ends before the bound of a machine. -/
theorem fL_bound {ts : List Int} {M n : Nat} {E : List Int} (hE : E.Perm (idL n)) (h : TmF ts M n E) (h1 : 1 ≤ n) {m : Nat} (hm : m < M) {b d : Int} (hb : ∀ i, i < n → b ≤ sF (tF ts M i) m) (hd : ∀ i, i < n → d ≤ sF (fun j => tF ts M i (m + 1 + j)) (M - 1 - m)) :
    sF (fun i => tF ts M i m) n + b + d ≤ fL ts M E := by
  have hl : E.length = n := by rw [hE.length_eq, idL_length]
  have hs := fC_sum h hm hb (n - 1) (by omega)
  have ht := fC_tail h (k := n - 1) (m := m) (by omega) (M - 1 - m) (by omega)
  obtain ⟨i, hi, hn⟩ := h.el (n - 1) (by omega)
  have h2 := hd i hn
  rw [hi, Int.toNat_natCast] at ht
  rw [show n - 1 + 1 = n by omega] at hs ht
  rw [show m + (M - 1 - m) = M - 1 by omega] at ht
  have h3 := sF_order (fun x => tF ts M x.toNat m) hE
  simp only [Int.toNat_natCast] at h3
  unfold fL
  rw [hl]
  omega
/-! No room between machines. -/
def bRow (t left : Nat → Int) (M : Nat) : Nat → Int
  | 0 => if 1 < M then max (left 0 + t 0) (left 1) else left 0 + t 0
  | m + 1 => if m + 2 < M then max (bRow t left M m + t (m + 1)) (left (m + 2)) else bRow t left M m + t (m + 1)
def bC (ts : List Int) (M : Nat) (E : List Int) : Nat → Nat → Int
  | 0 => fun _ => 0
  | k + 1 => bRow (tF ts M (nth E k).toNat) (bC ts M E k) M
theorem bC_succ0 (ts : List Int) (M : Nat) (E : List Int) (k : Nat) : bC ts M E (k + 1) 0 = if 1 < M then max (bC ts M E k 0 + tF ts M (nth E k).toNat 0) (bC ts M E k 1) else bC ts M E k 0 + tF ts M (nth E k).toNat 0 := rfl
theorem bC_succ (ts : List Int) (M : Nat) (E : List Int) (k m : Nat) : bC ts M E (k + 1) (m + 1) = if m + 2 < M then max (bC ts M E (k + 1) m + tF ts M (nth E k).toNat (m + 1)) (bC ts M E k (m + 2)) else bC ts M E (k + 1) m + tF ts M (nth E k).toNat (m + 1) := rfl
theorem bC_ge {ts : List Int} {M n : Nat} {E : List Int} (h : TmF ts M n E) : ∀ k, k ≤ E.length → ∀ m, m < M → fC ts M E k m ≤ bC ts M E k m
  | 0, _, m, _ => Int.le_refl _
  | k + 1, hk, m, hm => by
    have ih := bC_ge h k (by omega)
    have hb := fC_bounds h k (by omega)
    induction m with
    | zero =>
      have h1 := ih 0 hm
      have h2 := (hb 0 hm).1
      rw [fC_succ0, bC_succ0]
      split <;> omega
    | succ m ihm =>
      have h1 := ih (m + 1) hm
      have h3 := ihm (by omega)
      have h4 : bC ts M E k (m + 1) ≤ bC ts M E (k + 1) m := by
        cases m with
        | zero => rw [bC_succ0, if_pos hm]; show bC ts M E k 1 ≤ _; omega
        | succ m => rw [bC_succ, if_pos hm]; show bC ts M E k (m + 2) ≤ _; omega
      rw [fC_succ, bC_succ]
      split <;> omega
/-! Jobs that may not wait. -/
def gMax (f : Nat → Int) : Nat → Int
  | 0 => 0
  | m + 1 => if m = 0 ∨ gMax f m < f m then f m else gMax f m
theorem gMax_ge {f : Nat → Int} : ∀ n m, m < n → f m ≤ gMax f n
  | 0, m, h => absurd h (Nat.not_lt_zero _)
  | n + 1, m, h => by
    unfold gMax
    by_cases e : m = n
    · subst e; split <;> omega
    · have h1 := gMax_ge (f := f) n m (by omega)
      split
      · rename_i hc; rcases hc with hc | hc <;> omega
      · exact h1
/-- How much later than job i job k can begin. -/
def gapF (ts : List Int) (M i k : Nat) : Int := gMax (fun m => sF (tF ts M i) (m + 1) - sF (tF ts M k) m) M
/-- When the jobs of an order begin, if none waits. -/
def nwS (ts : List Int) (M : Nat) (E : List Int) : Nat → Int
  | 0 => 0
  | k + 1 => nwS ts M E k + gapF ts M (nth E k).toNat (nth E (k + 1)).toNat
theorem nw_ge {ts : List Int} {M n : Nat} {E : List Int} (h : TmF ts M n E) (hM : 1 ≤ M) : ∀ k, k < E.length → ∀ m, m < M → bC ts M E (k + 1) m ≤ nwS ts M E k + sF (tF ts M (nth E k).toNat) (m + 1)
  | 0, hk, m, hm => by
    induction m with
    | zero =>
      rw [bC_succ0]
      show (if 1 < M then max (0 + _) 0 else 0 + _) ≤ 0 + (0 + _)
      have h1 := h.at_ hk hm
      split <;> omega
    | succ m ihm =>
      have h2 := ihm (by omega)
      have h1 := h.at_ hk hm
      have h3 : 0 ≤ sF (tF ts M (nth E 0).toNat) (m + 1) := sF_nn _ (fun i hi => (h.at_ hk (by omega)).1)
      rw [bC_succ]
      rw [sF_succ]
      show (if m + 2 < M then max _ 0 else _) ≤ _
      have h4 : nwS ts M E 0 = 0 := rfl
      split <;> omega
  | k + 1, hk, m, hm => by
    have ih := nw_ge h hM k (by omega)
    have hg : ∀ m, m < M → sF (tF ts M (nth E k).toNat) (m + 1) - sF (tF ts M (nth E (k + 1)).toNat) m ≤ gapF ts M (nth E k).toNat (nth E (k + 1)).toNat := fun m hm => gMax_ge (f := fun m => sF (tF ts M (nth E k).toNat) (m + 1) - sF (tF ts M (nth E (k + 1)).toNat) m) M m hm
    have hn : nwS ts M E (k + 1) = nwS ts M E k + gapF ts M (nth E k).toNat (nth E (k + 1)).toNat := rfl
    induction m with
    | zero =>
      have h1 := ih 0 hm
      have h2 := hg 0 hm
      have h3 := h.at_ hk hm
      rw [bC_succ0]
      show _ ≤ _ + (0 + _)
      have h4 : sF (tF ts M (nth E (k + 1)).toNat) 0 = 0 := rfl
      split
      · rename_i h5
        have h6 := ih 1 h5
        have h7 := hg 1 h5
        have h8 : sF (tF ts M (nth E (k + 1)).toNat) 1 = 0 + tF ts M (nth E (k + 1)).toNat 0 := rfl
        omega
      · omega
    | succ m ihm =>
      have h1 := ihm (by omega)
      rw [bC_succ, sF_succ]
      split
      · rename_i h5
        have h6 := ih (m + 2) h5
        have h7 := hg (m + 2) h5
        have h8 := sF_succ (tF ts M (nth E (k + 1)).toNat) (m + 1)
        rw [show m + 1 + 1 = m + 2 by omega] at h8
        omega
      · omega
end Go.Proofs.Ytckdfahbhagoaaa

namespace Go.Proofs.Ytckdfahbhagoaaa
open Go.RowKit
set_option linter.unusedVariables false
set_option linter.unusedSimpArgs false

/-- The times on the first machine of an order's jobs, and those on the second one. -/
def oA (ts E : List Int) (k : Nat) : Int := tF ts 2 (nth E k).toNat 0
def oB (ts E : List Int) (k : Nat) : Int := tF ts 2 (nth E k).toNat 1
theorem two_first {ts : List Int} {n : Nat} {E : List Int} (h : TmF ts 2 n E) : ∀ k, k ≤ E.length → fC ts 2 E k 0 = sF (oA ts E) k
  | 0, _ => rfl
  | k + 1, hk => by
    have h1 := two_first h k (by omega)
    have h2 := (fC_bounds h k (by omega) 0 (by omega)).1
    rw [fC_succ0, sF_succ, ← h1]
    unfold oA
    omega
theorem two_ge {ts : List Int} {n : Nat} {E : List Int} (h : TmF ts 2 n E) (x : Nat) : ∀ k, k ≤ E.length → x < k → sF (oA ts E) (x + 1) + sF (oB ts E) k - sF (oB ts E) x ≤ fC ts 2 E k 1
  | 0, _, hx => absurd hx (Nat.not_lt_zero _)
  | k + 1, hk, hx => by
    have h1 := (fC_up h (show k < E.length by omega) (show 1 < 2 by omega))
    have h2 := h1.2 (by omega)
    have h3 := two_first h (k + 1) hk
    rw [show 1 - 1 = 0 by omega, h3] at h2
    rw [sF_succ (oB ts E) k]
    have h4 : oB ts E k = tF ts 2 (nth E k).toNat 1 := rfl
    by_cases e : x = k
    · subst e; omega
    · have h5 := two_ge h x k (by omega) (by omega)
      have h6 := h1.1
      omega
theorem two_eq {ts : List Int} {n : Nat} {E : List Int} (h : TmF ts 2 n E) : ∀ k, k < E.length → ∃ x, x ≤ k ∧ fC ts 2 E (k + 1) 1 = sF (oA ts E) (x + 1) + sF (oB ts E) (k + 1) - sF (oB ts E) x
  | 0, hk => ⟨0, Nat.le_refl _, by
    have h3 := two_first h 1 (by omega)
    have h4 : 0 ≤ sF (oA ts E) 1 := by rw [← h3]; exact (fC_bounds h 1 (by omega) 0 (by omega)).1
    have h6 : fC ts 2 E (0 + 1) 1 = max (sF (oA ts E) 1) 0 + oB ts E 0 := by rw [← h3]; rfl
    have h5 : sF (oB ts E) 0 = 0 := rfl
    have h7 := sF_succ (oB ts E) 0
    simp only [Nat.zero_add] at h6 h7 ⊢
    omega⟩
  | k + 1, hk => by
    have h3 := two_first h (k + 2) (by omega)
    obtain ⟨x, hx, hx2⟩ := two_eq h k (by omega)
    have h5 : oB ts E (k + 1) = tF ts 2 (nth E (k + 1)).toNat 1 := rfl
    have h6 : fC ts 2 E (k + 1 + 1) 1 = max (sF (oA ts E) (k + 2)) (fC ts 2 E (k + 1) 1) + oB ts E (k + 1) := by rw [← h3]; rfl
    by_cases e : fC ts 2 E (k + 1) 1 ≤ sF (oA ts E) (k + 2)
    · refine ⟨k + 1, Nat.le_refl _, ?_⟩
      rw [h6, sF_succ (oB ts E) (k + 1)]
      show _ = sF (oA ts E) (k + 2) + _ - _
      omega
    · refine ⟨x, by omega, ?_⟩
      rw [h6, sF_succ (oB ts E) (k + 1)]
      omega
theorem sF_low (f : Nat → Int) (y : Nat) : ∀ n, sF (fun k => if k ≤ y then f k else 0) n = sF f (min n (y + 1))
  | 0 => by rw [Nat.zero_min]; rfl
  | n + 1 => by
    rw [sF_succ, sF_low f y n]
    by_cases e : n ≤ y
    · rw [if_pos e, Nat.min_eq_left (by omega), Nat.min_eq_left (by omega), sF_succ]
    · rw [if_neg e, Nat.min_eq_right (by omega), Nat.min_eq_right (by omega)]; omega
theorem sF_high (f : Nat → Int) (y : Nat) : ∀ n, sF (fun k => if y ≤ k then f k else 0) n = sF f n - sF f (min n y)
  | 0 => by rw [Nat.zero_min]; rfl
  | n + 1 => by
    rw [sF_succ, sF_high f y n]
    by_cases e : y ≤ n
    · rw [if_pos e, Nat.min_eq_right (by omega), Nat.min_eq_right (by omega), sF_succ]; omega
    · rw [if_neg e, Nat.min_eq_left (by omega), Nat.min_eq_left (by omega), sF_succ]; omega
theorem sF_add (f g : Nat → Int) : ∀ n, sF (fun k => f k + g k) n = sF f n + sF g n
  | 0 => rfl
  | n + 1 => by rw [sF_succ, sF_succ, sF_succ, sF_add f g n]; omega
theorem first_ex {Q : Nat → Prop} : ∀ n, (∃ k, k < n ∧ Q k) → ∃ y, y < n ∧ Q y ∧ ∀ k, k < y → ¬ Q k
  | 0, h => by obtain ⟨k, hk, _⟩ := h; omega
  | n + 1, h => by
    by_cases e : ∃ k, k < n ∧ Q k
    · obtain ⟨y, h1, h2, h3⟩ := first_ex n e
      exact ⟨y, by omega, h2, h3⟩
    · obtain ⟨k, hk, hq⟩ := h
      have hkn : k = n := by
        rcases Nat.lt_or_ge k n with q | q
        · exact absurd ⟨k, q, hq⟩ e
        · omega
      subst hkn
      exact ⟨k, by omega, hq, fun j hj hqj => e ⟨j, hj, hqj⟩⟩
theorem last_ex {Q : Nat → Prop} : ∀ n, (∃ k, k < n ∧ Q k) → ∃ y, y < n ∧ Q y ∧ ∀ k, y < k → k < n → ¬ Q k
  | 0, h => by obtain ⟨k, hk, _⟩ := h; omega
  | n + 1, h => by
    by_cases e : Q n
    · exact ⟨n, by omega, e, fun k h1 h2 => by omega⟩
    · obtain ⟨k, hk, hq⟩ := h
      obtain ⟨y, h1, h2, h3⟩ := last_ex n ⟨k, by
        rcases Nat.lt_or_ge k n with q | q
        · exact q
        · exact absurd (show Q n by have : k = n := by omega
                                    subst this; exact hq) e, hq⟩
      refine ⟨y, by omega, h2, fun j h4 h5 => ?_⟩
      by_cases ej : j = n
      · subst ej; exact e
      · exact h3 j h4 (by omega)
/-- Johnson's order. -/
structure JohnO (ts : List Int) (n : Nat) (E : List Int) : Prop where
  perm : E.Perm (idL n)
  front : ∀ p q, p ≤ q → q < n → oA ts E q ≤ oB ts E q → oA ts E p ≤ oB ts E p ∧ oA ts E p ≤ oA ts E q
  back : ∀ p q, p ≤ q → q < n → oB ts E p < oA ts E p → oB ts E q < oA ts E q ∧ oB ts E q ≤ oB ts E p
theorem perm_at {n : Nat} {E F : List Int} (hE : E.Perm (idL n)) (hF : F.Perm (idL n)) {k : Nat} (hk : k < n) : ∃ q, q < n ∧ nth F k = nth E q := by
  have hl : F.length = n := by rw [hF.length_eq, idL_length]
  have h1 : F[k]'(by omega) ∈ E := hE.mem_iff.2 (hF.mem_iff.1 (List.getElem_mem _))
  obtain ⟨q, hq, he⟩ := List.getElem_of_mem h1
  have hl2 : E.length = n := by rw [hE.length_eq, idL_length]
  exact ⟨q, by omega, by rw [nth_eq (by omega), nth_eq hq, he]⟩
theorem perm_nodup {n : Nat} {E : List Int} (hE : E.Perm (idL n)) {p q : Nat} (hp : p < n) (hq : q < n) (h : nth E p = nth E q) : p = q := by
  have hl : E.length = n := by rw [hE.length_eq, idL_length]
  have h2 : (idL n).Nodup := by unfold idL; exact List.Pairwise.map _ (fun a b hab e => hab (by omega)) List.nodup_range
  have h3 : E.Nodup := hE.nodup_iff.2 h2
  rw [nth_eq (by omega), nth_eq (by omega)] at h
  have h4 := List.pairwise_iff_getElem.1 h3
  rcases Nat.lt_trichotomy p q with e | e | e
  · exact absurd h (h4 p q (by omega) (by omega) e)
  · exact e
  · exact absurd h.symm (h4 q p (by omega) (by omega) e)
theorem mem_take {n : Nat} {E : List Int} (hE : E.Perm (idL n)) {q x : Nat} (hq : q < n) (hx : x ≤ n) : nth E q ∈ E.take x ↔ q < x := by
  have hl : E.length = n := by rw [hE.length_eq, idL_length]
  constructor
  · intro h
    obtain ⟨p, hp, he⟩ := List.getElem_of_mem h
    rw [List.length_take] at hp
    rw [List.getElem_take, ← nth_eq] at he
    have := perm_nodup hE (by omega) hq he
    omega
  · intro h
    rw [nth_eq (by omega), ← List.getElem_take (j := x) (h := by rw [List.length_take]; omega)]
    exact List.getElem_mem _
/-- What is compared: each order's ends, by one share for each job. -/
theorem two_le {ts : List Int} {n : Nat} {E F : List Int} (hE : E.Perm (idL n)) (hF : F.Perm (idL n)) (h : TmF ts 2 n F) {x y : Nat} {V d : Int} (hy : y < n) (g : Int → Int) (hV : V = sF (fun k => g (nth E k)) n + d)
    (h1 : ∀ k, k < y → g (nth F k) ≤ oA ts F k) (h2 : g (nth F y) + d ≤ oA ts F y + oB ts F y) (h3 : ∀ k, y < k → k < n → g (nth F k) ≤ oB ts F k) : V ≤ fL ts 2 F := by
  have hl : F.length = n := by rw [hF.length_eq, idL_length]
  have h4 := two_ge h y n (by omega) hy
  have h5 : sF (fun k => g (nth F k) + if k = y then d else 0) n ≤ sF (fun k => (if k ≤ y then oA ts F k else 0) + if y ≤ k then oB ts F k else 0) n := sF_le n fun k hk => by
    rcases Nat.lt_trichotomy k y with e | e | e
    · have := h1 k e
      rw [if_neg (by omega), if_pos (by omega), if_neg (by omega)]; omega
    · subst e
      rw [if_pos rfl, if_pos (by omega), if_pos (by omega)]; exact h2
    · have := h3 k e hk
      rw [if_neg (by omega), if_neg (by omega), if_pos (by omega)]; omega
  have h6 : ∀ m, sF (fun k => if k = y then d else 0) m = if y < m then d else 0 := fun m => by
    induction m with
    | zero => rfl
    | succ m ih => rw [sF_succ, ih]; split <;> split <;> split <;> omega
  rw [sF_add, sF_add, sF_low, sF_high, h6, if_pos hy, Nat.min_eq_right (by omega), Nat.min_eq_right (by omega)] at h5
  have h7 := sF_order g hE
  have h8 := sF_order g hF
  unfold fL
  rw [hl]
  show V ≤ fC ts 2 F n 1
  omega
theorem johnson {ts : List Int} {n : Nat} {E F : List Int} (hJ : JohnO ts n E) (hF : F.Perm (idL n)) (hE1 : TmF ts 2 n E) (hF1 : TmF ts 2 n F) (h1 : 1 ≤ n) : fL ts 2 E ≤ fL ts 2 F := by
  have hE := hJ.perm
  have hl : E.length = n := by rw [hE.length_eq, idL_length]
  obtain ⟨x, hx, hx2⟩ := two_eq hE1 (n - 1) (by omega)
  rw [show n - 1 + 1 = n by omega] at hx2
  have hxn : x < n := by omega
  have hV : fL ts 2 E = sF (oA ts E) (x + 1) + sF (oB ts E) n - sF (oB ts E) x := by unfold fL; rw [hl]; exact hx2
  have hsame : ∀ k, k < n → ∃ q, q < n ∧ nth F k = nth E q ∧ oA ts F k = oA ts E q ∧ oB ts F k = oB ts E q := fun k hk => by
    obtain ⟨q, hq, he⟩ := perm_at hE hF hk
    exact ⟨q, hq, he, by unfold oA; rw [he], by unfold oB; rw [he]⟩
  have hback : ∃ k, k < n ∧ nth E x = nth F k := perm_at hF hE hxn
  by_cases hc : oA ts E x ≤ oB ts E x
  · have hg : ∀ q, q < n → (if nth E q ∈ E.take x then tF ts 2 (nth E q).toNat 0 else tF ts 2 (nth E q).toNat 1) = if q < x then oA ts E q else oB ts E q := fun q hq => by
      by_cases e : q < x
      · rw [if_pos ((mem_take hE hq (by omega)).2 e), if_pos e]; rfl
      · rw [if_neg (fun h => e ((mem_take hE hq (by omega)).1 h)), if_neg e]; rfl
    obtain ⟨k0, hk0, he0⟩ := hback
    obtain ⟨y, hy, ⟨qy, hqy, hey, hqx, hqf⟩, hyl⟩ := first_ex (Q := fun k => ∃ q, q < n ∧ nth F k = nth E q ∧ x ≤ q ∧ oA ts E q ≤ oB ts E q) n ⟨k0, hk0, x, hxn, he0.symm, Nat.le_refl _, hc⟩
    refine two_le (x := x) (d := oA ts E x) hE hF hF1 hy (fun j => if j ∈ E.take x then tF ts 2 j.toNat 0 else tF ts 2 j.toNat 1) ?_ (fun k hk => ?_) ?_ (fun k hk hkn => ?_)
    · rw [hV, sF_congr n (fun q hq => hg q hq)]
      have e1 : sF (fun q => if q < x then oA ts E q else oB ts E q) n = sF (oA ts E) x + (sF (oB ts E) n - sF (oB ts E) x) := by
        have e2 : ∀ m, m ≤ n → sF (fun q => if q < x then oA ts E q else oB ts E q) m = sF (oA ts E) (min m x) + (sF (oB ts E) m - sF (oB ts E) (min m x)) := fun m => by
          induction m with
          | zero => intro _; rw [Nat.zero_min]; rfl
          | succ m ih =>
            intro hm
            rw [sF_succ, ih (by omega)]
            by_cases e : m < x
            · rw [if_pos e, Nat.min_eq_left (by omega), Nat.min_eq_left (by omega), sF_succ]; omega
            · rw [if_neg e, Nat.min_eq_right (by omega), Nat.min_eq_right (by omega), sF_succ]; omega
        have e3 := e2 n (Nat.le_refl _)
        rwa [Nat.min_eq_right (by omega)] at e3
      rw [e1, sF_succ]
      omega
    · obtain ⟨q, hq, he, ea, eb⟩ := hsame k (by omega)
      show (if nth F k ∈ E.take x then tF ts 2 (nth F k).toNat 0 else tF ts 2 (nth F k).toNat 1) ≤ _
      rw [he, hg q hq, ea]
      split
      · exact Int.le_refl _
      · rename_i hqx2
        have : ¬ oA ts E q ≤ oB ts E q := fun hf => hyl k hk ⟨q, hq, he, by omega, hf⟩
        omega
    · show (if nth F y ∈ E.take x then tF ts 2 (nth F y).toNat 0 else tF ts 2 (nth F y).toNat 1) + _ ≤ _
      have ea : oA ts F y = oA ts E qy := by unfold oA; rw [hey]
      have eb : oB ts F y = oB ts E qy := by unfold oB; rw [hey]
      rw [hey, hg qy hqy, ea, eb, if_neg (by omega)]
      have := (hJ.front x qy hqx hqy hqf).2
      omega
    · obtain ⟨q, hq, he, ea, eb⟩ := hsame k hkn
      show (if nth F k ∈ E.take x then tF ts 2 (nth F k).toNat 0 else tF ts 2 (nth F k).toNat 1) ≤ _
      rw [he, hg q hq, eb]
      split
      · rename_i hqx2
        exact (hJ.front q x (by omega) hxn hc).1
      · exact Int.le_refl _
  · have hg : ∀ q, q < n → (if nth E q ∈ E.take (x + 1) then tF ts 2 (nth E q).toNat 0 else tF ts 2 (nth E q).toNat 1) = if q < x + 1 then oA ts E q else oB ts E q := fun q hq => by
      by_cases e : q < x + 1
      · rw [if_pos ((mem_take hE hq (by omega)).2 e), if_pos e]; rfl
      · rw [if_neg (fun h => e ((mem_take hE hq (by omega)).1 h)), if_neg e]; rfl
    obtain ⟨k0, hk0, he0⟩ := hback
    obtain ⟨y, hy, ⟨qy, hqy, hey, hqx, hqf⟩, hyl⟩ := last_ex (Q := fun k => ∃ q, q < n ∧ nth F k = nth E q ∧ q ≤ x ∧ oB ts E q < oA ts E q) n ⟨k0, hk0, x, hxn, he0.symm, Nat.le_refl _, by omega⟩
    refine two_le (x := x) (d := oB ts E x) hE hF hF1 hy (fun j => if j ∈ E.take (x + 1) then tF ts 2 j.toNat 0 else tF ts 2 j.toNat 1) ?_ (fun k hk => ?_) ?_ (fun k hk hkn => ?_)
    · rw [hV, sF_congr n (fun q hq => hg q hq)]
      have e1 : sF (fun q => if q < x + 1 then oA ts E q else oB ts E q) n = sF (oA ts E) (x + 1) + (sF (oB ts E) n - sF (oB ts E) (x + 1)) := by
        have e2 : ∀ m, m ≤ n → sF (fun q => if q < x + 1 then oA ts E q else oB ts E q) m = sF (oA ts E) (min m (x + 1)) + (sF (oB ts E) m - sF (oB ts E) (min m (x + 1))) := fun m => by
          induction m with
          | zero => intro _; rw [Nat.zero_min]; rfl
          | succ m ih =>
            intro hm
            rw [sF_succ, ih (by omega)]
            by_cases e : m < x + 1
            · rw [if_pos e, Nat.min_eq_left (by omega), Nat.min_eq_left (by omega), sF_succ]; omega
            · rw [if_neg e, Nat.min_eq_right (by omega), Nat.min_eq_right (by omega), sF_succ (oB ts E) m]; omega
        have e3 := e2 n (Nat.le_refl _)
        rwa [Nat.min_eq_right (by omega)] at e3
      rw [e1, sF_succ (oB ts E) x]
      omega
    · obtain ⟨q, hq, he, ea, eb⟩ := hsame k (by omega)
      show (if nth F k ∈ E.take (x + 1) then tF ts 2 (nth F k).toNat 0 else tF ts 2 (nth F k).toNat 1) ≤ _
      rw [he, hg q hq, ea]
      split
      · exact Int.le_refl _
      · rename_i hqx2
        have := (hJ.back x q (by omega) hq (by omega)).1
        omega
    · show (if nth F y ∈ E.take (x + 1) then tF ts 2 (nth F y).toNat 0 else tF ts 2 (nth F y).toNat 1) + _ ≤ _
      have ea : oA ts F y = oA ts E qy := by unfold oA; rw [hey]
      have eb : oB ts F y = oB ts E qy := by unfold oB; rw [hey]
      rw [hey, hg qy hqy, ea, eb, if_pos (by omega)]
      have := (hJ.back qy x hqx hxn hqf).2
      omega
    · obtain ⟨q, hq, he, ea, eb⟩ := hsame k hkn
      show (if nth F k ∈ E.take (x + 1) then tF ts 2 (nth F k).toNat 0 else tF ts 2 (nth F k).toNat 1) ≤ _
      rw [he, hg q hq, eb]
      split
      · rename_i hqx2
        have : ¬ oB ts E q < oA ts E q := fun hf => hyl k hk hkn ⟨q, hq, he, by omega, hf⟩
        omega
      · exact Int.le_refl _
end Go.Proofs.Ytckdfahbhagoaaa
