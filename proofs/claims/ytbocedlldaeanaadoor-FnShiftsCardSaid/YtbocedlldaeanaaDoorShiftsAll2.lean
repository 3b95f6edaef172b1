/- A block known whole: what its cells hold through stores, new blocks and contracts. Conditions: none. With texts that it needs. -/
import Derived.Test.YtbocedlldaeanaaDoorShiftsAll1
import Derived.Deep.AppendLies
import Derived.Deep.RegionHeld3
import Derived.RowKit
import Derived.Deep.Slices
import Derived.ChangeArms
namespace Go.Proofs.YtbocedlldaeanaaDoor
open Go.RowKit
set_option linter.unusedVariables false
set_option linter.unusedSimpArgs false

/-- 'append(s, y, ..)' where the region draws its order. -/
theorem step_append_i64 {ops : Array Oper} {o : Oper} {a : Act} {K : Act → World → Prop} {Q : Exit → Act → World → Prop} {E : Prop} {W : World} (hgd : o.guard = none) (s x : Operand)
    (ho : o.op = .call { callee := .builtin .append, args := #[s, x], argTypes := #[33, 33] }) (B : Nat) (v : Value) (xs ys : List Int) (hy : 0 < ys.length)
    (hs : a.eval s = v) (c : Nat) (hx : a.eval x = .slice (some ⟨W.heap.size, 0, none⟩) ys.length c) (hown : OwnI W B v xs) (hB : B ≤ W.heap.size) (hsmall : xs.length + ys.length ≤ 1099511627776)
    (hK : ∀ g c w', OwnI w' B (.slice (some ⟨g, 0, none⟩) (xs.length + ys.length) c) (xs ++ ys) → W.grownBy w' v.ownBlock → K (a.put o.dst (.slice (some ⟨g, 0, none⟩) (xs.length + ys.length) c)) w') :
    if Region.wanted o (yielded ops a.tmps) = true then Oper.wp Tryd.prog o a (W.alloc (.cells (ys.map (Value.int .i64)).toArray 2)).drew K Q else E := by
  obtain ⟨i0, hi, hz0, hz1, hz2⟩ := info_parts info_i64
  have hown' : (W.alloc (.cells (ys.map (Value.int .i64)).toArray 2)).drew.ownsRow B 2 1 v xs.length (xs.map (Value.int .i64)) := World.ownsRow.drew (World.ownsRow.alloc hown _)
  refine step_append_lies _ hgd s x 33 ho B 2 i0 (.int .i64 0) 1 8 Tryd.underlying33 hi hz0 hz1 hz2 rfl (by decide) v xs.length _ hs hown' ⟨W.heap.size, 0, none⟩ ys.length c (ys.map (Value.int .i64)) hx (by simp) (cells_lit W _ _) ?_ hy (by unfold maxLen; omega) (by omega) (by simp; omega) (W.heap.size + 1) (by simp) ?_
  · intro u hu; obtain ⟨y, _, rfl⟩ := List.mem_map.1 hu; rfl
  · intro g cap w' h1 h2 _ _
    have h2' : (W.alloc (.cells (ys.map (Value.int .i64)).toArray 2)).grownBy w' v.ownBlock := ⟨h2.os, h2.tape, h2.output, h2.size, h2.block⟩
    obtain ⟨g', c', he, h3, h4⟩ := app_shape hy hown h1 h2'
    obtain ⟨rfl, rfl⟩ : g = g' ∧ cap = c' := by simpa using he
    exact hK g cap w' h3 h4
end Go.Proofs.YtbocedlldaeanaaDoor

namespace Go.Proofs.YtbocedlldaeanaaDoor
open Go.RowKit
set_option linter.unusedVariables false
set_option linter.unusedSimpArgs false

/-- 'append(s, y, ..)' where the region draws its order; the new slice lies in the old block or in a new one. -/
theorem step_append_i64L {ops : Array Oper} {o : Oper} {a : Act} {K : Act → World → Prop} {Q : Exit → Act → World → Prop} {E : Prop} {W : World} (hgd : o.guard = none) (s x : Operand)
    (ho : o.op = .call { callee := .builtin .append, args := #[s, x], argTypes := #[33, 33] }) (B : Nat) (v : Value) (xs ys : List Int) (hy : 0 < ys.length)
    (hs : a.eval s = v) (c : Nat) (hx : a.eval x = .slice (some ⟨W.heap.size, 0, none⟩) ys.length c) (hown : OwnI W B v xs) (hB : B ≤ W.heap.size) (hsmall : xs.length + ys.length ≤ 1099511627776)
    (hK : ∀ g c w', OwnI w' B (.slice (some ⟨g, 0, none⟩) (xs.length + ys.length) c) (xs ++ ys) → W.grownBy w' v.ownBlock → (v.ownBlock = some g ∨ W.heap.size ≤ g) → K (a.put o.dst (.slice (some ⟨g, 0, none⟩) (xs.length + ys.length) c)) w') :
    if Region.wanted o (yielded ops a.tmps) = true then Oper.wp Tryd.prog o a (W.alloc (.cells (ys.map (Value.int .i64)).toArray 2)).drew K Q else E := by
  obtain ⟨i0, hi, hz0, hz1, hz2⟩ := info_parts info_i64
  have hown' : (W.alloc (.cells (ys.map (Value.int .i64)).toArray 2)).drew.ownsRow B 2 1 v xs.length (xs.map (Value.int .i64)) := World.ownsRow.drew (World.ownsRow.alloc hown _)
  refine step_append_lies _ hgd s x 33 ho B 2 i0 (.int .i64 0) 1 8 Tryd.underlying33 hi hz0 hz1 hz2 rfl (by decide) v xs.length _ hs hown' ⟨W.heap.size, 0, none⟩ ys.length c (ys.map (Value.int .i64)) hx (by simp) (cells_lit W _ _) ?_ hy (by unfold maxLen; omega) (by omega) (by simp; omega) (W.heap.size + 1) (by simp) ?_
  · intro u hu; obtain ⟨y, _, rfl⟩ := List.mem_map.1 hu; rfl
  · intro g cap w' h1 h2 h5 _
    have h2' : (W.alloc (.cells (ys.map (Value.int .i64)).toArray 2)).grownBy w' v.ownBlock := ⟨h2.os, h2.tape, h2.output, h2.size, h2.block⟩
    obtain ⟨g', c', he, h3, h4⟩ := app_shape hy hown h1 h2'
    obtain ⟨rfl, rfl⟩ : g = g' ∧ cap = c' := by simpa using he
    exact hK g cap w' h3 h4 (h5.imp id (fun e => by omega))
/-- .. in a plain list. -/
theorem append_i64L {ops : Array Oper} {rest : List Oper} {o : Oper} {a : Act} {Q : Exit → Act → World → Prop} {W : World} (hgd : o.guard = none) (s x : Operand)
    (ho : o.op = .call { callee := .builtin .append, args := #[s, x], argTypes := #[33, 33] }) (B : Nat) (v : Value) (xs ys : List Int) (hy : 0 < ys.length)
    (hs : a.eval s = v) (c : Nat) (hx : a.eval x = .slice (some ⟨W.heap.size, 0, none⟩) ys.length c) (hown : OwnI W B v xs) (hB : B ≤ W.heap.size) (hsmall : xs.length + ys.length ≤ 1099511627776)
    (hK : ∀ g c w', OwnI w' B (.slice (some ⟨g, 0, none⟩) (xs.length + ys.length) c) (xs ++ ys) → W.grownBy w' v.ownBlock → (v.ownBlock = some g ∨ W.heap.size ≤ g) → wpList Tryd.prog ops Q rest (a.put o.dst (.slice (some ⟨g, 0, none⟩) (xs.length + ys.length) c)) w') :
    wpList Tryd.prog ops Q (o :: rest) a (W.alloc (.cells (ys.map (Value.int .i64)).toArray 2)) := by
  obtain ⟨i0, hi, hz0, hz1, hz2⟩ := info_parts info_i64
  refine wpList_append_lies _ hgd s x 33 ho B 2 i0 (.int .i64 0) 1 8 Tryd.underlying33 hi hz0 hz1 hz2 rfl (by decide) v xs.length _ hs (World.ownsRow.alloc hown _) ⟨W.heap.size, 0, none⟩ ys.length c (ys.map (Value.int .i64)) hx (by simp) (cells_lit W _ _) ?_ hy (by unfold maxLen; omega) (by omega) (by simp; omega) (W.heap.size + 1) (by simp) ?_
  · intro u hu; obtain ⟨y, _, rfl⟩ := List.mem_map.1 hu; rfl
  · intro g cap w' h1 h2 h5 _
    obtain ⟨g', c', he, h3, h4⟩ := app_shape hy hown h1 h2
    obtain ⟨rfl, rfl⟩ : g = g' ∧ cap = c' := by simpa using he
    exact hK g cap w' h3 h4 (h5.imp id (fun e => by omega))
/-- A row of the call's own, cut to its first n elements. -/
theorem OwnI.cut {w : World} {B g n c : Nat} {xs : List Int} (h : OwnI w B (.slice (some ⟨g, 0, none⟩) n c) xs) (k : Nat) (hk : k ≤ xs.length) (hn : n = xs.length) : OwnI w B (.slice (some ⟨g, 0, none⟩) k c) (xs.take k) := by
  subst hn
  refine ⟨by simp, ?_⟩
  rcases h.2 with ⟨h1, _⟩ | ⟨g', cap, cur, h1, h2, h3, h4, h5, h6, h7⟩
  · cases h1
  · obtain ⟨rfl, rfl⟩ : g = g' ∧ c = cap := by simpa using h1
    have hl : (xs.take k).length = k := by simp; omega
    refine .inr ⟨g, c, cur, by rw [hl], h2, h3, by rw [hl]; omega, h5, h6, ?_⟩
    rw [hl, List.map_take, ← h7, List.take_take]
    congr 1; omega
end Go.Proofs.YtbocedlldaeanaaDoor

namespace Go.Proofs.YtbocedlldaeanaaDoor
open Go.RowKit
set_option linter.unusedVariables false
set_option linter.unusedSimpArgs false

/-- A rule of shifts. -/
structure ShR where
  slots : Int
  least : Int
  most : Int
  row : Int
  pause : Int
/-- How far a shift has come. -/
structure ShS where
  slot : Int
  worked : Int
  row : Int
  pause : Int
  begun : Bool

theorem ShS.same {a b : ShS} (h1 : a.slot = b.slot) (h2 : a.worked = b.worked) (h3 : a.row = b.row) (h4 : a.pause = b.pause) (h5 : a.begun = b.begun) : a = b := by
  cases a; cases b; simp_all

def ShR.Ok (r : ShR) : Prop := 1 ≤ r.slots ∧ r.slots ≤ 24 ∧ 0 ≤ r.least ∧ r.least ≤ r.most ∧ r.most ≤ r.slots ∧ 1 ≤ r.row ∧ r.row ≤ r.slots ∧ 1 ≤ r.pause ∧ r.pause ≤ r.slots

/-- Whether a slot may not be worked. -/
def nxBad (r : ShR) (s : ShS) : Bool := (s.begun && decide (s.row = 0) && decide (s.pause < r.pause)) || decide (s.row = r.row) || decide (s.worked = r.most)
def nxB (r : ShR) (s : ShS) (w : Bool) : Bool := !(decide (s.slot = r.slots)) && !(w && nxBad r s)
/-- The state behind a slot that may be so. -/
def nxF (r : ShR) (s : ShS) : ShS := ⟨s.slot + 1, s.worked, 0, min (s.pause + 1) r.pause, s.begun⟩
def nxW (s : ShS) : ShS := ⟨s.slot + 1, s.worked + 1, s.row + 1, 0, true⟩
def nxS (r : ShR) (s : ShS) (w : Bool) : ShS := if w then nxW s else nxF r s

/-- The words behind a state, in their order. -/
def wsS (r : ShR) : Nat → ShS → List (List UInt8)
  | 0, s => if r.least ≤ s.worked then [[]] else []
  | n + 1, s => (if nxB r s false then (wsS r n (nxF r s)).map (46 :: ·) else []) ++ (if nxB r s true then (wsS r n (nxW s)).map (119 :: ·) else [])
/-- How many they are. -/
def cntS (r : ShR) : Nat → ShS → Nat
  | 0, s => if r.least ≤ s.worked then 1 else 0
  | n + 1, s => (if nxB r s false then cntS r n (nxF r s) else 0) + (if nxB r s true then cntS r n (nxW s) else 0)

theorem wsS_len (r : ShR) : ∀ n s, (wsS r n s).length = cntS r n s
  | 0, s => by unfold wsS cntS; split <;> rfl
  | n + 1, s => by
    unfold wsS cntS
    rw [List.length_append]
    congr 1
    · split
      · rw [List.length_map, wsS_len]
      · rfl
    · split
      · rw [List.length_map, wsS_len]
      · rfl
theorem cntS_le (r : ShR) : ∀ n s, cntS r n s ≤ 2 ^ n
  | 0, s => by unfold cntS; split <;> simp
  | n + 1, s => by
    unfold cntS
    have h1 := cntS_le r n (nxF r s); have h2 := cntS_le r n (nxW s)
    rw [Nat.pow_succ]
    split <;> split <;> omega

theorem nxF_slot (r : ShR) (s : ShS) : (nxF r s).slot = s.slot + 1 := rfl
theorem nxW_slot (s : ShS) : (nxW s).slot = s.slot + 1 := rfl

/-- A text is gone through from a state. -/
def goT (r : ShR) : ShS → List UInt8 → Option ShS
  | s, [] => some s
  | s, b :: t => if nxB r s (b == 119) then goT r (nxS r s (b == 119)) t else none
/-- Whether a text is a shift. -/
def isT (r : ShR) (s : ShS) (t : List UInt8) : Bool := match goT r s t with
  | some e => decide (r.least ≤ e.worked)
  | none => false

theorem isT_cons (r : ShR) (s : ShS) (b : UInt8) (t : List UInt8) : isT r s (b :: t) = (nxB r s (b == 119) && isT r (nxS r s (b == 119)) t) := by
  unfold isT
  rw [goT]
  cases nxB r s (b == 119) <;> simp
theorem isT_nil (r : ShR) (s : ShS) : isT r s [] = decide (r.least ≤ s.worked) := rfl

def isDW (b : UInt8) : Bool := b == 46 || b == 119

theorem mem_wsS (r : ShR) : ∀ n s t, t ∈ wsS r n s ↔ t.length = n ∧ t.all isDW = true ∧ isT r s t = true
  | 0, s, t => by
    unfold wsS
    cases t with
    | nil => rw [isT_nil]; split <;> simp [*]
    | cons b t => split <;> simp
  | n + 1, s, t => by
    unfold wsS
    rw [List.mem_append]
    cases t with
    | nil =>
      constructor
      · rintro (h | h) <;> (split at h <;> simp at h)
      · intro h; simp at h
    | cons b t =>
      have e1 : (b :: t ∈ if nxB r s false then (wsS r n (nxF r s)).map (46 :: ·) else []) ↔ (b = 46 ∧ nxB r s false = true ∧ t ∈ wsS r n (nxF r s)) := by
        split
        · rename_i h
          simp only [List.mem_map, List.cons.injEq, h, true_and]
          constructor
          · rintro ⟨u, hu, rfl, rfl⟩; exact ⟨rfl, hu⟩
          · rintro ⟨rfl, hu⟩; exact ⟨t, hu, rfl, rfl⟩
        · rename_i h; simp [h]
      have e2 : (b :: t ∈ if nxB r s true then (wsS r n (nxW s)).map (119 :: ·) else []) ↔ (b = 119 ∧ nxB r s true = true ∧ t ∈ wsS r n (nxW s)) := by
        split
        · rename_i h
          simp only [List.mem_map, List.cons.injEq, h, true_and]
          constructor
          · rintro ⟨u, hu, rfl, rfl⟩; exact ⟨rfl, hu⟩
          · rintro ⟨rfl, hu⟩; exact ⟨t, hu, rfl, rfl⟩
        · rename_i h; simp [h]
      rw [e1, e2, mem_wsS r n (nxF r s) t, mem_wsS r n (nxW s) t, isT_cons, List.length_cons, List.all_cons]
      constructor
      · rintro (⟨rfl, h1, h2, h3, h4⟩ | ⟨rfl, h1, h2, h3, h4⟩)
        · refine ⟨by omega, by rw [h3]; rfl, ?_⟩
          have : ((46 : UInt8) == 119) = false := rfl
          rw [this, h1]; unfold nxS; simpa using h4
        · refine ⟨by omega, by rw [h3]; rfl, ?_⟩
          have : ((119 : UInt8) == 119) = true := rfl
          rw [this, h1]; unfold nxS; simpa using h4
      · rintro ⟨h1, h2, h3⟩
        rw [Bool.and_eq_true] at h2 h3
        obtain ⟨hb, h2⟩ := h2
        obtain ⟨h3, h4⟩ := h3
        unfold isDW at hb
        rw [Bool.or_eq_true, beq_iff_eq, beq_iff_eq] at hb
        rcases hb with rfl | rfl
        · have : ((46 : UInt8) == 119) = false := rfl
          rw [this] at h3 h4
          exact .inl ⟨rfl, h3, by omega, h2, by unfold nxS at h4; simpa using h4⟩
        · have : ((119 : UInt8) == 119) = true := rfl
          rw [this] at h3 h4
          exact .inr ⟨rfl, h3, by omega, h2, by unfold nxS at h4; simpa using h4⟩

/-- The words, one behind the other in the order of texts. -/
def ltT : List UInt8 → List UInt8 → Prop
  | [], [] => False
  | [], _ :: _ => True
  | _ :: _, [] => False
  | a :: s, b :: t => a < b ∨ a = b ∧ ltT s t
theorem wsS_rise (r : ShR) : ∀ n s, (wsS r n s).Pairwise ltT
  | 0, s => by unfold wsS; split <;> simp
  | n + 1, s => by
    have hm : ∀ (c : UInt8) (l : List (List UInt8)), l.Pairwise ltT → (l.map (c :: ·)).Pairwise ltT := fun c l h => by
      rw [List.pairwise_map]
      exact h.imp fun h' => .inr ⟨rfl, h'⟩
    unfold wsS
    rw [List.pairwise_append]
    refine ⟨?_, ?_, ?_⟩
    · split
      · exact hm 46 _ (wsS_rise r n _)
      · exact List.Pairwise.nil
    · split
      · exact hm 119 _ (wsS_rise r n _)
      · exact List.Pairwise.nil
    · intro a ha b hb
      split at ha
      · split at hb
        · obtain ⟨a', _, rfl⟩ := List.mem_map.1 ha
          obtain ⟨b', _, rfl⟩ := List.mem_map.1 hb
          exact .inl (by decide)
        · simp at hb
      · simp at ha

/-- The word behind a word. -/
def nextW (r : ShR) : Nat → ShS → List UInt8 → Option (List UInt8)
  | _, _, [] => none
  | 0, _, _ :: _ => none
  | n + 1, s, b :: t =>
    match nextW r n (nxS r s (b == 119)) t with
    | some u => some (b :: u)
    | none => if b == 119 then none else if nxB r s true then ((wsS r n (nxW s)).head?).map (119 :: ·) else none

theorem nextW_ws (r : ShR) : ∀ n s i t, (wsS r n s)[i]? = some t → nextW r n s t = (wsS r n s)[i + 1]?
  | 0, s, i, t, h => by
    unfold wsS at h ⊢
    split at h
    · rename_i hl
      rw [if_pos hl]
      cases i with
      | zero => simp at h; subst h; rfl
      | succ i => simp at h
    · simp at h
  | n + 1, s, i, t, h => by
    have hh : ∀ (c : UInt8) (l : List (List UInt8)) (j : Nat), (l.map (c :: ·))[j]? = (l[j]?).map (c :: ·) := fun c l j => List.getElem?_map
    unfold wsS at h ⊢
    generalize hA : (if nxB r s false then (wsS r n (nxF r s)).map (46 :: ·) else []) = A at h ⊢
    generalize hC : (if nxB r s true then (wsS r n (nxW s)).map (119 :: ·) else []) = C at h ⊢
    by_cases hi : i < A.length
    · rw [List.getElem?_append_left hi] at h
      by_cases hf : nxB r s false = true
      · rw [if_pos hf] at hA
        subst hA
        rw [hh] at h
        obtain ⟨u, hu, rfl⟩ := Option.map_eq_some_iff.1 h
        have ih := nextW_ws r n (nxF r s) i u hu
        have e0 : ((46 : UInt8) == 119) = false := rfl
        unfold nextW
        rw [e0]
        show (match nextW r n (nxF r s) u with | some u => some (46 :: u) | none => _) = _
        rw [ih]
        rw [List.length_map] at hi
        by_cases h1 : i + 1 < (wsS r n (nxF r s)).length
        · rw [List.getElem?_append_left (by rw [List.length_map]; exact h1), hh, List.getElem?_eq_getElem h1]
          rfl
        · have h2 : i + 1 = (wsS r n (nxF r s)).length := by omega
          rw [List.getElem?_append_right (by rw [List.length_map]; omega), List.length_map, h2, Nat.sub_self, List.getElem?_eq_none (Nat.le_refl _)]
          subst hC
          by_cases hw : nxB r s true = true
          · rw [if_pos hw]
            simp only [Bool.false_eq_true, if_false, hw, if_true]
            rw [hh, List.head?_eq_getElem?]
          · rw [if_neg hw]
            simp [hw]
      · rw [if_neg hf] at hA
        subst hA
        simp at hi
    · rw [List.getElem?_append_right (by omega)] at h
      rw [List.getElem?_append_right (by omega)]
      by_cases hw : nxB r s true = true
      · rw [if_pos hw] at hC
        subst hC
        rw [hh] at h
        obtain ⟨u, hu, rfl⟩ := Option.map_eq_some_iff.1 h
        have ih := nextW_ws r n (nxW s) _ u hu
        have e0 : ((119 : UInt8) == 119) = true := rfl
        unfold nextW
        rw [e0]
        show (match nextW r n (nxW s) u with | some u => some (119 :: u) | none => _) = _
        rw [ih, hh, show i + 1 - A.length = i - A.length + 1 by omega]
        cases (wsS r n (nxW s))[i - A.length + 1]? <;> rfl
      · rw [if_neg hw] at hC
        subst hC
        simp at h
end Go.Proofs.YtbocedlldaeanaaDoor

namespace Go.Proofs.YtbocedlldaeanaaDoor
open Go.RowKit
set_option linter.unusedVariables false
set_option linter.unusedSimpArgs false

/-- The state behind the first slots of a text. -/
def stAt (r : ShR) : ShS → List UInt8 → Nat → ShS
  | s, _, 0 => s
  | s, [], _ + 1 => s
  | s, b :: t, i + 1 => stAt r (nxS r s (b == 119)) t i
/-- The states ahead of all slots, and behind the last one. -/
def stL (r : ShR) : ShS → List UInt8 → List ShS
  | s, [] => [s]
  | s, b :: t => s :: stL r (nxS r s (b == 119)) t
theorem stL_length (r : ShR) : ∀ s t, (stL r s t).length = t.length + 1
  | s, [] => rfl
  | s, b :: t => by unfold stL; rw [List.length_cons, stL_length]; rfl
theorem stL_at (r : ShR) : ∀ s t i, i ≤ t.length → (stL r s t)[i]? = some (stAt r s t i)
  | s, [], 0, _ => rfl
  | s, [], i + 1, h => by simp at h
  | s, b :: t, 0, _ => rfl
  | s, b :: t, i + 1, h => by
    unfold stL stAt
    rw [List.getElem?_cons_succ, stL_at r _ t i (by simpa using h)]
theorem stAt_take (r : ShR) : ∀ s t i, stAt r s (t.take i) i = stAt r s t i
  | s, [], 0 => rfl
  | s, [], i + 1 => rfl
  | s, b :: t, 0 => rfl
  | s, b :: t, i + 1 => by rw [List.take_succ_cons]; unfold stAt; exact stAt_take r _ t i

theorem stAt_succ (r : ShR) : ∀ s t i (h : i < t.length), stAt r s t (i + 1) = nxS r (stAt r s t i) (t[i] == 119)
  | s, [], i, h => by simp at h
  | s, b :: t, 0, h => by
    show stAt r _ t 0 = _
    cases t <;> rfl
  | s, b :: t, i + 1, h => by
    show stAt r (nxS r s (b == 119)) t (i + 1) = nxS r (stAt r (nxS r s (b == 119)) t i) _
    rw [stAt_succ r _ t i (by simpa using h)]
    rfl
theorem stAt_slot (r : ShR) : ∀ s t i, i ≤ t.length → (stAt r s t i).slot = s.slot + i
  | s, _, 0, _ => by rw [stAt]; simp
  | s, [], i + 1, h => by simp at h
  | s, b :: t, i + 1, h => by
    unfold stAt
    rw [stAt_slot r _ t i (by simpa using h)]
    unfold nxS
    split
    · show s.slot + 1 + _ = _; omega
    · show s.slot + 1 + _ = _; omega

/-- A text is gone through if each of its slots may be so. -/
theorem goT_take (r : ShR) : ∀ s t, goT r s t = (if ∀ i, (h : i < t.length) → nxB r (stAt r s t i) (t[i] == 119) = true then some (stAt r s t t.length) else none)
  | s, [] => by
    rw [if_pos (fun i h => by simp at h)]
    rfl
  | s, b :: t => by
    rw [goT]
    by_cases h0 : nxB r s (b == 119) = true
    · rw [if_pos h0, goT_take r _ t]
      by_cases h1 : ∀ i, (h : i < t.length) → nxB r (stAt r (nxS r s (b == 119)) t i) (t[i] == 119) = true
      · rw [if_pos h1, if_pos]
        · rfl
        · intro i h
          cases i with
          | zero => exact h0
          | succ i => exact h1 i (by simpa using h)
      · rw [if_neg h1, if_neg]
        intro h
        exact h1 fun i hi => h (i + 1) (by simpa using hi)
    · rw [if_neg h0, if_neg]
      intro h
      exact h0 (h 0 (by simp))

/-- What is found where a slot that is free is worked. -/
def tryS (r : ShR) (n : Nat) (s : ShS) (t : List UInt8) (i : Nat) : Option (List UInt8) :=
  if t.getD i 0 = 119 then none
  else if nxB r (stAt r s t i) true then ((wsS r (n - i - 1) (nxW (stAt r s t i))).head?).map (fun u => t.take i ++ 119 :: u) else none
def scanS (r : ShR) (n : Nat) (s : ShS) (t : List UInt8) : Nat → Option (List UInt8)
  | 0 => none
  | i + 1 => match tryS r n s t i with
    | some u => some u
    | none => scanS r n s t i

theorem tryS_cons (r : ShR) (n : Nat) (s : ShS) (b : UInt8) (t : List UInt8) (i : Nat) : tryS r (n + 1) s (b :: t) (i + 1) = (tryS r n (nxS r s (b == 119)) t i).map (b :: ·) := by
  unfold tryS
  rw [show (b :: t).getD (i + 1) 0 = t.getD i 0 by simp, show n + 1 - (i + 1) - 1 = n - i - 1 by omega]
  show (if t.getD i 0 = 119 then none else if nxB r (stAt r (nxS r s (b == 119)) t i) true then ((wsS r (n - i - 1) (nxW (stAt r (nxS r s (b == 119)) t i))).head?).map (fun u => (b :: t).take (i + 1) ++ 119 :: u) else none) = _
  split
  · rfl
  · split
    · rw [Option.map_map]; rfl
    · rfl
theorem scanS_cons (r : ShR) (n : Nat) (s : ShS) (b : UInt8) (t : List UInt8) : ∀ k, scanS r (n + 1) s (b :: t) (k + 1) = (match scanS r n (nxS r s (b == 119)) t k with | some u => some (b :: u) | none => tryS r (n + 1) s (b :: t) 0)
  | 0 => by
    unfold scanS scanS
    cases tryS r (n + 1) s (b :: t) 0 <;> rfl
  | k + 1 => by
    rw [scanS, tryS_cons, scanS_cons r n s b t k]
    rw [show scanS r n (nxS r s (b == 119)) t (k + 1) = (match tryS r n (nxS r s (b == 119)) t k with | some u => some u | none => scanS r n (nxS r s (b == 119)) t k) from rfl]
    cases tryS r n (nxS r s (b == 119)) t k <;> rfl
theorem scanS_next (r : ShR) : ∀ n s t, t.length = n → scanS r n s t n = nextW r n s t
  | 0, s, [], _ => rfl
  | 0, s, b :: t, h => by simp at h
  | n + 1, s, [], h => by simp at h
  | n + 1, s, b :: t, h => by
    rw [scanS_cons, scanS_next r n _ t (by simpa using h), nextW]
    cases nextW r n (nxS r s (b == 119)) t with
    | some u => rfl
    | none =>
      unfold tryS
      rw [show (b :: t).getD 0 0 = b from rfl, show n + 1 - 0 - 1 = n by omega]
      simp only [stAt, List.take_zero, List.nil_append, beq_iff_eq]
      rfl

/-- The law's own test. -/
def r8S (r : ShR) : Int → Int → Int → List UInt8 → Bool
  | w, _, _, [] => decide (r.least ≤ w) && decide (w ≤ r.most)
  | w, row, free, b :: t => if b ≠ 119 then r8S r w 0 (free + 1) t
    else if w > 0 ∧ free > 0 ∧ free < r.pause then false
    else if row + 1 > r.row then false else r8S r (w + 1) (row + 1) 0 t
theorem r8S_over (r : ShR) : ∀ t w row free, r.most < w → r8S r w row free t = false
  | [], w, row, free, h => by
    unfold r8S
    rw [decide_eq_false (p := w ≤ r.most) (by omega), Bool.and_false]
  | b :: t, w, row, free, h => by
    unfold r8S
    split
    · exact r8S_over r t _ _ _ h
    · split
      · rfl
      · split
        · rfl
        · exact r8S_over r t _ _ _ (by omega)
theorem r8S_isT (r : ShR) (hr : r.Ok) : ∀ t (s : ShS) free, s.slot + t.length = r.slots → s.worked ≤ r.most → s.row ≤ r.row → 0 ≤ s.row → 0 ≤ s.worked → 0 ≤ free → s.pause = min free r.pause → (s.begun = true ↔ 0 < s.worked) → (s.begun = true → (s.row = 0 ↔ 0 < free)) → (s.begun = false → s.row = 0) →
    r8S r s.worked s.row free t = isT r s t
  | [], s, free, h1, h2, h3, h4, h5, h6, h7, h8, h9, h10 => by
    rw [isT_nil]
    unfold r8S
    rw [decide_eq_true (p := s.worked ≤ r.most) h2, Bool.and_true]
  | b :: t, s, free, h1, h2, h3, h4, h5, h6, h7, h8, h9, h10 => by
    obtain ⟨o1, o2, o3, o4, o5, o6, o7, o8, o9⟩ := hr
    have hs : s.slot ≠ r.slots := by rw [List.length_cons] at h1; omega
    have hlen : s.slot + 1 + (t.length : Int) = r.slots := by rw [List.length_cons] at h1; omega
    rw [isT_cons]
    unfold r8S nxB
    rw [decide_eq_false hs]
    by_cases hb : b = 119
    · subst hb
      have e0 : ((119 : UInt8) == 119) = true := rfl
      rw [e0, if_neg (by simp)]
      simp only [Bool.not_false, Bool.true_and]
      have hbad : nxBad r s = true ↔ (0 < s.worked ∧ 0 < free ∧ free < r.pause) ∨ s.row = r.row ∨ s.worked = r.most := by
        unfold nxBad
        simp only [Bool.or_eq_true, Bool.and_eq_true, decide_eq_true_eq]
        constructor
        · rintro ((⟨⟨a, b⟩, c⟩ | a) | a)
          · exact .inl ⟨h8.1 a, (h9 a).1 b, by omega⟩
          · exact .inr (.inl a)
          · exact .inr (.inr a)
        · rintro (⟨a, b, c⟩ | a | a)
          · exact .inl (.inl ⟨⟨h8.2 a, (h9 (h8.2 a)).2 b⟩, by omega⟩)
          · exact .inl (.inr a)
          · exact .inr a
      by_cases hx : nxBad r s = true
      · rw [hx]
        simp only [Bool.not_true, Bool.false_and]
        rcases hbad.1 hx with h | h | h
        · rw [if_pos h]
        · split
          · rfl
          · rw [if_pos (by omega)]
        · split
          · rfl
          · split
            · rfl
            · exact r8S_over r t _ _ _ (by omega)
      · have hn := fun hh => hx (hbad.2 hh)
        rw [Bool.not_eq_true] at hx
        rw [hx]
        simp only [Bool.not_false, Bool.true_and]
        rw [if_neg (fun h => hn (.inl h)), if_neg (by have : s.row ≠ r.row := fun h => hn (.inr (.inl h)); omega)]
        have := r8S_isT r ⟨o1, o2, o3, o4, o5, o6, o7, o8, o9⟩ t (nxW s) 0 hlen (by show s.worked + 1 ≤ _; have : s.worked ≠ r.most := fun h => hn (.inr (.inr h)); omega) (by show s.row + 1 ≤ _; have : s.row ≠ r.row := fun h => hn (.inr (.inl h)); omega) (by show 0 ≤ s.row + 1; omega) (by show 0 ≤ s.worked + 1; omega) (by omega) (by show (0 : Int) = _; omega) (by show true = true ↔ 0 < s.worked + 1; constructor <;> intro _ <;> first | rfl | omega) (fun _ => by show s.row + 1 = 0 ↔ _; omega) (by intro h; exact absurd h (by show ¬ true = false; simp))
        exact this
    · have e0 : (b == 119) = false := by rw [beq_eq_false_iff_ne]; exact hb
      rw [e0, if_pos hb]
      simp only [Bool.not_false, Bool.false_and, Bool.true_and]
      have := r8S_isT r ⟨o1, o2, o3, o4, o5, o6, o7, o8, o9⟩ t (nxF r s) (free + 1) hlen h2 (by show (0 : Int) ≤ _; omega) (by show (0 : Int) ≤ 0; omega) h5 (by omega) (by show min (s.pause + 1) r.pause = _; omega) h8 (fun _ => by show (0 : Int) = 0 ↔ _; simp; omega) (fun _ => rfl)
      exact this

/-- The text of a number. -/
def bitT : Nat → Nat → List UInt8
  | 0, _ => []
  | n + 1, x => (if x % 2 = 1 then 119 else 46) :: bitT n (x / 2)
theorem bitT_length : ∀ n x, (bitT n x).length = n
  | 0, _ => rfl
  | n + 1, x => by unfold bitT; rw [List.length_cons, bitT_length]
theorem bitT_at : ∀ n x k, k < n → (bitT n x)[k]? = some (if x / 2 ^ k % 2 = 1 then 119 else 46)
  | 0, x, k, h => absurd h (Nat.not_lt_zero _)
  | n + 1, x, 0, h => by unfold bitT; simp
  | n + 1, x, k + 1, h => by
    unfold bitT
    rw [List.getElem?_cons_succ, bitT_at n _ k (by omega), Nat.pow_succ, Nat.mul_comm, ← Nat.div_div_eq_div_mul]
theorem bitT_all : ∀ n x, (bitT n x).all isDW = true
  | 0, _ => rfl
  | n + 1, x => by
    unfold bitT
    rw [List.all_cons, bitT_all n, Bool.and_true]
    split <;> rfl
/-- How many of the first numbers do. -/
def cntX (p : Nat → Bool) : Nat → Nat
  | 0 => 0
  | m + 1 => cntX p m + (if p m then 1 else 0)
theorem cntX_two (p : Nat → Bool) : ∀ m, cntX p (2 * m) = cntX (fun y => p (2 * y)) m + cntX (fun y => p (2 * y + 1)) m
  | 0 => rfl
  | m + 1 => by
    rw [show 2 * (m + 1) = 2 * m + 1 + 1 by omega, cntX, cntX, cntX_two p m, cntX, cntX]
    omega
theorem cntX_congr {p q : Nat → Bool} (h : ∀ x, p x = q x) : ∀ m, cntX p m = cntX q m
  | 0 => rfl
  | m + 1 => by rw [cntX, cntX, cntX_congr h m, h]
theorem cntX_false : ∀ m, cntX (fun _ => false) m = 0
  | 0 => rfl
  | m + 1 => by rw [cntX, cntX_false m]; rfl
theorem cntX_le (p : Nat → Bool) : ∀ m, cntX p m ≤ m
  | 0 => Nat.le_refl _
  | m + 1 => by rw [cntX]; have := cntX_le p m; split <;> omega
theorem cntX_ws (r : ShR) : ∀ n s, cntX (fun x => isT r s (bitT n x)) (2 ^ n) = cntS r n s
  | 0, s => by
    show 0 + (if isT r s [] then 1 else 0) = _
    rw [isT_nil]
    unfold cntS
    by_cases h : r.least ≤ s.worked
    · rw [decide_eq_true h]; simp [h]
    · rw [decide_eq_false h]; simp [h]
  | n + 1, s => by
    have e1 : ∀ y, bitT (n + 1) (2 * y) = 46 :: bitT n y := fun y => by
      show (if 2 * y % 2 = 1 then (119 : UInt8) else 46) :: bitT n (2 * y / 2) = _
      rw [if_neg (by omega), show 2 * y / 2 = y by omega]
    have e2 : ∀ y, bitT (n + 1) (2 * y + 1) = 119 :: bitT n y := fun y => by
      show (if (2 * y + 1) % 2 = 1 then (119 : UInt8) else 46) :: bitT n ((2 * y + 1) / 2) = _
      rw [if_pos (by omega), show (2 * y + 1) / 2 = y by omega]
    rw [Nat.pow_succ, Nat.mul_comm, cntX_two]
    unfold cntS
    congr 1
    · rw [cntX_congr (q := fun y => nxB r s false && isT r (nxF r s) (bitT n y)) (fun y => by rw [e1, isT_cons]; rfl)]
      by_cases h : nxB r s false = true
      · rw [if_pos h, h, ← cntX_ws r n (nxF r s)]
        simp
      · rw [if_neg h, Bool.not_eq_true] at *
        rw [h]
        simp [cntX_false]
    · rw [cntX_congr (q := fun y => nxB r s true && isT r (nxW s) (bitT n y)) (fun y => by rw [e2, isT_cons]; rfl)]
      by_cases h : nxB r s true = true
      · rw [if_pos h, h, ← cntX_ws r n (nxW s)]
        simp
      · rw [if_neg h, Bool.not_eq_true] at *
        rw [h]
        simp [cntX_false]
end Go.Proofs.YtbocedlldaeanaaDoor

namespace Go.Proofs.YtbocedlldaeanaaDoor
open Go.RowKit
set_option linter.unusedVariables false
set_option linter.unusedSimpArgs false

/-- Whether a text works in a slot. -/
def isW (t : ByteArray) (k : Nat) : Bool := t.data.toList.getD k 0 == 119
theorem isW_at {t : ByteArray} {k : Nat} (h : k < t.size) : isW t k = decide ((t[k].toNat : Int) = 119) := by
  unfold isW
  have e : t.data.toList.getD k 0 = t[k] := by
    rw [List.getD_eq_getElem?_getD, List.getElem?_eq_getElem (by simpa using h)]
    simp
    rfl
  rw [e]
  rw [Bool.eq_iff_iff, beq_iff_eq, decide_eq_true_iff]
  constructor
  · intro h; rw [h]; rfl
  · intro h
    have : t[k].toNat = 119 := by omega
    exact UInt8.toNat_inj.1 (by rw [this]; rfl)

/-- How many work in a slot. -/
def covL : List ByteArray → List Int → Nat → Int
  | t :: ts, c :: cs, k => (if isW t k then c else 0) + covL ts cs k
  | _, _, _ => 0
def filS : List ByteArray → List Int → List ByteArray
  | t :: ts, c :: cs => if 0 < c then t :: filS ts cs else filS ts cs
  | _, _ => []
def filC : List ByteArray → List Int → List Int
  | t :: ts, c :: cs => if 0 < c then c :: filC ts cs else filC ts cs
  | _, _ => []

theorem covL_fil : ∀ (ts : List ByteArray) (cs : List Int) k, (∀ c ∈ cs, 0 ≤ c) → covL (filS ts cs) (filC ts cs) k = covL ts cs k
  | [], cs, k, _ => by simp [filS, filC, covL]
  | t :: ts, [], k, _ => by simp [filS, filC, covL]
  | t :: ts, c :: cs, k, h => by
    have ih := covL_fil ts cs k (fun x hx => h x (List.mem_cons_of_mem _ hx))
    have h0 := h c (by simp)
    unfold filS filC
    by_cases hc : 0 < c
    · rw [if_pos hc, if_pos hc, covL, covL, ih]
    · rw [if_neg hc, if_neg hc, covL, ih, show c = 0 by omega]
      simp
theorem fil_len : ∀ (ts : List ByteArray) (cs : List Int), (filS ts cs).length = (filC ts cs).length
  | [], cs => by simp [filS, filC]
  | t :: ts, [] => by simp [filS, filC]
  | t :: ts, c :: cs => by
    unfold filS filC
    split
    · rw [List.length_cons, List.length_cons, fil_len]
    · exact fil_len ts cs
theorem filS_len : ∀ (ts : List ByteArray) (cs : List Int), (filS ts cs).length ≤ ts.length
  | [], cs => by simp [filS]
  | t :: ts, [] => by simp [filS]
  | t :: ts, c :: cs => by
    unfold filS
    have := filS_len ts cs
    split
    · rw [List.length_cons, List.length_cons]; omega
    · rw [List.length_cons]; omega
theorem filS_mem : ∀ (ts : List ByteArray) (cs : List Int) x, x ∈ filS ts cs → x ∈ ts
  | [], cs, x, h => by simp [filS] at h
  | t :: ts, [], x, h => by simp [filS] at h
  | t :: ts, c :: cs, x, h => by
    unfold filS at h
    split at h
    · rcases List.mem_cons.1 h with rfl | h
      · simp
      · exact List.mem_cons_of_mem _ (filS_mem ts cs x h)
    · exact List.mem_cons_of_mem _ (filS_mem ts cs x h)
theorem filC_mem : ∀ (ts : List ByteArray) (cs : List Int) x, x ∈ filC ts cs → x ∈ cs ∧ 0 < x
  | [], cs, x, h => by simp [filC] at h
  | t :: ts, [], x, h => by simp [filC] at h
  | t :: ts, c :: cs, x, h => by
    unfold filC at h
    split at h
    · rename_i hc
      rcases List.mem_cons.1 h with rfl | h
      · exact ⟨by simp, hc⟩
      · obtain ⟨h1, h2⟩ := filC_mem ts cs x h
        exact ⟨List.mem_cons_of_mem _ h1, h2⟩
    · obtain ⟨h1, h2⟩ := filC_mem ts cs x h
      exact ⟨List.mem_cons_of_mem _ h1, h2⟩
theorem fil_snoc : ∀ (ts : List ByteArray) (cs : List Int) t c, ts.length = cs.length → filS (ts ++ [t]) (cs ++ [c]) = filS ts cs ++ (if 0 < c then [t] else []) ∧ filC (ts ++ [t]) (cs ++ [c]) = filC ts cs ++ (if 0 < c then [c] else [])
  | [], [], t, c, _ => by simp [filS, filC]
  | [], _ :: _, _, _, h => by simp at h
  | _ :: _, [], _, _, h => by simp at h
  | t' :: ts, c' :: cs, t, c, h => by
    obtain ⟨h1, h2⟩ := fil_snoc ts cs t c (by simpa using h)
    rw [List.cons_append, List.cons_append]
    unfold filS filC
    rw [h1, h2]
    constructor <;> (split <;> rfl)
theorem fil_none : ∀ (ts : List ByteArray) (cs : List Int), ts.length = cs.length → (∀ c ∈ cs, 0 ≤ c) → filS ts cs = [] → ∀ k, covL ts cs k = 0
  | [], _, _, _, _, k => by simp [covL]
  | _ :: _, [], _, _, _, k => by simp [covL]
  | t :: ts, c :: cs, hl, h, he, k => by
    unfold filS at he
    split at he
    · simp at he
    · rename_i hc
      have h0 := h c (by simp)
      rw [covL, fil_none ts cs (by simpa using hl) (fun x hx => h x (List.mem_cons_of_mem _ hx)) he, show c = 0 by omega]
      simp
theorem covL_set : ∀ (ts : List ByteArray) (cs : List Int) i (hi : i < ts.length) (_ : ts.length = cs.length) k, covL ts (cs.set i (nth cs i + 1)) k = covL ts cs k + (if isW ts[i] k then 1 else 0)
  | [], _, i, hi, _, _ => by simp at hi
  | _ :: _, [], _, _, h, _ => by simp at h
  | t :: ts, c :: cs, 0, hi, hl, k => by
    show covL (t :: ts) ((c + 1) :: cs) k = _
    rw [covL, covL]
    show _ = _ + (if isW t k then 1 else 0)
    split <;> omega
  | t :: ts, c :: cs, i + 1, hi, hl, k => by
    have ih := covL_set ts cs i (by simpa using hi) (by simpa using hl) k
    show covL (t :: ts) (c :: (cs.set i (nth cs i + 1))) k = _
    rw [covL, covL, ih]
    show _ = _ + (if isW (ts[i]'(by simpa using hi)) k then 1 else 0)
    omega
theorem covL_zero (ts : List ByteArray) : ∀ n k, covL ts (List.replicate n 0) k = 0 := by
  induction ts with
  | nil => intro n k; simp [covL]
  | cons t ts ih =>
    intro n k
    cases n with
    | zero => simp [covL]
    | succ n => rw [List.replicate_succ, covL, ih]; simp
theorem covL_snoc : ∀ (ts : List ByteArray) (cs : List Int) t c k, ts.length = cs.length → covL (ts ++ [t]) (cs ++ [c]) k = covL ts cs k + (if isW t k then c else 0)
  | [], [], t, c, k, _ => by simp [covL]
  | [], _ :: _, _, _, _, h => by simp at h
  | _ :: _, [], _, _, _, h => by simp at h
  | t' :: ts, c' :: cs, t, c, k, h => by
    rw [List.cons_append, List.cons_append, covL, covL, covL_snoc ts cs t c k (by simpa using h)]
    omega
theorem covL_bound : ∀ (ts : List ByteArray) (cs : List Int) k, (∀ c ∈ cs, 0 ≤ c ∧ c ≤ 1000) → 0 ≤ covL ts cs k ∧ covL ts cs k ≤ 1000 * ts.length
  | [], cs, k, _ => by simp [covL]
  | t :: ts, [], k, _ => by simp [covL]; omega
  | t :: ts, c :: cs, k, h => by
    obtain ⟨h1, h2⟩ := covL_bound ts cs k (fun x hx => h x (List.mem_cons_of_mem _ hx))
    have h0 := h c (by simp)
    rw [covL, List.length_cons]
    split <;> omega

/-- What is still needed, in all. -/
def posS : List Int → Int
  | [] => 0
  | x :: xs => max x 0 + posS xs
theorem posS_nonneg : ∀ xs, 0 ≤ posS xs
  | [] => Int.le_refl _
  | x :: xs => by have := posS_nonneg xs; unfold posS; omega
theorem posS_le (B : Int) : ∀ xs : List Int, 0 ≤ B → (∀ x ∈ xs, x ≤ B) → posS xs ≤ B * xs.length
  | [], _, _ => by simp [posS]
  | x :: xs, hB, h => by
    have h1 := posS_le B xs hB (fun y hy => h y (List.mem_cons_of_mem _ hy))
    have h2 := h x (by simp)
    have h3 : B * ((x :: xs).length : Int) = B * xs.length + B := by rw [List.length_cons, Int.natCast_add, Int.mul_add]; simp
    unfold posS
    omega
theorem posS_zero : ∀ xs : List Int, posS xs = 0 → ∀ x ∈ xs, x ≤ 0
  | [], _, x, h => by cases h
  | y :: xs, h0, x, h => by
    have := posS_nonneg xs
    unfold posS at h0
    rcases List.mem_cons.1 h with rfl | h
    · omega
    · exact posS_zero xs (by omega) x h

/-- A shift is taken. -/
def decL (t : ByteArray) : List Int → Nat → List Int
  | [], _ => []
  | x :: xs, k => (if isW t k then x - 1 else x) :: decL t xs (k + 1)
theorem decL_length (t : ByteArray) : ∀ xs k, (decL t xs k).length = xs.length
  | [], _ => rfl
  | x :: xs, k => by unfold decL; rw [List.length_cons, List.length_cons, decL_length]
theorem decL_at (t : ByteArray) : ∀ xs k i, i < xs.length → nth (decL t xs k) i = nth xs i - (if isW t (k + i) then 1 else 0)
  | [], _, _, h => by simp at h
  | x :: xs, k, 0, _ => by
    show (if isW t k then x - 1 else x) = x - (if isW t k then 1 else 0)
    split <;> omega
  | x :: xs, k, i + 1, h => by
    show nth (decL t xs (k + 1)) i = nth xs i - _
    rw [decL_at t xs (k + 1) i (by simpa using h), show k + 1 + i = k + (i + 1) by omega]
theorem posS_dec (t : ByteArray) : ∀ xs k, posS (decL t xs k) ≤ posS xs
  | [], _ => Int.le_refl _
  | x :: xs, k => by
    have := posS_dec t xs (k + 1)
    unfold decL
    rw [posS, posS]
    split <;> omega
theorem posS_less (t : ByteArray) : ∀ xs k i, i < xs.length → isW t (k + i) = true → 0 < nth xs i → posS (decL t xs k) + 1 ≤ posS xs
  | [], _, _, h, _, _ => by simp at h
  | x :: xs, k, 0, _, hw, h0 => by
    have := posS_dec t xs (k + 1)
    unfold decL
    rw [posS, posS]
    have hw : isW t k = true := hw
    have h0 : 0 < x := h0
    rw [if_pos hw]
    omega
  | x :: xs, k, i + 1, h, hw, h0 => by
    have := posS_less t xs (k + 1) i (by simpa using h) (by rw [show k + 1 + i = k + (i + 1) by omega]; exact hw) h0
    unfold decL
    rw [posS, posS]
    split <;> omega
/-- How many slots are gained. -/
def gainS (t : ByteArray) (xs : List Int) : Nat → Nat
  | 0 => 0
  | k + 1 => gainS t xs k + (if 0 < nth xs k ∧ isW t k = true then 1 else 0)
theorem gainS_le (t : ByteArray) (xs : List Int) : ∀ k, gainS t xs k ≤ k
  | 0 => Nat.le_refl _
  | k + 1 => by have := gainS_le t xs k; unfold gainS; split <;> omega
theorem gainS_pos (t : ByteArray) (xs : List Int) : ∀ k, 0 < gainS t xs k → ∃ i, i < k ∧ 0 < nth xs i ∧ isW t i = true
  | 0, h => absurd h (Nat.lt_irrefl _)
  | k + 1, h => by
    unfold gainS at h
    by_cases hc : 0 < nth xs k ∧ isW t k = true
    · exact ⟨k, by omega, hc⟩
    · rw [if_neg hc] at h
      obtain ⟨i, h1, h2⟩ := gainS_pos t xs k (by omega)
      exact ⟨i, by omega, h2⟩
end Go.Proofs.YtbocedlldaeanaaDoor

namespace Go.Proofs.YtbocedlldaeanaaDoor
open Go.RowKit Go.ChangeShapes Go.WideShapes Go.Deep
set_option linter.unusedVariables false
set_option linter.unusedSimpArgs false

/-- How a list of cells reads as a datum. -/
structure Rdr (α : Type) where
  size : Nat
  R : World → List Value → α → Prop
  len : ∀ {w : World} {cs : List Value} {x : α}, R w cs x → cs.length = size
  below : ∀ {w w' : World} {cs : List Value} {x : α} {B : Nat}, R w cs x → Below B w w' → w.heap.size ≤ B → R w' cs x

def rInt : Rdr Int := ⟨1, fun _ cs n => cs = [.int .i64 n] ∧ (Lit.int .i64 n).wf = true, fun h => by rw [h.1]; rfl, fun h _ _ => h⟩
def rBool : Rdr Bool := ⟨1, fun _ cs b => cs = [.bool b], fun h => by rw [h]; rfl, fun h _ _ => h⟩
def rStr : Rdr ByteArray := ⟨1, fun _ cs s => cs = [.string s] ∧ s.size ≤ maxLen, fun h => by rw [h.1]; rfl, fun h _ _ => h⟩
def rPair {α β : Type} (r : Rdr α) (s : Rdr β) : Rdr (α × β) := ⟨r.size + s.size, fun w cs x => ∃ c1 c2, cs = c1 ++ c2 ∧ r.R w c1 x.1 ∧ s.R w c2 x.2,
  fun h => by obtain ⟨c1, c2, rfl, h1, h2⟩ := h; rw [List.length_append, r.len h1, s.len h2],
  fun h hb hB => by obtain ⟨c1, c2, rfl, h1, h2⟩ := h; exact ⟨c1, c2, rfl, r.below h1 hb hB, s.below h2 hb hB⟩⟩

/-- The slice value v reads as the list xs. -/
def SlR {α : Type} (r : Rdr α) (w : World) (v : Value) (xs : List α) : Prop :=
  xs.length ≤ maxLen ∧ ∃ a c, v = .slice a xs.length c ∧ xs.length ≤ c ∧ ∀ i (h : i < xs.length), ∃ b o cs, a = some ⟨b, o, none⟩ ∧ b < w.heap.size ∧ r.R w cs xs[i] ∧ ∀ j (hj : j < cs.length), w.cell? ⟨b, o + (i * r.size + j), none⟩ = some cs[j]
theorem SlR.below {α : Type} {r : Rdr α} {w w' : World} {v : Value} {xs : List α} {B : Nat} (h : SlR r w v xs) (hb : Below B w w') (hB : w.heap.size ≤ B) : SlR r w' v xs := by
  obtain ⟨hm, a, c, hv, hcap, hc⟩ := h
  refine ⟨hm, a, c, hv, hcap, fun i hi => ?_⟩
  obtain ⟨b, o, cs, ha, hbs, hr, hcell⟩ := hc i hi
  exact ⟨b, o, cs, ha, by have := hb.size; omega, r.below hr hb hB, fun j hj => (hb.cell (p := ⟨b, o + (i * r.size + j), none⟩) (by show b < B; omega)).trans (hcell j hj)⟩
def rSl {α : Type} (r : Rdr α) : Rdr (List α) := ⟨1, fun w cs xs => ∃ v, cs = [v] ∧ SlR r w v xs, fun h => by obtain ⟨v, rfl, _⟩ := h; rfl, fun h hb hB => by obtain ⟨v, rfl, h⟩ := h; exact ⟨v, rfl, h.below hb hB⟩⟩

theorem SlR.ints {w : World} {v : Value} {xs : List Int} (h : SlR rInt w v xs) : Ints w v xs ∧ ∀ n ∈ xs, (Lit.int .i64 n).wf = true := by
  obtain ⟨hm, a, c, hv, hcap, hc⟩ := h
  refine ⟨⟨hm, a, c, hv, hcap, fun i hi => ?_⟩, fun n hn => ?_⟩
  · obtain ⟨b, o, cs, ha, hbs, ⟨rfl, _⟩, hcell⟩ := hc i hi
    have := hcell 0 (by simp)
    exact ⟨b, o, ha, hbs, by simpa [rInt] using this⟩
  · obtain ⟨i, hi, rfl⟩ := List.mem_iff_getElem.1 hn
    obtain ⟨b, o, cs, ha, hbs, ⟨rfl, hw⟩, hcell⟩ := hc i hi
    exact hw
theorem SlR.of_ints {w : World} {v : Value} {xs : List Int} (h : Ints w v xs) (hw : ∀ n ∈ xs, (Lit.int .i64 n).wf = true) : SlR rInt w v xs := by
  obtain ⟨hm, a, c, hv, hcap, hc⟩ := h
  refine ⟨hm, a, c, hv, hcap, fun i hi => ?_⟩
  obtain ⟨b, o, ha, hbs, hcell⟩ := hc i hi
  refine ⟨b, o, [.int .i64 xs[i]], ha, hbs, ⟨rfl, hw _ (List.getElem_mem _)⟩, fun j hj => ?_⟩
  obtain rfl : j = 0 := by simpa using hj
  simpa [rInt] using hcell

/-! An argument that came in. -/
/-- Whatever reads as a datum of type t reads by r. -/
def Opens {α : Type} (t : TypeId) (r : Rdr α) : Prop := Tryd.prog.cellsOf t = r.size ∧ ∀ {H : Type} {enc : TypeId × Value → H} {w : World} {base : Nat} {sp : Nat → Bool} {held : Bool} {fuel : Nat} {cs : List Value} {x : DataW H × List MemPlace},
  DataW.trod enc Tryd.prog w base sp held fuel t cs = some x → ∃ y : α, r.R w cs y
theorem opens_int {t : TypeId} (ht : Tryd.prog.underlying t = some (.int .i64)) (hc : Tryd.prog.cellsOf t = 1) : Opens t rInt := ⟨hc, fun h => by
  obtain ⟨n, h1, _, h2⟩ := DataW.trod_int ht h
  exact ⟨n, h1, h2⟩⟩
theorem opens_bool {t : TypeId} (ht : Tryd.prog.underlying t = some .bool) (hc : Tryd.prog.cellsOf t = 1) : Opens t rBool := ⟨hc, fun h => by
  obtain ⟨n, h1, _⟩ := DataW.trod_bool ht h
  exact ⟨n, h1⟩⟩
theorem opens_str {t : TypeId} (ht : Tryd.prog.underlying t = some .string) (hc : Tryd.prog.cellsOf t = 1) : Opens t rStr := ⟨hc, fun h => by
  obtain ⟨n, h1, _, h2⟩ := DataW.trod_string ht h
  exact ⟨n, h1, h2⟩⟩
theorem spot_none {w : World} {x : Addr} {v : Value} (h : w.cell? x = some v) : x.spot = none := by
  unfold World.cell? at h
  cases hs : x.spot with
  | none => rfl
  | some s => rw [hs] at h; split at h <;> simp at h
theorem list_of {α : Type} (n : Nat) (p : Nat → α → Prop) (h : ∀ i, i < n → ∃ y, p i y) : ∃ xs : List α, xs.length = n ∧ ∀ i (hi : i < xs.length), p i xs[i] := by
  induction n with
  | zero => exact ⟨[], rfl, fun i hi => by simp at hi⟩
  | succ n ih =>
    obtain ⟨xs, hl, hx⟩ := ih (fun i hi => h i (by omega))
    obtain ⟨y, hy⟩ := h n (by omega)
    refine ⟨xs ++ [y], by simp [hl], fun i hi => ?_⟩
    by_cases hlt : i < xs.length
    · rw [List.getElem_append_left hlt]; exact hx i hlt
    · have : i = n := by simp at hi; omega
      subst this
      rw [List.getElem_append_right (by omega)]
      simpa [hl] using hy
theorem opens_slice {α : Type} {t e : TypeId} {r : Rdr α} (ht : Tryd.prog.underlying t = some (.slice e)) (hc : Tryd.prog.cellsOf t = 1) (he : Opens e r) (hr : 0 < r.size) : Opens t (rSl r) := ⟨hc, fun {H enc w base sp held fuel cs x} h => by
  rcases DataW.trod_slice ht h with ⟨rfl, _⟩ | ⟨a, len, cap, elems, rest, n, _, rfl, _, _, hl, hm, hel, hi, _⟩
  · exact ⟨[], _, rfl, Nat.zero_le _, none, 0, rfl, Nat.le_refl _, fun i hi => by simp at hi⟩
  · rw [he.1] at hi
    have key : ∀ i, i < len → ∃ y : α, ∃ cs' : List Value, (∀ j, j < cs'.length → w.cell? ((a.add (i * r.size)).add j) = cs'[j]?) ∧ r.R w cs' y := by
      intro i hil
      have h1 := hi i hil
      rw [List.getElem?_eq_getElem (by omega)] at h1
      cases hcs : w.cells? base (a.add (i * r.size)) r.size with
      | none => rw [hcs] at h1; cases h1
      | some cs' =>
        rw [hcs] at h1
        obtain ⟨y, hy⟩ := he.2 h1
        obtain ⟨_, hcl, hat⟩ := World.cells?_some hcs
        refine ⟨y, cs', fun j hj => ?_, hy⟩
        exact hat j (by omega)
    obtain ⟨xs, hxl, hxs⟩ := list_of len (fun (i : Nat) (y : α) => ∃ cs' : List Value, (∀ j, j < cs'.length → w.cell? ((a.add (i * r.size)).add j) = cs'[j]?) ∧ r.R w cs' y) key
    subst hxl
    refine ⟨xs, _, rfl, by omega, some a, cap, rfl, by omega, fun i hil => ?_⟩
    obtain ⟨cs', h1, h2⟩ := hxs i hil
    have h0 := (h1 0 (by rw [r.len h2]; exact hr)).trans (List.getElem?_eq_getElem (by rw [r.len h2]; exact hr))
    obtain ⟨cz, z1, z2⟩ := hxs 0 (by omega)
    have z0 := (z1 0 (by rw [r.len z2]; exact hr)).trans (List.getElem?_eq_getElem (by rw [r.len z2]; exact hr))
    have hz : (a.add (0 * r.size)).add 0 = a := by rw [Nat.zero_mul]; simp [Addr.add]
    rw [hz] at z0
    have hsp := spot_none z0
    obtain ⟨b, o, s⟩ := a
    obtain rfl : s = none := hsp
    have hadd : ∀ j, ((⟨b, o, none⟩ : Addr).add (i * r.size)).add j = ⟨b, o + (i * r.size + j), none⟩ := fun j => by
      simp only [Addr.add]
      split <;> split <;> simp_all <;> omega
    refine ⟨b, o, cs', rfl, ?_, h2, fun j hj => by rw [← hadd]; exact (h1 j hj).trans (List.getElem?_eq_getElem hj)⟩
    rw [hadd] at h0
    exact lt_of_cell h0⟩

/-- The fields from a place on. -/
def OpensF {α : Type} (fs : List Field) (off : Nat) (r : Rdr α) : Prop := ∀ {H : Type} {enc : TypeId × Value → H} {w : World} {base : Nat} {sp : Nat → Bool} {held : Bool} {n : Nat} {cs : List Value},
  (∀ (i : Nat) (f : Field), fs[i]? = some f → ∃ x, DataW.trod enc Tryd.prog w base sp held n f.type ((cs.drop f.offset).take (Tryd.prog.cellsOf f.type)) = some x) → ∃ y : α, r.R w ((cs.drop off).take r.size) y
theorem opensF_one {α : Type} {f : Field} {off : Nat} {r : Rdr α} (h : Opens f.type r) (ho : f.offset = off) : OpensF [f] off r := by
  intro H enc w base sp held n cs hf
  obtain ⟨x, hx⟩ := hf 0 f rfl
  obtain ⟨y, hy⟩ := h.2 hx
  rw [h.1, ho] at hy
  exact ⟨y, hy⟩
theorem opensF_cons {α β : Type} {f : Field} {fs : List Field} {off : Nat} {r : Rdr α} {s : Rdr β} (h : Opens f.type r) (ho : f.offset = off) (hs : OpensF fs (off + r.size) s) : OpensF (f :: fs) off (rPair r s) := by
  intro H enc w base sp held n cs hf
  obtain ⟨x, hx⟩ := hf 0 f rfl
  obtain ⟨y, hy⟩ := h.2 hx
  rw [h.1, ho] at hy
  obtain ⟨z, hz⟩ := hs (fun i g hg => hf (i + 1) g hg)
  refine ⟨(y, z), _, _, ?_, hy, hz⟩
  show (cs.drop off).take (r.size + s.size) = _
  rw [List.take_add, List.drop_drop]
theorem opens_struct {α : Type} {t : TypeId} {fs : Array Field} {r : Rdr α} (ht : Tryd.prog.underlying t = some (.struct fs)) (hc : Tryd.prog.cellsOf t = r.size) (hf : OpensF fs.toList 0 r) : Opens t r := ⟨hc, fun h => by
  obtain ⟨xs, n, _, _, hl, hxl, hat⟩ := DataW.trod_struct ht h
  obtain ⟨y, hy⟩ := hf (cs := _) (fun i f hif => ⟨_, (hat i f (by simpa using hif)).trans (List.getElem?_eq_getElem (by
    have := (List.getElem?_eq_some_iff.1 hif).1
    rw [hxl]; simpa using this))⟩)
  rw [List.drop_zero, List.take_of_length_le (by omega)] at hy
  exact ⟨y, hy⟩⟩
end Go.Proofs.YtbocedlldaeanaaDoor

namespace Go.Proofs.YtbocedlldaeanaaDoor
open Go.RowKit
set_option linter.unusedVariables false
set_option linter.unusedSimpArgs false

/-- Block b holds the cells cs, none of them frozen. -/
def Blk (W : World) (b : Nat) (t : TypeId) (cs : List Value) : Prop := W.heap[b]? = some (.cells cs.toArray t (0, 0))
theorem Blk.lt {W : World} {b : Nat} {t : TypeId} {cs : List Value} (h : Blk W b t cs) : b < W.heap.size := (Array.getElem?_eq_some_iff.1 h).1
theorem Blk.cell {W : World} {b : Nat} {t : TypeId} {cs : List Value} (h : Blk W b t cs) (j : Nat) (v : Value) (hj : cs[j]? = some v) : W.cell? ⟨b, j, none⟩ = some v := by
  unfold World.cell?
  rw [show W.heap[b]? = _ from h]
  simpa using hj
theorem Blk.frozen {W : World} {b : Nat} {t : TypeId} {cs : List Value} (h : Blk W b t cs) (j : Nat) : W.frozen? ⟨b, j, none⟩ = false := by
  simp [World.frozen?, show W.heap[b]? = _ from h]
theorem Blk.new (W : World) (t : TypeId) (cs : List Value) : Blk (W.alloc (.cells cs.toArray t)) W.heap.size t cs := World.alloc_heap_new W _
theorem Blk.alloc {W : World} {b : Nat} {t : TypeId} {cs : List Value} (h : Blk W b t cs) (o : Obj) : Blk (W.alloc o) b t cs := (Below.heap_alloc _ _ _ h.lt).trans h
theorem Blk.below {W W' : World} {b B : Nat} {t : TypeId} {cs : List Value} (h : Blk W b t cs) (hb : Below B W W') (hB : b < B) : Blk W' b t cs := (hb.block b hB).trans h
theorem Blk.grown {W W' : World} {b : Nat} {t : TypeId} {cs : List Value} {row : Option Nat} (h : Blk W b t cs) (hg : W.grownBy W' row) (hne : some b ≠ row) : Blk W' b t cs := (hg.block b h.lt hne).trans h
theorem Blk.grownL {W W' : World} {b : Nat} {t : TypeId} {cs : List Value} {L : List Nat} (h : Blk W b t cs) (hg : GrownL L W W') (hne : b ∉ L) : Blk W' b t cs := (hg.block b h.lt hne).trans h
theorem Blk.drewN {W : World} {b : Nat} {t : TypeId} {cs : List Value} (h : Blk W b t cs) (q : Nat) : Blk (W.drewN q) b t cs := h
theorem Blk.far {W : World} {b : Nat} {t : TypeId} {cs : List Value} (h : Blk W b t cs) (p : Addr) (v : Value) (hne : b ≠ p.block) : Blk (W.setCell p v) b t cs := (Below.heap_setCell _ _ _ _ hne).trans h
theorem Blk.set {W : World} {b : Nat} {t : TypeId} {cs : List Value} (h : Blk W b t cs) (j : Nat) (v : Value) : Blk (W.setCell ⟨b, j, none⟩ v) b t (cs.set j v) := by
  obtain ⟨hlt, hk⟩ := Array.getElem?_eq_some_iff.1 h
  show (W.heap.modify b _)[b]? = _
  rw [Array.getElem?_eq_getElem (by rw [Array.size_modify]; exact hlt), Array.getElem_modify_self, hk]
  simp
theorem Boxed.blk {W : World} {b : Nat} {t : TypeId} {v : Value} (h : Boxed W b t v) : Blk W b t [v] := h

/-- A row of the call's own, of whatever elements: n elements of type T, size cells each. -/
def OwnV (T size : Nat) (w : World) (N : Nat) (v : Value) (n : Nat) (raw : List Value) : Prop := w.ownsRow N T size v n raw
theorem OwnV.kept {T size n : Nat} {w w' : World} {B : Nat} {v : Value} {xs : List Value} {row : Option Nat} (h : OwnV T size w B v n xs) (hg : w.grownBy w' row) (hne : v.ownBlock = none ∨ v.ownBlock ≠ row) : OwnV T size w' B v n xs := World.ownsRow.kept h hg hne
theorem OwnV.lt {T size n : Nat} {w : World} {B : Nat} {v : Value} {xs : List Value} (h : OwnV T size w B v n xs) : ∀ k, v.ownBlock = some k → B ≤ k ∧ k < w.heap.size := World.ownsRow.lt h
theorem OwnV.below {T size n : Nat} {w w' : World} {B N : Nat} {v : Value} {xs : List Value} (h : OwnV T size w B v n xs) (hb : Below N w w') (hN : w.heap.size ≤ N) : OwnV T size w' B v n xs := by
  refine h.kept (row := none) ⟨hb.os, hb.tape, hb.output, hb.size, fun k hk _ => hb.block k (by omega)⟩ ?_
  cases v.ownBlock <;> simp
theorem OwnV.length {T size n : Nat} {w : World} {B : Nat} {v : Value} {xs : List Value} (h : OwnV T size w B v n xs) : xs.length = n * size := h.1
theorem OwnV.store {T size n c g : Nat} {w : World} {N : Nat} {xs : List Value} (h : OwnV T size w N (.slice (some ⟨g, 0, none⟩) n c) n xs) (j : Nat) (hj : j < xs.length) (y : Value) :
    w.cell? ⟨g, j, none⟩ = some xs[j] ∧ w.frozen? ⟨g, j, none⟩ = false ∧ OwnV T size (w.setCell ⟨g, j, none⟩ y) N (.slice (some ⟨g, 0, none⟩) n c) n (xs.set j y) ∧ w.grownBy (w.setCell ⟨g, j, none⟩ y) (some g) := by
  have h' : w.ownsRow N T size (.slice (some ⟨g, 0, none⟩) n c) n xs := h
  obtain ⟨h1, h2⟩ := h'.stored j y
  refine ⟨?_, h'.frozenAt j, h1, h2⟩
  rw [h'.cellAt j (by rw [← h.length]; exact hj), List.getElem?_eq_getElem hj]

/-- It reads so in every world that keeps the blocks from N on. -/
def Agree (N : Nat) (w W : World) : Prop := w.heap.size ≤ W.heap.size ∧ ∀ b, N ≤ b → b < w.heap.size → W.heap[b]? = w.heap[b]?
theorem Agree.refl (N : Nat) (w : World) : Agree N w w := ⟨Nat.le_refl _, fun _ _ _ => rfl⟩
theorem Agree.trans {N : Nat} {a b c : World} (h : Agree N a b) (k : Agree N b c) : Agree N a c := ⟨Nat.le_trans h.1 k.1, fun i h1 h2 => (k.2 i h1 (by have := h.1; omega)).trans (h.2 i h1 h2)⟩
theorem Agree.mono {N N' : Nat} {a b : World} (h : Agree N a b) (hN : N ≤ N') : Agree N' a b := ⟨h.1, fun i h1 h2 => h.2 i (by omega) h2⟩
theorem Agree.below {N B : Nat} {a b : World} (h : Below B a b) (hB : a.heap.size ≤ B) : Agree N a b := ⟨h.size, fun i _ h2 => h.block i (by omega)⟩
theorem Agree.setCell {N : Nat} (a : World) (p : Addr) (v : Value) (hp : p.block < N) : Agree N a (a.setCell p v) := ⟨by simp, fun i h1 _ => Below.heap_setCell _ _ _ _ (by omega)⟩
theorem Agree.grown {N : Nat} {a b : World} {row : Option Nat} (h : a.grownBy b row) (hr : ∀ k, row = some k → k < N) : Agree N a b := ⟨h.size, fun i h1 h2 => h.block i h2 (fun e => by have := hr i e.symm; omega)⟩
def FreshR {α : Type} (r : Rdr α) (N : Nat) (w : World) (cs : List Value) (x : α) : Prop := ∀ W, Agree N w W → r.R W cs x
theorem FreshR.now {α : Type} {r : Rdr α} {N : Nat} {w : World} {cs : List Value} {x : α} (h : FreshR r N w cs x) : r.R w cs x := h w (Agree.refl _ _)
theorem FreshR.later {α : Type} {r : Rdr α} {N : Nat} {w w' : World} {cs : List Value} {x : α} (h : FreshR r N w cs x) (ha : Agree N w w') : FreshR r N w' cs x := fun W hW => h W (ha.trans hW)
theorem FreshR.mono {α : Type} {r : Rdr α} {N N' : Nat} {w : World} {cs : List Value} {x : α} (h : FreshR r N w cs x) (hN : N' ≤ N) : FreshR r N' w cs x := fun W hW => h W (hW.mono hN)
theorem FreshR.pair {α β : Type} {r : Rdr α} {s : Rdr β} {N : Nat} {w : World} {c1 c2 : List Value} {x : α} {y : β} (h : FreshR r N w c1 x) (k : FreshR s N w c2 y) : FreshR (rPair r s) N w (c1 ++ c2) (x, y) := fun W hW => ⟨c1, c2, rfl, h W hW, k W hW⟩
theorem FreshR.int (N : Nat) (w : World) (n : Int) (h : (Lit.int .i64 n).wf = true) : FreshR rInt N w [.int .i64 n] n := fun _ _ => ⟨rfl, h⟩
theorem FreshR.str (N : Nat) (w : World) (s : ByteArray) (h : s.size ≤ maxLen) : FreshR rStr N w [.string s] s := fun _ _ => ⟨rfl, h⟩
theorem ownsRow_agree {w W : World} {N e size n : Nat} {v : Value} {xs : List Value} (h : w.ownsRow N e size v n xs) (ha : Agree N w W) : W.ownsRow N e size v n xs := by
  refine ⟨h.1, ?_⟩
  rcases h.2 with h1 | ⟨g, cap, cur, hv, hg, hh, r⟩
  · exact .inl h1
  · exact .inr ⟨g, cap, cur, hv, hg, (ha.2 g hg (Array.getElem?_eq_some_iff.1 hh).1).trans hh, r⟩
theorem OwnI.fresh {w : World} {N : Nat} {v : Value} {xs : List Int} (h : OwnI w N v xs) (hw : ∀ n ∈ xs, (Lit.int .i64 n).wf = true) : FreshR (rSl rInt) N w [v] xs :=
  fun W hW => ⟨v, rfl, SlR.of_ints (OwnI.ints (ownsRow_agree h hW)) hw⟩
/-- The first k elements of a row that is being filled read as the first k of xs. -/
def FillR {α : Type} (r : Rdr α) (N : Nat) (w : World) (raw : List Value) (xs : List α) (k : Nat) : Prop := ∀ i (h : i < xs.length), i < k → ∃ cs, FreshR r N w cs xs[i] ∧ ∀ j (hj : j < cs.length), raw[i * r.size + j]? = some cs[j]
theorem FillR.later {α : Type} {r : Rdr α} {N : Nat} {w w' : World} {raw : List Value} {xs : List α} {k : Nat} (h : FillR r N w raw xs k) (ha : Agree N w w') : FillR r N w' raw xs k := fun i hi hk => by
  obtain ⟨cs, h1, h2⟩ := h i hi hk
  exact ⟨cs, h1.later ha, h2⟩
theorem FillR.done {α : Type} {r : Rdr α} {T : Nat} {w : World} {g : Nat} {raw : List Value} {xs : List α} (ho : OwnV T r.size w g (.slice (some ⟨g, 0, none⟩) xs.length xs.length) xs.length raw) (hf : FillR r (g + 1) w raw xs xs.length) (hm : xs.length ≤ maxLen) : FreshR (rSl r) g w [.slice (some ⟨g, 0, none⟩) xs.length xs.length] xs := by
  intro W hW
  have ho' : OwnV T r.size W g (.slice (some ⟨g, 0, none⟩) xs.length xs.length) xs.length raw := ownsRow_agree ho hW
  refine ⟨_, rfl, hm, _, _, rfl, Nat.le_refl _, fun i hi => ?_⟩
  obtain ⟨cs, h1, h2⟩ := hf i hi hi
  refine ⟨g, 0, cs, rfl, (ho'.lt g rfl).2, h1 W (hW.mono (by omega)), fun j hj => ?_⟩
  obtain ⟨h4, h5⟩ := List.getElem?_eq_some_iff.1 (h2 j hj)
  rw [Nat.zero_add, (ho'.store _ h4 (.bool true)).1, h5]
/-- One more element, of four cells. -/
theorem FillR.put4 {α : Type} {r : Rdr α} {N : Nat} {w : World} {raw : List Value} {xs : List α} {k : Nat} (h : FillR r N w raw xs k) (h4 : r.size = 4) (c0 c1 c2 c3 : Value) (hk : k < xs.length) (hl : raw.length = xs.length * 4) (hx : FreshR r N w [c0, c1, c2, c3] xs[k]) :
    FillR r N w ((((raw.set (k * 4) c0).set (k * 4 + 1) c1).set (k * 4 + 2) c2).set (k * 4 + 3) c3) xs (k + 1) := by
  intro i hi hik
  by_cases he : i = k
  · subst he
    refine ⟨_, hx, fun j hj => ?_⟩
    rw [h4]
    have hj4 : j < 4 := by simpa using hj
    match j, hj4 with
    | 0, _ => simp [List.getElem?_set]; omega
    | 1, _ => simp [List.getElem?_set]; omega
    | 2, _ => simp [List.getElem?_set]; omega
    | 3, _ => simp [List.getElem?_set]; omega
  · obtain ⟨cs, h1, h2⟩ := h i hi (by omega)
    refine ⟨cs, h1, fun j hj => ?_⟩
    have h3 := h2 j hj
    have hj4 : j < 4 := by have := r.len h1.now; omega
    rw [h4] at h3 ⊢
    rw [List.getElem?_set_ne (by omega), List.getElem?_set_ne (by omega), List.getElem?_set_ne (by omega), List.getElem?_set_ne (by omega)]
    exact h3
end Go.Proofs.YtbocedlldaeanaaDoor
