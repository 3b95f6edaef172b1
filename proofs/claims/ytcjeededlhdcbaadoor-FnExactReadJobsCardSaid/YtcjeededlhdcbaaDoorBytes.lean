
/- Slices of bytes that a call itself makes and appends to; texts as bytes; the check number. Conditions: lengths at most 2^40. -/
import Derived.Test.YtcjeededlhdcbaaDoorAppendStep
import Derived.Test.YtcjeededlhdcbaaDoorAppendFrom
import Derived.Lib.AppendStr
import Derived.Lib.ConvBytes
import Derived.Laws.BytesArg
namespace Go.Proofs.YtcjeededlhdcbaaDoor
open Go.RowKit
set_option linter.unusedVariables false
set_option linter.unusedSimpArgs false

theorem info_u8 : (Tryd.prog.info? 5).map (fun i => (i.zero, i.size, i.bytes)) = some (some (.int .u8 0), 1, 1) := by kernel_rfl
/-- v is a slice of the call's own (in a block from B on, or nil), and it holds the integers xs. -/
def OwnY (w : World) (B : Nat) (v : Value) (xs : List Int) : Prop := w.ownsRow B 5 1 v xs.length (xs.map (Value.int .u8))

theorem OwnY.alloc {w : World} {B : Nat} {v : Value} {xs : List Int} (h : OwnY w B v xs) (o : Obj) : OwnY (w.alloc o) B v xs := World.ownsRow.alloc h o
theorem OwnY.kept {w w' : World} {B : Nat} {v : Value} {xs : List Int} {row : Option Nat} (h : OwnY w B v xs) (hg : w.grownBy w' row) (hne : v.ownBlock = none ∨ v.ownBlock ≠ row) : OwnY w' B v xs := World.ownsRow.kept h hg hne
theorem OwnY.lt {w : World} {B : Nat} {v : Value} {xs : List Int} (h : OwnY w B v xs) : ∀ k, v.ownBlock = some k → B ≤ k ∧ k < w.heap.size := World.ownsRow.lt h
theorem OwnY.below {w w' : World} {B N : Nat} {v : Value} {xs : List Int} (h : OwnY w B v xs) (hb : Below N w w') (hN : w.heap.size ≤ N) : OwnY w' B v xs := by
  refine h.kept (row := none) ⟨hb.os, hb.tape, hb.output, hb.size, fun k hk _ => hb.block k (by omega)⟩ ?_
  cases v.ownBlock <;> simp
theorem OwnY.drewN {w : World} {B : Nat} {v : Value} {xs : List Int} (h : OwnY w B v xs) (q : Nat) : OwnY (w.drewN q) B v xs := h.below (below_drewN q (Below.refl w.heap.size w)) (Nat.le_refl _)
theorem OwnY.mono {w : World} {B B' : Nat} {v : Value} {xs : List Int} (h : OwnY w B v xs) (hB : B' ≤ B) : OwnY w B' v xs := by
  refine ⟨h.1, ?_⟩
  rcases h.2 with h2 | ⟨g, cap, cur, hv, hg, r⟩
  · exact .inl h2
  · exact .inr ⟨g, cap, cur, hv, by omega, r⟩
theorem OwnY.setCell {w : World} {B : Nat} {v : Value} {xs : List Int} (h : OwnY w B v xs) {p : Addr} (u : Value) (hne : v.ownBlock ≠ some p.block) : OwnY (w.setCell p u) B v xs :=
  h.kept (row := some p.block) ⟨rfl, rfl, rfl, by simp [World.setCell], fun k hk hk' => Below.heap_setCell _ _ _ _ (fun e => hk' (by rw [e]))⟩ (.inr hne)

/-- A slice literal. -/
theorem OwnY.lit (w : World) (B : Nat) (xs : List Int) (hB : B ≤ w.heap.size) (hx : xs.length ≤ maxLen) : OwnY (w.alloc (.cells (xs.map (Value.int .u8)).toArray 5)) B (.slice (some ⟨w.heap.size, 0, none⟩) xs.length xs.length) xs := by
  have := World.ownsRow_lit (e := 5) (size := 1) w (xs.map (Value.int .u8)).toArray xs.length hB hx (by simp)
  simpa [OwnY] using this

/-- What is known behind an append of at least one element. -/
theorem app_shapeY {W w' : World} {B : Nat} {v v' : Value} {xs ys : List Int} {t : TypeId} (hy : 0 < ys.length) (hown : OwnY W B v xs)
    (h1 : w'.ownsRow B 5 1 v' (xs.length + ys.length) (xs.map (Value.int .u8) ++ ys.map (Value.int .u8))) (h2 : (W.alloc (.cells (ys.map (Value.int .u8)).toArray t)).grownBy w' v.ownBlock) :
    ∃ g c, v' = .slice (some ⟨g, 0, none⟩) (xs.length + ys.length) c ∧ OwnY w' B (.slice (some ⟨g, 0, none⟩) (xs.length + ys.length) c) (xs ++ ys) ∧ W.grownBy w' v.ownBlock := by
  have hg : W.grownBy w' v.ownBlock := ⟨h2.os, h2.tape, h2.output, Nat.le_trans (by simp) h2.size, fun k hk hne => (h2.block k (by simp; omega) hne).trans (Below.heap_alloc _ _ _ hk)⟩
  have h1' : OwnY w' B v' (xs ++ ys) := by unfold OwnY; simpa using h1
  rcases h1.2 with ⟨_, h0⟩ | ⟨g, cap, cur, rfl, _⟩
  · omega
  · exact ⟨g, cap, rfl, h1', hg⟩

theorem append_y {ops : Array Oper} {rest : List Oper} {o : Oper} {a : Act} {Q : Exit → Act → World → Prop} {W : World} (hgd : o.guard = none) (s x : Operand)
    (ho : o.op = .call { callee := .builtin .append, args := #[s, x], argTypes := #[33, 33] }) (B : Nat) (v : Value) (xs ys : List Int) (hy : 0 < ys.length)
    (hs : a.eval s = v) (c : Nat) (hx : a.eval x = .slice (some ⟨W.heap.size, 0, none⟩) ys.length c) (hown : OwnY W B v xs) (hB : B ≤ W.heap.size) (hsmall : xs.length + ys.length ≤ 1099511627776)
    (hK : ∀ g c w', OwnY w' B (.slice (some ⟨g, 0, none⟩) (xs.length + ys.length) c) (xs ++ ys) → W.grownBy w' v.ownBlock → wpList Tryd.prog ops Q rest (a.put o.dst (.slice (some ⟨g, 0, none⟩) (xs.length + ys.length) c)) w') :
    wpList Tryd.prog ops Q (o :: rest) a (W.alloc (.cells (ys.map (Value.int .u8)).toArray 5)) := by
  obtain ⟨i0, hi, hz0, hz1, hz2⟩ := info_parts info_u8
  refine wpList_append_own _ hgd s x 33 ho B 5 i0 (.int .u8 0) 1 1 Tryd.underlying33 hi hz0 hz1 hz2 rfl (by decide) v xs.length _ hs (World.ownsRow.alloc hown _) ⟨W.heap.size, 0, none⟩ ys.length c (ys.map (Value.int .u8)) hx (by simp) (cells_lit W _ _) ?_ (by unfold maxLen; omega) (by omega) (by simp; omega) ?_
  · intro u hu; obtain ⟨y, _, rfl⟩ := List.mem_map.1 hu; rfl
  · intro v' w' h1 h2 _
    obtain ⟨g, c', rfl, h3, h4⟩ := app_shapeY hy hown h1 h2
    exact hK g c' w' h3 h4


theorem step_append_y {ops : Array Oper} {o : Oper} {a : Act} {K : Act → World → Prop} {Q : Exit → Act → World → Prop} {E : Prop} {W : World} (hgd : o.guard = none) (s x : Operand)
    (ho : o.op = .call { callee := .builtin .append, args := #[s, x], argTypes := #[33, 33] }) (B : Nat) (v : Value) (xs ys : List Int) (hy : 0 < ys.length)
    (hs : a.eval s = v) (c : Nat) (hx : a.eval x = .slice (some ⟨W.heap.size, 0, none⟩) ys.length c) (hown : OwnY W B v xs) (hB : B ≤ W.heap.size) (hsmall : xs.length + ys.length ≤ 1099511627776)
    (hK : ∀ g c w', OwnY w' B (.slice (some ⟨g, 0, none⟩) (xs.length + ys.length) c) (xs ++ ys) → W.grownBy w' v.ownBlock → K (a.put o.dst (.slice (some ⟨g, 0, none⟩) (xs.length + ys.length) c)) w') :
    if Region.wanted o (yielded ops a.tmps) = true then Oper.wp Tryd.prog o a (W.alloc (.cells (ys.map (Value.int .u8)).toArray 5)).drew K Q else E := by
  obtain ⟨i0, hi, hz0, hz1, hz2⟩ := info_parts info_u8
  have hown' : (W.alloc (.cells (ys.map (Value.int .u8)).toArray 5)).drew.ownsRow B 5 1 v xs.length (xs.map (Value.int .u8)) := World.ownsRow.drew (World.ownsRow.alloc hown _)
  refine step_append_lies _ hgd s x 33 ho B 5 i0 (.int .u8 0) 1 1 Tryd.underlying33 hi hz0 hz1 hz2 rfl (by decide) v xs.length _ hs hown' ⟨W.heap.size, 0, none⟩ ys.length c (ys.map (Value.int .u8)) hx (by simp) (cells_lit W _ _) ?_ hy (by unfold maxLen; omega) (by omega) (by simp; omega) (W.heap.size + 1) (by simp) ?_
  · intro u hu; obtain ⟨y, _, rfl⟩ := List.mem_map.1 hu; rfl
  · intro g cap w' h1 h2 _ _
    have h2' : (W.alloc (.cells (ys.map (Value.int .u8)).toArray 5)).grownBy w' v.ownBlock := ⟨h2.os, h2.tape, h2.output, h2.size, h2.block⟩
    obtain ⟨g', c', he, h3, h4⟩ := app_shapeY hy hown h1 h2'
    obtain ⟨rfl, rfl⟩ : g = g' ∧ cap = c' := by simpa using he
    exact hK g cap w' h3 h4

theorem append_fromY {ops : Array Oper} {rest : List Oper} {o : Oper} {a : Act} {Q : Exit → Act → World → Prop} {W : World} (hgd : o.guard = none) (s x : Operand)
    (ho : o.op = .call { callee := .builtin .append, args := #[s, x], argTypes := #[33, 33] }) (B : Nat) (v : Value) (xs ys : List Int) (hy : 0 < ys.length)
    (hs : a.eval s = v) (b off c : Nat) (hx : a.eval x = .slice (some ⟨b, off, none⟩) ys.length c) (hcells : ∀ i (h : i < ys.length), W.cell? ⟨b, off + i, none⟩ = some (.int .u8 ys[i])) (hown : OwnY W B v xs) (hB : B ≤ W.heap.size) (hsmall : xs.length + ys.length ≤ 1099511627776)
    (hK : ∀ g c w', OwnY w' B (.slice (some ⟨g, 0, none⟩) (xs.length + ys.length) c) (xs ++ ys) → W.grownBy w' v.ownBlock → wpList Tryd.prog ops Q rest (a.put o.dst (.slice (some ⟨g, 0, none⟩) (xs.length + ys.length) c)) w') :
    wpList Tryd.prog ops Q (o :: rest) a W := by
  obtain ⟨i0, hi, hz0, hz1, hz2⟩ := info_parts info_u8
  refine wpList_append_own _ hgd s x 33 ho B 5 i0 (.int .u8 0) 1 1 Tryd.underlying33 hi hz0 hz1 hz2 rfl (by decide) v xs.length _ hs hown ⟨b, off, none⟩ ys.length c (ys.map (Value.int .u8)) hx (by simp) ?_ ?_ (by unfold maxLen; omega) (by omega) hB ?_
  · intro j u hj
    rw [List.getElem?_map] at hj
    cases h : ys[j]? with
    | none => rw [h] at hj; cases hj
    | some y =>
      rw [h] at hj
      obtain ⟨h1, h2⟩ := List.getElem?_eq_some_iff.1 h
      have hadd : (⟨b, off, none⟩ : Addr).add j = ⟨b, off + j, none⟩ := by unfold Addr.add; split <;> simp_all
      rw [hadd, hcells j h1, h2]
      simpa using hj
  · intro u hu; obtain ⟨y, _, rfl⟩ := List.mem_map.1 hu; rfl
  · intro v' w' h1 h2 _
    have h1' : OwnY w' B v' (xs ++ ys) := by unfold OwnY; simpa using h1
    rcases h1.2 with ⟨_, h0⟩ | ⟨g, cap, cur, rfl, _⟩
    · omega
    · exact hK g cap w' h1' h2

/-- A text's bytes, as numbers. -/
def chs (s : ByteArray) : List Int := s.data.toList.map fun b => (b.toNat : Int)
theorem chs_length (s : ByteArray) : (chs s).length = s.size := by simp [chs]
theorem chs_cells (s : ByteArray) : Lib.strCells s = (chs s).map (Value.int .u8) := by simp [Lib.strCells, chs]
/-- 'append(b, s...)' of a text, outside every round. -/
theorem append_text {ops : Array Oper} {rest : List Oper} {o : Oper} {a : Act} {Q : Exit → Act → World → Prop} {W : World} (hgd : o.guard = none) (sl x : Operand)
    (ho : o.op = .call { callee := .builtin .append, args := #[sl, x], argTypes := #[33, 9] }) (B : Nat) (v : Value) (xs : List Int) (hs : a.eval sl = v) (s : ByteArray) (hx : a.eval x = .string s) (hown : OwnY W B v xs) (h0 : 0 < xs.length) (hB : B ≤ W.heap.size) (hsmall : xs.length + s.size ≤ 1099511627776)
    (hK : ∀ g c w', OwnY w' B (.slice (some ⟨g, 0, none⟩) (xs ++ chs s).length c) (xs ++ chs s) → W.grownBy w' v.ownBlock → wpList Tryd.prog ops Q rest (a.put o.dst (.slice (some ⟨g, 0, none⟩) (xs ++ chs s).length c)) w') :
    wpList Tryd.prog ops Q (o :: rest) a W := by
  obtain ⟨i0, hi, hz0, hz1, hz2⟩ := info_parts info_u8
  refine Lib.wpList_append_own_string _ hgd sl x 33 9 ho B 5 i0 Tryd.underlying33 Tryd.underlying9 hi hz0 hz1 hz2 v xs.length _ hs hown s hx (by unfold maxLen; omega) (by omega) hB ?_
  intro v' w' h1 h2 h3
  have h4 : OwnY w' B v' (xs ++ chs s) := by
    unfold OwnY
    rw [List.map_append, ← chs_cells, List.length_append, chs_length]
    exact h1
  rcases h4.2 with ⟨_, h5⟩ | ⟨g, cap, cur, rfl, _⟩
  · simp at h5; rw [h5.1] at h0; simp at h0
  · exact hK g cap w' h4 h2
theorem OwnY.cellsY {w : World} {B g n c : Nat} {xs : List Int} (h : OwnY w B (.slice (some ⟨g, 0, none⟩) n c) xs) : ∀ i, i < xs.length → w.cell? ⟨g, i, none⟩ = some (.int .u8 (xs.getD i 0)) := fun i hi => by
  have := World.ownsRow.cells h (g := g) rfl i (.int .u8 xs[i]) (by simp [hi])
  have hadd : (⟨g, 0, none⟩ : Addr).add i = ⟨g, i, none⟩ := by unfold Addr.add; split <;> simp_all
  rw [hadd] at this
  rw [this]; simp [List.getD_eq_getElem?_getD, List.getElem?_eq_getElem hi]
/-- 'string(b)'. -/
theorem conv_y {w : World} {B g c : Nat} {xs : List Int} (h : OwnY w B (.slice (some ⟨g, 0, none⟩) xs.length c) xs) : (convert 33 9 (.slice (some ⟨g, 0, none⟩) xs.length c)).run Tryd.prog w = .ok (.string (strOfNums xs)) w :=
  run_convert_bytes_arg w 33 5 Tryd.underlying33 Tryd.underlying5 g 0 xs.length c xs rfl (fun i hi => by rw [Nat.zero_add]; exact h.cellsY i hi) 9 Tryd.underlying9

/-! The check number. -/
def chkStep (n : Int) (b : UInt8) : Int := (967 * n + b.toNat + 227) % 65003
def chk (n : Int) (s : ByteArray) : Int := s.data.toList.foldl chkStep n
def chkTo (n : Int) (s : ByteArray) (k : Nat) : Int := (s.data.toList.take k).foldl chkStep n
theorem chkTo_succ (n : Int) (s : ByteArray) (k : Nat) (h : k < s.size) : chkTo n s (k + 1) = chkStep (chkTo n s k) s[k] := by
  unfold chkTo
  rw [List.take_succ_eq_append_getElem (by simpa using h), List.foldl_append]
  rfl
theorem chkTo_full (n : Int) (s : ByteArray) : chkTo n s s.size = chk n s := by
  unfold chkTo chk; rw [List.take_of_length_le (by simp)]
theorem chkStep_win {n : Int} (h0 : 0 ≤ n) (h1 : n ≤ 65002) (b : UInt8) : 0 ≤ chkStep n b ∧ chkStep n b ≤ 65002 := by
  unfold chkStep
  have hb := b.toNat_lt
  have h2 : 0 ≤ 967 * n + (b.toNat : Int) + 227 := by omega
  have := Int.emod_nonneg (967 * n + (b.toNat : Int) + 227) (show (65003 : Int) ≠ 0 by decide)
  have := Int.emod_lt_of_pos (967 * n + (b.toNat : Int) + 227) (show (0 : Int) < 65003 by decide)
  omega
theorem chkTo_win {n : Int} (h0 : 0 ≤ n) (h1 : n ≤ 65002) (s : ByteArray) : ∀ k, k ≤ s.size → 0 ≤ chkTo n s k ∧ chkTo n s k ≤ 65002 := by
  intro k
  induction k with
  | zero => intro _; exact ⟨h0, h1⟩
  | succ k ih =>
    intro hk
    rw [chkTo_succ n s k (by omega)]
    exact chkStep_win (ih (by omega)).1 (ih (by omega)).2 _
theorem chk_win {n : Int} (h0 : 0 ≤ n) (h1 : n ≤ 65002) (s : ByteArray) : 0 ≤ chk n s ∧ chk n s ≤ 65002 := by
  rw [← chkTo_full]; exact chkTo_win h0 h1 s _ (Nat.le_refl _)

end Go.Proofs.YtcjeededlhdcbaaDoor
