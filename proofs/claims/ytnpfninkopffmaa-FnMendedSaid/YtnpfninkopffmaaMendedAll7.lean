/- The bytes of a saved plan: a plain list. Conditions: none. With texts that it needs. -/
import Derived.Test.YtnpfninkopffmaaMendedAll6
import Derived.Test.YtnpfninkopffmaaMendedAll1
import Derived.Deep.AppendLies
import Derived.Deep.RegionHeld3
import Derived.Lib.AppendStr
import Derived.Lib.ConvBytes
import Derived.Laws.BytesArg
import Derived.Test.YtnpfninkopffmaaMendedAll2
import Derived.Test.YtnpfninkopffmaaMendedAll3
namespace Go.Proofs.Ytnpfninkopffmaa
open Go.RowKit
set_option linter.unusedVariables false
set_option linter.unusedSimpArgs false

/-- Starts with 0 where nothing is told. -/
def zerL (out : List Int) : List Int := out.map fun x => max x 0
def tldL (out : List Int) : List Bool := out.map fun x => decide (0 ≤ x)
theorem zerL_len (out : List Int) : (zerL out).length = out.length := by simp [zerL]
theorem tldL_len (out : List Int) : (tldL out).length = out.length := by simp [tldL]
theorem zerL_at {out : List Int} {j : Nat} (h : j < out.length) : nth (zerL out) j = max (nth out j) 0 := by
  rw [nth_eq (by rw [zerL_len]; exact h), nth_eq h]; simp [zerL]
theorem tldL_at {out : List Int} {j : Nat} (h : j < (tldL out).length) : (tldL out)[j] = decide (0 ≤ nth out j) := by
  have h' : j < out.length := by rw [tldL_len] at h; exact h
  rw [nth_eq h']; simp [tldL]
theorem zerL_set (out : List Int) (i : Nat) {s : Int} (h : 0 ≤ s) : zerL (out.set i s) = (zerL out).set i s := by
  unfold zerL; rw [List.map_set]; congr 1; omega
theorem tldL_set (out : List Int) (i : Nat) {s : Int} (h : 0 ≤ s) : tldL (out.set i s) = (tldL out).set i true := by
  unfold tldL; rw [List.map_set]; congr 1; simpa using h
theorem zerL_none (n : Nat) : zerL (noneL n) = List.replicate n 0 := by unfold zerL noneL; rw [List.map_replicate]; rfl
theorem tldL_none (n : Nat) : tldL (noneL n) = List.replicate n false := by unfold tldL noneL; rw [List.map_replicate]; rfl
theorem zerL_told {out : List Int} {j : Nat} (h : j < out.length) (h0 : 0 ≤ nth out j) : nth (zerL out) j = nth out j := by rw [zerL_at h]; omega
theorem leastTo_zer {ts : List Tk} {out : List Int} {i : Nat} (ht : SmTs ts) (hl : out.length = ts.length) (hi : i < ts.length) (hb : ∀ j, j < (befN ts i).length → 0 ≤ nth out (nth (befN ts i) j).toNat) : ∀ k, k ≤ (befN ts i).length → leastTo ts (zerL out) i k = leastTo ts out i k
  | 0, _ => rfl
  | k + 1, hk => by
    have h1 := leastTo_zer ht hl hi hb k (by omega)
    have h2 := ht.bef i hi k (by omega)
    unfold leastTo
    rw [h1, zerL_told (by omega) (hb k (by omega))]
theorem toldB_all {ts : List Tk} {out : List Int} {i : Nat} (h : toldB ts out i = true) (j : Nat) (hj : j < (befN ts i).length) : 0 ≤ nth out (nth (befN ts i) j).toNat := by
  unfold toldB at h
  rw [List.all_eq_true] at h
  have := h _ (nth_mem hj)
  simpa using this
theorem leastN_zer {ts : List Tk} {out : List Int} {i : Nat} (ht : SmTs ts) (hl : out.length = ts.length) (hi : i < ts.length) (hb : toldB ts out i = true) : leastN ts (zerL out) i = leastN ts out i :=
  leastTo_zer ht hl hi (toldB_all hb) _ (Nat.le_refl _)
/-- Where something is in use, something told runs. -/
theorem useO_none_after {ts : List Tk} {out : List Int} {t B : Int} (hB : B ≤ t) : ∀ n, (∀ j, j < n → nth out j + timeN ts j ≤ B) → useO ts out t n = 0
  | 0, _ => rfl
  | n + 1, h => by
    unfold useO
    rw [useO_none_after hB n (fun j hj => h j (by omega)), if_neg (by unfold runsO; have := h n (by omega); omega)]; rfl
/-- The search's end is the start that fits. -/
theorem fit_of_search {u : Nat → Int} {crew need time a s : Int} {t : Nat} (h1 : a ≤ s) (h2 : s + time ≤ t) (hn : noneW u crew need time a s) (hf : ∀ j : Nat, s ≤ j → (j : Int) < t → u j + need ≤ crew) : Fit u crew need time a s :=
  ⟨h1, fun k k1 k2 => hf k k1 (by omega), hn⟩
end Go.Proofs.Ytnpfninkopffmaa

namespace Go.Proofs.Ytnpfninkopffmaa
open Go.RowKit
set_option linter.unusedVariables false
set_option linter.unusedSimpArgs false

/-- 'append(s, y, ..)' where the region draws its order. -/
theorem step_append_i64 {ops : Array Oper} {o : Oper} {a : Act} {K : Act → World → Prop} {Q : Exit → Act → World → Prop} {E : Prop} {W : World} (hgd : o.guard = none) (s x : Operand)
    (ho : o.op = .call { callee := .builtin .append, args := #[s, x], argTypes := #[29, 29] }) (B : Nat) (v : Value) (xs ys : List Int) (hy : 0 < ys.length)
    (hs : a.eval s = v) (c : Nat) (hx : a.eval x = .slice (some ⟨W.heap.size, 0, none⟩) ys.length c) (hown : OwnI W B v xs) (hB : B ≤ W.heap.size) (hsmall : xs.length + ys.length ≤ 1099511627776)
    (hK : ∀ g c w', OwnI w' B (.slice (some ⟨g, 0, none⟩) (xs.length + ys.length) c) (xs ++ ys) → W.grownBy w' v.ownBlock → K (a.put o.dst (.slice (some ⟨g, 0, none⟩) (xs.length + ys.length) c)) w') :
    if Region.wanted o (yielded ops a.tmps) = true then Oper.wp Try.prog o a (W.alloc (.cells (ys.map (Value.int .i64)).toArray 2)).drew K Q else E := by
  obtain ⟨i0, hi, hz0, hz1, hz2⟩ := info_parts info_i64
  have hown' : (W.alloc (.cells (ys.map (Value.int .i64)).toArray 2)).drew.ownsRow B 2 1 v xs.length (xs.map (Value.int .i64)) := World.ownsRow.drew (World.ownsRow.alloc hown _)
  refine step_append_lies _ hgd s x 29 ho B 2 i0 (.int .i64 0) 1 8 Try.underlying29 hi hz0 hz1 hz2 rfl (by decide) v xs.length _ hs hown' ⟨W.heap.size, 0, none⟩ ys.length c (ys.map (Value.int .i64)) hx (by simp) (cells_lit W _ _) ?_ hy (by unfold maxLen; omega) (by omega) (by simp; omega) (W.heap.size + 1) (by simp) ?_
  · intro u hu; obtain ⟨y, _, rfl⟩ := List.mem_map.1 hu; rfl
  · intro g cap w' h1 h2 _ _
    have h2' : (W.alloc (.cells (ys.map (Value.int .i64)).toArray 2)).grownBy w' v.ownBlock := ⟨h2.os, h2.tape, h2.output, h2.size, h2.block⟩
    obtain ⟨g', c', he, h3, h4⟩ := app_shape hy hown h1 h2'
    obtain ⟨rfl, rfl⟩ : g = g' ∧ cap = c' := by simpa using he
    exact hK g cap w' h3 h4
end Go.Proofs.Ytnpfninkopffmaa

namespace Go.Proofs.Ytnpfninkopffmaa
open Go.RowKit
set_option linter.unusedVariables false
set_option linter.unusedSimpArgs false

theorem append_from {ops : Array Oper} {rest : List Oper} {o : Oper} {a : Act} {Q : Exit → Act → World → Prop} {W : World} (hgd : o.guard = none) (s x : Operand)
    (ho : o.op = .call { callee := .builtin .append, args := #[s, x], argTypes := #[29, 29] }) (B : Nat) (v : Value) (xs ys : List Int) (hy : 0 < ys.length)
    (hs : a.eval s = v) (b off c : Nat) (hx : a.eval x = .slice (some ⟨b, off, none⟩) ys.length c) (hcells : ∀ i (h : i < ys.length), W.cell? ⟨b, off + i, none⟩ = some (.int .i64 ys[i])) (hown : OwnI W B v xs) (hB : B ≤ W.heap.size) (hsmall : xs.length + ys.length ≤ 1099511627776)
    (hK : ∀ g c w', OwnI w' B (.slice (some ⟨g, 0, none⟩) (xs.length + ys.length) c) (xs ++ ys) → W.grownBy w' v.ownBlock → wpList Try.prog ops Q rest (a.put o.dst (.slice (some ⟨g, 0, none⟩) (xs.length + ys.length) c)) w') :
    wpList Try.prog ops Q (o :: rest) a W := by
  obtain ⟨i0, hi, hz0, hz1, hz2⟩ := info_parts info_i64
  refine wpList_append_own _ hgd s x 29 ho B 2 i0 (.int .i64 0) 1 8 Try.underlying29 hi hz0 hz1 hz2 rfl (by decide) v xs.length _ hs hown ⟨b, off, none⟩ ys.length c (ys.map (Value.int .i64)) hx (by simp) ?_ ?_ (by unfold maxLen; omega) (by omega) hB ?_
  · intro j u hj
    rw [List.getElem?_map] at hj
    cases h : ys[j]? with
    | none => rw [h] at hj; cases hj
    | some y =>
      rw [h] at hj
      obtain ⟨h1, h2⟩ := List.getElem?_eq_some_iff.1 h
      have hadd : (⟨b, off, none⟩ : Addr).add j = ⟨b, off + j, none⟩ := by unfold Addr.add; split <;> simp_all
      rw [hadd, hcells j h1, h2]
      simpa using hj
  · intro u hu; obtain ⟨y, _, rfl⟩ := List.mem_map.1 hu; rfl
  · intro v' w' h1 h2 _
    have h1' : OwnI w' B v' (xs ++ ys) := by unfold OwnI; simpa using h1
    rcases h1.2 with ⟨_, h0⟩ | ⟨g, cap, cur, rfl, _⟩
    · omega
    · exact hK g cap w' h1' h2
end Go.Proofs.Ytnpfninkopffmaa

namespace Go.Proofs.Ytnpfninkopffmaa
open Go.RowKit
set_option linter.unusedVariables false
set_option linter.unusedSimpArgs false

theorem info_u8 : (Try.prog.info? 5).map (fun i => (i.zero, i.size, i.bytes)) = some (some (.int .u8 0), 1, 1) := by kernel_rfl
/-- v is a slice of the call's own (in a block from B on, or nil), and it holds the integers xs. -/
def OwnY (w : World) (B : Nat) (v : Value) (xs : List Int) : Prop := w.ownsRow B 5 1 v xs.length (xs.map (Value.int .u8))

theorem OwnY.alloc {w : World} {B : Nat} {v : Value} {xs : List Int} (h : OwnY w B v xs) (o : Obj) : OwnY (w.alloc o) B v xs := World.ownsRow.alloc h o
theorem OwnY.kept {w w' : World} {B : Nat} {v : Value} {xs : List Int} {row : Option Nat} (h : OwnY w B v xs) (hg : w.grownBy w' row) (hne : v.ownBlock = none ∨ v.ownBlock ≠ row) : OwnY w' B v xs := World.ownsRow.kept h hg hne
theorem OwnY.lt {w : World} {B : Nat} {v : Value} {xs : List Int} (h : OwnY w B v xs) : ∀ k, v.ownBlock = some k → B ≤ k ∧ k < w.heap.size := World.ownsRow.lt h
theorem OwnY.below {w w' : World} {B N : Nat} {v : Value} {xs : List Int} (h : OwnY w B v xs) (hb : Below N w w') (hN : w.heap.size ≤ N) : OwnY w' B v xs := by
  refine h.kept (row := none) ⟨hb.os, hb.tape, hb.output, hb.size, fun k hk _ => hb.block k (by omega)⟩ ?_
  cases v.ownBlock <;> simp
theorem OwnY.drewN {w : World} {B : Nat} {v : Value} {xs : List Int} (h : OwnY w B v xs) (q : Nat) : OwnY (w.drewN q) B v xs := h.below (below_drewN q (Below.refl w.heap.size w)) (Nat.le_refl _)
theorem OwnY.mono {w : World} {B B' : Nat} {v : Value} {xs : List Int} (h : OwnY w B v xs) (hB : B' ≤ B) : OwnY w B' v xs := by
  refine ⟨h.1, ?_⟩
  rcases h.2 with h2 | ⟨g, cap, cur, hv, hg, r⟩
  · exact .inl h2
  · exact .inr ⟨g, cap, cur, hv, by omega, r⟩
theorem OwnY.setCell {w : World} {B : Nat} {v : Value} {xs : List Int} (h : OwnY w B v xs) {p : Addr} (u : Value) (hne : v.ownBlock ≠ some p.block) : OwnY (w.setCell p u) B v xs :=
  h.kept (row := some p.block) ⟨rfl, rfl, rfl, by simp [World.setCell], fun k hk hk' => Below.heap_setCell _ _ _ _ (fun e => hk' (by rw [e]))⟩ (.inr hne)

/-- A slice literal. -/
theorem OwnY.lit (w : World) (B : Nat) (xs : List Int) (hB : B ≤ w.heap.size) (hx : xs.length ≤ maxLen) : OwnY (w.alloc (.cells (xs.map (Value.int .u8)).toArray 5)) B (.slice (some ⟨w.heap.size, 0, none⟩) xs.length xs.length) xs := by
  have := World.ownsRow_lit (e := 5) (size := 1) w (xs.map (Value.int .u8)).toArray xs.length hB hx (by simp)
  simpa [OwnY] using this

/-- What is known behind an append of at least one element. -/
theorem app_shapeY {W w' : World} {B : Nat} {v v' : Value} {xs ys : List Int} {t : TypeId} (hy : 0 < ys.length) (hown : OwnY W B v xs)
    (h1 : w'.ownsRow B 5 1 v' (xs.length + ys.length) (xs.map (Value.int .u8) ++ ys.map (Value.int .u8))) (h2 : (W.alloc (.cells (ys.map (Value.int .u8)).toArray t)).grownBy w' v.ownBlock) :
    ∃ g c, v' = .slice (some ⟨g, 0, none⟩) (xs.length + ys.length) c ∧ OwnY w' B (.slice (some ⟨g, 0, none⟩) (xs.length + ys.length) c) (xs ++ ys) ∧ W.grownBy w' v.ownBlock := by
  have hg : W.grownBy w' v.ownBlock := ⟨h2.os, h2.tape, h2.output, Nat.le_trans (by simp) h2.size, fun k hk hne => (h2.block k (by simp; omega) hne).trans (Below.heap_alloc _ _ _ hk)⟩
  have h1' : OwnY w' B v' (xs ++ ys) := by unfold OwnY; simpa using h1
  rcases h1.2 with ⟨_, h0⟩ | ⟨g, cap, cur, rfl, _⟩
  · omega
  · exact ⟨g, cap, rfl, h1', hg⟩

theorem append_y {ops : Array Oper} {rest : List Oper} {o : Oper} {a : Act} {Q : Exit → Act → World → Prop} {W : World} (hgd : o.guard = none) (s x : Operand)
    (ho : o.op = .call { callee := .builtin .append, args := #[s, x], argTypes := #[38, 38] }) (B : Nat) (v : Value) (xs ys : List Int) (hy : 0 < ys.length)
    (hs : a.eval s = v) (c : Nat) (hx : a.eval x = .slice (some ⟨W.heap.size, 0, none⟩) ys.length c) (hown : OwnY W B v xs) (hB : B ≤ W.heap.size) (hsmall : xs.length + ys.length ≤ 1099511627776)
    (hK : ∀ g c w', OwnY w' B (.slice (some ⟨g, 0, none⟩) (xs.length + ys.length) c) (xs ++ ys) → W.grownBy w' v.ownBlock → wpList Try.prog ops Q rest (a.put o.dst (.slice (some ⟨g, 0, none⟩) (xs.length + ys.length) c)) w') :
    wpList Try.prog ops Q (o :: rest) a (W.alloc (.cells (ys.map (Value.int .u8)).toArray 5)) := by
  obtain ⟨i0, hi, hz0, hz1, hz2⟩ := info_parts info_u8
  refine wpList_append_own _ hgd s x 38 ho B 5 i0 (.int .u8 0) 1 1 Try.underlying38 hi hz0 hz1 hz2 rfl (by decide) v xs.length _ hs (World.ownsRow.alloc hown _) ⟨W.heap.size, 0, none⟩ ys.length c (ys.map (Value.int .u8)) hx (by simp) (cells_lit W _ _) ?_ (by unfold maxLen; omega) (by omega) (by simp; omega) ?_
  · intro u hu; obtain ⟨y, _, rfl⟩ := List.mem_map.1 hu; rfl
  · intro v' w' h1 h2 _
    obtain ⟨g, c', rfl, h3, h4⟩ := app_shapeY hy hown h1 h2
    exact hK g c' w' h3 h4


theorem step_append_y {ops : Array Oper} {o : Oper} {a : Act} {K : Act → World → Prop} {Q : Exit → Act → World → Prop} {E : Prop} {W : World} (hgd : o.guard = none) (s x : Operand)
    (ho : o.op = .call { callee := .builtin .append, args := #[s, x], argTypes := #[38, 38] }) (B : Nat) (v : Value) (xs ys : List Int) (hy : 0 < ys.length)
    (hs : a.eval s = v) (c : Nat) (hx : a.eval x = .slice (some ⟨W.heap.size, 0, none⟩) ys.length c) (hown : OwnY W B v xs) (hB : B ≤ W.heap.size) (hsmall : xs.length + ys.length ≤ 1099511627776)
    (hK : ∀ g c w', OwnY w' B (.slice (some ⟨g, 0, none⟩) (xs.length + ys.length) c) (xs ++ ys) → W.grownBy w' v.ownBlock → K (a.put o.dst (.slice (some ⟨g, 0, none⟩) (xs.length + ys.length) c)) w') :
    if Region.wanted o (yielded ops a.tmps) = true then Oper.wp Try.prog o a (W.alloc (.cells (ys.map (Value.int .u8)).toArray 5)).drew K Q else E := by
  obtain ⟨i0, hi, hz0, hz1, hz2⟩ := info_parts info_u8
  have hown' : (W.alloc (.cells (ys.map (Value.int .u8)).toArray 5)).drew.ownsRow B 5 1 v xs.length (xs.map (Value.int .u8)) := World.ownsRow.drew (World.ownsRow.alloc hown _)
  refine step_append_lies _ hgd s x 38 ho B 5 i0 (.int .u8 0) 1 1 Try.underlying38 hi hz0 hz1 hz2 rfl (by decide) v xs.length _ hs hown' ⟨W.heap.size, 0, none⟩ ys.length c (ys.map (Value.int .u8)) hx (by simp) (cells_lit W _ _) ?_ hy (by unfold maxLen; omega) (by omega) (by simp; omega) (W.heap.size + 1) (by simp) ?_
  · intro u hu; obtain ⟨y, _, rfl⟩ := List.mem_map.1 hu; rfl
  · intro g cap w' h1 h2 _ _
    have h2' : (W.alloc (.cells (ys.map (Value.int .u8)).toArray 5)).grownBy w' v.ownBlock := ⟨h2.os, h2.tape, h2.output, h2.size, h2.block⟩
    obtain ⟨g', c', he, h3, h4⟩ := app_shapeY hy hown h1 h2'
    obtain ⟨rfl, rfl⟩ : g = g' ∧ cap = c' := by simpa using he
    exact hK g cap w' h3 h4

theorem append_fromY {ops : Array Oper} {rest : List Oper} {o : Oper} {a : Act} {Q : Exit → Act → World → Prop} {W : World} (hgd : o.guard = none) (s x : Operand)
    (ho : o.op = .call { callee := .builtin .append, args := #[s, x], argTypes := #[38, 38] }) (B : Nat) (v : Value) (xs ys : List Int) (hy : 0 < ys.length)
    (hs : a.eval s = v) (b off c : Nat) (hx : a.eval x = .slice (some ⟨b, off, none⟩) ys.length c) (hcells : ∀ i (h : i < ys.length), W.cell? ⟨b, off + i, none⟩ = some (.int .u8 ys[i])) (hown : OwnY W B v xs) (hB : B ≤ W.heap.size) (hsmall : xs.length + ys.length ≤ 1099511627776)
    (hK : ∀ g c w', OwnY w' B (.slice (some ⟨g, 0, none⟩) (xs.length + ys.length) c) (xs ++ ys) → W.grownBy w' v.ownBlock → wpList Try.prog ops Q rest (a.put o.dst (.slice (some ⟨g, 0, none⟩) (xs.length + ys.length) c)) w') :
    wpList Try.prog ops Q (o :: rest) a W := by
  obtain ⟨i0, hi, hz0, hz1, hz2⟩ := info_parts info_u8
  refine wpList_append_own _ hgd s x 38 ho B 5 i0 (.int .u8 0) 1 1 Try.underlying38 hi hz0 hz1 hz2 rfl (by decide) v xs.length _ hs hown ⟨b, off, none⟩ ys.length c (ys.map (Value.int .u8)) hx (by simp) ?_ ?_ (by unfold maxLen; omega) (by omega) hB ?_
  · intro j u hj
    rw [List.getElem?_map] at hj
    cases h : ys[j]? with
    | none => rw [h] at hj; cases hj
    | some y =>
      rw [h] at hj
      obtain ⟨h1, h2⟩ := List.getElem?_eq_some_iff.1 h
      have hadd : (⟨b, off, none⟩ : Addr).add j = ⟨b, off + j, none⟩ := by unfold Addr.add; split <;> simp_all
      rw [hadd, hcells j h1, h2]
      simpa using hj
  · intro u hu; obtain ⟨y, _, rfl⟩ := List.mem_map.1 hu; rfl
  · intro v' w' h1 h2 _
    have h1' : OwnY w' B v' (xs ++ ys) := by unfold OwnY; simpa using h1
    rcases h1.2 with ⟨_, h0⟩ | ⟨g, cap, cur, rfl, _⟩
    · omega
    · exact hK g cap w' h1' h2

/-- A text's bytes, as numbers. -/
def chs (s : ByteArray) : List Int := s.data.toList.map fun b => (b.toNat : Int)
theorem chs_length (s : ByteArray) : (chs s).length = s.size := by simp [chs]
theorem chs_cells (s : ByteArray) : Lib.strCells s = (chs s).map (Value.int .u8) := by simp [Lib.strCells, chs]
/-- 'append(b, s...)' of a text, outside every round. -/
theorem append_text {ops : Array Oper} {rest : List Oper} {o : Oper} {a : Act} {Q : Exit → Act → World → Prop} {W : World} (hgd : o.guard = none) (sl x : Operand)
    (ho : o.op = .call { callee := .builtin .append, args := #[sl, x], argTypes := #[38, 9] }) (B : Nat) (v : Value) (xs : List Int) (hs : a.eval sl = v) (s : ByteArray) (hx : a.eval x = .string s) (hown : OwnY W B v xs) (h0 : 0 < xs.length) (hB : B ≤ W.heap.size) (hsmall : xs.length + s.size ≤ 1099511627776)
    (hK : ∀ g c w', OwnY w' B (.slice (some ⟨g, 0, none⟩) (xs ++ chs s).length c) (xs ++ chs s) → W.grownBy w' v.ownBlock → wpList Try.prog ops Q rest (a.put o.dst (.slice (some ⟨g, 0, none⟩) (xs ++ chs s).length c)) w') :
    wpList Try.prog ops Q (o :: rest) a W := by
  obtain ⟨i0, hi, hz0, hz1, hz2⟩ := info_parts info_u8
  refine Lib.wpList_append_own_string _ hgd sl x 38 9 ho B 5 i0 Try.underlying38 Try.underlying9 hi hz0 hz1 hz2 v xs.length _ hs hown s hx (by unfold maxLen; omega) (by omega) hB ?_
  intro v' w' h1 h2 h3
  have h4 : OwnY w' B v' (xs ++ chs s) := by
    unfold OwnY
    rw [List.map_append, ← chs_cells, List.length_append, chs_length]
    exact h1
  rcases h4.2 with ⟨_, h5⟩ | ⟨g, cap, cur, rfl, _⟩
  · simp at h5; rw [h5.1] at h0; simp at h0
  · exact hK g cap w' h4 h2
theorem OwnY.cellsY {w : World} {B g n c : Nat} {xs : List Int} (h : OwnY w B (.slice (some ⟨g, 0, none⟩) n c) xs) : ∀ i, i < xs.length → w.cell? ⟨g, i, none⟩ = some (.int .u8 (xs.getD i 0)) := fun i hi => by
  have := World.ownsRow.cells h (g := g) rfl i (.int .u8 xs[i]) (by simp [hi])
  have hadd : (⟨g, 0, none⟩ : Addr).add i = ⟨g, i, none⟩ := by unfold Addr.add; split <;> simp_all
  rw [hadd] at this
  rw [this]; simp [List.getD_eq_getElem?_getD, List.getElem?_eq_getElem hi]
/-- 'string(b)'. -/
theorem conv_y {w : World} {B g c : Nat} {xs : List Int} (h : OwnY w B (.slice (some ⟨g, 0, none⟩) xs.length c) xs) : (convert 38 9 (.slice (some ⟨g, 0, none⟩) xs.length c)).run Try.prog w = .ok (.string (strOfNums xs)) w :=
  run_convert_bytes_arg w 38 5 Try.underlying38 Try.underlying5 g 0 xs.length c xs rfl (fun i hi => by rw [Nat.zero_add]; exact h.cellsY i hi) 9 Try.underlying9

/-! The check number. -/
def chkStep (n : Int) (b : UInt8) : Int := (967 * n + b.toNat + 227) % 65003
def chk (n : Int) (s : ByteArray) : Int := s.data.toList.foldl chkStep n
def chkTo (n : Int) (s : ByteArray) (k : Nat) : Int := (s.data.toList.take k).foldl chkStep n
theorem chkTo_succ (n : Int) (s : ByteArray) (k : Nat) (h : k < s.size) : chkTo n s (k + 1) = chkStep (chkTo n s k) s[k] := by
  unfold chkTo
  rw [List.take_succ_eq_append_getElem (by simpa using h), List.foldl_append]
  rfl
theorem chkTo_full (n : Int) (s : ByteArray) : chkTo n s s.size = chk n s := by
  unfold chkTo chk; rw [List.take_of_length_le (by simp)]
theorem chkStep_win {n : Int} (h0 : 0 ≤ n) (h1 : n ≤ 65002) (b : UInt8) : 0 ≤ chkStep n b ∧ chkStep n b ≤ 65002 := by
  unfold chkStep
  have hb := b.toNat_lt
  have h2 : 0 ≤ 967 * n + (b.toNat : Int) + 227 := by omega
  have := Int.emod_nonneg (967 * n + (b.toNat : Int) + 227) (show (65003 : Int) ≠ 0 by decide)
  have := Int.emod_lt_of_pos (967 * n + (b.toNat : Int) + 227) (show (0 : Int) < 65003 by decide)
  omega
theorem chkTo_win {n : Int} (h0 : 0 ≤ n) (h1 : n ≤ 65002) (s : ByteArray) : ∀ k, k ≤ s.size → 0 ≤ chkTo n s k ∧ chkTo n s k ≤ 65002 := by
  intro k
  induction k with
  | zero => intro _; exact ⟨h0, h1⟩
  | succ k ih =>
    intro hk
    rw [chkTo_succ n s k (by omega)]
    exact chkStep_win (ih (by omega)).1 (ih (by omega)).2 _
theorem chk_win {n : Int} (h0 : 0 ≤ n) (h1 : n ≤ 65002) (s : ByteArray) : 0 ≤ chk n s ∧ chk n s ≤ 65002 := by
  rw [← chkTo_full]; exact chkTo_win h0 h1 s _ (Nat.le_refl _)

end Go.Proofs.Ytnpfninkopffmaa

namespace Go.Proofs.Ytnpfninkopffmaa
open Go.RowKit
set_option linter.unusedVariables false
set_option linter.unusedSimpArgs false

def isLow (c : UInt8) : Bool := decide (97 ≤ (c.toNat : Int)) && decide ((c.toNat : Int) ≤ 122)
def nameOk (s : ByteArray) : Bool := s.data.toList.all isLow && decide (1 ≤ s.size) && decide (s.size ≤ 8)
theorem all_take_succ (s : ByteArray) (k : Nat) (h : k < s.size) : (s.data.toList.take (k + 1)).all isLow = ((s.data.toList.take k).all isLow && isLow s[k]) := by
  rw [List.take_succ_eq_append_getElem (by simpa using h), List.all_append]
  simp
  rfl
theorem all_bad (s : ByteArray) (k : Nat) (h : k < s.size) (hb : isLow s[k] = false) : s.data.toList.all isLow = false := by
  rw [List.all_eq_false]
  exact ⟨s[k], by
    have : s[k] = s.data.toList[k]'(by simpa using h) := by simp; rfl
    rw [this]; exact List.getElem_mem _, by rw [hb]; simp⟩
theorem all_full (s : ByteArray) : s.data.toList.take s.size = s.data.toList := List.take_of_length_le (by simp)

end Go.Proofs.Ytnpfninkopffmaa

namespace Go.Proofs.Ytnpfninkopffmaa
open Go.RowKit
set_option linter.unusedVariables false
set_option linter.unusedSimpArgs false

theorem OwnI.slR {w : World} {B : Nat} {v : Value} {xs : List Int} (h : OwnI w B v xs) (hw : ∀ n ∈ xs, (Lit.int .i64 n).wf = true) : SlR rInt w v xs := SlR.of_ints h.ints hw

set_option maxRecDepth 100000 in
set_option maxHeartbeats 1000000 in
theorem toTask_any (a0 a1 : Int) (vb vl : Value) (bs ls : List Int) (w : World) (hb : SlR rInt w vb bs) (hl : SlR rInt w vl ls) (h0 : bs.length ≤ 1048576) (h1 : ls.length ≤ 1048576) (y0 : (Lit.int .i64 a0).wf = true) (y1 : (Lit.int .i64 a1).wf = true) :
    Calls Try.prog 78 #[.agg #[.int .i64 a0, .int .i64 a1, vb, vl]] w fun e w' => (∃ ub ul, e = .returned (.agg #[.int .i64 a0, .int .i64 a1, ub, ul]) ∧ FreshR rTask w.heap.size w' [.int .i64 a0, .int .i64 a1, ub, ul] (a0, a1, bs, ls)) ∧ Below w.heap.size w w' := by
  have HC1 : Hid (∀ W, Below w.heap.size w W → Calls Try.prog 16 #[vb] W fun e w' => ∃ v', e = .returned v' ∧ OwnI w' W.heap.size v' bs ∧ Below W.heap.size W w') := fun W hW => by
    have := toInt64S_any vb bs W (hb.ints.1.below hW (Nat.le_refl _)) h0
    exact this
  have HC2 : Hid (∀ W, Below w.heap.size w W → Calls Try.prog 16 #[vl] W fun e w' => ∃ v', e = .returned v' ∧ OwnI w' W.heap.size v' ls ∧ Below W.heap.size W w') := fun W hW => by
    have := toInt64S_any vl ls W (hl.ints.1.below hW (Nat.le_refl _)) h1
    exact this
  have HW1 := Lib.hid hb.ints.2
  have HW2 := Lib.hid hl.ints.2
  obtain ⟨_, b1, b2, rfl, _⟩ := hb
  obtain ⟨_, l1, l2, rfl, _⟩ := hl
  go_enter Try.func78, Try.ntmps78
  go_wp2_with fail
  obtain ⟨S, hS⟩ : ∃ S, w.heap.size = S := ⟨_, rfl⟩
  obtain ⟨W0, hW0⟩ : ∃ W0, (((w.alloc (.cells #[.int .i64 a0, .int .i64 a1, .slice b1 bs.length b2, .slice l1 ls.length l2] 90)).alloc (.cells #[.int .i64 0, .int .i64 0, .slice none 0 0, .slice none 0 0] 56)).alloc (.cells #[.int .i64 a0, .int .i64 a1, .slice none 0 0, .slice none 0 0] 56)) = W0 := ⟨_, rfl⟩
  have hB0 : Below S w W0 := by rw [← hW0, ← hS]; exact (((Below.refl _ w).alloc (Nat.le_refl _) _).alloc (by simp) _).alloc (by simp; omega) _
  have k1 : Blk W0 S 90 [.int .i64 a0, .int .i64 a1, .slice b1 bs.length b2, .slice l1 ls.length l2] := by rw [← hW0, ← hS]; exact ((Blk.new w _ _).alloc _).alloc _
  have k2 : Blk W0 (S + 1) 56 [.int .i64 0, .int .i64 0, .slice none 0 0, .slice none 0 0] := by
    rw [← hW0, ← hS]
    have := (Blk.new (w.alloc (.cells #[.int .i64 a0, .int .i64 a1, .slice b1 bs.length b2, .slice l1 ls.length l2] 90)) 56 [.int .i64 0, .int .i64 0, .slice none 0 0, .slice none 0 0]).alloc (.cells #[.int .i64 a0, .int .i64 a1, .slice none 0 0, .slice none 0 0] 56)
    rwa [World.size_alloc] at this
  have k3 : Blk W0 (S + 1 + 1) 56 [.int .i64 a0, .int .i64 a1, .slice none 0 0, .slice none 0 0] := by
    rw [← hW0, ← hS]
    have := Blk.new ((w.alloc (.cells #[.int .i64 a0, .int .i64 a1, .slice b1 bs.length b2, .slice l1 ls.length l2] 90)).alloc (.cells #[.int .i64 0, .int .i64 0, .slice none 0 0, .slice none 0 0] 56)) 56 [.int .i64 a0, .int .i64 a1, .slice none 0 0, .slice none 0 0]
    rwa [World.size_alloc, World.size_alloc] at this
  rw [hW0, hS]
  have HS := Lib.hid hS
  have HB0 := Lib.hid hB0
  have hs0 : S + 1 + 1 < W0.heap.size := k3.lt
  clear hW0 hS hB0
  refine (HC1.out W0 (by rw [HS.out]; exact HB0.out)).mono ?_
  rintro e W1 ⟨ub, rfl, ho1, hb1⟩
  have m1 := k1.below hb1 (by omega)
  have m2 := k2.below hb1 (by omega)
  have m3 := k3.below hb1 (by omega)
  have c1 := m1.cell 3 _ rfl
  have c3 := m3.cell 2 _ rfl
  have f3 := m3.frozen 2
  have hs1 := hb1.size
  have HO1 := Lib.hid ho1
  have HB1 := Lib.hid (HB0.out.trans (hb1.mono (by omega)))
  have M1 := Lib.hid m1
  have M2 := Lib.hid m2
  have M3 := Lib.hid m3
  have hub : ∃ a c, ub = .slice a bs.length c := by obtain ⟨_, a, c, h, _⟩ := ho1.ints; exact ⟨a, c, h⟩
  obtain ⟨ua, uc, rfl⟩ := hub
  clear ho1 hb1 m1 m2 m3 k1 k2 k3
  go_wp2_with fail
  obtain ⟨W2, hW2⟩ : ∃ W2, W1.setCell ⟨S + 1 + 1, 2, none⟩ (.slice ua bs.length uc) = W2 := ⟨_, rfl⟩
  rw [hW2]
  have n1 := M1.out.far ⟨S + 1 + 1, 2, none⟩ (.slice ua bs.length uc) (by show S ≠ S + 1 + 1; omega)
  have n2 := M2.out.far ⟨S + 1 + 1, 2, none⟩ (.slice ua bs.length uc) (by show S + 1 ≠ S + 1 + 1; omega)
  have n3 := M3.out.set 2 (.slice ua bs.length uc)
  rw [hW2] at n1 n2 n3
  have ho2 : OwnI W2 W0.heap.size (.slice ua bs.length uc) bs := by
    rw [← hW2]
    exact HO1.out.setCell _ (fun e => by have := (HO1.out.lt _ e).1; simp at this; omega)
  have hb2 : Below S w W2 := by rw [← hW2]; exact HB1.out.setCell (by show S ≤ S + 1 + 1; omega) _
  have hs2 : W2.heap.size = W1.heap.size := by rw [← hW2]; simp
  have HB2 := Lib.hid hb2
  have HO2 := Lib.hid ho2
  clear hW2 HO1 HB1 M1 M2 M3 c1 c3 f3 hb2 ho2
  refine (HC2.out W2 (by rw [HS.out]; exact HB2.out)).mono ?_
  rintro e W3 ⟨ul, rfl, ho3, hb3⟩
  have m1 := n1.below hb3 (by omega)
  have m2 := n2.below hb3 (by omega)
  have m3 := n3.below hb3 (by omega)
  have hs3 := hb3.size
  obtain ⟨ulb, ulc, rfl⟩ : ∃ a c, ul = .slice a ls.length c := by obtain ⟨_, a, c, h, _⟩ := ho3.ints; exact ⟨a, c, h⟩
  have c3 := m3.cell 3 _ rfl
  have f3 := m3.frozen 3
  have d0 := m3.cell 0 _ rfl
  have d1 := m3.cell 1 _ rfl
  have d2 := m3.cell 2 _ rfl
  have g0 := m2.cell 0 _ rfl
  have g1 := m2.cell 1 _ rfl
  have g2 := m2.cell 2 _ rfl
  have g3 := m2.cell 3 _ rfl
  have e0 := m2.frozen 0
  have e1 := m2.frozen 1
  have e2 := m2.frozen 2
  have e3 := m2.frozen 3
  have HO3 := Lib.hid ho3
  have HO4 := Lib.hid (HO2.out.below hb3 (Nat.le_refl _))
  have HB3 := Lib.hid (HB2.out.trans (hb3.mono (by omega)))
  clear ho3 hb3 m1 m2 m3 n1 n2 n3 HO2 HB2
  go_wp2_with fail
  have far : ∀ (v : Value) (N : Nat) (zs : List Int), W0.heap.size ≤ N → OwnI W3 N v zs → ∀ b, b < W0.heap.size → v.ownBlock ≠ some b := fun v N zs hN ho b hb e => by
    have := (ho.lt b e).1; omega
  have q1 : ∀ (v : Value) (N : Nat) (zs : List Int) (x0 x1 x2 x3 x4 : Value), W0.heap.size ≤ N → OwnI W3 N v zs → OwnI (((((W3.setCell ⟨S + 1 + 1, 3, none⟩ x0).setCell ⟨S + 1, 0, none⟩ x1).setCell ⟨S + 1, 1, none⟩ x2).setCell ⟨S + 1, 2, none⟩ x3).setCell ⟨S + 1, 3, none⟩ x4) N v zs := fun v N zs x0 x1 x2 x3 x4 hN ho =>
    ((((ho.setCell _ (far v N zs hN ho _ hs0)).setCell _ (far v N zs hN ho _ (by show S + 1 < _; omega))).setCell _ (far v N zs hN ho _ (by show S + 1 < _; omega))).setCell _ (far v N zs hN ho _ (by show S + 1 < _; omega))).setCell _ (far v N zs hN ho _ (by show S + 1 < _; omega))
  have p1 := q1 _ _ _ (.slice ulb ls.length ulc) (.int .i64 a0) (.int .i64 a1) (.slice ua bs.length uc) (.slice ulb ls.length ulc) (Nat.le_refl _) HO4.out
  have p2 := q1 _ _ _ (.slice ulb ls.length ulc) (.int .i64 a0) (.int .i64 a1) (.slice ua bs.length uc) (.slice ulb ls.length ulc) (by omega) HO3.out
  refine bodyPost_ret (v := .agg #[.int .i64 a0, .int .i64 a1, .slice ua bs.length uc, .slice ulb ls.length ulc]) (by simp [results, Try.results78, go_sem, g0, g1, g2, g3]) rfl ⟨⟨_, _, rfl, (FreshR.int _ _ _ y0).pair ((FreshR.int _ _ _ y1).pair (((p1.fresh HW1.out).mono (by rw [HS.out]; omega)).pair ((p2.fresh HW2.out).mono (by rw [HS.out]; omega))))⟩, ?_⟩
  rw [HS.out]
  exact ((((HB3.out.setCell (by show S ≤ S + 1 + 1; omega) _).setCell (by show S ≤ S + 1; omega) _).setCell (by show S ≤ S + 1; omega) _).setCell (by show S ≤ S + 1; omega) _).setCell (by show S ≤ S + 1; omega) _
end Go.Proofs.Ytnpfninkopffmaa

namespace Go.Proofs.Ytnpfninkopffmaa
open Go.RowKit
set_option linter.unusedVariables false
set_option linter.unusedSimpArgs false

theorem info_task : (Try.prog.info? 56).map (fun i => (i.zero, i.size, i.bytes)) = some (some (.agg #[.int .i64 0, .int .i64 0, .slice none 0 0, .slice none 0 0]), 4, 64) := by kernel_rfl

set_option maxRecDepth 100000 in
set_option maxHeartbeats 2000000 in
theorem toTaskS_any (v : Value) (xs : List Tk) (w : World) (hv : TasksR w v xs) (hs : smallTasks xs) :
    Calls Try.prog 33 #[v] w fun e w' => (∃ v', e = .returned v' ∧ FreshR (rSl rTask) w.heap.size w' [v'] xs) ∧ Below w.heap.size w w' := by
  have HV : Hid (∀ W, Below w.heap.size w W → TasksR W v xs) := fun W hW => hv.below hW (Nat.le_refl _)
  have hm0 := hv.1
  obtain ⟨a, c, rfl, hcap, hc⟩ := hv.at_
  obtain ⟨i0, hi, hz0, hz1, hz2⟩ := info_parts info_task
  have hl := hs.1
  have HS := Lib.hid hs
  unfold maxLen at hm0
  clear hc hv hs
  go_enter Try.func33, Try.ntmps33
  go_wp2_with (at_make; refine wpList_make_full _ rfl _ _ 48 rfl w.heap.size 56 i0 (.agg #[.int .i64 0, .int .i64 0, .slice none 0 0, .slice none 0 0]) 4 Try.underlying48 hi hz0 hz1 _ _ _ _ xs.length rfl rfl rfl rfl (by rw [hz2]; omega) (by unfold maxLen at *; omega) (Nat.le_refl _) ?_; intro w1 hown1 hgrow1)
  obtain ⟨g, hg⟩ : ∃ g, w.heap.size = g := ⟨_, rfl⟩
  obtain ⟨raw0, hO1⟩ : ∃ raw, OwnV 56 4 w1 g (.slice (some ⟨g, 0, none⟩) xs.length xs.length) xs.length raw := by subst hg; exact ⟨_, hown1⟩
  have HO1 := Lib.hid hO1
  have HB1 := Lib.hid ((Below.refl g w).grown hgrow1 (by omega) (fun k e => by cases e))
  have HG := Lib.hid hg
  rw [hg]
  clear hown1 hgrow1 hi hz0 hz1 hz2 hg hO1
  go_loopw [4] (fun vi wr => ∃ (k : Nat) (raw : List Value), k ≤ xs.length ∧ vi = .int .i64 k ∧ OwnV 56 4 wr g (.slice (some ⟨g, 0, none⟩) xs.length xs.length) xs.length raw ∧ FillR rTask (g + 1) wr raw xs k ∧ Below g w wr) (fun vi _ => xs.length - (intOf vi).toNat)
  case atStart => exact ⟨0, _, Nat.zero_le _, rfl, HO1.out, fun i _ h => by omega, HB1.out⟩
  case round =>
    obtain ⟨k, raw, hk, rfl, hO, hF, hB⟩ := hrel
    obtain ⟨wr', rfl⟩ : ∃ wr' : World, wr' = wr := ⟨_, rfl⟩
    have HO := Lib.hid hO
    have HF := Lib.hid hF
    have HB := Lib.hid hB
    have hgl := (hO.lt g rfl).2
    clear hO hF hB HO1 HB1
    by_cases hkl : k < xs.length
    · have hV := HV.out wr' (by rw [HG.out]; exact HB.out)
      obtain ⟨a3, c3, hsl3, _, hc⟩ := hV.at_
      obtain ⟨rfl, rfl⟩ : a = a3 ∧ c = c3 := by simpa using hsl3
      obtain ⟨b, o, vb, vl, rfl, hbs, h1, h2, y0, y1, e0, e1, e2, e3⟩ := hc k hkl
      have hsm := HS.out.2 _ (List.getElem_mem hkl)
      have hto := toTask_any xs[k].1 xs[k].2.1 vb vl xs[k].2.2.1 xs[k].2.2.2 wr' h1 h2 hsm.1 hsm.2 y0 y1
      have HX : Hid ((xs[k].1, xs[k].2.1, xs[k].2.2.1, xs[k].2.2.2) = xs[k]) := rfl
      obtain ⟨x0, hx0⟩ : ∃ x0, xs[k].1 = x0 := ⟨_, rfl⟩
      obtain ⟨x1, hx1⟩ : ∃ x1, xs[k].2.1 = x1 := ⟨_, rfl⟩
      rw [hx0] at e0 hto HX
      rw [hx1] at e1 hto HX
      have k0 : (0 : Int) ≤ (k : Int) := by omega
      have k1 : (k : Int) < (xs.length : Int) := by omega
      have hlen := HO.out.length
      have HTO := Lib.hid hto
      have HLEN := Lib.hid hlen
      clear hto hc hsl3 h1 h2 hx0 hx1 hV hsm y0 y1 hlen
      go_wp2_with fail
      refine HTO.out.mono ?_
      rintro e W1 ⟨⟨ub, ul, rfl, hfr⟩, hb1⟩
      obtain ⟨ua, uc, rfl⟩ : ∃ a c, ub = .slice a xs[k].2.2.1.length c := by obtain ⟨vb', vl', he, _, _, h3, _⟩ := task_cells.1 hfr.now; obtain ⟨_, a, c, h, _⟩ := h3.ints.1; simp at he; exact ⟨a, c, by rw [he.1]; exact h⟩
      obtain ⟨ulb, ulc, rfl⟩ : ∃ a c, ul = .slice a xs[k].2.2.2.length c := by obtain ⟨vb', vl', he, _, _, _, h3⟩ := task_cells.1 hfr.now; obtain ⟨_, a, c, h, _⟩ := h3.ints.1; simp at he; exact ⟨a, c, by rw [he.2]; exact h⟩
      have hO1 := HO.out.below hb1 (Nat.le_refl _)
      have hF1 := HF.out.later (Agree.below hb1 (Nat.le_refl _))
      have hfr2 := hfr.mono (show g + 1 ≤ wr'.heap.size by omega)
      have hB1 := HB.out.trans (hb1.mono (by omega))
      have hput := hF1.put4 rfl _ _ _ _ hkl HLEN.out (by rw [← HX.out]; exact hfr2)
      obtain ⟨s0, f0, o0, _⟩ := hO1.store (k * 4) (by rw [HLEN.out]; omega) (.int .i64 x0)
      obtain ⟨s1, f1, o1, _⟩ := o0.store (k * 4 + 1) (by rw [List.length_set, HLEN.out]; omega) (.int .i64 x1)
      obtain ⟨s2, f2, o2, _⟩ := o1.store (k * 4 + 2) (by rw [List.length_set, List.length_set, HLEN.out]; omega) (.slice ua xs[k].2.2.1.length uc)
      obtain ⟨s3, f3, o3, _⟩ := o2.store (k * 4 + 3) (by rw [List.length_set, List.length_set, List.length_set, HLEN.out]; omega) (.slice ulb xs[k].2.2.2.length ulc)
      have t1 := (hO1.store (k * 4 + 1) (by rw [HLEN.out]; omega) (.bool true)).1
      have t2 := (hO1.store (k * 4 + 2) (by rw [HLEN.out]; omega) (.bool true)).1
      have t3 := (hO1.store (k * 4 + 3) (by rw [HLEN.out]; omega) (.bool true)).1
      have z1 := (hO1.store (k * 4 + 1) (by rw [HLEN.out]; omega) (.bool true)).2.1
      have z2 := (hO1.store (k * 4 + 2) (by rw [HLEN.out]; omega) (.bool true)).2.1
      have z3 := (hO1.store (k * 4 + 3) (by rw [HLEN.out]; omega) (.bool true)).2.1
      have HO3 := Lib.hid o3
      have HPUT := Lib.hid hput
      have HB1 := Lib.hid hB1
      clear s1 f1 o0 s2 f2 o1 s3 f3 o2 o3 hfr hfr2 hput hb1 hO1 hF1 hB1
      go_wp2_with fail
      go_roundw
      case rel => exact ⟨k + 1, _, by omega, by go_num, HO3.out, HPUT.out.later ((((Agree.setCell _ ⟨g, k * 4, none⟩ _ (by show g < g + 1; omega)).trans (Agree.setCell _ ⟨g, k * 4 + 1, none⟩ _ (by show g < g + 1; omega))).trans (Agree.setCell _ ⟨g, k * 4 + 2, none⟩ _ (by show g < g + 1; omega))).trans (Agree.setCell _ ⟨g, k * 4 + 3, none⟩ _ (by show g < g + 1; omega))), (((HB1.out.setCell (p := ⟨g, k * 4, none⟩) (Nat.le_refl _) _).setCell (p := ⟨g, k * 4 + 1, none⟩) (Nat.le_refl _) _).setCell (p := ⟨g, k * 4 + 2, none⟩) (Nat.le_refl _) _).setCell (p := ⟨g, k * 4 + 3, none⟩) (Nat.le_refl _) _⟩
      case measure => simp [intOf]; omega
    · obtain rfl : k = xs.length := by omega
      clear hkl
      go_wp2_with fail
      go_ret
      rw [HG.out]
      exact ⟨⟨_, rfl, FillR.done HO.out HF.out (by unfold maxLen; omega)⟩, HB.out⟩

set_option maxRecDepth 100000 in
set_option maxHeartbeats 1000000 in
theorem eqTask_same (a0 a1 : Int) (vb vl ub ul : Value) (bs ls : List Int) (w : World) (hb : Ints w vb bs) (hl : Ints w vl ls) (hb' : Ints w ub bs) (hl' : Ints w ul ls) :
    Calls Try.prog 83 #[.agg #[.int .i64 a0, .int .i64 a1, vb, vl], .agg #[.int .i64 a0, .int .i64 a1, ub, ul]] w fun e w' => e = .returned (.bool true) ∧ Below w.heap.size w w' := by
  have H1 : Hid (∀ W, Below w.heap.size w W → Calls Try.prog 18 #[vb, ub] W fun e w' => e = .returned (.bool true) ∧ Below W.heap.size W w') := fun W hW => by
    have := eqInt64S_any vb ub bs bs W (hb.below hW (Nat.le_refl _)) (hb'.below hW (Nat.le_refl _)); rwa [beq_self_eq_true] at this
  have H2 : Hid (∀ W, Below w.heap.size w W → Calls Try.prog 18 #[vl, ul] W fun e w' => e = .returned (.bool true) ∧ Below W.heap.size W w') := fun W hW => by
    have := eqInt64S_any vl ul ls ls W (hl.below hW (Nat.le_refl _)) (hl'.below hW (Nat.le_refl _)); rwa [beq_self_eq_true] at this
  obtain ⟨_, b1, b2, rfl, _⟩ := hb
  obtain ⟨_, l1, l2, rfl, _⟩ := hl
  obtain ⟨_, b3, b4, rfl, _⟩ := hb'
  obtain ⟨_, l3, l4, rfl, _⟩ := hl'
  go_enter Try.func83, Try.ntmps83
  go_wp2_with fail
  obtain ⟨W0, hW0⟩ : ∃ W0, ((w.alloc (.cells #[.int .i64 a0, .int .i64 a1, .slice b1 bs.length b2, .slice l1 ls.length l2] 56)).alloc (.cells #[.int .i64 a0, .int .i64 a1, .slice b3 bs.length b4, .slice l3 ls.length l4] 56)) = W0 := ⟨_, rfl⟩
  have hB0 : Below w.heap.size w W0 := by rw [← hW0]; exact ((Below.refl _ w).alloc (Nat.le_refl _) _).alloc (by simp) _
  have k1 : Blk W0 w.heap.size 56 [.int .i64 a0, .int .i64 a1, .slice b1 bs.length b2, .slice l1 ls.length l2] := by rw [← hW0]; exact (Blk.new w _ _).alloc _
  have k2 : Blk W0 (w.heap.size + 1) 56 [.int .i64 a0, .int .i64 a1, .slice b3 bs.length b4, .slice l3 ls.length l4] := by
    rw [← hW0]
    have := Blk.new (w.alloc (.cells #[.int .i64 a0, .int .i64 a1, .slice b1 bs.length b2, .slice l1 ls.length l2] 56)) 56 [.int .i64 a0, .int .i64 a1, .slice b3 bs.length b4, .slice l3 ls.length l4]
    rwa [World.size_alloc] at this
  rw [hW0]
  have HB0 := Lib.hid hB0
  have l1' := k1.lt
  have l2' := k2.lt
  clear hW0 hB0
  refine (H1.out W0 HB0.out).mono ?_
  rintro e W1 ⟨rfl, hb1⟩
  have m1 := k1.below hb1 l1'
  have m2 := k2.below hb1 l2'
  have c1 := m1.cell 3 _ rfl
  have c2 := m2.cell 3 _ rfl
  have HB1 := Lib.hid (HB0.out.trans (hb1.mono HB0.out.size))
  clear hb1 m1 m2 k1 k2
  go_wp2_with fail
  refine (H2.out W1 HB1.out).mono ?_
  rintro e W2 ⟨rfl, hb2⟩
  have HB2 := Lib.hid (HB1.out.trans (hb2.mono HB1.out.size))
  clear hb2
  go_wp2
  go_ret
  exact ⟨rfl, HB2.out⟩

set_option maxRecDepth 100000 in
set_option maxHeartbeats 1000000 in
theorem eqTaskS_same (v u : Value) (xs : List Tk) (w : World) (hv : TasksR w v xs) (hu : TasksR w u xs) :
    Calls Try.prog 35 #[v, u] w fun e w' => e = .returned (.bool true) ∧ Below w.heap.size w w' := by
  have HV : Hid (∀ W, Below w.heap.size w W → TasksR W v xs) := fun W hW => hv.below hW (Nat.le_refl _)
  have HU : Hid (∀ W, Below w.heap.size w W → TasksR W u xs) := fun W hW => hu.below hW (Nat.le_refl _)
  have hm0 := hv.1
  unfold maxLen at hm0
  obtain ⟨a, c, rfl, hcap, _⟩ := hv.at_
  obtain ⟨a', c', rfl, hcap', _⟩ := hu.at_
  clear hv hu
  go_enter Try.func35, Try.ntmps35
  go_wp2
  go_loopw [5] (fun i wr => ∃ k : Nat, k ≤ xs.length ∧ i = .int .i64 k ∧ Below w.heap.size w wr) (fun i _ => xs.length - (intOf i).toNat)
  case atStart => exact ⟨0, Nat.zero_le _, rfl, Below.refl _ _⟩
  case round =>
    obtain ⟨k, hk, rfl, hb⟩ := hrel
    obtain ⟨wr', rfl⟩ : ∃ wr' : World, wr' = wr := ⟨_, rfl⟩
    have HB := Lib.hid hb
    by_cases hlt : k < xs.length
    · obtain ⟨a3, c3, hsl3, _, hc⟩ := (HV.out wr' hb).at_
      obtain ⟨rfl, rfl⟩ : a = a3 ∧ c = c3 := by simpa using hsl3
      obtain ⟨b, o, vb, vl, rfl, hbs, h1, h2, _, _, e0, e1, e2, e3⟩ := hc k hlt
      obtain ⟨a4, c4, hsl4, _, hc'⟩ := (HU.out wr' hb).at_
      obtain ⟨rfl, rfl⟩ : a' = a4 ∧ c' = c4 := by simpa using hsl4
      obtain ⟨b', o', ub, ul, rfl, hbs', h1', h2', _, _, f0, f1, f2, f3⟩ := hc' k hlt
      have HCALL : Hid (∀ q, Calls Try.prog 83 #[.agg #[.int .i64 xs[k].1, .int .i64 xs[k].2.1, vb, vl], .agg #[.int .i64 xs[k].1, .int .i64 xs[k].2.1, ub, ul]] (wr'.drewN q) _) := fun q =>
        eqTask_same xs[k].1 xs[k].2.1 vb vl ub ul xs[k].2.2.1 xs[k].2.2.2 (wr'.drewN q) (h1.ints.1.below (below_drewN q (Below.refl _ _)) (Nat.le_refl _)) (h2.ints.1.below (below_drewN q (Below.refl _ _)) (Nat.le_refl _)) (h1'.ints.1.below (below_drewN q (Below.refl _ _)) (Nat.le_refl _)) (h2'.ints.1.below (below_drewN q (Below.refl _ _)) (Nat.le_refl _))
      obtain ⟨x0, hx0⟩ : ∃ x0, xs[k].1 = x0 := ⟨_, rfl⟩
      obtain ⟨x1, hx1⟩ : ∃ x1, xs[k].2.1 = x1 := ⟨_, rfl⟩
      rw [hx0] at e0 f0 HCALL
      rw [hx1] at e1 f1 HCALL
      have hk0 : (0 : Int) ≤ (k : Int) := by omega
      have hk1 : (k : Int) < (xs.length : Int) := by omega
      clear hc hc' hsl3 hsl4 h1 h2 h1' h2' hx0 hx1 hb
      go_wp2
      go_still_tail 8, (by kernel_rfl)
      go_wp2_with (go_at_call 83; refine (HCALL.out 1).mono ?_; rintro e W1 ⟨rfl, hb1⟩; have HB1 := Lib.hid ((below_drewN 1 HB.out).trans (hb1.mono (by have := HB.out.size; exact this))); clear hb1)
      go_roundw
      case rel => exact ⟨k + 1, by omega, by go_num, HB1.out⟩
      case measure => simp [intOf]; omega
    · clear hb
      go_wp2
      go_ret
      exact ⟨rfl, HB.out⟩
end Go.Proofs.Ytnpfninkopffmaa

namespace Go.Proofs.Ytnpfninkopffmaa
open Go.RowKit
set_option linter.unusedVariables false
set_option linter.unusedSimpArgs false

abbrev Sv := ByteArray × List Tk × List Int
def rSaved : Rdr Sv := rPair rStr (rPair (rSl rTask) (rSl rInt))
theorem saved_cells {w : World} {cs : List Value} {x : Sv} : rSaved.R w cs x ↔ ∃ vt vs, cs = [.string x.1, vt, vs] ∧ x.1.size ≤ maxLen ∧ TasksR w vt x.2.1 ∧ SlR rInt w vs x.2.2 := by
  constructor
  · rintro ⟨c1, c2, rfl, ⟨rfl, h1⟩, c3, c4, rfl, ⟨vt, rfl, h2⟩, vs, rfl, h3⟩
    exact ⟨vt, vs, rfl, h1, h2, h3⟩
  · rintro ⟨vt, vs, rfl, h1, h2, h3⟩
    exact ⟨_, _, rfl, ⟨rfl, h1⟩, _, _, rfl, ⟨vt, rfl, h2⟩, vs, rfl, h3⟩
def smallSaved (x : Sv) : Prop := x.1.size ≤ 1048576 ∧ smallTasks x.2.1 ∧ x.2.2.length ≤ 1048576
def savedV (s : ByteArray) (vt vs : Value) : Value := .agg #[.string s, vt, vs]

end Go.Proofs.Ytnpfninkopffmaa

namespace Go.Proofs.Ytnpfninkopffmaa
open Go.RowKit Go.BigFrame
set_option linter.unusedVariables false
set_option linter.unusedSimpArgs false
attribute [local go_sem] Oper.semAt_some

set_option maxRecDepth 100000 in
set_option maxHeartbeats 1000000 in
theorem l03Are_any (v : Value) (xs : List Tk) (w : World) (hv : TasksR w v xs) (hl : xs.length ≤ 1048576) : Calls Try.prog 116 #[v] w fun e w' => e = .returned (.bool (tasksOk xs)) ∧ ∃ q, w' = w.drewN q := by
  have HV := Lib.hid hv
  obtain ⟨a, c, rfl, hcap, _⟩ := hv.at_
  clear hv
  go_enter Try.func116, Try.ntmps116
  go_wp2
  go_loopw [6] (fun vi wr => ∃ i : Nat, i ≤ xs.length ∧ vi = .int .i64 i ∧ Hid (∃ q, wr = w.drewN q) ∧ Hid (∀ j (hj : j < xs.length), j < i → taskOk j xs[j] = true)) (fun vi _ => xs.length - (intOf vi).toNat)
  case atStart => exact ⟨0, Nat.zero_le _, rfl, ⟨0, rfl⟩, fun j hj h => by omega⟩
  case round =>
    obtain ⟨i, hi, rfl, hq, hok⟩ := hrel
    obtain ⟨wr', rfl⟩ : ∃ wr' : World, wr' = wr := ⟨_, rfl⟩
    by_cases hlt : i < xs.length
    · have hVr : TasksR wr' (.slice a xs.length c) xs := by obtain ⟨q, rfl⟩ := hq.out; exact HV.out.below (below_drewN q (Below.refl _ _)) (Nat.le_refl _)
      obtain ⟨a3, c3, hsl3, _, hc⟩ := hVr.at_
      obtain ⟨rfl, rfl⟩ : a = a3 ∧ c = c3 := by simpa using hsl3
      obtain ⟨b, o, vb, vl, rfl, hbs, h1, h2, y0, y1, e0, e1, e2, e3⟩ := hc i hlt
      have hcall := l03Task_any i b (o + i * 4) xs[i] vb vl wr' (by omega) e0 e1 e2 e3 h1.ints.1 h2.ints.1
      have HBAD : Hid (taskOk i xs[i] = false → tasksOk xs = false) := fun h => tasksOk_bad hlt h
      obtain ⟨ok, hokk⟩ : ∃ ok, taskOk (i : Int) xs[i] = ok := ⟨_, rfl⟩
      rw [hokk] at hcall HBAD
      have HC := Lib.hid hcall
      have HOKK := Lib.hid hokk
      have HWQ : Hid (∀ q, ∃ q', wr'.drewN q = w.drewN q') := fun q => by obtain ⟨q0, rfl⟩ := hq.out; exact ⟨q0 + q, by simp⟩
      have k0 : (0 : Int) ≤ (i : Int) := by omega
      have k1 : (i : Int) < (xs.length : Int) := by omega
      clear hcall hokk hc hsl3 h1 h2 y0 y1 e0 e1 e2 e3 hVr hq
      cases ok
      · have HF := Lib.hid (HBAD.out rfl)
        go_wp2_with (go_at_call 139; refine HC.out.mono ?_; rintro e w' ⟨rfl, q, rfl⟩)
        go_ret
        exact ⟨ret_bool HF.out.symm, HWQ.out _⟩
      · go_wp2_with (go_at_call 139; refine HC.out.mono ?_; rintro e w' ⟨rfl, q, rfl⟩)
        go_roundw
        case rel =>
          refine ⟨i + 1, by omega, by go_num, HWQ.out _, fun j hj h => ?_⟩
          rcases Nat.lt_succ_iff_lt_or_eq.1 h with h | rfl
          · exact hok.out j hj h
          · exact HOKK.out
        case measure => simp [intOf]; omega
    · have HE := Lib.hid (tasksOk_end (xs := xs) (fun j hj => hok.out j hj (by omega)))
      have HQ := Lib.hid hq.out
      clear hok hq
      by_cases h1 : 1 ≤ xs.length
      · by_cases h2 : xs.length ≤ 16
        · go_wp2
          go_ret
          exact ⟨ret_bool (by rw [HE.out]; simp [h1]; omega), HQ.out⟩
        · go_wp2
          go_ret
          exact ⟨ret_bool (by rw [HE.out]; simp [h1]; omega), HQ.out⟩
      · have hd : decide ((1 : Int) ≤ (xs.length : Int)) = false := by simp; omega
        go_wp2
        go_ret
        exact ⟨ret_bool (by rw [HE.out]; simp [h1]), HQ.out⟩

def startsOk (ts : List Tk) (st : List Int) : Bool := many st (ts.length : Int) (ts.length : Int) 0 65535
def savedOk (x : Sv) : Bool := nameOk x.1 && tasksOk x.2.1 && startsOk x.2.1 x.2.2
end Go.Proofs.Ytnpfninkopffmaa

namespace Go.Proofs.Ytnpfninkopffmaa
open Go.RowKit Go.BigFrame
set_option linter.unusedVariables false
set_option linter.unusedSimpArgs false

theorem quiet_drew {P : Program} {f : FuncId} {args : Array Value} {w : World} {n : Nat} {v : Value}
    (h : Calls P f args (w.drewN n) fun e w' => e = .returned v ∧ ∃ q, w' = (w.drewN n).drewN q) : Calls P f args (w.drewN n) fun e w'' => e = .returned v ∧ ∃ m, w'' = w.drewN m :=
  h.mono fun _ _ ⟨he, q, hq⟩ => ⟨he, n + q, by rw [hq]; simp⟩

theorem startsOk_eq {ts : List Tk} {st : List Int} (h : st.length = ts.length) : startsOk ts st = st.all fun n => win n 0 65535 := by
  unfold startsOk many; simp [h]
theorem startsOk_len {ts : List Tk} {st : List Int} (h : st.length ≠ ts.length) : startsOk ts st = false := by
  unfold startsOk many
  by_cases h1 : (ts.length : Int) ≤ st.length
  · have : ¬ (st.length : Int) ≤ ts.length := by omega
    simp [this]
  · simp [h1]
theorem startsOk_bad {ts : List Tk} {st : List Int} {i : Nat} (h : st.length = ts.length) (hi : i < st.length) (hb : win (nth st i) 0 65535 = false) : startsOk ts st = false := by
  rw [startsOk_eq h, List.all_eq_false]
  exact ⟨st[i], List.getElem_mem _, by rw [← nth_eq hi, hb]; simp⟩
theorem startsOk_end {ts : List Tk} {st : List Int} (h : st.length = ts.length) (hb : ∀ i, i < st.length → win (nth st i) 0 65535 = true) : startsOk ts st = true := by
  rw [startsOk_eq h, List.all_eq_true]
  intro n hn
  obtain ⟨i, hi, rfl⟩ := List.mem_iff_getElem.1 hn
  rw [← nth_eq hi]; exact hb i hi

end Go.Proofs.Ytnpfninkopffmaa

namespace Go.Proofs.Ytnpfninkopffmaa
open Go.RowKit
set_option linter.unusedVariables false
set_option linter.unusedSimpArgs false

def pairTo (bs ls : List Int) (m : Nat) : List Int := (List.range m).flatMap fun k => [nth bs k % 256, (nth ls k + 100) % 256]
theorem pairTo_succ (bs ls : List Int) (m : Nat) : pairTo bs ls (m + 1) = pairTo bs ls m ++ [nth bs m % 256, (nth ls m + 100) % 256] := by
  unfold pairTo; rw [List.range_succ, List.flatMap_append]; simp
theorem pairTo_len (bs ls : List Int) : ∀ m, (pairTo bs ls m).length = 2 * m := by
  intro m
  induction m with
  | zero => rfl
  | succ m ih => rw [pairTo_succ, List.length_append, ih]; simp; omega
def taskH (x : Tk) : List Int := [x.1 % 256, x.2.1 % 256, (x.2.2.1.length : Int) % 256]
def taskB (x : Tk) : List Int := taskH x ++ pairTo x.2.2.1 x.2.2.2 x.2.2.1.length
def tasksB (ts : List Tk) (i : Nat) : List Int := (ts.take i).flatMap taskB
theorem tasksB_succ (ts : List Tk) (i : Nat) (h : i < ts.length) : tasksB ts (i + 1) = tasksB ts i ++ taskB ts[i] := by
  unfold tasksB; rw [List.take_succ_eq_append_getElem h, List.flatMap_append]; simp
theorem taskB_len (x : Tk) : (taskB x).length = 3 + 2 * x.2.2.1.length := by
  unfold taskB taskH; rw [List.length_append, pairTo_len]; simp
theorem tasksB_len {ts : List Tk} (h : ∀ x ∈ ts, x.2.2.1.length ≤ 1048576) : ∀ i, i ≤ ts.length → (tasksB ts i).length ≤ i * 2097155 := by
  intro i
  induction i with
  | zero => intro _; simp [tasksB]
  | succ i ih =>
    intro hi
    rw [tasksB_succ ts i (by omega), List.length_append, taskB_len]
    have h1 := ih (by omega)
    have h2 := h _ (List.getElem_mem (show i < ts.length by omega))
    omega
def startsB (st : List Int) (i : Nat) : List Int := (List.range i).flatMap fun k => [nth st k % 256, nth st k / 256]
theorem startsB_succ (st : List Int) (i : Nat) : startsB st (i + 1) = startsB st i ++ [nth st i % 256, nth st i / 256] := by
  unfold startsB; rw [List.range_succ, List.flatMap_append]; simp
theorem startsB_len (st : List Int) : ∀ i, (startsB st i).length = 2 * i := by
  intro m
  induction m with
  | zero => rfl
  | succ m ih => rw [startsB_succ, List.length_append, ih]; simp; omega
def head1 (s : ByteArray) : List Int := [80, 76, 78, 49, (s.size : Int)]
def headB (s : ByteArray) (n : Nat) : List Int := head1 s ++ chs s ++ [(n : Int)]
theorem headB_len (s : ByteArray) (n : Nat) : (headB s n).length = s.size + 6 := by unfold headB head1; simp [chs_length]; try omega
def bodyB (x : Sv) : List Int := headB x.1 x.2.1.length ++ tasksB x.2.1 x.2.1.length ++ startsB x.2.2 x.2.2.length
def storeB (x : Sv) : List Int := bodyB x ++ [chk 0 (strOfNums (bodyB x)) % 256, chk 0 (strOfNums (bodyB x)) / 256]
def storeS (x : Sv) : ByteArray := strOfNums (storeB x)
/-- What is known of a valid plan. -/
theorem saved_bounds {s : ByteArray} {ts : List Tk} {st : List Int} (h : savedOk (s, ts, st) = true) : s.size ≤ 8 ∧ 1 ≤ ts.length ∧ ts.length ≤ 16 ∧ st.length = ts.length ∧ (∀ i (hi : i < ts.length), ts[i].2.2.1.length = ts[i].2.2.2.length ∧ ∀ k, k < ts[i].2.2.2.length → -100 ≤ nth ts[i].2.2.2 k ∧ nth ts[i].2.2.2 k ≤ 100) ∧ ∀ i, i < st.length → 0 ≤ nth st i ∧ nth st i ≤ 65535 := by
  unfold savedOk at h
  simp only [Bool.and_eq_true] at h
  obtain ⟨⟨h1, h2⟩, h3⟩ := h
  unfold nameOk at h1
  simp only [Bool.and_eq_true, decide_eq_true_eq] at h1
  have h2' := h2
  unfold tasksOk at h2'
  simp only [Bool.and_eq_true, decide_eq_true_eq, List.all_eq_true, List.mem_range] at h2'
  obtain ⟨m1, m2, m3⟩ := many_true.1 h3
  refine ⟨h1.2, h2'.1.2, h2'.2, by omega, fun i hi => ?_, fun i hi => ?_⟩
  · have := h2'.1.1 i hi
    rw [tkAt_eq hi] at this
    unfold taskOk taskHead at this
    simp only [Bool.and_eq_true, decide_eq_true_eq] at this
    refine ⟨this.1.1.2, fun k hk => ?_⟩
    have h4 := this.1.2
    unfold lagsOk at h4
    rw [nth_eq hk]
    exact win_true.1 (List.all_eq_true.1 h4 _ (List.getElem_mem hk))
  · rw [nth_eq hi]
    exact win_true.1 (List.all_eq_true.1 m3 _ (List.getElem_mem hi))
theorem saved_name1 {s : ByteArray} {ts : List Tk} {st : List Int} (h : savedOk (s, ts, st) = true) : 1 ≤ s.size := by
  unfold savedOk at h
  simp only [Bool.and_eq_true] at h
  obtain ⟨⟨h1, h2⟩, h3⟩ := h
  unfold nameOk at h1
  simp only [Bool.and_eq_true, decide_eq_true_eq] at h1
  exact h1.1.2
end Go.Proofs.Ytnpfninkopffmaa
