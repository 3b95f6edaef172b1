
/- Bytes of a constant text, and an append to them; append of bytes at a step of a region that draws its order. Conditions: lengths at most 2^40. -/
import Derived.Test.YtcjeededlhdcbaaDoorBytes
import Derived.Test.YtcjeededlhdcbaaDoorBlk
import Derived.Lib.SlBytesConst
import Derived.ArgAppend
import Derived.Deep.AppendLies
import Derived.Deep.RegionLaw
namespace Go.Proofs.YtcjeededlhdcbaaDoor
open Go.RowKit
set_option linter.unusedVariables false
set_option linter.unusedSimpArgs false

theorem conv_const (w : World) (C : Array Value) (n c : Nat) : (convert 33 33 (.slice (some ⟨w.heap.size, 0, none⟩) n c)).run Tryd.prog (w.alloc (.cells C 5)) = .ok (.slice (some ⟨w.heap.size, 0, none⟩) n c) (w.alloc (.cells C 5 (C.size, C.size + 1))) :=
  Lib.run_convert_bytes_const w 33 5 C n c Tryd.underlying33 Tryd.underlying5

theorem append_fullY {ops : Array Oper} {rest : List Oper} {o : Oper} {a : Act} {Q : Exit → Act → World → Prop} {W : World} (hgd : o.guard = none) (s x : Operand)
    (ho : o.op = .call { callee := .builtin .append, args := #[s, x], argTypes := #[33, 33] }) (g : Nat) (xs ys : List Int) (hy : 0 < ys.length)
    (hs : a.eval s = .slice (some ⟨g, 0, none⟩) xs.length xs.length) (hcell : ∀ i, i < xs.length → W.cell? ⟨g, i, none⟩ = some (.int .u8 (xs.getD i 0))) (hg : g < W.heap.size) (c : Nat) (hx : a.eval x = .slice (some ⟨W.heap.size, 0, none⟩) ys.length c) (hsmall : xs.length + ys.length ≤ 1099511627776)
    (hK : ∀ g' c' w', OwnY w' W.heap.size (.slice (some ⟨g', 0, none⟩) (xs ++ ys).length c') (xs ++ ys) → Below W.heap.size W w' → wpList Tryd.prog ops Q rest (a.put o.dst (.slice (some ⟨g', 0, none⟩) (xs ++ ys).length c')) w') :
    wpList Tryd.prog ops Q (o :: rest) a (W.alloc (.cells (ys.map (Value.int .u8)).toArray 5)) := by
  obtain ⟨i0, hi, hz0, hz1, hz2⟩ := info_parts info_u8
  refine wpList_append_grows _ hgd s x 33 ho 5 i0 (.int .u8 0) 1 1 Tryd.underlying33 hi hz0 hz1 hz2 rfl (by decide) (some ⟨g, 0, none⟩) xs.length xs.length (xs.map (Value.int .u8)) hs (fun e => by cases e) (by simp) ?_ ⟨W.heap.size, 0, none⟩ ys.length c (ys.map (Value.int .u8)) hx (by simp) (cells_lit W _ _) ?_ (by omega) (by unfold maxLen; omega) (by omega) ?_
  · rintro b hb j u hj
    cases hb
    have hjl : j < xs.length := by
      have := (List.getElem?_eq_some_iff.1 hj).1
      simpa using this
    have hadd : (⟨g, 0, none⟩ : Addr).add j = ⟨g, j, none⟩ := by unfold Addr.add; split <;> simp_all
    rw [hadd, World.cell?_of_block (Below.heap_alloc _ _ _ hg), hcell j hjl]
    simp [List.getElem?_eq_getElem hjl] at hj
    rw [← hj]; simp [List.getD_eq_getElem?_getD, List.getElem?_eq_getElem hjl]
  · intro u hu; obtain ⟨y, _, rfl⟩ := List.mem_map.1 hu; rfl
  · intro v' w' h1 h2
    have h3 : OwnY w' W.heap.size v' (xs ++ ys) := by
      have : OwnY w' (W.alloc (.cells (ys.map (Value.int .u8)).toArray 5)).heap.size v' (xs ++ ys) := by
        unfold OwnY; rw [List.map_append, List.length_append]; exact h1
      exact this.mono (by simp)
    have hb : Below W.heap.size W w' := ((Below.refl _ W).alloc (Nat.le_refl _) _).grown h2 (by simp) (fun k e => by cases e)
    rcases h3.2 with ⟨_, h5⟩ | ⟨g', cap, cur, rfl, _⟩
    · simp at h5; rw [h5.2] at hy; simp at hy
    · exact hK g' cap w' h3 hb
theorem OwnY.drew {w : World} {B : Nat} {v : Value} {xs : List Int} (h : OwnY w B v xs) : OwnY w.drew B v xs := World.ownsRow.drew h
/-- 'append(b, s...)' of a text where the region draws its order. -/
theorem step_text {ops : Array Oper} {o : Oper} {a : Act} {K : Act → World → Prop} {Q : Exit → Act → World → Prop} {E : Prop} {W : World} (hgd : o.guard = none) (sl x : Operand)
    (ho : o.op = .call { callee := .builtin .append, args := #[sl, x], argTypes := #[33, 9] }) (B : Nat) (v : Value) (xs : List Int) (hs : a.eval sl = v) (s : ByteArray) (hx : a.eval x = .string s) (hown : OwnY W B v xs) (h0 : 0 < xs.length) (hB : B ≤ W.heap.size) (hsmall : xs.length + s.size ≤ 1099511627776)
    (hK : ∀ g c w', OwnY w' B (.slice (some ⟨g, 0, none⟩) (xs ++ chs s).length c) (xs ++ chs s) → W.grownBy w' v.ownBlock → K (a.put o.dst (.slice (some ⟨g, 0, none⟩) (xs ++ chs s).length c)) w') :
    if Region.wanted o (yielded ops a.tmps) = true then Oper.wp Tryd.prog o a W K Q else E := by
  have hw : Region.wanted o (yielded ops a.tmps) = true := by simp [Region.wanted, hgd]
  rw [if_pos hw]
  obtain ⟨i0, hi, hz0, hz1, hz2⟩ := info_parts info_u8
  obtain ⟨v', w', hr, h1, h2, h3⟩ := Lib.run_append_own_string (P := Tryd.prog) W B 33 9 o.type 5 i0 Tryd.underlying33 Tryd.underlying9 hi hz0 hz1 hz2 v xs.length _ hown s (by unfold maxLen; omega) (by omega) hB
  have h4 : OwnY w' B v' (xs ++ chs s) := by
    unfold OwnY
    rw [List.map_append, ← chs_cells, List.length_append, chs_length]
    exact h1
  unfold Oper.wp execOp
  simp only [ho, resolve, invoke, builtin, Sem.run_bind, Sem.run_pure, Result.andThen_ok, List.map_toArray, List.map_cons, List.map_nil, hs, hx, hr]
  rcases h4.2 with ⟨_, h5⟩ | ⟨g, cap, cur, rfl, _⟩
  · simp at h5; rw [h5.1] at h0; simp at h0
  · exact hK g cap w' h4 h2
/-- 'append(b, x, ..)' where the region draws its order; the bytes to be appended lie anywhere. -/
theorem step_y {ops : Array Oper} {o : Oper} {a : Act} {K : Act → World → Prop} {Q : Exit → Act → World → Prop} {E : Prop} {W : World} (hgd : o.guard = none) (s x : Operand)
    (ho : o.op = .call { callee := .builtin .append, args := #[s, x], argTypes := #[33, 33] }) (B : Nat) (v : Value) (xs ys : List Int) (hy : 0 < ys.length)
    (hs : a.eval s = v) (lb c : Nat) (hx : a.eval x = .slice (some ⟨lb, 0, none⟩) ys.length c) (hown : OwnY W B v xs) (hcell : ∀ j u, (ys.map (Value.int .u8))[j]? = some u → W.cell? ((⟨lb, 0, none⟩ : Addr).add j) = some u) (hB : B ≤ W.heap.size) (hsmall : xs.length + ys.length ≤ 1099511627776)
    (hK : ∀ g c w', OwnY w' B (.slice (some ⟨g, 0, none⟩) (xs ++ ys).length c) (xs ++ ys) → W.grownBy w' v.ownBlock → K (a.put o.dst (.slice (some ⟨g, 0, none⟩) (xs ++ ys).length c)) w') :
    if Region.wanted o (yielded ops a.tmps) = true then Oper.wp Tryd.prog o a W K Q else E := by
  obtain ⟨i0, hi, hz0, hz1, hz2⟩ := info_parts info_u8
  refine step_append_lies _ hgd s x 33 ho B 5 i0 (.int .u8 0) 1 1 Tryd.underlying33 hi hz0 hz1 hz2 rfl (by decide) v xs.length _ hs hown ⟨lb, 0, none⟩ ys.length c (ys.map (Value.int .u8)) hx (by simp) hcell ?_ hy (by unfold maxLen; omega) (by omega) hB W.heap.size rfl ?_
  · intro u hu; obtain ⟨y, _, rfl⟩ := List.mem_map.1 hu; rfl
  · intro g cap w' h1 h2 _ _
    have h4 : OwnY w' B (.slice (some ⟨g, 0, none⟩) (xs ++ ys).length cap) (xs ++ ys) := by
      unfold OwnY; rw [List.map_append, List.length_append]; exact h1
    have := hK g cap w' h4 h2
    rwa [List.length_append] at this
theorem lit_kept {W w' : World} {ys : List Int} {row : Option Nat} (hg : (W.alloc (.cells (ys.map (Value.int .u8)).toArray 5)).grownBy w' row) (hr : ∀ k, row = some k → k < W.heap.size) : ∀ j u, (ys.map (Value.int .u8))[j]? = some u → w'.cell? ((⟨W.heap.size, 0, none⟩ : Addr).add j) = some u := fun j u hj => by
  have h1 := cells_lit W (ys.map (Value.int .u8)) 5 j u hj
  have hadd : ((⟨W.heap.size, 0, none⟩ : Addr).add j).block = W.heap.size := by unfold Addr.add; split <;> rfl
  rw [World.cell?_of_block (hg.block _ (by rw [hadd]; simp) (by rw [hadd]; intro e; have := hr _ e.symm; omega))]
  exact h1
/-- The same laws, the new length under a name. -/
theorem step_textN {ops : Array Oper} {o : Oper} {a : Act} {K : Act → World → Prop} {Q : Exit → Act → World → Prop} {E : Prop} {W : World} (hgd : o.guard = none) (sl x : Operand)
    (ho : o.op = .call { callee := .builtin .append, args := #[sl, x], argTypes := #[33, 9] }) (B : Nat) (v : Value) (xs : List Int) (hs : a.eval sl = v) (s : ByteArray) (hx : a.eval x = .string s) (hown : OwnY W B v xs) (h0 : 0 < xs.length) (hB : B ≤ W.heap.size) (hsmall : xs.length + s.size ≤ 1099511627776)
    (hK : ∀ g c n w', Hid (n = (xs ++ chs s).length) → OwnY w' B (.slice (some ⟨g, 0, none⟩) n c) (xs ++ chs s) → W.grownBy w' v.ownBlock → K (a.put o.dst (.slice (some ⟨g, 0, none⟩) n c)) w') :
    if Region.wanted o (yielded ops a.tmps) = true then Oper.wp Tryd.prog o a W K Q else E :=
  step_text hgd sl x ho B v xs hs s hx hown h0 hB hsmall fun g c w' h1 h2 => hK g c _ w' rfl h1 h2
theorem step_yN {ops : Array Oper} {o : Oper} {a : Act} {K : Act → World → Prop} {Q : Exit → Act → World → Prop} {E : Prop} {W : World} (hgd : o.guard = none) (s x : Operand)
    (ho : o.op = .call { callee := .builtin .append, args := #[s, x], argTypes := #[33, 33] }) (B : Nat) (v : Value) (xs ys : List Int) (hy : 0 < ys.length)
    (hs : a.eval s = v) (lb c : Nat) (hx : a.eval x = .slice (some ⟨lb, 0, none⟩) ys.length c) (hown : OwnY W B v xs) (hcell : ∀ j u, (ys.map (Value.int .u8))[j]? = some u → W.cell? ((⟨lb, 0, none⟩ : Addr).add j) = some u) (hB : B ≤ W.heap.size) (hsmall : xs.length + ys.length ≤ 1099511627776)
    (hK : ∀ g c n w', Hid (n = (xs ++ ys).length) → OwnY w' B (.slice (some ⟨g, 0, none⟩) n c) (xs ++ ys) → W.grownBy w' v.ownBlock → K (a.put o.dst (.slice (some ⟨g, 0, none⟩) n c)) w') :
    if Region.wanted o (yielded ops a.tmps) = true then Oper.wp Tryd.prog o a W K Q else E :=
  step_y hgd s x ho B v xs ys hy hs lb c hx hown hcell hB hsmall fun g c w' h1 h2 => hK g c _ w' rfl h1 h2
theorem append_yN {ops : Array Oper} {rest : List Oper} {o : Oper} {a : Act} {Q : Exit → Act → World → Prop} {W : World} (hgd : o.guard = none) (s x : Operand)
    (ho : o.op = .call { callee := .builtin .append, args := #[s, x], argTypes := #[33, 33] }) (B : Nat) (v : Value) (xs ys : List Int) (hy : 0 < ys.length)
    (hs : a.eval s = v) (c : Nat) (hx : a.eval x = .slice (some ⟨W.heap.size, 0, none⟩) ys.length c) (hown : OwnY W B v xs) (hB : B ≤ W.heap.size) (hsmall : xs.length + ys.length ≤ 1099511627776)
    (hK : ∀ g c n w', Hid (n = (xs ++ ys).length) → OwnY w' B (.slice (some ⟨g, 0, none⟩) n c) (xs ++ ys) → W.grownBy w' v.ownBlock → wpList Tryd.prog ops Q rest (a.put o.dst (.slice (some ⟨g, 0, none⟩) n c)) w') :
    wpList Tryd.prog ops Q (o :: rest) a (W.alloc (.cells (ys.map (Value.int .u8)).toArray 5)) :=
  append_y hgd s x ho B v xs ys hy hs c hx hown hB hsmall fun g c w' h1 h2 => by
    have := hK g c _ w' rfl (by rw [List.length_append]; exact h1) h2
    rwa [List.length_append] at this
theorem ownY_ne {w : World} {B b T : Nat} {v : Value} {xs : List Int} {cs : List Value} (h : OwnY w B v xs) (k : Blk w b T cs) (hT : T ≠ 5) : v.ownBlock ≠ some b := by
  rcases h.2 with ⟨rfl, _⟩ | ⟨g, cap, cur, rfl, hb, hg, _⟩
  · intro e; cases e
  · intro e
    have : g = b := by simpa [Value.ownBlock] using e
    subst this
    rw [show w.heap[g]? = _ from k] at hg
    simp at hg
    exact hT hg.2
theorem append_fromYN {ops : Array Oper} {rest : List Oper} {o : Oper} {a : Act} {Q : Exit → Act → World → Prop} {W : World} (hgd : o.guard = none) (s x : Operand)
    (ho : o.op = .call { callee := .builtin .append, args := #[s, x], argTypes := #[33, 33] }) (B : Nat) (v : Value) (xs ys : List Int) (hy : 0 < ys.length)
    (hs : a.eval s = v) (b off m c : Nat) (hm : m = ys.length) (hx : a.eval x = .slice (some ⟨b, off, none⟩) m c) (hcells : ∀ i (h : i < ys.length), W.cell? ⟨b, off + i, none⟩ = some (.int .u8 ys[i])) (hown : OwnY W B v xs) (hB : B ≤ W.heap.size) (hsmall : xs.length + ys.length ≤ 1099511627776)
    (hK : ∀ g c n w', Hid (n = (xs ++ ys).length) → OwnY w' B (.slice (some ⟨g, 0, none⟩) n c) (xs ++ ys) → W.grownBy w' v.ownBlock → wpList Tryd.prog ops Q rest (a.put o.dst (.slice (some ⟨g, 0, none⟩) n c)) w') :
    wpList Tryd.prog ops Q (o :: rest) a W := by
  subst hm
  exact append_fromY hgd s x ho B v xs ys hy hs b off c hx hcells hown hB hsmall fun g c w' h1 h2 => by
    have := hK g c _ w' rfl (by rw [List.length_append]; exact h1) h2
    rwa [List.length_append] at this
theorem step_append_yN {ops : Array Oper} {o : Oper} {a : Act} {K : Act → World → Prop} {Q : Exit → Act → World → Prop} {E : Prop} {W : World} (hgd : o.guard = none) (s x : Operand)
    (ho : o.op = .call { callee := .builtin .append, args := #[s, x], argTypes := #[33, 33] }) (B : Nat) (v : Value) (xs ys : List Int) (hy : 0 < ys.length)
    (hs : a.eval s = v) (c : Nat) (hx : a.eval x = .slice (some ⟨W.heap.size, 0, none⟩) ys.length c) (hown : OwnY W B v xs) (hB : B ≤ W.heap.size) (hsmall : xs.length + ys.length ≤ 1099511627776)
    (hK : ∀ g c n w', Hid (n = (xs ++ ys).length) → OwnY w' B (.slice (some ⟨g, 0, none⟩) n c) (xs ++ ys) → W.grownBy w' v.ownBlock → K (a.put o.dst (.slice (some ⟨g, 0, none⟩) n c)) w') :
    if Region.wanted o (yielded ops a.tmps) = true then Oper.wp Tryd.prog o a (W.alloc (.cells (ys.map (Value.int .u8)).toArray 5)).drew K Q else E :=
  step_append_y hgd s x ho B v xs ys hy hs c hx hown hB hsmall fun g c w' h1 h2 => by
    have := hK g c _ w' rfl (by rw [List.length_append]; exact h1) h2
    rwa [List.length_append] at this
theorem u8_wrap (n : Int) : IntKind.u8.wrap n = n % 256 := by simp [IntKind.wrap, IntKind.signed, IntKind.bits]
theorem conv_yN {w : World} {B g n c : Nat} {xs : List Int} (hn : n = xs.length) (h : OwnY w B (.slice (some ⟨g, 0, none⟩) n c) xs) : (convert 33 9 (.slice (some ⟨g, 0, none⟩) n c)).run Tryd.prog w = .ok (.string (strOfNums xs)) w := by
  subst hn; exact conv_y h
theorem cutg {G : Prop} (h : Hid G) : G := h.out
theorem cut_shareB {P G : Prop} (main : P) (cont : Hid P → G) : G := cont (Lib.hid main)
end Go.Proofs.YtcjeededlhdcbaaDoor
