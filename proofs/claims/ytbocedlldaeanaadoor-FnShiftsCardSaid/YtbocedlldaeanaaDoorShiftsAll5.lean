/- ValidDesk, program and reference: one plain test. Conditions: none. With texts that it needs. -/
import Derived.Test.YtbocedlldaeanaaDoorShiftsAll4
import Derived.Test.YtbocedlldaeanaaDoorShelf
import Derived.Shelf.Strings.SlTrimAscii
import Derived.Deep.RegionHeld3
import Derived.Test.YtbocedlldaeanaaDoorShiftsAll1
import Derived.StillTailTactics
import Derived.Test.YtbocedlldaeanaaDoorShiftsAll2
import Derived.Deep.RegionWith
namespace Go.Proofs.YtbocedlldaeanaaDoor
open Go.RowKit Go.Shelf
set_option linter.unusedVariables false
set_option linter.unusedSimpArgs false

theorem dropWhile_nil {α : Type} (p : α → Bool) : ∀ l : List α, l.dropWhile p = [] ↔ l.all p = true
  | [] => by simp
  | a :: l => by
    rw [List.dropWhile_cons, List.all_cons]
    cases h : p a
    · simp
    · simp [dropWhile_nil p l]
theorem trim_nil (l : List UInt8) : Go.Lib.trimS l [119, 46] = [] ↔ l.all isDW = true := by
  have hp : (fun x : UInt8 => [119, 46].contains x) = isDW := by
    funext x
    unfold isDW
    rw [Bool.eq_iff_iff]
    simp [List.contains_iff_mem, or_comm]
  unfold Go.Lib.trimS Go.Lib.trimLeftS Go.Lib.trimRightS
  rw [dropWhile_nil, hp]
  constructor
  · intro h
    by_cases h0 : (l.reverse.dropWhile isDW) = []
    · have := (dropWhile_nil isDW l.reverse).1 h0
      rw [List.all_reverse] at this
      exact this
    · exfalso
      have h1 := List.head_dropWhile_not isDW h0
      rw [List.all_reverse, List.all_eq_true] at h
      have h2 := h _ (List.head_mem h0)
      rw [h2] at h1
      exact absurd h1 (by simp)
  · intro h
    have : (l.reverse.dropWhile isDW) = [] := (dropWhile_nil isDW l.reverse).2 (by rw [List.all_reverse]; exact h)
    rw [this]
    rfl
theorem isWork_any (s : ByteArray) (w : World) (hs : s.size ≤ 1048576) :
    Calls Tryd.prog 30 #[.string s] w fun e w' => e = .returned (.bool (s.data.toList.all isDW)) ∧ Below w.heap.size w w' := by
  have h := Any.strings_Trim_laid Tryd.lays160 (by kernel_rfl) s ⟨#[119, 46]⟩ w (by omega) (by decide) (ascii_of_all (by decide))
  have HC := Lib.hid h
  have HT := Lib.hid (trim_nil s.data.toList)
  clear h
  obtain ⟨T, hT⟩ : ∃ T, Go.Lib.trimS s.data.toList [119, 46] = T := ⟨_, rfl⟩
  have e1 : Go.Lib.trimS s.data.toList (⟨#[119, 46]⟩ : ByteArray).data.toList = T := hT
  rw [e1] at HC
  rw [hT] at HT
  obtain ⟨X, hX⟩ : ∃ X, s.data.toList.all isDW = X := ⟨_, rfl⟩
  rw [hX] at HT ⊢
  clear hT e1 hX
  go_enter Tryd.func30, Tryd.ntmps30
  go_wp2_with fail
  refine HC.out.mono ?_
  rintro e W1 ⟨rfl, hb⟩
  have HB := Lib.hid hb
  clear hb HC
  go_wp2
  go_ret
  refine ⟨ret_bool ?_, HB.out⟩
  have h := HT.out
  cases T <;> cases X <;> simp_all

def stCells (s : ShS) : List Value := [.int .i64 s.slot, .int .i64 s.worked, .int .i64 s.row, .int .i64 s.pause, .bool s.begun]
def stRaw (l : List ShS) : List Value := l.flatMap stCells
theorem stRaw_length (l : List ShS) : (stRaw l).length = l.length * 5 := by
  induction l with
  | nil => rfl
  | cons a t ih => show (stCells a ++ stRaw t).length = _; rw [List.length_append, ih]; simp [stCells]; omega
theorem stRaw_get (l : List ShS) (i j : Nat) (hi : i < l.length) (hj : j < 5) : (stRaw l)[i * 5 + j]? = (stCells l[i])[j]? := by
  induction l generalizing i with
  | nil => simp at hi
  | cons a t ih =>
    show (stCells a ++ stRaw t)[i * 5 + j]? = _
    cases i with
    | zero =>
      rw [List.getElem?_append_left (by simp [stCells]; omega)]
      simp
    | succ i =>
      rw [List.getElem?_append_right (by simp [stCells]; omega), show (i + 1) * 5 + j - (stCells a).length = i * 5 + j by simp [stCells]; omega, ih i (by simpa using hi)]
      simp
/-- A slice of states, in a block of the call's own. -/
def OwnSt (w : World) (B : Nat) (v : Value) (n : Nat) (l : List ShS) : Prop := w.ownsRow B 57 5 v n (stRaw l)
theorem OwnSt.kept {n : Nat} {w w' : World} {B : Nat} {v : Value} {l : List ShS} {row : Option Nat} (h : OwnSt w B v n l) (hg : w.grownBy w' row) (hne : v.ownBlock = none ∨ v.ownBlock ≠ row) : OwnSt w' B v n l := World.ownsRow.kept h hg hne
theorem OwnSt.lt {n : Nat} {w : World} {B : Nat} {v : Value} {l : List ShS} (h : OwnSt w B v n l) : ∀ k, v.ownBlock = some k → B ≤ k ∧ k < w.heap.size := World.ownsRow.lt h
theorem OwnSt.alloc {n : Nat} {w : World} {B : Nat} {v : Value} {l : List ShS} (h : OwnSt w B v n l) (o : Obj) : OwnSt (w.alloc o) B v n l := World.ownsRow.alloc h o
theorem OwnSt.below {n : Nat} {w w' : World} {B N : Nat} {v : Value} {l : List ShS} (h : OwnSt w B v n l) (hb : Below N w w') (hN : w.heap.size ≤ N) : OwnSt w' B v n l := by
  refine h.kept (row := none) ⟨hb.os, hb.tape, hb.output, hb.size, fun k hk _ => hb.block k (by omega)⟩ ?_
  cases v.ownBlock <;> simp
theorem OwnSt.cell {n g c : Nat} {w : World} {B : Nat} {l : List ShS} (h : OwnSt w B (.slice (some ⟨g, 0, none⟩) n c) n l) (i j : Nat) (hi : i < l.length) (hj : j < 5) : w.cell? ⟨g, i * 5 + j, none⟩ = (stCells l[i])[j]? := by
  have hlen : (stRaw l).length = n * 5 := h.1
  rw [stRaw_length] at hlen
  have := World.ownsRow.cellAt (g := g) (cap := c) h (i * 5 + j) (by omega)
  rw [this, stRaw_get l i j hi hj]
theorem info_st : (Tryd.prog.info? 57).map (fun i => (i.zero, i.size, i.bytes)) = some (some (.agg #[.int .i64 0, .int .i64 0, .int .i64 0, .int .i64 0, .bool false]), 5, 40) := by kernel_rfl
theorem stRaw_snoc (l : List ShS) (s : ShS) : stRaw (l ++ [s]) = stRaw l ++ stCells s := by unfold stRaw; rw [List.flatMap_append]; simp
/-- 'append(out, s)'. -/
theorem append_st {ops : Array Oper} {rest : List Oper} {o : Oper} {a : Act} {Q : Exit → Act → World → Prop} {W : World} (hgd : o.guard = none) (s x : Operand)
    (ho : o.op = .call { callee := .builtin .append, args := #[s, x], argTypes := #[61, 61] }) (B : Nat) (v : Value) (n : Nat) (l : List ShS) (y : ShS)
    (hs : a.eval s = v) (c H : Nat) (hx : a.eval x = .slice (some ⟨H, 0, none⟩) 1 c) (hH : W.heap.size = H) (hown : OwnSt W B v n l) (hB : B ≤ W.heap.size) (hsmall : n ≤ 1048580)
    (hK : ∀ g c w', OwnSt w' B (.slice (some ⟨g, 0, none⟩) (n + 1) c) (n + 1) (l ++ [y]) → W.grownBy w' v.ownBlock → (v.ownBlock = some g ∨ W.heap.size ≤ g) → wpList Tryd.prog ops Q rest (a.put o.dst (.slice (some ⟨g, 0, none⟩) (n + 1) c)) w') :
    wpList Tryd.prog ops Q (o :: rest) a (W.alloc (.cells #[.int .i64 y.slot, .int .i64 y.worked, .int .i64 y.row, .int .i64 y.pause, .bool y.begun] 57)) := by
  subst hH
  obtain ⟨i0, hi, hz0, hz1, hz2⟩ := info_parts info_st
  refine wpList_append_lies _ hgd s x 61 ho B 57 i0 (.agg #[.int .i64 0, .int .i64 0, .int .i64 0, .int .i64 0, .bool false]) 5 40 Tryd.underlying61 hi hz0 hz1 hz2 rfl (by decide) v n _ hs (World.ownsRow.alloc hown _) ⟨W.heap.size, 0, none⟩ 1 c (stCells y) hx rfl (cells_lit W (stCells y) _) ?_ (by decide) (by unfold maxLen; omega) (by omega) (by simp; omega) (W.heap.size + 1) (by simp) ?_
  · intro u hu
    unfold stCells at hu
    simp only [List.mem_cons, List.not_mem_nil, or_false] at hu
    rcases hu with rfl | rfl | rfl | rfl | rfl <;> rfl
  · intro g cap w' h1 h2 h5 _
    have hg : W.grownBy w' v.ownBlock := ⟨h2.os, h2.tape, h2.output, Nat.le_trans (by show W.heap.size ≤ (W.alloc _).heap.size; simp) h2.size, fun k hk hne => (h2.block k (by show k < (W.alloc _).heap.size; simp; omega) hne).trans (Below.heap_alloc _ _ _ hk)⟩
    refine hK g cap w' ?_ hg (h5.imp id (fun e => by omega))
    unfold OwnSt
    rw [stRaw_snoc]
    exact h1
theorem OwnSt.lit (w : World) (B : Nat) (y : ShS) (hB : B ≤ w.heap.size) : OwnSt (w.alloc (.cells #[.int .i64 y.slot, .int .i64 y.worked, .int .i64 y.row, .int .i64 y.pause, .bool y.begun] 57)) B (.slice (some ⟨w.heap.size, 0, none⟩) 1 1) 1 [y] := by
  have := World.ownsRow_lit (e := 57) (size := 5) w (stCells y).toArray 1 hB (by decide) (by simp [stCells])
  simpa [OwnSt, stRaw, stCells] using this
theorem stL_take (r : ShR) (s : ShS) (t : List UInt8) (k : Nat) (hk : k < t.length) : stL r s (t.take (k + 1)) = stL r s (t.take k) ++ [stAt r s t (k + 1)] := by
  refine List.ext_getElem? fun i => ?_
  have l1 : (stL r s (t.take (k + 1))).length = k + 2 := by rw [stL_length, List.length_take]; omega
  have l2 : (stL r s (t.take k)).length = k + 1 := by rw [stL_length, List.length_take]; omega
  have ht : ∀ m i, i ≤ m → m ≤ t.length → (stL r s (t.take m))[i]? = some (stAt r s t i) := fun m i h1 h2 => by
    rw [stL_at r s _ i (by rw [List.length_take]; omega), ← stAt_take r s (t.take m) i, List.take_take, Nat.min_eq_left h1, stAt_take]
  by_cases h1 : i ≤ k
  · rw [ht _ _ (by omega) (by omega), List.getElem?_append_left (by omega), ht _ _ h1 (by omega)]
  · by_cases h2 : i = k + 1
    · subst h2
      rw [ht _ _ (by omega) (by omega), List.getElem?_append_right (by omega), l2, Nat.sub_self]
      rfl
    · rw [List.getElem?_eq_none (by omega), List.getElem?_eq_none (by rw [List.length_append, l2]; simp; omega)]
def s0 : ShS := ⟨0, 0, 0, 0, false⟩
theorem s0_sti : StI s0 := ⟨by decide, by decide, by decide, by decide, by decide, by decide⟩
theorem stAt_sti (r : ShR) (hr : r.Ok) : ∀ s t i, StI s → StI (stAt r s t i)
  | s, _, 0, h => by rw [stAt]; exact h
  | s, [], _ + 1, h => h
  | s, b :: t, i + 1, h => stAt_sti r hr _ t i (h.nxS hr _)
end Go.Proofs.YtbocedlldaeanaaDoor

namespace Go.Proofs.YtbocedlldaeanaaDoor
open Go.RowKit Go.Shelf
set_option linter.unusedVariables false
set_option linter.unusedSimpArgs false

/-- Whether a text is a shift of a rule. -/
def isSh (r : ShR) (t : ByteArray) : Bool := decide ((t.size : Int) = r.slots) && t.data.toList.all isDW && isT r s0 t.data.toList
theorem grown_set5 (w : World) (p : Addr) (v : Value) : w.grownBy (w.setCell p v) (some p.block) := ⟨rfl, rfl, rfl, by simp [World.setCell], fun k hk hk' => Below.heap_setCell _ _ _ _ (fun e => hk' (by rw [e]))⟩
/-- What a round knows. -/
def StR (r : ShR) (t : ByteArray) (A B2 B6 : Nat) (w : World) (vo vk : Value) (wr : World) : Prop :=
  ∃ (k g c : Nat), k ≤ t.size ∧ vk = .int .i64 k ∧ vo = .slice (some ⟨g, 0, none⟩) (k + 1) c ∧ OwnSt wr (B6 + 1) (.slice (some ⟨g, 0, none⟩) (k + 1) c) (k + 1) (stL r s0 (t.data.toList.take k)) ∧
    Blk wr B2 25 [.int .i64 r.slots, .int .i64 r.least, .int .i64 r.most, .int .i64 r.row, .int .i64 r.pause] ∧ Blk wr B6 57 (stCells (stAt r s0 t.data.toList k)) ∧
    (∀ i, (h : i < t.data.toList.length) → i < k → nxB r (stAt r s0 t.data.toList i) (t.data.toList[i] == 119) = true) ∧ Below A w wr
theorem isT_no {r : ShR} {t : List UInt8} {k : Nat} (hk : k < t.length) (h : nxB r (stAt r s0 t k) (t[k] == 119) = false) : isT r s0 t = false := by
  unfold isT
  rw [goT_take, if_neg (fun hh => by have := hh k hk; rw [h] at this; cases this)]
theorem isT_yes {r : ShR} {t : List UInt8} (h : ∀ i, (hi : i < t.length) → nxB r (stAt r s0 t i) (t[i] == 119) = true) : isT r s0 t = decide (r.least ≤ (stAt r s0 t t.length).worked) := by
  unfold isT
  rw [goT_take, if_pos h]
theorem byte_w {t : ByteArray} {k : Nat} (h : k < t.size) : ((t[k].toNat : Int) == 119) = (t.data.toList[k]'(by simpa using h) == 119) := by
  have e : t.data.toList[k]'(by simpa using h) = t[k] := by simp; rfl
  rw [e, Bool.eq_iff_iff, beq_iff_eq, beq_iff_eq]
  constructor
  · intro h
    have : t[k].toNat = 119 := by omega
    exact UInt8.toNat_inj.1 (by rw [this]; rfl)
  · intro h; rw [h]; rfl

set_option maxRecDepth 100000 in
set_option maxHeartbeats 1000000 in
theorem states_any (r : ShR) (hr : r.Ok) (t : ByteArray) (w : World) (ht : t.size ≤ 1048576) :
    Calls Tryd.prog 24 #[shV r, .string t] w fun e w' => (∃ v, e = .returned (.tuple #[v, .bool (isSh r t)]) ∧ (isSh r t = true → ∃ g c, v = .slice (some ⟨g, 0, none⟩) (t.size + 1) c ∧ OwnSt w' w.heap.size v (t.size + 1) (stL r s0 t.data.toList))) ∧ Below w.heap.size w w' := by
  have HSH : Hid (isSh r t = (decide ((t.size : Int) = r.slots) && t.data.toList.all isDW && isT r s0 t.data.toList)) := rfl
  have HW := Lib.hid (fun W => isWork_any t W ht)
  have HLEN : Hid (t.data.toList.length = t.size) := by show _ = _; simp
  have HTK := Lib.hid (stL_take r s0 t.data.toList)
  have HNO : Hid (∀ k (hk : k < t.data.toList.length), nxB r (stAt r s0 t.data.toList k) (t.data.toList[k] == 119) = false → isT r s0 t.data.toList = false) := fun k hk h => isT_no hk h
  have HYES : Hid ((∀ i, (hi : i < t.data.toList.length) → nxB r (stAt r s0 t.data.toList i) (t.data.toList[i] == 119) = true) → isT r s0 t.data.toList = decide (r.least ≤ (stAt r s0 t.data.toList t.data.toList.length).worked)) := fun h => isT_yes h
  have HNX : Hid (t.size = r.slots → ∀ k q W, k < t.size → Calls Tryd.prog 25 #[shV r, stV (stAt r s0 t.data.toList k), .bool q] W fun e w' => (∃ s', e = .returned (.tuple #[stV s', .bool (nxB r (stAt r s0 t.data.toList k) q)]) ∧ (nxB r (stAt r s0 t.data.toList k) q = true → s' = nxS r (stAt r s0 t.data.toList k) q)) ∧ Below W.heap.size W w') := fun hsz k q W hk => ruleNext_any r _ q W ((stAt_sti r hr s0 t.data.toList k s0_sti).sm (n := t.size - k) hr (by rw [stAt_slot r s0 _ k (by rw [HLEN.out]; omega)]; show (0 : Int) + k + _ = _; omega))
  have HSU : Hid (∀ k (hk : k < t.data.toList.length), stAt r s0 t.data.toList (k + 1) = nxS r (stAt r s0 t.data.toList k) (t.data.toList[k] == 119)) := fun k hk => stAt_succ r s0 t.data.toList k hk
  have HBW : Hid (∀ k (h : k < t.size), ((t[k].toNat : Int) == 119) = (t.data.toList[k]'(by simpa using h) == 119)) := fun k h => byte_w h
  have HST : Hid (stL r s0 (t.data.toList.take 0) = [s0] ∧ stAt r s0 t.data.toList 0 = s0) := ⟨rfl, by rw [stAt]⟩
  clear hr
  obtain ⟨N, L, M, R, P⟩ := r
  show Calls _ _ #[.agg #[.int .i64 N, .int .i64 L, .int .i64 M, .int .i64 R, .int .i64 P], .string t] _ _
  obtain ⟨X, hX⟩ : ∃ X, isSh ⟨N, L, M, R, P⟩ t = X := ⟨_, rfl⟩
  rw [hX] at HSH ⊢
  obtain ⟨Y, hY⟩ : ∃ Y, t.data.toList.all isDW = Y := ⟨_, rfl⟩
  rw [hY] at HSH HW
  clear hX hY
  have KR0 : Hid (Blk (w.alloc (.cells #[.int .i64 N, .int .i64 L, .int .i64 M, .int .i64 R, .int .i64 P] 25)) w.heap.size 25 [.int .i64 N, .int .i64 L, .int .i64 M, .int .i64 R, .int .i64 P]) := Blk.new w _ _
  have B0 : Hid (Below w.heap.size w (w.alloc (.cells #[.int .i64 N, .int .i64 L, .int .i64 M, .int .i64 R, .int .i64 P] 25))) := (Below.refl _ w).alloc (Nat.le_refl _) _
  go_enter Tryd.func24, Tryd.ntmps24
  by_cases hsz : (t.size : Int) = N
  case neg =>
    have i1 : ((t.size : Int) != N) = true := by simpa using hsz
    have HX : Hid (X = false) := by show _ = _; rw [HSH.out, decide_eq_false hsz]; rfl
    clear HSH hsz HNX HTK HNO HYES HSU HBW HST HW
    go_wp2
    go_ret2
    exact ⟨⟨_, by rw [HX.out]; rfl, fun h => by rw [HX.out] at h; cases h⟩, B0.out⟩
  have i1 : ((t.size : Int) != N) = false := by simpa using hsz
  have HW0 := Lib.hid (HW.out (w.alloc (.cells #[.int .i64 N, .int .i64 L, .int .i64 M, .int .i64 R, .int .i64 P] 25)))
  clear HW
  go_wp2_with fail
  refine HW0.out.mono ?_
  rintro e W1 ⟨rfl, hb1⟩
  have B1 : Hid (Below w.heap.size w W1) := B0.out.trans (hb1.mono (by simp))
  have KR1 := Lib.hid (KR0.out.below hb1 (by simp))
  clear hb1 B0 KR0 HW0
  cases Y with
  | false =>
    have HX : Hid (X = false) := by show _ = _; rw [HSH.out, Bool.and_false]; rfl
    clear HSH hsz HNX HTK HNO HYES HSU HBW HST
    go_wp2
    go_ret2
    exact ⟨⟨_, by rw [HX.out]; rfl, fun h => by rw [HX.out] at h; cases h⟩, B1.out⟩
  | true =>
    have HX : Hid (X = isT ⟨N, L, M, R, P⟩ s0 t.data.toList) := by show _ = _; rw [HSH.out, decide_eq_true hsz]; rfl
    have HNX := Lib.hid (HNX.out hsz)
    clear HSH
    go_wp2
    obtain ⟨B2, hB2⟩ : ∃ B, w.heap.size = B := ⟨_, rfl⟩
    obtain ⟨B6, hB6⟩ : ∃ B, W1.heap.size = B := ⟨_, rfl⟩
    obtain ⟨W2, hW2⟩ : ∃ W, (W1.alloc (.cells #[.int .i64 0, .int .i64 0, .int .i64 0, .int .i64 0, .bool false] 57)).alloc (.cells #[.int .i64 0, .int .i64 0, .int .i64 0, .int .i64 0, .bool false] 57) = W := ⟨_, rfl⟩
    rw [hW2, hB6, hB2]
    rw [hB2] at B1 KR1
    have hBB : B2 < B6 := by have := KR1.out.lt; omega
    have HR0 : Hid (StR ⟨N, L, M, R, P⟩ t B2 B2 B6 w (.slice (some ⟨B6 + 1, 0, none⟩) 1 1) (.int .i64 0) W2) := by
      show StR _ _ _ _ _ _ _ _ _
      refine ⟨0, B6 + 1, 1, Nat.zero_le _, rfl, rfl, ?_, ?_, ?_, fun i hi h => absurd h (Nat.not_lt_zero _), ?_⟩
      · rw [HST.out.1, ← hW2]
        have h := OwnSt.lit (W1.alloc (.cells #[.int .i64 0, .int .i64 0, .int .i64 0, .int .i64 0, .bool false] 57)) (B6 + 1) s0 (by simp; omega)
        have hsz1 : (W1.alloc (.cells #[.int .i64 0, .int .i64 0, .int .i64 0, .int .i64 0, .bool false] 57)).heap.size = B6 + 1 := by simp; omega
        rw [hsz1] at h
        exact h
      · rw [← hW2]; exact (KR1.out.alloc _).alloc _
      · rw [HST.out.2, ← hW2, ← hB6]; exact (Blk.new W1 _ _).alloc _
      · rw [← hW2]; exact (B1.out.alloc (by omega) _).alloc (by simp; omega) _
    have HB2 := Lib.hid hB2
    clear B1 KR1 hW2 hB2 hB6 HST
    go_loopw [7, 25] (fun vo vk wr => StR ⟨N, L, M, R, P⟩ t B2 B2 B6 w vo vk wr) (fun _ vk _ => t.size - (intOf vk).toNat)
    case atStart => exact HR0.out
    case round =>
      obtain ⟨k, g, c, hk, rfl, rfl, how, hkr, hks, hall, hbl⟩ := hrel
      have HO := Lib.hid how
      have KR := Lib.hid hkr
      have KS := Lib.hid hks
      have HALL := Lib.hid hall
      have HBL := Lib.hid hbl
      clear how hkr hks hall hbl HR0
      have a0 := KR.out.cell 0 _ rfl
      have a1 := KR.out.cell 1 _ rfl
      have a2 := KR.out.cell 2 _ rfl
      have a3 := KR.out.cell 3 _ rfl
      have a4 := KR.out.cell 4 _ rfl
      have b0 := KS.out.cell 0 _ rfl
      have b1 := KS.out.cell 1 _ rfl
      have b2 := KS.out.cell 2 _ rfl
      have b3 := KS.out.cell 3 _ rfl
      have b4 := KS.out.cell 4 _ rfl
      by_cases hkN : k < t.size
      · have i2 : (k : Int) < N := by omega
        have i3 : (0 : Int) ≤ (k : Int) := by omega
        have i4 : (k : Int) < (t.size : Int) := by omega
        have hkl : k < t.data.toList.length := by rw [HLEN.out]; exact hkN
        have HQ := Lib.hid (HBW.out k hkN)
        have HN1 : Hid (∀ m, _) := Lib.hid (fun m => HNX.out k (((t[k]'hkN).toNat : Int) == 119) (wr.drewN m) hkN)
        have HSU1 := Lib.hid (HSU.out k hkl)
        have HTK1 := Lib.hid (HTK.out k hkl)
        have HNO1 := Lib.hid (HNO.out k hkl)
        have HX := HX
        obtain ⟨S, hS⟩ : ∃ S, stAt ⟨N, L, M, R, P⟩ s0 t.data.toList k = S := ⟨_, rfl⟩
        rw [hS] at HN1 HSU1 HNO1 b0 b1 b2 b3 b4 KS
        rw [← HQ.out] at HSU1 HNO1
        have HS := Lib.hid hS
        unfold shV stV at HN1
        have hgl := HO.out.lt g rfl
        have hbl6 := KS.out.lt
        clear hS
        have hB62 : ¬ B6 = B2 := by omega
        have hB26 : ¬ B2 = B6 := by omega
        go_wp2
        refine wp_region_held_drew (S := fun w' => w'.cell? ⟨B2, 0, none⟩ = some (.int .i64 N) ∧ w'.cell? ⟨B2, 1, none⟩ = some (.int .i64 L) ∧ w'.cell? ⟨B2, 2, none⟩ = some (.int .i64 M) ∧ w'.cell? ⟨B2, 3, none⟩ = some (.int .i64 R) ∧ w'.cell? ⟨B2, 4, none⟩ = some (.int .i64 P)) (by kernel_rfl) ?_ (fun hHeld => ?_)
        · (try dsimp only); go_keep
        refine wpAnyH_take (i := 0) (v := ?va0) rfl (by kernel_rfl) (by kernel_rfl) (by kernel_rfl) (fun _ _ _ h => h) (Or.inl ⟨by rfl, ?ya0⟩) (by assumption) ?ra0
        case ya0 => (intro w hSw; (try dsimp only at hSw); go_split_ands; go_simp <;> (try with_reducible rfl))
        try simp only [Act.put, List.setIfInBounds_toArray, List.set_cons_zero, List.set_cons_succ]
        refine wpAnyH_take (i := 2) (v := ?va2) rfl (by kernel_rfl) (by kernel_rfl) (by kernel_rfl) (fun _ _ _ h => h) (Or.inl ⟨by rfl, ?ya2⟩) (by assumption) ?ra2
        case ya2 => (intro w hSw; (try dsimp only at hSw); go_split_ands; go_simp <;> (try with_reducible rfl))
        try simp only [Act.put, List.setIfInBounds_toArray, List.set_cons_zero, List.set_cons_succ]
        refine wpAnyH_take (i := 3) (v := ?va3) rfl (by kernel_rfl) (by kernel_rfl) (by kernel_rfl) (fun _ _ _ h => h) (Or.inl ⟨by rfl, ?ya3⟩) (by assumption) ?ra3
        case ya3 => (intro w hSw; (try dsimp only at hSw); go_split_ands; go_simp <;> (try with_reducible rfl))
        try simp only [Act.put, List.setIfInBounds_toArray, List.set_cons_zero, List.set_cons_succ]
        refine wpAnyH_take (i := 4) (v := ?va4) rfl (by kernel_rfl) (by kernel_rfl) (by kernel_rfl) (fun _ _ _ h => h) (Or.inl ⟨by rfl, ?ya4⟩) (by assumption) ?ra4
        case ya4 => (intro w hSw; (try dsimp only at hSw); go_split_ands; go_simp <;> (try with_reducible rfl))
        try simp only [Act.put, List.setIfInBounds_toArray, List.set_cons_zero, List.set_cons_succ]
        refine wpAnyH_take (i := 5) (v := ?va5) rfl (by kernel_rfl) (by kernel_rfl) (by kernel_rfl) (fun _ _ _ h => h) (Or.inl ⟨by rfl, ?ya5⟩) (by assumption) ?ra5
        case ya5 => (intro w hSw; (try dsimp only at hSw); go_split_ands; go_simp <;> (try with_reducible rfl))
        try simp only [Act.put, List.setIfInBounds_toArray, List.set_cons_zero, List.set_cons_succ]
        refine wpAnyH_ready (rs := [1]) (by kernel_rfl) (by simp) ?_
        refine AllReadyH.cons rfl (fun K hK => ?_) AllReadyH.nil
        go_simp
        refine hK.out _ _ ?_ (fun hHeld => ?_)
        · (try dsimp only); go_keep
        clear hK K
        try simp only [Act.put, List.setIfInBounds_toArray, List.set_cons_zero, List.set_cons_succ]
        refine wpAnyH_ready (rs := [6]) (by kernel_rfl) (by simp) ?_
        refine AllReadyH.cons rfl (fun K hK => ?_) AllReadyH.nil
        go_simp
        (go_at_call 25; refine (HN1.out 1).mono ?_; rintro e W3 ⟨⟨s', rfl, hs'⟩, hb3⟩; have HB3 := Lib.hid hb3; have HS' := Lib.hid hs'; have KR3 := Lib.hid ((KR.out.drewN 1).below hb3 KR.out.lt); have KS3 := Lib.hid ((KS.out.drewN 1).below hb3 KS.out.lt); have HO3 := Lib.hid (((HO.out.below (below_drewN 1 (Below.refl wr.heap.size wr)) (Nat.le_refl _)).below hb3 (Nat.le_refl _))); have HBL3 : Hid (Below B2 w W3) := (below_drewN 1 HBL.out).trans (hb3.mono (by have h1 := HBL.out.size; have h2 := HB2.out; show B2 ≤ wr.heap.size; omega)); obtain ⟨z0, z1, z2, z3, z4⟩ : W3.cell? ⟨B6, 0, none⟩ = some (.int .i64 S.slot) ∧ W3.cell? ⟨B6, 1, none⟩ = some (.int .i64 S.worked) ∧ W3.cell? ⟨B6, 2, none⟩ = some (.int .i64 S.row) ∧ W3.cell? ⟨B6, 3, none⟩ = some (.int .i64 S.pause) ∧ W3.cell? ⟨B6, 4, none⟩ = some (.bool S.begun) := ⟨KS3.out.cell 0 _ rfl, KS3.out.cell 1 _ rfl, KS3.out.cell 2 _ rfl, KS3.out.cell 3 _ rfl, KS3.out.cell 4 _ rfl⟩; have HK5 : Hid (Blk (((((W3.setCell ⟨B6, 0, none⟩ (.int .i64 s'.slot)).setCell ⟨B6, 1, none⟩ (.int .i64 s'.worked)).setCell ⟨B6, 2, none⟩ (.int .i64 s'.row)).setCell ⟨B6, 3, none⟩ (.int .i64 s'.pause)).setCell ⟨B6, 4, none⟩ (.bool s'.begun)) B2 25 [.int .i64 N, .int .i64 L, .int .i64 M, .int .i64 R, .int .i64 P]) := (((((KR3.out.far _ _ hB26).far _ _ hB26).far _ _ hB26).far _ _ hB26).far _ _ hB26); have HS5 : Hid (Blk (((((W3.setCell ⟨B6, 0, none⟩ (.int .i64 s'.slot)).setCell ⟨B6, 1, none⟩ (.int .i64 s'.worked)).setCell ⟨B6, 2, none⟩ (.int .i64 s'.row)).setCell ⟨B6, 3, none⟩ (.int .i64 s'.pause)).setCell ⟨B6, 4, none⟩ (.bool s'.begun)) B6 57 (stCells s')) := ((((KS3.out.set 0 _).set 1 _).set 2 _).set 3 _).set 4 _; have y0 := KS3.out.frozen 0; have y1 := KS3.out.frozen 1; have y2 := KS3.out.frozen 2; have y3 := KS3.out.frozen 3; have y4 := KS3.out.frozen 4; clear hb3 hs')
        refine hK.out _ _ ?_ (fun hHeld => ?_)
        · (try dsimp only); exact ⟨KR3.out.cell 0 _ rfl, KR3.out.cell 1 _ rfl, KR3.out.cell 2 _ rfl, KR3.out.cell 3 _ rfl, KR3.out.cell 4 _ rfl⟩
        clear hK K
        try simp only [Act.put, List.setIfInBounds_toArray, List.set_cons_zero, List.set_cons_succ]
        refine wpAnyH_take (i := 7) (v := ?vb7) rfl (by kernel_rfl) (by kernel_rfl) (by kernel_rfl) (fun _ _ _ h => h) (Or.inl ⟨by rfl, ?yb7⟩) (by assumption) ?rb7
        case yb7 => (intro w hSw; (try dsimp only at hSw); go_split_ands; go_simp <;> (try with_reducible rfl))
        try simp only [Act.put, List.setIfInBounds_toArray, List.set_cons_zero, List.set_cons_succ]
        refine wpAnyH_take (i := 8) (v := ?vb8) rfl (by kernel_rfl) (by kernel_rfl) (by kernel_rfl) (fun _ _ _ h => h) (Or.inl ⟨by rfl, ?yb8⟩) (by assumption) ?rb8
        case yb8 => (intro w hSw; (try dsimp only at hSw); go_split_ands; go_simp <;> (try with_reducible rfl))
        try simp only [Act.put, List.setIfInBounds_toArray, List.set_cons_zero, List.set_cons_succ]
        refine wpAnyH_take (i := 9) (v := ?vb9) rfl (by kernel_rfl) (by kernel_rfl) (by kernel_rfl) (fun _ _ _ h => h) (Or.inl ⟨by rfl, ?yb9⟩) (by assumption) ?rb9
        case yb9 => (intro w hSw; (try dsimp only at hSw); go_split_ands; go_simp <;> (try with_reducible rfl))
        try simp only [Act.put, List.setIfInBounds_toArray, List.set_cons_zero, List.set_cons_succ]
        refine wpAnyH_ready (rs := [10]) (by kernel_rfl) (by simp) ?_
        refine AllReadyH.cons rfl (fun K hK => ?_) AllReadyH.nil
        go_simp
        refine hK.out _ _ ?_ (fun hHeld => ?_)
        · (try dsimp only); exact ⟨HK5.out.cell 0 _ rfl, HK5.out.cell 1 _ rfl, HK5.out.cell 2 _ rfl, HK5.out.cell 3 _ rfl, HK5.out.cell 4 _ rfl⟩
        clear hK K
        try simp only [Act.put, List.setIfInBounds_toArray, List.set_cons_zero, List.set_cons_succ]
        refine wpAnyH_take (i := 11) (v := ?vb11) rfl (by kernel_rfl) (by kernel_rfl) (by kernel_rfl) (fun _ _ _ h => h) (Or.inl ⟨by rfl, ?yb11⟩) (by assumption) ?rb11
        case yb11 => (intro w hSw; (try dsimp only at hSw); go_split_ands; go_simp <;> (try with_reducible rfl))
        try simp only [Act.put, List.setIfInBounds_toArray, List.set_cons_zero, List.set_cons_succ]
        refine wpAnyH_done (by kernel_rfl) ?_ _
        have hne6 : (Value.slice (some ⟨g, 0, none⟩) (k + 1) c).ownBlock ≠ some B6 := by
          show some g ≠ some B6
          intro e; injection e with e; omega
        have HO4 : Hid (OwnSt (((((W3.setCell ⟨B6, 0, none⟩ (.int .i64 s'.slot)).setCell ⟨B6, 1, none⟩ (.int .i64 s'.worked)).setCell ⟨B6, 2, none⟩ (.int .i64 s'.row)).setCell ⟨B6, 3, none⟩ (.int .i64 s'.pause)).setCell ⟨B6, 4, none⟩ (.bool s'.begun)) (B6 + 1) (.slice (some ⟨g, 0, none⟩) (k + 1) c) (k + 1) (stL ⟨N, L, M, R, P⟩ s0 (t.data.toList.take k))) :=
          ((((HO3.out.kept (grown_set5 _ _ _) (.inr hne6)).kept (grown_set5 _ _ _) (.inr hne6)).kept (grown_set5 _ _ _) (.inr hne6)).kept (grown_set5 _ _ _) (.inr hne6)).kept (grown_set5 _ _ _) (.inr hne6)
        have HBL4 : Hid (Below B2 w (((((W3.setCell ⟨B6, 0, none⟩ (.int .i64 s'.slot)).setCell ⟨B6, 1, none⟩ (.int .i64 s'.worked)).setCell ⟨B6, 2, none⟩ (.int .i64 s'.row)).setCell ⟨B6, 3, none⟩ (.int .i64 s'.pause)).setCell ⟨B6, 4, none⟩ (.bool s'.begun))) := ((((HBL3.out.setCell (by show B2 ≤ B6; omega) _).setCell (by show B2 ≤ B6; omega) _).setCell (by show B2 ≤ B6; omega) _).setCell (by show B2 ≤ B6; omega) _).setCell (by show B2 ≤ B6; omega) _
        generalize (((((W3.setCell ⟨B6, 0, none⟩ (.int .i64 s'.slot)).setCell ⟨B6, 1, none⟩ (.int .i64 s'.worked)).setCell ⟨B6, 2, none⟩ (.int .i64 s'.row)).setCell ⟨B6, 3, none⟩ (.int .i64 s'.pause)).setCell ⟨B6, 4, none⟩ (.bool s'.begun)) = W4 at HK5 HS5 HO4 HBL4 ⊢
        clear z0 z1 z2 z3 z4 y0 y1 y2 y3 y4 KR3 KS3 HO3 HBL3 HB3 HO KR KS HBL HN1 hne6 a0 a1 a2 a3 a4 b0 b1 b2 b3 b4
        have d0 := HS5.out.cell 0 _ rfl
        have d1 := HS5.out.cell 1 _ rfl
        have d2 := HS5.out.cell 2 _ rfl
        have d3 := HS5.out.cell 3 _ rfl
        have d4 := HS5.out.cell 4 _ rfl
        have h6l := HS5.out.lt
        have HQ2 := HQ
        cases hnx : nxB ⟨N, L, M, R, P⟩ S (((t[k]'hkN).toNat : Int) == 119) with
        | false =>
          have HXF : Hid (X = false) := by show _ = _; rw [HX.out]; exact HNO1.out hnx
          have HBW4 : Hid (Below w.heap.size w W4) := by rw [HB2.out]; exact HBL4.out
          clear hnx HSU1 HNO1 HTK1 HS' HALL HTK HNO HYES HNX HSU HX
          go_wp2
          go_ret2
          exact ⟨⟨_, by rw [HXF.out]; rfl, fun h => by rw [HXF.out] at h; cases h⟩, HBW4.out⟩
        | true =>
          have hs'' := HS'.out hnx
          have HSE : Hid (stAt ⟨N, L, M, R, P⟩ s0 t.data.toList (k + 1) = s') := by show _ = _; rw [HSU1.out, hs'']
          have HAL2 : Hid (∀ i, (h : i < t.data.toList.length) → i < k + 1 → nxB ⟨N, L, M, R, P⟩ (stAt ⟨N, L, M, R, P⟩ s0 t.data.toList i) (t.data.toList[i] == 119) = true) := fun i h hi => by
            by_cases hik : i < k
            · exact HALL.out i h hik
            · obtain rfl : i = k := by omega
              rw [HS.out, ← HQ2.out]; exact hnx
          have HBB6 : Hid (B6 + 1 ≤ W4.heap.size) := by show _ ≤ _; omega
          clear hnx HSU1 HNO1 HS' HALL hs'' HTK HNO HYES HNX HSU HX
          go_wp2_with (at_builtin; refine append_st rfl _ _ rfl (B6 + 1) (.slice (some ⟨g, 0, none⟩) (k + 1) c) (k + 1) (stL ⟨N, L, M, R, P⟩ s0 (t.data.toList.take k)) s' rfl _ _ rfl (by simp) HO4.out HBB6.out (by omega) ?_; intro g1 c1 w5 ho1 hg1 hl1; have HA1 := Lib.hid (And.intro ho1 (And.intro hg1 hl1)); clear ho1 hg1 hl1)
          go_roundw
          case rel =>
            obtain ⟨ho1, hg1, hl1⟩ := HA1.out
            have hob : (Value.slice (some ⟨g, 0, none⟩) (k + 1) c).ownBlock = some g := rfl
            rw [hob] at hg1 hl1
            have hgl4 := HO4.out.lt g rfl
            refine ⟨k + 1, g1, c1, by omega, by go_num, rfl, ?_, HK5.out.grown hg1 (by simp; omega), ?_, HAL2.out, ?_⟩
            · rw [HTK1.out, HSE.out]; exact ho1
            · rw [HSE.out]; exact HS5.out.grown hg1 (by simp; omega)
            · refine ⟨hg1.os.trans HBL4.out.os, hg1.tape.trans HBL4.out.tape, hg1.output.trans HBL4.out.output, Nat.le_trans HBL4.out.size hg1.size, fun j hj => ?_⟩
              have hs4 := HBL4.out.size
              have hb2 := HB2.out
              rw [hg1.block j (by omega) (by simp; omega), HBL4.out.block j hj]
          case measure => simp [intOf]; omega
      · obtain rfl : k = t.size := by omega
        have i2 : ¬ ((t.size : Int) < N) := by omega
        have HXT : Hid (X = decide (L ≤ (stAt ⟨N, L, M, R, P⟩ s0 t.data.toList t.size).worked)) := by
          show _ = _
          rw [HX.out, HYES.out (fun i hi => HALL.out i hi (by rw [HLEN.out] at hi; exact hi)), HLEN.out]
        have HFULL : Hid (t.data.toList.take t.size = t.data.toList) := by show _ = _; rw [← HLEN.out, List.take_length]
        rw [HFULL.out] at HO
        obtain ⟨S, hS⟩ : ∃ S, stAt ⟨N, L, M, R, P⟩ s0 t.data.toList t.size = S := ⟨_, rfl⟩
        rw [hS] at HXT b0 b1 b2 b3 b4 KS
        have HRES : Hid (OwnSt wr w.heap.size (.slice (some ⟨g, 0, none⟩) (t.size + 1) c) (t.size + 1) (stL ⟨N, L, M, R, P⟩ s0 t.data.toList) ∧ Below w.heap.size w wr) := by
          refine ⟨?_, by rw [HB2.out]; exact HBL.out⟩
          rw [HB2.out]
          refine ⟨HO.out.1, ?_⟩
          rcases HO.out.2 with h2 | ⟨g', cap, cur, hv, h3, h4⟩
          · exact .inl h2
          · exact .inr ⟨g', cap, cur, hv, by omega, h4⟩
        clear hS HX HYES HALL HFULL HO HBL HTK HNO HNX HSU hkN
        go_wp2
        go_region
        go_wp2
        go_ret2
        exact ⟨⟨_, by rw [HXT.out]; rfl, fun _ => ⟨g, c, rfl, World.ownsRow.drew HRES.out.1⟩⟩, HRES.out.2.drew⟩
end Go.Proofs.YtbocedlldaeanaaDoor

namespace Go.Proofs.YtbocedlldaeanaaDoor
open Go.RowKit
set_option linter.unusedVariables false
set_option linter.unusedSimpArgs false

/-- The slice value v reads as the list xs, k cells an element. -/
def SlN {α : Type} (k : Nat) (enc : α → List Value) (w : World) (v : Value) (xs : List α) : Prop :=
  xs.length ≤ maxLen ∧ ∃ a c, v = .slice a xs.length c ∧ xs.length ≤ c ∧ ∀ i (h : i < xs.length), ∃ b o, a = some ⟨b, o, none⟩ ∧ b < w.heap.size ∧ ∀ j (hj : j < (enc xs[i]).length), w.cell? ⟨b, o + (i * k + j), none⟩ = some (enc xs[i])[j]
theorem SlN.below {α : Type} {k : Nat} {enc : α → List Value} {w w' : World} {v : Value} {xs : List α} {B : Nat} (h : SlN k enc w v xs) (hb : Below B w w') (hB : w.heap.size ≤ B) : SlN k enc w' v xs := by
  obtain ⟨hm, a, c, hv, hcap, hc⟩ := h
  refine ⟨hm, a, c, hv, hcap, fun i hi => ?_⟩
  obtain ⟨b, o, ha, hbs, hcell⟩ := hc i hi
  exact ⟨b, o, ha, by have := hb.size; omega, fun j hj => (hb.cell (p := ⟨b, o + (i * k + j), none⟩) (by show b < B; omega)).trans (hcell j hj)⟩

abbrev Jb := Int × Int × Int × Int
def jbCells (j : Jb) : List Value := [.int .i64 j.1, .int .i64 j.2.1, .int .i64 j.2.2.1, .int .i64 j.2.2.2]
abbrev Jobs (w : World) (v : Value) (xs : List Jb) : Prop := SlN 4 jbCells w v xs
def jbAgg (j : Jb) : Value := .agg #[.int .i64 j.1, .int .i64 j.2.1, .int .i64 j.2.2.1, .int .i64 j.2.2.2]

end Go.Proofs.YtbocedlldaeanaaDoor

namespace Go.Proofs.YtbocedlldaeanaaDoor
open Go.RowKit
set_option linter.unusedVariables false
set_option linter.unusedSimpArgs false

/-- v is a row of n elements of type T, size integers each, of the call's own. -/
def OwnZ (T size : Nat) (w : World) (N : Nat) (v : Value) (n : Nat) (raw : List Int) : Prop := w.ownsRow N T size v n (raw.map (Value.int .i64))
theorem OwnZ.kept {T size n : Nat} {w w' : World} {B : Nat} {v : Value} {xs : List Int} {row : Option Nat} (h : OwnZ T size w B v n xs) (hg : w.grownBy w' row) (hne : v.ownBlock = none ∨ v.ownBlock ≠ row) : OwnZ T size w' B v n xs := World.ownsRow.kept h hg hne
theorem OwnZ.lt {T size n : Nat} {w : World} {B : Nat} {v : Value} {xs : List Int} (h : OwnZ T size w B v n xs) : ∀ k, v.ownBlock = some k → B ≤ k ∧ k < w.heap.size := World.ownsRow.lt h
theorem OwnZ.below {T size n : Nat} {w w' : World} {B N : Nat} {v : Value} {xs : List Int} (h : OwnZ T size w B v n xs) (hb : Below N w w') (hN : w.heap.size ≤ N) : OwnZ T size w' B v n xs := by
  refine h.kept (row := none) ⟨hb.os, hb.tape, hb.output, hb.size, fun k hk _ => hb.block k (by omega)⟩ ?_
  cases v.ownBlock <;> simp
theorem OwnZ.length {T size n : Nat} {w : World} {B : Nat} {v : Value} {xs : List Int} (h : OwnZ T size w B v n xs) : xs.length = n * size := by have := h.1; simpa using this
theorem OwnZ.store {T size n c g : Nat} {w : World} {N : Nat} {xs : List Int} (h : OwnZ T size w N (.slice (some ⟨g, 0, none⟩) n c) n xs) (j : Nat) (hj : j < xs.length) (y : Int) :
    w.cell? ⟨g, j, none⟩ = some (.int .i64 (nth xs j)) ∧ w.frozen? ⟨g, j, none⟩ = false ∧ OwnZ T size (w.setCell ⟨g, j, none⟩ (.int .i64 y)) N (.slice (some ⟨g, 0, none⟩) n c) n (xs.set j y) ∧ w.grownBy (w.setCell ⟨g, j, none⟩ (.int .i64 y)) (some g) := by
  have h' : w.ownsRow N T size (.slice (some ⟨g, 0, none⟩) n c) n (xs.map (Value.int .i64)) := h
  obtain ⟨h1, h2⟩ := h'.stored j (.int .i64 y)
  refine ⟨?_, h'.frozenAt j, ?_, h2⟩
  · rw [h'.cellAt j (by rw [← h.length]; exact hj), List.getElem?_map, List.getElem?_eq_getElem hj, nth_eq hj]; rfl
  · unfold OwnZ
    rw [List.map_set]; exact h1
theorem OwnZ.nil_or {T size n : Nat} {w : World} {N : Nat} {v : Value} {xs : List Int} (h : OwnZ T size w N v n xs) : (v = .slice none 0 0 ∧ n = 0) ∨ ∃ g c, v = .slice (some ⟨g, 0, none⟩) n c := by
  rcases h.2 with ⟨h1, h2⟩ | ⟨g, cap, cur, h1, _⟩
  · exact .inl ⟨h1, h2⟩
  · exact .inr ⟨g, cap, h1⟩

def jbInts (j : Jb) : List Int := [j.1, j.2.1, j.2.2.1, j.2.2.2]
theorem jbInts_cells (j : Jb) : (jbInts j).map (Value.int .i64) = jbCells j := rfl
def jbRaw (js : List Jb) : List Int := js.flatMap jbInts
theorem jbRaw_length (js : List Jb) : (jbRaw js).length = js.length * 4 := by
  induction js with
  | nil => rfl
  | cons a t ih => show (jbInts a ++ jbRaw t).length = _; rw [List.length_append, ih]; simp [jbInts]; omega
theorem jbRaw_get (js : List Jb) (i j : Nat) (hi : i < js.length) (hj : j < 4) : (jbRaw js)[i * 4 + j]? = some ((jbInts js[i])[j]'(by simp [jbInts]; omega)) := by
  induction js generalizing i with
  | nil => simp at hi
  | cons a t ih =>
    show (jbInts a ++ jbRaw t)[i * 4 + j]? = _
    cases i with
    | zero =>
      rw [List.getElem?_append_left (by simp [jbInts]; omega), List.getElem?_eq_getElem (by simp [jbInts]; omega)]
      simp
    | succ i =>
      rw [List.getElem?_append_right (by simp [jbInts]; omega), show (i + 1) * 4 + j - (jbInts a).length = i * 4 + j by simp [jbInts]; omega, ih i (by simpa using hi)]
      simp
theorem OwnZ.jobs {T : Nat} {w : World} {N : Nat} {v : Value} {js : List Jb} (h : OwnZ T 4 w N v js.length (jbRaw js)) : Jobs w v js := by
  have hr := h
  rcases h.2 with ⟨rfl, h0⟩ | ⟨g, cap, cur, rfl, hg, hh, hc, hm, hcs, ht⟩
  · exact ⟨by omega, none, 0, by rw [h0], by omega, fun i hi => by omega⟩
  · refine ⟨by omega, _, cap, rfl, by omega, fun i hi => ⟨g, 0, rfl, (Array.getElem?_eq_some_iff.1 hh).1, fun j hj => ?_⟩⟩
    have hj4 : j < 4 := by simpa [jbCells] using hj
    have := World.ownsRow.cellAt (g := g) (cap := cap) hr (i * 4 + j) (by omega)
    rw [Nat.zero_add, this, List.getElem?_map, jbRaw_get js i j hi hj4]
    simp only [← jbInts_cells, List.getElem_map, Option.map_some]

/-- A rule's five numbers. -/
abbrev Rl := Int × Int × Int × Int × Int
/-- A desk's value. -/
def deskV (vj : Value) (r : Rl) (vc : Value) (p : ByteArray) : Value := .agg #[vj, .int .i64 r.1, .int .i64 r.2.1, .int .i64 r.2.2.1, .int .i64 r.2.2.2.1, .int .i64 r.2.2.2.2, vc, .string p]

theorem bcell {W w1 : World} (hb : Below W.heap.size W w1) : (∀ b o, b < W.heap.size → w1.cell? ⟨b, o, none⟩ = W.cell? ⟨b, o, none⟩) ∧ (∀ b o, b < W.heap.size → w1.frozen? ⟨b, o, none⟩ = W.frozen? ⟨b, o, none⟩) :=
  ⟨fun b o h => hb.cell (p := ⟨b, o, none⟩) h, fun b o h => hb.frozen (p := ⟨b, o, none⟩) h⟩

def deskBlocks (vj vc : Value) : List Nat := vj.ownBlock.toList ++ vc.ownBlock.toList

theorem own_ne {T size n : Nat} {w : World} {lo lo' : Nat} {vj vc : Value} {jr cr : List Int} (hT : T ≠ 2) (h : OwnZ T size w lo vj n jr) (k : OwnI w lo' vc cr) : vj.ownBlock = none ∨ vj.ownBlock ≠ vc.ownBlock := by
  rcases h.2 with ⟨rfl, _⟩ | ⟨g, cap, cur, rfl, _, hh, _⟩
  · exact .inl rfl
  · refine .inr ?_
    rcases k.2 with ⟨rfl, _⟩ | ⟨g', cap', cur', rfl, _, hh', _⟩
    · intro e; cases e
    · intro e
      have e2 : some g = some g' := e
      injection e2 with e2
      subst e2
      rw [hh] at hh'
      injection hh' with hh'
      injection hh' with _ h3
      exact hT h3
theorem own_ne' {T size n : Nat} {w : World} {lo lo' : Nat} {vj vc : Value} {jr cr : List Int} (hT : T ≠ 2) (h : OwnZ T size w lo vj n jr) (k : OwnI w lo' vc cr) : vc.ownBlock = none ∨ vc.ownBlock ≠ vj.ownBlock := by
  rcases own_ne hT h k with h1 | h1
  · cases hv : vc.ownBlock with
    | none => exact .inl rfl
    | some x => rw [h1]; exact .inr (by simp)
  · exact .inr (Ne.symm h1)

end Go.Proofs.YtbocedlldaeanaaDoor

namespace Go.Proofs.YtbocedlldaeanaaDoor
open Go.RowKit
set_option linter.unusedVariables false
set_option linter.unusedSimpArgs false

abbrev Tk := Int × Int × List Int × List Int
def rTask : Rdr Tk := rPair rInt (rPair rInt (rPair (rSl rInt) (rSl rInt)))
theorem task_cells {w : World} {cs : List Value} {x : Tk} : rTask.R w cs x ↔ ∃ vb vl, cs = [.int .i64 x.1, .int .i64 x.2.1, vb, vl] ∧ (Lit.int .i64 x.1).wf = true ∧ (Lit.int .i64 x.2.1).wf = true ∧ SlR rInt w vb x.2.2.1 ∧ SlR rInt w vl x.2.2.2 := by
  constructor
  · rintro ⟨c1, c2, rfl, ⟨rfl, h1⟩, c3, c4, rfl, ⟨rfl, h2⟩, c5, c6, rfl, ⟨vb, rfl, h3⟩, vl, rfl, h4⟩
    exact ⟨vb, vl, rfl, h1, h2, h3, h4⟩
  · rintro ⟨vb, vl, rfl, h1, h2, h3, h4⟩
    exact ⟨_, _, rfl, ⟨rfl, h1⟩, _, _, rfl, ⟨rfl, h2⟩, _, _, rfl, ⟨vb, rfl, h3⟩, vl, rfl, h4⟩
abbrev TasksR (w : World) (v : Value) (xs : List Tk) : Prop := SlR rTask w v xs
theorem rTask_size : rTask.size = 4 := rfl
/-- The four cells of a task. -/
theorem TasksR.at_ {w : World} {v : Value} {xs : List Tk} (h : TasksR w v xs) : ∃ a c, v = .slice a xs.length c ∧ xs.length ≤ c ∧ ∀ i (hi : i < xs.length), ∃ b o vb vl, a = some ⟨b, o, none⟩ ∧ b < w.heap.size ∧ SlR rInt w vb xs[i].2.2.1 ∧ SlR rInt w vl xs[i].2.2.2 ∧ (Lit.int .i64 xs[i].1).wf = true ∧ (Lit.int .i64 xs[i].2.1).wf = true ∧
    w.cell? ⟨b, o + i * 4, none⟩ = some (.int .i64 xs[i].1) ∧ w.cell? ⟨b, o + i * 4 + 1, none⟩ = some (.int .i64 xs[i].2.1) ∧ w.cell? ⟨b, o + i * 4 + 2, none⟩ = some vb ∧ w.cell? ⟨b, o + i * 4 + 3, none⟩ = some vl := by
  obtain ⟨hm, a, c, hv, hcap, hc⟩ := h
  refine ⟨a, c, hv, hcap, fun i hi => ?_⟩
  obtain ⟨b, o, cs, ha, hbs, hr, hcell⟩ := hc i hi
  obtain ⟨vb, vl, rfl, h1, h2, h3, h4⟩ := task_cells.1 hr
  refine ⟨b, o, vb, vl, ha, hbs, h3, h4, h1, h2, ?_, ?_, ?_, ?_⟩
  · exact hcell 0 (by simp)
  · exact hcell 1 (by simp)
  · exact hcell 2 (by simp)
  · exact hcell 3 (by simp)

/-- No more numbers than a machine can copy at once. -/
def smallTask (x : Tk) : Prop := x.2.2.1.length ≤ 1048576 ∧ x.2.2.2.length ≤ 1048576
def smallTasks (xs : List Tk) : Prop := xs.length ≤ 1048576 ∧ ∀ x ∈ xs, smallTask x


end Go.Proofs.YtbocedlldaeanaaDoor

namespace Go.Proofs.YtbocedlldaeanaaDoor
open Go.RowKit
set_option linter.unusedVariables false
set_option linter.unusedSimpArgs false

theorem OwnI.slR {w : World} {B : Nat} {v : Value} {xs : List Int} (h : OwnI w B v xs) (hw : ∀ n ∈ xs, (Lit.int .i64 n).wf = true) : SlR rInt w v xs := SlR.of_ints h.ints hw

end Go.Proofs.YtbocedlldaeanaaDoor

namespace Go.Proofs.YtbocedlldaeanaaDoor
open Go.RowKit
set_option linter.unusedVariables false
set_option linter.unusedSimpArgs false

def rJob : Rdr Jb := rPair rInt (rPair rInt (rPair rInt rInt))
def jobWf (j : Jb) : Prop := (Lit.int .i64 j.1).wf = true ∧ (Lit.int .i64 j.2.1).wf = true ∧ (Lit.int .i64 j.2.2.1).wf = true ∧ (Lit.int .i64 j.2.2.2).wf = true
theorem job_cells {w : World} {cs : List Value} {x : Jb} : rJob.R w cs x ↔ cs = jbCells x ∧ jobWf x := by
  constructor
  · rintro ⟨c1, c2, rfl, ⟨rfl, h1⟩, c3, c4, rfl, ⟨rfl, h2⟩, c5, c6, rfl, ⟨rfl, h3⟩, rfl, h4⟩
    exact ⟨rfl, h1, h2, h3, h4⟩
  · rintro ⟨rfl, h1, h2, h3, h4⟩
    exact ⟨_, _, rfl, ⟨rfl, h1⟩, _, _, rfl, ⟨rfl, h2⟩, _, _, rfl, ⟨rfl, h3⟩, rfl, h4⟩
abbrev JobsR (w : World) (v : Value) (xs : List Jb) : Prop := SlR rJob w v xs
theorem JobsR.jobs {w : World} {v : Value} {xs : List Jb} (h : JobsR w v xs) : Jobs w v xs := by
  obtain ⟨hm, a, c, hv, hcap, hc⟩ := h
  refine ⟨hm, a, c, hv, hcap, fun i hi => ?_⟩
  obtain ⟨b, o, cs, ha, hbs, hr, hcell⟩ := hc i hi
  obtain ⟨rfl, _⟩ := job_cells.1 hr
  exact ⟨b, o, ha, hbs, hcell⟩
theorem JobsR.wf {w : World} {v : Value} {xs : List Jb} (h : JobsR w v xs) : ∀ i (hi : i < xs.length), jobWf xs[i] := fun i hi => by
  obtain ⟨hm, a, c, hv, hcap, hc⟩ := h
  obtain ⟨b, o, cs, ha, hbs, hr, hcell⟩ := hc i hi
  exact (job_cells.1 hr).2
theorem Jobs.at_ {w : World} {v : Value} {xs : List Jb} (h : Jobs w v xs) : ∃ a c, v = .slice a xs.length c ∧ xs.length ≤ c ∧ ∀ i (hi : i < xs.length), ∃ b o, a = some ⟨b, o, none⟩ ∧ b < w.heap.size ∧
    w.cell? ⟨b, o + i * 4, none⟩ = some (.int .i64 xs[i].1) ∧ w.cell? ⟨b, o + i * 4 + 1, none⟩ = some (.int .i64 xs[i].2.1) ∧ w.cell? ⟨b, o + i * 4 + 2, none⟩ = some (.int .i64 xs[i].2.2.1) ∧ w.cell? ⟨b, o + i * 4 + 3, none⟩ = some (.int .i64 xs[i].2.2.2) := by
  obtain ⟨hm, a, c, hv, hcap, hc⟩ := h
  refine ⟨a, c, hv, hcap, fun i hi => ?_⟩
  obtain ⟨b, o, ha, hbs, hcell⟩ := hc i hi
  exact ⟨b, o, ha, hbs, hcell 0 (by simp [jbCells]), hcell 1 (by simp [jbCells]), hcell 2 (by simp [jbCells]), hcell 3 (by simp [jbCells])⟩
def rRule : Rdr Rl := rPair rInt (rPair rInt (rPair rInt (rPair rInt rInt)))
abbrev Dk := List Jb × Rl × List Int × ByteArray
def rDesk : Rdr Dk := rPair (rSl rJob) (rPair rRule (rPair (rSl rInt) rStr))
def deskCells (vj : Value) (r : Rl) (vc : Value) (p : ByteArray) : List Value := [vj, .int .i64 r.1, .int .i64 r.2.1, .int .i64 r.2.2.1, .int .i64 r.2.2.2.1, .int .i64 r.2.2.2.2, vc, .string p]
def ruleWf (r : Rl) : Prop := (Lit.int .i64 r.1).wf = true ∧ (Lit.int .i64 r.2.1).wf = true ∧ (Lit.int .i64 r.2.2.1).wf = true ∧ (Lit.int .i64 r.2.2.2.1).wf = true ∧ (Lit.int .i64 r.2.2.2.2).wf = true
theorem rule_cells {w : World} {cs : List Value} {r : Rl} : rRule.R w cs r ↔ cs = [.int .i64 r.1, .int .i64 r.2.1, .int .i64 r.2.2.1, .int .i64 r.2.2.2.1, .int .i64 r.2.2.2.2] ∧ ruleWf r := by
  constructor
  · rintro ⟨_, _, rfl, ⟨rfl, h1⟩, _, _, rfl, ⟨rfl, h2⟩, _, _, rfl, ⟨rfl, h3⟩, _, _, rfl, ⟨rfl, h4⟩, rfl, h5⟩
    exact ⟨rfl, h1, h2, h3, h4, h5⟩
  · rintro ⟨rfl, h1, h2, h3, h4, h5⟩
    exact ⟨_, _, rfl, ⟨rfl, h1⟩, _, _, rfl, ⟨rfl, h2⟩, _, _, rfl, ⟨rfl, h3⟩, _, _, rfl, ⟨rfl, h4⟩, rfl, h5⟩
theorem desk_cells {w : World} {cs : List Value} {x : Dk} : rDesk.R w cs x ↔ ∃ vj vc, cs = deskCells vj x.2.1 vc x.2.2.2 ∧ JobsR w vj x.1 ∧ ruleWf x.2.1 ∧ SlR rInt w vc x.2.2.1 ∧ x.2.2.2.size ≤ maxLen := by
  constructor
  · rintro ⟨_, _, rfl, ⟨vj, rfl, h1⟩, _, _, rfl, h2, _, _, rfl, ⟨vc, rfl, h3⟩, rfl, h4⟩
    obtain ⟨rfl, h5⟩ := rule_cells.1 h2
    exact ⟨vj, vc, rfl, h1, h5, h3, h4⟩
  · rintro ⟨vj, vc, rfl, h1, h2, h3, h4⟩
    exact ⟨_, _, rfl, ⟨vj, rfl, h1⟩, _, _, rfl, rule_cells.2 ⟨rfl, h2⟩, _, _, rfl, ⟨vc, rfl, h3⟩, rfl, h4⟩
theorem deskV_cells (vj : Value) (r : Rl) (vc : Value) (p : ByteArray) : deskV vj r vc p = .agg (deskCells vj r vc p).toArray := rfl
def smallDesk (x : Dk) : Prop := x.1.length ≤ 1048576 ∧ x.2.2.1.length ≤ 1048576 ∧ x.2.2.2.size ≤ 1048576

end Go.Proofs.YtbocedlldaeanaaDoor

namespace Go.Proofs.YtbocedlldaeanaaDoor
open Go.RowKit
set_option linter.unusedVariables false
set_option linter.unusedSimpArgs false

end Go.Proofs.YtbocedlldaeanaaDoor

namespace Go.Proofs.YtbocedlldaeanaaDoor
open Go.RowKit
set_option linter.unusedVariables false
set_option linter.unusedSimpArgs false

def isLow (c : UInt8) : Bool := decide (97 ≤ (c.toNat : Int)) && decide ((c.toNat : Int) ≤ 122)
def nameOk (s : ByteArray) : Bool := s.data.toList.all isLow && decide (1 ≤ s.size) && decide (s.size ≤ 8)
theorem all_take_succ (s : ByteArray) (k : Nat) (h : k < s.size) : (s.data.toList.take (k + 1)).all isLow = ((s.data.toList.take k).all isLow && isLow s[k]) := by
  rw [List.take_succ_eq_append_getElem (by simpa using h), List.all_append]
  simp
  rfl
theorem all_bad (s : ByteArray) (k : Nat) (h : k < s.size) (hb : isLow s[k] = false) : s.data.toList.all isLow = false := by
  rw [List.all_eq_false]
  exact ⟨s[k], by
    have : s[k] = s.data.toList[k]'(by simpa using h) := by simp; rfl
    rw [this]; exact List.getElem_mem _, by rw [hb]; simp⟩
theorem all_full (s : ByteArray) : s.data.toList.take s.size = s.data.toList := List.take_of_length_le (by simp)

end Go.Proofs.YtbocedlldaeanaaDoor

namespace Go.Proofs.YtbocedlldaeanaaDoor
open Go.RowKit Go.BigFrame
set_option linter.unusedVariables false
set_option linter.unusedSimpArgs false

/-! Patterns. -/
def isDay (c : UInt8) : Bool := (c.toNat == 46) || isLow c
def patOk (s : ByteArray) (m : Int) : Bool := s.data.toList.all isDay && decide (1 ≤ s.size) && decide ((s.size : Int) ≤ m)
theorem day_take_succ (s : ByteArray) (k : Nat) (h : k < s.size) : (s.data.toList.take (k + 1)).all isDay = ((s.data.toList.take k).all isDay && isDay s[k]) := by
  rw [List.take_succ_eq_append_getElem (by simpa using h), List.all_append]
  simp
  rfl
theorem day_bad (s : ByteArray) (k : Nat) (h : k < s.size) (hb : isDay s[k] = false) : s.data.toList.all isDay = false := by
  rw [List.all_eq_false]
  exact ⟨s[k], by
    have : s[k] = s.data.toList[k]'(by simpa using h) := by simp; rfl
    rw [this]; exact List.getElem_mem _, by rw [hb]; simp⟩

/-! Counts. -/
def countsOk (cs : List Int) : Bool := many cs 1 8 0 16 && win cs.sum 1 64
theorem sum_take (cs : List Int) (k : Nat) (h : k < cs.length) : (cs.take (k + 1)).sum = (cs.take k).sum + nth cs k := by
  rw [List.take_succ_eq_append_getElem h, List.sum_append, nth_eq h]; simp
theorem sum_le (cs : List Int) (h : (cs.all fun n => win n 0 16) = true) : ∀ k, k ≤ cs.length → 0 ≤ (cs.take k).sum ∧ (cs.take k).sum ≤ 16 * k := by
  intro k
  induction k with
  | zero => intro _; simp
  | succ k ih =>
    intro hk
    have h1 := ih (by omega)
    rw [sum_take cs k (by omega), nth_eq (by omega)]
    have := win_true.1 (List.all_eq_true.1 h _ (List.getElem_mem (show k < cs.length by omega)))
    omega

end Go.Proofs.YtbocedlldaeanaaDoor

namespace Go.Proofs.YtbocedlldaeanaaDoor
open Go.RowKit Go.BigFrame
set_option linter.unusedVariables false
set_option linter.unusedSimpArgs false

theorem all16 {cs : List Int} (h : many cs 1 8 0 16 = true) : (cs.all fun n => win n 0 16) = true ∧ cs.length ≤ 8 := by
  obtain ⟨h1, h2, h3⟩ := many_true.1 h
  exact ⟨h3, by omega⟩
theorem counts_bad {cs : List Int} {k : Nat} (h : k < cs.length) (hb : win (nth cs k) 0 16 = false) : countsOk cs = false := by
  have : many cs 1 8 0 16 = false := by
    unfold many
    have : (cs.all fun n => win n 0 16) = false := by rw [List.all_eq_false]; exact ⟨cs[k], List.getElem_mem h, by rw [← nth_eq h, hb]; simp⟩
    rw [this]; simp
  unfold countsOk; rw [this]; rfl
theorem counts_end {cs : List Int} (h : ∀ k, k < cs.length → win (nth cs k) 0 16 = true) : (cs.all fun n => win n 0 16) = true ∧ countsOk cs = (decide (1 ≤ cs.length) && decide (cs.length ≤ 8) && win cs.sum 1 64) := by
  have : (cs.all fun n => win n 0 16) = true := by
    rw [List.all_eq_true]
    intro x hx
    obtain ⟨k, hk, rfl⟩ := List.mem_iff_getElem.1 hx
    rw [← nth_eq hk]; exact h k hk
  refine ⟨this, ?_⟩
  unfold countsOk many
  rw [this, Bool.and_true]
  congr 2
  · congr 1; simp; omega
  · simp; omega
/-! Jobs. -/
def jobOk (j : Jb) : Bool := win j.1 1 10000 && win j.2.1 0 10000 && win j.2.2.1 0 10000 && win j.2.2.2 0 10000
def jobsOk (js : List Jb) : Bool := js.all jobOk && decide (1 ≤ js.length) && decide (js.length ≤ 24)
theorem jobs_bad {js : List Jb} {k : Nat} (h : k < js.length) (hb : jobOk js[k] = false) : jobsOk js = false := by
  unfold jobsOk
  have : js.all jobOk = false := by rw [List.all_eq_false]; exact ⟨js[k], List.getElem_mem h, by rw [hb]; simp⟩
  rw [this]; rfl
theorem jobs_end {js : List Jb} (h : ∀ k (hk : k < js.length), jobOk js[k] = true) : jobsOk js = (decide (1 ≤ js.length) && decide (js.length ≤ 24)) := by
  unfold jobsOk
  have : js.all jobOk = true := by
    rw [List.all_eq_true]; intro x hx
    obtain ⟨k, hk, rfl⟩ := List.mem_iff_getElem.1 hx
    exact h k hk
  rw [this]; rfl
/-! Rules. -/
def ruleOk (r : Rl) : Bool := win r.1 1 24 && win r.2.1 0 r.2.2.1 && decide (r.2.2.1 ≤ r.1) && win r.2.2.2.1 1 r.1 && win r.2.2.2.2 1 r.1
theorem ruleOk_spec (a0 a1 a2 a3 a4 : Int) : ruleOk (a0, a1, a2, a3, a4) = (win a0 1 24 && win a2 0 a0 && win a1 0 a2 && win a3 1 a0 && win a4 1 a0) := by
  unfold ruleOk win
  rw [Bool.eq_iff_iff]
  simp only [Bool.and_eq_true, decide_eq_true_eq]
  omega
set_option maxHeartbeats 4000000 in
theorem validRule_any (a0 a1 a2 a3 a4 : Int) (w : World) :
    Calls Tryd.prog 10 #[.agg #[.int .i64 a0, .int .i64 a1, .int .i64 a2, .int .i64 a3, .int .i64 a4]] w fun e w' => e = .returned (.bool (ruleOk (a0, a1, a2, a3, a4))) ∧ Below w.heap.size w w' := by
  have HX : Hid (ruleOk (a0, a1, a2, a3, a4) = (win a0 1 24 && win a1 0 a2 && decide (a2 ≤ a0) && win a3 1 a0 && win a4 1 a0)) := rfl
  have HB : Hid (Below w.heap.size w (w.alloc (.cells #[.int .i64 a0, .int .i64 a1, .int .i64 a2, .int .i64 a3, .int .i64 a4] 25))) := (Below.refl _ w).alloc (Nat.le_refl _) _
  cases z0 : win a0 1 24
  · have HF : Hid (ruleOk (a0, a1, a2, a3, a4) = false) := by show _ = _; rw [HX.out, z0]; rfl
    go_enter Tryd.func10, Tryd.ntmps10
    go_wp2_with (go_at_call 21; refine (within_any _ _ _ _).mono ?_; rintro e w' ⟨rfl, rfl⟩)
    go_ret
    exact ⟨ret_bool HF.out.symm, HB.out⟩
  · cases z1 : win a1 0 a2
    · have HF : Hid (ruleOk (a0, a1, a2, a3, a4) = false) := by show _ = _; rw [HX.out, z0, z1]; rfl
      go_enter Tryd.func10, Tryd.ntmps10
      go_wp2_with (go_at_call 21; refine (within_any _ _ _ _).mono ?_; rintro e w' ⟨rfl, rfl⟩)
      go_ret
      exact ⟨ret_bool HF.out.symm, HB.out⟩
    · cases z2 : decide (a2 ≤ a0)
      · have HF : Hid (ruleOk (a0, a1, a2, a3, a4) = false) := by show _ = _; rw [HX.out, z0, z1, z2]; rfl
        go_enter Tryd.func10, Tryd.ntmps10
        go_wp2_with (go_at_call 21; refine (within_any _ _ _ _).mono ?_; rintro e w' ⟨rfl, rfl⟩)
        go_ret
        exact ⟨ret_bool HF.out.symm, HB.out⟩
      · have q2 : a2 ≤ a0 := by simpa using z2
        cases z3 : win a3 1 a0
        · have HF : Hid (ruleOk (a0, a1, a2, a3, a4) = false) := by show _ = _; rw [HX.out, z0, z1, z2, z3]; rfl
          go_enter Tryd.func10, Tryd.ntmps10
          go_wp2_with (go_at_call 21; refine (within_any _ _ _ _).mono ?_; rintro e w' ⟨rfl, rfl⟩)
          go_ret
          exact ⟨ret_bool HF.out.symm, HB.out⟩
        · have HF : Hid (ruleOk (a0, a1, a2, a3, a4) = win a4 1 a0) := by show _ = _; rw [HX.out, z0, z1, z2, z3]; rfl
          go_enter Tryd.func10, Tryd.ntmps10
          go_wp2_with (go_at_call 21; refine (within_any _ _ _ _).mono ?_; rintro e w' ⟨rfl, rfl⟩)
          go_ret
          exact ⟨ret_bool HF.out.symm, HB.out⟩
end Go.Proofs.YtbocedlldaeanaaDoor
