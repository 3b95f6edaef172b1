/- The bytes of a saved plan: a plain list. Conditions: none. With texts that it needs. -/
import Derived.Test.YtcjeededlhdcbaaCrewsAll3
import Derived.Test.YtcjeededlhdcbaaCrewsAll5
import Derived.Test.YtcjeededlhdcbaaCrewsAll1
import Derived.Deep.AppendLies
import Derived.Deep.RegionHeld3
import Derived.Lib.AppendStr
import Derived.Lib.ConvBytes
import Derived.Laws.BytesArg
import Derived.Test.YtcjeededlhdcbaaCrewsAll2
namespace Go.Proofs.Ytcjeededlhdcbaa
open Go.RowKit
set_option linter.unusedVariables false
set_option linter.unusedSimpArgs false

theorem nth_setM {l : List Int} {m i : Nat} (v : Int) (hm : m < l.length) : nth (l.set m v) i = if m = i then v else nth l i := by
  unfold nth
  rw [List.getD_eq_getElem?_getD, List.getElem?_set, List.getD_eq_getElem?_getD]
  split
  · rename_i e'; subst e'; simp [hm]
  · rfl
/-- Is task j told, and does it run at t. -/
def runsO (ts : List Tk) (out : List Int) (t : Int) (j : Nat) : Prop := 0 ≤ nth out j ∧ nth out j ≤ t ∧ t < nth out j + timeN ts j
instance (ts : List Tk) (out : List Int) (t : Int) (j : Nat) : Decidable (runsO ts out t j) := by unfold runsO; exact inferInstance
/-- What the told tasks take at t. -/
def useO (ts : List Tk) (out : List Int) (t : Int) : Nat → Int
  | 0 => 0
  | j + 1 => useO ts out t j + if runsO ts out t j then needN ts j else 0
theorem useO_bounds {ts : List Tk} {out : List Int} {t : Int} (ht : SmTs ts) : ∀ i, i ≤ ts.length → 0 ≤ useO ts out t i ∧ useO ts out t i ≤ 20 * (i : Int)
  | 0, _ => ⟨Int.le_refl _, Int.le_refl _⟩
  | i + 1, hi => by
    have h := useO_bounds (out := out) (t := t) ht i (by omega)
    have hn := ht.need i (by omega)
    unfold useO
    split <;> omega
theorem useO_set {ts : List Tk} {out : List Int} {t s : Int} {i : Nat} (hi : i < out.length) (hm : nth out i = -1) (hs : 0 ≤ s) : ∀ n, useO ts (out.set i s) t n = useO ts out t n + if i < n ∧ s ≤ t ∧ t < s + timeN ts i then needN ts i else 0
  | 0 => by rw [if_neg (by omega)]; rfl
  | n + 1 => by
    unfold useO
    rw [useO_set hi hm hs n]
    by_cases e : i = n
    · subst e
      have h1 : ¬ runsO ts out t i := by unfold runsO; rw [hm]; omega
      rw [if_neg h1, if_neg (show ¬ (i < i ∧ s ≤ t ∧ t < s + timeN ts i) by omega)]
      have h2 : runsO ts (out.set i s) t i ↔ (i < i + 1 ∧ s ≤ t ∧ t < s + timeN ts i) := by unfold runsO; rw [nth_setM _ hi, if_pos rfl]; omega
      by_cases h : runsO ts (out.set i s) t i
      · rw [if_pos h, if_pos (h2.1 h)] <;> omega
      · rw [if_neg h, if_neg (fun k => h (h2.2 k))] <;> omega
    · have h2 : runsO ts (out.set i s) t n ↔ runsO ts out t n := by unfold runsO; rw [nth_setM _ hi, if_neg e]
      have h3 : (i < n + 1 ∧ s ≤ t ∧ t < s + timeN ts i) ↔ (i < n ∧ s ≤ t ∧ t < s + timeN ts i) := by omega
      by_cases h : runsO ts out t n
      · rw [if_pos h, if_pos (h2.2 h)]
        by_cases q : i < n ∧ s ≤ t ∧ t < s + timeN ts i
        · rw [if_pos q, if_pos (h3.2 q)] <;> omega
        · rw [if_neg q, if_neg (fun k => q (h3.1 k))] <;> omega
      · rw [if_neg h, if_neg (fun k => h (h2.1 k))]
        by_cases q : i < n ∧ s ≤ t ∧ t < s + timeN ts i
        · rw [if_pos q, if_pos (h3.2 q)] <;> omega
        · rw [if_neg q, if_neg (fun k => q (h3.1 k))] <;> omega
theorem useO_none (ts : List Tk) (m : Nat) (t : Int) : ∀ n, n ≤ m → useO ts (noneL m) t n = 0
  | 0, _ => rfl
  | n + 1, h => by
    unfold useO
    rw [useO_none ts m t n (by omega), if_neg (by unfold runsO; rw [nth_replicate (by omega)]; omega)]; rfl
/-- How many of the told start elsewhere. -/
def diffO (st out : List Int) : Nat → Int
  | 0 => 0
  | j + 1 => diffO st out j + if 0 ≤ nth out j ∧ nth out j ≠ nth st j then 1 else 0
theorem diffO_bounds {st out : List Int} : ∀ n, 0 ≤ diffO st out n ∧ diffO st out n ≤ n
  | 0 => ⟨Int.le_refl _, Int.le_refl _⟩
  | n + 1 => by have := diffO_bounds (st := st) (out := out) n; unfold diffO; split <;> omega
theorem diffO_set {st out : List Int} {s : Int} {i : Nat} (hi : i < out.length) (hm : nth out i = -1) (hs : 0 ≤ s) : ∀ n, diffO st (out.set i s) n = diffO st out n + if i < n ∧ s ≠ nth st i then 1 else 0
  | 0 => by rw [if_neg (by omega)]; rfl
  | n + 1 => by
    unfold diffO
    rw [diffO_set hi hm hs n, nth_setM _ hi]
    by_cases e : i = n
    · subst e
      rw [if_pos rfl, hm, if_neg (show ¬ (i < i ∧ s ≠ nth st i) by omega), if_neg (show ¬ ((0 : Int) ≤ -1 ∧ (-1 : Int) ≠ nth st i) by omega)]
      by_cases q : s ≠ nth st i
      · rw [if_pos (show 0 ≤ s ∧ s ≠ nth st i from ⟨hs, q⟩), if_pos (show i < i + 1 ∧ s ≠ nth st i from ⟨by omega, q⟩)] <;> omega
      · rw [if_neg (show ¬ (0 ≤ s ∧ s ≠ nth st i) from fun k => q k.2), if_neg (show ¬ (i < i + 1 ∧ s ≠ nth st i) from fun k => q k.2)] <;> omega
    · rw [if_neg e]
      by_cases q : i < n ∧ s ≠ nth st i
      · rw [if_pos q, if_pos (show i < n + 1 ∧ s ≠ nth st i from ⟨by omega, q.2⟩)] <;> omega
      · rw [if_neg q, if_neg (show ¬ (i < n + 1 ∧ s ≠ nth st i) from fun k => q ⟨by omega, k.2⟩)] <;> omega
theorem diffO_none (st : List Int) (m : Nat) : ∀ n, n ≤ m → diffO st (noneL m) n = 0
  | 0, _ => rfl
  | n + 1, h => by
    unfold diffO
    rw [diffO_none st m n (by omega), if_neg (by rw [nth_replicate (by omega)]; omega)]; rfl
/-- The start that fits. -/
noncomputable def fitOf (u : Nat → Int) (crew need time a : Int) : Int := open Classical in if h : ∃ s, Fit u crew need time a s then h.choose else 0
theorem Fit.eq {u : Nat → Int} {crew need time a s : Int} (h : Fit u crew need time a s) : fitOf u crew need time a = s := by
  unfold fitOf
  rw [dif_pos ⟨s, h⟩]
  exact Fit.unique (Exists.choose_spec (p := fun s => Fit u crew need time a s) ⟨s, h⟩) h
/-- Are the tasks before i told. -/
def toldB (ts : List Tk) (out : List Int) (i : Nat) : Bool := (befN ts i).all fun b => decide (0 ≤ nth out b.toNat)
noncomputable def mendS (ts : List Tk) (st : List Int) (crew : Int) (out : List Int) (i : Nat) : List Int :=
  out.set i (fitOf (fun t => useO ts out t ts.length) crew (needN ts i) (timeN ts i) (max (nth st i) (leastN ts out i)))
noncomputable def mendL (ts : List Tk) (st : List Int) (crew : Int) : List Int → List Int → Option (List Int)
  | [], out => some out
  | i :: r, out => if toldB ts out i.toNat = true then mendL ts st crew r (mendS ts st crew out i.toNat) else none
def keyOf (st : List Int) (x : Int) : Int := nth st x.toNat
noncomputable def mendOf (ts : List Tk) (st : List Int) (crew : Int) : Option (List Int) := mendL ts st crew (sortsL (keyOf st) ts.length) (noneL ts.length)
/-- What is known behind k tasks. -/
structure MendI (ts : List Tk) (st : List Int) (crew : Int) (E : List Int) (k : Nat) (out : List Int) : Prop where
  kn : k ≤ ts.length
  len : out.length = ts.length
  lo : ∀ j, j < ts.length → -1 ≤ nth out j
  hi : ∀ j, j < ts.length → nth out j + timeN ts j ≤ 500 + 300 * (k : Int)
  rem : mendL ts st crew (E.drop k) out = mendOf ts st crew
  told : ∀ y ∈ E.take k, 0 ≤ nth out y.toNat
  not : ∀ y ∈ E.drop k, nth out y.toNat = -1
theorem mendI_start {ts : List Tk} {st : List Int} {crew : Int} {E : List Int} (ht : SmTs ts) (hE : SortsBy (keyOf st) ts.length E) : MendI ts st crew E 0 (noneL ts.length) := by
  have hl : (noneL ts.length).length = ts.length := by simp [noneL]
  refine ⟨Nat.zero_le _, hl, fun j hj => by rw [nth_replicate hj]; omega, fun j hj => by rw [nth_replicate hj]; have := ht.time j hj; omega, ?_, fun y hy => by simp at hy, fun y hy => ?_⟩
  · rw [sorts_one hE (sortsL_ok _ _)]; rfl
  · have h := idL_mem.1 (hE.1.mem_iff.1 (List.mem_of_mem_drop hy))
    exact nth_replicate (by omega)
theorem leastTo_le {ts : List Tk} {out : List Int} {i : Nat} {B : Int} (ht : SmTs ts) (hi : i < ts.length) (hB : 0 ≤ B) (hh : ∀ j, j < ts.length → nth out j + timeN ts j ≤ B) : ∀ k, k ≤ (befN ts i).length → leastTo ts out i k ≤ B + 100
  | 0, _ => by unfold leastTo; omega
  | k + 1, hk => by
    have h1 := leastTo_le ht hi hB hh k (by omega)
    have h2 := ht.bef i hi k (by omega)
    have h3 := ht.lag i hi k (by omega)
    have h4 := hh (nth (befN ts i) k).toNat (by omega)
    unfold leastTo
    omega
/-- The task that comes next, and what is known of it. -/
theorem MendI.next {ts : List Tk} {st : List Int} {crew : Int} {E out : List Int} {k : Nat} (h : MendI ts st crew E k out) (hE : SortsBy (keyOf st) ts.length E) (hk : k < ts.length) :
    E.drop k = nth E k :: E.drop (k + 1) ∧ 0 ≤ nth E k ∧ (nth E k).toNat < ts.length ∧ nth out (nth E k).toNat = -1 := by
  have hl : E.length = ts.length := by rw [hE.1.length_eq, idL_length]
  have h1 : E.drop k = nth E k :: E.drop (k + 1) := by rw [nth_eq (by omega)]; exact List.drop_eq_getElem_cons (by omega)
  have h2 : nth E k ∈ E.drop k := by rw [h1]; exact List.mem_cons_self
  have h3 := idL_mem.1 (hE.1.mem_iff.1 (List.mem_of_mem_drop h2))
  exact ⟨h1, h3.1, by omega, h.not _ h2⟩
theorem MendI.fail {ts : List Tk} {st : List Int} {crew : Int} {E out : List Int} {k : Nat} (h : MendI ts st crew E k out) (hE : SortsBy (keyOf st) ts.length E) (hk : k < ts.length) (ht : toldB ts out (nth E k).toNat = false) : mendOf ts st crew = none := by
  have h1 := h.rem
  rw [(h.next hE hk).1] at h1
  unfold mendL at h1
  rw [if_neg (by rw [ht]; simp)] at h1
  exact h1.symm
theorem MendI.done {ts : List Tk} {st : List Int} {crew : Int} {E out : List Int} (h : MendI ts st crew E ts.length out) (hE : SortsBy (keyOf st) ts.length E) : mendOf ts st crew = some out := by
  have hl : E.length = ts.length := by rw [hE.1.length_eq, idL_length]
  have h1 := h.rem
  rw [List.drop_eq_nil_of_le (by omega)] at h1
  exact h1.symm
theorem MendI.step {ts : List Tk} {st : List Int} {crew : Int} {E out : List Int} {k : Nat} {s : Int} (h : MendI ts st crew E k out) (hE : SortsBy (keyOf st) ts.length E) (hk : k < ts.length) (hts : SmTs ts) (ht : toldB ts out (nth E k).toNat = true)
    (hs : Fit (fun t => useO ts out t ts.length) crew (needN ts (nth E k).toNat) (timeN ts (nth E k).toNat) (max (nth st (nth E k).toNat) (leastN ts out (nth E k).toNat)) s) (hs0 : 0 ≤ s) (hsB : s ≤ 600 + 300 * (k : Int)) :
    MendI ts st crew E (k + 1) (out.set (nth E k).toNat s) := by
  have hl : E.length = ts.length := by rw [hE.1.length_eq, idL_length]
  obtain ⟨h1, h2, h3, h4⟩ := h.next hE hk
  have hil : (nth E k).toNat < out.length := by rw [h.len]; exact h3
  refine ⟨hk, by rw [List.length_set]; exact h.len, fun j hj => ?_, fun j hj => ?_, ?_, fun y hy => ?_, fun y hy => ?_⟩
  · rw [nth_setM _ hil]
    have := h.lo j hj
    split <;> omega
  · rw [nth_setM _ hil]
    have := h.hi j hj
    have := hts.time j hj
    split <;> omega
  · have h5 := h.rem
    rw [h1] at h5
    conv at h5 => lhs; unfold mendL
    rw [if_pos ht] at h5
    unfold mendS at h5
    rw [hs.eq] at h5
    exact h5
  · rw [nth_setM _ hil]
    rw [List.take_succ_eq_append_getElem (by omega), List.mem_append] at hy
    split
    · exact hs0
    · rename_i e
      rcases hy with hy | hy
      · exact h.told y hy
      · exfalso; apply e
        rw [List.mem_singleton] at hy
        rw [hy, nth_eq (by omega)]
  · have hn := h.not y (by rw [h1]; exact List.mem_cons_of_mem _ hy)
    rw [nth_setM _ hil]
    split
    · rename_i e
      exfalso
      have hp := (hE.1.pairwise_iff (fun h => Ne.symm h)).2 (idL_nodup ts.length)
      have hp2 := List.Pairwise.sublist (List.drop_sublist k E) hp
      rw [h1, List.pairwise_cons] at hp2
      have h6 := idL_mem.1 (hE.1.mem_iff.1 (List.mem_of_mem_drop hy))
      exact hp2.1 y hy (by omega)
    · exact hn
end Go.Proofs.Ytcjeededlhdcbaa

namespace Go.Proofs.Ytcjeededlhdcbaa
open Go.RowKit
set_option linter.unusedVariables false
set_option linter.unusedSimpArgs false

/-- Starts with 0 where nothing is told. -/
def zerL (out : List Int) : List Int := out.map fun x => max x 0
def tldL (out : List Int) : List Bool := out.map fun x => decide (0 ≤ x)
theorem zerL_len (out : List Int) : (zerL out).length = out.length := by simp [zerL]
theorem tldL_len (out : List Int) : (tldL out).length = out.length := by simp [tldL]
theorem zerL_at {out : List Int} {j : Nat} (h : j < out.length) : nth (zerL out) j = max (nth out j) 0 := by
  rw [nth_eq (by rw [zerL_len]; exact h), nth_eq h]; simp [zerL]
theorem tldL_at {out : List Int} {j : Nat} (h : j < (tldL out).length) : (tldL out)[j] = decide (0 ≤ nth out j) := by
  have h' : j < out.length := by rw [tldL_len] at h; exact h
  rw [nth_eq h']; simp [tldL]
theorem zerL_set (out : List Int) (i : Nat) {s : Int} (h : 0 ≤ s) : zerL (out.set i s) = (zerL out).set i s := by
  unfold zerL; rw [List.map_set]; congr 1; omega
theorem tldL_set (out : List Int) (i : Nat) {s : Int} (h : 0 ≤ s) : tldL (out.set i s) = (tldL out).set i true := by
  unfold tldL; rw [List.map_set]; congr 1; simpa using h
theorem zerL_none (n : Nat) : zerL (noneL n) = List.replicate n 0 := by unfold zerL noneL; rw [List.map_replicate]; rfl
theorem tldL_none (n : Nat) : tldL (noneL n) = List.replicate n false := by unfold tldL noneL; rw [List.map_replicate]; rfl
theorem zerL_told {out : List Int} {j : Nat} (h : j < out.length) (h0 : 0 ≤ nth out j) : nth (zerL out) j = nth out j := by rw [zerL_at h]; omega
theorem leastTo_zer {ts : List Tk} {out : List Int} {i : Nat} (ht : SmTs ts) (hl : out.length = ts.length) (hi : i < ts.length) (hb : ∀ j, j < (befN ts i).length → 0 ≤ nth out (nth (befN ts i) j).toNat) : ∀ k, k ≤ (befN ts i).length → leastTo ts (zerL out) i k = leastTo ts out i k
  | 0, _ => rfl
  | k + 1, hk => by
    have h1 := leastTo_zer ht hl hi hb k (by omega)
    have h2 := ht.bef i hi k (by omega)
    unfold leastTo
    rw [h1, zerL_told (by omega) (hb k (by omega))]
theorem toldB_all {ts : List Tk} {out : List Int} {i : Nat} (h : toldB ts out i = true) (j : Nat) (hj : j < (befN ts i).length) : 0 ≤ nth out (nth (befN ts i) j).toNat := by
  unfold toldB at h
  rw [List.all_eq_true] at h
  have := h _ (nth_mem hj)
  simpa using this
theorem leastN_zer {ts : List Tk} {out : List Int} {i : Nat} (ht : SmTs ts) (hl : out.length = ts.length) (hi : i < ts.length) (hb : toldB ts out i = true) : leastN ts (zerL out) i = leastN ts out i :=
  leastTo_zer ht hl hi (toldB_all hb) _ (Nat.le_refl _)
/-- Where something is in use, something told runs. -/
theorem useO_none_after {ts : List Tk} {out : List Int} {t B : Int} (hB : B ≤ t) : ∀ n, (∀ j, j < n → nth out j + timeN ts j ≤ B) → useO ts out t n = 0
  | 0, _ => rfl
  | n + 1, h => by
    unfold useO
    rw [useO_none_after hB n (fun j hj => h j (by omega)), if_neg (by unfold runsO; have := h n (by omega); omega)]; rfl
/-- The search's end is the start that fits. -/
theorem fit_of_search {u : Nat → Int} {crew need time a s : Int} {t : Nat} (h1 : a ≤ s) (h2 : s + time ≤ t) (hn : noneW u crew need time a s) (hf : ∀ j : Nat, s ≤ j → (j : Int) < t → u j + need ≤ crew) : Fit u crew need time a s :=
  ⟨h1, fun k k1 k2 => hf k k1 (by omega), hn⟩
end Go.Proofs.Ytcjeededlhdcbaa

namespace Go.Proofs.Ytcjeededlhdcbaa
open Go.RowKit
set_option linter.unusedVariables false
set_option linter.unusedSimpArgs false

/-- 'append(s, y, ..)' where the region draws its order. -/
theorem step_append_i64 {ops : Array Oper} {o : Oper} {a : Act} {K : Act → World → Prop} {Q : Exit → Act → World → Prop} {E : Prop} {W : World} (hgd : o.guard = none) (s x : Operand)
    (ho : o.op = .call { callee := .builtin .append, args := #[s, x], argTypes := #[27, 27] }) (B : Nat) (v : Value) (xs ys : List Int) (hy : 0 < ys.length)
    (hs : a.eval s = v) (c : Nat) (hx : a.eval x = .slice (some ⟨W.heap.size, 0, none⟩) ys.length c) (hown : OwnI W B v xs) (hB : B ≤ W.heap.size) (hsmall : xs.length + ys.length ≤ 1099511627776)
    (hK : ∀ g c w', OwnI w' B (.slice (some ⟨g, 0, none⟩) (xs.length + ys.length) c) (xs ++ ys) → W.grownBy w' v.ownBlock → K (a.put o.dst (.slice (some ⟨g, 0, none⟩) (xs.length + ys.length) c)) w') :
    if Region.wanted o (yielded ops a.tmps) = true then Oper.wp Try.prog o a (W.alloc (.cells (ys.map (Value.int .i64)).toArray 2)).drew K Q else E := by
  obtain ⟨i0, hi, hz0, hz1, hz2⟩ := info_parts info_i64
  have hown' : (W.alloc (.cells (ys.map (Value.int .i64)).toArray 2)).drew.ownsRow B 2 1 v xs.length (xs.map (Value.int .i64)) := World.ownsRow.drew (World.ownsRow.alloc hown _)
  refine step_append_lies _ hgd s x 27 ho B 2 i0 (.int .i64 0) 1 8 Try.underlying27 hi hz0 hz1 hz2 rfl (by decide) v xs.length _ hs hown' ⟨W.heap.size, 0, none⟩ ys.length c (ys.map (Value.int .i64)) hx (by simp) (cells_lit W _ _) ?_ hy (by unfold maxLen; omega) (by omega) (by simp; omega) (W.heap.size + 1) (by simp) ?_
  · intro u hu; obtain ⟨y, _, rfl⟩ := List.mem_map.1 hu; rfl
  · intro g cap w' h1 h2 _ _
    have h2' : (W.alloc (.cells (ys.map (Value.int .i64)).toArray 2)).grownBy w' v.ownBlock := ⟨h2.os, h2.tape, h2.output, h2.size, h2.block⟩
    obtain ⟨g', c', he, h3, h4⟩ := app_shape hy hown h1 h2'
    obtain ⟨rfl, rfl⟩ : g = g' ∧ cap = c' := by simpa using he
    exact hK g cap w' h3 h4
end Go.Proofs.Ytcjeededlhdcbaa

namespace Go.Proofs.Ytcjeededlhdcbaa
open Go.RowKit
set_option linter.unusedVariables false
set_option linter.unusedSimpArgs false

theorem append_from {ops : Array Oper} {rest : List Oper} {o : Oper} {a : Act} {Q : Exit → Act → World → Prop} {W : World} (hgd : o.guard = none) (s x : Operand)
    (ho : o.op = .call { callee := .builtin .append, args := #[s, x], argTypes := #[27, 27] }) (B : Nat) (v : Value) (xs ys : List Int) (hy : 0 < ys.length)
    (hs : a.eval s = v) (b off c : Nat) (hx : a.eval x = .slice (some ⟨b, off, none⟩) ys.length c) (hcells : ∀ i (h : i < ys.length), W.cell? ⟨b, off + i, none⟩ = some (.int .i64 ys[i])) (hown : OwnI W B v xs) (hB : B ≤ W.heap.size) (hsmall : xs.length + ys.length ≤ 1099511627776)
    (hK : ∀ g c w', OwnI w' B (.slice (some ⟨g, 0, none⟩) (xs.length + ys.length) c) (xs ++ ys) → W.grownBy w' v.ownBlock → wpList Try.prog ops Q rest (a.put o.dst (.slice (some ⟨g, 0, none⟩) (xs.length + ys.length) c)) w') :
    wpList Try.prog ops Q (o :: rest) a W := by
  obtain ⟨i0, hi, hz0, hz1, hz2⟩ := info_parts info_i64
  refine wpList_append_own _ hgd s x 27 ho B 2 i0 (.int .i64 0) 1 8 Try.underlying27 hi hz0 hz1 hz2 rfl (by decide) v xs.length _ hs hown ⟨b, off, none⟩ ys.length c (ys.map (Value.int .i64)) hx (by simp) ?_ ?_ (by unfold maxLen; omega) (by omega) hB ?_
  · intro j u hj
    rw [List.getElem?_map] at hj
    cases h : ys[j]? with
    | none => rw [h] at hj; cases hj
    | some y =>
      rw [h] at hj
      obtain ⟨h1, h2⟩ := List.getElem?_eq_some_iff.1 h
      have hadd : (⟨b, off, none⟩ : Addr).add j = ⟨b, off + j, none⟩ := by unfold Addr.add; split <;> simp_all
      rw [hadd, hcells j h1, h2]
      simpa using hj
  · intro u hu; obtain ⟨y, _, rfl⟩ := List.mem_map.1 hu; rfl
  · intro v' w' h1 h2 _
    have h1' : OwnI w' B v' (xs ++ ys) := by unfold OwnI; simpa using h1
    rcases h1.2 with ⟨_, h0⟩ | ⟨g, cap, cur, rfl, _⟩
    · omega
    · exact hK g cap w' h1' h2
end Go.Proofs.Ytcjeededlhdcbaa

namespace Go.Proofs.Ytcjeededlhdcbaa
open Go.RowKit
set_option linter.unusedVariables false
set_option linter.unusedSimpArgs false

theorem info_u8 : (Try.prog.info? 5).map (fun i => (i.zero, i.size, i.bytes)) = some (some (.int .u8 0), 1, 1) := by kernel_rfl
/-- v is a slice of the call's own (in a block from B on, or nil), and it holds the integers xs. -/
def OwnY (w : World) (B : Nat) (v : Value) (xs : List Int) : Prop := w.ownsRow B 5 1 v xs.length (xs.map (Value.int .u8))

theorem OwnY.alloc {w : World} {B : Nat} {v : Value} {xs : List Int} (h : OwnY w B v xs) (o : Obj) : OwnY (w.alloc o) B v xs := World.ownsRow.alloc h o
theorem OwnY.kept {w w' : World} {B : Nat} {v : Value} {xs : List Int} {row : Option Nat} (h : OwnY w B v xs) (hg : w.grownBy w' row) (hne : v.ownBlock = none ∨ v.ownBlock ≠ row) : OwnY w' B v xs := World.ownsRow.kept h hg hne
theorem OwnY.lt {w : World} {B : Nat} {v : Value} {xs : List Int} (h : OwnY w B v xs) : ∀ k, v.ownBlock = some k → B ≤ k ∧ k < w.heap.size := World.ownsRow.lt h
theorem OwnY.below {w w' : World} {B N : Nat} {v : Value} {xs : List Int} (h : OwnY w B v xs) (hb : Below N w w') (hN : w.heap.size ≤ N) : OwnY w' B v xs := by
  refine h.kept (row := none) ⟨hb.os, hb.tape, hb.output, hb.size, fun k hk _ => hb.block k (by omega)⟩ ?_
  cases v.ownBlock <;> simp
theorem OwnY.drewN {w : World} {B : Nat} {v : Value} {xs : List Int} (h : OwnY w B v xs) (q : Nat) : OwnY (w.drewN q) B v xs := h.below (below_drewN q (Below.refl w.heap.size w)) (Nat.le_refl _)
theorem OwnY.mono {w : World} {B B' : Nat} {v : Value} {xs : List Int} (h : OwnY w B v xs) (hB : B' ≤ B) : OwnY w B' v xs := by
  refine ⟨h.1, ?_⟩
  rcases h.2 with h2 | ⟨g, cap, cur, hv, hg, r⟩
  · exact .inl h2
  · exact .inr ⟨g, cap, cur, hv, by omega, r⟩
theorem OwnY.setCell {w : World} {B : Nat} {v : Value} {xs : List Int} (h : OwnY w B v xs) {p : Addr} (u : Value) (hne : v.ownBlock ≠ some p.block) : OwnY (w.setCell p u) B v xs :=
  h.kept (row := some p.block) ⟨rfl, rfl, rfl, by simp [World.setCell], fun k hk hk' => Below.heap_setCell _ _ _ _ (fun e => hk' (by rw [e]))⟩ (.inr hne)

/-- A slice literal. -/
theorem OwnY.lit (w : World) (B : Nat) (xs : List Int) (hB : B ≤ w.heap.size) (hx : xs.length ≤ maxLen) : OwnY (w.alloc (.cells (xs.map (Value.int .u8)).toArray 5)) B (.slice (some ⟨w.heap.size, 0, none⟩) xs.length xs.length) xs := by
  have := World.ownsRow_lit (e := 5) (size := 1) w (xs.map (Value.int .u8)).toArray xs.length hB hx (by simp)
  simpa [OwnY] using this

/-- What is known behind an append of at least one element. -/
theorem app_shapeY {W w' : World} {B : Nat} {v v' : Value} {xs ys : List Int} {t : TypeId} (hy : 0 < ys.length) (hown : OwnY W B v xs)
    (h1 : w'.ownsRow B 5 1 v' (xs.length + ys.length) (xs.map (Value.int .u8) ++ ys.map (Value.int .u8))) (h2 : (W.alloc (.cells (ys.map (Value.int .u8)).toArray t)).grownBy w' v.ownBlock) :
    ∃ g c, v' = .slice (some ⟨g, 0, none⟩) (xs.length + ys.length) c ∧ OwnY w' B (.slice (some ⟨g, 0, none⟩) (xs.length + ys.length) c) (xs ++ ys) ∧ W.grownBy w' v.ownBlock := by
  have hg : W.grownBy w' v.ownBlock := ⟨h2.os, h2.tape, h2.output, Nat.le_trans (by simp) h2.size, fun k hk hne => (h2.block k (by simp; omega) hne).trans (Below.heap_alloc _ _ _ hk)⟩
  have h1' : OwnY w' B v' (xs ++ ys) := by unfold OwnY; simpa using h1
  rcases h1.2 with ⟨_, h0⟩ | ⟨g, cap, cur, rfl, _⟩
  · omega
  · exact ⟨g, cap, rfl, h1', hg⟩

theorem append_y {ops : Array Oper} {rest : List Oper} {o : Oper} {a : Act} {Q : Exit → Act → World → Prop} {W : World} (hgd : o.guard = none) (s x : Operand)
    (ho : o.op = .call { callee := .builtin .append, args := #[s, x], argTypes := #[22, 22] }) (B : Nat) (v : Value) (xs ys : List Int) (hy : 0 < ys.length)
    (hs : a.eval s = v) (c : Nat) (hx : a.eval x = .slice (some ⟨W.heap.size, 0, none⟩) ys.length c) (hown : OwnY W B v xs) (hB : B ≤ W.heap.size) (hsmall : xs.length + ys.length ≤ 1099511627776)
    (hK : ∀ g c w', OwnY w' B (.slice (some ⟨g, 0, none⟩) (xs.length + ys.length) c) (xs ++ ys) → W.grownBy w' v.ownBlock → wpList Try.prog ops Q rest (a.put o.dst (.slice (some ⟨g, 0, none⟩) (xs.length + ys.length) c)) w') :
    wpList Try.prog ops Q (o :: rest) a (W.alloc (.cells (ys.map (Value.int .u8)).toArray 5)) := by
  obtain ⟨i0, hi, hz0, hz1, hz2⟩ := info_parts info_u8
  refine wpList_append_own _ hgd s x 22 ho B 5 i0 (.int .u8 0) 1 1 Try.underlying22 hi hz0 hz1 hz2 rfl (by decide) v xs.length _ hs (World.ownsRow.alloc hown _) ⟨W.heap.size, 0, none⟩ ys.length c (ys.map (Value.int .u8)) hx (by simp) (cells_lit W _ _) ?_ (by unfold maxLen; omega) (by omega) (by simp; omega) ?_
  · intro u hu; obtain ⟨y, _, rfl⟩ := List.mem_map.1 hu; rfl
  · intro v' w' h1 h2 _
    obtain ⟨g, c', rfl, h3, h4⟩ := app_shapeY hy hown h1 h2
    exact hK g c' w' h3 h4


theorem step_append_y {ops : Array Oper} {o : Oper} {a : Act} {K : Act → World → Prop} {Q : Exit → Act → World → Prop} {E : Prop} {W : World} (hgd : o.guard = none) (s x : Operand)
    (ho : o.op = .call { callee := .builtin .append, args := #[s, x], argTypes := #[22, 22] }) (B : Nat) (v : Value) (xs ys : List Int) (hy : 0 < ys.length)
    (hs : a.eval s = v) (c : Nat) (hx : a.eval x = .slice (some ⟨W.heap.size, 0, none⟩) ys.length c) (hown : OwnY W B v xs) (hB : B ≤ W.heap.size) (hsmall : xs.length + ys.length ≤ 1099511627776)
    (hK : ∀ g c w', OwnY w' B (.slice (some ⟨g, 0, none⟩) (xs.length + ys.length) c) (xs ++ ys) → W.grownBy w' v.ownBlock → K (a.put o.dst (.slice (some ⟨g, 0, none⟩) (xs.length + ys.length) c)) w') :
    if Region.wanted o (yielded ops a.tmps) = true then Oper.wp Try.prog o a (W.alloc (.cells (ys.map (Value.int .u8)).toArray 5)).drew K Q else E := by
  obtain ⟨i0, hi, hz0, hz1, hz2⟩ := info_parts info_u8
  have hown' : (W.alloc (.cells (ys.map (Value.int .u8)).toArray 5)).drew.ownsRow B 5 1 v xs.length (xs.map (Value.int .u8)) := World.ownsRow.drew (World.ownsRow.alloc hown _)
  refine step_append_lies _ hgd s x 22 ho B 5 i0 (.int .u8 0) 1 1 Try.underlying22 hi hz0 hz1 hz2 rfl (by decide) v xs.length _ hs hown' ⟨W.heap.size, 0, none⟩ ys.length c (ys.map (Value.int .u8)) hx (by simp) (cells_lit W _ _) ?_ hy (by unfold maxLen; omega) (by omega) (by simp; omega) (W.heap.size + 1) (by simp) ?_
  · intro u hu; obtain ⟨y, _, rfl⟩ := List.mem_map.1 hu; rfl
  · intro g cap w' h1 h2 _ _
    have h2' : (W.alloc (.cells (ys.map (Value.int .u8)).toArray 5)).grownBy w' v.ownBlock := ⟨h2.os, h2.tape, h2.output, h2.size, h2.block⟩
    obtain ⟨g', c', he, h3, h4⟩ := app_shapeY hy hown h1 h2'
    obtain ⟨rfl, rfl⟩ : g = g' ∧ cap = c' := by simpa using he
    exact hK g cap w' h3 h4

theorem append_fromY {ops : Array Oper} {rest : List Oper} {o : Oper} {a : Act} {Q : Exit → Act → World → Prop} {W : World} (hgd : o.guard = none) (s x : Operand)
    (ho : o.op = .call { callee := .builtin .append, args := #[s, x], argTypes := #[22, 22] }) (B : Nat) (v : Value) (xs ys : List Int) (hy : 0 < ys.length)
    (hs : a.eval s = v) (b off c : Nat) (hx : a.eval x = .slice (some ⟨b, off, none⟩) ys.length c) (hcells : ∀ i (h : i < ys.length), W.cell? ⟨b, off + i, none⟩ = some (.int .u8 ys[i])) (hown : OwnY W B v xs) (hB : B ≤ W.heap.size) (hsmall : xs.length + ys.length ≤ 1099511627776)
    (hK : ∀ g c w', OwnY w' B (.slice (some ⟨g, 0, none⟩) (xs.length + ys.length) c) (xs ++ ys) → W.grownBy w' v.ownBlock → wpList Try.prog ops Q rest (a.put o.dst (.slice (some ⟨g, 0, none⟩) (xs.length + ys.length) c)) w') :
    wpList Try.prog ops Q (o :: rest) a W := by
  obtain ⟨i0, hi, hz0, hz1, hz2⟩ := info_parts info_u8
  refine wpList_append_own _ hgd s x 22 ho B 5 i0 (.int .u8 0) 1 1 Try.underlying22 hi hz0 hz1 hz2 rfl (by decide) v xs.length _ hs hown ⟨b, off, none⟩ ys.length c (ys.map (Value.int .u8)) hx (by simp) ?_ ?_ (by unfold maxLen; omega) (by omega) hB ?_
  · intro j u hj
    rw [List.getElem?_map] at hj
    cases h : ys[j]? with
    | none => rw [h] at hj; cases hj
    | some y =>
      rw [h] at hj
      obtain ⟨h1, h2⟩ := List.getElem?_eq_some_iff.1 h
      have hadd : (⟨b, off, none⟩ : Addr).add j = ⟨b, off + j, none⟩ := by unfold Addr.add; split <;> simp_all
      rw [hadd, hcells j h1, h2]
      simpa using hj
  · intro u hu; obtain ⟨y, _, rfl⟩ := List.mem_map.1 hu; rfl
  · intro v' w' h1 h2 _
    have h1' : OwnY w' B v' (xs ++ ys) := by unfold OwnY; simpa using h1
    rcases h1.2 with ⟨_, h0⟩ | ⟨g, cap, cur, rfl, _⟩
    · omega
    · exact hK g cap w' h1' h2

/-- A text's bytes, as numbers. -/
def chs (s : ByteArray) : List Int := s.data.toList.map fun b => (b.toNat : Int)
theorem chs_length (s : ByteArray) : (chs s).length = s.size := by simp [chs]
theorem chs_cells (s : ByteArray) : Lib.strCells s = (chs s).map (Value.int .u8) := by simp [Lib.strCells, chs]
/-- 'append(b, s...)' of a text, outside every round. -/
theorem append_text {ops : Array Oper} {rest : List Oper} {o : Oper} {a : Act} {Q : Exit → Act → World → Prop} {W : World} (hgd : o.guard = none) (sl x : Operand)
    (ho : o.op = .call { callee := .builtin .append, args := #[sl, x], argTypes := #[22, 9] }) (B : Nat) (v : Value) (xs : List Int) (hs : a.eval sl = v) (s : ByteArray) (hx : a.eval x = .string s) (hown : OwnY W B v xs) (h0 : 0 < xs.length) (hB : B ≤ W.heap.size) (hsmall : xs.length + s.size ≤ 1099511627776)
    (hK : ∀ g c w', OwnY w' B (.slice (some ⟨g, 0, none⟩) (xs ++ chs s).length c) (xs ++ chs s) → W.grownBy w' v.ownBlock → wpList Try.prog ops Q rest (a.put o.dst (.slice (some ⟨g, 0, none⟩) (xs ++ chs s).length c)) w') :
    wpList Try.prog ops Q (o :: rest) a W := by
  obtain ⟨i0, hi, hz0, hz1, hz2⟩ := info_parts info_u8
  refine Lib.wpList_append_own_string _ hgd sl x 22 9 ho B 5 i0 Try.underlying22 Try.underlying9 hi hz0 hz1 hz2 v xs.length _ hs hown s hx (by unfold maxLen; omega) (by omega) hB ?_
  intro v' w' h1 h2 h3
  have h4 : OwnY w' B v' (xs ++ chs s) := by
    unfold OwnY
    rw [List.map_append, ← chs_cells, List.length_append, chs_length]
    exact h1
  rcases h4.2 with ⟨_, h5⟩ | ⟨g, cap, cur, rfl, _⟩
  · simp at h5; rw [h5.1] at h0; simp at h0
  · exact hK g cap w' h4 h2
theorem OwnY.cellsY {w : World} {B g n c : Nat} {xs : List Int} (h : OwnY w B (.slice (some ⟨g, 0, none⟩) n c) xs) : ∀ i, i < xs.length → w.cell? ⟨g, i, none⟩ = some (.int .u8 (xs.getD i 0)) := fun i hi => by
  have := World.ownsRow.cells h (g := g) rfl i (.int .u8 xs[i]) (by simp [hi])
  have hadd : (⟨g, 0, none⟩ : Addr).add i = ⟨g, i, none⟩ := by unfold Addr.add; split <;> simp_all
  rw [hadd] at this
  rw [this]; simp [List.getD_eq_getElem?_getD, List.getElem?_eq_getElem hi]
/-- 'string(b)'. -/
theorem conv_y {w : World} {B g c : Nat} {xs : List Int} (h : OwnY w B (.slice (some ⟨g, 0, none⟩) xs.length c) xs) : (convert 22 9 (.slice (some ⟨g, 0, none⟩) xs.length c)).run Try.prog w = .ok (.string (strOfNums xs)) w :=
  run_convert_bytes_arg w 22 5 Try.underlying22 Try.underlying5 g 0 xs.length c xs rfl (fun i hi => by rw [Nat.zero_add]; exact h.cellsY i hi) 9 Try.underlying9

/-! The check number. -/
def chkStep (n : Int) (b : UInt8) : Int := (967 * n + b.toNat + 227) % 65003
def chk (n : Int) (s : ByteArray) : Int := s.data.toList.foldl chkStep n
def chkTo (n : Int) (s : ByteArray) (k : Nat) : Int := (s.data.toList.take k).foldl chkStep n
theorem chkTo_succ (n : Int) (s : ByteArray) (k : Nat) (h : k < s.size) : chkTo n s (k + 1) = chkStep (chkTo n s k) s[k] := by
  unfold chkTo
  rw [List.take_succ_eq_append_getElem (by simpa using h), List.foldl_append]
  rfl
theorem chkTo_full (n : Int) (s : ByteArray) : chkTo n s s.size = chk n s := by
  unfold chkTo chk; rw [List.take_of_length_le (by simp)]
theorem chkStep_win {n : Int} (h0 : 0 ≤ n) (h1 : n ≤ 65002) (b : UInt8) : 0 ≤ chkStep n b ∧ chkStep n b ≤ 65002 := by
  unfold chkStep
  have hb := b.toNat_lt
  have h2 : 0 ≤ 967 * n + (b.toNat : Int) + 227 := by omega
  have := Int.emod_nonneg (967 * n + (b.toNat : Int) + 227) (show (65003 : Int) ≠ 0 by decide)
  have := Int.emod_lt_of_pos (967 * n + (b.toNat : Int) + 227) (show (0 : Int) < 65003 by decide)
  omega
theorem chkTo_win {n : Int} (h0 : 0 ≤ n) (h1 : n ≤ 65002) (s : ByteArray) : ∀ k, k ≤ s.size → 0 ≤ chkTo n s k ∧ chkTo n s k ≤ 65002 := by
  intro k
  induction k with
  | zero => intro _; exact ⟨h0, h1⟩
  | succ k ih =>
    intro hk
    rw [chkTo_succ n s k (by omega)]
    exact chkStep_win (ih (by omega)).1 (ih (by omega)).2 _
theorem chk_win {n : Int} (h0 : 0 ≤ n) (h1 : n ≤ 65002) (s : ByteArray) : 0 ≤ chk n s ∧ chk n s ≤ 65002 := by
  rw [← chkTo_full]; exact chkTo_win h0 h1 s _ (Nat.le_refl _)

end Go.Proofs.Ytcjeededlhdcbaa

namespace Go.Proofs.Ytcjeededlhdcbaa
open Go.RowKit
set_option linter.unusedVariables false
set_option linter.unusedSimpArgs false

def isLow (c : UInt8) : Bool := decide (97 ≤ (c.toNat : Int)) && decide ((c.toNat : Int) ≤ 122)
def nameOk (s : ByteArray) : Bool := s.data.toList.all isLow && decide (1 ≤ s.size) && decide (s.size ≤ 8)
theorem all_take_succ (s : ByteArray) (k : Nat) (h : k < s.size) : (s.data.toList.take (k + 1)).all isLow = ((s.data.toList.take k).all isLow && isLow s[k]) := by
  rw [List.take_succ_eq_append_getElem (by simpa using h), List.all_append]
  simp
  rfl
theorem all_bad (s : ByteArray) (k : Nat) (h : k < s.size) (hb : isLow s[k] = false) : s.data.toList.all isLow = false := by
  rw [List.all_eq_false]
  exact ⟨s[k], by
    have : s[k] = s.data.toList[k]'(by simpa using h) := by simp; rfl
    rw [this]; exact List.getElem_mem _, by rw [hb]; simp⟩
theorem all_full (s : ByteArray) : s.data.toList.take s.size = s.data.toList := List.take_of_length_le (by simp)

end Go.Proofs.Ytcjeededlhdcbaa

namespace Go.Proofs.Ytcjeededlhdcbaa
open Go.RowKit
set_option linter.unusedVariables false
set_option linter.unusedSimpArgs false

theorem OwnI.slR {w : World} {B : Nat} {v : Value} {xs : List Int} (h : OwnI w B v xs) (hw : ∀ n ∈ xs, (Lit.int .i64 n).wf = true) : SlR rInt w v xs := SlR.of_ints h.ints hw

end Go.Proofs.Ytcjeededlhdcbaa

namespace Go.Proofs.Ytcjeededlhdcbaa
open Go.RowKit
set_option linter.unusedVariables false
set_option linter.unusedSimpArgs false

theorem info_task : (Try.prog.info? 40).map (fun i => (i.zero, i.size, i.bytes)) = some (some (.agg #[.int .i64 0, .int .i64 0, .slice none 0 0, .slice none 0 0]), 4, 64) := by kernel_rfl

end Go.Proofs.Ytcjeededlhdcbaa

namespace Go.Proofs.Ytcjeededlhdcbaa
open Go.RowKit
set_option linter.unusedVariables false
set_option linter.unusedSimpArgs false

abbrev Sv := ByteArray × List Tk × List Int
def rSaved : Rdr Sv := rPair rStr (rPair (rSl rTask) (rSl rInt))
theorem saved_cells {w : World} {cs : List Value} {x : Sv} : rSaved.R w cs x ↔ ∃ vt vs, cs = [.string x.1, vt, vs] ∧ x.1.size ≤ maxLen ∧ TasksR w vt x.2.1 ∧ SlR rInt w vs x.2.2 := by
  constructor
  · rintro ⟨c1, c2, rfl, ⟨rfl, h1⟩, c3, c4, rfl, ⟨vt, rfl, h2⟩, vs, rfl, h3⟩
    exact ⟨vt, vs, rfl, h1, h2, h3⟩
  · rintro ⟨vt, vs, rfl, h1, h2, h3⟩
    exact ⟨_, _, rfl, ⟨rfl, h1⟩, _, _, rfl, ⟨vt, rfl, h2⟩, vs, rfl, h3⟩
def smallSaved (x : Sv) : Prop := x.1.size ≤ 1048576 ∧ smallTasks x.2.1 ∧ x.2.2.length ≤ 1048576
def savedV (s : ByteArray) (vt vs : Value) : Value := .agg #[.string s, vt, vs]

end Go.Proofs.Ytcjeededlhdcbaa

namespace Go.Proofs.Ytcjeededlhdcbaa
open Go.RowKit Go.BigFrame
set_option linter.unusedVariables false
set_option linter.unusedSimpArgs false
attribute [local go_sem] Oper.semAt_some

set_option maxRecDepth 100000 in
set_option maxHeartbeats 1000000 in
theorem l03Are_any (v : Value) (xs : List Tk) (w : World) (hv : TasksR w v xs) (hl : xs.length ≤ 1048576) : Calls Try.prog 120 #[v] w fun e w' => e = .returned (.bool (tasksOk xs)) ∧ ∃ q, w' = w.drewN q := by
  have HV := Lib.hid hv
  obtain ⟨a, c, rfl, hcap, _⟩ := hv.at_
  clear hv
  go_enter Try.func120, Try.ntmps120
  go_wp2
  go_loopw [6] (fun vi wr => ∃ i : Nat, i ≤ xs.length ∧ vi = .int .i64 i ∧ Hid (∃ q, wr = w.drewN q) ∧ Hid (∀ j (hj : j < xs.length), j < i → taskOk j xs[j] = true)) (fun vi _ => xs.length - (intOf vi).toNat)
  case atStart => exact ⟨0, Nat.zero_le _, rfl, ⟨0, rfl⟩, fun j hj h => by omega⟩
  case round =>
    obtain ⟨i, hi, rfl, hq, hok⟩ := hrel
    obtain ⟨wr', rfl⟩ : ∃ wr' : World, wr' = wr := ⟨_, rfl⟩
    by_cases hlt : i < xs.length
    · have hVr : TasksR wr' (.slice a xs.length c) xs := by obtain ⟨q, rfl⟩ := hq.out; exact HV.out.below (below_drewN q (Below.refl _ _)) (Nat.le_refl _)
      obtain ⟨a3, c3, hsl3, _, hc⟩ := hVr.at_
      obtain ⟨rfl, rfl⟩ : a = a3 ∧ c = c3 := by simpa using hsl3
      obtain ⟨b, o, vb, vl, rfl, hbs, h1, h2, y0, y1, e0, e1, e2, e3⟩ := hc i hlt
      have hcall := l03Task_any i b (o + i * 4) xs[i] vb vl wr' (by omega) e0 e1 e2 e3 h1.ints.1 h2.ints.1
      have HBAD : Hid (taskOk i xs[i] = false → tasksOk xs = false) := fun h => tasksOk_bad hlt h
      obtain ⟨ok, hokk⟩ : ∃ ok, taskOk (i : Int) xs[i] = ok := ⟨_, rfl⟩
      rw [hokk] at hcall HBAD
      have HC := Lib.hid hcall
      have HOKK := Lib.hid hokk
      have HWQ : Hid (∀ q, ∃ q', wr'.drewN q = w.drewN q') := fun q => by obtain ⟨q0, rfl⟩ := hq.out; exact ⟨q0 + q, by simp⟩
      have k0 : (0 : Int) ≤ (i : Int) := by omega
      have k1 : (i : Int) < (xs.length : Int) := by omega
      clear hcall hokk hc hsl3 h1 h2 y0 y1 e0 e1 e2 e3 hVr hq
      cases ok
      · have HF := Lib.hid (HBAD.out rfl)
        go_wp2_with (go_at_call 154; refine HC.out.mono ?_; rintro e w' ⟨rfl, q, rfl⟩)
        go_ret
        exact ⟨ret_bool HF.out.symm, HWQ.out _⟩
      · go_wp2_with (go_at_call 154; refine HC.out.mono ?_; rintro e w' ⟨rfl, q, rfl⟩)
        go_roundw
        case rel =>
          refine ⟨i + 1, by omega, by go_num, HWQ.out _, fun j hj h => ?_⟩
          rcases Nat.lt_succ_iff_lt_or_eq.1 h with h | rfl
          · exact hok.out j hj h
          · exact HOKK.out
        case measure => simp [intOf]; omega
    · have HE := Lib.hid (tasksOk_end (xs := xs) (fun j hj => hok.out j hj (by omega)))
      have HQ := Lib.hid hq.out
      clear hok hq
      by_cases h1 : 1 ≤ xs.length
      · by_cases h2 : xs.length ≤ 16
        · go_wp2
          go_ret
          exact ⟨ret_bool (by rw [HE.out]; simp [h1]; omega), HQ.out⟩
        · go_wp2
          go_ret
          exact ⟨ret_bool (by rw [HE.out]; simp [h1]; omega), HQ.out⟩
      · have hd : decide ((1 : Int) ≤ (xs.length : Int)) = false := by simp; omega
        go_wp2
        go_ret
        exact ⟨ret_bool (by rw [HE.out]; simp [h1]), HQ.out⟩

def startsOk (ts : List Tk) (st : List Int) : Bool := many st (ts.length : Int) (ts.length : Int) 0 65535
def savedOk (x : Sv) : Bool := nameOk x.1 && tasksOk x.2.1 && startsOk x.2.1 x.2.2
end Go.Proofs.Ytcjeededlhdcbaa

namespace Go.Proofs.Ytcjeededlhdcbaa
open Go.RowKit Go.BigFrame
set_option linter.unusedVariables false
set_option linter.unusedSimpArgs false

theorem quiet_drew {P : Program} {f : FuncId} {args : Array Value} {w : World} {n : Nat} {v : Value}
    (h : Calls P f args (w.drewN n) fun e w' => e = .returned v ∧ ∃ q, w' = (w.drewN n).drewN q) : Calls P f args (w.drewN n) fun e w'' => e = .returned v ∧ ∃ m, w'' = w.drewN m :=
  h.mono fun _ _ ⟨he, q, hq⟩ => ⟨he, n + q, by rw [hq]; simp⟩

theorem startsOk_eq {ts : List Tk} {st : List Int} (h : st.length = ts.length) : startsOk ts st = st.all fun n => win n 0 65535 := by
  unfold startsOk many; simp [h]
theorem startsOk_len {ts : List Tk} {st : List Int} (h : st.length ≠ ts.length) : startsOk ts st = false := by
  unfold startsOk many
  by_cases h1 : (ts.length : Int) ≤ st.length
  · have : ¬ (st.length : Int) ≤ ts.length := by omega
    simp [this]
  · simp [h1]
theorem startsOk_bad {ts : List Tk} {st : List Int} {i : Nat} (h : st.length = ts.length) (hi : i < st.length) (hb : win (nth st i) 0 65535 = false) : startsOk ts st = false := by
  rw [startsOk_eq h, List.all_eq_false]
  exact ⟨st[i], List.getElem_mem _, by rw [← nth_eq hi, hb]; simp⟩
theorem startsOk_end {ts : List Tk} {st : List Int} (h : st.length = ts.length) (hb : ∀ i, i < st.length → win (nth st i) 0 65535 = true) : startsOk ts st = true := by
  rw [startsOk_eq h, List.all_eq_true]
  intro n hn
  obtain ⟨i, hi, rfl⟩ := List.mem_iff_getElem.1 hn
  rw [← nth_eq hi]; exact hb i hi

end Go.Proofs.Ytcjeededlhdcbaa

namespace Go.Proofs.Ytcjeededlhdcbaa
open Go.RowKit
set_option linter.unusedVariables false
set_option linter.unusedSimpArgs false

def pairTo (bs ls : List Int) (m : Nat) : List Int := (List.range m).flatMap fun k => [nth bs k % 256, (nth ls k + 100) % 256]
theorem pairTo_succ (bs ls : List Int) (m : Nat) : pairTo bs ls (m + 1) = pairTo bs ls m ++ [nth bs m % 256, (nth ls m + 100) % 256] := by
  unfold pairTo; rw [List.range_succ, List.flatMap_append]; simp
theorem pairTo_len (bs ls : List Int) : ∀ m, (pairTo bs ls m).length = 2 * m := by
  intro m
  induction m with
  | zero => rfl
  | succ m ih => rw [pairTo_succ, List.length_append, ih]; simp; omega
def taskH (x : Tk) : List Int := [x.1 % 256, x.2.1 % 256, (x.2.2.1.length : Int) % 256]
def taskB (x : Tk) : List Int := taskH x ++ pairTo x.2.2.1 x.2.2.2 x.2.2.1.length
def tasksB (ts : List Tk) (i : Nat) : List Int := (ts.take i).flatMap taskB
theorem tasksB_succ (ts : List Tk) (i : Nat) (h : i < ts.length) : tasksB ts (i + 1) = tasksB ts i ++ taskB ts[i] := by
  unfold tasksB; rw [List.take_succ_eq_append_getElem h, List.flatMap_append]; simp
theorem taskB_len (x : Tk) : (taskB x).length = 3 + 2 * x.2.2.1.length := by
  unfold taskB taskH; rw [List.length_append, pairTo_len]; simp
theorem tasksB_len {ts : List Tk} (h : ∀ x ∈ ts, x.2.2.1.length ≤ 1048576) : ∀ i, i ≤ ts.length → (tasksB ts i).length ≤ i * 2097155 := by
  intro i
  induction i with
  | zero => intro _; simp [tasksB]
  | succ i ih =>
    intro hi
    rw [tasksB_succ ts i (by omega), List.length_append, taskB_len]
    have h1 := ih (by omega)
    have h2 := h _ (List.getElem_mem (show i < ts.length by omega))
    omega
def startsB (st : List Int) (i : Nat) : List Int := (List.range i).flatMap fun k => [nth st k % 256, nth st k / 256]
theorem startsB_succ (st : List Int) (i : Nat) : startsB st (i + 1) = startsB st i ++ [nth st i % 256, nth st i / 256] := by
  unfold startsB; rw [List.range_succ, List.flatMap_append]; simp
theorem startsB_len (st : List Int) : ∀ i, (startsB st i).length = 2 * i := by
  intro m
  induction m with
  | zero => rfl
  | succ m ih => rw [startsB_succ, List.length_append, ih]; simp; omega
def head1 (s : ByteArray) : List Int := [80, 76, 78, 49, (s.size : Int)]
def headB (s : ByteArray) (n : Nat) : List Int := head1 s ++ chs s ++ [(n : Int)]
theorem headB_len (s : ByteArray) (n : Nat) : (headB s n).length = s.size + 6 := by unfold headB head1; simp [chs_length]; try omega
def bodyB (x : Sv) : List Int := headB x.1 x.2.1.length ++ tasksB x.2.1 x.2.1.length ++ startsB x.2.2 x.2.2.length
def storeB (x : Sv) : List Int := bodyB x ++ [chk 0 (strOfNums (bodyB x)) % 256, chk 0 (strOfNums (bodyB x)) / 256]
def storeS (x : Sv) : ByteArray := strOfNums (storeB x)
/-- What is known of a valid plan. -/
theorem saved_bounds {s : ByteArray} {ts : List Tk} {st : List Int} (h : savedOk (s, ts, st) = true) : s.size ≤ 8 ∧ 1 ≤ ts.length ∧ ts.length ≤ 16 ∧ st.length = ts.length ∧ (∀ i (hi : i < ts.length), ts[i].2.2.1.length = ts[i].2.2.2.length ∧ ∀ k, k < ts[i].2.2.2.length → -100 ≤ nth ts[i].2.2.2 k ∧ nth ts[i].2.2.2 k ≤ 100) ∧ ∀ i, i < st.length → 0 ≤ nth st i ∧ nth st i ≤ 65535 := by
  unfold savedOk at h
  simp only [Bool.and_eq_true] at h
  obtain ⟨⟨h1, h2⟩, h3⟩ := h
  unfold nameOk at h1
  simp only [Bool.and_eq_true, decide_eq_true_eq] at h1
  have h2' := h2
  unfold tasksOk at h2'
  simp only [Bool.and_eq_true, decide_eq_true_eq, List.all_eq_true, List.mem_range] at h2'
  obtain ⟨m1, m2, m3⟩ := many_true.1 h3
  refine ⟨h1.2, h2'.1.2, h2'.2, by omega, fun i hi => ?_, fun i hi => ?_⟩
  · have := h2'.1.1 i hi
    rw [tkAt_eq hi] at this
    unfold taskOk taskHead at this
    simp only [Bool.and_eq_true, decide_eq_true_eq] at this
    refine ⟨this.1.1.2, fun k hk => ?_⟩
    have h4 := this.1.2
    unfold lagsOk at h4
    rw [nth_eq hk]
    exact win_true.1 (List.all_eq_true.1 h4 _ (List.getElem_mem hk))
  · rw [nth_eq hi]
    exact win_true.1 (List.all_eq_true.1 m3 _ (List.getElem_mem hi))
theorem saved_name1 {s : ByteArray} {ts : List Tk} {st : List Int} (h : savedOk (s, ts, st) = true) : 1 ≤ s.size := by
  unfold savedOk at h
  simp only [Bool.and_eq_true] at h
  obtain ⟨⟨h1, h2⟩, h3⟩ := h
  unfold nameOk at h1
  simp only [Bool.and_eq_true, decide_eq_true_eq] at h1
  exact h1.1.2
end Go.Proofs.Ytcjeededlhdcbaa
