/- Jobs that can stop and go on end no later than whole ones: by due times (the greatest lateness), by the time left (the sum of ends). Plain law, part 3. Conditions: times are at least 1, releases at least 0. With texts that it needs. -/
import Derived.Test.YtcopjdhnmkfkfaaBestAll5
import Derived.Test.YtcopjdhnmkfkfaaBestAll6
namespace Go.Proofs.Ytcopjdhnmkfkfaa
open Go.RowKit
set_option linter.unusedVariables false
set_option linter.unusedSimpArgs false

/-- A list of numbers, as bits. -/
def inM (done : Nat) (n : Nat) : Nat → Bool := fun i => done.testBit i && decide (i < n)
/-- The time of those that are done. -/
def doneT (js : List Jb) (done : Nat) : Nat → Int
  | 0 => 0
  | i + 1 => doneT js done i + if done.testBit i then tmJ js i else 0
theorem doneT_nn {js : List Jb} (h : ∀ i, 0 ≤ tmJ js i) (done : Nat) : ∀ k, 0 ≤ doneT js done k
  | 0 => Int.le_refl _
  | k + 1 => by
    have := doneT_nn h done k
    have := h k
    unfold doneT
    split <;> omega
theorem testBit_or_shift (done i j : Nat) : (done ||| 1 <<< i).testBit j = (done.testBit j || decide (i = j)) := by
  rw [Nat.testBit_or, Nat.one_shiftLeft, Nat.testBit_two_pow]
theorem doneT_or {js : List Jb} {done i : Nat} (hi : done.testBit i = false) : ∀ k, doneT js (done ||| 1 <<< i) k = doneT js done k + if i < k then tmJ js i else 0
  | 0 => rfl
  | k + 1 => by
    unfold doneT
    rw [doneT_or hi k, testBit_or_shift]
    by_cases e : i = k
    · subst e
      rw [hi, if_neg (show ¬ i < i by omega), if_pos (show (false || decide (i = i)) = true by simp), if_neg (show ¬ (false = true) by simp), if_pos (show i < i + 1 by omega)]
      try omega
    · rw [show (done.testBit k || decide (i = k)) = done.testBit k by simp [e]]
      by_cases q : i < k
      · rw [if_pos q, if_pos (show i < k + 1 by omega)]; omega
      · rw [if_neg q, if_neg (show ¬ i < k + 1 by omega)]; omega
/-- The jobs that are left, in some order. -/
structure CompQ (n done : Nat) (q : List Int) : Prop where
  nodup : q.Pairwise fun x y => x ≠ y
  mem : ∀ i : Nat, i < n → ((i : Int) ∈ q ↔ done.testBit i = false)
  lt : ∀ x ∈ q, 0 ≤ x ∧ x < (n : Int)
theorem CompQ.cons {n done i : Nat} {q : List Int} (h : CompQ n (done ||| 1 <<< i) q) (hi : i < n) (hd : done.testBit i = false) : CompQ n done ((i : Int) :: q) := by
  refine ⟨List.pairwise_cons.2 ⟨fun y hy e => ?_, h.nodup⟩, fun j hj => ?_, fun x hx => ?_⟩
  · subst e
    have := (h.mem i hi).1 hy
    rw [testBit_or_shift] at this
    simp at this
  · rw [List.mem_cons, h.mem j hj, testBit_or_shift]
    constructor
    · rintro (e | e)
      · rw [show j = i by omega]; exact hd
      · simp at e; exact e.1
    · intro e
      by_cases q' : i = j
      · left; omega
      · right; simp [e, q']
  · rcases List.mem_cons.1 hx with e | e
    · omega
    · exact h.lt x e
theorem CompQ.tail {n done : Nat} {x : Int} {q : List Int} (h : CompQ n done (x :: q)) : ∃ i : Nat, x = i ∧ i < n ∧ done.testBit i = false ∧ CompQ n (done ||| 1 <<< i) q := by
  have hx := h.lt x List.mem_cons_self
  obtain ⟨i, rfl⟩ : ∃ i : Nat, x = i := ⟨x.toNat, by omega⟩
  have hp := List.pairwise_cons.1 h.nodup
  refine ⟨i, rfl, by omega, (h.mem i (by omega)).1 List.mem_cons_self, hp.2, fun j hj => ?_, fun y hy => h.lt y (List.mem_cons_of_mem _ hy)⟩
  have h1 := h.mem j hj
  rw [List.mem_cons] at h1
  rw [testBit_or_shift]
  constructor
  · intro e
    have h2 := h1.1 (.inr e)
    have h3 : i ≠ j := fun e2 => by subst e2; exact hp.1 _ e rfl
    simp [h2, h3]
  · intro e
    simp at e
    rcases h1.2 e.1 with h2 | h2
    · omega
    · exact h2
/-- The cost of a list of jobs that begin at t. -/
def seqV (kind : Int) (js : List Jb) (t : Int) (q : List Int) : Int := (seqO kind js none t q).getD 0
/-- x is the least cost of those that are left. -/
structure LeastM (kind : Int) (js : List Jb) (done : Nat) (x : Int) : Prop where
  low : ∀ q, CompQ js.length done q → q ≠ [] → x ≤ seqV kind js (doneT js done js.length) q
  has : ∃ q, CompQ js.length done q ∧ q ≠ [] ∧ seqV kind js (doneT js done js.length) q = x
structure FreeJ (js : List Jb) : Prop where
  time : ∀ i, 0 ≤ tmJ js i
  rel : ∀ i, rlJ js i = 0
theorem FreeJ.nn {js : List Jb} (h : FreeJ js) (done k : Nat) : 0 ≤ doneT js done k := doneT_nn h.time done k
/-- What job i puts to the cost next. -/
def nextS (kind : Int) (js : List Jb) (done i : Nat) : Int := shareB kind (jbN js i) (doneT js done js.length + tmJ js i)
theorem seqV_cons {kind : Int} {js : List Jb} {done i : Nat} {q : List Int} (h : FreeJ js) (hi : i < js.length) (hd : done.testBit i = false) :
    seqO kind js none (doneT js done js.length) ((i : Int) :: q) = seqO kind js (some (nextS kind js done i)) (doneT js (done ||| 1 <<< i) js.length) q := by
  conv => lhs; unfold seqO
  rw [Int.toNat_natCast, h.rel i]
  have h1 := h.nn done js.length
  have h2 : max (doneT js done js.length) 0 + tmJ js i = doneT js done js.length + tmJ js i := by omega
  rw [h2, doneT_or hd, if_pos hi]
  rfl
theorem seqV_last {kind : Int} {js : List Jb} {done i : Nat} (h : FreeJ js) (hi : i < js.length) (hd : done.testBit i = false) : seqV kind js (doneT js done js.length) [(i : Int)] = nextS kind js done i := by
  unfold seqV; rw [seqV_cons h hi hd]; rfl
theorem seqV_more {kind : Int} {js : List Jb} {done i : Nat} {q : List Int} (h : FreeJ js) (hi : i < js.length) (hd : done.testBit i = false) (hq : q ≠ []) :
    seqV kind js (doneT js done js.length) ((i : Int) :: q) = bothB (isGr kind) (nextS kind js done i) (seqV kind js (doneT js (done ||| 1 <<< i) js.length) q) := by
  unfold seqV
  rw [seqV_cons h hi hd]
  obtain ⟨h1, h2⟩ := seqO_some kind js q 0 (nextS kind js done i) (doneT js (done ||| 1 <<< i) js.length)
  obtain ⟨c, hc⟩ := h2 hq
  rw [h1, hc]; rfl
/-- All bits below n. -/
def fullM (n done : Nat) : Prop := ∀ i, i < n → done.testBit i = true
theorem comp_nil {n done : Nat} {q : List Int} (h : CompQ n done q) (hf : fullM n done) : q = [] := by
  cases q with
  | nil => rfl
  | cons x q =>
    obtain ⟨i, rfl, hi, hd, _⟩ := h.tail
    rw [hf i hi] at hd; cases hd
theorem comp_more {n done : Nat} {q : List Int} (h : CompQ n done q) {i : Nat} (hi : i < n) (hd : done.testBit i = false) : q ≠ [] := fun e => by
  have := (h.mem i hi).2 hd
  rw [e] at this; cases this
/-- What job i next, and the best of what is left, cost. -/
def wayC (kind : Int) (js : List Jb) (rest : Nat → Int) (full : Nat) (done i : Nat) : Int :=
  if done ||| 1 <<< i = full then nextS kind js done i else bothB (isGr kind) (nextS kind js done i) (rest (done ||| 1 <<< i))
/-- The least of the first k jobs that are left. -/
def bestTo (kind : Int) (js : List Jb) (rest : Nat → Int) (full done : Nat) : Nat → Option Int
  | 0 => none
  | i + 1 => if done.testBit i then bestTo kind js rest full done i else
      match bestTo kind js rest full done i with
      | none => some (wayC kind js rest full done i)
      | some b => if wayC kind js rest full done i < b then some (wayC kind js rest full done i) else some b
theorem bestTo_spec (kind : Int) (js : List Jb) (rest : Nat → Int) (full done : Nat) : ∀ k, (bestTo kind js rest full done k = none → ∀ i, i < k → done.testBit i = true) ∧
    ∀ b, bestTo kind js rest full done k = some b → (∃ i, i < k ∧ done.testBit i = false ∧ wayC kind js rest full done i = b) ∧ ∀ i, i < k → done.testBit i = false → b ≤ wayC kind js rest full done i
  | 0 => ⟨fun _ i h => absurd h (Nat.not_lt_zero _), fun b h => by cases h⟩
  | k + 1 => by
    obtain ⟨h1, h2⟩ := bestTo_spec kind js rest full done k
    unfold bestTo
    cases hd : done.testBit k
    · rw [if_neg (by simp)]
      cases hb : bestTo kind js rest full done k with
      | none =>
        refine ⟨fun h => (by cases h), fun b h => ?_⟩
        injection h with h
        subst h
        refine ⟨⟨k, by omega, hd, rfl⟩, fun i hi hd' => ?_⟩
        by_cases e : i = k
        · subst e; exact Int.le_refl _
        · rw [h1 hb i (by omega)] at hd'; cases hd'
      | some b =>
        obtain ⟨⟨i0, a1, a2, a3⟩, a4⟩ := h2 b hb
        show ((if _ then _ else _) = none → _) ∧ _
        by_cases hw : wayC kind js rest full done k < b
        · simp only [hw, if_true]
          refine ⟨fun h => (by cases h), fun b' h => ?_⟩
          injection h with h
          subst h
          refine ⟨⟨k, by omega, hd, rfl⟩, fun i hi hd' => ?_⟩
          by_cases e : i = k
          · subst e; exact Int.le_refl _
          · have := a4 i (by omega) hd'; omega
        · simp only [hw, if_false]
          refine ⟨fun h => (by cases h), fun b' h => ?_⟩
          injection h with h
          subst h
          refine ⟨⟨i0, by omega, a2, a3⟩, fun i hi hd' => ?_⟩
          by_cases e : i = k
          · subst e; omega
          · exact a4 i (by omega) hd'
    · rw [if_pos rfl]
      refine ⟨fun h i hi => ?_, fun b h => ?_⟩
      · by_cases e : i = k
        · subst e; exact hd
        · exact h1 h i (by omega)
      · obtain ⟨⟨i0, a1, a2, a3⟩, a4⟩ := h2 b h
        refine ⟨⟨i0, by omega, a2, a3⟩, fun i hi hd' => ?_⟩
        by_cases e : i = k
        · subst e; rw [hd] at hd'; cases hd'
        · exact a4 i (by omega) hd'
theorem wayC_low {kind : Int} {js : List Jb} {rest : Nat → Int} {full done i : Nat} (h : FreeJ js) (hfull : ∀ d, d = full ↔ (fullM js.length d ∧ d < 2 ^ js.length)) (hi : i < js.length) (hd : done.testBit i = false) (hlt : done < 2 ^ js.length)
    (hr : done ||| 1 <<< i ≠ full → LeastM kind js (done ||| 1 <<< i) (rest (done ||| 1 <<< i))) : (∀ q, CompQ js.length (done ||| 1 <<< i) q → wayC kind js rest full done i ≤ seqV kind js (doneT js done js.length) ((i : Int) :: q)) ∧ ∃ q, CompQ js.length (done ||| 1 <<< i) q ∧ seqV kind js (doneT js done js.length) ((i : Int) :: q) = wayC kind js rest full done i := by
  have hlt2 : done ||| 1 <<< i < 2 ^ js.length := by
    apply Nat.or_lt_two_pow hlt
    rw [Nat.one_shiftLeft]
    exact Nat.pow_lt_pow_right (by omega) hi
  unfold wayC
  by_cases hf : done ||| 1 <<< i = full
  · have hfm := ((hfull _).1 hf).1
    rw [if_pos hf]
    refine ⟨fun q hq => ?_, [], ⟨List.Pairwise.nil, fun j hj => ?_, fun x hx => by simp at hx⟩, seqV_last h hi hd⟩
    · rw [comp_nil hq hfm, seqV_last h hi hd]; exact Int.le_refl _
    · rw [hfm j hj]; simp
  · rw [if_neg hf]
    have hL := hr hf
    have hne : ∀ q, CompQ js.length (done ||| 1 <<< i) q → q ≠ [] := fun q hq e => by
      apply hf
      rw [hfull]
      refine ⟨fun j hj => ?_, hlt2⟩
      cases ht : (done ||| 1 <<< i).testBit j
      · have := (hq.mem j hj).2 ht
        rw [e] at this; cases this
      · rfl
    refine ⟨fun q hq => ?_, ?_⟩
    · rw [seqV_more h hi hd (hne q hq)]
      exact bothB_mono (hL.low q hq (hne q hq))
    · obtain ⟨q, hq, hq1, hq2⟩ := hL.has
      exact ⟨q, hq, by rw [seqV_more h hi hd hq1, hq2]⟩
/-- One set more. -/
theorem leastM_step {kind : Int} {js : List Jb} {rest : Nat → Int} {full done : Nat} {b : Int} (h : FreeJ js) (hfull : ∀ d, d = full ↔ (fullM js.length d ∧ d < 2 ^ js.length)) (hlt : done < 2 ^ js.length)
    (hr : ∀ i, i < js.length → done.testBit i = false → done ||| 1 <<< i ≠ full → LeastM kind js (done ||| 1 <<< i) (rest (done ||| 1 <<< i))) (hb : bestTo kind js rest full done js.length = some b) : LeastM kind js done b := by
  obtain ⟨⟨i0, a1, a2, a3⟩, a4⟩ := (bestTo_spec kind js rest full done js.length).2 b hb
  refine ⟨fun q hq hne => ?_, ?_⟩
  · cases q with
    | nil => exact absurd rfl hne
    | cons x q =>
      obtain ⟨i, rfl, hi, hd, hq'⟩ := hq.tail
      exact Int.le_trans (a4 i hi hd) ((wayC_low h hfull hi hd hlt (hr i hi hd)).1 q hq')
  · obtain ⟨q, hq, hq2⟩ := (wayC_low h hfull a1 a2 hlt (hr i0 a1 a2)).2
    exact ⟨(i0 : Int) :: q, hq.cons a1 a2, by simp, by rw [hq2, a3]⟩
end Go.Proofs.Ytcopjdhnmkfkfaa

namespace Go.Proofs.Ytcopjdhnmkfkfaa
open Go.RowKit
set_option linter.unusedVariables false
set_option linter.unusedSimpArgs false

def maskL (p : List Int) : Nat := p.foldl (fun a x => a ||| 1 <<< x.toNat) 0
theorem maskL_push (p : List Int) (i : Nat) : maskL (p ++ [(i : Int)]) = maskL p ||| 1 <<< i := by unfold maskL; rw [List.foldl_append]; rfl
theorem maskL_from : ∀ (p : List Int) (a j : Nat), (∀ x ∈ p, 0 ≤ x) → (p.foldl (fun a x => a ||| 1 <<< x.toNat) a).testBit j = (a.testBit j || p.contains (j : Int))
  | [], a, j, _ => by simp
  | x :: p, a, j, h => by
    rw [List.foldl_cons, maskL_from p _ j (fun y hy => h y (List.mem_cons_of_mem _ hy)), testBit_or_shift, List.contains_cons, Bool.or_assoc]
    have hx := h x List.mem_cons_self
    congr 1
    congr 1
    rw [Bool.eq_iff_iff, decide_eq_true_eq, beq_iff_eq]
    omega
theorem maskL_bit {p : List Int} (h : ∀ x ∈ p, 0 ≤ x) (j : Nat) : (maskL p).testBit j = p.contains (j : Int) := by
  unfold maskL; rw [maskL_from p 0 j h]; simp
theorem PreOk.nn {n : Nat} {p : List Int} (h : PreOk n p) : ∀ x ∈ p, 0 ≤ x := fun x hx => (h.lt x hx).1
theorem maskL_lt {n : Nat} {p : List Int} (h : PreOk n p) : maskL p < 2 ^ n := by
  refine Nat.lt_pow_two_of_testBit _ fun i hi => ?_
  rw [maskL_bit h.nn]
  cases hc : p.contains (i : Int)
  · rfl
  · have := h.lt _ (List.contains_iff_mem.1 hc); omega
/-- What completes p. -/
theorem comp_perm {n d : Nat} {p E : List Int} (hp : PreOk n p) (hd : p.length + d = n) : E ∈ permL n d p ↔ ∃ q, E = p ++ q ∧ CompQ n (maskL p) q := by
  constructor
  · intro h
    obtain ⟨q, rfl, hq⟩ := permL_pre h
    have hok := permL_ok hp h
    have hE := hok.perm (by rw [List.length_append]; omega)
    refine ⟨q, rfl, (List.pairwise_append.1 hok.nodup).2.1, fun i hi => ?_, fun x hx => hok.lt x (List.mem_append_right _ hx)⟩
    rw [maskL_bit hp.nn]
    have hin : (i : Int) ∈ p ++ q := hE.mem_iff.2 (idL_mem.2 (by omega))
    constructor
    · intro h1
      cases hc : p.contains (i : Int)
      · rfl
      · exact absurd rfl ((List.pairwise_append.1 hok.nodup).2.2 _ (List.contains_iff_mem.1 hc) _ h1)
    · intro h1
      rcases List.mem_append.1 hin with h2 | h2
      · rw [List.contains_iff_mem.2 h2] at h1; cases h1
      · exact h2
  · rintro ⟨q, rfl, hq⟩
    have hok : PreOk n (p ++ q) := by
      refine ⟨List.pairwise_append.2 ⟨hp.nodup, hq.nodup, fun x hx y hy e => ?_⟩, fun x hx => ?_⟩
      · subst e
        have h1 := hp.lt x hx
        obtain ⟨i, rfl⟩ : ∃ i : Nat, x = i := ⟨x.toNat, by omega⟩
        have h2 := (hq.mem i (by omega)).1 hy
        rw [maskL_bit hp.nn, List.contains_iff_mem.2 hx] at h2
        cases h2
      · rcases List.mem_append.1 hx with h1 | h1
        · exact hp.lt x h1
        · exact hq.lt x h1
    have hl : q.length = d := by
      have h1 := hok.len
      have h2 := subQ_len (idL n) (p ++ q) (idQ_nodup n) (fun x hx => by
        have hx := idL_mem.1 hx
        obtain ⟨i, rfl⟩ : ∃ i : Nat, x = i := ⟨x.toNat, by omega⟩
        cases hc : p.contains (i : Int)
        · exact List.mem_append_right _ ((hq.mem i (by omega)).2 (by rw [maskL_bit hp.nn]; exact hc))
        · exact List.mem_append_left _ (List.contains_iff_mem.1 hc))
      rw [idL_length] at h2
      rw [List.length_append] at h1 h2
      omega
    have := mem_permL q p hok
    rwa [hl] at this
/-- The time behind p. -/
def timeL (js : List Jb) (p : List Int) (t : Int) : Int := p.foldl (fun a x => max a (rlJ js x.toNat) + tmJ js x.toNat) t
theorem seqO_append (kind : Int) (js : List Jb) : ∀ (p q : List Int) (z : Option Int) (t : Int), seqO kind js z t (p ++ q) = seqO kind js (seqO kind js z t p) (timeL js p t) q
  | [], q, z, t => rfl
  | x :: p, q, z, t => by
    rw [List.cons_append]
    show seqO kind js (obB (isGr kind) z (shareB kind (jbN js x.toNat) (max t (rlJ js x.toNat) + tmJ js x.toNat))) (max t (rlJ js x.toNat) + tmJ js x.toNat) (p ++ q) = _
    exact seqO_append kind js p q _ _
theorem timeL_done {js : List Jb} (h : FreeJ js) {p : List Int} (hp : PreOk js.length p) : timeL js p 0 = doneT js (maskL p) js.length := by
  have H : ∀ k, k ≤ p.length → timeL js (p.take k) 0 = doneT js (maskL (p.take k)) js.length := by
    intro k
    induction k with
    | zero =>
      intro _
      rw [List.take_zero]
      show (0 : Int) = doneT js 0 js.length
      have : ∀ m, doneT js 0 m = 0 := fun m => by
        induction m with
        | zero => rfl
        | succ m ih => unfold doneT; rw [ih, Nat.zero_testBit, if_neg (by simp)]; rfl
      rw [this]
    | succ k ih =>
      intro hk
      have h1 := ih (by omega)
      have hx := hp.lt (p[k]'(by omega)) (List.getElem_mem _)
      obtain ⟨i, hi⟩ : ∃ i : Nat, p[k]'(by omega) = i := ⟨(p[k]'(by omega)).toNat, by omega⟩
      rw [List.take_succ_eq_append_getElem (by omega), hi, maskL_push]
      have hnot : (maskL (p.take k)).testBit i = false := by
        rw [maskL_bit (fun x hx => hp.nn x (List.mem_of_mem_take hx))]
        cases hc : (p.take k).contains (i : Int)
        · rfl
        · obtain ⟨m, hm, he⟩ := List.getElem_of_mem (List.contains_iff_mem.1 hc)
          rw [List.length_take] at hm
          rw [List.getElem_take] at he
          exact absurd (he.trans hi.symm) (List.pairwise_iff_getElem.1 hp.nodup m k (by omega) (by omega) (by omega))
      rw [doneT_or hnot, if_pos (show i < js.length by omega)]
      unfold timeL at h1 ⊢
      rw [List.foldl_append, h1]
      show max _ (rlJ js (i : Int).toNat) + tmJ js (i : Int).toNat = _
      rw [Int.toNat_natCast, h.rel i]
      have := h.nn (maskL (p.take k)) js.length
      omega
  have := H p.length (Nat.le_refl _)
  rwa [List.take_length] at this
/-- What is known of the table: all costs of what is left are least ones. -/
structure RestOk (kind : Int) (js : List Jb) (rest : Nat → Int) (full : Nat) : Prop where
  free : FreeJ js
  fl : ∀ d, d = full ↔ (fullM js.length d ∧ d < 2 ^ js.length)
  least : ∀ d, d < 2 ^ js.length → d ≠ full → LeastM kind js d (rest d)
/-- What is reached with job i next. -/
def nextC (kind : Int) (js : List Jb) (p : List Int) (i : Nat) : Int := (obB (isGr kind) (seqO kind js none 0 p) (nextS kind js (maskL p) i)).getD 0
def allC (kind : Int) (js : List Jb) (rest : Nat → Int) (full : Nat) (p : List Int) (i : Nat) : Int :=
  if maskL p ||| 1 <<< i = full then nextC kind js p i else bothB (isGr kind) (nextC kind js p i) (rest (maskL p ||| 1 <<< i))
theorem obB_isSome (g : Bool) (z : Option Int) (x : Int) : ∃ c, obB g z x = some c := by cases z <;> exact ⟨_, rfl⟩
theorem allC_spec {kind : Int} {js : List Jb} {rest : Nat → Int} {full : Nat} (h : RestOk kind js rest full) {p : List Int} (hp : PreOk js.length p) {i d : Nat} (hi : i < js.length) (hc : p.contains (i : Int) = false) (hd : p.length + (d + 1) = js.length) :
    (∀ E ∈ permL js.length d (p ++ [(i : Int)]), ∀ c, seqO kind js none 0 E = some c → allC kind js rest full p i ≤ c) ∧ ∃ E ∈ permL js.length d (p ++ [(i : Int)]), seqO kind js none 0 E = some (allC kind js rest full p i) := by
  have hp2 := hp.push hi hc
  have hd2 : (p ++ [(i : Int)]).length + d = js.length := by rw [List.length_append, List.length_singleton]; omega
  have hbit : (maskL p).testBit i = false := by rw [maskL_bit hp.nn]; exact hc
  obtain ⟨c0, hc0⟩ := obB_isSome (isGr kind) (seqO kind js none 0 p) (nextS kind js (maskL p) i)
  have hnc : nextC kind js p i = c0 := by unfold nextC; rw [hc0]; rfl
  have hseq : ∀ q, seqO kind js none 0 (p ++ [(i : Int)] ++ q) = seqO kind js (some c0) (doneT js (maskL p ||| 1 <<< i) js.length) q := fun q => by
    have e1 : seqO kind js none 0 (p ++ [(i : Int)]) = some c0 := by
      rw [seqO_append]
      unfold seqO
      rw [Int.toNat_natCast, h.free.rel i, timeL_done h.free hp]
      have h1 := h.free.nn (maskL p) js.length
      rw [show max (doneT js (maskL p) js.length) 0 + tmJ js i = doneT js (maskL p) js.length + tmJ js i by omega]
      unfold seqO
      exact hc0
    rw [seqO_append, e1, timeL_done h.free hp2, maskL_push]
  have hlt : maskL p ||| 1 <<< i < 2 ^ js.length := by rw [← maskL_push]; exact maskL_lt hp2
  unfold allC
  rw [hnc]
  by_cases hf : maskL p ||| 1 <<< i = full
  · rw [if_pos hf]
    have hfm := ((h.fl _).1 hf).1
    have hE : ∀ E, E ∈ permL js.length d (p ++ [(i : Int)]) ↔ E = p ++ [(i : Int)] := fun E => by
      rw [comp_perm hp2 hd2, maskL_push]
      constructor
      · rintro ⟨q, rfl, hq⟩
        rw [comp_nil hq hfm, List.append_nil]
      · rintro rfl
        exact ⟨[], by simp, List.Pairwise.nil, fun j hj => by rw [hfm j hj]; simp, fun x hx => by simp at hx⟩
    have h1 := hseq []
    rw [List.append_nil] at h1
    refine ⟨fun E hE' c hcE => ?_, p ++ [(i : Int)], (hE _).2 rfl, h1⟩
    rw [(hE E).1 hE', h1] at hcE
    have h2 : some c0 = some c := hcE
    injection h2 with h2
    omega
  · rw [if_neg hf]
    have hL := h.least _ hlt hf
    have hne : ∀ q, CompQ js.length (maskL p ||| 1 <<< i) q → q ≠ [] := fun q hq e => by
      apply hf
      rw [h.fl]
      refine ⟨fun j hj => ?_, hlt⟩
      cases ht : (maskL p ||| 1 <<< i).testBit j
      · have := (hq.mem j hj).2 ht
        rw [e] at this; cases this
      · rfl
    have hval : ∀ q, q ≠ [] → seqO kind js (some c0) (doneT js (maskL p ||| 1 <<< i) js.length) q = some (bothB (isGr kind) c0 (seqV kind js (doneT js (maskL p ||| 1 <<< i) js.length) q)) := fun q hq => by
      obtain ⟨h1, h2⟩ := seqO_some kind js q 0 c0 (doneT js (maskL p ||| 1 <<< i) js.length)
      obtain ⟨c, hcq⟩ := h2 hq
      unfold seqV
      rw [h1, hcq]; rfl
    refine ⟨fun E hE c hcE => ?_, ?_⟩
    · obtain ⟨q, rfl, hq⟩ := (comp_perm hp2 hd2).1 hE
      rw [maskL_push] at hq
      rw [hseq, hval q (hne q hq)] at hcE
      injection hcE with hcE
      rw [← hcE]
      exact bothB_mono (hL.low q hq (hne q hq))
    · obtain ⟨q, hq, hq1, hq2⟩ := hL.has
      refine ⟨p ++ [(i : Int)] ++ q, (comp_perm hp2 hd2).2 ⟨q, rfl, by rw [maskL_push]; exact hq⟩, ?_⟩
      rw [hseq, hval q hq1, hq2]
/-- The first order that begins with p and costs m. -/
def firstEq (kind : Int) (js : List Jb) (m : Int) (d : Nat) (p : List Int) : Option (List Int) := (permL js.length d p).find? fun E => seqO kind js none 0 E == some m
/-- The first job with which m is reached. -/
structure PickI (kind : Int) (js : List Jb) (rest : Nat → Int) (full : Nat) (m : Int) (p : List Int) (i : Nat) : Prop where
  lt : i < js.length
  free : p.contains (i : Int) = false
  eq : allC kind js rest full p i = m
  first : ∀ j, j < i → p.contains (j : Int) = false → allC kind js rest full p j ≠ m
theorem find_range {β : Type} (f : Nat → Option β) (n i : Nat) (hi : i < n) (h1 : ∀ j, j < i → f j = none) (h2 : f i ≠ none) : (List.range n).findSome? f = f i := by
  have e : List.range n = List.range i ++ i :: (List.range (n - (i + 1))).map (fun j => j + (i + 1)) := by
    apply List.ext_getElem
    · simp; omega
    · intro k p1 p2
      simp only [List.getElem_range]
      rw [List.getElem_append]
      split
      · simp
      · rw [List.getElem_cons]
        split
        · rename_i q1 q2; simp at q1 q2; omega
        · rename_i q1 q2; simp at q1 q2 ⊢; omega
  rw [e, List.findSome?_append, List.findSome?_eq_none_iff.2 (fun j hj => h1 j (List.mem_range.1 hj)), Option.none_or, List.findSome?_cons]
  cases h : f i with
  | none => exact absurd h h2
  | some b => rfl
theorem firstEq_step {kind : Int} {js : List Jb} {rest : Nat → Int} {full : Nat} (h : RestOk kind js rest full) {m : Int} (hm : ∀ E ∈ permL js.length js.length [], ∀ c, seqO kind js none 0 E = some c → m ≤ c) {p : List Int} (hp : PreOk js.length p) {i d : Nat} (hd : p.length + (d + 1) = js.length)
    (hi : PickI kind js rest full m p i) : firstEq kind js m (d + 1) p = firstEq kind js m d (p ++ [(i : Int)]) := by
  unfold firstEq
  show ((List.range js.length).flatMap _).find? _ = _
  rw [List.find?_flatMap, find_range _ _ i hi.lt]
  · rw [if_neg (by rw [hi.free]; simp)]
  · intro j hj
    have hjn : j < js.length := by have := hi.lt; omega
    cases hc : p.contains (j : Int)
    · rw [if_neg (by simp), List.find?_eq_none]
      intro E hE he
      obtain ⟨a1, _⟩ := allC_spec h hp hjn hc hd
      rw [beq_iff_eq] at he
      have h1 := a1 E hE m he
      obtain ⟨_, E', hE', he'⟩ := allC_spec h hp hjn hc hd
      have h2 := hm E' (by
        have hp2 := hp.push hjn hc
        have hok := permL_ok hp2 hE'
        obtain ⟨q, rfl, hq⟩ := permL_pre hE'
        exact permL_perm.2 (hok.perm (by simp only [List.length_append, List.length_singleton]; omega))) _ he'
      exact hi.first j hj hc (by omega)
    · rw [if_pos rfl]; rfl
  · rw [if_neg (by rw [hi.free]; simp)]
    obtain ⟨_, E', hE', he'⟩ := allC_spec h hp hi.lt hi.free hd
    rw [hi.eq] at he'
    intro hn
    rw [List.find?_eq_none] at hn
    exact hn E' hE' (by rw [he']; simp)
theorem pick_exists {kind : Int} {js : List Jb} {rest : Nat → Int} {full : Nat} (h : RestOk kind js rest full) {m : Int} (hm : ∀ E ∈ permL js.length js.length [], ∀ c, seqO kind js none 0 E = some c → m ≤ c) {p : List Int} (hp : PreOk js.length p) {d : Nat} (hd : p.length + (d + 1) = js.length)
    (hf : firstEq kind js m (d + 1) p ≠ none) : ∃ i, i < js.length ∧ p.contains (i : Int) = false ∧ allC kind js rest full p i = m := by
  cases he : firstEq kind js m (d + 1) p with
  | none => exact absurd he hf
  | some E =>
    unfold firstEq at he
    have h1 := List.find?_some he
    have h2 := List.mem_of_find?_eq_some he
    obtain ⟨i, hi, h3⟩ := List.mem_flatMap.1 h2
    have hin := List.mem_range.1 hi
    cases hc : p.contains (i : Int)
    · rw [if_neg (by rw [hc]; simp)] at h3
      rw [beq_iff_eq] at h1
      obtain ⟨a1, E', hE', he'⟩ := allC_spec h hp hin hc hd
      have h4 := a1 E h3 m h1
      have h5 := hm E' (by
        have hok := permL_ok (hp.push hin hc) hE'
        obtain ⟨q, rfl, hq⟩ := permL_pre hE'
        exact permL_perm.2 (hok.perm (by simp only [List.length_append, List.length_singleton]; omega))) _ he'
      exact ⟨i, hin, hc, by omega⟩
    · rw [if_pos hc] at h3; cases h3
/-- The fold's first of the least ones is the first that reaches the least. -/
theorem fl_first (f : List Int → Option Int) : ∀ (L : List (List Int)) (s : Option (List Int × Int)) (b : List Int) (l : Int), L.foldl (flStep f) s = some (b, l) →
    (∃ b0, s = some (b0, l) ∧ b = b0) ∨ ((∀ b0, s ≠ some (b0, l)) ∧ L.find? (fun E => f E == some l) = some b)
  | [], s, b, l, h => .inl ⟨b, h, rfl⟩
  | E :: L, s, b, l, h => by
    rw [List.foldl_cons] at h
    have hlow := ((fl_spec f (E :: L) s).2 b l (by rw [List.foldl_cons]; exact h)).2
    rcases fl_first f L _ b l h with ⟨b0, h1, rfl⟩ | ⟨h1, h2⟩
    · cases hf : f E with
      | none =>
        rw [flStep_none hf] at h1
        exact .inl ⟨b, h1, rfl⟩
      | some x =>
        unfold flStep at h1
        rw [hf] at h1
        cases s with
        | none =>
          injection h1 with h1
          injection h1 with h1 h3
          subst h1 h3
          exact .inr ⟨fun b0 e => by (cases e), by rw [List.find?_cons, hf]; simp⟩
        | some c =>
          obtain ⟨c1, c2⟩ := c
          by_cases hx : x < c2
          · have h4 : some (E, x) = some (b, l) := by rw [← h1]; exact (if_pos hx).symm
            injection h4 with h4
            injection h4 with h4 h5
            subst h4 h5
            refine .inr ⟨fun b0 e => ?_, by rw [List.find?_cons, hf]; simp⟩
            injection e with e
            injection e with e1 e2
            omega
          · have h4 : some (c1, c2) = some (b, l) := by rw [← h1]; exact (if_neg hx).symm
            injection h4 with h4
            injection h4 with h4 h5
            subst h4 h5
            exact .inl ⟨_, rfl, rfl⟩
    · have hnE : f E ≠ some l := fun he => by
        unfold flStep at h1
        rw [he] at h1
        cases s with
        | none => exact h1 E rfl
        | some c =>
          obtain ⟨c1, c2⟩ := c
          by_cases hx : l < c2
          · exact h1 E (if_pos hx)
          · have := hlow.2 c1 c2 rfl
            have h5 : c2 = l := by omega
            subst h5
            exact h1 c1 (if_neg hx)
      refine .inr ⟨fun b0 e => ?_, by rw [List.find?_cons, show (f E == some l) = false by simpa using hnE]; exact h2⟩
      subst e
      cases hf : f E with
      | none => rw [flStep_none hf] at h1; exact h1 b0 rfl
      | some x =>
        unfold flStep at h1
        rw [hf] at h1
        by_cases hx : x < l
        · have := hlow.1 E List.mem_cons_self x hf
          omega
        · exact h1 b0 (if_neg hx)
end Go.Proofs.Ytcopjdhnmkfkfaa

namespace Go.Proofs.Ytcopjdhnmkfkfaa
open Go.RowKit
set_option linter.unusedVariables false
set_option linter.unusedSimpArgs false

def sumT (js : List Jb) : List Int → Int
  | [] => 0
  | x :: l => tmJ js x.toNat + sumT js l
theorem sumT_cons (js : List Jb) (x : Int) (l : List Int) : sumT js (x :: l) = tmJ js x.toNat + sumT js l := rfl
theorem sumT_nil (js : List Jb) : sumT js [] = 0 := rfl
theorem sumT_append (js : List Jb) : ∀ (a b : List Int), sumT js (a ++ b) = sumT js a + sumT js b
  | [], b => by simp [sumT]
  | x :: a, b => by rw [List.cons_append, sumT_cons, sumT_cons, sumT_append js a b]; omega
theorem sumT_nn {js : List Jb} (h : FreeJ js) : ∀ l, 0 ≤ sumT js l
  | [] => Int.le_refl _
  | x :: l => by
    have := sumT_nn h l
    have := h.time x.toNat
    rw [sumT_cons]
    omega
theorem sumT_perm {js : List Jb} {a b : List Int} (h : a.Perm b) : sumT js a = sumT js b := by
  induction h with
  | nil => rfl
  | cons x _ ih => rw [sumT_cons, sumT_cons, ih]
  | swap x y l =>
    show tmJ js y.toNat + (tmJ js x.toNat + sumT js l) = tmJ js x.toNat + (tmJ js y.toNat + sumT js l)
    omega
  | trans _ _ h1 h2 => rw [h1, h2]
theorem sumT_sub {js : List Jb} (h : FreeJ js) : ∀ (a b : List Int), a.Pairwise (fun x y => x ≠ y) → (∀ x ∈ a, x ∈ b) → sumT js a ≤ sumT js b
  | [], b, _, _ => sumT_nn h b
  | x :: a, b, hd, hs => by
    rw [List.pairwise_cons] at hd
    have h1 := hs x List.mem_cons_self
    have h2 := sumT_sub h a (b.erase x) hd.2 (fun y hy => (List.mem_erase_of_ne (Ne.symm (hd.1 y hy))).2 (hs y (List.mem_cons_of_mem _ hy)))
    have h3 : sumT js b = sumT js (x :: b.erase x) := sumT_perm (List.perm_cons_erase h1)
    rw [h3, sumT_cons, sumT_cons]
    omega
/-- Of each due time on, what is due by then takes no longer. -/
def FeasS (js : List Jb) (S : List Int) : Prop := ∀ d : Int, (∃ i ∈ S, duJ js i.toNat ≤ d) → sumT js (S.filter fun x => decide (duJ js x.toNat ≤ d)) ≤ d
theorem FeasS.erase {js : List Jb} {S : List Int} (h : FreeJ js) (hS : FeasS js S) (hn : S.Pairwise fun x y => x ≠ y) (j : Int) : FeasS js (S.erase j) := by
  rintro d ⟨i, hi, hd⟩
  refine Int.le_trans (sumT_sub h _ _ ?_ ?_) (hS d ⟨i, List.mem_of_mem_erase hi, hd⟩)
  · exact List.Pairwise.sublist List.filter_sublist (List.Pairwise.sublist List.erase_sublist hn)
  · intro x hx
    rw [List.mem_filter] at hx ⊢
    exact ⟨List.mem_of_mem_erase hx.1, hx.2⟩
/-- The place of the longest one, the first of several. -/
def mostTo (js : List Jb) (out : List Int) : Nat → Nat
  | 0 => 0
  | k + 1 => if tmJ js (nth out (mostTo js out k)).toNat < tmJ js (nth out k).toNat then k else mostTo js out k
theorem mostTo_spec (js : List Jb) (out : List Int) (h0 : 0 < out.length) : ∀ k, k ≤ out.length → mostTo js out k < out.length ∧ ∀ m, m < k → tmJ js (nth out m).toNat ≤ tmJ js (nth out (mostTo js out k)).toNat
  | 0, _ => ⟨h0, fun m h => absurd h (Nat.not_lt_zero _)⟩
  | k + 1, hk => by
    obtain ⟨h1, h2⟩ := mostTo_spec js out h0 k (by omega)
    unfold mostTo
    by_cases q : tmJ js (nth out (mostTo js out k)).toNat < tmJ js (nth out k).toNat
    · rw [if_pos q]
      refine ⟨by omega, fun m hm => ?_⟩
      by_cases e : m = k
      · subst e; exact Int.le_refl _
      · have := h2 m (by omega); omega
    · rw [if_neg q]
      refine ⟨h1, fun m hm => ?_⟩
      by_cases e : m = k
      · subst e; omega
      · exact h2 m (by omega)
def mostI (js : List Jb) (out : List Int) : Nat := mostTo js out out.length
/-- One job more. -/
structure MhS where
  out : List Int
  sum : Int
  taken : Int
def mhStep (js : List Jb) (s : MhS) (i : Int) : MhS :=
  if s.sum + tmJ js i.toNat ≤ duJ js i.toNat then ⟨s.out ++ [i], s.sum + tmJ js i.toNat, s.taken⟩
  else ⟨(s.out ++ [i]).eraseIdx (mostI js (s.out ++ [i])), s.sum + tmJ js i.toNat - tmJ js (nth (s.out ++ [i]) (mostI js (s.out ++ [i]))).toNat, s.taken + 1⟩
def mhTo (js : List Jb) (O : List Int) : Nat → MhS
  | 0 => ⟨[], 0, 0⟩
  | k + 1 => mhStep js (mhTo js O k) (nth O k)
/-- What is known behind some jobs. -/
structure MhI (js : List Jb) (P : List Int) (s : MhS) : Prop where
  sum : s.sum = sumT js s.out
  cnt : (s.out.length : Int) + s.taken = P.length
  tk : 0 ≤ s.taken
  sub : s.out.Sublist P
  pre : ∀ k, k < s.out.length → sumT js (s.out.take (k + 1)) ≤ duJ js (nth s.out k).toNat
  best : ∀ S : List Int, S.Pairwise (fun x y => x ≠ y) → (∀ x ∈ S, x ∈ P) → FeasS js S → ∃ R : List Int, R.Pairwise (fun x y => x ≠ y) ∧ (∀ x ∈ R, x ∈ s.out) ∧ R.length = S.length ∧ sumT js R ≤ sumT js S
theorem mhI_zero (js : List Jb) : MhI js [] ⟨[], 0, 0⟩ := by
  refine ⟨rfl, rfl, Int.le_refl _, List.Sublist.refl _, fun k hk => by simp at hk, fun S _ hS _ => ⟨[], List.Pairwise.nil, fun x hx => hx, ?_, ?_⟩⟩
  · cases S with
    | nil => rfl
    | cons x S => have := hS x List.mem_cons_self; simp at this
  · cases S with
    | nil => exact Int.le_refl _
    | cons x S => have := hS x List.mem_cons_self; simp at this
theorem erase_perm : ∀ (l : List Int) (k : Nat) (h : k < l.length), l.Perm (l[k] :: l.eraseIdx k)
  | [], k, h => by simp at h
  | x :: l, 0, h => by simp
  | x :: l, k + 1, h => by
    have h1 := erase_perm l k (by simpa using h)
    simp only [List.getElem_cons_succ, List.eraseIdx_cons_succ]
    exact (h1.cons x).trans (List.Perm.swap _ _ _)
theorem erase_take (l : List Int) {k m : Nat} (h : k ≤ m) : (l.eraseIdx m).take k = l.take k := by
  rw [List.eraseIdx_eq_take_drop_succ]
  by_cases hm : m ≤ l.length
  · rw [List.take_append_of_le_length (by rw [List.length_take]; omega), List.take_take, Nat.min_eq_left h]
  · rw [List.take_of_length_le (show l.length ≤ m by omega), List.drop_eq_nil_of_le (by omega), List.append_nil]
theorem erase_take2 (l : List Int) {k m : Nat} (h : m ≤ k) (hl : m < l.length) : (l.take (k + 1)).eraseIdx m = (l.eraseIdx m).take k := by
  rw [List.eraseIdx_eq_take_drop_succ, List.eraseIdx_eq_take_drop_succ, List.take_take, Nat.min_eq_left (by omega), List.take_append, List.length_take, Nat.min_eq_left (by omega), List.take_take, Nat.min_eq_right h, List.drop_take]
  congr 2
  omega
theorem eraseIdx_mem {l : List Int} (hn : l.Pairwise fun x y => x ≠ y) {k : Nat} (hk : k < l.length) {x : Int} (hx : x ∈ l) (hne : x ≠ nth l k) : x ∈ l.eraseIdx k := by
  obtain ⟨m, hm, rfl⟩ := List.getElem_of_mem hx
  rw [List.mem_eraseIdx_iff_getElem]
  exact ⟨m, hm, fun e => by subst e; exact hne (by rw [nth_eq hm]), rfl⟩
theorem mhStep_keep {js : List Jb} {P : List Int} {s : MhS} {i : Int} (hf : FreeJ js) (h : MhI js P s) (hP : (P ++ [i]).Pairwise fun x y => x ≠ y) (S : List Int) (hn : S.Pairwise fun x y => x ≠ y) (hs : ∀ x ∈ S, x ∈ P ++ [i]) (hF : FeasS js S) :
    ∃ R : List Int, R.Pairwise (fun x y => x ≠ y) ∧ (∀ x ∈ R, x ∈ s.out ++ [i]) ∧ R.length = S.length ∧ sumT js R ≤ sumT js S := by
  have hip : i ∉ P := fun e => (List.pairwise_append.1 hP).2.2 i e i (List.mem_singleton.2 rfl) rfl
  by_cases hi : i ∈ S
  · obtain ⟨R, r1, r2, r3, r4⟩ := h.best (S.erase i) (List.Pairwise.sublist List.erase_sublist hn) (fun x hx => by
      have h1 := hs x (List.mem_of_mem_erase hx)
      rcases List.mem_append.1 h1 with h2 | h2
      · exact h2
      · rw [List.mem_singleton] at h2
        subst h2
        have hp := (List.perm_cons_erase hi).pairwise_iff (R := fun x y : Int => x ≠ y) (fun h => Ne.symm h)
        have := List.pairwise_cons.1 (hp.1 hn)
        exact absurd rfl (this.1 x hx)) (hF.erase hf hn i)
    have hl := (List.perm_cons_erase hi).length_eq
    have hsum : sumT js S = tmJ js i.toNat + sumT js (S.erase i) := sumT_perm (List.perm_cons_erase hi)
    rw [List.length_cons] at hl
    refine ⟨i :: R, List.pairwise_cons.2 ⟨fun y hy e => ?_, r1⟩, fun x hx => ?_, by rw [List.length_cons, r3]; omega, by rw [sumT_cons]; omega⟩
    · subst e
      exact hip (h.sub.subset (r2 _ hy))
    · rcases List.mem_cons.1 hx with e | e
      · rw [e]; exact List.mem_append_right _ (List.mem_singleton.2 rfl)
      · exact List.mem_append_left _ (r2 x e)
  · obtain ⟨R, r1, r2, r3, r4⟩ := h.best S hn (fun x hx => by
      rcases List.mem_append.1 (hs x hx) with h2 | h2
      · exact h2
      · rw [List.mem_singleton] at h2; subst h2; exact absurd hx hi) hF
    exact ⟨R, r1, fun x hx => List.mem_append_left _ (r2 x hx), r3, r4⟩
theorem sumT_take_le {js : List Jb} (hf : FreeJ js) : ∀ (l : List Int) (k : Nat), sumT js (l.take k) ≤ sumT js l := fun l k => by
  have h : sumT js (l.take k ++ l.drop k) = sumT js l := by rw [List.take_append_drop]
  rw [sumT_append] at h
  have := sumT_nn hf (l.drop k)
  omega
theorem mhI_step {js : List Jb} {P : List Int} {s : MhS} {i : Int} (hf : FreeJ js) (h : MhI js P s) (hP : (P ++ [i]).Pairwise fun x y => x ≠ y) (hdue : ∀ x ∈ P, duJ js x.toNat ≤ duJ js i.toNat) (hd0 : 0 ≤ duJ js i.toNat) : MhI js (P ++ [i]) (mhStep js s i) := by
  have hkeep := mhStep_keep hf h hP
  have hout : (s.out ++ [i]).Sublist (P ++ [i]) := h.sub.append (List.Sublist.refl _)
  have hsum1 : s.sum + tmJ js i.toNat = sumT js (s.out ++ [i]) := by rw [sumT_append, h.sum, sumT_cons, sumT_nil]; omega
  have htk := h.tk
  have hcnt := h.cnt
  unfold mhStep
  by_cases hc : s.sum + tmJ js i.toNat ≤ duJ js i.toNat
  · rw [if_pos hc]
    refine ⟨hsum1, by simp only [List.length_append, List.length_singleton]; omega, h.tk, hout, fun k hk => ?_, fun S hn hs hF => hkeep S hn hs hF⟩
    simp only [List.length_append, List.length_singleton] at hk
    by_cases e : k = s.out.length
    · subst e
      have h1 : nth (s.out ++ [i]) s.out.length = i := by rw [nth_eq (by simp)]; simp
      show sumT js ((s.out ++ [i]).take (s.out.length + 1)) ≤ duJ js (nth (s.out ++ [i]) s.out.length).toNat
      rw [h1, List.take_of_length_le (by simp), ← hsum1]
      exact hc
    · have h1 : nth (s.out ++ [i]) k = nth s.out k := by rw [nth_eq (by simp; omega), nth_eq (by omega), List.getElem_append_left (by omega)]
      show sumT js ((s.out ++ [i]).take (k + 1)) ≤ duJ js (nth (s.out ++ [i]) k).toNat
      rw [h1, List.take_append_of_le_length (by omega)]
      exact h.pre k (by omega)
  · rw [if_neg hc]
    obtain ⟨O, hO⟩ : ∃ O, s.out ++ [i] = O := ⟨_, rfl⟩
    have hol : O.length = s.out.length + 1 := by rw [← hO]; simp
    obtain ⟨m1, m2⟩ := mostTo_spec js O (by omega) O.length (Nat.le_refl _)
    obtain ⟨m, hm⟩ : ∃ m, mostI js O = m := ⟨_, rfl⟩
    rw [show mostTo js O O.length = m from hm] at m1 m2
    rw [hO, hm]
    rw [hO] at hout hkeep hsum1
    have hOn : O.Pairwise fun x y => x ≠ y := List.Pairwise.sublist hout hP
    have hper : O.Perm (nth O m :: O.eraseIdx m) := by
      rw [nth_eq m1]; exact erase_perm _ _ m1
    have hsumE : sumT js O = tmJ js (nth O m).toNat + sumT js (O.eraseIdx m) := sumT_perm hper
    have hlenE : (O.eraseIdx m).length = s.out.length := by rw [List.length_eraseIdx, if_pos m1]; omega
    have hmxle : ∀ x ∈ O, tmJ js x.toNat ≤ tmJ js (nth O m).toNat := fun x hx => by
      obtain ⟨q, hq, rfl⟩ := List.getElem_of_mem hx
      have := m2 q hq
      rwa [nth_eq hq] at this
    have hix : ∀ q, q < s.out.length → nth O q = nth s.out q := fun q hq => by rw [← hO, nth_eq (by simp; omega), nth_eq hq, List.getElem_append_left hq]
    have hil : nth O s.out.length = i := by rw [← hO, nth_eq (by simp)]; simp
    refine ⟨by show s.sum + tmJ js i.toNat - tmJ js (nth O m).toNat = sumT js (O.eraseIdx m); omega, by show ((O.eraseIdx m).length : Int) + (s.taken + 1) = _; rw [hlenE]; simp only [List.length_append, List.length_singleton]; omega, by show 0 ≤ s.taken + 1; omega, (List.eraseIdx_sublist O m).trans hout, fun k hk => ?_, fun S hn hs hF => ?_⟩
    · show sumT js ((O.eraseIdx m).take (k + 1)) ≤ duJ js (nth (O.eraseIdx m) k).toNat
      have hk2 : k < s.out.length := by have : k < (O.eraseIdx m).length := hk; omega
      by_cases q : k < m
      · have h1 : nth (O.eraseIdx m) k = nth s.out k := by
          rw [nth_eq (by omega), List.getElem_eraseIdx, dif_pos q, ← hix k hk2, nth_eq (by omega)]
        have h2 : (O.eraseIdx m).take (k + 1) = s.out.take (k + 1) := by
          rw [erase_take _ (by omega), ← hO, List.take_append_of_le_length (by omega)]
        rw [h1, h2]
        exact h.pre k hk2
      · have h1 : nth (O.eraseIdx m) k = nth O (k + 1) := by
          rw [nth_eq (by omega), List.getElem_eraseIdx, dif_neg q, nth_eq (by omega)]
        have h2 : sumT js ((O.eraseIdx m).take (k + 1)) + tmJ js (nth O m).toNat = sumT js (O.take (k + 2)) := by
          have h3 : (O.take (k + 2)).Perm (nth O m :: (O.eraseIdx m).take (k + 1)) := by
            have h4 : (O.take (k + 2)).eraseIdx m = (O.eraseIdx m).take (k + 1) := by
              exact erase_take2 O (by omega) m1
            rw [← h4]
            have h5 : nth O m = (O.take (k + 2))[m]'(by rw [List.length_take]; omega) := by rw [List.getElem_take, nth_eq m1]
            rw [h5]
            exact erase_perm _ _ _
          have := sumT_perm (js := js) h3
          rw [sumT_cons] at this
          omega
        rw [h1]
        by_cases e : k + 1 = s.out.length
        · rw [show nth O (k + 1) = i by rw [e]; exact hil]
          have h6 : O.take (k + 2) = O := List.take_of_length_le (by omega)
          rw [h6, ← hsum1] at h2
          have h7 := hmxle i (by rw [← hil, nth_eq (by omega)]; exact List.getElem_mem _)
          have h8 := h.pre k hk2
          rw [e, List.take_length, ← h.sum] at h8
          have h9 := hdue (nth s.out k) (h.sub.subset (by rw [nth_eq hk2]; exact List.getElem_mem _))
          omega
        · rw [hix (k + 1) (by omega)]
          have h6 : O.take (k + 2) = s.out.take (k + 2) := by rw [← hO, List.take_append_of_le_length (by omega)]
          rw [h6] at h2
          have h8 : sumT js (s.out.take (k + 2)) ≤ duJ js (nth s.out (k + 1)).toNat := h.pre (k + 1) (by omega)
          have h10 := hf.time (nth O m).toNat
          omega
    · obtain ⟨R, r1, r2, r3, r4⟩ := hkeep S hn hs hF
      by_cases hmR : nth O m ∈ R
      · by_cases hlt : R.length < O.length
        · have hex : ∃ x ∈ O, x ∉ R := by
            rcases Classical.em (∃ x ∈ O, x ∉ R) with h1 | h1
            · exact h1
            · exfalso
              have := subQ_len O R hOn (fun x hx => by
                rcases Classical.em (x ∈ R) with h2 | h2
                · exact h2
                · exact absurd ⟨x, hx, h2⟩ h1)
              omega
          obtain ⟨x, hx, hxR⟩ := hex
          have hl := (List.perm_cons_erase hmR).length_eq
          have hsm : sumT js R = tmJ js (nth O m).toNat + sumT js (R.erase (nth O m)) := sumT_perm (List.perm_cons_erase hmR)
          rw [List.length_cons] at hl
          have hxm := hmxle x hx
          have hpw := (List.pairwise_cons.1 (((List.perm_cons_erase hmR).pairwise_iff (R := fun x y : Int => x ≠ y) (fun h => Ne.symm h)).1 r1))
          refine ⟨x :: R.erase (nth O m), List.pairwise_cons.2 ⟨fun y hy e => ?_, hpw.2⟩, fun y hy => ?_, by rw [List.length_cons]; omega, by rw [sumT_cons]; omega⟩
          · subst e; exact hxR (List.mem_of_mem_erase hy)
          · rcases List.mem_cons.1 hy with e | e
            · subst e
              exact eraseIdx_mem hOn m1 hx (fun e => hxR (by rw [e]; exact hmR))
            · exact eraseIdx_mem hOn m1 (r2 y (List.mem_of_mem_erase e)) (fun e2 => hpw.1 y e e2.symm)
        · exfalso
          have hper2 := subQ_perm R O r1 r2 (by omega)
          have h1 := sumT_perm (js := js) hper2
          have hne : ∃ y, y ∈ S := by
            cases S with
            | nil => rw [List.length_nil] at r3; have := List.length_pos_of_mem hmR; omega
            | cons y S => exact ⟨y, List.mem_cons_self⟩
          have hall : ∀ y ∈ S, duJ js y.toNat ≤ duJ js i.toNat := fun y hy => by
            rcases List.mem_append.1 (hs y hy) with h2 | h2
            · exact hdue y h2
            · rw [List.mem_singleton] at h2; rw [h2]; exact Int.le_refl _
          obtain ⟨y, hy⟩ := hne
          have h2 := hF (duJ js i.toNat) ⟨y, hy, hall y hy⟩
          rw [List.filter_eq_self.2 (fun z hz => by simpa using hall z hz)] at h2
          omega
      · exact ⟨R, r1, fun x hx => eraseIdx_mem hOn m1 (r2 x hx) (fun e => hmR (by rw [← e]; exact hx)), r3, r4⟩
end Go.Proofs.Ytcopjdhnmkfkfaa

namespace Go.Proofs.Ytcopjdhnmkfkfaa
open Go.RowKit
set_option linter.unusedVariables false
set_option linter.unusedSimpArgs false

def setQ (js : List Jb) (d B : Int) (j : Nat) : Bool := decide (duJ js j ≤ d) && decide (B ≤ rlJ js j)
/-- What is known of the ends by due times. -/
structure EdfI (js : List Jb) (t : Int) (s : PieS) : Prop where
  late : ∀ i, i < js.length → nth s.left i < tmJ js i → ∃ B : Int, B ≤ rlJ js i ∧ nth s.ends i ≤ B + sumP (tmJ js) (setQ js (duJ js i) B) js.length
  busy : ∀ d : Int, ∃ B : Int, t - B ≤ sumP (fun j => tmJ js j - nth s.left j) (setQ js d B) js.length ∧ ∀ j, j < js.length → duJ js j ≤ d → nth s.left j ≠ 0 → B ≤ rlJ js j
theorem edf_zero {js : List Jb} (h : GoodJ js) : EdfI js 0 (pieTo js 1 0) := by
  refine ⟨fun i hi hl => ?_, fun d => ⟨0, ?_, fun j hj _ _ => h.rel j hj⟩⟩
  · have h1 : nth (js.map (·.1)) i < tmJ js i := hl
    rw [nth_map1 hi] at h1
    omega
  · rw [sumP_zero js.length fun i hi _ => by
      show tmJ js i - nth (js.map (·.1)) i = 0
      rw [nth_map1 hi]; omega]
    omega
theorem edf_step {js : List Jb} (h : GoodJ js) {t : Int} {s : PieS} (hI : PieI js t s) (hE : EdfI js t s) : EdfI js (t + 1) (pieStep js 1 t s) := by
  rcases pieStep_cases (js := js) (rule := 1) (t := t) (s := s) with ⟨h1, h2, h3⟩ | ⟨b, hb, h2, h3, h4, h5⟩
  · rw [h3]
    refine ⟨hE.late, fun d => ⟨t + 1, ?_, fun j hj _ hl => ?_⟩⟩
    · have := sumP_nn (f := fun j => tmJ js j - nth s.left j) (p := setQ js d (t + 1)) js.length (fun i hi _ => by have := hI.left i hi; omega)
      show t + 1 - (t + 1) ≤ sumP (fun j => tmJ js j - nth s.left j) _ _
      omega
    · have := h2 j hj
      unfold availQ at this
      rcases Int.lt_or_le t (rlJ js j) with q | q
      · omega
      · exact absurd ⟨q, hl⟩ this
  · rw [h5]
    have hll := hI.ll
    have hle := hI.le
    have hbl := hI.left b hb
    have h3' := h3
    unfold availQ at h3'
    have hleft : ∀ j, nth (s.left.set b (nth s.left b - 1)) j = if b = j then nth s.left b - 1 else nth s.left j := fun j => nth_setJ _ (by omega)
    have hsum : ∀ d B, setQ js d B b = true → sumP (fun j => tmJ js j - nth (s.left.set b (nth s.left b - 1)) j) (setQ js d B) js.length = sumP (fun j => tmJ js j - nth s.left j) (setQ js d B) js.length + 1 := fun d B hs => by
      have e1 := sumP_upd (f := fun j => tmJ js j - nth s.left j) (g := fun j => tmJ js j - nth (s.left.set b (nth s.left b - 1)) j) (p := setQ js d B) (q := setQ js d B) (b := b) js.length hb (fun i hi hn => ⟨rfl, by rw [hleft i, if_neg (fun e => hn e.symm)]⟩)
      rw [hs, if_pos rfl, if_pos rfl, hleft b, if_pos rfl] at e1
      omega
    have hbusy : ∀ d : Int, ∃ B : Int, t + 1 - B ≤ sumP (fun j => tmJ js j - nth (s.left.set b (nth s.left b - 1)) j) (setQ js d B) js.length ∧ (∀ j, j < js.length → duJ js j ≤ d → nth (s.left.set b (nth s.left b - 1)) j ≠ 0 → B ≤ rlJ js j) ∧ (duJ js b ≤ d → B ≤ rlJ js b) := fun d => by
      by_cases hd : duJ js b ≤ d
      · obtain ⟨B, b1, b2⟩ := hE.busy d
        have hB := b2 b hb hd h3'.2
        refine ⟨B, ?_, fun j hj hjd hl => ?_, fun _ => hB⟩
        · rw [hsum d B (by unfold setQ; simp [hd, hB])]; omega
        · rw [hleft j] at hl
          by_cases e : b = j
          · subst e; exact hB
          · rw [if_neg e] at hl; exact b2 j hj hjd hl
      · refine ⟨t + 1, ?_, fun j hj hjd hl => ?_, fun x => absurd x hd⟩
        · have := sumP_nn (f := fun j => tmJ js j - nth (s.left.set b (nth s.left b - 1)) j) (p := setQ js d (t + 1)) js.length (fun i hi _ => by
            have := hI.left i hi
            show 0 ≤ tmJ js i - nth (s.left.set b (nth s.left b - 1)) i
            rw [hleft i]
            split
            · rename_i e; subst e; omega
            · omega)
          omega
        · have hjb : ¬ b = j := fun e => by subst e; exact hd hjd
          rw [hleft j, if_neg hjb] at hl
          rcases Int.lt_or_le t (rlJ js j) with q | q
          · omega
          · have h6 := h4 j hj ⟨q, hl⟩
            unfold keyQ at h6
            rw [if_neg (by omega), if_neg (by omega)] at h6
            omega
    refine ⟨fun i hi hl => ?_, fun d => ?_⟩
    · have hl' : nth (s.left.set b (nth s.left b - 1)) i < tmJ js i := hl
      show ∃ B : Int, B ≤ rlJ js i ∧ nth (s.ends.set b (t + 1)) i ≤ _
      rw [nth_setJ _ (by omega)]
      by_cases e : b = i
      · subst e
        rw [if_pos rfl]
        obtain ⟨B, b1, _, b3⟩ := hbusy (duJ js b)
        refine ⟨B, b3 (Int.le_refl _), ?_⟩
        have h6 : sumP (fun j => tmJ js j - nth (s.left.set b (nth s.left b - 1)) j) (setQ js (duJ js b) B) js.length ≤ sumP (tmJ js) (setQ js (duJ js b) B) js.length := sumP_mono js.length fun i hi => by
          have h7 := hI.left i hi
          have h8 : 0 ≤ nth (s.left.set b (nth s.left b - 1)) i := by
            rw [hleft i]
            split
            · omega
            · omega
          split
          · omega
          · omega
        omega
      · rw [if_neg e]
        rw [hleft i, if_neg e] at hl'
        exact hE.late i hi hl'
    · obtain ⟨B, b1, b2, _⟩ := hbusy d
      exact ⟨B, b1, b2⟩
theorem edf_to {js : List Jb} (h : GoodJ js) : ∀ t : Nat, EdfI js t (pieTo js 1 t)
  | 0 => edf_zero h
  | t + 1 => edf_step h (pieI_to h 1 t) (edf_to h t)
/-! Whole jobs in an order. -/
theorem sumP_succ (f : Nat → Int) (p : Nat → Bool) (n : Nat) : sumP f p (n + 1) = sumP f p n + if p n then f n else 0 := rfl
theorem atTo_succ (js : List Jb) (E : List Int) (k : Nat) : atTo js E (k + 1) = max (atTo js E k) (rlJ js (nth E k).toNat) + tmJ js (nth E k).toNat := rfl
theorem sumP_list (js : List Jb) (p : Nat → Bool) : ∀ n, sumP (tmJ js) p n = sumT js ((idL n).filter fun x => p x.toNat)
  | 0 => rfl
  | n + 1 => by
    rw [idL_succ, List.filter_append, sumT_append, ← sumP_list js p n, sumP_succ]
    cases hp : p n
    · have : [(n : Int)].filter (fun x => p x.toNat) = [] := by simp [hp]
      rw [this, sumT_nil, if_neg (by simp)]
    · have : [(n : Int)].filter (fun x => p x.toNat) = [(n : Int)] := by simp [hp]
      rw [this, sumT_cons, sumT_nil, Int.toNat_natCast, if_pos rfl]; omega
theorem atTo_up {js : List Jb} {E : List Int} (h : GoodJ js) (hE : E.Perm (idL js.length)) {k : Nat} (hk : k < js.length) : atTo js E k + tmJ js (nth E k).toNat ≤ atTo js E (k + 1) ∧ rlJ js (nth E k).toNat + tmJ js (nth E k).toNat ≤ atTo js E (k + 1) := by
  rw [atTo_succ]; omega
theorem nthE_lt {js : List Jb} {E : List Int} (hE : E.Perm (idL js.length)) {k : Nat} (hk : k < js.length) : 0 ≤ nth E k ∧ (nth E k).toNat < js.length := by
  have hl : E.length = js.length := by rw [hE.length_eq, idL_length]
  have := idL_mem.1 (hE.mem_iff.1 (show nth E k ∈ E by rw [nth_eq (by omega)]; exact List.getElem_mem _))
  omega
theorem atTo_le {js : List Jb} {E : List Int} (h : GoodJ js) (hE : E.Perm (idL js.length)) {p : Nat} : ∀ q, p ≤ q → q ≤ js.length → atTo js E p ≤ atTo js E q
  | 0, hp, _ => by rw [show p = 0 by omega]; exact Int.le_refl _
  | q + 1, hp, hq => by
    by_cases e : p = q + 1
    · rw [e]; exact Int.le_refl _
    · have h1 := atTo_le h hE (p := p) q (by omega) (by omega)
      have h2 := (atTo_up h hE (show q < js.length by omega)).1
      have h3 := h.time _ (nthE_lt hE (show q < js.length by omega)).2
      omega
/-- The last one of a set ends behind all of them. -/
theorem order_last {js : List Jb} {E : List Int} (h : GoodJ js) (hE : E.Perm (idL js.length)) (d B : Int) : ∀ k, k ≤ js.length → ((E.take k).filter (fun x => setQ js d B x.toNat)) ≠ [] → ∃ m, m < k ∧ setQ js d B (nth E m).toNat = true ∧ B + sumT js ((E.take k).filter fun x => setQ js d B x.toNat) ≤ atTo js E (m + 1)
  | 0, _, hn => by rw [List.take_zero] at hn; exact absurd rfl hn
  | k + 1, hk, hn => by
    have hl : E.length = js.length := by rw [hE.length_eq, idL_length]
    have h2 : E.take (k + 1) = E.take k ++ [nth E k] := by rw [List.take_succ_eq_append_getElem (by omega), nth_eq (by omega)]
    rw [h2, List.filter_append] at hn ⊢
    have hup := atTo_up h hE (show k < js.length by omega)
    cases hs : setQ js d B (nth E k).toNat
    · have h9 : [nth E k].filter (fun x => setQ js d B x.toNat) = [] := by simp [hs]
      rw [h9, List.append_nil] at hn ⊢
      obtain ⟨m, m1, m2, m3⟩ := order_last h hE d B k (by omega) hn
      exact ⟨m, by omega, m2, m3⟩
    · have h9 : [nth E k].filter (fun x => setQ js d B x.toNat) = [nth E k] := by simp [hs]
      rw [h9, sumT_append, sumT_cons, sumT_nil]
      refine ⟨k, by omega, hs, ?_⟩
      by_cases hz : (E.take k).filter (fun x => setQ js d B x.toNat) = []
      · rw [hz, sumT_nil]
        unfold setQ at hs
        simp only [Bool.and_eq_true, decide_eq_true_eq] at hs
        omega
      · obtain ⟨m, m1, m2, m3⟩ := order_last h hE d B k (by omega) hz
        have := atTo_le h hE (p := m + 1) k (by omega) (by omega)
        omega
theorem costTo2_ge (js : List Jb) (ends : List Int) : ∀ k i, i ≤ k → nth ends i - duJ js i ≤ costTo 2 js ends k
  | 0, i, hi => by rw [show i = 0 by omega]; unfold costTo shareB; simp
  | k + 1, i, hi => by
    have hs : shareB 2 (jbN js (k + 1)) (nth ends (k + 1)) = nth ends (k + 1) - duJ js (k + 1) := by unfold shareB; simp
    unfold costTo bothB
    rw [if_pos (by decide), hs]
    by_cases e : i = k + 1
    · subst e; omega
    · have := costTo2_ge js ends k i (by omega); omega
theorem edf_le {js : List Jb} {E : List Int} (h : GoodJ js) (hE : E.Perm (idL js.length)) {t i : Nat} (hi : i < js.length) (hz : nth (pieTo js 1 t).left i = 0) : nth (pieTo js 1 t).ends i - duJ js i ≤ costE 2 js E := by
  have hl : E.length = js.length := by rw [hE.length_eq, idL_length]
  obtain ⟨B, b1, b2⟩ := (edf_to h t).late i hi (by rw [hz]; have := h.time i hi; omega)
  have hper : ((idL js.length).filter fun x => setQ js (duJ js i) B x.toNat).Perm (E.filter fun x => setQ js (duJ js i) B x.toNat) := hE.symm.filter _
  have hiS : setQ js (duJ js i) B i = true := by unfold setQ; simp [b1]
  have hne : (E.take js.length).filter (fun x => setQ js (duJ js i) B x.toNat) ≠ [] := by
    rw [List.take_of_length_le (by omega)]
    intro e
    have : (i : Int) ∈ E.filter (fun x => setQ js (duJ js i) B x.toNat) := List.mem_filter.2 ⟨hE.mem_iff.2 (idL_mem.2 (by omega)), by rw [Int.toNat_natCast]; exact hiS⟩
    rw [e] at this; cases this
  obtain ⟨m, m1, m2, m3⟩ := order_last h hE (duJ js i) B js.length (Nat.le_refl _) hne
  rw [List.take_of_length_le (by omega), ← sumT_perm hper, ← sumP_list] at m3
  have h4 := endsTo_at hE js.length (Nat.le_refl _) m m1
  have h5 := nthE_lt hE m1
  have h6 := costTo2_ge js (endsE js E) (js.length - 1) (nth E m).toNat (by omega)
  have h7 : nth (endsE js E) (nth E m).toNat = atTo js E (m + 1) := h4
  rw [h7] at h6
  unfold setQ at m2
  simp only [Bool.and_eq_true, decide_eq_true_eq] at m2
  unfold costE
  omega
end Go.Proofs.Ytcopjdhnmkfkfaa
