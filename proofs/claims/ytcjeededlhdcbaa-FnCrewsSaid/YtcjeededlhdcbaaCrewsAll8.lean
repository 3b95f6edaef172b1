/- append at a drawn step. Conditions: none. With texts that it needs. -/
import Derived.Test.YtcjeededlhdcbaaCrewsAll6
import Derived.Test.YtcjeededlhdcbaaCrewsAll7
import Derived.Test.YtcjeededlhdcbaaCrewsAll2
import Derived.Lib.SlBytesConst
import Derived.ArgAppend
import Derived.Deep.AppendLies
import Derived.Deep.RegionLaw
import Derived.Deep.RegionWith
import Derived.IntWalk
import Derived.Lib.AtoiErrMem
import Derived.BigRegion
namespace Go.Proofs.Ytcjeededlhdcbaa
open Go.RowKit
set_option linter.unusedVariables false
set_option linter.unusedSimpArgs false

theorem least_one {P : Nat → Prop} : ∀ n, P n → ∃ d, d ≤ n ∧ P d ∧ ∀ e, e < d → ¬ P e := fun n => by
  induction n using Nat.strongRecOn with
  | _ n ih =>
    intro h
    by_cases q : ∃ e, e < n ∧ P e
    · obtain ⟨e, he, hp⟩ := q
      obtain ⟨d, h1, h2, h3⟩ := ih e he hp
      exact ⟨d, by omega, h2, h3⟩
    · exact ⟨n, Nat.le_refl _, h, fun e he hp => q ⟨e, he, hp⟩⟩
theorem fit_exists {u : Nat → Int} {crew need time a M : Int} (hn : need ≤ crew) (hu : ∀ k : Nat, M ≤ k → u k = 0) : ∃ s, Fit u crew need time a s ∧ s ≤ max a M := by
  have hM : freeW u crew need time (a + ((max a M - a).toNat : Nat)) := fun k h1 h2 => by rw [hu k (by omega)]; omega
  obtain ⟨d, h1, h2, h3⟩ := least_one (P := fun d : Nat => freeW u crew need time (a + d)) _ hM
  refine ⟨a + d, ⟨by omega, h2, fun s' q1 q2 => ?_⟩, by omega⟩
  have h4 := h3 (s' - a).toNat (by omega)
  rw [show a + (((s' - a).toNat : Nat) : Int) = s' by omega] at h4
  unfold freeW at h4
  rcases Classical.em (∃ k : Nat, s' ≤ k ∧ (k : Int) < s' + time ∧ crew < u k + need) with h | h
  · exact h
  · exact absurd (fun k k1 k2 => by
      rcases Int.lt_or_le crew (u k + need) with q | q
      · exact absurd ⟨k, k1, k2, q⟩ h
      · exact q) h4
theorem toldB_iff {ts : List Tk} {out : List Int} {i : Nat} : toldB ts out i = true ↔ ∀ j, j < (befN ts i).length → 0 ≤ nth out (nth (befN ts i) j).toNat := by
  refine ⟨fun h j hj => toldB_all h j hj, fun h => ?_⟩
  unfold toldB
  rw [List.all_eq_true]
  intro x hx
  obtain ⟨j, hj, rfl⟩ := List.getElem_of_mem hx
  have := h j hj
  rw [nth_eq hj] at this
  exact decide_eq_true this
theorem leastTo_set {ts : List Tk} {out : List Int} {i j : Nat} {s : Int} (hm : nth out i = -1) (hi : i < out.length) (hb : toldB ts out j = true) : ∀ k, k ≤ (befN ts j).length → leastTo ts (out.set i s) j k = leastTo ts out j k
  | 0, _ => rfl
  | k + 1, hk => by
    have h1 := toldB_iff.1 hb k (by omega)
    unfold leastTo
    rw [leastTo_set hm hi hb k (by omega), nth_setM _ hi, if_neg (fun e => by rw [← e, hm] at h1; omega)]
theorem leastN_set {ts : List Tk} {out : List Int} {i j : Nat} {s : Int} (hm : nth out i = -1) (hi : i < out.length) (hb : toldB ts out j = true) : leastN ts (out.set i s) j = leastN ts out j := leastTo_set hm hi hb _ (Nat.le_refl _)
theorem toldB_set {ts : List Tk} {out : List Int} {i j : Nat} {s : Int} (hs : 0 ≤ s) (hi : i < out.length) (hb : toldB ts out j = true) : toldB ts (out.set i s) j = true := toldB_iff.2 fun q hq => by
  rw [nth_setM _ hi]
  have := toldB_iff.1 hb q hq
  split <;> omega
/-- A plan of those that are told, with all ends by B. -/
structure PlanI (ts : List Tk) (st : List Int) (crew B : Int) (out : List Int) : Prop where
  len : out.length = ts.length
  lo : ∀ j, j < ts.length → -1 ≤ nth out j
  hi : ∀ j, j < ts.length → 0 ≤ nth out j → nth out j + timeN ts j ≤ B
  use : ∀ t : Nat, useO ts out t ts.length ≤ crew
  ok : ∀ j, j < ts.length → 0 ≤ nth out j → nth st j ≤ nth out j ∧ leastN ts out j ≤ nth out j ∧ toldB ts out j = true
theorem useO_after {ts : List Tk} {out : List Int} {t B : Int} (hB : B ≤ t) : ∀ n, (∀ j, j < n → 0 ≤ nth out j → nth out j + timeN ts j ≤ B) → useO ts out t n = 0
  | 0, _ => rfl
  | n + 1, h => by
    unfold useO
    rw [useO_after hB n (fun j hj => h j (by omega)), if_neg (by unfold runsO; intro q; have := h n (by omega) q.1; omega)]; rfl
theorem leastTo_told {ts : List Tk} {out : List Int} {i : Nat} {B L : Int} (ht : SmTs ts) (hi : i < ts.length) (hB : 0 ≤ B) (hL0 : 0 ≤ L) (hL : ∀ k, k < (befN ts i).length → nth (lagN ts i) k ≤ L) (hb : toldB ts out i = true) (hh : ∀ j, j < ts.length → 0 ≤ nth out j → nth out j + timeN ts j ≤ B) : ∀ k, k ≤ (befN ts i).length → leastTo ts out i k ≤ B + L
  | 0, _ => by unfold leastTo; omega
  | k + 1, hk => by
    have h1 := leastTo_told ht hi hB hL0 hL hb hh k (by omega)
    have h2 := ht.bef i hi k (by omega)
    have h3 := hL k (by omega)
    have h4 := hh (nth (befN ts i) k).toNat (by omega) (toldB_iff.1 hb k (by omega))
    unfold leastTo
    omega
theorem PlanI.fit {ts : List Tk} {st out : List Int} {crew B S L : Int} {i : Nat} (h : PlanI ts st crew B out) (ht : SmTs ts) (hi : i < ts.length) (hb : toldB ts out i = true) (hne : needN ts i ≤ crew) (hS : nth st i ≤ S) (hL0 : 0 ≤ L) (hL : ∀ k, k < (befN ts i).length → nth (lagN ts i) k ≤ L) (hB : S ≤ B) (hB0 : 0 ≤ B) :
    ∃ s, Fit (fun t => useO ts out t ts.length) crew (needN ts i) (timeN ts i) (max (nth st i) (leastN ts out i)) s ∧ 0 ≤ s ∧ s ≤ B + L := by
  obtain ⟨s, h1, h2⟩ := fit_exists (time := timeN ts i) (a := max (nth st i) (leastN ts out i)) (M := B) hne (u := fun t : Nat => useO ts out t ts.length) (fun k hk => useO_after hk _ h.hi)
  have h3 := leastTo_told ht hi hB0 hL0 hL hb h.hi _ (Nat.le_refl _)
  have h4 : ∀ k, 0 ≤ leastTo ts out i k := fun k => by
    induction k with
    | zero => exact Int.le_refl _
    | succ k ih => unfold leastTo; omega
  have h5 := h4 (befN ts i).length
  have h6 := h1.le
  unfold leastN at *
  exact ⟨s, h1, by omega, by omega⟩
theorem PlanI.step {ts : List Tk} {st out : List Int} {crew B S L tm : Int} {i : Nat} (h : PlanI ts st crew B out) (ht : SmTs ts) (hi : i < ts.length) (hm : nth out i = -1) (hb : toldB ts out i = true) (hne : needN ts i ≤ crew) (hS : nth st i ≤ S) (hL0 : 0 ≤ L) (hL : ∀ k, k < (befN ts i).length → nth (lagN ts i) k ≤ L) (htm : timeN ts i ≤ tm) (htm0 : 0 ≤ tm) (hB : S ≤ B) (hB0 : 0 ≤ B) :
    PlanI ts st crew (B + L + tm) (mendS ts st crew out i) ∧ ∃ s, 0 ≤ s ∧ mendS ts st crew out i = out.set i s := by
  obtain ⟨s, h1, h2, h3⟩ := h.fit ht hi hb hne hS hL0 hL hB hB0
  have hil : i < out.length := by rw [h.len]; exact hi
  have he : mendS ts st crew out i = out.set i s := by unfold mendS; rw [h1.eq]
  rw [he]
  refine ⟨⟨by rw [List.length_set]; exact h.len, fun j hj => ?_, fun j hj h0 => ?_, fun t => ?_, fun j hj h0 => ?_⟩, s, h2, rfl⟩
  · rw [nth_setM _ hil]; have := h.lo j hj; split <;> omega
  · rw [nth_setM _ hil] at h0 ⊢
    split
    · rename_i e; subst e; omega
    · rename_i e; rw [if_neg e] at h0; have := h.hi j hj h0; omega
  · rw [useO_set hil hm h2]
    have := h.use t
    split
    · rename_i q
      exact h1.free t q.2.1 q.2.2
    · omega
  · rw [nth_setM _ hil] at h0 ⊢
    by_cases e : i = j
    · subst e
      rw [if_pos rfl, leastN_set hm hil hb]
      have := h1.le
      exact ⟨by omega, by omega, toldB_set h2 hil hb⟩
    · rw [if_neg e] at h0 ⊢
      obtain ⟨a1, a2, a3⟩ := h.ok j hj h0
      rw [leastN_set hm hil a3]
      exact ⟨a1, a2, toldB_set h2 hil a3⟩
theorem PlanI.start {ts : List Tk} {st : List Int} {crew B : Int} (hc : 0 ≤ crew) : PlanI ts st crew B (noneL ts.length) :=
  ⟨by simp [noneL], fun j hj => by rw [nth_replicate hj]; omega, fun j hj h0 => by rw [nth_replicate hj] at h0; omega, fun t => by rw [useO_none _ _ _ _ (Nat.le_refl _)]; exact hc, fun j hj h0 => by rw [nth_replicate hj] at h0; omega⟩
/-- What is asked of the numbers. -/
structure PlanB (ts : List Tk) (st : List Int) (crew S L tm : Int) : Prop where
  sm : SmTs ts
  need : ∀ i, i < ts.length → needN ts i ≤ crew
  st : ∀ i, i < ts.length → nth st i ≤ S
  lag : ∀ i, i < ts.length → ∀ k, k < (befN ts i).length → nth (lagN ts i) k ≤ L
  time : ∀ i, i < ts.length → timeN ts i ≤ tm
  s0 : 0 ≤ S
  l0 : 0 ≤ L
  t0 : 0 ≤ tm
theorem mendL_plan {ts : List Tk} {st : List Int} {crew S L tm : Int} (hb : PlanB ts st crew S L tm) : ∀ (E out o : List Int) (B : Int), PlanI ts st crew B out → S ≤ B → (∀ y ∈ E, 0 ≤ y ∧ y < (ts.length : Int) ∧ nth out y.toNat = -1) → E.Pairwise (fun x y => x ≠ y) → mendL ts st crew E out = some o →
    PlanI ts st crew (B + (L + tm) * (E.length : Int)) o ∧ (∀ j, j < ts.length → 0 ≤ nth out j → nth o j = nth out j) ∧ ∀ y ∈ E, 0 ≤ nth o y.toNat
  | [], out, o, B, h, hS, _, _, he => by
    unfold mendL at he
    injection he with he
    subst he
    exact ⟨by simpa using h, fun _ _ _ => rfl, fun y hy => by cases hy⟩
  | i :: E, out, o, B, h, hS, hE, hd, he => by
    unfold mendL at he
    obtain ⟨hi0, hi1, hm⟩ := hE i List.mem_cons_self
    have hiT : i.toNat < ts.length := by omega
    have hil : i.toNat < out.length := by rw [h.len]; exact hiT
    split at he
    · rename_i htb
      obtain ⟨h2, s, s0, hs⟩ := h.step hb.sm hiT hm htb (hb.need _ hiT) (hb.st _ hiT) hb.l0 (hb.lag _ hiT) (hb.time _ hiT) hb.t0 hS (by have := hb.s0; omega)
      rw [List.pairwise_cons] at hd
      have hB : S ≤ B + L + tm := by have := hb.l0; have := hb.t0; omega
      obtain ⟨r1, r2, r3⟩ := mendL_plan hb E (mendS ts st crew out i.toNat) o (B + L + tm) h2 hB (fun y hy => by
        obtain ⟨q1, q2, q3⟩ := hE y (List.mem_cons_of_mem _ hy)
        refine ⟨q1, q2, ?_⟩
        rw [hs, nth_setM _ hil, if_neg (fun e => hd.1 y hy (by omega))]
        exact q3) hd.2 he
      have hset : ∀ j, j < ts.length → 0 ≤ nth out j → nth (mendS ts st crew out i.toNat) j = nth out j := fun j hj h0 => by
        rw [hs, nth_setM _ hil, if_neg (fun e => by rw [← e, hm] at h0; omega)]
      refine ⟨?_, fun j hj h0 => ?_, fun y hy => ?_⟩
      · have e : B + (L + tm) * ((i :: E).length : Int) = B + L + tm + (L + tm) * (E.length : Int) := by rw [List.length_cons]; push_cast; rw [Int.mul_add]; omega
        rw [e]; exact r1
      · have := hset j hj h0
        rw [← this]; exact r2 j hj (by rw [this]; exact h0)
      · rcases List.mem_cons.1 hy with e | e
        · subst e
          have h5 : nth (mendS ts st crew out y.toNat) y.toNat = s := by rw [hs, nth_setM _ hil, if_pos rfl]
          have := r2 y.toNat hiT (by rw [h5]; exact s0)
          rw [this, h5]; exact s0
        · exact r3 y e
    · cases he
theorem mendL_all {ts : List Tk} {st o E : List Int} {crew S L tm : Int} (hb : PlanB ts st crew S L tm) (hc : 0 ≤ crew) (hE : E.Perm (idL ts.length)) (he : mendL ts st crew E (noneL ts.length) = some o) :
    PlanI ts st crew (S + (L + tm) * (ts.length : Int)) o ∧ ∀ j, j < ts.length → 0 ≤ nth o j := by
  have hl : E.length = ts.length := by rw [hE.length_eq, idL_length]
  obtain ⟨r1, _, r3⟩ := mendL_plan hb E (noneL ts.length) o S (PlanI.start hc) (Int.le_refl _) (fun y hy => by
    have h := idL_mem.1 (hE.mem_iff.1 hy)
    exact ⟨h.1, h.2, nth_replicate (by omega)⟩) ((hE.pairwise_iff (fun h => Ne.symm h)).2 (idL_nodup _)) he
  rw [hl] at r1
  refine ⟨r1, fun j hj => ?_⟩
  have := r3 (j : Int) (hE.mem_iff.2 (idL_mem.2 (by omega)))
  simpa using this
theorem useN_useO {ts : List Tk} {o : List Int} {t : Int} : ∀ n, (∀ j, j < n → 0 ≤ nth o j) → useN ts o t n = useO ts o t n
  | 0, _ => rfl
  | n + 1, h => by
    unfold useN useO
    rw [useN_useO n (fun j hj => h j (by omega))]
    have := h n (by omega)
    by_cases q : runs ts o t n
    · rw [if_pos q, if_pos (by unfold runsO; unfold runs at q; omega)]
    · rw [if_neg q, if_neg (by unfold runsO; unfold runs at q; omega)]
theorem endTo_le {ts : List Tk} {o : List Int} {B : Int} (h0 : 0 ≤ B) : ∀ n, (∀ j, j < n → nth o j + timeN ts j ≤ B) → endTo ts o n ≤ B
  | 0, _ => h0
  | n + 1, h => by
    unfold endTo
    have := endTo_le h0 n (fun j hj => h j (by omega))
    have := h n (by omega)
    omega
/-- All are told: it is a plan. -/
theorem PlanI.planOk {ts : List Tk} {st o : List Int} {crew B : Int} (h : PlanI ts st crew B o) (ht : tasksOk ts = true) (hc : 0 ≤ crew ∧ crew ≤ 20) (hB : B ≤ 400) (hall : ∀ j, j < ts.length → 0 ≤ nth o j) : planOk ts o crew = true := by
  have hsm := tasks_sm ht
  have hB0 : 0 ≤ B := by
    have h1 := h.hi 0 (by have := hsm.n1; omega) (hall 0 (by have := hsm.n1; omega))
    have h2 := hall 0 (by have := hsm.n1; omega)
    have h3 := hsm.time 0 (by have := hsm.n1; omega)
    omega
  have hend : endTo ts o ts.length ≤ 400 := Int.le_trans (endTo_le hB0 _ fun j hj => h.hi j hj (hall j hj)) hB
  have hm : many o ts.length ts.length 0 100000 = true := many_true.2 ⟨by rw [h.len]; omega, by rw [h.len]; omega, by
    rw [List.all_eq_true]
    intro x hx
    obtain ⟨j, hj, rfl⟩ := List.getElem_of_mem hx
    rw [h.len] at hj
    have h1 := h.hi j hj (hall j hj)
    have h2 := hall j hj
    have h3 := hsm.time j hj
    rw [nth_eq (by rw [h.len]; exact hj)] at h1 h2
    exact win_true.2 ⟨h2, by omega⟩⟩
  unfold Go.Proofs.Ytcjeededlhdcbaa.planOk planHd usesOk
  simp only [Bool.and_eq_true, decide_eq_true_eq, List.all_eq_true, List.mem_range]
  refine ⟨⟨⟨⟨⟨ht, hm⟩, hend⟩, win_true.2 hc⟩, fun i hi => (h.ok i hi (hall i hi)).2.1⟩, fun t _ => ?_⟩
  rw [useN_useO _ hall]
  exact h.use t
end Go.Proofs.Ytcjeededlhdcbaa

namespace Go.Proofs.Ytcjeededlhdcbaa
open Go.RowKit
set_option linter.unusedVariables false
set_option linter.unusedSimpArgs false

theorem sub_len : ∀ (A B : List Int), A.Pairwise (fun x y => x ≠ y) → (∀ x ∈ A, x ∈ B) → A.length ≤ B.length
  | [], B, _, _ => Nat.zero_le _
  | a :: A, B, hd, hs => by
    rw [List.pairwise_cons] at hd
    have h1 := hs a List.mem_cons_self
    have h2 := sub_len A (B.erase a) hd.2 (fun x hx => (List.mem_erase_of_ne (Ne.symm (hd.1 x hx))).2 (hs x (List.mem_cons_of_mem _ hx)))
    have h3 := (List.perm_cons_erase h1).length_eq
    simp only [List.length_cons] at h3 ⊢
    omega
theorem sub_perm : ∀ (A B : List Int), A.Pairwise (fun x y => x ≠ y) → (∀ x ∈ A, x ∈ B) → B.length ≤ A.length → A.Perm B
  | [], B, _, _, hl => by rw [List.eq_nil_of_length_eq_zero (Nat.le_zero.1 hl)]
  | a :: A, B, hd, hs, hl => by
    rw [List.pairwise_cons] at hd
    have h1 := hs a List.mem_cons_self
    have h3 := (List.perm_cons_erase h1).length_eq
    simp only [List.length_cons] at h3 hl
    have h2 := sub_perm A (B.erase a) hd.2 (fun x hx => (List.mem_erase_of_ne (Ne.symm (hd.1 x hx))).2 (hs x (List.mem_cons_of_mem _ hx))) (by omega)
    exact (h2.cons a).trans (List.perm_cons_erase h1).symm
/-- Each once, behind all of its Before. -/
structure OrdOk (ts : List Tk) (E : List Int) : Prop where
  perm : E.Perm (idL ts.length)
  bef : ∀ k, k < ts.length → ∀ q, q < (befN ts (nth E k).toNat).length → nth (befN ts (nth E k).toNat) q ∈ E.take k
theorem OrdOk.len {ts : List Tk} {E : List Int} (h : E.Perm (idL ts.length)) : E.length = ts.length := by rw [h.length_eq, idL_length]
theorem perm_nodup {E : List Int} {n : Nat} (h : E.Perm (idL n)) : E.Pairwise (fun x y => x ≠ y) := (h.pairwise_iff (fun h => Ne.symm h)).2 (idL_nodup n)
/-- What is known behind k tasks. -/
structure TakeI (ts : List Tk) (st : List Int) (crew : Int) (E : List Int) (k : Nat) (out : List Int) : Prop where
  kn : k ≤ ts.length
  len : out.length = ts.length
  lo : ∀ j, j < ts.length → -1 ≤ nth out j
  hi : ∀ j, j < ts.length → nth out j + timeN ts j ≤ 500 + 300 * (k : Int)
  rem : mendL ts st crew (E.drop k) out = mendL ts st crew E (noneL ts.length)
  told : ∀ y ∈ E.take k, 0 ≤ nth out y.toNat
  not : ∀ y ∈ E.drop k, nth out y.toNat = -1
theorem takeI_start {ts : List Tk} {st : List Int} {crew : Int} {E : List Int} (ht : SmTs ts) (hE : E.Perm (idL ts.length)) : TakeI ts st crew E 0 (noneL ts.length) := by
  have hl : (noneL ts.length).length = ts.length := by simp [noneL]
  refine ⟨Nat.zero_le _, hl, fun j hj => by rw [nth_replicate hj]; omega, fun j hj => by rw [nth_replicate hj]; have := ht.time j hj; omega, rfl, fun y hy => by simp at hy, fun y hy => ?_⟩
  have h := idL_mem.1 (hE.mem_iff.1 (List.mem_of_mem_drop hy))
  exact nth_replicate (by omega)
theorem TakeI.next {ts : List Tk} {st : List Int} {crew : Int} {E out : List Int} {k : Nat} (h : TakeI ts st crew E k out) (hE : E.Perm (idL ts.length)) (hk : k < ts.length) :
    E.drop k = nth E k :: E.drop (k + 1) ∧ 0 ≤ nth E k ∧ (nth E k).toNat < ts.length ∧ nth out (nth E k).toNat = -1 := by
  have hl := OrdOk.len hE
  have h1 : E.drop k = nth E k :: E.drop (k + 1) := by rw [nth_eq (by omega)]; exact List.drop_eq_getElem_cons (by omega)
  have h2 : nth E k ∈ E.drop k := by rw [h1]; exact List.mem_cons_self
  have h3 := idL_mem.1 (hE.mem_iff.1 (List.mem_of_mem_drop h2))
  exact ⟨h1, h3.1, by omega, h.not _ h2⟩
theorem TakeI.fail {ts : List Tk} {st : List Int} {crew : Int} {E out : List Int} {k : Nat} (h : TakeI ts st crew E k out) (hE : E.Perm (idL ts.length)) (hk : k < ts.length) (ht : toldB ts out (nth E k).toNat = false) : mendL ts st crew E (noneL ts.length) = none := by
  have h1 := h.rem
  rw [(h.next hE hk).1] at h1
  conv at h1 => lhs; unfold mendL
  rw [if_neg (by rw [ht]; simp)] at h1
  exact h1.symm
theorem TakeI.done {ts : List Tk} {st : List Int} {crew : Int} {E out : List Int} (h : TakeI ts st crew E ts.length out) (hE : E.Perm (idL ts.length)) : mendL ts st crew E (noneL ts.length) = some out := by
  have hl := OrdOk.len hE
  have h1 := h.rem
  rw [List.drop_eq_nil_of_le (by omega)] at h1
  exact h1.symm
theorem TakeI.toldOk {ts : List Tk} {st : List Int} {crew : Int} {E out : List Int} {k : Nat} (h : TakeI ts st crew E k out) (hE : OrdOk ts E) (hk : k < ts.length) : toldB ts out (nth E k).toNat = true :=
  toldB_iff.2 fun q hq => h.told _ (hE.bef k hk q hq)
theorem TakeI.step {ts : List Tk} {st : List Int} {crew : Int} {E out : List Int} {k : Nat} {s : Int} (h : TakeI ts st crew E k out) (hE : E.Perm (idL ts.length)) (hk : k < ts.length) (hts : SmTs ts) (ht : toldB ts out (nth E k).toNat = true)
    (hs : Fit (fun t => useO ts out t ts.length) crew (needN ts (nth E k).toNat) (timeN ts (nth E k).toNat) (max (nth st (nth E k).toNat) (leastN ts out (nth E k).toNat)) s) (hs0 : 0 ≤ s) (hsB : s ≤ 600 + 300 * (k : Int)) :
    TakeI ts st crew E (k + 1) (out.set (nth E k).toNat s) := by
  have hl := OrdOk.len hE
  obtain ⟨h1, h2, h3, h4⟩ := h.next hE hk
  have hil : (nth E k).toNat < out.length := by rw [h.len]; exact h3
  refine ⟨hk, by rw [List.length_set]; exact h.len, fun j hj => ?_, fun j hj => ?_, ?_, fun y hy => ?_, fun y hy => ?_⟩
  · rw [nth_setM _ hil]
    have := h.lo j hj
    split <;> omega
  · rw [nth_setM _ hil]
    have := h.hi j hj
    have := hts.time j hj
    split <;> omega
  · have h5 := h.rem
    rw [h1] at h5
    conv at h5 => lhs; unfold mendL
    rw [if_pos ht] at h5
    unfold mendS at h5
    rw [hs.eq] at h5
    exact h5
  · rw [nth_setM _ hil]
    rw [List.take_succ_eq_append_getElem (by omega), List.mem_append] at hy
    split
    · exact hs0
    · rename_i e
      rcases hy with hy | hy
      · exact h.told y hy
      · exfalso; apply e
        rw [List.mem_singleton] at hy
        rw [hy, nth_eq (by omega)]
  · have hn := h.not y (by rw [h1]; exact List.mem_cons_of_mem _ hy)
    rw [nth_setM _ hil]
    split
    · rename_i e
      exfalso
      have hp2 := List.Pairwise.sublist (List.drop_sublist k E) (perm_nodup hE)
      rw [h1, List.pairwise_cons] at hp2
      have h6 := idL_mem.1 (hE.mem_iff.1 (List.mem_of_mem_drop hy))
      exact hp2.1 y hy (by omega)
    · exact hn
/-- No starts are asked for. -/
def zeroS (n : Nat) : List Int := List.replicate n 0
theorem zeroS_at (n j : Nat) : nth (zeroS n) j = 0 := by
  by_cases h : j < n
  · unfold zeroS; rw [nth_eq (by simpa using h)]; simp
  · exact nth_over (by simp [zeroS]; omega)
theorem leastTo_nn (ts : List Tk) (out : List Int) (i : Nat) : ∀ k, 0 ≤ leastTo ts out i k
  | 0 => Int.le_refl _
  | k + 1 => by unfold leastTo; have := leastTo_nn ts out i k; omega
theorem leastN_nn (ts : List Tk) (out : List Int) (i : Nat) : 0 ≤ leastN ts out i := leastTo_nn ts out i _
theorem max_zeroS (ts : List Tk) (out : List Int) (n i : Nat) : max (nth (zeroS n) i) (leastN ts out i) = leastN ts out i := by
  rw [zeroS_at]; have := leastN_nn ts out i; omega
/-- What is taken in an order. -/
noncomputable def takeL (ts : List Tk) (crew : Int) (E : List Int) : Option (List Int) := mendL ts (zeroS ts.length) crew E (noneL ts.length)

/-! The order of a rule. -/
def freeB (ts : List Tk) (E : List Int) (i : Nat) : Bool := !(E.contains (i : Int)) && (befN ts i).all fun b => E.contains b
def ruleTo (ts : List Tk) (key : Int → Int) : Nat → List Int
  | 0 => []
  | k + 1 => ruleTo ts key k ++ [pickK (freeB ts (ruleTo ts key k)) key ts.length]
theorem ruleTo_len (ts : List Tk) (key : Int → Int) : ∀ k, (ruleTo ts key k).length = k
  | 0 => rfl
  | k + 1 => by unfold ruleTo; rw [List.length_append, ruleTo_len ts key k]; rfl
/-- k numbers below n, each once: if k < n, then one is left, the least of those. -/
theorem left_one {E : List Int} {n : Nat} (hd : E.Pairwise (fun x y => x ≠ y)) (hk : E.length < n) : ∃ i : Nat, i < n ∧ (i : Int) ∉ E ∧ ∀ j : Nat, j < i → (j : Int) ∈ E := by
  have h : ∃ i : Nat, i < n ∧ (i : Int) ∉ E := by
    rcases Classical.em (∃ i : Nat, i < n ∧ (i : Int) ∉ E) with h | h
    · exact h
    · exfalso
      have hs : ∀ x ∈ idL n, x ∈ E := fun x hx => by
        have hx := idL_mem.1 hx
        rcases Classical.em (x ∈ E) with q | q
        · exact q
        · exact absurd ⟨x.toNat, by omega, by rw [Int.toNat_of_nonneg hx.1]; exact q⟩ h
      have := sub_len _ _ (idL_nodup n) hs
      rw [idL_length] at this
      omega
  obtain ⟨i, h1, h2⟩ := h
  obtain ⟨d, q1, q2, q3⟩ := least_one (P := fun i : Nat => (i : Int) ∉ E) i h2
  exact ⟨d, by omega, q2, fun j hj => Classical.not_not.1 (q3 j hj)⟩
structure RuleI (ts : List Tk) (E : List Int) (k : Nat) : Prop where
  len : E.length = k
  nodup : E.Pairwise (fun x y => x ≠ y)
  mem : ∀ x ∈ E, 0 ≤ x ∧ x < (ts.length : Int)
  bef : ∀ j, j < k → ∀ q, q < (befN ts (nth E j).toNat).length → nth (befN ts (nth E j).toNat) q ∈ E.take j
theorem RuleI.pick {ts : List Tk} {E : List Int} {k : Nat} {key : Int → Int} (h : RuleI ts E k) (ht : SmTs ts) (hk : k < ts.length) :
    0 ≤ pickK (freeB ts E) key ts.length ∧ pickK (freeB ts E) key ts.length < (ts.length : Int) ∧ freeB ts E (pickK (freeB ts E) key ts.length).toNat = true := by
  rcases pickK_spec (freeB ts E) key ts.length with ⟨h1, h2⟩ | ⟨h1, h2, h3, _⟩
  · exfalso
    obtain ⟨i, hi, hn, hb⟩ := left_one h.nodup (by rw [h.len]; exact hk)
    have h3 := h2 i hi
    unfold freeB at h3
    have h4 : E.contains (i : Int) = false := by simpa using hn
    rw [h4] at h3
    have h5 : ((befN ts i).all fun b => E.contains b) = true := by
      rw [List.all_eq_true]
      intro x hx
      obtain ⟨q, hq, rfl⟩ := List.getElem_of_mem hx
      have := ht.bef i hi q hq
      rw [nth_eq hq] at this
      have h6 := hb ((befN ts i)[q]).toNat (by omega)
      rw [Int.toNat_of_nonneg this.1] at h6
      simpa using h6
    rw [h5] at h3
    cases h3
  · exact ⟨h1, h2, h3⟩
theorem RuleI.next {ts : List Tk} {E : List Int} {k : Nat} {x : Int} (h : RuleI ts E k) (h0 : 0 ≤ x) (hx : x < (ts.length : Int)) (hf : freeB ts E x.toNat = true) : RuleI ts (E ++ [x]) (k + 1) := by
  unfold freeB at hf
  rw [Bool.and_eq_true, List.all_eq_true, Int.toNat_of_nonneg h0] at hf
  have hn : x ∉ E := by have := hf.1; simpa using this
  refine ⟨by rw [List.length_append, h.len]; rfl, ?_, fun y hy => ?_, fun j hj q hq => ?_⟩
  · rw [List.pairwise_append]
    exact ⟨h.nodup, List.pairwise_singleton _ _, fun a ha b hb => by rw [List.mem_singleton] at hb; subst hb; intro e; subst e; exact hn ha⟩
  · rcases List.mem_append.1 hy with hy | hy
    · exact h.mem y hy
    · rw [List.mem_singleton] at hy; subst hy; exact ⟨h0, hx⟩
  · by_cases e : j < k
    · have e1 : nth (E ++ [x]) j = nth E j := by rw [nth_eq (by rw [List.length_append, h.len]; simp; omega), nth_eq (by rw [h.len]; exact e), List.getElem_append_left (by rw [h.len]; exact e)]
      rw [e1] at hq ⊢
      rw [List.take_append_of_le_length (by rw [h.len]; omega)]
      exact h.bef j e q hq
    · obtain rfl : j = k := by omega
      have e1 : nth (E ++ [x]) j = x := by rw [nth_eq (by rw [List.length_append, h.len]; simp), List.getElem_append_right (by rw [h.len]; exact Nat.le_refl _)]; simp
      rw [e1] at hq ⊢
      rw [List.take_append_of_le_length (by rw [h.len]; omega), List.take_of_length_le (by rw [h.len]; omega)]
      have := hf.2 _ (nth_mem hq)
      simpa using this
theorem ruleTo_ok {ts : List Tk} {key : Int → Int} (ht : SmTs ts) : ∀ k, k ≤ ts.length → RuleI ts (ruleTo ts key k) k
  | 0, _ => ⟨rfl, List.Pairwise.nil, fun x hx => (List.not_mem_nil hx).elim, fun j hj => absurd hj (Nat.not_lt_zero _)⟩
  | k + 1, hk => by
    have h := ruleTo_ok (key := key) ht k (by omega)
    obtain ⟨h1, h2, h3⟩ := h.pick (key := key) ht (by omega)
    unfold ruleTo
    exact h.next h1 h2 h3
theorem RuleI.ord {ts : List Tk} {E : List Int} (h : RuleI ts E ts.length) : OrdOk ts E := by
  refine ⟨?_, h.bef⟩
  exact sub_perm _ _ h.nodup (fun x hx => idL_mem.2 (h.mem x hx)) (by rw [idL_length, h.len]; exact Nat.le_refl _)
end Go.Proofs.Ytcjeededlhdcbaa

namespace Go.Proofs.Ytcjeededlhdcbaa
open Go.RowKit
set_option linter.unusedVariables false
set_option linter.unusedSimpArgs false

def earlyTo (ts : List Tk) : Nat → List Int
  | 0 => zeroS ts.length
  | k + 1 => (earlyTo ts k).set k (leastN ts (earlyTo ts k) k)
def earlyN (ts : List Tk) : List Int := earlyTo ts ts.length
theorem earlyTo_len (ts : List Tk) : ∀ k, (earlyTo ts k).length = ts.length
  | 0 => by simp [earlyTo, zeroS]
  | k + 1 => by unfold earlyTo; rw [List.length_set]; exact earlyTo_len ts k
theorem leastTo_up {ts : List Tk} {out : List Int} {i : Nat} {B : Int} (ht : SmTs ts) (hi : i < ts.length) (hB : 0 ≤ B) (hh : ∀ j, j < i → nth out j ≤ B) : ∀ k, k ≤ (befN ts i).length → leastTo ts out i k ≤ B + 200
  | 0, _ => by unfold leastTo; omega
  | k + 1, hk => by
    have h1 := leastTo_up ht hi hB hh k (by omega)
    have h2 := ht.bef i hi k (by omega)
    have h3 := ht.lag i hi k (by omega)
    have h4 := hh (nth (befN ts i) k).toNat (by omega)
    have h5 := ht.time (nth (befN ts i) k).toNat (by omega)
    unfold leastTo
    omega
theorem earlyTo_bounds {ts : List Tk} (ht : SmTs ts) : ∀ k, k ≤ ts.length → ∀ j, 0 ≤ nth (earlyTo ts k) j ∧ nth (earlyTo ts k) j ≤ 200 * (k : Int)
  | 0, _, j => by unfold earlyTo; rw [zeroS_at]; omega
  | k + 1, hk, j => by
    have h := earlyTo_bounds ht k (by omega)
    have h1 : leastN ts (earlyTo ts k) k ≤ 200 * (k : Int) + 200 := leastTo_up ht (by omega) (by omega) (fun j _ => (h j).2) _ (Nat.le_refl _)
    have h2 := leastN_nn ts (earlyTo ts k) k
    unfold earlyTo
    rw [nth_setM _ (by rw [earlyTo_len]; omega)]
    have := h j
    split <;> omega
theorem earlyTo_sm {ts : List Tk} (ht : SmTs ts) (k : Nat) (hk : k ≤ ts.length) : SmSt (earlyTo ts k) ts.length :=
  ⟨earlyTo_len _ _, fun j _ => by have := earlyTo_bounds ht k hk j; have := ht.n16; omega⟩
/-- The greatest start: over the befores of task i, over the tasks behind. -/
def grK (ts : List Tk) (st : List Int) (p i : Nat) (m : Int) : Nat → Int
  | 0 => m
  | k + 1 => if nth (befN ts i) k = (p : Int) then min (grK ts st p i m k) (nth st i - nth (lagN ts i) k - timeN ts p) else grK ts st p i m k
def grI (ts : List Tk) (st : List Int) (p : Nat) (e : Int) : Nat → Int
  | 0 => e - timeN ts p
  | d + 1 => grK ts st p (p + 1 + d) (grI ts st p e d) (befN ts (p + 1 + d)).length
def greatN (ts : List Tk) (st : List Int) (p : Nat) (e : Int) : Int := grI ts st p e (ts.length - (p + 1))
theorem grK_bounds {ts : List Tk} {st : List Int} {p i : Nat} {m lo hi : Int} (ht : SmTs ts) (hp : p < ts.length) (hi' : i < ts.length) (hm : lo - 200 ≤ m ∧ m ≤ hi) (hs : lo ≤ nth st i) : ∀ k, k ≤ (befN ts i).length → lo - 200 ≤ grK ts st p i m k ∧ grK ts st p i m k ≤ hi
  | 0, _ => hm
  | k + 1, hk => by
    have h := grK_bounds ht hp hi' hm hs k (by omega)
    have h1 := ht.lag i hi' k (by omega)
    have h2 := ht.time p hp
    unfold grK
    split <;> omega
theorem grI_bounds {ts : List Tk} {st : List Int} {p : Nat} {e lo : Int} (ht : SmTs ts) (hp : p < ts.length) (he : 0 ≤ e) (hlo : lo ≤ 0) (hs : ∀ j, j < ts.length → lo ≤ nth st j) : ∀ d, p + 1 + d ≤ ts.length → lo - 200 ≤ grI ts st p e d ∧ grI ts st p e d ≤ e
  | 0, _ => by unfold grI; have := ht.time p hp; omega
  | d + 1, hd => by
    have h := grI_bounds ht hp he hlo hs d (by omega)
    unfold grI
    exact grK_bounds ht hp (by omega) h (hs _ (by omega)) _ (Nat.le_refl _)
theorem greatN_bounds {ts : List Tk} {st : List Int} {p : Nat} {e lo : Int} (ht : SmTs ts) (hp : p < ts.length) (he : 0 ≤ e) (hlo : lo ≤ 0) (hs : ∀ j, j < ts.length → lo ≤ nth st j) : lo - 200 ≤ greatN ts st p e ∧ greatN ts st p e ≤ e := grI_bounds ht hp he hlo hs _ (by omega)
def lateTo (ts : List Tk) (e : Int) : Nat → List Int
  | 0 => zeroS ts.length
  | d + 1 => (lateTo ts e d).set (ts.length - 1 - d) (greatN ts (lateTo ts e d) (ts.length - 1 - d) e)
def lateN (ts : List Tk) (e : Int) : List Int := lateTo ts e ts.length
theorem lateTo_len (ts : List Tk) (e : Int) : ∀ k, (lateTo ts e k).length = ts.length
  | 0 => by simp [lateTo, zeroS]
  | k + 1 => by unfold lateTo; rw [List.length_set]; exact lateTo_len ts e k
theorem lateTo_bounds {ts : List Tk} {e : Int} (ht : SmTs ts) (he : 0 ≤ e) : ∀ d, d ≤ ts.length → ∀ j, -(200 * (d : Int)) ≤ nth (lateTo ts e d) j ∧ nth (lateTo ts e d) j ≤ e
  | 0, _, j => by unfold lateTo; rw [zeroS_at]; omega
  | d + 1, hd, j => by
    have h := lateTo_bounds ht he d (by omega)
    have h1 := greatN_bounds (st := lateTo ts e d) (p := ts.length - 1 - d) ht (by omega) he (lo := -(200 * (d : Int))) (by omega) (fun j _ => (h j).1)
    unfold lateTo
    rw [nth_setM _ (by rw [lateTo_len]; omega)]
    have := h j
    split <;> omega
def endN (ts : List Tk) : Int := endTo ts (earlyN ts) ts.length
theorem endN_bounds {ts : List Tk} (ht : SmTs ts) : 0 ≤ endN ts ∧ endN ts ≤ 1000100 := endTo_bounds ht (earlyTo_sm ht _ (Nat.le_refl _)) _ (Nat.le_refl _)
/-- How much later tasks can start. -/
def slackN (ts : List Tk) : List Int := (List.range ts.length).map fun i => nth (lateN ts (endN ts)) i - nth (earlyN ts) i
theorem slackN_len (ts : List Tk) : (slackN ts).length = ts.length := by simp [slackN]
theorem slackN_at {ts : List Tk} {i : Nat} (hi : i < ts.length) : nth (slackN ts) i = nth (lateN ts (endN ts)) i - nth (earlyN ts) i := by
  rw [nth_eq (by rw [slackN_len]; exact hi)]; simp [slackN]
/-- What a rule goes by. -/
def keyR (ts : List Tk) (kind : Int) (x : Int) : Int :=
  if kind = 1 then -timeN ts x.toNat else if kind = 2 then nth (slackN ts) x.toNat else if kind = 3 then -timeN ts x.toNat * needN ts x.toNat else nth (lateN ts (endN ts)) x.toNat
def ruleN (ts : List Tk) (kind : Int) : List Int := ruleTo ts (keyR ts kind) ts.length
theorem ruleN_ok {ts : List Tk} (ht : SmTs ts) (kind : Int) : OrdOk ts (ruleN ts kind) := (ruleTo_ok ht _ (Nat.le_refl _)).ord
end Go.Proofs.Ytcjeededlhdcbaa

namespace Go.Proofs.Ytcjeededlhdcbaa
open Go.RowKit
set_option linter.unusedVariables false
set_option linter.unusedSimpArgs false

theorem conv_const (w : World) (C : Array Value) (n c : Nat) : (convert 22 22 (.slice (some ⟨w.heap.size, 0, none⟩) n c)).run Try.prog (w.alloc (.cells C 5)) = .ok (.slice (some ⟨w.heap.size, 0, none⟩) n c) (w.alloc (.cells C 5 (C.size, C.size + 1))) :=
  Lib.run_convert_bytes_const w 22 5 C n c Try.underlying22 Try.underlying5

theorem append_fullY {ops : Array Oper} {rest : List Oper} {o : Oper} {a : Act} {Q : Exit → Act → World → Prop} {W : World} (hgd : o.guard = none) (s x : Operand)
    (ho : o.op = .call { callee := .builtin .append, args := #[s, x], argTypes := #[22, 22] }) (g : Nat) (xs ys : List Int) (hy : 0 < ys.length)
    (hs : a.eval s = .slice (some ⟨g, 0, none⟩) xs.length xs.length) (hcell : ∀ i, i < xs.length → W.cell? ⟨g, i, none⟩ = some (.int .u8 (xs.getD i 0))) (hg : g < W.heap.size) (c : Nat) (hx : a.eval x = .slice (some ⟨W.heap.size, 0, none⟩) ys.length c) (hsmall : xs.length + ys.length ≤ 1099511627776)
    (hK : ∀ g' c' w', OwnY w' W.heap.size (.slice (some ⟨g', 0, none⟩) (xs ++ ys).length c') (xs ++ ys) → Below W.heap.size W w' → wpList Try.prog ops Q rest (a.put o.dst (.slice (some ⟨g', 0, none⟩) (xs ++ ys).length c')) w') :
    wpList Try.prog ops Q (o :: rest) a (W.alloc (.cells (ys.map (Value.int .u8)).toArray 5)) := by
  obtain ⟨i0, hi, hz0, hz1, hz2⟩ := info_parts info_u8
  refine wpList_append_grows _ hgd s x 22 ho 5 i0 (.int .u8 0) 1 1 Try.underlying22 hi hz0 hz1 hz2 rfl (by decide) (some ⟨g, 0, none⟩) xs.length xs.length (xs.map (Value.int .u8)) hs (fun e => by cases e) (by simp) ?_ ⟨W.heap.size, 0, none⟩ ys.length c (ys.map (Value.int .u8)) hx (by simp) (cells_lit W _ _) ?_ (by omega) (by unfold maxLen; omega) (by omega) ?_
  · rintro b hb j u hj
    cases hb
    have hjl : j < xs.length := by
      have := (List.getElem?_eq_some_iff.1 hj).1
      simpa using this
    have hadd : (⟨g, 0, none⟩ : Addr).add j = ⟨g, j, none⟩ := by unfold Addr.add; split <;> simp_all
    rw [hadd, World.cell?_of_block (Below.heap_alloc _ _ _ hg), hcell j hjl]
    simp [List.getElem?_eq_getElem hjl] at hj
    rw [← hj]; simp [List.getD_eq_getElem?_getD, List.getElem?_eq_getElem hjl]
  · intro u hu; obtain ⟨y, _, rfl⟩ := List.mem_map.1 hu; rfl
  · intro v' w' h1 h2
    have h3 : OwnY w' W.heap.size v' (xs ++ ys) := by
      have : OwnY w' (W.alloc (.cells (ys.map (Value.int .u8)).toArray 5)).heap.size v' (xs ++ ys) := by
        unfold OwnY; rw [List.map_append, List.length_append]; exact h1
      exact this.mono (by simp)
    have hb : Below W.heap.size W w' := ((Below.refl _ W).alloc (Nat.le_refl _) _).grown h2 (by simp) (fun k e => by cases e)
    rcases h3.2 with ⟨_, h5⟩ | ⟨g', cap, cur, rfl, _⟩
    · simp at h5; rw [h5.2] at hy; simp at hy
    · exact hK g' cap w' h3 hb
theorem OwnY.drew {w : World} {B : Nat} {v : Value} {xs : List Int} (h : OwnY w B v xs) : OwnY w.drew B v xs := World.ownsRow.drew h
/-- 'append(b, s...)' of a text where the region draws its order. -/
theorem step_text {ops : Array Oper} {o : Oper} {a : Act} {K : Act → World → Prop} {Q : Exit → Act → World → Prop} {E : Prop} {W : World} (hgd : o.guard = none) (sl x : Operand)
    (ho : o.op = .call { callee := .builtin .append, args := #[sl, x], argTypes := #[22, 9] }) (B : Nat) (v : Value) (xs : List Int) (hs : a.eval sl = v) (s : ByteArray) (hx : a.eval x = .string s) (hown : OwnY W B v xs) (h0 : 0 < xs.length) (hB : B ≤ W.heap.size) (hsmall : xs.length + s.size ≤ 1099511627776)
    (hK : ∀ g c w', OwnY w' B (.slice (some ⟨g, 0, none⟩) (xs ++ chs s).length c) (xs ++ chs s) → W.grownBy w' v.ownBlock → K (a.put o.dst (.slice (some ⟨g, 0, none⟩) (xs ++ chs s).length c)) w') :
    if Region.wanted o (yielded ops a.tmps) = true then Oper.wp Try.prog o a W K Q else E := by
  have hw : Region.wanted o (yielded ops a.tmps) = true := by simp [Region.wanted, hgd]
  rw [if_pos hw]
  obtain ⟨i0, hi, hz0, hz1, hz2⟩ := info_parts info_u8
  obtain ⟨v', w', hr, h1, h2, h3⟩ := Lib.run_append_own_string (P := Try.prog) W B 22 9 o.type 5 i0 Try.underlying22 Try.underlying9 hi hz0 hz1 hz2 v xs.length _ hown s (by unfold maxLen; omega) (by omega) hB
  have h4 : OwnY w' B v' (xs ++ chs s) := by
    unfold OwnY
    rw [List.map_append, ← chs_cells, List.length_append, chs_length]
    exact h1
  unfold Oper.wp execOp
  simp only [ho, resolve, invoke, builtin, Sem.run_bind, Sem.run_pure, Result.andThen_ok, List.map_toArray, List.map_cons, List.map_nil, hs, hx, hr]
  rcases h4.2 with ⟨_, h5⟩ | ⟨g, cap, cur, rfl, _⟩
  · simp at h5; rw [h5.1] at h0; simp at h0
  · exact hK g cap w' h4 h2
/-- 'append(b, x, ..)' where the region draws its order; the bytes to be appended lie anywhere. -/
theorem step_y {ops : Array Oper} {o : Oper} {a : Act} {K : Act → World → Prop} {Q : Exit → Act → World → Prop} {E : Prop} {W : World} (hgd : o.guard = none) (s x : Operand)
    (ho : o.op = .call { callee := .builtin .append, args := #[s, x], argTypes := #[22, 22] }) (B : Nat) (v : Value) (xs ys : List Int) (hy : 0 < ys.length)
    (hs : a.eval s = v) (lb c : Nat) (hx : a.eval x = .slice (some ⟨lb, 0, none⟩) ys.length c) (hown : OwnY W B v xs) (hcell : ∀ j u, (ys.map (Value.int .u8))[j]? = some u → W.cell? ((⟨lb, 0, none⟩ : Addr).add j) = some u) (hB : B ≤ W.heap.size) (hsmall : xs.length + ys.length ≤ 1099511627776)
    (hK : ∀ g c w', OwnY w' B (.slice (some ⟨g, 0, none⟩) (xs ++ ys).length c) (xs ++ ys) → W.grownBy w' v.ownBlock → K (a.put o.dst (.slice (some ⟨g, 0, none⟩) (xs ++ ys).length c)) w') :
    if Region.wanted o (yielded ops a.tmps) = true then Oper.wp Try.prog o a W K Q else E := by
  obtain ⟨i0, hi, hz0, hz1, hz2⟩ := info_parts info_u8
  refine step_append_lies _ hgd s x 22 ho B 5 i0 (.int .u8 0) 1 1 Try.underlying22 hi hz0 hz1 hz2 rfl (by decide) v xs.length _ hs hown ⟨lb, 0, none⟩ ys.length c (ys.map (Value.int .u8)) hx (by simp) hcell ?_ hy (by unfold maxLen; omega) (by omega) hB W.heap.size rfl ?_
  · intro u hu; obtain ⟨y, _, rfl⟩ := List.mem_map.1 hu; rfl
  · intro g cap w' h1 h2 _ _
    have h4 : OwnY w' B (.slice (some ⟨g, 0, none⟩) (xs ++ ys).length cap) (xs ++ ys) := by
      unfold OwnY; rw [List.map_append, List.length_append]; exact h1
    have := hK g cap w' h4 h2
    rwa [List.length_append] at this
theorem lit_kept {W w' : World} {ys : List Int} {row : Option Nat} (hg : (W.alloc (.cells (ys.map (Value.int .u8)).toArray 5)).grownBy w' row) (hr : ∀ k, row = some k → k < W.heap.size) : ∀ j u, (ys.map (Value.int .u8))[j]? = some u → w'.cell? ((⟨W.heap.size, 0, none⟩ : Addr).add j) = some u := fun j u hj => by
  have h1 := cells_lit W (ys.map (Value.int .u8)) 5 j u hj
  have hadd : ((⟨W.heap.size, 0, none⟩ : Addr).add j).block = W.heap.size := by unfold Addr.add; split <;> rfl
  rw [World.cell?_of_block (hg.block _ (by rw [hadd]; simp) (by rw [hadd]; intro e; have := hr _ e.symm; omega))]
  exact h1
/-- The same laws, the new length under a name. -/
theorem step_textN {ops : Array Oper} {o : Oper} {a : Act} {K : Act → World → Prop} {Q : Exit → Act → World → Prop} {E : Prop} {W : World} (hgd : o.guard = none) (sl x : Operand)
    (ho : o.op = .call { callee := .builtin .append, args := #[sl, x], argTypes := #[22, 9] }) (B : Nat) (v : Value) (xs : List Int) (hs : a.eval sl = v) (s : ByteArray) (hx : a.eval x = .string s) (hown : OwnY W B v xs) (h0 : 0 < xs.length) (hB : B ≤ W.heap.size) (hsmall : xs.length + s.size ≤ 1099511627776)
    (hK : ∀ g c n w', Hid (n = (xs ++ chs s).length) → OwnY w' B (.slice (some ⟨g, 0, none⟩) n c) (xs ++ chs s) → W.grownBy w' v.ownBlock → K (a.put o.dst (.slice (some ⟨g, 0, none⟩) n c)) w') :
    if Region.wanted o (yielded ops a.tmps) = true then Oper.wp Try.prog o a W K Q else E :=
  step_text hgd sl x ho B v xs hs s hx hown h0 hB hsmall fun g c w' h1 h2 => hK g c _ w' rfl h1 h2
theorem step_yN {ops : Array Oper} {o : Oper} {a : Act} {K : Act → World → Prop} {Q : Exit → Act → World → Prop} {E : Prop} {W : World} (hgd : o.guard = none) (s x : Operand)
    (ho : o.op = .call { callee := .builtin .append, args := #[s, x], argTypes := #[22, 22] }) (B : Nat) (v : Value) (xs ys : List Int) (hy : 0 < ys.length)
    (hs : a.eval s = v) (lb c : Nat) (hx : a.eval x = .slice (some ⟨lb, 0, none⟩) ys.length c) (hown : OwnY W B v xs) (hcell : ∀ j u, (ys.map (Value.int .u8))[j]? = some u → W.cell? ((⟨lb, 0, none⟩ : Addr).add j) = some u) (hB : B ≤ W.heap.size) (hsmall : xs.length + ys.length ≤ 1099511627776)
    (hK : ∀ g c n w', Hid (n = (xs ++ ys).length) → OwnY w' B (.slice (some ⟨g, 0, none⟩) n c) (xs ++ ys) → W.grownBy w' v.ownBlock → K (a.put o.dst (.slice (some ⟨g, 0, none⟩) n c)) w') :
    if Region.wanted o (yielded ops a.tmps) = true then Oper.wp Try.prog o a W K Q else E :=
  step_y hgd s x ho B v xs ys hy hs lb c hx hown hcell hB hsmall fun g c w' h1 h2 => hK g c _ w' rfl h1 h2
theorem append_yN {ops : Array Oper} {rest : List Oper} {o : Oper} {a : Act} {Q : Exit → Act → World → Prop} {W : World} (hgd : o.guard = none) (s x : Operand)
    (ho : o.op = .call { callee := .builtin .append, args := #[s, x], argTypes := #[22, 22] }) (B : Nat) (v : Value) (xs ys : List Int) (hy : 0 < ys.length)
    (hs : a.eval s = v) (c : Nat) (hx : a.eval x = .slice (some ⟨W.heap.size, 0, none⟩) ys.length c) (hown : OwnY W B v xs) (hB : B ≤ W.heap.size) (hsmall : xs.length + ys.length ≤ 1099511627776)
    (hK : ∀ g c n w', Hid (n = (xs ++ ys).length) → OwnY w' B (.slice (some ⟨g, 0, none⟩) n c) (xs ++ ys) → W.grownBy w' v.ownBlock → wpList Try.prog ops Q rest (a.put o.dst (.slice (some ⟨g, 0, none⟩) n c)) w') :
    wpList Try.prog ops Q (o :: rest) a (W.alloc (.cells (ys.map (Value.int .u8)).toArray 5)) :=
  append_y hgd s x ho B v xs ys hy hs c hx hown hB hsmall fun g c w' h1 h2 => by
    have := hK g c _ w' rfl (by rw [List.length_append]; exact h1) h2
    rwa [List.length_append] at this
theorem ownY_ne {w : World} {B b T : Nat} {v : Value} {xs : List Int} {cs : List Value} (h : OwnY w B v xs) (k : Blk w b T cs) (hT : T ≠ 5) : v.ownBlock ≠ some b := by
  rcases h.2 with ⟨rfl, _⟩ | ⟨g, cap, cur, rfl, hb, hg, _⟩
  · intro e; cases e
  · intro e
    have : g = b := by simpa [Value.ownBlock] using e
    subst this
    rw [show w.heap[g]? = _ from k] at hg
    simp at hg
    exact hT hg.2
theorem append_fromYN {ops : Array Oper} {rest : List Oper} {o : Oper} {a : Act} {Q : Exit → Act → World → Prop} {W : World} (hgd : o.guard = none) (s x : Operand)
    (ho : o.op = .call { callee := .builtin .append, args := #[s, x], argTypes := #[22, 22] }) (B : Nat) (v : Value) (xs ys : List Int) (hy : 0 < ys.length)
    (hs : a.eval s = v) (b off m c : Nat) (hm : m = ys.length) (hx : a.eval x = .slice (some ⟨b, off, none⟩) m c) (hcells : ∀ i (h : i < ys.length), W.cell? ⟨b, off + i, none⟩ = some (.int .u8 ys[i])) (hown : OwnY W B v xs) (hB : B ≤ W.heap.size) (hsmall : xs.length + ys.length ≤ 1099511627776)
    (hK : ∀ g c n w', Hid (n = (xs ++ ys).length) → OwnY w' B (.slice (some ⟨g, 0, none⟩) n c) (xs ++ ys) → W.grownBy w' v.ownBlock → wpList Try.prog ops Q rest (a.put o.dst (.slice (some ⟨g, 0, none⟩) n c)) w') :
    wpList Try.prog ops Q (o :: rest) a W := by
  subst hm
  exact append_fromY hgd s x ho B v xs ys hy hs b off c hx hcells hown hB hsmall fun g c w' h1 h2 => by
    have := hK g c _ w' rfl (by rw [List.length_append]; exact h1) h2
    rwa [List.length_append] at this
theorem step_append_yN {ops : Array Oper} {o : Oper} {a : Act} {K : Act → World → Prop} {Q : Exit → Act → World → Prop} {E : Prop} {W : World} (hgd : o.guard = none) (s x : Operand)
    (ho : o.op = .call { callee := .builtin .append, args := #[s, x], argTypes := #[22, 22] }) (B : Nat) (v : Value) (xs ys : List Int) (hy : 0 < ys.length)
    (hs : a.eval s = v) (c : Nat) (hx : a.eval x = .slice (some ⟨W.heap.size, 0, none⟩) ys.length c) (hown : OwnY W B v xs) (hB : B ≤ W.heap.size) (hsmall : xs.length + ys.length ≤ 1099511627776)
    (hK : ∀ g c n w', Hid (n = (xs ++ ys).length) → OwnY w' B (.slice (some ⟨g, 0, none⟩) n c) (xs ++ ys) → W.grownBy w' v.ownBlock → K (a.put o.dst (.slice (some ⟨g, 0, none⟩) n c)) w') :
    if Region.wanted o (yielded ops a.tmps) = true then Oper.wp Try.prog o a (W.alloc (.cells (ys.map (Value.int .u8)).toArray 5)).drew K Q else E :=
  step_append_y hgd s x ho B v xs ys hy hs c hx hown hB hsmall fun g c w' h1 h2 => by
    have := hK g c _ w' rfl (by rw [List.length_append]; exact h1) h2
    rwa [List.length_append] at this
theorem u8_wrap (n : Int) : IntKind.u8.wrap n = n % 256 := by simp [IntKind.wrap, IntKind.signed, IntKind.bits]
theorem conv_yN {w : World} {B g n c : Nat} {xs : List Int} (hn : n = xs.length) (h : OwnY w B (.slice (some ⟨g, 0, none⟩) n c) xs) : (convert 22 9 (.slice (some ⟨g, 0, none⟩) n c)).run Try.prog w = .ok (.string (strOfNums xs)) w := by
  subst hn; exact conv_y h
theorem cutg {G : Prop} (h : Hid G) : G := h.out
theorem cut_shareB {P G : Prop} (main : P) (cont : Hid P → G) : G := cont (Lib.hid main)
end Go.Proofs.Ytcjeededlhdcbaa

namespace Go.Proofs.Ytcjeededlhdcbaa
open Go.RowKit Go.BigFrame
set_option linter.unusedVariables false
set_option linter.unusedSimpArgs false
attribute [local go_sem] Oper.semAt_some

end Go.Proofs.Ytcjeededlhdcbaa

namespace Go.Proofs.Ytcjeededlhdcbaa
open Go.RowKit Go.BigFrame
set_option linter.unusedVariables false
set_option linter.unusedSimpArgs false
attribute [local go_sem] Oper.semAt_some

end Go.Proofs.Ytcjeededlhdcbaa

namespace Go.Proofs.Ytcjeededlhdcbaa
open Go.RowKit Go.BigFrame
set_option linter.unusedVariables false
set_option linter.unusedSimpArgs false

def storeR (x : Sv) : ByteArray := if savedOk x = true then storeS x else ⟨#[]⟩
theorem storeR_yes {x : Sv} (h : savedOk x = true) : storeR x = storeS x := by unfold storeR; rw [if_pos h]
theorem storeR_no {x : Sv} (h : savedOk x = false) : storeR x = ⟨#[]⟩ := by unfold storeR; rw [h]; rfl

end Go.Proofs.Ytcjeededlhdcbaa

namespace Go.Proofs.Ytcjeededlhdcbaa
open Go.RowKit Go.Shelf Go.BigFrame
set_option linter.unusedVariables false
set_option linter.unusedSimpArgs false

/-- A plan whose slices are the call's own. -/
def OwnSv (w : World) (lo : Nat) (vt vs : Value) (x : Sv) : Prop := ∃ raw mid, OwnV 40 4 w lo vt x.2.1.length raw ∧ (∀ k, vt.ownBlock = some k → k < mid) ∧ TksOwn w lo mid raw x.2.1 ∧ OwnI w mid vs x.2.2 ∧ lo ≤ mid
theorem nilV (T size : Nat) (w : World) (B : Nat) : OwnV T size w B (.slice none 0 0) 0 [] := ⟨by simp, .inl ⟨rfl, rfl⟩⟩
theorem nilI (w : World) (B : Nat) : OwnI w B (.slice none 0 0) [] := ⟨by simp, .inl ⟨rfl, rfl⟩⟩
theorem OwnSv.nil (w : World) (lo : Nat) : OwnSv w lo (.slice none 0 0) (.slice none 0 0) (ByteArray.empty, [], []) := ⟨[], lo, nilV _ _ _ _, (fun k hk => by cases hk), TksOwn.nil (Nat.le_refl _), nilI _ _, Nat.le_refl _⟩
/-- The cells of a plan. -/
def svC (nm : ByteArray) (vt vs : Value) : List Value := [.string nm, vt, vs]

theorem ownsRow_kept {w w' : World} {N T size n : Nat} {v : Value} {raw : List Value} {row : Option Nat} {lo hi : Nat} (h : OwnV T size w lo v n raw) (hb : ∀ j, v.ownBlock = some j → j < hi) (hg : w.grownBy w' row) (hr : ∀ k, row = some k → k < lo ∨ hi ≤ k) : OwnV T size w' lo v n raw := by
  refine h.kept hg ?_
  cases hv : v.ownBlock with
  | none => exact .inl rfl
  | some j =>
    refine .inr (fun e => ?_)
    have h1 := (h.lt j hv).1
    have h2 := hb j hv
    rcases hr j e.symm with h3 | h3 <;> omega
theorem owns_kept {W W' : World} {X T : Nat} {vb vl : Value} {bs ls : List Int} (h : OwnI W (X + 1) vb bs ∧ OwnI W (X + 1) vl ls ∧ (vb.ownBlock = none ∨ vb.ownBlock ≠ vl.ownBlock)) (hg : W.grownBy W' (some T)) (hT : T ≤ X) : OwnI W' (X + 1) vb bs ∧ OwnI W' (X + 1) vl ls ∧ (vb.ownBlock = none ∨ vb.ownBlock ≠ vl.ownBlock) := by
  have key : ∀ {v : Value} {xs : List Int}, OwnI W (X + 1) v xs → OwnI W' (X + 1) v xs := fun {v xs} h => by
    refine h.kept hg ?_
    cases hv : v.ownBlock with
    | none => exact .inl rfl
    | some j =>
      refine .inr (fun e => ?_)
      have := (h.lt j hv).1
      cases e
      omega
  exact ⟨key h.1, key h.2.1, h.2.2⟩
theorem app_out {W : World} {X T : Nat} {vb : Value} {bs : List Int} (h : OwnI W (X + 1) vb bs) : ∀ j, vb.ownBlock = some j → j = T ∨ X ≤ j := fun j e => .inr (by have := (h.lt j e).1; omega)
theorem owns_app1 {W W' : World} {X g n c : Nat} {vb vl : Value} {bs bs' ls : List Int} (h : OwnI W (X + 1) vb bs ∧ OwnI W (X + 1) vl ls ∧ (vb.ownBlock = none ∨ vb.ownBlock ≠ vl.ownBlock)) (ho : OwnI W' (X + 1) (.slice (some ⟨g, 0, none⟩) n c) bs') (hg : W.grownBy W' vb.ownBlock) (hl : vb.ownBlock = some g ∨ g = W.heap.size + 1) :
    OwnI W' (X + 1) (.slice (some ⟨g, 0, none⟩) n c) bs' ∧ OwnI W' (X + 1) vl ls ∧ ((Value.slice (some ⟨g, 0, none⟩) n c).ownBlock = none ∨ (Value.slice (some ⟨g, 0, none⟩) n c).ownBlock ≠ vl.ownBlock) := by
  have hne : vl.ownBlock = none ∨ vl.ownBlock ≠ vb.ownBlock := by
    rcases h.2.2 with h1 | h1
    · rw [h1]
      cases vl.ownBlock with
      | none => exact .inl rfl
      | some j => exact .inr (by simp)
    · exact .inr (Ne.symm h1)
  refine ⟨ho, h.2.1.kept hg hne, .inr ?_⟩
  show some g ≠ vl.ownBlock
  intro e
  rcases hl with h1 | h1
  · rcases h.2.2 with h2 | h2
    · rw [h2] at h1; cases h1
    · exact h2 (h1.trans e)
  · have := (h.2.1.lt g e.symm).2
    omega
theorem owns_app2 {W W' : World} {X g n c : Nat} {vb vl : Value} {bs ls ls' : List Int} (h : OwnI W (X + 1) vb bs ∧ OwnI W (X + 1) vl ls ∧ (vb.ownBlock = none ∨ vb.ownBlock ≠ vl.ownBlock)) (ho : OwnI W' (X + 1) (.slice (some ⟨g, 0, none⟩) n c) ls') (hg : W.grownBy W' vl.ownBlock) (hl : vl.ownBlock = some g ∨ g = W.heap.size + 1) :
    OwnI W' (X + 1) vb bs ∧ OwnI W' (X + 1) (.slice (some ⟨g, 0, none⟩) n c) ls' ∧ (vb.ownBlock = none ∨ vb.ownBlock ≠ (Value.slice (some ⟨g, 0, none⟩) n c).ownBlock) := by
  refine ⟨h.1.kept hg h.2.2, ho, ?_⟩
  cases hv : vb.ownBlock with
  | none => exact .inl rfl
  | some j =>
    refine .inr ?_
    show some j ≠ some g
    intro e
    cases e
    rcases hl with h1 | h1
    · rcases h.2.2 with h2 | h2
      · rw [h2] at hv; cases hv
      · exact h2 (hv.trans h1.symm)
    · have := (h.1.lt g hv).2
      omega
theorem cut_shareT {P G : Prop} (main : P) (cont : Hid P → G) : G := cont (Lib.hid main)
theorem app_ne {W : World} {X b : Nat} {vb : Value} {bs : List Int} (h : OwnI W (X + 1) vb bs) (hb : b ≤ X) : some b ≠ vb.ownBlock := fun e => by
  have := (h.lt b e.symm).1
  omega
theorem OwnV.form {T size n : Nat} {w : World} {B : Nat} {v : Value} {raw : List Value} (h : OwnV T size w B v n raw) : ∃ a l c, v = .slice a l c := by
  rcases h.2 with ⟨h1, _⟩ | ⟨g, cap, cur, h1, _⟩
  · exact ⟨_, _, _, h1⟩
  · exact ⟨_, _, _, h1⟩
theorem OwnI.form {w : World} {B : Nat} {v : Value} {xs : List Int} (h : OwnI w B v xs) : ∃ a l c, v = .slice a l c := by
  rcases h.2 with ⟨h1, _⟩ | ⟨g, cap, cur, h1, _⟩
  · exact ⟨_, _, _, h1⟩
  · exact ⟨_, _, _, h1⟩
theorem grown_set3 (W : World) (R : Nat) (a b c : Value) : W.grownBy (((W.setCell ⟨R, 0, none⟩ a).setCell ⟨R, 1, none⟩ b).setCell ⟨R, 2, none⟩ c) (some R) :=
  grownBy_trans (grownBy_trans (grown_set W ⟨R, 0, none⟩ a) (grown_set _ ⟨R, 1, none⟩ b)) (grown_set _ ⟨R, 2, none⟩ c)
theorem ownT_ne {W : World} {X b : Nat} {vs : Value} {xs : List Int} (h : OwnI W X vs xs) (hb : b < X) : vs.ownBlock ≠ some b := fun e => by
  have := (h.lt b e).1
  omega
theorem ownT_ne' {W : World} {X b : Nat} {vs : Value} {xs : List Int} (h : OwnI W X vs xs) (hb : b < X) : some b ≠ vs.ownBlock := fun e => ownT_ne h hb e.symm
theorem below3 {R : Nat} {w W : World} (h : Below R w W) (a b c : Value) : Below R w (((W.setCell ⟨R, 0, none⟩ a).setCell ⟨R, 1, none⟩ b).setCell ⟨R, 2, none⟩ c) :=
  ((h.setCell (p := ⟨R, 0, none⟩) (Nat.le_refl _) _).setCell (p := ⟨R, 1, none⟩) (Nat.le_refl _) _).setCell (p := ⟨R, 2, none⟩) (Nat.le_refl _) _
theorem grown_alloc (W : World) (o : Obj) (row : Option Nat) : W.grownBy (W.alloc o) row := ⟨rfl, rfl, rfl, by simp, fun k hk _ => Below.heap_alloc _ _ _ hk⟩
theorem grown_drew (W : World) (row : Option Nat) : W.grownBy W.drew row := ⟨rfl, rfl, rfl, Nat.le_refl _, fun k hk _ => rfl⟩

end Go.Proofs.Ytcjeededlhdcbaa

namespace Go.Proofs.Ytcjeededlhdcbaa
open Go.RowKit Go.Shelf Go.BigFrame
set_option linter.unusedVariables false
set_option linter.unusedSimpArgs false

/-- append at a step of a region, the world drawn. -/
theorem step_append_i64D {ops : Array Oper} {o : Oper} {a : Act} {K : Act → World → Prop} {Q : Exit → Act → World → Prop} {E : Prop} {W : World} (hgd : o.guard = none) (s x : Operand)
    (ho : o.op = .call { callee := .builtin .append, args := #[s, x], argTypes := #[27, 27] }) (B : Nat) (v : Value) (xs ys : List Int) (hy : 0 < ys.length)
    (hs : a.eval s = v) (c : Nat) (hx : a.eval x = .slice (some ⟨W.heap.size, 0, none⟩) ys.length c) (hown : OwnI W B v xs) (hB : B ≤ W.heap.size) (hsmall : xs.length + ys.length ≤ 1099511627776)
    (hK : ∀ g c n w', Hid (n = xs.length + ys.length) → OwnI w' B (.slice (some ⟨g, 0, none⟩) n c) (xs ++ ys) → W.grownBy w' v.ownBlock → (v.ownBlock = some g ∨ g = W.heap.size + 1) → K (a.put o.dst (.slice (some ⟨g, 0, none⟩) n c)) w') :
    if Region.wanted o (yielded ops a.tmps) = true then Oper.wp Try.prog o a (W.alloc (.cells (ys.map (Value.int .i64)).toArray 2)).drew K Q else E := by
  obtain ⟨i0, hi, hz0, hz1, hz2⟩ := info_parts info_i64
  have hown' : (W.alloc (.cells (ys.map (Value.int .i64)).toArray 2)).drew.ownsRow B 2 1 v xs.length (xs.map (Value.int .i64)) := World.ownsRow.drew (World.ownsRow.alloc hown _)
  refine step_append_lies _ hgd s x 27 ho B 2 i0 (.int .i64 0) 1 8 Try.underlying27 hi hz0 hz1 hz2 rfl (by decide) v xs.length _ hs hown' ⟨W.heap.size, 0, none⟩ ys.length c (ys.map (Value.int .i64)) hx (by simp) (cells_lit W _ _) ?_ hy (by unfold maxLen; omega) (by omega) (by simp; omega) (W.heap.size + 1) (by simp) ?_
  · intro u hu; obtain ⟨y, _, rfl⟩ := List.mem_map.1 hu; rfl
  · intro g cap w' h1 h2 h5 _
    have h2' : (W.alloc (.cells (ys.map (Value.int .i64)).toArray 2)).grownBy w' v.ownBlock := ⟨h2.os, h2.tape, h2.output, h2.size, h2.block⟩
    obtain ⟨g', c', he, h3, h4⟩ := app_shape hy hown h1 h2'
    obtain ⟨rfl, rfl⟩ : g = g' ∧ cap = c' := by simpa using he
    exact hK g cap _ w' rfl h3 h4 h5
end Go.Proofs.Ytcjeededlhdcbaa
