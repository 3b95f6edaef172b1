
/- A region that draws its order and whose last operations stand in one forced order (buildSlice, append, store): the ones before it read only; in a round too. Conditions: those before are not guarded. -/
import Derived.Test.YtmhepomjbaendaaRoundAlloc
import Derived.StillTail
namespace Go.Proofs.Ytmhepomjbaendaa
open Go.RowKit
set_option linter.unusedVariables false

def offOp (o : Oper) : Oper := { o with op := .move (.const undef), dst := none, guard := none }
/-- The region with its tail made still. -/
def tailOff (l : List Oper) (N : Nat) : List Oper := l.take N ++ (l.drop N).map offOp

theorem tailOff_get_lt {l : List Oper} {N i : Nat} (hi : i < N) : (tailOff l N)[i]? = l[i]? := by
  unfold tailOff
  by_cases h : i < l.length
  · rw [List.getElem?_append_left (by simp; omega), List.getElem?_take_of_lt hi]
  · rw [List.getElem?_eq_none (by simp; omega), List.getElem?_eq_none (by omega)]
theorem tailOff_get_ge {l : List Oper} {N i : Nat} (hN : N ≤ l.length) (hi : N ≤ i) : (tailOff l N)[i]? = (l[i]?).map offOp := by
  unfold tailOff
  rw [List.getElem?_append_right (by simp; omega), List.getElem?_map, List.getElem?_drop]
  congr 2
  simp; omega
theorem tailOff_after (l : List Oper) (N : Nat) : ((tailOff l N).toArray).map (·.after) = (l.toArray).map (·.after) := by
  simp only [List.map_toArray]
  congr 1
  unfold tailOff
  rw [List.map_append, List.map_map, show (fun o : Oper => o.after) ∘ offOp = (fun o => o.after) from rfl, ← List.map_append, List.take_append_drop]

section
variable {F : Fence} {n : Nat} {P : Program} {l : List Oper} {md : Region.Mode} {N : Nat}

theorem ready_lt {i : Nat} {ops : Array Oper} {listed : Array Bool} (h : i ∈ Region.ready md ops listed) : i < ops.size ∧ listed.getD i true = false := by
  unfold Region.ready at h
  rw [List.mem_filter] at h
  refine ⟨by simpa using h.1, ?_⟩
  have := h.2
  rw [Bool.and_eq_true] at this
  simpa using this.1

/-- With all before t listed and none from t on, only t comes up. -/
theorem ready_only {listed : Array Bool} {t : Nat} (hc : Region.chainB md l.toArray N = true) (ht : N ≤ t) (hsz : listed.size = l.length)
    (hbefore : ∀ j, j < t → listed.getD j true = true) (hafter : ∀ j, t ≤ j → j < l.length → listed.getD j true = false) {i : Nat} (hi : i ∈ Region.ready md l.toArray listed) : i = t := by
  obtain ⟨h1, h2⟩ := ready_lt hi
  simp only [List.size_toArray] at h1
  rcases Nat.lt_trichotomy i t with h | h | h
  · rw [hbefore i h] at h2; cases h2
  · exact h
  · exfalso
    have h3 := List.all_eq_true.1 hc i (List.mem_range.2 (by simpa using h1))
    simp only [Bool.or_eq_true, decide_eq_true_eq] at h3
    rcases h3 with h3 | h3
    · omega
    · obtain ⟨o', ho', e, he, hb, hon⟩ := Region.waitsFor_spec h3
      obtain ⟨_, ot, hot, hall⟩ := mem_ready.1 hi
      have : o' = ot := Option.some.inj (ho'.symm.trans hot)
      subst this
      have h4 := hall e he hb
      rw [hon, getD_both (hafter (i - 1) (by omega) (by omega))] at h4
      cases h4

theorem getD_set_self {listed : Array Bool} {t : Nat} (h : t < listed.size) : (listed.setIfInBounds t true).getD t true = true := by
  rw [Array.getD_eq_getD_getElem?]; simp [h]
theorem getD_set_other {listed : Array Bool} {t j : Nat} (h : t ≠ j) : (listed.setIfInBounds t true).getD j true = listed.getD j true := by
  rw [Array.getD_eq_getD_getElem?, Array.getElem?_setIfInBounds_ne h, ← Array.getD_eq_getD_getElem?]

/-- The tail runs as a list. -/
theorem tail_list {C : World → Prop} {Qa : Act → Prop} {Q' : Exit → Act → World → Prop} (hN : N ≤ l.length) (hback : backB l.toArray = true) (hc : Region.chainB md l.toArray N = true) :
    ∀ (fuel t : Nat) (listed : Array Bool) (aq a : Act) (w : World), N ≤ t → t ≤ l.length → listed.size = l.length → (∀ j, j < t → listed.getD j true = true) → (∀ j, t ≤ j → j < l.length → listed.getD j true = false) →
      wpAnyQIn F n P md (tailOff l N).toArray C Qa fuel listed aq → wpListIn F n P l.toArray Q' (l.drop t) a w → wpAnyIn F n P md l.toArray Q' fuel listed a w := by
  intro fuel
  induction fuel with
  | zero =>
    intro t listed aq a w ht htl hsz hb ha hq h
    have h0 := hq.1
    rw [ready_congr (tailOff_after l N)] at h0
    by_cases hlt : t < l.length
    · exact absurd h0 (ready_ne hback (by simpa using hsz) t (by simpa using hlt) (ha t (Nat.le_refl _) hlt))
    · rw [List.drop_eq_nil_of_le (by omega)] at h
      exact ⟨h0, h⟩
  | succ fuel ih =>
    intro t listed aq a w ht htl hsz hb ha hq h
    by_cases hlt : t < l.length
    · have hne := ready_ne (md := md) hback (listed := listed) (by simpa using hsz) t (by simpa using hlt) (ha t (Nat.le_refl _) hlt)
      refine ⟨fun h0 => absurd h0 hne, fun i hi => ?_⟩
      obtain rfl := ready_only hc ht hsz hb ha hi
      have hq2 := hq.2 i (by rw [ready_congr (tailOff_after l N)]; exact hi)
      have hli : l[i]? = some l[i] := List.getElem?_eq_getElem hlt
      have hoff : (tailOff l N).toArray[i]? = some (offOp l[i]) := by
        rw [List.getElem?_toArray, tailOff_get_ge hN ht, hli]; rfl
      unfold qOpIn at hq2
      rw [hoff] at hq2
      have hq3 := hq2.2
      rw [show Region.wanted (offOp l[i]) (yielded (tailOff l N).toArray aq.tmps) = true from rfl] at hq3
      obtain ⟨v, _, hk⟩ := hq3
      have hk' : wpAnyQIn F n P md (tailOff l N).toArray C Qa fuel (listed.setIfInBounds i true) aq := hk
      have hcont : ∀ a' w', wpListIn F n P l.toArray Q' (l.drop (i + 1)) a' w' → wpAnyIn F n P md l.toArray Q' fuel (listed.setIfInBounds i true) a' w' := fun a' w' h' =>
        ih (i + 1) _ aq a' w' (by omega) hlt (by simpa using hsz)
          (fun j hj => by
            by_cases hji : i = j
            · subst hji; exact getD_set_self (by omega)
            · rw [getD_set_other hji]; exact hb j (by omega))
          (fun j hj hjl => by rw [getD_set_other (by omega)]; exact ha j (by omega) hjl) hk' h'
      unfold wpOpIn
      rw [List.getElem?_toArray, hli]
      rw [List.drop_eq_getElem_cons hlt] at h
      simp only [wpListIn] at h
      by_cases hw : Region.wanted l[i] (yielded l.toArray a.tmps) = true
      · simp only [hw, if_true] at h ⊢
        exact Oper.wpIn_mono hcont h
      · simp only [hw] at h ⊢
        exact ⟨h.1, hcont _ _ h.2⟩
    · refine wpAnyIn_done ?_ (by rw [List.drop_eq_nil_of_le (by omega)] at h; exact h) _
      unfold Region.ready
      rw [List.filter_eq_nil_iff]
      intro j hj
      have hj' : j < l.length := by simpa using hj
      rw [hb j (by omega)]
      simp

/-- The quiet walk has come to the tail: its end holds. -/
theorem tail_quiet {C : World → Prop} {Qa : Act → Prop} (hN : N ≤ l.length) (hback : backB l.toArray = true) (hc : Region.chainB md l.toArray N = true) :
    ∀ (fuel t : Nat) (listed : Array Bool) (aq : Act), N ≤ t → t ≤ l.length → listed.size = l.length → (∀ j, j < t → listed.getD j true = true) → (∀ j, t ≤ j → j < l.length → listed.getD j true = false) →
      wpAnyQIn F n P md (tailOff l N).toArray C Qa fuel listed aq → Qa aq := by
  intro fuel
  induction fuel with
  | zero => intro t listed aq _ _ _ _ _ hq; exact hq.2
  | succ fuel ih =>
    intro t listed aq ht htl hsz hb ha hq
    by_cases hlt : t < l.length
    · have hne := ready_ne (md := md) hback (listed := listed) (by simpa using hsz) t (by simpa using hlt) (ha t (Nat.le_refl _) hlt)
      obtain ⟨i, hi⟩ := List.exists_mem_of_ne_nil _ hne
      obtain rfl := ready_only hc ht hsz hb ha hi
      have hq2 := hq.2 i (by rw [ready_congr (tailOff_after l N)]; exact hi)
      have hli : l[i]? = some l[i] := List.getElem?_eq_getElem hlt
      have hoff : (tailOff l N).toArray[i]? = some (offOp l[i]) := by
        rw [List.getElem?_toArray, tailOff_get_ge hN ht, hli]; rfl
      unfold qOpIn at hq2
      rw [hoff] at hq2
      have hq3 := hq2.2
      rw [show Region.wanted (offOp l[i]) (yielded (tailOff l N).toArray aq.tmps) = true from rfl] at hq3
      obtain ⟨v, _, hk⟩ := hq3
      exact ih (i + 1) _ aq (by omega) hlt (by simpa using hsz)
          (fun j hj => by
            by_cases hji : i = j
            · subst hji; exact getD_set_self (by omega)
            · rw [getD_set_other hji]; exact hb j (by omega))
          (fun j hj hjl => by rw [getD_set_other (by omega)]; exact ha j (by omega) hjl) hk
    · refine hq.1 ?_
      rw [ready_congr (tailOff_after l N)]
      unfold Region.ready
      rw [List.filter_eq_nil_iff]
      intro j hj
      have hj' : j < l.length := by simpa using hj
      rw [hb j (by omega)]
      simp

/-- Before the tail. -/
theorem head_any {Qa : Act → Prop} {Q' : Exit → Act → World → Prop} {w0 : World} (hN : N < l.length) (hnd : noDefer l = true) (hback : backB l.toArray = true) (hc : Region.chainB md l.toArray N = true) (hsk : Region.sinkB md l.toArray N = true)
    (hg : ∀ i o, i < N → l[i]? = some o → o.guard = none) (hT : ∀ a, Qa a → wpListIn F n P l.toArray Q' (l.drop N) a w0) :
    ∀ (fuel : Nat) (listed : Array Bool) (a : Act), HeadInv md l.toArray N listed →
      wpAnyQIn F n P md (tailOff l N).toArray (fun w => w = w0) Qa fuel listed a → wpAnyIn F n P md l.toArray Q' fuel listed a w0 := by
  intro fuel
  induction fuel with
  | zero =>
    intro listed a inv hq
    have h0 := hq.1
    rw [ready_congr (tailOff_after l N)] at h0
    exact absurd h0 (ready_ne hback inv.size N (by simpa using hN) (inv.tail N (Nat.le_refl _) (by simpa using hN)))
  | succ fuel ih =>
    intro listed a inv hq
    have hsz : listed.size = l.length := by simpa using inv.size
    by_cases hall : ∀ j, j < N → listed.getD j true = true
    · have htail : ∀ j, N ≤ j → j < l.length → listed.getD j true = false := fun j h1 h2 => by
        refine inv.tail j h1 (by simpa using h2)
      exact tail_list (Nat.le_of_lt hN) hback hc (fuel + 1) N listed a a w0 (Nat.le_refl _) (Nat.le_of_lt hN) hsz hall htail hq
        (hT a (tail_quiet (Nat.le_of_lt hN) hback hc (fuel + 1) N listed a (Nat.le_refl _) (Nat.le_of_lt hN) hsz hall htail hq))
    · have hex : ∃ j, j < N ∧ listed.getD j true = false := by
        apply Classical.byContradiction
        intro hn
        refine hall fun j hj => ?_
        cases h : listed.getD j true
        · exact absurd ⟨j, hj, h⟩ hn
        · rfl
      obtain ⟨j0, hj0, hj1⟩ := hex
      refine ⟨fun h0 => absurd h0 (ready_ne hback inv.size j0 (by simp; omega) hj1), fun i hi => ?_⟩
      have hiN : i < N := by
        rcases Nat.lt_or_ge i N with h | h
        · exact h
        · exact absurd hi (tail_waits hsk hc (by simpa using hN) inv _ j0 rfl hj0 hj1 i h)
      have hq2 := hq.2 i (by rw [ready_congr (tailOff_after l N)]; exact hi)
      have hli : l[i]? = some l[i] := List.getElem?_eq_getElem (by omega)
      have hgi := hg i _ hiN hli
      refine wpOpIn_of_qOpIn_round (C := fun w => w = w0) (K := wpAnyQIn F n P md (tailOff l N).toArray (fun w => w = w0) Qa fuel (listed.setIfInBounds i true)) (by simpa using hnd) rfl (fun a' w' hw' hk => by subst hw'; exact ih _ _ (inv.set hi hiN) hk) ?_
      unfold qOpIn at hq2 ⊢
      rw [List.getElem?_toArray, tailOff_get_lt hiN, hli] at hq2
      rw [List.getElem?_toArray, hli]
      refine ⟨hq2.1, ?_⟩
      have h3 := hq2.2
      have hwt : ∀ y, Region.wanted l[i] y = true := fun y => by unfold Region.wanted; rw [hgi]
      simp only [hwt, if_true] at h3 ⊢
      exact h3

theorem region_tail {id : Nat} {Q' : Exit → Act → World → Prop} {a : Act} {w : World} (N : Nat) (A : Act) (hN : N < l.length) (hnd : noDefer l = true) (hmix : P.follows .mixedOrders = true) (hback : backB l.toArray = true) (hc : Region.chainB .any l.toArray N = true) (hsk : Region.sinkB .any l.toArray N = true)
    (hg : ((l.take N).all fun o => o.guard.isNone) = true) (hB : Region.lexB .any (tailOff l N).toArray = true)
    (h : wpQuietIn F n P (tailOff l N).toArray (fun w' => w' = w.drew) (fun x => x = A) (tailOff l N) a)
    (hT : wpListIn F n P l.toArray Q' (l.drop N) A w.drew) : (Code.region id l.toArray true).wpIn F n P Q' a w := by
  simp only [Region.lexB, Bool.and_eq_true] at hB
  have hlen : (tailOff l N).length = l.length := by unfold tailOff; simp; omega
  refine wpIn_region_any hmix ?_
  have hq := wpAnyQIn_lex (F := F) (n := n) (P := P) (C := fun w' => w' = w.drew) (md := .any) hB.1 (tailOff l N) 0 (Array.replicate l.length false) a (by simp) (by simpa [hlen] using hB.2) h
  rw [hlen] at hq
  have := head_any (F := F) (n := n) (P := P) (md := .any) (Q' := Q') (w0 := w.drew) hN hnd hback hc hsk (fun i o hi ho => by
    have := List.all_eq_true.1 hg o (List.mem_of_getElem? (i := i) (by rw [List.getElem?_take_of_lt hi]; exact ho))
    simpa using this) (fun a' e => by subst e; exact hT) l.length (Array.replicate l.length false) a
    ⟨by simp, fun j oj hj hl => (by rw [getD_replicate_false] at hl; cases hl), fun t h1 h2 => (by simp at h2; simp [h2])⟩ hq
  simpa using this
end
end Go.Proofs.Ytmhepomjbaendaa
