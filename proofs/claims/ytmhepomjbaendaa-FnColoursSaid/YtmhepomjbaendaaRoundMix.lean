
/- A region that draws its order: first reads and, among them, one making of a block, in any order; then operations in one forced order (append, store ..). In a round too. Conditions: the first ones are not guarded and call nothing. -/
import Derived.Test.YtmhepomjbaendaaRoundTail
namespace Go.Proofs.Ytmhepomjbaendaa
open Go.RowKit
set_option linter.unusedVariables false
set_option linter.unusedSimpArgs false

def plainOp2 (o : Oper) : Bool := match o.op with
  | .move _ => true
  | .assign _ => true
  | .load _ _ => true
  | .indexAddr _ _ _ => true
  | .build _ _ => true
  | .binOp _ _ _ _ _ => true
  | .unOp _ _ _ => true
  | .convert _ _ _ => true
  | .slice _ _ _ _ _ => true
  | .fieldAddr _ _ _ => true
  | .field _ _ _ => true
  | .index _ _ _ => true
  | .makeFunc _ _ _ => true
  | _ => false

theorem plainOp2_value {o : Oper} (h : plainOp2 o = true) {ev : Operand → Value} {P : Program} {w w' : World} {x : Next} (hr : (execOp ev o).run P w = .ok x w') : ∃ u, x = .value u := by
  unfold plainOp2 at h
  have key : ∀ s : Sem Value, (do pure (Next.value (← s)) : Sem Next).run P w = .ok x w' → ∃ u, x = .value u := by
    intro s hs
    rw [Sem.run_bind] at hs
    cases hq : s.run P w with
    | ok u w'' => rw [hq] at hs; simp [Sem.run_pure] at hs; exact ⟨u, hs.1.symm⟩
    | halt c w'' => rw [hq] at hs; simp at hs
  split at h <;> first
    | (rename_i x h1; unfold execOp at hr; rw [h1] at hr; simp [Sem.run_pure] at hr; exact ⟨_, hr.1.symm⟩)
    | (rename_i h1; unfold execOp at hr; rw [h1] at hr; exact key _ hr)
    | cases h

section
variable {F : Fence} {n : Nat} {P : Program} {l l' : List Oper} {md : Region.Mode} {N : Nat}

/-- The tail runs as a list. -/
theorem tail_list2 {C : World → Prop} {Qa : Act → Prop} {Q' : Exit → Act → World → Prop} (haft : l'.toArray.map (·.after) = l.toArray.map (·.after)) (hoff : ∀ i (h : i < l.length), N ≤ i → l'.toArray[i]? = some (offOp l[i])) (hN : N ≤ l.length) (hback : backB l.toArray = true) (hc : Region.chainB md l.toArray N = true) :
    ∀ (fuel t : Nat) (listed : Array Bool) (aq a : Act) (w : World), N ≤ t → t ≤ l.length → listed.size = l.length → (∀ j, j < t → listed.getD j true = true) → (∀ j, t ≤ j → j < l.length → listed.getD j true = false) →
      wpAnyQIn F n P md l'.toArray C Qa fuel listed aq → wpListIn F n P l.toArray Q' (l.drop t) a w → wpAnyIn F n P md l.toArray Q' fuel listed a w := by
  intro fuel
  induction fuel with
  | zero =>
    intro t listed aq a w ht htl hsz hb ha hq h
    have h0 := hq.1
    rw [ready_congr haft] at h0
    by_cases hlt : t < l.length
    · exact absurd h0 (ready_ne hback (by simpa using hsz) t (by simpa using hlt) (ha t (Nat.le_refl _) hlt))
    · rw [List.drop_eq_nil_of_le (by omega)] at h
      exact ⟨h0, h⟩
  | succ fuel ih =>
    intro t listed aq a w ht htl hsz hb ha hq h
    by_cases hlt : t < l.length
    · have hne := ready_ne (md := md) hback (listed := listed) (by simpa using hsz) t (by simpa using hlt) (ha t (Nat.le_refl _) hlt)
      refine ⟨fun h0 => absurd h0 hne, fun i hi => ?_⟩
      obtain rfl := ready_only hc ht hsz hb ha hi
      have hq2 := hq.2 i (by rw [ready_congr haft]; exact hi)
      have hli : l[i]? = some l[i] := List.getElem?_eq_getElem hlt
      unfold qOpIn at hq2
      rw [hoff i hlt ht] at hq2
      have hq3 := hq2.2
      rw [show Region.wanted (offOp l[i]) (yielded l'.toArray aq.tmps) = true from rfl] at hq3
      obtain ⟨v, _, hk⟩ := hq3
      have hk' : wpAnyQIn F n P md l'.toArray C Qa fuel (listed.setIfInBounds i true) aq := hk
      have hcont : ∀ a' w', wpListIn F n P l.toArray Q' (l.drop (i + 1)) a' w' → wpAnyIn F n P md l.toArray Q' fuel (listed.setIfInBounds i true) a' w' := fun a' w' h' =>
        ih (i + 1) _ aq a' w' (by omega) hlt (by simpa using hsz)
          (fun j hj => by
            by_cases hji : i = j
            · subst hji; exact getD_set_self (by omega)
            · rw [getD_set_other hji]; exact hb j (by omega))
          (fun j hj hjl => by rw [getD_set_other (by omega)]; exact ha j (by omega) hjl) hk' h'
      unfold wpOpIn
      rw [List.getElem?_toArray, hli]
      rw [List.drop_eq_getElem_cons hlt] at h
      simp only [wpListIn] at h
      by_cases hw : Region.wanted l[i] (yielded l.toArray a.tmps) = true
      · simp only [hw, if_true] at h ⊢
        exact Oper.wpIn_mono hcont h
      · simp only [hw] at h ⊢
        exact ⟨h.1, hcont _ _ h.2⟩
    · refine wpAnyIn_done ?_ (by rw [List.drop_eq_nil_of_le (by omega)] at h; exact h) _
      unfold Region.ready
      rw [List.filter_eq_nil_iff]
      intro j hj
      have hj' : j < l.length := by simpa using hj
      rw [hb j (by omega)]
      simp

/-- The quiet walk has come to the tail: its end holds. -/
theorem tail_quiet2 {C : World → Prop} {Qa : Act → Prop} (haft : l'.toArray.map (·.after) = l.toArray.map (·.after)) (hoff : ∀ i (h : i < l.length), N ≤ i → l'.toArray[i]? = some (offOp l[i])) (hN : N ≤ l.length) (hback : backB l.toArray = true) (hc : Region.chainB md l.toArray N = true) :
    ∀ (fuel t : Nat) (listed : Array Bool) (aq : Act), N ≤ t → t ≤ l.length → listed.size = l.length → (∀ j, j < t → listed.getD j true = true) → (∀ j, t ≤ j → j < l.length → listed.getD j true = false) →
      wpAnyQIn F n P md l'.toArray C Qa fuel listed aq → Qa aq := by
  intro fuel
  induction fuel with
  | zero => intro t listed aq _ _ _ _ _ hq; exact hq.2
  | succ fuel ih =>
    intro t listed aq ht htl hsz hb ha hq
    by_cases hlt : t < l.length
    · have hne := ready_ne (md := md) hback (listed := listed) (by simpa using hsz) t (by simpa using hlt) (ha t (Nat.le_refl _) hlt)
      obtain ⟨i, hi⟩ := List.exists_mem_of_ne_nil _ hne
      obtain rfl := ready_only hc ht hsz hb ha hi
      have hq2 := hq.2 i (by rw [ready_congr haft]; exact hi)
      have hli : l[i]? = some l[i] := List.getElem?_eq_getElem hlt
      unfold qOpIn at hq2
      rw [hoff i hlt ht] at hq2
      have hq3 := hq2.2
      rw [show Region.wanted (offOp l[i]) (yielded l'.toArray aq.tmps) = true from rfl] at hq3
      obtain ⟨v, _, hk⟩ := hq3
      exact ih (i + 1) _ aq (by omega) hlt (by simpa using hsz)
          (fun j hj => by
            by_cases hji : i = j
            · subst hji; exact getD_set_self (by omega)
            · rw [getD_set_other hji]; exact hb j (by omega))
          (fun j hj hjl => by rw [getD_set_other (by omega)]; exact ha j (by omega) hjl) hk
    · refine hq.1 ?_
      rw [ready_congr haft]
      unfold Region.ready
      rw [List.filter_eq_nil_iff]
      intro j hj
      have hj' : j < l.length := by simpa using hj
      rw [hb j (by omega)]
      simp

/-- Before the tail: reads, and operation m, which makes a block. -/
theorem head_mix {m : Nat} {p : Value} {w0 w1 : World} {Qa : Act → Prop} {Q' : Exit → Act → World → Prop} (haft : l'.toArray.map (·.after) = l.toArray.map (·.after)) (hoff : ∀ i (h : i < l.length), N ≤ i → l'.toArray[i]? = some (offOp l[i]))
    (hm : m < N) (hN : N < l.length) (hnd : noDefer l = true) (hback : backB l.toArray = true) (hc : Region.chainB md l.toArray N = true) (hsk : Region.sinkB md l.toArray N = true)
    (hsame : ∀ i (h : i < l.length), i < N → i ≠ m → l'.toArray[i]? = some l[i] ∧ plainOp2 l[i] = true ∧ l[i].guard = none)
    (hm' : ∃ al', l'.toArray[m]? = some al' ∧ al'.op = .move (.const p) ∧ al'.dst = (l[m]'(by omega)).dst ∧ al'.guard = none) (hmg : (l[m]'(by omega)).guard = none)
    (hal : ∀ a (K : Act → World → Prop), K (a.put (l[m]'(by omega)).dst p) w1 → (l[m]'(by omega)).wpIn F n P a w0 K Q')
    (hT : ∀ a, Qa a → wpListIn F n P l.toArray Q' (l.drop N) a w1) :
    ∀ (fuel : Nat) (listed : Array Bool) (a : Act) (w : World), HeadInv md l.toArray N listed → ((listed.getD m true = false ∧ w = w0) ∨ (listed.getD m true = true ∧ w = w1)) →
      wpAnyQIn F n P md l'.toArray (fun w => w = w0 ∨ w = w1) Qa fuel listed a → wpAnyIn F n P md l.toArray Q' fuel listed a w := by
  intro fuel
  induction fuel with
  | zero =>
    intro listed a w inv hw hq
    have h0 := hq.1
    rw [ready_congr haft] at h0
    exact absurd h0 (ready_ne hback inv.size N (by simpa using hN) (inv.tail N (Nat.le_refl _) (by simpa using hN)))
  | succ fuel ih =>
    intro listed a w inv hw hq
    have hsz : listed.size = l.length := by simpa using inv.size
    by_cases hall : ∀ j, j < N → listed.getD j true = true
    · have htail : ∀ j, N ≤ j → j < l.length → listed.getD j true = false := fun j h1 h2 => by
        refine inv.tail j h1 (by simpa using h2)
      have hw1 : w = w1 := by
        rcases hw with ⟨h1, _⟩ | ⟨_, h2⟩
        · rw [hall m hm] at h1; cases h1
        · exact h2
      subst hw1
      exact tail_list2 haft hoff (Nat.le_of_lt hN) hback hc (fuel + 1) N listed a a w (Nat.le_refl _) (Nat.le_of_lt hN) hsz hall htail hq
        (hT a (tail_quiet2 haft hoff (Nat.le_of_lt hN) hback hc (fuel + 1) N listed a (Nat.le_refl _) (Nat.le_of_lt hN) hsz hall htail hq))
    · have hex : ∃ j, j < N ∧ listed.getD j true = false := by
        apply Classical.byContradiction
        intro hn
        refine hall fun j hj => ?_
        cases h : listed.getD j true
        · exact absurd ⟨j, hj, h⟩ hn
        · rfl
      obtain ⟨j0, hj0, hj1⟩ := hex
      refine ⟨fun h0 => absurd h0 (ready_ne hback inv.size j0 (by simp; omega) hj1), fun i hi => ?_⟩
      have hiN : i < N := by
        rcases Nat.lt_or_ge i N with h | h
        · exact h
        · exact absurd hi (tail_waits hsk hc (by simpa using hN) inv _ j0 rfl hj0 hj1 i h)
      have hil : i < l.length := by omega
      have hq2 := hq.2 i (by rw [ready_congr haft]; exact hi)
      have hli : l[i]? = some l[i] := List.getElem?_eq_getElem hil
      have hinv := inv.set hi hiN
      by_cases him : i = m
      · subst him
        have hw0 : w = w0 := by
          rcases hw with ⟨_, h2⟩ | ⟨h1, _⟩
          · exact h2
          · have := (ready_lt hi).2; rw [h1] at this; cases this
        subst hw0
        obtain ⟨al', hm1, hm2, hm3, hm4⟩ := hm'
        unfold qOpIn at hq2
        rw [hm1] at hq2
        have hq3 := hq2.2
        rw [show Region.wanted al' (yielded l'.toArray a.tmps) = true by unfold Region.wanted; rw [hm4]] at hq3
        obtain ⟨v, hv, hk⟩ := hq3
        have hvp : v = p := by
          have := hv w (.inl rfl)
          unfold Oper.quietAtIn execOp at this
          rw [hm2] at this
          simp [Oper.quietUponIn, Sem.run_pure, Act.eval] at this
          exact this.symm
        subst hvp
        unfold wpOpIn
        rw [List.getElem?_toArray, hli]
        simp only [show Region.wanted l[i] (yielded l.toArray a.tmps) = true by unfold Region.wanted; rw [hmg], if_true]
        exact hal a _ (ih _ _ _ hinv (.inr ⟨getD_set_self (by omega), rfl⟩) (by rw [← hm3]; exact hk))
      · obtain ⟨h1, h2, h3⟩ := hsame i hil hiN him
        have hw2 : ((listed.setIfInBounds i true).getD m true = false ∧ w = w0) ∨ ((listed.setIfInBounds i true).getD m true = true ∧ w = w1) := by
          rw [getD_set_other him]; exact hw
        unfold qOpIn at hq2
        rw [h1] at hq2
        obtain ⟨hask, hq3⟩ := hq2
        rw [show Region.wanted l[i] (yielded l'.toArray a.tmps) = true by unfold Region.wanted; rw [h3]] at hq3
        obtain ⟨v, hv, hk⟩ := hq3
        have hCw : w = w0 ∨ w = w1 := by rcases hw with ⟨_, e⟩ | ⟨_, e⟩ <;> simp [e]
        have hv' := hv w hCw
        unfold wpOpIn
        rw [List.getElem?_toArray, hli]
        simp only [show Region.wanted l[i] (yielded l.toArray a.tmps) = true by unfold Region.wanted; rw [h3], if_true]
        unfold Oper.wpIn
        refine ⟨hask w hCw, ?_⟩
        have hmem : l[i] ∈ l := List.getElem_mem _
        rw [Oper.semAt_eq _ _ _ (noDefer_spec hnd hmem)]
        unfold Oper.quietAtIn at hv'
        cases hr : (execOp a.eval l[i]).run P w with
        | halt c w' => rw [hr] at hv'; simp only [Oper.quietUponIn] at hv'
        | ok x w' =>
          obtain ⟨u, rfl⟩ := plainOp2_value h2 hr
          rw [hr] at hv'
          simp only [Oper.quietUponIn] at hv'
          obtain ⟨e1, e2⟩ := hv'
          simp only [Oper.uponIn]
          rw [e1, e2]
          exact ih _ _ _ hinv hw2 hk

/-- A quiet walk ends somewhere, and a slot that nothing more writes is as it is. -/
theorem quiet_end {C : World → Prop} {Qa : Act → Prop} {d : Nat} {ops' : Array Oper} (w0 : World) (hC : C w0) (hgd : ∀ (i : Nat) (o : Oper), ops'[i]? = some o → o.guard = none) (m : Nat) (hd : ∀ (i : Nat) (o : Oper), ops'[i]? = some o → i ≠ m → o.dst ≠ some d) :
    ∀ (fuel : Nat) (listed : Array Bool) (a : Act), listed.getD m true = true → wpAnyQIn F n P md ops' C Qa fuel listed a → ∃ a', Qa a' ∧ a'.tmps[d]? = a.tmps[d]? := by
  intro fuel
  induction fuel with
  | zero => intro listed a _ h; exact ⟨a, h.2, rfl⟩
  | succ fuel ih =>
    intro listed a hm h
    cases hr : Region.ready md ops' listed with
    | nil => exact ⟨a, h.1 hr, rfl⟩
    | cons i rest =>
      have hi : i ∈ Region.ready md ops' listed := by rw [hr]; simp
      have hq := h.2 i hi
      obtain ⟨hsz, hl⟩ := ready_lt hi
      have him : i ≠ m := by rintro rfl; rw [hm] at hl; cases hl
      have ho : ops'[i]? = some ops'[i] := by simp [hsz]
      unfold qOpIn at hq
      rw [ho] at hq
      have hq2 := hq.2
      rw [show Region.wanted ops'[i] (yielded ops' a.tmps) = true by unfold Region.wanted; rw [hgd i _ ho]] at hq2
      obtain ⟨v, _, hk⟩ := hq2
      obtain ⟨a', h1, h2⟩ := ih _ _ (by rw [getD_set_other him]; exact hm) hk
      refine ⟨a', h1, h2.trans ?_⟩
      have hne := hd i _ ho him
      unfold Act.put
      cases hdd : ops'[i].dst with
      | none => rfl
      | some e =>
        rw [hdd] at hne
        show (a.tmps.setIfInBounds e v)[d]? = a.tmps[d]?
        rw [Array.getElem?_setIfInBounds_ne (fun h => hne (by rw [h]))]

/-- .. where what m makes depends on its operands. -/
theorem head_mix2 {m d : Nat} {l2 : List Oper} {xo : List Operand} {vs : List Value} {Q2 : Act → Prop} {p : Value} {w0 w1 : World} {Qa : Act → Prop} {Q' : Exit → Act → World → Prop} (haft : l'.toArray.map (·.after) = l.toArray.map (·.after)) (hoff : ∀ i (h : i < l.length), N ≤ i → l'.toArray[i]? = some (offOp l[i]))
    (hm : m < N) (hN : N < l.length) (hnd : noDefer l = true) (hback : backB l.toArray = true) (hc : Region.chainB md l.toArray N = true) (hsk : Region.sinkB md l.toArray N = true)
    (hsame : ∀ i (h : i < l.length), i < N → i ≠ m → l'.toArray[i]? = some l[i] ∧ plainOp2 l[i] = true ∧ l[i].guard = none)
    (hm' : ∃ al', l'.toArray[m]? = some al' ∧ al'.op = .move (.const p) ∧ al'.dst = (l[m]'(by omega)).dst ∧ al'.guard = none) (hmg : (l[m]'(by omega)).guard = none)
    (haft2 : l2.toArray.map (·.after) = l.toArray.map (·.after)) (hsame2 : ∀ i (h : i < l.length), i < N → i ≠ m → l2.toArray[i]? = some l[i]) (hgd2 : ∀ (i : Nat) (o : Oper), l2.toArray[i]? = some o → o.guard = none) (hd2 : ∀ (i : Nat) (o : Oper), l2.toArray[i]? = some o → i ≠ m → o.dst ≠ some d)
    (hm2 : ∃ al', l2.toArray[m]? = some al' ∧ al'.op = .makeFunc (.func 0) #[] xo.toArray ∧ al'.dst = some d) (hQ2 : ∀ a, Q2 a → a.tmps[d]? = some (.func (.func 0) #[] vs.toArray))
    (hal : ∀ a (K : Act → World → Prop), xo.map a.eval = vs → K (a.put (l[m]'(by omega)).dst p) w1 → (l[m]'(by omega)).wpIn F n P a w0 K Q')
    (hT : ∀ a, Qa a → wpListIn F n P l.toArray Q' (l.drop N) a w1) :
    ∀ (fuel : Nat) (listed : Array Bool) (a : Act) (w : World), HeadInv md l.toArray N listed → ((listed.getD m true = false ∧ w = w0 ∧ wpAnyQIn F n P md l2.toArray (fun w => w = w0) Q2 fuel listed a) ∨ (listed.getD m true = true ∧ w = w1)) →
      wpAnyQIn F n P md l'.toArray (fun w => w = w0 ∨ w = w1) Qa fuel listed a → wpAnyIn F n P md l.toArray Q' fuel listed a w := by
  intro fuel
  induction fuel with
  | zero =>
    intro listed a w inv hw hq
    have h0 := hq.1
    rw [ready_congr haft] at h0
    exact absurd h0 (ready_ne hback inv.size N (by simpa using hN) (inv.tail N (Nat.le_refl _) (by simpa using hN)))
  | succ fuel ih =>
    intro listed a w inv hw hq
    have hsz : listed.size = l.length := by simpa using inv.size
    by_cases hall : ∀ j, j < N → listed.getD j true = true
    · have htail : ∀ j, N ≤ j → j < l.length → listed.getD j true = false := fun j h1 h2 => by
        refine inv.tail j h1 (by simpa using h2)
      have hw1 : w = w1 := by
        rcases hw with ⟨h1, _, _⟩ | ⟨_, h2⟩
        · rw [hall m hm] at h1; cases h1
        · exact h2
      subst hw1
      exact tail_list2 haft hoff (Nat.le_of_lt hN) hback hc (fuel + 1) N listed a a w (Nat.le_refl _) (Nat.le_of_lt hN) hsz hall htail hq
        (hT a (tail_quiet2 haft hoff (Nat.le_of_lt hN) hback hc (fuel + 1) N listed a (Nat.le_refl _) (Nat.le_of_lt hN) hsz hall htail hq))
    · have hex : ∃ j, j < N ∧ listed.getD j true = false := by
        apply Classical.byContradiction
        intro hn
        refine hall fun j hj => ?_
        cases h : listed.getD j true
        · exact absurd ⟨j, hj, h⟩ hn
        · rfl
      obtain ⟨j0, hj0, hj1⟩ := hex
      refine ⟨fun h0 => absurd h0 (ready_ne hback inv.size j0 (by simp; omega) hj1), fun i hi => ?_⟩
      have hiN : i < N := by
        rcases Nat.lt_or_ge i N with h | h
        · exact h
        · exact absurd hi (tail_waits hsk hc (by simpa using hN) inv _ j0 rfl hj0 hj1 i h)
      have hil : i < l.length := by omega
      have hq2 := hq.2 i (by rw [ready_congr haft]; exact hi)
      have hli : l[i]? = some l[i] := List.getElem?_eq_getElem hil
      have hinv := inv.set hi hiN
      by_cases him : i = m
      · subst him
        obtain ⟨hw0, hq2w⟩ : w = w0 ∧ wpAnyQIn F n P md l2.toArray (fun w => w = w0) Q2 (fuel + 1) listed a := by
          rcases hw with ⟨_, h2, h3⟩ | ⟨h1, _⟩
          · exact ⟨h2, h3⟩
          · have := (ready_lt hi).2; rw [h1] at this; cases this
        subst hw0
        have hops : xo.map a.eval = vs := by
          obtain ⟨al2, hx1, hx2, hx3⟩ := hm2
          have hqx := hq2w.2 i (by rw [ready_congr haft2]; exact hi)
          unfold qOpIn at hqx
          rw [hx1] at hqx
          have hqy := hqx.2
          rw [show Region.wanted al2 (yielded l2.toArray a.tmps) = true by unfold Region.wanted; rw [hgd2 _ _ hx1]] at hqy
          obtain ⟨v2, hv2, hk2⟩ := hqy
          have hv2' := hv2 w rfl
          unfold Oper.quietAtIn execOp at hv2'
          rw [hx2] at hv2'
          have hmf : ∀ (fn : Fn) (first cap : Array Value) (w : World), (Instr.makeFunc fn first cap).run P w = .ok (.func fn first cap) w := fun _ _ _ _ => rfl
          simp [Oper.quietUponIn, Sem.run_pure, Sem.run_bind, hmf] at hv2'
          obtain ⟨a', ha1, ha2⟩ := quiet_end (F := F) (n := n) (P := P) (md := md) (C := fun w' => w' = w) (Qa := Q2) (d := d) w rfl hgd2 i hd2 fuel _ _ (getD_set_self (by omega)) hk2
          have h3 := hQ2 a' ha1
          rw [ha2, hx3] at h3
          have hsz3 : d < a.tmps.size := by
            have h4 := (Array.getElem?_eq_some_iff.1 h3).1
            simpa [Act.put] using h4
          have h5 : (a.put (some d) v2).tmps[d]? = some v2 := by simp [Act.put, hsz3]
          rw [h5] at h3
          have h6 : v2 = .func (.func 0) #[] vs.toArray := by simpa using h3
          rw [← hv2'] at h6
          simpa using h6
        obtain ⟨al', hm1, hm2, hm3, hm4⟩ := hm'
        unfold qOpIn at hq2
        rw [hm1] at hq2
        have hq3 := hq2.2
        rw [show Region.wanted al' (yielded l'.toArray a.tmps) = true by unfold Region.wanted; rw [hm4]] at hq3
        obtain ⟨v, hv, hk⟩ := hq3
        have hvp : v = p := by
          have := hv w (.inl rfl)
          unfold Oper.quietAtIn execOp at this
          rw [hm2] at this
          simp [Oper.quietUponIn, Sem.run_pure, Act.eval] at this
          exact this.symm
        subst hvp
        unfold wpOpIn
        rw [List.getElem?_toArray, hli]
        simp only [show Region.wanted l[i] (yielded l.toArray a.tmps) = true by unfold Region.wanted; rw [hmg], if_true]
        exact hal a _ hops (ih _ _ _ hinv (.inr ⟨getD_set_self (by omega), rfl⟩) (by rw [← hm3]; exact hk))
      · obtain ⟨h1, h2, h3⟩ := hsame i hil hiN him
        unfold qOpIn at hq2
        rw [h1] at hq2
        obtain ⟨hask, hq3⟩ := hq2
        rw [show Region.wanted l[i] (yielded l'.toArray a.tmps) = true by unfold Region.wanted; rw [h3]] at hq3
        obtain ⟨v, hv, hk⟩ := hq3
        have hCw : w = w0 ∨ w = w1 := by rcases hw with ⟨_, e, _⟩ | ⟨_, e⟩ <;> simp [e]
        have hv' := hv w hCw
        unfold wpOpIn
        rw [List.getElem?_toArray, hli]
        simp only [show Region.wanted l[i] (yielded l.toArray a.tmps) = true by unfold Region.wanted; rw [h3], if_true]
        unfold Oper.wpIn
        refine ⟨hask w hCw, ?_⟩
        have hmem : l[i] ∈ l := List.getElem_mem _
        rw [Oper.semAt_eq _ _ _ (noDefer_spec hnd hmem)]
        unfold Oper.quietAtIn at hv'
        cases hr : (execOp a.eval l[i]).run P w with
        | halt c w' => rw [hr] at hv'; simp only [Oper.quietUponIn] at hv'
        | ok x w' =>
          obtain ⟨u, rfl⟩ := plainOp2_value h2 hr
          rw [hr] at hv'
          simp only [Oper.quietUponIn] at hv'
          obtain ⟨e1, e2⟩ := hv'
          simp only [Oper.uponIn]
          rw [e1, e2]
          refine ih _ _ _ hinv ?_ hk
          rw [getD_set_other him]
          rcases hw with ⟨hl1, hl2, hl3⟩ | hl1
          · refine .inl ⟨hl1, hl2, ?_⟩
            have hqx := hl3.2 i (by rw [ready_congr haft2]; exact hi)
            unfold qOpIn at hqx
            rw [hsame2 i hil hiN him] at hqx
            have hqy := hqx.2
            rw [show Region.wanted l[i] (yielded l2.toArray a.tmps) = true by unfold Region.wanted; rw [h3]] at hqy
            obtain ⟨v2, hv2, hk2⟩ := hqy
            have hv3 := hv2 w hl2
            unfold Oper.quietAtIn at hv3
            rw [hr] at hv3
            simp only [Oper.quietUponIn] at hv3
            have e3 : v2 = v := hv3.2.symm.trans e2
            rw [← e3]
            exact hk2
          · exact .inr hl1

/-- The region with its making of a block and its tail made still. -/
def mixOff (l : List Oper) (m N : Nat) (hm : m < l.length) (p : Value) : List Oper := (l.set m { l[m] with op := .move (.const p) }).take N ++ (l.drop N).map offOp
def plainTo (l : List Oper) (m N : Nat) : Bool := (List.range N).all fun i => i == m || ((l[i]?).map fun o => plainOp2 o && o.guard.isNone).getD true

theorem region_mix {id : Nat} {Q' : Exit → Act → World → Prop} {a : Act} {w : World} (m N : Nat) (p : Value) (w1 : World) (A : Act) (hm : m < N) (hN : N < l.length) (hml : m < l.length) (hnd : noDefer l = true) (hmix : P.follows .mixedOrders = true) (hback : backB l.toArray = true) (hc : Region.chainB .any l.toArray N = true) (hsk : Region.sinkB .any l.toArray N = true)
    (hplain : plainTo l m N = true) (hmg : l[m].guard = none) (hB : Region.lexB .any (mixOff l m N hml p).toArray = true)
    (hal : ∀ a (K : Act → World → Prop), K (a.put l[m].dst p) w1 → l[m].wpIn F n P a w.drew K Q')
    (h : wpQuietIn F n P (mixOff l m N hml p).toArray (fun w' => w' = w.drew ∨ w' = w1) (fun x => x = A) (mixOff l m N hml p) a)
    (hT : wpListIn F n P l.toArray Q' (l.drop N) A w1) : (Code.region id l.toArray true).wpIn F n P Q' a w := by
  simp only [Region.lexB, Bool.and_eq_true] at hB
  have hlen : (mixOff l m N hml p).length = l.length := by unfold mixOff; simp; omega
  have haft : (mixOff l m N hml p).toArray.map (·.after) = l.toArray.map (·.after) := by
    simp only [List.map_toArray]
    congr 1
    unfold mixOff
    rw [List.map_append, List.map_map, show (fun o : Oper => o.after) ∘ offOp = (fun o => o.after) from rfl]
    rw [show List.map (fun o : Oper => o.after) ((l.set m { l[m] with op := .move (.const p) }).take N) = List.map (fun o : Oper => o.after) (l.take N) by
      rw [List.map_take, List.map_take, List.map_set]
      congr 1
      apply List.ext_getElem?
      intro i
      rw [List.getElem?_set]
      by_cases h1 : m = i
      · subst h1; simp [hml]
      · simp [h1]]
    rw [← List.map_append, List.take_append_drop]
  have hget : ∀ i, i < N → (mixOff l m N hml p).toArray[i]? = (l.set m { l[m] with op := .move (.const p) })[i]? := fun i hi => by
    unfold mixOff
    rw [List.getElem?_toArray, List.getElem?_append_left (by simp; omega), List.getElem?_take_of_lt hi]
  have hoff : ∀ i (h : i < l.length), N ≤ i → (mixOff l m N hml p).toArray[i]? = some (offOp l[i]) := fun i hi hNi => by
    unfold mixOff
    have e : ((l.set m { l[m] with op := .move (.const p) }).take N).length = N := by simp; omega
    rw [List.getElem?_toArray, List.getElem?_append_right (by rw [e]; exact hNi), e, List.getElem?_map, List.getElem?_drop, show N + (i - N) = i by omega, List.getElem?_eq_getElem hi]; rfl
  refine wpIn_region_any hmix ?_
  have hq := wpAnyQIn_lex (F := F) (n := n) (P := P) (C := fun w' => w' = w.drew ∨ w' = w1) (md := .any) hB.1 (mixOff l m N hml p) 0 (Array.replicate l.length false) a (by simp) (by simpa [hlen] using hB.2) h
  rw [hlen] at hq
  have hsame : ∀ i (h : i < l.length), i < N → i ≠ m → (mixOff l m N hml p).toArray[i]? = some l[i] ∧ plainOp2 l[i] = true ∧ l[i].guard = none := fun i hi hiN him => by
    refine ⟨?_, ?_⟩
    · rw [hget i hiN, List.getElem?_set]; simp [Ne.symm him, hi]
    · unfold plainTo at hplain
      rw [List.all_eq_true] at hplain
      have := hplain i (List.mem_range.2 hiN)
      rw [List.getElem?_eq_getElem hi] at this
      simpa [him] using this
  have := head_mix (F := F) (n := n) (P := P) (md := .any) (Q' := Q') (w0 := w.drew) (w1 := w1) (p := p) haft hoff hm hN hnd hback hc hsk hsame
    ⟨{ l[m] with op := .move (.const p) }, by rw [hget m hm, List.getElem?_set]; simp [hml], rfl, rfl, hmg⟩ hmg hal (fun a' e => by subst e; exact hT) l.length (Array.replicate l.length false) a w.drew
    ⟨by simp, fun j oj hj hl => (by rw [getD_replicate_false] at hl; cases hl), fun t h1 h2 => (by simp at h2; simp [h2])⟩ (.inl ⟨by simp [hml], rfl⟩) hq
  simpa using this
def mixRec (l : List Oper) (m N : Nat) (hm : m < l.length) (xo : List Operand) : List Oper := (l.set m { l[m] with op := .makeFunc (.func 0) #[] xo.toArray }).take N ++ (l.drop N).map offOp
def soleB (l2 : List Oper) (m d : Nat) : Bool := (List.range l2.length).all fun i => ((l2[i]?).map fun o => o.guard.isNone && (i == m || o.dst != some d)).getD true

theorem mix_after (l : List Oper) (m N : Nat) (hml : m < l.length) (q : Op) : ((l.set m { l[m] with op := q }).take N ++ (l.drop N).map offOp).toArray.map (·.after) = l.toArray.map (·.after) := by
  simp only [List.map_toArray]
  congr 1
  rw [List.map_append, List.map_map, show (fun o : Oper => o.after) ∘ offOp = (fun o => o.after) from rfl]
  rw [show List.map (fun o : Oper => o.after) ((l.set m { l[m] with op := q }).take N) = List.map (fun o : Oper => o.after) (l.take N) by
    rw [List.map_take, List.map_take, List.map_set]
    congr 1
    apply List.ext_getElem?
    intro i
    rw [List.getElem?_set]
    by_cases h1 : m = i
    · subst h1; simp [hml]
    · simp [h1]]
  rw [← List.map_append, List.take_append_drop]
theorem mix_get (l : List Oper) (m N : Nat) (hml : m < l.length) (hN : N ≤ l.length) (q : Op) (i : Nat) (hi : i < N) : ((l.set m { l[m] with op := q }).take N ++ (l.drop N).map offOp).toArray[i]? = (l.set m { l[m] with op := q })[i]? := by
  rw [List.getElem?_toArray, List.getElem?_append_left (by simp; omega), List.getElem?_take_of_lt hi]

/-- .. the law of the region where what is made depends on operands: xo evaluate to vs. -/
theorem region_mix2 {id : Nat} {Q' : Exit → Act → World → Prop} {a : Act} {w : World} (m N d : Nat) (xo : List Operand) (vs : List Value) (p : Value) (w1 : World) (A A2 : Act) (hm : m < N) (hN : N < l.length) (hml : m < l.length) (hnd : noDefer l = true) (hmix : P.follows .mixedOrders = true) (hback : backB l.toArray = true) (hc : Region.chainB .any l.toArray N = true) (hsk : Region.sinkB .any l.toArray N = true)
    (hplain : plainTo l m N = true) (hmg : l[m].guard = none) (hmd : l[m].dst = some d) (hB : Region.lexB .any (mixOff l m N hml p).toArray = true) (hB2 : Region.lexB .any (mixRec l m N hml xo).toArray = true) (hsole : soleB (mixRec l m N hml xo) m d = true)
    (hA2 : A2.tmps[d]? = some (.func (.func 0) #[] vs.toArray))
    (hal : ∀ a (K : Act → World → Prop), xo.map a.eval = vs → K (a.put l[m].dst p) w1 → l[m].wpIn F n P a w.drew K Q')
    (h : wpQuietIn F n P (mixOff l m N hml p).toArray (fun w' => w' = w.drew ∨ w' = w1) (fun x => x = A) (mixOff l m N hml p) a)
    (h2 : wpQuietIn F n P (mixRec l m N hml xo).toArray (fun w' => w' = w.drew) (fun x => x = A2) (mixRec l m N hml xo) a)
    (hT : wpListIn F n P l.toArray Q' (l.drop N) A w1) : (Code.region id l.toArray true).wpIn F n P Q' a w := by
  simp only [Region.lexB, Bool.and_eq_true] at hB hB2
  have hlen : (mixOff l m N hml p).length = l.length := by unfold mixOff; simp; omega
  have hlen2 : (mixRec l m N hml xo).length = l.length := by unfold mixRec; simp; omega
  have haft : (mixOff l m N hml p).toArray.map (·.after) = l.toArray.map (·.after) := mix_after l m N hml _
  have haft2 : (mixRec l m N hml xo).toArray.map (·.after) = l.toArray.map (·.after) := mix_after l m N hml _
  have hget : ∀ i, i < N → (mixOff l m N hml p).toArray[i]? = (l.set m { l[m] with op := .move (.const p) })[i]? := mix_get l m N hml (Nat.le_of_lt hN) _
  have hget2 : ∀ i, i < N → (mixRec l m N hml xo).toArray[i]? = (l.set m { l[m] with op := .makeFunc (.func 0) #[] xo.toArray })[i]? := mix_get l m N hml (Nat.le_of_lt hN) _
  have hoff : ∀ i (h : i < l.length), N ≤ i → (mixOff l m N hml p).toArray[i]? = some (offOp l[i]) := fun i hi hNi => by
    unfold mixOff
    have e : ((l.set m { l[m] with op := .move (.const p) }).take N).length = N := by simp; omega
    rw [List.getElem?_toArray, List.getElem?_append_right (by rw [e]; exact hNi), e, List.getElem?_map, List.getElem?_drop, show N + (i - N) = i by omega, List.getElem?_eq_getElem hi]; rfl
  refine wpIn_region_any hmix ?_
  have hq := wpAnyQIn_lex (F := F) (n := n) (P := P) (C := fun w' => w' = w.drew ∨ w' = w1) (md := .any) hB.1 (mixOff l m N hml p) 0 (Array.replicate l.length false) a (by simp) (by simpa [hlen] using hB.2) h
  have hq2 := wpAnyQIn_lex (F := F) (n := n) (P := P) (C := fun w' => w' = w.drew) (md := .any) hB2.1 (mixRec l m N hml xo) 0 (Array.replicate l.length false) a (by simp) (by simpa [hlen2] using hB2.2) h2
  rw [hlen] at hq
  rw [hlen2] at hq2
  have hsame : ∀ i (h : i < l.length), i < N → i ≠ m → (mixOff l m N hml p).toArray[i]? = some l[i] ∧ plainOp2 l[i] = true ∧ l[i].guard = none := fun i hi hiN him => by
    refine ⟨?_, ?_⟩
    · rw [hget i hiN, List.getElem?_set]; simp [Ne.symm him, hi]
    · unfold plainTo at hplain
      rw [List.all_eq_true] at hplain
      have := hplain i (List.mem_range.2 hiN)
      rw [List.getElem?_eq_getElem hi] at this
      simpa [him] using this
  have hsame2 : ∀ i (h : i < l.length), i < N → i ≠ m → (mixRec l m N hml xo).toArray[i]? = some l[i] := fun i hi hiN him => by
    rw [hget2 i hiN, List.getElem?_set]; simp [Ne.symm him, hi]
  have hso : ∀ i o, (mixRec l m N hml xo).toArray[i]? = some o → o.guard = none ∧ (i ≠ m → o.dst ≠ some d) := fun i o ho => by
    have ho' : (mixRec l m N hml xo)[i]? = some o := by simpa using ho
    unfold soleB at hsole
    rw [List.all_eq_true] at hsole
    have h1 := hsole i (List.mem_range.2 (List.getElem?_eq_some_iff.1 ho').1)
    rw [ho'] at h1
    simp only [Option.map_some, Option.getD_some, Bool.and_eq_true, Option.isNone_iff_eq_none] at h1
    refine ⟨h1.1, fun him => ?_⟩
    have h2 := h1.2
    simp [him] at h2
    exact h2
  have hinv0 : HeadInv .any l.toArray N (Array.replicate l.length false) := ⟨by simp, fun j oj hj hl => (by rw [getD_replicate_false] at hl; cases hl), fun t h1 h2 => (by simp at h2; simp [h2])⟩
  have := head_mix2 (F := F) (n := n) (P := P) (md := .any) (Q' := Q') (w0 := w.drew) (w1 := w1) (p := p) (d := d) (l2 := mixRec l m N hml xo) (xo := xo) (vs := vs) (Q2 := fun x => x = A2) haft hoff hm hN hnd hback hc hsk hsame
    ⟨{ l[m] with op := .move (.const p) }, by rw [hget m hm, List.getElem?_set]; simp [hml], rfl, rfl, hmg⟩ hmg haft2 hsame2 (fun i o ho => (hso i o ho).1) (fun i o ho => (hso i o ho).2)
    ⟨{ l[m] with op := .makeFunc (.func 0) #[] xo.toArray }, by rw [hget2 m hm, List.getElem?_set]; simp [hml], rfl, hmd⟩ (fun a' e => by subst e; exact hA2) hal (fun a' e => by subst e; exact hT) l.length (Array.replicate l.length false) a w.drew
    hinv0 (.inl ⟨by simp [hml], rfl, hq2⟩) hq
  simpa using this
/-- Before the tail. -/
theorem head_anyC {C : World → Prop} {Qa : Act → Prop} {Q' : Exit → Act → World → Prop} (hN : N < l.length) (hnd : noDefer l = true) (hback : backB l.toArray = true) (hc : Region.chainB md l.toArray N = true) (hsk : Region.sinkB md l.toArray N = true)
    (hg : ∀ i o, i < N → l[i]? = some o → o.guard = none) (hT : ∀ a w, C w → Qa a → wpListIn F n P l.toArray Q' (l.drop N) a w) :
    ∀ (fuel : Nat) (listed : Array Bool) (a : Act) (w : World), C w → HeadInv md l.toArray N listed →
      wpAnyQIn F n P md (tailOff l N).toArray C Qa fuel listed a → wpAnyIn F n P md l.toArray Q' fuel listed a w := by
  intro fuel
  induction fuel with
  | zero =>
    intro listed a w hC inv hq
    have h0 := hq.1
    rw [ready_congr (tailOff_after l N)] at h0
    exact absurd h0 (ready_ne hback inv.size N (by simpa using hN) (inv.tail N (Nat.le_refl _) (by simpa using hN)))
  | succ fuel ih =>
    intro listed a w hC inv hq
    have hsz : listed.size = l.length := by simpa using inv.size
    by_cases hall : ∀ j, j < N → listed.getD j true = true
    · have htail : ∀ j, N ≤ j → j < l.length → listed.getD j true = false := fun j h1 h2 => by
        refine inv.tail j h1 (by simpa using h2)
      exact tail_list (Nat.le_of_lt hN) hback hc (fuel + 1) N listed a a w (Nat.le_refl _) (Nat.le_of_lt hN) hsz hall htail hq
        (hT a w hC (tail_quiet (Nat.le_of_lt hN) hback hc (fuel + 1) N listed a (Nat.le_refl _) (Nat.le_of_lt hN) hsz hall htail hq))
    · have hex : ∃ j, j < N ∧ listed.getD j true = false := by
        apply Classical.byContradiction
        intro hn
        refine hall fun j hj => ?_
        cases h : listed.getD j true
        · exact absurd ⟨j, hj, h⟩ hn
        · rfl
      obtain ⟨j0, hj0, hj1⟩ := hex
      refine ⟨fun h0 => absurd h0 (ready_ne hback inv.size j0 (by simp; omega) hj1), fun i hi => ?_⟩
      have hiN : i < N := by
        rcases Nat.lt_or_ge i N with h | h
        · exact h
        · exact absurd hi (tail_waits hsk hc (by simpa using hN) inv _ j0 rfl hj0 hj1 i h)
      have hq2 := hq.2 i (by rw [ready_congr (tailOff_after l N)]; exact hi)
      have hli : l[i]? = some l[i] := List.getElem?_eq_getElem (by omega)
      have hgi := hg i _ hiN hli
      refine wpOpIn_of_qOpIn_round (C := C) (K := wpAnyQIn F n P md (tailOff l N).toArray C Qa fuel (listed.setIfInBounds i true)) (by simpa using hnd) hC (fun a' w' hw' hk => ih _ _ w' hw' (inv.set hi hiN) hk) ?_
      unfold qOpIn at hq2 ⊢
      rw [List.getElem?_toArray, tailOff_get_lt hiN, hli] at hq2
      rw [List.getElem?_toArray, hli]
      refine ⟨hq2.1, ?_⟩
      have h3 := hq2.2
      have hwt : ∀ y, Region.wanted l[i] y = true := fun y => by unfold Region.wanted; rw [hgi]
      simp only [hwt, if_true] at h3 ⊢
      exact h3

theorem region_tailC {id : Nat} {Q' : Exit → Act → World → Prop} {a : Act} {w : World} (N : Nat) (A : Act) (hN : N < l.length) (hnd : noDefer l = true) (hmix : P.follows .mixedOrders = true) (hback : backB l.toArray = true) (hc : Region.chainB .any l.toArray N = true) (hsk : Region.sinkB .any l.toArray N = true)
    (hg : ((l.take N).all fun o => o.guard.isNone) = true) (hB : Region.lexB .any (tailOff l N).toArray = true)
    (h : wpQuietIn F n P (tailOff l N).toArray (fun w' => ∃ n, w' = w.drewN n) (fun x => x = A) (tailOff l N) a)
    (hT : ∀ q, wpListIn F n P l.toArray Q' (l.drop N) A (w.drewN q)) : (Code.region id l.toArray true).wpIn F n P Q' a w := by
  simp only [Region.lexB, Bool.and_eq_true] at hB
  have hlen : (tailOff l N).length = l.length := by unfold tailOff; simp; omega
  refine wpIn_region_any hmix ?_
  have hq := wpAnyQIn_lex (F := F) (n := n) (P := P) (C := fun w' => ∃ n, w' = w.drewN n) (md := .any) hB.1 (tailOff l N) 0 (Array.replicate l.length false) a (by simp) (by simpa [hlen] using hB.2) h
  rw [hlen] at hq
  have := head_anyC (F := F) (n := n) (P := P) (md := .any) (Q' := Q') (C := fun w' => ∃ n, w' = w.drewN n) hN hnd hback hc hsk (fun i o hi ho => by
    have := List.all_eq_true.1 hg o (List.mem_of_getElem? (i := i) (by rw [List.getElem?_take_of_lt hi]; exact ho))
    simpa using this) (fun a' w' ⟨q, e1⟩ e => by subst e; subst e1; exact hT q) l.length (Array.replicate l.length false) a w.drew ⟨1, rfl⟩
    ⟨by simp, fun j oj hj hl => (by rw [getD_replicate_false] at hl; cases hl), fun t h1 h2 => (by simp at h2; simp [h2])⟩ hq
  simpa using this
end
end Go.Proofs.Ytmhepomjbaendaa
