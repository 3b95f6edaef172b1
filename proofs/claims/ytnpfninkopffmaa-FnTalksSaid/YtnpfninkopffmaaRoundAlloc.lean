
/- A region that draws its order, reads, makes one block and ends with one store: in whatever order, in a round too. Conditions: no operation is guarded, none calls; the store comes last. -/
import Derived.Test.YtnpfninkopffmaaRound
namespace Go.Proofs.Ytnpfninkopffmaa
open Go.RowKit
set_option linter.unusedVariables false

def plainOp (o : Oper) : Bool := match o.op with
  | .move _ => true
  | .load _ _ => true
  | .indexAddr _ _ _ => true
  | .build _ _ => true
  | _ => false

theorem plainOp_value {o : Oper} (h : plainOp o = true) {ev : Operand → Value} {P : Program} {w w' : World} {x : Next} (hr : (execOp ev o).run P w = .ok x w') : ∃ u, x = .value u := by
  unfold plainOp at h
  have key : ∀ s : Sem Value, (do pure (Next.value (← s)) : Sem Next).run P w = .ok x w' → ∃ u, x = .value u := by
    intro s hs
    rw [Sem.run_bind] at hs
    cases hq : s.run P w with
    | ok u w'' => rw [hq] at hs; simp [Sem.run_pure] at hs; exact ⟨u, hs.1.symm⟩
    | halt c w'' => rw [hq] at hs; simp at hs
  split at h
  · rename_i x h1; unfold execOp at hr; rw [h1] at hr; simp [Sem.run_pure] at hr; exact ⟨_, hr.1.symm⟩
  · rename_i x h1; unfold execOp at hr; rw [h1] at hr; exact key _ hr
  · rename_i x h1; unfold execOp at hr; rw [h1] at hr; exact key _ hr
  · rename_i x h1; unfold execOp at hr; rw [h1] at hr; exact key _ hr
  · cases h

theorem ready_congr {md : Region.Mode} {ops ops' : Array Oper} (h : ops'.map (·.after) = ops.map (·.after)) (listed : Array Bool) : Region.ready md ops' listed = Region.ready md ops listed := by
  have hs : ops'.size = ops.size := by have := congrArg Array.size h; simpa using this
  unfold Region.ready
  rw [hs]
  congr 1
  funext i
  have : (ops'[i]?).map (·.after) = (ops[i]?).map (·.after) := by
    have := congrArg (·[i]?) h
    simpa using this
  congr 1
  cases h1 : ops'[i]? <;> cases h2 : ops[i]? <;> rw [h1, h2] at this <;> simp at this ⊢
  rw [this]

/-- All edges go back. -/
def backB (ops : Array Oper) : Bool := (List.range ops.size).all fun i => ((ops[i]?).map fun o => o.after.all fun e => decide (e.on < i)).getD true
def lastB (md : Region.Mode) (ops : Array Oper) (s : Nat) (st : Oper) : Bool := (List.range ops.size).all fun j => j == s || st.after.any fun e => Region.binds md e && e.on == j

theorem ready_ne {md : Region.Mode} {ops : Array Oper} (hb : backB ops = true) {listed : Array Bool} (hl : listed.size = ops.size) : ∀ i, i < ops.size → listed.getD i true = false → Region.ready md ops listed ≠ [] := by
  intro i
  induction i using Nat.strongRecOn with
  | ind i ih =>
    intro hi hli
    have hoi : ops[i]? = some ops[i] := by simp [hi]
    by_cases ha : ops[i].after.all (fun e => !Region.binds md e || listed.getD e.on false) = true
    · have : i ∈ Region.ready md ops listed := by
        unfold Region.ready
        rw [List.mem_filter]
        refine ⟨by simpa using hi, ?_⟩
        rw [hli, hoi]
        simpa using ha
      intro h0
      rw [h0] at this
      simp at this
    · rw [Array.all_eq_true] at ha
      have ⟨k, hk, hk2⟩ : ∃ k, ∃ h : k < ops[i].after.size, (!Region.binds md ops[i].after[k] || listed.getD ops[i].after[k].on false) = false := by
        apply Classical.byContradiction
        intro hc
        apply ha
        intro k hk
        cases hh : (!Region.binds md ops[i].after[k] || listed.getD ops[i].after[k].on false)
        · exact absurd ⟨k, hk, hh⟩ hc
        · rfl
      unfold backB at hb
      rw [List.all_eq_true] at hb
      have h1 := hb i (by simpa using hi)
      rw [hoi] at h1
      simp only [Option.map_some, Option.getD_some, Array.all_eq_true] at h1
      have h2 : ops[i].after[k].on < i := of_decide_eq_true (h1 k hk)
      rw [Bool.or_eq_false_iff] at hk2
      refine ih _ h2 (by omega) ?_
      have h3 := hk2.2
      rw [Array.getD_eq_getD_getElem?] at h3 ⊢
      rw [Array.getElem?_eq_getElem (by omega)] at h3 ⊢
      exact h3

theorem ready_last {md : Region.Mode} {ops : Array Oper} {s : Nat} {st : Oper} (hs : ops[s]? = some st) (hb : lastB md ops s st = true) {listed : Array Bool} (h : s ∈ Region.ready md ops listed) : ∀ j, j < ops.size → j ≠ s → listed.getD j false = true := by
  intro j hj hjs
  unfold lastB at hb
  rw [List.all_eq_true] at hb
  have h1 := hb j (by simpa using hj)
  simp only [Bool.or_eq_true, beq_iff_eq, hjs, false_or] at h1
  rw [Array.any_eq_true] at h1
  obtain ⟨k, hk, h1⟩ := h1
  simp only [Bool.and_eq_true, beq_iff_eq] at h1
  unfold Region.ready at h
  rw [List.mem_filter, hs] at h
  have h2 := h.2
  simp only [Option.map_some, Option.getD_some, Bool.and_eq_true, Array.all_eq_true] at h2
  have h3 := h2.2 k hk
  rw [h1.1, h1.2] at h3
  simpa using h3

section
variable {F : Fence} {n : Nat} {P : Program} {ops ops' : Array Oper} {md : Region.Mode}

theorem wpAnyIn_alloc {m s : Nat} {al al' st st' : Oper} {p : Value} {w0 w1 : World} {Q : Act → Prop} {Q' : Exit → Act → World → Prop}
    (hnd : noDefer ops.toList = true) (haft : ops'.map (·.after) = ops.map (·.after)) (hback : backB ops = true) (hms : m ≠ s)
    (hsame : ∀ i o, ops[i]? = some o → i ≠ m → i ≠ s → ops'[i]? = some o ∧ plainOp o = true ∧ o.guard = none)
    (hm : ops[m]? = some al) (hm' : ops'[m]? = some al') (hma : al'.op = .move (.const p)) (hmd : al'.dst = al.dst) (hmg : al.guard = none) (hmg' : al'.guard = none)
    (hs : ops[s]? = some st) (hs' : ops'[s]? = some st') (hsd : st'.dst = none) (hsg : st.guard = none) (hsg' : st'.guard = none) (hlast : lastB md ops s st = true)
    (hal : ∀ a (K : Act → World → Prop), K (a.put al.dst p) w1 → al.wpIn F n P a w0 K Q')
    (hst : ∀ a, Q a → st.wpIn F n P a w1 (fun a' w' => Q' .normal a' w') Q') :
    ∀ (fuel : Nat) (listed : Array Bool) (a : Act) (w : World), listed.size = ops.size → listed.getD s true = false → ((listed.getD m true = false ∧ w = w0) ∨ (listed.getD m true = true ∧ w = w1)) →
      wpAnyQIn F n P md ops' (fun w => w = w0 ∨ w = w1) Q fuel listed a → wpAnyIn F n P md ops Q' fuel listed a w := by
  intro fuel
  have hssz : s < ops.size := (Array.getElem?_eq_some_iff.1 hs).1
  have hmsz : m < ops.size := (Array.getElem?_eq_some_iff.1 hm).1
  induction fuel with
  | zero =>
    intro listed a w hsz hls hw h
    have h0 := h.1
    rw [ready_congr haft] at h0
    exact absurd h0 (ready_ne hback hsz s hssz hls)
  | succ fuel ih =>
    intro listed a w hsz hls hw h
    refine ⟨fun h0 => absurd h0 (ready_ne hback hsz s hssz hls), fun i hi => ?_⟩
    have hq := h.2 i (by rw [ready_congr haft]; exact hi)
    by_cases his : i = s
    · subst his
      have hall := ready_last hs hlast hi
      have hw1 : w = w1 := by
        rcases hw with ⟨h1, _⟩ | ⟨_, h2⟩
        · have := hall m hmsz hms
          rw [Array.getD_eq_getD_getElem?, Array.getElem?_eq_getElem (by omega)] at this h1
          simp at this h1
          rw [this] at h1
          cases h1
        · exact h2
      subst hw1
      have hempty : Region.ready md ops (listed.setIfInBounds i true) = [] := by
        unfold Region.ready
        rw [List.filter_eq_nil_iff]
        intro j hj
        have hj' : j < ops.size := by simpa using hj
        have : (listed.setIfInBounds i true).getD j true = true := by
          rw [Array.getD_eq_getD_getElem?]
          by_cases hji : j = i
          · subst hji; simp [hsz, hj']
          · have := hall j hj' hji
            rw [Array.getD_eq_getD_getElem?] at this
            rw [Array.getElem?_setIfInBounds_ne (Ne.symm hji)]
            rw [Array.getElem?_eq_getElem (by omega)] at this ⊢
            exact this
        simp [this]
      unfold qOpIn at hq
      rw [hs'] at hq
      have hq2 := hq.2
      rw [show Region.wanted st' (yielded ops' a.tmps) = true by unfold Region.wanted; rw [hsg']] at hq2
      obtain ⟨v, _, hk⟩ := hq2
      rw [hsd] at hk
      have hQ : Q a := by
        have hput : a.put none v = a := rfl
        rw [hput] at hk
        cases fuel with
        | zero => exact hk.2
        | succ f => exact hk.1 (by rw [ready_congr haft]; exact hempty)
      unfold wpOpIn
      rw [hs]
      simp only [show Region.wanted st (yielded ops a.tmps) = true by unfold Region.wanted; rw [hsg], if_true]
      exact Oper.wpIn_mono (fun a' w' h' => wpAnyIn_done hempty h' fuel) (hst a hQ)
    · have hls2 : (listed.setIfInBounds i true).getD s true = false := by
        rw [Array.getD_eq_getD_getElem?, Array.getElem?_setIfInBounds_ne his, ← Array.getD_eq_getD_getElem?]; exact hls
      by_cases him : i = m
      · subst him
        have hw0 : w = w0 := by
          rcases hw with ⟨_, h2⟩ | ⟨h1, _⟩
          · exact h2
          · unfold Region.ready at hi
            rw [List.mem_filter, h1] at hi
            simp at hi
        subst hw0
        unfold qOpIn at hq
        rw [hm'] at hq
        have hq2 := hq.2
        rw [show Region.wanted al' (yielded ops' a.tmps) = true by unfold Region.wanted; rw [hmg']] at hq2
        obtain ⟨v, hv, hk⟩ := hq2
        have hvp : v = p := by
          have := hv w (.inl rfl)
          unfold Oper.quietAtIn execOp at this
          rw [hma] at this
          simp [Oper.quietUponIn, Sem.run_pure, Act.eval] at this
          exact this.symm
        subst hvp
        unfold wpOpIn
        rw [hm]
        simp only [show Region.wanted al (yielded ops a.tmps) = true by unfold Region.wanted; rw [hmg], if_true]
        refine hal a _ (ih _ _ _ (by simpa using hsz) hls2 (.inr ⟨?_, rfl⟩) (by rw [← hmd]; exact hk))
        rw [Array.getD_eq_getD_getElem?]
        simp [hsz, hmsz]
      · have hisz : i < ops.size := by
          unfold Region.ready at hi
          rw [List.mem_filter] at hi
          simpa using hi.1
        have hoi : ops[i]? = some ops[i] := by simp [hisz]
        obtain ⟨h1, h2, h3⟩ := hsame i _ hoi him his
        have hw2 : ((listed.setIfInBounds i true).getD m true = false ∧ w = w0) ∨ ((listed.setIfInBounds i true).getD m true = true ∧ w = w1) := by
          rw [Array.getD_eq_getD_getElem?, Array.getElem?_setIfInBounds_ne him, ← Array.getD_eq_getD_getElem?]; exact hw
        unfold qOpIn at hq
        rw [h1] at hq
        obtain ⟨hask, hq2⟩ := hq
        rw [show Region.wanted ops[i] (yielded ops' a.tmps) = true by unfold Region.wanted; rw [h3]] at hq2
        obtain ⟨v, hv, hk⟩ := hq2
        have hCw : w = w0 ∨ w = w1 := by rcases hw with ⟨_, e⟩ | ⟨_, e⟩ <;> simp [e]
        have hv' := hv w hCw
        unfold wpOpIn
        rw [hoi]
        simp only [show Region.wanted ops[i] (yielded ops a.tmps) = true by unfold Region.wanted; rw [h3], if_true]
        unfold Oper.wpIn
        refine ⟨hask w hCw, ?_⟩
        have hmem : ops[i] ∈ ops.toList := by simp
        rw [Oper.semAt_eq _ _ _ (noDefer_spec hnd hmem)]
        unfold Oper.quietAtIn at hv'
        cases hr : (execOp a.eval ops[i]).run P w with
        | halt c w' => rw [hr] at hv'; simp only [Oper.quietUponIn] at hv'
        | ok x w' =>
          obtain ⟨u, rfl⟩ := plainOp_value h2 hr
          rw [hr] at hv'
          simp only [Oper.quietUponIn] at hv'
          obtain ⟨e1, e2⟩ := hv'
          simp only [Oper.uponIn]
          rw [e1, e2]
          exact ih _ _ _ (by simpa using hsz) hls2 hw2 hk

/-- The region with its allocation and its store made still. -/
def turned (l : List Oper) (m s : Nat) (hm : m < l.length) (hs : s < l.length) (p : Value) : List Oper := (l.set m { l[m] with op := .move (.const p) }).set s { l[s] with op := .move (.const undef), dst := none }
def plainAll (l : List Oper) (m s : Nat) : Bool := (List.range l.length).all fun i => i == m || i == s || ((l[i]?).map plainOp).getD true

theorem region_alloc {id m s : Nat} {l : List Oper} {p : Value} {w1 : World} {Q : Act → Prop} {Q' : Exit → Act → World → Prop} {a : Act} {w : World} (hm : m < l.length) (hs : s < l.length) (hms : m ≠ s)
    (hnd : noDefer l = true) (hmix : P.follows .mixedOrders = true) (hback : backB l.toArray = true) (hlast : lastB .any l.toArray s l[s] = true) (hplain : plainAll l m s = true) (hg : (l.all fun o => o.guard.isNone) = true)
    (hB : Region.lexB .any (turned l m s hm hs p).toArray = true)
    (hal : ∀ a (K : Act → World → Prop), K (a.put l[m].dst p) w1 → l[m].wpIn F n P a w.drew K Q')
    (hst : ∀ a, Q a → l[s].wpIn F n P a w1 (fun a' w' => Q' .normal a' w') Q')
    (h : wpQuietIn F n P (turned l m s hm hs p).toArray (fun w' => w' = w.drew ∨ w' = w1) Q (turned l m s hm hs p) a) : (Code.region id l.toArray true).wpIn F n P Q' a w := by
  have hgi : ∀ o ∈ l, o.guard = none := fun o ho => by have := List.all_eq_true.1 hg o ho; simpa using this
  simp only [Region.lexB, Bool.and_eq_true] at hB
  refine wpIn_region_any hmix ?_
  have hq := wpAnyQIn_lex (F := F) (n := n) (P := P) (C := fun w' => w' = w.drew ∨ w' = w1) (md := .any) hB.1 (turned l m s hm hs p) 0 (Array.replicate l.length false) a (by simp) (by simpa [turned] using hB.2) h
  have hgm : l[m].guard = none := hgi _ (List.getElem_mem _)
  have hgs : l[s].guard = none := hgi _ (List.getElem_mem _)
  have hmain := wpAnyIn_alloc (F := F) (n := n) (P := P) (md := .any) (ops := l.toArray) (ops' := (turned l m s hm hs p).toArray) (m := m) (s := s) (al := l[m]) (st := l[s]) (al' := { l[m] with op := .move (.const p) }) (st' := { l[s] with op := .move (.const undef), dst := none }) (p := p) (w0 := w.drew) (w1 := w1) (Q := Q) (Q' := Q')
    (by simpa using hnd) ?haft hback hms ?hsame (by simp [hm]) ?hm' rfl rfl hgm hgm (by simp [hs]) ?hs' rfl hgs hgs hlast hal hst l.length (Array.replicate l.length false) a w.drew (by simp) (by simp [hs]) (.inl ⟨by simp [hm], rfl⟩) (by simpa [turned] using hq)
  · simpa using hmain
  case haft =>
    apply Array.ext'
    simp only [turned, List.map_toArray]
    apply List.ext_getElem?
    intro i
    simp only [List.getElem?_map, List.getElem?_set]
    by_cases h1 : s = i
    · subst h1; simp [hs]
    · by_cases h2 : m = i
      · subst h2; simp [hm, h1]
      · simp [h1, h2]
  case hsame =>
    intro i o ho h1 h2
    have ho' : l[i]? = some o := by simpa using ho
    refine ⟨?_, ?_, hgi o (List.mem_of_getElem? ho')⟩
    · simp only [turned, List.getElem?_toArray, List.getElem?_set]
      simp [Ne.symm h1, Ne.symm h2, ho']
    · unfold plainAll at hplain
      rw [List.all_eq_true] at hplain
      have := hplain i (by simpa using (List.getElem?_eq_some_iff.1 ho').1)
      rw [ho'] at this
      simpa [h1, h2] using this
  case hm' => simp [turned, hm, Ne.symm hms]
  case hs' => simp [turned, hs]

theorem region_allocA {id m s : Nat} {l : List Oper} (p : Value) (w1 : World) (A : Act) {Q' : Exit → Act → World → Prop} {a : Act} {w : World} (hm : m < l.length) (hs : s < l.length) (hms : m ≠ s)
    (hnd : noDefer l = true) (hmix : P.follows .mixedOrders = true) (hback : backB l.toArray = true) (hlast : lastB .any l.toArray s l[s] = true) (hplain : plainAll l m s = true) (hg : (l.all fun o => o.guard.isNone) = true)
    (hB : Region.lexB .any (turned l m s hm hs p).toArray = true)
    (hal : ∀ a (K : Act → World → Prop), K (a.put l[m].dst p) w1 → l[m].wpIn F n P a w.drew K Q')
    (hst : l[s].wpIn F n P A w1 (fun a' w' => Q' .normal a' w') Q')
    (h : wpQuietIn F n P (turned l m s hm hs p).toArray (fun w' => w' = w.drew ∨ w' = w1) (fun x => x = A) (turned l m s hm hs p) a) : (Code.region id l.toArray true).wpIn F n P Q' a w :=
  region_alloc hm hs hms hnd hmix hback hlast hplain hg hB hal (fun a e => by subst e; exact hst) h

theorem q_step {C : World → Prop} {Q : Act → Prop} {o : Oper} {rest : List Oper} {a : Act} (v : Value) (ha : o.askedIn F P a C) (hg : o.guard = none) (hv : ∀ w, C w → o.quietAtIn F n P a C w v) (hn : wpQuietIn F n P ops C Q rest (a.put o.dst v)) : wpQuietIn F n P ops C Q (o :: rest) a :=
  ⟨ha, by rw [show Region.wanted o (yielded ops a.tmps) = true by unfold Region.wanted; rw [hg]]; exact ⟨v, hv, hn⟩⟩
end
end Go.Proofs.Ytnpfninkopffmaa
