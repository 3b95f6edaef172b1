/- impl.permute: the closure that calls itself and hands each full order to a function, by a contract of its own for whatever that function does. Conditions: at least one number, at most 24. With texts that it needs. -/
import Derived.Test.YtcopjdhnmkfkfaaBestAll7
import Derived.Test.YtcopjdhnmkfkfaaBestAll6
import Derived.Test.YtcopjdhnmkfkfaaBestAll1
import Derived.Deep.RegionHeld3
import Derived.Test.YtcopjdhnmkfkfaaBestAll5
import Derived.Test.YtcopjdhnmkfkfaaBestAll2
import Derived.Deep.DeepAppendRoom
namespace Go.Proofs.Ytcopjdhnmkfkfaa
open Go.RowKit
set_option linter.unusedVariables false
set_option linter.unusedSimpArgs false

/-- What is left of whole jobs at t, by their ends F. -/
def leftM (js : List Jb) (F : Nat → Int) (t : Int) (i : Nat) : Int := max 0 (min (tmJ js i) (F i - t))
/-- The ends of whole jobs, none with another one on the machine. -/
structure WholeJ (js : List Jb) (F : Nat → Int) : Prop where
  up : ∀ i, i < js.length → rlJ js i + tmJ js i ≤ F i
  apart : ∀ i j, i < js.length → j < js.length → i ≠ j → F i ≤ F j - tmJ js j ∨ F j ≤ F i - tmJ js i
theorem whole_order {js : List Jb} {E : List Int} (h : GoodJ js) (hE : E.Perm (idL js.length)) : WholeJ js fun i => nth (endsE js E) i := by
  have hl : E.length = js.length := by rw [hE.length_eq, idL_length]
  have hpos : ∀ i, i < js.length → ∃ m, m < js.length ∧ (nth E m).toNat = i := fun i hi => by
    have hin : (i : Int) ∈ E := hE.mem_iff.2 (idL_mem.2 (by omega))
    obtain ⟨m, hm, he⟩ := List.getElem_of_mem hin
    exact ⟨m, by omega, by rw [nth_eq hm, he, Int.toNat_natCast]⟩
  have hend : ∀ m, m < js.length → nth (endsE js E) (nth E m).toNat = atTo js E (m + 1) := fun m hm => endsTo_at hE js.length (Nat.le_refl _) m hm
  refine ⟨fun i hi => ?_, fun i j hi hj hij => ?_⟩
  · obtain ⟨m, hm, rfl⟩ := hpos i hi
    show _ ≤ nth (endsE js E) _
    rw [hend m hm]
    exact (atTo_up h hE hm).2
  · obtain ⟨p, hp, rfl⟩ := hpos i hi
    obtain ⟨q, hq, rfl⟩ := hpos j hj
    show nth (endsE js E) _ ≤ nth (endsE js E) _ - _ ∨ nth (endsE js E) _ ≤ nth (endsE js E) _ - _
    rw [hend p hp, hend q hq]
    have hpq : p ≠ q := fun e => hij (by rw [e])
    rcases Nat.lt_or_ge p q with h1 | h1
    · left
      have := atTo_le h hE (p := p + 1) q (by omega) (by omega)
      have := (atTo_up h hE hq).1
      omega
    · right
      have := atTo_le h hE (p := q + 1) p (by omega) (by omega)
      have := (atTo_up h hE hp).1
      omega
theorem sumP_one {f : Nat → Int} {p : Nat → Bool} : ∀ n, (∀ i, i < n → 0 ≤ f i ∧ f i ≤ 1) → (∀ i j, i < n → j < n → f i = 1 → f j = 1 → i = j) → sumP f p n ≤ 1
  | 0, _, _ => by show (0 : Int) ≤ 1; omega
  | n + 1, h, hu => by
    rw [sumP_succ]
    have h1 := sumP_one (f := f) (p := p) n (fun i hi => h i (by omega)) (fun i j hi hj => hu i j (by omega) (by omega))
    by_cases hn : f n = 1
    · have h2 : sumP f p n = 0 := sumP_zero n fun i hi _ => by
        have h3 := h i (by omega)
        have h4 : ¬ f i = 1 := fun e => by have := hu i n (by omega) (by omega) e hn; omega
        omega
      rw [h2, hn]
      split <;> omega
    · have h3 := h n (by omega)
      split <;> omega
theorem sumP_sub (f g : Nat → Int) (p : Nat → Bool) : ∀ n, sumP f p n - sumP g p n = sumP (fun i => f i - g i) p n
  | 0 => rfl
  | n + 1 => by
    have := sumP_sub f g p n
    rw [sumP_succ, sumP_succ, sumP_succ, ← this]
    split <;> omega
theorem whole_step {js : List Jb} {F : Nat → Int} (h : GoodJ js) (hF : WholeJ js F) (t : Int) (X : Nat → Bool) : sumP (leftM js F t) X js.length - 1 ≤ sumP (leftM js F (t + 1)) X js.length := by
  have h1 := sumP_sub (leftM js F t) (leftM js F (t + 1)) X js.length
  have h2 := sumP_one (f := fun i => leftM js F t i - leftM js F (t + 1) i) (p := X) js.length (fun i hi => by
    show 0 ≤ leftM js F t i - leftM js F (t + 1) i ∧ leftM js F t i - leftM js F (t + 1) i ≤ 1
    unfold leftM
    have := h.time i hi
    omega) (fun i j hi hj h3 h4 => by
      have h3 : leftM js F t i - leftM js F (t + 1) i = 1 := h3
      have h4 : leftM js F t j - leftM js F (t + 1) j = 1 := h4
      rcases Classical.em (i = j) with e | e
      · exact e
      · exfalso
        have h5 := hF.apart i j hi hj e
        have h6 := h.time i hi
        have h7 := h.time j hj
        unfold leftM at h3 h4
        omega)
  omega
def relP (js : List Jb) (t : Int) (i : Nat) : Bool := decide (rlJ js i ≤ t)
/-- At each time the pieces are not behind. -/
theorem srpt_dom {js : List Jb} {F : Nat → Int} (h : GoodJ js) (hF : WholeJ js F) : ∀ t : Nat, DomP js.length (relP js t) (fun i => nth (pieTo js 0 t).left i) (leftM js F t)
  | 0 => by
    have h0 : DomP js.length (fun _ => false) (fun i => nth (pieTo js 0 0).left i) (leftM js F ((0 : Nat) : Int)) := fun R' => ⟨R', Int.le_refl _, by
      rw [sumP_zero js.length (fun i _ hp => by simp at hp), sumP_zero js.length (fun i _ hp => by simp at hp)]; omega⟩
    refine h0.arrive (fun i _ hr => by cases hr) (fun i hi hr _ => ?_)
    have h1 : nth (pieTo js 0 0).left i = tmJ js i := nth_map1 hi
    have h2 := hF.up i hi
    have h3 := h.rel i hi
    have h4 := h.time i hi
    show nth (pieTo js 0 0).left i = leftM js F _ i
    rw [h1]
    unfold leftM
    omega
  | t + 1 => by
    have ih := srpt_dom h hF t
    have hI := pieI_to h 0 t
    have hI1 := pieI_to h 0 (t + 1)
    have hM : ∀ i, i < js.length → 0 ≤ leftM js F ((t : Int) + 1) i := fun i _ => by unfold leftM; omega
    have hrun : DomP js.length (relP js t) (fun i => nth (pieTo js 0 (t + 1)).left i) (leftM js F ((t : Int) + 1)) := by
      show DomP js.length (relP js t) (fun i => nth (pieStep js 0 t (pieTo js 0 t)).left i) _
      rcases pieStep_cases (js := js) (rule := 0) (t := (t : Int)) (s := pieTo js 0 t) with ⟨_, h2, h3⟩ | ⟨b, hb, _, h3, h4, h5⟩
      · rw [h3]
        refine DomP.idle (fun i hi hr => ?_) hM
        have := h2 i hi
        unfold availQ at this
        unfold relP at hr
        rw [decide_eq_true_eq] at hr
        rcases Classical.em (nth (pieTo js 0 t).left i = 0) with q | q
        · exact q
        · exact absurd ⟨hr, q⟩ this
      · rw [h5]
        have hll := hI.ll
        have hbl := hI.left b hb
        refine ih.run hM (fun X => whole_step h hF t _) hb (by unfold relP; rw [decide_eq_true_eq]; exact h3.1) (fun i hi => (hI.left i hi).1) (by have := h3.2; omega) (fun c hc hr hn => ?_) (fun i hi => ?_)
        · unfold relP at hr
          rw [decide_eq_true_eq] at hr
          have := h4 c hc ⟨hr, hn⟩
          unfold keyQ at this
          rw [if_pos rfl, if_pos rfl] at this
          exact this
        · show nth (List.set _ b _) i = _
          rw [nth_setJ _ (by omega)]
          by_cases e : b = i
          · rw [if_pos e, if_pos e.symm]
          · rw [if_neg e, if_neg (fun x => e x.symm)]
    refine hrun.arrive (fun i hi hr => ?_) (fun i hi hr hn => ?_)
    · unfold relP at hr ⊢
      rw [decide_eq_true_eq] at hr ⊢
      omega
    · unfold relP at hr hn
      rw [decide_eq_true_eq] at hr
      rw [decide_eq_false_iff_not] at hn
      have h1 := hI1.unrel i hi (by omega)
      have h2 := hF.up i hi
      have h3 := h.time i hi
      show nth (pieTo js 0 (t + 1)).left i = leftM js F _ i
      rw [h1]
      unfold leftM
      omega
theorem srpt_count {js : List Jb} {F : Nat → Int} (h : GoodJ js) (hF : WholeJ js F) (t : Nat) : cntP (fun i => decide (nth (pieTo js 0 t).left i ≠ 0)) js.length ≤ cntP (fun i => decide (leftM js F t i ≠ 0)) js.length := by
  have hI := pieI_to h 0 t
  have h1 := (srpt_dom h hF t).count (fun i hi => (hI.left i hi).1)
  have e1 := sumP_split (fun _ => (1 : Int)) (fun i => decide (nth (pieTo js 0 t).left i ≠ 0)) (relP js t) js.length
  have e2 := sumP_split (fun _ => (1 : Int)) (fun i => decide (leftM js F t i ≠ 0)) (relP js t) js.length
  have e3 : sumP (fun _ => (1 : Int)) (fun i => decide (nth (pieTo js 0 t).left i ≠ 0) && relP js t i) js.length = sumP (fun _ => (1 : Int)) (fun i => relP js t i && decide (nth (pieTo js 0 t).left i ≠ 0)) js.length := sumP_congr js.length fun i _ => ⟨Bool.and_comm _ _, fun _ => rfl⟩
  have e4 : sumP (fun _ => (1 : Int)) (fun i => decide (leftM js F t i ≠ 0) && relP js t i) js.length = sumP (fun _ => (1 : Int)) (fun i => relP js t i && decide (leftM js F t i ≠ 0)) js.length := sumP_congr js.length fun i _ => ⟨Bool.and_comm _ _, fun _ => rfl⟩
  have e5 : sumP (fun _ => (1 : Int)) (fun i => decide (nth (pieTo js 0 t).left i ≠ 0) && !relP js t i) js.length ≤ sumP (fun _ => (1 : Int)) (fun i => decide (leftM js F t i ≠ 0) && !relP js t i) js.length := sumP_mono js.length fun i hi => by
    cases hr : relP js t i
    · unfold relP at hr
      rw [decide_eq_false_iff_not] at hr
      have h2 := hF.up i hi
      have h3 := h.time i hi
      have h4 : leftM js F t i ≠ 0 := by unfold leftM; omega
      rw [decide_eq_true h4]
      by_cases q : nth (pieTo js 0 t).left i ≠ 0
      · simp [q]
      · simp [q]
    · simp
  show sumP _ _ _ ≤ sumP _ _ _
  have h1' : sumP (fun _ => (1 : Int)) (fun i => relP js t i && decide (nth (pieTo js 0 t).left i ≠ 0)) js.length ≤ sumP (fun _ => (1 : Int)) (fun i => relP js t i && decide (leftM js F t i ≠ 0)) js.length := h1
  rw [e1, e2, e3, e4]
  omega
def sumH (f : Nat → Int) : Nat → Int
  | 0 => 0
  | m + 1 => sumH f m + f m
theorem sumH_below (e : Int) (h0 : 0 ≤ e) : ∀ H : Nat, sumH (fun t => if (t : Int) < e then 1 else 0) H = min (H : Int) e
  | 0 => by show (0 : Int) = _; omega
  | H + 1 => by
    show sumH _ H + (if (H : Int) < e then 1 else 0) = _
    rw [sumH_below e h0 H]
    by_cases q : (H : Int) < e
    · rw [if_pos q]; omega
    · rw [if_neg q]; omega
theorem sumH_mono {f g : Nat → Int} : ∀ H, (∀ t, t < H → f t ≤ g t) → sumH f H ≤ sumH g H
  | 0, _ => Int.le_refl _
  | H + 1, h => by
    have h1 := sumH_mono (f := f) (g := g) H (fun t ht => h t (by omega))
    have h2 := h H (by omega)
    show sumH f H + f H ≤ sumH g H + g H
    omega
theorem sum_swap (e : Nat → Int) (n : Nat) : ∀ H : Nat, sumP (fun i => sumH (fun t => if (t : Int) < e i then 1 else 0) H) (fun _ => true) n = sumH (fun t => cntP (fun i => decide ((t : Int) < e i)) n) H
  | 0 => sumP_zero n fun _ _ _ => rfl
  | H + 1 => by
    show sumP (fun i => sumH (fun t => if (t : Int) < e i then 1 else 0) H + if (H : Int) < e i then 1 else 0) (fun _ => true) n = sumH _ H + _
    rw [← sum_swap e n H]
    have key : ∀ (f : Nat → Int) m, sumP (fun i => f i + if (H : Int) < e i then 1 else 0) (fun _ => true) m = sumP f (fun _ => true) m + sumP (fun _ => (1 : Int)) (fun i => decide ((H : Int) < e i)) m := fun f m => by
      induction m with
      | zero => rfl
      | succ m ih =>
        rw [sumP_succ, sumP_succ, sumP_succ, ih, if_pos rfl, if_pos rfl]
        by_cases q : (H : Int) < e m
        · rw [if_pos q, if_pos (decide_eq_true q)]; omega
        · rw [if_neg q, if_neg (by simpa using q)]; omega
    exact key _ n
theorem sum_ends (e : Nat → Int) (n H : Nat) (h : ∀ i, i < n → 0 ≤ e i ∧ e i ≤ H) : sumP e (fun _ => true) n = sumH (fun t => cntP (fun i => decide ((t : Int) < e i)) n) H := by
  rw [← sum_swap]
  exact sumP_congr n fun i hi => ⟨rfl, fun _ => by rw [sumH_below _ (h i hi).1]; have := h i hi; omega⟩
/-- The sum of the ends of the pieces. -/
theorem srpt_le {js : List Jb} {E : List Int} (h : GoodJ js) (hE : E.Perm (idL js.length)) {T : Nat} (hz : ∀ i, i < js.length → nth (pieTo js 0 T).left i = 0) :
    sumP (fun i => nth (pieTo js 0 T).ends i) (fun _ => true) js.length ≤ sumP (fun i => nth (endsE js E) i) (fun _ => true) js.length := by
  have hF := whole_order h hE
  have hI := pieI_to h 0 T
  have hl : E.length = js.length := by rw [hE.length_eq, idL_length]
  obtain ⟨H, hH1, hH2⟩ : ∃ H : Nat, T ≤ H ∧ ∀ i, i < js.length → nth (endsE js E) i ≤ (H : Int) := by
    have key : ∀ n, n ≤ js.length → ∃ H : Nat, T ≤ H ∧ ∀ i, i < n → nth (endsE js E) i ≤ (H : Int) := fun n => by
      induction n with
      | zero => intro _; exact ⟨T, Nat.le_refl _, fun i hi => absurd hi (Nat.not_lt_zero _)⟩
      | succ n ih =>
        intro hn
        obtain ⟨H, a1, a2⟩ := ih (by omega)
        refine ⟨H + (nth (endsE js E) n).toNat, by omega, fun i hi => ?_⟩
        by_cases e : i = n
        · subst e; omega
        · have := a2 i (by omega); omega
    exact key js.length (Nat.le_refl _)
  rw [sum_ends (fun i => nth (pieTo js 0 T).ends i) js.length H (fun i hi => by have := hI.ends i hi; omega),
    sum_ends (fun i => nth (endsE js E) i) js.length H (fun i hi => by have := hF.up i hi; have := h.rel i hi; have := h.time i hi; have := hH2 i hi; omega)]
  refine sumH_mono H fun t ht => ?_
  refine Int.le_trans (Int.le_trans ?_ (srpt_count h hF t)) ?_
  · refine sumP_mono js.length fun i hi => ?_
    by_cases q : nth (pieTo js 0 t).left i = 0
    · have hI2 := (pieI_to h 0 t).ends i hi
      have h3 : ¬ (t : Int) < nth (pieTo js 0 T).ends i := by
        rcases Nat.lt_or_ge t T with h4 | h4
        · obtain ⟨d, rfl⟩ : ∃ d, T = t + d := ⟨T - t, by omega⟩
          rw [(pie_done h 0 hi t q d).2]; omega
        · have := hI.ends i hi; omega
      rw [if_neg (by simpa using h3)]
      split <;> omega
    · rw [if_pos (show decide (nth (pieTo js 0 t).left i ≠ 0) = true by simpa using q)]
      split <;> omega
  · refine sumP_mono js.length fun i hi => ?_
    by_cases q : leftM js (fun i => nth (endsE js E) i) t i = 0
    · rw [if_neg (by simp [q])]
      split <;> omega
    · have h3 : (t : Int) < nth (endsE js E) i := by
        have q2 : ¬ max 0 (min (tmJ js i) (nth (endsE js E) i - (t : Int))) = 0 := q
        omega
      rw [if_pos (by simpa using q), if_pos (by simpa using h3)]
      omega
end Go.Proofs.Ytcopjdhnmkfkfaa

namespace Go.Proofs.Ytcopjdhnmkfkfaa
open Go.RowKit
set_option linter.unusedVariables false
set_option linter.unusedSimpArgs false

def onT (js : List Jb) (ends : List Int) (x : Int) : Bool := decide (nth ends x.toNat ≤ duJ js x.toNat)
theorem costTo_late (js : List Jb) (ends : List Int) : ∀ k, costTo 4 js ends k + (((idL (k + 1)).filter (onT js ends)).length : Int) = (k : Int) + 1
  | 0 => by
    have e : idL (0 + 1) = [(0 : Int)] := rfl
    rw [e]
    unfold costTo shareB
    by_cases h : duJ js 0 < nth ends 0
    · rw [if_neg (by omega), if_neg (by omega), if_neg (by omega), if_neg (by omega), if_pos h, List.filter_cons_of_neg (by unfold onT; simpa using h)]
      simp
    · rw [if_neg (by omega), if_neg (by omega), if_neg (by omega), if_neg (by omega), if_neg h, List.filter_cons_of_pos (by unfold onT; simpa using h)]
      simp
  | k + 1 => by
    have h1 := costTo_late js ends k
    rw [idL_succ, List.filter_append, List.length_append]
    unfold costTo bothB
    rw [if_neg (by decide)]
    unfold shareB
    by_cases h : duJ js (k + 1) < nth ends (k + 1)
    · rw [if_neg (by omega), if_neg (by omega), if_neg (by omega), if_neg (by omega), if_pos h, List.filter_cons_of_neg (by unfold onT; simp only [Int.toNat_natCast, decide_eq_true_eq]; omega)]
      simp only [List.filter_nil, List.length_nil]
      omega
    · rw [if_neg (by omega), if_neg (by omega), if_neg (by omega), if_neg (by omega), if_neg h, List.filter_cons_of_pos (by unfold onT; simp only [Int.toNat_natCast, decide_eq_true_eq]; omega)]
      simp only [List.filter_nil, List.length_cons, List.length_nil]
      omega
theorem atTo_sum {js : List Jb} (h : FreeJ js) (E : List Int) : ∀ k, k ≤ E.length → atTo js E k = sumT js (E.take k)
  | 0, _ => by rw [List.take_zero]; rfl
  | k + 1, hk => by
    have h1 := atTo_sum h E k (by omega)
    have h2 := sumT_nn h (E.take k)
    unfold atTo
    rw [h.rel, h1, List.take_succ_eq_append_getElem (by omega), sumT_append, sumT_cons, sumT_nil, nth_eq (by omega)]
    omega
/-- The jobs on time, in whatever order. -/
theorem onT_feas {js : List Jb} {E : List Int} (h : FreeJ js) (hE : E.Perm (idL js.length)) : FeasS js ((idL js.length).filter (onT js (endsE js E))) := by
  have hl : E.length = js.length := by rw [hE.length_eq, idL_length]
  rintro d ⟨i, hi, hd⟩
  rw [List.filter_filter]
  have hp : ((idL js.length).filter fun x => decide (duJ js x.toNat ≤ d) && onT js (endsE js E) x).Perm (E.filter fun x => decide (duJ js x.toNat ≤ d) && onT js (endsE js E) x) := (hE.symm.filter _)
  rw [sumT_perm hp]
  have H : ∀ k, k ≤ E.length → (E.take k).filter (fun x => decide (duJ js x.toNat ≤ d) && onT js (endsE js E) x) = [] ∨ sumT js ((E.take k).filter fun x => decide (duJ js x.toNat ≤ d) && onT js (endsE js E) x) ≤ d := by
    intro k
    induction k with
    | zero => intro _; left; rw [List.take_zero]; rfl
    | succ k ih =>
      intro hk
      have h1 := ih (by omega)
      have h2 : E.take (k + 1) = E.take k ++ [E[k]'(by omega)] := List.take_succ_eq_append_getElem (by omega)
      by_cases hx : (decide (duJ js (E[k]'(by omega)).toNat ≤ d) && onT js (endsE js E) (E[k]'(by omega))) = true
      · right
        have h3 : sumT js ((E.take (k + 1)).filter fun x => decide (duJ js x.toNat ≤ d) && onT js (endsE js E) x) ≤ sumT js (E.take (k + 1)) :=
          sumT_sub h _ _ (List.Pairwise.sublist List.filter_sublist (List.Pairwise.sublist (List.take_sublist _ _) (permQ_nodup hE))) (fun x hx => (List.mem_filter.1 hx).1)
        have h4 := endsTo_at hE js.length (Nat.le_refl _) k (by omega)
        rw [atTo_sum h E (k + 1) hk, nth_eq (show k < E.length by omega)] at h4
        rw [Bool.and_eq_true, decide_eq_true_eq] at hx
        have h5 := hx.2
        unfold onT at h5
        rw [decide_eq_true_eq] at h5
        have h6 : nth (endsE js E) (E[k]'(by omega)).toNat = sumT js (E.take (k + 1)) := h4
        rw [h6] at h5
        have := hx.1
        omega
      · have h9 : [E[k]'(by omega)].filter (fun x => decide (duJ js x.toNat ≤ d) && onT js (endsE js E) x) = [] := by
          simp only [List.filter_cons, List.filter_nil]
          rw [if_neg hx]
        rw [h2, List.filter_append, h9, List.append_nil]
        exact h1
  rcases H E.length (Nat.le_refl _) with h1 | h1
  · exfalso
    rw [List.take_length] at h1
    rw [List.mem_filter] at hi
    have : i ∈ E.filter (fun x => decide (duJ js x.toNat ≤ d) && onT js (endsE js E) x) := List.mem_filter.2 ⟨hE.mem_iff.2 hi.1, by rw [hi.2, Bool.and_true]; simpa using hd⟩
    rw [h1] at this
    cases this
  · rwa [List.take_length] at h1
/-- Behind k jobs, in the order of their due times. -/
theorem mhI_to {js : List Jb} {O : List Int} (h : FreeJ js) (hd0 : ∀ i, 0 ≤ duJ js i) (hO : O.Perm (idL js.length)) (hs : ∀ p q, p ≤ q → q < js.length → duJ js (nth O p).toNat ≤ duJ js (nth O q).toNat) : ∀ k, k ≤ js.length → MhI js (O.take k) (mhTo js O k)
  | 0, _ => by rw [List.take_zero]; exact mhI_zero js
  | k + 1, hk => by
    have hl : O.length = js.length := by rw [hO.length_eq, idL_length]
    have h1 := mhI_to h hd0 hO hs k (by omega)
    have h2 : O.take (k + 1) = O.take k ++ [nth O k] := by rw [List.take_succ_eq_append_getElem (by omega), nth_eq (by omega)]
    rw [h2]
    refine mhI_step h h1 ?_ (fun x hx => ?_) (hd0 _)
    · rw [← h2]
      exact List.Pairwise.sublist (List.take_sublist _ _) (permQ_nodup hO)
    · obtain ⟨m, hm, rfl⟩ := List.getElem_of_mem hx
      rw [List.length_take] at hm
      have h5 := hs m k (by omega) (by omega)
      rw [List.getElem_take, ← nth_eq (show m < O.length by omega)]
      exact h5
theorem few_low {js : List Jb} {O E : List Int} (h : FreeJ js) (hd0 : ∀ i, 0 ≤ duJ js i) (h1 : 1 ≤ js.length) (hO : O.Perm (idL js.length)) (hs : ∀ p q, p ≤ q → q < js.length → duJ js (nth O p).toNat ≤ duJ js (nth O q).toNat) (hE : E.Perm (idL js.length)) : (mhTo js O js.length).taken ≤ costE 4 js E := by
  have hl : O.length = js.length := by rw [hO.length_eq, idL_length]
  have hI := mhI_to h hd0 hO hs js.length (Nat.le_refl _)
  rw [List.take_of_length_le (by omega)] at hI
  have h2 := costTo_late js (endsE js E) (js.length - 1)
  rw [show js.length - 1 + 1 = js.length by omega] at h2
  obtain ⟨R, r1, r2, r3, r4⟩ := hI.best _ (List.Pairwise.sublist List.filter_sublist (idQ_nodup js.length)) (fun x hx => hO.mem_iff.2 (List.mem_filter.1 hx).1) (onT_feas h hE)
  have h3 := subQ_len R _ r1 r2
  have h4 := hI.cnt
  unfold costE
  omega
theorem few_high {js : List Jb} {O : List Int} (h : FreeJ js) (hd0 : ∀ i, 0 ≤ duJ js i) (h1 : 1 ≤ js.length) (hO : O.Perm (idL js.length)) (hs : ∀ p q, p ≤ q → q < js.length → duJ js (nth O p).toNat ≤ duJ js (nth O q).toNat) : ∃ E : List Int, E.Perm (idL js.length) ∧ costE 4 js E ≤ (mhTo js O js.length).taken := by
  have hl : O.length = js.length := by rw [hO.length_eq, idL_length]
  have hI := mhI_to h hd0 hO hs js.length (Nat.le_refl _)
  rw [List.take_of_length_le (by omega)] at hI
  obtain ⟨K, hK⟩ : ∃ K, (mhTo js O js.length).out = K := ⟨_, rfl⟩
  have hKn : K.Pairwise fun x y => x ≠ y := by rw [← hK]; exact List.Pairwise.sublist hI.sub (permQ_nodup hO)
  have hKs : ∀ x ∈ K, x ∈ idL js.length := fun x hx => hO.mem_iff.1 (hI.sub.subset (by rw [hK]; exact hx))
  have hE : (K ++ (idL js.length).filter fun x => !K.contains x).Perm (idL js.length) := by
    refine subQ_perm _ _ (List.pairwise_append.2 ⟨hKn, List.Pairwise.sublist List.filter_sublist (idQ_nodup _), fun x hx y hy e => ?_⟩) (fun x hx => ?_) ?_
    · subst e
      have := (List.mem_filter.1 hy).2
      rw [List.contains_iff_mem.2 hx] at this
      cases this
    · rcases List.mem_append.1 hx with e | e
      · exact hKs x e
      · exact (List.mem_filter.1 e).1
    · refine subQ_len _ _ (idQ_nodup _) (fun x hx => ?_)
      cases hc : K.contains x
      · exact List.mem_append_right _ (List.mem_filter.2 ⟨hx, by rw [hc]; rfl⟩)
      · exact List.mem_append_left _ (List.contains_iff_mem.1 hc)
  obtain ⟨E, hEe⟩ : ∃ E, K ++ (idL js.length).filter (fun x => !K.contains x) = E := ⟨_, rfl⟩
  rw [hEe] at hE
  have hEl : E.length = js.length := by rw [hE.length_eq, idL_length]
  refine ⟨E, hE, ?_⟩
  have h2 := costTo_late js (endsE js E) (js.length - 1)
  rw [show js.length - 1 + 1 = js.length by omega] at h2
  have h3 : K.length ≤ ((idL js.length).filter (onT js (endsE js E))).length := by
    refine subQ_len _ _ hKn fun x hx => List.mem_filter.2 ⟨hKs x hx, ?_⟩
    obtain ⟨k, hk, rfl⟩ := List.getElem_of_mem hx
    have hkE : k < E.length := by rw [← hEe, List.length_append]; omega
    have h4 := endsTo_at hE js.length (Nat.le_refl _) k (by omega)
    rw [atTo_sum h E (k + 1) (by omega)] at h4
    have h5 : nth E k = K[k] := by rw [nth_eq hkE]; simp only [← hEe]; rw [List.getElem_append_left hk]
    have h6 : E.take (k + 1) = K.take (k + 1) := by rw [← hEe, List.take_append_of_le_length (by omega)]
    have h7 := hI.pre k (by rw [hK]; exact hk)
    rw [hK, nth_eq hk] at h7
    rw [h5, h6] at h4
    unfold onT
    rw [decide_eq_true_eq]
    have h8 : nth (endsE js E) (K[k]).toNat = sumT js (K.take (k + 1)) := h4
    omega
  have h4 := hI.cnt
  rw [hK] at h4
  unfold costE
  omega
end Go.Proofs.Ytcopjdhnmkfkfaa

namespace Go.Proofs.Ytcopjdhnmkfkfaa
open Go.RowKit
set_option linter.unusedVariables false
set_option linter.unusedSimpArgs false

theorem OwnI.madeE {w : World} {base g : Nat} {n : Nat} (h : w.ownsRow base 2 1 (.slice (some ⟨g, 0, none⟩) n n) n (madeCells (Value.int .i64 0).cells (n * 1)).toList) : OwnI w base (.slice (some ⟨g, 0, none⟩) n n) (List.replicate n 0) := by
  have e : (madeCells (Value.int .i64 0).cells (n * 1)).toList = (List.replicate n 0).map (Value.int .i64) := by
    rw [Nat.mul_one]; exact (toList_madeCells_one _ _).trans (by simp)
  rw [e] at h
  unfold OwnI
  rwa [List.length_replicate]
theorem nthE_in {n : Nat} {E : List Int} (hE : E.Perm (idL n)) {k : Nat} (hk : k < n) : 0 ≤ nth E k ∧ nth E k < (n : Int) := by
  have hl : E.length = n := by rw [hE.length_eq, idL_length]
  exact idL_mem.1 (hE.mem_iff.1 (show nth E k ∈ E by rw [nth_eq (by omega)]; exact List.getElem_mem _))
theorem atTo_bounds {js : List Jb} {E : List Int} (hs : SmJ js) (hE : E.Perm (idL js.length)) : ∀ k, k ≤ js.length → 0 ≤ atTo js E k ∧ atTo js E k ≤ 10000 + 10000 * (k : Int)
  | 0, _ => by unfold atTo; omega
  | k + 1, hk => by
    have h1 := atTo_bounds hs hE k (by omega)
    have h2 := nthE_in hE (show k < js.length by omega)
    have h3 := hs.rel (nth E k).toNat (by omega)
    have h4 := hs.time (nth E k).toNat (by omega)
    unfold atTo
    omega
def EndR (js : List Jb) (E : List Int) (T : Nat) (w : World) (g : Nat) (va vk : Value) (wr : World) : Prop :=
  ∃ k : Nat, k ≤ T ∧ vk = .int .i64 k ∧ va = .int .i64 (atTo js E k) ∧ Hid (OwnI wr w.heap.size (.slice (some ⟨g, 0, none⟩) T T) (endsTo js E k)) ∧ Hid (Below w.heap.size w wr)
set_option maxRecDepth 100000 in
set_option maxHeartbeats 2000000 in
theorem endsOf_any (v vo : Value) (js : List Jb) (E : List Int) (w : World) (hv : Jobs w v js) (ho : Ints w vo E) (hs : SmJ js) (hE : E.Perm (idL js.length)) :
    Calls Try.prog 28 #[v, vo] w fun e w' => (∃ g, e = .returned (.slice (some ⟨g, 0, none⟩) js.length js.length) ∧ OwnI w' w.heap.size (.slice (some ⟨g, 0, none⟩) js.length js.length) (endsE js E)) ∧ Below w.heap.size w w' := by
  have hEl : E.length = js.length := by rw [hE.length_eq, idL_length]
  obtain ⟨b, o, c, rfl, hcap, hbw, hV⟩ := jobs_view hv hs.n1
  obtain ⟨hm, aE, cE, rfl, hcE, hEc⟩ := ho
  have HV : Hid (∀ W, Below w.heap.size w W → JbView W b o js) := hV
  have HEC : Hid (∀ W, Below w.heap.size w W → ∀ k, k < js.length → ∃ b o, aE = some ⟨b, o, none⟩ ∧ W.cell? ⟨b, o + k, none⟩ = some (.int .i64 (nth E k))) := fun W hW k hk => by
    obtain ⟨b', o', ha, hb, hc⟩ := hEc k (by omega)
    exact ⟨b', o', ha, by rw [nth_eq (by omega)]; exact (hW.cell (p := ⟨b', o' + k, none⟩) hb).trans hc⟩
  have HS := Lib.hid hs
  have HPE := Lib.hid hE
  have HAB : Hid (∀ k, k ≤ js.length → 0 ≤ atTo js E k ∧ atTo js E k ≤ 10000 + 10000 * (k : Int)) := atTo_bounds hs hE
  obtain ⟨T, hT⟩ : ∃ T, js.length = T := ⟨_, rfl⟩
  have HT := Lib.hid hT
  have h24 : T ≤ 24 := by have := hs.n24; omega
  have HFN : Hid (endsE js E = endsTo js E T) := by show _ = _; unfold endsE; rw [hT]
  rw [hEl] at hcE ⊢
  rw [hT] at hcap hcE HEC HPE HAB ⊢
  obtain ⟨i0, hi, hz0, hz1, hz2⟩ := info_parts info_i64
  have HST : Hid (∀ w1 g, OwnI w1 w.heap.size (.slice (some ⟨g, 0, none⟩) T T) (List.replicate T 0) → Below w.heap.size w w1 → EndR js E T w g (.int .i64 0) (.int .i64 0) w1) := fun w1 g h1 h2 => ⟨0, Nat.zero_le _, rfl, rfl, by
    show OwnI _ _ _ (endsTo js E 0)
    unfold endsTo
    rw [hT]; exact h1, h2⟩
  clear hv hs hE hV hEc hT hEl
  go_enter Try.func28, Try.ntmps28
  go_wp2_with (at_make; refine wpList_make_full _ rfl _ _ 27 rfl w.heap.size 2 i0 (.int .i64 0) 1 Try.underlying27 hi hz0 hz1 _ _ _ _ T rfl rfl rfl rfl (by rw [hz2]; omega) (by unfold maxLen; omega) (Nat.le_refl _) ?_; intro w1 hown1 hgrow1; have HB1 : Hid (Below w.heap.size w w1) := (Below.refl _ _).grown hgrow1 (Nat.le_refl _) (fun k e => by cases e); have HO1 := Lib.hid (OwnI.madeE hown1); clear hown1 hgrow1)
  have HR0 := Lib.hid (HST.out w1 w.heap.size HO1.out HB1.out)
  clear hi hz0 hz1 hz2 HST HO1 HB1
  go_loopw [6, 14] (fun va vk wr => EndR js E T w w.heap.size va vk wr) (fun _ vk _ => T - (intOf vk).toNat)
  case atStart => exact HR0.out
  case round =>
    obtain ⟨k, hk, rfl, rfl, HO, HB⟩ := hrel
    clear HR0
    by_cases hkT : k < T
    · have k0 : (0 : Int) ≤ (k : Int) := by omega
      have k1 : (k : Int) < (T : Int) := by omega
      obtain ⟨b2, o2, rfl, ce⟩ := HEC.out wr HB.out k hkT
      have hin := nthE_in HPE.out hkT
      obtain ⟨i, hi⟩ : ∃ i : Nat, nth E k = i := ⟨(nth E k).toNat, by omega⟩
      have HI : Hid (nth E k = i) := hi
      rw [hi] at ce hin
      have hiT : i < T := by omega
      have i0 : (0 : Int) ≤ (i : Int) := by omega
      have hc := HV.out wr HB.out i (by rw [HT.out]; exact hiT)
      have c0 := hc.c0
      have c1 := hc.c1
      have htb := HS.out.time i (by rw [HT.out]; exact hiT)
      have hrb := HS.out.rel i (by rw [HT.out]; exact hiT)
      have hab := HAB.out k hk
      have hstep : atTo js E (k + 1) = max (atTo js E k) (rlJ js i) + tmJ js i := by show max _ (rlJ js (nth E k).toNat) + tmJ js (nth E k).toNat = _; rw [hi, Int.toNat_natCast]
      have hends : endsTo js E (k + 1) = (endsTo js E k).set i (atTo js E (k + 1)) := by show List.set _ (nth E k).toNat _ = _; rw [hi, Int.toNat_natCast]
      have hlen := endsTo_len js E k
      obtain ⟨A, hA⟩ : ∃ A, atTo js E k = A := ⟨_, rfl⟩
      obtain ⟨A2, hA2⟩ : ∃ A, atTo js E (k + 1) = A := ⟨_, rfl⟩
      obtain ⟨tm, htm⟩ : ∃ x, tmJ js i = x := ⟨_, rfl⟩
      obtain ⟨rl, hrl⟩ : ∃ x, rlJ js i = x := ⟨_, rfl⟩
      rw [hA, hA2, htm, hrl] at hstep
      rw [hA2] at hends
      rw [hA] at hab ⊢
      rw [show (jbN js i).1 = tm from htm] at c0
      rw [show (jbN js i).2.1 = rl from hrl] at c1
      rw [htm] at htb
      rw [hrl] at hrb
      have HA2 := Lib.hid hA2
      obtain ⟨s1, s2, _, _⟩ := HO.out.store (by rw [hlen, HT.out]) i (by rw [hlen, HT.out]; exact hiT) A2
      have HSX : Hid (∀ (q : Nat) (X : Int), X = A2 → OwnI ((wr.drewN q).setCell ⟨w.heap.size, i, none⟩ (.int .i64 X)) w.heap.size (.slice (some ⟨w.heap.size, 0, none⟩) T T) (endsTo js E (k + 1)) ∧ Below w.heap.size w ((wr.drewN q).setCell ⟨w.heap.size, i, none⟩ (.int .i64 X))) := fun q X hX => by
        subst hX
        obtain ⟨_, _, s3, s4⟩ := (HO.out.drewN q).store (by rw [hlen, HT.out]) i (by rw [hlen, HT.out]; exact hiT) X
        rw [← hends] at s3
        exact ⟨s3, (below_drewN q HB.out).grown s4 HB.out.size (fun j e => by cases e; exact Nat.le_refl _)⟩
      obtain ⟨u0, hu0⟩ : ∃ u0, wr.cell? ⟨w.heap.size, i, none⟩ = some u0 := ⟨_, s1⟩
      clear hc hA hA2 htm hrl hi hends s1 hlen
      by_cases hmx : A < rl
      · have hA3 : A2 = rl + tm := by omega
        subst hA3
        have w1 : IntKind.i64.wrap (rl + tm) = rl + tm := IntWalk.i64_in _ (by omega)
        go_wp2
        go_quiet (fail)
        go_wp2
        go_roundw
        case rel => exact ⟨k + 1, by omega, by go_num, by rw [HA2.out]; exact val_int (by omega), (HSX.out _ _ (by omega)).1, (HSX.out _ _ (by omega)).2⟩
        case measure => simp [intOf]; omega
      · have hA3 : A2 = A + tm := by omega
        subst hA3
        have w1 : IntKind.i64.wrap (A + tm) = A + tm := IntWalk.i64_in _ (by omega)
        go_wp2
        go_quiet (fail)
        go_wp2
        go_roundw
        case rel => exact ⟨k + 1, by omega, by go_num, by rw [HA2.out]; exact val_int (by omega), (HSX.out _ _ (by omega)).1, (HSX.out _ _ (by omega)).2⟩
        case measure => simp [intOf]; omega
    · obtain rfl : k = T := by omega
      go_wp2
      go_ret
      exact ⟨⟨_, rfl, by rw [HFN.out]; exact HO.out⟩, HB.out⟩
/-- The costs on the way are not great. -/
theorem bothB_bounds {g : Bool} {a b lo hi : Int} {k : Nat} (ha : -10000 * ((k : Int) + 1) ≤ a ∧ a ≤ 10000000000 * ((k : Int) + 1)) (hb : -10000 ≤ b ∧ b ≤ 10000000000) : -10000 * (((k + 1 : Nat) : Int) + 1) ≤ bothB g a b ∧ bothB g a b ≤ 10000000000 * (((k + 1 : Nat) : Int) + 1) := by
  unfold bothB; split <;> omega
theorem costTo_bounds {kind : Int} {js : List Jb} {ends : List Int} (hs : SmJ js) (he : ∀ i, i < js.length → 0 ≤ nth ends i ∧ nth ends i ≤ 1000000) : ∀ k, k < js.length → -10000 * ((k : Int) + 1) ≤ costTo kind js ends k ∧ costTo kind js ends k ≤ 10000000000 * ((k : Int) + 1)
  | 0, h => by
    have h1 := shareB_bounds (kind := kind) (j := jbN js 0) (hs.due 0 h) (hs.wgt 0 h) (he 0 h)
    unfold costTo
    omega
  | k + 1, h => by
    have h1 := shareB_bounds (kind := kind) (j := jbN js (k + 1)) (hs.due (k + 1) h) (hs.wgt (k + 1) h) (he (k + 1) h)
    have h2 := costTo_bounds (kind := kind) hs he k (by omega)
    unfold costTo
    exact bothB_bounds (lo := 0) (hi := 0) h2 h1
def CstR (kind : Int) (js : List Jb) (ends : List Int) (T : Nat) (w : World) (va vk : Value) (wr : World) : Prop :=
  ∃ k : Nat, k + 1 ≤ T ∧ vk = .int .i64 k ∧ va = .int .i64 (costTo kind js ends k) ∧ Hid (Below w.heap.size w wr)
set_option maxRecDepth 100000 in
set_option maxHeartbeats 2000000 in
theorem costOf_any (v ve : Value) (js : List Jb) (ends : List Int) (kind : Int) (w : World) (hv : Jobs w v js) (ho : Ints w ve ends) (hs : SmJ js) (hl : ends.length = js.length) (he : ∀ i, i < js.length → 0 ≤ nth ends i ∧ nth ends i ≤ 1000000) (hk : 0 ≤ kind ∧ kind ≤ 4) :
    Calls Try.prog 27 #[v, ve, .int .i64 kind] w fun e w' => e = .returned (.int .i64 (costTo kind js ends (js.length - 1))) ∧ Below w.heap.size w w' := by
  obtain ⟨b, o, c, rfl, hcap, hbw, hV⟩ := jobs_view hv hs.n1
  have hn1 := hs.n1
  obtain ⟨hm, aE, cE, rfl, hcE, hEc⟩ := ho
  obtain ⟨bE, oE, haE, hbE, hEc2⟩ := row_at hEc
  obtain rfl := haE (by omega)
  have hbE := hbE (by omega)
  have HV : Hid (∀ W, Below w.heap.size w W → JbView W b o js) := hV
  have HEC : Hid (∀ W, Below w.heap.size w W → ∀ k, k < js.length → W.cell? ⟨bE, oE + k, none⟩ = some (.int .i64 (nth ends k))) := fun W hW k hk => by
    rw [nth_eq (by omega)]; exact (hW.cell (p := ⟨bE, oE + k, none⟩) hbE).trans (hEc2 k (by omega))
  have HSH : Hid (∀ (i : Nat) W, i < js.length → Calls Try.prog 24 #[.agg #[.int .i64 (tmJ js i), .int .i64 (rlJ js i), .int .i64 (duJ js i), .int .i64 (wgJ js i)], .int .i64 kind, .int .i64 (nth ends i)] W fun x w' => x = .returned (.int .i64 (shareB kind (jbN js i) (nth ends i))) ∧ Below W.heap.size W w') := fun i W hi =>
    share_any _ _ _ _ kind _ W hk (hs.due i hi) (hs.wgt i hi) (he i hi)
  have HBT : Hid (∀ (k : Nat) W, k + 1 < js.length → Calls Try.prog 25 #[.int .i64 kind, .int .i64 (costTo kind js ends k), .int .i64 (shareB kind (jbN js (k + 1)) (nth ends (k + 1)))] W fun e w' => e = .returned (.int .i64 (costTo kind js ends (k + 1))) ∧ W = w') := fun k W hk1 => by
    have h1 := costTo_bounds (kind := kind) hs he k (by omega)
    have h2 := shareB_bounds (kind := kind) (j := jbN js (k + 1)) (hs.due (k + 1) hk1) (hs.wgt (k + 1) hk1) (he (k + 1) hk1)
    have h3 := hs.n24
    exact both_any kind _ _ W (by omega) (by omega)
  obtain ⟨T, hT⟩ : ∃ T, js.length = T := ⟨_, rfl⟩
  have HT := Lib.hid hT
  have h24 : T ≤ 24 := by have := hs.n24; omega
  rw [hl] at hcE ⊢
  rw [hT] at hcap hcE HEC HSH HBT hn1 ⊢
  have hne : ¬ cE = 1 ∨ T = 1 := by omega
  clear hv hs hV hEc hEc2 hT hl he haE
  have hT0 : (0 : Int) < (T : Int) := by omega
  have hT1 : (1 : Int) ≤ (T : Int) := by omega
  obtain ⟨x0, hx0⟩ : ∃ x, tmJ js 0 = x := ⟨_, rfl⟩
  obtain ⟨x1, hx1⟩ : ∃ x, rlJ js 0 = x := ⟨_, rfl⟩
  obtain ⟨x2, hx2⟩ : ∃ x, duJ js 0 = x := ⟨_, rfl⟩
  obtain ⟨x3, hx3⟩ : ∃ x, wgJ js 0 = x := ⟨_, rfl⟩
  obtain ⟨x4, hx4⟩ : ∃ x, nth ends 0 = x := ⟨_, rfl⟩
  have HSA : Hid (∀ W, Below w.heap.size w W → W.cell? ⟨b, o, none⟩ = some (.int .i64 x0) ∧ W.cell? ⟨b, o + 1, none⟩ = some (.int .i64 x1) ∧ W.cell? ⟨b, o + 2, none⟩ = some (.int .i64 x2) ∧ W.cell? ⟨b, o + 3, none⟩ = some (.int .i64 x3) ∧ W.cell? ⟨bE, oE, none⟩ = some (.int .i64 x4)) := fun W hW => by
    have c00 := HV.out W hW 0 (by rw [HT.out]; omega)
    have d0 := c00.c0
    have d1 := c00.c1
    have d2 := c00.c2
    have d3 := c00.c3
    have e0 := HEC.out W hW 0 (by omega)
    rw [Nat.zero_mul, Nat.add_zero] at d0 d1 d2 d3
    rw [Nat.add_zero] at e0
    rw [← hx0, ← hx1, ← hx2, ← hx3, ← hx4]
    exact ⟨d0, d1, d2, d3, e0⟩
  have HS0 : Hid (∀ n, Calls Try.prog 24 #[.agg #[.int .i64 x0, .int .i64 x1, .int .i64 x2, .int .i64 x3], .int .i64 kind, .int .i64 x4] (w.drewN n) fun x w' => x = .returned (.int .i64 (costTo kind js ends 0)) ∧ Below w.heap.size w w') := fun n => by
    have h := HSH.out 0 (w.drewN n) (by omega)
    rw [hx0, hx1, hx2, hx3, hx4] at h
    rw [← hx4] at h
    rw [← hx4]
    refine h.mono ?_
    rintro x w' ⟨h1, h2⟩
    exact ⟨h1, (below_drewN n (Below.refl _ _)).trans h2⟩
  obtain ⟨d0, d1, d2, d3, e0⟩ := HSA.out w (Below.refl _ _)
  clear hx0 hx1 hx2 hx3 hx4
  have hTN : 0 < T := by omega
  have hT1N : 1 ≤ T := by omega
  have htm : ((T : Int) - 1) = ((T - 1 : Nat) : Int) := by omega
  by_cases hc1 : cE = 1
  all_goals
    go_enter Try.func27, Try.ntmps27
    go_wp2
    go_region_held3 (fun w' => w'.cell? ⟨b, o, none⟩ = some (.int .i64 x0) ∧ w'.cell? ⟨b, o + 1, none⟩ = some (.int .i64 x1) ∧ w'.cell? ⟨b, o + 2, none⟩ = some (.int .i64 x2) ∧ w'.cell? ⟨b, o + 3, none⟩ = some (.int .i64 x3) ∧ w'.cell? ⟨bE, oE, none⟩ = some (.int .i64 x4))
      (first | go_keep | exact HSA.out _ HB1.out)
      (first | (go_at_call 24; refine (HS0.out _).mono ?_; rintro e W1 ⟨rfl, hb1⟩; have HB1 := Lib.hid hb1; clear hb1))
    have HR0 : Hid (CstR kind js ends T w (.int .i64 (costTo kind js ends 0)) (.int .i64 0) W1) := ⟨0, by omega, rfl, rfl, HB1.out⟩
    go_wp2
    go_loopw [7, 21] (fun va vk wr => CstR kind js ends T w va vk wr) (fun _ vk _ => T - (intOf vk).toNat)
    case atStart => exact HR0.out
    case round =>
      obtain ⟨k, hk, rfl, rfl, HB⟩ := hrel
      clear HR0
      by_cases hkT : k + 1 < T
      · first | (exfalso; omega) | (
        have hcE1 : ¬ cE = 1 := by omega
        have k0 : (0 : Int) ≤ (k : Int) := by omega
        have k2 : (k : Int) < ((T - 1 : Nat) : Int) := by omega
        have k3 : (0 : Int) ≤ (k : Int) + 1 := by omega
        have k4 : (k : Int) + 1 < (T : Int) := by omega
        have w1 : IntKind.i64.wrap ((k : Int) + 1) = (k : Int) + 1 := IntWalk.i64_in _ (by omega)
        have hcc := HV.out wr HB.out (k + 1) (by rw [HT.out]; exact hkT)
        have e1 := HEC.out wr HB.out (k + 1) hkT
        have d0 := hcc.c0
        have d1 := hcc.c1
        have d2 := hcc.c2
        have d3 := hcc.c3
        rw [show oE + (k + 1) = oE + 1 + k by omega] at e1
        have HSK := Lib.hid (HSH.out (k + 1) wr hkT)
        have HBK : Hid (∀ W, Calls Try.prog 25 #[.int .i64 kind, .int .i64 (costTo kind js ends k), .int .i64 (shareB kind (jbN js (k + 1)) (nth ends (k + 1)))] W fun e w' => e = .returned (.int .i64 (costTo kind js ends (k + 1))) ∧ W = w') := fun W => HBT.out k W hkT
        have hcast : ((k : Int) + 1).toNat = k + 1 := by omega
        obtain ⟨y0, hy0⟩ : ∃ x, tmJ js (k + 1) = x := ⟨_, rfl⟩
        obtain ⟨y1, hy1⟩ : ∃ x, rlJ js (k + 1) = x := ⟨_, rfl⟩
        obtain ⟨y2, hy2⟩ : ∃ x, duJ js (k + 1) = x := ⟨_, rfl⟩
        obtain ⟨y3, hy3⟩ : ∃ x, wgJ js (k + 1) = x := ⟨_, rfl⟩
        obtain ⟨y4, hy4⟩ : ∃ x, nth ends (k + 1) = x := ⟨_, rfl⟩
        obtain ⟨y5, hy5⟩ : ∃ x, shareB kind (jbN js (k + 1)) (nth ends (k + 1)) = x := ⟨_, rfl⟩
        obtain ⟨C0, hC0⟩ : ∃ x, costTo kind js ends k = x := ⟨_, rfl⟩
        obtain ⟨C1, hC1⟩ : ∃ x, costTo kind js ends (k + 1) = x := ⟨_, rfl⟩
        have HC1 := Lib.hid hC1
        rw [show (jbN js (k + 1)).1 = y0 from hy0] at d0
        rw [show (jbN js (k + 1)).2.1 = y1 from hy1] at d1
        rw [show (jbN js (k + 1)).2.2.1 = y2 from hy2] at d2
        rw [show (jbN js (k + 1)).2.2.2 = y3 from hy3] at d3
        rw [hy5, hy0, hy1, hy2, hy3, hy4] at HSK
        rw [hy5, hC0, hC1] at HBK
        rw [hy4] at e1
        rw [hC0]
        clear hcc hy0 hy1 hy2 hy3 hy4 hy5 hC0 hC1
        go_wp2_with fail
        refine HSK.out.mono ?_
        rintro e W2 ⟨rfl, hb2⟩
        have HB2 : Hid (Below w.heap.size w W2) := HB.out.trans (hb2.mono HB.out.size)
        clear hb2 HSK
        go_wp2_with fail
        refine (HBK.out _).mono ?_
        rintro e w' ⟨rfl, rfl⟩
        try go_wp2_with fail
        go_roundw
        case rel => exact ⟨k + 1, by omega, by go_num, by rw [HC1.out], HB2.out⟩
        case measure => simp [intOf]; omega)
      · have hkE : k = T - 1 := by omega
        have HKE := Lib.hid hkE
        have k2 : ¬ (k : Int) < ((T - 1 : Nat) : Int) := by omega
        clear hkE
        go_wp2
        go_ret
        exact ⟨by rw [HKE.out]; rfl, HB.out⟩
end Go.Proofs.Ytcopjdhnmkfkfaa

namespace Go.Proofs.Ytcopjdhnmkfkfaa
open Go.RowKit
set_option linter.unusedVariables false
set_option linter.unusedSimpArgs false

def tkL (E : List Int) (n : Nat) : List Bool := (List.range n).map fun i : Nat => E.contains (i : Int)
theorem tkL_len (E : List Int) (n : Nat) : (tkL E n).length = n := by simp [tkL]
theorem tkL_at {E : List Int} {n i : Nat} (h : i < (tkL E n).length) : (tkL E n)[i] = E.contains (i : Int) := by simp [tkL]
theorem tkL_nil (n : Nat) : tkL [] n = List.replicate n false := by
  apply List.ext_getElem
  · simp [tkL]
  · intro i h1 h2; simp [tkL]
theorem tkL_set (E : List Int) (n p : Nat) (h : p < n) : (tkL E n).set p true = tkL (E ++ [(p : Int)]) n := by
  apply List.ext_getElem
  · simp [tkL]
  · intro i h1 h2
    rw [List.getElem_set, tkL_at h2]
    split
    · rename_i e; subst e; simp
    · rename_i e
      rw [tkL_at]
      have : ¬ ((i : Int) = (p : Int)) := by omega
      simp [this]
end Go.Proofs.Ytcopjdhnmkfkfaa

namespace Go.Proofs.Ytcopjdhnmkfkfaa
open Go.RowKit Go.Shelf Go.BigFrame
set_option linter.unusedVariables false
set_option linter.unusedSimpArgs false
attribute [local go_sem] Oper.semAt_some

theorem boxedP_below {W W' : World} {b : Nat} {t : TypeId} {v : Value} (h : Boxed W b t v) (hb : Below W.heap.size W W') : Boxed W' b t v := by
  have h0 : W.heap[b]? = some (.cells #[v] t (0, 0)) := h
  exact (hb.block b (Array.getElem?_eq_some_iff.1 h0).1).trans h0
theorem tkL_unset (E : List Int) (n p : Nat) (h : E.contains (p : Int) = false) : (tkL (E ++ [(p : Int)]) n).set p false = tkL E n := by
  apply List.ext_getElem
  · simp [tkL]
  · intro i h1 h2
    rw [List.getElem_set, tkL_at h2]
    split
    · rename_i e; subst e; exact h.symm
    · rename_i e
      rw [tkL_at]
      have : ¬ ((i : Int) = (p : Int)) := by omega
      simp [this]
theorem GrownL.monoP {gs hs : List Nat} {A W : World} (h : GrownL gs A W) (hh : ∀ i ∈ gs, i ∈ hs) : GrownL hs A W :=
  ⟨h.os, h.tape, h.output, h.size, fun i hi hn => h.block i hi (fun e => hn (hh i e))⟩
theorem GrownL.transP {gs hs : List Nat} {A B C : World} (h : GrownL gs A B) (k : GrownL hs B C) (hh : ∀ i ∈ hs, i ∈ gs ∨ A.heap.size ≤ i) : GrownL gs A C :=
  ⟨k.os.trans h.os, k.tape.trans h.tape, k.output.trans h.output, Nat.le_trans h.size k.size, fun i hi hn => (k.block i (Nat.lt_of_lt_of_le hi h.size) (fun e => by
    rcases hh i e with h1 | h1
    · exact hn h1
    · omega)).trans (h.block i hi hn)⟩
theorem GrownL.ownBP {gs : List Nat} {A W : World} (h : GrownL gs A W) {N g n c : Nat} {ys : List Bool} (ho : OwnB A N (.slice (some ⟨g, 0, none⟩) n c) ys) (hn : g ∉ gs) : OwnB W N (.slice (some ⟨g, 0, none⟩) n c) ys := by
  refine ⟨ho.1, ?_⟩
  rcases ho.2 with h1 | ⟨g', cap, cur, h1, h2, h3, r⟩
  · exact .inl h1
  · refine .inr ⟨g', cap, cur, h1, h2, ?_, r⟩
    obtain ⟨rfl⟩ : g = g' := by simp at h1; exact h1.1
    exact (h.block g (Array.getElem?_eq_some_iff.1 h3).1 hn).trans h3
/-- 'append(s, y)' to a row that has room: block and capacity stay. -/
theorem append_i64S {ops : Array Oper} {rest : List Oper} {o : Oper} {a : Act} {Q : Exit → Act → World → Prop} {W : World} (hgd : o.guard = none) (s x : Operand)
    (ho : o.op = .call { callee := .builtin .append, args := #[s, x], argTypes := #[27, 27] }) (B g n cap : Nat) (xs : List Int) (y : Int)
    (hs : a.eval s = .slice (some ⟨g, 0, none⟩) n cap) (c H : Nat) (hx : a.eval x = .slice (some ⟨H, 0, none⟩) 1 c) (hH : W.heap.size = H) (hn : n = xs.length) (hown : OwnI W B (.slice (some ⟨g, 0, none⟩) n cap) xs) (hroom : n + 1 ≤ cap)
    (hK : ∀ w', OwnI w' B (.slice (some ⟨g, 0, none⟩) (n + 1) cap) (xs ++ [y]) → W.grownBy w' (some g) → wpList Try.prog ops Q rest (a.put o.dst (.slice (some ⟨g, 0, none⟩) (n + 1) cap)) w') :
    wpList Try.prog ops Q (o :: rest) a (W.alloc (.cells #[.int .i64 y] 2)) := by
  subst hn
  subst hH
  obtain ⟨i0, hi, hz0, hz1, hz2⟩ := info_parts info_i64
  refine wpList_append_own_spare _ hgd s x 27 ho B 2 i0 1 Try.underlying27 hi hz1 g xs.length cap _ hs (World.ownsRow.alloc hown _) ⟨W.heap.size, 0, none⟩ 1 c [.int .i64 y] hx rfl (cells_lit W [.int .i64 y] _) ?_ hroom ?_
  · intro u hu; rw [List.mem_singleton] at hu; subst hu; rfl
  · intro w' h1 h2
    refine hK w' (by unfold OwnI; simpa using h1) ⟨h2.os, h2.tape, h2.output, Nat.le_trans (by simp) h2.size, fun k hk hne => (h2.block k (by simp; omega) hne).trans (Below.heap_alloc _ _ _ hk)⟩
/-- What the function that is handed over does. -/
structure DoP (σ : Type) (B n K : Nat) (cap : Array Value) (D P : List Nat) (St : σ → World → Prop) (step : σ → List Int → σ) : Prop where
  call : ∀ s E W g, E.Perm (idL n) → St s W → OwnI W B (.slice (some ⟨g, 0, none⟩) n n) E → Calls Try.prog K (#[.slice (some ⟨g, 0, none⟩) n n] ++ cap) W fun e W' => e = .returned (.tuple #[]) ∧ St (step s E) W' ∧ GrownL D W W'
  kept : ∀ s W W', St s W → GrownL P W W' → St s W'
  enters : Enters Try.prog K
/-- What permute's variables hold. -/
structure PutE (W : World) (B bn bd bo bu bp go gu n : Nat) (p : List Int) (Kv F : Value) : Prop where
  nv : Boxed W bn 3 (.int .i64 n)
  dov : Boxed W bd 68 Kv
  ord : Boxed W bo 27 (.slice (some ⟨go, 0, none⟩) p.length n)
  row : OwnI W B (.slice (some ⟨go, 0, none⟩) p.length n) p
  used : Boxed W bu 75 (.slice (some ⟨gu, 0, none⟩) n n)
  urow : OwnB W B (.slice (some ⟨gu, 0, none⟩) n n) (tkL p n)
  put : Boxed W bp 1 F
theorem PutE.grown {W W' : World} {B bn bd bo bu bp go gu n : Nat} {p : List Int} {Kv F : Value} {L : List Nat} (h : PutE W B bn bd bo bu bp go gu n p Kv F) (hg : GrownL L W W') (h1 : bn ∉ L) (h2 : bd ∉ L) (h3 : bo ∉ L) (h4 : go ∉ L) (h5 : bu ∉ L) (h6 : gu ∉ L) (h7 : bp ∉ L) : PutE W' B bn bd bo bu bp go gu n p Kv F :=
  ⟨hg.boxed h.nv h1, hg.boxed h.dov h2, hg.boxed h.ord h3, hg.own h.row h4, hg.boxed h.used h5, hg.ownBP h.urow h6, hg.boxed h.put h7⟩
def putF (bo bn bd bu bp : Nat) : Value := .func (.func 53) #[] #[.pointer (some ⟨bo, 0, none⟩), .pointer (some ⟨bn, 0, none⟩), .pointer (some ⟨bd, 0, none⟩), .pointer (some ⟨bu, 0, none⟩), .pointer (some ⟨bp, 0, none⟩)]

/-- One number more. -/
theorem PutE.push {wr w2 : World} {B bn bd bo bu bp go gu n m : Nat} {p : List Int} {Kv F : Value} (h : PutE wr B bn bd bo bu bp go gu n p Kv F) (o1 : bn < bd) (o2 : bd < go) (o3 : go < bo) (o4 : bo < gu) (o5 : gu < bu) (o6 : bu < bp) (hm : m < n)
    (ho : OwnI w2 B (.slice (some ⟨go, 0, none⟩) (p.length + 1) n) (p ++ [(m : Int)])) (hg : (wr.setCell ⟨gu, m, none⟩ (.bool true)).grownBy w2 (some go)) :
    w2.cell? ⟨bo, 0, none⟩ = some (.slice (some ⟨go, 0, none⟩) p.length n) ∧ w2.frozen? ⟨bo, 0, none⟩ = false ∧ w2.cell? ⟨bp, 0, none⟩ = some F ∧
      PutE (w2.setCell ⟨bo, 0, none⟩ (.slice (some ⟨go, 0, none⟩) (p.length + 1) n)) B bn bd bo bu bp go gu n (p ++ [(m : Int)]) Kv F ∧ GrownL [go, bo, gu] wr (w2.setCell ⟨bo, 0, none⟩ (.slice (some ⟨go, 0, none⟩) (p.length + 1) n)) := by
  obtain ⟨_, _, s3, _⟩ := h.urow.store (tkL_len p n).symm m (by rw [tkL_len]; exact hm) true
  rw [tkL_set _ _ _ hm] at s3
  have g1 : GrownL [go, gu] wr w2 := ((GrownL.refl _ wr).setCell ⟨gu, m, none⟩ (.bool true) (.inl (by simp))).grown hg (fun j e => .inl (by cases e; simp))
  have gA : GrownL [go] (wr.setCell ⟨gu, m, none⟩ (.bool true)) w2 := (GrownL.refl _ _).grown hg (fun j e => .inl (by cases e; simp))
  have s4 := gA.ownBP s3 (by simp; omega)
  have hb : GrownL [bo] w2 (w2.setCell ⟨bo, 0, none⟩ (.slice (some ⟨go, 0, none⟩) (p.length + 1) n)) := (GrownL.refl _ _).setCell _ _ (.inl (by simp))
  have b1 := g1.boxed h.ord (by simp; omega)
  have b2 := g1.boxed h.put (by simp; omega)
  refine ⟨b1.cell, b1.frozen, b2.cell, ⟨hb.boxed (g1.boxed h.nv (by simp; omega)) (by simp; omega), hb.boxed (g1.boxed h.dov (by simp; omega)) (by simp; omega), ?_, ?_, hb.boxed (g1.boxed h.used (by simp; omega)) (by simp; omega), hb.ownBP s4 (by simp; omega), hb.boxed b2 (by simp; omega)⟩, ?_⟩
  · rw [List.length_append]; exact b1.set _
  · rw [List.length_append]; exact hb.own ho (by simp; omega)
  · exact (g1.monoP (by simp)).setCell _ _ (.inl (by simp))
/-- .. and one less. -/
theorem PutE.pop {W5 : World} {B bn bd bo bu bp go gu n m : Nat} {p : List Int} {Kv F : Value} (h : PutE W5 B bn bd bo bu bp go gu n (p ++ [(m : Int)]) Kv F) (o1 : bn < bd) (o2 : bd < go) (o3 : go < bo) (o4 : bo < gu) (o5 : gu < bu) (o6 : bu < bp) (hm : m < n) (hc : p.contains (m : Int) = false) :
    W5.cell? ⟨bo, 0, none⟩ = some (.slice (some ⟨go, 0, none⟩) (p.length + 1) n) ∧ W5.frozen? ⟨bo, 0, none⟩ = false ∧ W5.cell? ⟨bu, 0, none⟩ = some (.slice (some ⟨gu, 0, none⟩) n n) ∧ (∃ b, W5.cell? ⟨gu, m, none⟩ = some (.bool b)) ∧ W5.frozen? ⟨gu, m, none⟩ = false ∧
      PutE ((W5.setCell ⟨bo, 0, none⟩ (.slice (some ⟨go, 0, none⟩) p.length n)).setCell ⟨gu, m, none⟩ (.bool false)) B bn bd bo bu bp go gu n p Kv F ∧ GrownL [go, bo, gu] W5 ((W5.setCell ⟨bo, 0, none⟩ (.slice (some ⟨go, 0, none⟩) p.length n)).setCell ⟨gu, m, none⟩ (.bool false)) := by
  have hb : GrownL [bo] W5 (W5.setCell ⟨bo, 0, none⟩ (.slice (some ⟨go, 0, none⟩) p.length n)) := (GrownL.refl _ _).setCell _ _ (.inl (by simp))
  have u1 := hb.ownBP h.urow (by simp; omega)
  obtain ⟨_, _, s3, _⟩ := u1.store (tkL_len _ n).symm m (by rw [tkL_len]; exact hm) false
  rw [tkL_unset _ _ _ hc] at s3
  obtain ⟨q1, q2, _, _⟩ := h.urow.store (tkL_len _ n).symm m (by rw [tkL_len]; exact hm) false
  have hu : GrownL [gu] (W5.setCell ⟨bo, 0, none⟩ (.slice (some ⟨go, 0, none⟩) p.length n)) ((W5.setCell ⟨bo, 0, none⟩ (.slice (some ⟨go, 0, none⟩) p.length n)).setCell ⟨gu, m, none⟩ (.bool false)) := (GrownL.refl _ _).setCell _ _ (.inl (by simp))
  have b1 := h.ord
  have r1 := h.row
  rw [List.length_append] at b1 r1
  have r2 := r1.cut p.length (by simp) (by simp)
  rw [List.take_left] at r2
  refine ⟨b1.cell, b1.frozen, h.used.cell, ⟨_, q1⟩, q2, ⟨hu.boxed (hb.boxed h.nv (by simp; omega)) (by simp; omega), hu.boxed (hb.boxed h.dov (by simp; omega)) (by simp; omega), hu.boxed (b1.set _) (by simp; omega), hu.own (hb.own r2 (by simp; omega)) (by simp; omega), hu.boxed (hb.boxed h.used (by simp; omega)) (by simp; omega), s3, hu.boxed (hb.boxed h.put (by simp; omega)) (by simp; omega)⟩, ?_⟩
  exact ((GrownL.refl _ _).setCell _ _ (.inl (by simp))).setCell _ _ (.inl (by simp))
/-- What a round knows. -/
def PutR {σ : Type} (B bn bd bo bu bp go gu n : Nat) (Kv : Value) (D : List Nat) (St : σ → World → Prop) (step : σ → List Int → σ) (d : Nat) (p : List Int) (s : σ) (W : World) (v : Value) (wr : World) : Prop :=
  ∃ m : Nat, m ≤ n ∧ v = .int .i64 m ∧ Hid (St (permTo (permF n step d) p s m) wr) ∧ Hid (PutE wr B bn bd bo bu bp go gu n p Kv (putF bo bn bd bu bp)) ∧ Hid (GrownL (go :: bo :: gu :: D) W wr)
set_option maxRecDepth 100000 in
set_option maxHeartbeats 4000000 in
theorem permPut_any {σ : Type} (n B bn bd bo bu bp go gu K : Nat) (cap : Array Value) (D : List Nat) (St : σ → World → Prop) (step : σ → List Int → σ) (hn : 1 ≤ n) (hn2 : n ≤ 1000000) (hdo : DoP σ B n K cap D [go, bo, gu] St step)
    (o0 : B ≤ bn) (o1 : bn < bd) (o2 : bd < go) (o3 : go < bo) (o4 : bo < gu) (o5 : gu < bu) (o6 : bu < bp) (hD : ∀ i ∈ D, i < bn) : ∀ (d : Nat) (p : List Int), p.length + d = n → PreOk n p → ∀ (W : World) (s : σ),
    St s W → PutE W B bn bd bo bu bp go gu n p (.func (.func K) #[] cap) (putF bo bn bd bu bp) →
    Calls Try.prog 53 #[.pointer (some ⟨bo, 0, none⟩), .pointer (some ⟨bn, 0, none⟩), .pointer (some ⟨bd, 0, none⟩), .pointer (some ⟨bu, 0, none⟩), .pointer (some ⟨bp, 0, none⟩)] W fun e W' => e = .returned (.tuple #[]) ∧ Hid (St (permF n step d p s) W') ∧ Hid (PutE W' B bn bd bo bu bp go gu n p (.func (.func K) #[] cap) (putF bo bn bd bu bp)) ∧ Hid (GrownL (go :: bo :: gu :: D) W W') := by
  have heg := enters_of Try.func53 (by kernel_rfl) rfl
  have hek : ∀ args w, (callFunc K args).run Try.prog w = .ok (.enter K args) w := hdo.enters
  have HDO := Lib.hid hdo
  have HDD := Lib.hid hD
  clear hdo hD
  intro d
  induction d with
  | zero =>
    intro p hp hpre W s hs hE
    have hpn : p.length = n := hp
    have c1 : W.cell? ⟨bo, 0, none⟩ = some (.slice (some ⟨go, 0, none⟩) n n) := by have := hE.ord.cell; rwa [hpn] at this
    have c2 := hE.nv.cell
    have c3 : W.cell? ⟨bd, 0, none⟩ = some (.func (.func K) #[] cap) := hE.dov.cell
    have hrow := hE.row
    rw [hpn] at hrow
    have HC := Lib.hid (HDO.out.call s p W go (hpre.perm hpn) hs hrow)
    have HE := Lib.hid hE
    clear hs hE hrow hpn hp
    go_enter Try.func53, Try.ntmps53
    go_wp2_with fail
    refine HC.out.mono ?_
    rintro e W' ⟨rfl, hs', hg'⟩
    have HS := Lib.hid hs'
    have HG := Lib.hid hg'
    clear hs' hg'
    go_wp2_with fail
    ((try simp only [Exit.inBlock, Exit.then]); refine bodyPost_ret (results_none rfl _ _ _) rfl ?_)
    have hnd : ∀ i, bn ≤ i → i ∉ D := fun i hi e => by have := HDD.out i e; omega
    exact ⟨rfl, HS.out, HE.out.grown HG.out (hnd _ (by omega)) (hnd _ (by omega)) (hnd _ (by omega)) (hnd _ (by omega)) (hnd _ (by omega)) (hnd _ (by omega)) (hnd _ (by omega)), HG.out.monoP (by simp_all)⟩
  | succ d ih =>
    intro p hp hpre W s hs hE
    obtain ⟨L, hL⟩ : ∃ L, p.length = L := ⟨_, rfl⟩
    have HL := Lib.hid hL
    have hLn : L < n := by omega
    have l0 : (0 : Int) ≤ (L : Int) := by omega
    have hne : ((L : Int) == (n : Int)) = false := by simp; omega
    have c1 := hE.ord.cell
    rw [hL] at c1
    have c2 := hE.nv.cell
    have HPR := Lib.hid hpre
    have HR0 : Hid (PutR B bn bd bo bu bp go gu n (.func (.func K) #[] cap) D St step d p s W (.int .i64 0) W) := ⟨0, Nat.zero_le _, rfl, hs, hE, GrownL.refl _ _⟩
    have HIH := Lib.hid ih
    have HLD : Hid (L + (d + 1) = n) := by show _ = _; omega
    clear hs hE hp hpre ih hL
    go_enter Try.func53, Try.ntmps53
    go_wp2_with fail
    go_loopw [14] (fun v wr => PutR B bn bd bo bu bp go gu n (.func (.func K) #[] cap) D St step d p s W v wr) (fun v _ => n - (intOf v).toNat)
    case atStart => exact HR0.out
    case round =>
      obtain ⟨m, hm, rfl, HS, HE, HG⟩ := hrel
      clear HR0 c1 c2 hne
      by_cases hmn : m < n
      · have m0 : (0 : Int) ≤ (m : Int) := by omega
        have m1 : (m : Int) < (n : Int) := by omega
        have u1 := HE.out.used.cell
        obtain ⟨s1, s2, _, _⟩ := HE.out.urow.store (tkL_len p n).symm m (by rw [tkL_len]; exact hmn) true
        rw [tkL_at] at s1
        have hnext := permTo_succ (permF n step d) p s m
        cases hc : p.contains (m : Int)
        · rw [hc] at s1 hnext
          rw [if_neg (by simp)] at hnext
          have HNX := Lib.hid hnext
          have HC := Lib.hid hc
          have c1 := HE.out.ord.cell
          rw [HL.out] at c1
          have HO : Hid (OwnI (wr.setCell ⟨gu, m, none⟩ (.bool true)) B (.slice (some ⟨go, 0, none⟩) L n) p) := by
            have h1 := HE.out.row
            rw [HL.out] at h1
            exact ((GrownL.refl [gu] wr).setCell ⟨gu, m, none⟩ (.bool true) (.inl (by simp))).own h1 (by simp; omega)
          have HPU : Hid (∀ w2, OwnI w2 B (.slice (some ⟨go, 0, none⟩) (L + 1) n) (p ++ [(m : Int)]) → (wr.setCell ⟨gu, m, none⟩ (.bool true)).grownBy w2 (some go) → _) := fun w2 h1 h2 => by
            have := HE.out.push (w2 := w2) (m := m) o1 o2 o3 o4 o5 o6 hmn (by rw [HL.out]; exact h1) h2
            rw [HL.out] at this
            exact this
          clear hnext hc
          go_wp2_with (first
            | (at_builtin; refine append_i64S rfl _ _ rfl B go L n p (m : Int) rfl _ wr.heap.size rfl (by simp) HL.out.symm HO.out hLn ?_; intro w2 ho2 hg2; obtain ⟨d1, d2, d3, d4, d5⟩ := HPU.out w2 ho2 hg2; unfold putF at d3; have HE4 := Lib.hid d4; have HG4 := Lib.hid d5; clear ho2 hg2 d4 d5)
            | (go_at_call 53; refine (HIH.out (p ++ [(m : Int)]) (by rw [List.length_append, HL.out]; have := HLD.out; simp; omega) (HPR.out.push hmn HC.out) _ _ (HDO.out.kept _ _ _ HS.out HG4.out) HE4.out).mono ?_; rintro e W5 ⟨rfl, HS5, HE5, HG5⟩; obtain ⟨f1, f2, f3, ⟨bx, f4⟩, f5, f6, f7⟩ := HE5.out.pop o1 o2 o3 o4 o5 o6 hmn HC.out; rw [HL.out] at f1 f6 f7; have HE6 := Lib.hid f6; have HG6 := Lib.hid f7; clear f6 f7))
          go_roundw
          case rel =>
            refine ⟨m + 1, by omega, by go_num, ?_, HE6.out, ?_⟩
            · show St _ _
              rw [HNX.out]
              exact HDO.out.kept _ _ _ HS5.out HG6.out
            · exact ((HG.out.trans (HG4.out.monoP (by simp_all))).trans HG5.out).trans (HG6.out.monoP (by simp_all))
          case measure => simp [intOf]; omega
        · rw [hc] at s1 hnext
          rw [if_pos rfl] at hnext
          have HNX := Lib.hid hnext
          clear hnext hc
          go_wp2_with fail
          go_roundw
          case rel => exact ⟨m + 1, by omega, by go_num, by show St _ _; rw [HNX.out]; exact HS.out, HE.out, HG.out⟩
          case measure => simp [intOf]; omega
      · obtain rfl : m = n := by omega
        go_wp2_with fail
        go_end0
        exact ⟨rfl, HS.out, HE.out, HG.out⟩
end Go.Proofs.Ytcopjdhnmkfkfaa
