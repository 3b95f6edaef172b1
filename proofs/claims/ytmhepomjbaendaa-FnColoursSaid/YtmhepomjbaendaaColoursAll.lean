/- The walk of FnColours. Conditions: none. With the texts that it alone needs. -/
import Derived.Test.YtmhepomjbaendaaLeastBoth
import Derived.Test.YtmhepomjbaendaaWaysBoth
import Derived.Test.YtmhepomjbaendaaColBoth
import Derived.Test.YtmhepomjbaendaaColour1
import Derived.Test.YtmhepomjbaendaaClashes
import Derived.Test.YtmhepomjbaendaaOrders
import Derived.Test.YtmhepomjbaendaaMat
import Derived.Deep.RegionWith
import Derived.Test.YtmhepomjbaendaaClone
import Derived.Test.YtmhepomjbaendaaGrownL
import Derived.Laws.BitsLemmas
import Derived.Test.YtmhepomjbaendaaConcat
import Derived.Test.YtmhepomjbaendaaMarks
import Derived.Test.YtmhepomjbaendaaLawCode
namespace Go.Proofs.Ytmhepomjbaendaa
open Go.RowKit
set_option linter.unusedVariables false
set_option linter.unusedSimpArgs false

/-- Colours from 0 to m - 1, exams that clash have others. -/
structure Good (xs : List Int) (m : Nat) (L : List Int) : Prop where
  pos : ∀ k, k < L.length → 0 ≤ nth L k ∧ nth L k < (m : Int)
  ne : ∀ i, i < L.length → ∀ k, k < i → clashB xs (i : Int) (k : Int) = true → nth L k ≠ nth L i
theorem Good.mono {xs : List Int} {m m' : Nat} {L : List Int} (h : Good xs m L) (hm : m ≤ m') : Good xs m' L :=
  ⟨fun k hk => by have := h.pos k hk; omega, h.ne⟩
theorem nth_app_l {l r : List Int} {k : Nat} (h : k < l.length) : nth (l ++ r) k = nth l k := by
  unfold nth; rw [List.getD_eq_getElem?_getD, List.getD_eq_getElem?_getD, List.getElem?_append_left h]
theorem nth_app_at {l r : List Int} {x : Int} : nth (l ++ x :: r) l.length = x := by
  unfold nth; rw [List.getD_eq_getElem?_getD, List.getElem?_append_right (Nat.le_refl _)]; simp
theorem frC_iff {xs cs : List Int} {e c : Nat} : frC xs cs e c = true ↔ ∀ k, k < cs.length → nth cs k = (c : Int) → clashB xs (e : Int) (k : Int) = false := by
  unfold frC tkTo
  rw [Bool.not_eq_true', List.any_eq_false]
  simp only [List.mem_range, Bool.and_eq_true, beq_iff_eq, not_and, Bool.not_eq_true]
theorem Good.snoc {xs cs : List Int} {m c : Nat} (h : Good xs m cs) (hc : c < m) (hf : frC xs cs cs.length c = true) : Good xs m (cs ++ [(c : Int)]) := by
  rw [frC_iff] at hf
  constructor
  · intro k hk
    by_cases hkl : k < cs.length
    · rw [nth_app_l hkl]; exact h.pos k hkl
    · have : k = cs.length := by simp at hk; omega
      subst this
      rw [nth_app_at]; omega
  · intro i hi k hk hcl
    by_cases hil : i < cs.length
    · rw [nth_app_l hil, nth_app_l (by omega)]; exact h.ne i hil k hk hcl
    · have : i = cs.length := by simp at hi; omega
      subst this
      rw [nth_app_at, nth_app_l hk]
      intro e
      rw [hf k hk e] at hcl
      cases hcl
theorem firC_good {xs : List Int} {m : Nat} : ∀ (d : Nat) (cs L : List Int), Good xs m cs → firC xs m d cs = some L → Good xs m L := by
  intro d
  induction d with
  | zero => intro cs L h e; cases e; exact h
  | succ d ih =>
    intro cs L h
    have key : ∀ q, q ≤ m → firTo xs m d cs q = some L → Good xs m L := by
      intro q
      induction q with
      | zero => intro _ e; cases e
      | succ q ihq =>
        intro hq e
        rw [firTo_succ] at e
        split at e
        · exact ihq (by omega) e
        · split at e
          · rename_i _ hf
            exact ih _ _ (h.snoc (by omega) hf) e
          · cases e
    exact key m (Nat.le_refl _)
theorem good_firC {xs : List Int} {m : Nat} {L : List Int} (h : Good xs m L) : ∀ (d i : Nat), i + d = L.length → firC xs m d (L.take i) ≠ none := by
  intro d
  induction d with
  | zero => intro i _ e; cases e
  | succ d ih =>
    intro i hi e
    rw [firC_none] at e
    obtain ⟨p1, p2⟩ := h.pos i (by omega)
    have ht : L.take (i + 1) = L.take i ++ [(((nth L i).toNat : Nat) : Int)] := by
      rw [show (((nth L i).toNat : Nat) : Int) = nth L i by omega, nth_eq (by omega), List.take_succ_eq_append_getElem (by omega)]
    have hlen : (L.take i).length = i := by simp; omega
    refine ih (i + 1) (by omega) ?_
    rw [ht]
    refine e _ (by omega) ?_
    rw [frC_iff, hlen]
    intro k hk hkc
    have : nth (L.take i) k = nth L k := by
      unfold nth; rw [List.getD_eq_getElem?_getD, List.getD_eq_getElem?_getD, List.getElem?_take_of_lt hk]
    rw [this] at hkc
    cases hcl : clashB xs (i : Int) (k : Int)
    · rfl
    · exact absurd (by omega) (h.ne i (by omega) k hk hcl)
theorem good_fir {xs : List Int} {m : Nat} {L : List Int} (h : Good xs m L) : firC xs m L.length [] ≠ none := good_firC h L.length 0 (by omega)
theorem Good.nil (xs : List Int) (m : Nat) : Good xs m [] := ⟨fun k hk => by simp at hk, fun i hi => by simp at hi⟩

theorem lst_spec {xs : List Int} {t : Nat} (h1 : 1 ≤ t) : 1 ≤ lstM xs t ∧ lstM xs t ≤ t ∧ firC xs (lstM xs t) t [] = some (lstL xs t) ∧ ∀ p, 1 ≤ p → p < lstM xs t → firC xs p t [] = none := by
  have hfull : (decide (1 ≤ t) && (firC xs t t []).isSome) = true := by
    have := firC_full xs t t 0 (by omega)
    cases h : firC xs t t [] with
    | none => exact absurd h this
    | some L => simp [h1]
  obtain ⟨q, q1, q2, q3⟩ := least_ex (f := fun q => decide (1 ≤ q) && (firC xs q t []).isSome) hfull
  simp only [Bool.and_eq_true, decide_eq_true_eq] at q3
  obtain ⟨q4, q5⟩ := q3
  have hno : ∀ p, 1 ≤ p → p < q → firC xs p t [] = none := by
    intro p p1 p2
    have := q2 p p2
    simpa [p1] using this
  obtain ⟨L, hL⟩ := Option.isSome_iff_exists.1 q5
  rw [lstM_at q4 q1 hL hno, lstL_at q4 q1 hL hno]
  exact ⟨q4, q1, hL, hno⟩
theorem lst_good {xs : List Int} {t : Nat} (h1 : 1 ≤ t) : Good xs (lstM xs t) (lstL xs t) ∧ (lstL xs t).length = t := by
  obtain ⟨_, _, h, _⟩ := lst_spec (xs := xs) h1
  refine ⟨firC_good t [] _ (Good.nil _ _) h, ?_⟩
  have := firC_length t [] _ h
  simpa using this
theorem lst_least {xs : List Int} {t m : Nat} {L : List Int} (h1 : 1 ≤ t) (hL : L.length = t) (h : Good xs m L) (hm : 1 ≤ m) : lstM xs t ≤ m := by
  obtain ⟨_, _, _, h4⟩ := lst_spec (xs := xs) h1
  by_cases hlt : m < lstM xs t
  · have := h4 m hm hlt
    rw [← hL] at this
    exact absurd this (good_fir h)
  · omega
theorem firC_iff {xs : List Int} {t m : Nat} (h1 : 1 ≤ t) (hm : 1 ≤ m) : firC xs m t [] ≠ none ↔ lstM xs t ≤ m := by
  obtain ⟨_, _, _, h4⟩ := lst_spec (xs := xs) h1
  constructor
  · intro h
    by_cases hlt : m < lstM xs t
    · exact absurd (h4 m hm hlt) h
    · omega
  · intro h
    obtain ⟨g, gl⟩ := lst_good (xs := xs) h1
    have := good_fir (g.mono h)
    rwa [gl] at this

theorem ways_pos {xs : List Int} {m : Nat} : ∀ (d : Nat) (cs : List Int), 0 < ways xs m d cs ↔ firC xs m d cs ≠ none := by
  intro d
  induction d with
  | zero => intro cs; exact ⟨fun _ => (by intro e; cases e), fun _ => Nat.one_pos⟩
  | succ d ih =>
    intro cs
    have key : ∀ q, 0 < waysTo xs m d cs q ↔ firTo xs m d cs q ≠ none := by
      intro q
      induction q with
      | zero => exact ⟨fun h => absurd h (Nat.lt_irrefl 0), fun h => absurd rfl h⟩
      | succ q ihq =>
        rw [waysTo_succ, firTo_succ]
        cases hT : firTo xs m d cs q with
        | some L =>
          have := ihq.2 (by rw [hT]; simp)
          simp only [Option.isSome_some, if_true]
          refine ⟨fun _ => by simp, fun _ => ?_⟩
          split <;> omega
        | none =>
          have : waysTo xs m d cs q = 0 := by
            have := mt ihq.1 (by rw [hT]; simp)
            omega
          rw [this]
          cases hf : frC xs cs cs.length q
          · simp
          · simpa using ih (cs ++ [(q : Int)])
    exact key m

/-! The greatest clique is no greater than the number of colours. -/
theorem nodup_le : ∀ (m : Nat) (l : List Int), l.Nodup → (∀ x ∈ l, 0 ≤ x ∧ x < (m : Int)) → l.length ≤ m := by
  intro m
  induction m with
  | zero =>
    intro l _ h
    cases l with
    | nil => simp
    | cons a l => have := h a (by simp); omega
  | succ m ih =>
    intro l hn h
    by_cases hm : (m : Int) ∈ l
    · have h1 := ih (l.erase (m : Int)) (hn.erase _) (fun x hx => by
        have h2 := (hn.mem_erase_iff).1 hx
        have := h x h2.2
        have := h2.1
        omega)
      rw [List.length_erase_of_mem hm] at h1
      omega
    · have := ih l hn (fun x hx => by
        have h1 := h x hx
        have : x ≠ (m : Int) := fun e => hm (e ▸ hx)
        omega)
      omega
structure Cl (xs : List Int) (i : Nat) (l : List Int) : Prop where
  lt : ∀ x ∈ l, 0 ≤ x ∧ x < (i : Int)
  pw : l.Pairwise fun a b => a < b ∧ clashB xs a b = true
theorem Cl.mono {xs : List Int} {i j : Nat} {l : List Int} (h : Cl xs i l) (hij : i ≤ j) : Cl xs j l := ⟨fun x hx => by have := h.lt x hx; omega, h.pw⟩
theorem Cl.snoc {xs : List Int} {i : Nat} {l : List Int} (h : Cl xs i l) (ho : okTo xs l i = true) : Cl xs (i + 1) (l ++ [(i : Int)]) := by
  unfold okTo at ho
  rw [List.all_eq_true] at ho
  refine ⟨fun x hx => ?_, ?_⟩
  · rcases List.mem_append.1 hx with hx | hx
    · have := h.lt x hx; omega
    · simp at hx; omega
  · rw [List.pairwise_append]
    refine ⟨h.pw, by simp, fun a ha b hb => ?_⟩
    simp at hb
    subst hb
    exact ⟨(h.lt a ha).2, ho a ha⟩
theorem up_or (best l : List Int) : up best l = best ∨ up best l = l := by unfold up; split <;> simp
theorem deep_cl (xs : List Int) : ∀ (d i : Nat) (l best : List Int), Cl xs i l → Cl xs (i + d) best → Cl xs (i + d) (deep xs d i l best) := by
  intro d
  induction d with
  | zero => intro i l best _ h; exact h
  | succ d ih =>
    intro i l best hl hb
    unfold deep
    have e : i + 1 + d = i + (d + 1) := by omega
    cases ho : okTo xs l i
    · have := ih (i + 1) l best (hl.mono (by omega)) (by rw [e]; exact hb)
      rw [e] at this
      simpa using this
    · have hs := hl.snoc ho
      have hu : Cl xs (i + 1 + d) (up best (l ++ [(i : Int)])) := by
        rcases up_or best (l ++ [(i : Int)]) with h | h
        · rw [h, e]; exact hb
        · rw [h]; exact hs.mono (by omega)
      have := ih (i + 1) l _ (hl.mono (by omega)) (ih (i + 1) (l ++ [(i : Int)]) _ hs hu)
      rw [e] at this
      simpa using this
theorem clique_le {xs : List Int} {t m : Nat} {L : List Int} (hL : L.length = t) (h : Good xs m L) : (cliqueL t xs).length ≤ m := by
  have hc := deep_cl xs t 0 [] [] ⟨by simp, by simp⟩ ⟨by simp, by simp⟩
  rw [Nat.zero_add] at hc
  change Cl xs t (cliqueL t xs) at hc
  have hn : ((cliqueL t xs).map fun x => nth L x.toNat).Nodup := by
    unfold List.Nodup
    rw [List.pairwise_map]
    refine (List.Pairwise.imp_of_mem ?_ hc.pw)
    intro a b ha hb hab
    obtain ⟨a0, a1⟩ := hc.lt a ha
    obtain ⟨b0, b1⟩ := hc.lt b hb
    have := h.ne b.toNat (by omega) a.toNat (by omega) (by
      rw [show ((b.toNat : Nat) : Int) = b by omega, show ((a.toNat : Nat) : Int) = a by omega, clashB_comm]; exact hab.2)
    exact this
  have := nodup_le m _ hn (fun x hx => by
    obtain ⟨y, hy, rfl⟩ := List.mem_map.1 hx
    obtain ⟨y0, y1⟩ := hc.lt y hy
    exact h.pos _ (by omega))
  simpa using this

/-! Colours by an order. -/
theorem nth_set' {l : List Int} {m i : Nat} (v : Int) (hm : m < l.length) : nth (l.set m v) i = if m = i then v else nth l i := by
  unfold nth
  rw [List.getD_eq_getElem?_getD, List.getElem?_set, List.getD_eq_getElem?_getD]
  split
  · rename_i e'; subst e'; simp [hm]
  · rfl
structure Part (n : Nat) (xs order out : List Int) (s : Nat) : Prop where
  len : out.length = n
  set_ : ∀ i, i < s → 0 ≤ nth out (nth order i).toNat
  ne : ∀ i, i < n → ∀ k, k < n → i ≠ k → 0 ≤ nth out i → 0 ≤ nth out k → clashB xs (i : Int) (k : Int) = true → nth out k ≠ nth out i
theorem colTo_part {n : Nat} {xs order : List Int} (hl : order.length = n) (ho : ∀ i, i < order.length → 0 ≤ nth order i ∧ nth order i < (n : Int)) (s : Nat) (hs : s ≤ n) : Part n xs order (colTo n xs order s) s := by
  induction s with
  | zero =>
    refine ⟨by simp [colTo], fun i hi => by omega, fun i hi k hk _ h0 => ?_⟩
    have : nth (colTo n xs order 0) i = -1 := by simp [colTo, nth, hi]
    omega
  | succ s ih =>
    have P := ih (by omega)
    have h1 := ho s (by omega)
    obtain ⟨d, d1, _, d3, d5, d6⟩ := (colTo_inv (xs := xs) hl ho s (by omega)).step (xs := xs) (nth order s).toNat (by omega) (by omega)
    have hE : colTo n xs order (s + 1) = (colTo n xs order s).set (nth order s).toNat (d : Int) := d5
    have hen : (nth order s).toNat < n := by omega
    rw [hE]
    clear hE d5 d6 h1
    generalize hout : colTo n xs order s = out at *
    generalize he : (nth order s).toNat = e at *
    have hset : ∀ k, nth (out.set e (d : Int)) k = if e = k then (d : Int) else nth out k := fun k => nth_set' _ (by rw [P.len]; exact hen)
    rw [frC_iff] at d3
    refine ⟨by simp [P.len], fun i hi => ?_, fun i hi k hk hne h0 h0' hcl => ?_⟩
    · rw [hset]
      split
      · omega
      · rename_i hx
        rcases Nat.lt_succ_iff_lt_or_eq.1 hi with h | rfl
        · exact P.set_ i h
        · exact absurd he.symm hx
    · rw [hset] at h0 h0' ⊢
      rw [hset]
      by_cases hei : e = i
      · subst hei
        rw [if_pos rfl, if_neg hne]
        intro e2
        rw [d3 k (by rw [P.len]; exact hk) e2] at hcl
        cases hcl
      · rw [if_neg hei] at h0 ⊢
        by_cases hek : e = k
        · subst hek
          rw [if_pos rfl]
          intro e2
          rw [clashB_comm, d3 i (by rw [P.len]; exact hi) e2.symm] at hcl
          cases hcl
        · rw [if_neg hek] at h0' ⊢
          exact P.ne i hi k hk hne h0 h0' hcl
/-- The greatest colour and one. -/
def topC (L : List Int) (k : Nat) : Int := (List.range k).foldl (fun a i => max a (nth L i + 1)) 0
theorem topC_succ (L : List Int) (k : Nat) : topC L (k + 1) = max (topC L k) (nth L k + 1) := by
  unfold topC; rw [List.range_succ, List.foldl_append]; rfl
theorem topC_ge (L : List Int) : ∀ k, 0 ≤ topC L k ∧ ∀ i, i < k → nth L i < topC L k := by
  intro k
  induction k with
  | zero => exact ⟨Int.le_refl _, fun i hi => by omega⟩
  | succ k ih =>
    rw [topC_succ]
    refine ⟨by omega, fun i hi => ?_⟩
    rcases Nat.lt_succ_iff_lt_or_eq.1 hi with h | rfl
    · have := ih.2 i h; omega
    · omega
theorem topC_le (L : List Int) (B : Int) (hB : 0 ≤ B) : ∀ k, (∀ i, i < k → nth L i < B) → topC L k ≤ B := by
  intro k
  induction k with
  | zero => intro _; exact hB
  | succ k ih =>
    intro h
    rw [topC_succ]
    have := ih (fun i hi => h i (by omega))
    have := h k (by omega)
    omega
theorem colBy_good {n : Nat} {xs order : List Int} (hl : order.length = n) (ho : ∀ i, i < order.length → 0 ≤ nth order i ∧ nth order i < (n : Int)) (hall : ∀ k, k < n → (k : Int) ∈ order) :
    (colTo n xs order n).length = n ∧ Good xs (topC (colTo n xs order n) n).toNat (colTo n xs order n) ∧ Good xs n (colTo n xs order n) := by
  have P := colTo_part (xs := xs) hl ho n (Nat.le_refl _)
  have I := colTo_inv (xs := xs) hl ho n (Nat.le_refl _)
  have hT := topC_ge (colTo n xs order n) n
  have h0 : ∀ k, k < n → 0 ≤ nth (colTo n xs order n) k := by
    intro k hk
    obtain ⟨i, hi, e⟩ := List.getElem_of_mem (hall k hk)
    have := P.set_ i (by omega)
    rw [nth_eq (xs := order) hi, e] at this
    simpa using this
  refine ⟨P.len, ⟨fun k hk => ?_, fun i hi k hk hcl => ?_⟩, ⟨fun k hk => ?_, fun i hi k hk hcl => ?_⟩⟩
  · rw [P.len] at hk
    have := hT.2 k hk
    have := h0 k hk
    omega
  · rw [P.len] at hi
    exact P.ne i hi k (by omega) (by omega) (h0 i hi) (h0 k (by omega)) hcl
  · rw [P.len] at hk
    have := I.lt k hk
    have := h0 k hk
    omega
  · rw [P.len] at hi
    exact P.ne i hi k (by omega) (by omega) (h0 i hi) (h0 k (by omega)) hcl

/-! IsColour of such colours. -/
theorem good_isColour {n : Nat} {xs L : List Int} (hc : clashesOk (n : Int) xs = true) (hL : L.length = n) (h : Good xs n L) : colourHead (n : Int) xs L = true ∧ colourOk (n : Int) xs L = true := by
  obtain ⟨b1, b2, b3, b4, b5⟩ := clashesOk_head hc
  have hh : colourHead (n : Int) xs L = true := by
    unfold colourHead
    rw [hc, Bool.true_and, many_true]
    refine ⟨by omega, by omega, ?_⟩
    rw [List.all_eq_true]
    intro x hx
    obtain ⟨k, hk, rfl⟩ := List.getElem_of_mem hx
    have := h.pos k hk
    rw [nth_eq hk] at this
    exact win_true.2 (by omega)
  refine ⟨hh, ?_⟩
  unfold colourOk
  rw [hh, Bool.true_and, List.all_eq_true]
  intro j hj
  rw [List.mem_range] at hj
  have hne : nth xs (2 * j) ≠ nth xs (2 * j + 1) := by
    unfold clashesOk at hc
    rw [Bool.and_eq_true, List.all_eq_true] at hc
    have := hc.2 j (List.mem_range.2 hj)
    simpa using this
  obtain ⟨a0, a1⟩ := b5 (2 * j) (by omega)
  obtain ⟨c0, c1⟩ := b5 (2 * j + 1) (by omega)
  have hcl : clashB xs (nth xs (2 * j)) (nth xs (2 * j + 1)) = true := by
    unfold clashB clashTo
    rw [List.any_eq_true]
    exact ⟨j, List.mem_range.2 hj, by simp⟩
  unfold colourA colourB
  obtain ⟨A, hA⟩ : ∃ A : Nat, nth xs (2 * j) = A := ⟨(nth xs (2 * j)).toNat, by omega⟩
  obtain ⟨C, hC⟩ : ∃ C : Nat, nth xs (2 * j + 1) = C := ⟨(nth xs (2 * j + 1)).toNat, by omega⟩
  rw [hA, hC] at hne hcl
  rw [hA] at a0 a1
  rw [hC] at c0 c1
  rw [hA, hC, Int.toNat_natCast, Int.toNat_natCast]
  rw [bne_iff_ne]
  rcases Nat.lt_or_ge A C with hlt | hge
  · exact h.ne C (by omega) A hlt (by rw [clashB_comm]; exact hcl)
  · exact (h.ne A (by omega) C (by omega) hcl).symm
end Go.Proofs.Ytmhepomjbaendaa

namespace Go.Proofs.Ytmhepomjbaendaa
open Go.RowKit
set_option linter.unusedVariables false
set_option linter.unusedSimpArgs false

theorem clashesOk_nil {n : Int} (h1 : 1 ≤ n) (h2 : n ≤ 12) : clashesOk n [] = true := by
  unfold clashesOk clashesHead
  rw [win_true.2 ⟨h1, h2⟩]
  simp
theorem clashesOk_snoc {n : Int} {xs : List Int} {a b : Int} (h : clashesOk n xs = true) (hl : xs.length + 2 ≤ 64) (ha : 0 ≤ a ∧ a < n) (hb : 0 ≤ b ∧ b < n) (hne : a ≠ b) : clashesOk n (xs ++ [a, b]) = true := by
  unfold clashesOk clashesHead at *
  simp only [Bool.and_eq_true, decide_eq_true_eq, List.all_eq_true, List.mem_range] at *
  obtain ⟨⟨⟨⟨h1, h2⟩, h3⟩, h4⟩, h5⟩ := h
  refine ⟨⟨⟨⟨h1, by simp; omega⟩, by simp; omega⟩, ?_⟩, ?_⟩
  · intro x hx
    rw [List.mem_append] at hx
    rcases hx with hx | hx
    · exact h4 x hx
    · simp at hx
      rcases hx with rfl | rfl
      · exact win_true.2 (by omega)
      · exact win_true.2 (by omega)
  · intro j hj
    rw [List.length_append] at hj
    simp at hj
    by_cases hlt : j < xs.length / 2
    · have := h5 j hlt
      have e1 : nth (xs ++ [a, b]) (2 * j) = nth xs (2 * j) := by unfold nth; rw [List.getD_eq_getElem?_getD, List.getD_eq_getElem?_getD, List.getElem?_append_left (by omega)]
      have e2 : nth (xs ++ [a, b]) (2 * j + 1) = nth xs (2 * j + 1) := by unfold nth; rw [List.getD_eq_getElem?_getD, List.getD_eq_getElem?_getD, List.getElem?_append_left (by omega)]
      rw [e1, e2]; exact this
    · have hj2 : 2 * j = xs.length := by omega
      have e1 : nth (xs ++ [a, b]) (2 * j) = a := by unfold nth; rw [List.getD_eq_getElem?_getD, List.getElem?_append_right (by omega), hj2]; simp
      have e2 : nth (xs ++ [a, b]) (2 * j + 1) = b := by unfold nth; rw [List.getD_eq_getElem?_getD, List.getElem?_append_right (by omega), hj2]; simp
      rw [e1, e2]; simpa using hne

/-- An order of n numbers. -/
def PermN (n : Nat) (xs : List Int) : Prop := xs.Perm ((List.range n).map Int.ofNat)
theorem PermN.length {n : Nat} {xs : List Int} (h : PermN n xs) : xs.length = n := by rw [List.Perm.length_eq h]; simp
theorem PermN.mem {n : Nat} {xs : List Int} (h : PermN n xs) {x : Int} : x ∈ xs ↔ 0 ≤ x ∧ x < n := by
  rw [List.Perm.mem_iff h, List.mem_map]
  constructor
  · rintro ⟨k, hk, rfl⟩
    rw [List.mem_range] at hk
    exact ⟨Int.natCast_nonneg k, Int.ofNat_lt.2 hk⟩
  · rintro ⟨h1, h2⟩
    exact ⟨x.toNat, by rw [List.mem_range]; omega, by simp; omega⟩
theorem PermN.nodup {n : Nat} {xs : List Int} (h : PermN n xs) : xs.Nodup := by
  rw [List.Perm.nodup_iff h]
  exact List.pairwise_map.2 (List.pairwise_lt_range.imp (fun {a b} hab => by simp; omega))
theorem PermN.nil : PermN 0 [] := List.Perm.nil
theorem PermN.insert {n : Nat} {xs : List Int} (h : PermN n xs) (k : Nat) : PermN (n + 1) (xs.take k ++ [(n : Int)] ++ xs.drop k) := by
  unfold PermN at *
  rw [List.range_succ, List.map_append]
  have h1 : (xs.take k ++ [(n : Int)] ++ xs.drop k).Perm ((xs.take k ++ xs.drop k) ++ [(n : Int)]) := by
    rw [List.append_assoc, List.append_assoc]
    exact List.Perm.append_left _ List.perm_append_comm
  rw [List.take_append_drop] at h1
  exact h1.trans (List.Perm.append_right _ h)
theorem PermN.nth {n : Nat} {xs : List Int} (h : PermN n xs) (i : Nat) (hi : i < xs.length) : 0 ≤ Go.Proofs.Ytmhepomjbaendaa.nth xs i ∧ Go.Proofs.Ytmhepomjbaendaa.nth xs i < (n : Int) := by
  rw [nth_eq hi]; exact h.mem.1 (List.getElem_mem hi)
theorem PermN.orders {n : Nat} {xs : List Int} (h : PermN n xs) : orders (n : Int) xs = true := by
  refine orders_yes (by rw [h.length]) fun i hi => ⟨win_true.2 (by have := h.nth i hi; omega), ?_⟩
  rw [List.any_eq_false]
  intro y hy
  obtain ⟨j, hj, rfl⟩ := List.getElem_of_mem hy
  rw [List.length_take] at hj
  rw [nth_eq hi, List.getElem_take]
  have := List.pairwise_iff_getElem.1 h.nodup j i (by omega) hi (by omega)
  simpa using this
end Go.Proofs.Ytmhepomjbaendaa

namespace Go.Proofs.Ytmhepomjbaendaa
open Go.RowKit Go.Shelf Go.BigFrame
set_option linter.unusedVariables false
set_option linter.unusedSimpArgs false
attribute [local go_sem] Oper.semAt_some

def shHead (xs : List (List Int)) (n q : Int) : Bool := decide (xs.length ≤ 8) && win n 1 12 && win q 1 8
def shOk (xs : List (List Int)) (n q : Int) : Bool := shHead xs n q && xs.all (clashesOk n)
def shL (xs : List (List Int)) (n q : Int) : List Int := if shOk xs n q then xs.map (lstN n) else []
theorem sh_no {xs : List (List Int)} {n q : Int} (h : shOk xs n q = false) : shL xs n q = [] := by unfold shL; rw [h]; rfl
theorem sh_yes {xs : List (List Int)} {n q : Int} (h : shOk xs n q = true) : shL xs n q = xs.map (lstN n) := by unfold shL; rw [h]; rfl
theorem sh_bad {xs : List (List Int)} {n q : Int} {i : Nat} (hi : i < xs.length) (h : clashesOk n xs[i] = false) : shOk xs n q = false := by
  unfold shOk
  have : xs.all (clashesOk n) = false := by rw [List.all_eq_false]; exact ⟨_, List.getElem_mem hi, by rw [h]; simp⟩
  rw [this, Bool.and_false]
theorem sh_all {xs : List (List Int)} {n q : Int} (h1 : shHead xs n q = true) (h : ∀ i (hi : i < xs.length), clashesOk n xs[i] = true) : shOk xs n q = true := by
  unfold shOk
  rw [h1, Bool.true_and, List.all_eq_true]
  intro x hx
  obtain ⟨i, hi, rfl⟩ := List.mem_iff_getElem.1 hx
  exact h i hi
theorem shL_small (xs : List (List Int)) (n q : Int) : (shL xs n q).length ≤ 8 := by
  unfold shL
  split
  · rename_i h
    unfold shOk shHead at h
    simp only [Bool.and_eq_true, decide_eq_true_eq] at h
    simpa using h.1.1.1
  · simp
theorem take_lst {xs : List (List Int)} {n : Int} {k : Nat} (h : k < xs.length) : (xs.take (k + 1)).map (lstN n) = (xs.take k).map (lstN n) ++ [lstN n xs[k]] := by
  rw [List.take_succ_eq_append_getElem h, List.map_append]; rfl

theorem areWorkers_any (n : Int) (w : World) : Calls Try.prog 98 #[.int .i64 n] w fun e w' => e = .returned (.bool (win n 1 8)) ∧ w = w' := by
  go_enter Try.func98, Try.ntmps98
  go_wp2_with (go_at_call 60; refine (within_any _ _ _ _).mono ?_; rintro e w' ⟨rfl, rfl⟩)
  go_ret
  exact ⟨rfl, rfl⟩

set_option maxHeartbeats 2000000 in
theorem implShared_u (v : Value) (xs : List (List Int)) (n q : Int) (w : World) (hv : MatR w v xs) (hn : (Lit.int .i64 n).wf = true) :
    Calls Try.prog 38 #[v, .int .i64 n, .int .i64 q] w fun e w' => (∃ v', e = .returned (.tuple #[v', .bool (shOk xs n q)]) ∧ OwnI w' w.heap.size v' (shL xs n q)) ∧ Below w.heap.size w w' := by
  have HV : Hid (∀ W, Below w.heap.size w W → MatR W v xs) := fun W hW => hv.below hW (Nat.le_refl _)
  have HN := Lib.hid hn
  have hm := hv.1
  unfold maxLen at hm
  have HX : Hid (shHead xs n q = false → shOk xs n q = false ∧ shL xs n q = []) := fun h => by
    have : shOk xs n q = false := by unfold shOk; rw [h]; rfl
    exact ⟨this, sh_no this⟩
  have HBAD : Hid (∀ i (hi : i < xs.length), clashesOk n xs[i] = false → shOk xs n q = false ∧ shL xs n q = []) := fun i hi h => ⟨sh_bad hi h, sh_no (sh_bad hi h)⟩
  have H1 : Hid (∀ W, Calls Try.prog 97 #[.int .i64 n] W fun e w' => e = .returned (.bool (win n 1 12)) ∧ W = w') := fun W => areExams_any n W
  have H2 : Hid (∀ W, Calls Try.prog 98 #[.int .i64 q] W fun e w' => e = .returned (.bool (win q 1 8)) ∧ W = w') := fun W => areWorkers_any q W
  obtain ⟨a, c, rfl, hcap, _⟩ := hv.at_
  clear hv hn
  by_cases h8 : xs.length ≤ 8
  · have hd8 : decide ((xs.length : Int) > 8) = false := by simp; omega
    cases z1 : win n 1 12
    · have HF := Lib.hid (HX.out (by unfold shHead; rw [z1]; simp))
      rw [z1] at H1
      clear z1
      go_enter Try.func38, Try.ntmps38
      go_wp2_with (first | (go_at_call 97; refine (H1.out _).mono ?_; rintro e w' ⟨rfl, rfl⟩) | (go_at_call 98; refine (H2.out _).mono ?_; rintro e w' ⟨rfl, rfl⟩))
      go_ret2
      exact ⟨⟨_, by rw [HF.out.1]; rfl, by rw [HF.out.2]; exact own_nil _ _⟩, Below.refl _ _⟩
    · cases z2 : win q 1 8
      · have HF := Lib.hid (HX.out (by unfold shHead; rw [z1, z2]; simp))
        rw [z1] at H1
        rw [z2] at H2
        clear z1 z2
        go_enter Try.func38, Try.ntmps38
        go_wp2_with (first | (go_at_call 97; refine (H1.out _).mono ?_; rintro e w' ⟨rfl, rfl⟩) | (go_at_call 98; refine (H2.out _).mono ?_; rintro e w' ⟨rfl, rfl⟩))
        go_ret2
        exact ⟨⟨_, by rw [HF.out.1]; rfl, by rw [HF.out.2]; exact own_nil _ _⟩, Below.refl _ _⟩
      · have HALL : Hid ((∀ i (hi : i < xs.length), clashesOk n xs[i] = true) → shOk xs n q = true ∧ shL xs n q = xs.map (lstN n)) := fun h => by
          have := sh_all (n := n) (q := q) (by unfold shHead; rw [z1, z2]; simp [h8]) h
          exact ⟨this, sh_yes this⟩
        rw [z1] at H1
        rw [z2] at H2
        have HL0 : Hid (OwnI (w.alloc (.cells #[] 2)) w.heap.size (.slice (some ⟨w.heap.size, 0, none⟩) 0 0) []) := OwnI.lit w w.heap.size [] (Nat.le_refl _) (Nat.zero_le _)
        have HBA : Hid (Below w.heap.size w (w.alloc (.cells #[] 2))) := (Below.refl _ _).alloc (Nat.le_refl _) _
        clear z1 z2
        go_enter Try.func38, Try.ntmps38
        go_wp2_with (first | (go_at_call 97; refine (H1.out _).mono ?_; rintro e w' ⟨rfl, rfl⟩) | (go_at_call 98; refine (H2.out _).mono ?_; rintro e w' ⟨rfl, rfl⟩))
        go_loopw [8, 30] (fun vo vi wr => ∃ (k g' c' : Nat), k ≤ xs.length ∧ vi = .int .i64 k ∧ vo = .slice (some ⟨g', 0, none⟩) k c' ∧ OwnI wr w.heap.size (.slice (some ⟨g', 0, none⟩) k c') ((xs.take k).map (lstN n)) ∧ Below w.heap.size w wr ∧ Hid (∀ i (hi : i < xs.length), i < k → clashesOk n xs[i] = true)) (fun _ vi _ => xs.length - (intOf vi).toNat)
        case atStart => exact ⟨0, _, _, Nat.zero_le _, rfl, rfl, HL0.out, HBA.out, fun i hi h => by omega⟩
        case round =>
          obtain ⟨k, g', c', hk, rfl, rfl, hO, hB, hok⟩ := hrel
          obtain ⟨wr', rfl⟩ : ∃ wr' : World, wr' = wr := ⟨_, rfl⟩
          have HO := Lib.hid hO
          have HB := Lib.hid hB
          clear hO hB
          by_cases hkl : k < xs.length
          · obtain ⟨a3, c3, hsl3, _, hc⟩ := (HV.out wr' HB.out).at_
            obtain ⟨rfl, rfl⟩ : a = a3 ∧ c = c3 := by simpa using hsl3
            obtain ⟨b, o, u, rfl, hbs, hr, e0⟩ := hc k hkl
            have hcall := implLeast_u n u xs[k] wr' hr.ints.1 HN.out
            have HBD := Lib.hid (HBAD.out k hkl)
            have HTK := Lib.hid (take_lst (n := n) hkl)
            have hxk : ∀ y : Bool, clashesOk n xs[k] = y → Hid (clashesOk n xs[k] = y) := fun y h => h
            have k0 : (0 : Int) ≤ (k : Int) := by omega
            have k1 : (k : Int) < (xs.length : Int) := by omega
            cases hck : clashesOk n xs[k]
            · have HF := Lib.hid (HBD.out hck)
              rw [hck] at hcall
              have HC := Lib.hid hcall
              clear hcall hr hc hsl3 hck hok hxk
              go_wp2_with (go_at_call 32; refine HC.out.mono ?_; rintro e W1 ⟨⟨u1, rfl, ho1⟩, hb1⟩; have HB1 := Lib.hid (HB.out.trans (hb1.mono HB.out.size)); clear ho1 hb1)
              go_ret2
              exact ⟨⟨_, by rw [HF.out.1]; rfl, by rw [HF.out.2]; exact own_nil _ _⟩, HB1.out⟩
            · have HOK : Hid (∀ i (hi : i < xs.length), i < k + 1 → clashesOk n xs[i] = true) := fun i hi h => by
                rcases Nat.lt_succ_iff_lt_or_eq.1 h with h | rfl
                · exact hok.out i hi h
                · exact hck
              rw [hck] at hcall
              obtain ⟨L, hL⟩ : ∃ L, lstN n xs[k] = L := ⟨_, rfl⟩
              obtain ⟨Y, hY⟩ : ∃ Y, (xs.take k).map (lstN n) = Y := ⟨_, rfl⟩
              have hYl : Y.length = k := by rw [← hY]; simp; omega
              rw [hL] at hcall HTK
              rw [hY] at HO HTK
              have HC := Lib.hid hcall
              have HYL := Lib.hid hYl
              clear hcall hr hc hsl3 hck hok hxk hL hY hYl
              go_wp2_with (first
                | (go_at_call 32; refine HC.out.mono ?_; rintro e W1 ⟨⟨u1, rfl, ho1⟩, hb1⟩; obtain ⟨_, a1, c1, rfl, _⟩ := ho1.ints; have HB1 := Lib.hid (HB.out.trans (hb1.mono HB.out.size)); have HO1 := Lib.hid (HO.out.below hb1 (Nat.le_refl _)); clear ho1 hb1)
                | (at_builtin; refine append_i64 rfl _ _ rfl w.heap.size (.slice (some ⟨g', 0, none⟩) k c') Y [L] (Nat.zero_lt_succ _) rfl _ rfl HO1.out HB1.out.size (by rw [HYL.out]; simp; omega) ?_; intro g4 c4 w4 ho4 hg4; have hb4 := Below.app HB1.out HO1.out hg4 HB1.out.size; have HO4 := Lib.hid ho4; have HB4 := Lib.hid hb4; clear ho4 hg4 hb4))
              go_roundw
              case rel => exact ⟨k + 1, g4, c4, by omega, by go_num, by rw [HYL.out], by have := HO4.out; rw [HYL.out] at this; rw [HTK.out]; exact this, HB4.out, HOK.out⟩
              case measure => simp [intOf]; omega
          · obtain rfl : k = xs.length := by omega
            have HF := Lib.hid (HALL.out fun i hi => hok.out i hi hi)
            have HT : Hid (xs.take xs.length = xs) := List.take_length
            clear hok hkl
            go_wp2
            go_ret2
            exact ⟨⟨_, by rw [HF.out.1]; rfl, by rw [HF.out.2]; have := HO.out; rw [HT.out] at this; exact this⟩, HB.out⟩
  · have hd8 : decide ((xs.length : Int) > 8) = true := by simp; omega
    have HF := Lib.hid (HX.out (by unfold shHead; simp [h8]))
    clear h8
    go_enter Try.func38, Try.ntmps38
    go_wp2
    go_ret2
    exact ⟨⟨_, by rw [HF.out.1]; rfl, by rw [HF.out.2]; exact own_nil _ _⟩, Below.refl _ _⟩
end Go.Proofs.Ytmhepomjbaendaa

namespace Go.Proofs.Ytmhepomjbaendaa
open Go.RowKit
set_option linter.unusedVariables false
set_option linter.unusedSimpArgs false

theorem matR_two {w : World} {b : Nat} {u : Value} {xs : List Int} (h0 : w.cell? ⟨b, 0, none⟩ = some u) (h1 : w.cell? ⟨b, 1, none⟩ = some u) (hb : b < w.heap.size) (h : SlR rInt w u xs) : MatR w (.slice (some ⟨b, 0, none⟩) 2 2) [xs, xs] := by
  refine ⟨by unfold maxLen; simp, some ⟨b, 0, none⟩, 2, rfl, by simp, fun i hi => ?_⟩
  have hi2 : i = 0 ∨ i = 1 := by simp at hi; omega
  refine ⟨b, 0, [u], rfl, hb, ?_, fun j hj => ?_⟩
  · rcases hi2 with rfl | rfl <;> exact ⟨u, rfl, h⟩
  · obtain rfl : j = 0 := by simpa using hj
    rcases hi2 with rfl | rfl
    · simpa [rSl] using h0
    · simpa [rSl] using h1
theorem clashes_wf {n : Int} {xs : List Int} (h : clashesOk n xs = true) : ∀ x ∈ xs, (Lit.int .i64 x).wf = true := by
  obtain ⟨h1, h2, _, _, h5⟩ := clashesOk_head h
  intro x hx
  obtain ⟨i, hi, rfl⟩ := List.mem_iff_getElem.1 hx
  have := h5 i hi
  rw [nth_eq hi] at this
  exact wf_i64_iff.2 ⟨by omega, by omega⟩

theorem colours_fin {t : Nat} {ys : List Int} (hc : clashesOk (t : Int) ys = true) (h7 : t ≤ 7) :
    ∃ (LM : Nat) (LL CL : List Int), lstR t ys = LL ∧ lstN t ys = LM ∧ cliqR t ys = CL ∧ LL.length = t ∧ CL.length ≤ LM ∧ 1 ≤ LM ∧ LM ≤ t ∧ (∀ i, i < t → 0 ≤ nth LL i ∧ nth LL i < (LM : Int)) ∧ colourHead t ys LL = true ∧ colourOk t ys LL = true
    ∧ (∀ ord, PermN t ord → ∃ BY, colByL t ys ord = BY ∧ colByOk t ys ord = true ∧ BY.length = t ∧ (∀ i, i < t → 0 ≤ nth BY i ∧ nth BY i < (t : Int)) ∧ (LM : Int) ≤ topC BY t ∧ colourHead t ys BY = true ∧ colourOk t ys BY = true)
    ∧ (∀ q : Int, 1 ≤ q → q ≤ 8 → shOk [ys, ys] t q = true ∧ shL [ys, ys] t q = [(LM : Int), (LM : Int)])
    ∧ (∀ m : Int, 1 ≤ m → m ≤ 4 → ∃ Z, cntOk t ys m = true ∧ cntR t ys m = Z ∧ (decide (0 < Z) = decide ((LM : Int) ≤ m))) := by
  obtain ⟨b1, b2, b3, b4, b5⟩ := clashesOk_head hc
  have h1 : 1 ≤ t := by omega
  obtain ⟨l1, l2⟩ := lst_yes hc
  rw [Int.toNat_natCast] at l1 l2
  obtain ⟨s1, s2, s3, s4⟩ := lst_spec (xs := ys) h1
  obtain ⟨g1, g2⟩ := lst_good (xs := ys) h1
  obtain ⟨i1, i2⟩ := good_isColour hc g2 (g1.mono s2)
  refine ⟨lstM ys t, lstL ys t, cliqueL t ys, l1, l2, ?_, g2, clique_le g2 g1, s1, s2, fun i hi => g1.pos i (by omega), i1, i2, ?_, ?_, ?_⟩
  · rw [cliqR_yes hc, Int.toNat_natCast]
  · intro ord hp
    have hord : orders (t : Int) ord = true := hp.orders
    have hcb : colByOk (t : Int) ys ord = true := by unfold colByOk; rw [hc, hord]; rfl
    have hbl : colByL (t : Int) ys ord = colTo t ys ord t := by rw [colByL_yes hcb, Int.toNat_natCast, hp.length]
    obtain ⟨c1, c2, c3⟩ := colBy_good (xs := ys) hp.length (fun i hi => hp.nth i hi) (fun k hk => hp.mem.2 ⟨by omega, by omega⟩)
    have hT := topC_ge (colTo t ys ord t) t
    have hT1 : 1 ≤ (topC (colTo t ys ord t) t).toNat := by
      have h0 := c3.pos 0 (by omega)
      have := hT.2 0 (by omega)
      omega
    have hle := lst_least (xs := ys) h1 c1 c2 hT1
    obtain ⟨i3, i4⟩ := good_isColour hc c1 c3
    exact ⟨colTo t ys ord t, hbl, hcb, c1, fun i hi => c3.pos i (by omega), by omega, i3, i4⟩
  · intro q q1 q2
    have hsh : shOk [ys, ys] (t : Int) q = true := by
      unfold shOk shHead
      simp [hc, win_true.2 ⟨q1, q2⟩, win_true.2 (show (1 : Int) ≤ t ∧ (t : Int) ≤ 12 by omega)]
    exact ⟨hsh, by rw [sh_yes hsh]; simp [l2]⟩
  · intro m m1 m2
    have hcn : cntOk (t : Int) ys m = true := by
      unfold cntOk
      rw [hc, win_true.2 ⟨m1, m2⟩]
      simp; omega
    obtain ⟨k, hk⟩ : ∃ k : Nat, m = k := ⟨m.toNat, by omega⟩
    refine ⟨cntR t ys m, hcn, rfl, ?_⟩
    rw [cntR_yes hcn, hk, Int.toNat_natCast, Int.toNat_natCast]
    have h2 := ways_pos (xs := ys) (m := k) t []
    have h3 := firC_iff (xs := ys) (m := k) h1 (by omega)
    rw [decide_eq_decide]
    have : (0 : Int) < ((ways ys k t [] : Nat) : Int) ↔ 0 < ways ys k t [] := by omega
    rw [this, h2, h3]
    omega
end Go.Proofs.Ytmhepomjbaendaa

namespace Go.Proofs.Ytmhepomjbaendaa
open Go.RowKit Go.Shelf Go.BigFrame
set_option linter.unusedVariables false
set_option linter.unusedSimpArgs false
attribute [local go_sem] Oper.semAt_some

/-- At g lies a source over the bytes v, of which a choices have been made. -/
structure Src (W : World) (g : Nat) (v : Value) (a : Nat) : Prop where
  c0 : W.cell? ⟨g, 0, none⟩ = some v
  c1 : W.cell? ⟨g, 1, none⟩ = some (.int .i64 a)
  c2 : ∃ s : Int, W.cell? ⟨g, 2, none⟩ = some (.int .u64 s)
  f1 : W.frozen? ⟨g, 1, none⟩ = false
  f2 : W.frozen? ⟨g, 2, none⟩ = false
theorem Src.lt {W : World} {g : Nat} {v : Value} {a : Nat} (h : Src W g v a) : g < W.heap.size := lt_of_cell h.c0
theorem Src.grown {W W' : World} {g : Nat} {v : Value} {a : Nat} {L : List Nat} (h : Src W g v a) (hg : GrownL L W W') (hn : g ∉ L) : Src W' g v a := by
  have hb := hg.block g h.lt hn
  have hc : ∀ o, W'.cell? ⟨g, o, none⟩ = W.cell? ⟨g, o, none⟩ := fun o => by simp only [World.cell?, hb]
  have hf : ∀ o, W'.frozen? ⟨g, o, none⟩ = W.frozen? ⟨g, o, none⟩ := fun o => by simp only [World.frozen?, hb]
  exact ⟨(hc _).trans h.c0, (hc _).trans h.c1, by obtain ⟨s, hs⟩ := h.c2; exact ⟨s, (hc _).trans hs⟩, (hf _).trans h.f1, (hf _).trans h.f2⟩

theorem and255 (s : Int) : 0 ≤ bits .and .u64 (IntKind.u64.wrap s / 1099511627776) 255 ∧ bits .and .u64 (IntKind.u64.wrap s / 1099511627776) 255 ≤ 255 := by
  have hw : IntKind.u64.wrap s = s % 18446744073709551616 := by simp [IntKind.wrap, IntKind.bits, IntKind.signed]
  obtain ⟨n, hn⟩ : ∃ n : Nat, IntKind.u64.wrap s / 1099511627776 = n := ⟨(IntKind.u64.wrap s / 1099511627776).toNat, by rw [hw]; omega⟩
  have hlt : n < 2 ^ 32 := by rw [hw] at hn; omega
  have h1 := (bits_nat .u64 32 (by decide) (fun m h0 h1 => by rw [show IntKind.u64.wrap m = m % 18446744073709551616 by simp [IntKind.wrap, IntKind.bits, IntKind.signed]]; omega) n 255 hlt (by decide)).1
  have h2 : ((255 : Nat) : Int) = 255 := rfl
  rw [h2] at h1
  rw [hn, h1]
  have := Nat.and_le_right (n := n) (m := 255)
  omega

theorem Src.drewN {w : World} {g a : Nat} {v : Value} (h : Src w g v a) (q : Nat) : Src (w.drewN q) g v a := by
  have hc : ∀ p, (w.drewN q).cell? p = w.cell? p := fun _ => rfl
  have hf : ∀ p, (w.drewN q).frozen? p = w.frozen? p := fun _ => rfl
  exact ⟨h.c0, h.c1, h.c2, h.f1, h.f2⟩
/-- What one choice leaves of the source. -/
theorem Src.next {w : World} {g a : Nat} {v : Value} (hs : Src w g v a) (s : Int) (p q : Nat) : Src ((((w.drewN p).setCell ⟨g, 1, none⟩ (.int .i64 ((a : Int) + 1))).setCell ⟨g, 2, none⟩ (.int .u64 s)).drewN q) g v (a + 1) ∧ GrownL [g] w ((((w.drewN p).setCell ⟨g, 1, none⟩ (.int .i64 ((a : Int) + 1))).setCell ⟨g, 2, none⟩ (.int .u64 s)).drewN q) := by
  have hs' := hs.drewN p
  obtain ⟨W, hW⟩ : ∃ W, w.drewN p = W := ⟨_, rfl⟩
  have hg : GrownL [g] w W := by rw [← hW]; exact (GrownL.refl [g] w).drewN p
  rw [hW] at hs' ⊢
  have c0 := hs'.c0
  have c1 := hs'.c1
  obtain ⟨s0, c2⟩ := hs'.c2
  have f1 := hs'.f1
  have f2 := hs'.f2
  refine ⟨Src.drewN ⟨?_, ?_, ⟨s, ?_⟩, ?_, ?_⟩ q, ((hg.setCell _ _ (.inl (by simp))).setCell _ _ (.inl (by simp))).drewN q⟩
  all_goals simp [go_sem, c0, c1, c2, f1, f2]

set_option maxHeartbeats 1000000 in
theorem next_any (v : Value) (xs : List Int) (g a : Nat) (w : World) (hv : Byts w v xs) (hb : ∀ n ∈ xs, (Lit.int .u8 n).wf = true) (hs : Src w g v a) (ha : a ≤ 1099511627776) :
    Calls Try.prog 123 #[.pointer (some ⟨g, 0, none⟩)] w fun e w' => (∃ x : Int, e = .returned (.int .i64 x) ∧ 0 ≤ x ∧ x ≤ 255) ∧ Src w' g v (a + 1) ∧ GrownL [g] w w' := by
  obtain ⟨hm, ad, c, rfl, hcap, hc⟩ := hv
  have c0 := hs.c0
  have c1 := hs.c1
  obtain ⟨s, c2⟩ := hs.c2
  have f1 := hs.f1
  have f2 := hs.f2
  have HC := Lib.hid hc
  unfold maxLen at hm
  clear hc
  go_enter Try.func123, Try.ntmps123
  have HN := Lib.hid (fun s p q => hs.next s p q)
  clear hs
  by_cases hlt : a < xs.length
  · obtain ⟨b, off, rfl, hbl, h1⟩ := HC.out a hlt
    have hlt' : (a : Int) < (xs.length : Int) := by omega
    have i0 : (0 : Int) ≤ (a : Int) := by omega
    have hx := wf_u8_iff.1 (hb _ (List.getElem_mem hlt))
    obtain ⟨x, hx'⟩ : ∃ x, xs[a] = x := ⟨_, rfl⟩
    rw [hx'] at hx h1
    have hw : wrap64 x = x := IntWalk.wrap64_in _ ⟨by omega, by omega⟩
    go_wp2
    go_quiet (fail)
    go_wp2
    go_quiet (fail)
    go_wp2
    go_quiet (fail)
    go_wp2
    go_ret
    exact ⟨⟨x, rfl, hx.1, hx.2⟩, HN.out _ _ _⟩
  · have hlt' : ¬ (a : Int) < (xs.length : Int) := by omega
    have hle : ¬ (a : Int) + 1 ≤ (xs.length : Int) := by omega
    go_wp2
    go_quiet (fail)
    go_wp2
    go_quiet (fail)
    go_wp2
    go_ret
    have h255 := and255 (IntKind.u64.wrap (IntKind.u64.wrap (s * 6364136223846793005)) + 1442695040888963407)
    refine ⟨⟨_, rfl, ?_, ?_⟩, HN.out _ _ _⟩
    · rw [IntWalk.wrap64_in _ ⟨by omega, by omega⟩]; exact h255.1
    · rw [IntWalk.wrap64_in _ ⟨by omega, by omega⟩]; exact h255.2

theorem from_any (v : Value) (xs : List Int) (w : World) (hv : Byts w v xs) :
    Calls Try.prog 74 #[v] w fun e w' => e = .returned (.pointer (some ⟨w.heap.size, 0, none⟩)) ∧ Src w' w.heap.size v 0 ∧ Below w.heap.size w w' ∧ w'.heap.size = w.heap.size + 1 := by
  obtain ⟨hm, ad, c, rfl, hcap, hc⟩ := hv
  clear hc
  go_enter Try.func74, Try.ntmps74
  go_wp2
  go_ret
  refine ⟨rfl, ⟨?_, ?_, ⟨0, ?_⟩, ?_, ?_⟩, (Below.refl _ _).alloc (Nat.le_refl _) _, by simp⟩
  all_goals simp [go_sem]

set_option maxHeartbeats 1000000 in
theorem pick_any (v : Value) (xs : List Int) (g a : Nat) (n : Int) (w : World) (hv : Byts w v xs) (hb : ∀ n ∈ xs, (Lit.int .u8 n).wf = true) (hs : Src w g v a) (ha : a ≤ 1099511627776) (hn : n ≤ 200) :
    Calls Try.prog 75 #[.pointer (some ⟨g, 0, none⟩), .int .i64 n] w fun e w' => (∃ x : Int, e = .returned (.int .i64 x) ∧ 0 ≤ x ∧ (1 ≤ n → x < n)) ∧ (∃ a', a' ≤ a + 1 ∧ Src w' g v a') ∧ GrownL [g] w w' := by
  have hcall := next_any v xs g a w hv hb hs ha
  have HC := Lib.hid hcall
  have HS := Lib.hid hs
  clear hcall hs hv hb
  by_cases h1 : n ≤ 1
  · go_enter Try.func75, Try.ntmps75
    go_wp2
    go_ret
    exact ⟨⟨0, rfl, Int.le_refl _, fun h => by omega⟩, ⟨a, by omega, HS.out⟩, GrownL.refl _ _⟩
  · have h2 : ¬ n > 200 := by omega
    have h3 : n ≠ 0 := by omega
    go_enter Try.func75, Try.ntmps75
    go_wp2_with fail
    refine HC.out.mono ?_
    rintro e w' ⟨⟨x, rfl, x0, x1⟩, hs', hg'⟩
    have HS' := Lib.hid hs'
    have HG' := Lib.hid hg'
    clear hs' hg'
    go_wp2
    go_ret
    exact ⟨⟨x % n, rfl, Int.emod_nonneg _ h3, fun _ => Int.emod_lt_of_pos _ (by omega)⟩, ⟨a + 1, Nat.le_refl _, HS'.out⟩, HG'.out⟩
end Go.Proofs.Ytmhepomjbaendaa

namespace Go.Proofs.Ytmhepomjbaendaa
open Go.RowKit Go.Shelf Go.BigFrame
set_option linter.unusedVariables false
set_option linter.unusedSimpArgs false
theorem append_iN {ops : Array Oper} {rest : List Oper} {o : Oper} {a : Act} {Q : Exit → Act → World → Prop} {W : World} (hgd : o.guard = none) (s x : Operand)
    (ho : o.op = .call { callee := .builtin .append, args := #[s, x], argTypes := #[25, 25] }) (B : Nat) (v : Value) (xs ys : List Int) (hy : 0 < ys.length)
    (hs : a.eval s = v) (c : Nat) (hx : a.eval x = .slice (some ⟨W.heap.size, 0, none⟩) ys.length c) (hown : OwnI W B v xs) (hB : B ≤ W.heap.size) (hsmall : xs.length + ys.length ≤ 1099511627776)
    (hK : ∀ g c n w', Hid (n = (xs ++ ys).length) → OwnI w' B (.slice (some ⟨g, 0, none⟩) n c) (xs ++ ys) → W.grownBy w' v.ownBlock → wpList Try.prog ops Q rest (a.put o.dst (.slice (some ⟨g, 0, none⟩) n c)) w') :
    wpList Try.prog ops Q (o :: rest) a (W.alloc (.cells (ys.map (Value.int .i64)).toArray 2)) :=
  append_i64 hgd s x ho B v xs ys hy hs c hx hown hB hsmall fun g c w' h1 h2 => by
    have := hK g c _ w' rfl (by rw [List.length_append]; exact h1) h2
    rwa [List.length_append] at this
end Go.Proofs.Ytmhepomjbaendaa

namespace Go.Proofs.Ytmhepomjbaendaa
open Go.RowKit Go.Shelf Go.BigFrame
set_option linter.unusedVariables false
set_option linter.unusedSimpArgs false

theorem OwnI.cap {w : World} {B g n c : Nat} {xs : List Int} (h : OwnI w B (.slice (some ⟨g, 0, none⟩) n c) xs) : n ≤ c := by
  obtain ⟨_, a, c', e, hcap, _⟩ := h.ints
  cases e
  exact hcap

theorem draw_ne {t : Nat} {p q : Int} (h2 : 2 ≤ t) (p0 : 0 ≤ p) (p1 : p < t) (q0 : 0 ≤ q) (q1 : q < (t : Int) - 1) : 0 ≤ (p + 1 + q) % (t : Int) ∧ (p + 1 + q) % (t : Int) < t ∧ p ≠ (p + 1 + q) % (t : Int) := by
  refine ⟨Int.emod_nonneg _ (by omega), Int.emod_lt_of_pos _ (by omega), ?_⟩
  by_cases h : p + 1 + q < t
  · rw [Int.emod_eq_of_lt (by omega) h]; omega
  · have e : (p + 1 + q) % (t : Int) = p + 1 + q - t := by
      have h1 : (p + 1 + q - t + t) % (t : Int) = (p + 1 + q - t) % t := Int.add_emod_right _ _
      rw [show p + 1 + q - t + t = p + 1 + q by omega, Int.emod_eq_of_lt (a := p + 1 + q - t) (by omega) (by omega)] at h1
      exact h1
    rw [e]; omega

set_option maxHeartbeats 2000000 in
theorem drawClashes_any (v : Value) (xs : List Int) (t : Nat) (w : World) (hv : Byts w v xs) (hb : ∀ n ∈ xs, (Lit.int .u8 n).wf = true) (h1 : 1 ≤ t) (h2 : t ≤ 12) :
    Calls Try.prog 31 #[v, .int .i64 (t : Int)] w fun e w' => (∃ v', e = .returned v' ∧ ∃ ys, OwnI w' w.heap.size v' ys ∧ clashesOk t ys = true) ∧ Below w.heap.size w w' := by
  have HFR := Lib.hid (from_any v xs w hv)
  have HPK : Hid (∀ g a (n : Int) W, Below w.heap.size w W → Src W g v a → a ≤ 1099511627776 → n ≤ 200 → Calls Try.prog 75 #[.pointer (some ⟨g, 0, none⟩), .int .i64 n] W fun e w' => (∃ x : Int, e = .returned (.int .i64 x) ∧ 0 ≤ x ∧ (1 ≤ n → x < n)) ∧ (∃ a', a' ≤ a + 1 ∧ Src w' g v a') ∧ GrownL [g] W w') := fun g a n W hW hs ha hn => pick_any v xs g a n W (hv.below hW (Nat.le_refl _)) hb hs ha hn
  clear hv hb
  obtain ⟨A, hA⟩ : ∃ A, w.heap.size = A := ⟨_, rfl⟩
  have HA := Lib.hid hA
  have HSZ : Hid (∀ W, Below A w W → A ≤ W.heap.size) := fun W h => by rw [← hA]; exact h.size
  clear hA
  go_enter Try.func31, Try.ntmps31
  go_wp2_with fail
  refine HFR.out.mono ?_
  rintro e W1 ⟨rfl, hs1, hb1, hz1⟩
  rw [HA.out] at hs1 hb1 hz1
  have HO0 := OwnI.lit W1 (A + 1) [] (by omega) (by unfold maxLen; simp)
  have hB1 : Below A w W1 := hb1
  obtain ⟨o, ho⟩ : ∃ o : Obj, o = (.cells (([] : List Int).map (Value.int .i64)).toArray 2) := ⟨_, rfl⟩
  have HS0 : Hid (∀ W, W = W1.alloc o → Src W A v 0 ∧ Below A w W ∧ OwnI W (A + 1) (.slice (some ⟨W1.heap.size, 0, none⟩) 0 0) [] ∧ GrownL [A] W W) := by
    rintro W rfl
    refine ⟨hs1.grown ((GrownL.refl [] W1).alloc _) (by simp), hb1.alloc (by omega) _, ?_, GrownL.refl _ _⟩
    rw [ho]; exact HO0
  have HZ1 := Lib.hid hz1
  rw [ho] at HS0
  clear hs1 hb1 hz1 HO0 hB1 ho
  rw [HA.out]
  go_wp2_with fail
  obtain ⟨s1, s2, s3, s4⟩ := HS0.out _ rfl
  refine (HPK.out _ _ _ _ (by rw [HA.out]; exact s2) s1 (by omega) (by omega)).mono ?_
  rintro e W2 ⟨⟨x, rfl, x0, x1⟩, ⟨a2, ha2, hs2⟩, hg2⟩
  have hlt := x1 (by omega)
  obtain ⟨n, rfl⟩ : ∃ n : Nat, x = n := ⟨x.toNat, by omega⟩
  have HS2 := Lib.hid hs2
  have HO2 := Lib.hid (hg2.own s3 (by simp; have := HZ1.out; omega))
  have HB2 : Hid (Below A w W2) := hg2.toBelow s2 (HSZ.out _ s2) (by simp; omega)
  clear hs2 hg2 s1 s2 s3 s4 HS0 x0 x1
  have hn12 : n ≤ 12 := by omega
  go_wp2
  go_loopw [6, 7] (fun vo vn wr => ∃ (n k g c a : Nat) (ys : List Int), n ≤ 12 ∧ vn = .int .i64 n ∧ Hid (k = ys.length) ∧ k + 2 * n ≤ 24 ∧ Hid (clashesOk t ys = true) ∧ vo = .slice (some ⟨g, 0, none⟩) k c ∧ Hid (OwnI wr (A + 1) (.slice (some ⟨g, 0, none⟩) k c) ys) ∧ Hid (Src wr A v a) ∧ a + 2 * n ≤ 100 ∧ Hid (Below A w wr)) (fun _ vn _ => (intOf vn).toNat)
  case atStart => exact ⟨n, 0, W1.heap.size, 0, a2, [], hn12, rfl, rfl, by omega, clashesOk_nil (by omega) (by omega), rfl, HO2.out, HS2.out, by omega, HB2.out⟩
  case round =>
    obtain ⟨n, k, g, c, a, ys, hn, rfl, HK, hk, HC, rfl, HO, HS, ha, HB⟩ := hrel
    by_cases hgo : 0 < n ∧ 1 < t
    · obtain ⟨g1, g2⟩ := hgo
      have i1 : (0 : Int) < n := by omega
      have i2 : (1 : Int) < t := by omega
      have hgA : A + 1 ≤ g ∧ g < wr.heap.size := HO.out.lt g rfl
      go_wp2_with fail
      refine (HPK.out _ _ _ _ (by rw [HA.out]; exact HB.out) HS.out (by omega) (by omega)).mono ?_
      rintro e W3 ⟨⟨p, rfl, p0, p1⟩, ⟨a3, ha3, hs3⟩, hg3⟩
      have p1 := p1 (by omega)
      have HS3 := Lib.hid hs3
      have HO3 := Lib.hid (hg3.own HO.out (by simp; omega))
      have HB3 : Hid (Below A w W3) := hg3.toBelow HB.out (HSZ.out _ HB.out) (by simp; omega)
      clear hs3 hg3 HS HO HB
      have w1 : IntKind.i64.wrap (p + 1) = p + 1 := IntWalk.i64_in _ (by omega)
      go_wp2_with fail
      refine (HPK.out _ _ _ _ (by rw [HA.out]; exact HB3.out) HS3.out (by omega) (by omega)).mono ?_
      rintro e W4 ⟨⟨q, rfl, q0, q1⟩, ⟨a4, ha4, hs4⟩, hg4⟩
      have q1 := q1 (by omega)
      have HS4 := Lib.hid hs4
      have HO4 := Lib.hid (hg4.own HO3.out (by simp; omega))
      have HB4 : Hid (Below A w W4) := hg4.toBelow HB3.out (HSZ.out _ HB3.out) (by simp; omega)
      clear hs4 hg4 HS3 HO3 HB3
      obtain ⟨z0, z1, z2⟩ := draw_ne (t := t) (by omega) p0 p1 q0 q1
      have hA4 : A + 1 ≤ W4.heap.size := by have := HS4.out.lt; omega
      go_wp2_with (at_builtin; (refine append_iN rfl _ _ rfl (A + 1) (.slice (some ⟨g, 0, none⟩) k c) ys [p, (p + 1 + q) % (t : Int)] (by simp) rfl _ rfl HO4.out hA4 (by have := HK.out; simp; omega) ?_; intro g5 c5 n5 w5 hn5 ho5 hg5; have HO5 := Lib.hid ho5; have HN5 := hn5; have HS5 : Hid (Src w5 A v a4) := HS4.out.grown ((GrownL.refl [g] W4).grown hg5 (fun j e => .inl (by simp [Value.ownBlock] at e; simp [e]))) (by simp; omega); have HB5 : Hid (Below A w w5) := HB4.out.grown hg5 (by omega) (fun j e => by simp [Value.ownBlock] at e; omega); clear ho5 hg5 hn5))
      go_roundw
      case rel =>
        have hky : k = ys.length := HK.out
        refine ⟨n - 1, n5, g5, c5, a4, _, by omega, by go_num, HN5, ?_, clashesOk_snoc HC.out (by omega) ⟨p0, p1⟩ ⟨z0, z1⟩ z2, rfl, HO5.out, HS5.out, by omega, HB5.out⟩
        have := HN5.out
        simp at this
        omega
      case measure => simp [intOf]; omega
    · have hgo' : ¬ (0 < n) ∨ ¬ (1 < t) := by omega
      have HR : Hid (∀ e, e = Ending.returned (.slice (some ⟨g, 0, none⟩) k c) → (∃ v', e = Ending.returned v' ∧ ∃ ys, OwnI wr w.heap.size v' ys ∧ clashesOk t ys = true) ∧ Below w.heap.size w wr) := by
        rintro e rfl
        rw [HA.out]
        exact ⟨⟨_, rfl, ys, HO.out.mono (by omega), HC.out⟩, HB.out⟩
      rcases hgo' with h | h
      · have i1 : ¬ ((0 : Int) < n) := by omega
        go_wp2
        go_ret
        exact HR.out _ rfl
      · have i1 : ¬ ((1 : Int) < t) := by omega
        by_cases h0 : 0 < n
        · go_wp2
          go_ret
          exact HR.out _ rfl
        · go_wp2
          go_ret
          exact HR.out _ rfl

set_option maxHeartbeats 2000000 in
theorem drawOrder_any (v : Value) (xs : List Int) (t : Nat) (w : World) (hv : Byts w v xs) (hb : ∀ n ∈ xs, (Lit.int .u8 n).wf = true) (h2 : t ≤ 12) :
    Calls Try.prog 36 #[v, .int .i64 (t : Int)] w fun e w' => (∃ v', e = .returned v' ∧ ∃ ys, OwnI w' w.heap.size v' ys ∧ PermN t ys) ∧ Below w.heap.size w w' := by
  have HFR := Lib.hid (from_any v xs w hv)
  have HPK : Hid (∀ g a (n : Int) W, Below w.heap.size w W → Src W g v a → a ≤ 1099511627776 → n ≤ 200 → Calls Try.prog 75 #[.pointer (some ⟨g, 0, none⟩), .int .i64 n] W fun e w' => (∃ x : Int, e = .returned (.int .i64 x) ∧ 0 ≤ x ∧ (1 ≤ n → x < n)) ∧ (∃ a', a' ≤ a + 1 ∧ Src w' g v a') ∧ GrownL [g] W w') := fun g a n W hW hs ha hn => pick_any v xs g a n W (hv.below hW (Nat.le_refl _)) hb hs ha hn
  clear hv hb
  obtain ⟨A, hA⟩ : ∃ A, w.heap.size = A := ⟨_, rfl⟩
  have HA := Lib.hid hA
  have HSZ : Hid (∀ W, Below A w W → A ≤ W.heap.size) := fun W h => by rw [← hA]; exact h.size
  clear hA
  go_enter Try.func36, Try.ntmps36
  go_wp2_with fail
  refine HFR.out.mono ?_
  rintro e W1 ⟨rfl, hs1, hb1, hz1⟩
  rw [HA.out] at hs1 hb1 hz1
  obtain ⟨W2, hW2⟩ : ∃ W, W1.alloc (.cells #[] 2) = W := ⟨_, rfl⟩
  have HS2 : Hid (Src W2 A v 0) := by rw [← hW2]; exact hs1.grown ((GrownL.refl [] W1).alloc _) (by simp)
  have HB2 : Hid (Below A w W2) := by rw [← hW2]; exact hb1.alloc (by omega) _
  have HO2 : Hid (OwnI W2 (A + 1) (.slice (some ⟨W1.heap.size, 0, none⟩) 0 0) []) := by rw [← hW2]; exact OwnI.lit W1 (A + 1) [] (by omega) (by unfold maxLen; simp)
  have HW2 := Lib.hid hW2
  clear hs1 hb1 hz1 hW2
  rw [HA.out]
  go_wp2
  go_loopw [6, 7] (fun vo vk wr => ∃ (k g c a : Nat) (ys : List Int), k ≤ t ∧ vk = .int .i64 k ∧ Hid (PermN k ys) ∧ vo = .slice (some ⟨g, 0, none⟩) k c ∧ Hid (OwnI wr (A + 1) (.slice (some ⟨g, 0, none⟩) k c) ys) ∧ Hid (Src wr A v a) ∧ a ≤ k ∧ Hid (Below A w wr)) (fun _ vk _ => t - (intOf vk).toNat)
  case atStart => exact ⟨0, W1.heap.size, 0, 0, [], Nat.zero_le _, rfl, PermN.nil, rfl, by show OwnI _ _ _ _; first | (rw [HW2.out]; exact HO2.out) | exact HO2.out, by show Src _ _ _ _; first | (rw [HW2.out]; exact HS2.out) | exact HS2.out, Nat.le_refl _, by show Below _ _ _; first | (rw [HW2.out]; exact HB2.out) | exact HB2.out⟩
  case round =>
    obtain ⟨k, g, c, a, ys, hk, rfl, HP, rfl, HO, HS, ha, HB⟩ := hrel
    have hlen := HP.out.length
    by_cases hgo : k < t
    · have i1 : (k : Int) < t := by omega
      have hgA : A + 1 ≤ g ∧ g < wr.heap.size := HO.out.lt g rfl
      go_wp2_with fail
      refine (HPK.out _ _ _ _ (by rw [HA.out]; exact HB.out) HS.out (by omega) (by omega)).mono ?_
      rintro e W3 ⟨⟨p, rfl, p0, p1⟩, ⟨a3, ha3, hs3⟩, hg3⟩
      have p1 := p1 (by omega)
      obtain ⟨i, rfl⟩ : ∃ i : Nat, p = i := ⟨p.toNat, by omega⟩
      have hik : i ≤ k := by omega
      have HS3 := Lib.hid hs3
      have HO3 := Lib.hid (hg3.own HO.out (by simp; omega))
      have HB3 : Hid (Below A w W3) := hg3.toBelow HB.out (HSZ.out _ HB.out) (by simp; omega)
      have hkc : k ≤ c := HO3.out.cap
      have hlA : A < W3.heap.size := by have := HS3.out.lt; omega
      clear hs3 hg3 HS HO HB HS2 HB2 HO2 HW2
      have hcells : Hid (∀ W, Below W3.heap.size W3 W → ∀ j, j < ys.length → W.cell? ⟨g, j, none⟩ = some (.int .i64 (nth ys j))) := fun W hW j hj => (hW.cell (p := ⟨g, j, none⟩) (HO3.out.lt g rfl).2).trans (HO3.out.at_ hlen.symm j hj)
      have HO3L := HO3.out.lt g rfl
      obtain ⟨W4, hW4⟩ : ∃ W, W3.alloc (.cells #[] 2) = W := ⟨_, rfl⟩
      have B34 : Below W3.heap.size W3 W4 := by rw [← hW4]; exact (Below.refl _ _).alloc (Nat.le_refl _) _
      have O4 : OwnI W4 W3.heap.size (.slice (some ⟨W3.heap.size, 0, none⟩) 0 0) [] := by rw [← hW4]; exact OwnI.lit W3 W3.heap.size [] (Nat.le_refl _) (by unfold maxLen; simp)
      have HW4 := Lib.hid hW4
      have hl5 : ([] : List Int).length + (ys.take i).length = i := by simp; omega
      clear hW4
      go_wp2_with (at_builtin; first
        | (rw [HW4.out]; refine wpList_append_any rfl _ _ rfl W3.heap.size W3.heap.size 0 0 [] (ys.take i) rfl rfl g 0 i c (by rw [List.length_take]; omega) rfl (fun j h => by rw [List.length_take] at h; rw [List.getElem_take, ← nth_eq, Nat.zero_add]; exact hcells.out W4 B34 j (by omega)) O4 B34.size (by simp; omega) ?_; intro g5 c5 w5 ho5 hg5; rw [hl5] at ho5; rw [hl5]; have B35 : Hid (Below W3.heap.size W3 w5) := B34.grown hg5 B34.size (fun j e => by cases e; omega); have HO5 : Hid (OwnI w5 W3.heap.size (.slice (some ⟨g5, 0, none⟩) i c5) (ys.take i)) := ho5; clear hl5 ho5 hg5 B34 O4 HW4)
        | (have hs5 : W3.heap.size ≤ w5.heap.size := B35.out.size; refine append_iN rfl _ _ rfl W3.heap.size (.slice (some ⟨g5, 0, none⟩) i c5) (ys.take i) [(k : Int)] (by simp) rfl _ rfl HO5.out hs5 (by simp; omega) ?_; intro g6 c6 n6 w6 hn6 ho6 hg6; have B36 : Hid (Below W3.heap.size W3 w6) := B35.out.grown hg6 hs5 (fun j e => (HO5.out.lt j e).1); have HO6 := Lib.hid ho6; have HN6 := hn6; clear hn6 ho6 hg6 B35 HO5)
        | (have hs6 : W3.heap.size ≤ w6.heap.size := B36.out.size; refine wpList_append_any rfl _ _ rfl W3.heap.size g6 n6 c6 (ys.take i ++ [(k : Int)]) (ys.drop i) HN6.out rfl g (if c = i then 0 else i) (k - i) (c - i) (by rw [List.length_drop]; omega) (by by_cases hci : c = i <;> simp [hci, Act.eval]) (fun j h => by rw [List.length_drop] at h; rw [List.getElem_drop, ← nth_eq, if_neg (show ¬ c = i by omega)]; exact hcells.out w6 B36.out (i + j) (by omega)) HO6.out hs6 (by simp; omega) ?_; intro g7 c7 w7 ho7 hg7; have B37 : Hid (Below W3.heap.size W3 w7) := B36.out.grown hg7 hs6 (fun j e => (HO6.out.lt j e).1); have HO7 := Lib.hid ho7; clear ho7 hg7 B36 HO6))
      have hl7 : (ys.take i ++ [(k : Int)]).length + (ys.drop i).length = k + 1 := by simp; omega
      rw [hl7] at HO7
      rw [show i + 1 + (k - i) = k + 1 by omega]
      clear hl7
      go_roundw
      case rel =>
        refine ⟨k + 1, g7, c7, a3, _, by omega, by go_num, PermN.insert HP.out i, rfl, HO7.out.mono (by omega), HS3.out.grown ((GrownL.refl [] W3).below B37.out (Nat.le_refl _)) (by simp), by omega, ?_⟩
        show Below _ _ _
        exact HB3.out.trans (B37.out.mono (by omega))
      case measure => simp [intOf]; omega
    · have i1 : ¬ (k : Int) < t := by omega
      obtain rfl : k = t := by omega
      go_wp2
      go_ret
      rw [HA.out]
      exact ⟨⟨_, rfl, ys, HO.out.mono (by omega), HP.out⟩, HB.out⟩
end Go.Proofs.Ytmhepomjbaendaa

namespace Go.Proofs.Ytmhepomjbaendaa
open Go.RowKit Go.Shelf Go.BigFrame
set_option linter.unusedVariables false
set_option linter.unusedSimpArgs false

theorem Ints.rowI {w : World} {v : Value} {xs : List Int} (h : Ints w v xs) (h0 : 0 < xs.length) : ∃ b o c, v = .slice (some ⟨b, o, none⟩) xs.length c ∧ b < w.heap.size ∧ xs.length ≤ c ∧ ∀ i, i < xs.length → w.cell? ⟨b, o + i, none⟩ = some (.int .i64 (nth xs i)) := by
  obtain ⟨_, a, c, rfl, hcap, hc⟩ := h
  obtain ⟨b, o, ha, hb, _⟩ := hc 0 h0
  subst ha
  refine ⟨b, o, c, rfl, hb, hcap, fun i hi => ?_⟩
  obtain ⟨b', o', he, _, hcell⟩ := hc i hi
  obtain ⟨rfl, rfl⟩ : b = b' ∧ o = o' := by simpa using he
  rw [hcell, nth_eq hi]

theorem b10Ints_any (v u : Value) (xs ys : List Int) (w : World) (hv : Ints w v xs) (hu : Ints w u ys) :
    Calls Try.prog 21 #[v, u] w fun e w' => e = .returned (.bool (xs == ys)) ∧ Below w.heap.size w w' := by
  obtain ⟨hm, a, c, rfl, hcap, hc⟩ := hv
  obtain ⟨hm', a', c', rfl, hcap', hc'⟩ := hu
  unfold maxLen at hm hm'
  by_cases hlen : xs.length = ys.length
  · have hl1 : ((xs.length : Int) != ys.length) = false := by simp [hlen]
    go_enter Try.func21, Try.ntmps21
    go_wp2
    go_loopw [13] (fun i wr => ∃ k : Nat, k ≤ xs.length ∧ i = .int .i64 k ∧ xs.take k = ys.take k ∧ Below w.heap.size w wr) (fun i _ => xs.length - (intOf i).toNat)
    case atStart => exact ⟨0, Nat.zero_le _, rfl, rfl, Below.refl _ _⟩
    case round =>
      obtain ⟨k, hk, rfl, heq, hb⟩ := hrel
      by_cases hlt : k < xs.length
      · have hlt' : k < ys.length := by omega
        obtain ⟨b, o, rfl, hbs, hc1⟩ := hc k hlt
        obtain ⟨b', o', rfl, hbs', hc1'⟩ := hc' k hlt'
        have hc2 : wr.cell? ⟨b, o + k, none⟩ = some (.int .i64 xs[k]) := (hb.cell (p := ⟨b, o + k, none⟩) hbs).trans hc1
        have hc2' : wr.cell? ⟨b', o' + k, none⟩ = some (.int .i64 ys[k]) := (hb.cell (p := ⟨b', o' + k, none⟩) hbs').trans hc1'
        have hk0 : (0 : Int) ≤ (k : Int) := by omega
        have hk1 : (k : Int) < (xs.length : Int) := by omega
        have hk2 : (k : Int) < (ys.length : Int) := by omega
        have Heq := Lib.hid heq
        have Hlen := Lib.hid hlen
        clear hc hc' hc1 hc1' heq hlen
        cases hne : (xs[k] != ys[k])
        · go_wp2
          go_quiet (fail)
          go_wp2
          go_roundw
          case rel =>
            refine ⟨k + 1, by omega, by go_num, ?_, below_drewN _ hb⟩
            rw [List.take_succ_eq_append_getElem hlt, List.take_succ_eq_append_getElem hlt', Heq.out]
            simp at hne; rw [hne]
          case measure => simp [intOf]; omega
        · go_wp2
          go_quiet (fail)
          go_wp2
          go_ret
          refine ⟨ret_bool ?_, below_drewN _ hb⟩
          symm
          rw [beq_eq_false_iff_ne]
          rintro rfl
          simp at hne
      · have hk' : k = xs.length := by omega
        clear hc hc'
        have Heq := Lib.hid heq
        have Hlen := Lib.hid hlen
        have Hk' := Lib.hid hk'
        clear heq hlen hk'
        have hkk : ¬ k < ys.length := by have := Hlen.out; have := Hk'.out; omega
        go_wp2
        go_ret
        refine ⟨ret_bool ?_, hb⟩
        symm
        rw [beq_iff_eq]
        have h := Heq.out
        have h1 := Hk'.out
        have h2 := Hlen.out
        rwa [List.take_of_length_le (by omega), List.take_of_length_le (by omega)] at h
  · have hl1 : ((xs.length : Int) != ys.length) = true := by simp; omega
    have Hlen := Lib.hid hlen
    clear hlen
    go_enter Try.func21, Try.ntmps21
    go_wp2
    go_ret
    refine ⟨ret_bool ?_, Below.refl _ _⟩
    symm
    rw [beq_eq_false_iff_ne]
    rintro rfl
    exact Hlen.out rfl
end Go.Proofs.Ytmhepomjbaendaa

namespace Go.Proofs.Ytmhepomjbaendaa
open Go.RowKit Go.Shelf Go.BigFrame
set_option linter.unusedVariables false
set_option linter.unusedSimpArgs false

set_option maxRecDepth 100000 in
set_option maxHeartbeats 4000000 in
theorem walkFnColours (a0 : Option Addr) (len0 cap0 : Nat) (z0 : List Int) (a1 : Option Addr) (len1 cap1 : Nat) (z1 : List Int) (w : World)
    (w0 : (a0 = none ∧ len0 = 0 ∧ cap0 = 0 ∧ z0 = []) ∨
      ∃ x, a0 = some x ∧ len0 ≤ cap0 ∧ cap0 ≤ maxLen ∧ z0.length = cap0 ∧ (∀ i, i < z0.length → w.cell? (x.add i) = some (.int .u8 (z0.getD i 0))) ∧ ∀ n ∈ z0, (Lit.int .u8 n).wf = true)
    (w1 : (a1 = none ∧ len1 = 0 ∧ cap1 = 0 ∧ z1 = []) ∨
      ∃ x, a1 = some x ∧ len1 ≤ cap1 ∧ cap1 ≤ maxLen ∧ z1.length = cap1 ∧ (∀ i, i < z1.length → w.cell? (x.add i) = some (.int .u8 (z1.getD i 0))) ∧ ∀ n ∈ z1, (Lit.int .u8 n).wf = true) :
    Calls Try.prog 6 #[.slice a0 len0 cap0, .slice a1 len1 cap1] w fun e w' => e = .returned (.bool true) ∧ Below w.heap.size w w' := by
  obtain ⟨hv0, hwf0, hlen0⟩ := bytes_of_row w0
  obtain ⟨hv1, hwf1, hlen1⟩ := bytes_of_row w1
  generalize z0.take len0 = xs at *
  generalize z1.take len1 = ys at *
  subst hlen0 hlen1
  clear w0 w1
  have Hwf0 := Lib.hid hwf0
  have Hwf1 := Lib.hid hwf1
  clear hwf0 hwf1
  cases hlong : (decide (1048576 < xs.length) || decide (1048576 < ys.length))
  · go_enter Try.func6, Try.ntmps6
    go_wp2_with fail
    refine (b10Long_any _ _ xs ys _ hv0 hv1).mono ?_
    rintro e w' ⟨rfl, rfl⟩
    go_wp2_with fail
    refine (b10At_any _ ys _ _ _ hv1 Hwf1.out (by omega) (by omega) (by omega) (by omega)).mono ?_
    rintro e w' ⟨⟨x0, rfl, hx0a, hx0b⟩, rfl⟩
    obtain ⟨t, ht⟩ : ∃ t : Nat, 1 + x0 = (t : Int) := ⟨(1 + x0).toNat, by omega⟩
    have h1 : 1 ≤ t := by omega
    have h7 : t ≤ 7 := by omega
    have htw : (Lit.int .i64 (t : Int)).wf = true := wf_i64_iff.2 ⟨by omega, by omega⟩
    have HDC : Hid (∀ W, Below w.heap.size w W → Calls Try.prog 31 #[.slice a0 xs.length cap0, .int .i64 (t : Int)] W fun e w' => (∃ v', e = .returned v' ∧ ∃ ys, OwnI w' W.heap.size v' ys ∧ clashesOk t ys = true) ∧ Below W.heap.size W w') := fun W hW => drawClashes_any _ xs t W (hv0.below hW (Nat.le_refl _)) Hwf0.out (by omega) (by omega)
    have HDO : Hid (∀ W, Below w.heap.size w W → Calls Try.prog 36 #[.slice a1 ys.length cap1, .int .i64 (t : Int)] W fun e w' => (∃ v', e = .returned v' ∧ ∃ ys, OwnI w' W.heap.size v' ys ∧ PermN t ys) ∧ Below W.heap.size W w') := fun W hW => drawOrder_any _ ys t W (hv1.below hW (Nat.le_refl _)) Hwf1.out (by omega)
    have HAT : Hid (∀ W (i n : Int), Below w.heap.size w W → 0 ≤ i → i ≤ 100 → 1 ≤ n → n ≤ 100 → Calls Try.prog 11 #[.slice a1 ys.length cap1, .int .i64 i, .int .i64 n] W fun e w' => (∃ x, e = .returned (.int .i64 x) ∧ 0 ≤ x ∧ x < n) ∧ W = w') := fun W i n hW i0 i1 n0 n1 => b10At_any _ ys _ _ W (hv1.below hW (Nat.le_refl _)) Hwf1.out (by omega) (by omega) (by omega) (by omega)
    clear hv0 hv1 Hwf0 Hwf1
    go_wp2_with fail
    clear ht hx0a hx0b
    refine (HDC.out _ (Below.refl _ _)).mono ?_
    rintro e W1 ⟨⟨v1, rfl, zs, ho1, hc⟩, hb1⟩
    obtain ⟨LM, LL, CL, f1, f2, f3, f4, f5, f6, f7, f8, f9, f10, f11, f12, f13⟩ := colours_fin hc h7
    have B1 := Lib.hid hb1
    have I1 : Hid (∀ W, Below W1.heap.size W1 W → Ints W v1 zs) := fun W hW => ho1.ints.below hW (Nat.le_refl _)
    have HLI : Hid (∀ W, Below W1.heap.size W1 W → Calls Try.prog 32 #[.int .i64 (t : Int), v1] W fun e w' => (∃ v', e = .returned (.tuple #[v', .int .i64 (LM : Int), .bool true]) ∧ OwnI w' W.heap.size v' LL) ∧ Below W.heap.size W w') := fun W hW => by
      have := implLeast_u (t : Int) v1 zs W (I1.out W hW) htw; rwa [f1, f2, hc] at this
    have HLS : Hid (∀ W, Below W1.heap.size W1 W → Calls Try.prog 33 #[.int .i64 (t : Int), v1] W fun e w' => (∃ v', e = .returned (.tuple #[v', .int .i64 (LM : Int), .bool true]) ∧ OwnI w' W.heap.size v' LL) ∧ Below W.heap.size W w') := fun W hW => by
      have := specLeast_u (t : Int) v1 zs W (I1.out W hW) htw; rwa [f1, f2, hc] at this
    have HQI : Hid (∀ W, Below W1.heap.size W1 W → Calls Try.prog 34 #[.int .i64 (t : Int), v1] W fun e w' => (∃ v', e = .returned (.tuple #[v', .bool true]) ∧ OwnI w' W.heap.size v' CL) ∧ Below W.heap.size W w') := fun W hW => by
      have := implClique_u (t : Int) v1 zs W (I1.out W hW) htw; rwa [f3, hc] at this
    have HQS : Hid (∀ W, Below W1.heap.size W1 W → Calls Try.prog 35 #[.int .i64 (t : Int), v1] W fun e w' => (∃ v', e = .returned (.tuple #[v', .bool true]) ∧ OwnI w' W.heap.size v' CL) ∧ Below W.heap.size W w') := fun W hW => by
      have := specClique_u (t : Int) v1 zs W (I1.out W hW) htw; rwa [f3, hc] at this
    have HCB : Hid (∀ ord, PermN t ord → ∃ BY, BY.length = t ∧ (∀ i, i < t → 0 ≤ nth BY i ∧ nth BY i < (t : Int)) ∧ (LM : Int) ≤ topC BY t ∧ (∀ W u, Below W1.heap.size W1 W → Ints W u ord → Calls Try.prog 37 #[.int .i64 (t : Int), v1, u] W fun e w' => (∃ v', e = .returned (.tuple #[v', .bool true]) ∧ OwnI w' W.heap.size v' BY) ∧ Below W.heap.size W w')
        ∧ (∀ W u, Below W1.heap.size W1 W → Ints W u BY → Calls Try.prog 40 #[.int .i64 (t : Int), v1, u] W fun e w' => e = .returned (.tuple #[.bool true, .bool true]) ∧ Below W.heap.size W w')) := fun ord hord => by
      obtain ⟨BY, g1, g2, g3, g4, g5, g6, g7⟩ := f11 ord hord
      refine ⟨BY, g3, g4, g5, fun W u hW hu => ?_, fun W u hW hu => ?_⟩
      · have := implColBy_u (t : Int) v1 u zs ord W (I1.out W hW) hu htw (by rw [hord.length]; omega); rwa [g1, g2] at this
      · have := implIsColour_any (t : Int) v1 u zs BY W (I1.out W hW) hu htw; rwa [g6, g7] at this
    have HIC : Hid (∀ W u, Below W1.heap.size W1 W → Ints W u LL → Calls Try.prog 40 #[.int .i64 (t : Int), v1, u] W fun e w' => e = .returned (.tuple #[.bool true, .bool true]) ∧ Below W.heap.size W w') := fun W u hW hu => by
      have := implIsColour_any (t : Int) v1 u zs LL W (I1.out W hW) hu htw; rwa [f9, f10] at this
    have HSH : Hid (∀ W v (q : Int), 1 ≤ q → q ≤ 8 → MatR W v [zs, zs] → Calls Try.prog 38 #[v, .int .i64 (t : Int), .int .i64 q] W fun e w' => (∃ v', e = .returned (.tuple #[v', .bool true]) ∧ OwnI w' W.heap.size v' [(LM : Int), (LM : Int)]) ∧ Below W.heap.size W w') := fun W v q q1 q2 hv => by
      have := implShared_u v [zs, zs] (t : Int) q W hv htw; rwa [(f12 q q1 q2).1, (f12 q q1 q2).2] at this
    have HAC : Hid (∀ W, Below W1.heap.size W1 W → Calls Try.prog 39 #[.int .i64 (t : Int), v1] W fun e w' => e = .returned (.bool true) ∧ Below W.heap.size W w') := fun W hW => by
      have := implAreClashes_any (t : Int) v1 zs W (I1.out W hW) htw; rwa [hc] at this
    have HCN : Hid (∀ m : Int, 1 ≤ m → m ≤ 4 → ∃ Z : Int, decide (0 < Z) = decide ((LM : Int) ≤ m) ∧ (∀ W, Below W1.heap.size W1 W → Calls Try.prog 41 #[.int .i64 (t : Int), v1, .int .i64 m] W fun e w' => e = .returned (.tuple #[.int .i64 Z, .bool true]) ∧ Below W.heap.size W w')
        ∧ (∀ W, Below W1.heap.size W1 W → Calls Try.prog 42 #[.int .i64 (t : Int), v1, .int .i64 m] W fun e w' => e = .returned (.tuple #[.int .i64 Z, .bool true]) ∧ Below W.heap.size W w')) := fun m m1 m2 => by
      obtain ⟨Z, g1, g2, g3⟩ := f13 m m1 m2
      refine ⟨Z, g3, fun W hW => ?_, fun W hW => ?_⟩
      · have := implCount_u (t : Int) v1 zs m W (I1.out W hW) htw; rwa [g1, g2] at this
      · have := specCount_u (t : Int) v1 zs m W (I1.out W hW) htw; rwa [g1, g2] at this
    have F8 := Lib.hid f8
    have BB := Lib.hid (Below.refl W1.heap.size W1)
    obtain ⟨ka, ca, rfl⟩ : ∃ (a : Option Addr) (c : Nat), v1 = .slice a zs.length c := by
      obtain ⟨_, a, c, e, _⟩ := ho1.ints; exact ⟨a, c, e⟩
    obtain ⟨zl, hzl⟩ : ∃ z, zs.length = z := ⟨_, rfl⟩
    have HZL := Lib.hid hzl
    rw [hzl] at I1 HLI HLS HQI HQS HCB HIC HAC HCN
    rw [hzl]
    have F4 := Lib.hid f4
    have FW := Lib.hid (clashes_wf hc)
    clear f1 f2 f3 f8 f9 f10 f11 f12 f13 hc ho1 hb1 htw hzl f4
    go_wp2_with fail
    refine (HLI.out _ BB.out).mono ?_
    rintro e W2 ⟨⟨v2, rfl, ho2⟩, hb2⟩
    have B2 := Lib.hid (BB.out.trans (hb2.mono BB.out.size))
    have I2 : Hid (∀ W, Below W2.heap.size W2 W → Ints W v2 LL) := fun W hW => ho2.ints.below hW (Nat.le_refl _)
    obtain ⟨b2, o2, c2, rfl, hb2l, hc2, hcell2⟩ := ho2.ints.rowI (by rw [F4.out]; omega)
    rw [F4.out] at hcell2 hc2 I2
    have HC2 : Hid (∀ W, Below W2.heap.size W2 W → ∀ i, i < t → W.cell? ⟨b2, o2 + i, none⟩ = some (.int .i64 (nth LL i))) := fun W hW i hi => (hW.cell (p := ⟨b2, o2 + i, none⟩) hb2l).trans (hcell2 i hi)
    rw [F4.out]
    clear ho2 hb2 BB HLI hb2l hcell2
    go_wp2_with fail
    refine (HLS.out _ B2.out).mono ?_
    rintro e W3 ⟨⟨v3, rfl, ho3⟩, hb3⟩
    have B3 := Lib.hid (B2.out.trans (hb3.mono B2.out.size))
    have B23 := Lib.hid hb3
    have I3 : Hid (∀ W, Below W3.heap.size W3 W → Ints W v3 LL) := fun W hW => ho3.ints.below hW (Nat.le_refl _)
    clear ho3 hb3 HLS B2
    go_wp2_with fail
    refine (HQI.out _ B3.out).mono ?_
    rintro e W4 ⟨⟨v4, rfl, ho4⟩, hb4⟩
    have B4 := Lib.hid (B3.out.trans (hb4.mono B3.out.size))
    have B24 := Lib.hid (B23.out.trans (hb4.mono B23.out.size))
    have B34 := Lib.hid hb4
    have I4 : Hid (∀ W, Below W4.heap.size W4 W → Ints W v4 CL) := fun W hW => ho4.ints.below hW (Nat.le_refl _)
    obtain ⟨k4, c4, rfl⟩ : ∃ (a : Option Addr) (c : Nat), v4 = .slice a CL.length c := by
      obtain ⟨_, a, c, e, _⟩ := ho4.ints; exact ⟨a, c, e⟩
    clear ho4 hb4 HQI B3 B23
    go_wp2_with fail
    refine (HQS.out _ B4.out).mono ?_
    rintro e W5 ⟨⟨v5, rfl, ho5⟩, hb5⟩
    have B5 := Lib.hid (B4.out.trans (hb5.mono B4.out.size))
    have B25 := Lib.hid (B24.out.trans (hb5.mono B24.out.size))
    have B35 := Lib.hid (B34.out.trans (hb5.mono B34.out.size))
    have B45 := Lib.hid hb5
    have I5 : Hid (∀ W, Below W5.heap.size W5 W → Ints W v5 CL) := fun W hW => ho5.ints.below hW (Nat.le_refl _)
    clear ho5 hb5 HQS B4 B24 B34
    have BW5 : Hid (Below w.heap.size w W5) := B1.out.trans (B5.out.mono B1.out.size)
    go_wp2_with fail
    refine (HDO.out _ BW5.out).mono ?_
    rintro e W6 ⟨⟨v6, rfl, ord, ho6, hord⟩, hb6⟩
    have B56 := Lib.hid hb6
    have B6 := Lib.hid (B5.out.trans (hb6.mono B5.out.size))
    obtain ⟨BY, g1, g2, g3, hcb, hic⟩ := HCB.out ord hord
    have H6 := Lib.hid (hcb W6 v6 B6.out ho6.ints)
    have HIB := Lib.hid hic
    have G2 := Lib.hid g2
    have G1 := Lib.hid g1
    have G3 : (LM : Int) ≤ topC BY t := g3
    clear ho6 hord hb6 hcb hic HCB HDO g2 g1 g3
    go_wp2_with fail
    refine H6.out.mono ?_
    rintro e W7 ⟨⟨v7, rfl, ho7⟩, hb7⟩
    have B57 := Lib.hid (B56.out.trans (hb7.mono B56.out.size))
    have B7 := Lib.hid (B6.out.trans (hb7.mono B6.out.size))
    have I7 : Hid (∀ W, Below W7.heap.size W7 W → Ints W v7 BY) := fun W hW => ho7.ints.below hW (Nat.le_refl _)
    obtain ⟨b7, o7, c7, rfl, hb7l, hc7, hcell7⟩ := ho7.ints.rowI (by rw [G1.out]; omega)
    rw [G1.out] at hcell7 hc7 I7
    have HC7 : Hid (∀ W, Below W7.heap.size W7 W → ∀ i, i < t → W.cell? ⟨b7, o7 + i, none⟩ = some (.int .i64 (nth BY i))) := fun W hW i hi => (hW.cell (p := ⟨b7, o7 + i, none⟩) hb7l).trans (hcell7 i hi)
    rw [G1.out]
    have BW7 : Hid (Below w.heap.size w W7) := B1.out.trans (B7.out.mono B1.out.size)
    clear ho7 hb7 H6 hb7l hcell7 B56 B6 BW5 B5
    go_wp2_with fail
    obtain ⟨W8, hW8⟩ : ∃ W, W7.alloc (.cells #[.slice ka zl ca, .slice ka zl ca] 25) = W := ⟨_, rfl⟩
    have B78 : Below W7.heap.size W7 W8 := by rw [← hW8]; exact (Below.refl _ _).alloc (Nat.le_refl _) _
    have B8 := Lib.hid (B7.out.trans (B78.mono B7.out.size))
    have BW8 : Hid (Below w.heap.size w W8) := B1.out.trans (B8.out.mono B1.out.size)
    have c0 : W8.cell? ⟨W7.heap.size, 0, none⟩ = some (.slice ka zl ca) := by rw [← hW8]; simp [go_sem]
    have c1 : W8.cell? ⟨W7.heap.size, 1, none⟩ = some (.slice ka zl ca) := by rw [← hW8]; simp [go_sem]
    have hlt8 : W7.heap.size < W8.heap.size := by rw [← hW8]; simp
    have HM8 := Lib.hid (matR_two c0 c1 hlt8 (SlR.of_ints (I1.out W8 B8.out) FW.out))
    have B78' := Lib.hid B78
    have B58 := Lib.hid (B57.out.trans (B78.mono B57.out.size))
    rw [hW8]
    clear c0 c1 hlt8 B78 hW8 B57 BW7
    refine (HAT.out _ _ _ BW8.out (by omega) (by omega) (by omega) (by omega)).mono ?_
    rintro e w8 ⟨⟨q, rfl, hq0, hq1⟩, rfl⟩
    have HS8 := Lib.hid (HSH.out W8 _ (1 + q) (by omega) (by omega) HM8.out)
    clear HM8 FW HSH
    go_wp2_with fail
    refine HS8.out.mono ?_
    rintro e W9 ⟨⟨v9, rfl, ho9⟩, hb9⟩
    have B9 := Lib.hid (B8.out.trans (hb9.mono B8.out.size))
    have B59 := Lib.hid (B58.out.trans (hb9.mono B58.out.size))
    have B79 := Lib.hid (B78'.out.trans (hb9.mono B78'.out.size))
    have BW9 : Hid (Below w.heap.size w W9) := B1.out.trans (B9.out.mono B1.out.size)
    have hI9 := ho9.ints
    obtain ⟨b9, o9, c9, rfl, hb9l, hc9, hcell9⟩ := hI9.rowI (by simp)
    have C9 : Hid (∀ W, Below W9.heap.size W9 W → W.cell? ⟨b9, o9, none⟩ = some (.int .i64 LM) ∧ W.cell? ⟨b9, o9 + 1, none⟩ = some (.int .i64 LM)) := fun W hW =>
      ⟨(hW.cell (p := ⟨b9, o9, none⟩) hb9l).trans (hcell9 0 (by simp)), (hW.cell (p := ⟨b9, o9 + 1, none⟩) hb9l).trans (hcell9 1 (by simp))⟩
    have hc9' : 2 ≤ c9 := hc9
    have K9 : Hid (∀ W, Below W9.heap.size W9 W → Below W1.heap.size W1 W ∧ Below w.heap.size w W ∧ Ints W (.slice (some ⟨b2, o2, none⟩) t c2) LL ∧ Ints W v3 LL ∧ Ints W (.slice k4 CL.length c4) CL ∧ Ints W v5 CL ∧ Ints W (.slice (some ⟨b7, o7, none⟩) t c7) BY ∧ (∀ i, i < t → W.cell? ⟨b2, o2 + i, none⟩ = some (.int .i64 (nth LL i))) ∧ (∀ i, i < t → W.cell? ⟨b7, o7 + i, none⟩ = some (.int .i64 (nth BY i)))) := fun W hW => by
      have e1 := B59.out.trans (hW.mono B59.out.size)
      have e2 := B25.out.trans (e1.mono B25.out.size)
      have e3 := B35.out.trans (e1.mono B35.out.size)
      have e4 := B45.out.trans (e1.mono B45.out.size)
      have e7 := B79.out.trans (hW.mono B79.out.size)
      exact ⟨B9.out.trans (hW.mono B9.out.size), BW9.out.trans (hW.mono BW9.out.size), I2.out W e2, I3.out W e3, I4.out W e4, I5.out W e1, I7.out W e7, HC2.out W e2, HC7.out W e7⟩
    have BB := Lib.hid (Below.refl W9.heap.size W9)
    clear ho9 hb9 hI9 hb9l hcell9 hc9 B9 B59 B79 B8 B58 B78' BW9 BW8 B25 B35 B45 I2 I3 I4 I5 I7 HC2 HC7 HS8 B7
    have h5 : ¬ ((LM : Int) < (CL.length : Int)) := by omega
    obtain ⟨cl, hcl⟩ : ∃ z, CL.length = z := ⟨_, rfl⟩
    rw [hcl] at h5 K9
    rw [hcl]
    clear hcl f5 hq0 hq1
    go_wp2_with fail
    refine (b10Ints_any _ _ LL LL _ (K9.out _ BB.out).2.2.1 (K9.out _ BB.out).2.2.2.1).mono ?_
    rintro e Wa ⟨rfl, hba⟩
    rw [beq_self_eq_true]
    have BA := Lib.hid hba
    clear hba
    go_wp2_with fail
    refine (b10Ints_any _ _ CL CL _ (K9.out _ BA.out).2.2.2.2.1 (K9.out _ BA.out).2.2.2.2.2.1).mono ?_
    rintro e Wb ⟨rfl, hbb⟩
    rw [beq_self_eq_true]
    have BC := Lib.hid (BA.out.trans (hbb.mono BA.out.size))
    clear hbb BA
    go_wp2_with fail
    refine (HAC.out _ (K9.out _ BC.out).1).mono ?_
    rintro e Wc ⟨rfl, hbc⟩
    have BD := Lib.hid (BC.out.trans (hbc.mono BC.out.size))
    clear hbc BC HAC
    obtain ⟨c90, c91⟩ := C9.out Wc BD.out
    go_wp2_with fail
    refine (HIC.out Wc _ (K9.out _ BD.out).1 (K9.out _ BD.out).2.2.1).mono ?_
    rintro e Wd ⟨rfl, hbd⟩
    have BE := Lib.hid (BD.out.trans (hbd.mono BD.out.size))
    clear hbd BD c90 c91
    go_wp2_with fail
    refine (HIB.out Wd _ (K9.out _ BE.out).1 (K9.out _ BE.out).2.2.2.2.2.2.1).mono ?_
    rintro e We ⟨rfl, hbe⟩
    have BF := Lib.hid (BE.out.trans (hbe.mono BE.out.size))
    clear hbe BE
    obtain ⟨k1, kw, _, _, _, _, _, kL, kB⟩ := K9.out We BF.out
    have KL := Lib.hid kL
    have KB := Lib.hid kB
    have K1 := Lib.hid k1
    have KW := Lib.hid kw
    clear kL kB k1 kw
    go_wp2
    go_loopw [26, 27, 195] (fun vm _ vi wk => ∃ k : Nat, k ≤ t ∧ vi = .int .i64 k ∧ vm = .int .i64 (topC BY k) ∧ wk = We) (fun _ _ vi _ => t - (intOf vi).toNat)
    case atStart => exact ⟨0, Nat.zero_le _, rfl, rfl, by first | rfl | trivial⟩
    case round =>
      obtain ⟨k, hk, rfl, rfl, rfl⟩ := hrel
      by_cases hkt : k < t
      · have hP0 := (topC_ge BY k).1
        have hP1 := topC_le BY (t : Int) (by omega) k (fun i hi => (G2.out i (by omega)).2)
        have hS := topC_succ BY k
        obtain ⟨y0, y1⟩ := G2.out k hkt
        obtain ⟨x0, x1⟩ := F8.out k hkt
        have cL := KL.out k hkt
        have cB := KB.out k hkt
        obtain ⟨y, hy⟩ : ∃ z, nth BY k = z := ⟨_, rfl⟩
        obtain ⟨x, hx⟩ : ∃ z, nth LL k = z := ⟨_, rfl⟩
        obtain ⟨P, hP⟩ : ∃ z, topC BY k = z := ⟨_, rfl⟩
        rw [hy] at y0 y1 cB hS
        rw [hx] at x0 x1 cL
        rw [hP] at hP0 hP1 hS
        rw [hP]
        have HS := Lib.hid hS
        clear hy hx hP hS
        have i1 : (k : Int) < (t : Int) := by omega
        have a1 : ¬ x < 0 := by omega
        have a2 : ¬ (LM : Int) ≤ x := by omega
        go_wp2
        go_roundw
        case rel =>
          refine ⟨k + 1, by omega, by go_num, ?_, by first | rfl | trivial⟩
          rw [HS.out]
          congr 1
          split <;> omega
        case measure => simp [intOf]; omega
      · obtain rfl : k = t := by omega
        obtain ⟨P, hP⟩ : ∃ z, topC BY k = z := ⟨_, rfl⟩
        rw [hP] at G3
        rw [hP]
        have hP2 : ¬ P < (LM : Int) := by omega
        clear hP KL KB F8 G2 I1
        go_wp2_with fail
        refine (HAT.out _ _ _ KW.out (by omega) (by omega) (by omega) (by omega)).mono ?_
        rintro e w8 ⟨⟨q2, rfl, hq0, hq1⟩, rfl⟩
        obtain ⟨Z, hZ, hci, hcs⟩ := HCN.out (1 + q2) (by omega) (by omega)
        have HCI := Lib.hid hci
        have HCS := Lib.hid hcs
        obtain ⟨m, hm⟩ : ∃ m, 1 + q2 = m := ⟨_, rfl⟩
        rw [hm] at hZ HCI HCS
        clear hci hcs HCN
        go_wp2_with fail
        refine (HCI.out _ K1.out).mono ?_
        rintro e Wf ⟨rfl, hbf⟩
        have K1f := Lib.hid (K1.out.trans (hbf.mono K1.out.size))
        clear hbf HCI hm hq0 hq1
        go_wp2_with fail
        refine (HCS.out _ K1f.out).mono ?_
        rintro e Wg ⟨rfl, hbg⟩
        have K1g := Lib.hid (K1f.out.trans (hbg.mono K1f.out.size))
        have HEND : Hid (Below w.heap.size w Wg) := B1.out.trans (K1g.out.mono B1.out.size)
        clear hbg HCS
        by_cases hz : 0 < Z
        · have hz2 : (LM : Int) ≤ m := by simpa [hz] using hZ
          go_wp2
          go_ret
          exact ⟨rfl, HEND.out⟩
        · have hz2 : ¬ (LM : Int) ≤ m := by simpa [hz] using hZ
          go_wp2
          go_ret
          exact ⟨rfl, HEND.out⟩
  · go_enter Try.func6, Try.ntmps6
    go_wp2_with fail
    refine (b10Long_any _ _ xs ys _ hv0 hv1).mono ?_
    rintro e w' ⟨rfl, rfl⟩
    go_wp2_with fail
    go_ret
    exact ⟨rfl, Below.refl _ _⟩
end Go.Proofs.Ytmhepomjbaendaa
