
/- The most talks: taking by the least end is taking in the order of the ends. Conditions: none. -/
import Derived.Test.YtnpfninkopffmaaSortBy
import Derived.Test.YtnpfninkopffmaaMeet
namespace Go.Proofs.Ytnpfninkopffmaa
open Go.RowKit
set_option linter.unusedVariables false
set_option linter.unusedSimpArgs false

/-- The first of those that are free, with the least key; -1 if there is none. -/
def pickK (f : Nat → Bool) (key : Int → Int) : Nat → Int
  | 0 => -1
  | i + 1 => if f i = true ∧ (pickK f key i < 0 ∨ key i < key (pickK f key i)) then (i : Int) else pickK f key i
theorem pickK_spec (f : Nat → Bool) (key : Int → Int) : ∀ n, (pickK f key n = -1 ∧ ∀ i, i < n → f i = false) ∨ (0 ≤ pickK f key n ∧ pickK f key n < n ∧ f (pickK f key n).toNat = true ∧ ∀ i : Nat, i < n → f i = true → (i : Int) = pickK f key n ∨ lexLt key (pickK f key n) i)
  | 0 => .inl ⟨rfl, fun i h => absurd h (Nat.not_lt_zero _)⟩
  | n + 1 => by
    have ih := pickK_spec f key n
    unfold pickK
    by_cases hf : f n = true
    · rcases ih with ⟨h1, h2⟩ | ⟨h1, h2, h3, h4⟩
      · rw [if_pos ⟨hf, .inl (by omega)⟩]
        refine .inr ⟨by omega, by omega, by simpa using hf, fun i hi h => ?_⟩
        by_cases e : i = n
        · exact .inl (by rw [e])
        · rw [h2 i (by omega)] at h; cases h
      · by_cases hk : key n < key (pickK f key n)
        · rw [if_pos ⟨hf, .inr hk⟩]
          refine .inr ⟨by omega, by omega, by simpa using hf, fun i hi h => ?_⟩
          by_cases e : i = n
          · exact .inl (by rw [e])
          · right; left
            rcases h4 i (by omega) h with h5 | h5 | h5
            · rw [h5]; exact hk
            · omega
            · omega
        · rw [if_neg (fun h => by rcases h.2 with h | h; omega; exact hk h)]
          refine .inr ⟨h1, by omega, h3, fun i hi h => ?_⟩
          by_cases e : i = n
          · subst e
            right
            by_cases e2 : key (pickK f key i) = key i
            · exact .inr ⟨e2, by omega⟩
            · exact .inl (by omega)
          · exact h4 i (by omega) h
    · rw [if_neg (fun h => hf h.1)]
      have hf' : f n = false := by simpa using hf
      rcases ih with ⟨h1, h2⟩ | ⟨h1, h2, h3, h4⟩
      · refine .inl ⟨h1, fun i hi => ?_⟩
        by_cases e : i = n
        · rw [e]; exact hf'
        · exact h2 i (by omega)
      · refine .inr ⟨h1, by omega, h3, fun i hi h => ?_⟩
        by_cases e : i = n
        · rw [e, hf'] at h; cases h
        · exact h4 i (by omega) h

/-- Where a talk ends, where it begins. -/
def endOf (xs : List Int) (i : Int) : Int := nth xs (2 * i.toNat + 1)
def begOf (xs : List Int) (i : Int) : Int := nth xs (2 * i.toNat)
/-- Does i meet one of out? -/
def meetsB (xs : List Int) (out : List Int) (i : Int) : Bool := out.any fun k => meetB xs i.toNat k.toNat
def heardStep (xs : List Int) (out : List Int) (i : Int) : List Int := if meetsB xs out i then out else out ++ [i]
/-- Is i not in out, and meets none of it? -/
def freeS (xs : List Int) (out : List Int) (i : Nat) : Bool := out.all fun k => !(decide ((i : Int) = k) || meetB xs i k.toNat)
def heardN (xs : List Int) (n : Nat) : Nat → List Int → List Int
  | 0, out => out
  | k + 1, out => if pickK (freeS xs out) (endOf xs) n < 0 then out else heardN xs n k (out ++ [pickK (freeS xs out) (endOf xs) n])
def cntF (xs : List Int) (n : Nat) (out : List Int) : Nat := ((List.range n).filter (freeS xs out)).length

theorem filter_less {α : Type} {p q : α → Bool} : ∀ {l : List α}, (∀ x ∈ l, p x = true → q x = true) → (l.filter p).length ≤ (l.filter q).length
  | [], _ => Nat.le_refl _
  | a :: l, h => by
    have ih := filter_less (l := l) fun x hx => h x (List.mem_cons_of_mem _ hx)
    have ha := h a (List.mem_cons_self ..)
    rw [List.filter_cons, List.filter_cons]
    split
    · rename_i h1; rw [if_pos (ha h1)]; simp; exact ih
    · split
      · simp; omega
      · exact ih
theorem filter_lt {α : Type} {p q : α → Bool} {b : α} : ∀ {l : List α}, (∀ x ∈ l, p x = true → q x = true) → b ∈ l → q b = true → p b = false → (l.filter p).length < (l.filter q).length
  | [], _, hb, _, _ => by cases hb
  | a :: l, h, hb, hq, hp => by
    have h' : ∀ x ∈ l, p x = true → q x = true := fun x hx => h x (List.mem_cons_of_mem _ hx)
    rw [List.filter_cons, List.filter_cons]
    rcases List.mem_cons.1 hb with e | hb
    · subst e
      rw [if_neg (by rw [hp]; exact Bool.false_ne_true), if_pos hq]
      have := filter_less h'
      simp; omega
    · have ih := filter_lt h' hb hq hp
      have ha := h a (List.mem_cons_self ..)
      split
      · rename_i h1; rw [if_pos (ha h1)]; simp; exact ih
      · split
        · simp; omega
        · exact ih

theorem freeS_snoc (xs out : List Int) (b : Int) (i : Nat) : freeS xs (out ++ [b]) i = (freeS xs out i && !(decide ((i : Int) = b) || meetB xs i b.toNat)) := by
  unfold freeS; rw [List.all_append]; simp
theorem cntF_less {xs out : List Int} {n : Nat} {b : Int} (h0 : 0 ≤ b) (hn : b < n) (hf : freeS xs out b.toNat = true) : cntF xs n (out ++ [b]) + 1 ≤ cntF xs n out := by
  unfold cntF
  have := filter_lt (p := freeS xs (out ++ [b])) (q := freeS xs out) (b := b.toNat) (l := List.range n) (fun x _ hx => by
    rw [freeS_snoc, Bool.and_eq_true] at hx; exact hx.1) (List.mem_range.2 (by omega)) hf (by
    rw [freeS_snoc]; simp; intro _ h; omega)
  omega
theorem cntF_zero {xs out : List Int} {n : Nat} (h : cntF xs n out = 0) : ∀ i, i < n → freeS xs out i = false := fun i hi => by
  cases hf : freeS xs out i
  · rfl
  · have : i ∈ (List.range n).filter (freeS xs out) := List.mem_filter.2 ⟨List.mem_range.2 hi, hf⟩
    rw [List.length_eq_zero_iff.1 h] at this
    cases this
theorem pick_none {xs out : List Int} {n : Nat} (h : ∀ i, i < n → freeS xs out i = false) : pickK (freeS xs out) (endOf xs) n < 0 := by
  rcases pickK_spec (freeS xs out) (endOf xs) n with ⟨h1, _⟩ | ⟨h1, h2, h3, _⟩
  · omega
  · rw [h _ (by omega)] at h3; cases h3
theorem heardN_stop {xs out : List Int} {n : Nat} (k : Nat) (h : pickK (freeS xs out) (endOf xs) n < 0) : heardN xs n k out = out := by
  cases k with
  | zero => rfl
  | succ k => unfold heardN; rw [if_pos h]
theorem free_iff {xs out : List Int} {n : Nat} (hself : ∀ i, i < n → meetB xs i i = true) {x : Int} (h0 : 0 ≤ x) (hn : x < n) : freeS xs out x.toNat = !meetsB xs out x := by
  unfold freeS meetsB
  rw [List.all_eq_not_any_not]
  congr 2
  funext k
  rw [Bool.not_not]
  by_cases e : ((x.toNat : Nat) : Int) = k
  · rw [← e, Int.toNat_natCast, hself x.toNat (by omega), Bool.or_true]
  · rw [decide_eq_false e, Bool.false_or]

theorem sorts_after {key : Int → Int} {n : Nat} {E pre suf : List Int} {x y : Int} (h : SortsBy key n E) (he : E = pre ++ x :: suf) (hy : y ∈ suf) : lexLt key x y := by
  obtain ⟨j, hj, rfl⟩ := List.getElem_of_mem hy
  have hl : E.length = n := by rw [h.1.length_eq, idL_length]
  have hlen : pre.length + 1 + j < n := by rw [← hl, he]; simp; omega
  have e1 : nth E pre.length = x := by rw [nth_eq (by omega)]; subst he; simp
  have e2 : nth E (pre.length + 1 + j) = suf[j] := by
    rw [nth_eq (by omega)]; subst he
    rw [List.getElem_append_right (by omega)]
    simp only [show pre.length + 1 + j - pre.length = j + 1 by omega, List.getElem_cons_succ]
  have := h.2 pre.length (pre.length + 1 + j) (Nat.zero_le _) (by omega) hlen
  rwa [e1, e2] at this

theorem heard_fold {xs : List Int} {n : Nat} {E : List Int} (hE : SortsBy (endOf xs) n E) (hself : ∀ i, i < n → meetB xs i i = true) :
    ∀ (suf pre out : List Int) (k : Nat), E = pre ++ suf → (∀ x ∈ pre, freeS xs out x.toNat = false) → cntF xs n out ≤ k → suf.foldl (heardStep xs) out = heardN xs n k out := by
  have hmem : ∀ x, x ∈ E ↔ 0 ≤ x ∧ x < (n : Int) := fun x => by rw [hE.1.mem_iff, idL_mem]
  intro suf
  induction suf with
  | nil =>
    intro pre out k he hp _
    rw [List.append_nil] at he
    rw [heardN_stop k (pick_none fun i hi => ?_)]
    · rfl
    · have := hp (i : Int) (by rw [← he]; exact (hmem _).2 ⟨by omega, by omega⟩)
      simpa using this
  | cons x suf ih =>
    intro pre out k he hp hk
    have hx := (hmem x).1 (by rw [he]; simp)
    have hf := free_iff (out := out) hself hx.1 hx.2
    rw [List.foldl_cons]
    cases hm : meetsB xs out x
    · rw [hm] at hf
      have hpick : pickK (freeS xs out) (endOf xs) n = x := by
        rcases pickK_spec (freeS xs out) (endOf xs) n with ⟨_, h2⟩ | ⟨h1, h2, h3, h4⟩
        · rw [h2 _ (by omega)] at hf; cases hf
        · obtain ⟨b, hb⟩ : ∃ b, pickK (freeS xs out) (endOf xs) n = b := ⟨_, rfl⟩
          rw [hb] at h1 h2 h3 h4 ⊢
          have h5 := h4 x.toNat (by omega) hf
          rw [show ((x.toNat : Nat) : Int) = x by omega] at h5
          rcases h5 with h5 | h5
          · exact h5.symm
          · exfalso
            have hbE := (hmem b).2 ⟨h1, h2⟩
            rw [he] at hbE
            rcases List.mem_append.1 hbE with hb1 | hb1
            · rw [hp b hb1] at h3; cases h3
            · rcases List.mem_cons.1 hb1 with hb1 | hb1
              · subst hb1; unfold lexLt at h5; omega
              · have h6 := sorts_after hE he hb1
                unfold lexLt at h5 h6; omega
      have hc := cntF_less hx.1 hx.2 hf
      obtain ⟨k, rfl⟩ : ∃ k', k = k' + 1 := ⟨k - 1, by omega⟩
      unfold heardN
      rw [hpick, if_neg (by omega), ← ih (pre ++ [x]) (out ++ [x]) k (by rw [he]; simp) (fun y hy => ?_) (by omega)]
      · unfold heardStep; rw [hm]; rfl
      · rw [freeS_snoc]
        rcases List.mem_append.1 hy with hy | hy
        · rw [hp y hy]; rfl
        · obtain rfl : y = x := by simpa using hy
          rw [show ((y.toNat : Nat) : Int) = y by omega]; simp
    · rw [hm] at hf
      rw [show heardStep xs out x = out by unfold heardStep; rw [hm]; rfl]
      exact ih (pre ++ [x]) out k (by rw [he]; simp) (fun y hy => by
        rcases List.mem_append.1 hy with hy | hy
        · exact hp y hy
        · obtain rfl : y = x := by simpa using hy
          exact hf) hk
/-- The most talks. -/
def heardL (xs : List Int) : List Int := heardN xs (xs.length / 2) (xs.length / 2) []
theorem cntF_nil (xs : List Int) (n : Nat) : cntF xs n [] ≤ n := by
  unfold cntF
  have := List.length_filter_le (freeS xs []) (List.range n)
  simpa using this
theorem heardL_fold {xs E : List Int} (hE : SortsBy (endOf xs) (xs.length / 2) E) (hself : ∀ i, i < xs.length / 2 → meetB xs i i = true) : E.foldl (heardStep xs) [] = heardL xs :=
  heard_fold hE hself E [] [] _ rfl (fun x hx => by cases hx) (cntF_nil _ _)
theorem meet_self {xs : List Int} (h : talksOk xs = true) : ∀ i, i < xs.length / 2 → meetB xs i i = true := fun i hi => by
  simp only [talksOk, Bool.and_eq_true, List.all_eq_true, decide_eq_true_eq] at h
  have := h.2 i (List.mem_range.2 hi)
  simp [meetB, this]
theorem heardN_len (xs : List Int) (n : Nat) : ∀ k out, (heardN xs n k out).length ≤ out.length + k
  | 0, out => Nat.le_refl _
  | k + 1, out => by
    unfold heardN
    split
    · omega
    · have := heardN_len xs n k (out ++ [pickK (freeS xs out) (endOf xs) n])
      simp at this; omega
/-- What MostTalks returns. -/
def mostR (xs : List Int) : List Int := if talksOk xs then heardL xs else []
theorem mostR_small (xs : List Int) : (mostR xs).length ≤ 32 := by
  unfold mostR
  split
  · rename_i h
    simp only [talksOk, talksHead, Bool.and_eq_true] at h
    have := many_true.1 h.1.1
    have := heardN_len xs (xs.length / 2) (xs.length / 2) []
    unfold heardL
    simp at this; omega
  · exact Nat.zero_le _
end Go.Proofs.Ytnpfninkopffmaa
