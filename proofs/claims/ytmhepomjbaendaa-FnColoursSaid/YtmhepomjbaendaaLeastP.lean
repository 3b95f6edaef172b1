
/- The first colouring, the fewest colours: plain law. Colours that nobody has yet are alike. Conditions: none. -/
import Derived.Test.YtmhepomjbaendaaColGen
namespace Go.Proofs.Ytmhepomjbaendaa
open Go.RowKit
set_option linter.unusedVariables false
set_option linter.unusedSimpArgs false

/-- The first way to go on from cs. -/
def firC (xs : List Int) (most : Nat) : Nat → List Int → Option (List Int)
  | 0, cs => some cs
  | d + 1, cs => (List.range most).foldl (fun a c => if a.isSome then a else if frC xs cs cs.length c then firC xs most d (cs ++ [(c : Int)]) else none) none
def firTo (xs : List Int) (most d : Nat) (cs : List Int) (m : Nat) : Option (List Int) := (List.range m).foldl (fun a c => if a.isSome then a else if frC xs cs cs.length c then firC xs most d (cs ++ [(c : Int)]) else none) none
theorem firTo_succ (xs : List Int) (most d : Nat) (cs : List Int) (m : Nat) : firTo xs most d cs (m + 1) = if (firTo xs most d cs m).isSome then firTo xs most d cs m else if frC xs cs cs.length m then firC xs most d (cs ++ [(m : Int)]) else none := by
  unfold firTo; rw [List.range_succ, List.foldl_append]; rfl
theorem firTo_stop {xs : List Int} {most d : Nat} {cs L : List Int} {m : Nat} (h : firTo xs most d cs m = some L) : ∀ k, firTo xs most d cs (m + k) = some L := by
  intro k
  induction k with
  | zero => exact h
  | succ k ih => rw [← Nat.add_assoc, firTo_succ, ih]; rfl
theorem firC_some {xs : List Int} {most d : Nat} {cs L : List Int} {m : Nat} (hm : m ≤ most) (h : firTo xs most d cs m = some L) : firC xs most (d + 1) cs = some L := by
  have := firTo_stop h (most - m)
  rwa [show m + (most - m) = most by omega] at this
theorem firTo_none {xs : List Int} {most d : Nat} {cs : List Int} : ∀ {m : Nat}, firTo xs most d cs m = none ↔ ∀ c, c < m → frC xs cs cs.length c = true → firC xs most d (cs ++ [(c : Int)]) = none := by
  intro m
  induction m with
  | zero => exact ⟨fun _ c h => by omega, fun _ => rfl⟩
  | succ m ih =>
    rw [firTo_succ]
    constructor
    · intro h c hc hf
      cases hq : firTo xs most d cs m with
      | some L => rw [hq] at h; simp at h
      | none =>
        rw [hq] at h
        rcases Nat.lt_succ_iff_lt_or_eq.1 hc with h1 | rfl
        · exact ih.1 hq c h1 hf
        · simpa [hf] using h
    · intro h
      have hq := ih.2 (fun c hc hf => h c (by omega) hf)
      rw [hq]
      cases hf : frC xs cs cs.length m
      · simp
      · simpa using h m (by omega) hf
theorem firC_none {xs : List Int} {most d : Nat} {cs : List Int} : firC xs most (d + 1) cs = none ↔ ∀ c, c < most → frC xs cs cs.length c = true → firC xs most d (cs ++ [(c : Int)]) = none := firTo_none

theorem any_range_congr {n : Nat} {f g : Nat → Bool} (h : ∀ k, k < n → f k = g k) : (List.range n).any f = (List.range n).any g := by
  rw [Bool.eq_iff_iff]
  simp only [List.any_eq_true, List.mem_range]
  exact ⟨fun ⟨k, hk, e⟩ => ⟨k, hk, by rw [← h k hk]; exact e⟩, fun ⟨k, hk, e⟩ => ⟨k, hk, by rw [h k hk]; exact e⟩⟩
theorem frC_map (xs : List Int) (σ : Int → Int) (hinj : ∀ x y, σ x = σ y → x = y) (cs : List Int) (c c' : Nat) (h : σ c = c') : frC xs (cs.map σ) (cs.map σ).length c' = frC xs cs cs.length c := by
  unfold frC tkTo
  congr 1
  rw [List.length_map]
  refine any_range_congr ?_
  intro k hk
  rw [← h, nth_eq (by simpa using hk), nth_eq hk, List.getElem_map]
  congr 1
  rw [Bool.eq_iff_iff, beq_iff_eq, beq_iff_eq]
  exact ⟨fun e => hinj _ _ e, fun e => by rw [e]⟩
theorem firC_swap {xs : List Int} {most : Nat} (σ : Int → Int) (hinv : ∀ x, σ (σ x) = x) (hran : ∀ c : Nat, c < most → ∃ c' : Nat, c' < most ∧ σ c = c') : ∀ (d : Nat) (cs : List Int), firC xs most d cs = none → firC xs most d (cs.map σ) = none := by
  have hinj : ∀ x y, σ x = σ y → x = y := fun x y h => by rw [← hinv x, h, hinv]
  intro d
  induction d with
  | zero => intro cs h; cases h
  | succ d ih =>
    intro cs h
    rw [firC_none] at h ⊢
    intro c hc hf
    obtain ⟨c', hc', e⟩ := hran c hc
    have e2 : σ c' = c := by rw [← e, hinv]
    rw [frC_map xs σ hinj cs c' c e2] at hf
    have := ih _ (h c' hc' hf)
    rwa [List.map_append, List.map_cons, List.map_nil, e2] at this
/-- Where a colour that nobody has fails, so do all greater ones that nobody has. -/
theorem firC_new {xs : List Int} {most d : Nat} {cs : List Int} {m c : Nat} (hm : m < most) (hc : c < most) (h1 : (m : Int) ∉ cs) (h2 : (c : Int) ∉ cs) (h : firC xs most d (cs ++ [(m : Int)]) = none) : firC xs most d (cs ++ [(c : Int)]) = none := by
  have := firC_swap (xs := xs) (most := most) (fun x => if x = m then c else if x = c then m else x) (fun x => by
    by_cases e1 : x = m
    · subst e1
      by_cases e2 : (c : Int) = m
      · simp [e2]
      · simp [e2]
    · by_cases e2 : x = c
      · subst e2; simp [e1]
      · simp [e1, e2]) (fun y hy => by
    by_cases e1 : (y : Int) = m
    · exact ⟨c, hc, by simp [e1]⟩
    · by_cases e2 : (y : Int) = c
      · exact ⟨m, hm, by simp only [e1, if_false, e2, if_true]; rw [← e2, if_neg e1]⟩
      · exact ⟨y, hy, by simp [e1, e2]⟩) d _ h
  have hcs : cs.map (fun x => if x = (m : Int) then (c : Int) else if x = c then m else x) = cs := by
    conv => rhs; rw [← List.map_id cs]
    apply List.map_congr_left
    intro x hx
    have e1 : x ≠ m := fun e => h1 (e ▸ hx)
    have e2 : x ≠ c := fun e => h2 (e ▸ hx)
    simp [e1, e2]
  rw [List.map_append, hcs] at this
  simpa using this
/-- Colours are taken up one after another. -/
structure Seg (cs : List Int) : Prop where
  pos : ∀ x ∈ cs, 0 ≤ x
  down : ∀ x ∈ cs, ∀ y : Int, 0 ≤ y → y < x → y ∈ cs
theorem Seg.nil : Seg [] := ⟨fun x h => by simp at h, fun x h => by simp at h⟩
theorem Seg.snoc {cs : List Int} (h : Seg cs) {m : Nat} (hm : ∀ c : Nat, c < m → (c : Int) ∈ cs) : Seg (cs ++ [(m : Int)]) := by
  constructor
  · intro x hx
    rcases List.mem_append.1 hx with hx | hx
    · exact h.pos x hx
    · simp at hx; omega
  · intro x hx y h0 hy
    rcases List.mem_append.1 hx with hx | hx
    · exact List.mem_append_left _ (h.down x hx y h0 hy)
    · have : x = m := by simpa using hx
      obtain ⟨q, rfl⟩ : ∃ q : Nat, y = q := ⟨y.toNat, by omega⟩
      exact List.mem_append_left _ (hm q (by omega))
theorem firC_cut {xs : List Int} {most d : Nat} {cs : List Int} {m : Nat} (hs : Seg cs) (hm : m < most) (h1 : (m : Int) ∉ cs) (h : firTo xs most d cs (m + 1) = none) (hf : frC xs cs cs.length m = true) : firC xs most (d + 1) cs = none := by
  rw [firC_none]
  rw [firTo_none] at h
  intro c hc hfc
  by_cases hcm : c < m + 1
  · exact h c hcm hfc
  · refine firC_new hm hc h1 (fun hin => h1 (hs.down _ hin _ (by omega) (by omega))) (h m (by omega) hf)
/-- A colour that is not free is somebody's. -/
theorem frC_mem {xs cs : List Int} {m : Nat} (h : frC xs cs cs.length m = false) : (m : Int) ∈ cs := by
  unfold frC tkTo at h
  simp only [Bool.not_eq_false', List.any_eq_true, Bool.and_eq_true, beq_iff_eq, List.mem_range] at h
  obtain ⟨k, hk, h1, _⟩ := h
  rw [← h1, nth_eq hk]
  exact List.getElem_mem _
theorem firC_length {xs : List Int} {most : Nat} : ∀ (d : Nat) (cs L : List Int), firC xs most d cs = some L → L.length = cs.length + d := by
  intro d
  induction d with
  | zero => intro cs L h; cases h; rfl
  | succ d ih =>
    intro cs L h
    have key : ∀ m, firTo xs most d cs m = some L → L.length = cs.length + (d + 1) := by
      intro m
      induction m with
      | zero => intro h; cases h
      | succ m ihm =>
        intro h
        rw [firTo_succ] at h
        split at h
        · exact ihm h
        · split at h
          · have := ih _ _ h
            simp at this; omega
          · cases h
    exact key most h
theorem firC_full (xs : List Int) (t : Nat) : ∀ (d i : Nat), i + d = t → firC xs t d ((List.range i).map (fun (x : Nat) => (x : Int))) ≠ none := by
  intro d
  induction d with
  | zero => intro i _ h; cases h
  | succ d ih =>
    intro i hi h
    rw [firC_none] at h
    have hnot : ((i : Nat) : Int) ∉ (List.range i).map (fun (x : Nat) => (x : Int)) := by simp; omega
    have hf : frC xs ((List.range i).map (fun (x : Nat) => (x : Int))) ((List.range i).map (fun (x : Nat) => (x : Int))).length i = true := by
      cases hf : frC xs ((List.range i).map (fun (x : Nat) => (x : Int))) ((List.range i).map (fun (x : Nat) => (x : Int))).length i
      · exact absurd (frC_mem hf) hnot
      · rfl
    have := h i (by omega) hf
    apply ih (i + 1) (by omega)
    rw [List.range_succ, List.map_append]
    exact this

/-! What the program's colourings do, stopped at the first. -/
def lstStep (s : Option (List Int)) (cs : List Int) : Option (List Int) × Bool := (some cs, false)
theorem runCol_fir (xs : List Int) (most : Nat) : ∀ (d : Nat) (cs : List Int), runCol xs most lstStep d cs none = (firC xs most d cs, !(firC xs most d cs).isSome) := by
  intro d
  induction d with
  | zero => intro cs; rfl
  | succ d ih =>
    intro cs
    have key : ∀ m, runTo xs most lstStep d cs none m = (firTo xs most d cs m, !(firTo xs most d cs m).isSome) := by
      intro m
      induction m with
      | zero => rfl
      | succ m ihm =>
        rw [runTo_succ, ihm, firTo_succ]
        cases hq : firTo xs most d cs m with
        | some L => simp
        | none =>
          cases hf : frC xs cs cs.length m
          · simp
          · simpa using ih _
    exact key most

/-! The fewest colours. -/
def lstM (xs : List Int) (t : Nat) : Nat := ((List.range (t + 1)).find? fun q => decide (1 ≤ q) && (firC xs q t []).isSome).getD 0
def lstL (xs : List Int) (t : Nat) : List Int := (firC xs (lstM xs t) t []).getD []
theorem lstM_at {xs : List Int} {t q : Nat} {L : List Int} (h1 : 1 ≤ q) (h2 : q ≤ t) (hq : firC xs q t [] = some L) (hno : ∀ p, 1 ≤ p → p < q → firC xs p t [] = none) : lstM xs t = q := by
  unfold lstM
  have : (List.range (t + 1)).find? (fun q => decide (1 ≤ q) && (firC xs q t []).isSome) = some q := by
    rw [List.find?_range_eq_some]
    refine ⟨by simp [h1, hq], by simp; omega, fun j hj => ?_⟩
    by_cases hj1 : 1 ≤ j
    · simp [hno j hj1 hj]
    · simp [hj1]
  rw [this]; rfl
theorem lstL_at {xs : List Int} {t q : Nat} {L : List Int} (h1 : 1 ≤ q) (h2 : q ≤ t) (hq : firC xs q t [] = some L) (hno : ∀ p, 1 ≤ p → p < q → firC xs p t [] = none) : lstL xs t = L := by
  unfold lstL; rw [lstM_at h1 h2 hq hno, hq]; rfl
theorem lst_end {xs : List Int} {t q : Nat} (hno : ∀ p, 1 ≤ p → p < q → firC xs p t [] = none) (h1 : 1 ≤ t) : q ≤ t := by
  by_cases h : q ≤ t
  · exact h
  · exact absurd (hno t h1 (by omega)) (firC_full xs t t 0 (by omega))
end Go.Proofs.Ytmhepomjbaendaa
