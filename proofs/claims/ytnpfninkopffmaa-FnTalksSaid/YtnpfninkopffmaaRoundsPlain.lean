
/- Rounds as plain lists: when games are rounds (each team once a round, no pair twice). No program in sight. Conditions: none. -/
import Derived.Test.YtnpfninkopffmaaIsAll
import Derived.Test.YtnpfninkopffmaaMapP
import Derived.Test.YtnpfninkopffmaaCircle
namespace Go.Proofs.Ytnpfninkopffmaa
open Go.RowKit
set_option linter.unusedVariables false
set_option linter.unusedSimpArgs false

def pairAt (xs : List Int) (j : Nat) : Int × Int := (nth xs (2 * j), nth xs (2 * j + 1))
/-- The pairs of round r, h a round. -/
def rp (xs : List Int) (h r : Nat) : List (Int × Int) := (List.range h).map fun j => pairAt xs (r * h + j)
def prs (xs : List Int) (h : Nat) (l : List Nat) : List (Int × Int) := l.flatMap (rp xs h)
def roundL (xs : List Int) (t r : Nat) : List Int := (xs.drop (r * t)).take t
def roundsHead (n : Int) (xs : List Int) : Bool := teamsOk n && ((xs.length : Int) % n == 0) && win ((xs.length : Int) / n) 1 (2 * n - 2)
def roundsOk (n : Int) (xs : List Int) : Bool := roundsHead n xs && ((List.range (xs.length / n.toNat)).all fun r => isAllB (roundL xs n.toNat r)) && decide ((prs xs (n.toNat / 2) (List.range (xs.length / n.toNat))).Nodup)

theorem prs_snoc (xs : List Int) (h : Nat) (l : List Nat) (r : Nat) : prs xs h (l ++ [r]) = prs xs h l ++ rp xs h r := by simp [prs]
theorem prs_prefix (xs : List Int) (h : Nat) {l l' : List Nat} (hp : l <+: l') : prs xs h l <+: prs xs h l' := by
  obtain ⟨d, rfl⟩ := hp
  exact ⟨prs xs h d, by simp [prs]⟩
theorem nodup_prefix {α : Type} {l l' : List α} (hp : l <+: l') (h : l'.Nodup) : l.Nodup := hp.sublist.nodup h
theorem prs_range (xs : List Int) (h R : Nat) : prs xs h (List.range R) = (List.range (R * h)).map (pairAt xs) := by
  induction R with
  | zero => simp [prs]
  | succ R ih => rw [List.range_succ, prs_snoc, ih, Nat.add_mul, Nat.one_mul, List.range_add, List.map_append]; simp [rp, Function.comp_def]
theorem nodup_pairs (xs : List Int) (M : Nat) : ((List.range M).map (pairAt xs)).Nodup ↔ ∀ i, i < M → ∀ k, k < i → pairAt xs i ≠ pairAt xs k := by
  rw [List.Nodup, List.pairwise_map, List.pairwise_iff_getElem]
  constructor
  · intro h i hi k hk e
    have := h k i (by simp; omega) (by simpa using hi) hk
    simp at this
    exact this e.symm
  · intro h i j hi hj hij e
    simp at hi hj e
    exact h j hj i hij e.symm

theorem hasP_iff (ps : List (Int × Int)) (a b : Int) : hasP ps a b = true ↔ (a, b) ∈ ps := by
  unfold hasP
  rw [List.any_eq_true]
  constructor
  · rintro ⟨⟨c, d⟩, hm, h⟩
    simp at h
    obtain ⟨rfl, rfl⟩ := h
    exact hm
  · intro h; exact ⟨(a, b), h, by simp⟩
theorem nodup_snoc {ps : List (Int × Int)} {a b : Int} : (ps ++ [(a, b)]).Nodup ↔ ps.Nodup ∧ hasP ps a b = false := by
  rw [List.nodup_append]
  constructor
  · rintro ⟨h1, _, h3⟩
    refine ⟨h1, ?_⟩
    cases h : hasP ps a b
    · rfl
    · exact absurd rfl (h3 _ ((hasP_iff ps a b).1 h) (a, b) (by simp))
  · rintro ⟨h1, h2⟩
    refine ⟨h1, by simp, ?_⟩
    intro x hx y hy e
    obtain rfl : y = (a, b) := by simpa using hy
    subst e
    rw [(hasP_iff ps _ _).2 hx] at h2
    cases h2

theorem roundL_length {xs : List Int} {t r R : Nat} (hl : xs.length = R * t) (hr : r < R) : (roundL xs t r).length = t := by
  have : r * t + t ≤ R * t := by have := Nat.mul_le_mul_right t (show r + 1 ≤ R from hr); rwa [Nat.add_mul, Nat.one_mul] at this
  simp [roundL]; omega
theorem roundL_nth {xs : List Int} {t r i : Nat} (hi : i < t) : nth (roundL xs t r) i = nth xs (r * t + i) := by
  simp [nth, roundL, List.getD_eq_getElem?_getD, List.getElem?_take, hi]

/-- Each number of a list is in the range, and not among those of its round before it. -/
theorem isAll_round {xs : List Int} {t r R : Nat} (hl : xs.length = R * t) (hr : r < R) :
    isAllB (roundL xs t r) = true ↔ ∀ i, i < t → win (nth xs (r * t + i)) 0 ((t : Int) - 1) = true ∧ ∀ k, k < i → nth xs (r * t + k) ≠ nth xs (r * t + i) := by
  have hlen := roundL_length hl hr
  unfold isAllB
  rw [List.all_eq_true, hlen]
  constructor
  · intro h i hi
    have := h i (by simpa using hi)
    rw [Bool.and_eq_true, roundL_nth hi] at this
    refine ⟨this.1, fun k hk e => ?_⟩
    have h2 := this.2
    rw [Bool.not_eq_true', List.any_eq_false] at h2
    have hmem : nth (roundL xs t r) k ∈ (roundL xs t r).take i := by
      rw [nth_eq (by omega)]
      have : (roundL xs t r)[k]'(by omega) = ((roundL xs t r).take i)[k]'(by simp; omega) := by simp
      rw [this]; exact List.getElem_mem _
    have := h2 _ hmem
    rw [roundL_nth (by omega)] at this
    simp [e] at this
  · intro h i hi
    have hi' : i < t := by simpa using hi
    obtain ⟨h1, h2⟩ := h i hi'
    rw [Bool.and_eq_true, roundL_nth hi']
    refine ⟨h1, ?_⟩
    rw [Bool.not_eq_true', List.any_eq_false]
    intro x hx
    obtain ⟨k, hk, rfl⟩ := List.getElem_of_mem hx
    simp at hk
    have e1 : ((roundL xs t r).take i)[k] = nth xs (r * t + k) := by
      rw [← roundL_nth (by omega), nth_eq (by omega)]; simp
    rw [e1]
    simpa using h2 k (by omega)

/-- The same, number by number over the whole list. -/
theorem allRounds_iff {xs : List Int} {t R : Nat} (ht : 0 < t) (hl : xs.length = R * t) :
    ((List.range R).all fun r => isAllB (roundL xs t r)) = true ↔ ∀ i, i < xs.length → win (nth xs i) 0 ((t : Int) - 1) = true ∧ ∀ k, i / t * t ≤ k → k < i → nth xs k ≠ nth xs i := by
  rw [List.all_eq_true]
  constructor
  · intro h i hi
    have hr : i / t < R := by rw [Nat.div_lt_iff_lt_mul ht]; omega
    have := (isAll_round hl hr).1 (h _ (by simpa using hr)) (i % t) (Nat.mod_lt _ ht)
    have e : i / t * t + i % t = i := by rw [Nat.mul_comm]; exact Nat.div_add_mod i t
    rw [e] at this
    refine ⟨this.1, fun k hk1 hk2 => ?_⟩
    have := this.2 (k - i / t * t) (by omega)
    rwa [show i / t * t + (k - i / t * t) = k by omega] at this
  · intro h r hr
    have hr' : r < R := by simpa using hr
    rw [isAll_round hl hr']
    intro i hi
    have hb : r * t + t ≤ R * t := by have := Nat.mul_le_mul_right t (show r + 1 ≤ R from hr'); rwa [Nat.add_mul, Nat.one_mul] at this
    have hd : (r * t + i) / t = r := by rw [Nat.mul_comm, Nat.mul_add_div ht, Nat.div_eq_of_lt hi]; rfl
    obtain ⟨h1, h2⟩ := h (r * t + i) (by omega)
    rw [hd] at h2
    exact ⟨h1, fun k hk => h2 _ (by omega) (by omega)⟩

theorem roundsHead_bounds {n : Int} {xs : List Int} (h : roundsHead n xs = true) : ∃ t R : Nat, n = t ∧ 2 ≤ t ∧ t ≤ 16 ∧ t % 2 = 0 ∧ xs.length = R * t ∧ 1 ≤ R ∧ R ≤ 30 ∧ xs.length / t = R ∧ (R : Int) ≤ 2 * t - 2 := by
  simp only [roundsHead, Bool.and_eq_true, beq_iff_eq] at h
  obtain ⟨⟨h1, h2⟩, h3⟩ := h
  obtain ⟨t, rfl, h4, h5, h6⟩ := teamsOk_bounds h1
  have h7 := win_true.1 h3
  have hdvd : t ∣ xs.length := by
    have := Int.dvd_of_emod_eq_zero h2
    exact Int.natCast_dvd_natCast.1 this
  obtain ⟨R, hR⟩ := hdvd
  have hdiv : xs.length / t = R := by rw [hR]; exact Nat.mul_div_cancel_left _ (by omega)
  have hdi : ((xs.length : Int) / (t : Int)) = R := by rw [← Int.natCast_ediv, hdiv]
  rw [hdi] at h7
  refine ⟨t, R, rfl, h4, h5, h6, by rw [hR, Nat.mul_comm], by omega, by omega, hdiv, by omega⟩
end Go.Proofs.Ytnpfninkopffmaa
