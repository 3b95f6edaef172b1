
/- WorthTalks as a plain function on sets of bits. Conditions: none. -/
import Derived.Test.YtnpfninkopffmaaMeet
import Derived.Lib.BitFns
import Derived.Lib.ItoaNum
import Derived.Laws.BitsLemmas
namespace Go.Proofs.Ytnpfninkopffmaa
open Go.RowKit
set_option linter.unusedVariables false
set_option linter.unusedSimpArgs false

def clashIn (xs : List Int) (s i m : Nat) : Bool := (List.range m).any fun k => s.testBit k && meetB xs i k
theorem clashIn_succ (xs : List Int) (s i m : Nat) : clashIn xs s i (m + 1) = (clashIn xs s i m || (s.testBit m && meetB xs i m)) := by
  unfold clashIn; rw [List.range_succ, List.any_append]; simp
/-- The worth of the talks below i of a set; none if two of them meet. -/
def wPre (xs ws : List Int) (s : Nat) : Nat → Option Int
  | 0 => some 0
  | i + 1 => match wPre xs ws s i with
    | none => none
    | some q => if s.testBit i then (if clashIn xs s i i then none else some (q + nth ws i)) else some q
theorem wPre_none {xs ws : List Int} {s i : Nat} (h : wPre xs ws s i = none) (d : Nat) : wPre xs ws s (i + d) = none := by
  induction d with
  | zero => exact h
  | succ d ih => rw [← Nat.add_assoc]; show (match wPre xs ws s (i + d) with | none => none | some q => _) = none; rw [ih]
theorem wPre_skip {xs ws : List Int} {s i : Nat} {q : Int} (h : wPre xs ws s i = some q) (hb : s.testBit i = false) : wPre xs ws s (i + 1) = some q := by
  show (match wPre xs ws s i with | none => none | some q => _) = _; rw [h]; simp [hb]
theorem wPre_put {xs ws : List Int} {s i : Nat} {q : Int} (h : wPre xs ws s i = some q) (hb : s.testBit i = true) : wPre xs ws s (i + 1) = if clashIn xs s i i then none else some (q + nth ws i) := by
  show (match wPre xs ws s i with | none => none | some q => _) = _; rw [h]; simp [hb]
theorem wPre_bounds {xs ws : List Int} {s : Nat} : ∀ (i : Nat) (q : Int), (∀ k, k < i → 0 ≤ nth ws k ∧ nth ws k ≤ 1000) → wPre xs ws s i = some q → 0 ≤ q ∧ q ≤ 1000 * i := by
  intro i
  induction i with
  | zero => intro q _ h; cases h; omega
  | succ i ih =>
    intro q hw h
    cases hp : wPre xs ws s i with
    | none => rw [wPre_none hp 1] at h; cases h
    | some r =>
      have h1 := ih r (fun k hk => hw k (by omega)) hp
      have h2 := hw i (by omega)
      cases hb : s.testBit i
      · rw [wPre_skip hp hb] at h; cases h; omega
      · rw [wPre_put hp hb] at h
        split at h
        · cases h
        · cases h; omega
theorem clashIn_congr {xs : List Int} {s r i m : Nat} (h : ∀ k, k < m → s.testBit k = r.testBit k) : clashIn xs s i m = clashIn xs r i m := by
  unfold clashIn
  induction m with
  | zero => rfl
  | succ m ih => rw [List.range_succ, List.any_append, List.any_append, ih (fun k hk => h k (by omega))]; simp [h m (by omega)]
theorem wPre_congr {xs ws : List Int} {s r : Nat} : ∀ i, (∀ k, k < i → s.testBit k = r.testBit k) → wPre xs ws s i = wPre xs ws r i := by
  intro i
  induction i with
  | zero => intro _; rfl
  | succ i ih =>
    intro h
    have h1 := ih (fun k hk => h k (by omega))
    cases hp : wPre xs ws r i with
    | none => rw [wPre_none hp 1, wPre_none (h1.trans hp) 1]
    | some q =>
      cases hb : r.testBit i
      · rw [wPre_skip hp hb, wPre_skip (h1.trans hp) ((h i (by omega)).trans hb)]
      · rw [wPre_put hp hb, wPre_put (h1.trans hp) ((h i (by omega)).trans hb), clashIn_congr (r := r) (fun k hk => h k (by omega))]
theorem wPre_over {xs ws : List Int} {s l : Nat} (h : s < 2 ^ l) : ∀ d, wPre xs ws s (l + d) = wPre xs ws s l := by
  intro d
  induction d with
  | zero => rfl
  | succ d ih =>
    rw [← Nat.add_assoc]
    have hb : s.testBit (l + d) = false := Nat.testBit_lt_two_pow (Nat.lt_of_lt_of_le h (Nat.pow_le_pow_right (by decide) (by omega)))
    cases hp : wPre xs ws s (l + d) with
    | none => rw [wPre_none hp 1, ← ih, hp]
    | some q => rw [wPre_skip hp hb, ← ih, hp]
def wVal (xs ws : List Int) (n s : Nat) : Option Int := wPre xs ws s n
/-- A set out of the one without its last talk. -/
theorem wVal_last {xs ws : List Int} {n s l : Nat} (hl : l < n) (h1 : 2 ^ l ≤ s) (h2 : s < 2 ^ (l + 1)) :
    wVal xs ws n s = match wVal xs ws n (s - 2 ^ l) with | none => none | some q => if clashIn xs (s - 2 ^ l) l l then none else some (q + nth ws l) := by
  have hr : s - 2 ^ l < 2 ^ l := by rw [Nat.pow_succ] at h2; omega
  have hs : s = 2 ^ l + (s - 2 ^ l) := by omega
  have hbl : ∀ k, k < l → s.testBit k = (s - 2 ^ l).testBit k := fun k hk => by
    conv => lhs; rw [hs]
    rw [Nat.testBit_two_pow_add_gt hk]
  have hb : s.testBit l = true := by
    rw [hs, Nat.testBit_two_pow_add_eq, Nat.testBit_lt_two_pow hr]; rfl
  unfold wVal
  rw [show n = (l + 1) + (n - (l + 1)) from by omega, wPre_over h2, show (l + 1) + (n - (l + 1)) = l + (n - l) from by omega, wPre_over hr]
  have hc := wPre_congr (xs := xs) (ws := ws) l hbl
  cases hp : wPre xs ws (s - 2 ^ l) l with
  | none => rw [wPre_none (hc.trans hp) 1]
  | some q => rw [wPre_put (hc.trans hp) hb, clashIn_congr hbl]

/-- The best set of those up to m, and its worth. -/
def bestTo (xs ws : List Int) (n : Nat) : Nat → Nat × Int
  | 0 => (0, 0)
  | m + 1 => match wVal xs ws n (m + 1) with
    | some q => if (bestTo xs ws n m).2 < q then (m + 1, q) else bestTo xs ws n m
    | none => bestTo xs ws n m
theorem bestTo_none {xs ws : List Int} {n m : Nat} (h : wVal xs ws n (m + 1) = none) : bestTo xs ws n (m + 1) = bestTo xs ws n m := by
  show (match wVal xs ws n (m + 1) with | some q => _ | none => _) = _; rw [h]
theorem bestTo_some {xs ws : List Int} {n m : Nat} {q : Int} (h : wVal xs ws n (m + 1) = some q) : bestTo xs ws n (m + 1) = if (bestTo xs ws n m).2 < q then (m + 1, q) else bestTo xs ws n m := by
  show (match wVal xs ws n (m + 1) with | some q => _ | none => _) = _; rw [h]
theorem wVal_zero (xs ws : List Int) (n : Nat) : wVal xs ws n 0 = some 0 := by
  unfold wVal
  induction n with
  | zero => rfl
  | succ n ih => exact wPre_skip ih (by simp)
theorem bestTo_val (xs ws : List Int) (n : Nat) : ∀ m, wVal xs ws n (bestTo xs ws n m).1 = some (bestTo xs ws n m).2 ∧ (bestTo xs ws n m).1 ≤ m := by
  intro m
  induction m with
  | zero => exact ⟨wVal_zero xs ws n, Nat.le_refl _⟩
  | succ m ih =>
    cases h : wVal xs ws n (m + 1) with
    | none => rw [bestTo_none h]; exact ⟨ih.1, by omega⟩
    | some q =>
      rw [bestTo_some h]
      split
      · exact ⟨h, Nat.le_refl _⟩
      · exact ⟨ih.1, by omega⟩

/-- The talks of a set. -/
def talksOf (s : Nat) (m : Nat) : List Int := ((List.range m).filter fun k => s.testBit k).map fun (k : Nat) => (k : Int)
theorem talksOf_succ (s m : Nat) : talksOf s (m + 1) = talksOf s m ++ if s.testBit m then [(m : Int)] else [] := by
  unfold talksOf
  rw [List.range_succ, List.filter_append, List.map_append]
  cases h : s.testBit m <;> simp [h]
theorem talksOf_len (s m : Nat) : (talksOf s m).length ≤ m := by
  unfold talksOf
  rw [List.length_map]
  exact Nat.le_trans (List.length_filter_le _ _) (by simp)

theorem bits_andNot_last (s l : Nat) (h1 : 2 ^ l ≤ s) (h2 : s < 2 ^ (l + 1)) (hl : l < 16) : bits .andNot .i64 (s : Int) ((2 ^ l : Nat) : Int) = ((s - 2 ^ l : Nat) : Int) := by
  have hp : 2 ^ (l + 1) ≤ 2 ^ 16 := Nat.pow_le_pow_right (by decide) (by omega)
  have h16 : (2 : Nat) ^ 16 = 65536 := by decide
  have hx : s &&& (2 ^ 64 - 1 - 2 ^ l) = s - 2 ^ l := by
    have hmod : s - 2 ^ l = s % 2 ^ l := by
      rw [Nat.mod_eq_sub_mod h1, Nat.mod_eq_of_lt (by rw [Nat.pow_succ] at h2; omega)]
    rw [hmod]
    apply Nat.eq_of_testBit_eq
    intro i
    rw [Nat.testBit_and, show 2 ^ 64 - 1 - 2 ^ l = 2 ^ 64 - (2 ^ l + 1) from by omega, Nat.testBit_two_pow_sub_succ (Nat.pow_lt_pow_right (by decide) (by omega)), Nat.testBit_mod_two_pow, Nat.testBit_two_pow]
    by_cases hi : i < l
    · have h64 : i < 64 := by omega
      have hne : ¬ l = i := by omega
      simp [hi, h64, hne]
    · by_cases hi2 : i = l
      · subst hi2; simp
      · have : s.testBit i = false := Nat.testBit_lt_two_pow (Nat.lt_of_lt_of_le h2 (Nat.pow_le_pow_right (by decide) (by omega)))
        simp [this, hi]
  show IntKind.i64.wrap ((BitVec.ofInt 64 (s : Int) &&& ~~~BitVec.ofInt 64 ((2 ^ l : Nat) : Int)).toNat : Int) = _
  have e1 : (BitVec.ofInt 64 (s : Int)).toNat = s := by rw [BitVec.ofInt_natCast, BitVec.toNat_ofNat, Nat.mod_eq_of_lt (by omega)]
  have e2 : (BitVec.ofInt 64 ((2 ^ l : Nat) : Int)).toNat = 2 ^ l := by rw [BitVec.ofInt_natCast, BitVec.toNat_ofNat, Nat.mod_eq_of_lt (by omega)]
  rw [BitVec.toNat_and, BitVec.toNat_not, e1, e2, hx]
  exact IntWalk.i64_in _ (by omega)

theorem bitLen_last (s : Nat) (h0 : s ≠ 0) (h : s < 2 ^ 16) : ∃ l, Lib.bitLen s = l + 1 ∧ l < 16 ∧ 2 ^ l ≤ s ∧ s < 2 ^ (l + 1) := by
  obtain ⟨h1, h2, h3⟩ := Lib.bitLenAux_bounds 64 s (Nat.lt_of_lt_of_le h (Nat.pow_le_pow_right (by decide) (by decide))) h0
  have h4 := Lib.bitLen_le s 16 (by decide) h
  unfold Lib.bitLen at *
  refine ⟨Lib.bitLenAux 64 s - 1, by omega, by omega, h2, ?_⟩
  rw [show Lib.bitLenAux 64 s - 1 + 1 = Lib.bitLenAux 64 s from by omega]
  exact h3

/-- The set of the talks before i that meet it. -/
def metTo (xs : List Int) (i m : Nat) : Nat := (List.range m).foldl (fun a k => if meetB xs i k then a ||| 2 ^ k else a) 0
theorem metTo_succ (xs : List Int) (i m : Nat) : metTo xs i (m + 1) = if meetB xs i m then metTo xs i m ||| 2 ^ m else metTo xs i m := by
  unfold metTo; rw [List.range_succ, List.foldl_append]; rfl
theorem metTo_bit (xs : List Int) (i k : Nat) : ∀ m, (metTo xs i m).testBit k = (decide (k < m) && meetB xs i k) := by
  intro m
  induction m with
  | zero => simp [metTo]
  | succ m ih =>
    rw [metTo_succ]
    split
    · rename_i h
      rw [Nat.testBit_or, ih, Nat.testBit_two_pow]
      by_cases hk : m = k
      · subst hk; simp [h]
      · by_cases hk2 : k < m
        · have : k < m + 1 := by omega
          simp [hk, hk2, this]
        · have : ¬ k < m + 1 := by omega
          simp [hk, hk2, this]
    · rename_i h
      rw [ih]
      by_cases hk : m = k
      · subst hk; simp [h]
      · by_cases hk2 : k < m
        · have : k < m + 1 := by omega
          simp [hk2, this]
        · have : ¬ k < m + 1 := by omega
          simp [hk2, this]
theorem metTo_lt (xs : List Int) (i m : Nat) (h : m ≤ 16) : metTo xs i m < 2 ^ 16 := by
  induction m with
  | zero => simp [metTo]
  | succ m ih =>
    rw [metTo_succ]
    split
    · exact Nat.or_lt_two_pow (ih (by omega)) (Nat.pow_lt_pow_right (by decide) (by omega))
    · exact ih (by omega)
theorem met_and (xs : List Int) (l r : Nat) : (metTo xs l l &&& r == 0) = !clashIn xs r l l := by
  cases hc : clashIn xs r l l
  · rw [Bool.not_false, beq_iff_eq]
    apply Nat.eq_of_testBit_eq
    intro k
    rw [Nat.testBit_and, metTo_bit, Nat.zero_testBit]
    by_cases hk : k < l
    · unfold clashIn at hc
      rw [List.any_eq_false] at hc
      have := hc k (List.mem_range.2 hk)
      cases h1 : meetB xs l k <;> cases h2 : r.testBit k <;> simp_all
    · simp [hk]
  · rw [Bool.not_true, beq_eq_false_iff_ne]
    intro h
    unfold clashIn at hc
    rw [List.any_eq_true] at hc
    obtain ⟨k, hk, hh⟩ := hc
    have := congrArg (fun x => x.testBit k) h
    simp only [Nat.testBit_and, metTo_bit, Nat.zero_testBit] at this
    have hk' := List.mem_range.1 hk
    rw [Bool.and_eq_true] at hh
    simp [hk', hh.1, hh.2] at this
end Go.Proofs.Ytnpfninkopffmaa
