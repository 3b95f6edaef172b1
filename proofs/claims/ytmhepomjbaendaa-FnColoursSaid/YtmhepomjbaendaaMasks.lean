
/- clashSets: for each exam the set of those that clash with it. Conditions: valid clashes. -/
import Derived.Test.YtmhepomjbaendaaClashB
import Derived.Test.YtmhepomjbaendaaColour1
import Derived.Test.YtmhepomjbaendaaGrownL
import Derived.Test.YtmhepomjbaendaaRoundMix
import Derived.Test.YtmhepomjbaendaaNone
namespace Go.Proofs.Ytmhepomjbaendaa
open Go.RowKit Go.Shelf Go.BigFrame
set_option linter.unusedVariables false
set_option linter.unusedSimpArgs false
attribute [local go_sem] Oper.semAt_some

def mAt (ms : List Nat) (i : Nat) : Nat := ms.getD i 0
def maskOne (ms : List Nat) (a b : Nat) : List Nat := ms.set a (mAt ms a ||| 2 ^ b)
def maskPair (xs : List Int) (ms : List Nat) (x : Nat) : List Nat := maskOne (maskOne ms (nth xs (2 * x)).toNat (nth xs (2 * x + 1)).toNat) (nth xs (2 * x + 1)).toNat (nth xs (2 * x)).toNat
def maskPre (n : Nat) (xs : List Int) (pre : List Nat) : List Nat := pre.foldl (maskPair xs) (List.replicate n 0)
def masks (n : Nat) (xs : List Int) : List Nat := maskPre n xs (List.range (xs.length / 2))
/-- The numbers as they stand in memory. -/
def mInts (ms : List Nat) : List Int := ms.map fun (m : Nat) => (m : Int)
theorem mInts_length (ms : List Nat) : (mInts ms).length = ms.length := by simp [mInts]
theorem mInts_nth (ms : List Nat) (i : Nat) : nth (mInts ms) i = (mAt ms i : Nat) := by
  unfold nth mInts mAt
  simp only [List.getD_eq_getElem?_getD, List.getElem?_map]
  cases ms[i]? <;> rfl
theorem mInts_set (ms : List Nat) (i m : Nat) : (mInts ms).set i (m : Int) = mInts (ms.set i m) := by unfold mInts; rw [List.map_set]
theorem maskOne_length (ms : List Nat) (a b : Nat) : (maskOne ms a b).length = ms.length := by simp [maskOne]
theorem mAt_maskOne (ms : List Nat) (a b i : Nat) (ha : a < ms.length) : mAt (maskOne ms a b) i = if a = i then mAt ms a ||| 2 ^ b else mAt ms i := by
  unfold maskOne mAt
  rw [List.getD_eq_getElem?_getD, List.getElem?_set, List.getD_eq_getElem?_getD, List.getD_eq_getElem?_getD]
  split
  · rename_i e; subst e; simp [ha]
  · rfl

structure MaskInv (n : Nat) (ms : List Nat) : Prop where
  len : ms.length = n
  lt : ∀ i, mAt ms i < 2 ^ 12
theorem MaskInv.one {n : Nat} {ms : List Nat} (h : MaskInv n ms) {a b : Nat} (ha : a < n) (hb : b < 12) : MaskInv n (maskOne ms a b) := by
  refine ⟨by rw [maskOne_length, h.len], fun i => ?_⟩
  rw [mAt_maskOne _ _ _ _ (by rw [h.len]; exact ha)]
  split
  · exact Nat.or_lt_two_pow (h.lt a) (Nat.pow_lt_pow_right (by decide) hb)
  · exact h.lt i
theorem MaskInv.zero (n : Nat) : MaskInv n (List.replicate n 0) := ⟨by simp, fun i => by
  unfold mAt
  rw [List.getD_eq_getElem?_getD, List.getElem?_replicate]
  split <;> simp⟩
theorem MaskInv.pre {n : Nat} {xs : List Int} (hn : n ≤ 12) (hw : ∀ k, k < xs.length → 0 ≤ nth xs k ∧ nth xs k < (n : Int)) (pre : List Nat) (hp : ∀ x ∈ pre, 2 * x + 1 < xs.length) : MaskInv n (maskPre n xs pre) := by
  have key : ∀ (pre : List Nat) (ms : List Nat), (∀ x ∈ pre, 2 * x + 1 < xs.length) → MaskInv n ms → MaskInv n (pre.foldl (maskPair xs) ms) := by
    intro pre
    induction pre with
    | nil => intro ms _ h; exact h
    | cons x pre ih =>
      intro ms hp h
      have h1 := hw (2 * x) (by have := hp x (by simp); omega)
      have h2 := hw (2 * x + 1) (hp x (by simp))
      exact ih _ (fun y hy => hp y (by simp [hy])) ((h.one (a := (nth xs (2 * x)).toNat) (b := (nth xs (2 * x + 1)).toNat) (by omega) (by omega)).one (by omega) (by omega))
  exact key pre _ hp (MaskInv.zero n)
theorem maskPre_snoc (n : Nat) (xs : List Int) (pre : List Nat) (x : Nat) : maskPre n xs (pre ++ [x]) = maskPair xs (maskPre n xs pre) x := by unfold maskPre; rw [List.foldl_append]; rfl

/-- The bit of b stands in the set of a if the two clash. -/
theorem masks_bit {n : Nat} {xs : List Int} (hn : n ≤ 12) (hw : ∀ k, k < xs.length → 0 ≤ nth xs k ∧ nth xs k < (n : Int)) (a b : Nat) (ha : a < n) : (mAt (masks n xs) a).testBit b = clashB xs a b := by
  unfold masks clashB
  have key : ∀ m, m ≤ xs.length / 2 → (mAt (maskPre n xs (List.range m)) a).testBit b = clashTo xs a b m := by
    intro m
    induction m with
    | zero =>
      intro _
      show (mAt (List.replicate n 0) a).testBit b = false
      unfold mAt
      rw [List.getD_eq_getElem?_getD, List.getElem?_replicate]
      split <;> simp
    | succ m ih =>
      intro hm
      have h1 := hw (2 * m) (by omega)
      have h2 := hw (2 * m + 1) (by omega)
      have hi := MaskInv.pre hn hw (List.range m) (fun x hx => by have := List.mem_range.1 hx; omega)
      rw [List.range_succ, maskPre_snoc, clashTo_succ, ← ih (by omega)]
      unfold maskPair
      obtain ⟨p, hp⟩ : ∃ p : Nat, nth xs (2 * m) = p := ⟨(nth xs (2 * m)).toNat, by omega⟩
      obtain ⟨q, hq⟩ : ∃ q : Nat, nth xs (2 * m + 1) = q := ⟨(nth xs (2 * m + 1)).toNat, by omega⟩
      rw [hp, hq, Int.toNat_natCast, Int.toNat_natCast]
      generalize maskPre n xs (List.range m) = ms at *
      have hpn : p < n := by omega
      have hqn : q < n := by omega
      rw [mAt_maskOne _ _ _ _ (by rw [maskOne_length, hi.len]; exact hqn), mAt_maskOne _ _ _ _ (by rw [hi.len]; exact hpn), mAt_maskOne _ _ _ _ (by rw [hi.len]; exact hpn)]
      have e1 : ((p : Int) == (a : Int)) = decide (p = a) := by rw [Bool.eq_iff_iff]; simp; omega
      have e2 : ((q : Int) == (b : Int)) = decide (q = b) := by rw [Bool.eq_iff_iff]; simp; omega
      have e3 : ((p : Int) == (b : Int)) = decide (p = b) := by rw [Bool.eq_iff_iff]; simp; omega
      have e4 : ((q : Int) == (a : Int)) = decide (q = a) := by rw [Bool.eq_iff_iff]; simp; omega
      rw [e1, e2, e3, e4]
      by_cases hpa : p = a <;> by_cases hqa : q = a
      · subst hpa; subst hqa; simp [Nat.testBit_or, Nat.testBit_two_pow]
      · subst hpa
        have : ¬ q = p := hqa
        simp [Nat.testBit_or, Nat.testBit_two_pow, this]
      · subst hqa
        simp [Nat.testBit_or, Nat.testBit_two_pow, hpa]
      · simp [hpa, hqa]
  exact key _ (Nat.le_refl _)
theorem masks_inv {n : Nat} {xs : List Int} (hn : n ≤ 12) (hw : ∀ k, k < xs.length → 0 ≤ nth xs k ∧ nth xs k < (n : Int)) : MaskInv n (masks n xs) := MaskInv.pre hn hw _ (fun x hx => by have := List.mem_range.1 hx; omega)

theorem bits_or_nat (x p : Nat) (hx : x < 2 ^ 12) (hp : p < 2 ^ 12) : bits .or .i64 (x : Int) (p : Int) = ((x ||| p : Nat) : Int) :=
  (bits_nat .i64 12 (by decide) (fun m h0 h1 => IntWalk.i64_in m (by omega)) x p hx hp).2
end Go.Proofs.Ytmhepomjbaendaa
