
/- ColourBy as a plain function. Conditions: none. -/
import Derived.Test.YtmhepomjbaendaaCanHave
import Derived.Test.YtmhepomjbaendaaOrders
namespace Go.Proofs.Ytmhepomjbaendaa
open Go.RowKit
set_option linter.unusedVariables false
set_option linter.unusedSimpArgs false

/-- The least number from c on for which f holds, looked for k times. -/
def least (f : Nat → Bool) : Nat → Nat → Nat
  | 0, c => c
  | k + 1, c => if f c then c else least f k (c + 1)
theorem least_eq {f : Nat → Bool} : ∀ (k c d : Nat), c ≤ d → d ≤ c + k → (∀ x, c ≤ x → x < d → f x = false) → f d = true → least f k c = d := by
  intro k
  induction k with
  | zero => intro c d h1 h2 _ _; show c = d; omega
  | succ k ih =>
    intro c d h1 h2 h3 h4
    unfold least
    by_cases hcd : c = d
    · subst hcd; rw [h4]; rfl
    · rw [h3 c (Nat.le_refl _) (by omega)]
      exact ih (c + 1) d (by omega) (by omega) (fun x hx => h3 x (by omega)) h4
def leastOf (f : Nat → Bool) (B : Nat) : Nat := least f B 0
theorem leastOf_eq {f : Nat → Bool} {B d : Nat} (h2 : d ≤ B) (h3 : ∀ x, x < d → f x = false) (h4 : f d = true) : leastOf f B = d := least_eq B 0 d (Nat.zero_le _) (by omega) (fun x _ hx => h3 x hx) h4
theorem least_ex {f : Nat → Bool} {B : Nat} (h : f B = true) : ∃ d, d ≤ B ∧ (∀ x, x < d → f x = false) ∧ f d = true := by
  induction B using Nat.strongRecOn with
  | ind B ih =>
    by_cases hx : ∃ x, x < B ∧ f x = true
    · obtain ⟨x, h1, h2⟩ := hx
      obtain ⟨d, h3, h4, h5⟩ := ih x h1 h2
      exact ⟨d, by omega, h4, h5⟩
    · refine ⟨B, Nat.le_refl _, fun x hxB => ?_, h⟩
      cases hf : f x
      · rfl
      · exact absurd ⟨x, hxB, hf⟩ hx

/-- Among the first m exams one has the colour c and clashes with e. -/
def tkTo (xs out : List Int) (e : Nat) (c : Int) (m : Nat) : Bool := (List.range m).any fun k => nth out k == c && clashB xs (e : Int) (k : Int)
def frC (xs out : List Int) (e c : Nat) : Bool := !tkTo xs out e (c : Int) out.length
theorem tkTo_succ (xs out : List Int) (e : Nat) (c : Int) (m : Nat) : tkTo xs out e c (m + 1) = (tkTo xs out e c m || (nth out m == c && clashB xs (e : Int) (m : Int))) := by
  unfold tkTo; rw [List.range_succ, List.any_append]; simp
theorem freeB_frC {n : Nat} {xs out : List Int} (hn : n ≤ 12) (hw : ∀ k, k < xs.length → 0 ≤ nth xs k ∧ nth xs k < (n : Int)) (e c : Nat) (he : e < n) : freeB (masks n xs) out e (c : Int) = frC xs out e c := by
  unfold freeB frC takenTo tkTo
  congr 2
  funext k
  rw [masks_bit hn hw e k he]

def colStep (xs out : List Int) (e : Nat) : List Int := out.set e ((leastOf (frC xs out e) out.length : Nat) : Int)
def colTo (n : Nat) (xs order : List Int) : Nat → List Int
  | 0 => List.replicate n (-1)
  | s + 1 => colStep xs (colTo n xs order s) (nth order s).toNat
def colByOk (n : Int) (xs order : List Int) : Bool := clashesOk n xs && orders n order
def colByL (n : Int) (xs order : List Int) : List Int := if colByOk n xs order then colTo n.toNat xs order order.length else []
theorem colByL_no {n : Int} {xs order : List Int} (h : colByOk n xs order = false) : colByL n xs order = [] := by unfold colByL; rw [h]; rfl
theorem colByL_yes {n : Int} {xs order : List Int} (h : colByOk n xs order = true) : colByL n xs order = colTo n.toNat xs order order.length := by unfold colByL; rw [h]; rfl

structure ColInv (n s : Nat) (out : List Int) : Prop where
  len : out.length = n
  lt : ∀ k, k < n → -1 ≤ nth out k ∧ nth out k < (s : Int)
/-- The colour s is free while all are below s. -/
theorem ColInv.free {n s : Nat} {xs out : List Int} (h : ColInv n s out) (e : Nat) : frC xs out e s = true := by
  unfold frC
  have : tkTo xs out e (s : Int) out.length = false := by
    unfold tkTo
    rw [List.any_eq_false]
    intro k hk
    have := h.lt k (by have := List.mem_range.1 hk; rw [h.len] at this; exact this)
    have hne : (nth out k == (s : Int)) = false := by simp; omega
    rw [hne]; simp
  rw [this]; rfl
theorem ColInv.step {n s : Nat} {xs out : List Int} (h : ColInv n s out) (e : Nat) (he : e < n) (hs : s ≤ n) : ∃ d, d ≤ s ∧ (∀ x, x < d → frC xs out e x = false) ∧ frC xs out e d = true ∧ colStep xs out e = out.set e (d : Int) ∧ ColInv n (s + 1) (out.set e (d : Int)) := by
  obtain ⟨d, h1, h2, h3⟩ := least_ex (f := frC xs out e) (h.free e)
  refine ⟨d, h1, h2, h3, by unfold colStep; rw [leastOf_eq (by rw [h.len]; omega) h2 h3], by simp [h.len], fun k hk => ?_⟩
  have h4 := h.lt k hk
  have : nth (out.set e (d : Int)) k = if e = k then (d : Int) else nth out k := by
    unfold nth
    rw [List.getD_eq_getElem?_getD, List.getElem?_set, List.getD_eq_getElem?_getD]
    split
    · rename_i e'; subst e'; simp [h.len, he]
    · rfl
  rw [this]
  split <;> omega
theorem colTo_inv {n : Nat} {xs order : List Int} (hl : order.length = n) (ho : ∀ i, i < order.length → 0 ≤ nth order i ∧ nth order i < (n : Int)) (s : Nat) (hs : s ≤ n) : ColInv n s (colTo n xs order s) := by
  induction s with
  | zero => exact ⟨by simp [colTo], fun k hk => by simp [colTo, nth, hk]⟩
  | succ s ih =>
    have h1 := ho s (by omega)
    obtain ⟨d, _, _, _, h5, h6⟩ := (ih (by omega)).step (xs := xs) (nth order s).toNat (by omega) (by omega)
    show ColInv n (s + 1) (colStep xs (colTo n xs order s) (nth order s).toNat)
    rw [h5]; exact h6
theorem colBy_bounds {n : Int} {xs order : List Int} (h : colByOk n xs order = true) : ∃ t : Nat, n = t ∧ 1 ≤ t ∧ t ≤ 12 ∧ xs.length ≤ 64 ∧ xs.length % 2 = 0 ∧ (∀ k, k < xs.length → 0 ≤ nth xs k ∧ nth xs k < (t : Int)) ∧ order.length = t ∧ (∀ i, i < order.length → 0 ≤ nth order i ∧ nth order i < (t : Int)) ∧ clashesOk (t : Int) xs = true ∧ orders (t : Int) order = true := by
  unfold colByOk at h
  rw [Bool.and_eq_true] at h
  obtain ⟨h1, h2, h3, h4, h5⟩ := clashesOk_head h.1
  obtain ⟨t, rfl⟩ : ∃ t : Nat, n = t := ⟨n.toNat, by omega⟩
  obtain ⟨h6, h7⟩ := orders_pre h.2
  refine ⟨t, rfl, by omega, by omega, h3, h4, h5, by omega, fun i hi => ?_, h.1, h.2⟩
  obtain ⟨h8, h9⟩ := win_true.1 (h7 i hi).1
  omega
theorem colByL_small (n : Int) (xs order : List Int) : (colByL n xs order).length ≤ 12 := by
  cases h : colByOk n xs order
  · rw [colByL_no h]; simp
  · obtain ⟨t, rfl, _, h2, _, _, _, h6, h7, _⟩ := colBy_bounds h
    rw [colByL_yes h, Int.toNat_natCast, (colTo_inv h6 h7 order.length (by omega)).len]; exact h2
end Go.Proofs.Ytmhepomjbaendaa
