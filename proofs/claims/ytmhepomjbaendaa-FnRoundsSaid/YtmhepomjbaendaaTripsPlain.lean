
/- TripsOf as a plain function. Conditions: none. -/
import Derived.Test.YtmhepomjbaendaaHomes
import Derived.Test.YtmhepomjbaendaaMarks
namespace Go.Proofs.Ytmhepomjbaendaa
open Go.RowKit
set_option linter.unusedVariables false
set_option linter.unusedSimpArgs false

def tripHalf (t : Nat) (far : List Int) (st : List Int × List Int) (m h : Nat) : List Int × List Int :=
  (st.1.set m (nth st.1 m + nth far ((nth st.2 m).toNat * t + h)), st.2.set m (h : Int))
def tripTo (t : Nat) (xs far : List Int) : Nat → List Int × List Int
  | 0 => (List.replicate t 0, (List.range t).map fun (i : Nat) => (i : Int))
  | s + 1 => tripHalf t far (tripTo t xs far s) (nth xs s).toNat (nth xs (2 * (s / 2))).toNat
def homeTo (t : Nat) (far pl : List Int) (o : List Int) : Nat → List Int
  | 0 => o
  | j + 1 => (homeTo t far pl o j).set j (nth (homeTo t far pl o j) j + nth far ((nth pl j).toNat * t + j))
def tripsOk (n : Int) (xs far : List Int) : Bool := roundsOk n xs && (decide ((far.length : Int) = n * n) && far.all fun x => win x 0 1000)
def tripsL (n : Int) (xs far : List Int) : List Int := if tripsOk n xs far then homeTo n.toNat far (tripTo n.toNat xs far xs.length).2 (tripTo n.toNat xs far xs.length).1 n.toNat else []
theorem tripsL_no {n : Int} {xs far : List Int} (h : tripsOk n xs far = false) : tripsL n xs far = [] := by unfold tripsL; rw [h]; rfl
theorem tripsL_yes {n : Int} {xs far : List Int} (h : tripsOk n xs far = true) : tripsL n xs far = homeTo n.toNat far (tripTo n.toNat xs far xs.length).2 (tripTo n.toNat xs far xs.length).1 n.toNat := by unfold tripsL; rw [h]; rfl

theorem nth_set {l : List Int} {m i : Nat} (v : Int) (hm : m < l.length) : nth (l.set m v) i = if m = i then v else nth l i := by
  unfold nth
  rw [List.getD_eq_getElem?_getD, List.getElem?_set, List.getD_eq_getElem?_getD]
  split
  · rename_i e; subst e; simp [hm]
  · rfl

structure TripInv (t s : Nat) (st : List Int × List Int) : Prop where
  l1 : st.1.length = t
  l2 : st.2.length = t
  o : ∀ m, m < t → 0 ≤ nth st.1 m ∧ nth st.1 m ≤ 1000 * (s : Int)
  p : ∀ m, m < t → 0 ≤ nth st.2 m ∧ nth st.2 m ≤ (t : Int) - 1

theorem ix_lt {t q h : Nat} (hq : q < t) (hh : h < t) : q * t + h < t * t := by
  have := Nat.mul_le_mul_right t (show q + 1 ≤ t from hq)
  rw [Nat.add_mul, Nat.one_mul] at this
  omega

theorem TripInv.half {t s m h : Nat} {far : List Int} {st : List Int × List Int} (hi : TripInv t s st) (hm : m < t) (hh : h < t) (hf : ∀ i, i < t * t → 0 ≤ nth far i ∧ nth far i ≤ 1000) : TripInv t (s + 1) (tripHalf t far st m h) := by
  obtain ⟨l1, l2, ho, hp⟩ := hi
  have h1 := ho m hm
  have h2 := hp m hm
  have h3 := hf ((nth st.2 m).toNat * t + h) (ix_lt (by omega) hh)
  refine ⟨by simp [tripHalf, l1], by simp [tripHalf, l2], fun i hi => ?_, fun i hi => ?_⟩
  · unfold tripHalf
    have h4 := ho i hi
    rw [nth_set _ (by rw [l1]; exact hm)]
    split <;> omega
  · unfold tripHalf
    have h4 := hp i hi
    rw [nth_set _ (by rw [l2]; exact hm)]
    split <;> omega

theorem nth_range {t i : Nat} (h : i < t) : nth ((List.range t).map fun (i : Nat) => (i : Int)) i = (i : Int) := by
  rw [nth_eq (by simpa using h)]; simp

theorem tripTo_inv {t : Nat} {xs far : List Int} (hw : ∀ i, i < xs.length → 0 ≤ nth xs i ∧ nth xs i ≤ (t : Int) - 1) (hf : ∀ i, i < t * t → 0 ≤ nth far i ∧ nth far i ≤ 1000) (s : Nat) (hs : s ≤ xs.length) : TripInv t s (tripTo t xs far s) := by
  induction s with
  | zero =>
    refine ⟨by simp [tripTo], by simp [tripTo], fun m hm => ?_, fun m hm => ?_⟩
    · simp [tripTo, nth, hm]
    · show 0 ≤ nth ((List.range t).map fun (i : Nat) => (i : Int)) m ∧ _
      rw [show (tripTo t xs far 0).2 = (List.range t).map fun (i : Nat) => (i : Int) from rfl, nth_range hm]; omega
  | succ s ih =>
    have h1 := hw s (by omega)
    have h2 := hw (2 * (s / 2)) (by omega)
    exact (ih (by omega)).half (by omega) (by omega) hf

theorem homeTo_inv {t B : Nat} {far pl o : List Int} (hl : o.length = t) (ho : ∀ m, m < t → 0 ≤ nth o m ∧ nth o m ≤ (B : Int)) (hp : ∀ m, m < t → 0 ≤ nth pl m ∧ nth pl m ≤ (t : Int) - 1) (hf : ∀ i, i < t * t → 0 ≤ nth far i ∧ nth far i ≤ 1000) (j : Nat) (hj : j ≤ t) :
    (homeTo t far pl o j).length = t ∧ ∀ m, m < t → 0 ≤ nth (homeTo t far pl o j) m ∧ nth (homeTo t far pl o j) m ≤ (B : Int) + 1000 * j := by
  induction j with
  | zero => exact ⟨hl, fun m hm => by have := ho m hm; show 0 ≤ nth o m ∧ nth o m ≤ _; omega⟩
  | succ j ih =>
    obtain ⟨i1, i2⟩ := ih (by omega)
    have h1 := hp j (by omega)
    have h2 := hf ((nth pl j).toNat * t + j) (ix_lt (by omega) (by omega))
    refine ⟨by simp [homeTo, i1], fun m hm => ?_⟩
    have h3 := i2 m hm
    unfold homeTo
    rw [nth_set _ (by rw [i1]; omega)]
    split
    · rename_i e; subst e; omega
    · omega

theorem trips_rounds {n : Int} {xs far : List Int} (h : tripsOk n xs far = true) : ∃ t R : Nat, n = t ∧ 2 ≤ t ∧ t ≤ 16 ∧ t % 2 = 0 ∧ xs.length = R * t ∧ xs.length ≤ 480 ∧ roundsOk (t : Int) xs = true ∧ far.length = t * t ∧ (∀ i, i < xs.length → 0 ≤ nth xs i ∧ nth xs i ≤ (t : Int) - 1) ∧ (∀ i, i < t * t → 0 ≤ nth far i ∧ nth far i ≤ 1000) := by
  unfold tripsOk at h
  rw [Bool.and_eq_true, Bool.and_eq_true, decide_eq_true_eq] at h
  obtain ⟨h1, h2, h3⟩ := h
  have h1' := h1
  unfold roundsOk at h1'
  rw [Bool.and_eq_true, Bool.and_eq_true] at h1'
  obtain ⟨t, _, rfl, _⟩ := roundsHead_bounds h1'.1.1
  obtain ⟨R, ht, ht2, hev, hlen, hle, hw⟩ := rounds_win h1
  have hfl : far.length = t * t := by rw [← Int.natCast_mul] at h2; omega
  refine ⟨t, R, rfl, ht, ht2, hev, hlen, hle, h1, hfl, hw, fun i hi => ?_⟩
  rw [List.all_eq_true] at h3
  have := h3 far[i] (List.getElem_mem _)
  rw [nth_eq (by omega)]
  exact win_true.1 this
theorem tripsL_small (n : Int) (xs far : List Int) : (tripsL n xs far).length ≤ 16 := by
  cases h : tripsOk n xs far
  · rw [tripsL_no h]; simp
  · obtain ⟨t, R, rfl, _, h2, _, _, _, _, _, hw, hf⟩ := trips_rounds h
    have h3 := tripTo_inv hw hf xs.length (Nat.le_refl _)
    rw [tripsL_yes h, Int.toNat_natCast, (homeTo_inv (B := 1000 * xs.length) h3.l1 (fun m hm => by have := h3.o m hm; omega) h3.p hf t (Nat.le_refl _)).1]; exact h2

/-- One game, behind q of its two teams. -/
def tripIn (t : Nat) (xs far : List Int) (st : List Int × List Int) (x : Nat) : Nat → List Int × List Int
  | 0 => st
  | q + 1 => tripHalf t far (tripIn t xs far st x q) (nth xs (2 * x + q)).toNat (nth xs (2 * x)).toNat
def tripPre (t : Nat) (xs far : List Int) (pre : List Nat) : List Int × List Int := pre.foldl (fun st x => tripIn t xs far st x 2) (tripTo t xs far 0)
theorem tripPre_snoc (t : Nat) (xs far : List Int) (pre : List Nat) (x : Nat) : tripPre t xs far (pre ++ [x]) = tripIn t xs far (tripPre t xs far pre) x 2 := by unfold tripPre; rw [List.foldl_append]; rfl
theorem tripPre_range (t : Nat) (xs far : List Int) (m : Nat) : tripPre t xs far (List.range m) = tripTo t xs far (2 * m) := by
  induction m with
  | zero => rfl
  | succ m ih =>
    rw [List.range_succ, tripPre_snoc, ih]
    rw [show 2 * (m + 1) = 2 * m + 1 + 1 by omega]
    show tripHalf t far (tripHalf t far _ _ _) _ _ = tripHalf t far (tripHalf t far (tripTo t xs far (2 * m)) (nth xs (2 * m)).toNat (nth xs (2 * (2 * m / 2))).toNat) (nth xs (2 * m + 1)).toNat (nth xs (2 * ((2 * m + 1) / 2))).toNat
    rw [show 2 * (2 * m / 2) = 2 * m by omega, show 2 * ((2 * m + 1) / 2) = 2 * m by omega]; rfl
theorem tripIn_inv {t s x : Nat} {xs far : List Int} {st : List Int × List Int} (hi : TripInv t s st) (hw : ∀ i, i < xs.length → 0 ≤ nth xs i ∧ nth xs i ≤ (t : Int) - 1) (hf : ∀ i, i < t * t → 0 ≤ nth far i ∧ nth far i ≤ 1000) (hx : 2 * x + 1 < xs.length) (q : Nat) (hq : q ≤ 2) : TripInv t (s + q) (tripIn t xs far st x q) := by
  induction q with
  | zero => exact hi
  | succ q ih =>
    have h1 := hw (2 * x + q) (by omega)
    have h2 := hw (2 * x) (by omega)
    exact (ih (by omega)).half (by omega) (by omega) hf
theorem tripPre_inv {t : Nat} {xs far : List Int} (hw : ∀ i, i < xs.length → 0 ≤ nth xs i ∧ nth xs i ≤ (t : Int) - 1) (hf : ∀ i, i < t * t → 0 ≤ nth far i ∧ nth far i ≤ 1000) (pre : List Nat) (hp : ∀ x ∈ pre, 2 * x + 1 < xs.length) : TripInv t (2 * pre.length) (tripPre t xs far pre) := by
  have key : ∀ (pre : List Nat) (s : Nat) (st : List Int × List Int), (∀ x ∈ pre, 2 * x + 1 < xs.length) → TripInv t s st → TripInv t (s + 2 * pre.length) (pre.foldl (fun st x => tripIn t xs far st x 2) st) := by
    intro pre
    induction pre with
    | nil => intro s st _ h; exact h
    | cons x pre ih =>
      intro s st hp h
      have h1 := ih (s + 2) _ (fun y hy => hp y (by simp [hy])) (tripIn_inv h hw hf (hp x (by simp)) 2 (Nat.le_refl _))
      rw [List.length_cons, show s + 2 * (pre.length + 1) = s + 2 + 2 * pre.length by omega]
      exact h1
  have := key pre 0 (tripTo t xs far 0) hp (tripTo_inv hw hf 0 (Nat.zero_le _))
  rwa [Nat.zero_add] at this
end Go.Proofs.Ytmhepomjbaendaa
