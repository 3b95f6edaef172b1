
/- Rooms for talks: the plain law. Conditions: none. -/
import Derived.Test.YtnpfninkopffmaaMostP
namespace Go.Proofs.Ytnpfninkopffmaa
open Go.RowKit
set_option linter.unusedVariables false
set_option linter.unusedSimpArgs false

/-! The sorted list is one alone. -/
def lexLe (key : Int → Int) (x y : Int) : Bool := decide (key x < key y) || (decide (key x = key y) && decide (x ≤ y))
theorem lexLe_iff {key : Int → Int} {x y : Int} : lexLe key x y = true ↔ key x < key y ∨ key x = key y ∧ x ≤ y := by simp [lexLe]
def sortsL (key : Int → Int) (n : Nat) : List Int := (idL n).mergeSort (lexLe key)
theorem pairwise_of_on {key : Int → Int} {E : List Int} {n : Nat} (hl : E.length = n) (h : SortedOn key E 0 n) : E.Pairwise (lexLt key) := by
  rw [List.pairwise_iff_getElem]
  intro i j hi hj hij
  have := h i j (Nat.zero_le _) hij (by omega)
  rwa [nth_eq hi, nth_eq hj] at this
theorem on_of_pairwise {key : Int → Int} {E : List Int} {n : Nat} (hl : E.length = n) (h : E.Pairwise (lexLt key)) : SortedOn key E 0 n := fun i j _ hij hj => by
  rw [nth_eq (by omega), nth_eq (by omega)]
  exact List.pairwise_iff_getElem.1 h i j (by omega) (by omega) hij
theorem idL_nodup (n : Nat) : (idL n).Pairwise fun x y => x ≠ y := by
  rw [List.pairwise_iff_getElem]
  intro i j hi hj hij
  rw [idL_length] at hi hj
  rw [← nth_eq, ← nth_eq, idL_get hi, idL_get hj]; omega
theorem sortsL_ok (key : Int → Int) (n : Nat) : SortsBy key n (sortsL key n) := by
  have hp : (sortsL key n).Perm (idL n) := List.mergeSort_perm _ _
  refine ⟨hp, on_of_pairwise (by rw [hp.length_eq, idL_length]) ?_⟩
  have h1 : (sortsL key n).Pairwise fun a b => lexLe key a b = true := List.pairwise_mergeSort (fun a b c h k => by rw [lexLe_iff] at *; omega) (fun a b => by rw [Bool.or_eq_true, lexLe_iff, lexLe_iff]; omega) _
  have h2 : (sortsL key n).Pairwise fun x y => x ≠ y := (hp.pairwise_iff (fun h => Ne.symm h)).2 (idL_nodup n)
  exact (h1.and h2).imp fun ⟨h, k⟩ => by rw [lexLe_iff] at h; unfold lexLt; omega
theorem sorts_one {key : Int → Int} {n : Nat} {E F : List Int} (h : SortsBy key n E) (k : SortsBy key n F) : E = F := by
  refine List.Perm.eq_of_pairwise (le := lexLt key) (fun a b _ _ h1 h2 => ?_) (pairwise_of_on (by rw [h.1.length_eq, idL_length]) h.2) (pairwise_of_on (by rw [k.1.length_eq, idL_length]) k.2) (h.1.trans k.1.symm)
  unfold lexLt at h1 h2; omega

/-- The next to be taken. -/
theorem pick_next {key : Int → Int} {n : Nat} {E pre suf : List Int} {x : Int} {f : Nat → Bool} (hE : SortsBy key n E) (he : E = pre ++ x :: suf) (hp : ∀ y ∈ pre, f y.toNat = false) (hx : f x.toNat = true) : pickK f key n = x := by
  have hmem : ∀ x, x ∈ E ↔ 0 ≤ x ∧ x < (n : Int) := fun x => by rw [hE.1.mem_iff, idL_mem]
  have hx0 := (hmem x).1 (by rw [he]; simp)
  rcases pickK_spec f key n with ⟨_, h2⟩ | ⟨h1, h2, h3, h4⟩
  · rw [h2 _ (by omega)] at hx; cases hx
  · obtain ⟨b, hb⟩ : ∃ b, pickK f key n = b := ⟨_, rfl⟩
    rw [hb] at h1 h2 h3 h4 ⊢
    have h5 := h4 x.toNat (by omega) hx
    rw [show ((x.toNat : Nat) : Int) = x by omega] at h5
    rcases h5 with h5 | h5
    · exact h5.symm
    · exfalso
      have hbE := (hmem b).2 ⟨h1, h2⟩
      rw [he] at hbE
      rcases List.mem_append.1 hbE with hb1 | hb1
      · rw [hp b hb1] at h3; cases h3
      · rcases List.mem_cons.1 hb1 with hb1 | hb1
        · subst hb1; unfold lexLt at h5; omega
        · have h6 := sorts_after hE he hb1
          unfold lexLt at h5 h6; omega

/-! Rooms. -/
def clashR (xs out : List Int) (n i : Nat) (r : Int) : Bool := (idL n).any fun k => (nth out k.toNat == r) && meetB xs i k.toNat
def roomF (xs out : List Int) (n i : Nat) : Nat → Int → Int
  | 0, r => r
  | f + 1, r => if clashR xs out n i r then roomF xs out n i f (r + 1) else r
def roomAt (xs out : List Int) (n i : Nat) : Int := roomF xs out n i n 0
def roomStep (xs : List Int) (n : Nat) (out : List Int) (i : Int) : List Int := out.set i.toNat (roomAt xs out n i.toNat)
def noneL (n : Nat) : List Int := List.replicate n (-1)
def roomsTo (xs : List Int) (n t : Nat) : List Int := ((sortsL (begOf xs) n).take t).foldl (roomStep xs n) (noneL n)
/-- The greatest of the first k + 1. -/
def maxTo (xs : List Int) : Nat → Int
  | 0 => nth xs 0
  | k + 1 => if maxTo xs k < nth xs (k + 1) then nth xs (k + 1) else maxTo xs k

theorem clash_hit {xs out : List Int} {n i : Nat} {r : Int} (h : clashR xs out n i r = true) : ∃ k, k < n ∧ nth out k = r := by
  unfold clashR at h
  rw [List.any_eq_true] at h
  obtain ⟨k, hk, h⟩ := h
  rw [Bool.and_eq_true, beq_iff_eq] at h
  have := idL_mem.1 hk
  exact ⟨k.toNat, by omega, h.1⟩
theorem roomF_bounds {xs out : List Int} {n i : Nat} {t : Int} (ht : ∀ k, k < n → nth out k < t) : ∀ f r, r ≤ t → r ≤ roomF xs out n i f r ∧ roomF xs out n i f r ≤ t
  | 0, r, h => ⟨Int.le_refl _, h⟩
  | f + 1, r, h => by
    unfold roomF
    split
    · rename_i hc
      obtain ⟨k, hk, he⟩ := clash_hit hc
      have h1 := ht k hk
      have := roomF_bounds (xs := xs) (i := i) ht f (r + 1) (by omega)
      omega
    · exact ⟨Int.le_refl _, h⟩
theorem roomAt_bounds {xs out : List Int} {n i : Nat} {t : Int} (ht : ∀ k, k < n → nth out k < t) (h0 : 0 ≤ t) : 0 ≤ roomAt xs out n i ∧ roomAt xs out n i ≤ t := roomF_bounds ht n 0 h0
theorem roomF_stop {xs out : List Int} {n i : Nat} {r : Int} (f : Nat) (h : clashR xs out n i r = false) : roomF xs out n i f r = r := by
  cases f with
  | zero => rfl
  | succ f => unfold roomF; rw [if_neg (by rw [h]; simp)]
theorem roomF_next {xs out : List Int} {n i r : Nat} (hr : ∀ k, k < n → nth out k < (n : Int)) (hrn : r ≤ n) (h : clashR xs out n i (r : Int) = true) : r + 1 ≤ n ∧ roomF xs out n i (n - r) r = roomF xs out n i (n - (r + 1)) ((r + 1 : Nat) : Int) := by
  obtain ⟨k, hk, he⟩ := clash_hit h
  have := hr k hk
  refine ⟨by omega, ?_⟩
  obtain ⟨f, hf⟩ : ∃ f, n - r = f + 1 := ⟨n - r - 1, by omega⟩
  rw [hf, show n - (r + 1) = f by omega]
  conv => lhs; unfold roomF
  rw [if_pos h]
  congr 1

theorem nth_replicate {n k : Nat} (h : k < n) : nth (noneL n) k = -1 := by
  unfold noneL
  rw [nth_eq (by simpa using h)]; simp
/-- What is known of the rooms behind t steps. -/
structure RoomsOk (xs : List Int) (n t : Nat) (out : List Int) : Prop where
  len : out.length = n
  lo : ∀ k, k < n → -1 ≤ nth out k
  hi : ∀ k, k < n → nth out k < (t : Int)
  free : ∀ k : Nat, k < n → (nth out k < 0 ↔ (k : Int) ∉ (sortsL (begOf xs) n).take t)
theorem sortsL_len (key : Int → Int) (n : Nat) : (sortsL key n).length = n := by rw [(sortsL_ok key n).1.length_eq, idL_length]
theorem sortsL_mem (key : Int → Int) (n : Nat) (x : Int) : x ∈ sortsL key n ↔ 0 ≤ x ∧ x < (n : Int) := by rw [(sortsL_ok key n).1.mem_iff, idL_mem]
/-- The t-th in the order. -/
theorem sortsL_at {key : Int → Int} {n t : Nat} (h : t < n) : ∃ x suf, sortsL key n = (sortsL key n).take t ++ x :: suf ∧ (sortsL key n).take (t + 1) = (sortsL key n).take t ++ [x] ∧ nth (sortsL key n) t = x ∧ 0 ≤ x ∧ x < (n : Int) := by
  have hl : t < (sortsL key n).length := by rw [sortsL_len]; exact h
  have hx := (sortsL_mem key n _).1 (List.getElem_mem hl)
  exact ⟨(sortsL key n)[t], (sortsL key n).drop (t + 1), by rw [← List.drop_eq_getElem_cons hl, List.take_append_drop], List.take_succ_eq_append_getElem hl, nth_eq hl, hx⟩
theorem sortsL_new {key : Int → Int} {n t : Nat} (h : t < n) : nth (sortsL key n) t ∉ (sortsL key n).take t := by
  intro hm
  obtain ⟨j, hj, he⟩ := List.getElem_of_mem hm
  rw [List.getElem_take] at he
  have hl := sortsL_len key n
  rw [List.length_take] at hj
  have := (sortsL_ok key n).2 j t (Nat.zero_le _) (by omega) h
  rw [nth_eq (by omega), he] at this
  unfold lexLt at this; omega
theorem RoomsOk.zero (xs : List Int) (n : Nat) : RoomsOk xs n 0 (roomsTo xs n 0) := by
  have e : roomsTo xs n 0 = noneL n := rfl
  rw [e]
  refine ⟨by simp [noneL], fun k hk => ?_, fun k hk => ?_, fun k hk => ?_⟩
  · rw [nth_replicate hk]; omega
  · rw [nth_replicate hk]; omega
  · rw [nth_replicate hk]; simp
theorem roomsTo_succ {xs : List Int} {n t : Nat} (h : t < n) : roomsTo xs n (t + 1) = roomStep xs n (roomsTo xs n t) (nth (sortsL (begOf xs) n) t) := by
  obtain ⟨x, suf, _, h2, h3, _⟩ := sortsL_at (key := begOf xs) h
  unfold roomsTo
  rw [h2, List.foldl_append, h3]; rfl
theorem RoomsOk.next {xs : List Int} {n t : Nat} (h : RoomsOk xs n t (roomsTo xs n t)) (ht : t < n) : RoomsOk xs n (t + 1) (roomsTo xs n (t + 1)) := by
  obtain ⟨x, suf, h1, h2, h3, h4, h5⟩ := sortsL_at (key := begOf xs) ht
  rw [roomsTo_succ ht, h3]
  obtain ⟨out, ho⟩ : ∃ out, roomsTo xs n t = out := ⟨_, rfl⟩
  rw [ho] at h ⊢
  obtain ⟨b1, b2⟩ := roomAt_bounds (xs := xs) (i := x.toNat) h.hi (by omega)
  unfold roomStep
  have hn : ∀ k, nth (out.set x.toNat (roomAt xs out n x.toNat)) k = if x.toNat = k then roomAt xs out n x.toNat else nth out k := fun k => nth_set1 _ (by rw [h.len]; omega)
  refine ⟨by rw [List.length_set]; exact h.len, fun k hk => ?_, fun k hk => ?_, fun k hk => ?_⟩
  · rw [hn]; split
    · omega
    · exact h.lo k hk
  · rw [hn]; split
    · omega
    · have := h.hi k hk; omega
  · rw [hn, h2, List.mem_append, not_or]
    split
    · rename_i e
      subst e
      constructor
      · intro h; omega
      · rintro ⟨_, h⟩
        exact absurd (by simp; omega) h
    · rename_i e
      rw [h.free k hk]
      constructor
      · intro h; exact ⟨h, by simp; omega⟩
      · intro h; exact h.1
theorem rooms_ok (xs : List Int) (n : Nat) : ∀ t, t ≤ n → RoomsOk xs n t (roomsTo xs n t)
  | 0, _ => RoomsOk.zero xs n
  | t + 1, h => (rooms_ok xs n t (by omega)).next (by omega)
/-- The next talk by looking is the next in the order. -/
theorem rooms_pick {xs : List Int} {n t : Nat} (ht : t < n) : pickK (fun k => decide (nth (roomsTo xs n t) k < 0)) (begOf xs) n = nth (sortsL (begOf xs) n) t := by
  obtain ⟨x, suf, h1, h2, h3, h4, h5⟩ := sortsL_at (key := begOf xs) ht
  have hr := rooms_ok xs n t (by omega)
  rw [h3]
  refine pick_next (sortsL_ok _ _) h1 (fun y hy => ?_) ?_
  · have hy0 := (sortsL_mem (begOf xs) n y).1 (List.mem_of_mem_take hy)
    have h6 := hr.free y.toNat (by omega)
    rw [show ((y.toNat : Nat) : Int) = y by omega] at h6
    show decide (nth (roomsTo xs n t) y.toNat < 0) = false
    rw [decide_eq_false_iff_not]
    intro h; exact h6.1 h hy
  · have h6 := hr.free x.toNat (by omega)
    rw [show ((x.toNat : Nat) : Int) = x by omega] at h6
    show decide (nth (roomsTo xs n t) x.toNat < 0) = true
    rw [decide_eq_true_eq]
    refine h6.2 ?_
    have := sortsL_new (key := begOf xs) ht
    rwa [h3] at this
theorem maxTo_spec (xs : List Int) : ∀ m, (∀ k, k ≤ m → nth xs k ≤ maxTo xs m) ∧ ∃ k, k ≤ m ∧ nth xs k = maxTo xs m
  | 0 => ⟨fun k hk => by obtain rfl : k = 0 := by omega
                         exact Int.le_refl _, 0, Nat.le_refl _, rfl⟩
  | m + 1 => by
    obtain ⟨h1, k, h2, h3⟩ := maxTo_spec xs m
    unfold maxTo
    split
    · refine ⟨fun j hj => ?_, m + 1, Nat.le_refl _, rfl⟩
      by_cases e : j = m + 1
      · rw [e]; exact Int.le_refl _
      · have := h1 j (by omega); omega
    · refine ⟨fun j hj => ?_, k, by omega, h3⟩
      by_cases e : j = m + 1
      · rw [e]; omega
      · exact h1 j (by omega)
/-- How many rooms there are, as the reference counts them. -/
structure CountOk (n : Nat) (out : List Int) (c : Int) : Prop where
  all : ∀ k, k < n → nth out k < c
  some_ : c = 0 ∨ ∃ k, k < n ∧ nth out k = c - 1
  pos : 0 ≤ c
theorem CountOk.zero (n : Nat) : CountOk n (noneL n) 0 := ⟨fun k hk => by rw [nth_replicate hk]; omega, .inl rfl, Int.le_refl _⟩
theorem CountOk.next {n : Nat} {out : List Int} {c r : Int} {x : Nat} (h : CountOk n out c) (hl : out.length = n) (hx : x < n) (hf : nth out x < 0) (hr : 0 ≤ r) : CountOk n (out.set x r) (if c < r + 1 then r + 1 else c) := by
  have hn : ∀ k, nth (out.set x r) k = if x = k then r else nth out k := fun k => nth_set1 _ (by rw [hl]; omega)
  have hp := h.pos
  refine ⟨fun k hk => ?_, ?_, by split <;> omega⟩
  · have := h.all k hk
    rw [hn]; split <;> split <;> omega
  · right
    split
    · exact ⟨x, hx, by rw [hn, if_pos rfl]; omega⟩
    · rename_i hc
      rcases h.some_ with h0 | ⟨k, hk, he⟩
      · omega
      · refine ⟨k, hk, ?_⟩
        rw [hn, if_neg (fun e => by subst e; omega)]; exact he
theorem CountOk.done {n : Nat} {out : List Int} {c : Int} (h : CountOk n out c) (hn : 1 ≤ n) (h0 : ∀ k, k < n → 0 ≤ nth out k) : c = maxTo out (n - 1) + 1 := by
  obtain ⟨h1, k, h2, h3⟩ := maxTo_spec out (n - 1)
  have h4 := h.all k (by omega)
  rcases h.some_ with h5 | ⟨j, h5, h6⟩
  · have := h0 0 (by omega)
    have := h.all 0 (by omega)
    omega
  · have := h1 j (by omega)
    omega
def roomsR (xs : List Int) : List Int := if talksOk xs then roomsTo xs (xs.length / 2) (xs.length / 2) else []
def roomsC (xs : List Int) : Int := if talksOk xs then maxTo (roomsTo xs (xs.length / 2) (xs.length / 2)) (xs.length / 2 - 1) + 1 else 0
theorem roomsR_small (xs : List Int) : (roomsR xs).length ≤ 32 := by
  unfold roomsR
  split
  · rename_i h
    simp only [talksOk, talksHead, Bool.and_eq_true] at h
    have := many_true.1 h.1.1
    rw [(rooms_ok xs _ _ (Nat.le_refl _)).len]; omega
  · exact Nat.zero_le _
/-- All rooms are told at the end. -/
theorem rooms_all (xs : List Int) (n : Nat) : ∀ k, k < n → 0 ≤ nth (roomsTo xs n n) k := fun k hk => by
  have h := (rooms_ok xs n n (Nat.le_refl _)).free k hk
  have h2 : (k : Int) ∈ (sortsL (begOf xs) n).take n := by
    rw [List.take_of_length_le (by rw [sortsL_len]; exact Nat.le_refl _), sortsL_mem]; omega
  have : ¬ nth (roomsTo xs n n) k < 0 := fun h3 => h.1 h3 h2
  omega
end Go.Proofs.Ytnpfninkopffmaa
