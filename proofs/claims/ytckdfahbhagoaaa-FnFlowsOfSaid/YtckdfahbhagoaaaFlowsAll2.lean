/- slices.SortStableFunc on integers: its insertion sort. Conditions: at most 2^20 elements. With texts that it needs. -/
import Derived.Test.YtckdfahbhagoaaaFlowsAll1
import Derived.Deep.RegionWith
import Derived.Deep.CutRange
namespace Go.Proofs.Ytckdfahbhagoaaa
open Go.RowKit
set_option linter.unusedVariables false
set_option linter.unusedSimpArgs false

/-- x stands before y. -/
def lexLt (key : Int → Int) (x y : Int) : Prop := key x < key y ∨ key x = key y ∧ x < y
theorem lexLt.trans {key : Int → Int} {x y z : Int} (h : lexLt key x y) (k : lexLt key y z) : lexLt key x z := by
  unfold lexLt at *; omega
/-- From a to b it is sorted. -/
def SortedOn (key : Int → Int) (d : List Int) (a b : Nat) : Prop := ∀ i j, a ≤ i → i < j → j < b → lexLt key (nth d i) (nth d j)
theorem SortedOn.sub {key : Int → Int} {d : List Int} {a b a' b' : Nat} (h : SortedOn key d a b) (h1 : a ≤ a') (h2 : b' ≤ b) : SortedOn key d a' b' := fun i j x y z => h i j (by omega) y (by omega)
theorem nth_set1 {l : List Int} {m i : Nat} (v : Int) (hm : m < l.length) : nth (l.set m v) i = if m = i then v else nth l i := by
  unfold nth
  rw [List.getD_eq_getElem?_getD, List.getD_eq_getElem?_getD, List.getElem?_set]
  by_cases h : m = i
  · subst h; simp [hm]
  · simp [h]
def swp2 (d : List Int) (i j : Nat) : List Int := (d.set i (nth d j)).set j (nth d i)
theorem swp2_len (d : List Int) (i j : Nat) : (swp2 d i j).length = d.length := by simp [swp2]
theorem nth_swp2 {d : List Int} {i j : Nat} (hi : i < d.length) (hj : j < d.length) (k : Nat) : nth (swp2 d i j) k = if j = k then nth d i else if i = k then nth d j else nth d k := by
  unfold swp2
  rw [nth_set1 _ (by rw [List.length_set]; exact hj), nth_set1 _ hi]
theorem swp2_perm {d : List Int} {i j : Nat} (hi : i < d.length) (hj : j < d.length) : (swp2 d i j).Perm d := by
  rw [List.perm_iff_count]
  intro x
  unfold swp2
  have h1 : j < (d.set i (nth d j)).length := by rw [List.length_set]; exact hj
  rw [List.count_set h1, List.count_set hi]
  have e1 : (d.set i (nth d j))[j] = if i = j then nth d j else d[j] := by rw [List.getElem_set]
  have ei : d[i] = nth d i := (nth_eq hi).symm
  have ej : d[j] = nth d j := (nth_eq hj).symm
  have hci : (if d[i] == x then 1 else 0) ≤ List.count x d := by
    split
    · rename_i h
      have : x ∈ d := by rw [← (beq_iff_eq.1 h)]; exact List.getElem_mem hi
      exact List.one_le_count_iff.2 this
    · omega
  rw [e1]
  by_cases hij : i = j
  · subst hij
    simp only [if_true, ei] at *
    omega
  · simp only [if_neg hij, ei, ej] at *
    have hcj : nth d i ≠ nth d j → (if nth d i == x then 1 else 0) + (if nth d j == x then 1 else 0) ≤ 1 := fun hne => by
      by_cases ha : nth d i = x
      · have hb : ¬ nth d j = x := fun hb => hne (ha.trans hb.symm)
        simp [ha, hb]
      · simp only [beq_iff_eq, ha, if_false]; split <;> omega
    omega

/-! Insertion. -/
/-- The element at j is being put in; all else from a to i is sorted, and what stands behind it is greater. -/
structure InsInv (key : Int → Int) (d : List Int) (a i j : Nat) : Prop where
  aj : a ≤ j
  ji : j ≤ i
  rest : ∀ p q, a ≤ p → p < q → q ≤ i → p ≠ j → q ≠ j → lexLt key (nth d p) (nth d q)
  more : ∀ q, j < q → q ≤ i → key (nth d j) < key (nth d q)
  last : ∀ p, a ≤ p → p < j → nth d p < nth d j
theorem InsInv.start {key : Int → Int} {d : List Int} {a i : Nat} (hs : SortedOn key d a i) (ha : a ≤ i) (hl : ∀ p, a ≤ p → p < i → nth d p < nth d i) : InsInv key d a i i :=
  ⟨ha, Nat.le_refl _, fun p q h1 h2 h3 h4 h5 => hs p q h1 h2 (by omega), fun q h1 h2 => by omega, hl⟩
theorem InsInv.step {key : Int → Int} {d : List Int} {a i j : Nat} (h : InsInv key d a i j) (haj : a < j) (hi : i < d.length) (hk : key (nth d j) < key (nth d (j - 1))) : InsInv key (swp2 d j (j - 1)) a i (j - 1) := by
  have hji := h.ji
  have hn : ∀ k, nth (swp2 d j (j - 1)) k = if j - 1 = k then nth d j else if j = k then nth d (j - 1) else nth d k := fun k => nth_swp2 (by omega) (by omega) k
  refine ⟨by omega, by omega, fun p q h1 h2 h3 h4 h5 => ?_, fun q h1 h2 => ?_, fun p h1 h2 => ?_⟩
  · rw [hn p, hn q, if_neg (Ne.symm h4), if_neg (Ne.symm h5)]
    by_cases hp : j = p
    · subst hp
      rw [if_pos rfl, if_neg (by omega)]
      exact h.rest (j - 1) q (by omega) (by omega) h3 (by omega) (by omega)
    · rw [if_neg hp]
      by_cases hq : j = q
      · subst hq
        rw [if_pos rfl]
        exact h.rest p (j - 1) h1 (by omega) (by omega) (by omega) (by omega)
      · rw [if_neg hq]
        exact h.rest p q h1 h2 h3 (Ne.symm hp) (Ne.symm hq)
  · rw [hn (j - 1), hn q, if_pos rfl, if_neg (by omega)]
    by_cases hq : j = q
    · rw [if_pos hq]; exact hk
    · rw [if_neg hq]; exact h.more q (by omega) h2
  · rw [hn (j - 1), hn p, if_pos rfl, if_neg (by omega), if_neg (by omega)]
    exact h.last p h1 (by omega)
theorem InsInv.done {key : Int → Int} {d : List Int} {a i j : Nat} (h : InsInv key d a i j) (he : j = a ∨ ¬ key (nth d j) < key (nth d (j - 1))) : SortedOn key d a (i + 1) := by
  intro p q h1 h2 h3
  by_cases hp : p = j
  · subst hp; exact .inl (h.more q h2 (by omega))
  by_cases hq : q = j
  · subst hq
    have hpr : lexLt key (nth d (q - 1)) (nth d q) := by
      rcases he with he | he
      · omega
      · have := h.last (q - 1) (by omega) (by omega)
        unfold lexLt; omega
    by_cases hpq : p = q - 1
    · rw [hpq]; exact hpr
    · exact (h.rest p (q - 1) h1 (by omega) (by have := h.ji; omega) hp (by omega)).trans hpr
  exact h.rest p q h1 h2 (by omega) hp hq

/-! Rotation and merging. -/
/-- Of d, only the places from a to b have changed, and they hold what stood there. -/
structure SegSame (d d' : List Int) (a b : Nat) : Prop where
  len : d'.length = d.length
  out : ∀ k, k < a ∨ b ≤ k → nth d' k = nth d k
  mem : ∀ k, a ≤ k → k < b → ∃ k', a ≤ k' ∧ k' < b ∧ nth d' k = nth d k'
  perm : d'.Perm d
theorem SegSame.refl (d : List Int) (a b : Nat) : SegSame d d a b := ⟨rfl, fun _ _ => rfl, fun k h1 h2 => ⟨k, h1, h2, rfl⟩, List.Perm.refl _⟩
theorem SegSame.trans {d d' d'' : List Int} {a b : Nat} (h : SegSame d d' a b) (k : SegSame d' d'' a b) : SegSame d d'' a b :=
  ⟨k.len.trans h.len, fun q hq => (k.out q hq).trans (h.out q hq), fun q h1 h2 => by
    obtain ⟨q', a1, a2, a3⟩ := k.mem q h1 h2
    obtain ⟨q'', b1, b2, b3⟩ := h.mem q' a1 a2
    exact ⟨q'', b1, b2, a3.trans b3⟩, k.perm.trans h.perm⟩
theorem SegSame.wide {d d' : List Int} {a b a' b' : Nat} (h : SegSame d d' a b) (h1 : a' ≤ a) (h2 : b ≤ b') : SegSame d d' a' b' :=
  ⟨h.len, fun k hk => h.out k (by omega), fun k k1 k2 => by
    by_cases hk : a ≤ k ∧ k < b
    · obtain ⟨k', x, y, z⟩ := h.mem k hk.1 hk.2
      exact ⟨k', by omega, by omega, z⟩
    · exact ⟨k, k1, k2, h.out k (by omega)⟩, h.perm⟩
theorem SegSame.swap {d : List Int} {a b i j : Nat} (hb : b ≤ d.length) (h1 : a ≤ i) (h2 : i < b) (h3 : a ≤ j) (h4 : j < b) : SegSame d (swp2 d i j) a b := by
  have hn := fun k => nth_swp2 (d := d) (i := i) (j := j) (by omega) (by omega) k
  refine ⟨swp2_len _ _ _, fun k hk => ?_, fun k k1 k2 => ?_, swp2_perm (by omega) (by omega)⟩
  · rw [hn, if_neg (by omega), if_neg (by omega)]
  · rw [hn]
    by_cases e1 : j = k
    · rw [if_pos e1]; exact ⟨i, h1, h2, rfl⟩
    · rw [if_neg e1]
      by_cases e2 : i = k
      · rw [if_pos e2]; exact ⟨j, h3, h4, rfl⟩
      · rw [if_neg e2]; exact ⟨k, k1, k2, rfl⟩
/-- Two sorted pieces, that on the left elder. -/
structure MergePre (key : Int → Int) (d : List Int) (a m b : Nat) : Prop where
  l : SortedOn key d a m
  r : SortedOn key d m b
  side : ∀ p q, a ≤ p → p < m → m ≤ q → q < b → key (nth d p) = key (nth d q) → nth d p < nth d q
/-- What stood from m to e stands from s on, what stood from s to m behind it. -/
structure Rotated (d d' : List Int) (s m e : Nat) : Prop where
  len : d'.length = d.length
  out : ∀ k, k < s ∨ e ≤ k → nth d' k = nth d k
  lo : ∀ k, k < e - m → nth d' (s + k) = nth d (m + k)
  hi : ∀ k, k < m - s → nth d' (s + (e - m) + k) = nth d (s + k)
/-- Where the two pieces are parted, the halves are. -/
theorem merge_halves {key : Int → Int} {d d' : List Int} {a m b s e mid : Nat} (h : MergePre key d a m b) (hr : Rotated d d' s m e) (has : a ≤ s) (hsm : s ≤ m) (hme : m ≤ e) (heb : e ≤ b) (hmid : mid = s + (e - m))
    (h1 : ∀ p q, a ≤ p → p < s → e ≤ q → q < b → lexLt key (nth d p) (nth d q)) (h2 : ∀ p q, m ≤ p → p < e → s ≤ q → q < m → lexLt key (nth d p) (nth d q)) :
    MergePre key d' a s mid ∧ MergePre key d' mid e b ∧ ∀ p q, a ≤ p → p < mid → mid ≤ q → q < b → lexLt key (nth d' p) (nth d' q) := by
  have lo : ∀ k, s ≤ k → k < mid → nth d' k = nth d (m + (k - s)) := fun k k1 k2 => by
    have := hr.lo (k - s) (by omega)
    rwa [show s + (k - s) = k by omega] at this
  have hi : ∀ k, mid ≤ k → k < e → nth d' k = nth d (s + (k - mid)) := fun k k1 k2 => by
    have := hr.hi (k - mid) (by omega)
    rwa [show s + (e - m) + (k - mid) = k by omega] at this
  have ol : ∀ k, k < s → nth d' k = nth d k := fun k hk => hr.out k (.inl hk)
  have oh : ∀ k, e ≤ k → nth d' k = nth d k := fun k hk => hr.out k (.inr hk)
  refine ⟨⟨fun i j x y z => ?_, fun i j x y z => ?_, fun p q x y z t hk => ?_⟩, ⟨fun i j x y z => ?_, fun i j x y z => ?_, fun p q x y z t hk => ?_⟩, fun p q x y z t => ?_⟩
  · rw [ol i (by omega), ol j (by omega)]; exact h.l i j x y (by omega)
  · rw [lo i x (by omega), lo j (by omega) z]; exact h.r _ _ (by omega) (by omega) (by omega)
  · rw [ol p y, lo q z t] at hk ⊢
    exact h.side _ _ x (by omega) (by omega) (by omega) hk
  · rw [hi i x (by omega), hi j (by omega) z]; exact h.l _ _ (by omega) (by omega) (by omega)
  · rw [oh i x, oh j (by omega)]; exact h.r _ _ (by omega) y z
  · rw [hi p x y, oh q z] at hk ⊢
    exact h.side _ _ (by omega) (by omega) (by omega) t hk
  · by_cases hp : p < s
    · rw [ol p hp]
      by_cases hq : q < e
      · rw [hi q z hq]; exact h.l _ _ x (by omega) (by omega)
      · rw [oh q (by omega)]; exact h1 _ _ x hp (by omega) t
    · rw [lo p (by omega) y]
      by_cases hq : q < e
      · rw [hi q z hq]; exact h2 _ _ (by omega) (by omega) (by omega) (by omega)
      · rw [oh q (by omega)]; exact h.r _ _ (by omega) (by omega) t
/-- Two sorted halves, each of the first before each of the second. -/
theorem halves_sorted {key : Int → Int} {d d' : List Int} {a mid b : Nat} (hd : ∀ p q, a ≤ p → p < mid → mid ≤ q → q < b → lexLt key (nth d p) (nth d q)) (ham : a ≤ mid) (hmb : mid ≤ b)
    (h1 : SortedOn key d' a mid) (h2 : SortedOn key d' mid b) (m1 : ∀ k, a ≤ k → k < mid → ∃ k', a ≤ k' ∧ k' < mid ∧ nth d' k = nth d k') (m2 : ∀ k, mid ≤ k → k < b → ∃ k', mid ≤ k' ∧ k' < b ∧ nth d' k = nth d k') : SortedOn key d' a b := by
  intro i j x y z
  by_cases hi : i < mid
  · by_cases hj : j < mid
    · exact h1 i j x y hj
    · obtain ⟨i', a1, a2, a3⟩ := m1 i x hi
      obtain ⟨j', b1, b2, b3⟩ := m2 j (by omega) z
      rw [a3, b3]; exact hd _ _ a1 a2 b1 b2
  · exact h2 i j (by omega) y z
/-- The search of the place where the pieces are parted. -/
structure Search (key : Int → Int) (d : List Int) (p s0 r0 s r : Nat) : Prop where
  s0s : s0 ≤ s
  sr : s ≤ r
  rr : r ≤ r0
  no : ∀ c, s0 ≤ c → c < s → ¬ key (nth d (p - c)) < key (nth d c)
  yes : ∀ c, r ≤ c → c < r0 → key (nth d (p - c)) < key (nth d c)
theorem Search.start (key : Int → Int) (d : List Int) {p s0 r0 : Nat} (h : s0 ≤ r0) : Search key d p s0 r0 s0 r0 := ⟨Nat.le_refl _, h, Nat.le_refl _, fun c h1 h2 => by omega, fun c h1 h2 => by omega⟩
/-- Both pieces are sorted: what holds at c holds before it, or behind it. -/
theorem Search.low {key : Int → Int} {d : List Int} {a m b p s0 r0 s r c : Nat} (h : Search key d p s0 r0 s r) (hm : MergePre key d a m b) (hs : s ≤ c) (hr : c < r) (ha : a ≤ s0) (hrm : r0 ≤ m) (hp1 : ∀ c, s0 ≤ c → c < r0 → m ≤ p - c ∧ p - c < b ∧ c ≤ p) (hk : ¬ key (nth d (p - c)) < key (nth d c)) : Search key d p s0 r0 (c + 1) r := by
  have e1 := h.s0s
  have e2 := h.rr
  refine ⟨by omega, by omega, h.rr, fun q h1 h2 => ?_, h.yes⟩
  by_cases hq : q = c
  · rw [hq]; exact hk
  obtain ⟨u1, u2, u3⟩ := hp1 q h1 (by omega)
  obtain ⟨v1, v2, v3⟩ := hp1 c (by omega) (by omega)
  have k1 := hm.l q c (by omega) (by omega) (by omega)
  have k2 := hm.r (p - c) (p - q) v1 (by omega) u2
  unfold lexLt at k1 k2
  omega
theorem Search.high {key : Int → Int} {d : List Int} {a m b p s0 r0 s r c : Nat} (h : Search key d p s0 r0 s r) (hm : MergePre key d a m b) (hs : s ≤ c) (hr : c < r) (ha : a ≤ s0) (hrm : r0 ≤ m) (hp1 : ∀ c, s0 ≤ c → c < r0 → m ≤ p - c ∧ p - c < b ∧ c ≤ p) (hk : key (nth d (p - c)) < key (nth d c)) : Search key d p s0 r0 s c := by
  have e1 := h.s0s
  have e2 := h.rr
  refine ⟨h.s0s, hs, by omega, h.no, fun q h1 h2 => ?_⟩
  by_cases hq : q = c
  · rw [hq]; exact hk
  obtain ⟨u1, u2, u3⟩ := hp1 q (by omega) h2
  obtain ⟨v1, v2, v3⟩ := hp1 c (by omega) (by omega)
  have k1 := hm.l c q (by omega) (by omega) (by omega)
  have k2 := hm.r (p - q) (p - c) u1 (by omega) v2
  unfold lexLt at k1 k2
  omega
theorem Search.parts {key : Int → Int} {d : List Int} {a m b mid s0 r0 s : Nat} (h : Search key d (mid + m - 1) s0 r0 s s) (hm : MergePre key d a m b) (ham : a < m) (hmb : m < b) (hmid : mid = (a + b) / 2) (h0 : m > mid ∧ s0 = mid + m - b ∧ r0 = mid ∨ m ≤ mid ∧ s0 = a ∧ r0 = m) :
    a ≤ s ∧ s ≤ m ∧ s ≤ mid ∧ m ≤ mid + m - s ∧ mid + m - s ≤ b ∧ mid = s + (mid + m - s - m) ∧
    (∀ p q, a ≤ p → p < s → mid + m - s ≤ q → q < b → lexLt key (nth d p) (nth d q)) ∧ (∀ p q, m ≤ p → p < mid + m - s → s ≤ q → q < m → lexLt key (nth d p) (nth d q)) := by
  have e1 := h.s0s
  have e2 := h.rr
  have hms : s ≤ mid := by omega
  have hsm : s ≤ m := by omega
  refine ⟨by omega, hsm, hms, by omega, by omega, by omega, fun p q h1 h2 h3 h4 => ?_, fun p q h1 h2 h3 h4 => ?_⟩
  · have hs : s0 < s := by
      rcases Nat.lt_or_eq_of_le e1 with h | h
      · exact h
      · omega
    have k := h.no (s - 1) (by omega) (by omega)
    rw [show mid + m - 1 - (s - 1) = mid + m - s by omega] at k
    have sd := hm.side (s - 1) (mid + m - s) (by omega) (by omega) (by omega) (by omega)
    have c1 : lexLt key (nth d (s - 1)) (nth d (mid + m - s)) := by
      unfold lexLt
      by_cases he : key (nth d (s - 1)) = key (nth d (mid + m - s))
      · exact .inr ⟨he, sd he⟩
      · exact .inl (by omega)
    have c2 : lexLt key (nth d p) (nth d (mid + m - s)) := by
      by_cases hp : p = s - 1
      · rw [hp]; exact c1
      · exact (hm.l p (s - 1) h1 (by omega) (by omega)).trans c1
    by_cases hq : q = mid + m - s
    · rw [hq]; exact c2
    · exact c2.trans (hm.r _ q (by omega) (by omega) h4)
  · have hs : s < r0 := by
      rcases Nat.lt_or_eq_of_le e2 with h | h
      · exact h
      · omega
    have k := h.yes s (Nat.le_refl _) hs
    rw [show mid + m - 1 - s = mid + m - s - 1 by omega] at k
    have c1 : lexLt key (nth d (mid + m - s - 1)) (nth d s) := .inl k
    have c2 : lexLt key (nth d p) (nth d s) := by
      by_cases hp : p = mid + m - s - 1
      · rw [hp]; exact c1
      · exact (hm.r p (mid + m - s - 1) h1 (by omega) (by omega)).trans c1
    by_cases hq : q = s
    · rw [hq]; exact c2
    · exact c2.trans (hm.l s q (by omega) (by omega) h4)
/-! Exchanges of ranges; rotation. -/
structure Swapped (D E : List Int) (x y n : Nat) : Prop where
  len : E.length = D.length
  lo : ∀ k, k < n → nth E (x + k) = nth D (y + k)
  hi : ∀ k, k < n → nth E (y + k) = nth D (x + k)
  out : ∀ k, k < x ∨ x + n ≤ k ∧ k < y ∨ y + n ≤ k → nth E k = nth D k
theorem Swapped.zero (D : List Int) (x y : Nat) : Swapped D D x y 0 := ⟨rfl, fun k h => absurd h (Nat.not_lt_zero _), fun k h => absurd h (Nat.not_lt_zero _), fun _ _ => rfl⟩
theorem Swapped.step {D E : List Int} {x y n k : Nat} (h : Swapped D E x y k) (hk : k < n) (hxy : x + n ≤ y) (hy : y + n ≤ D.length) : Swapped D (swp2 E (x + k) (y + k)) x y (k + 1) := by
  have hn := fun q => nth_swp2 (d := E) (i := x + k) (j := y + k) (by rw [h.len]; omega) (by rw [h.len]; omega) q
  refine ⟨by rw [swp2_len, h.len], fun q hq => ?_, fun q hq => ?_, fun q hq => ?_⟩
  · rw [hn, if_neg (by omega)]
    by_cases e : q = k
    · rw [e, if_pos rfl, h.out (y + k) (by omega)]
    · rw [if_neg (by omega), h.lo q (by omega)]
  · rw [hn]
    by_cases e : q = k
    · rw [e, if_pos rfl, h.out (x + k) (by omega)]
    · rw [if_neg (by omega), if_neg (by omega), h.hi q (by omega)]
  · rw [hn, if_neg (by omega), if_neg (by omega)]
    exact h.out q (by omega)
theorem Rotated.none_l (d : List Int) {s m e : Nat} (h : s = m) : Rotated d d s m e := ⟨rfl, fun _ _ => rfl, fun k _ => by rw [h], fun k hk => by omega⟩
theorem Rotated.none_r (d : List Int) {s m e : Nat} (h : e = m) : Rotated d d s m e := ⟨rfl, fun _ _ => rfl, fun k hk => by omega, fun k hk => by rw [h]; congr 1; omega⟩
theorem rot_eq {D E : List Int} {m i : Nat} (h : Swapped D E (m - i) m i) (him : i ≤ m) : Rotated D E (m - i) m (m + i) :=
  ⟨h.len, fun k hk => h.out k (by omega), fun k hk => h.lo k (by omega), fun k hk => by
    have := h.hi k (by omega)
    rwa [show m - i + (m + i - m) + k = m + k by omega]⟩
theorem rot_gt {D E F : List Int} {m i j : Nat} (h : Swapped D E (m - i) m j) (hji : j < i) (him : i ≤ m) (hr : Rotated E F (m - (i - j)) m (m + j)) : Rotated D F (m - i) m (m + j) := by
  refine ⟨hr.len.trans h.len, fun k hk => ?_, fun k hk => ?_, fun k hk => ?_⟩
  · rw [hr.out k (by omega)]; exact h.out k (by omega)
  · rw [hr.out (m - i + k) (by omega)]; exact h.lo k (by omega)
  · -- the place m - i + j + k
    by_cases hkj : k < j
    · have h1 := hr.lo k (by omega)
      rw [show m - (i - j) + k = m - i + (m + j - m) + k by omega] at h1
      rw [h1]; exact h.hi k hkj
    · have h1 := hr.hi (k - j) (by omega)
      rw [show m - (i - j) + (m + j - m) + (k - j) = m - i + (m + j - m) + k by omega] at h1
      rw [h1, show m - (i - j) + (k - j) = m - i + k by omega]
      exact h.out _ (by omega)
theorem rot_lt {D E F : List Int} {m i j : Nat} (h : Swapped D E (m - i) (m + j - i) i) (hij : i < j) (him : i ≤ m) (hr : Rotated E F (m - i) m (m + (j - i))) : Rotated D F (m - i) m (m + j) := by
  refine ⟨hr.len.trans h.len, fun k hk => ?_, fun k hk => ?_, fun k hk => ?_⟩
  · rw [hr.out k (by omega)]; exact h.out k (by omega)
  · by_cases hk2 : k < j - i
    · have h1 := hr.lo k (by omega)
      rw [h1]; exact h.out _ (by omega)
    · have h1 := hr.hi (k - (j - i)) (by omega)
      rw [show m - i + (m + (j - i) - m) + (k - (j - i)) = m - i + k by omega] at h1
      rw [h1]
      have h2 := h.lo (k - (j - i)) (by omega)
      rw [show m - i + (k - (j - i)) = m - i + (k - (j - i)) from rfl] at h2
      rw [h2]
      congr 1; omega
  · rw [hr.out (m - i + (m + j - m) + k) (by omega)]
    have h1 := h.hi k (by omega)
    rw [show m + j - i + k = m - i + (m + j - m) + k by omega] at h1
    exact h1
/-- One element goes to the right, or to the left. -/
theorem Rotated.right {d D : List Int} {a k : Nat} (h : Rotated d D a (a + 1) (k + 1)) (hak : a ≤ k) (hk : k + 1 < d.length) : Rotated d (swp2 D k (k + 1)) a (a + 1) (k + 2) := by
  have hn := fun q => nth_swp2 (d := D) (i := k) (j := k + 1) (by rw [h.len]; omega) (by rw [h.len]; omega) q
  have hx : nth D k = nth d a := by
    have := h.hi 0 (by omega)
    rwa [show a + (k + 1 - (a + 1)) + 0 = k by omega, Nat.add_zero] at this
  refine ⟨by rw [swp2_len, h.len], fun q hq => ?_, fun q hq => ?_, fun q hq => ?_⟩
  · rw [hn, if_neg (by omega), if_neg (by omega)]; exact h.out q (by omega)
  · rw [hn, if_neg (by omega)]
    by_cases e : k = a + q
    · rw [if_pos e, h.out (k + 1) (by omega), e]; congr 1; omega
    · rw [if_neg e]; exact h.lo q (by omega)
  · obtain rfl : q = 0 := by omega
    rw [hn, if_pos (by omega), hx, Nat.add_zero]
theorem Rotated.left {d D : List Int} {k m : Nat} (h : Rotated d D k m (m + 1)) (h0 : 0 < k) (hkm : k ≤ m) (hm : m < d.length) : Rotated d (swp2 D k (k - 1)) (k - 1) m (m + 1) := by
  have hn := fun q => nth_swp2 (d := D) (i := k) (j := k - 1) (by rw [h.len]; omega) (by rw [h.len]; omega) q
  have hx : nth D k = nth d m := by
    have := h.lo 0 (by omega)
    rwa [Nat.add_zero, Nat.add_zero] at this
  refine ⟨by rw [swp2_len, h.len], fun q hq => ?_, fun q hq => ?_, fun q hq => ?_⟩
  · rw [hn, if_neg (by omega), if_neg (by omega)]; exact h.out q (by omega)
  · obtain rfl : q = 0 := by omega
    rw [hn, if_pos (by omega), hx, Nat.add_zero]
  · rw [hn, if_neg (by omega)]
    by_cases e : q = 0
    · subst e
      rw [if_pos (by omega), h.out (k - 1) (by omega), Nat.add_zero]
    · rw [if_neg (by omega)]
      have := h.hi (q - 1) (by omega)
      rw [show k + (m + 1 - m) + (q - 1) = k - 1 + (m + 1 - m) + q by omega, show k + (q - 1) = k - 1 + q by omega] at this
      exact this
theorem sorted_join {key : Int → Int} {d : List Int} {a mid b : Nat} (ham : a ≤ mid) (hmb : mid ≤ b) (h1 : SortedOn key d a mid) (h2 : SortedOn key d mid b) (hd : ∀ p q, a ≤ p → p < mid → mid ≤ q → q < b → lexLt key (nth d p) (nth d q)) : SortedOn key d a b :=
  halves_sorted hd ham hmb h1 h2 (fun k k1 k2 => ⟨k, k1, k2, rfl⟩) (fun k k1 k2 => ⟨k, k1, k2, rfl⟩)
/-- One element on the left. -/
theorem merge_one_l {key : Int → Int} {d d' : List Int} {a b i : Nat} (h : MergePre key d a (a + 1) b) (hi1 : a + 1 ≤ i) (hi2 : i ≤ b) (hlo : ∀ c, a + 1 ≤ c → c < i → key (nth d c) < key (nth d a)) (hhi : ∀ c, i ≤ c → c < b → ¬ key (nth d c) < key (nth d a)) (hr : Rotated d d' a (a + 1) i) : SortedOn key d' a b := by
  have hc : ∀ q, i ≤ q → q < b → lexLt key (nth d a) (nth d q) := fun q q1 q2 => by
    have k := hhi q q1 q2
    have s := h.side a q (Nat.le_refl _) (by omega) (by omega) q2
    unfold lexLt
    by_cases e : key (nth d a) = key (nth d q)
    · exact .inr ⟨e, s e⟩
    · exact .inl (by omega)
  obtain ⟨m1, m2, m3⟩ := merge_halves (mid := a + (i - (a + 1))) h hr (Nat.le_refl _) (by omega) hi1 hi2 rfl (fun p q p1 p2 => by omega) (fun p q p1 p2 q1 q2 => by
    obtain rfl : q = a := by omega
    exact .inl (hlo p p1 p2))
  refine sorted_join (by omega) (by omega) m1.r ?_ m3
  refine sorted_join (mid := i) (by omega) hi2 m2.l m2.r fun p q p1 p2 q1 q2 => ?_
  obtain rfl : p = a + (i - (a + 1)) := by omega
  have := hr.hi 0 (by omega)
  rw [Nat.add_zero, Nat.add_zero] at this
  rw [this, hr.out q (.inr q1)]
  exact hc q q1 q2
/-- One element on the right. -/
theorem merge_one_r {key : Int → Int} {d d' : List Int} {a m i : Nat} (h : MergePre key d a m (m + 1)) (hi1 : a ≤ i) (hi2 : i ≤ m) (hlo : ∀ c, a ≤ c → c < i → ¬ key (nth d m) < key (nth d c)) (hhi : ∀ c, i ≤ c → c < m → key (nth d m) < key (nth d c)) (hr : Rotated d d' i m (m + 1)) : SortedOn key d' a (m + 1) := by
  obtain ⟨m1, m2, m3⟩ := merge_halves (mid := i + (m + 1 - m)) h hr hi1 hi2 (by omega) (Nat.le_refl _) rfl (fun p q p1 p2 q1 q2 => by omega) (fun p q p1 p2 q1 q2 => by
    obtain rfl : p = m := by omega
    exact .inl (hhi q q1 q2))
  refine sorted_join (by omega) (by omega) ?_ m2.l m3
  refine sorted_join (mid := i) hi1 (by omega) m1.l m1.r fun p q p1 p2 q1 q2 => ?_
  obtain rfl : q = i := by omega
  have hq := hr.lo 0 (by omega)
  rw [Nat.add_zero, Nat.add_zero] at hq
  rw [hq, hr.out p (.inl p2)]
  have k := hlo p p1 p2
  have s := h.side p m p1 (by omega) (Nat.le_refl _) (by omega)
  unfold lexLt
  by_cases e : key (nth d p) = key (nth d m)
  · exact .inr ⟨e, s e⟩
  · exact .inl (by omega)
end Go.Proofs.Ytckdfahbhagoaaa

namespace Go.Proofs.Ytckdfahbhagoaaa
open Go.RowKit
set_option linter.unusedVariables false
set_option linter.unusedSimpArgs false

def marks (k : Int) (n : Nat) : List Int := (List.range n).map fun (i : Nat) => k + (i : Int)
theorem marks_length (k : Int) (n : Nat) : (marks k n).length = n := by simp [marks]
theorem marks_get (k : Int) (n i : Nat) (h : i < (marks k n).length) : (marks k n)[i] = k + i := by simp [marks]

/-- What stands when j marks have been laid. -/
def markTo (k : Int) (xs : List Int) (j : Nat) : List Int := marks k j ++ xs.drop j
theorem markTo_length (k : Int) (xs : List Int) (j : Nat) (h : j ≤ xs.length) : (markTo k xs j).length = xs.length := by simp [markTo, marks_length]; omega
theorem markTo_set (k : Int) (xs : List Int) (j : Nat) (h : j < xs.length) : (markTo k xs j).set j (k + j) = markTo k xs (j + 1) := by
  unfold markTo
  apply List.ext_getElem
  · simp [marks_length]; omega
  · intro i h1 h2
    have h1' : i < xs.length := by simp [marks_length] at h1; omega
    rw [List.getElem_set]
    split
    · rename_i e; subst e
      rw [List.getElem_append_left (by rw [marks_length]; omega), marks_get]
    · rename_i e
      by_cases h3 : i < j
      · rw [List.getElem_append_left (by rw [marks_length]; omega), List.getElem_append_left (by rw [marks_length]; omega), marks_get, marks_get]
      · rw [List.getElem_append_right (by rw [marks_length]; omega), List.getElem_append_right (by rw [marks_length]; omega)]
        simp only [marks_length, List.getElem_drop]
        congr 1; omega

/-- A store into a row of the call's own. -/
theorem OwnI.store {w : World} {N g n c : Nat} {xs : List Int} (h : OwnI w N (.slice (some ⟨g, 0, none⟩) n c) xs) (hn : n = xs.length) (j : Nat) (hj : j < xs.length) (y : Int) :
    w.cell? ⟨g, j, none⟩ = some (.int .i64 xs[j]) ∧ w.frozen? ⟨g, j, none⟩ = false ∧ OwnI (w.setCell ⟨g, j, none⟩ (.int .i64 y)) N (.slice (some ⟨g, 0, none⟩) n c) (xs.set j y) ∧ w.grownBy (w.setCell ⟨g, j, none⟩ (.int .i64 y)) (some g) := by
  subst hn
  have h' : w.ownsRow N 2 1 (.slice (some ⟨g, 0, none⟩) xs.length c) xs.length (xs.map (Value.int .i64)) := h
  obtain ⟨h1, h2⟩ := h'.stored j (.int .i64 y)
  refine ⟨?_, h'.frozenAt j, ?_, h2⟩
  · rw [h'.cellAt j (by omega), List.getElem?_map, List.getElem?_eq_getElem hj]; rfl
  · unfold OwnI
    rw [List.length_set, List.map_set]; exact h1

theorem OwnI.at_ {w : World} {N g n c : Nat} {xs : List Int} (h : OwnI w N (.slice (some ⟨g, 0, none⟩) n c) xs) (hn : n = xs.length) (j : Nat) (hj : j < xs.length) : w.cell? ⟨g, j, none⟩ = some (.int .i64 (nth xs j)) := by
  rw [nth_eq hj]; exact (h.store hn j hj 0).1

theorem grownBy_refl (w : World) (row : Option Nat) : w.grownBy w row := ⟨rfl, rfl, rfl, Nat.le_refl _, fun _ _ _ => rfl⟩
theorem grownBy_trans {a b c : World} {row : Option Nat} (h : a.grownBy b row) (k : b.grownBy c row) : a.grownBy c row :=
  ⟨k.os.trans h.os, k.tape.trans h.tape, k.output.trans h.output, Nat.le_trans h.size k.size, fun i hi hne => (k.block i (by have := h.size; omega) hne).trans (h.block i hi hne)⟩

theorem OwnI.nil_or {w : World} {N : Nat} {v : Value} {xs : List Int} (h : OwnI w N v xs) : (v = .slice none 0 0 ∧ xs = []) ∨ ∃ g c, v = .slice (some ⟨g, 0, none⟩) xs.length c := by
  rcases h.2 with ⟨h1, h2⟩ | ⟨g, cap, cur, h1, _⟩
  · exact .inl ⟨h1, List.eq_nil_of_length_eq_zero h2⟩
  · exact .inr ⟨g, cap, h1⟩

/-- A slice of the call's own whose block lies below hi. -/
structure Own2 (w : World) (lo hi : Nat) (v : Value) (xs : List Int) : Prop where
  own : OwnI w lo v xs
  hi : ∀ k, v.ownBlock = some k → k < hi
theorem Own2.of {w : World} {lo : Nat} {v : Value} {xs : List Int} (h : OwnI w lo v xs) : Own2 w lo w.heap.size v xs := ⟨h, fun k hk => (h.lt k hk).2⟩
theorem Own2.below {w w' : World} {lo hi : Nat} {v : Value} {xs : List Int} (h : Own2 w lo hi v xs) (hb : Below w.heap.size w w') : Own2 w' lo hi v xs := ⟨h.own.below hb (Nat.le_refl _), h.hi⟩
theorem Own2.grown {w w' : World} {lo hi lo' hi' : Nat} {v u : Value} {xs ys : List Int} (h : Own2 w lo hi v xs) (k : Own2 w lo' hi' u ys) (hg : w.grownBy w' u.ownBlock) (hd : hi ≤ lo' ∨ hi' ≤ lo) : Own2 w' lo hi v xs := by
  refine ⟨h.own.kept hg ?_, h.hi⟩
  cases hv : v.ownBlock with
  | none => exact .inl rfl
  | some j =>
    refine .inr (fun e => ?_)
    have h1 := h.own.lt j hv
    have h2 := h.hi j hv
    have h3 := k.own.lt j e.symm
    have h4 := k.hi j e.symm
    omega
theorem Own2.marked {w w' : World} {lo hi : Nat} {v : Value} {xs ys : List Int} (h : Own2 w lo hi v xs) (k : OwnI w' lo v ys) : Own2 w' lo hi v ys := ⟨k, h.hi⟩
theorem Own2.ints {w : World} {lo hi : Nat} {v : Value} {xs : List Int} (h : Own2 w lo hi v xs) : Ints w v xs := h.own.ints
theorem Below.marked {B : Nat} {w W W' : World} {lo hi : Nat} {v : Value} {xs : List Int} (h : Below B w W) (k : Own2 W lo hi v xs) (hg : W.grownBy W' v.ownBlock) (hlo : B ≤ lo) (hB : B ≤ W.heap.size) : Below B w W' :=
  h.grown hg hB (fun j e => by have := (k.own.lt j e).1; omega)
end Go.Proofs.Ytckdfahbhagoaaa

namespace Go.Proofs.Ytckdfahbhagoaaa
open Go.RowKit
set_option linter.unusedVariables false
set_option linter.unusedSimpArgs false

theorem OwnI.block {W : World} {N g n c : Nat} {ys : List Int} (h : OwnI W N (.slice (some ⟨g, 0, none⟩) n c) ys) : ∃ cur, W.heap[g]? = some (.cells cur 2 (0, 0)) := by
  rcases h.2 with ⟨h1, _⟩ | ⟨g', cap, cur, h1, _, h2, _⟩
  · cases h1
  · obtain ⟨rfl, _⟩ : g = g' ∧ True := by
      simp at h1; exact ⟨h1.1, trivial⟩
    exact ⟨cur, h2⟩
theorem OwnI.ne_box {W : World} {N g n c b : Nat} {t : TypeId} {u : Value} {ys : List Int} (h : OwnI W N (.slice (some ⟨g, 0, none⟩) n c) ys) (hb : Boxed W b t u) (ht : t ≠ 2) : b ≠ g := by
  rintro rfl
  obtain ⟨cur, h1⟩ := h.block
  have h2 : W.heap[b]? = some (.cells #[u] t (0, 0)) := hb
  rw [h1] at h2
  injection h2 with h2
  injection h2 with _ h3
  exact ht h3.symm

theorem far_cell {w w' : World} {row : Option Nat} (h : w.grownBy w' row) {p : Addr} (hp : p.block < w.heap.size) (hne : some p.block ≠ row) : w'.cell? p = w.cell? p := World.cell?_of_block (h.block _ hp hne)

structure GrownL (gs : List Nat) (A W : World) : Prop where
  os : W.os = A.os
  tape : W.tape = A.tape
  output : W.output = A.output
  size : A.heap.size ≤ W.heap.size
  block : ∀ i, i < A.heap.size → i ∉ gs → W.heap[i]? = A.heap[i]?

theorem GrownL.refl (gs : List Nat) (A : World) : GrownL gs A A := ⟨rfl, rfl, rfl, Nat.le_refl _, fun _ _ _ => rfl⟩
theorem GrownL.trans {gs : List Nat} {A B C : World} (h : GrownL gs A B) (k : GrownL gs B C) : GrownL gs A C :=
  ⟨k.os.trans h.os, k.tape.trans h.tape, k.output.trans h.output, Nat.le_trans h.size k.size, fun i hi hn => (k.block i (Nat.lt_of_lt_of_le hi h.size) hn).trans (h.block i hi hn)⟩
theorem GrownL.grown {gs : List Nat} {A W W' : World} {row : Option Nat} (h : GrownL gs A W) (k : W.grownBy W' row) (hr : ∀ j, row = some j → j ∈ gs ∨ A.heap.size ≤ j) : GrownL gs A W' :=
  ⟨k.os.trans h.os, k.tape.trans h.tape, k.output.trans h.output, Nat.le_trans h.size k.size, fun i hi hn => (k.block i (Nat.lt_of_lt_of_le hi h.size) (fun e => by
    rcases hr i e.symm with h1 | h1
    · exact hn h1
    · omega)).trans (h.block i hi hn)⟩
theorem GrownL.below {gs : List Nat} {A W W' : World} {N : Nat} (h : GrownL gs A W) (k : Below N W W') (hN : A.heap.size ≤ N) : GrownL gs A W' :=
  ⟨k.os.trans h.os, k.tape.trans h.tape, k.output.trans h.output, Nat.le_trans h.size k.size, fun i hi hn => (k.block i (by omega)).trans (h.block i hi hn)⟩
theorem GrownL.drewN {gs : List Nat} {A W : World} (h : GrownL gs A W) (q : Nat) : GrownL gs A (W.drewN q) := ⟨h.os, h.tape, h.output, h.size, h.block⟩
theorem GrownL.drew {gs : List Nat} {A W : World} (h : GrownL gs A W) : GrownL gs A W.drew := ⟨h.os, h.tape, h.output, h.size, h.block⟩
theorem GrownL.setCell {gs : List Nat} {A W : World} (h : GrownL gs A W) (p : Addr) (v : Value) (hp : p.block ∈ gs ∨ A.heap.size ≤ p.block) : GrownL gs A (W.setCell p v) :=
  ⟨h.os, h.tape, h.output, by rw [World.size_setCell]; exact h.size, fun i hi hn => (Below.heap_setCell _ _ _ _ (fun e => by
    rcases hp with h1 | h1
    · rw [e] at hn; exact hn h1
    · omega)).trans (h.block i hi hn)⟩
theorem GrownL.alloc {gs : List Nat} {A W : World} (h : GrownL gs A W) (o : Obj) : GrownL gs A (W.alloc o) :=
  ⟨h.os, h.tape, h.output, by simp; have := h.size; omega, fun i hi hn => (Below.heap_alloc _ _ _ (Nat.lt_of_lt_of_le hi h.size)).trans (h.block i hi hn)⟩
theorem GrownL.boxed {gs : List Nat} {A W : World} (h : GrownL gs A W) {b : Nat} {t : TypeId} {v : Value} (hb : Boxed A b t v) (hn : b ∉ gs) : Boxed W b t v := by
  have h0 : A.heap[b]? = some (.cells #[v] t (0, 0)) := hb
  exact (h.block b (Array.getElem?_eq_some_iff.1 h0).1 hn).trans h0
theorem GrownL.cell {gs : List Nat} {A W : World} (h : GrownL gs A W) {p : Addr} (hp : p.block < A.heap.size) (hn : p.block ∉ gs) : W.cell? p = A.cell? p := World.cell?_of_block (h.block _ hp hn)
theorem GrownL.toBelow {gs : List Nat} {A W w : World} {N : Nat} (h : GrownL gs A W) (hb : Below N w A) (hN : N ≤ A.heap.size) (hg : ∀ i, i < N → i ∉ gs) : Below N w W :=
  ⟨h.os.trans hb.os, h.tape.trans hb.tape, h.output.trans hb.output, Nat.le_trans hb.size h.size, fun k hk => (h.block k (by omega) (hg k hk)).trans (hb.block k hk)⟩
theorem cell_far {w : World} {p q : Addr} {u v : Value} (k : Nat) (h : p.block ≠ q.block) (hc : w.cell? p = some v) : ((w.drewN k).setCell q u).cell? p = some v :=
  (World.cell?_of_block (w := w.drewN k) (Below.heap_setCell _ _ _ _ h)).trans hc
theorem GrownL.own {gs : List Nat} {A W : World} (h : GrownL gs A W) {N g n c : Nat} {ys : List Int} (ho : OwnI A N (.slice (some ⟨g, 0, none⟩) n c) ys) (hn : g ∉ gs) : OwnI W N (.slice (some ⟨g, 0, none⟩) n c) ys := by
  refine ⟨ho.1, ?_⟩
  rcases ho.2 with h1 | ⟨g', cap, cur, h1, h2, h3, r⟩
  · exact .inl h1
  · refine .inr ⟨g', cap, cur, h1, h2, ?_, r⟩
    obtain ⟨rfl⟩ : g = g' := by simp at h1; exact h1.1
    exact (h.block g (Array.getElem?_eq_some_iff.1 h3).1 hn).trans h3
end Go.Proofs.Ytckdfahbhagoaaa

namespace Go.Proofs.Ytckdfahbhagoaaa
open Go.RowKit
set_option linter.unusedVariables false
set_option linter.unusedSimpArgs false

/-- Two stores into a row of the call's own. -/
theorem OwnI.swap {w : World} {N g n c : Nat} {d : List Int} (h : OwnI w N (.slice (some ⟨g, 0, none⟩) n c) d) (hn : n = d.length) (i j : Nat) (hi : i < d.length) (hj : j < d.length) :
    OwnI ((w.setCell ⟨g, i, none⟩ (.int .i64 (nth d j))).setCell ⟨g, j, none⟩ (.int .i64 (nth d i))) N (.slice (some ⟨g, 0, none⟩) n c) (swp2 d i j) ∧ w.grownBy ((w.setCell ⟨g, i, none⟩ (.int .i64 (nth d j))).setCell ⟨g, j, none⟩ (.int .i64 (nth d i))) (some g) := by
  obtain ⟨_, _, o1, g1⟩ := h.store hn i hi (nth d j)
  obtain ⟨_, _, o2, g2⟩ := o1.store (by rw [List.length_set]; exact hn) j (by rw [List.length_set]; exact hj) (nth d i)
  exact ⟨o2, grownBy_trans g1 g2⟩
theorem grownBy_drew (W : World) (row : Option Nat) : W.grownBy W.drew row := ⟨rfl, rfl, rfl, Nat.le_refl _, fun k hk _ => rfl⟩
theorem OwnI.drewG {w : World} {N g n c : Nat} {d : List Int} (h : OwnI w N (.slice (some ⟨g, 0, none⟩) n c) d) : OwnI w.drew N (.slice (some ⟨g, 0, none⟩) n c) d := h.drewN 1

set_option maxRecDepth 100000 in
set_option maxHeartbeats 2000000 in
theorem swapRange_any (g n c x y m N : Nat) (D : List Int) (f : Value) (w : World) (ho : OwnI w N (.slice (some ⟨g, 0, none⟩) n c) D) (hn : n = D.length) (hxy : x + m ≤ y) (hy : y + m ≤ n) (hsz : n ≤ 1048576) :
    Calls Try.prog 62 #[.slice (some ⟨g, 0, none⟩) n c, .int .i64 x, .int .i64 y, .int .i64 m, f] w fun e w' => e = .returned (.tuple #[]) ∧ ∃ E, OwnI w' N (.slice (some ⟨g, 0, none⟩) n c) E ∧ Swapped D E x y m ∧ SegSame D E x (y + m) ∧ w.grownBy w' (some g) := by
  have HO := Lib.hid ho
  have HN := Lib.hid hn
  clear ho hn
  go_enter Try.func62, Try.ntmps62
  go_wp2
  go_loopw [10] (fun vk wr => ∃ (k : Nat) (E : List Int), k ≤ m ∧ vk = .int .i64 k ∧ Hid (OwnI wr N (.slice (some ⟨g, 0, none⟩) n c) E) ∧ Hid (Swapped D E x y k ∧ SegSame D E x (y + m) ∧ E.length = n) ∧ Hid (w.grownBy wr (some g))) (fun vk _ => m - (intOf vk).toNat)
  case atStart => exact ⟨0, D, Nat.zero_le _, rfl, HO.out, ⟨Swapped.zero _ _ _, SegSame.refl _ _ _, HN.out.symm⟩, grownBy_refl _ _⟩
  case round =>
    obtain ⟨k, E, hk, rfl, HE, HS, HG⟩ := hrel
    by_cases hkm : k < m
    · obtain ⟨p, hp⟩ : ∃ p, x + k = p := ⟨_, rfl⟩
      obtain ⟨q, hq⟩ : ∃ q, y + k = q := ⟨_, rfl⟩
      have hpi : (x : Int) + (k : Int) = (p : Int) := by omega
      have hqi : (y : Int) + (k : Int) = (q : Int) := by omega
      have hpn : p < n := by omega
      have hqn : q < n := by omega
      have hpw : IntKind.i64.wrap (p : Int) = (p : Int) := IntWalk.i64_in _ (by omega)
      have hqw : IntKind.i64.wrap (q : Int) = (q : Int) := IntWalk.i64_in _ (by omega)
      have hp0 : (0 : Int) ≤ (p : Int) := by omega
      have hq0 : (0 : Int) ≤ (q : Int) := by omega
      have hp1 : (p : Int) < (n : Int) := by omega
      have hq1 : (q : Int) < (n : Int) := by omega
      have cp := HE.out.at_ HS.out.2.2.symm p (by rw [HS.out.2.2]; exact hpn)
      have cq := HE.out.at_ HS.out.2.2.symm q (by rw [HS.out.2.2]; exact hqn)
      have fp := (HE.out.store HS.out.2.2.symm p (by rw [HS.out.2.2]; exact hpn) 0).2.1
      have fq := (HE.out.store HS.out.2.2.symm q (by rw [HS.out.2.2]; exact hqn) 0).2.1
      have HSW := Lib.hid (HE.out.swap HS.out.2.2.symm p q (by rw [HS.out.2.2]; exact hpn) (by rw [HS.out.2.2]; exact hqn))
      have HS2 : Hid (Swapped D (swp2 E p q) x y (k + 1) ∧ SegSame D (swp2 E p q) x (y + m) ∧ (swp2 E p q).length = n) := by
        obtain ⟨h1, h2, h3⟩ := HS.out
        refine ⟨?_, h2.trans (SegSame.swap (by omega) (by omega) (by omega) (by omega) (by omega)), by rw [swp2_len, h3]⟩
        have := h1.step hkm hxy (by rw [← HN.out]; exact hy)
        rwa [hp, hq] at this
      have hpq : ¬ p = q := by omega
      have hqp : ¬ q = p := by omega
      have k1 : (k : Int) < (m : Int) := by omega
      clear hp hq HE HS
      go_wp2
      go_region
      go_wp2
      go_roundw
      case rel => exact ⟨k + 1, swp2 E p q, by omega, by go_num, HSW.out.1.drewN 1, HS2.out, grownBy_trans HG.out (grownBy_trans HSW.out.2 (grownBy_drew _ _))⟩
      case measure => simp [intOf]; omega
    · have hkm2 : k = m := by omega
      have HFIN : Hid (∃ E, OwnI wr N (.slice (some ⟨g, 0, none⟩) n c) E ∧ Swapped D E x y m ∧ SegSame D E x (y + m) ∧ w.grownBy wr (some g)) := by
        have h := HS.out.1
        rw [hkm2] at h
        exact ⟨E, HE.out, h, HS.out.2.1, HG.out⟩
      clear HE HS HG hkm2
      go_wp2
      go_end0
      exact ⟨rfl, HFIN.out⟩

set_option maxRecDepth 100000 in
set_option maxHeartbeats 2000000 in
theorem rotate_any (g n c a m b N : Nat) (D : List Int) (f : Value) (w : World) (ho : OwnI w N (.slice (some ⟨g, 0, none⟩) n c) D) (hn : n = D.length) (ham : a < m) (hmb : m < b) (hb : b ≤ n) (hsz : n ≤ 1048576) :
    Calls Try.prog 61 #[.slice (some ⟨g, 0, none⟩) n c, .int .i64 a, .int .i64 m, .int .i64 b, f] w fun e w' => e = .returned (.tuple #[]) ∧ ∃ E, OwnI w' N (.slice (some ⟨g, 0, none⟩) n c) E ∧ Rotated D E a m b ∧ SegSame D E a b ∧ w.grownBy w' (some g) := by
  have HSW : Hid (∀ (x y q : Nat) (E : List Int) W, OwnI W N (.slice (some ⟨g, 0, none⟩) n c) E → n = E.length → x + q ≤ y → y + q ≤ n → Calls Try.prog 62 #[.slice (some ⟨g, 0, none⟩) n c, .int .i64 x, .int .i64 y, .int .i64 q, f] W fun e w' => e = .returned (.tuple #[]) ∧ ∃ F, OwnI w' N (.slice (some ⟨g, 0, none⟩) n c) F ∧ Swapped E F x y q ∧ SegSame E F x (y + q) ∧ W.grownBy w' (some g)) := fun x y q E W h1 h2 h3 h4 => swapRange_any g n c x y q N E f W h1 h2 h3 h4 hsz
  have HO := Lib.hid ho
  have HN := Lib.hid hn
  have hma : (m : Int) - (a : Int) = ((m - a : Nat) : Int) := by omega
  have hbm : (b : Int) - (m : Int) = ((b - m : Nat) : Int) := by omega
  obtain ⟨i0, hi0⟩ : ∃ i, m - a = i := ⟨_, rfl⟩
  obtain ⟨j0, hj0⟩ : ∃ j, b - m = j := ⟨_, rfl⟩
  rw [hi0] at hma
  rw [hj0] at hbm
  have H0 : Hid (m - i0 = a ∧ m + j0 = b ∧ 1 ≤ i0 ∧ 1 ≤ j0) := by show _ ∧ _; omega
  have hi1 : i0 ≤ 1048576 := by omega
  have hj1 : j0 ≤ 1048576 := by omega
  have hm1 : m ≤ 1048576 := by omega
  clear ho hn hi0 hj0
  go_enter Try.func61, Try.ntmps61
  go_wp2
  go_loopw [10, 11] (fun vi vj wr => ∃ (i j : Nat) (E : List Int), vi = .int .i64 i ∧ vj = .int .i64 j ∧ 1 ≤ i ∧ 1 ≤ j ∧ i ≤ m ∧ i ≤ 1048576 ∧ j ≤ 1048576 ∧ Hid (a ≤ m - i ∧ m + j ≤ b) ∧ Hid (OwnI wr N (.slice (some ⟨g, 0, none⟩) n c) E) ∧ Hid (SegSame D E a b ∧ E.length = n ∧ ∀ F, Rotated E F (m - i) m (m + j) → Rotated D F a m b) ∧ Hid (w.grownBy wr (some g))) (fun vi vj _ => (intOf vi).toNat + (intOf vj).toNat)
  case atStart => exact ⟨i0, j0, D, rfl, rfl, H0.out.2.2.1, H0.out.2.2.2, by omega, hi1, hj1, by have := H0.out; show _ ∧ _; omega, HO.out, ⟨SegSame.refl _ _ _, HN.out.symm, fun F hF => by rw [H0.out.1, H0.out.2.1] at hF; exact hF⟩, grownBy_refl _ _⟩
  case round =>
    obtain ⟨i, j, E, rfl, rfl, i1, j1, him, i2, j2, HAB, HE, HS, HG⟩ := hrel
    clear H0 hma hbm
    have hab := HAB.out
    have hmi : (m : Int) - (i : Int) = ((m - i : Nat) : Int) := by omega
    obtain ⟨s, hs⟩ : ∃ s, m - i = s := ⟨_, rfl⟩
    rw [hs] at hmi
    rcases Nat.lt_trichotomy i j with h | h | h
    · -- i < j
      have b0 : ((i : Int) != (j : Int)) = true := by simp; omega
      have b1 : ¬ (i : Int) > (j : Int) := by omega
      have hmj : (m : Int) + (j : Int) - (i : Int) = ((m + j - i : Nat) : Int) := by omega
      have hji : (j : Int) - (i : Int) = ((j - i : Nat) : Int) := by omega
      have HC := Lib.hid (HSW.out s (m + j - i) i E wr HE.out HS.out.2.1.symm (by omega) (by omega))
      have HST : Hid (∀ F G, Swapped E F s (m + j - i) i → Rotated F G s m (m + (j - i)) → Rotated E G s m (m + j)) := fun F G h1 h2 => by
        rw [← hs] at h1 h2 ⊢
        exact rot_lt h1 h him h2
      obtain ⟨t, ht⟩ : ∃ t, m + j - i = t := ⟨_, rfl⟩
      obtain ⟨u, hu⟩ : ∃ u, j - i = u := ⟨_, rfl⟩
      rw [ht] at hmj HC HST
      rw [hu] at hji HST
      have HU : Hid (1 ≤ u ∧ u ≤ 1048576 ∧ u < j ∧ m + u ≤ b ∧ t + i ≤ b ∧ a ≤ s) := by show _ ∧ _; omega
      have HSS := Lib.hid hs
      clear hs ht hu h
      go_wp2_with fail
      refine HC.out.mono ?_
      rintro e W1 ⟨rfl, F, hf, hsw, hss, hg⟩
      have HF := Lib.hid (And.intro hf (And.intro hsw (And.intro hss hg)))
      clear hf hsw hss hg HC
      go_wp2
      go_roundw
      case rel =>
        obtain ⟨hf, hsw, hss, hg⟩ := HF.out
        obtain ⟨u1, u2, u3, u4, u5, u6⟩ := HU.out
        refine ⟨i, u, F, rfl, by go_num, i1, u1, him, i2, u2, ?_, hf, ⟨HS.out.1.trans (hss.wide u6 u5), hss.len.trans HS.out.2.1, fun G hG => ?_⟩, grownBy_trans HG.out hg⟩
        · show _ ∧ _; rw [HSS.out]; exact ⟨u6, u4⟩
        · rw [HSS.out] at hG
          have := HST.out F G hsw hG
          exact HS.out.2.2 G (by rw [HSS.out]; exact this)
      case measure => have := HU.out; simp [intOf]; omega
    · -- i = j: the last exchange
      subst h
      have b0 : ((i : Int) != (i : Int)) = false := by simp
      have HC := Lib.hid (HSW.out s m i E wr HE.out HS.out.2.1.symm (by omega) (by omega))
      have HST : Hid (∀ F, Swapped E F s m i → Rotated E F s m (m + i)) := fun F h1 => by
        rw [← hs] at h1 ⊢
        exact rot_eq h1 him
      have HU : Hid (m + i ≤ b ∧ a ≤ s) := by show _ ∧ _; omega
      have HSS := Lib.hid hs
      clear hs
      go_wp2_with fail
      refine HC.out.mono ?_
      rintro e W1 ⟨rfl, F, hf, hsw, hss, hg⟩
      have HF := Lib.hid (And.intro hf (And.intro hsw (And.intro hss hg)))
      clear hf hsw hss hg HC
      go_wp2
      obtain ⟨hf, hsw, hss, hg⟩ := HF.out
      go_end0
      exact ⟨rfl, F, hf, HS.out.2.2 F (by rw [HSS.out]; exact HST.out F hsw), HS.out.1.trans (hss.wide HU.out.2 HU.out.1), grownBy_trans HG.out hg⟩
    · -- i > j
      have b0 : ((i : Int) != (j : Int)) = true := by simp; omega
      have b1 : (i : Int) > (j : Int) := by omega
      have hij : (i : Int) - (j : Int) = ((i - j : Nat) : Int) := by omega
      have HC := Lib.hid (HSW.out s m j E wr HE.out HS.out.2.1.symm (by omega) (by omega))
      have HST : Hid (∀ F G, Swapped E F s m j → Rotated F G (m - (i - j)) m (m + j) → Rotated E G s m (m + j)) := fun F G h1 h2 => by
        rw [← hs] at h1 ⊢
        exact rot_gt h1 h him h2
      obtain ⟨u, hu⟩ : ∃ u, i - j = u := ⟨_, rfl⟩
      rw [hu] at hij HST
      have HU : Hid (1 ≤ u ∧ u ≤ 1048576 ∧ u < i ∧ u ≤ m ∧ a ≤ m - u ∧ m + j ≤ b ∧ a ≤ s) := by show _ ∧ _; omega
      have HSS := Lib.hid hs
      clear hs hu h
      go_wp2_with fail
      refine HC.out.mono ?_
      rintro e W1 ⟨rfl, F, hf, hsw, hss, hg⟩
      have HF := Lib.hid (And.intro hf (And.intro hsw (And.intro hss hg)))
      clear hf hsw hss hg HC
      go_wp2
      go_roundw
      case rel =>
        obtain ⟨hf, hsw, hss, hg⟩ := HF.out
        obtain ⟨u1, u2, u3, u4, u5, u6, u7⟩ := HU.out
        refine ⟨u, j, F, by go_num, rfl, u1, j1, u4, u2, j2, ⟨u5, u6⟩, hf, ⟨HS.out.1.trans (hss.wide u7 u6), hss.len.trans HS.out.2.1, fun G hG => ?_⟩, grownBy_trans HG.out hg⟩
        have := HST.out F G hsw hG
        exact HS.out.2.2 G (by rw [HSS.out]; exact this)
      case measure => have := HU.out; simp [intOf]; omega
end Go.Proofs.Ytckdfahbhagoaaa

namespace Go.Proofs.Ytckdfahbhagoaaa
open Go.RowKit
set_option linter.unusedVariables false
set_option linter.unusedSimpArgs false

/-- What is asked of the function that compares: it only reads. -/
def CmpOk (kb : Nat) (cf : Int → Int → Int) (g : Nat) (D : List Int) (w : World) : Prop :=
  ∀ W x y, x ∈ D → y ∈ D → GrownL [g] w W → Calls Try.prog 46 #[.int .i64 x, .int .i64 y, .pointer (some ⟨kb, 0, none⟩)] W fun e w' => e = .returned (.int .i64 (cf x y)) ∧ ∃ q, w' = W.drewN q
theorem quiet_drewI {P : Program} {f : FuncId} {args : Array Value} {w : World} {n : Nat} {v : Value}
    (h : Calls P f args (w.drewN n) fun e w' => e = .returned v ∧ ∃ q, w' = (w.drewN n).drewN q) : Calls P f args (w.drewN n) fun e w'' => e = .returned v ∧ ∃ m, w'' = w.drewN m :=
  h.mono fun _ _ ⟨he, q, hq⟩ => ⟨he, n + q, by rw [hq]; simp⟩

theorem GrownL.row1 {g : Nat} {A W W' : World} (h : GrownL [g] A W) (hg : W.grownBy W' (some g)) : GrownL [g] A W' := h.grown hg fun j e => .inl (by cases e; simp)
theorem nth_mem {d : List Int} {i : Nat} (h : i < d.length) : nth d i ∈ d := by rw [nth_eq h]; exact List.getElem_mem h
theorem OwnI.belowB {w W : World} {N : Nat} {v : Value} {d : List Int} (h : OwnI w N v d) (hb : Below w.heap.size w W) : OwnI W N v d := h.below hb (Nat.le_refl _)

set_option maxRecDepth 100000 in
set_option maxHeartbeats 2000000 in
theorem insertion_any (g n c a b N kb : Nat) (key : Int → Int) (cf : Int → Int → Int) (hcf : ∀ x y, cf x y < 0 ↔ key x < key y) (D0 D : List Int) (w0 w : World) (hg0 : GrownL [g] w0 w) (ho : OwnI w N (.slice (some ⟨g, 0, none⟩) n c) D) (hn : n = D.length) (hperm : D.Perm D0) (hcmp : CmpOk kb cf g D0 w0)
    (hab : a ≤ b) (hb : b ≤ n) (hsz : n ≤ 1048576) (hasc : ∀ p q, a ≤ p → p < q → q < b → nth D p < nth D q) :
    Calls Try.prog 58 #[.slice (some ⟨g, 0, none⟩) n c, .int .i64 a, .int .i64 b, .func (.func 46) #[] #[.pointer (some ⟨kb, 0, none⟩)]] w fun e w' => e = .returned (.tuple #[]) ∧ ∃ E, OwnI w' N (.slice (some ⟨g, 0, none⟩) n c) E ∧ SortedOn key E a b ∧ SegSame D E a b ∧ GrownL [g] w0 w' := by
  have HO := Lib.hid ho
  have HN := Lib.hid hn
  have HG0 := Lib.hid hg0
  have HASC := Lib.hid hasc
  have HCMP : Hid (∀ W E x y, E.Perm D → x < n → y < n → GrownL [g] w0 W → Calls Try.prog 46 #[.int .i64 (nth E x), .int .i64 (nth E y), .pointer (some ⟨kb, 0, none⟩)] W fun e w' => e = .returned (.int .i64 (cf (nth E x) (nth E y))) ∧ ∃ q, w' = W.drewN q) := fun W E x y hE hx hy hW => hcmp W _ _ ((hE.trans hperm).subset (nth_mem (by rw [hE.length_eq, ← hn]; exact hx))) ((hE.trans hperm).subset (nth_mem (by rw [hE.length_eq, ← hn]; exact hy))) hW
  have HH : Hid (g < w0.heap.size ∨ w0.heap.size ≤ g) := by show _ ∨ _; omega
  clear ho hn hg0 hcmp hperm hasc
  go_enter Try.func58, Try.ntmps58
  go_wp2
  go_loopw [8] (fun vi wr => ∃ (i : Nat) (E : List Int), a < i ∧ i ≤ b + 1 ∧ vi = .int .i64 i ∧ Hid (OwnI wr N (.slice (some ⟨g, 0, none⟩) n c) E) ∧ Hid (SortedOn key E a i ∧ SegSame D E a (min i b) ∧ E.length = n) ∧ Hid (GrownL [g] w0 wr)) (fun vi _ => b + 1 - (intOf vi).toNat)
  case atStart => exact ⟨a + 1, D, by omega, by omega, by go_num, HO.out, ⟨fun i j h1 h2 h3 => by omega, SegSame.refl _ _ _, HN.out.symm⟩, HG0.out⟩
  case round =>
    obtain ⟨i, E, hai, hib, rfl, HE, HS, HG⟩ := hrel
    by_cases hi : i < b
    · have i1 : (i : Int) < (b : Int) := by omega
      have HINS : Hid (InsInv key E a i i ∧ SegSame D E a (i + 1)) := by
        obtain ⟨h1, h2, h3⟩ := HS.out
        rw [Nat.min_eq_left (by omega)] at h2
        refine ⟨InsInv.start h1 (by omega) fun p p1 p2 => ?_, h2.wide (Nat.le_refl _) (by omega)⟩
        obtain ⟨p', x1, x2, x3⟩ := h2.mem p p1 p2
        rw [x3, h2.out i (.inr (Nat.le_refl _))]
        exact HASC.out p' i x1 x2 hi
      have HLN : Hid (E.length = n) := HS.out.2.2
      clear HS
      go_wp2
      go_loopw [9] (fun vj wi => ∃ (j : Nat) (F : List Int), a ≤ j ∧ j ≤ i ∧ vj = .int .i64 j ∧ Hid (OwnI wi N (.slice (some ⟨g, 0, none⟩) n c) F) ∧ Hid (InsInv key F a i j ∧ SegSame D F a (i + 1) ∧ F.length = n) ∧ Hid (GrownL [g] w0 wi)) (fun vj _ => (intOf vj).toNat)
      case atStart => exact ⟨i, E, by omega, Nat.le_refl _, rfl, HE.out, ⟨HINS.out.1, HINS.out.2, HLN.out⟩, HG.out⟩
      case round =>
        obtain ⟨j, F, haj, hji, rfl, HF, HI, HGI⟩ := hrel
        clear HE HINS HLN HG
        by_cases hja : a < j
        · have j1 : (j : Int) > (a : Int) := by omega
          have jm : (j : Int) - 1 = ((j - 1 : Nat) : Int) := by omega
          obtain ⟨p, hp⟩ : ∃ p, j - 1 = p := ⟨_, rfl⟩
          rw [hp] at jm
          have hjn : j < n := by omega
          have hpn : p < n := by omega
          have hjw : IntKind.i64.wrap (p : Int) = (p : Int) := IntWalk.i64_in _ (by omega)
          have hp0 : (0 : Int) ≤ (p : Int) := by omega
          have hp1 : (p : Int) < (n : Int) := by omega
          have hj0 : (0 : Int) ≤ (j : Int) := by omega
          have hj2 : (j : Int) < (n : Int) := by omega
          have cj := HF.out.at_ HI.out.2.2.symm j (by rw [HI.out.2.2]; exact hjn)
          have cp := HF.out.at_ HI.out.2.2.symm p (by rw [HI.out.2.2]; exact hpn)
          have HC : Hid (∀ n, Calls Try.prog 46 #[.int .i64 (nth F j), .int .i64 (nth F p), .pointer (some ⟨kb, 0, none⟩)] (wr.drewN n) fun e w' => e = .returned (.int .i64 (cf (nth F j) (nth F p))) ∧ ∃ q, w' = (wr.drewN n).drewN q) := fun q => HCMP.out (wr.drewN q) F j p HI.out.2.1.perm hjn hpn (HGI.out.drewN q)
          have HPP := Lib.hid hp
          obtain ⟨r, hr⟩ : ∃ r, cf (nth F j) (nth F p) = r := ⟨_, rfl⟩
          rw [hr] at HC
          have HR := Lib.hid hr
          clear hp hr
          by_cases hr0 : r < 0
          · go_wp2
            go_quiet ((first | (go_at_call 46; exact quiet_drewI (HC.out _))))
            have hjl : j < F.length := by rw [HI.out.2.2]; exact hjn
            have hpl : p < F.length := by rw [HI.out.2.2]; exact hpn
            have fj := (HF.out.store HI.out.2.2.symm j hjl 0).2.1
            have fp := (HF.out.store HI.out.2.2.symm p hpl 0).2.1
            have HSW := Lib.hid (HF.out.swap HI.out.2.2.symm j p hjl hpl)
            have HST : Hid (InsInv key (swp2 F j p) a i p ∧ SegSame D (swp2 F j p) a (i + 1) ∧ (swp2 F j p).length = n) := by
              have hk : key (nth F j) < key (nth F p) := (hcf _ _).1 (by rw [HR.out]; exact hr0)
              have hst := HI.out.1.step hja (by rw [HI.out.2.2]; omega) (by rw [HPP.out]; exact hk)
              rw [HPP.out] at hst
              exact ⟨hst, HI.out.2.1.trans (SegSame.swap (by rw [HI.out.2.2]; omega) haj (by omega) (by have := HPP.out; omega) (by have := HPP.out; omega)), by rw [swp2_len, HI.out.2.2]⟩
            have hpj : ¬ p = j := by have := HPP.out; omega
            have hjp : ¬ j = p := by have := HPP.out; omega
            have HPA : Hid (a ≤ p ∧ p ≤ i ∧ p < j) := by have := HPP.out; show _ ∧ _; omega
            clear HC HR HF HI hjl hpl
            go_wp2
            go_region
            go_wp2
            go_roundw
            case rel => exact ⟨p, swp2 F j p, HPA.out.1, HPA.out.2.1, by go_num, HSW.out.1.drewN _, HST.out, (HGI.out.row1 HSW.out.2).drewN _⟩
            case measure => have := HPA.out; simp [intOf]; omega
          · have HEND : Hid (SortedOn key F a (i + 1)) := HI.out.1.done (.inr fun h => hr0 (by rw [← HR.out]; exact (hcf _ _).2 (by rw [HPP.out] at h; exact h)))
            clear HR
            go_wp2
            go_quiet ((first | (go_at_call 46; exact quiet_drewI (HC.out _))))
            have HE2 := Lib.hid (And.intro (HF.out.drewN nq) (And.intro HI.out.2 (HGI.out.drewN nq)))
            clear HC HF HI HGI
            go_wp2
            go_roundw
            case rel => exact ⟨i + 1, F, by omega, by omega, by go_num, HE2.out.1, ⟨HEND.out, by rw [Nat.min_eq_left (by omega)]; exact HE2.out.2.1.1, HE2.out.2.1.2⟩, HE2.out.2.2⟩
            case measure => simp [intOf]; omega
        · have j1 : ¬ (j : Int) > (a : Int) := by omega
          have hje : j = a := by omega
          have HEND : Hid (SortedOn key F a (i + 1)) := HI.out.1.done (.inl hje)
          clear hje
          go_wp2
          go_quiet (fail)
          have HE2 := Lib.hid (And.intro (HF.out.drewN nq) (And.intro HI.out.2 (HGI.out.drewN nq)))
          clear HF HI HGI
          go_wp2
          go_roundw
          case rel => exact ⟨i + 1, F, by omega, by omega, by go_num, HE2.out.1, ⟨HEND.out, by rw [Nat.min_eq_left (by omega)]; exact HE2.out.2.1.1, HE2.out.2.1.2⟩, HE2.out.2.2⟩
          case measure => simp [intOf]; omega
    · have i1 : ¬ (i : Int) < (b : Int) := by omega
      have HFIN : Hid (∃ E, OwnI wr N (.slice (some ⟨g, 0, none⟩) n c) E ∧ SortedOn key E a b ∧ SegSame D E a b ∧ GrownL [g] w0 wr) := by
        obtain ⟨h1, h2, h3⟩ := HS.out
        rw [Nat.min_eq_right (by omega)] at h2
        exact ⟨E, HE.out, h1.sub (Nat.le_refl _) (by omega), h2, HG.out⟩
      clear HE HS HG
      go_wp2
      go_end0
      exact ⟨rfl, HFIN.out⟩
end Go.Proofs.Ytckdfahbhagoaaa
