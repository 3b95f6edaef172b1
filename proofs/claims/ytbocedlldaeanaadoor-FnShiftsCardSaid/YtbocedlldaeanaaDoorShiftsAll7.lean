/- The most talks: taking by the least end is taking in the order of the ends. Conditions: none. With texts that it needs. -/
import Derived.Test.YtbocedlldaeanaaDoorShiftsAll1
import Derived.Deep.RegionWith
import Derived.Deep.CutRange
import Derived.BigFrame
namespace Go.Proofs.YtbocedlldaeanaaDoor
open Go.RowKit
set_option linter.unusedVariables false
set_option linter.unusedSimpArgs false

/-- x stands before y. -/
def lexLt (key : Int → Int) (x y : Int) : Prop := key x < key y ∨ key x = key y ∧ x < y
theorem lexLt.trans {key : Int → Int} {x y z : Int} (h : lexLt key x y) (k : lexLt key y z) : lexLt key x z := by
  unfold lexLt at *; omega
/-- From a to b it is sorted. -/
def SortedOn (key : Int → Int) (d : List Int) (a b : Nat) : Prop := ∀ i j, a ≤ i → i < j → j < b → lexLt key (nth d i) (nth d j)
theorem SortedOn.sub {key : Int → Int} {d : List Int} {a b a' b' : Nat} (h : SortedOn key d a b) (h1 : a ≤ a') (h2 : b' ≤ b) : SortedOn key d a' b' := fun i j x y z => h i j (by omega) y (by omega)
theorem nth_set1 {l : List Int} {m i : Nat} (v : Int) (hm : m < l.length) : nth (l.set m v) i = if m = i then v else nth l i := by
  unfold nth
  rw [List.getD_eq_getElem?_getD, List.getD_eq_getElem?_getD, List.getElem?_set]
  by_cases h : m = i
  · subst h; simp [hm]
  · simp [h]
def swp2 (d : List Int) (i j : Nat) : List Int := (d.set i (nth d j)).set j (nth d i)
theorem swp2_len (d : List Int) (i j : Nat) : (swp2 d i j).length = d.length := by simp [swp2]
theorem nth_swp2 {d : List Int} {i j : Nat} (hi : i < d.length) (hj : j < d.length) (k : Nat) : nth (swp2 d i j) k = if j = k then nth d i else if i = k then nth d j else nth d k := by
  unfold swp2
  rw [nth_set1 _ (by rw [List.length_set]; exact hj), nth_set1 _ hi]
theorem swp2_perm {d : List Int} {i j : Nat} (hi : i < d.length) (hj : j < d.length) : (swp2 d i j).Perm d := by
  rw [List.perm_iff_count]
  intro x
  unfold swp2
  have h1 : j < (d.set i (nth d j)).length := by rw [List.length_set]; exact hj
  rw [List.count_set h1, List.count_set hi]
  have e1 : (d.set i (nth d j))[j] = if i = j then nth d j else d[j] := by rw [List.getElem_set]
  have ei : d[i] = nth d i := (nth_eq hi).symm
  have ej : d[j] = nth d j := (nth_eq hj).symm
  have hci : (if d[i] == x then 1 else 0) ≤ List.count x d := by
    split
    · rename_i h
      have : x ∈ d := by rw [← (beq_iff_eq.1 h)]; exact List.getElem_mem hi
      exact List.one_le_count_iff.2 this
    · omega
  rw [e1]
  by_cases hij : i = j
  · subst hij
    simp only [if_true, ei] at *
    omega
  · simp only [if_neg hij, ei, ej] at *
    have hcj : nth d i ≠ nth d j → (if nth d i == x then 1 else 0) + (if nth d j == x then 1 else 0) ≤ 1 := fun hne => by
      by_cases ha : nth d i = x
      · have hb : ¬ nth d j = x := fun hb => hne (ha.trans hb.symm)
        simp [ha, hb]
      · simp only [beq_iff_eq, ha, if_false]; split <;> omega
    omega

/-! Insertion. -/
/-- The element at j is being put in; all else from a to i is sorted, and what stands behind it is greater. -/
structure InsInv (key : Int → Int) (d : List Int) (a i j : Nat) : Prop where
  aj : a ≤ j
  ji : j ≤ i
  rest : ∀ p q, a ≤ p → p < q → q ≤ i → p ≠ j → q ≠ j → lexLt key (nth d p) (nth d q)
  more : ∀ q, j < q → q ≤ i → key (nth d j) < key (nth d q)
  last : ∀ p, a ≤ p → p < j → nth d p < nth d j
theorem InsInv.start {key : Int → Int} {d : List Int} {a i : Nat} (hs : SortedOn key d a i) (ha : a ≤ i) (hl : ∀ p, a ≤ p → p < i → nth d p < nth d i) : InsInv key d a i i :=
  ⟨ha, Nat.le_refl _, fun p q h1 h2 h3 h4 h5 => hs p q h1 h2 (by omega), fun q h1 h2 => by omega, hl⟩
theorem InsInv.step {key : Int → Int} {d : List Int} {a i j : Nat} (h : InsInv key d a i j) (haj : a < j) (hi : i < d.length) (hk : key (nth d j) < key (nth d (j - 1))) : InsInv key (swp2 d j (j - 1)) a i (j - 1) := by
  have hji := h.ji
  have hn : ∀ k, nth (swp2 d j (j - 1)) k = if j - 1 = k then nth d j else if j = k then nth d (j - 1) else nth d k := fun k => nth_swp2 (by omega) (by omega) k
  refine ⟨by omega, by omega, fun p q h1 h2 h3 h4 h5 => ?_, fun q h1 h2 => ?_, fun p h1 h2 => ?_⟩
  · rw [hn p, hn q, if_neg (Ne.symm h4), if_neg (Ne.symm h5)]
    by_cases hp : j = p
    · subst hp
      rw [if_pos rfl, if_neg (by omega)]
      exact h.rest (j - 1) q (by omega) (by omega) h3 (by omega) (by omega)
    · rw [if_neg hp]
      by_cases hq : j = q
      · subst hq
        rw [if_pos rfl]
        exact h.rest p (j - 1) h1 (by omega) (by omega) (by omega) (by omega)
      · rw [if_neg hq]
        exact h.rest p q h1 h2 h3 (Ne.symm hp) (Ne.symm hq)
  · rw [hn (j - 1), hn q, if_pos rfl, if_neg (by omega)]
    by_cases hq : j = q
    · rw [if_pos hq]; exact hk
    · rw [if_neg hq]; exact h.more q (by omega) h2
  · rw [hn (j - 1), hn p, if_pos rfl, if_neg (by omega), if_neg (by omega)]
    exact h.last p h1 (by omega)
theorem InsInv.done {key : Int → Int} {d : List Int} {a i j : Nat} (h : InsInv key d a i j) (he : j = a ∨ ¬ key (nth d j) < key (nth d (j - 1))) : SortedOn key d a (i + 1) := by
  intro p q h1 h2 h3
  by_cases hp : p = j
  · subst hp; exact .inl (h.more q h2 (by omega))
  by_cases hq : q = j
  · subst hq
    have hpr : lexLt key (nth d (q - 1)) (nth d q) := by
      rcases he with he | he
      · omega
      · have := h.last (q - 1) (by omega) (by omega)
        unfold lexLt; omega
    by_cases hpq : p = q - 1
    · rw [hpq]; exact hpr
    · exact (h.rest p (q - 1) h1 (by omega) (by have := h.ji; omega) hp (by omega)).trans hpr
  exact h.rest p q h1 h2 (by omega) hp hq

/-! Rotation and merging. -/
/-- Of d, only the places from a to b have changed, and they hold what stood there. -/
structure SegSame (d d' : List Int) (a b : Nat) : Prop where
  len : d'.length = d.length
  out : ∀ k, k < a ∨ b ≤ k → nth d' k = nth d k
  mem : ∀ k, a ≤ k → k < b → ∃ k', a ≤ k' ∧ k' < b ∧ nth d' k = nth d k'
  perm : d'.Perm d
theorem SegSame.refl (d : List Int) (a b : Nat) : SegSame d d a b := ⟨rfl, fun _ _ => rfl, fun k h1 h2 => ⟨k, h1, h2, rfl⟩, List.Perm.refl _⟩
theorem SegSame.trans {d d' d'' : List Int} {a b : Nat} (h : SegSame d d' a b) (k : SegSame d' d'' a b) : SegSame d d'' a b :=
  ⟨k.len.trans h.len, fun q hq => (k.out q hq).trans (h.out q hq), fun q h1 h2 => by
    obtain ⟨q', a1, a2, a3⟩ := k.mem q h1 h2
    obtain ⟨q'', b1, b2, b3⟩ := h.mem q' a1 a2
    exact ⟨q'', b1, b2, a3.trans b3⟩, k.perm.trans h.perm⟩
theorem SegSame.wide {d d' : List Int} {a b a' b' : Nat} (h : SegSame d d' a b) (h1 : a' ≤ a) (h2 : b ≤ b') : SegSame d d' a' b' :=
  ⟨h.len, fun k hk => h.out k (by omega), fun k k1 k2 => by
    by_cases hk : a ≤ k ∧ k < b
    · obtain ⟨k', x, y, z⟩ := h.mem k hk.1 hk.2
      exact ⟨k', by omega, by omega, z⟩
    · exact ⟨k, k1, k2, h.out k (by omega)⟩, h.perm⟩
theorem SegSame.swap {d : List Int} {a b i j : Nat} (hb : b ≤ d.length) (h1 : a ≤ i) (h2 : i < b) (h3 : a ≤ j) (h4 : j < b) : SegSame d (swp2 d i j) a b := by
  have hn := fun k => nth_swp2 (d := d) (i := i) (j := j) (by omega) (by omega) k
  refine ⟨swp2_len _ _ _, fun k hk => ?_, fun k k1 k2 => ?_, swp2_perm (by omega) (by omega)⟩
  · rw [hn, if_neg (by omega), if_neg (by omega)]
  · rw [hn]
    by_cases e1 : j = k
    · rw [if_pos e1]; exact ⟨i, h1, h2, rfl⟩
    · rw [if_neg e1]
      by_cases e2 : i = k
      · rw [if_pos e2]; exact ⟨j, h3, h4, rfl⟩
      · rw [if_neg e2]; exact ⟨k, k1, k2, rfl⟩
/-- Two sorted pieces, that on the left elder. -/
structure MergePre (key : Int → Int) (d : List Int) (a m b : Nat) : Prop where
  l : SortedOn key d a m
  r : SortedOn key d m b
  side : ∀ p q, a ≤ p → p < m → m ≤ q → q < b → key (nth d p) = key (nth d q) → nth d p < nth d q
/-- What stood from m to e stands from s on, what stood from s to m behind it. -/
structure Rotated (d d' : List Int) (s m e : Nat) : Prop where
  len : d'.length = d.length
  out : ∀ k, k < s ∨ e ≤ k → nth d' k = nth d k
  lo : ∀ k, k < e - m → nth d' (s + k) = nth d (m + k)
  hi : ∀ k, k < m - s → nth d' (s + (e - m) + k) = nth d (s + k)
/-- Where the two pieces are parted, the halves are. -/
theorem merge_halves {key : Int → Int} {d d' : List Int} {a m b s e mid : Nat} (h : MergePre key d a m b) (hr : Rotated d d' s m e) (has : a ≤ s) (hsm : s ≤ m) (hme : m ≤ e) (heb : e ≤ b) (hmid : mid = s + (e - m))
    (h1 : ∀ p q, a ≤ p → p < s → e ≤ q → q < b → lexLt key (nth d p) (nth d q)) (h2 : ∀ p q, m ≤ p → p < e → s ≤ q → q < m → lexLt key (nth d p) (nth d q)) :
    MergePre key d' a s mid ∧ MergePre key d' mid e b ∧ ∀ p q, a ≤ p → p < mid → mid ≤ q → q < b → lexLt key (nth d' p) (nth d' q) := by
  have lo : ∀ k, s ≤ k → k < mid → nth d' k = nth d (m + (k - s)) := fun k k1 k2 => by
    have := hr.lo (k - s) (by omega)
    rwa [show s + (k - s) = k by omega] at this
  have hi : ∀ k, mid ≤ k → k < e → nth d' k = nth d (s + (k - mid)) := fun k k1 k2 => by
    have := hr.hi (k - mid) (by omega)
    rwa [show s + (e - m) + (k - mid) = k by omega] at this
  have ol : ∀ k, k < s → nth d' k = nth d k := fun k hk => hr.out k (.inl hk)
  have oh : ∀ k, e ≤ k → nth d' k = nth d k := fun k hk => hr.out k (.inr hk)
  refine ⟨⟨fun i j x y z => ?_, fun i j x y z => ?_, fun p q x y z t hk => ?_⟩, ⟨fun i j x y z => ?_, fun i j x y z => ?_, fun p q x y z t hk => ?_⟩, fun p q x y z t => ?_⟩
  · rw [ol i (by omega), ol j (by omega)]; exact h.l i j x y (by omega)
  · rw [lo i x (by omega), lo j (by omega) z]; exact h.r _ _ (by omega) (by omega) (by omega)
  · rw [ol p y, lo q z t] at hk ⊢
    exact h.side _ _ x (by omega) (by omega) (by omega) hk
  · rw [hi i x (by omega), hi j (by omega) z]; exact h.l _ _ (by omega) (by omega) (by omega)
  · rw [oh i x, oh j (by omega)]; exact h.r _ _ (by omega) y z
  · rw [hi p x y, oh q z] at hk ⊢
    exact h.side _ _ (by omega) (by omega) (by omega) t hk
  · by_cases hp : p < s
    · rw [ol p hp]
      by_cases hq : q < e
      · rw [hi q z hq]; exact h.l _ _ x (by omega) (by omega)
      · rw [oh q (by omega)]; exact h1 _ _ x hp (by omega) t
    · rw [lo p (by omega) y]
      by_cases hq : q < e
      · rw [hi q z hq]; exact h2 _ _ (by omega) (by omega) (by omega) (by omega)
      · rw [oh q (by omega)]; exact h.r _ _ (by omega) (by omega) t
/-- Two sorted halves, each of the first before each of the second. -/
theorem halves_sorted {key : Int → Int} {d d' : List Int} {a mid b : Nat} (hd : ∀ p q, a ≤ p → p < mid → mid ≤ q → q < b → lexLt key (nth d p) (nth d q)) (ham : a ≤ mid) (hmb : mid ≤ b)
    (h1 : SortedOn key d' a mid) (h2 : SortedOn key d' mid b) (m1 : ∀ k, a ≤ k → k < mid → ∃ k', a ≤ k' ∧ k' < mid ∧ nth d' k = nth d k') (m2 : ∀ k, mid ≤ k → k < b → ∃ k', mid ≤ k' ∧ k' < b ∧ nth d' k = nth d k') : SortedOn key d' a b := by
  intro i j x y z
  by_cases hi : i < mid
  · by_cases hj : j < mid
    · exact h1 i j x y hj
    · obtain ⟨i', a1, a2, a3⟩ := m1 i x hi
      obtain ⟨j', b1, b2, b3⟩ := m2 j (by omega) z
      rw [a3, b3]; exact hd _ _ a1 a2 b1 b2
  · exact h2 i j (by omega) y z
/-- The search of the place where the pieces are parted. -/
structure Search (key : Int → Int) (d : List Int) (p s0 r0 s r : Nat) : Prop where
  s0s : s0 ≤ s
  sr : s ≤ r
  rr : r ≤ r0
  no : ∀ c, s0 ≤ c → c < s → ¬ key (nth d (p - c)) < key (nth d c)
  yes : ∀ c, r ≤ c → c < r0 → key (nth d (p - c)) < key (nth d c)
theorem Search.start (key : Int → Int) (d : List Int) {p s0 r0 : Nat} (h : s0 ≤ r0) : Search key d p s0 r0 s0 r0 := ⟨Nat.le_refl _, h, Nat.le_refl _, fun c h1 h2 => by omega, fun c h1 h2 => by omega⟩
/-- Both pieces are sorted: what holds at c holds before it, or behind it. -/
theorem Search.low {key : Int → Int} {d : List Int} {a m b p s0 r0 s r c : Nat} (h : Search key d p s0 r0 s r) (hm : MergePre key d a m b) (hs : s ≤ c) (hr : c < r) (ha : a ≤ s0) (hrm : r0 ≤ m) (hp1 : ∀ c, s0 ≤ c → c < r0 → m ≤ p - c ∧ p - c < b ∧ c ≤ p) (hk : ¬ key (nth d (p - c)) < key (nth d c)) : Search key d p s0 r0 (c + 1) r := by
  have e1 := h.s0s
  have e2 := h.rr
  refine ⟨by omega, by omega, h.rr, fun q h1 h2 => ?_, h.yes⟩
  by_cases hq : q = c
  · rw [hq]; exact hk
  obtain ⟨u1, u2, u3⟩ := hp1 q h1 (by omega)
  obtain ⟨v1, v2, v3⟩ := hp1 c (by omega) (by omega)
  have k1 := hm.l q c (by omega) (by omega) (by omega)
  have k2 := hm.r (p - c) (p - q) v1 (by omega) u2
  unfold lexLt at k1 k2
  omega
theorem Search.high {key : Int → Int} {d : List Int} {a m b p s0 r0 s r c : Nat} (h : Search key d p s0 r0 s r) (hm : MergePre key d a m b) (hs : s ≤ c) (hr : c < r) (ha : a ≤ s0) (hrm : r0 ≤ m) (hp1 : ∀ c, s0 ≤ c → c < r0 → m ≤ p - c ∧ p - c < b ∧ c ≤ p) (hk : key (nth d (p - c)) < key (nth d c)) : Search key d p s0 r0 s c := by
  have e1 := h.s0s
  have e2 := h.rr
  refine ⟨h.s0s, hs, by omega, h.no, fun q h1 h2 => ?_⟩
  by_cases hq : q = c
  · rw [hq]; exact hk
  obtain ⟨u1, u2, u3⟩ := hp1 q (by omega) h2
  obtain ⟨v1, v2, v3⟩ := hp1 c (by omega) (by omega)
  have k1 := hm.l c q (by omega) (by omega) (by omega)
  have k2 := hm.r (p - q) (p - c) u1 (by omega) v2
  unfold lexLt at k1 k2
  omega
theorem Search.parts {key : Int → Int} {d : List Int} {a m b mid s0 r0 s : Nat} (h : Search key d (mid + m - 1) s0 r0 s s) (hm : MergePre key d a m b) (ham : a < m) (hmb : m < b) (hmid : mid = (a + b) / 2) (h0 : m > mid ∧ s0 = mid + m - b ∧ r0 = mid ∨ m ≤ mid ∧ s0 = a ∧ r0 = m) :
    a ≤ s ∧ s ≤ m ∧ s ≤ mid ∧ m ≤ mid + m - s ∧ mid + m - s ≤ b ∧ mid = s + (mid + m - s - m) ∧
    (∀ p q, a ≤ p → p < s → mid + m - s ≤ q → q < b → lexLt key (nth d p) (nth d q)) ∧ (∀ p q, m ≤ p → p < mid + m - s → s ≤ q → q < m → lexLt key (nth d p) (nth d q)) := by
  have e1 := h.s0s
  have e2 := h.rr
  have hms : s ≤ mid := by omega
  have hsm : s ≤ m := by omega
  refine ⟨by omega, hsm, hms, by omega, by omega, by omega, fun p q h1 h2 h3 h4 => ?_, fun p q h1 h2 h3 h4 => ?_⟩
  · have hs : s0 < s := by
      rcases Nat.lt_or_eq_of_le e1 with h | h
      · exact h
      · omega
    have k := h.no (s - 1) (by omega) (by omega)
    rw [show mid + m - 1 - (s - 1) = mid + m - s by omega] at k
    have sd := hm.side (s - 1) (mid + m - s) (by omega) (by omega) (by omega) (by omega)
    have c1 : lexLt key (nth d (s - 1)) (nth d (mid + m - s)) := by
      unfold lexLt
      by_cases he : key (nth d (s - 1)) = key (nth d (mid + m - s))
      · exact .inr ⟨he, sd he⟩
      · exact .inl (by omega)
    have c2 : lexLt key (nth d p) (nth d (mid + m - s)) := by
      by_cases hp : p = s - 1
      · rw [hp]; exact c1
      · exact (hm.l p (s - 1) h1 (by omega) (by omega)).trans c1
    by_cases hq : q = mid + m - s
    · rw [hq]; exact c2
    · exact c2.trans (hm.r _ q (by omega) (by omega) h4)
  · have hs : s < r0 := by
      rcases Nat.lt_or_eq_of_le e2 with h | h
      · exact h
      · omega
    have k := h.yes s (Nat.le_refl _) hs
    rw [show mid + m - 1 - s = mid + m - s - 1 by omega] at k
    have c1 : lexLt key (nth d (mid + m - s - 1)) (nth d s) := .inl k
    have c2 : lexLt key (nth d p) (nth d s) := by
      by_cases hp : p = mid + m - s - 1
      · rw [hp]; exact c1
      · exact (hm.r p (mid + m - s - 1) h1 (by omega) (by omega)).trans c1
    by_cases hq : q = s
    · rw [hq]; exact c2
    · exact c2.trans (hm.l s q (by omega) (by omega) h4)
/-! Exchanges of ranges; rotation. -/
structure Swapped (D E : List Int) (x y n : Nat) : Prop where
  len : E.length = D.length
  lo : ∀ k, k < n → nth E (x + k) = nth D (y + k)
  hi : ∀ k, k < n → nth E (y + k) = nth D (x + k)
  out : ∀ k, k < x ∨ x + n ≤ k ∧ k < y ∨ y + n ≤ k → nth E k = nth D k
theorem Swapped.zero (D : List Int) (x y : Nat) : Swapped D D x y 0 := ⟨rfl, fun k h => absurd h (Nat.not_lt_zero _), fun k h => absurd h (Nat.not_lt_zero _), fun _ _ => rfl⟩
theorem Swapped.step {D E : List Int} {x y n k : Nat} (h : Swapped D E x y k) (hk : k < n) (hxy : x + n ≤ y) (hy : y + n ≤ D.length) : Swapped D (swp2 E (x + k) (y + k)) x y (k + 1) := by
  have hn := fun q => nth_swp2 (d := E) (i := x + k) (j := y + k) (by rw [h.len]; omega) (by rw [h.len]; omega) q
  refine ⟨by rw [swp2_len, h.len], fun q hq => ?_, fun q hq => ?_, fun q hq => ?_⟩
  · rw [hn, if_neg (by omega)]
    by_cases e : q = k
    · rw [e, if_pos rfl, h.out (y + k) (by omega)]
    · rw [if_neg (by omega), h.lo q (by omega)]
  · rw [hn]
    by_cases e : q = k
    · rw [e, if_pos rfl, h.out (x + k) (by omega)]
    · rw [if_neg (by omega), if_neg (by omega), h.hi q (by omega)]
  · rw [hn, if_neg (by omega), if_neg (by omega)]
    exact h.out q (by omega)
theorem Rotated.none_l (d : List Int) {s m e : Nat} (h : s = m) : Rotated d d s m e := ⟨rfl, fun _ _ => rfl, fun k _ => by rw [h], fun k hk => by omega⟩
theorem Rotated.none_r (d : List Int) {s m e : Nat} (h : e = m) : Rotated d d s m e := ⟨rfl, fun _ _ => rfl, fun k hk => by omega, fun k hk => by rw [h]; congr 1; omega⟩
theorem rot_eq {D E : List Int} {m i : Nat} (h : Swapped D E (m - i) m i) (him : i ≤ m) : Rotated D E (m - i) m (m + i) :=
  ⟨h.len, fun k hk => h.out k (by omega), fun k hk => h.lo k (by omega), fun k hk => by
    have := h.hi k (by omega)
    rwa [show m - i + (m + i - m) + k = m + k by omega]⟩
theorem rot_gt {D E F : List Int} {m i j : Nat} (h : Swapped D E (m - i) m j) (hji : j < i) (him : i ≤ m) (hr : Rotated E F (m - (i - j)) m (m + j)) : Rotated D F (m - i) m (m + j) := by
  refine ⟨hr.len.trans h.len, fun k hk => ?_, fun k hk => ?_, fun k hk => ?_⟩
  · rw [hr.out k (by omega)]; exact h.out k (by omega)
  · rw [hr.out (m - i + k) (by omega)]; exact h.lo k (by omega)
  · -- the place m - i + j + k
    by_cases hkj : k < j
    · have h1 := hr.lo k (by omega)
      rw [show m - (i - j) + k = m - i + (m + j - m) + k by omega] at h1
      rw [h1]; exact h.hi k hkj
    · have h1 := hr.hi (k - j) (by omega)
      rw [show m - (i - j) + (m + j - m) + (k - j) = m - i + (m + j - m) + k by omega] at h1
      rw [h1, show m - (i - j) + (k - j) = m - i + k by omega]
      exact h.out _ (by omega)
theorem rot_lt {D E F : List Int} {m i j : Nat} (h : Swapped D E (m - i) (m + j - i) i) (hij : i < j) (him : i ≤ m) (hr : Rotated E F (m - i) m (m + (j - i))) : Rotated D F (m - i) m (m + j) := by
  refine ⟨hr.len.trans h.len, fun k hk => ?_, fun k hk => ?_, fun k hk => ?_⟩
  · rw [hr.out k (by omega)]; exact h.out k (by omega)
  · by_cases hk2 : k < j - i
    · have h1 := hr.lo k (by omega)
      rw [h1]; exact h.out _ (by omega)
    · have h1 := hr.hi (k - (j - i)) (by omega)
      rw [show m - i + (m + (j - i) - m) + (k - (j - i)) = m - i + k by omega] at h1
      rw [h1]
      have h2 := h.lo (k - (j - i)) (by omega)
      rw [show m - i + (k - (j - i)) = m - i + (k - (j - i)) from rfl] at h2
      rw [h2]
      congr 1; omega
  · rw [hr.out (m - i + (m + j - m) + k) (by omega)]
    have h1 := h.hi k (by omega)
    rw [show m + j - i + k = m - i + (m + j - m) + k by omega] at h1
    exact h1
/-- One element goes to the right, or to the left. -/
theorem Rotated.right {d D : List Int} {a k : Nat} (h : Rotated d D a (a + 1) (k + 1)) (hak : a ≤ k) (hk : k + 1 < d.length) : Rotated d (swp2 D k (k + 1)) a (a + 1) (k + 2) := by
  have hn := fun q => nth_swp2 (d := D) (i := k) (j := k + 1) (by rw [h.len]; omega) (by rw [h.len]; omega) q
  have hx : nth D k = nth d a := by
    have := h.hi 0 (by omega)
    rwa [show a + (k + 1 - (a + 1)) + 0 = k by omega, Nat.add_zero] at this
  refine ⟨by rw [swp2_len, h.len], fun q hq => ?_, fun q hq => ?_, fun q hq => ?_⟩
  · rw [hn, if_neg (by omega), if_neg (by omega)]; exact h.out q (by omega)
  · rw [hn, if_neg (by omega)]
    by_cases e : k = a + q
    · rw [if_pos e, h.out (k + 1) (by omega), e]; congr 1; omega
    · rw [if_neg e]; exact h.lo q (by omega)
  · obtain rfl : q = 0 := by omega
    rw [hn, if_pos (by omega), hx, Nat.add_zero]
theorem Rotated.left {d D : List Int} {k m : Nat} (h : Rotated d D k m (m + 1)) (h0 : 0 < k) (hkm : k ≤ m) (hm : m < d.length) : Rotated d (swp2 D k (k - 1)) (k - 1) m (m + 1) := by
  have hn := fun q => nth_swp2 (d := D) (i := k) (j := k - 1) (by rw [h.len]; omega) (by rw [h.len]; omega) q
  have hx : nth D k = nth d m := by
    have := h.lo 0 (by omega)
    rwa [Nat.add_zero, Nat.add_zero] at this
  refine ⟨by rw [swp2_len, h.len], fun q hq => ?_, fun q hq => ?_, fun q hq => ?_⟩
  · rw [hn, if_neg (by omega), if_neg (by omega)]; exact h.out q (by omega)
  · obtain rfl : q = 0 := by omega
    rw [hn, if_pos (by omega), hx, Nat.add_zero]
  · rw [hn, if_neg (by omega)]
    by_cases e : q = 0
    · subst e
      rw [if_pos (by omega), h.out (k - 1) (by omega), Nat.add_zero]
    · rw [if_neg (by omega)]
      have := h.hi (q - 1) (by omega)
      rw [show k + (m + 1 - m) + (q - 1) = k - 1 + (m + 1 - m) + q by omega, show k + (q - 1) = k - 1 + q by omega] at this
      exact this
theorem sorted_join {key : Int → Int} {d : List Int} {a mid b : Nat} (ham : a ≤ mid) (hmb : mid ≤ b) (h1 : SortedOn key d a mid) (h2 : SortedOn key d mid b) (hd : ∀ p q, a ≤ p → p < mid → mid ≤ q → q < b → lexLt key (nth d p) (nth d q)) : SortedOn key d a b :=
  halves_sorted hd ham hmb h1 h2 (fun k k1 k2 => ⟨k, k1, k2, rfl⟩) (fun k k1 k2 => ⟨k, k1, k2, rfl⟩)
/-- One element on the left. -/
theorem merge_one_l {key : Int → Int} {d d' : List Int} {a b i : Nat} (h : MergePre key d a (a + 1) b) (hi1 : a + 1 ≤ i) (hi2 : i ≤ b) (hlo : ∀ c, a + 1 ≤ c → c < i → key (nth d c) < key (nth d a)) (hhi : ∀ c, i ≤ c → c < b → ¬ key (nth d c) < key (nth d a)) (hr : Rotated d d' a (a + 1) i) : SortedOn key d' a b := by
  have hc : ∀ q, i ≤ q → q < b → lexLt key (nth d a) (nth d q) := fun q q1 q2 => by
    have k := hhi q q1 q2
    have s := h.side a q (Nat.le_refl _) (by omega) (by omega) q2
    unfold lexLt
    by_cases e : key (nth d a) = key (nth d q)
    · exact .inr ⟨e, s e⟩
    · exact .inl (by omega)
  obtain ⟨m1, m2, m3⟩ := merge_halves (mid := a + (i - (a + 1))) h hr (Nat.le_refl _) (by omega) hi1 hi2 rfl (fun p q p1 p2 => by omega) (fun p q p1 p2 q1 q2 => by
    obtain rfl : q = a := by omega
    exact .inl (hlo p p1 p2))
  refine sorted_join (by omega) (by omega) m1.r ?_ m3
  refine sorted_join (mid := i) (by omega) hi2 m2.l m2.r fun p q p1 p2 q1 q2 => ?_
  obtain rfl : p = a + (i - (a + 1)) := by omega
  have := hr.hi 0 (by omega)
  rw [Nat.add_zero, Nat.add_zero] at this
  rw [this, hr.out q (.inr q1)]
  exact hc q q1 q2
/-- One element on the right. -/
theorem merge_one_r {key : Int → Int} {d d' : List Int} {a m i : Nat} (h : MergePre key d a m (m + 1)) (hi1 : a ≤ i) (hi2 : i ≤ m) (hlo : ∀ c, a ≤ c → c < i → ¬ key (nth d m) < key (nth d c)) (hhi : ∀ c, i ≤ c → c < m → key (nth d m) < key (nth d c)) (hr : Rotated d d' i m (m + 1)) : SortedOn key d' a (m + 1) := by
  obtain ⟨m1, m2, m3⟩ := merge_halves (mid := i + (m + 1 - m)) h hr hi1 hi2 (by omega) (Nat.le_refl _) rfl (fun p q p1 p2 q1 q2 => by omega) (fun p q p1 p2 q1 q2 => by
    obtain rfl : p = m := by omega
    exact .inl (hhi q q1 q2))
  refine sorted_join (by omega) (by omega) ?_ m2.l m3
  refine sorted_join (mid := i) hi1 (by omega) m1.l m1.r fun p q p1 p2 q1 q2 => ?_
  obtain rfl : q = i := by omega
  have hq := hr.lo 0 (by omega)
  rw [Nat.add_zero, Nat.add_zero] at hq
  rw [hq, hr.out p (.inl p2)]
  have k := hlo p p1 p2
  have s := h.side p m p1 (by omega) (Nat.le_refl _) (by omega)
  unfold lexLt
  by_cases e : key (nth d p) = key (nth d m)
  · exact .inr ⟨e, s e⟩
  · exact .inl (by omega)
end Go.Proofs.YtbocedlldaeanaaDoor

namespace Go.Proofs.YtbocedlldaeanaaDoor
open Go.RowKit
set_option linter.unusedVariables false
set_option linter.unusedSimpArgs false

/-- Two stores into a row of the call's own. -/
theorem OwnI.swap {w : World} {N g n c : Nat} {d : List Int} (h : OwnI w N (.slice (some ⟨g, 0, none⟩) n c) d) (hn : n = d.length) (i j : Nat) (hi : i < d.length) (hj : j < d.length) :
    OwnI ((w.setCell ⟨g, i, none⟩ (.int .i64 (nth d j))).setCell ⟨g, j, none⟩ (.int .i64 (nth d i))) N (.slice (some ⟨g, 0, none⟩) n c) (swp2 d i j) ∧ w.grownBy ((w.setCell ⟨g, i, none⟩ (.int .i64 (nth d j))).setCell ⟨g, j, none⟩ (.int .i64 (nth d i))) (some g) := by
  obtain ⟨_, _, o1, g1⟩ := h.store hn i hi (nth d j)
  obtain ⟨_, _, o2, g2⟩ := o1.store (by rw [List.length_set]; exact hn) j (by rw [List.length_set]; exact hj) (nth d i)
  exact ⟨o2, grownBy_trans g1 g2⟩
theorem grownBy_drew (W : World) (row : Option Nat) : W.grownBy W.drew row := ⟨rfl, rfl, rfl, Nat.le_refl _, fun k hk _ => rfl⟩
theorem OwnI.drewG {w : World} {N g n c : Nat} {d : List Int} (h : OwnI w N (.slice (some ⟨g, 0, none⟩) n c) d) : OwnI w.drew N (.slice (some ⟨g, 0, none⟩) n c) d := h.drewN 1

end Go.Proofs.YtbocedlldaeanaaDoor

namespace Go.Proofs.YtbocedlldaeanaaDoor
open Go.RowKit
set_option linter.unusedVariables false
set_option linter.unusedSimpArgs false

theorem quiet_drewI {P : Program} {f : FuncId} {args : Array Value} {w : World} {n : Nat} {v : Value}
    (h : Calls P f args (w.drewN n) fun e w' => e = .returned v ∧ ∃ q, w' = (w.drewN n).drewN q) : Calls P f args (w.drewN n) fun e w'' => e = .returned v ∧ ∃ m, w'' = w.drewN m :=
  h.mono fun _ _ ⟨he, q, hq⟩ => ⟨he, n + q, by rw [hq]; simp⟩

theorem GrownL.row1 {g : Nat} {A W W' : World} (h : GrownL [g] A W) (hg : W.grownBy W' (some g)) : GrownL [g] A W' := h.grown hg fun j e => .inl (by cases e; simp)
theorem nth_mem {d : List Int} {i : Nat} (h : i < d.length) : nth d i ∈ d := by rw [nth_eq h]; exact List.getElem_mem h
theorem OwnI.belowB {w W : World} {N : Nat} {v : Value} {d : List Int} (h : OwnI w N v d) (hb : Below w.heap.size w W) : OwnI W N v d := h.below hb (Nat.le_refl _)

end Go.Proofs.YtbocedlldaeanaaDoor

namespace Go.Proofs.YtbocedlldaeanaaDoor
open Go.RowKit
set_option linter.unusedVariables false
set_option linter.unusedSimpArgs false

/-- What the merge in place leaves behind. -/
def MergePost (g n c N a b : Nat) (key : Int → Int) (D : List Int) (w0 w' : World) : Prop :=
  ∃ E, OwnI w' N (.slice (some ⟨g, 0, none⟩) n c) E ∧ SortedOn key E a b ∧ SegSame D E a b ∧ GrownL [g] w0 w'

/-- The rounds of the search. -/
def SrchL (g n c N a b : Nat) (key : Int → Int) (D : List Int) (w0 : World) (vi vj : Value) (wr : World) : Prop :=
  ∃ (i j : Nat), a + 1 ≤ i ∧ i ≤ j ∧ j ≤ b ∧ vi = .int .i64 i ∧ vj = .int .i64 j ∧ Hid ((∀ c, a + 1 ≤ c → c < i → key (nth D c) < key (nth D a)) ∧ (∀ c, j ≤ c → c < b → key (nth D a) ≤ key (nth D c))) ∧ Hid (OwnI wr N (.slice (some ⟨g, 0, none⟩) n c) D ∧ GrownL [g] w0 wr)
/-- The rounds of the move. -/
def MoveL (g n c N a b l : Nat) (D : List Int) (w0 : World) (vk : Value) (wi : World) : Prop :=
  ∃ (k : Nat) (E : List Int), a ≤ k ∧ k ≤ l ∧ vk = .int .i64 k ∧ Hid (OwnI wi N (.slice (some ⟨g, 0, none⟩) n c) E ∧ GrownL [g] w0 wi) ∧ Hid (Rotated D E a (a + 1) (k + 1) ∧ SegSame D E a b ∧ E.length = n)

end Go.Proofs.YtbocedlldaeanaaDoor

namespace Go.Proofs.YtbocedlldaeanaaDoor
open Go.RowKit
set_option linter.unusedVariables false
set_option linter.unusedSimpArgs false

/-- The rounds of the search on the right. -/
def SrchR (g n c N a m : Nat) (key : Int → Int) (D : List Int) (w0 : World) (vi vj : Value) (wr : World) : Prop :=
  ∃ (i j : Nat), a ≤ i ∧ i ≤ j ∧ j ≤ m ∧ vi = .int .i64 i ∧ vj = .int .i64 j ∧ Hid ((∀ c, a ≤ c → c < i → key (nth D c) ≤ key (nth D m)) ∧ (∀ c, j ≤ c → c < m → key (nth D m) < key (nth D c))) ∧ Hid (OwnI wr N (.slice (some ⟨g, 0, none⟩) n c) D ∧ GrownL [g] w0 wr)
/-- The rounds of the move on the right. -/
def MoveR (g n c N a m l b : Nat) (D : List Int) (w0 : World) (vk : Value) (wi : World) : Prop :=
  ∃ (k : Nat) (E : List Int), l ≤ k ∧ k ≤ m ∧ vk = .int .i64 k ∧ Hid (OwnI wi N (.slice (some ⟨g, 0, none⟩) n c) E ∧ GrownL [g] w0 wi) ∧ Hid (Rotated D E k m (m + 1) ∧ SegSame D E a b ∧ E.length = n)

end Go.Proofs.YtbocedlldaeanaaDoor

namespace Go.Proofs.YtbocedlldaeanaaDoor
open Go.RowKit
set_option linter.unusedVariables false
set_option linter.unusedSimpArgs false

/-- The rounds of the search between the halves. -/
def SrchM (g n c N p s0 r0 : Nat) (key : Int → Int) (D : List Int) (w0 : World) (vi vj : Value) (wr : World) : Prop :=
  ∃ (s r : Nat), s ≤ r ∧ vi = .int .i64 s ∧ vj = .int .i64 r ∧ Hid (Search key D p s0 r0 s r) ∧ Hid (OwnI wr N (.slice (some ⟨g, 0, none⟩) n c) D ∧ GrownL [g] w0 wr)
/-- Behind the rotation. -/
def RotPost (g n c N a b s m e : Nat) (D : List Int) (w0 w' : World) : Prop :=
  ∃ E, OwnI w' N (.slice (some ⟨g, 0, none⟩) n c) E ∧ Rotated D E s m e ∧ SegSame D E a b ∧ GrownL [g] w0 w'
/-- What joins the two halves. -/
theorem merge_join {key : Int → Int} {D E F G : List Int} {a b mid : Nat} (hde : SegSame D E a b) (hef : SegSame E F a mid) (hfg : SegSame F G mid b) (ham : a ≤ mid) (hmb : mid ≤ b)
    (h1 : SortedOn key F a mid) (h2 : SortedOn key G mid b) (hx : ∀ p q, a ≤ p → p < mid → mid ≤ q → q < b → lexLt key (nth E p) (nth E q)) : SortedOn key G a b ∧ SegSame D G a b := by
  refine ⟨halves_sorted hx ham hmb (fun i j x y z => ?_) h2 (fun k k1 k2 => ?_) (fun k k1 k2 => ?_), (hde.trans (hef.wide (Nat.le_refl _) hmb)).trans (hfg.wide ham (Nat.le_refl _))⟩
  · rw [hfg.out i (.inl (by omega)), hfg.out j (.inl z)]; exact h1 i j x y z
  · rw [hfg.out k (.inl k2)]; exact hef.mem k k1 k2
  · obtain ⟨k', x, y, z⟩ := hfg.mem k k1 k2
    exact ⟨k', x, y, by rw [z, hef.out k' (.inr x)]⟩
theorem MergePre.keep {key : Int → Int} {D E : List Int} {a m b x y : Nat} (h : MergePre key D a m b) (hs : SegSame D E x y) (hy : y ≤ a) (ham : a ≤ m) (hmb : m ≤ b) : MergePre key E a m b := by
  refine ⟨fun i j p q r => ?_, fun i j p q r => ?_, fun i j p q r t => ?_⟩
  · rw [hs.out i (.inr (by omega)), hs.out j (.inr (by omega))]; exact h.l i j p q r
  · rw [hs.out i (.inr (by omega)), hs.out j (.inr (by omega))]; exact h.r i j p q r
  · rw [hs.out i (.inr (by omega)), hs.out j (.inr (by omega))]; exact h.side i j p q r t
theorem MergePre.bare {key : Int → Int} {D : List Int} {a m b : Nat} (h : MergePre key D a m b) (ham : a ≤ m) (hmb : m ≤ b) (he : ¬ (a < m ∧ m < b)) : SortedOn key D a b := by
  by_cases h1 : a < m
  · obtain rfl : m = b := by omega
    exact h.l
  · obtain rfl : a = m := by omega
    exact h.r

end Go.Proofs.YtbocedlldaeanaaDoor

namespace Go.Proofs.YtbocedlldaeanaaDoor
open Go.RowKit
set_option linter.unusedVariables false
set_option linter.unusedSimpArgs false

/-- Between the borders it is sorted; across a border the numbers ascend. -/
def Blks (Bd : Nat → Prop) (key : Int → Int) (d : List Int) (n : Nat) : Prop :=
  ∀ p q, p < q → q < n → (∀ c, Bd c → p < c → c ≤ q → nth d p < nth d q) ∧ ((∀ c, Bd c → p < c → c ≤ q → False) → lexLt key (nth d p) (nth d q))
theorem Blks.congr {Bd Bd' : Nat → Prop} {key : Int → Int} {d : List Int} {n : Nat} (h : Blks Bd key d n) (he : ∀ c, 0 < c → c < n → (Bd c ↔ Bd' c)) : Blks Bd' key d n := fun p q h1 h2 =>
  ⟨fun c b c1 c2 => (h p q h1 h2).1 c ((he c (by omega) (by omega)).2 b) c1 c2, fun k => (h p q h1 h2).2 fun c b c1 c2 => k c ((he c (by omega) (by omega)).1 b) c1 c2⟩
theorem Blks.all {key : Int → Int} {d : List Int} {n : Nat} (h : ∀ p q, p < q → q < n → nth d p < nth d q) : Blks (fun _ => True) key d n := fun p q h1 h2 =>
  ⟨fun c _ _ _ => h p q h1 h2, fun k => (k q trivial h1 (Nat.le_refl _)).elim⟩
theorem Blks.sorted {Bd : Nat → Prop} {key : Int → Int} {d : List Int} {n a b : Nat} (h : Blks Bd key d n) (hb : b ≤ n) (hn : ∀ c, a < c → c < b → ¬ Bd c) : SortedOn key d a b := fun i j x y z =>
  (h i j y (by omega)).2 fun c hc c1 c2 => hn c (by omega) (by omega) hc
theorem Blks.asc {Bd : Nat → Prop} {key : Int → Int} {d : List Int} {n a b : Nat} (h : Blks Bd key d n) (hb : b ≤ n) (hn : ∀ c, a < c → c < b → Bd c) : ∀ p q, a ≤ p → p < q → q < b → nth d p < nth d q := fun i j x y z =>
  (h i j y (by omega)).1 j (hn j (by omega) z) y (Nat.le_refl _)
/-- Two blocks beside each other are ready to be merged. -/
theorem Blks.pre {Bd : Nat → Prop} {key : Int → Int} {d : List Int} {n a m b : Nat} (h : Blks Bd key d n) (hb : b ≤ n) (hm : Bd m) (ham : a < m) (hmb : m < b) (hn : ∀ c, a < c → c < b → Bd c → c = m) : MergePre key d a m b :=
  ⟨h.sorted (by omega) fun c c1 c2 hc => by have := hn c c1 (by omega) hc; omega, h.sorted hb fun c c1 c2 hc => by have := hn c (by omega) c2 hc; omega, fun p q p1 p2 q1 q2 _ => (h p q (by omega) (by omega)).1 m hm p2 q1⟩
/-- What lies between two borders is sorted: no border lies between them any more. -/
theorem Blks.merged {Bd : Nat → Prop} {key : Int → Int} {d d' : List Int} {n a b : Nat} (h : Blks Bd key d n) (hs : SegSame d d' a b) (hsort : SortedOn key d' a b) (ha : a = 0 ∨ Bd a) (hb : b = n ∨ Bd b) (hbn : b ≤ n) :
    Blks (fun c => Bd c ∧ ¬ (a < c ∧ c < b)) key d' n := by
  intro p q hpq hqn
  have at_ : ∀ k, k < n → ∃ k', nth d' k = nth d k' ∧ k' < n ∧ (a ≤ k ∧ k < b → a ≤ k' ∧ k' < b) ∧ (¬ (a ≤ k ∧ k < b) → k' = k) := fun k hk => by
    by_cases hin : a ≤ k ∧ k < b
    · obtain ⟨k', x, y, z⟩ := hs.mem k hin.1 hin.2
      exact ⟨k', z, by omega, fun _ => ⟨x, y⟩, fun hh => absurd hin hh⟩
    · exact ⟨k, hs.out k (by omega), hk, fun hh => absurd hh hin, fun _ => rfl⟩
  obtain ⟨p', e1, p1, p2, p3⟩ := at_ p (by omega)
  obtain ⟨q', e2, q1, q2, q3⟩ := at_ q hqn
  rw [e1, e2]
  refine ⟨fun c ⟨hc, hc2⟩ c1 c2 => ?_, fun hno => ?_⟩
  · by_cases hp : a ≤ p ∧ p < b
    · have := p2 hp
      by_cases hq : a ≤ q ∧ q < b
      · have := q2 hq; omega
      · have := q3 hq
        exact (h p' q' (by omega) q1).1 c hc (by omega) (by omega)
    · have := p3 hp
      by_cases hq : a ≤ q ∧ q < b
      · have := q2 hq
        exact (h p' q' (by omega) q1).1 c hc (by omega) (by omega)
      · have := q3 hq
        exact (h p' q' (by omega) q1).1 c hc (by omega) (by omega)
  · by_cases hp : a ≤ p ∧ p < b
    · by_cases hq : a ≤ q ∧ q < b
      · rw [← e1, ← e2]; exact hsort p q hp.1 hpq hq.2
      · rcases hb with hb | hb
        · omega
        · exact (hno b ⟨hb, by omega⟩ hp.2 (by omega)).elim
    · have e3 := p3 hp
      by_cases hq : a ≤ q ∧ q < b
      · rcases ha with ha | ha
        · omega
        · exact (hno a ⟨ha, by omega⟩ (by omega) hq.1).elim
      · have e4 := q3 hq
        rw [e3, e4]
        refine (h p q hpq hqn).2 fun c hc c1 c2 => ?_
        by_cases hin : a < c ∧ c < b
        · rcases ha with ha | ha
          · omega
          · exact hno a ⟨ha, by omega⟩ (by omega) (by omega)
        · exact hno c ⟨hc, hin⟩ c1 c2

/-! The two passes. -/
/-- Blocks of twenty, up to a; behind it every place is a border. -/
def Bd20 (a : Nat) (c : Nat) : Prop := a ≤ c ∨ 20 ∣ c
theorem Bd20.next {key : Int → Int} {d d' : List Int} {n a : Nat} (h : Blks (Bd20 a) key d n) (h20 : 20 ∣ a) (hs : SegSame d d' a (a + 20)) (hsort : SortedOn key d' a (a + 20)) (hbn : a + 20 ≤ n) : Blks (Bd20 (a + 20)) key d' n := by
  refine (h.merged hs hsort (.inr (.inl (Nat.le_refl _))) (.inr (.inl (by omega))) hbn).congr fun c c0 cn => ?_
  unfold Bd20
  constructor
  · rintro ⟨h1 | h1, h2⟩
    · by_cases e : c = a
      · right; rw [e]; exact h20
      · left; omega
    · exact .inr h1
  · rintro (h1 | h1)
    · exact ⟨.inl (by omega), by omega⟩
    · refine ⟨.inr h1, ?_⟩
      obtain ⟨x, rfl⟩ := h1
      obtain ⟨y, rfl⟩ := h20
      omega
theorem Bd20.last {key : Int → Int} {d d' : List Int} {n a : Nat} (h : Blks (Bd20 a) key d n) (h20 : 20 ∣ a) (hs : SegSame d d' a n) (hsort : SortedOn key d' a n) (hbn : a ≤ n) (hend : n < a + 20) : Blks (fun c => 20 ∣ c) key d' n := by
  refine (h.merged hs hsort (.inr (.inl (Nat.le_refl _))) (.inl rfl) (Nat.le_refl _)).congr fun c c0 cn => ?_
  unfold Bd20
  constructor
  · rintro ⟨h1 | h1, h2⟩
    · by_cases e : c = a
      · rw [e]; exact h20
      · omega
    · exact h1
  · intro h1
    refine ⟨.inr h1, ?_⟩
    obtain ⟨x, rfl⟩ := h1
    obtain ⟨y, rfl⟩ := h20
    omega
/-- Blocks of twice the size up to a, of the size behind it. -/
def Bd2 (s a : Nat) (c : Nat) : Prop := s ∣ c ∧ (c ≤ a → 2 * s ∣ c)
theorem bd2_start (s : Nat) (c : Nat) (h : 0 < c) : s ∣ c ↔ Bd2 s 0 c := ⟨fun h' => ⟨h', fun h2 => by omega⟩, fun h' => h'.1⟩
theorem dvd_between {s a c : Nat} (ha : s ∣ a) (hc : s ∣ c) (h1 : a < c) (h2 : c < a + 2 * s) : c = a + s := by
  obtain ⟨x, rfl⟩ := ha
  obtain ⟨y, rfl⟩ := hc
  have e1 : x < y := Nat.lt_of_mul_lt_mul_left (a := s) h1
  have e2 : y < x + 2 := Nat.lt_of_mul_lt_mul_left (a := s) (by rw [Nat.mul_add]; omega)
  obtain rfl : y = x + 1 := by omega
  rw [Nat.mul_add]; omega
theorem not_dvd_mid {s a : Nat} (hs : 0 < s) (ha : 2 * s ∣ a) : ¬ 2 * s ∣ a + s := fun h => by
  have := (Nat.dvd_add_right ha).1 h
  have := Nat.le_of_dvd hs this
  omega
theorem dvd_half {s a : Nat} (h : 2 * s ∣ a) : s ∣ a := Nat.dvd_trans (Nat.dvd_mul_left s 2) h
theorem Bd2.only {s a c : Nat} (ha : 2 * s ∣ a) (h1 : a < c) (h2 : c < a + 2 * s) (h : Bd2 s a c) : c = a + s := dvd_between (dvd_half ha) h.1 h1 h2
theorem Bd2.mid {s a : Nat} (hs : 0 < s) (ha : 2 * s ∣ a) : Bd2 s a (a + s) := ⟨(Nat.dvd_add_right (dvd_half ha)).2 (Nat.dvd_refl _), fun h => by omega⟩
theorem Bd2.at_ {s a : Nat} (ha : 2 * s ∣ a) : Bd2 s a a := ⟨dvd_half ha, fun _ => ha⟩
theorem Bd2.end_ {s a : Nat} (hs : 0 < s) (ha : 2 * s ∣ a) : Bd2 s a (a + 2 * s) := ⟨dvd_half ((Nat.dvd_add_right ha).2 (Nat.dvd_refl _)), fun h => by omega⟩
theorem Bd2.next {key : Int → Int} {d d' : List Int} {n s a : Nat} (h : Blks (Bd2 s a) key d n) (hs0 : 0 < s) (ha : 2 * s ∣ a) (hs : SegSame d d' a (a + 2 * s)) (hsort : SortedOn key d' a (a + 2 * s)) (hbn : a + 2 * s ≤ n) : Blks (Bd2 s (a + 2 * s)) key d' n := by
  refine (h.merged hs hsort (.inr (Bd2.at_ ha)) (.inr (Bd2.end_ hs0 ha)) hbn).congr fun c c0 cn => ?_
  constructor
  · rintro ⟨h1, h2⟩
    refine ⟨h1.1, fun h3 => ?_⟩
    by_cases e : c ≤ a
    · exact h1.2 e
    · obtain rfl : c = a + 2 * s := by omega
      exact (Nat.dvd_add_right ha).2 (Nat.dvd_refl _)
  · rintro ⟨h1, h2⟩
    refine ⟨⟨h1, fun h3 => h2 (by omega)⟩, fun ⟨h3, h4⟩ => ?_⟩
    have := dvd_between (dvd_half ha) h1 h3 h4
    subst this
    exact not_dvd_mid hs0 ha (h2 (by omega))
theorem Bd2.last {key : Int → Int} {d d' : List Int} {n s a : Nat} (h : Blks (Bd2 s a) key d n) (hs0 : 0 < s) (ha : 2 * s ∣ a) (hs : SegSame d d' a n) (hsort : SortedOn key d' a n) (hbn : n < a + 2 * s) : Blks (fun c => 2 * s ∣ c) key d' n := by
  refine (h.merged hs hsort (.inr (Bd2.at_ ha)) (.inl rfl) (Nat.le_refl _)).congr fun c c0 cn => ?_
  constructor
  · rintro ⟨h1, h2⟩
    exact h1.2 (by omega)
  · intro h1
    refine ⟨⟨dvd_half h1, fun _ => h1⟩, fun ⟨h3, h4⟩ => ?_⟩
    have := dvd_between (dvd_half ha) (dvd_half h1) h3 (by omega)
    subst this
    exact not_dvd_mid hs0 ha h1
theorem blks_end {key : Int → Int} {d : List Int} {n s : Nat} (h : Blks (fun c => s ∣ c) key d n) (hs : n ≤ s) : SortedOn key d 0 n :=
  h.sorted (Nat.le_refl _) fun c c1 c2 hc => by have := Nat.le_of_dvd c1 hc; omega
end Go.Proofs.YtbocedlldaeanaaDoor

namespace Go.Proofs.YtbocedlldaeanaaDoor
open Go.RowKit
set_option linter.unusedVariables false
set_option linter.unusedSimpArgs false

/-- The rounds of the first pass. -/
def Pass1 (g n c N : Nat) (key : Int → Int) (D0 : List Int) (w0 : World) (va vb : Value) (wr : World) : Prop :=
  ∃ (a b : Nat) (E : List Int), va = .int .i64 a ∧ vb = .int .i64 b ∧ Hid (b = a + 20 ∧ 20 ∣ a ∧ a ≤ n) ∧ Hid (OwnI wr N (.slice (some ⟨g, 0, none⟩) n c) E ∧ GrownL [g] w0 wr) ∧ Hid (Blks (Bd20 a) key E n ∧ E.Perm D0 ∧ n = E.length)
/-- The rounds of the second. -/
def Pass2 (g n c N : Nat) (key : Int → Int) (D0 : List Int) (w0 : World) (vs : Value) (wr : World) : Prop :=
  ∃ (s : Nat) (E : List Int), vs = .int .i64 s ∧ 1 ≤ s ∧ s ≤ 2097152 ∧ Hid (OwnI wr N (.slice (some ⟨g, 0, none⟩) n c) E ∧ GrownL [g] w0 wr) ∧ Hid (Blks (fun c => s ∣ c) key E n ∧ E.Perm D0 ∧ n = E.length)
def Pass3 (g n c N s : Nat) (key : Int → Int) (D0 : List Int) (w0 : World) (va vb : Value) (wr : World) : Prop :=
  ∃ (a b : Nat) (E : List Int), va = .int .i64 a ∧ vb = .int .i64 b ∧ Hid (b = a + 2 * s ∧ 2 * s ∣ a ∧ a ≤ n) ∧ Hid (OwnI wr N (.slice (some ⟨g, 0, none⟩) n c) E ∧ GrownL [g] w0 wr) ∧ Hid (Blks (Bd2 s a) key E n ∧ E.Perm D0 ∧ n = E.length)
/-- What the sort leaves behind. -/
def SortPost (g n c N : Nat) (key : Int → Int) (D0 : List Int) (w0 w' : World) : Prop :=
  ∃ E, OwnI w' N (.slice (some ⟨g, 0, none⟩) n c) E ∧ SortedOn key E 0 n ∧ E.Perm D0 ∧ GrownL [g] w0 w'

end Go.Proofs.YtbocedlldaeanaaDoor

namespace Go.Proofs.YtbocedlldaeanaaDoor
open Go.RowKit
set_option linter.unusedVariables false
set_option linter.unusedSimpArgs false

/-- 0, 1, .. n - 1. -/
def idL (n : Nat) : List Int := (List.range n).map fun (i : Nat) => (i : Int)
theorem idL_length (n : Nat) : (idL n).length = n := by simp [idL]
theorem idL_succ (n : Nat) : idL (n + 1) = idL n ++ [(n : Int)] := by unfold idL; rw [List.range_succ, List.map_append]; rfl
theorem idL_get {n i : Nat} (h : i < n) : nth (idL n) i = (i : Int) := by
  rw [nth_eq (by rw [idL_length]; exact h)]; simp [idL]

end Go.Proofs.YtbocedlldaeanaaDoor

namespace Go.Proofs.YtbocedlldaeanaaDoor
open Go.RowKit
set_option linter.unusedVariables false
set_option linter.unusedSimpArgs false

/-- -1, 0 or 1. -/
def cmpI (x y : Int) : Int := if x < y then -1 else if y < x then 1 else 0
theorem cmpI_neg (x y : Int) : cmpI x y < 0 ↔ x < y := by unfold cmpI; split <;> (try split) <;> omega

/-- What is asked of a key: it only reads. -/
def KeyAt (kf : Nat) (cap : Array Value) (key : Int → Int) (x : Int) (W : World) : Prop :=
  Calls Tryd.prog kf (#[.int .i64 x] ++ cap) W fun e w' => e = .returned (.int .i64 (key x)) ∧ ∃ q, w' = W.drewN q

/-- Sorted by the key, equal ones in their order. -/
def SortsBy (key : Int → Int) (n : Nat) (E : List Int) : Prop := E.Perm (idL n) ∧ SortedOn key E 0 n
theorem idL_mem {n : Nat} {x : Int} : x ∈ idL n ↔ 0 ≤ x ∧ x < n := by
  unfold idL
  rw [List.mem_map]
  constructor
  · rintro ⟨i, hi, rfl⟩
    have := List.mem_range.1 hi
    omega
  · intro h
    exact ⟨x.toNat, List.mem_range.2 (by omega), by omega⟩

end Go.Proofs.YtbocedlldaeanaaDoor

namespace Go.Proofs.YtbocedlldaeanaaDoor
open Go.RowKit Go.Shelf Go.BigFrame
set_option linter.unusedVariables false
set_option linter.unusedSimpArgs false
attribute [local go_sem] Oper.semAt_some

def talksHead (xs : List Int) : Bool := many xs 2 64 0 10000 && decide (xs.length % 2 = 0)
def talksOk (xs : List Int) : Bool := talksHead xs && (List.range (xs.length / 2)).all fun j => decide (nth xs (2 * j) < nth xs (2 * j + 1))

theorem talks_split {xs : List Int} (hl : 2 ≤ xs.length) (h2 : xs.length ≤ 64) (h3 : xs.length % 2 = 0)
    (h : ∀ j, 2 * j < xs.length → 0 ≤ nth xs (2 * j) ∧ nth xs (2 * j) ≤ 10000 ∧ nth xs (2 * j) + 1 ≤ nth xs (2 * j + 1) ∧ nth xs (2 * j + 1) ≤ 10000) : talksOk xs = true := by
  have h1 : (xs.all fun x => win x 0 10000) = true := by
    rw [List.all_eq_true]; intro x hx
    obtain ⟨i, hi, rfl⟩ := List.getElem_of_mem hx
    rw [win_true, ← nth_eq hi]
    rcases Nat.mod_two_eq_zero_or_one i with e | e
    · have := h (i / 2) (by omega)
      rw [show 2 * (i / 2) = i by omega] at this; omega
    · have := h (i / 2) (by omega)
      rw [show 2 * (i / 2) + 1 = i by omega] at this; omega
  have h4 : ((List.range (xs.length / 2)).all fun j => decide (nth xs (2 * j) < nth xs (2 * j + 1))) = true := by
    rw [List.all_eq_true]; intro j hj
    have := h j (by have := List.mem_range.1 hj; omega)
    simp; omega
  have h5 : many xs 2 64 0 10000 = true := many_true.2 ⟨by omega, by omega, h1⟩
  simp [talksOk, talksHead, h5, h3, h4]

theorem talks_bad {xs : List Int} (h3 : xs.length % 2 = 0) (j : Nat) (hj : 2 * j < xs.length) (h : ¬ (0 ≤ nth xs (2 * j) ∧ nth xs (2 * j) ≤ 10000 ∧ nth xs (2 * j) + 1 ≤ nth xs (2 * j + 1) ∧ nth xs (2 * j + 1) ≤ 10000)) : talksOk xs = false := by
  cases hc : talksOk xs
  · rfl
  · exfalso
    simp only [talksOk, talksHead, many, Bool.and_eq_true, List.all_eq_true, decide_eq_true_eq] at hc
    obtain ⟨⟨⟨_, ha⟩, _⟩, hb⟩ := hc
    have h0 := win_true.1 (ha _ (List.getElem_mem (show 2 * j < xs.length from hj)))
    have h1 := win_true.1 (ha _ (List.getElem_mem (show 2 * j + 1 < xs.length by omega)))
    rw [← nth_eq] at h0 h1
    have := hb j (List.mem_range.2 (by omega))
    omega

end Go.Proofs.YtbocedlldaeanaaDoor

namespace Go.Proofs.YtbocedlldaeanaaDoor
open Go.RowKit Go.BigFrame
set_option linter.unusedVariables false
set_option linter.unusedSimpArgs false
attribute [local go_sem] Oper.semAt_some

def meetB (xs : List Int) (i k : Nat) : Bool := decide (nth xs (2 * i) < nth xs (2 * k + 1)) && decide (nth xs (2 * k) < nth xs (2 * i + 1))
theorem meetB_comm (xs : List Int) (i k : Nat) : meetB xs i k = meetB xs k i := by unfold meetB; rw [Bool.and_comm]

end Go.Proofs.YtbocedlldaeanaaDoor

namespace Go.Proofs.YtbocedlldaeanaaDoor
open Go.RowKit
set_option linter.unusedVariables false
set_option linter.unusedSimpArgs false

/-- The first of those that are free, with the least key; -1 if there is none. -/
def pickK (f : Nat → Bool) (key : Int → Int) : Nat → Int
  | 0 => -1
  | i + 1 => if f i = true ∧ (pickK f key i < 0 ∨ key i < key (pickK f key i)) then (i : Int) else pickK f key i
theorem pickK_spec (f : Nat → Bool) (key : Int → Int) : ∀ n, (pickK f key n = -1 ∧ ∀ i, i < n → f i = false) ∨ (0 ≤ pickK f key n ∧ pickK f key n < n ∧ f (pickK f key n).toNat = true ∧ ∀ i : Nat, i < n → f i = true → (i : Int) = pickK f key n ∨ lexLt key (pickK f key n) i)
  | 0 => .inl ⟨rfl, fun i h => absurd h (Nat.not_lt_zero _)⟩
  | n + 1 => by
    have ih := pickK_spec f key n
    unfold pickK
    by_cases hf : f n = true
    · rcases ih with ⟨h1, h2⟩ | ⟨h1, h2, h3, h4⟩
      · rw [if_pos ⟨hf, .inl (by omega)⟩]
        refine .inr ⟨by omega, by omega, by simpa using hf, fun i hi h => ?_⟩
        by_cases e : i = n
        · exact .inl (by rw [e])
        · rw [h2 i (by omega)] at h; cases h
      · by_cases hk : key n < key (pickK f key n)
        · rw [if_pos ⟨hf, .inr hk⟩]
          refine .inr ⟨by omega, by omega, by simpa using hf, fun i hi h => ?_⟩
          by_cases e : i = n
          · exact .inl (by rw [e])
          · right; left
            rcases h4 i (by omega) h with h5 | h5 | h5
            · rw [h5]; exact hk
            · omega
            · omega
        · rw [if_neg (fun h => by rcases h.2 with h | h; omega; exact hk h)]
          refine .inr ⟨h1, by omega, h3, fun i hi h => ?_⟩
          by_cases e : i = n
          · subst e
            right
            by_cases e2 : key (pickK f key i) = key i
            · exact .inr ⟨e2, by omega⟩
            · exact .inl (by omega)
          · exact h4 i (by omega) h
    · rw [if_neg (fun h => hf h.1)]
      have hf' : f n = false := by simpa using hf
      rcases ih with ⟨h1, h2⟩ | ⟨h1, h2, h3, h4⟩
      · refine .inl ⟨h1, fun i hi => ?_⟩
        by_cases e : i = n
        · rw [e]; exact hf'
        · exact h2 i (by omega)
      · refine .inr ⟨h1, by omega, h3, fun i hi h => ?_⟩
        by_cases e : i = n
        · rw [e, hf'] at h; cases h
        · exact h4 i (by omega) h

/-- Where a talk ends, where it begins. -/
def endOf (xs : List Int) (i : Int) : Int := nth xs (2 * i.toNat + 1)
def begOf (xs : List Int) (i : Int) : Int := nth xs (2 * i.toNat)
/-- Does i meet one of out? -/
def meetsB (xs : List Int) (out : List Int) (i : Int) : Bool := out.any fun k => meetB xs i.toNat k.toNat
def heardStep (xs : List Int) (out : List Int) (i : Int) : List Int := if meetsB xs out i then out else out ++ [i]
/-- Is i not in out, and meets none of it? -/
def freeS (xs : List Int) (out : List Int) (i : Nat) : Bool := out.all fun k => !(decide ((i : Int) = k) || meetB xs i k.toNat)
def heardN (xs : List Int) (n : Nat) : Nat → List Int → List Int
  | 0, out => out
  | k + 1, out => if pickK (freeS xs out) (endOf xs) n < 0 then out else heardN xs n k (out ++ [pickK (freeS xs out) (endOf xs) n])
def cntF (xs : List Int) (n : Nat) (out : List Int) : Nat := ((List.range n).filter (freeS xs out)).length

theorem filter_less {α : Type} {p q : α → Bool} : ∀ {l : List α}, (∀ x ∈ l, p x = true → q x = true) → (l.filter p).length ≤ (l.filter q).length
  | [], _ => Nat.le_refl _
  | a :: l, h => by
    have ih := filter_less (l := l) fun x hx => h x (List.mem_cons_of_mem _ hx)
    have ha := h a (List.mem_cons_self ..)
    rw [List.filter_cons, List.filter_cons]
    split
    · rename_i h1; rw [if_pos (ha h1)]; simp; exact ih
    · split
      · simp; omega
      · exact ih
theorem filter_lt {α : Type} {p q : α → Bool} {b : α} : ∀ {l : List α}, (∀ x ∈ l, p x = true → q x = true) → b ∈ l → q b = true → p b = false → (l.filter p).length < (l.filter q).length
  | [], _, hb, _, _ => by cases hb
  | a :: l, h, hb, hq, hp => by
    have h' : ∀ x ∈ l, p x = true → q x = true := fun x hx => h x (List.mem_cons_of_mem _ hx)
    rw [List.filter_cons, List.filter_cons]
    rcases List.mem_cons.1 hb with e | hb
    · subst e
      rw [if_neg (by rw [hp]; exact Bool.false_ne_true), if_pos hq]
      have := filter_less h'
      simp; omega
    · have ih := filter_lt h' hb hq hp
      have ha := h a (List.mem_cons_self ..)
      split
      · rename_i h1; rw [if_pos (ha h1)]; simp; exact ih
      · split
        · simp; omega
        · exact ih

theorem freeS_snoc (xs out : List Int) (b : Int) (i : Nat) : freeS xs (out ++ [b]) i = (freeS xs out i && !(decide ((i : Int) = b) || meetB xs i b.toNat)) := by
  unfold freeS; rw [List.all_append]; simp
theorem cntF_less {xs out : List Int} {n : Nat} {b : Int} (h0 : 0 ≤ b) (hn : b < n) (hf : freeS xs out b.toNat = true) : cntF xs n (out ++ [b]) + 1 ≤ cntF xs n out := by
  unfold cntF
  have := filter_lt (p := freeS xs (out ++ [b])) (q := freeS xs out) (b := b.toNat) (l := List.range n) (fun x _ hx => by
    rw [freeS_snoc, Bool.and_eq_true] at hx; exact hx.1) (List.mem_range.2 (by omega)) hf (by
    rw [freeS_snoc]; simp; intro _ h; omega)
  omega
theorem cntF_zero {xs out : List Int} {n : Nat} (h : cntF xs n out = 0) : ∀ i, i < n → freeS xs out i = false := fun i hi => by
  cases hf : freeS xs out i
  · rfl
  · have : i ∈ (List.range n).filter (freeS xs out) := List.mem_filter.2 ⟨List.mem_range.2 hi, hf⟩
    rw [List.length_eq_zero_iff.1 h] at this
    cases this
theorem pick_none {xs out : List Int} {n : Nat} (h : ∀ i, i < n → freeS xs out i = false) : pickK (freeS xs out) (endOf xs) n < 0 := by
  rcases pickK_spec (freeS xs out) (endOf xs) n with ⟨h1, _⟩ | ⟨h1, h2, h3, _⟩
  · omega
  · rw [h _ (by omega)] at h3; cases h3
theorem heardN_stop {xs out : List Int} {n : Nat} (k : Nat) (h : pickK (freeS xs out) (endOf xs) n < 0) : heardN xs n k out = out := by
  cases k with
  | zero => rfl
  | succ k => unfold heardN; rw [if_pos h]
theorem free_iff {xs out : List Int} {n : Nat} (hself : ∀ i, i < n → meetB xs i i = true) {x : Int} (h0 : 0 ≤ x) (hn : x < n) : freeS xs out x.toNat = !meetsB xs out x := by
  unfold freeS meetsB
  rw [List.all_eq_not_any_not]
  congr 2
  funext k
  rw [Bool.not_not]
  by_cases e : ((x.toNat : Nat) : Int) = k
  · rw [← e, Int.toNat_natCast, hself x.toNat (by omega), Bool.or_true]
  · rw [decide_eq_false e, Bool.false_or]

theorem sorts_after {key : Int → Int} {n : Nat} {E pre suf : List Int} {x y : Int} (h : SortsBy key n E) (he : E = pre ++ x :: suf) (hy : y ∈ suf) : lexLt key x y := by
  obtain ⟨j, hj, rfl⟩ := List.getElem_of_mem hy
  have hl : E.length = n := by rw [h.1.length_eq, idL_length]
  have hlen : pre.length + 1 + j < n := by rw [← hl, he]; simp; omega
  have e1 : nth E pre.length = x := by rw [nth_eq (by omega)]; subst he; simp
  have e2 : nth E (pre.length + 1 + j) = suf[j] := by
    rw [nth_eq (by omega)]; subst he
    rw [List.getElem_append_right (by omega)]
    simp only [show pre.length + 1 + j - pre.length = j + 1 by omega, List.getElem_cons_succ]
  have := h.2 pre.length (pre.length + 1 + j) (Nat.zero_le _) (by omega) hlen
  rwa [e1, e2] at this

theorem heard_fold {xs : List Int} {n : Nat} {E : List Int} (hE : SortsBy (endOf xs) n E) (hself : ∀ i, i < n → meetB xs i i = true) :
    ∀ (suf pre out : List Int) (k : Nat), E = pre ++ suf → (∀ x ∈ pre, freeS xs out x.toNat = false) → cntF xs n out ≤ k → suf.foldl (heardStep xs) out = heardN xs n k out := by
  have hmem : ∀ x, x ∈ E ↔ 0 ≤ x ∧ x < (n : Int) := fun x => by rw [hE.1.mem_iff, idL_mem]
  intro suf
  induction suf with
  | nil =>
    intro pre out k he hp _
    rw [List.append_nil] at he
    rw [heardN_stop k (pick_none fun i hi => ?_)]
    · rfl
    · have := hp (i : Int) (by rw [← he]; exact (hmem _).2 ⟨by omega, by omega⟩)
      simpa using this
  | cons x suf ih =>
    intro pre out k he hp hk
    have hx := (hmem x).1 (by rw [he]; simp)
    have hf := free_iff (out := out) hself hx.1 hx.2
    rw [List.foldl_cons]
    cases hm : meetsB xs out x
    · rw [hm] at hf
      have hpick : pickK (freeS xs out) (endOf xs) n = x := by
        rcases pickK_spec (freeS xs out) (endOf xs) n with ⟨_, h2⟩ | ⟨h1, h2, h3, h4⟩
        · rw [h2 _ (by omega)] at hf; cases hf
        · obtain ⟨b, hb⟩ : ∃ b, pickK (freeS xs out) (endOf xs) n = b := ⟨_, rfl⟩
          rw [hb] at h1 h2 h3 h4 ⊢
          have h5 := h4 x.toNat (by omega) hf
          rw [show ((x.toNat : Nat) : Int) = x by omega] at h5
          rcases h5 with h5 | h5
          · exact h5.symm
          · exfalso
            have hbE := (hmem b).2 ⟨h1, h2⟩
            rw [he] at hbE
            rcases List.mem_append.1 hbE with hb1 | hb1
            · rw [hp b hb1] at h3; cases h3
            · rcases List.mem_cons.1 hb1 with hb1 | hb1
              · subst hb1; unfold lexLt at h5; omega
              · have h6 := sorts_after hE he hb1
                unfold lexLt at h5 h6; omega
      have hc := cntF_less hx.1 hx.2 hf
      obtain ⟨k, rfl⟩ : ∃ k', k = k' + 1 := ⟨k - 1, by omega⟩
      unfold heardN
      rw [hpick, if_neg (by omega), ← ih (pre ++ [x]) (out ++ [x]) k (by rw [he]; simp) (fun y hy => ?_) (by omega)]
      · unfold heardStep; rw [hm]; rfl
      · rw [freeS_snoc]
        rcases List.mem_append.1 hy with hy | hy
        · rw [hp y hy]; rfl
        · obtain rfl : y = x := by simpa using hy
          rw [show ((y.toNat : Nat) : Int) = y by omega]; simp
    · rw [hm] at hf
      rw [show heardStep xs out x = out by unfold heardStep; rw [hm]; rfl]
      exact ih (pre ++ [x]) out k (by rw [he]; simp) (fun y hy => by
        rcases List.mem_append.1 hy with hy | hy
        · exact hp y hy
        · obtain rfl : y = x := by simpa using hy
          exact hf) hk
/-- The most talks. -/
def heardL (xs : List Int) : List Int := heardN xs (xs.length / 2) (xs.length / 2) []
theorem cntF_nil (xs : List Int) (n : Nat) : cntF xs n [] ≤ n := by
  unfold cntF
  have := List.length_filter_le (freeS xs []) (List.range n)
  simpa using this
theorem heardL_fold {xs E : List Int} (hE : SortsBy (endOf xs) (xs.length / 2) E) (hself : ∀ i, i < xs.length / 2 → meetB xs i i = true) : E.foldl (heardStep xs) [] = heardL xs :=
  heard_fold hE hself E [] [] _ rfl (fun x hx => by cases hx) (cntF_nil _ _)
theorem meet_self {xs : List Int} (h : talksOk xs = true) : ∀ i, i < xs.length / 2 → meetB xs i i = true := fun i hi => by
  simp only [talksOk, Bool.and_eq_true, List.all_eq_true, decide_eq_true_eq] at h
  have := h.2 i (List.mem_range.2 hi)
  simp [meetB, this]
theorem heardN_len (xs : List Int) (n : Nat) : ∀ k out, (heardN xs n k out).length ≤ out.length + k
  | 0, out => Nat.le_refl _
  | k + 1, out => by
    unfold heardN
    split
    · omega
    · have := heardN_len xs n k (out ++ [pickK (freeS xs out) (endOf xs) n])
      simp at this; omega
/-- What MostTalks returns. -/
def mostR (xs : List Int) : List Int := if talksOk xs then heardL xs else []
theorem mostR_small (xs : List Int) : (mostR xs).length ≤ 32 := by
  unfold mostR
  split
  · rename_i h
    simp only [talksOk, talksHead, Bool.and_eq_true] at h
    have := many_true.1 h.1.1
    have := heardN_len xs (xs.length / 2) (xs.length / 2) []
    unfold heardL
    simp at this; omega
  · exact Nat.zero_le _
end Go.Proofs.YtbocedlldaeanaaDoor
