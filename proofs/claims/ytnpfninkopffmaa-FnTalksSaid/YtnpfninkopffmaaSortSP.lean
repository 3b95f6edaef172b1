
/- Sorting by a key, equal ones in their order: the plain law of blocks which are merged. Conditions: none. -/
import Derived.Test.YtnpfninkopffmaaSortP
namespace Go.Proofs.Ytnpfninkopffmaa
open Go.RowKit
set_option linter.unusedVariables false
set_option linter.unusedSimpArgs false

/-- Between the borders it is sorted; across a border the numbers ascend. -/
def Blks (Bd : Nat → Prop) (key : Int → Int) (d : List Int) (n : Nat) : Prop :=
  ∀ p q, p < q → q < n → (∀ c, Bd c → p < c → c ≤ q → nth d p < nth d q) ∧ ((∀ c, Bd c → p < c → c ≤ q → False) → lexLt key (nth d p) (nth d q))
theorem Blks.congr {Bd Bd' : Nat → Prop} {key : Int → Int} {d : List Int} {n : Nat} (h : Blks Bd key d n) (he : ∀ c, 0 < c → c < n → (Bd c ↔ Bd' c)) : Blks Bd' key d n := fun p q h1 h2 =>
  ⟨fun c b c1 c2 => (h p q h1 h2).1 c ((he c (by omega) (by omega)).2 b) c1 c2, fun k => (h p q h1 h2).2 fun c b c1 c2 => k c ((he c (by omega) (by omega)).1 b) c1 c2⟩
theorem Blks.all {key : Int → Int} {d : List Int} {n : Nat} (h : ∀ p q, p < q → q < n → nth d p < nth d q) : Blks (fun _ => True) key d n := fun p q h1 h2 =>
  ⟨fun c _ _ _ => h p q h1 h2, fun k => (k q trivial h1 (Nat.le_refl _)).elim⟩
theorem Blks.sorted {Bd : Nat → Prop} {key : Int → Int} {d : List Int} {n a b : Nat} (h : Blks Bd key d n) (hb : b ≤ n) (hn : ∀ c, a < c → c < b → ¬ Bd c) : SortedOn key d a b := fun i j x y z =>
  (h i j y (by omega)).2 fun c hc c1 c2 => hn c (by omega) (by omega) hc
theorem Blks.asc {Bd : Nat → Prop} {key : Int → Int} {d : List Int} {n a b : Nat} (h : Blks Bd key d n) (hb : b ≤ n) (hn : ∀ c, a < c → c < b → Bd c) : ∀ p q, a ≤ p → p < q → q < b → nth d p < nth d q := fun i j x y z =>
  (h i j y (by omega)).1 j (hn j (by omega) z) y (Nat.le_refl _)
/-- Two blocks beside each other are ready to be merged. -/
theorem Blks.pre {Bd : Nat → Prop} {key : Int → Int} {d : List Int} {n a m b : Nat} (h : Blks Bd key d n) (hb : b ≤ n) (hm : Bd m) (ham : a < m) (hmb : m < b) (hn : ∀ c, a < c → c < b → Bd c → c = m) : MergePre key d a m b :=
  ⟨h.sorted (by omega) fun c c1 c2 hc => by have := hn c c1 (by omega) hc; omega, h.sorted hb fun c c1 c2 hc => by have := hn c (by omega) c2 hc; omega, fun p q p1 p2 q1 q2 _ => (h p q (by omega) (by omega)).1 m hm p2 q1⟩
/-- What lies between two borders is sorted: no border lies between them any more. -/
theorem Blks.merged {Bd : Nat → Prop} {key : Int → Int} {d d' : List Int} {n a b : Nat} (h : Blks Bd key d n) (hs : SegSame d d' a b) (hsort : SortedOn key d' a b) (ha : a = 0 ∨ Bd a) (hb : b = n ∨ Bd b) (hbn : b ≤ n) :
    Blks (fun c => Bd c ∧ ¬ (a < c ∧ c < b)) key d' n := by
  intro p q hpq hqn
  have at_ : ∀ k, k < n → ∃ k', nth d' k = nth d k' ∧ k' < n ∧ (a ≤ k ∧ k < b → a ≤ k' ∧ k' < b) ∧ (¬ (a ≤ k ∧ k < b) → k' = k) := fun k hk => by
    by_cases hin : a ≤ k ∧ k < b
    · obtain ⟨k', x, y, z⟩ := hs.mem k hin.1 hin.2
      exact ⟨k', z, by omega, fun _ => ⟨x, y⟩, fun hh => absurd hin hh⟩
    · exact ⟨k, hs.out k (by omega), hk, fun hh => absurd hh hin, fun _ => rfl⟩
  obtain ⟨p', e1, p1, p2, p3⟩ := at_ p (by omega)
  obtain ⟨q', e2, q1, q2, q3⟩ := at_ q hqn
  rw [e1, e2]
  refine ⟨fun c ⟨hc, hc2⟩ c1 c2 => ?_, fun hno => ?_⟩
  · by_cases hp : a ≤ p ∧ p < b
    · have := p2 hp
      by_cases hq : a ≤ q ∧ q < b
      · have := q2 hq; omega
      · have := q3 hq
        exact (h p' q' (by omega) q1).1 c hc (by omega) (by omega)
    · have := p3 hp
      by_cases hq : a ≤ q ∧ q < b
      · have := q2 hq
        exact (h p' q' (by omega) q1).1 c hc (by omega) (by omega)
      · have := q3 hq
        exact (h p' q' (by omega) q1).1 c hc (by omega) (by omega)
  · by_cases hp : a ≤ p ∧ p < b
    · by_cases hq : a ≤ q ∧ q < b
      · rw [← e1, ← e2]; exact hsort p q hp.1 hpq hq.2
      · rcases hb with hb | hb
        · omega
        · exact (hno b ⟨hb, by omega⟩ hp.2 (by omega)).elim
    · have e3 := p3 hp
      by_cases hq : a ≤ q ∧ q < b
      · rcases ha with ha | ha
        · omega
        · exact (hno a ⟨ha, by omega⟩ (by omega) hq.1).elim
      · have e4 := q3 hq
        rw [e3, e4]
        refine (h p q hpq hqn).2 fun c hc c1 c2 => ?_
        by_cases hin : a < c ∧ c < b
        · rcases ha with ha | ha
          · omega
          · exact hno a ⟨ha, by omega⟩ (by omega) (by omega)
        · exact hno c ⟨hc, hin⟩ c1 c2

/-! The two passes. -/
/-- Blocks of twenty, up to a; behind it every place is a border. -/
def Bd20 (a : Nat) (c : Nat) : Prop := a ≤ c ∨ 20 ∣ c
theorem Bd20.next {key : Int → Int} {d d' : List Int} {n a : Nat} (h : Blks (Bd20 a) key d n) (h20 : 20 ∣ a) (hs : SegSame d d' a (a + 20)) (hsort : SortedOn key d' a (a + 20)) (hbn : a + 20 ≤ n) : Blks (Bd20 (a + 20)) key d' n := by
  refine (h.merged hs hsort (.inr (.inl (Nat.le_refl _))) (.inr (.inl (by omega))) hbn).congr fun c c0 cn => ?_
  unfold Bd20
  constructor
  · rintro ⟨h1 | h1, h2⟩
    · by_cases e : c = a
      · right; rw [e]; exact h20
      · left; omega
    · exact .inr h1
  · rintro (h1 | h1)
    · exact ⟨.inl (by omega), by omega⟩
    · refine ⟨.inr h1, ?_⟩
      obtain ⟨x, rfl⟩ := h1
      obtain ⟨y, rfl⟩ := h20
      omega
theorem Bd20.last {key : Int → Int} {d d' : List Int} {n a : Nat} (h : Blks (Bd20 a) key d n) (h20 : 20 ∣ a) (hs : SegSame d d' a n) (hsort : SortedOn key d' a n) (hbn : a ≤ n) (hend : n < a + 20) : Blks (fun c => 20 ∣ c) key d' n := by
  refine (h.merged hs hsort (.inr (.inl (Nat.le_refl _))) (.inl rfl) (Nat.le_refl _)).congr fun c c0 cn => ?_
  unfold Bd20
  constructor
  · rintro ⟨h1 | h1, h2⟩
    · by_cases e : c = a
      · rw [e]; exact h20
      · omega
    · exact h1
  · intro h1
    refine ⟨.inr h1, ?_⟩
    obtain ⟨x, rfl⟩ := h1
    obtain ⟨y, rfl⟩ := h20
    omega
/-- Blocks of twice the size up to a, of the size behind it. -/
def Bd2 (s a : Nat) (c : Nat) : Prop := s ∣ c ∧ (c ≤ a → 2 * s ∣ c)
theorem bd2_start (s : Nat) (c : Nat) (h : 0 < c) : s ∣ c ↔ Bd2 s 0 c := ⟨fun h' => ⟨h', fun h2 => by omega⟩, fun h' => h'.1⟩
theorem dvd_between {s a c : Nat} (ha : s ∣ a) (hc : s ∣ c) (h1 : a < c) (h2 : c < a + 2 * s) : c = a + s := by
  obtain ⟨x, rfl⟩ := ha
  obtain ⟨y, rfl⟩ := hc
  have e1 : x < y := Nat.lt_of_mul_lt_mul_left (a := s) h1
  have e2 : y < x + 2 := Nat.lt_of_mul_lt_mul_left (a := s) (by rw [Nat.mul_add]; omega)
  obtain rfl : y = x + 1 := by omega
  rw [Nat.mul_add]; omega
theorem not_dvd_mid {s a : Nat} (hs : 0 < s) (ha : 2 * s ∣ a) : ¬ 2 * s ∣ a + s := fun h => by
  have := (Nat.dvd_add_right ha).1 h
  have := Nat.le_of_dvd hs this
  omega
theorem dvd_half {s a : Nat} (h : 2 * s ∣ a) : s ∣ a := Nat.dvd_trans (Nat.dvd_mul_left s 2) h
theorem Bd2.only {s a c : Nat} (ha : 2 * s ∣ a) (h1 : a < c) (h2 : c < a + 2 * s) (h : Bd2 s a c) : c = a + s := dvd_between (dvd_half ha) h.1 h1 h2
theorem Bd2.mid {s a : Nat} (hs : 0 < s) (ha : 2 * s ∣ a) : Bd2 s a (a + s) := ⟨(Nat.dvd_add_right (dvd_half ha)).2 (Nat.dvd_refl _), fun h => by omega⟩
theorem Bd2.at_ {s a : Nat} (ha : 2 * s ∣ a) : Bd2 s a a := ⟨dvd_half ha, fun _ => ha⟩
theorem Bd2.end_ {s a : Nat} (hs : 0 < s) (ha : 2 * s ∣ a) : Bd2 s a (a + 2 * s) := ⟨dvd_half ((Nat.dvd_add_right ha).2 (Nat.dvd_refl _)), fun h => by omega⟩
theorem Bd2.next {key : Int → Int} {d d' : List Int} {n s a : Nat} (h : Blks (Bd2 s a) key d n) (hs0 : 0 < s) (ha : 2 * s ∣ a) (hs : SegSame d d' a (a + 2 * s)) (hsort : SortedOn key d' a (a + 2 * s)) (hbn : a + 2 * s ≤ n) : Blks (Bd2 s (a + 2 * s)) key d' n := by
  refine (h.merged hs hsort (.inr (Bd2.at_ ha)) (.inr (Bd2.end_ hs0 ha)) hbn).congr fun c c0 cn => ?_
  constructor
  · rintro ⟨h1, h2⟩
    refine ⟨h1.1, fun h3 => ?_⟩
    by_cases e : c ≤ a
    · exact h1.2 e
    · obtain rfl : c = a + 2 * s := by omega
      exact (Nat.dvd_add_right ha).2 (Nat.dvd_refl _)
  · rintro ⟨h1, h2⟩
    refine ⟨⟨h1, fun h3 => h2 (by omega)⟩, fun ⟨h3, h4⟩ => ?_⟩
    have := dvd_between (dvd_half ha) h1 h3 h4
    subst this
    exact not_dvd_mid hs0 ha (h2 (by omega))
theorem Bd2.last {key : Int → Int} {d d' : List Int} {n s a : Nat} (h : Blks (Bd2 s a) key d n) (hs0 : 0 < s) (ha : 2 * s ∣ a) (hs : SegSame d d' a n) (hsort : SortedOn key d' a n) (hbn : n < a + 2 * s) : Blks (fun c => 2 * s ∣ c) key d' n := by
  refine (h.merged hs hsort (.inr (Bd2.at_ ha)) (.inl rfl) (Nat.le_refl _)).congr fun c c0 cn => ?_
  constructor
  · rintro ⟨h1, h2⟩
    exact h1.2 (by omega)
  · intro h1
    refine ⟨⟨dvd_half h1, fun _ => h1⟩, fun ⟨h3, h4⟩ => ?_⟩
    have := dvd_between (dvd_half ha) (dvd_half h1) h3 (by omega)
    subst this
    exact not_dvd_mid hs0 ha h1
theorem blks_end {key : Int → Int} {d : List Int} {n s : Nat} (h : Blks (fun c => s ∣ c) key d n) (hs : n ≤ s) : SortedOn key d 0 n :=
  h.sorted (Nat.le_refl _) fun c c1 c2 hc => by have := Nat.le_of_dvd c1 hc; omega
end Go.Proofs.Ytnpfninkopffmaa
