
/- HomesOf and CountBreaks: who plays at home. Conditions: at most 2^20 numbers. -/
import Derived.Test.YtmhepomjbaendaaRoundsSpec
namespace Go.Proofs.Ytmhepomjbaendaa
open Go.RowKit Go.Shelf Go.BigFrame
set_option linter.unusedVariables false
set_option linter.unusedSimpArgs false
attribute [local go_sem] Oper.semAt_some

/-- The place of the home team of game j. -/
def homeIx (t : Nat) (xs : List Int) (j : Nat) : Nat := 2 * j / t * t + (nth xs (2 * j)).toNat
def homesTo (t : Nat) (xs : List Int) (k : Nat) : List Bool := (List.range k).foldl (fun bs j => bs.set (homeIx t xs j) true) (List.replicate xs.length false)
theorem homesTo_zero (t : Nat) (xs : List Int) : homesTo t xs 0 = List.replicate xs.length false := rfl
theorem homesTo_succ (t : Nat) (xs : List Int) (k : Nat) : homesTo t xs (k + 1) = (homesTo t xs k).set (homeIx t xs k) true := by
  unfold homesTo; rw [List.range_succ, List.foldl_append]; rfl
theorem homesTo_length (t : Nat) (xs : List Int) (k : Nat) : (homesTo t xs k).length = xs.length := by
  induction k with
  | zero => simp [homesTo_zero]
  | succ k ih => rw [homesTo_succ, List.length_set, ih]

/-- What the rounds give: each game's number is a team's. -/
theorem rounds_win {t : Nat} {xs : List Int} (h : roundsOk (t : Int) xs = true) : ∃ R, 2 ≤ t ∧ t ≤ 16 ∧ t % 2 = 0 ∧ xs.length = R * t ∧ xs.length ≤ 480 ∧ ∀ i, i < xs.length → 0 ≤ nth xs i ∧ nth xs i ≤ (t : Int) - 1 := by
  unfold roundsOk at h
  rw [Bool.and_eq_true, Bool.and_eq_true] at h
  obtain ⟨⟨hh, ha⟩, _⟩ := h
  obtain ⟨t', R, ht, h1, h2, h3, hlen, hR1, hR2, hdiv, _⟩ := roundsHead_bounds hh
  obtain rfl : t = t' := by omega
  have hle : xs.length ≤ 480 := by rw [hlen]; exact Nat.le_trans (Nat.mul_le_mul hR2 h2) (by decide)
  refine ⟨R, h1, h2, h3, hlen, hle, ?_⟩
  rw [Int.toNat_natCast, hdiv] at ha
  have := (allRounds_iff (by omega) hlen).1 ha
  exact fun i hi => win_true.1 (this i hi).1

theorem home_lt {t R i p : Nat} {xs : List Int} (hlen : xs.length = R * t) (ht : 2 ≤ t) (hi : i < xs.length) (hp : p < t) : i / t * t + p < xs.length := by
  have hr : i / t < R := by rw [Nat.div_lt_iff_lt_mul (by omega)]; omega
  have := Nat.mul_le_mul_right t (show i / t + 1 ≤ R from hr)
  rw [Nat.add_mul, Nat.one_mul] at this
  omega

set_option maxHeartbeats 1000000 in
theorem l07Homes_any (t R : Nat) (v : Value) (xs : List Int) (w : World) (hv : Ints w v xs) (ht : 2 ≤ t) (ht2 : t ≤ 16) (hev : t % 2 = 0) (hlen : xs.length = R * t) (hle : xs.length ≤ 480) (hw : ∀ i, i < xs.length → 0 ≤ nth xs i ∧ nth xs i ≤ (t : Int) - 1) :
    Calls Try.prog 64 #[.int .i64 t, v] w fun e w' => (∃ g, e = .returned (.slice (some ⟨g, 0, none⟩) xs.length xs.length) ∧ OwnB w' w.heap.size (.slice (some ⟨g, 0, none⟩) xs.length xs.length) (homesTo t xs (xs.length / 2))) ∧ Below w.heap.size w w' := by
  obtain ⟨hm, a, c, rfl, hcap, hc⟩ := hv
  obtain ⟨i0, hi, hz0, hz1, hz2⟩ := info_parts info_bool
  have hx2 : xs.length % 2 = 0 := by rw [hlen, Nat.mul_mod, hev, Nat.mul_zero]
  have HX2 := Lib.hid hx2
  have HLEN := Lib.hid hlen
  have HW := Lib.hid hw
  have hcell : ∀ i, i < xs.length → ∃ b o, a = some ⟨b, o, none⟩ ∧ b < w.heap.size ∧ w.cell? ⟨b, o + i, none⟩ = some (.int .i64 (nth xs i)) := fun i hi => by
    obtain ⟨b, o, ha, hbs, hc1⟩ := hc i hi
    exact ⟨b, o, ha, hbs, by rw [nth_eq hi]; exact hc1⟩
  have HCELL := Lib.hid hcell
  clear hcell hc hw hx2 hlen
  go_enter Try.func64, Try.ntmps64
  go_wp2_with (at_make; refine wpList_make_full _ rfl _ _ 30 rfl w.heap.size 4 i0 (.bool false) 1 Try.underlying30 hi hz0 hz1 _ _ _ _ xs.length rfl rfl rfl rfl (by rw [hz2]; omega) (by unfold maxLen at *; omega) (Nat.le_refl _) ?_; intro w1 hown1 hgrow1)
  have hb1 : Below w.heap.size w w1 := (Below.refl _ _).grown hgrow1 (Nat.le_refl _) (fun k e => by cases e)
  have ho1 := OwnB.made hown1
  rw [← homesTo_zero t] at ho1
  clear hown1 hgrow1 hi hz0 hz1 hz2
  have Ho1 := Lib.hid ho1
  clear ho1
  unfold maxLen at hm
  go_wp2
  go_loopw [6] (fun i wr => ∃ k I : Nat, Hid (I = 2 * k) ∧ I ≤ xs.length ∧ i = .int .i64 I ∧ Below w.heap.size w wr ∧ OwnB wr w.heap.size (.slice (some ⟨w.heap.size, 0, none⟩) xs.length xs.length) (homesTo t xs k)) (fun i _ => xs.length - (intOf i).toNat)
  case atStart => exact ⟨0, 0, rfl, Nat.zero_le _, rfl, hb1, Ho1.out⟩
  case round =>
    obtain ⟨k, I, hI, hIl, rfl, hb, ho⟩ := hrel
    clear hb1
    by_cases hlt : I < xs.length
    · obtain ⟨b, o, ha, hbs, hc1⟩ := HCELL.out I hlt
      have hck : wr.cell? ⟨b, o + I, none⟩ = some (.int .i64 (nth xs I)) := (hb.cell (p := ⟨b, o + I, none⟩) hbs).trans hc1
      obtain ⟨p0, p1⟩ := HW.out I hlt
      obtain ⟨p, hp⟩ : ∃ p : Nat, nth xs I = p := ⟨(nth xs I).toNat, by omega⟩
      rw [hp] at hck p1
      have hix : homeIx t xs k = I / t * t + p := by unfold homeIx; rw [← hI.out, hp, Int.toNat_natCast]
      have hlt2 := home_lt (p := p) HLEN.out ht hlt (by omega)
      obtain ⟨q, hq⟩ : ∃ q, I / t = q := ⟨_, rfl⟩
      have hq' : (I : Int) / (t : Int) = (q : Int) := by rw [← hq]; exact (Int.natCast_ediv _ _).symm
      rw [hq] at hix hlt2
      obtain ⟨s, hs⟩ : ∃ s, q * t = s := ⟨_, rfl⟩
      have hs' : (q : Int) * (t : Int) = (s : Int) := by rw [← hs]; exact (Int.natCast_mul _ _).symm
      have hq480 : q ≤ 480 := by rw [← hq]; exact Nat.le_trans (Nat.div_le_self _ _) (by omega)
      rw [hs] at hix hlt2
      obtain ⟨x, hx⟩ : ∃ x, s + p = x := ⟨_, rfl⟩
      have hx' : (s : Int) + (p : Int) = (x : Int) := by omega
      rw [hx] at hix hlt2
      obtain ⟨s1, s2, s3, s4⟩ := (ho.drewN 1).store (homesTo_length _ _ _).symm x (by rw [homesTo_length]; exact hlt2) true
      have hB2 := (below_drewN 1 hb).grown s4 (by show w.heap.size ≤ wr.heap.size; exact hb.size) (fun j e => by cases e; exact Nat.le_refl _)
      rw [← hix, ← homesTo_succ, hix] at s3
      have HIX := Lib.hid hix
      have HP := Lib.hid hp
      have S3 := Lib.hid s3
      have HB2 := Lib.hid hB2
      have i0 : (0 : Int) ≤ (I : Int) := by omega
      have i1 : (I : Int) < (xs.length : Int) := by omega
      have x0 : (0 : Int) ≤ (x : Int) := by omega
      have x1 : (x : Int) < (xs.length : Int) := by omega
      have hne : ¬ (t : Int) = 0 := by omega
      have sc : wr.cell? ⟨w.heap.size, x, none⟩ = some _ := s1
      have sf : wr.frozen? ⟨w.heap.size, x, none⟩ = false := s2
      clear ho s1 s2 s3 s4 hB2 hix hq hs hx hp hc1
      subst ha
      go_wp2
      go_region
      all_goals
        go_wp2
        go_roundw
        case rel => exact ⟨k + 1, I + 2, by have := hI.out; show I + 2 = 2 * (k + 1); omega, by have := HX2.out; have := hI.out; omega, by go_num, HB2.out, S3.out⟩
        case measure => simp [intOf]; omega
    · have hk : k = xs.length / 2 := by have := hI.out; have := HX2.out; omega
      subst hk
      have Ho := Lib.hid ho
      clear ho
      go_wp2
      go_ret
      exact ⟨⟨_, rfl, Ho.out⟩, hb⟩

set_option maxHeartbeats 1000000 in
theorem homesOf_any (t R : Nat) (v : Value) (xs : List Int) (w : World) (hv : Ints w v xs) (ht : 2 ≤ t) (ht2 : t ≤ 16) (hev : t % 2 = 0) (hlen : xs.length = R * t) (hle : xs.length ≤ 480) (hw : ∀ i, i < xs.length → 0 ≤ nth xs i ∧ nth xs i ≤ (t : Int) - 1) :
    Calls Try.prog 62 #[.int .i64 t, v] w fun e w' => (∃ g, e = .returned (.slice (some ⟨g, 0, none⟩) xs.length xs.length) ∧ OwnB w' w.heap.size (.slice (some ⟨g, 0, none⟩) xs.length xs.length) (homesTo t xs (xs.length / 2))) ∧ Below w.heap.size w w' := by
  obtain ⟨hm, a, c, rfl, hcap, hc⟩ := hv
  obtain ⟨i0, hi, hz0, hz1, hz2⟩ := info_parts info_bool
  have hx2 : xs.length % 2 = 0 := by rw [hlen, Nat.mul_mod, hev, Nat.mul_zero]
  have HX2 := Lib.hid hx2
  have HLEN := Lib.hid hlen
  have HW := Lib.hid hw
  have hcell : ∀ i, i < xs.length → ∃ b o, a = some ⟨b, o, none⟩ ∧ b < w.heap.size ∧ w.cell? ⟨b, o + i, none⟩ = some (.int .i64 (nth xs i)) := fun i hi => by
    obtain ⟨b, o, ha, hbs, hc1⟩ := hc i hi
    exact ⟨b, o, ha, hbs, by rw [nth_eq hi]; exact hc1⟩
  have HCELL := Lib.hid hcell
  clear hcell hc hw hx2 hlen
  go_enter Try.func62, Try.ntmps62
  go_wp2_with (at_make; refine wpList_make_full _ rfl _ _ 30 rfl w.heap.size 4 i0 (.bool false) 1 Try.underlying30 hi hz0 hz1 _ _ _ _ xs.length rfl rfl rfl rfl (by rw [hz2]; omega) (by unfold maxLen at *; omega) (Nat.le_refl _) ?_; intro w1 hown1 hgrow1)
  have hb1 : Below w.heap.size w w1 := (Below.refl _ _).grown hgrow1 (Nat.le_refl _) (fun k e => by cases e)
  have ho1 := OwnB.made hown1
  rw [← homesTo_zero t] at ho1
  clear hown1 hgrow1 hi hz0 hz1 hz2
  have Ho1 := Lib.hid ho1
  clear ho1
  unfold maxLen at hm
  go_wp2
  go_loopw [6] (fun i wr => ∃ k I : Nat, Hid (I = 2 * k) ∧ I ≤ xs.length ∧ i = .int .i64 I ∧ Below w.heap.size w wr ∧ OwnB wr w.heap.size (.slice (some ⟨w.heap.size, 0, none⟩) xs.length xs.length) (homesTo t xs k)) (fun i _ => xs.length - (intOf i).toNat)
  case atStart => exact ⟨0, 0, rfl, Nat.zero_le _, rfl, hb1, Ho1.out⟩
  case round =>
    obtain ⟨k, I, hI, hIl, rfl, hb, ho⟩ := hrel
    clear hb1
    by_cases hlt : I < xs.length
    · obtain ⟨b, o, ha, hbs, hc1⟩ := HCELL.out I hlt
      have hck : wr.cell? ⟨b, o + I, none⟩ = some (.int .i64 (nth xs I)) := (hb.cell (p := ⟨b, o + I, none⟩) hbs).trans hc1
      obtain ⟨p0, p1⟩ := HW.out I hlt
      obtain ⟨p, hp⟩ : ∃ p : Nat, nth xs I = p := ⟨(nth xs I).toNat, by omega⟩
      rw [hp] at hck p1
      have hix : homeIx t xs k = I / t * t + p := by unfold homeIx; rw [← hI.out, hp, Int.toNat_natCast]
      have hlt2 := home_lt (p := p) HLEN.out ht hlt (by omega)
      obtain ⟨q, hq⟩ : ∃ q, I / t = q := ⟨_, rfl⟩
      have hq' : (I : Int) / (t : Int) = (q : Int) := by rw [← hq]; exact (Int.natCast_ediv _ _).symm
      rw [hq] at hix hlt2
      obtain ⟨s, hs⟩ : ∃ s, q * t = s := ⟨_, rfl⟩
      have hs' : (q : Int) * (t : Int) = (s : Int) := by rw [← hs]; exact (Int.natCast_mul _ _).symm
      have hq480 : q ≤ 480 := by rw [← hq]; exact Nat.le_trans (Nat.div_le_self _ _) (by omega)
      rw [hs] at hix hlt2
      obtain ⟨x, hx⟩ : ∃ x, s + p = x := ⟨_, rfl⟩
      have hx' : (s : Int) + (p : Int) = (x : Int) := by omega
      rw [hx] at hix hlt2
      obtain ⟨s1, s2, s3, s4⟩ := (ho.drewN 1).store (homesTo_length _ _ _).symm x (by rw [homesTo_length]; exact hlt2) true
      have hB2 := (below_drewN 1 hb).grown s4 (by show w.heap.size ≤ wr.heap.size; exact hb.size) (fun j e => by cases e; exact Nat.le_refl _)
      rw [← hix, ← homesTo_succ, hix] at s3
      have HIX := Lib.hid hix
      have HP := Lib.hid hp
      have S3 := Lib.hid s3
      have HB2 := Lib.hid hB2
      have i0 : (0 : Int) ≤ (I : Int) := by omega
      have i1 : (I : Int) < (xs.length : Int) := by omega
      have x0 : (0 : Int) ≤ (x : Int) := by omega
      have x1 : (x : Int) < (xs.length : Int) := by omega
      have hne : ¬ (t : Int) = 0 := by omega
      have sc : wr.cell? ⟨w.heap.size, x, none⟩ = some _ := s1
      have sf : wr.frozen? ⟨w.heap.size, x, none⟩ = false := s2
      clear ho s1 s2 s3 s4 hB2 hix hq hs hx hp hc1
      subst ha
      go_wp2
      go_region
      all_goals
        go_wp2
        go_roundw
        case rel => exact ⟨k + 1, I + 2, by have := hI.out; show I + 2 = 2 * (k + 1); omega, by have := HX2.out; have := hI.out; omega, by go_num, HB2.out, S3.out⟩
        case measure => simp [intOf]; omega
    · have hk : k = xs.length / 2 := by have := hI.out; have := HX2.out; omega
      subst hk
      have Ho := Lib.hid ho
      clear ho
      go_wp2
      go_ret
      exact ⟨⟨_, rfl, Ho.out⟩, hb⟩
end Go.Proofs.Ytmhepomjbaendaa
