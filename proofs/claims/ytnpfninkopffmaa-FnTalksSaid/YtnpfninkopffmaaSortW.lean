
/- slices.SortStableFunc on integers: the walks of its exchanges, rotations and insertions. Conditions: at most 2^20 elements. -/
import Derived.Test.YtnpfninkopffmaaSortP
import Derived.Test.YtnpfninkopffmaaMarks
import Derived.Test.YtnpfninkopffmaaGrownC
import Derived.Deep.RegionWith
import Derived.Deep.CutRange
namespace Go.Proofs.Ytnpfninkopffmaa
open Go.RowKit
set_option linter.unusedVariables false
set_option linter.unusedSimpArgs false

/-- Two stores into a row of the call's own. -/
theorem OwnI.swap {w : World} {N g n c : Nat} {d : List Int} (h : OwnI w N (.slice (some ⟨g, 0, none⟩) n c) d) (hn : n = d.length) (i j : Nat) (hi : i < d.length) (hj : j < d.length) :
    OwnI ((w.setCell ⟨g, i, none⟩ (.int .i64 (nth d j))).setCell ⟨g, j, none⟩ (.int .i64 (nth d i))) N (.slice (some ⟨g, 0, none⟩) n c) (swp2 d i j) ∧ w.grownBy ((w.setCell ⟨g, i, none⟩ (.int .i64 (nth d j))).setCell ⟨g, j, none⟩ (.int .i64 (nth d i))) (some g) := by
  obtain ⟨_, _, o1, g1⟩ := h.store hn i hi (nth d j)
  obtain ⟨_, _, o2, g2⟩ := o1.store (by rw [List.length_set]; exact hn) j (by rw [List.length_set]; exact hj) (nth d i)
  exact ⟨o2, grownBy_trans g1 g2⟩
theorem grownBy_drew (W : World) (row : Option Nat) : W.grownBy W.drew row := ⟨rfl, rfl, rfl, Nat.le_refl _, fun k hk _ => rfl⟩
theorem OwnI.drewG {w : World} {N g n c : Nat} {d : List Int} (h : OwnI w N (.slice (some ⟨g, 0, none⟩) n c) d) : OwnI w.drew N (.slice (some ⟨g, 0, none⟩) n c) d := h.drewN 1

set_option maxRecDepth 100000 in
set_option maxHeartbeats 2000000 in
theorem swapRange_any (g n c x y m N : Nat) (D : List Int) (f : Value) (w : World) (ho : OwnI w N (.slice (some ⟨g, 0, none⟩) n c) D) (hn : n = D.length) (hxy : x + m ≤ y) (hy : y + m ≤ n) (hsz : n ≤ 1048576) :
    Calls Try.prog 150 #[.slice (some ⟨g, 0, none⟩) n c, .int .i64 x, .int .i64 y, .int .i64 m, f] w fun e w' => e = .returned (.tuple #[]) ∧ ∃ E, OwnI w' N (.slice (some ⟨g, 0, none⟩) n c) E ∧ Swapped D E x y m ∧ SegSame D E x (y + m) ∧ w.grownBy w' (some g) := by
  have HO := Lib.hid ho
  have HN := Lib.hid hn
  clear ho hn
  go_enter Try.func150, Try.ntmps150
  go_wp2
  go_loopw [10] (fun vk wr => ∃ (k : Nat) (E : List Int), k ≤ m ∧ vk = .int .i64 k ∧ Hid (OwnI wr N (.slice (some ⟨g, 0, none⟩) n c) E) ∧ Hid (Swapped D E x y k ∧ SegSame D E x (y + m) ∧ E.length = n) ∧ Hid (w.grownBy wr (some g))) (fun vk _ => m - (intOf vk).toNat)
  case atStart => exact ⟨0, D, Nat.zero_le _, rfl, HO.out, ⟨Swapped.zero _ _ _, SegSame.refl _ _ _, HN.out.symm⟩, grownBy_refl _ _⟩
  case round =>
    obtain ⟨k, E, hk, rfl, HE, HS, HG⟩ := hrel
    by_cases hkm : k < m
    · obtain ⟨p, hp⟩ : ∃ p, x + k = p := ⟨_, rfl⟩
      obtain ⟨q, hq⟩ : ∃ q, y + k = q := ⟨_, rfl⟩
      have hpi : (x : Int) + (k : Int) = (p : Int) := by omega
      have hqi : (y : Int) + (k : Int) = (q : Int) := by omega
      have hpn : p < n := by omega
      have hqn : q < n := by omega
      have hpw : IntKind.i64.wrap (p : Int) = (p : Int) := IntWalk.i64_in _ (by omega)
      have hqw : IntKind.i64.wrap (q : Int) = (q : Int) := IntWalk.i64_in _ (by omega)
      have hp0 : (0 : Int) ≤ (p : Int) := by omega
      have hq0 : (0 : Int) ≤ (q : Int) := by omega
      have hp1 : (p : Int) < (n : Int) := by omega
      have hq1 : (q : Int) < (n : Int) := by omega
      have cp := HE.out.at_ HS.out.2.2.symm p (by rw [HS.out.2.2]; exact hpn)
      have cq := HE.out.at_ HS.out.2.2.symm q (by rw [HS.out.2.2]; exact hqn)
      have fp := (HE.out.store HS.out.2.2.symm p (by rw [HS.out.2.2]; exact hpn) 0).2.1
      have fq := (HE.out.store HS.out.2.2.symm q (by rw [HS.out.2.2]; exact hqn) 0).2.1
      have HSW := Lib.hid (HE.out.swap HS.out.2.2.symm p q (by rw [HS.out.2.2]; exact hpn) (by rw [HS.out.2.2]; exact hqn))
      have HS2 : Hid (Swapped D (swp2 E p q) x y (k + 1) ∧ SegSame D (swp2 E p q) x (y + m) ∧ (swp2 E p q).length = n) := by
        obtain ⟨h1, h2, h3⟩ := HS.out
        refine ⟨?_, h2.trans (SegSame.swap (by omega) (by omega) (by omega) (by omega) (by omega)), by rw [swp2_len, h3]⟩
        have := h1.step hkm hxy (by rw [← HN.out]; exact hy)
        rwa [hp, hq] at this
      have hpq : ¬ p = q := by omega
      have hqp : ¬ q = p := by omega
      have k1 : (k : Int) < (m : Int) := by omega
      clear hp hq HE HS
      go_wp2
      go_region
      go_wp2
      go_roundw
      case rel => exact ⟨k + 1, swp2 E p q, by omega, by go_num, HSW.out.1.drewN 1, HS2.out, grownBy_trans HG.out (grownBy_trans HSW.out.2 (grownBy_drew _ _))⟩
      case measure => simp [intOf]; omega
    · have hkm2 : k = m := by omega
      have HFIN : Hid (∃ E, OwnI wr N (.slice (some ⟨g, 0, none⟩) n c) E ∧ Swapped D E x y m ∧ SegSame D E x (y + m) ∧ w.grownBy wr (some g)) := by
        have h := HS.out.1
        rw [hkm2] at h
        exact ⟨E, HE.out, h, HS.out.2.1, HG.out⟩
      clear HE HS HG hkm2
      go_wp2
      go_end0
      exact ⟨rfl, HFIN.out⟩

set_option maxRecDepth 100000 in
set_option maxHeartbeats 2000000 in
theorem rotate_any (g n c a m b N : Nat) (D : List Int) (f : Value) (w : World) (ho : OwnI w N (.slice (some ⟨g, 0, none⟩) n c) D) (hn : n = D.length) (ham : a < m) (hmb : m < b) (hb : b ≤ n) (hsz : n ≤ 1048576) :
    Calls Try.prog 149 #[.slice (some ⟨g, 0, none⟩) n c, .int .i64 a, .int .i64 m, .int .i64 b, f] w fun e w' => e = .returned (.tuple #[]) ∧ ∃ E, OwnI w' N (.slice (some ⟨g, 0, none⟩) n c) E ∧ Rotated D E a m b ∧ SegSame D E a b ∧ w.grownBy w' (some g) := by
  have HSW : Hid (∀ (x y q : Nat) (E : List Int) W, OwnI W N (.slice (some ⟨g, 0, none⟩) n c) E → n = E.length → x + q ≤ y → y + q ≤ n → Calls Try.prog 150 #[.slice (some ⟨g, 0, none⟩) n c, .int .i64 x, .int .i64 y, .int .i64 q, f] W fun e w' => e = .returned (.tuple #[]) ∧ ∃ F, OwnI w' N (.slice (some ⟨g, 0, none⟩) n c) F ∧ Swapped E F x y q ∧ SegSame E F x (y + q) ∧ W.grownBy w' (some g)) := fun x y q E W h1 h2 h3 h4 => swapRange_any g n c x y q N E f W h1 h2 h3 h4 hsz
  have HO := Lib.hid ho
  have HN := Lib.hid hn
  have hma : (m : Int) - (a : Int) = ((m - a : Nat) : Int) := by omega
  have hbm : (b : Int) - (m : Int) = ((b - m : Nat) : Int) := by omega
  obtain ⟨i0, hi0⟩ : ∃ i, m - a = i := ⟨_, rfl⟩
  obtain ⟨j0, hj0⟩ : ∃ j, b - m = j := ⟨_, rfl⟩
  rw [hi0] at hma
  rw [hj0] at hbm
  have H0 : Hid (m - i0 = a ∧ m + j0 = b ∧ 1 ≤ i0 ∧ 1 ≤ j0) := by show _ ∧ _; omega
  have hi1 : i0 ≤ 1048576 := by omega
  have hj1 : j0 ≤ 1048576 := by omega
  have hm1 : m ≤ 1048576 := by omega
  clear ho hn hi0 hj0
  go_enter Try.func149, Try.ntmps149
  go_wp2
  go_loopw [10, 11] (fun vi vj wr => ∃ (i j : Nat) (E : List Int), vi = .int .i64 i ∧ vj = .int .i64 j ∧ 1 ≤ i ∧ 1 ≤ j ∧ i ≤ m ∧ i ≤ 1048576 ∧ j ≤ 1048576 ∧ Hid (a ≤ m - i ∧ m + j ≤ b) ∧ Hid (OwnI wr N (.slice (some ⟨g, 0, none⟩) n c) E) ∧ Hid (SegSame D E a b ∧ E.length = n ∧ ∀ F, Rotated E F (m - i) m (m + j) → Rotated D F a m b) ∧ Hid (w.grownBy wr (some g))) (fun vi vj _ => (intOf vi).toNat + (intOf vj).toNat)
  case atStart => exact ⟨i0, j0, D, rfl, rfl, H0.out.2.2.1, H0.out.2.2.2, by omega, hi1, hj1, by have := H0.out; show _ ∧ _; omega, HO.out, ⟨SegSame.refl _ _ _, HN.out.symm, fun F hF => by rw [H0.out.1, H0.out.2.1] at hF; exact hF⟩, grownBy_refl _ _⟩
  case round =>
    obtain ⟨i, j, E, rfl, rfl, i1, j1, him, i2, j2, HAB, HE, HS, HG⟩ := hrel
    clear H0 hma hbm
    have hab := HAB.out
    have hmi : (m : Int) - (i : Int) = ((m - i : Nat) : Int) := by omega
    obtain ⟨s, hs⟩ : ∃ s, m - i = s := ⟨_, rfl⟩
    rw [hs] at hmi
    rcases Nat.lt_trichotomy i j with h | h | h
    · -- i < j
      have b0 : ((i : Int) != (j : Int)) = true := by simp; omega
      have b1 : ¬ (i : Int) > (j : Int) := by omega
      have hmj : (m : Int) + (j : Int) - (i : Int) = ((m + j - i : Nat) : Int) := by omega
      have hji : (j : Int) - (i : Int) = ((j - i : Nat) : Int) := by omega
      have HC := Lib.hid (HSW.out s (m + j - i) i E wr HE.out HS.out.2.1.symm (by omega) (by omega))
      have HST : Hid (∀ F G, Swapped E F s (m + j - i) i → Rotated F G s m (m + (j - i)) → Rotated E G s m (m + j)) := fun F G h1 h2 => by
        rw [← hs] at h1 h2 ⊢
        exact rot_lt h1 h him h2
      obtain ⟨t, ht⟩ : ∃ t, m + j - i = t := ⟨_, rfl⟩
      obtain ⟨u, hu⟩ : ∃ u, j - i = u := ⟨_, rfl⟩
      rw [ht] at hmj HC HST
      rw [hu] at hji HST
      have HU : Hid (1 ≤ u ∧ u ≤ 1048576 ∧ u < j ∧ m + u ≤ b ∧ t + i ≤ b ∧ a ≤ s) := by show _ ∧ _; omega
      have HSS := Lib.hid hs
      clear hs ht hu h
      go_wp2_with fail
      refine HC.out.mono ?_
      rintro e W1 ⟨rfl, F, hf, hsw, hss, hg⟩
      have HF := Lib.hid (And.intro hf (And.intro hsw (And.intro hss hg)))
      clear hf hsw hss hg HC
      go_wp2
      go_roundw
      case rel =>
        obtain ⟨hf, hsw, hss, hg⟩ := HF.out
        obtain ⟨u1, u2, u3, u4, u5, u6⟩ := HU.out
        refine ⟨i, u, F, rfl, by go_num, i1, u1, him, i2, u2, ?_, hf, ⟨HS.out.1.trans (hss.wide u6 u5), hss.len.trans HS.out.2.1, fun G hG => ?_⟩, grownBy_trans HG.out hg⟩
        · show _ ∧ _; rw [HSS.out]; exact ⟨u6, u4⟩
        · rw [HSS.out] at hG
          have := HST.out F G hsw hG
          exact HS.out.2.2 G (by rw [HSS.out]; exact this)
      case measure => have := HU.out; simp [intOf]; omega
    · -- i = j: the last exchange
      subst h
      have b0 : ((i : Int) != (i : Int)) = false := by simp
      have HC := Lib.hid (HSW.out s m i E wr HE.out HS.out.2.1.symm (by omega) (by omega))
      have HST : Hid (∀ F, Swapped E F s m i → Rotated E F s m (m + i)) := fun F h1 => by
        rw [← hs] at h1 ⊢
        exact rot_eq h1 him
      have HU : Hid (m + i ≤ b ∧ a ≤ s) := by show _ ∧ _; omega
      have HSS := Lib.hid hs
      clear hs
      go_wp2_with fail
      refine HC.out.mono ?_
      rintro e W1 ⟨rfl, F, hf, hsw, hss, hg⟩
      have HF := Lib.hid (And.intro hf (And.intro hsw (And.intro hss hg)))
      clear hf hsw hss hg HC
      go_wp2
      obtain ⟨hf, hsw, hss, hg⟩ := HF.out
      go_end0
      exact ⟨rfl, F, hf, HS.out.2.2 F (by rw [HSS.out]; exact HST.out F hsw), HS.out.1.trans (hss.wide HU.out.2 HU.out.1), grownBy_trans HG.out hg⟩
    · -- i > j
      have b0 : ((i : Int) != (j : Int)) = true := by simp; omega
      have b1 : (i : Int) > (j : Int) := by omega
      have hij : (i : Int) - (j : Int) = ((i - j : Nat) : Int) := by omega
      have HC := Lib.hid (HSW.out s m j E wr HE.out HS.out.2.1.symm (by omega) (by omega))
      have HST : Hid (∀ F G, Swapped E F s m j → Rotated F G (m - (i - j)) m (m + j) → Rotated E G s m (m + j)) := fun F G h1 h2 => by
        rw [← hs] at h1 ⊢
        exact rot_gt h1 h him h2
      obtain ⟨u, hu⟩ : ∃ u, i - j = u := ⟨_, rfl⟩
      rw [hu] at hij HST
      have HU : Hid (1 ≤ u ∧ u ≤ 1048576 ∧ u < i ∧ u ≤ m ∧ a ≤ m - u ∧ m + j ≤ b ∧ a ≤ s) := by show _ ∧ _; omega
      have HSS := Lib.hid hs
      clear hs hu h
      go_wp2_with fail
      refine HC.out.mono ?_
      rintro e W1 ⟨rfl, F, hf, hsw, hss, hg⟩
      have HF := Lib.hid (And.intro hf (And.intro hsw (And.intro hss hg)))
      clear hf hsw hss hg HC
      go_wp2
      go_roundw
      case rel =>
        obtain ⟨hf, hsw, hss, hg⟩ := HF.out
        obtain ⟨u1, u2, u3, u4, u5, u6, u7⟩ := HU.out
        refine ⟨u, j, F, by go_num, rfl, u1, j1, u4, u2, j2, ⟨u5, u6⟩, hf, ⟨HS.out.1.trans (hss.wide u7 u6), hss.len.trans HS.out.2.1, fun G hG => ?_⟩, grownBy_trans HG.out hg⟩
        have := HST.out F G hsw hG
        exact HS.out.2.2 G (by rw [HSS.out]; exact this)
      case measure => have := HU.out; simp [intOf]; omega
end Go.Proofs.Ytnpfninkopffmaa
