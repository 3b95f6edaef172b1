/- slices.SortStableFunc on integers: its merge in place: one element on the right. Conditions: at most 2^20 elements. With texts that it needs. -/
import Derived.Test.YtcopjdhnmkfkfaaBestAll2
import Derived.Test.YtcopjdhnmkfkfaaBestAll1
import Derived.Deep.RegionWith
import Derived.Deep.CutRange
namespace Go.Proofs.Ytcopjdhnmkfkfaa
open Go.RowKit
set_option linter.unusedVariables false
set_option linter.unusedSimpArgs false

/-- Two stores into a row of the call's own. -/
theorem OwnI.swap {w : World} {N g n c : Nat} {d : List Int} (h : OwnI w N (.slice (some ⟨g, 0, none⟩) n c) d) (hn : n = d.length) (i j : Nat) (hi : i < d.length) (hj : j < d.length) :
    OwnI ((w.setCell ⟨g, i, none⟩ (.int .i64 (nth d j))).setCell ⟨g, j, none⟩ (.int .i64 (nth d i))) N (.slice (some ⟨g, 0, none⟩) n c) (swp2 d i j) ∧ w.grownBy ((w.setCell ⟨g, i, none⟩ (.int .i64 (nth d j))).setCell ⟨g, j, none⟩ (.int .i64 (nth d i))) (some g) := by
  obtain ⟨_, _, o1, g1⟩ := h.store hn i hi (nth d j)
  obtain ⟨_, _, o2, g2⟩ := o1.store (by rw [List.length_set]; exact hn) j (by rw [List.length_set]; exact hj) (nth d i)
  exact ⟨o2, grownBy_trans g1 g2⟩
theorem grownBy_drew (W : World) (row : Option Nat) : W.grownBy W.drew row := ⟨rfl, rfl, rfl, Nat.le_refl _, fun k hk _ => rfl⟩
theorem OwnI.drewG {w : World} {N g n c : Nat} {d : List Int} (h : OwnI w N (.slice (some ⟨g, 0, none⟩) n c) d) : OwnI w.drew N (.slice (some ⟨g, 0, none⟩) n c) d := h.drewN 1

set_option maxRecDepth 100000 in
set_option maxHeartbeats 2000000 in
theorem swapRange_any (g n c x y m N : Nat) (D : List Int) (f : Value) (w : World) (ho : OwnI w N (.slice (some ⟨g, 0, none⟩) n c) D) (hn : n = D.length) (hxy : x + m ≤ y) (hy : y + m ≤ n) (hsz : n ≤ 1048576) :
    Calls Try.prog 60 #[.slice (some ⟨g, 0, none⟩) n c, .int .i64 x, .int .i64 y, .int .i64 m, f] w fun e w' => e = .returned (.tuple #[]) ∧ ∃ E, OwnI w' N (.slice (some ⟨g, 0, none⟩) n c) E ∧ Swapped D E x y m ∧ SegSame D E x (y + m) ∧ w.grownBy w' (some g) := by
  have HO := Lib.hid ho
  have HN := Lib.hid hn
  clear ho hn
  go_enter Try.func60, Try.ntmps60
  go_wp2
  go_loopw [10] (fun vk wr => ∃ (k : Nat) (E : List Int), k ≤ m ∧ vk = .int .i64 k ∧ Hid (OwnI wr N (.slice (some ⟨g, 0, none⟩) n c) E) ∧ Hid (Swapped D E x y k ∧ SegSame D E x (y + m) ∧ E.length = n) ∧ Hid (w.grownBy wr (some g))) (fun vk _ => m - (intOf vk).toNat)
  case atStart => exact ⟨0, D, Nat.zero_le _, rfl, HO.out, ⟨Swapped.zero _ _ _, SegSame.refl _ _ _, HN.out.symm⟩, grownBy_refl _ _⟩
  case round =>
    obtain ⟨k, E, hk, rfl, HE, HS, HG⟩ := hrel
    by_cases hkm : k < m
    · obtain ⟨p, hp⟩ : ∃ p, x + k = p := ⟨_, rfl⟩
      obtain ⟨q, hq⟩ : ∃ q, y + k = q := ⟨_, rfl⟩
      have hpi : (x : Int) + (k : Int) = (p : Int) := by omega
      have hqi : (y : Int) + (k : Int) = (q : Int) := by omega
      have hpn : p < n := by omega
      have hqn : q < n := by omega
      have hpw : IntKind.i64.wrap (p : Int) = (p : Int) := IntWalk.i64_in _ (by omega)
      have hqw : IntKind.i64.wrap (q : Int) = (q : Int) := IntWalk.i64_in _ (by omega)
      have hp0 : (0 : Int) ≤ (p : Int) := by omega
      have hq0 : (0 : Int) ≤ (q : Int) := by omega
      have hp1 : (p : Int) < (n : Int) := by omega
      have hq1 : (q : Int) < (n : Int) := by omega
      have cp := HE.out.at_ HS.out.2.2.symm p (by rw [HS.out.2.2]; exact hpn)
      have cq := HE.out.at_ HS.out.2.2.symm q (by rw [HS.out.2.2]; exact hqn)
      have fp := (HE.out.store HS.out.2.2.symm p (by rw [HS.out.2.2]; exact hpn) 0).2.1
      have fq := (HE.out.store HS.out.2.2.symm q (by rw [HS.out.2.2]; exact hqn) 0).2.1
      have HSW := Lib.hid (HE.out.swap HS.out.2.2.symm p q (by rw [HS.out.2.2]; exact hpn) (by rw [HS.out.2.2]; exact hqn))
      have HS2 : Hid (Swapped D (swp2 E p q) x y (k + 1) ∧ SegSame D (swp2 E p q) x (y + m) ∧ (swp2 E p q).length = n) := by
        obtain ⟨h1, h2, h3⟩ := HS.out
        refine ⟨?_, h2.trans (SegSame.swap (by omega) (by omega) (by omega) (by omega) (by omega)), by rw [swp2_len, h3]⟩
        have := h1.step hkm hxy (by rw [← HN.out]; exact hy)
        rwa [hp, hq] at this
      have hpq : ¬ p = q := by omega
      have hqp : ¬ q = p := by omega
      have k1 : (k : Int) < (m : Int) := by omega
      clear hp hq HE HS
      go_wp2
      go_region
      go_wp2
      go_roundw
      case rel => exact ⟨k + 1, swp2 E p q, by omega, by go_num, HSW.out.1.drewN 1, HS2.out, grownBy_trans HG.out (grownBy_trans HSW.out.2 (grownBy_drew _ _))⟩
      case measure => simp [intOf]; omega
    · have hkm2 : k = m := by omega
      have HFIN : Hid (∃ E, OwnI wr N (.slice (some ⟨g, 0, none⟩) n c) E ∧ Swapped D E x y m ∧ SegSame D E x (y + m) ∧ w.grownBy wr (some g)) := by
        have h := HS.out.1
        rw [hkm2] at h
        exact ⟨E, HE.out, h, HS.out.2.1, HG.out⟩
      clear HE HS HG hkm2
      go_wp2
      go_end0
      exact ⟨rfl, HFIN.out⟩

set_option maxRecDepth 100000 in
set_option maxHeartbeats 2000000 in
theorem rotate_any (g n c a m b N : Nat) (D : List Int) (f : Value) (w : World) (ho : OwnI w N (.slice (some ⟨g, 0, none⟩) n c) D) (hn : n = D.length) (ham : a < m) (hmb : m < b) (hb : b ≤ n) (hsz : n ≤ 1048576) :
    Calls Try.prog 59 #[.slice (some ⟨g, 0, none⟩) n c, .int .i64 a, .int .i64 m, .int .i64 b, f] w fun e w' => e = .returned (.tuple #[]) ∧ ∃ E, OwnI w' N (.slice (some ⟨g, 0, none⟩) n c) E ∧ Rotated D E a m b ∧ SegSame D E a b ∧ w.grownBy w' (some g) := by
  have HSW : Hid (∀ (x y q : Nat) (E : List Int) W, OwnI W N (.slice (some ⟨g, 0, none⟩) n c) E → n = E.length → x + q ≤ y → y + q ≤ n → Calls Try.prog 60 #[.slice (some ⟨g, 0, none⟩) n c, .int .i64 x, .int .i64 y, .int .i64 q, f] W fun e w' => e = .returned (.tuple #[]) ∧ ∃ F, OwnI w' N (.slice (some ⟨g, 0, none⟩) n c) F ∧ Swapped E F x y q ∧ SegSame E F x (y + q) ∧ W.grownBy w' (some g)) := fun x y q E W h1 h2 h3 h4 => swapRange_any g n c x y q N E f W h1 h2 h3 h4 hsz
  have HO := Lib.hid ho
  have HN := Lib.hid hn
  have hma : (m : Int) - (a : Int) = ((m - a : Nat) : Int) := by omega
  have hbm : (b : Int) - (m : Int) = ((b - m : Nat) : Int) := by omega
  obtain ⟨i0, hi0⟩ : ∃ i, m - a = i := ⟨_, rfl⟩
  obtain ⟨j0, hj0⟩ : ∃ j, b - m = j := ⟨_, rfl⟩
  rw [hi0] at hma
  rw [hj0] at hbm
  have H0 : Hid (m - i0 = a ∧ m + j0 = b ∧ 1 ≤ i0 ∧ 1 ≤ j0) := by show _ ∧ _; omega
  have hi1 : i0 ≤ 1048576 := by omega
  have hj1 : j0 ≤ 1048576 := by omega
  have hm1 : m ≤ 1048576 := by omega
  clear ho hn hi0 hj0
  go_enter Try.func59, Try.ntmps59
  go_wp2
  go_loopw [10, 11] (fun vi vj wr => ∃ (i j : Nat) (E : List Int), vi = .int .i64 i ∧ vj = .int .i64 j ∧ 1 ≤ i ∧ 1 ≤ j ∧ i ≤ m ∧ i ≤ 1048576 ∧ j ≤ 1048576 ∧ Hid (a ≤ m - i ∧ m + j ≤ b) ∧ Hid (OwnI wr N (.slice (some ⟨g, 0, none⟩) n c) E) ∧ Hid (SegSame D E a b ∧ E.length = n ∧ ∀ F, Rotated E F (m - i) m (m + j) → Rotated D F a m b) ∧ Hid (w.grownBy wr (some g))) (fun vi vj _ => (intOf vi).toNat + (intOf vj).toNat)
  case atStart => exact ⟨i0, j0, D, rfl, rfl, H0.out.2.2.1, H0.out.2.2.2, by omega, hi1, hj1, by have := H0.out; show _ ∧ _; omega, HO.out, ⟨SegSame.refl _ _ _, HN.out.symm, fun F hF => by rw [H0.out.1, H0.out.2.1] at hF; exact hF⟩, grownBy_refl _ _⟩
  case round =>
    obtain ⟨i, j, E, rfl, rfl, i1, j1, him, i2, j2, HAB, HE, HS, HG⟩ := hrel
    clear H0 hma hbm
    have hab := HAB.out
    have hmi : (m : Int) - (i : Int) = ((m - i : Nat) : Int) := by omega
    obtain ⟨s, hs⟩ : ∃ s, m - i = s := ⟨_, rfl⟩
    rw [hs] at hmi
    rcases Nat.lt_trichotomy i j with h | h | h
    · -- i < j
      have b0 : ((i : Int) != (j : Int)) = true := by simp; omega
      have b1 : ¬ (i : Int) > (j : Int) := by omega
      have hmj : (m : Int) + (j : Int) - (i : Int) = ((m + j - i : Nat) : Int) := by omega
      have hji : (j : Int) - (i : Int) = ((j - i : Nat) : Int) := by omega
      have HC := Lib.hid (HSW.out s (m + j - i) i E wr HE.out HS.out.2.1.symm (by omega) (by omega))
      have HST : Hid (∀ F G, Swapped E F s (m + j - i) i → Rotated F G s m (m + (j - i)) → Rotated E G s m (m + j)) := fun F G h1 h2 => by
        rw [← hs] at h1 h2 ⊢
        exact rot_lt h1 h him h2
      obtain ⟨t, ht⟩ : ∃ t, m + j - i = t := ⟨_, rfl⟩
      obtain ⟨u, hu⟩ : ∃ u, j - i = u := ⟨_, rfl⟩
      rw [ht] at hmj HC HST
      rw [hu] at hji HST
      have HU : Hid (1 ≤ u ∧ u ≤ 1048576 ∧ u < j ∧ m + u ≤ b ∧ t + i ≤ b ∧ a ≤ s) := by show _ ∧ _; omega
      have HSS := Lib.hid hs
      clear hs ht hu h
      go_wp2_with fail
      refine HC.out.mono ?_
      rintro e W1 ⟨rfl, F, hf, hsw, hss, hg⟩
      have HF := Lib.hid (And.intro hf (And.intro hsw (And.intro hss hg)))
      clear hf hsw hss hg HC
      go_wp2
      go_roundw
      case rel =>
        obtain ⟨hf, hsw, hss, hg⟩ := HF.out
        obtain ⟨u1, u2, u3, u4, u5, u6⟩ := HU.out
        refine ⟨i, u, F, rfl, by go_num, i1, u1, him, i2, u2, ?_, hf, ⟨HS.out.1.trans (hss.wide u6 u5), hss.len.trans HS.out.2.1, fun G hG => ?_⟩, grownBy_trans HG.out hg⟩
        · show _ ∧ _; rw [HSS.out]; exact ⟨u6, u4⟩
        · rw [HSS.out] at hG
          have := HST.out F G hsw hG
          exact HS.out.2.2 G (by rw [HSS.out]; exact this)
      case measure => have := HU.out; simp [intOf]; omega
    · -- i = j: the last exchange
      subst h
      have b0 : ((i : Int) != (i : Int)) = false := by simp
      have HC := Lib.hid (HSW.out s m i E wr HE.out HS.out.2.1.symm (by omega) (by omega))
      have HST : Hid (∀ F, Swapped E F s m i → Rotated E F s m (m + i)) := fun F h1 => by
        rw [← hs] at h1 ⊢
        exact rot_eq h1 him
      have HU : Hid (m + i ≤ b ∧ a ≤ s) := by show _ ∧ _; omega
      have HSS := Lib.hid hs
      clear hs
      go_wp2_with fail
      refine HC.out.mono ?_
      rintro e W1 ⟨rfl, F, hf, hsw, hss, hg⟩
      have HF := Lib.hid (And.intro hf (And.intro hsw (And.intro hss hg)))
      clear hf hsw hss hg HC
      go_wp2
      obtain ⟨hf, hsw, hss, hg⟩ := HF.out
      go_end0
      exact ⟨rfl, F, hf, HS.out.2.2 F (by rw [HSS.out]; exact HST.out F hsw), HS.out.1.trans (hss.wide HU.out.2 HU.out.1), grownBy_trans HG.out hg⟩
    · -- i > j
      have b0 : ((i : Int) != (j : Int)) = true := by simp; omega
      have b1 : (i : Int) > (j : Int) := by omega
      have hij : (i : Int) - (j : Int) = ((i - j : Nat) : Int) := by omega
      have HC := Lib.hid (HSW.out s m j E wr HE.out HS.out.2.1.symm (by omega) (by omega))
      have HST : Hid (∀ F G, Swapped E F s m j → Rotated F G (m - (i - j)) m (m + j) → Rotated E G s m (m + j)) := fun F G h1 h2 => by
        rw [← hs] at h1 ⊢
        exact rot_gt h1 h him h2
      obtain ⟨u, hu⟩ : ∃ u, i - j = u := ⟨_, rfl⟩
      rw [hu] at hij HST
      have HU : Hid (1 ≤ u ∧ u ≤ 1048576 ∧ u < i ∧ u ≤ m ∧ a ≤ m - u ∧ m + j ≤ b ∧ a ≤ s) := by show _ ∧ _; omega
      have HSS := Lib.hid hs
      clear hs hu h
      go_wp2_with fail
      refine HC.out.mono ?_
      rintro e W1 ⟨rfl, F, hf, hsw, hss, hg⟩
      have HF := Lib.hid (And.intro hf (And.intro hsw (And.intro hss hg)))
      clear hf hsw hss hg HC
      go_wp2
      go_roundw
      case rel =>
        obtain ⟨hf, hsw, hss, hg⟩ := HF.out
        obtain ⟨u1, u2, u3, u4, u5, u6, u7⟩ := HU.out
        refine ⟨u, j, F, by go_num, rfl, u1, j1, u4, u2, j2, ⟨u5, u6⟩, hf, ⟨HS.out.1.trans (hss.wide u7 u6), hss.len.trans HS.out.2.1, fun G hG => ?_⟩, grownBy_trans HG.out hg⟩
        have := HST.out F G hsw hG
        exact HS.out.2.2 G (by rw [HSS.out]; exact this)
      case measure => have := HU.out; simp [intOf]; omega
end Go.Proofs.Ytcopjdhnmkfkfaa

namespace Go.Proofs.Ytcopjdhnmkfkfaa
open Go.RowKit
set_option linter.unusedVariables false
set_option linter.unusedSimpArgs false

/-- What is asked of the function that compares: it only reads. -/
def CmpOk (kb : Nat) (cf : Int → Int → Int) (g : Nat) (D : List Int) (w : World) : Prop :=
  ∀ W x y, x ∈ D → y ∈ D → GrownL [g] w W → Calls Try.prog 54 #[.int .i64 x, .int .i64 y, .pointer (some ⟨kb, 0, none⟩)] W fun e w' => e = .returned (.int .i64 (cf x y)) ∧ ∃ q, w' = W.drewN q
theorem quiet_drewI {P : Program} {f : FuncId} {args : Array Value} {w : World} {n : Nat} {v : Value}
    (h : Calls P f args (w.drewN n) fun e w' => e = .returned v ∧ ∃ q, w' = (w.drewN n).drewN q) : Calls P f args (w.drewN n) fun e w'' => e = .returned v ∧ ∃ m, w'' = w.drewN m :=
  h.mono fun _ _ ⟨he, q, hq⟩ => ⟨he, n + q, by rw [hq]; simp⟩

theorem GrownL.row1 {g : Nat} {A W W' : World} (h : GrownL [g] A W) (hg : W.grownBy W' (some g)) : GrownL [g] A W' := h.grown hg fun j e => .inl (by cases e; simp)
theorem nth_mem {d : List Int} {i : Nat} (h : i < d.length) : nth d i ∈ d := by rw [nth_eq h]; exact List.getElem_mem h
theorem OwnI.belowB {w W : World} {N : Nat} {v : Value} {d : List Int} (h : OwnI w N v d) (hb : Below w.heap.size w W) : OwnI W N v d := h.below hb (Nat.le_refl _)

set_option maxRecDepth 100000 in
set_option maxHeartbeats 2000000 in
theorem insertion_any (g n c a b N kb : Nat) (key : Int → Int) (cf : Int → Int → Int) (hcf : ∀ x y, cf x y < 0 ↔ key x < key y) (D0 D : List Int) (w0 w : World) (hg0 : GrownL [g] w0 w) (ho : OwnI w N (.slice (some ⟨g, 0, none⟩) n c) D) (hn : n = D.length) (hperm : D.Perm D0) (hcmp : CmpOk kb cf g D0 w0)
    (hab : a ≤ b) (hb : b ≤ n) (hsz : n ≤ 1048576) (hasc : ∀ p q, a ≤ p → p < q → q < b → nth D p < nth D q) :
    Calls Try.prog 57 #[.slice (some ⟨g, 0, none⟩) n c, .int .i64 a, .int .i64 b, .func (.func 54) #[] #[.pointer (some ⟨kb, 0, none⟩)]] w fun e w' => e = .returned (.tuple #[]) ∧ ∃ E, OwnI w' N (.slice (some ⟨g, 0, none⟩) n c) E ∧ SortedOn key E a b ∧ SegSame D E a b ∧ GrownL [g] w0 w' := by
  have HO := Lib.hid ho
  have HN := Lib.hid hn
  have HG0 := Lib.hid hg0
  have HASC := Lib.hid hasc
  have HCMP : Hid (∀ W E x y, E.Perm D → x < n → y < n → GrownL [g] w0 W → Calls Try.prog 54 #[.int .i64 (nth E x), .int .i64 (nth E y), .pointer (some ⟨kb, 0, none⟩)] W fun e w' => e = .returned (.int .i64 (cf (nth E x) (nth E y))) ∧ ∃ q, w' = W.drewN q) := fun W E x y hE hx hy hW => hcmp W _ _ ((hE.trans hperm).subset (nth_mem (by rw [hE.length_eq, ← hn]; exact hx))) ((hE.trans hperm).subset (nth_mem (by rw [hE.length_eq, ← hn]; exact hy))) hW
  have HH : Hid (g < w0.heap.size ∨ w0.heap.size ≤ g) := by show _ ∨ _; omega
  clear ho hn hg0 hcmp hperm hasc
  go_enter Try.func57, Try.ntmps57
  go_wp2
  go_loopw [8] (fun vi wr => ∃ (i : Nat) (E : List Int), a < i ∧ i ≤ b + 1 ∧ vi = .int .i64 i ∧ Hid (OwnI wr N (.slice (some ⟨g, 0, none⟩) n c) E) ∧ Hid (SortedOn key E a i ∧ SegSame D E a (min i b) ∧ E.length = n) ∧ Hid (GrownL [g] w0 wr)) (fun vi _ => b + 1 - (intOf vi).toNat)
  case atStart => exact ⟨a + 1, D, by omega, by omega, by go_num, HO.out, ⟨fun i j h1 h2 h3 => by omega, SegSame.refl _ _ _, HN.out.symm⟩, HG0.out⟩
  case round =>
    obtain ⟨i, E, hai, hib, rfl, HE, HS, HG⟩ := hrel
    by_cases hi : i < b
    · have i1 : (i : Int) < (b : Int) := by omega
      have HINS : Hid (InsInv key E a i i ∧ SegSame D E a (i + 1)) := by
        obtain ⟨h1, h2, h3⟩ := HS.out
        rw [Nat.min_eq_left (by omega)] at h2
        refine ⟨InsInv.start h1 (by omega) fun p p1 p2 => ?_, h2.wide (Nat.le_refl _) (by omega)⟩
        obtain ⟨p', x1, x2, x3⟩ := h2.mem p p1 p2
        rw [x3, h2.out i (.inr (Nat.le_refl _))]
        exact HASC.out p' i x1 x2 hi
      have HLN : Hid (E.length = n) := HS.out.2.2
      clear HS
      go_wp2
      go_loopw [9] (fun vj wi => ∃ (j : Nat) (F : List Int), a ≤ j ∧ j ≤ i ∧ vj = .int .i64 j ∧ Hid (OwnI wi N (.slice (some ⟨g, 0, none⟩) n c) F) ∧ Hid (InsInv key F a i j ∧ SegSame D F a (i + 1) ∧ F.length = n) ∧ Hid (GrownL [g] w0 wi)) (fun vj _ => (intOf vj).toNat)
      case atStart => exact ⟨i, E, by omega, Nat.le_refl _, rfl, HE.out, ⟨HINS.out.1, HINS.out.2, HLN.out⟩, HG.out⟩
      case round =>
        obtain ⟨j, F, haj, hji, rfl, HF, HI, HGI⟩ := hrel
        clear HE HINS HLN HG
        by_cases hja : a < j
        · have j1 : (j : Int) > (a : Int) := by omega
          have jm : (j : Int) - 1 = ((j - 1 : Nat) : Int) := by omega
          obtain ⟨p, hp⟩ : ∃ p, j - 1 = p := ⟨_, rfl⟩
          rw [hp] at jm
          have hjn : j < n := by omega
          have hpn : p < n := by omega
          have hjw : IntKind.i64.wrap (p : Int) = (p : Int) := IntWalk.i64_in _ (by omega)
          have hp0 : (0 : Int) ≤ (p : Int) := by omega
          have hp1 : (p : Int) < (n : Int) := by omega
          have hj0 : (0 : Int) ≤ (j : Int) := by omega
          have hj2 : (j : Int) < (n : Int) := by omega
          have cj := HF.out.at_ HI.out.2.2.symm j (by rw [HI.out.2.2]; exact hjn)
          have cp := HF.out.at_ HI.out.2.2.symm p (by rw [HI.out.2.2]; exact hpn)
          have HC : Hid (∀ n, Calls Try.prog 54 #[.int .i64 (nth F j), .int .i64 (nth F p), .pointer (some ⟨kb, 0, none⟩)] (wr.drewN n) fun e w' => e = .returned (.int .i64 (cf (nth F j) (nth F p))) ∧ ∃ q, w' = (wr.drewN n).drewN q) := fun q => HCMP.out (wr.drewN q) F j p HI.out.2.1.perm hjn hpn (HGI.out.drewN q)
          have HPP := Lib.hid hp
          obtain ⟨r, hr⟩ : ∃ r, cf (nth F j) (nth F p) = r := ⟨_, rfl⟩
          rw [hr] at HC
          have HR := Lib.hid hr
          clear hp hr
          by_cases hr0 : r < 0
          · go_wp2
            go_quiet ((first | (go_at_call 54; exact quiet_drewI (HC.out _))))
            have hjl : j < F.length := by rw [HI.out.2.2]; exact hjn
            have hpl : p < F.length := by rw [HI.out.2.2]; exact hpn
            have fj := (HF.out.store HI.out.2.2.symm j hjl 0).2.1
            have fp := (HF.out.store HI.out.2.2.symm p hpl 0).2.1
            have HSW := Lib.hid (HF.out.swap HI.out.2.2.symm j p hjl hpl)
            have HST : Hid (InsInv key (swp2 F j p) a i p ∧ SegSame D (swp2 F j p) a (i + 1) ∧ (swp2 F j p).length = n) := by
              have hk : key (nth F j) < key (nth F p) := (hcf _ _).1 (by rw [HR.out]; exact hr0)
              have hst := HI.out.1.step hja (by rw [HI.out.2.2]; omega) (by rw [HPP.out]; exact hk)
              rw [HPP.out] at hst
              exact ⟨hst, HI.out.2.1.trans (SegSame.swap (by rw [HI.out.2.2]; omega) haj (by omega) (by have := HPP.out; omega) (by have := HPP.out; omega)), by rw [swp2_len, HI.out.2.2]⟩
            have hpj : ¬ p = j := by have := HPP.out; omega
            have hjp : ¬ j = p := by have := HPP.out; omega
            have HPA : Hid (a ≤ p ∧ p ≤ i ∧ p < j) := by have := HPP.out; show _ ∧ _; omega
            clear HC HR HF HI hjl hpl
            go_wp2
            go_region
            go_wp2
            go_roundw
            case rel => exact ⟨p, swp2 F j p, HPA.out.1, HPA.out.2.1, by go_num, HSW.out.1.drewN _, HST.out, (HGI.out.row1 HSW.out.2).drewN _⟩
            case measure => have := HPA.out; simp [intOf]; omega
          · have HEND : Hid (SortedOn key F a (i + 1)) := HI.out.1.done (.inr fun h => hr0 (by rw [← HR.out]; exact (hcf _ _).2 (by rw [HPP.out] at h; exact h)))
            clear HR
            go_wp2
            go_quiet ((first | (go_at_call 54; exact quiet_drewI (HC.out _))))
            have HE2 := Lib.hid (And.intro (HF.out.drewN nq) (And.intro HI.out.2 (HGI.out.drewN nq)))
            clear HC HF HI HGI
            go_wp2
            go_roundw
            case rel => exact ⟨i + 1, F, by omega, by omega, by go_num, HE2.out.1, ⟨HEND.out, by rw [Nat.min_eq_left (by omega)]; exact HE2.out.2.1.1, HE2.out.2.1.2⟩, HE2.out.2.2⟩
            case measure => simp [intOf]; omega
        · have j1 : ¬ (j : Int) > (a : Int) := by omega
          have hje : j = a := by omega
          have HEND : Hid (SortedOn key F a (i + 1)) := HI.out.1.done (.inl hje)
          clear hje
          go_wp2
          go_quiet (fail)
          have HE2 := Lib.hid (And.intro (HF.out.drewN nq) (And.intro HI.out.2 (HGI.out.drewN nq)))
          clear HF HI HGI
          go_wp2
          go_roundw
          case rel => exact ⟨i + 1, F, by omega, by omega, by go_num, HE2.out.1, ⟨HEND.out, by rw [Nat.min_eq_left (by omega)]; exact HE2.out.2.1.1, HE2.out.2.1.2⟩, HE2.out.2.2⟩
          case measure => simp [intOf]; omega
    · have i1 : ¬ (i : Int) < (b : Int) := by omega
      have HFIN : Hid (∃ E, OwnI wr N (.slice (some ⟨g, 0, none⟩) n c) E ∧ SortedOn key E a b ∧ SegSame D E a b ∧ GrownL [g] w0 wr) := by
        obtain ⟨h1, h2, h3⟩ := HS.out
        rw [Nat.min_eq_right (by omega)] at h2
        exact ⟨E, HE.out, h1.sub (Nat.le_refl _) (by omega), h2, HG.out⟩
      clear HE HS HG
      go_wp2
      go_end0
      exact ⟨rfl, HFIN.out⟩
end Go.Proofs.Ytcopjdhnmkfkfaa

namespace Go.Proofs.Ytcopjdhnmkfkfaa
open Go.RowKit
set_option linter.unusedVariables false
set_option linter.unusedSimpArgs false

theorem cmp_hid {g n kb : Nat} {cf : Int → Int → Int} {D0 D : List Int} {w0 : World} (hcmp : CmpOk kb cf g D0 w0) (hn : n = D.length) (hperm : D.Perm D0) :
    Hid (∀ W E x y, E.Perm D → x < n → y < n → GrownL [g] w0 W → Calls Try.prog 54 #[.int .i64 (nth E x), .int .i64 (nth E y), .pointer (some ⟨kb, 0, none⟩)] W fun e w' => e = .returned (.int .i64 (cf (nth E x) (nth E y))) ∧ ∃ q, w' = W.drewN q) :=
  fun W E x y hE hx hy hW => hcmp W _ _ ((hE.trans hperm).subset (nth_mem (by rw [hE.length_eq, ← hn]; exact hx))) ((hE.trans hperm).subset (nth_mem (by rw [hE.length_eq, ← hn]; exact hy))) hW
/-- What the merge in place leaves behind. -/
def MergePost (g n c N a b : Nat) (key : Int → Int) (D : List Int) (w0 w' : World) : Prop :=
  ∃ E, OwnI w' N (.slice (some ⟨g, 0, none⟩) n c) E ∧ SortedOn key E a b ∧ SegSame D E a b ∧ GrownL [g] w0 w'

/-- The rounds of the search. -/
def SrchL (g n c N a b : Nat) (key : Int → Int) (D : List Int) (w0 : World) (vi vj : Value) (wr : World) : Prop :=
  ∃ (i j : Nat), a + 1 ≤ i ∧ i ≤ j ∧ j ≤ b ∧ vi = .int .i64 i ∧ vj = .int .i64 j ∧ Hid ((∀ c, a + 1 ≤ c → c < i → key (nth D c) < key (nth D a)) ∧ (∀ c, j ≤ c → c < b → key (nth D a) ≤ key (nth D c))) ∧ Hid (OwnI wr N (.slice (some ⟨g, 0, none⟩) n c) D ∧ GrownL [g] w0 wr)
/-- The rounds of the move. -/
def MoveL (g n c N a b l : Nat) (D : List Int) (w0 : World) (vk : Value) (wi : World) : Prop :=
  ∃ (k : Nat) (E : List Int), a ≤ k ∧ k ≤ l ∧ vk = .int .i64 k ∧ Hid (OwnI wi N (.slice (some ⟨g, 0, none⟩) n c) E ∧ GrownL [g] w0 wi) ∧ Hid (Rotated D E a (a + 1) (k + 1) ∧ SegSame D E a b ∧ E.length = n)

set_option maxRecDepth 100000 in
set_option maxHeartbeats 4000000 in
theorem symMerge_l (g n c N kb : Nat) (key : Int → Int) (cf : Int → Int → Int) (hcf : ∀ x y, cf x y < 0 ↔ key x < key y) (D0 : List Int) (w0 : World) (hcmp : CmpOk kb cf g D0 w0) (hsz : n ≤ 1048576) (a b : Nat) (D : List Int) (w : World) (hg0 : GrownL [g] w0 w) (ho : OwnI w N (.slice (some ⟨g, 0, none⟩) n c) D) (hn : n = D.length) (hperm : D.Perm D0) (hb : b ≤ n) (m : Nat) (hm : m = a + 1) (hpre : MergePre key D a m b) (hmb : m < b) :
    Calls Try.prog 58 #[.slice (some ⟨g, 0, none⟩) n c, .int .i64 a, .int .i64 m, .int .i64 b, .func (.func 54) #[] #[.pointer (some ⟨kb, 0, none⟩)]] w fun e w' => e = .returned (.tuple #[]) ∧ MergePost g n c N a b key D w0 w' := by
  have HCMP := cmp_hid hcmp hn hperm
  have m1 : (m : Int) - (a : Int) = 1 := by omega
  rw [hm] at hpre
  have HO := Lib.hid ho
  have HG := Lib.hid hg0
  have HN := Lib.hid hn
  have HPRE := Lib.hid hpre
  clear ho hg0 hn hpre hperm hcmp hm
  go_enter Try.func58, Try.ntmps58
  go_wp2
  go_loopw [10, 11] (fun vi vj wr => SrchL g n c N a b key D w0 vi vj wr) (fun vi vj _ => (intOf vj).toNat - (intOf vi).toNat)
  case atStart => exact ⟨m, b, by omega, by omega, Nat.le_refl _, rfl, rfl, ⟨fun c h1 h2 => by omega, fun c h1 h2 => by omega⟩, HO.out, HG.out⟩
  case round =>
    obtain ⟨i, j, hmi, hij, hjb, rfl, rfl, HS, HW⟩ := hrel
    by_cases hlt : i < j
    · have i1 : (i : Int) < (j : Int) := by omega
      obtain ⟨h, hh⟩ : ∃ h : Nat, (i + j) / 2 = h := ⟨_, rfl⟩
      have hhi : ((i : Int) + (j : Int)) / 2 = (h : Int) := by omega
      have hih : i ≤ h := by omega
      have hhj : h < j := by omega
      have hhn : h < n := by omega
      have han : a < n := by omega
      have h0 : (0 : Int) ≤ (h : Int) := by omega
      have h1n : (h : Int) < (n : Int) := by omega
      have a0 : (0 : Int) ≤ (a : Int) := by omega
      have a1 : (a : Int) < (n : Int) := by omega
      have ch := HW.out.1.at_ HN.out h (by rw [← HN.out]; exact hhn)
      have ca := HW.out.1.at_ HN.out a (by rw [← HN.out]; exact han)
      have HC : Hid (∀ q, Calls Try.prog 54 #[.int .i64 (nth D h), .int .i64 (nth D a), .pointer (some ⟨kb, 0, none⟩)] (wr.drewN q) fun e w' => e = .returned (.int .i64 (cf (nth D h) (nth D a))) ∧ ∃ q', w' = (wr.drewN q).drewN q') := fun q => HCMP.out (wr.drewN q) D h a (List.Perm.refl _) hhn han (HW.out.2.drewN q)
      have HLE : Hid (∀ c, a + 1 ≤ c → c ≤ h → key (nth D c) ≤ key (nth D h)) := fun c c1 c2 => by
        by_cases e : c = h
        · rw [e]; exact Int.le_refl _
        · have := HPRE.out.r c h c1 (by omega) (by omega)
          unfold lexLt at this; omega
      have HGE : Hid (∀ c, h ≤ c → c < b → key (nth D h) ≤ key (nth D c)) := fun c c1 c2 => by
        by_cases e : c = h
        · rw [e]; exact Int.le_refl _
        · have := HPRE.out.r h c (by omega) (by omega) c2
          unfold lexLt at this; omega
      obtain ⟨r, hr⟩ : ∃ r, cf (nth D h) (nth D a) = r := ⟨_, rfl⟩
      rw [hr] at HC
      have HR := Lib.hid hr
      clear hh hr
      by_cases hr0 : r < 0
      · have HS2 : Hid (∀ c, a + 1 ≤ c → c < h + 1 → key (nth D c) < key (nth D a)) := fun c c1 c2 => by
          have k1 := (hcf _ _).1 (show cf (nth D h) (nth D a) < 0 by rw [HR.out]; exact hr0)
          have k2 := HLE.out c c1 (by omega)
          omega
        clear HLE HGE HR
        go_wp2
        go_quiet ((first | (go_at_call 54; exact quiet_drewI (HC.out _))))
        have HW2 := Lib.hid (And.intro (HW.out.1.drewN nq) (HW.out.2.drewN nq))
        clear HC
        go_wp2
        go_roundw
        case rel => exact ⟨h + 1, j, by omega, by omega, hjb, by go_num, rfl, ⟨HS2.out, HS.out.2⟩, HW2.out⟩
        case measure => simp [intOf]; omega
      · have HS2 : Hid (∀ c, h ≤ c → c < b → key (nth D a) ≤ key (nth D c)) := fun c c1 c2 => by
          have k1 : ¬ key (nth D h) < key (nth D a) := fun k => hr0 (by rw [← HR.out]; exact (hcf _ _).2 k)
          have k2 := HGE.out c c1 c2
          omega
        clear HLE HGE HR
        go_wp2
        go_quiet ((first | (go_at_call 54; exact quiet_drewI (HC.out _))))
        have HW2 := Lib.hid (And.intro (HW.out.1.drewN nq) (HW.out.2.drewN nq))
        clear HC
        go_wp2
        go_roundw
        case rel => exact ⟨i, h, hmi, hih, by omega, rfl, by go_num, ⟨HS.out.1, HS2.out⟩, HW2.out⟩
        case measure => simp [intOf]; omega
    · have hje : i = j := by omega
      have i1 : ¬ (i : Int) < (j : Int) := by omega
      subst hje
      clear hlt hij
      have hi1 : (i : Int) - 1 = ((i - 1 : Nat) : Int) := by omega
      obtain ⟨l, hl⟩ : ∃ l, i - 1 = l := ⟨_, rfl⟩
      rw [hl] at hi1
      have HL : Hid (a ≤ l ∧ l + 1 = i ∧ l < b) := by show _ ∧ _; omega
      have hal : a ≤ l := by omega
      have hl2 : l ≤ 1048576 := by omega
      clear hl
      go_wp2
      go_loopw [13] (fun vk wi => MoveL g n c N a b l D w0 vk wi) (fun vk _ => l - (intOf vk).toNat)
      case atStart => exact ⟨a, D, Nat.le_refl _, hal, rfl, HW.out, Rotated.none_r _ rfl, SegSame.refl _ _ _, HN.out.symm⟩
      case round =>
        obtain ⟨k, E, hak, hkl, rfl, HE, HR⟩ := hrel
        clear HW
        by_cases hk : k < l
        · have k1 : (k : Int) < (l : Int) := by omega
          obtain ⟨p, hp⟩ : ∃ p, k + 1 = p := ⟨_, rfl⟩
          have hpi : (k : Int) + 1 = (p : Int) := by omega
          have hkn : k < n := by have := HL.out; omega
          have hpn : p < n := by have := HL.out; omega
          have hpw : IntKind.i64.wrap (p : Int) = (p : Int) := IntWalk.i64_in _ (by omega)
          have hk0 : (0 : Int) ≤ (k : Int) := by omega
          have hp0 : (0 : Int) ≤ (p : Int) := by omega
          have hkn1 : (k : Int) < (n : Int) := by omega
          have hp1 : (p : Int) < (n : Int) := by omega
          have hkL : k < E.length := by rw [HR.out.2.2]; exact hkn
          have hpL : p < E.length := by rw [HR.out.2.2]; exact hpn
          have ck := HE.out.1.at_ HR.out.2.2.symm k hkL
          have cp := HE.out.1.at_ HR.out.2.2.symm p hpL
          have fk := (HE.out.1.store HR.out.2.2.symm k hkL 0).2.1
          have fp := (HE.out.1.store HR.out.2.2.symm p hpL 0).2.1
          have HSW := Lib.hid (HE.out.1.swap HR.out.2.2.symm k p hkL hpL)
          have HST : Hid (Rotated D (swp2 E k p) a (a + 1) (p + 1) ∧ SegSame D (swp2 E k p) a b ∧ (swp2 E k p).length = n) := by
            have h1 := HR.out.1.right hak (by rw [← HN.out]; omega)
            rw [hp] at h1
            rw [show k + 2 = p + 1 by omega] at h1
            have := HL.out
            exact ⟨h1, HR.out.2.1.trans (SegSame.swap (by rw [HR.out.2.2]; exact hb) hak (by omega) (by omega) (by omega)), by rw [swp2_len, HR.out.2.2]⟩
          have hpk : ¬ p = k := by omega
          have hkp : ¬ k = p := by omega
          have HPA : Hid (a ≤ p ∧ p ≤ l ∧ k < p) := by show _ ∧ _; omega
          have HG2 := Lib.hid HE.out.2
          clear hp HE HR hkL hpL hk
          go_wp2
          go_region
          go_wp2
          go_roundw
          case rel => exact ⟨p, swp2 E k p, HPA.out.1, HPA.out.2.1, by go_num, ⟨HSW.out.1.drewN _, (HG2.out.row1 HSW.out.2).drewN _⟩, HST.out⟩
          case measure => have := HPA.out; simp [intOf]; omega
        · have k1 : ¬ (k : Int) < (l : Int) := by omega
          have HFIN : Hid (MergePost g n c N a b key D w0 wr) := by
            have hkk : k + 1 = i := by have := HL.out; omega
            have hr := HR.out.1
            rw [hkk] at hr
            exact ⟨E, HE.out.1, merge_one_l HPRE.out hmi hjb HS.out.1 (fun c c1 c2 => by have := HS.out.2 c c1 c2; omega) hr, HR.out.2.1, HE.out.2⟩
          clear HE HR HS
          go_wp2
          exact bodyPost_ret (v := .tuple #[]) (by simp [results, Try.results58, go_sem]) rfl ⟨rfl, HFIN.out⟩
end Go.Proofs.Ytcopjdhnmkfkfaa

namespace Go.Proofs.Ytcopjdhnmkfkfaa
open Go.RowKit
set_option linter.unusedVariables false
set_option linter.unusedSimpArgs false

/-- The rounds of the search on the right. -/
def SrchR (g n c N a m : Nat) (key : Int → Int) (D : List Int) (w0 : World) (vi vj : Value) (wr : World) : Prop :=
  ∃ (i j : Nat), a ≤ i ∧ i ≤ j ∧ j ≤ m ∧ vi = .int .i64 i ∧ vj = .int .i64 j ∧ Hid ((∀ c, a ≤ c → c < i → key (nth D c) ≤ key (nth D m)) ∧ (∀ c, j ≤ c → c < m → key (nth D m) < key (nth D c))) ∧ Hid (OwnI wr N (.slice (some ⟨g, 0, none⟩) n c) D ∧ GrownL [g] w0 wr)
/-- The rounds of the move on the right. -/
def MoveR (g n c N a m l b : Nat) (D : List Int) (w0 : World) (vk : Value) (wi : World) : Prop :=
  ∃ (k : Nat) (E : List Int), l ≤ k ∧ k ≤ m ∧ vk = .int .i64 k ∧ Hid (OwnI wi N (.slice (some ⟨g, 0, none⟩) n c) E ∧ GrownL [g] w0 wi) ∧ Hid (Rotated D E k m (m + 1) ∧ SegSame D E a b ∧ E.length = n)

set_option maxRecDepth 100000 in
set_option maxHeartbeats 4000000 in
theorem symMerge_r (g n c N kb : Nat) (key : Int → Int) (cf : Int → Int → Int) (hcf : ∀ x y, cf x y < 0 ↔ key x < key y) (D0 : List Int) (w0 : World) (hcmp : CmpOk kb cf g D0 w0) (hsz : n ≤ 1048576) (a b : Nat) (D : List Int) (w : World) (hg0 : GrownL [g] w0 w) (ho : OwnI w N (.slice (some ⟨g, 0, none⟩) n c) D) (hn : n = D.length) (hperm : D.Perm D0) (hb : b ≤ n) (m : Nat) (hm : b = m + 1) (hpre : MergePre key D a m b) (ham : a < m) (hne : m ≠ a + 1) :
    Calls Try.prog 58 #[.slice (some ⟨g, 0, none⟩) n c, .int .i64 a, .int .i64 m, .int .i64 b, .func (.func 54) #[] #[.pointer (some ⟨kb, 0, none⟩)]] w fun e w' => e = .returned (.tuple #[]) ∧ MergePost g n c N a b key D w0 w' := by
  have HCMP := cmp_hid hcmp hn hperm
  have m1 : ((m : Int) - (a : Int) == 1) = false := by rw [beq_eq_false_iff_ne]; omega
  have m2 : (b : Int) - (m : Int) = 1 := by omega
  rw [hm] at hpre
  have HO := Lib.hid ho
  have HG := Lib.hid hg0
  have HN := Lib.hid hn
  have HPRE := Lib.hid hpre
  clear ho hg0 hn hpre hperm hcmp hm hne
  go_enter Try.func58, Try.ntmps58
  go_wp2
  go_loopw [14, 15] (fun vi vj wr => SrchR g n c N a m key D w0 vi vj wr) (fun vi vj _ => (intOf vj).toNat - (intOf vi).toNat)
  case atStart => exact ⟨a, m, Nat.le_refl _, by omega, Nat.le_refl _, rfl, rfl, ⟨fun c h1 h2 => by omega, fun c h1 h2 => by omega⟩, HO.out, HG.out⟩
  case round =>
    obtain ⟨i, j, hmi, hij, hjb, rfl, rfl, HS, HW⟩ := hrel
    by_cases hlt : i < j
    · have i1 : (i : Int) < (j : Int) := by omega
      obtain ⟨h, hh⟩ : ∃ h : Nat, (i + j) / 2 = h := ⟨_, rfl⟩
      have hhi : ((i : Int) + (j : Int)) / 2 = (h : Int) := by omega
      have hih : i ≤ h := by omega
      have hhj : h < j := by omega
      have hhn : h < n := by omega
      have hmn : m < n := by omega
      have h0 : (0 : Int) ≤ (h : Int) := by omega
      have h1n : (h : Int) < (n : Int) := by omega
      have a0 : (0 : Int) ≤ (m : Int) := by omega
      have a1 : (m : Int) < (n : Int) := by omega
      have ch := HW.out.1.at_ HN.out h (by rw [← HN.out]; exact hhn)
      have cm := HW.out.1.at_ HN.out m (by rw [← HN.out]; exact hmn)
      have HC : Hid (∀ q, Calls Try.prog 54 #[.int .i64 (nth D m), .int .i64 (nth D h), .pointer (some ⟨kb, 0, none⟩)] (wr.drewN q) fun e w' => e = .returned (.int .i64 (cf (nth D m) (nth D h))) ∧ ∃ q', w' = (wr.drewN q).drewN q') := fun q => HCMP.out (wr.drewN q) D m h (List.Perm.refl _) hmn hhn (HW.out.2.drewN q)
      have HLE : Hid (∀ c, a ≤ c → c ≤ h → key (nth D c) ≤ key (nth D h)) := fun c c1 c2 => by
        by_cases e : c = h
        · rw [e]; exact Int.le_refl _
        · have := HPRE.out.l c h c1 (by omega) (by omega)
          unfold lexLt at this; omega
      have HGE : Hid (∀ c, h ≤ c → c < m → key (nth D h) ≤ key (nth D c)) := fun c c1 c2 => by
        by_cases e : c = h
        · rw [e]; exact Int.le_refl _
        · have := HPRE.out.l h c (by omega) (by omega) c2
          unfold lexLt at this; omega
      obtain ⟨r, hr⟩ : ∃ r, cf (nth D m) (nth D h) = r := ⟨_, rfl⟩
      rw [hr] at HC
      have HR := Lib.hid hr
      clear hh hr
      by_cases hr0 : r < 0
      · have HS2 : Hid (∀ c, h ≤ c → c < m → key (nth D m) < key (nth D c)) := fun c c1 c2 => by
          have k1 := (hcf _ _).1 (show cf (nth D m) (nth D h) < 0 by rw [HR.out]; exact hr0)
          have k2 := HGE.out c c1 (by omega)
          omega
        clear HLE HGE HR
        have hrb : (decide (r < 0)) = true := by simp; omega
        have hrc : (!decide (r < 0)) = false := by rw [hrb]; rfl
        go_wp2
        go_quiet ((first | (go_at_call 54; exact quiet_drewI (HC.out _))))
        have HW2 := Lib.hid (And.intro (HW.out.1.drewN nq) (HW.out.2.drewN nq))
        clear HC
        go_wp2
        go_roundw
        case rel => exact ⟨i, h, hmi, hih, by omega, rfl, by go_num, ⟨HS.out.1, HS2.out⟩, HW2.out⟩
        case measure => simp [intOf]; omega
      · have HS2 : Hid (∀ c, a ≤ c → c < h + 1 → key (nth D c) ≤ key (nth D m)) := fun c c1 c2 => by
          have k1 : ¬ key (nth D m) < key (nth D h) := fun k => hr0 (by rw [← HR.out]; exact (hcf _ _).2 k)
          have k2 := HLE.out c c1 (by omega)
          omega
        clear HLE HGE HR
        have hrb : (decide (r < 0)) = false := by simp; omega
        have hrc : (!decide (r < 0)) = true := by rw [hrb]; rfl
        go_wp2
        go_quiet ((first | (go_at_call 54; exact quiet_drewI (HC.out _))))
        have HW2 := Lib.hid (And.intro (HW.out.1.drewN nq) (HW.out.2.drewN nq))
        clear HC
        go_wp2
        go_roundw
        case rel => exact ⟨h + 1, j, by omega, by omega, hjb, by go_num, rfl, ⟨HS2.out, HS.out.2⟩, HW2.out⟩
        case measure => simp [intOf]; omega
    · have hje : i = j := by omega
      have i1 : ¬ (i : Int) < (j : Int) := by omega
      subst hje
      clear hlt hij
      have HL : Hid (a ≤ i ∧ i ≤ m ∧ b = m + 1) := by show _ ∧ _; omega
      have hi2 : i ≤ 1048576 := by omega
      clear hjb
      go_wp2
      go_loopw [17] (fun vk wi => MoveR g n c N a m i b D w0 vk wi) (fun vk _ => (intOf vk).toNat)
      case atStart => exact ⟨m, D, HL.out.2.1, Nat.le_refl _, rfl, HW.out, Rotated.none_l _ rfl, SegSame.refl _ _ _, HN.out.symm⟩
      case round =>
        obtain ⟨k, E, hak, hkl, rfl, HE, HR⟩ := hrel
        clear HW
        by_cases hk : i < k
        · have k1 : (k : Int) > (i : Int) := by omega
          obtain ⟨p, hp⟩ : ∃ p, k - 1 = p := ⟨_, rfl⟩
          have hpi : (k : Int) - 1 = (p : Int) := by omega
          have hkn : k < n := by have := HL.out; omega
          have hpn : p < n := by have := HL.out; omega
          have hpw : IntKind.i64.wrap (p : Int) = (p : Int) := IntWalk.i64_in _ (by omega)
          have hk0 : (0 : Int) ≤ (k : Int) := by omega
          have hp0 : (0 : Int) ≤ (p : Int) := by omega
          have hkn1 : (k : Int) < (n : Int) := by omega
          have hp1 : (p : Int) < (n : Int) := by omega
          have hkL : k < E.length := by rw [HR.out.2.2]; exact hkn
          have hpL : p < E.length := by rw [HR.out.2.2]; exact hpn
          have ck := HE.out.1.at_ HR.out.2.2.symm k hkL
          have cp := HE.out.1.at_ HR.out.2.2.symm p hpL
          have fk := (HE.out.1.store HR.out.2.2.symm k hkL 0).2.1
          have fp := (HE.out.1.store HR.out.2.2.symm p hpL 0).2.1
          have HSW := Lib.hid (HE.out.1.swap HR.out.2.2.symm k p hkL hpL)
          have HST : Hid (Rotated D (swp2 E k p) p m (m + 1) ∧ SegSame D (swp2 E k p) a b ∧ (swp2 E k p).length = n) := by
            have hL := HL.out
            have h1 := HR.out.1.left (by omega) hkl (by rw [← HN.out]; omega)
            rw [hp] at h1
            have := HL.out
            exact ⟨h1, HR.out.2.1.trans (SegSame.swap (by rw [HR.out.2.2]; exact hb) (by omega) (by omega) (by omega) (by omega)), by rw [swp2_len, HR.out.2.2]⟩
          have hpk : ¬ p = k := by omega
          have hkp : ¬ k = p := by omega
          have HPA : Hid (i ≤ p ∧ p ≤ m ∧ p < k) := by show _ ∧ _; omega
          have HG2 := Lib.hid HE.out.2
          clear hp HE HR hkL hpL hk
          go_wp2
          go_region
          go_wp2
          go_roundw
          case rel => exact ⟨p, swp2 E k p, HPA.out.1, HPA.out.2.1, by go_num, ⟨HSW.out.1.drewN _, (HG2.out.row1 HSW.out.2).drewN _⟩, HST.out⟩
          case measure => have := HPA.out; simp [intOf]; omega
        · have k1 : ¬ (k : Int) > (i : Int) := by omega
          have HFIN : Hid (MergePost g n c N a b key D w0 wr) := by
            have hkk : k = i := by omega
            have hr := HR.out.1
            rw [hkk] at hr
            have hs := merge_one_r HPRE.out hmi HL.out.2.1 (fun c c1 c2 => by have := HS.out.1 c c1 c2; omega) HS.out.2 hr
            rw [← HL.out.2.2] at hs
            exact ⟨E, HE.out.1, hs, HR.out.2.1, HE.out.2⟩
          clear HE HR HS
          go_wp2
          exact bodyPost_ret (v := .tuple #[]) (by simp [results, Try.results58, go_sem]) rfl ⟨rfl, HFIN.out⟩
end Go.Proofs.Ytcopjdhnmkfkfaa
