/- impl.sortedBy: the numbers from 0 on, sorted by a key, equal ones in their order. Conditions: at most 2^20 numbers. With texts that it needs. -/
import Derived.Test.YtcopjdhnmkfkfaaBestAll3
import Derived.Deep.CutRange
import Derived.Test.YtcopjdhnmkfkfaaBestAll2
import Derived.Test.YtcopjdhnmkfkfaaBestAll1
namespace Go.Proofs.Ytcopjdhnmkfkfaa
open Go.RowKit
set_option linter.unusedVariables false
set_option linter.unusedSimpArgs false

/-- The rounds of the search between the halves. -/
def SrchM (g n c N p s0 r0 : Nat) (key : Int → Int) (D : List Int) (w0 : World) (vi vj : Value) (wr : World) : Prop :=
  ∃ (s r : Nat), s ≤ r ∧ vi = .int .i64 s ∧ vj = .int .i64 r ∧ Hid (Search key D p s0 r0 s r) ∧ Hid (OwnI wr N (.slice (some ⟨g, 0, none⟩) n c) D ∧ GrownL [g] w0 wr)
/-- Behind the rotation. -/
def RotPost (g n c N a b s m e : Nat) (D : List Int) (w0 w' : World) : Prop :=
  ∃ E, OwnI w' N (.slice (some ⟨g, 0, none⟩) n c) E ∧ Rotated D E s m e ∧ SegSame D E a b ∧ GrownL [g] w0 w'
/-- What joins the two halves. -/
theorem merge_join {key : Int → Int} {D E F G : List Int} {a b mid : Nat} (hde : SegSame D E a b) (hef : SegSame E F a mid) (hfg : SegSame F G mid b) (ham : a ≤ mid) (hmb : mid ≤ b)
    (h1 : SortedOn key F a mid) (h2 : SortedOn key G mid b) (hx : ∀ p q, a ≤ p → p < mid → mid ≤ q → q < b → lexLt key (nth E p) (nth E q)) : SortedOn key G a b ∧ SegSame D G a b := by
  refine ⟨halves_sorted hx ham hmb (fun i j x y z => ?_) h2 (fun k k1 k2 => ?_) (fun k k1 k2 => ?_), (hde.trans (hef.wide (Nat.le_refl _) hmb)).trans (hfg.wide ham (Nat.le_refl _))⟩
  · rw [hfg.out i (.inl (by omega)), hfg.out j (.inl z)]; exact h1 i j x y z
  · rw [hfg.out k (.inl k2)]; exact hef.mem k k1 k2
  · obtain ⟨k', x, y, z⟩ := hfg.mem k k1 k2
    exact ⟨k', x, y, by rw [z, hef.out k' (.inr x)]⟩
theorem MergePre.keep {key : Int → Int} {D E : List Int} {a m b x y : Nat} (h : MergePre key D a m b) (hs : SegSame D E x y) (hy : y ≤ a) (ham : a ≤ m) (hmb : m ≤ b) : MergePre key E a m b := by
  refine ⟨fun i j p q r => ?_, fun i j p q r => ?_, fun i j p q r t => ?_⟩
  · rw [hs.out i (.inr (by omega)), hs.out j (.inr (by omega))]; exact h.l i j p q r
  · rw [hs.out i (.inr (by omega)), hs.out j (.inr (by omega))]; exact h.r i j p q r
  · rw [hs.out i (.inr (by omega)), hs.out j (.inr (by omega))]; exact h.side i j p q r t
theorem MergePre.bare {key : Int → Int} {D : List Int} {a m b : Nat} (h : MergePre key D a m b) (ham : a ≤ m) (hmb : m ≤ b) (he : ¬ (a < m ∧ m < b)) : SortedOn key D a b := by
  by_cases h1 : a < m
  · obtain rfl : m = b := by omega
    exact h.l
  · obtain rfl : a = m := by omega
    exact h.r

set_option maxRecDepth 100000 in
set_option maxHeartbeats 4000000 in
theorem symMerge_m (g n c N kb : Nat) (key : Int → Int) (cf : Int → Int → Int) (hcf : ∀ x y, cf x y < 0 ↔ key x < key y) (D0 : List Int) (w0 : World) (hcmp : CmpOk kb cf g D0 w0) (hsz : n ≤ 1048576) (a m b : Nat)
    (ih : ∀ (x y z : Nat) (E : List Int) (W : World), z - x < b - a → GrownL [g] w0 W → OwnI W N (.slice (some ⟨g, 0, none⟩) n c) E → n = E.length → E.Perm D0 → x < y → y < z → z ≤ n → MergePre key E x y z →
      Calls Try.prog 58 #[.slice (some ⟨g, 0, none⟩) n c, .int .i64 x, .int .i64 y, .int .i64 z, .func (.func 54) #[] #[.pointer (some ⟨kb, 0, none⟩)]] W fun e w' => e = .returned (.tuple #[]) ∧ MergePost g n c N x z key E w0 w')
    (D : List Int) (w : World) (hg0 : GrownL [g] w0 w) (ho : OwnI w N (.slice (some ⟨g, 0, none⟩) n c) D) (hn : n = D.length) (hperm : D.Perm D0) (hb : b ≤ n) (hpre : MergePre key D a m b) (ham : a < m) (hmb : m < b) (hna : m ≠ a + 1) (hnb : b ≠ m + 1) :
    Calls Try.prog 58 #[.slice (some ⟨g, 0, none⟩) n c, .int .i64 a, .int .i64 m, .int .i64 b, .func (.func 54) #[] #[.pointer (some ⟨kb, 0, none⟩)]] w fun e w' => e = .returned (.tuple #[]) ∧ MergePost g n c N a b key D w0 w' := by
  have HCMP := cmp_hid hcmp hn hperm
  have m1 : ((m : Int) - (a : Int) == 1) = false := by rw [beq_eq_false_iff_ne]; omega
  have m2 : ((b : Int) - (m : Int) == 1) = false := by rw [beq_eq_false_iff_ne]; omega
  obtain ⟨mid, hmid⟩ : ∃ mid, mid = (a + b) / 2 := ⟨_, rfl⟩
  have hmidI : ((a : Int) + (b : Int)) / 2 = (mid : Int) := by omega
  obtain ⟨t, ht⟩ : ∃ t, t = mid + m := ⟨_, rfl⟩
  have htI : (mid : Int) + (m : Int) = (t : Int) := by omega
  obtain ⟨p, hp⟩ : ∃ p, p = t - 1 := ⟨_, rfl⟩
  have hpI : (t : Int) - 1 = (p : Int) := by omega
  obtain ⟨s0, r0, h0⟩ : ∃ s0 r0, m > mid ∧ s0 = mid + m - b ∧ r0 = mid ∨ m ≤ mid ∧ s0 = a ∧ r0 = m := by
    by_cases h : m > mid
    · exact ⟨_, _, .inl ⟨h, rfl, rfl⟩⟩
    · exact ⟨_, _, .inr ⟨by omega, rfl, rfl⟩⟩
  have HP1 : Hid (∀ c, s0 ≤ c → c < r0 → m ≤ p - c ∧ p - c < b ∧ c ≤ p) := fun c h1 h2 => by omega
  have HS0 : Hid (s0 ≤ r0 ∧ a ≤ s0 ∧ r0 ≤ m ∧ r0 ≤ p + 1 ∧ p < 2097152) := by show _ ∧ _; omega
  have H0 := Lib.hid h0
  have HM : Hid (mid = (a + b) / 2 ∧ t = mid + m ∧ p = t - 1 ∧ a ≤ mid ∧ mid < b ∧ a < mid) := by show _ ∧ _; omega
  have hsI : m > mid → (t : Int) - (b : Int) = (s0 : Int) := fun h => by omega
  have hr0m : r0 ≤ 1048576 := by omega
  have htb : t ≤ 2097152 := by omega
  have hmidb : mid ≤ 1048576 := by omega
  have HO := Lib.hid ho
  have HG := Lib.hid hg0
  have HN := Lib.hid hn
  have HPRE := Lib.hid hpre
  have HIH := Lib.hid ih
  have HPERM := Lib.hid hperm
  have HAB : Hid (a < m ∧ m < b ∧ b ≤ n) := ⟨ham, hmb, hb⟩
  clear ho hg0 hn hpre hperm hcmp hmid ht hp h0 ih hna hnb ham hmb
  go_enter Try.func58, Try.ntmps58
  go_upto_if 140 with fail
  go_cut [20, 21] from 138 to 146 (fun s20 s21 wx => s20 = .int .i64 s0 ∧ s21 = .int .i64 r0 ∧ wx = w)
  case first =>
    by_cases hmm : m > mid
    · have c1 : (m : Int) > (mid : Int) := by omega
      have hs := hsI hmm
      have hr0 : (mid : Int) = (r0 : Int) := by have := H0.out; omega
      clear hsI
      go_wp2
      go_meet
      exact ⟨rfl, by rw [hr0], rfl⟩
    · have c1 : ¬ (m : Int) > (mid : Int) := by omega
      have hs : Hid (a = s0) := by have := H0.out; show _ = _; omega
      have hr : Hid (m = r0) := by have := H0.out; show _ = _; omega
      clear hsI
      go_wp2
      go_meet
      exact ⟨by rw [hs.out], by rw [hr.out], rfl⟩
  case rest =>
    obtain ⟨rfl, rfl, rfl⟩ := hcut
    clear hsI
    go_wp2
    go_loopw [20, 21] (fun vi vj wr => SrchM g n c N p s0 r0 key D w0 vi vj wr) (fun vi vj _ => (intOf vj).toNat - (intOf vi).toNat)
    case atStart => exact ⟨s0, r0, HS0.out.1, rfl, rfl, Search.start key D HS0.out.1, HO.out, HG.out⟩
    case round =>
      obtain ⟨s, r, hsr, rfl, rfl, HS, HW⟩ := hrel
      clear HO HG
      have hr1 : r ≤ r0 := HS.out.rr
      have hs1 : s0 ≤ s := HS.out.s0s
      by_cases hlt : s < r
      · have i1 : (s : Int) < (r : Int) := by omega
        obtain ⟨h, hh⟩ : ∃ h : Nat, (s + r) / 2 = h := ⟨_, rfl⟩
        have hhI : ((s : Int) + (r : Int)) / 2 = (h : Int) := by omega
        have hih : s ≤ h := by omega
        have hhj : h < r := by omega
        have hq1 := HP1.out h (by omega) (by omega)
        obtain ⟨q, hq⟩ : ∃ q, p - h = q := ⟨_, rfl⟩
        rw [hq] at hq1
        have hqI : (p : Int) - (h : Int) = (q : Int) := by omega
        have hab := HAB.out
        have hs0 := HS0.out
        have hhn : h < n := by omega
        have hqn : q < n := by omega
        have h0 : (0 : Int) ≤ (h : Int) := by omega
        have h1n : (h : Int) < (n : Int) := by omega
        have q0 : (0 : Int) ≤ (q : Int) := by omega
        have q1 : (q : Int) < (n : Int) := by omega
        have qw : IntKind.i64.wrap (q : Int) = (q : Int) := IntWalk.i64_in _ (by omega)
        have ch := HW.out.1.at_ HN.out h (by rw [← HN.out]; exact hhn)
        have cq := HW.out.1.at_ HN.out q (by rw [← HN.out]; exact hqn)
        have HC : Hid (∀ k, Calls Try.prog 54 #[.int .i64 (nth D q), .int .i64 (nth D h), .pointer (some ⟨kb, 0, none⟩)] (wr.drewN k) fun e w' => e = .returned (.int .i64 (cf (nth D q) (nth D h))) ∧ ∃ q', w' = (wr.drewN k).drewN q') := fun k => HCMP.out (wr.drewN k) D q h (List.Perm.refl _) hqn hhn (HW.out.2.drewN k)
        have HLOW : Hid (¬ key (nth D q) < key (nth D h) → Search key D p s0 r0 (h + 1) r) := fun hk => HS.out.low HPRE.out hih hhj (by omega) (by omega) HP1.out (by rw [hq]; exact hk)
        have HHIGH : Hid (key (nth D q) < key (nth D h) → Search key D p s0 r0 s h) := fun hk => HS.out.high HPRE.out hih hhj (by omega) (by omega) HP1.out (by rw [hq]; exact hk)
        obtain ⟨x, hx⟩ : ∃ x, cf (nth D q) (nth D h) = x := ⟨_, rfl⟩
        rw [hx] at HC
        have HR := Lib.hid hx
        clear hh hx hq hq1 hs0 hab HS
        by_cases hx0 : x < 0
        · have HS2 := Lib.hid (HHIGH.out ((hcf _ _).1 (by rw [HR.out]; exact hx0)))
          have hrb : (decide (x < 0)) = true := by simp; omega
          have hrc : (!decide (x < 0)) = false := by rw [hrb]; rfl
          clear HLOW HHIGH HR
          go_wp2
          go_quiet ((first | (go_at_call 54; exact quiet_drewI (HC.out _))))
          have HW2 := Lib.hid (And.intro (HW.out.1.drewN nq) (HW.out.2.drewN nq))
          clear HC
          go_wp2
          go_roundw
          case rel => exact ⟨s, h, hih, rfl, by go_num, HS2.out, HW2.out⟩
          case measure => simp [intOf]; omega
        · have HS2 := Lib.hid (HLOW.out (fun k => hx0 (by rw [← HR.out]; exact (hcf _ _).2 k)))
          have hrb : (decide (x < 0)) = false := by simp; omega
          have hrc : (!decide (x < 0)) = true := by rw [hrb]; rfl
          clear HLOW HHIGH HR
          go_wp2
          go_quiet ((first | (go_at_call 54; exact quiet_drewI (HC.out _))))
          have HW2 := Lib.hid (And.intro (HW.out.1.drewN nq) (HW.out.2.drewN nq))
          clear HC
          go_wp2
          go_roundw
          case rel => exact ⟨h + 1, r, by omega, by go_num, rfl, HS2.out, HW2.out⟩
          case measure => simp [intOf]; omega
      · have hje : s = r := by omega
        have i1 : ¬ (s : Int) < (r : Int) := by omega
        subst hje
        have HPT := (show Search key D (mid + m - 1) s0 r0 s s by have h := HS.out; rw [HM.out.2.2.1, HM.out.2.1] at h; exact h).parts HPRE.out HAB.out.1 HAB.out.2.1 HM.out.1 H0.out
        obtain ⟨e, he⟩ : ∃ e, e = mid + m - s := ⟨_, rfl⟩
        rw [← he] at HPT
        have hab := HAB.out
        have hm1 := HM.out
        have hs0 := HS0.out
        have heI : (t : Int) - (s : Int) = (e : Int) := by omega
        have HPT2 : Hid (a ≤ s ∧ s ≤ m ∧ s ≤ mid ∧ m ≤ e ∧ e ≤ b ∧ mid = s + (e - m)) := ⟨HPT.1, HPT.2.1, HPT.2.2.1, HPT.2.2.2.1, HPT.2.2.2.2.1, HPT.2.2.2.2.2.1⟩
        have HCR := Lib.hid HPT.2.2.2.2.2.2
        clear HPT he hab hm1 hs0 HS H0 HP1 HS0 hs1 hr1 hlt hsr
        obtain ⟨B1, hB1⟩ : ∃ B : Bool, B = (decide ((s : Int) < (m : Int)) && decide ((m : Int) < (e : Int))) := ⟨_, rfl⟩
        obtain ⟨B2, hB2⟩ : ∃ B : Bool, B = (decide ((a : Int) < (s : Int)) && decide ((s : Int) < (mid : Int))) := ⟨_, rfl⟩
        obtain ⟨B3, hB3⟩ : ∃ B : Bool, B = (decide ((mid : Int) < (e : Int)) && decide ((e : Int) < (b : Int))) := ⟨_, rfl⟩
        have HB1 := Lib.hid hB1
        have HB2 := Lib.hid hB2
        have HB3 := Lib.hid hB3
        clear hB1 hB2 hB3
        have hmn : m ≤ 1048576 := by have := HAB.out; omega
        have hbn : b ≤ 1048576 := by have := HAB.out; omega
        have hem : e ≤ 1048576 := by have := HAB.out; have := HPT2.out; omega
        go_upto_region 39 with fail
        go_cut [185] from 178 to 185 (fun v1 wx => v1 = .bool B1 ∧ wx = wr)
        case first =>
          by_cases h1 : (s : Int) < (m : Int)
          · by_cases h2 : (m : Int) < (e : Int)
            · have hB : Hid (B1 = true) := by show _ = _; rw [HB1.out]; simp [h1, h2]
              have g1 : decide ((s : Int) < (m : Int)) = true := by simp [h1]
              have g2 : decide ((m : Int) < (e : Int)) = true := by simp [h2]
              go_wp2
              go_meet
              exact ⟨by rw [hB.out], rfl⟩
            · have hB : Hid (B1 = false) := by show _ = _; rw [HB1.out]; simp [h1, h2]
              have g1 : decide ((s : Int) < (m : Int)) = true := by simp [h1]
              have g2 : decide ((m : Int) < (e : Int)) = false := by simp [h2]
              go_wp2
              go_meet
              exact ⟨by rw [hB.out], rfl⟩
          · have hB : Hid (B1 = false) := by show _ = _; rw [HB1.out]; simp [h1]
            have g1 : decide ((s : Int) < (m : Int)) = false := by simp [h1]
            go_wp2
            go_meet
            exact ⟨by rw [hB.out], rfl⟩
        case rest =>
        obtain ⟨rfl, rfl⟩ := hcut
        go_upto_if 185 with fail
        go_cut [24] from 178 to 191 (fun v24 wx => v24 = .int .i64 e ∧ RotPost g n c N a b s m e D w0 wx)
        case first =>
          cases B1 with
          | true =>
            have hx : s < m ∧ m < e := by have := HB1.out; simp at this; omega
            have hp := HPT2.out
            have hab := HAB.out
            have HC := Lib.hid (rotate_any g n c s m e N D (.func (.func 54) #[] #[.pointer (some ⟨kb, 0, none⟩)]) wc HW.out.1 HN.out hx.1 hx.2 (by omega) hsz)
            clear hx hp hab
            go_wp2_with fail
            refine HC.out.mono ?_
            rintro _ W1 ⟨rfl, hr⟩
            have HR := Lib.hid hr
            clear hr HC
            go_wp2
            go_meet
            obtain ⟨E, hE, hrot, hseg, hgr⟩ := HR.out
            exact ⟨rfl, E, hE, hrot, hseg.wide HPT2.out.1 HPT2.out.2.2.2.2.1, HW.out.2.row1 hgr⟩
          | false =>
            have HX : Hid (s = m ∨ e = m) := by
              have h : ¬ (s < m ∧ m < e) := by have := HB1.out; simp at this; omega
              have := HPT2.out; show _ ∨ _; omega
            go_wp2
            go_meet
            refine ⟨rfl, D, HW.out.1, ?_, SegSame.refl _ _ _, HW.out.2⟩
            rcases HX.out with h | h
            · exact Rotated.none_l _ h
            · exact Rotated.none_r _ h
        case rest =>
        obtain ⟨rfl, hrot⟩ := hcut
        have HH : Hid (∃ E, OwnI wc N (.slice (some ⟨g, 0, none⟩) n c) E ∧ GrownL [g] w0 wc ∧ SegSame D E a b ∧ MergePre key E a s mid ∧ MergePre key E mid e b ∧ ∀ p q, a ≤ p → p < mid → mid ≤ q → q < b → lexLt key (nth E p) (nth E q)) := by
          obtain ⟨E, hE, hr, hseg, hgr⟩ := hrot
          obtain ⟨x1, x2, x3, x4, x5, x6⟩ := HPT2.out
          exact ⟨E, hE, hgr, hseg, merge_halves HPRE.out hr x1 x2 x4 x5 x6 HCR.out.1 HCR.out.2⟩
        clear hrot HW HPRE HCR HCMP
        obtain ⟨E, HE⟩ := HH.out
        clear HH
        have HE := Lib.hid HE
        go_upto_region 41 with fail
        go_cut [199] from 192 to 199 (fun v1 wx => v1 = .bool B2 ∧ wx = wc)
        case first =>
          by_cases h1 : (a : Int) < (s : Int)
          · by_cases h2 : (s : Int) < (mid : Int)
            · have hB : Hid (B2 = true) := by show _ = _; rw [HB2.out]; simp [h1, h2]
              have g1 : decide ((a : Int) < (s : Int)) = true := by simp [h1]
              have g2 : decide ((s : Int) < (mid : Int)) = true := by simp [h2]
              go_wp2
              go_meet
              exact ⟨by rw [hB.out], rfl⟩
            · have hB : Hid (B2 = false) := by show _ = _; rw [HB2.out]; simp [h1, h2]
              have g1 : decide ((a : Int) < (s : Int)) = true := by simp [h1]
              have g2 : decide ((s : Int) < (mid : Int)) = false := by simp [h2]
              go_wp2
              go_meet
              exact ⟨by rw [hB.out], rfl⟩
          · have hB : Hid (B2 = false) := by show _ = _; rw [HB2.out]; simp [h1]
            have g1 : decide ((a : Int) < (s : Int)) = false := by simp [h1]
            go_wp2
            go_meet
            exact ⟨by rw [hB.out], rfl⟩
        case rest =>
        obtain ⟨rfl, rfl⟩ := hcut
        go_upto_if 199 with fail
        go_cut [24] from 192 to 205 (fun v24 wx => v24 = .int .i64 e ∧ MergePost g n c N a mid key E w0 wx)
        case first =>
          cases B2 with
          | true =>
            have hx : a < s ∧ s < mid := by have := HB2.out; simp at this; omega
            have HC := Lib.hid (HIH.out a s mid E wc (by have := HM.out; omega) HE.out.2.1 HE.out.1 (by rw [HE.out.2.2.1.len]; exact HN.out) (HE.out.2.2.1.perm.trans HPERM.out) hx.1 hx.2 (by have := HM.out; have := HAB.out; omega) HE.out.2.2.2.1)
            clear hx
            go_wp2_with fail
            refine HC.out.mono ?_
            rintro _ W1 ⟨rfl, hr⟩
            have HR := Lib.hid hr
            clear hr HC
            go_wp2
            go_meet
            exact ⟨rfl, HR.out⟩
          | false =>
            have HX : Hid (¬ (a < s ∧ s < mid)) := by have := HB2.out; show ¬ _; simp at this; omega
            go_wp2
            go_meet
            exact ⟨rfl, E, HE.out.1, HE.out.2.2.2.1.bare HPT2.out.1 HPT2.out.2.2.1 HX.out, SegSame.refl _ _ _, HE.out.2.1⟩
        case rest =>
        obtain ⟨rfl, hrot⟩ := hcut
        obtain ⟨F, hF⟩ := hrot
        have HF := Lib.hid hF
        clear hF
        go_upto_region 43 with fail
        go_cut [213] from 206 to 213 (fun v1 wx => v1 = .bool B3 ∧ wx = wc)
        case first =>
          by_cases h1 : (mid : Int) < (e : Int)
          · by_cases h2 : (e : Int) < (b : Int)
            · have hB : Hid (B3 = true) := by show _ = _; rw [HB3.out]; simp [h1, h2]
              have g1 : decide ((mid : Int) < (e : Int)) = true := by simp [h1]
              have g2 : decide ((e : Int) < (b : Int)) = true := by simp [h2]
              go_wp2
              go_meet
              exact ⟨by rw [hB.out], rfl⟩
            · have hB : Hid (B3 = false) := by show _ = _; rw [HB3.out]; simp [h1, h2]
              have g1 : decide ((mid : Int) < (e : Int)) = true := by simp [h1]
              have g2 : decide ((e : Int) < (b : Int)) = false := by simp [h2]
              go_wp2
              go_meet
              exact ⟨by rw [hB.out], rfl⟩
          · have hB : Hid (B3 = false) := by show _ = _; rw [HB3.out]; simp [h1]
            have g1 : decide ((mid : Int) < (e : Int)) = false := by simp [h1]
            go_wp2
            go_meet
            exact ⟨by rw [hB.out], rfl⟩
        case rest =>
        obtain ⟨rfl, rfl⟩ := hcut
        go_upto_if 213 with fail
        have hmb := HM.out
        have HPF := Lib.hid (HE.out.2.2.2.2.1.keep HF.out.2.2.1 (Nat.le_refl _) (by have := HPT2.out; omega) HPT2.out.2.2.2.2.1)
        have HLF : Hid (n = F.length ∧ F.Perm D0) := ⟨by rw [HF.out.2.2.1.len, HE.out.2.2.1.len]; exact HN.out, HF.out.2.2.1.perm.trans (HE.out.2.2.1.perm.trans HPERM.out)⟩
        have HFIN : Hid (∀ W, MergePost g n c N mid b key F w0 W → MergePost g n c N a b key D w0 W) := by
          rintro W ⟨G, hG, hs, hseg, hgr⟩
          obtain ⟨j1, j2⟩ := merge_join HE.out.2.2.1 HF.out.2.2.1 hseg (by omega) (by omega) HF.out.2.1 hs HE.out.2.2.2.2.2
          exact ⟨G, hG, j1, j2, hgr⟩
        clear hmb
        cases B3 with
        | true =>
          have hx : mid < e ∧ e < b := by have := HB3.out; simp at this; omega
          have HC := Lib.hid (HIH.out mid e b F wc (by have := HM.out; omega) HF.out.2.2.2 HF.out.1 HLF.out.1 HLF.out.2 hx.1 hx.2 HAB.out.2.2 HPF.out)
          clear hx
          go_wp2_with fail
          refine HC.out.mono ?_
          rintro _ W1 ⟨rfl, hr⟩
          have HR := Lib.hid (HFIN.out _ hr)
          clear hr HC HFIN
          go_wp2
          go_end0
          exact ⟨rfl, HR.out⟩
        | false =>
          have HX : Hid (¬ (mid < e ∧ e < b)) := by have := HB3.out; show ¬ _; simp at this; omega
          have HR := Lib.hid (HFIN.out wc ⟨F, HF.out.1, HPF.out.bare (by have := HPT2.out; omega) HPT2.out.2.2.2.2.1 HX.out, SegSame.refl _ _ _, HF.out.2.2.2⟩)
          clear HFIN
          go_wp2
          go_end0
          exact ⟨rfl, HR.out⟩

theorem symMerge_any (g n c N kb : Nat) (key : Int → Int) (cf : Int → Int → Int) (hcf : ∀ x y, cf x y < 0 ↔ key x < key y) (D0 : List Int) (w0 : World) (hcmp : CmpOk kb cf g D0 w0) (hsz : n ≤ 1048576) :
    ∀ (L a m b : Nat) (D : List Int) (w : World), b - a ≤ L → GrownL [g] w0 w → OwnI w N (.slice (some ⟨g, 0, none⟩) n c) D → n = D.length → D.Perm D0 → a < m → m < b → b ≤ n → MergePre key D a m b →
    Calls Try.prog 58 #[.slice (some ⟨g, 0, none⟩) n c, .int .i64 a, .int .i64 m, .int .i64 b, .func (.func 54) #[] #[.pointer (some ⟨kb, 0, none⟩)]] w fun e w' => e = .returned (.tuple #[]) ∧ MergePost g n c N a b key D w0 w' := by
  intro L
  induction L with
  | zero => intro a m b D w hL _ _ _ _ h1 h2; omega
  | succ L ih =>
    intro a m b D w hL hg0 ho hn hperm ham hmb hb hpre
    by_cases h1 : m = a + 1
    · exact symMerge_l g n c N kb key cf hcf D0 w0 hcmp hsz a b D w hg0 ho hn hperm hb m h1 hpre hmb
    by_cases h2 : b = m + 1
    · exact symMerge_r g n c N kb key cf hcf D0 w0 hcmp hsz a b D w hg0 ho hn hperm hb m h2 hpre ham h1
    · exact symMerge_m g n c N kb key cf hcf D0 w0 hcmp hsz a m b (fun x y z E W h => ih x y z E W (by omega)) D w hg0 ho hn hperm hb hpre ham hmb h1 h2
end Go.Proofs.Ytcopjdhnmkfkfaa

namespace Go.Proofs.Ytcopjdhnmkfkfaa
open Go.RowKit
set_option linter.unusedVariables false
set_option linter.unusedSimpArgs false

/-- Between the borders it is sorted; across a border the numbers ascend. -/
def Blks (Bd : Nat → Prop) (key : Int → Int) (d : List Int) (n : Nat) : Prop :=
  ∀ p q, p < q → q < n → (∀ c, Bd c → p < c → c ≤ q → nth d p < nth d q) ∧ ((∀ c, Bd c → p < c → c ≤ q → False) → lexLt key (nth d p) (nth d q))
theorem Blks.congr {Bd Bd' : Nat → Prop} {key : Int → Int} {d : List Int} {n : Nat} (h : Blks Bd key d n) (he : ∀ c, 0 < c → c < n → (Bd c ↔ Bd' c)) : Blks Bd' key d n := fun p q h1 h2 =>
  ⟨fun c b c1 c2 => (h p q h1 h2).1 c ((he c (by omega) (by omega)).2 b) c1 c2, fun k => (h p q h1 h2).2 fun c b c1 c2 => k c ((he c (by omega) (by omega)).1 b) c1 c2⟩
theorem Blks.all {key : Int → Int} {d : List Int} {n : Nat} (h : ∀ p q, p < q → q < n → nth d p < nth d q) : Blks (fun _ => True) key d n := fun p q h1 h2 =>
  ⟨fun c _ _ _ => h p q h1 h2, fun k => (k q trivial h1 (Nat.le_refl _)).elim⟩
theorem Blks.sorted {Bd : Nat → Prop} {key : Int → Int} {d : List Int} {n a b : Nat} (h : Blks Bd key d n) (hb : b ≤ n) (hn : ∀ c, a < c → c < b → ¬ Bd c) : SortedOn key d a b := fun i j x y z =>
  (h i j y (by omega)).2 fun c hc c1 c2 => hn c (by omega) (by omega) hc
theorem Blks.asc {Bd : Nat → Prop} {key : Int → Int} {d : List Int} {n a b : Nat} (h : Blks Bd key d n) (hb : b ≤ n) (hn : ∀ c, a < c → c < b → Bd c) : ∀ p q, a ≤ p → p < q → q < b → nth d p < nth d q := fun i j x y z =>
  (h i j y (by omega)).1 j (hn j (by omega) z) y (Nat.le_refl _)
/-- Two blocks beside each other are ready to be merged. -/
theorem Blks.pre {Bd : Nat → Prop} {key : Int → Int} {d : List Int} {n a m b : Nat} (h : Blks Bd key d n) (hb : b ≤ n) (hm : Bd m) (ham : a < m) (hmb : m < b) (hn : ∀ c, a < c → c < b → Bd c → c = m) : MergePre key d a m b :=
  ⟨h.sorted (by omega) fun c c1 c2 hc => by have := hn c c1 (by omega) hc; omega, h.sorted hb fun c c1 c2 hc => by have := hn c (by omega) c2 hc; omega, fun p q p1 p2 q1 q2 _ => (h p q (by omega) (by omega)).1 m hm p2 q1⟩
/-- What lies between two borders is sorted: no border lies between them any more. -/
theorem Blks.merged {Bd : Nat → Prop} {key : Int → Int} {d d' : List Int} {n a b : Nat} (h : Blks Bd key d n) (hs : SegSame d d' a b) (hsort : SortedOn key d' a b) (ha : a = 0 ∨ Bd a) (hb : b = n ∨ Bd b) (hbn : b ≤ n) :
    Blks (fun c => Bd c ∧ ¬ (a < c ∧ c < b)) key d' n := by
  intro p q hpq hqn
  have at_ : ∀ k, k < n → ∃ k', nth d' k = nth d k' ∧ k' < n ∧ (a ≤ k ∧ k < b → a ≤ k' ∧ k' < b) ∧ (¬ (a ≤ k ∧ k < b) → k' = k) := fun k hk => by
    by_cases hin : a ≤ k ∧ k < b
    · obtain ⟨k', x, y, z⟩ := hs.mem k hin.1 hin.2
      exact ⟨k', z, by omega, fun _ => ⟨x, y⟩, fun hh => absurd hin hh⟩
    · exact ⟨k, hs.out k (by omega), hk, fun hh => absurd hh hin, fun _ => rfl⟩
  obtain ⟨p', e1, p1, p2, p3⟩ := at_ p (by omega)
  obtain ⟨q', e2, q1, q2, q3⟩ := at_ q hqn
  rw [e1, e2]
  refine ⟨fun c ⟨hc, hc2⟩ c1 c2 => ?_, fun hno => ?_⟩
  · by_cases hp : a ≤ p ∧ p < b
    · have := p2 hp
      by_cases hq : a ≤ q ∧ q < b
      · have := q2 hq; omega
      · have := q3 hq
        exact (h p' q' (by omega) q1).1 c hc (by omega) (by omega)
    · have := p3 hp
      by_cases hq : a ≤ q ∧ q < b
      · have := q2 hq
        exact (h p' q' (by omega) q1).1 c hc (by omega) (by omega)
      · have := q3 hq
        exact (h p' q' (by omega) q1).1 c hc (by omega) (by omega)
  · by_cases hp : a ≤ p ∧ p < b
    · by_cases hq : a ≤ q ∧ q < b
      · rw [← e1, ← e2]; exact hsort p q hp.1 hpq hq.2
      · rcases hb with hb | hb
        · omega
        · exact (hno b ⟨hb, by omega⟩ hp.2 (by omega)).elim
    · have e3 := p3 hp
      by_cases hq : a ≤ q ∧ q < b
      · rcases ha with ha | ha
        · omega
        · exact (hno a ⟨ha, by omega⟩ (by omega) hq.1).elim
      · have e4 := q3 hq
        rw [e3, e4]
        refine (h p q hpq hqn).2 fun c hc c1 c2 => ?_
        by_cases hin : a < c ∧ c < b
        · rcases ha with ha | ha
          · omega
          · exact hno a ⟨ha, by omega⟩ (by omega) (by omega)
        · exact hno c ⟨hc, hin⟩ c1 c2

/-! The two passes. -/
/-- Blocks of twenty, up to a; behind it every place is a border. -/
def Bd20 (a : Nat) (c : Nat) : Prop := a ≤ c ∨ 20 ∣ c
theorem Bd20.next {key : Int → Int} {d d' : List Int} {n a : Nat} (h : Blks (Bd20 a) key d n) (h20 : 20 ∣ a) (hs : SegSame d d' a (a + 20)) (hsort : SortedOn key d' a (a + 20)) (hbn : a + 20 ≤ n) : Blks (Bd20 (a + 20)) key d' n := by
  refine (h.merged hs hsort (.inr (.inl (Nat.le_refl _))) (.inr (.inl (by omega))) hbn).congr fun c c0 cn => ?_
  unfold Bd20
  constructor
  · rintro ⟨h1 | h1, h2⟩
    · by_cases e : c = a
      · right; rw [e]; exact h20
      · left; omega
    · exact .inr h1
  · rintro (h1 | h1)
    · exact ⟨.inl (by omega), by omega⟩
    · refine ⟨.inr h1, ?_⟩
      obtain ⟨x, rfl⟩ := h1
      obtain ⟨y, rfl⟩ := h20
      omega
theorem Bd20.last {key : Int → Int} {d d' : List Int} {n a : Nat} (h : Blks (Bd20 a) key d n) (h20 : 20 ∣ a) (hs : SegSame d d' a n) (hsort : SortedOn key d' a n) (hbn : a ≤ n) (hend : n < a + 20) : Blks (fun c => 20 ∣ c) key d' n := by
  refine (h.merged hs hsort (.inr (.inl (Nat.le_refl _))) (.inl rfl) (Nat.le_refl _)).congr fun c c0 cn => ?_
  unfold Bd20
  constructor
  · rintro ⟨h1 | h1, h2⟩
    · by_cases e : c = a
      · rw [e]; exact h20
      · omega
    · exact h1
  · intro h1
    refine ⟨.inr h1, ?_⟩
    obtain ⟨x, rfl⟩ := h1
    obtain ⟨y, rfl⟩ := h20
    omega
/-- Blocks of twice the size up to a, of the size behind it. -/
def Bd2 (s a : Nat) (c : Nat) : Prop := s ∣ c ∧ (c ≤ a → 2 * s ∣ c)
theorem bd2_start (s : Nat) (c : Nat) (h : 0 < c) : s ∣ c ↔ Bd2 s 0 c := ⟨fun h' => ⟨h', fun h2 => by omega⟩, fun h' => h'.1⟩
theorem dvd_between {s a c : Nat} (ha : s ∣ a) (hc : s ∣ c) (h1 : a < c) (h2 : c < a + 2 * s) : c = a + s := by
  obtain ⟨x, rfl⟩ := ha
  obtain ⟨y, rfl⟩ := hc
  have e1 : x < y := Nat.lt_of_mul_lt_mul_left (a := s) h1
  have e2 : y < x + 2 := Nat.lt_of_mul_lt_mul_left (a := s) (by rw [Nat.mul_add]; omega)
  obtain rfl : y = x + 1 := by omega
  rw [Nat.mul_add]; omega
theorem not_dvd_mid {s a : Nat} (hs : 0 < s) (ha : 2 * s ∣ a) : ¬ 2 * s ∣ a + s := fun h => by
  have := (Nat.dvd_add_right ha).1 h
  have := Nat.le_of_dvd hs this
  omega
theorem dvd_half {s a : Nat} (h : 2 * s ∣ a) : s ∣ a := Nat.dvd_trans (Nat.dvd_mul_left s 2) h
theorem Bd2.only {s a c : Nat} (ha : 2 * s ∣ a) (h1 : a < c) (h2 : c < a + 2 * s) (h : Bd2 s a c) : c = a + s := dvd_between (dvd_half ha) h.1 h1 h2
theorem Bd2.mid {s a : Nat} (hs : 0 < s) (ha : 2 * s ∣ a) : Bd2 s a (a + s) := ⟨(Nat.dvd_add_right (dvd_half ha)).2 (Nat.dvd_refl _), fun h => by omega⟩
theorem Bd2.at_ {s a : Nat} (ha : 2 * s ∣ a) : Bd2 s a a := ⟨dvd_half ha, fun _ => ha⟩
theorem Bd2.end_ {s a : Nat} (hs : 0 < s) (ha : 2 * s ∣ a) : Bd2 s a (a + 2 * s) := ⟨dvd_half ((Nat.dvd_add_right ha).2 (Nat.dvd_refl _)), fun h => by omega⟩
theorem Bd2.next {key : Int → Int} {d d' : List Int} {n s a : Nat} (h : Blks (Bd2 s a) key d n) (hs0 : 0 < s) (ha : 2 * s ∣ a) (hs : SegSame d d' a (a + 2 * s)) (hsort : SortedOn key d' a (a + 2 * s)) (hbn : a + 2 * s ≤ n) : Blks (Bd2 s (a + 2 * s)) key d' n := by
  refine (h.merged hs hsort (.inr (Bd2.at_ ha)) (.inr (Bd2.end_ hs0 ha)) hbn).congr fun c c0 cn => ?_
  constructor
  · rintro ⟨h1, h2⟩
    refine ⟨h1.1, fun h3 => ?_⟩
    by_cases e : c ≤ a
    · exact h1.2 e
    · obtain rfl : c = a + 2 * s := by omega
      exact (Nat.dvd_add_right ha).2 (Nat.dvd_refl _)
  · rintro ⟨h1, h2⟩
    refine ⟨⟨h1, fun h3 => h2 (by omega)⟩, fun ⟨h3, h4⟩ => ?_⟩
    have := dvd_between (dvd_half ha) h1 h3 h4
    subst this
    exact not_dvd_mid hs0 ha (h2 (by omega))
theorem Bd2.last {key : Int → Int} {d d' : List Int} {n s a : Nat} (h : Blks (Bd2 s a) key d n) (hs0 : 0 < s) (ha : 2 * s ∣ a) (hs : SegSame d d' a n) (hsort : SortedOn key d' a n) (hbn : n < a + 2 * s) : Blks (fun c => 2 * s ∣ c) key d' n := by
  refine (h.merged hs hsort (.inr (Bd2.at_ ha)) (.inl rfl) (Nat.le_refl _)).congr fun c c0 cn => ?_
  constructor
  · rintro ⟨h1, h2⟩
    exact h1.2 (by omega)
  · intro h1
    refine ⟨⟨dvd_half h1, fun _ => h1⟩, fun ⟨h3, h4⟩ => ?_⟩
    have := dvd_between (dvd_half ha) (dvd_half h1) h3 (by omega)
    subst this
    exact not_dvd_mid hs0 ha h1
theorem blks_end {key : Int → Int} {d : List Int} {n s : Nat} (h : Blks (fun c => s ∣ c) key d n) (hs : n ≤ s) : SortedOn key d 0 n :=
  h.sorted (Nat.le_refl _) fun c c1 c2 hc => by have := Nat.le_of_dvd c1 hc; omega
end Go.Proofs.Ytcopjdhnmkfkfaa

namespace Go.Proofs.Ytcopjdhnmkfkfaa
open Go.RowKit
set_option linter.unusedVariables false
set_option linter.unusedSimpArgs false

/-- The rounds of the first pass. -/
def Pass1 (g n c N : Nat) (key : Int → Int) (D0 : List Int) (w0 : World) (va vb : Value) (wr : World) : Prop :=
  ∃ (a b : Nat) (E : List Int), va = .int .i64 a ∧ vb = .int .i64 b ∧ Hid (b = a + 20 ∧ 20 ∣ a ∧ a ≤ n) ∧ Hid (OwnI wr N (.slice (some ⟨g, 0, none⟩) n c) E ∧ GrownL [g] w0 wr) ∧ Hid (Blks (Bd20 a) key E n ∧ E.Perm D0 ∧ n = E.length)
/-- The rounds of the second. -/
def Pass2 (g n c N : Nat) (key : Int → Int) (D0 : List Int) (w0 : World) (vs : Value) (wr : World) : Prop :=
  ∃ (s : Nat) (E : List Int), vs = .int .i64 s ∧ 1 ≤ s ∧ s ≤ 2097152 ∧ Hid (OwnI wr N (.slice (some ⟨g, 0, none⟩) n c) E ∧ GrownL [g] w0 wr) ∧ Hid (Blks (fun c => s ∣ c) key E n ∧ E.Perm D0 ∧ n = E.length)
def Pass3 (g n c N s : Nat) (key : Int → Int) (D0 : List Int) (w0 : World) (va vb : Value) (wr : World) : Prop :=
  ∃ (a b : Nat) (E : List Int), va = .int .i64 a ∧ vb = .int .i64 b ∧ Hid (b = a + 2 * s ∧ 2 * s ∣ a ∧ a ≤ n) ∧ Hid (OwnI wr N (.slice (some ⟨g, 0, none⟩) n c) E ∧ GrownL [g] w0 wr) ∧ Hid (Blks (Bd2 s a) key E n ∧ E.Perm D0 ∧ n = E.length)
/-- What the sort leaves behind. -/
def SortPost (g n c N : Nat) (key : Int → Int) (D0 : List Int) (w0 w' : World) : Prop :=
  ∃ E, OwnI w' N (.slice (some ⟨g, 0, none⟩) n c) E ∧ SortedOn key E 0 n ∧ E.Perm D0 ∧ GrownL [g] w0 w'

set_option maxRecDepth 100000 in
set_option maxHeartbeats 4000000 in
theorem stable_any (g n c N kb : Nat) (key : Int → Int) (cf : Int → Int → Int) (hcf : ∀ x y, cf x y < 0 ↔ key x < key y) (D0 : List Int) (w0 : World) (hcmp : CmpOk kb cf g D0 w0) (hsz : n ≤ 1048576)
    (D : List Int) (w : World) (hg0 : GrownL [g] w0 w) (ho : OwnI w N (.slice (some ⟨g, 0, none⟩) n c) D) (hn : n = D.length) (hperm : D.Perm D0) (hasc : ∀ p q, p < q → q < n → nth D p < nth D q) :
    Calls Try.prog 55 #[.slice (some ⟨g, 0, none⟩) n c, .int .i64 n, .func (.func 54) #[] #[.pointer (some ⟨kb, 0, none⟩)]] w fun e w' => e = .returned (.tuple #[]) ∧ SortPost g n c N key D0 w0 w' := by
  have HINS : Hid (∀ (a b : Nat) (E : List Int) (W : World), GrownL [g] w0 W → OwnI W N (.slice (some ⟨g, 0, none⟩) n c) E → n = E.length → E.Perm D0 → a ≤ b → b ≤ n → (∀ p q, a ≤ p → p < q → q < b → nth E p < nth E q) →
      Calls Try.prog 57 #[.slice (some ⟨g, 0, none⟩) n c, .int .i64 a, .int .i64 b, .func (.func 54) #[] #[.pointer (some ⟨kb, 0, none⟩)]] W fun e w' => e = .returned (.tuple #[]) ∧ MergePost g n c N a b key E w0 w') := fun a b E W h1 h2 h3 h4 h5 h6 h7 =>
    insertion_any g n c a b N kb key cf hcf D0 E w0 W h1 h2 h3 h4 hcmp h5 h6 hsz h7
  have HSYM : Hid (∀ (a m b : Nat) (E : List Int) (W : World), GrownL [g] w0 W → OwnI W N (.slice (some ⟨g, 0, none⟩) n c) E → n = E.length → E.Perm D0 → a < m → m < b → b ≤ n → MergePre key E a m b →
      Calls Try.prog 58 #[.slice (some ⟨g, 0, none⟩) n c, .int .i64 a, .int .i64 m, .int .i64 b, .func (.func 54) #[] #[.pointer (some ⟨kb, 0, none⟩)]] W fun e w' => e = .returned (.tuple #[]) ∧ MergePost g n c N a b key E w0 w') := fun a m b E W h1 h2 h3 h4 h5 h6 h7 h8 =>
    symMerge_any g n c N kb key cf hcf D0 w0 hcmp hsz (b - a) a m b E W (Nat.le_refl _) h1 h2 h3 h4 h5 h6 h7 h8
  have HO := Lib.hid ho
  have HG := Lib.hid hg0
  have HD : Hid (Blks (Bd20 0) key D n ∧ D.Perm D0 ∧ n = D.length) := ⟨(Blks.all hasc).congr fun c _ _ => ⟨fun _ => .inl (Nat.zero_le _), fun _ => trivial⟩, hperm, hn⟩
  clear ho hg0 hn hperm hcmp hasc
  go_enter Try.func55, Try.ntmps55
  go_wp2
  go_loopw [7, 8] (fun va vb wr => Pass1 g n c N key D0 w0 va vb wr) (fun va vb _ => n + 1 - (intOf vb).toNat)
  case atStart => exact ⟨0, 20, D, rfl, rfl, ⟨rfl, Nat.dvd_zero _, Nat.zero_le _⟩, ⟨HO.out, HG.out⟩, HD.out⟩
  case round =>
    obtain ⟨a, b, E, rfl, rfl, HA, HE, HB⟩ := hrel
    clear HO HG HD
    have hb0 : 20 ≤ b ∧ b ≤ n + 20 ∧ a ≤ n := by have := HA.out; omega
    by_cases hbn : b ≤ n
    · have i1 : (b : Int) ≤ (n : Int) := by omega
      have HC := Lib.hid (HINS.out a b E wr HE.out.2 HE.out.1 HB.out.2.2 HB.out.2.1 (by have := HA.out; omega) hbn (HB.out.1.asc hbn fun c c1 c2 => .inl (by omega)))
      go_wp2_with fail
      refine HC.out.mono ?_
      rintro _ W1 ⟨rfl, hr⟩
      have HR : Hid (∃ F, (OwnI W1 N (.slice (some ⟨g, 0, none⟩) n c) F ∧ GrownL [g] w0 W1) ∧ Blks (Bd20 b) key F n ∧ F.Perm D0 ∧ n = F.length) := by
        obtain ⟨F, hF, hs, hseg, hgr⟩ := hr
        obtain ⟨e1, e2, e3⟩ := HA.out
        rw [e1] at hs hseg ⊢
        exact ⟨F, ⟨hF, hgr⟩, Bd20.next HB.out.1 e2 hseg hs (by omega), hseg.perm.trans HB.out.2.1, HB.out.2.2.trans hseg.len.symm⟩
      clear hr HC
      go_wp2
      go_roundw
      case rel =>
        obtain ⟨F, hF, hB⟩ := HR.out
        have hA := HA.out
        refine ⟨b, b + 20, F, rfl, by go_num, ⟨rfl, ?_, hbn⟩, hF, hB⟩
        rw [hA.1]; exact (Nat.dvd_add_right hA.2.1).2 (Nat.dvd_refl _)
      case measure => simp [intOf]; omega
    · have i1 : ¬ (b : Int) ≤ (n : Int) := by omega
      have HC := Lib.hid (HINS.out a n E wr HE.out.2 HE.out.1 HB.out.2.2 HB.out.2.1 hb0.2.2 (Nat.le_refl _) (HB.out.1.asc (Nat.le_refl _) fun c c1 c2 => .inl (by omega)))
      go_wp2_with fail
      refine HC.out.mono ?_
      rintro _ W1 ⟨rfl, hr⟩
      have HR : Hid (∃ F, (OwnI W1 N (.slice (some ⟨g, 0, none⟩) n c) F ∧ GrownL [g] w0 W1) ∧ Blks (fun c => 20 ∣ c) key F n ∧ F.Perm D0 ∧ n = F.length) := by
        obtain ⟨F, hF, hs, hseg, hgr⟩ := hr
        obtain ⟨e1, e2, e3⟩ := HA.out
        exact ⟨F, ⟨hF, hgr⟩, Bd20.last HB.out.1 e2 hseg hs e3 (by omega), hseg.perm.trans HB.out.2.1, HB.out.2.2.trans hseg.len.symm⟩
      clear hr HC HE HB HINS HA hb0 hbn
      go_wp2
      go_loopw [6] (fun vs wr => Pass2 g n c N key D0 w0 vs wr) (fun vs _ => n - (intOf vs).toNat)
      case atStart =>
        obtain ⟨F, hF, hB⟩ := HR.out
        exact ⟨20, F, rfl, by omega, by omega, hF, hB⟩
      case round =>
        obtain ⟨s, E, rfl, hs1, hs2, HE, HB⟩ := hrel
        clear HR
        by_cases hsn : s < n
        · have j1 : (s : Int) < (n : Int) := by omega
          obtain ⟨d, hd⟩ : ∃ d, d = 2 * s := ⟨_, rfl⟩
          have hdI : 2 * (s : Int) = (d : Int) := by omega
          have hdJ : (s : Int) * 2 = (d : Int) := by omega
          have hd2 : d ≤ 2097152 := by omega
          have hd0 : 1 ≤ d := by omega
          have HD := Lib.hid hd
          clear hd
          go_wp2
          go_loopw [7, 8] (fun va vb wr => Pass3 g n c N s key D0 w0 va vb wr) (fun va vb _ => n + 1 - (intOf vb).toNat)
          case atStart =>
            refine ⟨0, d, E, rfl, rfl, ⟨by rw [HD.out, Nat.zero_add], Nat.dvd_zero _, Nat.zero_le _⟩, HE.out, HB.out.1.congr fun c c1 _ => bd2_start s c c1, HB.out.2⟩
          case round =>
            obtain ⟨a, b, F, rfl, rfl, HA, HF, HBF⟩ := hrel
            clear HE HB
            have hb0 : d ≤ b ∧ b ≤ n + d ∧ a ≤ n ∧ b = a + d ∧ d = 2 * s := by have := HA.out; have := HD.out; omega
            obtain ⟨m, hm⟩ : ∃ m, m = a + s := ⟨_, rfl⟩
            have hmI : (a : Int) + (s : Int) = (m : Int) := by omega
            have hmb : m ≤ 4194304 := by omega
            by_cases hbn : b ≤ n
            · have k1 : (b : Int) ≤ (n : Int) := by omega
              have HC := Lib.hid (HSYM.out a m b F wr HF.out.2 HF.out.1 HBF.out.2.2 HBF.out.2.1 (by omega) (by omega) hbn (HBF.out.1.pre hbn (by rw [hm]; exact Bd2.mid hs1 HA.out.2.1) (by omega) (by omega) fun c c1 c2 hc => by rw [hm]; exact Bd2.only HA.out.2.1 c1 (by rw [← HA.out.1]; exact c2) hc))
              have HM := Lib.hid hm
              have HB0 := Lib.hid hb0
              clear hm hb0
              go_wp2_with fail
              refine HC.out.mono ?_
              rintro _ W1 ⟨rfl, hr⟩
              have HR : Hid (∃ G, (OwnI W1 N (.slice (some ⟨g, 0, none⟩) n c) G ∧ GrownL [g] w0 W1) ∧ Blks (Bd2 s b) key G n ∧ G.Perm D0 ∧ n = G.length) := by
                obtain ⟨G, hG, hs, hseg, hgr⟩ := hr
                obtain ⟨e1, e2, e3⟩ := HA.out
                rw [e1] at hs hseg ⊢
                exact ⟨G, ⟨hG, hgr⟩, Bd2.next HBF.out.1 hs1 e2 hseg hs (by omega), hseg.perm.trans HBF.out.2.1, HBF.out.2.2.trans hseg.len.symm⟩
              clear hr HC
              go_wp2
              go_roundw
              case rel =>
                obtain ⟨G, hG, hB⟩ := HR.out
                have hA := HA.out
                have h0 := HB0.out
                refine ⟨b, b + d, G, rfl, by go_num, ⟨by rw [h0.2.2.2.2], ?_, hbn⟩, hG, hB⟩
                rw [hA.1]; exact (Nat.dvd_add_right hA.2.1).2 (Nat.dvd_refl _)
              case measure => have := HB0.out; simp [intOf]; omega
            · have k1 : ¬ (b : Int) ≤ (n : Int) := by omega
              by_cases hmn : m < n
              · have l1 : (m : Int) < (n : Int) := by omega
                have HC := Lib.hid (HSYM.out a m n F wr HF.out.2 HF.out.1 HBF.out.2.2 HBF.out.2.1 (by omega) hmn (Nat.le_refl _) (HBF.out.1.pre (Nat.le_refl _) (by rw [hm]; exact Bd2.mid hs1 HA.out.2.1) (by omega) hmn fun c c1 c2 hc => by rw [hm]; exact Bd2.only HA.out.2.1 c1 (by rw [← HA.out.1]; omega) hc))
                have HM := Lib.hid hm
                have HB0 := Lib.hid hb0
                clear hm hb0
                go_wp2_with fail
                refine HC.out.mono ?_
                rintro _ W1 ⟨rfl, hr⟩
                have HR : Hid (∃ G, (OwnI W1 N (.slice (some ⟨g, 0, none⟩) n c) G ∧ GrownL [g] w0 W1) ∧ Blks (fun c => d ∣ c) key G n ∧ G.Perm D0 ∧ n = G.length) := by
                  obtain ⟨G, hG, hs, hseg, hgr⟩ := hr
                  obtain ⟨e1, e2, e3⟩ := HA.out
                  rw [HD.out]
                  exact ⟨G, ⟨hG, hgr⟩, Bd2.last HBF.out.1 hs1 e2 hseg hs (by omega), hseg.perm.trans HBF.out.2.1, HBF.out.2.2.trans hseg.len.symm⟩
                clear hr HC
                go_wp2
                go_roundw
                case rel =>
                  obtain ⟨G, hG, hB⟩ := HR.out
                  exact ⟨d, G, rfl, hd0, hd2, hG, hB⟩
                case measure => have := HB0.out; simp [intOf]; omega
              · have l1 : ¬ (m : Int) < (n : Int) := by omega
                have HR : Hid (Blks (fun c => d ∣ c) key F n) := by
                  obtain ⟨e1, e2, e3⟩ := HA.out
                  rw [HD.out]
                  exact Bd2.last HBF.out.1 hs1 e2 (SegSame.refl _ _ _) (HBF.out.1.sorted (Nat.le_refl _) fun c c1 c2 hc => by have := Bd2.only e2 c1 (by omega) hc; omega) (by omega)
                have HM := Lib.hid hm
                have HB0 := Lib.hid hb0
                clear hm hb0
                go_wp2
                go_roundw
                case rel => exact ⟨d, F, rfl, hd0, hd2, HF.out, HR.out, HBF.out.2⟩
                case measure => have := HB0.out; simp [intOf]; omega
        · have j1 : ¬ (s : Int) < (n : Int) := by omega
          have HFIN : Hid (SortPost g n c N key D0 w0 wr) := ⟨E, HE.out.1, blks_end HB.out.1 (by omega), HB.out.2.1, HE.out.2⟩
          clear HE HB
          go_wp2
          go_end0
          exact ⟨rfl, HFIN.out⟩
end Go.Proofs.Ytcopjdhnmkfkfaa

namespace Go.Proofs.Ytcopjdhnmkfkfaa
open Go.RowKit
set_option linter.unusedVariables false
set_option linter.unusedSimpArgs false

/-- 0, 1, .. n - 1. -/
def idL (n : Nat) : List Int := (List.range n).map fun (i : Nat) => (i : Int)
theorem idL_length (n : Nat) : (idL n).length = n := by simp [idL]
theorem idL_succ (n : Nat) : idL (n + 1) = idL n ++ [(n : Int)] := by unfold idL; rw [List.range_succ, List.map_append]; rfl
theorem idL_get {n i : Nat} (h : i < n) : nth (idL n) i = (i : Int) := by
  rw [nth_eq (by rw [idL_length]; exact h)]; simp [idL]

theorem counting_any (n : Nat) (w : World) (hn : n ≤ 1048576) :
    Calls Try.prog 47 #[.int .i64 n] w fun e w' => (∃ g c, e = .returned (.slice (some ⟨g, 0, none⟩) n c) ∧ OwnI w' w.heap.size (.slice (some ⟨g, 0, none⟩) n c) (idL n)) ∧ Below w.heap.size w w' := by
  have HA0 : Hid (OwnI (w.alloc (.cells #[] 2)) w.heap.size (.slice (some ⟨w.heap.size, 0, none⟩) 0 0) (idL 0)) := OwnI.lit w w.heap.size [] (Nat.le_refl _) (Nat.zero_le _)
  have HB0 : Hid (Below w.heap.size w (w.alloc (.cells #[] 2))) := (Below.refl _ w).alloc (Nat.le_refl _) _
  go_enter Try.func47, Try.ntmps47
  go_wp2
  go_loopw [3, 4, 7] (fun v _ i wr => ∃ (k g c : Nat), k ≤ n ∧ i = .int .i64 k ∧ v = .slice (some ⟨g, 0, none⟩) k c ∧ OwnI wr w.heap.size (.slice (some ⟨g, 0, none⟩) k c) (idL k) ∧ Below w.heap.size w wr) (fun _ _ i _ => n - (intOf i).toNat)
  case atStart => exact ⟨0, w.heap.size, 0, Nat.zero_le _, rfl, rfl, HA0.out, HB0.out⟩
  case round =>
    obtain ⟨k, g, c, hk, rfl, rfl, ho, hb⟩ := hrel
    have hws := hb.size
    have HO := Lib.hid ho
    have HB := Lib.hid hb
    clear ho hb HA0 HB0
    by_cases hlt : k < n
    · have HLK := Lib.hid (idL_length k)
      go_wp2_with (at_builtin; refine append_i64 rfl _ _ rfl w.heap.size (.slice (some ⟨g, 0, none⟩) k c) (idL k) [(k : Int)] (by simp) rfl _ rfl HO.out hws (by rw [HLK.out]; simp; omega) ?_; intro g1 c1 w3 ho3 hg3; have hb3 := Below.app HB.out HO.out hg3 hws; have HO3 := Lib.hid ho3; have HB3 := Lib.hid hb3; clear ho3 hb3 hg3)
      go_roundw
      case rel => exact ⟨k + 1, g1, c1, by omega, by go_num, (by simp [idL_length]), by rw [idL_succ]; have := HO3.out; rw [HLK.out] at this; exact this, HB3.out⟩
      case measure => simp [intOf]; omega
    · obtain rfl : k = n := by omega
      clear hlt
      go_wp2
      go_ret
      exact ⟨⟨g, c, rfl, HO.out⟩, HB.out⟩
end Go.Proofs.Ytcopjdhnmkfkfaa

namespace Go.Proofs.Ytcopjdhnmkfkfaa
open Go.RowKit
set_option linter.unusedVariables false
set_option linter.unusedSimpArgs false

/-- -1, 0 or 1. -/
def cmpI (x y : Int) : Int := if x < y then -1 else if y < x then 1 else 0
theorem cmpI_neg (x y : Int) : cmpI x y < 0 ↔ x < y := by unfold cmpI; split <;> (try split) <;> omega

set_option maxRecDepth 100000 in
theorem compare_any (x y : Int) (w : World) : Calls Try.prog 50 #[.int .i64 x, .int .i64 y] w fun e w' => e = .returned (.int .i64 (cmpI x y)) ∧ w = w' := by
  have hN : Hid (∀ z, Calls Try.prog 56 #[.int .i64 z] w fun e w' => e = .returned (.bool false) ∧ w = w') := by
    intro z
    go_enter Try.func56, Try.ntmps56
    go_wp2
    go_ret
    trivial
  go_enter Try.func50, Try.ntmps50
  by_cases h1 : x < y
  · have e1 : Hid (cmpI x y = -1) := by show _ = _; unfold cmpI; rw [if_pos h1]
    go_wp2_with (go_at_call 56; refine (hN.out _).mono ?_; rintro e w' ⟨rfl, rfl⟩)
    go_ret
    exact ⟨ret_int e1.out.symm, rfl⟩
  · by_cases h2 : x > y
    · have e1 : Hid (cmpI x y = 1) := by show _ = _; unfold cmpI; rw [if_neg h1, if_pos h2]
      go_wp2_with (go_at_call 56; refine (hN.out _).mono ?_; rintro e w' ⟨rfl, rfl⟩)
      go_ret
      exact ⟨ret_int e1.out.symm, rfl⟩
    · have e1 : Hid (cmpI x y = 0) := by show _ = _; unfold cmpI; rw [if_neg h1, if_neg h2]
      go_wp2_with (go_at_call 56; refine (hN.out _).mono ?_; rintro e w' ⟨rfl, rfl⟩)
      go_ret
      exact ⟨ret_int e1.out.symm, rfl⟩

/-- What is asked of a key: it only reads. -/
def KeyAt (kf : Nat) (cap : Array Value) (key : Int → Int) (x : Int) (W : World) : Prop :=
  Calls Try.prog kf (#[.int .i64 x] ++ cap) W fun e w' => e = .returned (.int .i64 (key x)) ∧ ∃ q, w' = W.drewN q

set_option maxRecDepth 100000 in
theorem cmpBy_any (kb kf : Nat) (cap : Array Value) (key : Int → Int) (x y : Int) (W : World) (hb : Boxed W kb 47 (.func (.func kf) #[] cap)) (hx : ∀ q, KeyAt kf cap key x (W.drewN q)) (hy : ∀ q, KeyAt kf cap key y (W.drewN q))
    (heg : ∀ args w, (callFunc kf args).run Try.prog w = .ok (.enter kf args) w) :
    Calls Try.prog 54 #[.int .i64 x, .int .i64 y, .pointer (some ⟨kb, 0, none⟩)] W fun e w' => e = .returned (.int .i64 (cmpI (key x) (key y))) ∧ ∃ q, w' = W.drewN q := by
  have HX := Lib.hid hx
  have HY := Lib.hid hy
  have hbc := hb.cell
  clear hx hy hb
  go_enter Try.func54, Try.ntmps54
  go_wp2
  go_quiet ((first | exact quiet_drewI (HX.out _) | exact quiet_drewI (HY.out _) | (go_at_call 50; exact quiet_eq (compare_any _ _ _))))
  go_wp2
  go_ret
  exact ⟨rfl, _, rfl⟩

/-- Sorted by the key, equal ones in their order. -/
def SortsBy (key : Int → Int) (n : Nat) (E : List Int) : Prop := E.Perm (idL n) ∧ SortedOn key E 0 n
theorem idL_mem {n : Nat} {x : Int} : x ∈ idL n ↔ 0 ≤ x ∧ x < n := by
  unfold idL
  rw [List.mem_map]
  constructor
  · rintro ⟨i, hi, rfl⟩
    have := List.mem_range.1 hi
    omega
  · intro h
    exact ⟨x.toNat, List.mem_range.2 (by omega), by omega⟩

theorem sortStable_any (g n c N kb : Nat) (key : Int → Int) (cf : Int → Int → Int) (hcf : ∀ x y, cf x y < 0 ↔ key x < key y) (D0 : List Int) (w0 : World) (hcmp : CmpOk kb cf g D0 w0) (hsz : n ≤ 1048576)
    (w : World) (hg0 : GrownL [g] w0 w) (ho : OwnI w N (.slice (some ⟨g, 0, none⟩) n c) D0) (hn : n = D0.length) (hasc : ∀ p q, p < q → q < n → nth D0 p < nth D0 q) :
    Calls Try.prog 48 #[.slice (some ⟨g, 0, none⟩) n c, .func (.func 54) #[] #[.pointer (some ⟨kb, 0, none⟩)]] w fun e w' => e = .returned (.tuple #[]) ∧ SortPost g n c N key D0 w0 w' := by
  have HC := Lib.hid (stable_any g n c N kb key cf hcf D0 w0 hcmp hsz D0 w hg0 ho hn (List.Perm.refl _) hasc)
  clear hcmp ho hg0 hasc hn
  go_enter Try.func48, Try.ntmps48
  go_wp2_with fail
  refine HC.out.mono ?_
  rintro _ W1 ⟨rfl, hr⟩
  have HR := Lib.hid hr
  clear hr HC
  go_wp2
  go_end0
  exact ⟨rfl, HR.out⟩

set_option maxRecDepth 100000 in
set_option maxHeartbeats 2000000 in
theorem sortedBy_any (n kf : Nat) (cap : Array Value) (key : Int → Int) (w : World) (hn : n ≤ 1048576) (hkey : ∀ W (x : Int), 0 ≤ x → x < n → Below w.heap.size w W → KeyAt kf cap key x W)
    (heg : ∀ args w, (callFunc kf args).run Try.prog w = .ok (.enter kf args) w) :
    Calls Try.prog 43 #[.int .i64 n, .func (.func kf) #[] cap] w fun e w' => (∃ g c E, e = .returned (.slice (some ⟨g, 0, none⟩) n c) ∧ OwnI w' w.heap.size (.slice (some ⟨g, 0, none⟩) n c) E ∧ n = E.length ∧ SortsBy key n E) ∧ Below w.heap.size w w' := by
  have HKEY := Lib.hid hkey
  clear hkey
  obtain ⟨W0, hW0⟩ : ∃ W, w.alloc (.cells #[.func (.func kf) #[] cap] 47) = W := ⟨_, rfl⟩
  have HB0 : Hid (Below w.heap.size w W0) := by show Below _ _ _; rw [← hW0]; exact (Below.refl _ w).alloc (Nat.le_refl _) _
  have HBX : Hid (Boxed W0 w.heap.size 47 (.func (.func kf) #[] cap)) := by show Boxed _ _ _ _; rw [← hW0]; exact Boxed.new _ _ _
  have HSZ : Hid (W0.heap.size = w.heap.size + 1) := by show _ = _; rw [← hW0]; simp
  have HCNT := Lib.hid (counting_any n W0 hn)
  go_enter Try.func43, Try.ntmps43
  go_wp2_with fail
  refine HCNT.out.mono ?_
  rintro e W1 ⟨⟨g, c, rfl, ho⟩, hb⟩
  have hgb : w.heap.size ≠ g ∧ W0.heap.size ≤ g := by
    rcases ho.2 with ⟨h1, _⟩ | ⟨g', cap', cur, h1, h2, _⟩
    · cases h1
    · obtain ⟨rfl⟩ : g = g' := by simp at h1; exact h1.1
      have := HSZ.out
      omega
  have hs1 := hb.size
  have HBX1 : Hid (Boxed W1 w.heap.size 47 (.func (.func kf) #[] cap)) := (hb.block _ (by have := HSZ.out; omega)).trans HBX.out
  have HB1 : Hid (Below w.heap.size w W1) := HB0.out.trans (hb.mono (by have := HSZ.out; omega))
  have HC := Lib.hid (sortStable_any g n c W0.heap.size w.heap.size key (fun x y => cmpI (key x) (key y)) (fun x y => cmpI_neg _ _) (idL n) W1 (by
    intro W x y hx hy hW
    have hx1 := idL_mem.1 hx
    have hy1 := idL_mem.1 hy
    have hbW : ∀ q, Below w.heap.size w (W.drewN q) := fun q => (hW.drewN q).toBelow HB1.out (by have := HSZ.out; omega) (fun i hi => by simp; have := HSZ.out; omega)
    exact cmpBy_any w.heap.size kf cap key x y W (hW.boxed HBX1.out (by simp; exact hgb.1)) (fun q => HKEY.out _ x hx1.1 hx1.2 (hbW q)) (fun q => HKEY.out _ y hy1.1 hy1.2 (hbW q)) heg) hn W1 (GrownL.refl _ _) ho (idL_length n).symm (fun p q h1 h2 => by rw [idL_get (by omega), idL_get h2]; omega))
  have HGB := Lib.hid hgb
  clear ho hb hgb hs1 HCNT hW0 HKEY
  go_wp2_with fail
  refine HC.out.mono ?_
  rintro _ W2 ⟨rfl, hr⟩
  have HR : Hid ((∃ E, OwnI W2 w.heap.size (.slice (some ⟨g, 0, none⟩) n c) E ∧ n = E.length ∧ SortsBy key n E) ∧ Below w.heap.size w W2) := by
    obtain ⟨E, hE, hs, hp, hg⟩ := hr
    refine ⟨⟨E, hE.mono (by have := HSZ.out; omega), by rw [hp.length_eq, idL_length], hp, hs⟩, hg.toBelow HB1.out (by have := HB1.out.size; omega) (fun i hi => by simp; have := HGB.out; have := HSZ.out; omega)⟩
  clear hr HC
  go_wp2
  go_ret
  obtain ⟨⟨E, h1, h2, h3⟩, h4⟩ := HR.out
  exact ⟨⟨g, c, E, rfl, h1, h2, h3⟩, h4⟩
end Go.Proofs.Ytcopjdhnmkfkfaa
