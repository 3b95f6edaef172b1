
/- slices.SortStableFunc on integers: its merge in place: one element on the right. Conditions: at most 2^20 elements. -/
import Derived.Test.YtnpfninkopffmaaSortML
namespace Go.Proofs.Ytnpfninkopffmaa
open Go.RowKit
set_option linter.unusedVariables false
set_option linter.unusedSimpArgs false

/-- The rounds of the search on the right. -/
def SrchR (g n c N a m : Nat) (key : Int → Int) (D : List Int) (w0 : World) (vi vj : Value) (wr : World) : Prop :=
  ∃ (i j : Nat), a ≤ i ∧ i ≤ j ∧ j ≤ m ∧ vi = .int .i64 i ∧ vj = .int .i64 j ∧ Hid ((∀ c, a ≤ c → c < i → key (nth D c) ≤ key (nth D m)) ∧ (∀ c, j ≤ c → c < m → key (nth D m) < key (nth D c))) ∧ Hid (OwnI wr N (.slice (some ⟨g, 0, none⟩) n c) D ∧ GrownL [g] w0 wr)
/-- The rounds of the move on the right. -/
def MoveR (g n c N a m l b : Nat) (D : List Int) (w0 : World) (vk : Value) (wi : World) : Prop :=
  ∃ (k : Nat) (E : List Int), l ≤ k ∧ k ≤ m ∧ vk = .int .i64 k ∧ Hid (OwnI wi N (.slice (some ⟨g, 0, none⟩) n c) E ∧ GrownL [g] w0 wi) ∧ Hid (Rotated D E k m (m + 1) ∧ SegSame D E a b ∧ E.length = n)

set_option maxRecDepth 100000 in
set_option maxHeartbeats 4000000 in
theorem symMerge_r (g n c N kb : Nat) (key : Int → Int) (cf : Int → Int → Int) (hcf : ∀ x y, cf x y < 0 ↔ key x < key y) (D0 : List Int) (w0 : World) (hcmp : CmpOk kb cf g D0 w0) (hsz : n ≤ 1048576) (a b : Nat) (D : List Int) (w : World) (hg0 : GrownL [g] w0 w) (ho : OwnI w N (.slice (some ⟨g, 0, none⟩) n c) D) (hn : n = D.length) (hperm : D.Perm D0) (hb : b ≤ n) (m : Nat) (hm : b = m + 1) (hpre : MergePre key D a m b) (ham : a < m) (hne : m ≠ a + 1) :
    Calls Try.prog 145 #[.slice (some ⟨g, 0, none⟩) n c, .int .i64 a, .int .i64 m, .int .i64 b, .func (.func 106) #[] #[.pointer (some ⟨kb, 0, none⟩)]] w fun e w' => e = .returned (.tuple #[]) ∧ MergePost g n c N a b key D w0 w' := by
  have HCMP := cmp_hid hcmp hn hperm
  have m1 : ((m : Int) - (a : Int) == 1) = false := by rw [beq_eq_false_iff_ne]; omega
  have m2 : (b : Int) - (m : Int) = 1 := by omega
  rw [hm] at hpre
  have HO := Lib.hid ho
  have HG := Lib.hid hg0
  have HN := Lib.hid hn
  have HPRE := Lib.hid hpre
  clear ho hg0 hn hpre hperm hcmp hm hne
  go_enter Try.func145, Try.ntmps145
  go_wp2
  go_loopw [14, 15] (fun vi vj wr => SrchR g n c N a m key D w0 vi vj wr) (fun vi vj _ => (intOf vj).toNat - (intOf vi).toNat)
  case atStart => exact ⟨a, m, Nat.le_refl _, by omega, Nat.le_refl _, rfl, rfl, ⟨fun c h1 h2 => by omega, fun c h1 h2 => by omega⟩, HO.out, HG.out⟩
  case round =>
    obtain ⟨i, j, hmi, hij, hjb, rfl, rfl, HS, HW⟩ := hrel
    by_cases hlt : i < j
    · have i1 : (i : Int) < (j : Int) := by omega
      obtain ⟨h, hh⟩ : ∃ h : Nat, (i + j) / 2 = h := ⟨_, rfl⟩
      have hhi : ((i : Int) + (j : Int)) / 2 = (h : Int) := by omega
      have hih : i ≤ h := by omega
      have hhj : h < j := by omega
      have hhn : h < n := by omega
      have hmn : m < n := by omega
      have h0 : (0 : Int) ≤ (h : Int) := by omega
      have h1n : (h : Int) < (n : Int) := by omega
      have a0 : (0 : Int) ≤ (m : Int) := by omega
      have a1 : (m : Int) < (n : Int) := by omega
      have ch := HW.out.1.at_ HN.out h (by rw [← HN.out]; exact hhn)
      have cm := HW.out.1.at_ HN.out m (by rw [← HN.out]; exact hmn)
      have HC : Hid (∀ q, Calls Try.prog 106 #[.int .i64 (nth D m), .int .i64 (nth D h), .pointer (some ⟨kb, 0, none⟩)] (wr.drewN q) fun e w' => e = .returned (.int .i64 (cf (nth D m) (nth D h))) ∧ ∃ q', w' = (wr.drewN q).drewN q') := fun q => HCMP.out (wr.drewN q) D m h (List.Perm.refl _) hmn hhn (HW.out.2.drewN q)
      have HLE : Hid (∀ c, a ≤ c → c ≤ h → key (nth D c) ≤ key (nth D h)) := fun c c1 c2 => by
        by_cases e : c = h
        · rw [e]; exact Int.le_refl _
        · have := HPRE.out.l c h c1 (by omega) (by omega)
          unfold lexLt at this; omega
      have HGE : Hid (∀ c, h ≤ c → c < m → key (nth D h) ≤ key (nth D c)) := fun c c1 c2 => by
        by_cases e : c = h
        · rw [e]; exact Int.le_refl _
        · have := HPRE.out.l h c (by omega) (by omega) c2
          unfold lexLt at this; omega
      obtain ⟨r, hr⟩ : ∃ r, cf (nth D m) (nth D h) = r := ⟨_, rfl⟩
      rw [hr] at HC
      have HR := Lib.hid hr
      clear hh hr
      by_cases hr0 : r < 0
      · have HS2 : Hid (∀ c, h ≤ c → c < m → key (nth D m) < key (nth D c)) := fun c c1 c2 => by
          have k1 := (hcf _ _).1 (show cf (nth D m) (nth D h) < 0 by rw [HR.out]; exact hr0)
          have k2 := HGE.out c c1 (by omega)
          omega
        clear HLE HGE HR
        have hrb : (decide (r < 0)) = true := by simp; omega
        have hrc : (!decide (r < 0)) = false := by rw [hrb]; rfl
        go_wp2
        go_quiet ((first | (go_at_call 106; exact quiet_drewI (HC.out _))))
        have HW2 := Lib.hid (And.intro (HW.out.1.drewN nq) (HW.out.2.drewN nq))
        clear HC
        go_wp2
        go_roundw
        case rel => exact ⟨i, h, hmi, hih, by omega, rfl, by go_num, ⟨HS.out.1, HS2.out⟩, HW2.out⟩
        case measure => simp [intOf]; omega
      · have HS2 : Hid (∀ c, a ≤ c → c < h + 1 → key (nth D c) ≤ key (nth D m)) := fun c c1 c2 => by
          have k1 : ¬ key (nth D m) < key (nth D h) := fun k => hr0 (by rw [← HR.out]; exact (hcf _ _).2 k)
          have k2 := HLE.out c c1 (by omega)
          omega
        clear HLE HGE HR
        have hrb : (decide (r < 0)) = false := by simp; omega
        have hrc : (!decide (r < 0)) = true := by rw [hrb]; rfl
        go_wp2
        go_quiet ((first | (go_at_call 106; exact quiet_drewI (HC.out _))))
        have HW2 := Lib.hid (And.intro (HW.out.1.drewN nq) (HW.out.2.drewN nq))
        clear HC
        go_wp2
        go_roundw
        case rel => exact ⟨h + 1, j, by omega, by omega, hjb, by go_num, rfl, ⟨HS2.out, HS.out.2⟩, HW2.out⟩
        case measure => simp [intOf]; omega
    · have hje : i = j := by omega
      have i1 : ¬ (i : Int) < (j : Int) := by omega
      subst hje
      clear hlt hij
      have HL : Hid (a ≤ i ∧ i ≤ m ∧ b = m + 1) := by show _ ∧ _; omega
      have hi2 : i ≤ 1048576 := by omega
      clear hjb
      go_wp2
      go_loopw [17] (fun vk wi => MoveR g n c N a m i b D w0 vk wi) (fun vk _ => (intOf vk).toNat)
      case atStart => exact ⟨m, D, HL.out.2.1, Nat.le_refl _, rfl, HW.out, Rotated.none_l _ rfl, SegSame.refl _ _ _, HN.out.symm⟩
      case round =>
        obtain ⟨k, E, hak, hkl, rfl, HE, HR⟩ := hrel
        clear HW
        by_cases hk : i < k
        · have k1 : (k : Int) > (i : Int) := by omega
          obtain ⟨p, hp⟩ : ∃ p, k - 1 = p := ⟨_, rfl⟩
          have hpi : (k : Int) - 1 = (p : Int) := by omega
          have hkn : k < n := by have := HL.out; omega
          have hpn : p < n := by have := HL.out; omega
          have hpw : IntKind.i64.wrap (p : Int) = (p : Int) := IntWalk.i64_in _ (by omega)
          have hk0 : (0 : Int) ≤ (k : Int) := by omega
          have hp0 : (0 : Int) ≤ (p : Int) := by omega
          have hkn1 : (k : Int) < (n : Int) := by omega
          have hp1 : (p : Int) < (n : Int) := by omega
          have hkL : k < E.length := by rw [HR.out.2.2]; exact hkn
          have hpL : p < E.length := by rw [HR.out.2.2]; exact hpn
          have ck := HE.out.1.at_ HR.out.2.2.symm k hkL
          have cp := HE.out.1.at_ HR.out.2.2.symm p hpL
          have fk := (HE.out.1.store HR.out.2.2.symm k hkL 0).2.1
          have fp := (HE.out.1.store HR.out.2.2.symm p hpL 0).2.1
          have HSW := Lib.hid (HE.out.1.swap HR.out.2.2.symm k p hkL hpL)
          have HST : Hid (Rotated D (swp2 E k p) p m (m + 1) ∧ SegSame D (swp2 E k p) a b ∧ (swp2 E k p).length = n) := by
            have hL := HL.out
            have h1 := HR.out.1.left (by omega) hkl (by rw [← HN.out]; omega)
            rw [hp] at h1
            have := HL.out
            exact ⟨h1, HR.out.2.1.trans (SegSame.swap (by rw [HR.out.2.2]; exact hb) (by omega) (by omega) (by omega) (by omega)), by rw [swp2_len, HR.out.2.2]⟩
          have hpk : ¬ p = k := by omega
          have hkp : ¬ k = p := by omega
          have HPA : Hid (i ≤ p ∧ p ≤ m ∧ p < k) := by show _ ∧ _; omega
          have HG2 := Lib.hid HE.out.2
          clear hp HE HR hkL hpL hk
          go_wp2
          go_region
          go_wp2
          go_roundw
          case rel => exact ⟨p, swp2 E k p, HPA.out.1, HPA.out.2.1, by go_num, ⟨HSW.out.1.drewN _, (HG2.out.row1 HSW.out.2).drewN _⟩, HST.out⟩
          case measure => have := HPA.out; simp [intOf]; omega
        · have k1 : ¬ (k : Int) > (i : Int) := by omega
          have HFIN : Hid (MergePost g n c N a b key D w0 wr) := by
            have hkk : k = i := by omega
            have hr := HR.out.1
            rw [hkk] at hr
            have hs := merge_one_r HPRE.out hmi HL.out.2.1 (fun c c1 c2 => by have := HS.out.1 c c1 c2; omega) HS.out.2 hr
            rw [← HL.out.2.2] at hs
            exact ⟨E, HE.out.1, hs, HR.out.2.1, HE.out.2⟩
          clear HE HR HS
          go_wp2
          exact bodyPost_ret (v := .tuple #[]) (by simp [results, Try.results145, go_sem]) rfl ⟨rfl, HFIN.out⟩
end Go.Proofs.Ytnpfninkopffmaa
