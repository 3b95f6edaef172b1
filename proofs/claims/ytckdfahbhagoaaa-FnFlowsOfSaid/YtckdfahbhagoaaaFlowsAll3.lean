/- Sorting by a key, equal ones in their order: the plain law of blocks which are merged. Conditions: none. With texts that it needs. -/
import Derived.Test.YtckdfahbhagoaaaFlowsAll2
import Derived.Deep.CutRange
namespace Go.Proofs.Ytckdfahbhagoaaa
open Go.RowKit
set_option linter.unusedVariables false
set_option linter.unusedSimpArgs false

theorem cmp_hid {g n kb : Nat} {cf : Int → Int → Int} {D0 D : List Int} {w0 : World} (hcmp : CmpOk kb cf g D0 w0) (hn : n = D.length) (hperm : D.Perm D0) :
    Hid (∀ W E x y, E.Perm D → x < n → y < n → GrownL [g] w0 W → Calls Try.prog 46 #[.int .i64 (nth E x), .int .i64 (nth E y), .pointer (some ⟨kb, 0, none⟩)] W fun e w' => e = .returned (.int .i64 (cf (nth E x) (nth E y))) ∧ ∃ q, w' = W.drewN q) :=
  fun W E x y hE hx hy hW => hcmp W _ _ ((hE.trans hperm).subset (nth_mem (by rw [hE.length_eq, ← hn]; exact hx))) ((hE.trans hperm).subset (nth_mem (by rw [hE.length_eq, ← hn]; exact hy))) hW
/-- What the merge in place leaves behind. -/
def MergePost (g n c N a b : Nat) (key : Int → Int) (D : List Int) (w0 w' : World) : Prop :=
  ∃ E, OwnI w' N (.slice (some ⟨g, 0, none⟩) n c) E ∧ SortedOn key E a b ∧ SegSame D E a b ∧ GrownL [g] w0 w'

/-- The rounds of the search. -/
def SrchL (g n c N a b : Nat) (key : Int → Int) (D : List Int) (w0 : World) (vi vj : Value) (wr : World) : Prop :=
  ∃ (i j : Nat), a + 1 ≤ i ∧ i ≤ j ∧ j ≤ b ∧ vi = .int .i64 i ∧ vj = .int .i64 j ∧ Hid ((∀ c, a + 1 ≤ c → c < i → key (nth D c) < key (nth D a)) ∧ (∀ c, j ≤ c → c < b → key (nth D a) ≤ key (nth D c))) ∧ Hid (OwnI wr N (.slice (some ⟨g, 0, none⟩) n c) D ∧ GrownL [g] w0 wr)
/-- The rounds of the move. -/
def MoveL (g n c N a b l : Nat) (D : List Int) (w0 : World) (vk : Value) (wi : World) : Prop :=
  ∃ (k : Nat) (E : List Int), a ≤ k ∧ k ≤ l ∧ vk = .int .i64 k ∧ Hid (OwnI wi N (.slice (some ⟨g, 0, none⟩) n c) E ∧ GrownL [g] w0 wi) ∧ Hid (Rotated D E a (a + 1) (k + 1) ∧ SegSame D E a b ∧ E.length = n)

set_option maxRecDepth 100000 in
set_option maxHeartbeats 4000000 in
theorem symMerge_l (g n c N kb : Nat) (key : Int → Int) (cf : Int → Int → Int) (hcf : ∀ x y, cf x y < 0 ↔ key x < key y) (D0 : List Int) (w0 : World) (hcmp : CmpOk kb cf g D0 w0) (hsz : n ≤ 1048576) (a b : Nat) (D : List Int) (w : World) (hg0 : GrownL [g] w0 w) (ho : OwnI w N (.slice (some ⟨g, 0, none⟩) n c) D) (hn : n = D.length) (hperm : D.Perm D0) (hb : b ≤ n) (m : Nat) (hm : m = a + 1) (hpre : MergePre key D a m b) (hmb : m < b) :
    Calls Try.prog 59 #[.slice (some ⟨g, 0, none⟩) n c, .int .i64 a, .int .i64 m, .int .i64 b, .func (.func 46) #[] #[.pointer (some ⟨kb, 0, none⟩)]] w fun e w' => e = .returned (.tuple #[]) ∧ MergePost g n c N a b key D w0 w' := by
  have HCMP := cmp_hid hcmp hn hperm
  have m1 : (m : Int) - (a : Int) = 1 := by omega
  rw [hm] at hpre
  have HO := Lib.hid ho
  have HG := Lib.hid hg0
  have HN := Lib.hid hn
  have HPRE := Lib.hid hpre
  clear ho hg0 hn hpre hperm hcmp hm
  go_enter Try.func59, Try.ntmps59
  go_wp2
  go_loopw [10, 11] (fun vi vj wr => SrchL g n c N a b key D w0 vi vj wr) (fun vi vj _ => (intOf vj).toNat - (intOf vi).toNat)
  case atStart => exact ⟨m, b, by omega, by omega, Nat.le_refl _, rfl, rfl, ⟨fun c h1 h2 => by omega, fun c h1 h2 => by omega⟩, HO.out, HG.out⟩
  case round =>
    obtain ⟨i, j, hmi, hij, hjb, rfl, rfl, HS, HW⟩ := hrel
    by_cases hlt : i < j
    · have i1 : (i : Int) < (j : Int) := by omega
      obtain ⟨h, hh⟩ : ∃ h : Nat, (i + j) / 2 = h := ⟨_, rfl⟩
      have hhi : ((i : Int) + (j : Int)) / 2 = (h : Int) := by omega
      have hih : i ≤ h := by omega
      have hhj : h < j := by omega
      have hhn : h < n := by omega
      have han : a < n := by omega
      have h0 : (0 : Int) ≤ (h : Int) := by omega
      have h1n : (h : Int) < (n : Int) := by omega
      have a0 : (0 : Int) ≤ (a : Int) := by omega
      have a1 : (a : Int) < (n : Int) := by omega
      have ch := HW.out.1.at_ HN.out h (by rw [← HN.out]; exact hhn)
      have ca := HW.out.1.at_ HN.out a (by rw [← HN.out]; exact han)
      have HC : Hid (∀ q, Calls Try.prog 46 #[.int .i64 (nth D h), .int .i64 (nth D a), .pointer (some ⟨kb, 0, none⟩)] (wr.drewN q) fun e w' => e = .returned (.int .i64 (cf (nth D h) (nth D a))) ∧ ∃ q', w' = (wr.drewN q).drewN q') := fun q => HCMP.out (wr.drewN q) D h a (List.Perm.refl _) hhn han (HW.out.2.drewN q)
      have HLE : Hid (∀ c, a + 1 ≤ c → c ≤ h → key (nth D c) ≤ key (nth D h)) := fun c c1 c2 => by
        by_cases e : c = h
        · rw [e]; exact Int.le_refl _
        · have := HPRE.out.r c h c1 (by omega) (by omega)
          unfold lexLt at this; omega
      have HGE : Hid (∀ c, h ≤ c → c < b → key (nth D h) ≤ key (nth D c)) := fun c c1 c2 => by
        by_cases e : c = h
        · rw [e]; exact Int.le_refl _
        · have := HPRE.out.r h c (by omega) (by omega) c2
          unfold lexLt at this; omega
      obtain ⟨r, hr⟩ : ∃ r, cf (nth D h) (nth D a) = r := ⟨_, rfl⟩
      rw [hr] at HC
      have HR := Lib.hid hr
      clear hh hr
      by_cases hr0 : r < 0
      · have HS2 : Hid (∀ c, a + 1 ≤ c → c < h + 1 → key (nth D c) < key (nth D a)) := fun c c1 c2 => by
          have k1 := (hcf _ _).1 (show cf (nth D h) (nth D a) < 0 by rw [HR.out]; exact hr0)
          have k2 := HLE.out c c1 (by omega)
          omega
        clear HLE HGE HR
        go_wp2
        go_quiet ((first | (go_at_call 46; exact quiet_drewI (HC.out _))))
        have HW2 := Lib.hid (And.intro (HW.out.1.drewN nq) (HW.out.2.drewN nq))
        clear HC
        go_wp2
        go_roundw
        case rel => exact ⟨h + 1, j, by omega, by omega, hjb, by go_num, rfl, ⟨HS2.out, HS.out.2⟩, HW2.out⟩
        case measure => simp [intOf]; omega
      · have HS2 : Hid (∀ c, h ≤ c → c < b → key (nth D a) ≤ key (nth D c)) := fun c c1 c2 => by
          have k1 : ¬ key (nth D h) < key (nth D a) := fun k => hr0 (by rw [← HR.out]; exact (hcf _ _).2 k)
          have k2 := HGE.out c c1 c2
          omega
        clear HLE HGE HR
        go_wp2
        go_quiet ((first | (go_at_call 46; exact quiet_drewI (HC.out _))))
        have HW2 := Lib.hid (And.intro (HW.out.1.drewN nq) (HW.out.2.drewN nq))
        clear HC
        go_wp2
        go_roundw
        case rel => exact ⟨i, h, hmi, hih, by omega, rfl, by go_num, ⟨HS.out.1, HS2.out⟩, HW2.out⟩
        case measure => simp [intOf]; omega
    · have hje : i = j := by omega
      have i1 : ¬ (i : Int) < (j : Int) := by omega
      subst hje
      clear hlt hij
      have hi1 : (i : Int) - 1 = ((i - 1 : Nat) : Int) := by omega
      obtain ⟨l, hl⟩ : ∃ l, i - 1 = l := ⟨_, rfl⟩
      rw [hl] at hi1
      have HL : Hid (a ≤ l ∧ l + 1 = i ∧ l < b) := by show _ ∧ _; omega
      have hal : a ≤ l := by omega
      have hl2 : l ≤ 1048576 := by omega
      clear hl
      go_wp2
      go_loopw [13] (fun vk wi => MoveL g n c N a b l D w0 vk wi) (fun vk _ => l - (intOf vk).toNat)
      case atStart => exact ⟨a, D, Nat.le_refl _, hal, rfl, HW.out, Rotated.none_r _ rfl, SegSame.refl _ _ _, HN.out.symm⟩
      case round =>
        obtain ⟨k, E, hak, hkl, rfl, HE, HR⟩ := hrel
        clear HW
        by_cases hk : k < l
        · have k1 : (k : Int) < (l : Int) := by omega
          obtain ⟨p, hp⟩ : ∃ p, k + 1 = p := ⟨_, rfl⟩
          have hpi : (k : Int) + 1 = (p : Int) := by omega
          have hkn : k < n := by have := HL.out; omega
          have hpn : p < n := by have := HL.out; omega
          have hpw : IntKind.i64.wrap (p : Int) = (p : Int) := IntWalk.i64_in _ (by omega)
          have hk0 : (0 : Int) ≤ (k : Int) := by omega
          have hp0 : (0 : Int) ≤ (p : Int) := by omega
          have hkn1 : (k : Int) < (n : Int) := by omega
          have hp1 : (p : Int) < (n : Int) := by omega
          have hkL : k < E.length := by rw [HR.out.2.2]; exact hkn
          have hpL : p < E.length := by rw [HR.out.2.2]; exact hpn
          have ck := HE.out.1.at_ HR.out.2.2.symm k hkL
          have cp := HE.out.1.at_ HR.out.2.2.symm p hpL
          have fk := (HE.out.1.store HR.out.2.2.symm k hkL 0).2.1
          have fp := (HE.out.1.store HR.out.2.2.symm p hpL 0).2.1
          have HSW := Lib.hid (HE.out.1.swap HR.out.2.2.symm k p hkL hpL)
          have HST : Hid (Rotated D (swp2 E k p) a (a + 1) (p + 1) ∧ SegSame D (swp2 E k p) a b ∧ (swp2 E k p).length = n) := by
            have h1 := HR.out.1.right hak (by rw [← HN.out]; omega)
            rw [hp] at h1
            rw [show k + 2 = p + 1 by omega] at h1
            have := HL.out
            exact ⟨h1, HR.out.2.1.trans (SegSame.swap (by rw [HR.out.2.2]; exact hb) hak (by omega) (by omega) (by omega)), by rw [swp2_len, HR.out.2.2]⟩
          have hpk : ¬ p = k := by omega
          have hkp : ¬ k = p := by omega
          have HPA : Hid (a ≤ p ∧ p ≤ l ∧ k < p) := by show _ ∧ _; omega
          have HG2 := Lib.hid HE.out.2
          clear hp HE HR hkL hpL hk
          go_wp2
          go_region
          go_wp2
          go_roundw
          case rel => exact ⟨p, swp2 E k p, HPA.out.1, HPA.out.2.1, by go_num, ⟨HSW.out.1.drewN _, (HG2.out.row1 HSW.out.2).drewN _⟩, HST.out⟩
          case measure => have := HPA.out; simp [intOf]; omega
        · have k1 : ¬ (k : Int) < (l : Int) := by omega
          have HFIN : Hid (MergePost g n c N a b key D w0 wr) := by
            have hkk : k + 1 = i := by have := HL.out; omega
            have hr := HR.out.1
            rw [hkk] at hr
            exact ⟨E, HE.out.1, merge_one_l HPRE.out hmi hjb HS.out.1 (fun c c1 c2 => by have := HS.out.2 c c1 c2; omega) hr, HR.out.2.1, HE.out.2⟩
          clear HE HR HS
          go_wp2
          exact bodyPost_ret (v := .tuple #[]) (by simp [results, Try.results59, go_sem]) rfl ⟨rfl, HFIN.out⟩
end Go.Proofs.Ytckdfahbhagoaaa

namespace Go.Proofs.Ytckdfahbhagoaaa
open Go.RowKit
set_option linter.unusedVariables false
set_option linter.unusedSimpArgs false

/-- The rounds of the search on the right. -/
def SrchR (g n c N a m : Nat) (key : Int → Int) (D : List Int) (w0 : World) (vi vj : Value) (wr : World) : Prop :=
  ∃ (i j : Nat), a ≤ i ∧ i ≤ j ∧ j ≤ m ∧ vi = .int .i64 i ∧ vj = .int .i64 j ∧ Hid ((∀ c, a ≤ c → c < i → key (nth D c) ≤ key (nth D m)) ∧ (∀ c, j ≤ c → c < m → key (nth D m) < key (nth D c))) ∧ Hid (OwnI wr N (.slice (some ⟨g, 0, none⟩) n c) D ∧ GrownL [g] w0 wr)
/-- The rounds of the move on the right. -/
def MoveR (g n c N a m l b : Nat) (D : List Int) (w0 : World) (vk : Value) (wi : World) : Prop :=
  ∃ (k : Nat) (E : List Int), l ≤ k ∧ k ≤ m ∧ vk = .int .i64 k ∧ Hid (OwnI wi N (.slice (some ⟨g, 0, none⟩) n c) E ∧ GrownL [g] w0 wi) ∧ Hid (Rotated D E k m (m + 1) ∧ SegSame D E a b ∧ E.length = n)

set_option maxRecDepth 100000 in
set_option maxHeartbeats 4000000 in
theorem symMerge_r (g n c N kb : Nat) (key : Int → Int) (cf : Int → Int → Int) (hcf : ∀ x y, cf x y < 0 ↔ key x < key y) (D0 : List Int) (w0 : World) (hcmp : CmpOk kb cf g D0 w0) (hsz : n ≤ 1048576) (a b : Nat) (D : List Int) (w : World) (hg0 : GrownL [g] w0 w) (ho : OwnI w N (.slice (some ⟨g, 0, none⟩) n c) D) (hn : n = D.length) (hperm : D.Perm D0) (hb : b ≤ n) (m : Nat) (hm : b = m + 1) (hpre : MergePre key D a m b) (ham : a < m) (hne : m ≠ a + 1) :
    Calls Try.prog 59 #[.slice (some ⟨g, 0, none⟩) n c, .int .i64 a, .int .i64 m, .int .i64 b, .func (.func 46) #[] #[.pointer (some ⟨kb, 0, none⟩)]] w fun e w' => e = .returned (.tuple #[]) ∧ MergePost g n c N a b key D w0 w' := by
  have HCMP := cmp_hid hcmp hn hperm
  have m1 : ((m : Int) - (a : Int) == 1) = false := by rw [beq_eq_false_iff_ne]; omega
  have m2 : (b : Int) - (m : Int) = 1 := by omega
  rw [hm] at hpre
  have HO := Lib.hid ho
  have HG := Lib.hid hg0
  have HN := Lib.hid hn
  have HPRE := Lib.hid hpre
  clear ho hg0 hn hpre hperm hcmp hm hne
  go_enter Try.func59, Try.ntmps59
  go_wp2
  go_loopw [14, 15] (fun vi vj wr => SrchR g n c N a m key D w0 vi vj wr) (fun vi vj _ => (intOf vj).toNat - (intOf vi).toNat)
  case atStart => exact ⟨a, m, Nat.le_refl _, by omega, Nat.le_refl _, rfl, rfl, ⟨fun c h1 h2 => by omega, fun c h1 h2 => by omega⟩, HO.out, HG.out⟩
  case round =>
    obtain ⟨i, j, hmi, hij, hjb, rfl, rfl, HS, HW⟩ := hrel
    by_cases hlt : i < j
    · have i1 : (i : Int) < (j : Int) := by omega
      obtain ⟨h, hh⟩ : ∃ h : Nat, (i + j) / 2 = h := ⟨_, rfl⟩
      have hhi : ((i : Int) + (j : Int)) / 2 = (h : Int) := by omega
      have hih : i ≤ h := by omega
      have hhj : h < j := by omega
      have hhn : h < n := by omega
      have hmn : m < n := by omega
      have h0 : (0 : Int) ≤ (h : Int) := by omega
      have h1n : (h : Int) < (n : Int) := by omega
      have a0 : (0 : Int) ≤ (m : Int) := by omega
      have a1 : (m : Int) < (n : Int) := by omega
      have ch := HW.out.1.at_ HN.out h (by rw [← HN.out]; exact hhn)
      have cm := HW.out.1.at_ HN.out m (by rw [← HN.out]; exact hmn)
      have HC : Hid (∀ q, Calls Try.prog 46 #[.int .i64 (nth D m), .int .i64 (nth D h), .pointer (some ⟨kb, 0, none⟩)] (wr.drewN q) fun e w' => e = .returned (.int .i64 (cf (nth D m) (nth D h))) ∧ ∃ q', w' = (wr.drewN q).drewN q') := fun q => HCMP.out (wr.drewN q) D m h (List.Perm.refl _) hmn hhn (HW.out.2.drewN q)
      have HLE : Hid (∀ c, a ≤ c → c ≤ h → key (nth D c) ≤ key (nth D h)) := fun c c1 c2 => by
        by_cases e : c = h
        · rw [e]; exact Int.le_refl _
        · have := HPRE.out.l c h c1 (by omega) (by omega)
          unfold lexLt at this; omega
      have HGE : Hid (∀ c, h ≤ c → c < m → key (nth D h) ≤ key (nth D c)) := fun c c1 c2 => by
        by_cases e : c = h
        · rw [e]; exact Int.le_refl _
        · have := HPRE.out.l h c (by omega) (by omega) c2
          unfold lexLt at this; omega
      obtain ⟨r, hr⟩ : ∃ r, cf (nth D m) (nth D h) = r := ⟨_, rfl⟩
      rw [hr] at HC
      have HR := Lib.hid hr
      clear hh hr
      by_cases hr0 : r < 0
      · have HS2 : Hid (∀ c, h ≤ c → c < m → key (nth D m) < key (nth D c)) := fun c c1 c2 => by
          have k1 := (hcf _ _).1 (show cf (nth D m) (nth D h) < 0 by rw [HR.out]; exact hr0)
          have k2 := HGE.out c c1 (by omega)
          omega
        clear HLE HGE HR
        have hrb : (decide (r < 0)) = true := by simp; omega
        have hrc : (!decide (r < 0)) = false := by rw [hrb]; rfl
        go_wp2
        go_quiet ((first | (go_at_call 46; exact quiet_drewI (HC.out _))))
        have HW2 := Lib.hid (And.intro (HW.out.1.drewN nq) (HW.out.2.drewN nq))
        clear HC
        go_wp2
        go_roundw
        case rel => exact ⟨i, h, hmi, hih, by omega, rfl, by go_num, ⟨HS.out.1, HS2.out⟩, HW2.out⟩
        case measure => simp [intOf]; omega
      · have HS2 : Hid (∀ c, a ≤ c → c < h + 1 → key (nth D c) ≤ key (nth D m)) := fun c c1 c2 => by
          have k1 : ¬ key (nth D m) < key (nth D h) := fun k => hr0 (by rw [← HR.out]; exact (hcf _ _).2 k)
          have k2 := HLE.out c c1 (by omega)
          omega
        clear HLE HGE HR
        have hrb : (decide (r < 0)) = false := by simp; omega
        have hrc : (!decide (r < 0)) = true := by rw [hrb]; rfl
        go_wp2
        go_quiet ((first | (go_at_call 46; exact quiet_drewI (HC.out _))))
        have HW2 := Lib.hid (And.intro (HW.out.1.drewN nq) (HW.out.2.drewN nq))
        clear HC
        go_wp2
        go_roundw
        case rel => exact ⟨h + 1, j, by omega, by omega, hjb, by go_num, rfl, ⟨HS2.out, HS.out.2⟩, HW2.out⟩
        case measure => simp [intOf]; omega
    · have hje : i = j := by omega
      have i1 : ¬ (i : Int) < (j : Int) := by omega
      subst hje
      clear hlt hij
      have HL : Hid (a ≤ i ∧ i ≤ m ∧ b = m + 1) := by show _ ∧ _; omega
      have hi2 : i ≤ 1048576 := by omega
      clear hjb
      go_wp2
      go_loopw [17] (fun vk wi => MoveR g n c N a m i b D w0 vk wi) (fun vk _ => (intOf vk).toNat)
      case atStart => exact ⟨m, D, HL.out.2.1, Nat.le_refl _, rfl, HW.out, Rotated.none_l _ rfl, SegSame.refl _ _ _, HN.out.symm⟩
      case round =>
        obtain ⟨k, E, hak, hkl, rfl, HE, HR⟩ := hrel
        clear HW
        by_cases hk : i < k
        · have k1 : (k : Int) > (i : Int) := by omega
          obtain ⟨p, hp⟩ : ∃ p, k - 1 = p := ⟨_, rfl⟩
          have hpi : (k : Int) - 1 = (p : Int) := by omega
          have hkn : k < n := by have := HL.out; omega
          have hpn : p < n := by have := HL.out; omega
          have hpw : IntKind.i64.wrap (p : Int) = (p : Int) := IntWalk.i64_in _ (by omega)
          have hk0 : (0 : Int) ≤ (k : Int) := by omega
          have hp0 : (0 : Int) ≤ (p : Int) := by omega
          have hkn1 : (k : Int) < (n : Int) := by omega
          have hp1 : (p : Int) < (n : Int) := by omega
          have hkL : k < E.length := by rw [HR.out.2.2]; exact hkn
          have hpL : p < E.length := by rw [HR.out.2.2]; exact hpn
          have ck := HE.out.1.at_ HR.out.2.2.symm k hkL
          have cp := HE.out.1.at_ HR.out.2.2.symm p hpL
          have fk := (HE.out.1.store HR.out.2.2.symm k hkL 0).2.1
          have fp := (HE.out.1.store HR.out.2.2.symm p hpL 0).2.1
          have HSW := Lib.hid (HE.out.1.swap HR.out.2.2.symm k p hkL hpL)
          have HST : Hid (Rotated D (swp2 E k p) p m (m + 1) ∧ SegSame D (swp2 E k p) a b ∧ (swp2 E k p).length = n) := by
            have hL := HL.out
            have h1 := HR.out.1.left (by omega) hkl (by rw [← HN.out]; omega)
            rw [hp] at h1
            have := HL.out
            exact ⟨h1, HR.out.2.1.trans (SegSame.swap (by rw [HR.out.2.2]; exact hb) (by omega) (by omega) (by omega) (by omega)), by rw [swp2_len, HR.out.2.2]⟩
          have hpk : ¬ p = k := by omega
          have hkp : ¬ k = p := by omega
          have HPA : Hid (i ≤ p ∧ p ≤ m ∧ p < k) := by show _ ∧ _; omega
          have HG2 := Lib.hid HE.out.2
          clear hp HE HR hkL hpL hk
          go_wp2
          go_region
          go_wp2
          go_roundw
          case rel => exact ⟨p, swp2 E k p, HPA.out.1, HPA.out.2.1, by go_num, ⟨HSW.out.1.drewN _, (HG2.out.row1 HSW.out.2).drewN _⟩, HST.out⟩
          case measure => have := HPA.out; simp [intOf]; omega
        · have k1 : ¬ (k : Int) > (i : Int) := by omega
          have HFIN : Hid (MergePost g n c N a b key D w0 wr) := by
            have hkk : k = i := by omega
            have hr := HR.out.1
            rw [hkk] at hr
            have hs := merge_one_r HPRE.out hmi HL.out.2.1 (fun c c1 c2 => by have := HS.out.1 c c1 c2; omega) HS.out.2 hr
            rw [← HL.out.2.2] at hs
            exact ⟨E, HE.out.1, hs, HR.out.2.1, HE.out.2⟩
          clear HE HR HS
          go_wp2
          exact bodyPost_ret (v := .tuple #[]) (by simp [results, Try.results59, go_sem]) rfl ⟨rfl, HFIN.out⟩
end Go.Proofs.Ytckdfahbhagoaaa

namespace Go.Proofs.Ytckdfahbhagoaaa
open Go.RowKit
set_option linter.unusedVariables false
set_option linter.unusedSimpArgs false

/-- The rounds of the search between the halves. -/
def SrchM (g n c N p s0 r0 : Nat) (key : Int → Int) (D : List Int) (w0 : World) (vi vj : Value) (wr : World) : Prop :=
  ∃ (s r : Nat), s ≤ r ∧ vi = .int .i64 s ∧ vj = .int .i64 r ∧ Hid (Search key D p s0 r0 s r) ∧ Hid (OwnI wr N (.slice (some ⟨g, 0, none⟩) n c) D ∧ GrownL [g] w0 wr)
/-- Behind the rotation. -/
def RotPost (g n c N a b s m e : Nat) (D : List Int) (w0 w' : World) : Prop :=
  ∃ E, OwnI w' N (.slice (some ⟨g, 0, none⟩) n c) E ∧ Rotated D E s m e ∧ SegSame D E a b ∧ GrownL [g] w0 w'
/-- What joins the two halves. -/
theorem merge_join {key : Int → Int} {D E F G : List Int} {a b mid : Nat} (hde : SegSame D E a b) (hef : SegSame E F a mid) (hfg : SegSame F G mid b) (ham : a ≤ mid) (hmb : mid ≤ b)
    (h1 : SortedOn key F a mid) (h2 : SortedOn key G mid b) (hx : ∀ p q, a ≤ p → p < mid → mid ≤ q → q < b → lexLt key (nth E p) (nth E q)) : SortedOn key G a b ∧ SegSame D G a b := by
  refine ⟨halves_sorted hx ham hmb (fun i j x y z => ?_) h2 (fun k k1 k2 => ?_) (fun k k1 k2 => ?_), (hde.trans (hef.wide (Nat.le_refl _) hmb)).trans (hfg.wide ham (Nat.le_refl _))⟩
  · rw [hfg.out i (.inl (by omega)), hfg.out j (.inl z)]; exact h1 i j x y z
  · rw [hfg.out k (.inl k2)]; exact hef.mem k k1 k2
  · obtain ⟨k', x, y, z⟩ := hfg.mem k k1 k2
    exact ⟨k', x, y, by rw [z, hef.out k' (.inr x)]⟩
theorem MergePre.keep {key : Int → Int} {D E : List Int} {a m b x y : Nat} (h : MergePre key D a m b) (hs : SegSame D E x y) (hy : y ≤ a) (ham : a ≤ m) (hmb : m ≤ b) : MergePre key E a m b := by
  refine ⟨fun i j p q r => ?_, fun i j p q r => ?_, fun i j p q r t => ?_⟩
  · rw [hs.out i (.inr (by omega)), hs.out j (.inr (by omega))]; exact h.l i j p q r
  · rw [hs.out i (.inr (by omega)), hs.out j (.inr (by omega))]; exact h.r i j p q r
  · rw [hs.out i (.inr (by omega)), hs.out j (.inr (by omega))]; exact h.side i j p q r t
theorem MergePre.bare {key : Int → Int} {D : List Int} {a m b : Nat} (h : MergePre key D a m b) (ham : a ≤ m) (hmb : m ≤ b) (he : ¬ (a < m ∧ m < b)) : SortedOn key D a b := by
  by_cases h1 : a < m
  · obtain rfl : m = b := by omega
    exact h.l
  · obtain rfl : a = m := by omega
    exact h.r

set_option maxRecDepth 100000 in
set_option maxHeartbeats 4000000 in
theorem symMerge_m (g n c N kb : Nat) (key : Int → Int) (cf : Int → Int → Int) (hcf : ∀ x y, cf x y < 0 ↔ key x < key y) (D0 : List Int) (w0 : World) (hcmp : CmpOk kb cf g D0 w0) (hsz : n ≤ 1048576) (a m b : Nat)
    (ih : ∀ (x y z : Nat) (E : List Int) (W : World), z - x < b - a → GrownL [g] w0 W → OwnI W N (.slice (some ⟨g, 0, none⟩) n c) E → n = E.length → E.Perm D0 → x < y → y < z → z ≤ n → MergePre key E x y z →
      Calls Try.prog 59 #[.slice (some ⟨g, 0, none⟩) n c, .int .i64 x, .int .i64 y, .int .i64 z, .func (.func 46) #[] #[.pointer (some ⟨kb, 0, none⟩)]] W fun e w' => e = .returned (.tuple #[]) ∧ MergePost g n c N x z key E w0 w')
    (D : List Int) (w : World) (hg0 : GrownL [g] w0 w) (ho : OwnI w N (.slice (some ⟨g, 0, none⟩) n c) D) (hn : n = D.length) (hperm : D.Perm D0) (hb : b ≤ n) (hpre : MergePre key D a m b) (ham : a < m) (hmb : m < b) (hna : m ≠ a + 1) (hnb : b ≠ m + 1) :
    Calls Try.prog 59 #[.slice (some ⟨g, 0, none⟩) n c, .int .i64 a, .int .i64 m, .int .i64 b, .func (.func 46) #[] #[.pointer (some ⟨kb, 0, none⟩)]] w fun e w' => e = .returned (.tuple #[]) ∧ MergePost g n c N a b key D w0 w' := by
  have HCMP := cmp_hid hcmp hn hperm
  have m1 : ((m : Int) - (a : Int) == 1) = false := by rw [beq_eq_false_iff_ne]; omega
  have m2 : ((b : Int) - (m : Int) == 1) = false := by rw [beq_eq_false_iff_ne]; omega
  obtain ⟨mid, hmid⟩ : ∃ mid, mid = (a + b) / 2 := ⟨_, rfl⟩
  have hmidI : ((a : Int) + (b : Int)) / 2 = (mid : Int) := by omega
  obtain ⟨t, ht⟩ : ∃ t, t = mid + m := ⟨_, rfl⟩
  have htI : (mid : Int) + (m : Int) = (t : Int) := by omega
  obtain ⟨p, hp⟩ : ∃ p, p = t - 1 := ⟨_, rfl⟩
  have hpI : (t : Int) - 1 = (p : Int) := by omega
  obtain ⟨s0, r0, h0⟩ : ∃ s0 r0, m > mid ∧ s0 = mid + m - b ∧ r0 = mid ∨ m ≤ mid ∧ s0 = a ∧ r0 = m := by
    by_cases h : m > mid
    · exact ⟨_, _, .inl ⟨h, rfl, rfl⟩⟩
    · exact ⟨_, _, .inr ⟨by omega, rfl, rfl⟩⟩
  have HP1 : Hid (∀ c, s0 ≤ c → c < r0 → m ≤ p - c ∧ p - c < b ∧ c ≤ p) := fun c h1 h2 => by omega
  have HS0 : Hid (s0 ≤ r0 ∧ a ≤ s0 ∧ r0 ≤ m ∧ r0 ≤ p + 1 ∧ p < 2097152) := by show _ ∧ _; omega
  have H0 := Lib.hid h0
  have HM : Hid (mid = (a + b) / 2 ∧ t = mid + m ∧ p = t - 1 ∧ a ≤ mid ∧ mid < b ∧ a < mid) := by show _ ∧ _; omega
  have hsI : m > mid → (t : Int) - (b : Int) = (s0 : Int) := fun h => by omega
  have hr0m : r0 ≤ 1048576 := by omega
  have htb : t ≤ 2097152 := by omega
  have hmidb : mid ≤ 1048576 := by omega
  have HO := Lib.hid ho
  have HG := Lib.hid hg0
  have HN := Lib.hid hn
  have HPRE := Lib.hid hpre
  have HIH := Lib.hid ih
  have HPERM := Lib.hid hperm
  have HAB : Hid (a < m ∧ m < b ∧ b ≤ n) := ⟨ham, hmb, hb⟩
  clear ho hg0 hn hpre hperm hcmp hmid ht hp h0 ih hna hnb ham hmb
  go_enter Try.func59, Try.ntmps59
  go_upto_if 140 with fail
  go_cut [20, 21] from 138 to 146 (fun s20 s21 wx => s20 = .int .i64 s0 ∧ s21 = .int .i64 r0 ∧ wx = w)
  case first =>
    by_cases hmm : m > mid
    · have c1 : (m : Int) > (mid : Int) := by omega
      have hs := hsI hmm
      have hr0 : (mid : Int) = (r0 : Int) := by have := H0.out; omega
      clear hsI
      go_wp2
      go_meet
      exact ⟨rfl, by rw [hr0], rfl⟩
    · have c1 : ¬ (m : Int) > (mid : Int) := by omega
      have hs : Hid (a = s0) := by have := H0.out; show _ = _; omega
      have hr : Hid (m = r0) := by have := H0.out; show _ = _; omega
      clear hsI
      go_wp2
      go_meet
      exact ⟨by rw [hs.out], by rw [hr.out], rfl⟩
  case rest =>
    obtain ⟨rfl, rfl, rfl⟩ := hcut
    clear hsI
    go_wp2
    go_loopw [20, 21] (fun vi vj wr => SrchM g n c N p s0 r0 key D w0 vi vj wr) (fun vi vj _ => (intOf vj).toNat - (intOf vi).toNat)
    case atStart => exact ⟨s0, r0, HS0.out.1, rfl, rfl, Search.start key D HS0.out.1, HO.out, HG.out⟩
    case round =>
      obtain ⟨s, r, hsr, rfl, rfl, HS, HW⟩ := hrel
      clear HO HG
      have hr1 : r ≤ r0 := HS.out.rr
      have hs1 : s0 ≤ s := HS.out.s0s
      by_cases hlt : s < r
      · have i1 : (s : Int) < (r : Int) := by omega
        obtain ⟨h, hh⟩ : ∃ h : Nat, (s + r) / 2 = h := ⟨_, rfl⟩
        have hhI : ((s : Int) + (r : Int)) / 2 = (h : Int) := by omega
        have hih : s ≤ h := by omega
        have hhj : h < r := by omega
        have hq1 := HP1.out h (by omega) (by omega)
        obtain ⟨q, hq⟩ : ∃ q, p - h = q := ⟨_, rfl⟩
        rw [hq] at hq1
        have hqI : (p : Int) - (h : Int) = (q : Int) := by omega
        have hab := HAB.out
        have hs0 := HS0.out
        have hhn : h < n := by omega
        have hqn : q < n := by omega
        have h0 : (0 : Int) ≤ (h : Int) := by omega
        have h1n : (h : Int) < (n : Int) := by omega
        have q0 : (0 : Int) ≤ (q : Int) := by omega
        have q1 : (q : Int) < (n : Int) := by omega
        have qw : IntKind.i64.wrap (q : Int) = (q : Int) := IntWalk.i64_in _ (by omega)
        have ch := HW.out.1.at_ HN.out h (by rw [← HN.out]; exact hhn)
        have cq := HW.out.1.at_ HN.out q (by rw [← HN.out]; exact hqn)
        have HC : Hid (∀ k, Calls Try.prog 46 #[.int .i64 (nth D q), .int .i64 (nth D h), .pointer (some ⟨kb, 0, none⟩)] (wr.drewN k) fun e w' => e = .returned (.int .i64 (cf (nth D q) (nth D h))) ∧ ∃ q', w' = (wr.drewN k).drewN q') := fun k => HCMP.out (wr.drewN k) D q h (List.Perm.refl _) hqn hhn (HW.out.2.drewN k)
        have HLOW : Hid (¬ key (nth D q) < key (nth D h) → Search key D p s0 r0 (h + 1) r) := fun hk => HS.out.low HPRE.out hih hhj (by omega) (by omega) HP1.out (by rw [hq]; exact hk)
        have HHIGH : Hid (key (nth D q) < key (nth D h) → Search key D p s0 r0 s h) := fun hk => HS.out.high HPRE.out hih hhj (by omega) (by omega) HP1.out (by rw [hq]; exact hk)
        obtain ⟨x, hx⟩ : ∃ x, cf (nth D q) (nth D h) = x := ⟨_, rfl⟩
        rw [hx] at HC
        have HR := Lib.hid hx
        clear hh hx hq hq1 hs0 hab HS
        by_cases hx0 : x < 0
        · have HS2 := Lib.hid (HHIGH.out ((hcf _ _).1 (by rw [HR.out]; exact hx0)))
          have hrb : (decide (x < 0)) = true := by simp; omega
          have hrc : (!decide (x < 0)) = false := by rw [hrb]; rfl
          clear HLOW HHIGH HR
          go_wp2
          go_quiet ((first | (go_at_call 46; exact quiet_drewI (HC.out _))))
          have HW2 := Lib.hid (And.intro (HW.out.1.drewN nq) (HW.out.2.drewN nq))
          clear HC
          go_wp2
          go_roundw
          case rel => exact ⟨s, h, hih, rfl, by go_num, HS2.out, HW2.out⟩
          case measure => simp [intOf]; omega
        · have HS2 := Lib.hid (HLOW.out (fun k => hx0 (by rw [← HR.out]; exact (hcf _ _).2 k)))
          have hrb : (decide (x < 0)) = false := by simp; omega
          have hrc : (!decide (x < 0)) = true := by rw [hrb]; rfl
          clear HLOW HHIGH HR
          go_wp2
          go_quiet ((first | (go_at_call 46; exact quiet_drewI (HC.out _))))
          have HW2 := Lib.hid (And.intro (HW.out.1.drewN nq) (HW.out.2.drewN nq))
          clear HC
          go_wp2
          go_roundw
          case rel => exact ⟨h + 1, r, by omega, by go_num, rfl, HS2.out, HW2.out⟩
          case measure => simp [intOf]; omega
      · have hje : s = r := by omega
        have i1 : ¬ (s : Int) < (r : Int) := by omega
        subst hje
        have HPT := (show Search key D (mid + m - 1) s0 r0 s s by have h := HS.out; rw [HM.out.2.2.1, HM.out.2.1] at h; exact h).parts HPRE.out HAB.out.1 HAB.out.2.1 HM.out.1 H0.out
        obtain ⟨e, he⟩ : ∃ e, e = mid + m - s := ⟨_, rfl⟩
        rw [← he] at HPT
        have hab := HAB.out
        have hm1 := HM.out
        have hs0 := HS0.out
        have heI : (t : Int) - (s : Int) = (e : Int) := by omega
        have HPT2 : Hid (a ≤ s ∧ s ≤ m ∧ s ≤ mid ∧ m ≤ e ∧ e ≤ b ∧ mid = s + (e - m)) := ⟨HPT.1, HPT.2.1, HPT.2.2.1, HPT.2.2.2.1, HPT.2.2.2.2.1, HPT.2.2.2.2.2.1⟩
        have HCR := Lib.hid HPT.2.2.2.2.2.2
        clear HPT he hab hm1 hs0 HS H0 HP1 HS0 hs1 hr1 hlt hsr
        obtain ⟨B1, hB1⟩ : ∃ B : Bool, B = (decide ((s : Int) < (m : Int)) && decide ((m : Int) < (e : Int))) := ⟨_, rfl⟩
        obtain ⟨B2, hB2⟩ : ∃ B : Bool, B = (decide ((a : Int) < (s : Int)) && decide ((s : Int) < (mid : Int))) := ⟨_, rfl⟩
        obtain ⟨B3, hB3⟩ : ∃ B : Bool, B = (decide ((mid : Int) < (e : Int)) && decide ((e : Int) < (b : Int))) := ⟨_, rfl⟩
        have HB1 := Lib.hid hB1
        have HB2 := Lib.hid hB2
        have HB3 := Lib.hid hB3
        clear hB1 hB2 hB3
        have hmn : m ≤ 1048576 := by have := HAB.out; omega
        have hbn : b ≤ 1048576 := by have := HAB.out; omega
        have hem : e ≤ 1048576 := by have := HAB.out; have := HPT2.out; omega
        go_upto_region 39 with fail
        go_cut [185] from 178 to 185 (fun v1 wx => v1 = .bool B1 ∧ wx = wr)
        case first =>
          by_cases h1 : (s : Int) < (m : Int)
          · by_cases h2 : (m : Int) < (e : Int)
            · have hB : Hid (B1 = true) := by show _ = _; rw [HB1.out]; simp [h1, h2]
              have g1 : decide ((s : Int) < (m : Int)) = true := by simp [h1]
              have g2 : decide ((m : Int) < (e : Int)) = true := by simp [h2]
              go_wp2
              go_meet
              exact ⟨by rw [hB.out], rfl⟩
            · have hB : Hid (B1 = false) := by show _ = _; rw [HB1.out]; simp [h1, h2]
              have g1 : decide ((s : Int) < (m : Int)) = true := by simp [h1]
              have g2 : decide ((m : Int) < (e : Int)) = false := by simp [h2]
              go_wp2
              go_meet
              exact ⟨by rw [hB.out], rfl⟩
          · have hB : Hid (B1 = false) := by show _ = _; rw [HB1.out]; simp [h1]
            have g1 : decide ((s : Int) < (m : Int)) = false := by simp [h1]
            go_wp2
            go_meet
            exact ⟨by rw [hB.out], rfl⟩
        case rest =>
        obtain ⟨rfl, rfl⟩ := hcut
        go_upto_if 185 with fail
        go_cut [24] from 178 to 191 (fun v24 wx => v24 = .int .i64 e ∧ RotPost g n c N a b s m e D w0 wx)
        case first =>
          cases B1 with
          | true =>
            have hx : s < m ∧ m < e := by have := HB1.out; simp at this; omega
            have hp := HPT2.out
            have hab := HAB.out
            have HC := Lib.hid (rotate_any g n c s m e N D (.func (.func 46) #[] #[.pointer (some ⟨kb, 0, none⟩)]) wc HW.out.1 HN.out hx.1 hx.2 (by omega) hsz)
            clear hx hp hab
            go_wp2_with fail
            refine HC.out.mono ?_
            rintro _ W1 ⟨rfl, hr⟩
            have HR := Lib.hid hr
            clear hr HC
            go_wp2
            go_meet
            obtain ⟨E, hE, hrot, hseg, hgr⟩ := HR.out
            exact ⟨rfl, E, hE, hrot, hseg.wide HPT2.out.1 HPT2.out.2.2.2.2.1, HW.out.2.row1 hgr⟩
          | false =>
            have HX : Hid (s = m ∨ e = m) := by
              have h : ¬ (s < m ∧ m < e) := by have := HB1.out; simp at this; omega
              have := HPT2.out; show _ ∨ _; omega
            go_wp2
            go_meet
            refine ⟨rfl, D, HW.out.1, ?_, SegSame.refl _ _ _, HW.out.2⟩
            rcases HX.out with h | h
            · exact Rotated.none_l _ h
            · exact Rotated.none_r _ h
        case rest =>
        obtain ⟨rfl, hrot⟩ := hcut
        have HH : Hid (∃ E, OwnI wc N (.slice (some ⟨g, 0, none⟩) n c) E ∧ GrownL [g] w0 wc ∧ SegSame D E a b ∧ MergePre key E a s mid ∧ MergePre key E mid e b ∧ ∀ p q, a ≤ p → p < mid → mid ≤ q → q < b → lexLt key (nth E p) (nth E q)) := by
          obtain ⟨E, hE, hr, hseg, hgr⟩ := hrot
          obtain ⟨x1, x2, x3, x4, x5, x6⟩ := HPT2.out
          exact ⟨E, hE, hgr, hseg, merge_halves HPRE.out hr x1 x2 x4 x5 x6 HCR.out.1 HCR.out.2⟩
        clear hrot HW HPRE HCR HCMP
        obtain ⟨E, HE⟩ := HH.out
        clear HH
        have HE := Lib.hid HE
        go_upto_region 41 with fail
        go_cut [199] from 192 to 199 (fun v1 wx => v1 = .bool B2 ∧ wx = wc)
        case first =>
          by_cases h1 : (a : Int) < (s : Int)
          · by_cases h2 : (s : Int) < (mid : Int)
            · have hB : Hid (B2 = true) := by show _ = _; rw [HB2.out]; simp [h1, h2]
              have g1 : decide ((a : Int) < (s : Int)) = true := by simp [h1]
              have g2 : decide ((s : Int) < (mid : Int)) = true := by simp [h2]
              go_wp2
              go_meet
              exact ⟨by rw [hB.out], rfl⟩
            · have hB : Hid (B2 = false) := by show _ = _; rw [HB2.out]; simp [h1, h2]
              have g1 : decide ((a : Int) < (s : Int)) = true := by simp [h1]
              have g2 : decide ((s : Int) < (mid : Int)) = false := by simp [h2]
              go_wp2
              go_meet
              exact ⟨by rw [hB.out], rfl⟩
          · have hB : Hid (B2 = false) := by show _ = _; rw [HB2.out]; simp [h1]
            have g1 : decide ((a : Int) < (s : Int)) = false := by simp [h1]
            go_wp2
            go_meet
            exact ⟨by rw [hB.out], rfl⟩
        case rest =>
        obtain ⟨rfl, rfl⟩ := hcut
        go_upto_if 199 with fail
        go_cut [24] from 192 to 205 (fun v24 wx => v24 = .int .i64 e ∧ MergePost g n c N a mid key E w0 wx)
        case first =>
          cases B2 with
          | true =>
            have hx : a < s ∧ s < mid := by have := HB2.out; simp at this; omega
            have HC := Lib.hid (HIH.out a s mid E wc (by have := HM.out; omega) HE.out.2.1 HE.out.1 (by rw [HE.out.2.2.1.len]; exact HN.out) (HE.out.2.2.1.perm.trans HPERM.out) hx.1 hx.2 (by have := HM.out; have := HAB.out; omega) HE.out.2.2.2.1)
            clear hx
            go_wp2_with fail
            refine HC.out.mono ?_
            rintro _ W1 ⟨rfl, hr⟩
            have HR := Lib.hid hr
            clear hr HC
            go_wp2
            go_meet
            exact ⟨rfl, HR.out⟩
          | false =>
            have HX : Hid (¬ (a < s ∧ s < mid)) := by have := HB2.out; show ¬ _; simp at this; omega
            go_wp2
            go_meet
            exact ⟨rfl, E, HE.out.1, HE.out.2.2.2.1.bare HPT2.out.1 HPT2.out.2.2.1 HX.out, SegSame.refl _ _ _, HE.out.2.1⟩
        case rest =>
        obtain ⟨rfl, hrot⟩ := hcut
        obtain ⟨F, hF⟩ := hrot
        have HF := Lib.hid hF
        clear hF
        go_upto_region 43 with fail
        go_cut [213] from 206 to 213 (fun v1 wx => v1 = .bool B3 ∧ wx = wc)
        case first =>
          by_cases h1 : (mid : Int) < (e : Int)
          · by_cases h2 : (e : Int) < (b : Int)
            · have hB : Hid (B3 = true) := by show _ = _; rw [HB3.out]; simp [h1, h2]
              have g1 : decide ((mid : Int) < (e : Int)) = true := by simp [h1]
              have g2 : decide ((e : Int) < (b : Int)) = true := by simp [h2]
              go_wp2
              go_meet
              exact ⟨by rw [hB.out], rfl⟩
            · have hB : Hid (B3 = false) := by show _ = _; rw [HB3.out]; simp [h1, h2]
              have g1 : decide ((mid : Int) < (e : Int)) = true := by simp [h1]
              have g2 : decide ((e : Int) < (b : Int)) = false := by simp [h2]
              go_wp2
              go_meet
              exact ⟨by rw [hB.out], rfl⟩
          · have hB : Hid (B3 = false) := by show _ = _; rw [HB3.out]; simp [h1]
            have g1 : decide ((mid : Int) < (e : Int)) = false := by simp [h1]
            go_wp2
            go_meet
            exact ⟨by rw [hB.out], rfl⟩
        case rest =>
        obtain ⟨rfl, rfl⟩ := hcut
        go_upto_if 213 with fail
        have hmb := HM.out
        have HPF := Lib.hid (HE.out.2.2.2.2.1.keep HF.out.2.2.1 (Nat.le_refl _) (by have := HPT2.out; omega) HPT2.out.2.2.2.2.1)
        have HLF : Hid (n = F.length ∧ F.Perm D0) := ⟨by rw [HF.out.2.2.1.len, HE.out.2.2.1.len]; exact HN.out, HF.out.2.2.1.perm.trans (HE.out.2.2.1.perm.trans HPERM.out)⟩
        have HFIN : Hid (∀ W, MergePost g n c N mid b key F w0 W → MergePost g n c N a b key D w0 W) := by
          rintro W ⟨G, hG, hs, hseg, hgr⟩
          obtain ⟨j1, j2⟩ := merge_join HE.out.2.2.1 HF.out.2.2.1 hseg (by omega) (by omega) HF.out.2.1 hs HE.out.2.2.2.2.2
          exact ⟨G, hG, j1, j2, hgr⟩
        clear hmb
        cases B3 with
        | true =>
          have hx : mid < e ∧ e < b := by have := HB3.out; simp at this; omega
          have HC := Lib.hid (HIH.out mid e b F wc (by have := HM.out; omega) HF.out.2.2.2 HF.out.1 HLF.out.1 HLF.out.2 hx.1 hx.2 HAB.out.2.2 HPF.out)
          clear hx
          go_wp2_with fail
          refine HC.out.mono ?_
          rintro _ W1 ⟨rfl, hr⟩
          have HR := Lib.hid (HFIN.out _ hr)
          clear hr HC HFIN
          go_wp2
          go_end0
          exact ⟨rfl, HR.out⟩
        | false =>
          have HX : Hid (¬ (mid < e ∧ e < b)) := by have := HB3.out; show ¬ _; simp at this; omega
          have HR := Lib.hid (HFIN.out wc ⟨F, HF.out.1, HPF.out.bare (by have := HPT2.out; omega) HPT2.out.2.2.2.2.1 HX.out, SegSame.refl _ _ _, HF.out.2.2.2⟩)
          clear HFIN
          go_wp2
          go_end0
          exact ⟨rfl, HR.out⟩

theorem symMerge_any (g n c N kb : Nat) (key : Int → Int) (cf : Int → Int → Int) (hcf : ∀ x y, cf x y < 0 ↔ key x < key y) (D0 : List Int) (w0 : World) (hcmp : CmpOk kb cf g D0 w0) (hsz : n ≤ 1048576) :
    ∀ (L a m b : Nat) (D : List Int) (w : World), b - a ≤ L → GrownL [g] w0 w → OwnI w N (.slice (some ⟨g, 0, none⟩) n c) D → n = D.length → D.Perm D0 → a < m → m < b → b ≤ n → MergePre key D a m b →
    Calls Try.prog 59 #[.slice (some ⟨g, 0, none⟩) n c, .int .i64 a, .int .i64 m, .int .i64 b, .func (.func 46) #[] #[.pointer (some ⟨kb, 0, none⟩)]] w fun e w' => e = .returned (.tuple #[]) ∧ MergePost g n c N a b key D w0 w' := by
  intro L
  induction L with
  | zero => intro a m b D w hL _ _ _ _ h1 h2; omega
  | succ L ih =>
    intro a m b D w hL hg0 ho hn hperm ham hmb hb hpre
    by_cases h1 : m = a + 1
    · exact symMerge_l g n c N kb key cf hcf D0 w0 hcmp hsz a b D w hg0 ho hn hperm hb m h1 hpre hmb
    by_cases h2 : b = m + 1
    · exact symMerge_r g n c N kb key cf hcf D0 w0 hcmp hsz a b D w hg0 ho hn hperm hb m h2 hpre ham h1
    · exact symMerge_m g n c N kb key cf hcf D0 w0 hcmp hsz a m b (fun x y z E W h => ih x y z E W (by omega)) D w hg0 ho hn hperm hb hpre ham hmb h1 h2
end Go.Proofs.Ytckdfahbhagoaaa

namespace Go.Proofs.Ytckdfahbhagoaaa
open Go.RowKit
set_option linter.unusedVariables false
set_option linter.unusedSimpArgs false

/-- Between the borders it is sorted; across a border the numbers ascend. -/
def Blks (Bd : Nat → Prop) (key : Int → Int) (d : List Int) (n : Nat) : Prop :=
  ∀ p q, p < q → q < n → (∀ c, Bd c → p < c → c ≤ q → nth d p < nth d q) ∧ ((∀ c, Bd c → p < c → c ≤ q → False) → lexLt key (nth d p) (nth d q))
theorem Blks.congr {Bd Bd' : Nat → Prop} {key : Int → Int} {d : List Int} {n : Nat} (h : Blks Bd key d n) (he : ∀ c, 0 < c → c < n → (Bd c ↔ Bd' c)) : Blks Bd' key d n := fun p q h1 h2 =>
  ⟨fun c b c1 c2 => (h p q h1 h2).1 c ((he c (by omega) (by omega)).2 b) c1 c2, fun k => (h p q h1 h2).2 fun c b c1 c2 => k c ((he c (by omega) (by omega)).1 b) c1 c2⟩
theorem Blks.all {key : Int → Int} {d : List Int} {n : Nat} (h : ∀ p q, p < q → q < n → nth d p < nth d q) : Blks (fun _ => True) key d n := fun p q h1 h2 =>
  ⟨fun c _ _ _ => h p q h1 h2, fun k => (k q trivial h1 (Nat.le_refl _)).elim⟩
theorem Blks.sorted {Bd : Nat → Prop} {key : Int → Int} {d : List Int} {n a b : Nat} (h : Blks Bd key d n) (hb : b ≤ n) (hn : ∀ c, a < c → c < b → ¬ Bd c) : SortedOn key d a b := fun i j x y z =>
  (h i j y (by omega)).2 fun c hc c1 c2 => hn c (by omega) (by omega) hc
theorem Blks.asc {Bd : Nat → Prop} {key : Int → Int} {d : List Int} {n a b : Nat} (h : Blks Bd key d n) (hb : b ≤ n) (hn : ∀ c, a < c → c < b → Bd c) : ∀ p q, a ≤ p → p < q → q < b → nth d p < nth d q := fun i j x y z =>
  (h i j y (by omega)).1 j (hn j (by omega) z) y (Nat.le_refl _)
/-- Two blocks beside each other are ready to be merged. -/
theorem Blks.pre {Bd : Nat → Prop} {key : Int → Int} {d : List Int} {n a m b : Nat} (h : Blks Bd key d n) (hb : b ≤ n) (hm : Bd m) (ham : a < m) (hmb : m < b) (hn : ∀ c, a < c → c < b → Bd c → c = m) : MergePre key d a m b :=
  ⟨h.sorted (by omega) fun c c1 c2 hc => by have := hn c c1 (by omega) hc; omega, h.sorted hb fun c c1 c2 hc => by have := hn c (by omega) c2 hc; omega, fun p q p1 p2 q1 q2 _ => (h p q (by omega) (by omega)).1 m hm p2 q1⟩
/-- What lies between two borders is sorted: no border lies between them any more. -/
theorem Blks.merged {Bd : Nat → Prop} {key : Int → Int} {d d' : List Int} {n a b : Nat} (h : Blks Bd key d n) (hs : SegSame d d' a b) (hsort : SortedOn key d' a b) (ha : a = 0 ∨ Bd a) (hb : b = n ∨ Bd b) (hbn : b ≤ n) :
    Blks (fun c => Bd c ∧ ¬ (a < c ∧ c < b)) key d' n := by
  intro p q hpq hqn
  have at_ : ∀ k, k < n → ∃ k', nth d' k = nth d k' ∧ k' < n ∧ (a ≤ k ∧ k < b → a ≤ k' ∧ k' < b) ∧ (¬ (a ≤ k ∧ k < b) → k' = k) := fun k hk => by
    by_cases hin : a ≤ k ∧ k < b
    · obtain ⟨k', x, y, z⟩ := hs.mem k hin.1 hin.2
      exact ⟨k', z, by omega, fun _ => ⟨x, y⟩, fun hh => absurd hin hh⟩
    · exact ⟨k, hs.out k (by omega), hk, fun hh => absurd hh hin, fun _ => rfl⟩
  obtain ⟨p', e1, p1, p2, p3⟩ := at_ p (by omega)
  obtain ⟨q', e2, q1, q2, q3⟩ := at_ q hqn
  rw [e1, e2]
  refine ⟨fun c ⟨hc, hc2⟩ c1 c2 => ?_, fun hno => ?_⟩
  · by_cases hp : a ≤ p ∧ p < b
    · have := p2 hp
      by_cases hq : a ≤ q ∧ q < b
      · have := q2 hq; omega
      · have := q3 hq
        exact (h p' q' (by omega) q1).1 c hc (by omega) (by omega)
    · have := p3 hp
      by_cases hq : a ≤ q ∧ q < b
      · have := q2 hq
        exact (h p' q' (by omega) q1).1 c hc (by omega) (by omega)
      · have := q3 hq
        exact (h p' q' (by omega) q1).1 c hc (by omega) (by omega)
  · by_cases hp : a ≤ p ∧ p < b
    · by_cases hq : a ≤ q ∧ q < b
      · rw [← e1, ← e2]; exact hsort p q hp.1 hpq hq.2
      · rcases hb with hb | hb
        · omega
        · exact (hno b ⟨hb, by omega⟩ hp.2 (by omega)).elim
    · have e3 := p3 hp
      by_cases hq : a ≤ q ∧ q < b
      · rcases ha with ha | ha
        · omega
        · exact (hno a ⟨ha, by omega⟩ (by omega) hq.1).elim
      · have e4 := q3 hq
        rw [e3, e4]
        refine (h p q hpq hqn).2 fun c hc c1 c2 => ?_
        by_cases hin : a < c ∧ c < b
        · rcases ha with ha | ha
          · omega
          · exact hno a ⟨ha, by omega⟩ (by omega) (by omega)
        · exact hno c ⟨hc, hin⟩ c1 c2

/-! The two passes. -/
/-- Blocks of twenty, up to a; behind it every place is a border. -/
def Bd20 (a : Nat) (c : Nat) : Prop := a ≤ c ∨ 20 ∣ c
theorem Bd20.next {key : Int → Int} {d d' : List Int} {n a : Nat} (h : Blks (Bd20 a) key d n) (h20 : 20 ∣ a) (hs : SegSame d d' a (a + 20)) (hsort : SortedOn key d' a (a + 20)) (hbn : a + 20 ≤ n) : Blks (Bd20 (a + 20)) key d' n := by
  refine (h.merged hs hsort (.inr (.inl (Nat.le_refl _))) (.inr (.inl (by omega))) hbn).congr fun c c0 cn => ?_
  unfold Bd20
  constructor
  · rintro ⟨h1 | h1, h2⟩
    · by_cases e : c = a
      · right; rw [e]; exact h20
      · left; omega
    · exact .inr h1
  · rintro (h1 | h1)
    · exact ⟨.inl (by omega), by omega⟩
    · refine ⟨.inr h1, ?_⟩
      obtain ⟨x, rfl⟩ := h1
      obtain ⟨y, rfl⟩ := h20
      omega
theorem Bd20.last {key : Int → Int} {d d' : List Int} {n a : Nat} (h : Blks (Bd20 a) key d n) (h20 : 20 ∣ a) (hs : SegSame d d' a n) (hsort : SortedOn key d' a n) (hbn : a ≤ n) (hend : n < a + 20) : Blks (fun c => 20 ∣ c) key d' n := by
  refine (h.merged hs hsort (.inr (.inl (Nat.le_refl _))) (.inl rfl) (Nat.le_refl _)).congr fun c c0 cn => ?_
  unfold Bd20
  constructor
  · rintro ⟨h1 | h1, h2⟩
    · by_cases e : c = a
      · rw [e]; exact h20
      · omega
    · exact h1
  · intro h1
    refine ⟨.inr h1, ?_⟩
    obtain ⟨x, rfl⟩ := h1
    obtain ⟨y, rfl⟩ := h20
    omega
/-- Blocks of twice the size up to a, of the size behind it. -/
def Bd2 (s a : Nat) (c : Nat) : Prop := s ∣ c ∧ (c ≤ a → 2 * s ∣ c)
theorem bd2_start (s : Nat) (c : Nat) (h : 0 < c) : s ∣ c ↔ Bd2 s 0 c := ⟨fun h' => ⟨h', fun h2 => by omega⟩, fun h' => h'.1⟩
theorem dvd_between {s a c : Nat} (ha : s ∣ a) (hc : s ∣ c) (h1 : a < c) (h2 : c < a + 2 * s) : c = a + s := by
  obtain ⟨x, rfl⟩ := ha
  obtain ⟨y, rfl⟩ := hc
  have e1 : x < y := Nat.lt_of_mul_lt_mul_left (a := s) h1
  have e2 : y < x + 2 := Nat.lt_of_mul_lt_mul_left (a := s) (by rw [Nat.mul_add]; omega)
  obtain rfl : y = x + 1 := by omega
  rw [Nat.mul_add]; omega
theorem not_dvd_mid {s a : Nat} (hs : 0 < s) (ha : 2 * s ∣ a) : ¬ 2 * s ∣ a + s := fun h => by
  have := (Nat.dvd_add_right ha).1 h
  have := Nat.le_of_dvd hs this
  omega
theorem dvd_half {s a : Nat} (h : 2 * s ∣ a) : s ∣ a := Nat.dvd_trans (Nat.dvd_mul_left s 2) h
theorem Bd2.only {s a c : Nat} (ha : 2 * s ∣ a) (h1 : a < c) (h2 : c < a + 2 * s) (h : Bd2 s a c) : c = a + s := dvd_between (dvd_half ha) h.1 h1 h2
theorem Bd2.mid {s a : Nat} (hs : 0 < s) (ha : 2 * s ∣ a) : Bd2 s a (a + s) := ⟨(Nat.dvd_add_right (dvd_half ha)).2 (Nat.dvd_refl _), fun h => by omega⟩
theorem Bd2.at_ {s a : Nat} (ha : 2 * s ∣ a) : Bd2 s a a := ⟨dvd_half ha, fun _ => ha⟩
theorem Bd2.end_ {s a : Nat} (hs : 0 < s) (ha : 2 * s ∣ a) : Bd2 s a (a + 2 * s) := ⟨dvd_half ((Nat.dvd_add_right ha).2 (Nat.dvd_refl _)), fun h => by omega⟩
theorem Bd2.next {key : Int → Int} {d d' : List Int} {n s a : Nat} (h : Blks (Bd2 s a) key d n) (hs0 : 0 < s) (ha : 2 * s ∣ a) (hs : SegSame d d' a (a + 2 * s)) (hsort : SortedOn key d' a (a + 2 * s)) (hbn : a + 2 * s ≤ n) : Blks (Bd2 s (a + 2 * s)) key d' n := by
  refine (h.merged hs hsort (.inr (Bd2.at_ ha)) (.inr (Bd2.end_ hs0 ha)) hbn).congr fun c c0 cn => ?_
  constructor
  · rintro ⟨h1, h2⟩
    refine ⟨h1.1, fun h3 => ?_⟩
    by_cases e : c ≤ a
    · exact h1.2 e
    · obtain rfl : c = a + 2 * s := by omega
      exact (Nat.dvd_add_right ha).2 (Nat.dvd_refl _)
  · rintro ⟨h1, h2⟩
    refine ⟨⟨h1, fun h3 => h2 (by omega)⟩, fun ⟨h3, h4⟩ => ?_⟩
    have := dvd_between (dvd_half ha) h1 h3 h4
    subst this
    exact not_dvd_mid hs0 ha (h2 (by omega))
theorem Bd2.last {key : Int → Int} {d d' : List Int} {n s a : Nat} (h : Blks (Bd2 s a) key d n) (hs0 : 0 < s) (ha : 2 * s ∣ a) (hs : SegSame d d' a n) (hsort : SortedOn key d' a n) (hbn : n < a + 2 * s) : Blks (fun c => 2 * s ∣ c) key d' n := by
  refine (h.merged hs hsort (.inr (Bd2.at_ ha)) (.inl rfl) (Nat.le_refl _)).congr fun c c0 cn => ?_
  constructor
  · rintro ⟨h1, h2⟩
    exact h1.2 (by omega)
  · intro h1
    refine ⟨⟨dvd_half h1, fun _ => h1⟩, fun ⟨h3, h4⟩ => ?_⟩
    have := dvd_between (dvd_half ha) (dvd_half h1) h3 (by omega)
    subst this
    exact not_dvd_mid hs0 ha h1
theorem blks_end {key : Int → Int} {d : List Int} {n s : Nat} (h : Blks (fun c => s ∣ c) key d n) (hs : n ≤ s) : SortedOn key d 0 n :=
  h.sorted (Nat.le_refl _) fun c c1 c2 hc => by have := Nat.le_of_dvd c1 hc; omega
end Go.Proofs.Ytckdfahbhagoaaa
