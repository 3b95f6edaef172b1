
/- slices.SortStableFunc on integers, and impl.sortedBy: blocks of twenty, then merges. Conditions: at most 2^20 elements. -/
import Derived.Test.YtnpfninkopffmaaSortM
import Derived.Test.YtnpfninkopffmaaSortSP
namespace Go.Proofs.Ytnpfninkopffmaa
open Go.RowKit
set_option linter.unusedVariables false
set_option linter.unusedSimpArgs false

/-- The rounds of the first pass. -/
def Pass1 (g n c N : Nat) (key : Int → Int) (D0 : List Int) (w0 : World) (va vb : Value) (wr : World) : Prop :=
  ∃ (a b : Nat) (E : List Int), va = .int .i64 a ∧ vb = .int .i64 b ∧ Hid (b = a + 20 ∧ 20 ∣ a ∧ a ≤ n) ∧ Hid (OwnI wr N (.slice (some ⟨g, 0, none⟩) n c) E ∧ GrownL [g] w0 wr) ∧ Hid (Blks (Bd20 a) key E n ∧ E.Perm D0 ∧ n = E.length)
/-- The rounds of the second. -/
def Pass2 (g n c N : Nat) (key : Int → Int) (D0 : List Int) (w0 : World) (vs : Value) (wr : World) : Prop :=
  ∃ (s : Nat) (E : List Int), vs = .int .i64 s ∧ 1 ≤ s ∧ s ≤ 2097152 ∧ Hid (OwnI wr N (.slice (some ⟨g, 0, none⟩) n c) E ∧ GrownL [g] w0 wr) ∧ Hid (Blks (fun c => s ∣ c) key E n ∧ E.Perm D0 ∧ n = E.length)
def Pass3 (g n c N s : Nat) (key : Int → Int) (D0 : List Int) (w0 : World) (va vb : Value) (wr : World) : Prop :=
  ∃ (a b : Nat) (E : List Int), va = .int .i64 a ∧ vb = .int .i64 b ∧ Hid (b = a + 2 * s ∧ 2 * s ∣ a ∧ a ≤ n) ∧ Hid (OwnI wr N (.slice (some ⟨g, 0, none⟩) n c) E ∧ GrownL [g] w0 wr) ∧ Hid (Blks (Bd2 s a) key E n ∧ E.Perm D0 ∧ n = E.length)
/-- What the sort leaves behind. -/
def SortPost (g n c N : Nat) (key : Int → Int) (D0 : List Int) (w0 w' : World) : Prop :=
  ∃ E, OwnI w' N (.slice (some ⟨g, 0, none⟩) n c) E ∧ SortedOn key E 0 n ∧ E.Perm D0 ∧ GrownL [g] w0 w'

set_option maxRecDepth 100000 in
set_option maxHeartbeats 4000000 in
theorem stable_any (g n c N kb : Nat) (key : Int → Int) (cf : Int → Int → Int) (hcf : ∀ x y, cf x y < 0 ↔ key x < key y) (D0 : List Int) (w0 : World) (hcmp : CmpOk kb cf g D0 w0) (hsz : n ≤ 1048576)
    (D : List Int) (w : World) (hg0 : GrownL [g] w0 w) (ho : OwnI w N (.slice (some ⟨g, 0, none⟩) n c) D) (hn : n = D.length) (hperm : D.Perm D0) (hasc : ∀ p q, p < q → q < n → nth D p < nth D q) :
    Calls Try.prog 134 #[.slice (some ⟨g, 0, none⟩) n c, .int .i64 n, .func (.func 106) #[] #[.pointer (some ⟨kb, 0, none⟩)]] w fun e w' => e = .returned (.tuple #[]) ∧ SortPost g n c N key D0 w0 w' := by
  have HINS : Hid (∀ (a b : Nat) (E : List Int) (W : World), GrownL [g] w0 W → OwnI W N (.slice (some ⟨g, 0, none⟩) n c) E → n = E.length → E.Perm D0 → a ≤ b → b ≤ n → (∀ p q, a ≤ p → p < q → q < b → nth E p < nth E q) →
      Calls Try.prog 144 #[.slice (some ⟨g, 0, none⟩) n c, .int .i64 a, .int .i64 b, .func (.func 106) #[] #[.pointer (some ⟨kb, 0, none⟩)]] W fun e w' => e = .returned (.tuple #[]) ∧ MergePost g n c N a b key E w0 w') := fun a b E W h1 h2 h3 h4 h5 h6 h7 =>
    insertion_any g n c a b N kb key cf hcf D0 E w0 W h1 h2 h3 h4 hcmp h5 h6 hsz h7
  have HSYM : Hid (∀ (a m b : Nat) (E : List Int) (W : World), GrownL [g] w0 W → OwnI W N (.slice (some ⟨g, 0, none⟩) n c) E → n = E.length → E.Perm D0 → a < m → m < b → b ≤ n → MergePre key E a m b →
      Calls Try.prog 145 #[.slice (some ⟨g, 0, none⟩) n c, .int .i64 a, .int .i64 m, .int .i64 b, .func (.func 106) #[] #[.pointer (some ⟨kb, 0, none⟩)]] W fun e w' => e = .returned (.tuple #[]) ∧ MergePost g n c N a b key E w0 w') := fun a m b E W h1 h2 h3 h4 h5 h6 h7 h8 =>
    symMerge_any g n c N kb key cf hcf D0 w0 hcmp hsz (b - a) a m b E W (Nat.le_refl _) h1 h2 h3 h4 h5 h6 h7 h8
  have HO := Lib.hid ho
  have HG := Lib.hid hg0
  have HD : Hid (Blks (Bd20 0) key D n ∧ D.Perm D0 ∧ n = D.length) := ⟨(Blks.all hasc).congr fun c _ _ => ⟨fun _ => .inl (Nat.zero_le _), fun _ => trivial⟩, hperm, hn⟩
  clear ho hg0 hn hperm hcmp hasc
  go_enter Try.func134, Try.ntmps134
  go_wp2
  go_loopw [7, 8] (fun va vb wr => Pass1 g n c N key D0 w0 va vb wr) (fun va vb _ => n + 1 - (intOf vb).toNat)
  case atStart => exact ⟨0, 20, D, rfl, rfl, ⟨rfl, Nat.dvd_zero _, Nat.zero_le _⟩, ⟨HO.out, HG.out⟩, HD.out⟩
  case round =>
    obtain ⟨a, b, E, rfl, rfl, HA, HE, HB⟩ := hrel
    clear HO HG HD
    have hb0 : 20 ≤ b ∧ b ≤ n + 20 ∧ a ≤ n := by have := HA.out; omega
    by_cases hbn : b ≤ n
    · have i1 : (b : Int) ≤ (n : Int) := by omega
      have HC := Lib.hid (HINS.out a b E wr HE.out.2 HE.out.1 HB.out.2.2 HB.out.2.1 (by have := HA.out; omega) hbn (HB.out.1.asc hbn fun c c1 c2 => .inl (by omega)))
      go_wp2_with fail
      refine HC.out.mono ?_
      rintro _ W1 ⟨rfl, hr⟩
      have HR : Hid (∃ F, (OwnI W1 N (.slice (some ⟨g, 0, none⟩) n c) F ∧ GrownL [g] w0 W1) ∧ Blks (Bd20 b) key F n ∧ F.Perm D0 ∧ n = F.length) := by
        obtain ⟨F, hF, hs, hseg, hgr⟩ := hr
        obtain ⟨e1, e2, e3⟩ := HA.out
        rw [e1] at hs hseg ⊢
        exact ⟨F, ⟨hF, hgr⟩, Bd20.next HB.out.1 e2 hseg hs (by omega), hseg.perm.trans HB.out.2.1, HB.out.2.2.trans hseg.len.symm⟩
      clear hr HC
      go_wp2
      go_roundw
      case rel =>
        obtain ⟨F, hF, hB⟩ := HR.out
        have hA := HA.out
        refine ⟨b, b + 20, F, rfl, by go_num, ⟨rfl, ?_, hbn⟩, hF, hB⟩
        rw [hA.1]; exact (Nat.dvd_add_right hA.2.1).2 (Nat.dvd_refl _)
      case measure => simp [intOf]; omega
    · have i1 : ¬ (b : Int) ≤ (n : Int) := by omega
      have HC := Lib.hid (HINS.out a n E wr HE.out.2 HE.out.1 HB.out.2.2 HB.out.2.1 hb0.2.2 (Nat.le_refl _) (HB.out.1.asc (Nat.le_refl _) fun c c1 c2 => .inl (by omega)))
      go_wp2_with fail
      refine HC.out.mono ?_
      rintro _ W1 ⟨rfl, hr⟩
      have HR : Hid (∃ F, (OwnI W1 N (.slice (some ⟨g, 0, none⟩) n c) F ∧ GrownL [g] w0 W1) ∧ Blks (fun c => 20 ∣ c) key F n ∧ F.Perm D0 ∧ n = F.length) := by
        obtain ⟨F, hF, hs, hseg, hgr⟩ := hr
        obtain ⟨e1, e2, e3⟩ := HA.out
        exact ⟨F, ⟨hF, hgr⟩, Bd20.last HB.out.1 e2 hseg hs e3 (by omega), hseg.perm.trans HB.out.2.1, HB.out.2.2.trans hseg.len.symm⟩
      clear hr HC HE HB HINS HA hb0 hbn
      go_wp2
      go_loopw [6] (fun vs wr => Pass2 g n c N key D0 w0 vs wr) (fun vs _ => n - (intOf vs).toNat)
      case atStart =>
        obtain ⟨F, hF, hB⟩ := HR.out
        exact ⟨20, F, rfl, by omega, by omega, hF, hB⟩
      case round =>
        obtain ⟨s, E, rfl, hs1, hs2, HE, HB⟩ := hrel
        clear HR
        by_cases hsn : s < n
        · have j1 : (s : Int) < (n : Int) := by omega
          obtain ⟨d, hd⟩ : ∃ d, d = 2 * s := ⟨_, rfl⟩
          have hdI : 2 * (s : Int) = (d : Int) := by omega
          have hdJ : (s : Int) * 2 = (d : Int) := by omega
          have hd2 : d ≤ 2097152 := by omega
          have hd0 : 1 ≤ d := by omega
          have HD := Lib.hid hd
          clear hd
          go_wp2
          go_loopw [7, 8] (fun va vb wr => Pass3 g n c N s key D0 w0 va vb wr) (fun va vb _ => n + 1 - (intOf vb).toNat)
          case atStart =>
            refine ⟨0, d, E, rfl, rfl, ⟨by rw [HD.out, Nat.zero_add], Nat.dvd_zero _, Nat.zero_le _⟩, HE.out, HB.out.1.congr fun c c1 _ => bd2_start s c c1, HB.out.2⟩
          case round =>
            obtain ⟨a, b, F, rfl, rfl, HA, HF, HBF⟩ := hrel
            clear HE HB
            have hb0 : d ≤ b ∧ b ≤ n + d ∧ a ≤ n ∧ b = a + d ∧ d = 2 * s := by have := HA.out; have := HD.out; omega
            obtain ⟨m, hm⟩ : ∃ m, m = a + s := ⟨_, rfl⟩
            have hmI : (a : Int) + (s : Int) = (m : Int) := by omega
            have hmb : m ≤ 4194304 := by omega
            by_cases hbn : b ≤ n
            · have k1 : (b : Int) ≤ (n : Int) := by omega
              have HC := Lib.hid (HSYM.out a m b F wr HF.out.2 HF.out.1 HBF.out.2.2 HBF.out.2.1 (by omega) (by omega) hbn (HBF.out.1.pre hbn (by rw [hm]; exact Bd2.mid hs1 HA.out.2.1) (by omega) (by omega) fun c c1 c2 hc => by rw [hm]; exact Bd2.only HA.out.2.1 c1 (by rw [← HA.out.1]; exact c2) hc))
              have HM := Lib.hid hm
              have HB0 := Lib.hid hb0
              clear hm hb0
              go_wp2_with fail
              refine HC.out.mono ?_
              rintro _ W1 ⟨rfl, hr⟩
              have HR : Hid (∃ G, (OwnI W1 N (.slice (some ⟨g, 0, none⟩) n c) G ∧ GrownL [g] w0 W1) ∧ Blks (Bd2 s b) key G n ∧ G.Perm D0 ∧ n = G.length) := by
                obtain ⟨G, hG, hs, hseg, hgr⟩ := hr
                obtain ⟨e1, e2, e3⟩ := HA.out
                rw [e1] at hs hseg ⊢
                exact ⟨G, ⟨hG, hgr⟩, Bd2.next HBF.out.1 hs1 e2 hseg hs (by omega), hseg.perm.trans HBF.out.2.1, HBF.out.2.2.trans hseg.len.symm⟩
              clear hr HC
              go_wp2
              go_roundw
              case rel =>
                obtain ⟨G, hG, hB⟩ := HR.out
                have hA := HA.out
                have h0 := HB0.out
                refine ⟨b, b + d, G, rfl, by go_num, ⟨by rw [h0.2.2.2.2], ?_, hbn⟩, hG, hB⟩
                rw [hA.1]; exact (Nat.dvd_add_right hA.2.1).2 (Nat.dvd_refl _)
              case measure => have := HB0.out; simp [intOf]; omega
            · have k1 : ¬ (b : Int) ≤ (n : Int) := by omega
              by_cases hmn : m < n
              · have l1 : (m : Int) < (n : Int) := by omega
                have HC := Lib.hid (HSYM.out a m n F wr HF.out.2 HF.out.1 HBF.out.2.2 HBF.out.2.1 (by omega) hmn (Nat.le_refl _) (HBF.out.1.pre (Nat.le_refl _) (by rw [hm]; exact Bd2.mid hs1 HA.out.2.1) (by omega) hmn fun c c1 c2 hc => by rw [hm]; exact Bd2.only HA.out.2.1 c1 (by rw [← HA.out.1]; omega) hc))
                have HM := Lib.hid hm
                have HB0 := Lib.hid hb0
                clear hm hb0
                go_wp2_with fail
                refine HC.out.mono ?_
                rintro _ W1 ⟨rfl, hr⟩
                have HR : Hid (∃ G, (OwnI W1 N (.slice (some ⟨g, 0, none⟩) n c) G ∧ GrownL [g] w0 W1) ∧ Blks (fun c => d ∣ c) key G n ∧ G.Perm D0 ∧ n = G.length) := by
                  obtain ⟨G, hG, hs, hseg, hgr⟩ := hr
                  obtain ⟨e1, e2, e3⟩ := HA.out
                  rw [HD.out]
                  exact ⟨G, ⟨hG, hgr⟩, Bd2.last HBF.out.1 hs1 e2 hseg hs (by omega), hseg.perm.trans HBF.out.2.1, HBF.out.2.2.trans hseg.len.symm⟩
                clear hr HC
                go_wp2
                go_roundw
                case rel =>
                  obtain ⟨G, hG, hB⟩ := HR.out
                  exact ⟨d, G, rfl, hd0, hd2, hG, hB⟩
                case measure => have := HB0.out; simp [intOf]; omega
              · have l1 : ¬ (m : Int) < (n : Int) := by omega
                have HR : Hid (Blks (fun c => d ∣ c) key F n) := by
                  obtain ⟨e1, e2, e3⟩ := HA.out
                  rw [HD.out]
                  exact Bd2.last HBF.out.1 hs1 e2 (SegSame.refl _ _ _) (HBF.out.1.sorted (Nat.le_refl _) fun c c1 c2 hc => by have := Bd2.only e2 c1 (by omega) hc; omega) (by omega)
                have HM := Lib.hid hm
                have HB0 := Lib.hid hb0
                clear hm hb0
                go_wp2
                go_roundw
                case rel => exact ⟨d, F, rfl, hd0, hd2, HF.out, HR.out, HBF.out.2⟩
                case measure => have := HB0.out; simp [intOf]; omega
        · have j1 : ¬ (s : Int) < (n : Int) := by omega
          have HFIN : Hid (SortPost g n c N key D0 w0 wr) := ⟨E, HE.out.1, blks_end HB.out.1 (by omega), HB.out.2.1, HE.out.2⟩
          clear HE HB
          go_wp2
          go_end0
          exact ⟨rfl, HFIN.out⟩
end Go.Proofs.Ytnpfninkopffmaa
