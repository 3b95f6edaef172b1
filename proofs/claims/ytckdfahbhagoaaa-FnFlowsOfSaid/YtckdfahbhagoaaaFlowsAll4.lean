/- A variable of a call's own, boxed, that holds a slice of integers of the call's own; slices.Chunk's two boxes told whole. Conditions: none. With texts that it needs. -/
import Derived.Test.YtckdfahbhagoaaaFlowsAll3
import Derived.Test.YtckdfahbhagoaaaFlowsAll1
import Derived.Test.YtckdfahbhagoaaaFlowsAll2
import Derived.Deep.QuietTactic
import Derived.BigQuiet
import Derived.RangeFuncNested
import Derived.RangeFuncBound
import Derived.RangeFuncCalls
import Derived.RangeFuncLeaves
import Derived.Shelf.Abstract
import Derived.Shelf.RegionOpen
import Derived.OwnWalkIn
import Derived.TacticsInMore
import Derived.LoopNIn
import Derived.LoopIn
import Derived.Sort.BigQuietIn
namespace Go.Proofs.Ytckdfahbhagoaaa
open Go.RowKit
set_option linter.unusedVariables false
set_option linter.unusedSimpArgs false

/-- The rounds of the first pass. -/
def Pass1 (g n c N : Nat) (key : Int → Int) (D0 : List Int) (w0 : World) (va vb : Value) (wr : World) : Prop :=
  ∃ (a b : Nat) (E : List Int), va = .int .i64 a ∧ vb = .int .i64 b ∧ Hid (b = a + 20 ∧ 20 ∣ a ∧ a ≤ n) ∧ Hid (OwnI wr N (.slice (some ⟨g, 0, none⟩) n c) E ∧ GrownL [g] w0 wr) ∧ Hid (Blks (Bd20 a) key E n ∧ E.Perm D0 ∧ n = E.length)
/-- The rounds of the second. -/
def Pass2 (g n c N : Nat) (key : Int → Int) (D0 : List Int) (w0 : World) (vs : Value) (wr : World) : Prop :=
  ∃ (s : Nat) (E : List Int), vs = .int .i64 s ∧ 1 ≤ s ∧ s ≤ 2097152 ∧ Hid (OwnI wr N (.slice (some ⟨g, 0, none⟩) n c) E ∧ GrownL [g] w0 wr) ∧ Hid (Blks (fun c => s ∣ c) key E n ∧ E.Perm D0 ∧ n = E.length)
def Pass3 (g n c N s : Nat) (key : Int → Int) (D0 : List Int) (w0 : World) (va vb : Value) (wr : World) : Prop :=
  ∃ (a b : Nat) (E : List Int), va = .int .i64 a ∧ vb = .int .i64 b ∧ Hid (b = a + 2 * s ∧ 2 * s ∣ a ∧ a ≤ n) ∧ Hid (OwnI wr N (.slice (some ⟨g, 0, none⟩) n c) E ∧ GrownL [g] w0 wr) ∧ Hid (Blks (Bd2 s a) key E n ∧ E.Perm D0 ∧ n = E.length)
/-- What the sort leaves behind. -/
def SortPost (g n c N : Nat) (key : Int → Int) (D0 : List Int) (w0 w' : World) : Prop :=
  ∃ E, OwnI w' N (.slice (some ⟨g, 0, none⟩) n c) E ∧ SortedOn key E 0 n ∧ E.Perm D0 ∧ GrownL [g] w0 w'

set_option maxRecDepth 100000 in
set_option maxHeartbeats 4000000 in
theorem stable_any (g n c N kb : Nat) (key : Int → Int) (cf : Int → Int → Int) (hcf : ∀ x y, cf x y < 0 ↔ key x < key y) (D0 : List Int) (w0 : World) (hcmp : CmpOk kb cf g D0 w0) (hsz : n ≤ 1048576)
    (D : List Int) (w : World) (hg0 : GrownL [g] w0 w) (ho : OwnI w N (.slice (some ⟨g, 0, none⟩) n c) D) (hn : n = D.length) (hperm : D.Perm D0) (hasc : ∀ p q, p < q → q < n → nth D p < nth D q) :
    Calls Try.prog 55 #[.slice (some ⟨g, 0, none⟩) n c, .int .i64 n, .func (.func 46) #[] #[.pointer (some ⟨kb, 0, none⟩)]] w fun e w' => e = .returned (.tuple #[]) ∧ SortPost g n c N key D0 w0 w' := by
  have HINS : Hid (∀ (a b : Nat) (E : List Int) (W : World), GrownL [g] w0 W → OwnI W N (.slice (some ⟨g, 0, none⟩) n c) E → n = E.length → E.Perm D0 → a ≤ b → b ≤ n → (∀ p q, a ≤ p → p < q → q < b → nth E p < nth E q) →
      Calls Try.prog 58 #[.slice (some ⟨g, 0, none⟩) n c, .int .i64 a, .int .i64 b, .func (.func 46) #[] #[.pointer (some ⟨kb, 0, none⟩)]] W fun e w' => e = .returned (.tuple #[]) ∧ MergePost g n c N a b key E w0 w') := fun a b E W h1 h2 h3 h4 h5 h6 h7 =>
    insertion_any g n c a b N kb key cf hcf D0 E w0 W h1 h2 h3 h4 hcmp h5 h6 hsz h7
  have HSYM : Hid (∀ (a m b : Nat) (E : List Int) (W : World), GrownL [g] w0 W → OwnI W N (.slice (some ⟨g, 0, none⟩) n c) E → n = E.length → E.Perm D0 → a < m → m < b → b ≤ n → MergePre key E a m b →
      Calls Try.prog 59 #[.slice (some ⟨g, 0, none⟩) n c, .int .i64 a, .int .i64 m, .int .i64 b, .func (.func 46) #[] #[.pointer (some ⟨kb, 0, none⟩)]] W fun e w' => e = .returned (.tuple #[]) ∧ MergePost g n c N a b key E w0 w') := fun a m b E W h1 h2 h3 h4 h5 h6 h7 h8 =>
    symMerge_any g n c N kb key cf hcf D0 w0 hcmp hsz (b - a) a m b E W (Nat.le_refl _) h1 h2 h3 h4 h5 h6 h7 h8
  have HO := Lib.hid ho
  have HG := Lib.hid hg0
  have HD : Hid (Blks (Bd20 0) key D n ∧ D.Perm D0 ∧ n = D.length) := ⟨(Blks.all hasc).congr fun c _ _ => ⟨fun _ => .inl (Nat.zero_le _), fun _ => trivial⟩, hperm, hn⟩
  clear ho hg0 hn hperm hcmp hasc
  go_enter Try.func55, Try.ntmps55
  go_wp2
  go_loopw [7, 8] (fun va vb wr => Pass1 g n c N key D0 w0 va vb wr) (fun va vb _ => n + 1 - (intOf vb).toNat)
  case atStart => exact ⟨0, 20, D, rfl, rfl, ⟨rfl, Nat.dvd_zero _, Nat.zero_le _⟩, ⟨HO.out, HG.out⟩, HD.out⟩
  case round =>
    obtain ⟨a, b, E, rfl, rfl, HA, HE, HB⟩ := hrel
    clear HO HG HD
    have hb0 : 20 ≤ b ∧ b ≤ n + 20 ∧ a ≤ n := by have := HA.out; omega
    by_cases hbn : b ≤ n
    · have i1 : (b : Int) ≤ (n : Int) := by omega
      have HC := Lib.hid (HINS.out a b E wr HE.out.2 HE.out.1 HB.out.2.2 HB.out.2.1 (by have := HA.out; omega) hbn (HB.out.1.asc hbn fun c c1 c2 => .inl (by omega)))
      go_wp2_with fail
      refine HC.out.mono ?_
      rintro _ W1 ⟨rfl, hr⟩
      have HR : Hid (∃ F, (OwnI W1 N (.slice (some ⟨g, 0, none⟩) n c) F ∧ GrownL [g] w0 W1) ∧ Blks (Bd20 b) key F n ∧ F.Perm D0 ∧ n = F.length) := by
        obtain ⟨F, hF, hs, hseg, hgr⟩ := hr
        obtain ⟨e1, e2, e3⟩ := HA.out
        rw [e1] at hs hseg ⊢
        exact ⟨F, ⟨hF, hgr⟩, Bd20.next HB.out.1 e2 hseg hs (by omega), hseg.perm.trans HB.out.2.1, HB.out.2.2.trans hseg.len.symm⟩
      clear hr HC
      go_wp2
      go_roundw
      case rel =>
        obtain ⟨F, hF, hB⟩ := HR.out
        have hA := HA.out
        refine ⟨b, b + 20, F, rfl, by go_num, ⟨rfl, ?_, hbn⟩, hF, hB⟩
        rw [hA.1]; exact (Nat.dvd_add_right hA.2.1).2 (Nat.dvd_refl _)
      case measure => simp [intOf]; omega
    · have i1 : ¬ (b : Int) ≤ (n : Int) := by omega
      have HC := Lib.hid (HINS.out a n E wr HE.out.2 HE.out.1 HB.out.2.2 HB.out.2.1 hb0.2.2 (Nat.le_refl _) (HB.out.1.asc (Nat.le_refl _) fun c c1 c2 => .inl (by omega)))
      go_wp2_with fail
      refine HC.out.mono ?_
      rintro _ W1 ⟨rfl, hr⟩
      have HR : Hid (∃ F, (OwnI W1 N (.slice (some ⟨g, 0, none⟩) n c) F ∧ GrownL [g] w0 W1) ∧ Blks (fun c => 20 ∣ c) key F n ∧ F.Perm D0 ∧ n = F.length) := by
        obtain ⟨F, hF, hs, hseg, hgr⟩ := hr
        obtain ⟨e1, e2, e3⟩ := HA.out
        exact ⟨F, ⟨hF, hgr⟩, Bd20.last HB.out.1 e2 hseg hs e3 (by omega), hseg.perm.trans HB.out.2.1, HB.out.2.2.trans hseg.len.symm⟩
      clear hr HC HE HB HINS HA hb0 hbn
      go_wp2
      go_loopw [6] (fun vs wr => Pass2 g n c N key D0 w0 vs wr) (fun vs _ => n - (intOf vs).toNat)
      case atStart =>
        obtain ⟨F, hF, hB⟩ := HR.out
        exact ⟨20, F, rfl, by omega, by omega, hF, hB⟩
      case round =>
        obtain ⟨s, E, rfl, hs1, hs2, HE, HB⟩ := hrel
        clear HR
        by_cases hsn : s < n
        · have j1 : (s : Int) < (n : Int) := by omega
          obtain ⟨d, hd⟩ : ∃ d, d = 2 * s := ⟨_, rfl⟩
          have hdI : 2 * (s : Int) = (d : Int) := by omega
          have hdJ : (s : Int) * 2 = (d : Int) := by omega
          have hd2 : d ≤ 2097152 := by omega
          have hd0 : 1 ≤ d := by omega
          have HD := Lib.hid hd
          clear hd
          go_wp2
          go_loopw [7, 8] (fun va vb wr => Pass3 g n c N s key D0 w0 va vb wr) (fun va vb _ => n + 1 - (intOf vb).toNat)
          case atStart =>
            refine ⟨0, d, E, rfl, rfl, ⟨by rw [HD.out, Nat.zero_add], Nat.dvd_zero _, Nat.zero_le _⟩, HE.out, HB.out.1.congr fun c c1 _ => bd2_start s c c1, HB.out.2⟩
          case round =>
            obtain ⟨a, b, F, rfl, rfl, HA, HF, HBF⟩ := hrel
            clear HE HB
            have hb0 : d ≤ b ∧ b ≤ n + d ∧ a ≤ n ∧ b = a + d ∧ d = 2 * s := by have := HA.out; have := HD.out; omega
            obtain ⟨m, hm⟩ : ∃ m, m = a + s := ⟨_, rfl⟩
            have hmI : (a : Int) + (s : Int) = (m : Int) := by omega
            have hmb : m ≤ 4194304 := by omega
            by_cases hbn : b ≤ n
            · have k1 : (b : Int) ≤ (n : Int) := by omega
              have HC := Lib.hid (HSYM.out a m b F wr HF.out.2 HF.out.1 HBF.out.2.2 HBF.out.2.1 (by omega) (by omega) hbn (HBF.out.1.pre hbn (by rw [hm]; exact Bd2.mid hs1 HA.out.2.1) (by omega) (by omega) fun c c1 c2 hc => by rw [hm]; exact Bd2.only HA.out.2.1 c1 (by rw [← HA.out.1]; exact c2) hc))
              have HM := Lib.hid hm
              have HB0 := Lib.hid hb0
              clear hm hb0
              go_wp2_with fail
              refine HC.out.mono ?_
              rintro _ W1 ⟨rfl, hr⟩
              have HR : Hid (∃ G, (OwnI W1 N (.slice (some ⟨g, 0, none⟩) n c) G ∧ GrownL [g] w0 W1) ∧ Blks (Bd2 s b) key G n ∧ G.Perm D0 ∧ n = G.length) := by
                obtain ⟨G, hG, hs, hseg, hgr⟩ := hr
                obtain ⟨e1, e2, e3⟩ := HA.out
                rw [e1] at hs hseg ⊢
                exact ⟨G, ⟨hG, hgr⟩, Bd2.next HBF.out.1 hs1 e2 hseg hs (by omega), hseg.perm.trans HBF.out.2.1, HBF.out.2.2.trans hseg.len.symm⟩
              clear hr HC
              go_wp2
              go_roundw
              case rel =>
                obtain ⟨G, hG, hB⟩ := HR.out
                have hA := HA.out
                have h0 := HB0.out
                refine ⟨b, b + d, G, rfl, by go_num, ⟨by rw [h0.2.2.2.2], ?_, hbn⟩, hG, hB⟩
                rw [hA.1]; exact (Nat.dvd_add_right hA.2.1).2 (Nat.dvd_refl _)
              case measure => have := HB0.out; simp [intOf]; omega
            · have k1 : ¬ (b : Int) ≤ (n : Int) := by omega
              by_cases hmn : m < n
              · have l1 : (m : Int) < (n : Int) := by omega
                have HC := Lib.hid (HSYM.out a m n F wr HF.out.2 HF.out.1 HBF.out.2.2 HBF.out.2.1 (by omega) hmn (Nat.le_refl _) (HBF.out.1.pre (Nat.le_refl _) (by rw [hm]; exact Bd2.mid hs1 HA.out.2.1) (by omega) hmn fun c c1 c2 hc => by rw [hm]; exact Bd2.only HA.out.2.1 c1 (by rw [← HA.out.1]; omega) hc))
                have HM := Lib.hid hm
                have HB0 := Lib.hid hb0
                clear hm hb0
                go_wp2_with fail
                refine HC.out.mono ?_
                rintro _ W1 ⟨rfl, hr⟩
                have HR : Hid (∃ G, (OwnI W1 N (.slice (some ⟨g, 0, none⟩) n c) G ∧ GrownL [g] w0 W1) ∧ Blks (fun c => d ∣ c) key G n ∧ G.Perm D0 ∧ n = G.length) := by
                  obtain ⟨G, hG, hs, hseg, hgr⟩ := hr
                  obtain ⟨e1, e2, e3⟩ := HA.out
                  rw [HD.out]
                  exact ⟨G, ⟨hG, hgr⟩, Bd2.last HBF.out.1 hs1 e2 hseg hs (by omega), hseg.perm.trans HBF.out.2.1, HBF.out.2.2.trans hseg.len.symm⟩
                clear hr HC
                go_wp2
                go_roundw
                case rel =>
                  obtain ⟨G, hG, hB⟩ := HR.out
                  exact ⟨d, G, rfl, hd0, hd2, hG, hB⟩
                case measure => have := HB0.out; simp [intOf]; omega
              · have l1 : ¬ (m : Int) < (n : Int) := by omega
                have HR : Hid (Blks (fun c => d ∣ c) key F n) := by
                  obtain ⟨e1, e2, e3⟩ := HA.out
                  rw [HD.out]
                  exact Bd2.last HBF.out.1 hs1 e2 (SegSame.refl _ _ _) (HBF.out.1.sorted (Nat.le_refl _) fun c c1 c2 hc => by have := Bd2.only e2 c1 (by omega) hc; omega) (by omega)
                have HM := Lib.hid hm
                have HB0 := Lib.hid hb0
                clear hm hb0
                go_wp2
                go_roundw
                case rel => exact ⟨d, F, rfl, hd0, hd2, HF.out, HR.out, HBF.out.2⟩
                case measure => have := HB0.out; simp [intOf]; omega
        · have j1 : ¬ (s : Int) < (n : Int) := by omega
          have HFIN : Hid (SortPost g n c N key D0 w0 wr) := ⟨E, HE.out.1, blks_end HB.out.1 (by omega), HB.out.2.1, HE.out.2⟩
          clear HE HB
          go_wp2
          go_end0
          exact ⟨rfl, HFIN.out⟩
end Go.Proofs.Ytckdfahbhagoaaa

namespace Go.Proofs.Ytckdfahbhagoaaa
open Go.RowKit
set_option linter.unusedVariables false
set_option linter.unusedSimpArgs false

/-- -1, 0 or 1. -/
def cmpI (x y : Int) : Int := if x < y then -1 else if y < x then 1 else 0
theorem cmpI_neg (x y : Int) : cmpI x y < 0 ↔ x < y := by unfold cmpI; split <;> (try split) <;> omega

set_option maxRecDepth 100000 in
theorem compare_any (x y : Int) (w : World) : Calls Try.prog 47 #[.int .i64 x, .int .i64 y] w fun e w' => e = .returned (.int .i64 (cmpI x y)) ∧ w = w' := by
  have hN : Hid (∀ z, Calls Try.prog 56 #[.int .i64 z] w fun e w' => e = .returned (.bool false) ∧ w = w') := by
    intro z
    go_enter Try.func56, Try.ntmps56
    go_wp2
    go_ret
    trivial
  go_enter Try.func47, Try.ntmps47
  by_cases h1 : x < y
  · have e1 : Hid (cmpI x y = -1) := by show _ = _; unfold cmpI; rw [if_pos h1]
    go_wp2_with (go_at_call 56; refine (hN.out _).mono ?_; rintro e w' ⟨rfl, rfl⟩)
    go_ret
    exact ⟨ret_int e1.out.symm, rfl⟩
  · by_cases h2 : x > y
    · have e1 : Hid (cmpI x y = 1) := by show _ = _; unfold cmpI; rw [if_neg h1, if_pos h2]
      go_wp2_with (go_at_call 56; refine (hN.out _).mono ?_; rintro e w' ⟨rfl, rfl⟩)
      go_ret
      exact ⟨ret_int e1.out.symm, rfl⟩
    · have e1 : Hid (cmpI x y = 0) := by show _ = _; unfold cmpI; rw [if_neg h1, if_neg h2]
      go_wp2_with (go_at_call 56; refine (hN.out _).mono ?_; rintro e w' ⟨rfl, rfl⟩)
      go_ret
      exact ⟨ret_int e1.out.symm, rfl⟩

/-- What is asked of a key: it only reads. -/
def KeyAt (kf : Nat) (cap : Array Value) (key : Int → Int) (x : Int) (W : World) : Prop :=
  Calls Try.prog kf (#[.int .i64 x] ++ cap) W fun e w' => e = .returned (.int .i64 (key x)) ∧ ∃ q, w' = W.drewN q

set_option maxRecDepth 100000 in
theorem cmpBy_any (kb kf : Nat) (cap : Array Value) (key : Int → Int) (x y : Int) (W : World) (hb : Boxed W kb 40 (.func (.func kf) #[] cap)) (hx : ∀ q, KeyAt kf cap key x (W.drewN q)) (hy : ∀ q, KeyAt kf cap key y (W.drewN q))
    (heg : ∀ args w, (callFunc kf args).run Try.prog w = .ok (.enter kf args) w) :
    Calls Try.prog 46 #[.int .i64 x, .int .i64 y, .pointer (some ⟨kb, 0, none⟩)] W fun e w' => e = .returned (.int .i64 (cmpI (key x) (key y))) ∧ ∃ q, w' = W.drewN q := by
  have HX := Lib.hid hx
  have HY := Lib.hid hy
  have hbc := hb.cell
  clear hx hy hb
  go_enter Try.func46, Try.ntmps46
  go_wp2
  go_quiet ((first | exact quiet_drewI (HX.out _) | exact quiet_drewI (HY.out _) | (go_at_call 47; exact quiet_eq (compare_any _ _ _))))
  go_wp2
  go_ret
  exact ⟨rfl, _, rfl⟩

/-- Sorted by the key, equal ones in their order. -/
def SortsBy (key : Int → Int) (n : Nat) (E : List Int) : Prop := E.Perm (idL n) ∧ SortedOn key E 0 n
theorem idL_mem {n : Nat} {x : Int} : x ∈ idL n ↔ 0 ≤ x ∧ x < n := by
  unfold idL
  rw [List.mem_map]
  constructor
  · rintro ⟨i, hi, rfl⟩
    have := List.mem_range.1 hi
    omega
  · intro h
    exact ⟨x.toNat, List.mem_range.2 (by omega), by omega⟩

theorem sortStable_any (g n c N kb : Nat) (key : Int → Int) (cf : Int → Int → Int) (hcf : ∀ x y, cf x y < 0 ↔ key x < key y) (D0 : List Int) (w0 : World) (hcmp : CmpOk kb cf g D0 w0) (hsz : n ≤ 1048576)
    (w : World) (hg0 : GrownL [g] w0 w) (ho : OwnI w N (.slice (some ⟨g, 0, none⟩) n c) D0) (hn : n = D0.length) (hasc : ∀ p q, p < q → q < n → nth D0 p < nth D0 q) :
    Calls Try.prog 45 #[.slice (some ⟨g, 0, none⟩) n c, .func (.func 46) #[] #[.pointer (some ⟨kb, 0, none⟩)]] w fun e w' => e = .returned (.tuple #[]) ∧ SortPost g n c N key D0 w0 w' := by
  have HC := Lib.hid (stable_any g n c N kb key cf hcf D0 w0 hcmp hsz D0 w hg0 ho hn (List.Perm.refl _) hasc)
  clear hcmp ho hg0 hasc hn
  go_enter Try.func45, Try.ntmps45
  go_wp2_with fail
  refine HC.out.mono ?_
  rintro _ W1 ⟨rfl, hr⟩
  have HR := Lib.hid hr
  clear hr HC
  go_wp2
  go_end0
  exact ⟨rfl, HR.out⟩

set_option maxRecDepth 100000 in
set_option maxHeartbeats 2000000 in
theorem sortedBy_any (n kf : Nat) (cap : Array Value) (key : Int → Int) (w : World) (hn : n ≤ 1048576) (hkey : ∀ W (x : Int), 0 ≤ x → x < n → Below w.heap.size w W → KeyAt kf cap key x W)
    (heg : ∀ args w, (callFunc kf args).run Try.prog w = .ok (.enter kf args) w) :
    Calls Try.prog 32 #[.int .i64 n, .func (.func kf) #[] cap] w fun e w' => (∃ g c E, e = .returned (.slice (some ⟨g, 0, none⟩) n c) ∧ OwnI w' w.heap.size (.slice (some ⟨g, 0, none⟩) n c) E ∧ n = E.length ∧ SortsBy key n E) ∧ Below w.heap.size w w' := by
  have HKEY := Lib.hid hkey
  clear hkey
  obtain ⟨W0, hW0⟩ : ∃ W, w.alloc (.cells #[.func (.func kf) #[] cap] 40) = W := ⟨_, rfl⟩
  have HB0 : Hid (Below w.heap.size w W0) := by show Below _ _ _; rw [← hW0]; exact (Below.refl _ w).alloc (Nat.le_refl _) _
  have HBX : Hid (Boxed W0 w.heap.size 40 (.func (.func kf) #[] cap)) := by show Boxed _ _ _ _; rw [← hW0]; exact Boxed.new _ _ _
  have HSZ : Hid (W0.heap.size = w.heap.size + 1) := by show _ = _; rw [← hW0]; simp
  have HCNT := Lib.hid (counting_any n W0 hn)
  go_enter Try.func32, Try.ntmps32
  go_wp2_with fail
  refine HCNT.out.mono ?_
  rintro e W1 ⟨⟨g, c, rfl, ho⟩, hb⟩
  have hgb : w.heap.size ≠ g ∧ W0.heap.size ≤ g := by
    rcases ho.2 with ⟨h1, _⟩ | ⟨g', cap', cur, h1, h2, _⟩
    · cases h1
    · obtain ⟨rfl⟩ : g = g' := by simp at h1; exact h1.1
      have := HSZ.out
      omega
  have hs1 := hb.size
  have HBX1 : Hid (Boxed W1 w.heap.size 40 (.func (.func kf) #[] cap)) := (hb.block _ (by have := HSZ.out; omega)).trans HBX.out
  have HB1 : Hid (Below w.heap.size w W1) := HB0.out.trans (hb.mono (by have := HSZ.out; omega))
  have HC := Lib.hid (sortStable_any g n c W0.heap.size w.heap.size key (fun x y => cmpI (key x) (key y)) (fun x y => cmpI_neg _ _) (idL n) W1 (by
    intro W x y hx hy hW
    have hx1 := idL_mem.1 hx
    have hy1 := idL_mem.1 hy
    have hbW : ∀ q, Below w.heap.size w (W.drewN q) := fun q => (hW.drewN q).toBelow HB1.out (by have := HSZ.out; omega) (fun i hi => by simp; have := HSZ.out; omega)
    exact cmpBy_any w.heap.size kf cap key x y W (hW.boxed HBX1.out (by simp; exact hgb.1)) (fun q => HKEY.out _ x hx1.1 hx1.2 (hbW q)) (fun q => HKEY.out _ y hy1.1 hy1.2 (hbW q)) heg) hn W1 (GrownL.refl _ _) ho (idL_length n).symm (fun p q h1 h2 => by rw [idL_get (by omega), idL_get h2]; omega))
  have HGB := Lib.hid hgb
  clear ho hb hgb hs1 HCNT hW0 HKEY
  go_wp2_with fail
  refine HC.out.mono ?_
  rintro _ W2 ⟨rfl, hr⟩
  have HR : Hid ((∃ E, OwnI W2 w.heap.size (.slice (some ⟨g, 0, none⟩) n c) E ∧ n = E.length ∧ SortsBy key n E) ∧ Below w.heap.size w W2) := by
    obtain ⟨E, hE, hs, hp, hg⟩ := hr
    refine ⟨⟨E, hE.mono (by have := HSZ.out; omega), by rw [hp.length_eq, idL_length], hp, hs⟩, hg.toBelow HB1.out (by have := HB1.out.size; omega) (fun i hi => by simp; have := HGB.out; have := HSZ.out; omega)⟩
  clear hr HC
  go_wp2
  go_ret
  obtain ⟨⟨E, h1, h2, h3⟩, h4⟩ := HR.out
  exact ⟨⟨g, c, E, rfl, h1, h2, h3⟩, h4⟩
end Go.Proofs.Ytckdfahbhagoaaa

namespace Go.Proofs.Ytckdfahbhagoaaa
open Go.RowKit
set_option linter.unusedVariables false
set_option linter.unusedSimpArgs false

/-! The sorted list is one alone. -/
def lexLe (key : Int → Int) (x y : Int) : Bool := decide (key x < key y) || (decide (key x = key y) && decide (x ≤ y))
theorem lexLe_iff {key : Int → Int} {x y : Int} : lexLe key x y = true ↔ key x < key y ∨ key x = key y ∧ x ≤ y := by simp [lexLe]
def sortsL (key : Int → Int) (n : Nat) : List Int := (idL n).mergeSort (lexLe key)
theorem pairwise_of_on {key : Int → Int} {E : List Int} {n : Nat} (hl : E.length = n) (h : SortedOn key E 0 n) : E.Pairwise (lexLt key) := by
  rw [List.pairwise_iff_getElem]
  intro i j hi hj hij
  have := h i j (Nat.zero_le _) hij (by omega)
  rwa [nth_eq hi, nth_eq hj] at this
theorem on_of_pairwise {key : Int → Int} {E : List Int} {n : Nat} (hl : E.length = n) (h : E.Pairwise (lexLt key)) : SortedOn key E 0 n := fun i j _ hij hj => by
  rw [nth_eq (by omega), nth_eq (by omega)]
  exact List.pairwise_iff_getElem.1 h i j (by omega) (by omega) hij
theorem idL_nodup (n : Nat) : (idL n).Pairwise fun x y => x ≠ y := by
  rw [List.pairwise_iff_getElem]
  intro i j hi hj hij
  rw [idL_length] at hi hj
  rw [← nth_eq, ← nth_eq, idL_get hi, idL_get hj]; omega
theorem sortsL_ok (key : Int → Int) (n : Nat) : SortsBy key n (sortsL key n) := by
  have hp : (sortsL key n).Perm (idL n) := List.mergeSort_perm _ _
  refine ⟨hp, on_of_pairwise (by rw [hp.length_eq, idL_length]) ?_⟩
  have h1 : (sortsL key n).Pairwise fun a b => lexLe key a b = true := List.pairwise_mergeSort (fun a b c h k => by rw [lexLe_iff] at *; omega) (fun a b => by rw [Bool.or_eq_true, lexLe_iff, lexLe_iff]; omega) _
  have h2 : (sortsL key n).Pairwise fun x y => x ≠ y := (hp.pairwise_iff (fun h => Ne.symm h)).2 (idL_nodup n)
  exact (h1.and h2).imp fun ⟨h, k⟩ => by rw [lexLe_iff] at h; unfold lexLt; omega
theorem sorts_one {key : Int → Int} {n : Nat} {E F : List Int} (h : SortsBy key n E) (k : SortsBy key n F) : E = F := by
  refine List.Perm.eq_of_pairwise (le := lexLt key) (fun a b _ _ h1 h2 => ?_) (pairwise_of_on (by rw [h.1.length_eq, idL_length]) h.2) (pairwise_of_on (by rw [k.1.length_eq, idL_length]) k.2) (h.1.trans k.1.symm)
  unfold lexLt at h1 h2; omega

end Go.Proofs.Ytckdfahbhagoaaa

namespace Go.Proofs.Ytckdfahbhagoaaa
open Go.RowKit
set_option linter.unusedVariables false
set_option linter.unusedSimpArgs false

def insAt (O : List Int) (p : Nat) (i : Int) : List Int := O.take p ++ i :: O.drop p
theorem insAt_length (O : List Int) {p : Nat} (hp : p ≤ O.length) (i : Int) : (insAt O p i).length = O.length + 1 := by unfold insAt; simp; omega
theorem insAt_perm (O : List Int) (p : Nat) (i : Int) : (insAt O p i).Perm (O ++ [i]) := by
  unfold insAt
  refine List.perm_middle.trans ?_
  rw [List.take_append_drop]
  exact (List.perm_append_singleton i O).symm
/-- The best of the first p places, with its last end. -/
def insTo (ts : List Int) (M : Nat) (O : List Int) (i le0 : Int) : Nat → Option (List Int) × Int
  | 0 => (none, le0)
  | p + 1 => if (insTo ts M O i le0 p).1 = none ∨ fL ts M (insAt O p i) < (insTo ts M O i le0 p).2 then (some (insAt O p i), fL ts M (insAt O p i)) else insTo ts M O i le0 p
theorem insTo_spec (ts : List Int) (M : Nat) (O : List Int) (i le0 : Int) : ∀ p, 0 < p → ∃ q, q < p ∧ insTo ts M O i le0 p = (some (insAt O q i), fL ts M (insAt O q i))
  | 0, h => absurd h (Nat.lt_irrefl _)
  | p + 1, _ => by
    unfold insTo
    by_cases h : (insTo ts M O i le0 p).1 = none ∨ fL ts M (insAt O p i) < (insTo ts M O i le0 p).2
    · rw [if_pos h]; exact ⟨p, by omega, rfl⟩
    · rw [if_neg h]
      by_cases hp : 0 < p
      · obtain ⟨q, h1, h2⟩ := insTo_spec ts M O i le0 p hp
        exact ⟨q, by omega, h2⟩
      · obtain rfl : p = 0 := by omega
        exact absurd (.inl rfl) h
def nehTo (ts : List Int) (M : Nat) (S : List Int) : Nat → List Int × Int
  | 0 => ([], 0)
  | k + 1 => (((insTo ts M (nehTo ts M S k).1 (nth S k) (nehTo ts M S k).2 ((nehTo ts M S k).1.length + 1)).1).getD [], (insTo ts M (nehTo ts M S k).1 (nth S k) (nehTo ts M S k).2 ((nehTo ts M S k).1.length + 1)).2)
theorem nehTo_spec (ts : List Int) (M : Nat) (S : List Int) : ∀ k, k ≤ S.length → (nehTo ts M S k).1.Perm (S.take k) ∧ (0 < k → (nehTo ts M S k).2 = fL ts M (nehTo ts M S k).1)
  | 0, _ => ⟨by rw [List.take_zero]; exact List.Perm.refl _, fun h => absurd h (Nat.lt_irrefl _)⟩
  | k + 1, hk => by
    obtain ⟨h1, _⟩ := nehTo_spec ts M S k (by omega)
    obtain ⟨q, h2, h3⟩ := insTo_spec ts M (nehTo ts M S k).1 (nth S k) (nehTo ts M S k).2 ((nehTo ts M S k).1.length + 1) (by omega)
    unfold nehTo
    rw [h3]
    refine ⟨?_, fun _ => rfl⟩
    show (insAt _ q _).Perm _
    rw [List.take_succ_eq_append_getElem (by omega), ← nth_eq]
    exact (insAt_perm _ q _).trans (h1.append_right _)
theorem nehTo_len {ts : List Int} {M : Nat} {S : List Int} {k : Nat} (hk : k ≤ S.length) : (nehTo ts M S k).1.length = k := by
  rw [(nehTo_spec ts M S k hk).1.length_eq, List.length_take]; omega
/-- The sum of a job's times. -/
def ofF (ts : List Int) (M i : Nat) : Int := sF (tF ts M i) M
def nehS (ts : List Int) (M n : Nat) : List Int := sortsL (fun x => -ofF ts M x.toNat) n
def nehL (ts : List Int) (M n : Nat) : List Int := (nehTo ts M (nehS ts M n) n).1
def nehV (ts : List Int) (M n : Nat) : Int := (nehTo ts M (nehS ts M n) n).2
/-! The order for two machines. -/
def twoF (ts : List Int) (n : Nat) : List Int := (sortsL (fun x => tF ts 2 x.toNat 0) n).filter fun x => decide (tF ts 2 x.toNat 0 ≤ tF ts 2 x.toNat 1)
def twoB (ts : List Int) (n : Nat) : List Int := (sortsL (fun x => -tF ts 2 x.toNat 1) n).filter fun x => decide (tF ts 2 x.toNat 1 < tF ts 2 x.toNat 0)
def twoL (ts : List Int) (n : Nat) : List Int := twoF ts n ++ twoB ts n
theorem sorts_le {key : Int → Int} {n : Nat} {E : List Int} (h : SortsBy key n E) : E.Pairwise fun x y => key x ≤ key y := by
  refine (pairwise_of_on (by rw [h.1.length_eq, idL_length]) h.2).imp ?_
  intro a b h
  unfold lexLt at h
  omega
theorem twoL_ok (ts : List Int) (n : Nat) : JohnO ts n (twoL ts n) := by
  have h1 := sortsL_ok (fun x => tF ts 2 x.toNat 0) n
  have h2 := sortsL_ok (fun x => -tF ts 2 x.toNat 1) n
  have hperm : (twoL ts n).Perm (idL n) := by
    unfold twoL twoF twoB
    have e1 := h1.1.filter (fun x => decide (tF ts 2 x.toNat 0 ≤ tF ts 2 x.toNat 1))
    have e2 := h2.1.filter (fun x => decide (tF ts 2 x.toNat 1 < tF ts 2 x.toNat 0))
    refine (e1.append e2).trans ?_
    have e3 : (idL n).filter (fun x => decide (tF ts 2 x.toNat 1 < tF ts 2 x.toNat 0)) = (idL n).filter (fun x => !decide (tF ts 2 x.toNat 0 ≤ tF ts 2 x.toNat 1)) := by
      apply List.filter_congr
      intro x _
      by_cases e : tF ts 2 x.toNat 0 ≤ tF ts 2 x.toNat 1
      · rw [decide_eq_true e, decide_eq_false (by omega)]; rfl
      · rw [decide_eq_false e, decide_eq_true (by omega)]; rfl
    rw [e3]
    exact List.filter_append_perm _ _
  have hpw : (twoL ts n).Pairwise fun x y => (tF ts 2 y.toNat 0 ≤ tF ts 2 y.toNat 1 → tF ts 2 x.toNat 0 ≤ tF ts 2 x.toNat 1 ∧ tF ts 2 x.toNat 0 ≤ tF ts 2 y.toNat 0) ∧ (tF ts 2 x.toNat 1 < tF ts 2 x.toNat 0 → tF ts 2 y.toNat 1 < tF ts 2 y.toNat 0 ∧ tF ts 2 y.toNat 1 ≤ tF ts 2 x.toNat 1) := by
    unfold twoL
    rw [List.pairwise_append]
    have mF : ∀ x ∈ twoF ts n, tF ts 2 x.toNat 0 ≤ tF ts 2 x.toNat 1 := fun x hx => by unfold twoF at hx; exact of_decide_eq_true (List.mem_filter.1 hx).2
    have mB : ∀ x ∈ twoB ts n, tF ts 2 x.toNat 1 < tF ts 2 x.toNat 0 := fun x hx => by unfold twoB at hx; exact of_decide_eq_true (List.mem_filter.1 hx).2
    refine ⟨?_, ?_, fun x hx y hy => ?_⟩
    · have := (sorts_le h1).filter (fun x => decide (tF ts 2 x.toNat 0 ≤ tF ts 2 x.toNat 1))
      have e : (twoF ts n).Pairwise fun x y => tF ts 2 x.toNat 0 ≤ tF ts 2 y.toNat 0 := this
      refine List.Pairwise.imp_of_mem (fun {x y} hx hy hxy => ?_) e
      have a := mF x hx
      have b := mF y hy
      exact ⟨fun _ => ⟨a, hxy⟩, fun h => by omega⟩
    · have := (sorts_le h2).filter (fun x => decide (tF ts 2 x.toNat 1 < tF ts 2 x.toNat 0))
      have e : (twoB ts n).Pairwise fun x y => -tF ts 2 x.toNat 1 ≤ -tF ts 2 y.toNat 1 := this
      refine List.Pairwise.imp_of_mem (fun {x y} hx hy hxy => ?_) e
      have a := mB x hx
      have b := mB y hy
      exact ⟨fun h => by omega, fun _ => ⟨b, by omega⟩⟩
    · have a := mF x hx
      have b := mB y hy
      exact ⟨fun h => by omega, fun h => by omega⟩
  have hl : (twoL ts n).length = n := by rw [hperm.length_eq, idL_length]
  have hp := List.pairwise_iff_getElem.1 hpw
  refine ⟨hperm, fun p q hpq hq h => ?_, fun p q hpq hq h => ?_⟩
  · by_cases e : p = q
    · subst e; exact ⟨h, Int.le_refl _⟩
    · have := (hp p q (by omega) (by omega) (by omega)).1
      unfold oA oB at h ⊢
      rw [nth_eq (by omega)] at h ⊢
      rw [nth_eq (by omega)]
      exact this h
  · by_cases e : p = q
    · subst e; exact ⟨h, Int.le_refl _⟩
    · have := (hp p q (by omega) (by omega) (by omega)).2
      unfold oA oB at h ⊢
      rw [nth_eq (by omega)] at h ⊢
      rw [nth_eq (by omega)]
      exact this h
end Go.Proofs.Ytckdfahbhagoaaa

namespace Go.Proofs.Ytckdfahbhagoaaa
open Go.RowKit
set_option linter.unusedVariables false
set_option linter.unusedSimpArgs false

/-- Valid times of n jobs on M machines. -/
structure ShopOk (ts : List Int) (M n : Nat) : Prop where
  len : ts.length = n * M
  m1 : 1 ≤ M
  m8 : M ≤ 8
  n1 : 1 ≤ n
  n24 : n ≤ 24
  tm : ∀ x ∈ ts, 1 ≤ x ∧ x ≤ 10000
theorem ix_lt {i n M m : Nat} (hi : i < n) (hm : m < M) : i * M + m < n * M := by
  have h : (i + 1) * M ≤ n * M := Nat.mul_le_mul_right M hi
  rw [Nat.add_mul, Nat.one_mul] at h
  omega
theorem ShopOk.at_ {ts : List Int} {M n i m : Nat} (h : ShopOk ts M n) (hi : i < n) (hm : m < M) : 1 ≤ tF ts M i m ∧ tF ts M i m ≤ 10000 := by
  unfold tF
  have h1 := ix_lt hi hm
  rw [nth_eq (by rw [h.len]; exact h1)]
  exact h.tm _ (List.getElem_mem _)
theorem ShopOk.tmF {ts : List Int} {M n : Nat} (h : ShopOk ts M n) {E : List Int} (hE : ∀ k, k < E.length → ∃ i : Nat, nth E k = i ∧ i < n) : TmF ts M n E := ⟨fun i m hi hm => by have := h.at_ hi hm; omega, hE⟩
theorem ShopOk.big {ts : List Int} {M n : Nat} (h : ShopOk ts M n) : n * M ≤ 192 := Nat.le_trans (Nat.mul_le_mul h.n24 h.m8) (by decide)
/-- The value of a shop. -/
def shV (b o T c n M : Nat) : Value := .agg #[.slice (some ⟨b, o, none⟩) T c, .int .i64 n, .int .i64 M]
theorem areMachines_any (n : Int) (w : World) : Calls Try.prog 50 #[.int .i64 n] w fun e w' => e = .returned (.bool (win n 1 8)) ∧ w = w' := by
  have HW := Lib.hid (within_any n 1 8 w)
  go_enter Try.func50, Try.ntmps50
  go_wp2_with fail
  refine HW.out.mono ?_
  rintro e w' ⟨rfl, rfl⟩
  go_wp2
  go_ret
  exact ⟨rfl, rfl⟩
set_option maxRecDepth 100000 in
set_option maxHeartbeats 1000000 in
theorem unlikeJobs_any (v : Value) (ts : List Int) (M n : Nat) (w : World) (hv : Ints w v ts) (hok : ShopOk ts M n) :
    Calls Try.prog 38 #[v, .int .i64 M] w fun e w' => e = .returned (.tuple #[.int .i64 n, .bool true]) ∧ w = w' := by
  have HAM : Hid (Calls Try.prog 50 #[.int .i64 M] w fun e w' => e = .returned (.bool true) ∧ w = w') := by
    have h := areMachines_any M w
    rwa [show win (M : Int) 1 8 = true from win_true.2 (by have := hok.m1; have := hok.m8; omega)] at h
  have HAW : Hid (Calls Try.prog 51 #[v, .int .i64 1, .int .i64 10000] w fun e w' => e = .returned (.bool true) ∧ w = w') := by
    have h := areWithin_any v ts 1 10000 w hv
    rwa [show (ts.all fun n => win n 1 10000) = true by rw [List.all_eq_true]; intro x hx; exact win_true.2 (hok.tm x hx)] at h
  obtain ⟨hm, a, c, rfl, hcap, hc⟩ := hv
  have m1 := hok.m1
  have m8 := hok.m8
  have n1 := hok.n1
  have n24 := hok.n24
  have hmul : ((n * M : Nat) : Int) = (n : Int) * (M : Int) := Int.natCast_mul n M
  have hdiv : ((n * M : Nat) : Int) / (M : Int) = n := by rw [hmul]; exact Int.mul_ediv_cancel _ (by omega)
  have hmod : ((n * M : Nat) : Int) % (M : Int) = 0 := by rw [hmul]; exact Int.mul_emod_left _ _
  have hbig := hok.big
  rw [hok.len] at hm hcap HAW ⊢
  obtain ⟨T, hT⟩ : ∃ T, n * M = T := ⟨_, rfl⟩
  rw [hT] at hm hcap hdiv hmod hbig HAW ⊢
  have hM0 : ¬ (M : Int) = 0 := by omega
  have hd24 : decide ((n : Int) ≤ 24) = true := decide_eq_true (by omega)
  clear hc hok hmul hT
  go_enter Try.func38, Try.ntmps38
  go_wp2_with fail
  refine HAM.out.mono ?_
  rintro e w' ⟨rfl, rfl⟩
  go_wp2_with fail
  refine HAW.out.mono ?_
  rintro e w' ⟨rfl, rfl⟩
  go_wp2
  go_ret2
  exact ⟨rfl, rfl⟩
set_option maxRecDepth 100000 in
set_option maxHeartbeats 1000000 in
theorem asShop_any (b o T c : Nat) (ts : List Int) (M n : Nat) (w : World) (hv : Ints w (.slice (some ⟨b, o, none⟩) T c) ts) (hok : ShopOk ts M n) :
    Calls Try.prog 23 #[.slice (some ⟨b, o, none⟩) T c, .int .i64 M] w fun e w' => e = .returned (.tuple #[shV b o T c n M, .bool true]) ∧ Below w.heap.size w w' := by
  have HU : Hid (∀ W, Below w.heap.size w W → Calls Try.prog 38 #[.slice (some ⟨b, o, none⟩) T c, .int .i64 M] W fun e w' => e = .returned (.tuple #[.int .i64 n, .bool true]) ∧ W = w') := fun W hW => unlikeJobs_any _ ts M n W (hv.below hW (Nat.le_refl _)) hok
  clear hv hok
  go_enter Try.func23, Try.ntmps23
  go_wp2_with fail
  refine (HU.out _ ((Below.refl _ w).alloc (Nat.le_refl _) _)).mono ?_
  rintro e w' ⟨rfl, rfl⟩
  go_wp2
  exact bodyPost_ret (v := .tuple #[shV b o T c n M, .bool true]) (by simp [results, Try.results23, go_sem, shV]) rfl ⟨rfl, (Below.refl _ w).alloc (Nat.le_refl _) _⟩
/-- Times in memory. -/
structure ShW (w : World) (b o T c : Nat) (ts : List Int) : Prop where
  len : T = ts.length
  cap : T ≤ c
  cell : ∀ i, i < T → w.cell? ⟨b, o + i, none⟩ = some (.int .i64 (nth ts i))
  lt : b < w.heap.size
theorem ShW.below {w W : World} {b o T c : Nat} {ts : List Int} (h : ShW w b o T c ts) (hb : Below w.heap.size w W) : ShW W b o T c ts :=
  ⟨h.len, h.cap, fun i hi => (hb.cell (p := ⟨b, o + i, none⟩) h.lt).trans (h.cell i hi), Nat.lt_of_lt_of_le h.lt hb.size⟩
theorem ShW.ints {w : World} {b o T c : Nat} {ts : List Int} (h : ShW w b o T c ts) (hT : T ≤ 1000) : Ints w (.slice (some ⟨b, o, none⟩) T c) ts := by
  obtain ⟨h1, h2, h3, h4⟩ := h
  subst h1
  exact ⟨by unfold maxLen; omega, _, c, rfl, h2, fun i hi => ⟨b, o, rfl, h4, by rw [h3 i hi, nth_eq hi]⟩⟩
set_option maxRecDepth 100000 in
set_option maxHeartbeats 1000000 in
theorem shAt_any (b o T c M n i m : Nat) (ts : List Int) (w : World) (hv : ShW w b o T c ts) (hok : ShopOk ts M n) (hi : i < n) (hm : m < M) :
    Calls Try.prog 31 #[shV b o T c n M, .int .i64 i, .int .i64 m] w fun e w' => e = .returned (.int .i64 (tF ts M i m)) ∧ Below w.heap.size w w' := by
  have hbig := hok.big
  have hx := ix_lt hi hm
  have hlen := hok.len
  have ck := hv.cell (i * M + m) (by rw [hv.len, hlen]; exact hx)
  have hT : T = n * M := by rw [hv.len, hlen]
  have hcap := hv.cap
  have hlt := hv.lt
  have hp : ((i : Int) * (M : Int)) = ((i * M : Nat) : Int) := (Int.natCast_mul i M).symm
  obtain ⟨p, hpe⟩ : ∃ p, i * M = p := ⟨_, rfl⟩
  rw [hpe] at hx ck hp
  rw [← hT] at hx hbig
  obtain ⟨q, hq⟩ : ∃ q, p + m = q := ⟨_, rfl⟩
  rw [hq] at hx ck
  obtain ⟨t, ht⟩ : ∃ t, nth ts q = t := ⟨_, rfl⟩
  rw [ht] at ck
  have HT : Hid (tF ts M i m = t) := by show nth ts (i * M + m) = t; rw [hpe, hq, ht]
  have w1 : IntKind.i64.wrap ((i : Int) * (M : Int)) = (p : Int) := by rw [hp]; exact IntWalk.i64_in _ (by omega)
  have w2 : IntKind.i64.wrap ((p : Int) + (m : Int)) = (q : Int) := by rw [← Int.natCast_add, hq]; exact IntWalk.i64_in _ (by omega)
  have q0 : (0 : Int) ≤ (q : Int) := by omega
  have q1 : (q : Int) < (T : Int) := by omega
  unfold shV
  clear hp hpe hq ht hok hv hT hlen hi hm
  go_enter Try.func31, Try.ntmps31
  go_wp2
  go_ret
  exact ⟨ret_int HT.out.symm, (Below.refl _ w).alloc (Nat.le_refl _) _⟩
end Go.Proofs.Ytckdfahbhagoaaa

namespace Go.Proofs.Ytckdfahbhagoaaa
open Go.RowKit
set_option linter.unusedVariables false
set_option linter.unusedSimpArgs false

theorem sF_bound {f : Nat → Int} : ∀ n, (∀ i, i < n → 0 ≤ f i ∧ f i ≤ 10000) → 0 ≤ sF f n ∧ sF f n ≤ 10000 * (n : Int)
  | 0, _ => by show (0 : Int) ≤ 0 ∧ (0 : Int) ≤ _; omega
  | n + 1, h => by have h1 := sF_bound n (fun i hi => h i (by omega)); have h2 := h n (by omega); rw [sF_succ]; omega
/-- A part of a row of times. -/
structure PartW (w : World) (b o T c : Nat) (f : Nat → Int) : Prop where
  cell : ∀ i, i < T → w.cell? ⟨b, o + i, none⟩ = some (.int .i64 (f i))
  tm : ∀ i, i < T → 0 ≤ f i ∧ f i ≤ 10000
  big : T ≤ 1000
  cap : T ≤ c
set_option maxRecDepth 100000 in
set_option maxHeartbeats 1000000 in
theorem sumOf2_any (b o T c : Nat) (f : Nat → Int) (w : World) (hv : PartW w b o T c f) :
    Calls Try.prog 26 #[.slice (some ⟨b, o, none⟩) T c] w fun e w' => e = .returned (.int .i64 (sF f T)) ∧ w = w' := by
  have HB : Hid (∀ k, k ≤ T → 0 ≤ sF f k ∧ sF f k ≤ 10000 * (k : Int)) := fun k hk => sF_bound k (fun i hi => hv.tm i (by omega))
  have HC := Lib.hid hv.cell
  have HTM := Lib.hid hv.tm
  have hbig := hv.big
  have hcap := hv.cap
  clear hv
  go_enter Try.func26, Try.ntmps26
  go_wp2
  go_loop [3, 8] (fun s i => ∃ k : Nat, k ≤ T ∧ i = .int .i64 k ∧ s = .int .i64 (sF f k)) (fun _ i => T - (intOf i).toNat)
  case atStart => exact ⟨0, Nat.zero_le _, rfl, rfl⟩
  case round =>
    obtain ⟨k, hk, rfl, rfl⟩ := hrel
    by_cases hlt : k < T
    · have k0 : (0 : Int) ≤ (k : Int) := by omega
      have k1 : (k : Int) < (T : Int) := by omega
      have ck := HC.out k hlt
      have h1 := HB.out k hk
      have h2 := HTM.out k hlt
      have HN : Hid (sF f (k + 1) = sF f k + f k) := rfl
      obtain ⟨S, hS⟩ : ∃ S, sF f k = S := ⟨_, rfl⟩
      obtain ⟨p, hp⟩ : ∃ p, f k = p := ⟨_, rfl⟩
      rw [hS, hp] at HN
      rw [hS] at h1 ⊢
      rw [hp] at ck h2
      clear hS hp
      have w1 : IntKind.i64.wrap (S + p) = S + p := IntWalk.i64_in _ (by omega)
      go_wp2
      go_round
      case rel => exact ⟨k + 1, by omega, by go_num, by rw [HN.out]⟩
      case measure => simp [intOf]; omega
    · obtain rfl : T = k := by omega
      clear hlt
      go_wp2
      go_ret
      exact ⟨rfl, rfl⟩
set_option maxRecDepth 100000 in
set_option maxHeartbeats 1000000 in
theorem shOf_any (b o T c M n i : Nat) (ts : List Int) (w : World) (hv : ShW w b o T c ts) (hok : ShopOk ts M n) (hi : i < n) :
    Calls Try.prog 30 #[shV b o T c n M, .int .i64 i] w fun e w' => e = .returned (.int .i64 (ofF ts M i)) ∧ Below w.heap.size w w' := by
  have hT : T = n * M := by rw [hv.len, hok.len]
  have hbig := hok.big
  have hcap := hv.cap
  have hm8 := hok.m8
  have hm1 := hok.m1
  have hle : (i + 1) * M ≤ n * M := Nat.mul_le_mul_right M hi
  have hle2 : i * M ≤ (i + 1) * M := Nat.mul_le_mul_right M (by omega)
  have hsub : (i + 1) * M = i * M + M := by rw [Nat.add_mul, Nat.one_mul]
  have HSO : Hid (∀ W, Below w.heap.size w W → Calls Try.prog 26 #[.slice (some ⟨b, o + i * M, none⟩) M (c - i * M)] W fun e w' => e = .returned (.int .i64 (ofF ts M i)) ∧ W = w') := fun W hW => by
    have hv2 := hv.below hW
    refine sumOf2_any b (o + i * M) M (c - i * M) (tF ts M i) W ⟨fun j hj => ?_, fun j hj => ?_, by omega, by omega⟩
    · have h := hv2.cell (i * M + j) (by rw [hT]; exact ix_lt hi hj)
      rw [← Nat.add_assoc] at h
      exact h
    · have := hok.at_ hi hj; omega
  have hn24 := hok.n24
  have hp : ((i : Int) * (M : Int)) = ((i * M : Nat) : Int) := (Int.natCast_mul i M).symm
  have hq : (((i : Int) + 1) * (M : Int)) = (((i + 1) * M : Nat) : Int) := by rw [Int.natCast_mul]; rfl
  obtain ⟨p, hpe⟩ : ∃ p, i * M = p := ⟨_, rfl⟩
  rw [hsub] at hq
  rw [hsub, ← hT] at hle
  rw [← hT] at hbig
  rw [hpe] at hp hq hle HSO
  have w1 : IntKind.i64.wrap ((i : Int) * (M : Int)) = (p : Int) := by rw [hp]; exact IntWalk.i64_in _ (by omega)
  have w2 : IntKind.i64.wrap (((i : Int) + 1) * (M : Int)) = ((p + M : Nat) : Int) := by rw [hq]; exact IntWalk.i64_in _ (by omega)
  have w3 : IntKind.i64.wrap ((i : Int) + 1) = (i : Int) + 1 := IntWalk.i64_in _ (by omega)
  unfold shV
  clear hv hok hp hq hpe hsub hT hle2
  go_enter Try.func30, Try.ntmps30
  go_wp2_with fail
  refine (HSO.out _ ((Below.refl _ w).alloc (Nat.le_refl _) _)).mono ?_
  rintro e w' ⟨rfl, rfl⟩
  go_wp2
  go_ret
  exact ⟨rfl, (Below.refl _ w).alloc (Nat.le_refl _) _⟩
def OnR (f : Nat → Int) (n : Nat) (w : World) (vs vk : Value) (wr : World) : Prop :=
  ∃ k : Nat, k ≤ n ∧ vk = .int .i64 k ∧ vs = .int .i64 (sF f k) ∧ Hid (Below w.heap.size w wr)
/-- The cells of a boxed shop. -/
structure BoxS (w : World) (q b o T c n M : Nat) : Prop where
  c0 : w.cell? ⟨q, 0, none⟩ = some (.slice (some ⟨b, o, none⟩) T c)
  c1 : w.cell? ⟨q, 1, none⟩ = some (.int .i64 n)
  c2 : w.cell? ⟨q, 2, none⟩ = some (.int .i64 M)
theorem BoxS.new (w : World) (b o T c n M : Nat) : BoxS (w.alloc (.cells #[.slice (some ⟨b, o, none⟩) T c, .int .i64 n, .int .i64 M] 43)) w.heap.size b o T c n M := ⟨by simp [go_sem], by simp [go_sem], by simp [go_sem]⟩
theorem BoxS.below {w W : World} {N q b o T c n M : Nat} (h : BoxS w q b o T c n M) (hb : Below N w W) (hq : q < N) : BoxS W q b o T c n M :=
  ⟨(hb.cell (p := ⟨q, 0, none⟩) hq).trans h.c0, (hb.cell (p := ⟨q, 1, none⟩) hq).trans h.c1, (hb.cell (p := ⟨q, 2, none⟩) hq).trans h.c2⟩
set_option maxRecDepth 100000 in
set_option maxHeartbeats 1000000 in
theorem shOn_any (b o T c M n m : Nat) (ts : List Int) (w : World) (hv : ShW w b o T c ts) (hok : ShopOk ts M n) (hm : m < M) :
    Calls Try.prog 27 #[shV b o T c n M, .int .i64 m] w fun e w' => e = .returned (.int .i64 (sF (fun i => tF ts M i m) n)) ∧ Below w.heap.size w w' := by
  have HAT : Hid (∀ i W, i < n → Below w.heap.size w W → Calls Try.prog 31 #[shV b o T c n M, .int .i64 i, .int .i64 m] W fun e w' => e = .returned (.int .i64 (tF ts M i m)) ∧ Below W.heap.size W w') := fun i W hi hW => shAt_any b o T c M n i m ts W (hv.below hW) hok hi hm
  have HBD : Hid (∀ k, k ≤ n → 0 ≤ sF (fun i => tF ts M i m) k ∧ sF (fun i => tF ts M i m) k ≤ 10000 * (k : Int)) := fun k hk => sF_bound k (fun i hi => by have := hok.at_ (show i < n by omega) hm; omega)
  have HTM : Hid (∀ i, i < n → 1 ≤ tF ts M i m ∧ tF ts M i m ≤ 10000) := fun i hi => hok.at_ hi hm
  have hn24 := hok.n24
  obtain ⟨W1, hW1⟩ : ∃ W, w.alloc (.cells #[.slice (some ⟨b, o, none⟩) T c, .int .i64 n, .int .i64 M] 43) = W := ⟨_, rfl⟩
  have HB1 : Hid (Below w.heap.size w W1) := by show Below _ _ _; rw [← hW1]; exact (Below.refl _ w).alloc (Nat.le_refl _) _
  have HX1 : Hid (BoxS W1 w.heap.size b o T c n M) := by show BoxS _ _ _ _ _ _ _ _; rw [← hW1]; exact BoxS.new w b o T c n M
  have hsz : W1.heap.size = w.heap.size + 1 := by rw [← hW1]; simp
  have HSZ := Lib.hid hsz
  have HW := Lib.hid hW1
  have c1 := HX1.out.c1
  clear hv hok hsz hW1
  unfold shV
  go_enter Try.func27, Try.ntmps27
  go_wp2
  simp only [HW.out]
  go_loopw [5, 9] (fun vs vk wr => OnR (fun i => tF ts M i m) n W1 vs vk wr) (fun _ vk _ => n - (intOf vk).toNat)
  case atStart => exact ⟨0, Nat.zero_le _, rfl, rfl, Below.refl _ _⟩
  case round =>
    obtain ⟨k, hk, rfl, rfl, HB⟩ := hrel
    clear c1
    have HBw : Hid (Below w.heap.size w wr) := HB1.out.trans (HB.out.mono (by rw [HSZ.out]; omega))
    by_cases hkn : k < n
    · have k0 : (0 : Int) ≤ (k : Int) := by omega
      have k1 : (k : Int) < (n : Int) := by omega
      have hX := HX1.out.below HB.out (by rw [HSZ.out]; omega)
      have c0 := hX.c0
      have c1 := hX.c1
      have c2 := hX.c2
      have HA := Lib.hid (HAT.out k wr hkn HBw.out)
      unfold shV at HA
      have h1 := HBD.out k hk
      have h2 := HTM.out k hkn
      have HN : Hid (sF (fun i => tF ts M i m) (k + 1) = sF (fun i => tF ts M i m) k + tF ts M k m) := rfl
      obtain ⟨S, hS⟩ : ∃ S, sF (fun i => tF ts M i m) k = S := ⟨_, rfl⟩
      obtain ⟨t, ht⟩ : ∃ t, tF ts M k m = t := ⟨_, rfl⟩
      rw [hS, ht] at HN
      rw [hS] at h1 ⊢
      rw [ht] at h2 HA
      have w1 : IntKind.i64.wrap (S + t) = S + t := IntWalk.i64_in _ (by omega)
      clear hX hS ht
      go_wp2_with fail
      refine HA.out.mono ?_
      rintro e W3 ⟨rfl, hb3⟩
      have HB3 : Hid (Below W1.heap.size W1 W3) := HB.out.trans (hb3.mono HB.out.size)
      clear hb3
      go_wp2
      go_roundw
      case rel => exact ⟨k + 1, by omega, by go_num, by rw [HN.out], HB3.out⟩
      case measure => simp [intOf]; omega
    · obtain rfl : n = k := by omega
      go_wp2
      go_ret
      exact ⟨rfl, HBw.out⟩
end Go.Proofs.Ytckdfahbhagoaaa

namespace Go.Proofs.Ytckdfahbhagoaaa
open Go.RowKit
set_option linter.unusedVariables false
set_option linter.unusedSimpArgs false

theorem append_from {ops : Array Oper} {rest : List Oper} {o : Oper} {a : Act} {Q : Exit → Act → World → Prop} {W : World} (hgd : o.guard = none) (s x : Operand)
    (ho : o.op = .call { callee := .builtin .append, args := #[s, x], argTypes := #[25, 25] }) (B : Nat) (v : Value) (xs ys : List Int) (hy : 0 < ys.length)
    (hs : a.eval s = v) (b off c : Nat) (hx : a.eval x = .slice (some ⟨b, off, none⟩) ys.length c) (hcells : ∀ i (h : i < ys.length), W.cell? ⟨b, off + i, none⟩ = some (.int .i64 ys[i])) (hown : OwnI W B v xs) (hB : B ≤ W.heap.size) (hsmall : xs.length + ys.length ≤ 1099511627776)
    (hK : ∀ g c w', OwnI w' B (.slice (some ⟨g, 0, none⟩) (xs.length + ys.length) c) (xs ++ ys) → W.grownBy w' v.ownBlock → wpList Try.prog ops Q rest (a.put o.dst (.slice (some ⟨g, 0, none⟩) (xs.length + ys.length) c)) w') :
    wpList Try.prog ops Q (o :: rest) a W := by
  obtain ⟨i0, hi, hz0, hz1, hz2⟩ := info_parts info_i64
  refine wpList_append_own _ hgd s x 25 ho B 2 i0 (.int .i64 0) 1 8 Try.underlying25 hi hz0 hz1 hz2 rfl (by decide) v xs.length _ hs hown ⟨b, off, none⟩ ys.length c (ys.map (Value.int .i64)) hx (by simp) ?_ ?_ (by unfold maxLen; omega) (by omega) hB ?_
  · intro j u hj
    rw [List.getElem?_map] at hj
    cases h : ys[j]? with
    | none => rw [h] at hj; cases hj
    | some y =>
      rw [h] at hj
      obtain ⟨h1, h2⟩ := List.getElem?_eq_some_iff.1 h
      have hadd : (⟨b, off, none⟩ : Addr).add j = ⟨b, off + j, none⟩ := by unfold Addr.add; split <;> simp_all
      rw [hadd, hcells j h1, h2]
      simpa using hj
  · intro u hu; obtain ⟨y, _, rfl⟩ := List.mem_map.1 hu; rfl
  · intro v' w' h1 h2 _
    have h1' : OwnI w' B v' (xs ++ ys) := by unfold OwnI; simpa using h1
    rcases h1.2 with ⟨_, h0⟩ | ⟨g, cap, cur, rfl, _⟩
    · omega
    · exact hK g cap w' h1' h2
end Go.Proofs.Ytckdfahbhagoaaa

namespace Go.Proofs.Ytckdfahbhagoaaa
open Go.RowKit
set_option linter.unusedVariables false
set_option linter.unusedSimpArgs false

theorem sl_nil (p : Addr) (n c : Nat) (W : World) : (binOp .eql 25 (.slice (some p) n c) (.slice none 0 0)).run Try.prog W = .ok (.bool false) W := by kernel_rfl

theorem clone_any (v : Value) (xs : List Int) (w : World) (hv : Ints w v xs) (h0 : 0 < xs.length) (hl : xs.length ≤ 1048576) :
    Calls Try.prog 41 #[v] w fun e w' => (∃ g c, e = .returned (.slice (some ⟨g, 0, none⟩) xs.length c) ∧ OwnI w' w.heap.size (.slice (some ⟨g, 0, none⟩) xs.length c) xs) ∧ Below w.heap.size w w' := by
  obtain ⟨hm, a, c, rfl, hcap, hc⟩ := hv
  obtain ⟨b, o, ha0, hbs, hcs⟩ := row_at hc
  obtain rfl := ha0 h0
  have hbs := hbs h0
  have ho : OwnI (w.alloc (.cells #[] 2)) w.heap.size (.slice (some ⟨w.heap.size, 0, none⟩) 0 0) [] := OwnI.lit w w.heap.size [] (Nat.le_refl _) (by unfold maxLen; simp)
  have hB : Below w.heap.size w (w.alloc (.cells #[] 2)) := (Below.refl _ w).alloc (Nat.le_refl _) _
  have hcs' : ∀ i (h : i < xs.length), (w.alloc (.cells #[] 2)).cell? ⟨b, o + i, none⟩ = some (.int .i64 xs[i]) := fun i h => (hB.cell (p := ⟨b, o + i, none⟩) hbs).trans (hcs i h)
  have HO := Lib.hid ho
  have HB := Lib.hid hB
  have HCS := Lib.hid hcs'
  clear hc hcs hcs' ho hB ha0
  have hsn := sl_nil
  go_enter Try.func41, Try.ntmps41
  go_wp2_with (at_builtin; refine append_from rfl _ _ rfl w.heap.size (.slice (some ⟨w.heap.size, 0, none⟩) 0 0) [] xs h0 rfl b o c rfl HCS.out HO.out (by simp) (by simp; omega) ?_; intro g1 c1 w1 ho1 hg1; have hb1 := Below.app (hB := by simp) (HB.out.trans (Below.refl _ _)) HO.out hg1; have Ho1 := Lib.hid ho1; have Hb1 := Lib.hid hb1; clear ho1 hg1 hb1)
  go_ret
  have h1 := Ho1.out
  simp at h1
  exact ⟨⟨g1, c1, rfl, h1⟩, Hb1.out⟩
end Go.Proofs.Ytckdfahbhagoaaa

namespace Go.Proofs.Ytckdfahbhagoaaa
open Go.RowKit Go.Shelf
set_option linter.unusedVariables false
set_option linter.unusedSimpArgs false
attribute [local go_sem] Oper.semAt_some

/-- The world behind the call. -/
structure ChunkW (w w' : World) (v : Value) (n : Int) : Prop where
  size : w'.heap.size = w.heap.size + 2
  below : Below w.heap.size w w'
  s : w'.cell? ⟨w.heap.size, 0, none⟩ = some v
  n : w'.cell? ⟨w.heap.size + 1, 0, none⟩ = some (.int .i64 n)

/-- The two numbers of a pair, in whatever later world. -/
theorem pair_cells {w W : World} {N b o m : Nat} {xs : List Int} (hbs : 0 < xs.length → b < w.heap.size) (hcs : ∀ i (h : i < xs.length), w.cell? ⟨b, o + i, none⟩ = some (.int .i64 xs[i]))
    (hB : Below N w W) (hN : w.heap.size ≤ N) (hxm : xs.length = 2 * m) (x : Fin m) :
    W.cell? ⟨b, o + x.1 * 2, none⟩ = some (.int .i64 (nth xs (2 * x.1))) ∧ W.cell? ⟨b, o + x.1 * 2 + 1, none⟩ = some (.int .i64 (nth xs (2 * x.1 + 1))) := by
  have hx := x.2
  have h0 := hbs (by omega)
  refine ⟨?_, ?_⟩
  · rw [hB.cell (p := ⟨b, o + x.1 * 2, none⟩) (show b < N by omega), Nat.mul_comm x.1 2, hcs _ (by omega), nth_eq (by omega)]
  · rw [hB.cell (p := ⟨b, o + x.1 * 2 + 1, none⟩) (show b < N by omega), Nat.mul_comm x.1 2, Nat.add_assoc, hcs _ (by omega), nth_eq (by omega)]

/-- The elements that come: the j-th chunk. -/
def chunkAt (b off n : Nat) (j : Nat) : Value := .slice (some ⟨b, off + j * n, none⟩) n n

theorem hmul (n m j : Nat) (h : j < m) : j * n + n ≤ n * m := by
  have := Nat.mul_le_mul_right n (show j + 1 ≤ m from h)
  rw [Nat.add_mul, Nat.one_mul, Nat.mul_comm m n] at this
  exact this

/-- What a round over slices.Chunk must keep: the two boxes of the iterator. -/
structure Keep2 (Bs Bn : Nat) (W W' : World) : Prop where
  s : W'.heap[Bs]? = W.heap[Bs]?
  n : W'.heap[Bn]? = W.heap[Bn]?

theorem Keep2.refl (Bs Bn : Nat) (W : World) : Keep2 Bs Bn W W := ⟨rfl, rfl⟩
theorem Keep2.trans {Bs Bn : Nat} {A B C : World} (h : Keep2 Bs Bn A B) (k : Keep2 Bs Bn B C) : Keep2 Bs Bn A C := ⟨k.s.trans h.s, k.n.trans h.n⟩
theorem Keep2.below {Bs Bn N : Nat} {A B C : World} (h : Keep2 Bs Bn A B) (k : Below N B C) (h1 : Bs < N) (h2 : Bn < N) : Keep2 Bs Bn A C := h.trans ⟨k.block _ h1, k.block _ h2⟩
theorem Keep2.drewN {Bs Bn : Nat} {A B : World} (h : Keep2 Bs Bn A B) (q : Nat) : Keep2 Bs Bn A (B.drewN q) := h.trans ⟨rfl, rfl⟩
theorem Keep2.drew {Bs Bn : Nat} {A B : World} (h : Keep2 Bs Bn A B) : Keep2 Bs Bn A B.drew := h.trans ⟨rfl, rfl⟩
theorem Keep2.setCell {Bs Bn : Nat} {A B : World} (h : Keep2 Bs Bn A B) {p : Addr} (h1 : Bs ≠ p.block) (h2 : Bn ≠ p.block) (v : Value) : Keep2 Bs Bn A (B.setCell p v) :=
  h.trans ⟨Below.heap_setCell _ _ _ _ h1, Below.heap_setCell _ _ _ _ h2⟩
theorem Keep2.alloc {Bs Bn : Nat} {A B : World} (h : Keep2 Bs Bn A B) (h1 : Bs < B.heap.size) (h2 : Bn < B.heap.size) (o : Obj) : Keep2 Bs Bn A (B.alloc o) :=
  h.trans ⟨Below.heap_alloc _ _ _ h1, Below.heap_alloc _ _ _ h2⟩
theorem Keep2.grown {Bs Bn : Nat} {A B C : World} {row : Option Nat} (h : Keep2 Bs Bn A B) (g : B.grownBy C row) (h1 : Bs < B.heap.size) (h2 : Bn < B.heap.size) (h3 : some Bs ≠ row) (h4 : some Bn ≠ row) : Keep2 Bs Bn A C :=
  h.trans ⟨g.block _ h1 h3, g.block _ h2 h4⟩
theorem Keep2.cell {Bs Bn : Nat} {A B : World} (h : Keep2 Bs Bn A B) : B.cell? ⟨Bs, 0, none⟩ = A.cell? ⟨Bs, 0, none⟩ ∧ B.cell? ⟨Bn, 0, none⟩ = A.cell? ⟨Bn, 0, none⟩ :=
  ⟨World.cell?_of_block h.s, World.cell?_of_block h.n⟩

theorem min_eq (n r : Nat) (h : n ≤ r) : (if (n : Int) < (r : Int) then (n : Int) else (r : Int)) = (n : Int) := by
  split <;> omega

theorem keep2_b {Bs Bn : Nat} {w : World} (h1 : Bs < w.heap.size) (h2 : Bn < w.heap.size) (W : World) (l : Nat) (o o' : Obj) (hl : w.heap.size ≤ l) (_ : W.heap[l]? = some o) (_ : o.isCells = false) (_ : o.isWalk = false) : Keep2 Bs Bn W (W.putObj l o') :=
  ⟨World.putObj_heap_other (by omega), World.putObj_heap_other (by omega)⟩

/-! Small words on what such a loop keeps. -/
theorem _root_.Go.KeepsFrom.below {B N : Nat} {A W W' : World} (h : KeepsFrom B A W) (k : Below N W W') (hN : W.heap.size ≤ N) : KeepsFrom B A W' :=
  h.trans ⟨k.size, fun i o _ hi _ => (k.block i (by have := (Array.getElem?_eq_some_iff.1 hi).1; omega)).trans hi⟩
theorem _root_.Go.KeepsFrom.drewN {B : Nat} {A W : World} (h : KeepsFrom B A W) (q : Nat) : KeepsFrom B A (W.drewN q) := h.trans ⟨Nat.le_refl _, fun _ _ _ hi _ => hi⟩
theorem _root_.Go.KeepsFrom.drew {B : Nat} {A W : World} (h : KeepsFrom B A W) : KeepsFrom B A W.drew := h.trans ⟨Nat.le_refl _, fun _ _ _ hi _ => hi⟩
theorem _root_.Go.KeepsFrom.setCell {B : Nat} {A W : World} (h : KeepsFrom B A W) (p : Addr) (v : Value) : KeepsFrom B A (W.setCell p v) := h.trans ((KeepsOthers.setCell W p v).from B)
theorem _root_.Go.KeepsFrom.alloc {B : Nat} {A W : World} (h : KeepsFrom B A W) (o : Obj) : KeepsFrom B A (W.alloc o) := h.trans ((KeepsOthers.alloc W o).from B)
theorem ownFrom_cell {β : Type} (B : Nat) (p : β → Addr) (v : β → Value) : OwnFrom B (fun s W => W.cell? (p s) = some (v s)) :=
  fun s A B' row hs hg hr => cell_kept hs hg (fun r e => (hr r e).2)
theorem ownFrom_frozen {β : Type} (B : Nat) (p : β → Addr) (v : β → Value) (b : β → Bool) : OwnFrom B (fun s W => W.cell? (p s) = some (v s) ∧ W.frozen? (p s) = b s) :=
  fun s A B' row hs hg hr => ⟨cell_kept hs.1 hg (fun r e => (hr r e).2), (frozen_kept hs.1 hg (fun r e => (hr r e).2)).trans hs.2⟩
theorem ownFrom_boxed {β : Type} (N B : Nat) (t : TypeId) (v : β → Value) : OwnFrom N (fun s W => Boxed W B t (v s)) := (boxed_own B t v).from N

/-- The end of a function that holds one loop over an iterator. -/
theorem bodyM_ret {P : Program} {n : Nat} {fn : Func} {R : Ending → World → Prop} {a : Act} {W : World} {D : Nat} {v : Value} (hd : a.defers = [{ target := .collected D, args := #[] }]) (hK : W.heap[D]? = some (.deferred (some [])))
    (hres : (results fn a.tmps).run P (W.putObj D (.deferred none)) = .ok v (W.putObj D (.deferred none))) (hR : R (.returned v) (W.putObj D (.deferred none))) : bodyPostM Fence.wide n P fn R .ret a W := by
  show LeavesInM Fence.wide n P fn a.tmps R a.defers .returning W
  rw [hd]
  exact ⟨by simp, .inl ⟨_, _, rfl, run_takeDeferred hK, v, hres, hR⟩⟩

theorem below_putObj {N D : Nat} {w W : World} {o o' : Obj} (h : Below N w W) (hN : N ≤ D) (hD : W.heap[D]? = some o) : Below N w (W.putObj D o') :=
  h.trans ⟨rfl, rfl, rfl, by simp [World.putObj], fun k hk => World.putObj_heap_other (by omega)⟩

theorem boxed_putObj {W : World} {B D : Nat} {t : TypeId} {v : Value} {o' : Obj} (h : Boxed W B t v) (hD : W.heap[D]? = some (.deferred (some []))) : Boxed (W.putObj D o') B t v := by
  have hne : B ≠ D := fun e => by subst e; have h1 : W.heap[B]? = some (.cells #[v] t (0, 0)) := h; rw [h1] at hD; cases hD
  exact (World.putObj_heap_other hne).trans h

theorem kept_setCell {W : World} {D : Nat} {p : Addr} {v : Value} (hK : W.heap[D]? = some (.deferred (some []))) : (W.setCell p v).heap[D]? = some (.deferred (some [])) :=
  (KeepsOthers.setCell W p v).same D _ hK rfl

/-- A chunk reads as its part of the list, in whatever later world. -/
theorem chunk_ints {w W : World} {N b o n j : Nat} {xs : List Int} (hbs : 0 < xs.length → b < w.heap.size) (hcs : ∀ i (h : i < xs.length), w.cell? ⟨b, o + i, none⟩ = some (.int .i64 xs[i]))
    (hB : Below N w W) (hN : w.heap.size ≤ N) (hj : j * n + n ≤ xs.length) (hsm : n ≤ 1048576) : Ints W (chunkAt b o n j) ((xs.drop (j * n)).take n) := by
  have hlen : ((xs.drop (j * n)).take n).length = n := by simp; omega
  refine ⟨by unfold maxLen; omega, some ⟨b, o + j * n, none⟩, n, by rw [hlen]; rfl, by omega, fun i hi => ⟨b, o + j * n, rfl, ?_, ?_⟩⟩
  · have h0 := hbs (by omega); have := hB.size; omega
  · rw [hlen] at hi
    have h0 := hbs (by omega)
    rw [hB.cell (p := ⟨b, o + j * n + i, none⟩) (show b < N by omega), Nat.add_assoc, hcs _ (by omega)]
    simp
end Go.Proofs.Ytckdfahbhagoaaa

namespace Go.Proofs.Ytckdfahbhagoaaa
open Go.RowKit Go.Shelf
set_option linter.unusedVariables false
set_option linter.unusedSimpArgs false

/-- Box b holds a slice that owns its cells, and these are ys. -/
def OwnBox (W : World) (b N : Nat) (ys : List Int) : Prop := ∃ g c, Boxed W b 25 (.slice (some ⟨g, 0, none⟩) ys.length c) ∧ OwnI W N (.slice (some ⟨g, 0, none⟩) ys.length c) ys

theorem ownFrom_ownBox {β : Type} (B b N : Nat) (f : β → List Int) : OwnFrom B (fun s W => OwnBox W b N (f s)) := by
  rintro s W W' row ⟨g, c, h1, h2⟩ hg hr
  refine ⟨g, c, (ownFrom_boxed B b _ (fun (_ : β) => Value.slice (some ⟨g, 0, none⟩) (f s).length c)) s W W' row h1 hg hr, h2.kept hg (.inr ?_)⟩
  intro e
  obtain ⟨_, o, ho, hc⟩ := hr g e.symm
  obtain ⟨cur, hcur⟩ := h2.block
  rw [ho] at hcur
  cases hcur
  cases hc


theorem ownFrom_sz {β : Type} (B n : Nat) : OwnFrom B (fun (_ : β) W => n ≤ W.heap.size) := fun s W W' row hs hg hr => Nat.le_trans hs hg.size

end Go.Proofs.Ytckdfahbhagoaaa
