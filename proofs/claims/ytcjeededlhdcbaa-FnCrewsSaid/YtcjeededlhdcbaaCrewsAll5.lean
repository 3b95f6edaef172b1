/- Rooms for talks: the plain law. Conditions: none. With texts that it needs. -/
import Derived.Test.YtcjeededlhdcbaaCrewsAll4
import Derived.Test.YtcjeededlhdcbaaCrewsAll1
import Derived.RangeFuncNested
import Derived.RangeFuncBound
import Derived.RangeFuncCalls
import Derived.RangeFuncLeaves
import Derived.Shelf.Abstract
import Derived.Shelf.RegionOpen
import Derived.OwnWalkIn
import Derived.TacticsInMore
import Derived.LoopNIn
import Derived.LoopIn
import Derived.Sort.BigQuietIn
import Derived.BigFrame
namespace Go.Proofs.Ytcjeededlhdcbaa
open Go.RowKit
set_option linter.unusedVariables false
set_option linter.unusedSimpArgs false

/-- The rounds of the first pass. -/
def Pass1 (g n c N : Nat) (key : Int → Int) (D0 : List Int) (w0 : World) (va vb : Value) (wr : World) : Prop :=
  ∃ (a b : Nat) (E : List Int), va = .int .i64 a ∧ vb = .int .i64 b ∧ Hid (b = a + 20 ∧ 20 ∣ a ∧ a ≤ n) ∧ Hid (OwnI wr N (.slice (some ⟨g, 0, none⟩) n c) E ∧ GrownL [g] w0 wr) ∧ Hid (Blks (Bd20 a) key E n ∧ E.Perm D0 ∧ n = E.length)
/-- The rounds of the second. -/
def Pass2 (g n c N : Nat) (key : Int → Int) (D0 : List Int) (w0 : World) (vs : Value) (wr : World) : Prop :=
  ∃ (s : Nat) (E : List Int), vs = .int .i64 s ∧ 1 ≤ s ∧ s ≤ 2097152 ∧ Hid (OwnI wr N (.slice (some ⟨g, 0, none⟩) n c) E ∧ GrownL [g] w0 wr) ∧ Hid (Blks (fun c => s ∣ c) key E n ∧ E.Perm D0 ∧ n = E.length)
def Pass3 (g n c N s : Nat) (key : Int → Int) (D0 : List Int) (w0 : World) (va vb : Value) (wr : World) : Prop :=
  ∃ (a b : Nat) (E : List Int), va = .int .i64 a ∧ vb = .int .i64 b ∧ Hid (b = a + 2 * s ∧ 2 * s ∣ a ∧ a ≤ n) ∧ Hid (OwnI wr N (.slice (some ⟨g, 0, none⟩) n c) E ∧ GrownL [g] w0 wr) ∧ Hid (Blks (Bd2 s a) key E n ∧ E.Perm D0 ∧ n = E.length)
/-- What the sort leaves behind. -/
def SortPost (g n c N : Nat) (key : Int → Int) (D0 : List Int) (w0 w' : World) : Prop :=
  ∃ E, OwnI w' N (.slice (some ⟨g, 0, none⟩) n c) E ∧ SortedOn key E 0 n ∧ E.Perm D0 ∧ GrownL [g] w0 w'

set_option maxRecDepth 100000 in
set_option maxHeartbeats 4000000 in
theorem stable_any (g n c N kb : Nat) (key : Int → Int) (cf : Int → Int → Int) (hcf : ∀ x y, cf x y < 0 ↔ key x < key y) (D0 : List Int) (w0 : World) (hcmp : CmpOk kb cf g D0 w0) (hsz : n ≤ 1048576)
    (D : List Int) (w : World) (hg0 : GrownL [g] w0 w) (ho : OwnI w N (.slice (some ⟨g, 0, none⟩) n c) D) (hn : n = D.length) (hperm : D.Perm D0) (hasc : ∀ p q, p < q → q < n → nth D p < nth D q) :
    Calls Try.prog 160 #[.slice (some ⟨g, 0, none⟩) n c, .int .i64 n, .func (.func 136) #[] #[.pointer (some ⟨kb, 0, none⟩)]] w fun e w' => e = .returned (.tuple #[]) ∧ SortPost g n c N key D0 w0 w' := by
  have HINS : Hid (∀ (a b : Nat) (E : List Int) (W : World), GrownL [g] w0 W → OwnI W N (.slice (some ⟨g, 0, none⟩) n c) E → n = E.length → E.Perm D0 → a ≤ b → b ≤ n → (∀ p q, a ≤ p → p < q → q < b → nth E p < nth E q) →
      Calls Try.prog 169 #[.slice (some ⟨g, 0, none⟩) n c, .int .i64 a, .int .i64 b, .func (.func 136) #[] #[.pointer (some ⟨kb, 0, none⟩)]] W fun e w' => e = .returned (.tuple #[]) ∧ MergePost g n c N a b key E w0 w') := fun a b E W h1 h2 h3 h4 h5 h6 h7 =>
    insertion_any g n c a b N kb key cf hcf D0 E w0 W h1 h2 h3 h4 hcmp h5 h6 hsz h7
  have HSYM : Hid (∀ (a m b : Nat) (E : List Int) (W : World), GrownL [g] w0 W → OwnI W N (.slice (some ⟨g, 0, none⟩) n c) E → n = E.length → E.Perm D0 → a < m → m < b → b ≤ n → MergePre key E a m b →
      Calls Try.prog 170 #[.slice (some ⟨g, 0, none⟩) n c, .int .i64 a, .int .i64 m, .int .i64 b, .func (.func 136) #[] #[.pointer (some ⟨kb, 0, none⟩)]] W fun e w' => e = .returned (.tuple #[]) ∧ MergePost g n c N a b key E w0 w') := fun a m b E W h1 h2 h3 h4 h5 h6 h7 h8 =>
    symMerge_any g n c N kb key cf hcf D0 w0 hcmp hsz (b - a) a m b E W (Nat.le_refl _) h1 h2 h3 h4 h5 h6 h7 h8
  have HO := Lib.hid ho
  have HG := Lib.hid hg0
  have HD : Hid (Blks (Bd20 0) key D n ∧ D.Perm D0 ∧ n = D.length) := ⟨(Blks.all hasc).congr fun c _ _ => ⟨fun _ => .inl (Nat.zero_le _), fun _ => trivial⟩, hperm, hn⟩
  clear ho hg0 hn hperm hcmp hasc
  go_enter Try.func160, Try.ntmps160
  go_wp2
  go_loopw [7, 8] (fun va vb wr => Pass1 g n c N key D0 w0 va vb wr) (fun va vb _ => n + 1 - (intOf vb).toNat)
  case atStart => exact ⟨0, 20, D, rfl, rfl, ⟨rfl, Nat.dvd_zero _, Nat.zero_le _⟩, ⟨HO.out, HG.out⟩, HD.out⟩
  case round =>
    obtain ⟨a, b, E, rfl, rfl, HA, HE, HB⟩ := hrel
    clear HO HG HD
    have hb0 : 20 ≤ b ∧ b ≤ n + 20 ∧ a ≤ n := by have := HA.out; omega
    by_cases hbn : b ≤ n
    · have i1 : (b : Int) ≤ (n : Int) := by omega
      have HC := Lib.hid (HINS.out a b E wr HE.out.2 HE.out.1 HB.out.2.2 HB.out.2.1 (by have := HA.out; omega) hbn (HB.out.1.asc hbn fun c c1 c2 => .inl (by omega)))
      go_wp2_with fail
      refine HC.out.mono ?_
      rintro _ W1 ⟨rfl, hr⟩
      have HR : Hid (∃ F, (OwnI W1 N (.slice (some ⟨g, 0, none⟩) n c) F ∧ GrownL [g] w0 W1) ∧ Blks (Bd20 b) key F n ∧ F.Perm D0 ∧ n = F.length) := by
        obtain ⟨F, hF, hs, hseg, hgr⟩ := hr
        obtain ⟨e1, e2, e3⟩ := HA.out
        rw [e1] at hs hseg ⊢
        exact ⟨F, ⟨hF, hgr⟩, Bd20.next HB.out.1 e2 hseg hs (by omega), hseg.perm.trans HB.out.2.1, HB.out.2.2.trans hseg.len.symm⟩
      clear hr HC
      go_wp2
      go_roundw
      case rel =>
        obtain ⟨F, hF, hB⟩ := HR.out
        have hA := HA.out
        refine ⟨b, b + 20, F, rfl, by go_num, ⟨rfl, ?_, hbn⟩, hF, hB⟩
        rw [hA.1]; exact (Nat.dvd_add_right hA.2.1).2 (Nat.dvd_refl _)
      case measure => simp [intOf]; omega
    · have i1 : ¬ (b : Int) ≤ (n : Int) := by omega
      have HC := Lib.hid (HINS.out a n E wr HE.out.2 HE.out.1 HB.out.2.2 HB.out.2.1 hb0.2.2 (Nat.le_refl _) (HB.out.1.asc (Nat.le_refl _) fun c c1 c2 => .inl (by omega)))
      go_wp2_with fail
      refine HC.out.mono ?_
      rintro _ W1 ⟨rfl, hr⟩
      have HR : Hid (∃ F, (OwnI W1 N (.slice (some ⟨g, 0, none⟩) n c) F ∧ GrownL [g] w0 W1) ∧ Blks (fun c => 20 ∣ c) key F n ∧ F.Perm D0 ∧ n = F.length) := by
        obtain ⟨F, hF, hs, hseg, hgr⟩ := hr
        obtain ⟨e1, e2, e3⟩ := HA.out
        exact ⟨F, ⟨hF, hgr⟩, Bd20.last HB.out.1 e2 hseg hs e3 (by omega), hseg.perm.trans HB.out.2.1, HB.out.2.2.trans hseg.len.symm⟩
      clear hr HC HE HB HINS HA hb0 hbn
      go_wp2
      go_loopw [6] (fun vs wr => Pass2 g n c N key D0 w0 vs wr) (fun vs _ => n - (intOf vs).toNat)
      case atStart =>
        obtain ⟨F, hF, hB⟩ := HR.out
        exact ⟨20, F, rfl, by omega, by omega, hF, hB⟩
      case round =>
        obtain ⟨s, E, rfl, hs1, hs2, HE, HB⟩ := hrel
        clear HR
        by_cases hsn : s < n
        · have j1 : (s : Int) < (n : Int) := by omega
          obtain ⟨d, hd⟩ : ∃ d, d = 2 * s := ⟨_, rfl⟩
          have hdI : 2 * (s : Int) = (d : Int) := by omega
          have hdJ : (s : Int) * 2 = (d : Int) := by omega
          have hd2 : d ≤ 2097152 := by omega
          have hd0 : 1 ≤ d := by omega
          have HD := Lib.hid hd
          clear hd
          go_wp2
          go_loopw [7, 8] (fun va vb wr => Pass3 g n c N s key D0 w0 va vb wr) (fun va vb _ => n + 1 - (intOf vb).toNat)
          case atStart =>
            refine ⟨0, d, E, rfl, rfl, ⟨by rw [HD.out, Nat.zero_add], Nat.dvd_zero _, Nat.zero_le _⟩, HE.out, HB.out.1.congr fun c c1 _ => bd2_start s c c1, HB.out.2⟩
          case round =>
            obtain ⟨a, b, F, rfl, rfl, HA, HF, HBF⟩ := hrel
            clear HE HB
            have hb0 : d ≤ b ∧ b ≤ n + d ∧ a ≤ n ∧ b = a + d ∧ d = 2 * s := by have := HA.out; have := HD.out; omega
            obtain ⟨m, hm⟩ : ∃ m, m = a + s := ⟨_, rfl⟩
            have hmI : (a : Int) + (s : Int) = (m : Int) := by omega
            have hmb : m ≤ 4194304 := by omega
            by_cases hbn : b ≤ n
            · have k1 : (b : Int) ≤ (n : Int) := by omega
              have HC := Lib.hid (HSYM.out a m b F wr HF.out.2 HF.out.1 HBF.out.2.2 HBF.out.2.1 (by omega) (by omega) hbn (HBF.out.1.pre hbn (by rw [hm]; exact Bd2.mid hs1 HA.out.2.1) (by omega) (by omega) fun c c1 c2 hc => by rw [hm]; exact Bd2.only HA.out.2.1 c1 (by rw [← HA.out.1]; exact c2) hc))
              have HM := Lib.hid hm
              have HB0 := Lib.hid hb0
              clear hm hb0
              go_wp2_with fail
              refine HC.out.mono ?_
              rintro _ W1 ⟨rfl, hr⟩
              have HR : Hid (∃ G, (OwnI W1 N (.slice (some ⟨g, 0, none⟩) n c) G ∧ GrownL [g] w0 W1) ∧ Blks (Bd2 s b) key G n ∧ G.Perm D0 ∧ n = G.length) := by
                obtain ⟨G, hG, hs, hseg, hgr⟩ := hr
                obtain ⟨e1, e2, e3⟩ := HA.out
                rw [e1] at hs hseg ⊢
                exact ⟨G, ⟨hG, hgr⟩, Bd2.next HBF.out.1 hs1 e2 hseg hs (by omega), hseg.perm.trans HBF.out.2.1, HBF.out.2.2.trans hseg.len.symm⟩
              clear hr HC
              go_wp2
              go_roundw
              case rel =>
                obtain ⟨G, hG, hB⟩ := HR.out
                have hA := HA.out
                have h0 := HB0.out
                refine ⟨b, b + d, G, rfl, by go_num, ⟨by rw [h0.2.2.2.2], ?_, hbn⟩, hG, hB⟩
                rw [hA.1]; exact (Nat.dvd_add_right hA.2.1).2 (Nat.dvd_refl _)
              case measure => have := HB0.out; simp [intOf]; omega
            · have k1 : ¬ (b : Int) ≤ (n : Int) := by omega
              by_cases hmn : m < n
              · have l1 : (m : Int) < (n : Int) := by omega
                have HC := Lib.hid (HSYM.out a m n F wr HF.out.2 HF.out.1 HBF.out.2.2 HBF.out.2.1 (by omega) hmn (Nat.le_refl _) (HBF.out.1.pre (Nat.le_refl _) (by rw [hm]; exact Bd2.mid hs1 HA.out.2.1) (by omega) hmn fun c c1 c2 hc => by rw [hm]; exact Bd2.only HA.out.2.1 c1 (by rw [← HA.out.1]; omega) hc))
                have HM := Lib.hid hm
                have HB0 := Lib.hid hb0
                clear hm hb0
                go_wp2_with fail
                refine HC.out.mono ?_
                rintro _ W1 ⟨rfl, hr⟩
                have HR : Hid (∃ G, (OwnI W1 N (.slice (some ⟨g, 0, none⟩) n c) G ∧ GrownL [g] w0 W1) ∧ Blks (fun c => d ∣ c) key G n ∧ G.Perm D0 ∧ n = G.length) := by
                  obtain ⟨G, hG, hs, hseg, hgr⟩ := hr
                  obtain ⟨e1, e2, e3⟩ := HA.out
                  rw [HD.out]
                  exact ⟨G, ⟨hG, hgr⟩, Bd2.last HBF.out.1 hs1 e2 hseg hs (by omega), hseg.perm.trans HBF.out.2.1, HBF.out.2.2.trans hseg.len.symm⟩
                clear hr HC
                go_wp2
                go_roundw
                case rel =>
                  obtain ⟨G, hG, hB⟩ := HR.out
                  exact ⟨d, G, rfl, hd0, hd2, hG, hB⟩
                case measure => have := HB0.out; simp [intOf]; omega
              · have l1 : ¬ (m : Int) < (n : Int) := by omega
                have HR : Hid (Blks (fun c => d ∣ c) key F n) := by
                  obtain ⟨e1, e2, e3⟩ := HA.out
                  rw [HD.out]
                  exact Bd2.last HBF.out.1 hs1 e2 (SegSame.refl _ _ _) (HBF.out.1.sorted (Nat.le_refl _) fun c c1 c2 hc => by have := Bd2.only e2 c1 (by omega) hc; omega) (by omega)
                have HM := Lib.hid hm
                have HB0 := Lib.hid hb0
                clear hm hb0
                go_wp2
                go_roundw
                case rel => exact ⟨d, F, rfl, hd0, hd2, HF.out, HR.out, HBF.out.2⟩
                case measure => have := HB0.out; simp [intOf]; omega
        · have j1 : ¬ (s : Int) < (n : Int) := by omega
          have HFIN : Hid (SortPost g n c N key D0 w0 wr) := ⟨E, HE.out.1, blks_end HB.out.1 (by omega), HB.out.2.1, HE.out.2⟩
          clear HE HB
          go_wp2
          go_end0
          exact ⟨rfl, HFIN.out⟩
end Go.Proofs.Ytcjeededlhdcbaa

namespace Go.Proofs.Ytcjeededlhdcbaa
open Go.RowKit
set_option linter.unusedVariables false
set_option linter.unusedSimpArgs false

/-- 0, 1, .. n - 1. -/
def idL (n : Nat) : List Int := (List.range n).map fun (i : Nat) => (i : Int)
theorem idL_length (n : Nat) : (idL n).length = n := by simp [idL]
theorem idL_succ (n : Nat) : idL (n + 1) = idL n ++ [(n : Int)] := by unfold idL; rw [List.range_succ, List.map_append]; rfl
theorem idL_get {n i : Nat} (h : i < n) : nth (idL n) i = (i : Int) := by
  rw [nth_eq (by rw [idL_length]; exact h)]; simp [idL]

theorem counting_any (n : Nat) (w : World) (hn : n ≤ 1048576) :
    Calls Try.prog 134 #[.int .i64 n] w fun e w' => (∃ g c, e = .returned (.slice (some ⟨g, 0, none⟩) n c) ∧ OwnI w' w.heap.size (.slice (some ⟨g, 0, none⟩) n c) (idL n)) ∧ Below w.heap.size w w' := by
  have HA0 : Hid (OwnI (w.alloc (.cells #[] 2)) w.heap.size (.slice (some ⟨w.heap.size, 0, none⟩) 0 0) (idL 0)) := OwnI.lit w w.heap.size [] (Nat.le_refl _) (Nat.zero_le _)
  have HB0 : Hid (Below w.heap.size w (w.alloc (.cells #[] 2))) := (Below.refl _ w).alloc (Nat.le_refl _) _
  go_enter Try.func134, Try.ntmps134
  go_wp2
  go_loopw [3, 4, 7] (fun v _ i wr => ∃ (k g c : Nat), k ≤ n ∧ i = .int .i64 k ∧ v = .slice (some ⟨g, 0, none⟩) k c ∧ OwnI wr w.heap.size (.slice (some ⟨g, 0, none⟩) k c) (idL k) ∧ Below w.heap.size w wr) (fun _ _ i _ => n - (intOf i).toNat)
  case atStart => exact ⟨0, w.heap.size, 0, Nat.zero_le _, rfl, rfl, HA0.out, HB0.out⟩
  case round =>
    obtain ⟨k, g, c, hk, rfl, rfl, ho, hb⟩ := hrel
    have hws := hb.size
    have HO := Lib.hid ho
    have HB := Lib.hid hb
    clear ho hb HA0 HB0
    by_cases hlt : k < n
    · have HLK := Lib.hid (idL_length k)
      go_wp2_with (at_builtin; refine append_i64 rfl _ _ rfl w.heap.size (.slice (some ⟨g, 0, none⟩) k c) (idL k) [(k : Int)] (by simp) rfl _ rfl HO.out hws (by rw [HLK.out]; simp; omega) ?_; intro g1 c1 w3 ho3 hg3; have hb3 := Below.app HB.out HO.out hg3 hws; have HO3 := Lib.hid ho3; have HB3 := Lib.hid hb3; clear ho3 hb3 hg3)
      go_roundw
      case rel => exact ⟨k + 1, g1, c1, by omega, by go_num, (by simp [idL_length]), by rw [idL_succ]; have := HO3.out; rw [HLK.out] at this; exact this, HB3.out⟩
      case measure => simp [intOf]; omega
    · obtain rfl : k = n := by omega
      clear hlt
      go_wp2
      go_ret
      exact ⟨⟨g, c, rfl, HO.out⟩, HB.out⟩
end Go.Proofs.Ytcjeededlhdcbaa

namespace Go.Proofs.Ytcjeededlhdcbaa
open Go.RowKit
set_option linter.unusedVariables false
set_option linter.unusedSimpArgs false

/-- -1, 0 or 1. -/
def cmpI (x y : Int) : Int := if x < y then -1 else if y < x then 1 else 0
theorem cmpI_neg (x y : Int) : cmpI x y < 0 ↔ x < y := by unfold cmpI; split <;> (try split) <;> omega

set_option maxRecDepth 100000 in
theorem compare_any (x y : Int) (w : World) : Calls Try.prog 137 #[.int .i64 x, .int .i64 y] w fun e w' => e = .returned (.int .i64 (cmpI x y)) ∧ w = w' := by
  have hN : Hid (∀ z, Calls Try.prog 161 #[.int .i64 z] w fun e w' => e = .returned (.bool false) ∧ w = w') := by
    intro z
    go_enter Try.func161, Try.ntmps161
    go_wp2
    go_ret
    trivial
  go_enter Try.func137, Try.ntmps137
  by_cases h1 : x < y
  · have e1 : Hid (cmpI x y = -1) := by show _ = _; unfold cmpI; rw [if_pos h1]
    go_wp2_with (go_at_call 161; refine (hN.out _).mono ?_; rintro e w' ⟨rfl, rfl⟩)
    go_ret
    exact ⟨ret_int e1.out.symm, rfl⟩
  · by_cases h2 : x > y
    · have e1 : Hid (cmpI x y = 1) := by show _ = _; unfold cmpI; rw [if_neg h1, if_pos h2]
      go_wp2_with (go_at_call 161; refine (hN.out _).mono ?_; rintro e w' ⟨rfl, rfl⟩)
      go_ret
      exact ⟨ret_int e1.out.symm, rfl⟩
    · have e1 : Hid (cmpI x y = 0) := by show _ = _; unfold cmpI; rw [if_neg h1, if_neg h2]
      go_wp2_with (go_at_call 161; refine (hN.out _).mono ?_; rintro e w' ⟨rfl, rfl⟩)
      go_ret
      exact ⟨ret_int e1.out.symm, rfl⟩

/-- What is asked of a key: it only reads. -/
def KeyAt (kf : Nat) (cap : Array Value) (key : Int → Int) (x : Int) (W : World) : Prop :=
  Calls Try.prog kf (#[.int .i64 x] ++ cap) W fun e w' => e = .returned (.int .i64 (key x)) ∧ ∃ q, w' = W.drewN q

set_option maxRecDepth 100000 in
theorem cmpBy_any (kb kf : Nat) (cap : Array Value) (key : Int → Int) (x y : Int) (W : World) (hb : Boxed W kb 101 (.func (.func kf) #[] cap)) (hx : ∀ q, KeyAt kf cap key x (W.drewN q)) (hy : ∀ q, KeyAt kf cap key y (W.drewN q))
    (heg : ∀ args w, (callFunc kf args).run Try.prog w = .ok (.enter kf args) w) :
    Calls Try.prog 136 #[.int .i64 x, .int .i64 y, .pointer (some ⟨kb, 0, none⟩)] W fun e w' => e = .returned (.int .i64 (cmpI (key x) (key y))) ∧ ∃ q, w' = W.drewN q := by
  have HX := Lib.hid hx
  have HY := Lib.hid hy
  have hbc := hb.cell
  clear hx hy hb
  go_enter Try.func136, Try.ntmps136
  go_wp2
  go_quiet ((first | exact quiet_drewI (HX.out _) | exact quiet_drewI (HY.out _) | (go_at_call 137; exact quiet_eq (compare_any _ _ _))))
  go_wp2
  go_ret
  exact ⟨rfl, _, rfl⟩

/-- Sorted by the key, equal ones in their order. -/
def SortsBy (key : Int → Int) (n : Nat) (E : List Int) : Prop := E.Perm (idL n) ∧ SortedOn key E 0 n
theorem idL_mem {n : Nat} {x : Int} : x ∈ idL n ↔ 0 ≤ x ∧ x < n := by
  unfold idL
  rw [List.mem_map]
  constructor
  · rintro ⟨i, hi, rfl⟩
    have := List.mem_range.1 hi
    omega
  · intro h
    exact ⟨x.toNat, List.mem_range.2 (by omega), by omega⟩

theorem sortStable_any (g n c N kb : Nat) (key : Int → Int) (cf : Int → Int → Int) (hcf : ∀ x y, cf x y < 0 ↔ key x < key y) (D0 : List Int) (w0 : World) (hcmp : CmpOk kb cf g D0 w0) (hsz : n ≤ 1048576)
    (w : World) (hg0 : GrownL [g] w0 w) (ho : OwnI w N (.slice (some ⟨g, 0, none⟩) n c) D0) (hn : n = D0.length) (hasc : ∀ p q, p < q → q < n → nth D0 p < nth D0 q) :
    Calls Try.prog 135 #[.slice (some ⟨g, 0, none⟩) n c, .func (.func 136) #[] #[.pointer (some ⟨kb, 0, none⟩)]] w fun e w' => e = .returned (.tuple #[]) ∧ SortPost g n c N key D0 w0 w' := by
  have HC := Lib.hid (stable_any g n c N kb key cf hcf D0 w0 hcmp hsz D0 w hg0 ho hn (List.Perm.refl _) hasc)
  clear hcmp ho hg0 hasc hn
  go_enter Try.func135, Try.ntmps135
  go_wp2_with fail
  refine HC.out.mono ?_
  rintro _ W1 ⟨rfl, hr⟩
  have HR := Lib.hid hr
  clear hr HC
  go_wp2
  go_end0
  exact ⟨rfl, HR.out⟩

set_option maxRecDepth 100000 in
set_option maxHeartbeats 2000000 in
theorem sortedBy_any (n kf : Nat) (cap : Array Value) (key : Int → Int) (w : World) (hn : n ≤ 1048576) (hkey : ∀ W (x : Int), 0 ≤ x → x < n → Below w.heap.size w W → KeyAt kf cap key x W)
    (heg : ∀ args w, (callFunc kf args).run Try.prog w = .ok (.enter kf args) w) :
    Calls Try.prog 92 #[.int .i64 n, .func (.func kf) #[] cap] w fun e w' => (∃ g c E, e = .returned (.slice (some ⟨g, 0, none⟩) n c) ∧ OwnI w' w.heap.size (.slice (some ⟨g, 0, none⟩) n c) E ∧ n = E.length ∧ SortsBy key n E) ∧ Below w.heap.size w w' := by
  have HKEY := Lib.hid hkey
  clear hkey
  obtain ⟨W0, hW0⟩ : ∃ W, w.alloc (.cells #[.func (.func kf) #[] cap] 101) = W := ⟨_, rfl⟩
  have HB0 : Hid (Below w.heap.size w W0) := by show Below _ _ _; rw [← hW0]; exact (Below.refl _ w).alloc (Nat.le_refl _) _
  have HBX : Hid (Boxed W0 w.heap.size 101 (.func (.func kf) #[] cap)) := by show Boxed _ _ _ _; rw [← hW0]; exact Boxed.new _ _ _
  have HSZ : Hid (W0.heap.size = w.heap.size + 1) := by show _ = _; rw [← hW0]; simp
  have HCNT := Lib.hid (counting_any n W0 hn)
  go_enter Try.func92, Try.ntmps92
  go_wp2_with fail
  refine HCNT.out.mono ?_
  rintro e W1 ⟨⟨g, c, rfl, ho⟩, hb⟩
  have hgb : w.heap.size ≠ g ∧ W0.heap.size ≤ g := by
    rcases ho.2 with ⟨h1, _⟩ | ⟨g', cap', cur, h1, h2, _⟩
    · cases h1
    · obtain ⟨rfl⟩ : g = g' := by simp at h1; exact h1.1
      have := HSZ.out
      omega
  have hs1 := hb.size
  have HBX1 : Hid (Boxed W1 w.heap.size 101 (.func (.func kf) #[] cap)) := (hb.block _ (by have := HSZ.out; omega)).trans HBX.out
  have HB1 : Hid (Below w.heap.size w W1) := HB0.out.trans (hb.mono (by have := HSZ.out; omega))
  have HC := Lib.hid (sortStable_any g n c W0.heap.size w.heap.size key (fun x y => cmpI (key x) (key y)) (fun x y => cmpI_neg _ _) (idL n) W1 (by
    intro W x y hx hy hW
    have hx1 := idL_mem.1 hx
    have hy1 := idL_mem.1 hy
    have hbW : ∀ q, Below w.heap.size w (W.drewN q) := fun q => (hW.drewN q).toBelow HB1.out (by have := HSZ.out; omega) (fun i hi => by simp; have := HSZ.out; omega)
    exact cmpBy_any w.heap.size kf cap key x y W (hW.boxed HBX1.out (by simp; exact hgb.1)) (fun q => HKEY.out _ x hx1.1 hx1.2 (hbW q)) (fun q => HKEY.out _ y hy1.1 hy1.2 (hbW q)) heg) hn W1 (GrownL.refl _ _) ho (idL_length n).symm (fun p q h1 h2 => by rw [idL_get (by omega), idL_get h2]; omega))
  have HGB := Lib.hid hgb
  clear ho hb hgb hs1 HCNT hW0 HKEY
  go_wp2_with fail
  refine HC.out.mono ?_
  rintro _ W2 ⟨rfl, hr⟩
  have HR : Hid ((∃ E, OwnI W2 w.heap.size (.slice (some ⟨g, 0, none⟩) n c) E ∧ n = E.length ∧ SortsBy key n E) ∧ Below w.heap.size w W2) := by
    obtain ⟨E, hE, hs, hp, hg⟩ := hr
    refine ⟨⟨E, hE.mono (by have := HSZ.out; omega), by rw [hp.length_eq, idL_length], hp, hs⟩, hg.toBelow HB1.out (by have := HB1.out.size; omega) (fun i hi => by simp; have := HGB.out; have := HSZ.out; omega)⟩
  clear hr HC
  go_wp2
  go_ret
  obtain ⟨⟨E, h1, h2, h3⟩, h4⟩ := HR.out
  exact ⟨⟨g, c, E, rfl, h1, h2, h3⟩, h4⟩
end Go.Proofs.Ytcjeededlhdcbaa

namespace Go.Proofs.Ytcjeededlhdcbaa
open Go.RowKit Go.Shelf
set_option linter.unusedVariables false
set_option linter.unusedSimpArgs false
attribute [local go_sem] Oper.semAt_some

/-- The world behind the call. -/
structure ChunkW (w w' : World) (v : Value) (n : Int) : Prop where
  size : w'.heap.size = w.heap.size + 2
  below : Below w.heap.size w w'
  s : w'.cell? ⟨w.heap.size, 0, none⟩ = some v
  n : w'.cell? ⟨w.heap.size + 1, 0, none⟩ = some (.int .i64 n)

/-- The two numbers of a pair, in whatever later world. -/
theorem pair_cells {w W : World} {N b o m : Nat} {xs : List Int} (hbs : 0 < xs.length → b < w.heap.size) (hcs : ∀ i (h : i < xs.length), w.cell? ⟨b, o + i, none⟩ = some (.int .i64 xs[i]))
    (hB : Below N w W) (hN : w.heap.size ≤ N) (hxm : xs.length = 2 * m) (x : Fin m) :
    W.cell? ⟨b, o + x.1 * 2, none⟩ = some (.int .i64 (nth xs (2 * x.1))) ∧ W.cell? ⟨b, o + x.1 * 2 + 1, none⟩ = some (.int .i64 (nth xs (2 * x.1 + 1))) := by
  have hx := x.2
  have h0 := hbs (by omega)
  refine ⟨?_, ?_⟩
  · rw [hB.cell (p := ⟨b, o + x.1 * 2, none⟩) (show b < N by omega), Nat.mul_comm x.1 2, hcs _ (by omega), nth_eq (by omega)]
  · rw [hB.cell (p := ⟨b, o + x.1 * 2 + 1, none⟩) (show b < N by omega), Nat.mul_comm x.1 2, Nat.add_assoc, hcs _ (by omega), nth_eq (by omega)]

/-- The elements that come: the j-th chunk. -/
def chunkAt (b off n : Nat) (j : Nat) : Value := .slice (some ⟨b, off + j * n, none⟩) n n

theorem hmul (n m j : Nat) (h : j < m) : j * n + n ≤ n * m := by
  have := Nat.mul_le_mul_right n (show j + 1 ≤ m from h)
  rw [Nat.add_mul, Nat.one_mul, Nat.mul_comm m n] at this
  exact this

/-- What a round over slices.Chunk must keep: the two boxes of the iterator. -/
structure Keep2 (Bs Bn : Nat) (W W' : World) : Prop where
  s : W'.heap[Bs]? = W.heap[Bs]?
  n : W'.heap[Bn]? = W.heap[Bn]?

theorem Keep2.refl (Bs Bn : Nat) (W : World) : Keep2 Bs Bn W W := ⟨rfl, rfl⟩
theorem Keep2.trans {Bs Bn : Nat} {A B C : World} (h : Keep2 Bs Bn A B) (k : Keep2 Bs Bn B C) : Keep2 Bs Bn A C := ⟨k.s.trans h.s, k.n.trans h.n⟩
theorem Keep2.below {Bs Bn N : Nat} {A B C : World} (h : Keep2 Bs Bn A B) (k : Below N B C) (h1 : Bs < N) (h2 : Bn < N) : Keep2 Bs Bn A C := h.trans ⟨k.block _ h1, k.block _ h2⟩
theorem Keep2.drewN {Bs Bn : Nat} {A B : World} (h : Keep2 Bs Bn A B) (q : Nat) : Keep2 Bs Bn A (B.drewN q) := h.trans ⟨rfl, rfl⟩
theorem Keep2.drew {Bs Bn : Nat} {A B : World} (h : Keep2 Bs Bn A B) : Keep2 Bs Bn A B.drew := h.trans ⟨rfl, rfl⟩
theorem Keep2.setCell {Bs Bn : Nat} {A B : World} (h : Keep2 Bs Bn A B) {p : Addr} (h1 : Bs ≠ p.block) (h2 : Bn ≠ p.block) (v : Value) : Keep2 Bs Bn A (B.setCell p v) :=
  h.trans ⟨Below.heap_setCell _ _ _ _ h1, Below.heap_setCell _ _ _ _ h2⟩
theorem Keep2.alloc {Bs Bn : Nat} {A B : World} (h : Keep2 Bs Bn A B) (h1 : Bs < B.heap.size) (h2 : Bn < B.heap.size) (o : Obj) : Keep2 Bs Bn A (B.alloc o) :=
  h.trans ⟨Below.heap_alloc _ _ _ h1, Below.heap_alloc _ _ _ h2⟩
theorem Keep2.grown {Bs Bn : Nat} {A B C : World} {row : Option Nat} (h : Keep2 Bs Bn A B) (g : B.grownBy C row) (h1 : Bs < B.heap.size) (h2 : Bn < B.heap.size) (h3 : some Bs ≠ row) (h4 : some Bn ≠ row) : Keep2 Bs Bn A C :=
  h.trans ⟨g.block _ h1 h3, g.block _ h2 h4⟩
theorem Keep2.cell {Bs Bn : Nat} {A B : World} (h : Keep2 Bs Bn A B) : B.cell? ⟨Bs, 0, none⟩ = A.cell? ⟨Bs, 0, none⟩ ∧ B.cell? ⟨Bn, 0, none⟩ = A.cell? ⟨Bn, 0, none⟩ :=
  ⟨World.cell?_of_block h.s, World.cell?_of_block h.n⟩

theorem min_eq (n r : Nat) (h : n ≤ r) : (if (n : Int) < (r : Int) then (n : Int) else (r : Int)) = (n : Int) := by
  split <;> omega

theorem keep2_b {Bs Bn : Nat} {w : World} (h1 : Bs < w.heap.size) (h2 : Bn < w.heap.size) (W : World) (l : Nat) (o o' : Obj) (hl : w.heap.size ≤ l) (_ : W.heap[l]? = some o) (_ : o.isCells = false) (_ : o.isWalk = false) : Keep2 Bs Bn W (W.putObj l o') :=
  ⟨World.putObj_heap_other (by omega), World.putObj_heap_other (by omega)⟩

/-! Small words on what such a loop keeps. -/
theorem _root_.Go.KeepsFrom.below {B N : Nat} {A W W' : World} (h : KeepsFrom B A W) (k : Below N W W') (hN : W.heap.size ≤ N) : KeepsFrom B A W' :=
  h.trans ⟨k.size, fun i o _ hi _ => (k.block i (by have := (Array.getElem?_eq_some_iff.1 hi).1; omega)).trans hi⟩
theorem _root_.Go.KeepsFrom.drewN {B : Nat} {A W : World} (h : KeepsFrom B A W) (q : Nat) : KeepsFrom B A (W.drewN q) := h.trans ⟨Nat.le_refl _, fun _ _ _ hi _ => hi⟩
theorem _root_.Go.KeepsFrom.drew {B : Nat} {A W : World} (h : KeepsFrom B A W) : KeepsFrom B A W.drew := h.trans ⟨Nat.le_refl _, fun _ _ _ hi _ => hi⟩
theorem _root_.Go.KeepsFrom.setCell {B : Nat} {A W : World} (h : KeepsFrom B A W) (p : Addr) (v : Value) : KeepsFrom B A (W.setCell p v) := h.trans ((KeepsOthers.setCell W p v).from B)
theorem _root_.Go.KeepsFrom.alloc {B : Nat} {A W : World} (h : KeepsFrom B A W) (o : Obj) : KeepsFrom B A (W.alloc o) := h.trans ((KeepsOthers.alloc W o).from B)
theorem ownFrom_cell {β : Type} (B : Nat) (p : β → Addr) (v : β → Value) : OwnFrom B (fun s W => W.cell? (p s) = some (v s)) :=
  fun s A B' row hs hg hr => cell_kept hs hg (fun r e => (hr r e).2)
theorem ownFrom_frozen {β : Type} (B : Nat) (p : β → Addr) (v : β → Value) (b : β → Bool) : OwnFrom B (fun s W => W.cell? (p s) = some (v s) ∧ W.frozen? (p s) = b s) :=
  fun s A B' row hs hg hr => ⟨cell_kept hs.1 hg (fun r e => (hr r e).2), (frozen_kept hs.1 hg (fun r e => (hr r e).2)).trans hs.2⟩
theorem ownFrom_boxed {β : Type} (N B : Nat) (t : TypeId) (v : β → Value) : OwnFrom N (fun s W => Boxed W B t (v s)) := (boxed_own B t v).from N

/-- The end of a function that holds one loop over an iterator. -/
theorem bodyM_ret {P : Program} {n : Nat} {fn : Func} {R : Ending → World → Prop} {a : Act} {W : World} {D : Nat} {v : Value} (hd : a.defers = [{ target := .collected D, args := #[] }]) (hK : W.heap[D]? = some (.deferred (some [])))
    (hres : (results fn a.tmps).run P (W.putObj D (.deferred none)) = .ok v (W.putObj D (.deferred none))) (hR : R (.returned v) (W.putObj D (.deferred none))) : bodyPostM Fence.wide n P fn R .ret a W := by
  show LeavesInM Fence.wide n P fn a.tmps R a.defers .returning W
  rw [hd]
  exact ⟨by simp, .inl ⟨_, _, rfl, run_takeDeferred hK, v, hres, hR⟩⟩

theorem below_putObj {N D : Nat} {w W : World} {o o' : Obj} (h : Below N w W) (hN : N ≤ D) (hD : W.heap[D]? = some o) : Below N w (W.putObj D o') :=
  h.trans ⟨rfl, rfl, rfl, by simp [World.putObj], fun k hk => World.putObj_heap_other (by omega)⟩

theorem boxed_putObj {W : World} {B D : Nat} {t : TypeId} {v : Value} {o' : Obj} (h : Boxed W B t v) (hD : W.heap[D]? = some (.deferred (some []))) : Boxed (W.putObj D o') B t v := by
  have hne : B ≠ D := fun e => by subst e; have h1 : W.heap[B]? = some (.cells #[v] t (0, 0)) := h; rw [h1] at hD; cases hD
  exact (World.putObj_heap_other hne).trans h

theorem kept_setCell {W : World} {D : Nat} {p : Addr} {v : Value} (hK : W.heap[D]? = some (.deferred (some []))) : (W.setCell p v).heap[D]? = some (.deferred (some [])) :=
  (KeepsOthers.setCell W p v).same D _ hK rfl

/-- A chunk reads as its part of the list, in whatever later world. -/
theorem chunk_ints {w W : World} {N b o n j : Nat} {xs : List Int} (hbs : 0 < xs.length → b < w.heap.size) (hcs : ∀ i (h : i < xs.length), w.cell? ⟨b, o + i, none⟩ = some (.int .i64 xs[i]))
    (hB : Below N w W) (hN : w.heap.size ≤ N) (hj : j * n + n ≤ xs.length) (hsm : n ≤ 1048576) : Ints W (chunkAt b o n j) ((xs.drop (j * n)).take n) := by
  have hlen : ((xs.drop (j * n)).take n).length = n := by simp; omega
  refine ⟨by unfold maxLen; omega, some ⟨b, o + j * n, none⟩, n, by rw [hlen]; rfl, by omega, fun i hi => ⟨b, o + j * n, rfl, ?_, ?_⟩⟩
  · have h0 := hbs (by omega); have := hB.size; omega
  · rw [hlen] at hi
    have h0 := hbs (by omega)
    rw [hB.cell (p := ⟨b, o + j * n + i, none⟩) (show b < N by omega), Nat.add_assoc, hcs _ (by omega)]
    simp
end Go.Proofs.Ytcjeededlhdcbaa

namespace Go.Proofs.Ytcjeededlhdcbaa
open Go.RowKit Go.Shelf Go.BigFrame
set_option linter.unusedVariables false
set_option linter.unusedSimpArgs false
attribute [local go_sem] Oper.semAt_some

def talksHead (xs : List Int) : Bool := many xs 2 64 0 10000 && decide (xs.length % 2 = 0)
def talksOk (xs : List Int) : Bool := talksHead xs && (List.range (xs.length / 2)).all fun j => decide (nth xs (2 * j) < nth xs (2 * j + 1))

theorem talks_split {xs : List Int} (hl : 2 ≤ xs.length) (h2 : xs.length ≤ 64) (h3 : xs.length % 2 = 0)
    (h : ∀ j, 2 * j < xs.length → 0 ≤ nth xs (2 * j) ∧ nth xs (2 * j) ≤ 10000 ∧ nth xs (2 * j) + 1 ≤ nth xs (2 * j + 1) ∧ nth xs (2 * j + 1) ≤ 10000) : talksOk xs = true := by
  have h1 : (xs.all fun x => win x 0 10000) = true := by
    rw [List.all_eq_true]; intro x hx
    obtain ⟨i, hi, rfl⟩ := List.getElem_of_mem hx
    rw [win_true, ← nth_eq hi]
    rcases Nat.mod_two_eq_zero_or_one i with e | e
    · have := h (i / 2) (by omega)
      rw [show 2 * (i / 2) = i by omega] at this; omega
    · have := h (i / 2) (by omega)
      rw [show 2 * (i / 2) + 1 = i by omega] at this; omega
  have h4 : ((List.range (xs.length / 2)).all fun j => decide (nth xs (2 * j) < nth xs (2 * j + 1))) = true := by
    rw [List.all_eq_true]; intro j hj
    have := h j (by have := List.mem_range.1 hj; omega)
    simp; omega
  have h5 : many xs 2 64 0 10000 = true := many_true.2 ⟨by omega, by omega, h1⟩
  simp [talksOk, talksHead, h5, h3, h4]

theorem talks_bad {xs : List Int} (h3 : xs.length % 2 = 0) (j : Nat) (hj : 2 * j < xs.length) (h : ¬ (0 ≤ nth xs (2 * j) ∧ nth xs (2 * j) ≤ 10000 ∧ nth xs (2 * j) + 1 ≤ nth xs (2 * j + 1) ∧ nth xs (2 * j + 1) ≤ 10000)) : talksOk xs = false := by
  cases hc : talksOk xs
  · rfl
  · exfalso
    simp only [talksOk, talksHead, many, Bool.and_eq_true, List.all_eq_true, decide_eq_true_eq] at hc
    obtain ⟨⟨⟨_, ha⟩, _⟩, hb⟩ := hc
    have h0 := win_true.1 (ha _ (List.getElem_mem (show 2 * j < xs.length from hj)))
    have h1 := win_true.1 (ha _ (List.getElem_mem (show 2 * j + 1 < xs.length by omega)))
    rw [← nth_eq] at h0 h1
    have := hb j (List.mem_range.2 (by omega))
    omega

end Go.Proofs.Ytcjeededlhdcbaa

namespace Go.Proofs.Ytcjeededlhdcbaa
open Go.RowKit Go.BigFrame
set_option linter.unusedVariables false
set_option linter.unusedSimpArgs false
attribute [local go_sem] Oper.semAt_some

def meetB (xs : List Int) (i k : Nat) : Bool := decide (nth xs (2 * i) < nth xs (2 * k + 1)) && decide (nth xs (2 * k) < nth xs (2 * i + 1))
theorem meetB_comm (xs : List Int) (i k : Nat) : meetB xs i k = meetB xs k i := by unfold meetB; rw [Bool.and_comm]

end Go.Proofs.Ytcjeededlhdcbaa

namespace Go.Proofs.Ytcjeededlhdcbaa
open Go.RowKit
set_option linter.unusedVariables false
set_option linter.unusedSimpArgs false

/-- The first of those that are free, with the least key; -1 if there is none. -/
def pickK (f : Nat → Bool) (key : Int → Int) : Nat → Int
  | 0 => -1
  | i + 1 => if f i = true ∧ (pickK f key i < 0 ∨ key i < key (pickK f key i)) then (i : Int) else pickK f key i
theorem pickK_spec (f : Nat → Bool) (key : Int → Int) : ∀ n, (pickK f key n = -1 ∧ ∀ i, i < n → f i = false) ∨ (0 ≤ pickK f key n ∧ pickK f key n < n ∧ f (pickK f key n).toNat = true ∧ ∀ i : Nat, i < n → f i = true → (i : Int) = pickK f key n ∨ lexLt key (pickK f key n) i)
  | 0 => .inl ⟨rfl, fun i h => absurd h (Nat.not_lt_zero _)⟩
  | n + 1 => by
    have ih := pickK_spec f key n
    unfold pickK
    by_cases hf : f n = true
    · rcases ih with ⟨h1, h2⟩ | ⟨h1, h2, h3, h4⟩
      · rw [if_pos ⟨hf, .inl (by omega)⟩]
        refine .inr ⟨by omega, by omega, by simpa using hf, fun i hi h => ?_⟩
        by_cases e : i = n
        · exact .inl (by rw [e])
        · rw [h2 i (by omega)] at h; cases h
      · by_cases hk : key n < key (pickK f key n)
        · rw [if_pos ⟨hf, .inr hk⟩]
          refine .inr ⟨by omega, by omega, by simpa using hf, fun i hi h => ?_⟩
          by_cases e : i = n
          · exact .inl (by rw [e])
          · right; left
            rcases h4 i (by omega) h with h5 | h5 | h5
            · rw [h5]; exact hk
            · omega
            · omega
        · rw [if_neg (fun h => by rcases h.2 with h | h; omega; exact hk h)]
          refine .inr ⟨h1, by omega, h3, fun i hi h => ?_⟩
          by_cases e : i = n
          · subst e
            right
            by_cases e2 : key (pickK f key i) = key i
            · exact .inr ⟨e2, by omega⟩
            · exact .inl (by omega)
          · exact h4 i (by omega) h
    · rw [if_neg (fun h => hf h.1)]
      have hf' : f n = false := by simpa using hf
      rcases ih with ⟨h1, h2⟩ | ⟨h1, h2, h3, h4⟩
      · refine .inl ⟨h1, fun i hi => ?_⟩
        by_cases e : i = n
        · rw [e]; exact hf'
        · exact h2 i (by omega)
      · refine .inr ⟨h1, by omega, h3, fun i hi h => ?_⟩
        by_cases e : i = n
        · rw [e, hf'] at h; cases h
        · exact h4 i (by omega) h

/-- Where a talk ends, where it begins. -/
def endOf (xs : List Int) (i : Int) : Int := nth xs (2 * i.toNat + 1)
def begOf (xs : List Int) (i : Int) : Int := nth xs (2 * i.toNat)
/-- Does i meet one of out? -/
def meetsB (xs : List Int) (out : List Int) (i : Int) : Bool := out.any fun k => meetB xs i.toNat k.toNat
def heardStep (xs : List Int) (out : List Int) (i : Int) : List Int := if meetsB xs out i then out else out ++ [i]
/-- Is i not in out, and meets none of it? -/
def freeS (xs : List Int) (out : List Int) (i : Nat) : Bool := out.all fun k => !(decide ((i : Int) = k) || meetB xs i k.toNat)
def heardN (xs : List Int) (n : Nat) : Nat → List Int → List Int
  | 0, out => out
  | k + 1, out => if pickK (freeS xs out) (endOf xs) n < 0 then out else heardN xs n k (out ++ [pickK (freeS xs out) (endOf xs) n])
def cntF (xs : List Int) (n : Nat) (out : List Int) : Nat := ((List.range n).filter (freeS xs out)).length

theorem filter_less {α : Type} {p q : α → Bool} : ∀ {l : List α}, (∀ x ∈ l, p x = true → q x = true) → (l.filter p).length ≤ (l.filter q).length
  | [], _ => Nat.le_refl _
  | a :: l, h => by
    have ih := filter_less (l := l) fun x hx => h x (List.mem_cons_of_mem _ hx)
    have ha := h a (List.mem_cons_self ..)
    rw [List.filter_cons, List.filter_cons]
    split
    · rename_i h1; rw [if_pos (ha h1)]; simp; exact ih
    · split
      · simp; omega
      · exact ih
theorem filter_lt {α : Type} {p q : α → Bool} {b : α} : ∀ {l : List α}, (∀ x ∈ l, p x = true → q x = true) → b ∈ l → q b = true → p b = false → (l.filter p).length < (l.filter q).length
  | [], _, hb, _, _ => by cases hb
  | a :: l, h, hb, hq, hp => by
    have h' : ∀ x ∈ l, p x = true → q x = true := fun x hx => h x (List.mem_cons_of_mem _ hx)
    rw [List.filter_cons, List.filter_cons]
    rcases List.mem_cons.1 hb with e | hb
    · subst e
      rw [if_neg (by rw [hp]; exact Bool.false_ne_true), if_pos hq]
      have := filter_less h'
      simp; omega
    · have ih := filter_lt h' hb hq hp
      have ha := h a (List.mem_cons_self ..)
      split
      · rename_i h1; rw [if_pos (ha h1)]; simp; exact ih
      · split
        · simp; omega
        · exact ih

theorem freeS_snoc (xs out : List Int) (b : Int) (i : Nat) : freeS xs (out ++ [b]) i = (freeS xs out i && !(decide ((i : Int) = b) || meetB xs i b.toNat)) := by
  unfold freeS; rw [List.all_append]; simp
theorem cntF_less {xs out : List Int} {n : Nat} {b : Int} (h0 : 0 ≤ b) (hn : b < n) (hf : freeS xs out b.toNat = true) : cntF xs n (out ++ [b]) + 1 ≤ cntF xs n out := by
  unfold cntF
  have := filter_lt (p := freeS xs (out ++ [b])) (q := freeS xs out) (b := b.toNat) (l := List.range n) (fun x _ hx => by
    rw [freeS_snoc, Bool.and_eq_true] at hx; exact hx.1) (List.mem_range.2 (by omega)) hf (by
    rw [freeS_snoc]; simp; intro _ h; omega)
  omega
theorem cntF_zero {xs out : List Int} {n : Nat} (h : cntF xs n out = 0) : ∀ i, i < n → freeS xs out i = false := fun i hi => by
  cases hf : freeS xs out i
  · rfl
  · have : i ∈ (List.range n).filter (freeS xs out) := List.mem_filter.2 ⟨List.mem_range.2 hi, hf⟩
    rw [List.length_eq_zero_iff.1 h] at this
    cases this
theorem pick_none {xs out : List Int} {n : Nat} (h : ∀ i, i < n → freeS xs out i = false) : pickK (freeS xs out) (endOf xs) n < 0 := by
  rcases pickK_spec (freeS xs out) (endOf xs) n with ⟨h1, _⟩ | ⟨h1, h2, h3, _⟩
  · omega
  · rw [h _ (by omega)] at h3; cases h3
theorem heardN_stop {xs out : List Int} {n : Nat} (k : Nat) (h : pickK (freeS xs out) (endOf xs) n < 0) : heardN xs n k out = out := by
  cases k with
  | zero => rfl
  | succ k => unfold heardN; rw [if_pos h]
theorem free_iff {xs out : List Int} {n : Nat} (hself : ∀ i, i < n → meetB xs i i = true) {x : Int} (h0 : 0 ≤ x) (hn : x < n) : freeS xs out x.toNat = !meetsB xs out x := by
  unfold freeS meetsB
  rw [List.all_eq_not_any_not]
  congr 2
  funext k
  rw [Bool.not_not]
  by_cases e : ((x.toNat : Nat) : Int) = k
  · rw [← e, Int.toNat_natCast, hself x.toNat (by omega), Bool.or_true]
  · rw [decide_eq_false e, Bool.false_or]

theorem sorts_after {key : Int → Int} {n : Nat} {E pre suf : List Int} {x y : Int} (h : SortsBy key n E) (he : E = pre ++ x :: suf) (hy : y ∈ suf) : lexLt key x y := by
  obtain ⟨j, hj, rfl⟩ := List.getElem_of_mem hy
  have hl : E.length = n := by rw [h.1.length_eq, idL_length]
  have hlen : pre.length + 1 + j < n := by rw [← hl, he]; simp; omega
  have e1 : nth E pre.length = x := by rw [nth_eq (by omega)]; subst he; simp
  have e2 : nth E (pre.length + 1 + j) = suf[j] := by
    rw [nth_eq (by omega)]; subst he
    rw [List.getElem_append_right (by omega)]
    simp only [show pre.length + 1 + j - pre.length = j + 1 by omega, List.getElem_cons_succ]
  have := h.2 pre.length (pre.length + 1 + j) (Nat.zero_le _) (by omega) hlen
  rwa [e1, e2] at this

theorem heard_fold {xs : List Int} {n : Nat} {E : List Int} (hE : SortsBy (endOf xs) n E) (hself : ∀ i, i < n → meetB xs i i = true) :
    ∀ (suf pre out : List Int) (k : Nat), E = pre ++ suf → (∀ x ∈ pre, freeS xs out x.toNat = false) → cntF xs n out ≤ k → suf.foldl (heardStep xs) out = heardN xs n k out := by
  have hmem : ∀ x, x ∈ E ↔ 0 ≤ x ∧ x < (n : Int) := fun x => by rw [hE.1.mem_iff, idL_mem]
  intro suf
  induction suf with
  | nil =>
    intro pre out k he hp _
    rw [List.append_nil] at he
    rw [heardN_stop k (pick_none fun i hi => ?_)]
    · rfl
    · have := hp (i : Int) (by rw [← he]; exact (hmem _).2 ⟨by omega, by omega⟩)
      simpa using this
  | cons x suf ih =>
    intro pre out k he hp hk
    have hx := (hmem x).1 (by rw [he]; simp)
    have hf := free_iff (out := out) hself hx.1 hx.2
    rw [List.foldl_cons]
    cases hm : meetsB xs out x
    · rw [hm] at hf
      have hpick : pickK (freeS xs out) (endOf xs) n = x := by
        rcases pickK_spec (freeS xs out) (endOf xs) n with ⟨_, h2⟩ | ⟨h1, h2, h3, h4⟩
        · rw [h2 _ (by omega)] at hf; cases hf
        · obtain ⟨b, hb⟩ : ∃ b, pickK (freeS xs out) (endOf xs) n = b := ⟨_, rfl⟩
          rw [hb] at h1 h2 h3 h4 ⊢
          have h5 := h4 x.toNat (by omega) hf
          rw [show ((x.toNat : Nat) : Int) = x by omega] at h5
          rcases h5 with h5 | h5
          · exact h5.symm
          · exfalso
            have hbE := (hmem b).2 ⟨h1, h2⟩
            rw [he] at hbE
            rcases List.mem_append.1 hbE with hb1 | hb1
            · rw [hp b hb1] at h3; cases h3
            · rcases List.mem_cons.1 hb1 with hb1 | hb1
              · subst hb1; unfold lexLt at h5; omega
              · have h6 := sorts_after hE he hb1
                unfold lexLt at h5 h6; omega
      have hc := cntF_less hx.1 hx.2 hf
      obtain ⟨k, rfl⟩ : ∃ k', k = k' + 1 := ⟨k - 1, by omega⟩
      unfold heardN
      rw [hpick, if_neg (by omega), ← ih (pre ++ [x]) (out ++ [x]) k (by rw [he]; simp) (fun y hy => ?_) (by omega)]
      · unfold heardStep; rw [hm]; rfl
      · rw [freeS_snoc]
        rcases List.mem_append.1 hy with hy | hy
        · rw [hp y hy]; rfl
        · obtain rfl : y = x := by simpa using hy
          rw [show ((y.toNat : Nat) : Int) = y by omega]; simp
    · rw [hm] at hf
      rw [show heardStep xs out x = out by unfold heardStep; rw [hm]; rfl]
      exact ih (pre ++ [x]) out k (by rw [he]; simp) (fun y hy => by
        rcases List.mem_append.1 hy with hy | hy
        · exact hp y hy
        · obtain rfl : y = x := by simpa using hy
          exact hf) hk
/-- The most talks. -/
def heardL (xs : List Int) : List Int := heardN xs (xs.length / 2) (xs.length / 2) []
theorem cntF_nil (xs : List Int) (n : Nat) : cntF xs n [] ≤ n := by
  unfold cntF
  have := List.length_filter_le (freeS xs []) (List.range n)
  simpa using this
theorem heardL_fold {xs E : List Int} (hE : SortsBy (endOf xs) (xs.length / 2) E) (hself : ∀ i, i < xs.length / 2 → meetB xs i i = true) : E.foldl (heardStep xs) [] = heardL xs :=
  heard_fold hE hself E [] [] _ rfl (fun x hx => by cases hx) (cntF_nil _ _)
theorem meet_self {xs : List Int} (h : talksOk xs = true) : ∀ i, i < xs.length / 2 → meetB xs i i = true := fun i hi => by
  simp only [talksOk, Bool.and_eq_true, List.all_eq_true, decide_eq_true_eq] at h
  have := h.2 i (List.mem_range.2 hi)
  simp [meetB, this]
theorem heardN_len (xs : List Int) (n : Nat) : ∀ k out, (heardN xs n k out).length ≤ out.length + k
  | 0, out => Nat.le_refl _
  | k + 1, out => by
    unfold heardN
    split
    · omega
    · have := heardN_len xs n k (out ++ [pickK (freeS xs out) (endOf xs) n])
      simp at this; omega
/-- What MostTalks returns. -/
def mostR (xs : List Int) : List Int := if talksOk xs then heardL xs else []
theorem mostR_small (xs : List Int) : (mostR xs).length ≤ 32 := by
  unfold mostR
  split
  · rename_i h
    simp only [talksOk, talksHead, Bool.and_eq_true] at h
    have := many_true.1 h.1.1
    have := heardN_len xs (xs.length / 2) (xs.length / 2) []
    unfold heardL
    simp at this; omega
  · exact Nat.zero_le _
end Go.Proofs.Ytcjeededlhdcbaa

namespace Go.Proofs.Ytcjeededlhdcbaa
open Go.RowKit
set_option linter.unusedVariables false
set_option linter.unusedSimpArgs false

/-! The sorted list is one alone. -/
def lexLe (key : Int → Int) (x y : Int) : Bool := decide (key x < key y) || (decide (key x = key y) && decide (x ≤ y))
theorem lexLe_iff {key : Int → Int} {x y : Int} : lexLe key x y = true ↔ key x < key y ∨ key x = key y ∧ x ≤ y := by simp [lexLe]
def sortsL (key : Int → Int) (n : Nat) : List Int := (idL n).mergeSort (lexLe key)
theorem pairwise_of_on {key : Int → Int} {E : List Int} {n : Nat} (hl : E.length = n) (h : SortedOn key E 0 n) : E.Pairwise (lexLt key) := by
  rw [List.pairwise_iff_getElem]
  intro i j hi hj hij
  have := h i j (Nat.zero_le _) hij (by omega)
  rwa [nth_eq hi, nth_eq hj] at this
theorem on_of_pairwise {key : Int → Int} {E : List Int} {n : Nat} (hl : E.length = n) (h : E.Pairwise (lexLt key)) : SortedOn key E 0 n := fun i j _ hij hj => by
  rw [nth_eq (by omega), nth_eq (by omega)]
  exact List.pairwise_iff_getElem.1 h i j (by omega) (by omega) hij
theorem idL_nodup (n : Nat) : (idL n).Pairwise fun x y => x ≠ y := by
  rw [List.pairwise_iff_getElem]
  intro i j hi hj hij
  rw [idL_length] at hi hj
  rw [← nth_eq, ← nth_eq, idL_get hi, idL_get hj]; omega
theorem sortsL_ok (key : Int → Int) (n : Nat) : SortsBy key n (sortsL key n) := by
  have hp : (sortsL key n).Perm (idL n) := List.mergeSort_perm _ _
  refine ⟨hp, on_of_pairwise (by rw [hp.length_eq, idL_length]) ?_⟩
  have h1 : (sortsL key n).Pairwise fun a b => lexLe key a b = true := List.pairwise_mergeSort (fun a b c h k => by rw [lexLe_iff] at *; omega) (fun a b => by rw [Bool.or_eq_true, lexLe_iff, lexLe_iff]; omega) _
  have h2 : (sortsL key n).Pairwise fun x y => x ≠ y := (hp.pairwise_iff (fun h => Ne.symm h)).2 (idL_nodup n)
  exact (h1.and h2).imp fun ⟨h, k⟩ => by rw [lexLe_iff] at h; unfold lexLt; omega
theorem sorts_one {key : Int → Int} {n : Nat} {E F : List Int} (h : SortsBy key n E) (k : SortsBy key n F) : E = F := by
  refine List.Perm.eq_of_pairwise (le := lexLt key) (fun a b _ _ h1 h2 => ?_) (pairwise_of_on (by rw [h.1.length_eq, idL_length]) h.2) (pairwise_of_on (by rw [k.1.length_eq, idL_length]) k.2) (h.1.trans k.1.symm)
  unfold lexLt at h1 h2; omega

/-- The next to be taken. -/
theorem pick_next {key : Int → Int} {n : Nat} {E pre suf : List Int} {x : Int} {f : Nat → Bool} (hE : SortsBy key n E) (he : E = pre ++ x :: suf) (hp : ∀ y ∈ pre, f y.toNat = false) (hx : f x.toNat = true) : pickK f key n = x := by
  have hmem : ∀ x, x ∈ E ↔ 0 ≤ x ∧ x < (n : Int) := fun x => by rw [hE.1.mem_iff, idL_mem]
  have hx0 := (hmem x).1 (by rw [he]; simp)
  rcases pickK_spec f key n with ⟨_, h2⟩ | ⟨h1, h2, h3, h4⟩
  · rw [h2 _ (by omega)] at hx; cases hx
  · obtain ⟨b, hb⟩ : ∃ b, pickK f key n = b := ⟨_, rfl⟩
    rw [hb] at h1 h2 h3 h4 ⊢
    have h5 := h4 x.toNat (by omega) hx
    rw [show ((x.toNat : Nat) : Int) = x by omega] at h5
    rcases h5 with h5 | h5
    · exact h5.symm
    · exfalso
      have hbE := (hmem b).2 ⟨h1, h2⟩
      rw [he] at hbE
      rcases List.mem_append.1 hbE with hb1 | hb1
      · rw [hp b hb1] at h3; cases h3
      · rcases List.mem_cons.1 hb1 with hb1 | hb1
        · subst hb1; unfold lexLt at h5; omega
        · have h6 := sorts_after hE he hb1
          unfold lexLt at h5 h6; omega

/-! Rooms. -/
def clashR (xs out : List Int) (n i : Nat) (r : Int) : Bool := (idL n).any fun k => (nth out k.toNat == r) && meetB xs i k.toNat
def roomF (xs out : List Int) (n i : Nat) : Nat → Int → Int
  | 0, r => r
  | f + 1, r => if clashR xs out n i r then roomF xs out n i f (r + 1) else r
def roomAt (xs out : List Int) (n i : Nat) : Int := roomF xs out n i n 0
def roomStep (xs : List Int) (n : Nat) (out : List Int) (i : Int) : List Int := out.set i.toNat (roomAt xs out n i.toNat)
def noneL (n : Nat) : List Int := List.replicate n (-1)
def roomsTo (xs : List Int) (n t : Nat) : List Int := ((sortsL (begOf xs) n).take t).foldl (roomStep xs n) (noneL n)
/-- The greatest of the first k + 1. -/
def maxTo (xs : List Int) : Nat → Int
  | 0 => nth xs 0
  | k + 1 => if maxTo xs k < nth xs (k + 1) then nth xs (k + 1) else maxTo xs k

theorem clash_hit {xs out : List Int} {n i : Nat} {r : Int} (h : clashR xs out n i r = true) : ∃ k, k < n ∧ nth out k = r := by
  unfold clashR at h
  rw [List.any_eq_true] at h
  obtain ⟨k, hk, h⟩ := h
  rw [Bool.and_eq_true, beq_iff_eq] at h
  have := idL_mem.1 hk
  exact ⟨k.toNat, by omega, h.1⟩
theorem roomF_bounds {xs out : List Int} {n i : Nat} {t : Int} (ht : ∀ k, k < n → nth out k < t) : ∀ f r, r ≤ t → r ≤ roomF xs out n i f r ∧ roomF xs out n i f r ≤ t
  | 0, r, h => ⟨Int.le_refl _, h⟩
  | f + 1, r, h => by
    unfold roomF
    split
    · rename_i hc
      obtain ⟨k, hk, he⟩ := clash_hit hc
      have h1 := ht k hk
      have := roomF_bounds (xs := xs) (i := i) ht f (r + 1) (by omega)
      omega
    · exact ⟨Int.le_refl _, h⟩
theorem roomAt_bounds {xs out : List Int} {n i : Nat} {t : Int} (ht : ∀ k, k < n → nth out k < t) (h0 : 0 ≤ t) : 0 ≤ roomAt xs out n i ∧ roomAt xs out n i ≤ t := roomF_bounds ht n 0 h0
theorem roomF_stop {xs out : List Int} {n i : Nat} {r : Int} (f : Nat) (h : clashR xs out n i r = false) : roomF xs out n i f r = r := by
  cases f with
  | zero => rfl
  | succ f => unfold roomF; rw [if_neg (by rw [h]; simp)]
theorem roomF_next {xs out : List Int} {n i r : Nat} (hr : ∀ k, k < n → nth out k < (n : Int)) (hrn : r ≤ n) (h : clashR xs out n i (r : Int) = true) : r + 1 ≤ n ∧ roomF xs out n i (n - r) r = roomF xs out n i (n - (r + 1)) ((r + 1 : Nat) : Int) := by
  obtain ⟨k, hk, he⟩ := clash_hit h
  have := hr k hk
  refine ⟨by omega, ?_⟩
  obtain ⟨f, hf⟩ : ∃ f, n - r = f + 1 := ⟨n - r - 1, by omega⟩
  rw [hf, show n - (r + 1) = f by omega]
  conv => lhs; unfold roomF
  rw [if_pos h]
  congr 1

theorem nth_replicate {n k : Nat} (h : k < n) : nth (noneL n) k = -1 := by
  unfold noneL
  rw [nth_eq (by simpa using h)]; simp
/-- What is known of the rooms behind t steps. -/
structure RoomsOk (xs : List Int) (n t : Nat) (out : List Int) : Prop where
  len : out.length = n
  lo : ∀ k, k < n → -1 ≤ nth out k
  hi : ∀ k, k < n → nth out k < (t : Int)
  free : ∀ k : Nat, k < n → (nth out k < 0 ↔ (k : Int) ∉ (sortsL (begOf xs) n).take t)
theorem sortsL_len (key : Int → Int) (n : Nat) : (sortsL key n).length = n := by rw [(sortsL_ok key n).1.length_eq, idL_length]
theorem sortsL_mem (key : Int → Int) (n : Nat) (x : Int) : x ∈ sortsL key n ↔ 0 ≤ x ∧ x < (n : Int) := by rw [(sortsL_ok key n).1.mem_iff, idL_mem]
/-- The t-th in the order. -/
theorem sortsL_at {key : Int → Int} {n t : Nat} (h : t < n) : ∃ x suf, sortsL key n = (sortsL key n).take t ++ x :: suf ∧ (sortsL key n).take (t + 1) = (sortsL key n).take t ++ [x] ∧ nth (sortsL key n) t = x ∧ 0 ≤ x ∧ x < (n : Int) := by
  have hl : t < (sortsL key n).length := by rw [sortsL_len]; exact h
  have hx := (sortsL_mem key n _).1 (List.getElem_mem hl)
  exact ⟨(sortsL key n)[t], (sortsL key n).drop (t + 1), by rw [← List.drop_eq_getElem_cons hl, List.take_append_drop], List.take_succ_eq_append_getElem hl, nth_eq hl, hx⟩
theorem sortsL_new {key : Int → Int} {n t : Nat} (h : t < n) : nth (sortsL key n) t ∉ (sortsL key n).take t := by
  intro hm
  obtain ⟨j, hj, he⟩ := List.getElem_of_mem hm
  rw [List.getElem_take] at he
  have hl := sortsL_len key n
  rw [List.length_take] at hj
  have := (sortsL_ok key n).2 j t (Nat.zero_le _) (by omega) h
  rw [nth_eq (by omega), he] at this
  unfold lexLt at this; omega
theorem RoomsOk.zero (xs : List Int) (n : Nat) : RoomsOk xs n 0 (roomsTo xs n 0) := by
  have e : roomsTo xs n 0 = noneL n := rfl
  rw [e]
  refine ⟨by simp [noneL], fun k hk => ?_, fun k hk => ?_, fun k hk => ?_⟩
  · rw [nth_replicate hk]; omega
  · rw [nth_replicate hk]; omega
  · rw [nth_replicate hk]; simp
theorem roomsTo_succ {xs : List Int} {n t : Nat} (h : t < n) : roomsTo xs n (t + 1) = roomStep xs n (roomsTo xs n t) (nth (sortsL (begOf xs) n) t) := by
  obtain ⟨x, suf, _, h2, h3, _⟩ := sortsL_at (key := begOf xs) h
  unfold roomsTo
  rw [h2, List.foldl_append, h3]; rfl
theorem RoomsOk.next {xs : List Int} {n t : Nat} (h : RoomsOk xs n t (roomsTo xs n t)) (ht : t < n) : RoomsOk xs n (t + 1) (roomsTo xs n (t + 1)) := by
  obtain ⟨x, suf, h1, h2, h3, h4, h5⟩ := sortsL_at (key := begOf xs) ht
  rw [roomsTo_succ ht, h3]
  obtain ⟨out, ho⟩ : ∃ out, roomsTo xs n t = out := ⟨_, rfl⟩
  rw [ho] at h ⊢
  obtain ⟨b1, b2⟩ := roomAt_bounds (xs := xs) (i := x.toNat) h.hi (by omega)
  unfold roomStep
  have hn : ∀ k, nth (out.set x.toNat (roomAt xs out n x.toNat)) k = if x.toNat = k then roomAt xs out n x.toNat else nth out k := fun k => nth_set1 _ (by rw [h.len]; omega)
  refine ⟨by rw [List.length_set]; exact h.len, fun k hk => ?_, fun k hk => ?_, fun k hk => ?_⟩
  · rw [hn]; split
    · omega
    · exact h.lo k hk
  · rw [hn]; split
    · omega
    · have := h.hi k hk; omega
  · rw [hn, h2, List.mem_append, not_or]
    split
    · rename_i e
      subst e
      constructor
      · intro h; omega
      · rintro ⟨_, h⟩
        exact absurd (by simp; omega) h
    · rename_i e
      rw [h.free k hk]
      constructor
      · intro h; exact ⟨h, by simp; omega⟩
      · intro h; exact h.1
theorem rooms_ok (xs : List Int) (n : Nat) : ∀ t, t ≤ n → RoomsOk xs n t (roomsTo xs n t)
  | 0, _ => RoomsOk.zero xs n
  | t + 1, h => (rooms_ok xs n t (by omega)).next (by omega)
/-- The next talk by looking is the next in the order. -/
theorem rooms_pick {xs : List Int} {n t : Nat} (ht : t < n) : pickK (fun k => decide (nth (roomsTo xs n t) k < 0)) (begOf xs) n = nth (sortsL (begOf xs) n) t := by
  obtain ⟨x, suf, h1, h2, h3, h4, h5⟩ := sortsL_at (key := begOf xs) ht
  have hr := rooms_ok xs n t (by omega)
  rw [h3]
  refine pick_next (sortsL_ok _ _) h1 (fun y hy => ?_) ?_
  · have hy0 := (sortsL_mem (begOf xs) n y).1 (List.mem_of_mem_take hy)
    have h6 := hr.free y.toNat (by omega)
    rw [show ((y.toNat : Nat) : Int) = y by omega] at h6
    show decide (nth (roomsTo xs n t) y.toNat < 0) = false
    rw [decide_eq_false_iff_not]
    intro h; exact h6.1 h hy
  · have h6 := hr.free x.toNat (by omega)
    rw [show ((x.toNat : Nat) : Int) = x by omega] at h6
    show decide (nth (roomsTo xs n t) x.toNat < 0) = true
    rw [decide_eq_true_eq]
    refine h6.2 ?_
    have := sortsL_new (key := begOf xs) ht
    rwa [h3] at this
theorem maxTo_spec (xs : List Int) : ∀ m, (∀ k, k ≤ m → nth xs k ≤ maxTo xs m) ∧ ∃ k, k ≤ m ∧ nth xs k = maxTo xs m
  | 0 => ⟨fun k hk => by obtain rfl : k = 0 := by omega
                         exact Int.le_refl _, 0, Nat.le_refl _, rfl⟩
  | m + 1 => by
    obtain ⟨h1, k, h2, h3⟩ := maxTo_spec xs m
    unfold maxTo
    split
    · refine ⟨fun j hj => ?_, m + 1, Nat.le_refl _, rfl⟩
      by_cases e : j = m + 1
      · rw [e]; exact Int.le_refl _
      · have := h1 j (by omega); omega
    · refine ⟨fun j hj => ?_, k, by omega, h3⟩
      by_cases e : j = m + 1
      · rw [e]; omega
      · exact h1 j (by omega)
/-- How many rooms there are, as the reference counts them. -/
structure CountOk (n : Nat) (out : List Int) (c : Int) : Prop where
  all : ∀ k, k < n → nth out k < c
  some_ : c = 0 ∨ ∃ k, k < n ∧ nth out k = c - 1
  pos : 0 ≤ c
theorem CountOk.zero (n : Nat) : CountOk n (noneL n) 0 := ⟨fun k hk => by rw [nth_replicate hk]; omega, .inl rfl, Int.le_refl _⟩
theorem CountOk.next {n : Nat} {out : List Int} {c r : Int} {x : Nat} (h : CountOk n out c) (hl : out.length = n) (hx : x < n) (hf : nth out x < 0) (hr : 0 ≤ r) : CountOk n (out.set x r) (if c < r + 1 then r + 1 else c) := by
  have hn : ∀ k, nth (out.set x r) k = if x = k then r else nth out k := fun k => nth_set1 _ (by rw [hl]; omega)
  have hp := h.pos
  refine ⟨fun k hk => ?_, ?_, by split <;> omega⟩
  · have := h.all k hk
    rw [hn]; split <;> split <;> omega
  · right
    split
    · exact ⟨x, hx, by rw [hn, if_pos rfl]; omega⟩
    · rename_i hc
      rcases h.some_ with h0 | ⟨k, hk, he⟩
      · omega
      · refine ⟨k, hk, ?_⟩
        rw [hn, if_neg (fun e => by subst e; omega)]; exact he
theorem CountOk.done {n : Nat} {out : List Int} {c : Int} (h : CountOk n out c) (hn : 1 ≤ n) (h0 : ∀ k, k < n → 0 ≤ nth out k) : c = maxTo out (n - 1) + 1 := by
  obtain ⟨h1, k, h2, h3⟩ := maxTo_spec out (n - 1)
  have h4 := h.all k (by omega)
  rcases h.some_ with h5 | ⟨j, h5, h6⟩
  · have := h0 0 (by omega)
    have := h.all 0 (by omega)
    omega
  · have := h1 j (by omega)
    omega
def roomsR (xs : List Int) : List Int := if talksOk xs then roomsTo xs (xs.length / 2) (xs.length / 2) else []
def roomsC (xs : List Int) : Int := if talksOk xs then maxTo (roomsTo xs (xs.length / 2) (xs.length / 2)) (xs.length / 2 - 1) + 1 else 0
theorem roomsR_small (xs : List Int) : (roomsR xs).length ≤ 32 := by
  unfold roomsR
  split
  · rename_i h
    simp only [talksOk, talksHead, Bool.and_eq_true] at h
    have := many_true.1 h.1.1
    rw [(rooms_ok xs _ _ (Nat.le_refl _)).len]; omega
  · exact Nat.zero_le _
/-- All rooms are told at the end. -/
theorem rooms_all (xs : List Int) (n : Nat) : ∀ k, k < n → 0 ≤ nth (roomsTo xs n n) k := fun k hk => by
  have h := (rooms_ok xs n n (Nat.le_refl _)).free k hk
  have h2 : (k : Int) ∈ (sortsL (begOf xs) n).take n := by
    rw [List.take_of_length_le (by rw [sortsL_len]; exact Nat.le_refl _), sortsL_mem]; omega
  have : ¬ nth (roomsTo xs n n) k < 0 := fun h3 => h.1 h3 h2
  omega
end Go.Proofs.Ytcjeededlhdcbaa
