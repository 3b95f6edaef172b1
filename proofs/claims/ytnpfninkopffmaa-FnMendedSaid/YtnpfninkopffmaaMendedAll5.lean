/- slices.Chunk of a slice of integers: the contract of its call, of the iterator that it returns, and the law of a loop over it. Conditions: the chunks are all whole (the length is a multiple of the size). With texts that it needs. -/
import Derived.Test.YtnpfninkopffmaaMendedAll4
import Derived.Test.YtnpfninkopffmaaMendedAll1
import Derived.RangeFuncNested
import Derived.RangeFuncBound
import Derived.RangeFuncCalls
import Derived.RangeFuncLeaves
import Derived.Shelf.Abstract
import Derived.Shelf.RegionOpen
import Derived.OwnWalkIn
import Derived.TacticsInMore
import Derived.LoopNIn
import Derived.LoopIn
import Derived.Sort.BigQuietIn
namespace Go.Proofs.Ytnpfninkopffmaa
open Go.RowKit
set_option linter.unusedVariables false
set_option linter.unusedSimpArgs false

/-- The rounds of the first pass. -/
def Pass1 (g n c N : Nat) (key : Int → Int) (D0 : List Int) (w0 : World) (va vb : Value) (wr : World) : Prop :=
  ∃ (a b : Nat) (E : List Int), va = .int .i64 a ∧ vb = .int .i64 b ∧ Hid (b = a + 20 ∧ 20 ∣ a ∧ a ≤ n) ∧ Hid (OwnI wr N (.slice (some ⟨g, 0, none⟩) n c) E ∧ GrownL [g] w0 wr) ∧ Hid (Blks (Bd20 a) key E n ∧ E.Perm D0 ∧ n = E.length)
/-- The rounds of the second. -/
def Pass2 (g n c N : Nat) (key : Int → Int) (D0 : List Int) (w0 : World) (vs : Value) (wr : World) : Prop :=
  ∃ (s : Nat) (E : List Int), vs = .int .i64 s ∧ 1 ≤ s ∧ s ≤ 2097152 ∧ Hid (OwnI wr N (.slice (some ⟨g, 0, none⟩) n c) E ∧ GrownL [g] w0 wr) ∧ Hid (Blks (fun c => s ∣ c) key E n ∧ E.Perm D0 ∧ n = E.length)
def Pass3 (g n c N s : Nat) (key : Int → Int) (D0 : List Int) (w0 : World) (va vb : Value) (wr : World) : Prop :=
  ∃ (a b : Nat) (E : List Int), va = .int .i64 a ∧ vb = .int .i64 b ∧ Hid (b = a + 2 * s ∧ 2 * s ∣ a ∧ a ≤ n) ∧ Hid (OwnI wr N (.slice (some ⟨g, 0, none⟩) n c) E ∧ GrownL [g] w0 wr) ∧ Hid (Blks (Bd2 s a) key E n ∧ E.Perm D0 ∧ n = E.length)
/-- What the sort leaves behind. -/
def SortPost (g n c N : Nat) (key : Int → Int) (D0 : List Int) (w0 w' : World) : Prop :=
  ∃ E, OwnI w' N (.slice (some ⟨g, 0, none⟩) n c) E ∧ SortedOn key E 0 n ∧ E.Perm D0 ∧ GrownL [g] w0 w'

set_option maxRecDepth 100000 in
set_option maxHeartbeats 4000000 in
theorem stable_any (g n c N kb : Nat) (key : Int → Int) (cf : Int → Int → Int) (hcf : ∀ x y, cf x y < 0 ↔ key x < key y) (D0 : List Int) (w0 : World) (hcmp : CmpOk kb cf g D0 w0) (hsz : n ≤ 1048576)
    (D : List Int) (w : World) (hg0 : GrownL [g] w0 w) (ho : OwnI w N (.slice (some ⟨g, 0, none⟩) n c) D) (hn : n = D.length) (hperm : D.Perm D0) (hasc : ∀ p q, p < q → q < n → nth D p < nth D q) :
    Calls Try.prog 134 #[.slice (some ⟨g, 0, none⟩) n c, .int .i64 n, .func (.func 106) #[] #[.pointer (some ⟨kb, 0, none⟩)]] w fun e w' => e = .returned (.tuple #[]) ∧ SortPost g n c N key D0 w0 w' := by
  have HINS : Hid (∀ (a b : Nat) (E : List Int) (W : World), GrownL [g] w0 W → OwnI W N (.slice (some ⟨g, 0, none⟩) n c) E → n = E.length → E.Perm D0 → a ≤ b → b ≤ n → (∀ p q, a ≤ p → p < q → q < b → nth E p < nth E q) →
      Calls Try.prog 144 #[.slice (some ⟨g, 0, none⟩) n c, .int .i64 a, .int .i64 b, .func (.func 106) #[] #[.pointer (some ⟨kb, 0, none⟩)]] W fun e w' => e = .returned (.tuple #[]) ∧ MergePost g n c N a b key E w0 w') := fun a b E W h1 h2 h3 h4 h5 h6 h7 =>
    insertion_any g n c a b N kb key cf hcf D0 E w0 W h1 h2 h3 h4 hcmp h5 h6 hsz h7
  have HSYM : Hid (∀ (a m b : Nat) (E : List Int) (W : World), GrownL [g] w0 W → OwnI W N (.slice (some ⟨g, 0, none⟩) n c) E → n = E.length → E.Perm D0 → a < m → m < b → b ≤ n → MergePre key E a m b →
      Calls Try.prog 145 #[.slice (some ⟨g, 0, none⟩) n c, .int .i64 a, .int .i64 m, .int .i64 b, .func (.func 106) #[] #[.pointer (some ⟨kb, 0, none⟩)]] W fun e w' => e = .returned (.tuple #[]) ∧ MergePost g n c N a b key E w0 w') := fun a m b E W h1 h2 h3 h4 h5 h6 h7 h8 =>
    symMerge_any g n c N kb key cf hcf D0 w0 hcmp hsz (b - a) a m b E W (Nat.le_refl _) h1 h2 h3 h4 h5 h6 h7 h8
  have HO := Lib.hid ho
  have HG := Lib.hid hg0
  have HD : Hid (Blks (Bd20 0) key D n ∧ D.Perm D0 ∧ n = D.length) := ⟨(Blks.all hasc).congr fun c _ _ => ⟨fun _ => .inl (Nat.zero_le _), fun _ => trivial⟩, hperm, hn⟩
  clear ho hg0 hn hperm hcmp hasc
  go_enter Try.func134, Try.ntmps134
  go_wp2
  go_loopw [7, 8] (fun va vb wr => Pass1 g n c N key D0 w0 va vb wr) (fun va vb _ => n + 1 - (intOf vb).toNat)
  case atStart => exact ⟨0, 20, D, rfl, rfl, ⟨rfl, Nat.dvd_zero _, Nat.zero_le _⟩, ⟨HO.out, HG.out⟩, HD.out⟩
  case round =>
    obtain ⟨a, b, E, rfl, rfl, HA, HE, HB⟩ := hrel
    clear HO HG HD
    have hb0 : 20 ≤ b ∧ b ≤ n + 20 ∧ a ≤ n := by have := HA.out; omega
    by_cases hbn : b ≤ n
    · have i1 : (b : Int) ≤ (n : Int) := by omega
      have HC := Lib.hid (HINS.out a b E wr HE.out.2 HE.out.1 HB.out.2.2 HB.out.2.1 (by have := HA.out; omega) hbn (HB.out.1.asc hbn fun c c1 c2 => .inl (by omega)))
      go_wp2_with fail
      refine HC.out.mono ?_
      rintro _ W1 ⟨rfl, hr⟩
      have HR : Hid (∃ F, (OwnI W1 N (.slice (some ⟨g, 0, none⟩) n c) F ∧ GrownL [g] w0 W1) ∧ Blks (Bd20 b) key F n ∧ F.Perm D0 ∧ n = F.length) := by
        obtain ⟨F, hF, hs, hseg, hgr⟩ := hr
        obtain ⟨e1, e2, e3⟩ := HA.out
        rw [e1] at hs hseg ⊢
        exact ⟨F, ⟨hF, hgr⟩, Bd20.next HB.out.1 e2 hseg hs (by omega), hseg.perm.trans HB.out.2.1, HB.out.2.2.trans hseg.len.symm⟩
      clear hr HC
      go_wp2
      go_roundw
      case rel =>
        obtain ⟨F, hF, hB⟩ := HR.out
        have hA := HA.out
        refine ⟨b, b + 20, F, rfl, by go_num, ⟨rfl, ?_, hbn⟩, hF, hB⟩
        rw [hA.1]; exact (Nat.dvd_add_right hA.2.1).2 (Nat.dvd_refl _)
      case measure => simp [intOf]; omega
    · have i1 : ¬ (b : Int) ≤ (n : Int) := by omega
      have HC := Lib.hid (HINS.out a n E wr HE.out.2 HE.out.1 HB.out.2.2 HB.out.2.1 hb0.2.2 (Nat.le_refl _) (HB.out.1.asc (Nat.le_refl _) fun c c1 c2 => .inl (by omega)))
      go_wp2_with fail
      refine HC.out.mono ?_
      rintro _ W1 ⟨rfl, hr⟩
      have HR : Hid (∃ F, (OwnI W1 N (.slice (some ⟨g, 0, none⟩) n c) F ∧ GrownL [g] w0 W1) ∧ Blks (fun c => 20 ∣ c) key F n ∧ F.Perm D0 ∧ n = F.length) := by
        obtain ⟨F, hF, hs, hseg, hgr⟩ := hr
        obtain ⟨e1, e2, e3⟩ := HA.out
        exact ⟨F, ⟨hF, hgr⟩, Bd20.last HB.out.1 e2 hseg hs e3 (by omega), hseg.perm.trans HB.out.2.1, HB.out.2.2.trans hseg.len.symm⟩
      clear hr HC HE HB HINS HA hb0 hbn
      go_wp2
      go_loopw [6] (fun vs wr => Pass2 g n c N key D0 w0 vs wr) (fun vs _ => n - (intOf vs).toNat)
      case atStart =>
        obtain ⟨F, hF, hB⟩ := HR.out
        exact ⟨20, F, rfl, by omega, by omega, hF, hB⟩
      case round =>
        obtain ⟨s, E, rfl, hs1, hs2, HE, HB⟩ := hrel
        clear HR
        by_cases hsn : s < n
        · have j1 : (s : Int) < (n : Int) := by omega
          obtain ⟨d, hd⟩ : ∃ d, d = 2 * s := ⟨_, rfl⟩
          have hdI : 2 * (s : Int) = (d : Int) := by omega
          have hdJ : (s : Int) * 2 = (d : Int) := by omega
          have hd2 : d ≤ 2097152 := by omega
          have hd0 : 1 ≤ d := by omega
          have HD := Lib.hid hd
          clear hd
          go_wp2
          go_loopw [7, 8] (fun va vb wr => Pass3 g n c N s key D0 w0 va vb wr) (fun va vb _ => n + 1 - (intOf vb).toNat)
          case atStart =>
            refine ⟨0, d, E, rfl, rfl, ⟨by rw [HD.out, Nat.zero_add], Nat.dvd_zero _, Nat.zero_le _⟩, HE.out, HB.out.1.congr fun c c1 _ => bd2_start s c c1, HB.out.2⟩
          case round =>
            obtain ⟨a, b, F, rfl, rfl, HA, HF, HBF⟩ := hrel
            clear HE HB
            have hb0 : d ≤ b ∧ b ≤ n + d ∧ a ≤ n ∧ b = a + d ∧ d = 2 * s := by have := HA.out; have := HD.out; omega
            obtain ⟨m, hm⟩ : ∃ m, m = a + s := ⟨_, rfl⟩
            have hmI : (a : Int) + (s : Int) = (m : Int) := by omega
            have hmb : m ≤ 4194304 := by omega
            by_cases hbn : b ≤ n
            · have k1 : (b : Int) ≤ (n : Int) := by omega
              have HC := Lib.hid (HSYM.out a m b F wr HF.out.2 HF.out.1 HBF.out.2.2 HBF.out.2.1 (by omega) (by omega) hbn (HBF.out.1.pre hbn (by rw [hm]; exact Bd2.mid hs1 HA.out.2.1) (by omega) (by omega) fun c c1 c2 hc => by rw [hm]; exact Bd2.only HA.out.2.1 c1 (by rw [← HA.out.1]; exact c2) hc))
              have HM := Lib.hid hm
              have HB0 := Lib.hid hb0
              clear hm hb0
              go_wp2_with fail
              refine HC.out.mono ?_
              rintro _ W1 ⟨rfl, hr⟩
              have HR : Hid (∃ G, (OwnI W1 N (.slice (some ⟨g, 0, none⟩) n c) G ∧ GrownL [g] w0 W1) ∧ Blks (Bd2 s b) key G n ∧ G.Perm D0 ∧ n = G.length) := by
                obtain ⟨G, hG, hs, hseg, hgr⟩ := hr
                obtain ⟨e1, e2, e3⟩ := HA.out
                rw [e1] at hs hseg ⊢
                exact ⟨G, ⟨hG, hgr⟩, Bd2.next HBF.out.1 hs1 e2 hseg hs (by omega), hseg.perm.trans HBF.out.2.1, HBF.out.2.2.trans hseg.len.symm⟩
              clear hr HC
              go_wp2
              go_roundw
              case rel =>
                obtain ⟨G, hG, hB⟩ := HR.out
                have hA := HA.out
                have h0 := HB0.out
                refine ⟨b, b + d, G, rfl, by go_num, ⟨by rw [h0.2.2.2.2], ?_, hbn⟩, hG, hB⟩
                rw [hA.1]; exact (Nat.dvd_add_right hA.2.1).2 (Nat.dvd_refl _)
              case measure => have := HB0.out; simp [intOf]; omega
            · have k1 : ¬ (b : Int) ≤ (n : Int) := by omega
              by_cases hmn : m < n
              · have l1 : (m : Int) < (n : Int) := by omega
                have HC := Lib.hid (HSYM.out a m n F wr HF.out.2 HF.out.1 HBF.out.2.2 HBF.out.2.1 (by omega) hmn (Nat.le_refl _) (HBF.out.1.pre (Nat.le_refl _) (by rw [hm]; exact Bd2.mid hs1 HA.out.2.1) (by omega) hmn fun c c1 c2 hc => by rw [hm]; exact Bd2.only HA.out.2.1 c1 (by rw [← HA.out.1]; omega) hc))
                have HM := Lib.hid hm
                have HB0 := Lib.hid hb0
                clear hm hb0
                go_wp2_with fail
                refine HC.out.mono ?_
                rintro _ W1 ⟨rfl, hr⟩
                have HR : Hid (∃ G, (OwnI W1 N (.slice (some ⟨g, 0, none⟩) n c) G ∧ GrownL [g] w0 W1) ∧ Blks (fun c => d ∣ c) key G n ∧ G.Perm D0 ∧ n = G.length) := by
                  obtain ⟨G, hG, hs, hseg, hgr⟩ := hr
                  obtain ⟨e1, e2, e3⟩ := HA.out
                  rw [HD.out]
                  exact ⟨G, ⟨hG, hgr⟩, Bd2.last HBF.out.1 hs1 e2 hseg hs (by omega), hseg.perm.trans HBF.out.2.1, HBF.out.2.2.trans hseg.len.symm⟩
                clear hr HC
                go_wp2
                go_roundw
                case rel =>
                  obtain ⟨G, hG, hB⟩ := HR.out
                  exact ⟨d, G, rfl, hd0, hd2, hG, hB⟩
                case measure => have := HB0.out; simp [intOf]; omega
              · have l1 : ¬ (m : Int) < (n : Int) := by omega
                have HR : Hid (Blks (fun c => d ∣ c) key F n) := by
                  obtain ⟨e1, e2, e3⟩ := HA.out
                  rw [HD.out]
                  exact Bd2.last HBF.out.1 hs1 e2 (SegSame.refl _ _ _) (HBF.out.1.sorted (Nat.le_refl _) fun c c1 c2 hc => by have := Bd2.only e2 c1 (by omega) hc; omega) (by omega)
                have HM := Lib.hid hm
                have HB0 := Lib.hid hb0
                clear hm hb0
                go_wp2
                go_roundw
                case rel => exact ⟨d, F, rfl, hd0, hd2, HF.out, HR.out, HBF.out.2⟩
                case measure => have := HB0.out; simp [intOf]; omega
        · have j1 : ¬ (s : Int) < (n : Int) := by omega
          have HFIN : Hid (SortPost g n c N key D0 w0 wr) := ⟨E, HE.out.1, blks_end HB.out.1 (by omega), HB.out.2.1, HE.out.2⟩
          clear HE HB
          go_wp2
          go_end0
          exact ⟨rfl, HFIN.out⟩
end Go.Proofs.Ytnpfninkopffmaa

namespace Go.Proofs.Ytnpfninkopffmaa
open Go.RowKit
set_option linter.unusedVariables false
set_option linter.unusedSimpArgs false

/-- 0, 1, .. n - 1. -/
def idL (n : Nat) : List Int := (List.range n).map fun (i : Nat) => (i : Int)
theorem idL_length (n : Nat) : (idL n).length = n := by simp [idL]
theorem idL_succ (n : Nat) : idL (n + 1) = idL n ++ [(n : Int)] := by unfold idL; rw [List.range_succ, List.map_append]; rfl
theorem idL_get {n i : Nat} (h : i < n) : nth (idL n) i = (i : Int) := by
  rw [nth_eq (by rw [idL_length]; exact h)]; simp [idL]

theorem counting_any (n : Nat) (w : World) (hn : n ≤ 1048576) :
    Calls Try.prog 68 #[.int .i64 n] w fun e w' => (∃ g c, e = .returned (.slice (some ⟨g, 0, none⟩) n c) ∧ OwnI w' w.heap.size (.slice (some ⟨g, 0, none⟩) n c) (idL n)) ∧ Below w.heap.size w w' := by
  have HA0 : Hid (OwnI (w.alloc (.cells #[] 2)) w.heap.size (.slice (some ⟨w.heap.size, 0, none⟩) 0 0) (idL 0)) := OwnI.lit w w.heap.size [] (Nat.le_refl _) (Nat.zero_le _)
  have HB0 : Hid (Below w.heap.size w (w.alloc (.cells #[] 2))) := (Below.refl _ w).alloc (Nat.le_refl _) _
  go_enter Try.func68, Try.ntmps68
  go_wp2
  go_loopw [3, 4, 7] (fun v _ i wr => ∃ (k g c : Nat), k ≤ n ∧ i = .int .i64 k ∧ v = .slice (some ⟨g, 0, none⟩) k c ∧ OwnI wr w.heap.size (.slice (some ⟨g, 0, none⟩) k c) (idL k) ∧ Below w.heap.size w wr) (fun _ _ i _ => n - (intOf i).toNat)
  case atStart => exact ⟨0, w.heap.size, 0, Nat.zero_le _, rfl, rfl, HA0.out, HB0.out⟩
  case round =>
    obtain ⟨k, g, c, hk, rfl, rfl, ho, hb⟩ := hrel
    have hws := hb.size
    have HO := Lib.hid ho
    have HB := Lib.hid hb
    clear ho hb HA0 HB0
    by_cases hlt : k < n
    · have HLK := Lib.hid (idL_length k)
      go_wp2_with (at_builtin; refine append_i64 rfl _ _ rfl w.heap.size (.slice (some ⟨g, 0, none⟩) k c) (idL k) [(k : Int)] (by simp) rfl _ rfl HO.out hws (by rw [HLK.out]; simp; omega) ?_; intro g1 c1 w3 ho3 hg3; have hb3 := Below.app HB.out HO.out hg3 hws; have HO3 := Lib.hid ho3; have HB3 := Lib.hid hb3; clear ho3 hb3 hg3)
      go_roundw
      case rel => exact ⟨k + 1, g1, c1, by omega, by go_num, (by simp [idL_length]), by rw [idL_succ]; have := HO3.out; rw [HLK.out] at this; exact this, HB3.out⟩
      case measure => simp [intOf]; omega
    · obtain rfl : k = n := by omega
      clear hlt
      go_wp2
      go_ret
      exact ⟨⟨g, c, rfl, HO.out⟩, HB.out⟩
end Go.Proofs.Ytnpfninkopffmaa

namespace Go.Proofs.Ytnpfninkopffmaa
open Go.RowKit
set_option linter.unusedVariables false
set_option linter.unusedSimpArgs false

/-- -1, 0 or 1. -/
def cmpI (x y : Int) : Int := if x < y then -1 else if y < x then 1 else 0
theorem cmpI_neg (x y : Int) : cmpI x y < 0 ↔ x < y := by unfold cmpI; split <;> (try split) <;> omega

set_option maxRecDepth 100000 in
theorem compare_any (x y : Int) (w : World) : Calls Try.prog 107 #[.int .i64 x, .int .i64 y] w fun e w' => e = .returned (.int .i64 (cmpI x y)) ∧ w = w' := by
  have hN : Hid (∀ z, Calls Try.prog 135 #[.int .i64 z] w fun e w' => e = .returned (.bool false) ∧ w = w') := by
    intro z
    go_enter Try.func135, Try.ntmps135
    go_wp2
    go_ret
    trivial
  go_enter Try.func107, Try.ntmps107
  by_cases h1 : x < y
  · have e1 : Hid (cmpI x y = -1) := by show _ = _; unfold cmpI; rw [if_pos h1]
    go_wp2_with (go_at_call 135; refine (hN.out _).mono ?_; rintro e w' ⟨rfl, rfl⟩)
    go_ret
    exact ⟨ret_int e1.out.symm, rfl⟩
  · by_cases h2 : x > y
    · have e1 : Hid (cmpI x y = 1) := by show _ = _; unfold cmpI; rw [if_neg h1, if_pos h2]
      go_wp2_with (go_at_call 135; refine (hN.out _).mono ?_; rintro e w' ⟨rfl, rfl⟩)
      go_ret
      exact ⟨ret_int e1.out.symm, rfl⟩
    · have e1 : Hid (cmpI x y = 0) := by show _ = _; unfold cmpI; rw [if_neg h1, if_neg h2]
      go_wp2_with (go_at_call 135; refine (hN.out _).mono ?_; rintro e w' ⟨rfl, rfl⟩)
      go_ret
      exact ⟨ret_int e1.out.symm, rfl⟩

/-- What is asked of a key: it only reads. -/
def KeyAt (kf : Nat) (cap : Array Value) (key : Int → Int) (x : Int) (W : World) : Prop :=
  Calls Try.prog kf (#[.int .i64 x] ++ cap) W fun e w' => e = .returned (.int .i64 (key x)) ∧ ∃ q, w' = W.drewN q

set_option maxRecDepth 100000 in
theorem cmpBy_any (kb kf : Nat) (cap : Array Value) (key : Int → Int) (x y : Int) (W : World) (hb : Boxed W kb 77 (.func (.func kf) #[] cap)) (hx : ∀ q, KeyAt kf cap key x (W.drewN q)) (hy : ∀ q, KeyAt kf cap key y (W.drewN q))
    (heg : ∀ args w, (callFunc kf args).run Try.prog w = .ok (.enter kf args) w) :
    Calls Try.prog 106 #[.int .i64 x, .int .i64 y, .pointer (some ⟨kb, 0, none⟩)] W fun e w' => e = .returned (.int .i64 (cmpI (key x) (key y))) ∧ ∃ q, w' = W.drewN q := by
  have HX := Lib.hid hx
  have HY := Lib.hid hy
  have hbc := hb.cell
  clear hx hy hb
  go_enter Try.func106, Try.ntmps106
  go_wp2
  go_quiet ((first | exact quiet_drewI (HX.out _) | exact quiet_drewI (HY.out _) | (go_at_call 107; exact quiet_eq (compare_any _ _ _))))
  go_wp2
  go_ret
  exact ⟨rfl, _, rfl⟩

/-- Sorted by the key, equal ones in their order. -/
def SortsBy (key : Int → Int) (n : Nat) (E : List Int) : Prop := E.Perm (idL n) ∧ SortedOn key E 0 n
theorem idL_mem {n : Nat} {x : Int} : x ∈ idL n ↔ 0 ≤ x ∧ x < n := by
  unfold idL
  rw [List.mem_map]
  constructor
  · rintro ⟨i, hi, rfl⟩
    have := List.mem_range.1 hi
    omega
  · intro h
    exact ⟨x.toNat, List.mem_range.2 (by omega), by omega⟩

theorem sortStable_any (g n c N kb : Nat) (key : Int → Int) (cf : Int → Int → Int) (hcf : ∀ x y, cf x y < 0 ↔ key x < key y) (D0 : List Int) (w0 : World) (hcmp : CmpOk kb cf g D0 w0) (hsz : n ≤ 1048576)
    (w : World) (hg0 : GrownL [g] w0 w) (ho : OwnI w N (.slice (some ⟨g, 0, none⟩) n c) D0) (hn : n = D0.length) (hasc : ∀ p q, p < q → q < n → nth D0 p < nth D0 q) :
    Calls Try.prog 105 #[.slice (some ⟨g, 0, none⟩) n c, .func (.func 106) #[] #[.pointer (some ⟨kb, 0, none⟩)]] w fun e w' => e = .returned (.tuple #[]) ∧ SortPost g n c N key D0 w0 w' := by
  have HC := Lib.hid (stable_any g n c N kb key cf hcf D0 w0 hcmp hsz D0 w hg0 ho hn (List.Perm.refl _) hasc)
  clear hcmp ho hg0 hasc hn
  go_enter Try.func105, Try.ntmps105
  go_wp2_with fail
  refine HC.out.mono ?_
  rintro _ W1 ⟨rfl, hr⟩
  have HR := Lib.hid hr
  clear hr HC
  go_wp2
  go_end0
  exact ⟨rfl, HR.out⟩

set_option maxRecDepth 100000 in
set_option maxHeartbeats 2000000 in
theorem sortedBy_any (n kf : Nat) (cap : Array Value) (key : Int → Int) (w : World) (hn : n ≤ 1048576) (hkey : ∀ W (x : Int), 0 ≤ x → x < n → Below w.heap.size w W → KeyAt kf cap key x W)
    (heg : ∀ args w, (callFunc kf args).run Try.prog w = .ok (.enter kf args) w) :
    Calls Try.prog 60 #[.int .i64 n, .func (.func kf) #[] cap] w fun e w' => (∃ g c E, e = .returned (.slice (some ⟨g, 0, none⟩) n c) ∧ OwnI w' w.heap.size (.slice (some ⟨g, 0, none⟩) n c) E ∧ n = E.length ∧ SortsBy key n E) ∧ Below w.heap.size w w' := by
  have HKEY := Lib.hid hkey
  clear hkey
  obtain ⟨W0, hW0⟩ : ∃ W, w.alloc (.cells #[.func (.func kf) #[] cap] 77) = W := ⟨_, rfl⟩
  have HB0 : Hid (Below w.heap.size w W0) := by show Below _ _ _; rw [← hW0]; exact (Below.refl _ w).alloc (Nat.le_refl _) _
  have HBX : Hid (Boxed W0 w.heap.size 77 (.func (.func kf) #[] cap)) := by show Boxed _ _ _ _; rw [← hW0]; exact Boxed.new _ _ _
  have HSZ : Hid (W0.heap.size = w.heap.size + 1) := by show _ = _; rw [← hW0]; simp
  have HCNT := Lib.hid (counting_any n W0 hn)
  go_enter Try.func60, Try.ntmps60
  go_wp2_with fail
  refine HCNT.out.mono ?_
  rintro e W1 ⟨⟨g, c, rfl, ho⟩, hb⟩
  have hgb : w.heap.size ≠ g ∧ W0.heap.size ≤ g := by
    rcases ho.2 with ⟨h1, _⟩ | ⟨g', cap', cur, h1, h2, _⟩
    · cases h1
    · obtain ⟨rfl⟩ : g = g' := by simp at h1; exact h1.1
      have := HSZ.out
      omega
  have hs1 := hb.size
  have HBX1 : Hid (Boxed W1 w.heap.size 77 (.func (.func kf) #[] cap)) := (hb.block _ (by have := HSZ.out; omega)).trans HBX.out
  have HB1 : Hid (Below w.heap.size w W1) := HB0.out.trans (hb.mono (by have := HSZ.out; omega))
  have HC := Lib.hid (sortStable_any g n c W0.heap.size w.heap.size key (fun x y => cmpI (key x) (key y)) (fun x y => cmpI_neg _ _) (idL n) W1 (by
    intro W x y hx hy hW
    have hx1 := idL_mem.1 hx
    have hy1 := idL_mem.1 hy
    have hbW : ∀ q, Below w.heap.size w (W.drewN q) := fun q => (hW.drewN q).toBelow HB1.out (by have := HSZ.out; omega) (fun i hi => by simp; have := HSZ.out; omega)
    exact cmpBy_any w.heap.size kf cap key x y W (hW.boxed HBX1.out (by simp; exact hgb.1)) (fun q => HKEY.out _ x hx1.1 hx1.2 (hbW q)) (fun q => HKEY.out _ y hy1.1 hy1.2 (hbW q)) heg) hn W1 (GrownL.refl _ _) ho (idL_length n).symm (fun p q h1 h2 => by rw [idL_get (by omega), idL_get h2]; omega))
  have HGB := Lib.hid hgb
  clear ho hb hgb hs1 HCNT hW0 HKEY
  go_wp2_with fail
  refine HC.out.mono ?_
  rintro _ W2 ⟨rfl, hr⟩
  have HR : Hid ((∃ E, OwnI W2 w.heap.size (.slice (some ⟨g, 0, none⟩) n c) E ∧ n = E.length ∧ SortsBy key n E) ∧ Below w.heap.size w W2) := by
    obtain ⟨E, hE, hs, hp, hg⟩ := hr
    refine ⟨⟨E, hE.mono (by have := HSZ.out; omega), by rw [hp.length_eq, idL_length], hp, hs⟩, hg.toBelow HB1.out (by have := HB1.out.size; omega) (fun i hi => by simp; have := HGB.out; have := HSZ.out; omega)⟩
  clear hr HC
  go_wp2
  go_ret
  obtain ⟨⟨E, h1, h2, h3⟩, h4⟩ := HR.out
  exact ⟨⟨g, c, E, rfl, h1, h2, h3⟩, h4⟩
end Go.Proofs.Ytnpfninkopffmaa

namespace Go.Proofs.Ytnpfninkopffmaa
open Go.RowKit Go.Shelf
set_option linter.unusedVariables false
set_option linter.unusedSimpArgs false
attribute [local go_sem] Oper.semAt_some

/-- The call slices.Chunk(s, n). -/
theorem chunk_any (a : Option Addr) (l c : Nat) (n : Int) (w : World) (hn : 1 ≤ n) :
    Calls Try.prog 58 #[.slice a l c, .int .i64 n] w fun e w' =>
      e = .returned (.func (.func 104) #[] #[.pointer (some ⟨w.heap.size, 0, none⟩), .pointer (some ⟨w.heap.size + 1, 0, none⟩)]) ∧
      (w.alloc (.cells #[.slice a l c] 29)).alloc (.cells #[.int .i64 n] 3) = w' := by
  have hmf : ∀ (fn : Fn) (first cap : Array Value) (w : World), (Instr.makeFunc fn first cap).run Try.prog w = .ok (.func fn first cap) w := fun _ _ _ _ => rfl
  go_enter Try.func58, Try.ntmps58
  go_wp2
  go_ret
  exact ⟨rfl, rfl⟩

/-- The world behind the call. -/
structure ChunkW (w w' : World) (v : Value) (n : Int) : Prop where
  size : w'.heap.size = w.heap.size + 2
  below : Below w.heap.size w w'
  s : w'.cell? ⟨w.heap.size, 0, none⟩ = some v
  n : w'.cell? ⟨w.heap.size + 1, 0, none⟩ = some (.int .i64 n)

theorem chunk_call (a : Option Addr) (l c : Nat) (n : Int) (w : World) (hn : 1 ≤ n) :
    Calls Try.prog 58 #[.slice a l c, .int .i64 n] w fun e w' =>
      e = .returned (.func (.func 104) #[] #[.pointer (some ⟨w.heap.size, 0, none⟩), .pointer (some ⟨w.heap.size + 1, 0, none⟩)]) ∧ ChunkW w w' (.slice a l c) n := by
  refine (chunk_any a l c n w hn).mono ?_
  rintro e w' ⟨rfl, rfl⟩
  refine ⟨rfl, by simp, ((Below.refl _ w).alloc (Nat.le_refl _) _).alloc (by simp) _, ((Boxed.new w _ _).alloc _).cell, ?_⟩
  have := (Boxed.new (w.alloc (.cells #[.slice a l c] 29)) 3 (.int .i64 n)).cell
  rwa [World.size_alloc] at this

/-- The two numbers of a pair, in whatever later world. -/
theorem pair_cells {w W : World} {N b o m : Nat} {xs : List Int} (hbs : 0 < xs.length → b < w.heap.size) (hcs : ∀ i (h : i < xs.length), w.cell? ⟨b, o + i, none⟩ = some (.int .i64 xs[i]))
    (hB : Below N w W) (hN : w.heap.size ≤ N) (hxm : xs.length = 2 * m) (x : Fin m) :
    W.cell? ⟨b, o + x.1 * 2, none⟩ = some (.int .i64 (nth xs (2 * x.1))) ∧ W.cell? ⟨b, o + x.1 * 2 + 1, none⟩ = some (.int .i64 (nth xs (2 * x.1 + 1))) := by
  have hx := x.2
  have h0 := hbs (by omega)
  refine ⟨?_, ?_⟩
  · rw [hB.cell (p := ⟨b, o + x.1 * 2, none⟩) (show b < N by omega), Nat.mul_comm x.1 2, hcs _ (by omega), nth_eq (by omega)]
  · rw [hB.cell (p := ⟨b, o + x.1 * 2 + 1, none⟩) (show b < N by omega), Nat.mul_comm x.1 2, Nat.add_assoc, hcs _ (by omega), nth_eq (by omega)]

/-- The elements that come: the j-th chunk. -/
def chunkAt (b off n : Nat) (j : Nat) : Value := .slice (some ⟨b, off + j * n, none⟩) n n

theorem hmul (n m j : Nat) (h : j < m) : j * n + n ≤ n * m := by
  have := Nat.mul_le_mul_right n (show j + 1 ≤ m from h)
  rw [Nat.add_mul, Nat.one_mul, Nat.mul_comm m n] at this
  exact this

/-- What a round over slices.Chunk must keep: the two boxes of the iterator. -/
structure Keep2 (Bs Bn : Nat) (W W' : World) : Prop where
  s : W'.heap[Bs]? = W.heap[Bs]?
  n : W'.heap[Bn]? = W.heap[Bn]?

theorem Keep2.refl (Bs Bn : Nat) (W : World) : Keep2 Bs Bn W W := ⟨rfl, rfl⟩
theorem Keep2.trans {Bs Bn : Nat} {A B C : World} (h : Keep2 Bs Bn A B) (k : Keep2 Bs Bn B C) : Keep2 Bs Bn A C := ⟨k.s.trans h.s, k.n.trans h.n⟩
theorem Keep2.below {Bs Bn N : Nat} {A B C : World} (h : Keep2 Bs Bn A B) (k : Below N B C) (h1 : Bs < N) (h2 : Bn < N) : Keep2 Bs Bn A C := h.trans ⟨k.block _ h1, k.block _ h2⟩
theorem Keep2.drewN {Bs Bn : Nat} {A B : World} (h : Keep2 Bs Bn A B) (q : Nat) : Keep2 Bs Bn A (B.drewN q) := h.trans ⟨rfl, rfl⟩
theorem Keep2.drew {Bs Bn : Nat} {A B : World} (h : Keep2 Bs Bn A B) : Keep2 Bs Bn A B.drew := h.trans ⟨rfl, rfl⟩
theorem Keep2.setCell {Bs Bn : Nat} {A B : World} (h : Keep2 Bs Bn A B) {p : Addr} (h1 : Bs ≠ p.block) (h2 : Bn ≠ p.block) (v : Value) : Keep2 Bs Bn A (B.setCell p v) :=
  h.trans ⟨Below.heap_setCell _ _ _ _ h1, Below.heap_setCell _ _ _ _ h2⟩
theorem Keep2.alloc {Bs Bn : Nat} {A B : World} (h : Keep2 Bs Bn A B) (h1 : Bs < B.heap.size) (h2 : Bn < B.heap.size) (o : Obj) : Keep2 Bs Bn A (B.alloc o) :=
  h.trans ⟨Below.heap_alloc _ _ _ h1, Below.heap_alloc _ _ _ h2⟩
theorem Keep2.grown {Bs Bn : Nat} {A B C : World} {row : Option Nat} (h : Keep2 Bs Bn A B) (g : B.grownBy C row) (h1 : Bs < B.heap.size) (h2 : Bn < B.heap.size) (h3 : some Bs ≠ row) (h4 : some Bn ≠ row) : Keep2 Bs Bn A C :=
  h.trans ⟨g.block _ h1 h3, g.block _ h2 h4⟩
theorem Keep2.cell {Bs Bn : Nat} {A B : World} (h : Keep2 Bs Bn A B) : B.cell? ⟨Bs, 0, none⟩ = A.cell? ⟨Bs, 0, none⟩ ∧ B.cell? ⟨Bn, 0, none⟩ = A.cell? ⟨Bn, 0, none⟩ :=
  ⟨World.cell?_of_block h.s, World.cell?_of_block h.n⟩

theorem min_eq (n r : Nat) (h : n ≤ r) : (if (n : Int) < (r : Int) then (n : Int) else (r : Int)) = (n : Int) := by
  split <;> omega

set_option maxRecDepth 100000 in
set_option maxHeartbeats 2000000 in
theorem chunk1_in (k : Nat) (hk : 1 ≤ k) (l Bs Bn b off c n m L : Nat) (hL : Hid (L = n * m)) (hn : 1 ≤ n) (hm : L ≤ 1048576) (J Jx : List (Fin m) → World → Prop)
    (hY : ∀ pre x W, J pre W → pre.length < m → YieldAt Fence.wide (k - 1) Try.prog l #[chunkAt b off n x.1] W fun e W' =>
      (e = .returned (.bool true) ∧ J (pre ++ [x]) W' ∧ Keep2 Bs Bn W W') ∨ (e = .returned (.bool false) ∧ Jx (pre ++ [x]) W'))
    (W : World) (hBs : W.cell? ⟨Bs, 0, none⟩ = some (.slice (some ⟨b, off, none⟩) L c)) (hc : L ≤ c) (hBn : W.cell? ⟨Bn, 0, none⟩ = some (.int .i64 n)) (h0 : J [] W) (hJd : ∀ s W q, J s W → J s (World.drewN W q)) :
    CallsIn Fence.wide k Try.prog 104 #[.func (.yield l) #[] #[], .pointer (some ⟨Bs, 0, none⟩), .pointer (some ⟨Bn, 0, none⟩)] W fun e W' => (∃ v, e = .returned v) ∧
      ((∃ ys, ys = List.finRange m ∧ J ys W') ∨ (∃ pre, (pre <+: List.finRange m) ∧ Jx pre W')) := by
  have hro : Fence.wide.round = none := rfl
  refine callsIn_of_wp Try.func104 rfl trivial ?_ hro
  simp only [Try.ntmps104, List.size_toArray, List.length_cons, List.length_nil, Nat.reduceAdd, Nat.reduceSub, Array.replicate_succ, Array.replicate_zero, List.push_toArray, List.append_toArray, List.nil_append, List.cons_append]
  gi_wp2
  gi_loopw [4, 5] (fun i _ wr => ∃ j q : Nat, j ≤ m ∧ Hid (q = j * n) ∧ (j < m → q + n ≤ L) ∧ (j = m → q = L) ∧ i = .int .i64 q ∧ J ((List.finRange m).take j) wr ∧ Keep2 Bs Bn W wr)
    (fun i _ _ => L - (intOf i).toNat)
  case atStart => exact ⟨0, 0, Nat.zero_le _, (Nat.zero_mul _).symm, fun h => by have := hmul n m 0 h; have := hL.out; omega, fun h => by subst h; exact hL.out.symm, by simp, h0, Keep2.refl _ _ _⟩
  case round =>
    obtain ⟨j, q, hj, hq, hq1, hq2, rfl, hJs, hnx⟩ := hrel
    have hcs : wr.cell? ⟨Bs, 0, none⟩ = some (.slice (some ⟨b, off, none⟩) L c) := hnx.cell.1.trans hBs
    have hcn : wr.cell? ⟨Bn, 0, none⟩ = some (.int .i64 n) := hnx.cell.2.trans hBn
    clear hBs hBn
    by_cases hlt : j < m
    · have hqn := hq1 hlt
      have hmin := min_eq n (L - q) (by omega)
      clear hq1 hq2
      gi_wp2
      gi_big_quiet_th (fail)
      obtain ⟨fn, tmps, assign, body, hy, hR⟩ := hY _ ⟨j, hlt⟩ (wr.drewN nq) (hJd _ _ nq hJs) (by simp; omega)
      have hcs' : (wr.drewN nq).cell? ⟨Bs, 0, none⟩ = some (.slice (some ⟨b, off, none⟩) L c) := hcs
      have hcn' : (wr.drewN nq).cell? ⟨Bn, 0, none⟩ = some (.int .i64 n) := hcn
      have hch : chunkAt b off n j = .slice (some ⟨b, off + q, none⟩) n n := by unfold chunkAt; rw [hq.out]
      rw [hch] at hy
      clear hch
      gi_wp2
      refine hR.mono ?_
      rintro e W3 (⟨rfl, hJ3, hk3⟩ | ⟨rfl, hJx3⟩)
      · have hcn3 : W3.cell? ⟨Bn, 0, none⟩ = some (.int .i64 n) := hk3.cell.2.trans hcn'
        have hq' : Hid (q + n = (j + 1) * n) := by have := hq.out; show q + n = (j + 1) * n; rw [Nat.add_mul, this]; omega
        have hlast : j + 1 = m → q + n = L := fun h => by have h1 := hq'.out; have h2 := hL.out; rw [h1, h2, h, Nat.mul_comm]
        have hlast' := Lib.hid hlast
        have hnext : j + 1 < m → q + n + n ≤ L := fun h => by have := hmul n m (j + 1) h; have h1 := hq'.out; have h2 := hL.out; omega
        have hnext' := Lib.hid hnext
        have hB3 : Keep2 Bs Bn W W3 := (hnx.drewN nq).trans hk3
        have hJ4 : J ((List.finRange m).take (j + 1)) W3 := by
          rw [List.take_succ_eq_append_getElem (by simp; omega)]
          simpa using hJ3
        clear hlast hnext hnx hk3 hcs hcn hcs' hcn' hJs hJ3
        gi_wp2
        go_roundw
        case rel => exact ⟨j + 1, q + n, by omega, hq', hnext'.out, hlast'.out, by go_num, hJ4, hB3⟩
        case measure => simp [intOf]; omega
      · gi_wp2
        refine bodyPost_ret (results_none rfl _ _ _) rfl ?_
        refine ⟨⟨_, rfl⟩, .inr ⟨(List.finRange m).take (j + 1), List.take_prefix _ _, ?_⟩⟩
        rw [List.take_succ_eq_append_getElem (by simp; omega)]
        simpa using hJx3
    · obtain rfl : j = m := by omega
      obtain rfl : q = L := hq2 rfl
      clear hq1 hq2
      gi_wp2
      go_end0
      refine ⟨⟨_, rfl⟩, .inl ⟨_, rfl, ?_⟩⟩
      rwa [List.take_of_length_le (by simp)] at hJs

set_option maxHeartbeats 1000000 in
/-- .. of no element. -/
theorem chunk1_nil_in (k : Nat) (l Bs Bn c : Nat) (n : Int) (a : Option Addr) (J : World → Prop) (W : World) (hBs : W.cell? ⟨Bs, 0, none⟩ = some (.slice a 0 c)) (h0 : J W) :
    CallsIn Fence.wide k Try.prog 104 #[.func (.yield l) #[] #[], .pointer (some ⟨Bs, 0, none⟩), .pointer (some ⟨Bn, 0, none⟩)] W fun e W' => (∃ v, e = .returned v) ∧ J W' := by
  have hro : Fence.wide.round = none := rfl
  refine callsIn_of_wp Try.func104 rfl trivial ?_ hro
  simp only [Try.ntmps104, List.size_toArray, List.length_cons, List.length_nil, Nat.reduceAdd, Nat.reduceSub, Array.replicate_succ, Array.replicate_zero, List.push_toArray, List.append_toArray, List.nil_append, List.cons_append]
  gi_wp2
  gi_loopw [4, 5] (fun i _ wr => i = .int .i64 0 ∧ wr = W) (fun _ _ _ => 0)
  case atStart => exact ⟨rfl, rfl⟩
  case round =>
    obtain ⟨rfl, hw⟩ := hrel
    obtain rfl : W = wr := hw.symm
    gi_wp2
    go_end0
    exact ⟨⟨_, rfl⟩, h0⟩

/-- The iterator's contract. -/
theorem chunk_stops (k : Nat) (hk : 1 ≤ k) (Bs Bn b off c n m L : Nat) (a : Option Addr) (hL : L = n * m) (hn : 1 ≤ n) (hm : L ≤ 1048576) (ha : 0 < L → a = some ⟨b, off, none⟩)
    (w : World) (hBs : w.cell? ⟨Bs, 0, none⟩ = some (.slice a L c)) (hc : L ≤ c) (hBn : w.cell? ⟨Bn, 0, none⟩ = some (.int .i64 n)) :
    SeqStopsK Fence.wide k Try.prog 104 #[.pointer (some ⟨Bs, 0, none⟩), .pointer (some ⟨Bn, 0, none⟩)] (fun x : Fin m => #[chunkAt b off n x.1]) (Keep2 Bs Bn) (fun ys => ys = List.finRange m) (fun pre => pre <+: List.finRange m) m w := fun l J Jx W hW hJ _ hY h0 => by
  have hBs' := (hW.cell (p := ⟨Bs, 0, none⟩) (lt_of_cell hBs)).trans hBs
  have hBn' := (hW.cell (p := ⟨Bn, 0, none⟩) (lt_of_cell hBn)).trans hBn
  by_cases h : 0 < L
  · obtain rfl := ha h
    exact chunk1_in k hk l Bs Bn b off c n m L hL hn hm J Jx hY W hBs' hc hBn' h0 (fun s W q hs => hJ s W (W.drewN q) none hs ⟨rfl, rfl, rfl, Nat.le_refl _, fun _ _ _ => rfl⟩ (fun r e => by cases e))
  · obtain rfl : L = 0 := by omega
    have hm0 : m = 0 := by
      rcases Nat.eq_zero_or_pos m with h | h
      · exact h
      · have := Nat.mul_pos (show 0 < n by omega) h; omega
    subst hm0
    refine (chunk1_nil_in k l Bs Bn c n a (J []) W hBs' h0).mono ?_
    rintro e W' ⟨he, hj⟩
    exact ⟨he, .inl ⟨[], rfl, hj⟩⟩

theorem keep2_b {Bs Bn : Nat} {w : World} (h1 : Bs < w.heap.size) (h2 : Bn < w.heap.size) (W : World) (l : Nat) (o o' : Obj) (hl : w.heap.size ≤ l) (_ : W.heap[l]? = some o) (_ : o.isCells = false) (_ : o.isWalk = false) : Keep2 Bs Bn W (W.putObj l o') :=
  ⟨World.putObj_heap_other (by omega), World.putObj_heap_other (by omega)⟩

/-- THE LAW OF A LOOP over the chunks of a slice, outside every round. -/
theorem chunk_loopH {g : Operand} {ps : Array Tmp} {assign body : Code} {Q : Exit → Act → World → Prop} {a : Act} {w : World} {k : Nat} (hk : 2 ≤ k)
    {Bs Bn : Nat} (hg : a.eval g = .func (.func 104) #[] #[.pointer (some ⟨Bs, 0, none⟩), .pointer (some ⟨Bn, 0, none⟩)])
    (b off c n m L : Nat) (ad : Option Addr) (hL : L = n * m) (hn : 1 ≤ n) (hm : L ≤ 1048576) (ha : 0 < L → ad = some ⟨b, off, none⟩)
    (hBs : w.cell? ⟨Bs, 0, none⟩ = some (.slice ad L c)) (hc : L ≤ c) (hBn : w.cell? ⟨Bn, 0, none⟩ = some (.int .i64 n)) (hps : ps.size = 1)
    (I : List (Fin m) → World → Prop) (Ix : Code → List (Fin m) → World → Prop) (hI : OwnFrom w.heap.size I) (hIx : ∀ c, OwnFrom w.heap.size (Ix c)) (h0 : I [] w) (Ax : Fin m → Act → World → Prop) (hAx : ∀ x a', OwnFrom w.heap.size (fun (_ : Unit) W => Ax x a' W))
    (hassign : ∀ (l : Nat) (pre : List (Fin m)) (x : Fin m) (W : World) (K : Act → World → Prop), I pre W → (∀ a' W', KeepsFrom w.heap.size W W' → Keep2 Bs Bn W W' → I pre W' → Ax x a' W' → K a' W') →
      assign.wpIn (Fence.wide.inRound l) (k - 1 - 1) Try.prog (Exit.then K (fun _ _ _ => False)) { tmps := (ps.zip #[chunkAt b off n x.1]).foldl (fun t (p, v) => t.setIfInBounds p v) a.tmps, defers := [] } W)
    (hbody : ∀ (l : Nat) (pre : List (Fin m)) (x : Fin m) (a' : Act) (W : World), w.heap.size ≤ l → (∃ r, W.heap[l]? = some (.loop r)) → I pre W → Ax x a' W → pre.length < m → body.wpIn (Fence.wide.inRound l) (k - 1 - 1) Try.prog (ownPostG w.heap.size (Keep2 Bs Bn) I Ix (pre ++ [x]) W) a' W)
    (hdone : ∀ (D : Nat) (W : World), w.heap.size ≤ D → I (List.finRange m) W → W.heap[D]? = some (.deferred (some [])) → Q .normal { a with defers := { target := .collected D, args := #[] } :: a.defers } W)
    (hstop : ∀ (D : Nat) (c : Code) (pre : List (Fin m)) (W : World), w.heap.size ≤ D → pre <+: List.finRange m → Ix c pre W → W.heap[D]? = some (.deferred (some [])) → c.wp Try.prog Q { a with defers := { target := .collected D, args := #[] } :: a.defers } W) :
    (Code.rangeFunc g ps assign body).wp Try.prog Q a w :=
  wpIn_wide.1 (wpIn_rangeFunc_ownH (F := Fence.wide) (n := k) rfl (by omega) hg trivial (enters_of Try.func104 (by kernel_rfl) rfl)
    (chunk_stops (k - 1) (by omega) Bs Bn b off c n m L ad hL hn hm ha w hBs hc hBn) (fun h k => h.trans k) (keep2_b (lt_of_cell hBs) (lt_of_cell hBn)) (Below.refl _ _) (fun _ => by rw [hps]; rfl) I Ix hI hIx h0 Ax hAx hassign hbody
    (fun D xs W hD hS hi hK => by subst hS; exact hdone D W hD hi hK) (fun D c pre W hD hSp hi hK => wpIn_wide.2 (hstop D c pre W hD hSp hi hK)))

/-- .. where the loop variable is a plain slot. -/
theorem chunk_loop {g : Operand} {ps : Array Tmp} {assign body : Code} {Q : Exit → Act → World → Prop} {a : Act} {w : World} {k : Nat} (hk : 2 ≤ k)
    {Bs Bn : Nat} (hg : a.eval g = .func (.func 104) #[] #[.pointer (some ⟨Bs, 0, none⟩), .pointer (some ⟨Bn, 0, none⟩)])
    (b off c n m L : Nat) (ad : Option Addr) (hL : L = n * m) (hn : 1 ≤ n) (hm : L ≤ 1048576) (ha : 0 < L → ad = some ⟨b, off, none⟩)
    (hBs : w.cell? ⟨Bs, 0, none⟩ = some (.slice ad L c)) (hc : L ≤ c) (hBn : w.cell? ⟨Bn, 0, none⟩ = some (.int .i64 n)) (hps : ps.size = 1)
    (I : List (Fin m) → World → Prop) (Ix : Code → List (Fin m) → World → Prop) (hI : OwnFrom w.heap.size I) (hIx : ∀ c, OwnFrom w.heap.size (Ix c)) (h0 : I [] w) (a₁ : Fin m → Act)
    (hassign : ∀ (l : Nat) (x : Fin m) (W : World) (K : Act → World → Prop), K (a₁ x) W →
      assign.wpIn (Fence.wide.inRound l) (k - 1 - 1) Try.prog (Exit.then K (fun _ _ _ => False)) { tmps := (ps.zip #[chunkAt b off n x.1]).foldl (fun t (p, v) => t.setIfInBounds p v) a.tmps, defers := [] } W)
    (hbody : ∀ (l : Nat) (pre : List (Fin m)) (x : Fin m) (W : World), w.heap.size ≤ l → (∃ r, W.heap[l]? = some (.loop r)) → I pre W → body.wpIn (Fence.wide.inRound l) (k - 1 - 1) Try.prog (ownPostG w.heap.size (Keep2 Bs Bn) I Ix (pre ++ [x]) W) (a₁ x) W)
    (hdone : ∀ (D : Nat) (W : World), w.heap.size ≤ D → I (List.finRange m) W → W.heap[D]? = some (.deferred (some [])) → Q .normal { a with defers := { target := .collected D, args := #[] } :: a.defers } W)
    (hstop : ∀ (D : Nat) (c : Code) (pre : List (Fin m)) (W : World), w.heap.size ≤ D → pre <+: List.finRange m → Ix c pre W → W.heap[D]? = some (.deferred (some [])) → c.wp Try.prog Q { a with defers := { target := .collected D, args := #[] } :: a.defers } W) :
    (Code.rangeFunc g ps assign body).wp Try.prog Q a w :=
  chunk_loopH hk hg b off c n m L ad hL hn hm ha hBs hc hBn hps I Ix hI hIx h0 (fun x a' _ => a' = a₁ x) (fun _ _ _ _ _ _ hs _ _ => hs)
    (fun l pre x W K hi hK => hassign l x W K (hK _ _ (KeepsFrom.refl _ _) (Keep2.refl _ _ _) hi rfl)) (fun l pre x a' W hl hr hi e _ => by subst e; exact hbody l pre x W hl hr hi) hdone hstop

/-! Small words on what such a loop keeps. -/
theorem _root_.Go.KeepsFrom.below {B N : Nat} {A W W' : World} (h : KeepsFrom B A W) (k : Below N W W') (hN : W.heap.size ≤ N) : KeepsFrom B A W' :=
  h.trans ⟨k.size, fun i o _ hi _ => (k.block i (by have := (Array.getElem?_eq_some_iff.1 hi).1; omega)).trans hi⟩
theorem _root_.Go.KeepsFrom.drewN {B : Nat} {A W : World} (h : KeepsFrom B A W) (q : Nat) : KeepsFrom B A (W.drewN q) := h.trans ⟨Nat.le_refl _, fun _ _ _ hi _ => hi⟩
theorem _root_.Go.KeepsFrom.drew {B : Nat} {A W : World} (h : KeepsFrom B A W) : KeepsFrom B A W.drew := h.trans ⟨Nat.le_refl _, fun _ _ _ hi _ => hi⟩
theorem _root_.Go.KeepsFrom.setCell {B : Nat} {A W : World} (h : KeepsFrom B A W) (p : Addr) (v : Value) : KeepsFrom B A (W.setCell p v) := h.trans ((KeepsOthers.setCell W p v).from B)
theorem _root_.Go.KeepsFrom.alloc {B : Nat} {A W : World} (h : KeepsFrom B A W) (o : Obj) : KeepsFrom B A (W.alloc o) := h.trans ((KeepsOthers.alloc W o).from B)
theorem ownFrom_cell {β : Type} (B : Nat) (p : β → Addr) (v : β → Value) : OwnFrom B (fun s W => W.cell? (p s) = some (v s)) :=
  fun s A B' row hs hg hr => cell_kept hs hg (fun r e => (hr r e).2)
theorem ownFrom_frozen {β : Type} (B : Nat) (p : β → Addr) (v : β → Value) (b : β → Bool) : OwnFrom B (fun s W => W.cell? (p s) = some (v s) ∧ W.frozen? (p s) = b s) :=
  fun s A B' row hs hg hr => ⟨cell_kept hs.1 hg (fun r e => (hr r e).2), (frozen_kept hs.1 hg (fun r e => (hr r e).2)).trans hs.2⟩
theorem ownFrom_boxed {β : Type} (N B : Nat) (t : TypeId) (v : β → Value) : OwnFrom N (fun s W => Boxed W B t (v s)) := (boxed_own B t v).from N

/-- The end of a function that holds one loop over an iterator. -/
theorem bodyM_ret {P : Program} {n : Nat} {fn : Func} {R : Ending → World → Prop} {a : Act} {W : World} {D : Nat} {v : Value} (hd : a.defers = [{ target := .collected D, args := #[] }]) (hK : W.heap[D]? = some (.deferred (some [])))
    (hres : (results fn a.tmps).run P (W.putObj D (.deferred none)) = .ok v (W.putObj D (.deferred none))) (hR : R (.returned v) (W.putObj D (.deferred none))) : bodyPostM Fence.wide n P fn R .ret a W := by
  show LeavesInM Fence.wide n P fn a.tmps R a.defers .returning W
  rw [hd]
  exact ⟨by simp, .inl ⟨_, _, rfl, run_takeDeferred hK, v, hres, hR⟩⟩

theorem below_putObj {N D : Nat} {w W : World} {o o' : Obj} (h : Below N w W) (hN : N ≤ D) (hD : W.heap[D]? = some o) : Below N w (W.putObj D o') :=
  h.trans ⟨rfl, rfl, rfl, by simp [World.putObj], fun k hk => World.putObj_heap_other (by omega)⟩

theorem boxed_putObj {W : World} {B D : Nat} {t : TypeId} {v : Value} {o' : Obj} (h : Boxed W B t v) (hD : W.heap[D]? = some (.deferred (some []))) : Boxed (W.putObj D o') B t v := by
  have hne : B ≠ D := fun e => by subst e; have h1 : W.heap[B]? = some (.cells #[v] t (0, 0)) := h; rw [h1] at hD; cases hD
  exact (World.putObj_heap_other hne).trans h

theorem kept_setCell {W : World} {D : Nat} {p : Addr} {v : Value} (hK : W.heap[D]? = some (.deferred (some []))) : (W.setCell p v).heap[D]? = some (.deferred (some [])) :=
  (KeepsOthers.setCell W p v).same D _ hK rfl

/-- The law of such a loop IN A ROUND of loop l₀; the loop variable may be boxed. -/
theorem chunk_loopN {g : Operand} {ps : Array Tmp} {assign body : Code} {Q : Exit → Act → World → Prop} {a : Act} {w : World} {k : Nat} (hk : 2 ≤ k) {l₀ : Nat} (hl₀ : ∃ r₀, w.heap[l₀]? = some (.loop r₀))
    {Bs Bn : Nat} (hg : a.eval g = .func (.func 104) #[] #[.pointer (some ⟨Bs, 0, none⟩), .pointer (some ⟨Bn, 0, none⟩)])
    (b off c n m L : Nat) (ad : Option Addr) (hL : L = n * m) (hn : 1 ≤ n) (hm : L ≤ 1048576) (ha : 0 < L → ad = some ⟨b, off, none⟩)
    (hBs : w.cell? ⟨Bs, 0, none⟩ = some (.slice ad L c)) (hc : L ≤ c) (hBn : w.cell? ⟨Bn, 0, none⟩ = some (.int .i64 n)) (hps : ps.size = 1)
    (I : List (Fin m) → World → Prop) (Ix : Code → List (Fin m) → World → Prop) (hI : OwnFrom w.heap.size I) (hIx : ∀ c, OwnFrom w.heap.size (Ix c)) (h0 : I [] w) (a₁ : Fin m → Act)
    (hassign : ∀ (l : Nat) (x : Fin m) (W : World) (K : Act → World → Prop), K (a₁ x) W →
      assign.wpIn (Fence.wide.inRound l) (k - 1 - 1) Try.prog (Exit.then K (fun _ _ _ => False)) { tmps := (ps.zip #[chunkAt b off n x.1]).foldl (fun t (p, v) => t.setIfInBounds p v) a.tmps, defers := [] } W)
    (hbody : ∀ (l : Nat) (pre : List (Fin m)) (x : Fin m) (W : World), w.heap.size ≤ l → (∃ r, W.heap[l]? = some (.loop r)) → I pre W → body.wpIn (Fence.wide.inRound l) (k - 1 - 1) Try.prog (ownPostG w.heap.size (Keep2 Bs Bn) I Ix (pre ++ [x]) W) (a₁ x) W)
    (hdone : ∀ (W : World), I (List.finRange m) W → Q .normal a W)
    (hstop : ∀ (c : Code) (pre : List (Fin m)) (W : World), pre <+: List.finRange m → Ix c pre W → c.wpIn (Fence.wide.inRound l₀) k Try.prog Q a W) :
    (Code.rangeFunc g ps assign body).wpIn (Fence.wide.inRound l₀) k Try.prog Q a w := by
  obtain ⟨r₀, hr₀⟩ := hl₀
  exact wpIn_rangeFunc_ownN (F := Fence.wide.inRound l₀) (n := k) rfl hr₀ (by omega) hg trivial (enters_of Try.func104 (by kernel_rfl) rfl)
    ((chunk_stops (k - 1) (by omega) Bs Bn b off c n m L ad hL hn hm ha w hBs hc hBn).inRound l₀) (fun h k => h.trans k) (keep2_b (lt_of_cell hBs) (lt_of_cell hBn)) (Below.refl _ _) (fun _ => by rw [hps]; rfl) I Ix hI hIx h0
    (fun x a' _ => a' = a₁ x) (fun _ _ _ _ _ _ hs _ _ => hs)
    (fun l pre x W K hi hK => hassign l x W K (hK _ _ (KeepsFrom.refl _ _) (Keep2.refl _ _ _) hi rfl)) (fun l pre x a' W hl hr hi e _ => by subst e; exact hbody l pre x W hl hr hi)
    (fun xs W hS hi => by subst hS; exact hdone W hi) (fun c pre W hSp hi => hstop c pre W hSp hi)

/-- A chunk reads as its part of the list, in whatever later world. -/
theorem chunk_ints {w W : World} {N b o n j : Nat} {xs : List Int} (hbs : 0 < xs.length → b < w.heap.size) (hcs : ∀ i (h : i < xs.length), w.cell? ⟨b, o + i, none⟩ = some (.int .i64 xs[i]))
    (hB : Below N w W) (hN : w.heap.size ≤ N) (hj : j * n + n ≤ xs.length) (hsm : n ≤ 1048576) : Ints W (chunkAt b o n j) ((xs.drop (j * n)).take n) := by
  have hlen : ((xs.drop (j * n)).take n).length = n := by simp; omega
  refine ⟨by unfold maxLen; omega, some ⟨b, o + j * n, none⟩, n, by rw [hlen]; rfl, by omega, fun i hi => ⟨b, o + j * n, rfl, ?_, ?_⟩⟩
  · have h0 := hbs (by omega); have := hB.size; omega
  · rw [hlen] at hi
    have h0 := hbs (by omega)
    rw [hB.cell (p := ⟨b, o + j * n + i, none⟩) (show b < N by omega), Nat.add_assoc, hcs _ (by omega)]
    simp
end Go.Proofs.Ytnpfninkopffmaa
