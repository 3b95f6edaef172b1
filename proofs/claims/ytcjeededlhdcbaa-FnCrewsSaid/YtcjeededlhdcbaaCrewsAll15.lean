/- isAll: whether a list holds each of its own indexes once; slices of bools that a call makes. Conditions: at most 2^20 numbers. With texts that it needs. -/
import Derived.Test.YtcjeededlhdcbaaCrewsAll8
import Derived.Test.YtcjeededlhdcbaaCrewsAll14
import Derived.Test.YtcjeededlhdcbaaCrewsAll10
import Derived.Test.YtcjeededlhdcbaaCrewsAll1
import Derived.Test.YtcjeededlhdcbaaCrewsAll6
import Derived.Deep.RegionHeld3
import Derived.Deep.QuietTactic
import Derived.BigQuiet
namespace Go.Proofs.Ytcjeededlhdcbaa
open Go.RowKit
set_option linter.unusedVariables false
set_option linter.unusedSimpArgs false

theorem minP_any (a b : Int) (w : World) : Calls Try.prog 167 #[.int .i64 a, .int .i64 b] w fun e w' => e = .returned (.int .i64 (min a b)) ∧ w = w' := by
  by_cases h : a < b
  · have hm : min a b = a := by omega
    rw [hm]
    clear hm
    go_enter Try.func167, Try.ntmps167
    go_wp2
    go_ret
    exact ⟨rfl, rfl⟩
  · have hm : min a b = b := by omega
    rw [hm]
    clear hm
    go_enter Try.func167, Try.ntmps167
    go_wp2
    go_ret
    exact ⟨rfl, rfl⟩
def EarR (ts : List Tk) (T g N : Nat) (w : World) (vk : Value) (wr : World) : Prop :=
  ∃ (k : Nat), k ≤ T ∧ vk = .int .i64 k ∧ Hid (OwnI wr N (.slice (some ⟨g, 0, none⟩) T T) (earlyTo ts k)) ∧ Hid (Below N w wr)
set_option maxRecDepth 100000 in
set_option maxHeartbeats 2000000 in
theorem specEarly_any (vt : Value) (ts : List Tk) (w : World) (ht : TasksR w vt ts) (hsm : SmTs ts) :
    Calls Try.prog 73 #[vt] w fun e w' => (∃ g, e = .returned (.slice (some ⟨g, 0, none⟩) ts.length ts.length) ∧ OwnI w' w.heap.size (.slice (some ⟨g, 0, none⟩) ts.length ts.length) (earlyN ts)) ∧ Below w.heap.size w w' := by
  obtain ⟨A, hA⟩ : ∃ A, w.heap.size = A := ⟨_, rfl⟩
  have HA := Lib.hid hA
  have HSZ : Hid (∀ W, Below A w W → A ≤ W.heap.size) := fun W h => by rw [← hA]; exact h.size
  have HLE : Hid (∀ (vs : Value) (k : Nat) W, Below A w W → Ints W vs (earlyTo ts k) → k < ts.length → Calls Try.prog 121 #[vt, vs, .int .i64 k] W fun e w' => e = .returned (.int .i64 (leastN ts (earlyTo ts k) k)) ∧ ∃ q, w' = W.drewN q) := fun vs k W hW hs hk => specLeast_any vt vs ts (earlyTo ts k) k W (ht.below (by rw [hA]; exact hW) (Nat.le_refl _)) hs hsm (earlyTo_sm hsm k (by omega)) hk
  have HNX : Hid (∀ k, earlyTo ts (k + 1) = (earlyTo ts k).set k (leastN ts (earlyTo ts k) k)) := fun k => rfl
  have HLN : Hid (∀ k, (earlyTo ts k).length = ts.length) := earlyTo_len ts
  have HEN : Hid (earlyN ts = earlyTo ts ts.length) := rfl
  have HZ : Hid (earlyTo ts 0 = List.replicate ts.length 0) := rfl
  have h16 := hsm.n16
  obtain ⟨a, c, rfl, hcap, _⟩ := ht.at_
  obtain ⟨n, hn⟩ : ∃ n, ts.length = n := ⟨_, rfl⟩
  rw [hn] at HLE h16 hcap HEN HZ ⊢
  simp only [hn] at HLN
  obtain ⟨i0, hi, hz0, hz1, hz2⟩ := info_parts info_i64
  clear ht hsm hn
  go_enter Try.func73, Try.ntmps73
  go_wp2_with (at_make; refine wpList_make_full _ rfl _ _ 27 rfl A 2 i0 (.int .i64 0) 1 Try.underlying27 hi hz0 hz1 _ _ _ _ n rfl rfl rfl rfl (by rw [hz2]; omega) (by unfold maxLen; omega) (by rw [hA]; exact Nat.le_refl _) ?_; intro w1 hown1 hgrow1; have HA1 := Lib.hid (And.intro hown1 hgrow1); clear hown1 hgrow1)
  rw [hA] at HA1
  have HR0 : Hid (EarR ts n A A w (.int .i64 0) w1) := by
    obtain ⟨ho, hg⟩ := HA1.out
    exact ⟨0, Nat.zero_le _, rfl, by show OwnI _ _ _ _; rw [HZ.out]; exact made_replicate ho, (Below.refl _ w).grown hg (by rw [hA]; exact Nat.le_refl _) (fun k e => by cases e)⟩
  clear HA1 hi hz0 hz1 hz2
  go_wp2
  go_loopw [10] (fun vi wr => EarR ts n A A w vi wr) (fun vi _ => n - (intOf vi).toNat)
  case atStart => exact HR0.out
  case round =>
    obtain ⟨k, hk, rfl, HO, HB⟩ := hrel
    clear HR0
    by_cases hkn : k < n
    · have k0 : (0 : Int) ≤ (k : Int) := by omega
      have k1 : (k : Int) < (n : Int) := by omega
      have HC := Lib.hid (HLE.out _ k wr HB.out HO.out.ints hkn)
      have HN2 : Hid (earlyTo ts (k + 1) = (earlyTo ts k).set k (leastN ts (earlyTo ts k) k)) := HNX.out k
      obtain ⟨r, hr⟩ : ∃ r, leastN ts (earlyTo ts k) k = r := ⟨_, rfl⟩
      rw [hr] at HC HN2
      clear hr
      go_wp2_with fail
      refine HC.out.mono ?_
      rintro e W2 ⟨rfl, q, rfl⟩
      obtain ⟨s1, s2, s3, s4⟩ := (HO.out.drewN q).store (HLN.out k).symm k (by rw [HLN.out]; exact hkn) r
      have HS := Lib.hid (And.intro s3 ((below_drewN q HB.out).grown s4 (HSZ.out _ (below_drewN q HB.out)) (fun j e => by cases e; exact Nat.le_refl _)))
      obtain ⟨u0, hu0⟩ : ∃ u, wr.cell? ⟨A, k, none⟩ = some u := ⟨_, s1⟩
      have f0 : wr.frozen? ⟨A, k, none⟩ = false := s2
      clear s1 s2 s3 s4 HC HO
      go_wp2
      go_roundw
      case rel => exact ⟨k + 1, by omega, by go_num, by show OwnI _ _ _ _; rw [HN2.out]; exact HS.out.1, HS.out.2⟩
      case measure => simp [intOf]; omega
    · have HK2 : Hid (k = n) := by show _ = _; omega
      have HFIN : Hid (OwnI wr A (.slice (some ⟨A, 0, none⟩) n n) (earlyN ts)) := by
        have h := HO.out
        rw [HK2.out] at h
        rw [HEN.out]; exact h
      clear HO HLE
      go_wp2
      go_ret
      rw [HA.out]
      exact ⟨⟨A, rfl, HFIN.out⟩, HB.out⟩

def GrtI (ts : List Tk) (st : List Int) (p T : Nat) (e : Int) (W : World) (vm vi : Value) (wr : World) : Prop :=
  ∃ (d i m : Nat), vm = .int .i64 (grI ts st p e d) ∧ vi = .int .i64 i ∧ Hid (i = p + 1 + d) ∧ i ≤ T ∧ wr = W.drewN m
def GrtK (ts : List Tk) (st : List Int) (p i L : Nat) (m0 : Int) (W : World) (vm vk : Value) (wr : World) : Prop :=
  ∃ (k m : Nat), vm = .int .i64 (grK ts st p i m0 k) ∧ vk = .int .i64 k ∧ k ≤ L ∧ wr = W.drewN m
/-- Starts with small numbers below zero, too. -/
def SmLt (st : List Int) (n : Nat) : Prop := st.length = n ∧ ∀ k, k < n → -10000 ≤ nth st k ∧ nth st k ≤ 2000000
set_option maxRecDepth 100000 in
set_option maxHeartbeats 4000000 in
theorem specGreat_any (vt vs : Value) (ts : List Tk) (st : List Int) (p : Nat) (e : Int) (w : World) (ht : TasksR w vt ts) (hs : Ints w vs st) (hsm : SmTs ts) (hst : SmLt st ts.length) (hp : p < ts.length) (he : 0 ≤ e ∧ e ≤ 2000000) :
    Calls Try.prog 155 #[vt, vs, .int .i64 p, .int .i64 e] w fun x w' => x = .returned (.int .i64 (greatN ts st p e)) ∧ ∃ q, w' = w.drewN q := by
  obtain ⟨b, o, c, AB, CB, AL, CL, rfl, hcap, hbw, hV⟩ := ht.view hsm.n1
  obtain ⟨aS, cS, rfl, scap, hS⟩ := hs.view
  have HV := Lib.hid hV
  have HS := Lib.hid hS
  have HSM := Lib.hid hsm
  have HST := Lib.hid hst
  have HGB : Hid (∀ d, p + 1 + d ≤ ts.length → -10200 ≤ grI ts st p e d ∧ grI ts st p e d ≤ e) := fun d hd => grI_bounds (lo := -10000) hsm hp he.1 (by omega) (fun j hj => (hst.2 j hj).1) d hd
  have HGN : Hid (greatN ts st p e = grI ts st p e (ts.length - (p + 1))) := rfl
  obtain ⟨bS, oS, rfl, _⟩ := hS w (Below.refl _ _) p (by rw [hst.1]; exact hp)
  have htp := hsm.time p hp
  have c0 := (hV w (Below.refl _ _) p hp).time
  obtain ⟨T, hT⟩ : ∃ T, ts.length = T := ⟨_, rfl⟩
  have HT : Hid (ts.length = T) := hT
  rw [hst.1, hT]
  rw [hT] at hcap HGB HGN hp
  have hT16 : T ≤ 16 := by rw [← hT]; exact hsm.n16
  have HG0 : Hid (grI ts st p e 0 = e - timeN ts p) := rfl
  have HGS : Hid (∀ d, grI ts st p e (d + 1) = grK ts st p (p + 1 + d) (grI ts st p e d) (befN ts (p + 1 + d)).length) := fun d => rfl
  obtain ⟨tp, htp'⟩ : ∃ x, timeN ts p = x := ⟨_, rfl⟩
  have HTP : Hid (timeN ts p = tp) := htp'
  rw [show (tkN ts p).1 = tp from htp'] at c0
  rw [htp'] at htp HG0
  have w1 : IntKind.i64.wrap (e - tp) = e - tp := IntWalk.i64_in _ (by omega)
  have w2 : IntKind.i64.wrap ((p : Int) + 1) = ((p + 1 : Nat) : Int) := by have := IntWalk.i64_in ((p : Int) + 1) (by omega); rw [this]; omega
  have p0 : (0 : Int) ≤ (p : Int) := by omega
  have p1 : (p : Int) < (T : Int) := by omega
  have HR0 : Hid (GrtI ts st p T e w (.int .i64 (e - tp)) (.int .i64 ((p + 1 : Nat) : Int)) w) := ⟨0, p + 1, 0, by rw [HG0.out], rfl, rfl, by omega, rfl⟩
  clear ht hs hV hS hsm hst hT scap htp'
  go_enter Try.func155, Try.ntmps155
  go_wp2
  go_loopw [9, 10] (fun vm vi wr => GrtI ts st p T e w vm vi wr) (fun _ vi _ => T - (intOf vi).toNat)
  case atStart => exact HR0.out
  case round =>
    obtain ⟨d, i, m, rfl, rfl, HID, hiT, rfl⟩ := hrel
    clear HR0
    have HBd := HGB.out d (by have := HID.out; omega)
    have HNX := Lib.hid (HGS.out d)
    rw [← HID.out] at HNX
    obtain ⟨m0, hm0⟩ : ∃ x, grI ts st p e d = x := ⟨_, rfl⟩
    have HM0 : Hid (grI ts st p e d = m0) := hm0
    rw [hm0] at HBd HNX ⊢
    clear hm0
    by_cases hi : i < T
    · have i1 : (i : Int) < (T : Int) := by omega
      have i0 : (0 : Int) ≤ (i : Int) := by omega
      have hW : Below w.heap.size w (w.drewN m) := below_drewN m (Below.refl _ _)
      have hC := HV.out w (Below.refl _ _) i (by rw [HT.out]; exact hi)
      have e2 := hC.bef
      have e3 := hC.lag
      obtain ⟨L, hL⟩ : ∃ L, (befN ts i).length = L := ⟨_, rfl⟩
      have HLB : Hid ((befN ts i).length = L) := hL
      have hL16 : L ≤ 16 := by rw [← hL]; exact HSM.out.blen i (by rw [HT.out]; exact hi)
      rw [show (tkN ts i).2.2.1.length = L from hL] at e2
      rw [show (tkN ts i).2.2.2.length = L from by rw [HSM.out.len i (by rw [HT.out]; exact hi)]; exact hL] at e3
      rw [hL] at HNX
      have HBF : Hid (∀ q, q < L → ∃ b' o', AB i = some ⟨b', o', none⟩ ∧ w.cell? ⟨b', o' + q, none⟩ = some (.int .i64 (nth (befN ts i) q))) := fun q hq => hC.befAt q (by show q < (befN ts i).length; rw [hL]; exact hq)
      have HLF : Hid (∀ q, q < L → ∃ b' o', AL i = some ⟨b', o', none⟩ ∧ w.cell? ⟨b', o' + q, none⟩ = some (.int .i64 (nth (lagN ts i) q))) := fun q hq => hC.lagAt q (by show q < (lagN ts i).length; rw [HSM.out.len i (by rw [HT.out]; exact hi), hL]; exact hq)
      obtain ⟨aB, haB⟩ : ∃ x, AB i = x := ⟨_, rfl⟩
      obtain ⟨aL, haL⟩ : ∃ x, AL i = x := ⟨_, rfl⟩
      obtain ⟨cB, hcB⟩ : ∃ x, CB i = x := ⟨_, rfl⟩
      obtain ⟨cL, hcL⟩ : ∃ x, CL i = x := ⟨_, rfl⟩
      rw [haB] at HBF
      rw [haL] at HLF
      rw [haB, hcB] at e2
      rw [haL, hcL] at e3
      obtain ⟨b3, o3, hbs, cst⟩ := HS.out w (Below.refl _ _) i (by rw [HST.out.1, HT.out]; exact hi)
      obtain ⟨rfl, rfl⟩ : bS = b3 ∧ oS = o3 := by simpa using hbs
      have hsb := HST.out.2 i (by rw [HT.out]; exact hi)
      have HKB : Hid (∀ k, k ≤ L → -10200 ≤ grK ts st p i m0 k ∧ grK ts st p i m0 k ≤ e) := fun k hk => grK_bounds (lo := -10000) HSM.out (by rw [HT.out]; exact hp) (by rw [HT.out]; exact hi) HBd hsb.1 k (by rw [HLB.out]; exact hk)
      have HKN : Hid (∀ k, grK ts st p i m0 (k + 1) = if nth (befN ts i) k = (p : Int) then min (grK ts st p i m0 k) (nth st i - nth (lagN ts i) k - timeN ts p) else grK ts st p i m0 k) := fun k => rfl
      obtain ⟨sI, hsI⟩ : ∃ x, nth st i = x := ⟨_, rfl⟩
      rw [hsI] at cst hsb
      simp only [hsI, HTP.out] at HKN
      have HK0 : Hid (GrtK ts st p i L m0 w (.int .i64 m0) (.int .i64 0) (w.drewN m)) := ⟨0, m, rfl, rfl, Nat.zero_le _, rfl⟩
      clear hC hL haB haL hcB hcL hbs hsI hW
      go_wp2
      go_loopw [9, 33] (fun vm vk wi => GrtK ts st p i L m0 w vm vk wi) (fun _ vk _ => L - (intOf vk).toNat)
      case atStart => exact HK0.out
      case round =>
        obtain ⟨k, m2, rfl, rfl, hk, rfl⟩ := hrel
        clear HK0
        have HBk := HKB.out k hk
        have HNk := Lib.hid (HKN.out k)
        obtain ⟨mk, hmk⟩ : ∃ x, grK ts st p i m0 k = x := ⟨_, rfl⟩
        have HMK : Hid (grK ts st p i m0 k = mk) := hmk
        rw [hmk] at HBk HNk ⊢
        clear hmk
        by_cases hkL : k < L
        · have k1 : (k : Int) < (L : Int) := by omega
          have k0 : (0 : Int) ≤ (k : Int) := by omega
          obtain ⟨b1, o1, hb1, cb⟩ := HBF.out k hkL
          obtain ⟨b2, o2, hb2, cl⟩ := HLF.out k hkL
          subst hb1 hb2
          have hlg := HSM.out.lag i (by rw [HT.out]; exact hi) k (by rw [HLB.out]; exact hkL)
          obtain ⟨bq, hbq⟩ : ∃ x, nth (befN ts i) k = x := ⟨_, rfl⟩
          obtain ⟨lq, hlq⟩ : ∃ x, nth (lagN ts i) k = x := ⟨_, rfl⟩
          rw [hbq] at cb HNk
          rw [hlq] at cl HNk hlg
          clear hbq hlq
          by_cases hq : bq = (p : Int)
          · have w3 : IntKind.i64.wrap (sI - lq) = sI - lq := IntWalk.i64_in _ (by omega)
            have w4 : IntKind.i64.wrap (sI - lq - tp) = sI - lq - tp := IntWalk.i64_in _ (by omega)
            have HN2 : Hid (grK ts st p i m0 (k + 1) = min mk (sI - lq - tp)) := by have := HNk.out; rw [if_pos hq] at this; exact this
            subst hq
            clear HNk
            obtain ⟨V, hV⟩ : ∃ V, w.drewN m2 = V := ⟨_, rfl⟩
            have HVC : Hid (∀ q, V.cell? q = w.cell? q) := fun q => by rw [← hV]; rfl
            have HVD : Hid (∀ n, V.drewN n = w.drewN (m2 + n)) := fun n => by rw [← hV]; exact World.drewN_drewN _ _ _
            rw [hV]
            have e2' := (HVC.out _).trans e2
            have e3' := (HVC.out _).trans e3
            have cst' := (HVC.out _).trans cst
            have cb' := (HVC.out _).trans cb
            have cl' := (HVC.out _).trans cl
            have c0' := (HVC.out _).trans c0
            clear hV e2 e3 cst cb cl c0
            go_wp2
            go_quiet ((go_at_call 167; exact quiet_eq (minP_any _ _ _)))
            go_wp2
            go_roundw
            case rel => exact ⟨k + 1, _, by rw [HN2.out], by go_num, by omega, HVD.out _⟩
            case measure => simp [intOf]; omega
          · have HN2 : Hid (grK ts st p i m0 (k + 1) = mk) := by have := HNk.out; rw [if_neg hq] at this; exact this
            clear HNk
            go_wp2
            go_roundw
            case rel => exact ⟨k + 1, _, by rw [HN2.out], by go_num, by omega, rfl⟩
            case measure => simp [intOf]; omega
        · have k1 : ¬ (k : Int) < (L : Int) := by omega
          have HN2 : Hid (grI ts st p e (d + 1) = mk) := by show _ = _; rw [HNX.out, ← HMK.out, show L = k by omega]
          clear hkL
          go_wp2
          go_roundw
          case rel => exact ⟨d + 1, i + 1, _, by rw [HN2.out], by go_num, by have := HID.out; show _ = _; omega, by omega, rfl⟩
          case measure => simp [intOf]; omega
    · have i1 : ¬ (i : Int) < (T : Int) := by omega
      have HF : Hid (greatN ts st p e = m0) := by show _ = _; rw [HGN.out, ← HM0.out]; congr 1; have := HID.out; omega
      clear hi
      go_wp2
      go_ret
      exact ⟨ret_int HF.out.symm, m, rfl⟩
end Go.Proofs.Ytcjeededlhdcbaa

namespace Go.Proofs.Ytcjeededlhdcbaa
open Go.RowKit
set_option linter.unusedVariables false
set_option linter.unusedSimpArgs false

def LatR (ts : List Tk) (e : Int) (T g N : Nat) (w : World) (vi : Value) (wr : World) : Prop :=
  ∃ (d : Nat) (i : Int), vi = .int .i64 i ∧ d ≤ T ∧ -1 ≤ i ∧ i < T ∧ Hid (i + 1 + d = T) ∧ Hid (OwnI wr N (.slice (some ⟨g, 0, none⟩) T T) (lateTo ts e d)) ∧ Hid (Below N w wr)
set_option maxRecDepth 100000 in
set_option maxHeartbeats 2000000 in
theorem specLate_any (vt : Value) (ts : List Tk) (e : Int) (w : World) (ht : TasksR w vt ts) (hsm : SmTs ts) (he : 0 ≤ e ∧ e ≤ 2000000) :
    Calls Try.prog 122 #[vt, .int .i64 e] w fun x w' => (∃ g, x = .returned (.slice (some ⟨g, 0, none⟩) ts.length ts.length) ∧ OwnI w' w.heap.size (.slice (some ⟨g, 0, none⟩) ts.length ts.length) (lateN ts e)) ∧ Below w.heap.size w w' := by
  obtain ⟨A, hA⟩ : ∃ A, w.heap.size = A := ⟨_, rfl⟩
  have HA := Lib.hid hA
  have HSZ : Hid (∀ W, Below A w W → A ≤ W.heap.size) := fun W h => by rw [← hA]; exact h.size
  have h16 := hsm.n16
  have h1 := hsm.n1
  have HLE : Hid (∀ (vs : Value) (d p : Nat) W, Below A w W → Ints W vs (lateTo ts e d) → d ≤ ts.length → p < ts.length → Calls Try.prog 155 #[vt, vs, .int .i64 p, .int .i64 e] W fun x w' => x = .returned (.int .i64 (greatN ts (lateTo ts e d) p e)) ∧ ∃ q, w' = W.drewN q) := fun vs d p W hW hs hd hp => specGreat_any vt vs ts (lateTo ts e d) p e W (ht.below (by rw [hA]; exact hW) (Nat.le_refl _)) hs hsm ⟨lateTo_len _ _ _, fun j _ => by have := lateTo_bounds hsm he.1 d hd j; omega⟩ hp he
  have HLN : Hid (∀ k, (lateTo ts e k).length = ts.length) := lateTo_len ts e
  have HEN : Hid (lateN ts e = lateTo ts e ts.length) := rfl
  have HZ : Hid (lateTo ts e 0 = List.replicate ts.length 0) := rfl
  have HNX : Hid (∀ d, lateTo ts e (d + 1) = (lateTo ts e d).set (ts.length - 1 - d) (greatN ts (lateTo ts e d) (ts.length - 1 - d) e)) := fun d => rfl
  obtain ⟨a, c, rfl, hcap, _⟩ := ht.at_
  obtain ⟨n, hn⟩ : ∃ n, ts.length = n := ⟨_, rfl⟩
  rw [hn] at HLE h16 h1 hcap HEN HZ ⊢
  simp only [hn] at HLN HNX
  obtain ⟨i0, hi, hz0, hz1, hz2⟩ := info_parts info_i64
  have w0 : IntKind.i64.wrap ((n : Int) - 1) = (n : Int) - 1 := IntWalk.i64_in _ (by omega)
  clear ht hsm hn
  go_enter Try.func122, Try.ntmps122
  go_wp2_with (at_make; refine wpList_make_full _ rfl _ _ 27 rfl A 2 i0 (.int .i64 0) 1 Try.underlying27 hi hz0 hz1 _ _ _ _ n rfl rfl rfl rfl (by rw [hz2]; omega) (by unfold maxLen; omega) (by rw [hA]; exact Nat.le_refl _) ?_; intro w1 hown1 hgrow1; have HA1 := Lib.hid (And.intro hown1 hgrow1); clear hown1 hgrow1)
  rw [hA] at HA1
  have HR0 : Hid (LatR ts e n A A w (.int .i64 ((n : Int) - 1)) w1) := by
    obtain ⟨ho, hg⟩ := HA1.out
    exact ⟨0, (n : Int) - 1, rfl, Nat.zero_le _, by omega, by omega, by show _ = _; omega, by show OwnI _ _ _ _; rw [HZ.out]; exact made_replicate ho, (Below.refl _ w).grown hg (by rw [hA]; exact Nat.le_refl _) (fun k e => by cases e)⟩
  clear HA1 hi hz0 hz1 hz2
  go_wp2
  go_loopw [6] (fun vi wr => LatR ts e n A A w vi wr) (fun vi _ => (intOf vi + 1).toNat)
  case atStart => exact HR0.out
  case round =>
    obtain ⟨d, i, rfl, hd, hi1, hi2, HI, HO, HB⟩ := hrel
    clear HR0
    have w1 : IntKind.i64.wrap (i - 1) = i - 1 := IntWalk.i64_in _ (by omega)
    by_cases hi0 : 0 ≤ i
    · obtain ⟨p, rfl⟩ : ∃ p : Nat, i = p := ⟨i.toNat, by omega⟩
      have hpn : p < n := by omega
      have HP : Hid (n - 1 - d = p) := by have := HI.out; show _ = _; omega
      have HC := Lib.hid (HLE.out _ d p wr HB.out HO.out.ints hd hpn)
      have HN2 := Lib.hid (HNX.out d)
      rw [HP.out] at HN2
      obtain ⟨r, hr⟩ : ∃ r, greatN ts (lateTo ts e d) p e = r := ⟨_, rfl⟩
      rw [hr] at HC HN2
      clear hr
      have hdn : d + 1 ≤ n := by have := HI.out; omega
      have HI2 : Hid ((p : Int) - 1 + 1 + ((d + 1 : Nat) : Int) = n) := by have := HI.out; show _ = _; omega
      go_wp2_with fail
      refine HC.out.mono ?_
      rintro x W2 ⟨rfl, q, rfl⟩
      obtain ⟨s1, s2, s3, s4⟩ := (HO.out.drewN q).store (HLN.out d).symm p (by rw [HLN.out]; exact hpn) r
      have HS := Lib.hid (And.intro s3 ((below_drewN q HB.out).grown s4 (HSZ.out _ (below_drewN q HB.out)) (fun j e => by cases e; exact Nat.le_refl _)))
      obtain ⟨u0, hu0⟩ : ∃ u, wr.cell? ⟨A, p, none⟩ = some u := ⟨_, s1⟩
      have f0 : wr.frozen? ⟨A, p, none⟩ = false := s2
      clear s1 s2 s3 s4 HC HO
      go_wp2
      go_roundw
      case rel => exact ⟨d + 1, (p : Int) - 1, rfl, by omega, by omega, by omega, HI2.out, by show OwnI _ _ _ _; rw [HN2.out]; exact HS.out.1, HS.out.2⟩
      case measure => first | (simp [intOf]; done) | (simp [intOf]; omega)
    · have HK2 : Hid (d = n) := by have := HI.out; show _ = _; omega
      have HFIN : Hid (OwnI wr A (.slice (some ⟨A, 0, none⟩) n n) (lateN ts e)) := by
        have h := HO.out
        rw [HK2.out] at h
        rw [HEN.out]; exact h
      clear HO HLE
      go_wp2
      go_ret
      first
        | exact ⟨⟨A, rfl, HFIN.out⟩, HB.out⟩
        | (rw [HA.out]; exact ⟨⟨A, rfl, HFIN.out⟩, HB.out⟩)
def SlkR (ts : List Tk) (T N : Nat) (w : World) (vo vk : Value) (wr : World) : Prop :=
  ∃ (g c k l : Nat), vo = .slice (some ⟨g, 0, none⟩) l c ∧ vk = .int .i64 k ∧ k ≤ T ∧ Hid (l = k) ∧ Hid (OwnI wr N (.slice (some ⟨g, 0, none⟩) l c) ((slackN ts).take k)) ∧ Hid (Below N w wr)
set_option maxRecDepth 100000 in
set_option maxHeartbeats 2000000 in
theorem specSlack_any (vt : Value) (ts : List Tk) (w : World) (ht : TasksR w vt ts) (hsm : SmTs ts) :
    Calls Try.prog 123 #[vt] w fun x w' => (∃ g c, x = .returned (.slice (some ⟨g, 0, none⟩) ts.length c) ∧ OwnI w' w.heap.size (.slice (some ⟨g, 0, none⟩) ts.length c) (slackN ts)) ∧ Below w.heap.size w w' := by
  have HC1 := Lib.hid (specEarly_any vt ts w ht hsm)
  have HC2 : Hid (∀ vs W, Below w.heap.size w W → Ints W vs (earlyN ts) → Calls Try.prog 61 #[vt, vs] W fun e w' => e = .returned (.int .i64 (endN ts)) ∧ Below W.heap.size W w') := fun vs W hW hs => specEnd_any vt vs ts (earlyN ts) W (ht.below hW (Nat.le_refl _)) hs hsm (earlyTo_sm hsm _ (Nat.le_refl _))
  have HC3 : Hid (∀ W, Below w.heap.size w W → Calls Try.prog 122 #[vt, .int .i64 (endN ts)] W fun x w' => (∃ g, x = .returned (.slice (some ⟨g, 0, none⟩) ts.length ts.length) ∧ OwnI w' W.heap.size (.slice (some ⟨g, 0, none⟩) ts.length ts.length) (lateN ts (endN ts))) ∧ Below W.heap.size W w') := fun W hW => specLate_any vt ts (endN ts) W (ht.below hW (Nat.le_refl _)) hsm (by have := endN_bounds hsm; omega)
  have HSL : Hid (∀ i, i < ts.length → nth (slackN ts) i = nth (lateN ts (endN ts)) i - nth (earlyN ts) i) := fun i hi => slackN_at hi
  have HSN : Hid ((slackN ts).length = ts.length) := slackN_len ts
  have HLN : Hid ((lateN ts (endN ts)).length = ts.length ∧ (earlyN ts).length = ts.length) := ⟨lateTo_len _ _ _, earlyTo_len _ _⟩
  have HLB : Hid (∀ j, -3200 ≤ nth (lateN ts (endN ts)) j ∧ nth (lateN ts (endN ts)) j ≤ 1000100) := fun j => by
    have h1 := endN_bounds hsm
    have h2 := lateTo_bounds hsm h1.1 ts.length (Nat.le_refl _) j
    have h3 := hsm.n16
    unfold lateN
    omega
  have HEB : Hid (∀ j, 0 ≤ nth (earlyN ts) j ∧ nth (earlyN ts) j ≤ 3200) := fun j => by
    have h2 := earlyTo_bounds hsm ts.length (Nat.le_refl _) j
    have h3 := hsm.n16
    unfold earlyN
    omega
  have h16 := hsm.n16
  obtain ⟨T, hT⟩ : ∃ T, ts.length = T := ⟨_, rfl⟩
  rw [hT] at HC1 HSL HSN HLN h16 ⊢
  simp only [hT] at HC3
  clear ht hsm hT
  go_enter Try.func123, Try.ntmps123
  go_wp2_with fail
  refine HC1.out.mono ?_
  rintro x W1 ⟨⟨ge, rfl, ho1⟩, hb1⟩
  have HB1 := Lib.hid hb1
  have HO1 := Lib.hid ho1
  clear ho1 hb1 HC1
  have HD2 := Lib.hid (HC2.out _ W1 HB1.out HO1.out.ints)
  clear HC2
  go_wp2_with fail
  refine HD2.out.mono ?_
  rintro x W2 ⟨rfl, hb2⟩
  have HB2 : Hid (Below w.heap.size w W2) := HB1.out.trans (hb2.mono HB1.out.size)
  have HO2 := Lib.hid (HO1.out.below hb2 (Nat.le_refl _))
  clear hb2 HD2 HO1
  have HD3 := Lib.hid (HC3.out W2 HB2.out)
  clear HC3
  go_wp2_with fail
  refine HD3.out.mono ?_
  rintro x W3 ⟨⟨gl, rfl, ho3⟩, hb3⟩
  have HB3 : Hid (Below w.heap.size w W3) := HB2.out.trans (hb3.mono HB2.out.size)
  have HE3 := Lib.hid (HO2.out.below hb3 (Nat.le_refl _))
  have HL3 := Lib.hid ho3
  clear ho3 hb3 HD3 HO2
  have HEC : Hid (∀ W, Below W3.heap.size W3 W → ∀ k, k < T → W.cell? ⟨ge, k, none⟩ = some (.int .i64 (nth (earlyN ts) k)) ∧ W.cell? ⟨gl, k, none⟩ = some (.int .i64 (nth (lateN ts (endN ts)) k))) := fun W hW k hk =>
    ⟨(HE3.out.below hW (Nat.le_refl _)).at_ HLN.out.2.symm k (by rw [HLN.out.2]; exact hk), (HL3.out.below hW (Nat.le_refl _)).at_ HLN.out.1.symm k (by rw [HLN.out.1]; exact hk)⟩
  have HR0 : Hid (SlkR ts T W3.heap.size W3 (.slice (some ⟨W3.heap.size, 0, none⟩) 0 0) (.int .i64 0) (W3.alloc (.cells #[] 2))) :=
    ⟨W3.heap.size, 0, 0, 0, rfl, rfl, Nat.zero_le _, rfl, OwnI.lit W3 W3.heap.size [] (Nat.le_refl _) (Nat.zero_le _), (Below.refl _ W3).alloc (Nat.le_refl _) _⟩
  clear HE3 HL3
  go_wp2
  go_loopw [5, 17] (fun vo vk wr => SlkR ts T W3.heap.size W3 vo vk wr) (fun _ vk _ => T - (intOf vk).toNat)
  case atStart => exact HR0.out
  case round =>
    obtain ⟨g, c, k, l, rfl, rfl, hk, HLK, HO, HB⟩ := hrel
    clear HR0
    by_cases hkT : k < T
    · have k0 : (0 : Int) ≤ (k : Int) := by omega
      have k1 : (k : Int) < (T : Int) := by omega
      have HEE := Lib.hid (fun W hW => HEC.out W hW k hkT)
      have h1 := HLB.out k
      have h2 := HEB.out k
      have HNX : Hid ((slackN ts).take (k + 1) = (slackN ts).take k ++ [nth (lateN ts (endN ts)) k - nth (earlyN ts) k]) := by
        show _ = _
        rw [List.take_succ_eq_append_getElem (by rw [HSN.out]; exact hkT), ← nth_eq, HSL.out k hkT]
      have HTL : Hid (((slackN ts).take k).length = k) := by show _ = _; rw [List.length_take, HSN.out]; omega
      obtain ⟨lv, hlv⟩ : ∃ x, nth (lateN ts (endN ts)) k = x := ⟨_, rfl⟩
      obtain ⟨ev, hev⟩ : ∃ x, nth (earlyN ts) k = x := ⟨_, rfl⟩
      obtain ⟨X, hX⟩ : ∃ x, (slackN ts).take k = x := ⟨_, rfl⟩
      simp only [hlv, hev] at HEE
      rw [hlv] at h1 HNX
      rw [hev] at h2 HNX
      rw [hX] at HNX HO HTL
      have hcc := HEE.out wr HB.out
      obtain ⟨c0, c1⟩ := hcc
      have w1 : IntKind.i64.wrap (lv - ev) = lv - ev := IntWalk.i64_in _ (by omega)
      have hX64 : X.length + 1 ≤ 64 := by have := HTL.out; omega
      have hwr := HB.out.size
      clear hlv hev hX
      go_wp2
      go_region_held3 (fun w' => w'.cell? ⟨ge, k, none⟩ = some (.int .i64 ev) ∧ w'.cell? ⟨gl, k, none⟩ = some (.int .i64 lv))
        (first | go_keep | exact HKP.out)
        ((refine step_append_i64 (by rfl) _ _ (by rfl) W3.heap.size (.slice (some ⟨g, 0, none⟩) l c) X [lv - ev] (by simp) (by rfl) 1 (by rfl) HO.out hwr (by simp; omega) ?_; intro g3 c3 w3 ho3 hg3; have HBN : Hid (Below W3.heap.size W3 w3) := Below.app HB.out HO.out hg3 HB.out.size; have HO3 := Lib.hid ho3; have HKP : Hid (w3.cell? ⟨ge, k, none⟩ = some (.int .i64 ev) ∧ w3.cell? ⟨gl, k, none⟩ = some (.int .i64 lv)) := HEE.out w3 HBN.out; clear ho3 hg3))
      go_wp2
      go_roundw
      case rel => exact ⟨g3, c3, k + 1, _, rfl, by go_num, by omega, by have := HTL.out; show _ = _; simp; omega, by show OwnI _ _ _ _; rw [HNX.out]; exact HO3.out, HBN.out⟩
      case measure => simp [intOf]; omega
    · have k1 : ¬ (k : Int) < (T : Int) := by omega
      obtain rfl : k = T := by omega
      obtain rfl : l = k := HLK.out
      have HFIN : Hid (OwnI wr w.heap.size (.slice (some ⟨g, 0, none⟩) l c) (slackN ts) ∧ Below w.heap.size w wr) := by
        have h := HO.out
        rw [List.take_of_length_le (by rw [HSN.out]; exact Nat.le_refl _)] at h
        exact ⟨h.mono HB3.out.size, HB3.out.trans (HB.out.mono HB3.out.size)⟩
      clear HO
      go_wp2
      go_ret
      exact ⟨⟨g, c, rfl, HFIN.out.1⟩, HFIN.out.2⟩
end Go.Proofs.Ytcjeededlhdcbaa

namespace Go.Proofs.Ytcjeededlhdcbaa
open Go.RowKit
set_option linter.unusedVariables false
set_option linter.unusedSimpArgs false

theorem info_bool : (Try.prog.info? 4).map (fun i => (i.zero, i.size, i.bytes)) = some (some (.bool false), 1, 1) := by kernel_rfl

/-- v is a slice of the call's own (in a block from B on), and it holds the bools xs. -/
def OwnB (w : World) (B : Nat) (v : Value) (xs : List Bool) : Prop := w.ownsRow B 4 1 v xs.length (xs.map Value.bool)

theorem OwnB.store {w : World} {N g n c : Nat} {xs : List Bool} (h : OwnB w N (.slice (some ⟨g, 0, none⟩) n c) xs) (hn : n = xs.length) (j : Nat) (hj : j < xs.length) (y : Bool) :
    w.cell? ⟨g, j, none⟩ = some (.bool xs[j]) ∧ w.frozen? ⟨g, j, none⟩ = false ∧ OwnB (w.setCell ⟨g, j, none⟩ (.bool y)) N (.slice (some ⟨g, 0, none⟩) n c) (xs.set j y) ∧ w.grownBy (w.setCell ⟨g, j, none⟩ (.bool y)) (some g) := by
  subst hn
  have h' : w.ownsRow N 4 1 (.slice (some ⟨g, 0, none⟩) xs.length c) xs.length (xs.map Value.bool) := h
  obtain ⟨h1, h2⟩ := h'.stored j (.bool y)
  refine ⟨?_, h'.frozenAt j, ?_, h2⟩
  · rw [h'.cellAt j (by omega), List.getElem?_map, List.getElem?_eq_getElem hj]; rfl
  · unfold OwnB
    rw [List.length_set, List.map_set]; exact h1
theorem OwnB.alloc {w : World} {B : Nat} {v : Value} {xs : List Bool} (h : OwnB w B v xs) (o : Obj) : OwnB (w.alloc o) B v xs := World.ownsRow.alloc h o
theorem OwnB.kept {w w' : World} {B : Nat} {v : Value} {xs : List Bool} {row : Option Nat} (h : OwnB w B v xs) (hg : w.grownBy w' row) (hne : v.ownBlock = none ∨ v.ownBlock ≠ row) : OwnB w' B v xs := World.ownsRow.kept h hg hne
theorem OwnB.lt {w : World} {B : Nat} {v : Value} {xs : List Bool} (h : OwnB w B v xs) : ∀ k, v.ownBlock = some k → B ≤ k ∧ k < w.heap.size := World.ownsRow.lt h
theorem OwnB.below {w w' : World} {B N : Nat} {v : Value} {xs : List Bool} (h : OwnB w B v xs) (hb : Below N w w') (hN : w.heap.size ≤ N) : OwnB w' B v xs := by
  refine h.kept (row := none) ⟨hb.os, hb.tape, hb.output, hb.size, fun k hk _ => hb.block k (by omega)⟩ ?_
  cases v.ownBlock <;> simp
theorem OwnB.drewN {w : World} {B : Nat} {v : Value} {xs : List Bool} (h : OwnB w B v xs) (q : Nat) : OwnB (w.drewN q) B v xs := h.below (below_drewN q (Below.refl w.heap.size w)) (Nat.le_refl _)

abbrev Bools (w : World) (v : Value) (xs : List Bool) : Prop := Sl Value.bool w v xs
theorem OwnB.bools {w : World} {base : Nat} {v : Value} {xs : List Bool} (h : OwnB w base v xs) : Bools w v xs := by
  have h' : w.ownsRow base 4 1 v xs.length (xs.map Value.bool) := h
  rcases h'.2 with ⟨rfl, h0⟩ | ⟨g, cap, cur, rfl, hg, hh, hc, hm, hcs, ht⟩
  · exact ⟨by omega, none, 0, by rw [h0], by omega, fun i hi => by omega⟩
  · refine ⟨by omega, _, cap, rfl, by omega, fun i hi => ⟨g, 0, rfl, (Array.getElem?_eq_some_iff.1 hh).1, ?_⟩⟩
    have := h'.cellAt (g := g) (cap := cap) i (by omega)
    rw [Nat.zero_add, this]
    simp [hi]

/-- What make([]bool, n) leaves. -/
theorem OwnB.made {w : World} {base g : Nat} {n : Nat} (h : w.ownsRow base 4 1 (.slice (some ⟨g, 0, none⟩) n n) n (madeCells (Value.bool false).cells (n * 1)).toList) : OwnB w base (.slice (some ⟨g, 0, none⟩) n n) (List.replicate n false) := by
  have e : (madeCells (Value.bool false).cells (n * 1)).toList = (List.replicate n false).map Value.bool := by
    rw [Nat.mul_one]; exact (toList_madeCells_one _ _).trans (by simp)
  rw [e] at h
  unfold OwnB
  rwa [List.length_replicate]

def isAllB (ys : List Int) : Bool := (List.range ys.length).all fun i => win (nth ys i) 0 ((ys.length : Int) - 1) && !((ys.take i).any (· == nth ys i))
/-- What has been seen of the numbers from 0 on. -/
def seenAt (ys : List Int) (k : Nat) : List Bool := (List.range ys.length).map fun (v : Nat) => (ys.take k).any (· == (v : Int))
theorem seenAt_length (ys : List Int) (k : Nat) : (seenAt ys k).length = ys.length := by simp [seenAt]
theorem seenAt_get (ys : List Int) (k i : Nat) (h : i < (seenAt ys k).length) : (seenAt ys k)[i] = (ys.take k).any (· == (i : Int)) := by simp [seenAt]
theorem seenAt_zero (ys : List Int) : seenAt ys 0 = List.replicate ys.length false := by
  apply List.ext_getElem
  · simp [seenAt]
  · intro i h1 h2; simp [seenAt]
theorem seenAt_set (ys : List Int) (k p : Nat) (hk : k < ys.length) (hp : nth ys k = p) : (seenAt ys k).set p true = seenAt ys (k + 1) := by
  apply List.ext_getElem
  · simp [seenAt]
  · intro i h1 h2
    rw [List.getElem_set, seenAt_get _ _ _ h2, List.take_succ_eq_append_getElem hk, List.any_append]
    rw [nth_eq hk] at hp
    split
    · rename_i e; subst e; simp [hp]
    · rename_i e
      rw [seenAt_get]
      have : ((p : Int) == (i : Int)) = false := by simp; omega
      simp [hp, this]

set_option maxHeartbeats 1000000 in
theorem isAll_any (v : Value) (ys : List Int) (w : World) (hv : Ints w v ys) (hl : ys.length ≤ 1048576) :
    Calls Try.prog 124 #[v] w fun e w' => e = .returned (.bool (isAllB ys)) ∧ Below w.heap.size w w' := by
  obtain ⟨hm, a, c, rfl, hcap, hc⟩ := hv
  obtain ⟨i0, hi, hz0, hz1, hz2⟩ := info_parts info_bool
  go_enter Try.func124, Try.ntmps124
  go_wp2_with (at_make; refine wpList_make_full _ rfl _ _ 73 rfl w.heap.size 4 i0 (.bool false) 1 Try.underlying73 hi hz0 hz1 _ _ _ _ ys.length rfl rfl rfl rfl (by rw [hz2]; omega) (by unfold maxLen at *; omega) (Nat.le_refl _) ?_; intro w1 hown1 hgrow1)
  have hb1 : Below w.heap.size w w1 := (Below.refl _ _).grown hgrow1 (Nat.le_refl _) (fun k e => by cases e)
  have ho1 := OwnB.made hown1
  rw [← seenAt_zero] at ho1
  clear hown1 hgrow1 hi hz0 hz1 hz2
  have Ho1 := Lib.hid ho1
  clear ho1
  unfold maxLen at hm
  go_wp2
  go_loopw [5, 11] (fun _ i wr => ∃ k : Nat, k ≤ ys.length ∧ i = .int .i64 k ∧ Below w.heap.size w wr ∧ OwnB wr w.heap.size (.slice (some ⟨w.heap.size, 0, none⟩) ys.length ys.length) (seenAt ys k) ∧
      ∀ i, i < k → win (nth ys i) 0 ((ys.length : Int) - 1) = true ∧ (ys.take i).any (· == nth ys i) = false) (fun _ i _ => ys.length - (intOf i).toNat)
  case atStart => exact ⟨0, Nat.zero_le _, rfl, hb1, Ho1.out, fun i hi => by omega⟩
  case round =>
    obtain ⟨k, hk, rfl, hb, ho, hr⟩ := hrel
    have Hr := Lib.hid hr
    clear hr hb1
    by_cases hlt : k < ys.length
    · obtain ⟨b, o, rfl, hbs, hc1⟩ := hc k hlt
      have hck : wr.cell? ⟨b, o + k, none⟩ = some (.int .i64 (nth ys k)) := by rw [nth_eq hlt]; exact (hb.cell (p := ⟨b, o + k, none⟩) hbs).trans hc1
      obtain ⟨p, hp⟩ : ∃ p, nth ys k = p := ⟨_, rfl⟩
      rw [hp] at hck
      have Hp := Lib.hid hp
      clear hc hc1 hp
      have bad : ∀ (h : (win (nth ys k) 0 ((ys.length : Int) - 1) && !((ys.take k).any (· == nth ys k))) = false), isAllB ys = false := fun h => by
        unfold isAllB; rw [List.all_eq_false]; exact ⟨k, by simpa using hlt, by rw [h]; simp⟩
      have Bad := Lib.hid bad
      clear bad
      cases hw : win p 0 ((ys.length : Int) - 1)
      · clear ho
        go_wp2_with (go_at_call 54; refine (within_any _ _ _ _).mono ?_; rintro e w' ⟨rfl, rfl⟩)
        go_ret
        exact ⟨ret_bool (Bad.out (by rw [Hp.out, hw]; rfl)).symm, hb⟩
      · obtain ⟨hp1, hp2⟩ := win_true.1 hw
        obtain ⟨q, rfl⟩ : ∃ q : Nat, p = q := ⟨p.toNat, by omega⟩
        have hql : q < ys.length := by omega
        obtain ⟨s1, s2, s3, s4⟩ := ho.store (seenAt_length _ _).symm q (by rw [seenAt_length]; exact hql) true
        rw [seenAt_get] at s1
        rw [seenAt_set ys k q hlt Hp.out] at s3
        have hb2 := hb.grown s4 hb.size (fun j e => by cases e; exact Nat.le_refl _)
        have S3 := Lib.hid s3
        have HB2 := Lib.hid hb2
        obtain ⟨sn, hsn⟩ : ∃ sn, (ys.take k).any (· == (q : Int)) = sn := ⟨_, rfl⟩
        rw [hsn] at s1
        have Hsn := Lib.hid hsn
        clear ho s3 s4 hb2 hsn
        cases sn
        · go_wp2_with (go_at_call 54; refine (within_any _ _ _ _).mono ?_; rintro e w' ⟨rfl, rfl⟩)
          go_roundw
          case rel =>
            refine ⟨k + 1, by omega, by go_num, HB2.out, S3.out, fun i hi => ?_⟩
            rcases Nat.lt_succ_iff_lt_or_eq.1 hi with h | rfl
            · exact Hr.out i h
            · rw [Hp.out]; exact ⟨hw, Hsn.out⟩
          case measure => simp [intOf]; omega
        · go_wp2_with (go_at_call 54; refine (within_any _ _ _ _).mono ?_; rintro e w' ⟨rfl, rfl⟩)
          go_ret
          exact ⟨ret_bool (Bad.out (by rw [Hp.out, Hsn.out]; simp)).symm, hb⟩
    · clear hc ho
      go_wp2
      go_ret
      refine ⟨ret_bool ?_, hb⟩
      symm
      unfold isAllB
      rw [List.all_eq_true]
      intro i hi
      have := Hr.out i (by have := List.mem_range.1 hi; omega)
      rw [this.1, this.2]; rfl
end Go.Proofs.Ytcjeededlhdcbaa
