/- slices.IndexFunc, slices.ContainsFunc on rows of integers and of tasks. Conditions: what is asked of an element only reads. With texts that it needs. -/
import Derived.Test.YtcjeededlhdcbaaCrewsAll8
import Derived.Test.YtcjeededlhdcbaaCrewsAll9
import Derived.Test.YtcjeededlhdcbaaShelf
import Derived.Test.YtcjeededlhdcbaaCrewsAll10
import Derived.Test.YtcjeededlhdcbaaCrewsAll1
import Derived.Test.YtcjeededlhdcbaaCrewsAll6
import Derived.Deep.RegionHeld3
import Derived.Deep.QuietTactic
import Derived.BigQuiet
import Derived.Test.YtcjeededlhdcbaaCrewsAll3
import Derived.Test.YtcjeededlhdcbaaCrewsAll2
import Derived.Test.YtcjeededlhdcbaaCrewsAll5
namespace Go.Proofs.Ytcjeededlhdcbaa
open Go.RowKit
set_option linter.unusedVariables false
set_option linter.unusedSimpArgs false

def EarIR (ts : List Tk) (T g N : Nat) (w : World) (vk : Value) (wr : World) : Prop :=
  ∃ (k : Nat), k ≤ T ∧ vk = .int .i64 k ∧ Hid (OwnI wr N (.slice (some ⟨g, 0, none⟩) T T) (earlyTo ts k)) ∧ Hid (Below N w wr)
set_option maxRecDepth 100000 in
set_option maxHeartbeats 2000000 in
theorem earlyStarts_any (vt : Value) (ts : List Tk) (w : World) (ht : TasksR w vt ts) (hsm : SmTs ts) :
    Calls Try.prog 128 #[vt] w fun e w' => (∃ g, e = .returned (.slice (some ⟨g, 0, none⟩) ts.length ts.length) ∧ OwnI w' w.heap.size (.slice (some ⟨g, 0, none⟩) ts.length ts.length) (earlyN ts)) ∧ Below w.heap.size w w' := by
  obtain ⟨A, hA⟩ : ∃ A, w.heap.size = A := ⟨_, rfl⟩
  have HA := Lib.hid hA
  have HSZ : Hid (∀ W, Below A w W → A ≤ W.heap.size) := fun W h => by rw [← hA]; exact h.size
  have HLE : Hid (∀ (vs : Value) (k : Nat) W, Below A w W → Ints W vs (earlyTo ts k) → k < ts.length → Calls Try.prog 75 #[vt, vs, .int .i64 k] W fun e w' => e = .returned (.int .i64 (leastN ts (earlyTo ts k) k)) ∧ ∃ q, w' = W.drewN q) := fun vs k W hW hs hk => earliest_any vt vs ts (earlyTo ts k) k W (ht.below (by rw [hA]; exact hW) (Nat.le_refl _)) hs hsm (earlyTo_sm hsm k (by omega)) hk
  have HNX : Hid (∀ k, earlyTo ts (k + 1) = (earlyTo ts k).set k (leastN ts (earlyTo ts k) k)) := fun k => rfl
  have HLN : Hid (∀ k, (earlyTo ts k).length = ts.length) := earlyTo_len ts
  have HEN : Hid (earlyN ts = earlyTo ts ts.length) := rfl
  have HZ : Hid (earlyTo ts 0 = List.replicate ts.length 0) := rfl
  have h16 := hsm.n16
  obtain ⟨a, c, rfl, hcap, _⟩ := ht.at_
  obtain ⟨n, hn⟩ : ∃ n, ts.length = n := ⟨_, rfl⟩
  rw [hn] at HLE h16 hcap HEN HZ ⊢
  simp only [hn] at HLN
  obtain ⟨i0, hi, hz0, hz1, hz2⟩ := info_parts info_i64
  clear ht hsm hn
  go_enter Try.func128, Try.ntmps128
  go_wp2_with (at_make; refine wpList_make_full _ rfl _ _ 27 rfl A 2 i0 (.int .i64 0) 1 Try.underlying27 hi hz0 hz1 _ _ _ _ n rfl rfl rfl rfl (by rw [hz2]; omega) (by unfold maxLen; omega) (by rw [hA]; exact Nat.le_refl _) ?_; intro w1 hown1 hgrow1; have HA1 := Lib.hid (And.intro hown1 hgrow1); clear hown1 hgrow1)
  rw [hA] at HA1
  have HR0 : Hid (EarIR ts n A A w (.int .i64 0) w1) := by
    obtain ⟨ho, hg⟩ := HA1.out
    exact ⟨0, Nat.zero_le _, rfl, by show OwnI _ _ _ _; rw [HZ.out]; exact made_replicate ho, (Below.refl _ w).grown hg (by rw [hA]; exact Nat.le_refl _) (fun k e => by cases e)⟩
  clear HA1 hi hz0 hz1 hz2
  go_wp2
  go_loopw [10] (fun vi wr => EarIR ts n A A w vi wr) (fun vi _ => n - (intOf vi).toNat)
  case atStart => exact HR0.out
  case round =>
    obtain ⟨k, hk, rfl, HO, HB⟩ := hrel
    clear HR0
    by_cases hkn : k < n
    · have k0 : (0 : Int) ≤ (k : Int) := by omega
      have k1 : (k : Int) < (n : Int) := by omega
      have HC := Lib.hid (HLE.out _ k wr HB.out HO.out.ints hkn)
      have HN2 : Hid (earlyTo ts (k + 1) = (earlyTo ts k).set k (leastN ts (earlyTo ts k) k)) := HNX.out k
      obtain ⟨r, hr⟩ : ∃ r, leastN ts (earlyTo ts k) k = r := ⟨_, rfl⟩
      rw [hr] at HC HN2
      clear hr
      go_wp2_with fail
      refine HC.out.mono ?_
      rintro e W2 ⟨rfl, q, rfl⟩
      obtain ⟨s1, s2, s3, s4⟩ := (HO.out.drewN q).store (HLN.out k).symm k (by rw [HLN.out]; exact hkn) r
      have HS := Lib.hid (And.intro s3 ((below_drewN q HB.out).grown s4 (HSZ.out _ (below_drewN q HB.out)) (fun j e => by cases e; exact Nat.le_refl _)))
      obtain ⟨u0, hu0⟩ : ∃ u, wr.cell? ⟨A, k, none⟩ = some u := ⟨_, s1⟩
      have f0 : wr.frozen? ⟨A, k, none⟩ = false := s2
      clear s1 s2 s3 s4 HC HO
      go_wp2
      go_roundw
      case rel => exact ⟨k + 1, by omega, by go_num, by show OwnI _ _ _ _; rw [HN2.out]; exact HS.out.1, HS.out.2⟩
      case measure => simp [intOf]; omega
    · have HK2 : Hid (k = n) := by show _ = _; omega
      have HFIN : Hid (OwnI wr A (.slice (some ⟨A, 0, none⟩) n n) (earlyN ts)) := by
        have h := HO.out
        rw [HK2.out] at h
        rw [HEN.out]; exact h
      clear HO HLE
      go_wp2
      go_ret
      rw [HA.out]
      exact ⟨⟨A, rfl, HFIN.out⟩, HB.out⟩


/-! The greatest start, by the first place of a task among those before. -/
def RiseTs (ts : List Tk) : Prop := ∀ i, i < ts.length → ∀ k, k < (befN ts i).length → 0 < k → nth (befN ts i) (k - 1) < nth (befN ts i) k
theorem tasks_rise {ts : List Tk} (h : tasksOk ts = true) : RiseTs ts := fun i hi k hk hk0 => by
  unfold tasksOk at h
  rw [Bool.and_eq_true, Bool.and_eq_true, List.all_eq_true] at h
  have ha := h.1.1 i (List.mem_range.2 hi)
  unfold taskOk at ha
  rw [Bool.and_eq_true, Bool.and_eq_true] at ha
  have a5 := ha.2
  unfold befTo at a5
  rw [List.all_eq_true] at a5
  have := a5 k (List.mem_range.2 hk)
  unfold befAt at this
  rw [Bool.and_eq_true, Bool.or_eq_true] at this
  rcases this.2 with h | h
  · exact absurd (by simpa using h) (by omega : ¬ k = 0)
  · exact of_decide_eq_true h
theorem rise_lt {l : List Int} {n : Nat} (h : ∀ k, k < n → 0 < k → nth l (k - 1) < nth l k) : ∀ j k, j < k → k < n → nth l j < nth l k
  | j, 0, hj, _ => absurd hj (Nat.not_lt_zero _)
  | j, k + 1, hj, hk => by
    have h1 := h (k + 1) hk (Nat.succ_pos _)
    rw [Nat.add_sub_cancel] at h1
    by_cases e : j = k
    · subst e; exact h1
    · have := rise_lt h j k (by omega) (by omega); omega
theorem grK_miss {ts : List Tk} {st : List Int} {p i : Nat} {m : Int} : ∀ n, (∀ k, k < n → nth (befN ts i) k ≠ (p : Int)) → grK ts st p i m n = m
  | 0, _ => rfl
  | n + 1, h => by
    unfold grK
    rw [if_neg (h n (by omega)), grK_miss n (fun k hk => h k (by omega))]
theorem grK_hit {ts : List Tk} {st : List Int} {p i k0 : Nat} {m : Int} (h0 : nth (befN ts i) k0 = (p : Int)) : ∀ n, k0 < n → (∀ k, k < n → k ≠ k0 → nth (befN ts i) k ≠ (p : Int)) → grK ts st p i m n = min m (nth st i - nth (lagN ts i) k0 - timeN ts p)
  | 0, h, _ => absurd h (Nat.not_lt_zero _)
  | n + 1, h, hn => by
    unfold grK
    by_cases e : k0 = n
    · subst e
      rw [if_pos h0, grK_miss k0 (fun k hk => hn k (by omega) (by omega))]
    · rw [if_neg (hn n (by omega) (by omega)), grK_hit h0 n (by omega) (fun k hk hne => hn k (by omega) hne)]
/-- What slices.Index tells of a row. -/
theorem index_any (a : Option Addr) (c : Nat) (l : List Int) (x : Int) (w : World) (hl : l.length ≤ 1048576) (hc : ∀ k, k < l.length → ∃ b o, a = some ⟨b, o, none⟩ ∧ w.cell? ⟨b, o + k, none⟩ = some (.int .i64 (nth l k))) :
    Calls Try.prog 153 #[.slice a l.length c, .int .i64 x] w fun e w' => e = .returned (.int .i64 (Lib.idxOf l x)) ∧ w' = w := by
  by_cases h0 : l.length = 0
  · have hl0 : l = [] := List.eq_nil_of_length_eq_zero h0
    subst hl0
    exact Try.slices_Index_int_empty a c x w
  · obtain ⟨b, o, rfl, _⟩ := hc 0 (by omega)
    have h := Try.slices_Index_int b o l.length c l x w (Nat.le_refl _) (by omega) (fun j hj => by
      obtain ⟨b2, o2, e, h⟩ := hc j hj
      injection e with e; injection e with e1 e2; subst e1 e2
      exact h)
    rw [List.take_length] at h
    exact h
theorem idx_hit {l : List Int} {k : Nat} {x : Int} (hk : k < l.length) (h : nth l k = x) (hne : ∀ j, j < k → nth l j ≠ x) : Lib.idxOf l x = k := by
  have := Lib.idxOf_hit l l.length k x hk (Nat.le_refl _) h hne
  rwa [List.take_length] at this
theorem idx_miss {l : List Int} {x : Int} (hne : ∀ j, j < l.length → nth l j ≠ x) : Lib.idxOf l x = -1 := by
  have := Lib.idxOf_miss l l.length x hne
  rwa [List.take_length] at this
def LatI (ts : List Tk) (st : List Int) (p T : Nat) (e : Int) (W : World) (vm vi : Value) (wr : World) : Prop :=
  ∃ (d i m : Nat), vm = .int .i64 (grI ts st p e d) ∧ vi = .int .i64 i ∧ Hid (i = p + 1 + d) ∧ i ≤ T ∧ wr = W.drewN m
/-- Starts with small numbers below zero, too. -/
def SmLtI (st : List Int) (n : Nat) : Prop := st.length = n ∧ ∀ k, k < n → -10000 ≤ nth st k ∧ nth st k ≤ 2000000
set_option maxRecDepth 100000 in
set_option maxHeartbeats 4000000 in
theorem latest_any (vt vs : Value) (ts : List Tk) (st : List Int) (p : Nat) (e : Int) (w : World) (ht : TasksR w vt ts) (hs : Ints w vs st) (hsm : SmTs ts) (hrs : RiseTs ts) (hst : SmLtI st ts.length) (hp : p < ts.length) (he : 0 ≤ e ∧ e ≤ 2000000) :
    Calls Try.prog 152 #[vt, vs, .int .i64 p, .int .i64 e] w fun x w' => x = .returned (.int .i64 (greatN ts st p e)) ∧ ∃ q, w' = w.drewN q := by
  obtain ⟨b, o, c, AB, CB, AL, CL, rfl, hcap, hbw, hV⟩ := ht.view hsm.n1
  obtain ⟨aS, cS, rfl, scap, hS⟩ := hs.view
  have HV := Lib.hid hV
  have HS := Lib.hid hS
  have HSM := Lib.hid hsm
  have HST := Lib.hid hst
  have HRS : Hid (∀ i, i < ts.length → ∀ k, k < (befN ts i).length → 0 < k → nth (befN ts i) (k - 1) < nth (befN ts i) k) := hrs
  have HGB : Hid (∀ d, p + 1 + d ≤ ts.length → -10200 ≤ grI ts st p e d ∧ grI ts st p e d ≤ e) := fun d hd => grI_bounds (lo := -10000) hsm hp he.1 (by omega) (fun j hj => (hst.2 j hj).1) d hd
  have HGN : Hid (greatN ts st p e = grI ts st p e (ts.length - (p + 1))) := rfl
  obtain ⟨bS, oS, rfl, _⟩ := hS w (Below.refl _ _) p (by rw [hst.1]; exact hp)
  have htp := hsm.time p hp
  have c0 := (hV w (Below.refl _ _) p hp).time
  obtain ⟨T, hT⟩ : ∃ T, ts.length = T := ⟨_, rfl⟩
  have HT : Hid (ts.length = T) := hT
  rw [hst.1, hT]
  rw [hT] at hcap HGB HGN hp HRS
  have hT16 : T ≤ 16 := by rw [← hT]; exact hsm.n16
  have HG0 : Hid (grI ts st p e 0 = e - timeN ts p) := rfl
  have HGS : Hid (∀ d, grI ts st p e (d + 1) = grK ts st p (p + 1 + d) (grI ts st p e d) (befN ts (p + 1 + d)).length) := fun d => rfl
  obtain ⟨tp, htp'⟩ : ∃ x, timeN ts p = x := ⟨_, rfl⟩
  have HTP : Hid (timeN ts p = tp) := htp'
  rw [show (tkN ts p).1 = tp from htp'] at c0
  rw [htp'] at htp HG0
  have w1 : IntKind.i64.wrap (e - tp) = e - tp := IntWalk.i64_in _ (by omega)
  have w2 : IntKind.i64.wrap ((p : Int) + 1) = ((p + 1 : Nat) : Int) := by have := IntWalk.i64_in ((p : Int) + 1) (by omega); rw [this]; omega
  have p0 : (0 : Int) ≤ (p : Int) := by omega
  have p1 : (p : Int) < (T : Int) := by omega
  have HR0 : Hid (LatI ts st p T e w (.int .i64 (e - tp)) (.int .i64 ((p + 1 : Nat) : Int)) w) := ⟨0, p + 1, 0, by rw [HG0.out], rfl, rfl, by omega, rfl⟩
  clear ht hs hV hS hsm hrs hst hT scap htp'
  go_enter Try.func152, Try.ntmps152
  go_wp2
  go_loopw [9, 10] (fun vm vi wr => LatI ts st p T e w vm vi wr) (fun _ vi _ => T - (intOf vi).toNat)
  case atStart => exact HR0.out
  case round =>
    obtain ⟨d, i, m, rfl, rfl, HID, hiT, rfl⟩ := hrel
    clear HR0
    have HBd := HGB.out d (by have := HID.out; omega)
    have HNX := Lib.hid (HGS.out d)
    rw [← HID.out] at HNX
    obtain ⟨m0, hm0⟩ : ∃ x, grI ts st p e d = x := ⟨_, rfl⟩
    have HM0 : Hid (grI ts st p e d = m0) := hm0
    rw [hm0] at HBd HNX ⊢
    clear hm0
    by_cases hi : i < T
    · have i1 : (i : Int) < (T : Int) := by omega
      have i0 : (0 : Int) ≤ (i : Int) := by omega
      have hC := HV.out w (Below.refl _ _) i (by rw [HT.out]; exact hi)
      have e2 := hC.bef
      have e3 := hC.lag
      obtain ⟨L, hL⟩ : ∃ L, (befN ts i).length = L := ⟨_, rfl⟩
      have HLB : Hid ((befN ts i).length = L) := hL
      have hL16 : L ≤ 16 := by rw [← hL]; exact HSM.out.blen i (by rw [HT.out]; exact hi)
      have HIX : Hid (∀ n, Calls Try.prog 153 #[.slice (AB i) L (CB i), .int .i64 p] (w.drewN n) fun e w' => e = .returned (.int .i64 (Lib.idxOf (befN ts i) p)) ∧ w' = w.drewN n) := fun n => by
        have h := index_any (AB i) (CB i) (befN ts i) p (w.drewN n) (by omega) (fun k hk => hC.befAt k hk)
        rw [hL] at h
        exact h
      rw [show (tkN ts i).2.2.1.length = L from hL] at e2
      rw [show (tkN ts i).2.2.2.length = L from by rw [HSM.out.len i (by rw [HT.out]; exact hi)]; exact hL] at e3
      rw [hL] at HNX
      have HLF : Hid (∀ q, q < L → ∃ b' o', AL i = some ⟨b', o', none⟩ ∧ w.cell? ⟨b', o' + q, none⟩ = some (.int .i64 (nth (lagN ts i) q))) := fun q hq => hC.lagAt q (by show q < (lagN ts i).length; rw [HSM.out.len i (by rw [HT.out]; exact hi), hL]; exact hq)
      obtain ⟨b3, o3, hbs, cst⟩ := HS.out w (Below.refl _ _) i (by rw [HST.out.1, HT.out]; exact hi)
      obtain ⟨rfl, rfl⟩ : bS = b3 ∧ oS = o3 := by simpa using hbs
      have hsb := HST.out.2 i (by rw [HT.out]; exact hi)
      have HUN : Hid (∀ k0, k0 < L → nth (befN ts i) k0 = (p : Int) → ∀ k, k < L → k ≠ k0 → nth (befN ts i) k ≠ (p : Int)) := fun k0 h0 e0 k hk hne e1 => by
        have hr := HRS.out i hi
        rw [hL] at hr
        rcases Nat.lt_or_ge k k0 with q | q
        · have := rise_lt hr k k0 q h0; omega
        · have := rise_lt hr k0 k (by omega) hk; omega
      obtain ⟨aB, haB⟩ : ∃ x, AB i = x := ⟨_, rfl⟩
      obtain ⟨aL, haL⟩ : ∃ x, AL i = x := ⟨_, rfl⟩
      obtain ⟨cB, hcB⟩ : ∃ x, CB i = x := ⟨_, rfl⟩
      obtain ⟨cL, hcL⟩ : ∃ x, CL i = x := ⟨_, rfl⟩
      rw [haL] at HLF
      rw [haB, hcB] at e2 HIX
      rw [haL, hcL] at e3
      have HST2 : Hid (∀ k0, k0 < L → nth (befN ts i) k0 = (p : Int) → Lib.idxOf (befN ts i) p = k0 ∧ grI ts st p e (d + 1) = min m0 (nth st i - nth (lagN ts i) k0 - tp)) := fun k0 h0 e0 => by
        refine ⟨idx_hit (by rw [hL]; exact h0) e0 (fun j hj => HUN.out k0 h0 e0 j (by omega) (by omega)), ?_⟩
        rw [HNX.out, grK_hit e0 L h0 (HUN.out k0 h0 e0), HTP.out]
      have HMS : Hid ((∀ k, k < L → nth (befN ts i) k ≠ (p : Int)) → Lib.idxOf (befN ts i) p = -1 ∧ grI ts st p e (d + 1) = m0) := fun h => by
        refine ⟨idx_miss (by rw [hL]; exact h), ?_⟩
        rw [HNX.out, grK_miss L h]
      obtain ⟨sI, hsI⟩ : ∃ x, nth st i = x := ⟨_, rfl⟩
      rw [hsI] at cst hsb
      simp only [hsI] at HST2
      clear hC hL haB haL hcB hcL hbs hsI
      by_cases hex : ∃ k0, k0 < L ∧ nth (befN ts i) k0 = (p : Int)
      · obtain ⟨k0, h0, e0⟩ := hex
        obtain ⟨x1, x2⟩ := HST2.out k0 h0 e0
        have HN2 := Lib.hid x2
        rw [x1] at HIX
        obtain ⟨b2, o2, rfl, cl⟩ := HLF.out k0 h0
        have hlg := HSM.out.lag i (by rw [HT.out]; exact hi) k0 (by rw [HLB.out]; exact h0)
        obtain ⟨lq, hlq⟩ : ∃ x, nth (lagN ts i) k0 = x := ⟨_, rfl⟩
        rw [hlq] at cl hlg HN2
        have z0 : (0 : Int) ≤ (k0 : Int) := by omega
        have z1 : (k0 : Int) < (L : Int) := by omega
        have w3 : IntKind.i64.wrap (sI - lq) = sI - lq := IntWalk.i64_in _ (by omega)
        have w4 : IntKind.i64.wrap (sI - lq - tp) = sI - lq - tp := IntWalk.i64_in _ (by omega)
        have HI2 := Lib.hid (HIX.out m)
        clear x1 x2 e0 hlq HIX
        go_wp2_with fail
        refine HI2.out.mono ?_
        rintro e5 W5 ⟨rfl, rfl⟩
        by_cases hmn : sI - lq - tp < m0
        · have HM : Hid (min m0 (sI - lq - tp) = sI - lq - tp) := by show _ = _; omega
          have hmn2 : ¬ m0 < sI - lq - tp := by omega
          go_wp2
          go_quiet (fail)
          go_wp2
          go_roundw
          case rel => exact ⟨d + 1, i + 1, _, by rw [HN2.out, HM.out], by go_num, by have := HID.out; show _ = _; omega, by omega, rfl⟩
          case measure => simp [intOf]; omega
        · have HM : Hid (min m0 (sI - lq - tp) = m0) := by show _ = _; omega
          go_wp2
          go_quiet (fail)
          go_wp2
          go_roundw
          case rel => exact ⟨d + 1, i + 1, _, by rw [HN2.out, HM.out], by go_num, by have := HID.out; show _ = _; omega, by omega, rfl⟩
          case measure => simp [intOf]; omega
      · obtain ⟨x1, x2⟩ := HMS.out (fun k hk e => hex ⟨k, hk, e⟩)
        have HN2 := Lib.hid x2
        rw [x1] at HIX
        have HI2 := Lib.hid (HIX.out m)
        clear x1 x2 hex HIX
        go_wp2_with fail
        refine HI2.out.mono ?_
        rintro e5 W5 ⟨rfl, rfl⟩
        go_wp2
        go_roundw
        case rel => exact ⟨d + 1, i + 1, m, by rw [HN2.out], by go_num, by have := HID.out; show _ = _; omega, by omega, rfl⟩
        case measure => simp [intOf]; omega
    · have i1 : ¬ (i : Int) < (T : Int) := by omega
      have HF : Hid (greatN ts st p e = m0) := by show _ = _; rw [HGN.out, ← HM0.out]; congr 1; have := HID.out; omega
      clear hi
      go_wp2
      go_ret
      exact ⟨ret_int HF.out.symm, m, rfl⟩
end Go.Proofs.Ytcjeededlhdcbaa

namespace Go.Proofs.Ytcjeededlhdcbaa
open Go.RowKit
set_option linter.unusedVariables false
set_option linter.unusedSimpArgs false

/-- The crew's times at block bc, the task at block bt. -/
structure FitK (bc bt N : Nat) (crew time need : Int) (w wr : World) (vU : Value) (U : List Int) : Prop where
  own : OwnI wr N vU U
  apart : vU.ownBlock ≠ some bt
  lt : bt < wr.heap.size
  used : wr.cell? ⟨bc, 0, none⟩ = some vU
  crew : wr.cell? ⟨bc, 1, none⟩ = some (.int .i64 crew)
  froz : wr.frozen? ⟨bc, 0, none⟩ = false
  time : wr.cell? ⟨bt, 0, none⟩ = some (.int .i64 time)
  need : wr.cell? ⟨bt, 1, none⟩ = some (.int .i64 need)
  frm : Frm bc N w wr
theorem FitK.bcne {bc bt N : Nat} {crew time need : Int} {w wr : World} {vU : Value} {U : List Int} (h : FitK bc bt N crew time need w wr vU U) (hbc : bc < N) : some bc ≠ vU.ownBlock := fun e => by have := (h.own.lt bc e.symm).1; omega
theorem FitK.grow {bc bt N : Nat} {crew time need : Int} {w wr w' : World} {vU : Value} {U U' : List Int} (h : FitK bc bt N crew time need w wr vU U) (hbc : bc < N) (hN : N ≤ wr.heap.size) (hg : wr.grownBy w' vU.ownBlock) :
    w'.cell? ⟨bc, 0, none⟩ = some vU ∧ w'.cell? ⟨bc, 1, none⟩ = some (.int .i64 crew) ∧ w'.frozen? ⟨bc, 0, none⟩ = false ∧ w'.cell? ⟨bt, 0, none⟩ = some (.int .i64 time) ∧ w'.cell? ⟨bt, 1, none⟩ = some (.int .i64 need) ∧ Frm bc N w w' := by
  have h1 := h.bcne hbc
  have h2 : some bt ≠ vU.ownBlock := fun e => h.apart e.symm
  exact ⟨(hg.cell_far ⟨bc, 0, none⟩ (by show bc < _; omega) h1).trans h.used, (hg.cell_far ⟨bc, 1, none⟩ (by show bc < _; omega) h1).trans h.crew, (hg.frozen_far ⟨bc, 0, none⟩ (by show bc < _; omega) h1).trans h.froz,
    (hg.cell_far ⟨bt, 0, none⟩ h.lt h2).trans h.time, (hg.cell_far ⟨bt, 1, none⟩ h.lt h2).trans h.need, h.frm.grown hg (fun j e => (h.own.lt j e).1) hN⟩
theorem FitK.drewN {bc bt N : Nat} {crew time need : Int} {w wr : World} {vU : Value} {U : List Int} (h : FitK bc bt N crew time need w wr vU U) (q : Nat) : FitK bc bt N crew time need w (wr.drewN q) vU U :=
  ⟨h.own.drewN q, h.apart, h.lt, h.used, h.crew, h.froz, h.time, h.need, h.frm.drewN q⟩
theorem nth_setF {l : List Int} {m i : Nat} (v : Int) (hm : m < l.length) : nth (l.set m v) i = if m = i then v else nth l i := by
  unfold nth
  rw [List.getD_eq_getElem?_getD, List.getElem?_set, List.getD_eq_getElem?_getD]
  split
  · rename_i e'; subst e'; simp [hm]
  · rfl
/-- One place more. -/
theorem FitK.app {bc bt N : Nat} {crew time need : Int} {w wr w' : World} {vU : Value} {U : List Int} {g c : Nat} (h : FitK bc bt N crew time need w wr vU U) (hbc : bc < N) (hbt : bt ≠ bc) (hN : N ≤ wr.heap.size)
    (ho : OwnI w' N (.slice (some ⟨g, 0, none⟩) (U.length + 1) c) (U ++ [0])) (hg : wr.grownBy w' vU.ownBlock) (hl : vU.ownBlock = some g ∨ wr.heap.size ≤ g) :
    FitK bc bt N crew time need w (w'.setCell ⟨bc, 0, none⟩ (.slice (some ⟨g, 0, none⟩) (U.length + 1) c)) (.slice (some ⟨g, 0, none⟩) (U.length + 1) c) (U ++ [0]) := by
  obtain ⟨a1, a2, a3, a4, a5, a6⟩ := h.grow (U' := U) hbc hN hg
  have hgN := (ho.lt g rfl).1
  have hb : ∀ v, w'.grownBy (w'.setCell ⟨bc, 0, none⟩ v) (some bc) := fun v => ⟨rfl, rfl, rfl, by rw [World.size_setCell]; exact Nat.le_refl _, fun i hi hn => Below.heap_setCell _ _ _ _ (fun e => hn (by rw [e]))⟩
  refine ⟨ho.kept (hb _) (.inr (by rw [ownBlock_slice]; intro e; injection e with e; omega)), ?_, ?_, ?_, ?_, ?_, ?_, ?_, a6.setB _⟩
  · rw [ownBlock_slice]; intro e; injection e with e
    rcases hl with hl | hl
    · exact h.apart (by rw [hl, e])
    · have := h.lt; omega
  · rw [World.size_setCell]; have := hg.size; have := h.lt; omega
  · exact World.cell?_setCell_same _ _ _ (by rw [a1])
  · rw [World.cell?_setCell_other _ _ _ _ (by intro e; cases e)]; exact a2
  · simpa using a3
  · rw [World.cell?_setCell_far _ _ _ _ (by show bc ≠ bt; omega)]; exact a4
  · rw [World.cell?_setCell_far _ _ _ _ (by show bc ≠ bt; omega)]; exact a5
/-- One place is changed. -/
theorem FitK.put {bc bt N : Nat} {crew time need : Int} {w wr : World} {U : List Int} {g c : Nat} (h : FitK bc bt N crew time need w wr (.slice (some ⟨g, 0, none⟩) U.length c) U) (hbc : bc < N) (hN : N ≤ wr.heap.size) (k : Nat) (hk : k < U.length) (y : Int) :
    FitK bc bt N crew time need w (wr.setCell ⟨g, k, none⟩ (.int .i64 y)) (.slice (some ⟨g, 0, none⟩) U.length c) (U.set k y) := by
  obtain ⟨b1, b2, b3, b4⟩ := h.own.store rfl k hk y
  obtain ⟨a1, a2, a3, a4, a5, a6⟩ := h.grow (U' := U) hbc hN b4
  exact ⟨b3, h.apart, by rw [World.size_setCell]; exact h.lt, a1, a2, a3, a4, a5, a6⟩

/-- What one loop knows: the place a, all before it gone. -/
def FitR (bc bt N : Nat) (crew time need a0 : Int) (U0 : List Int) (M : Nat) (w : World) (va : Value) (wr : World) : Prop :=
  ∃ (a : Int) (vU : Value) (U : List Int), va = .int .i64 a ∧ a0 ≤ a ∧ a ≤ M ∧ Hid (noneW (nth U0) crew need time a0 a) ∧ Hid (FitK bc bt N crew time need w wr vU U) ∧ Hid (∀ k, nth U k = nth U0 k) ∧ U.length ≤ M + time.toNat
def FitL (bc bt N : Nat) (crew time need : Int) (U0 : List Int) (M : Nat) (w wr : World) : Prop :=
  ∃ (vU : Value) (U : List Int), Hid (FitK bc bt N crew time need w wr vU U) ∧ Hid (∀ k, nth U k = nth U0 k) ∧ U.length ≤ M + time.toNat
/-- How long the times are that lie at bc. -/
def usedLen (bc : Nat) (w : World) : Nat := match w.cell? ⟨bc, 0, none⟩ with | some (.slice _ n _) => n | _ => 0
theorem FitK.len {bc bt N : Nat} {crew time need : Int} {w wr : World} {vU : Value} {U : List Int} (h : FitK bc bt N crew time need w wr vU U) : usedLen bc wr = U.length := by
  unfold usedLen; rw [h.used]
  rcases h.own.nil_or with ⟨rfl, rfl⟩ | ⟨g, c, rfl⟩ <;> rfl
theorem FitK.shape {bc bt N : Nat} {crew time need : Int} {w wr : World} {vU : Value} {U : List Int} (h : FitK bc bt N crew time need w wr vU U) : ∃ (a : Option Addr) (c : Nat), vU = .slice a U.length c := by
  rcases h.own.nil_or with ⟨rfl, rfl⟩ | ⟨g, c, rfl⟩
  · exact ⟨none, 0, rfl⟩
  · exact ⟨_, _, rfl⟩
/-- The busy search: the place k, the last busy b. -/
def FitS (U0 : List Int) (crew need a time : Int) (W : World) (vb vk : Value) (wr : World) : Prop :=
  ∃ (k : Nat) (b : Int) (q : Nat), vb = .int .i64 b ∧ vk = .int .i64 k ∧ a ≤ k ∧ (k : Int) ≤ a + time ∧ Hid (LastB (nth U0) crew need a k b) ∧ wr = W.drewN q
/-- The need is added up to k. -/
def FitT (bc bt N : Nat) (crew time need a : Int) (U0 : List Int) (ax : Option Addr) (l cx : Nat) (w : World) (vk : Value) (wr : World) : Prop :=
  ∃ (k : Nat) (U : List Int), vk = .int .i64 k ∧ a ≤ k ∧ (k : Int) ≤ a + time ∧ Hid (FitK bc bt N crew time need w wr (.slice ax l cx) U) ∧ Hid (U.length = l) ∧ Hid (∀ j : Nat, nth U j = nth U0 j + if a ≤ j ∧ j < k then need else 0)
theorem noneW.bound {U0 : List Int} {crew need time a0 a : Int} {M : Nat} (h : noneW (nth U0) crew need time a0 a) (hM : U0.length ≤ M) (ha : a0 ≤ M) (hn : need ≤ crew) : a ≤ M := by
  by_cases hc : a ≤ M
  · exact hc
  · obtain ⟨k, k1, k2, k3⟩ := h M ha (by omega)
    rw [nth_over (by omega)] at k3; omega

set_option maxRecDepth 100000 in
set_option maxHeartbeats 4000000 in
theorem fit_any (bc N : Nat) (vU vb vl : Value) (U0 : List Int) (crew time need a0 : Int) (w : World) (hown : OwnI w N vU U0) (hbc : bc < N) (hN : N ≤ w.heap.size) (hu : w.cell? ⟨bc, 0, none⟩ = some vU) (hcr : w.cell? ⟨bc, 1, none⟩ = some (.int .i64 crew)) (hf : w.frozen? ⟨bc, 0, none⟩ = false)
    (ht : 0 ≤ time ∧ time ≤ 100000) (hn : 0 ≤ need ∧ need ≤ crew) (hc : crew ≤ 100000) (ha : 0 ≤ a0 ∧ a0 ≤ 1000000) (hU : U0.length ≤ 1000000) (hUn : ∀ k, 0 ≤ nth U0 k ∧ nth U0 k ≤ 100000) :
    Calls Try.prog 115 #[.pointer (some ⟨bc, 0, none⟩), .agg #[.int .i64 time, .int .i64 need, vb, vl], .int .i64 a0] w fun e w' => ∃ (s : Int) (vU' : Value) (U' : List Int), e = .returned (.int .i64 s) ∧ Fit (nth U0) crew need time a0 s ∧ s ≤ max U0.length a0.toNat ∧
      OwnI w' N vU' U' ∧ (∀ k : Nat, nth U' k = nth U0 k + if s ≤ k ∧ (k : Int) < s + time then need else 0) ∧ U'.length ≤ max U0.length a0.toNat + time.toNat ∧ w'.cell? ⟨bc, 0, none⟩ = some vU' ∧ w'.cell? ⟨bc, 1, none⟩ = some (.int .i64 crew) ∧ w'.frozen? ⟨bc, 0, none⟩ = false ∧ Frm bc N w w' := by
  obtain ⟨M, hM⟩ : ∃ M, max U0.length a0.toNat = M := ⟨_, rfl⟩
  rw [hM]
  have hM1 : U0.length ≤ M := by omega
  have hM2 : a0 ≤ M := by omega
  have hM3 : M ≤ 1000000 := by omega
  clear hM
  obtain ⟨W1, hW1⟩ : ∃ W, w.alloc (.cells #[.int .i64 time, .int .i64 need, vb, vl] 40) = W := ⟨_, rfl⟩
  have HK : Hid (FitK bc w.heap.size N crew time need w W1 vU U0) := by
    show FitK _ _ _ _ _ _ _ _ _ _
    rw [← hW1]
    refine ⟨hown.alloc _, fun e => by have := (hown.lt _ e).2; omega, by simp, ?_, ?_, ?_, by simp, by simp, (Frm.refl _ _ _).alloc hN _⟩
    · exact (World.cell?_alloc_lt _ _ _ (by show bc < _; omega)).trans hu
    · exact (World.cell?_alloc_lt _ _ _ (by show bc < _; omega)).trans hcr
    · exact (World.grownBy.frozen_far (⟨rfl, rfl, rfl, by simp, fun i hi _ => Below.heap_alloc _ _ _ hi⟩ : w.grownBy (w.alloc _) none) ⟨bc, 0, none⟩ (by show bc < _; omega) (by intro e; cases e)).trans hf
  have HR0 : Hid (FitR bc w.heap.size N crew time need a0 U0 M w (.int .i64 a0) W1) := ⟨a0, vU, U0, rfl, Int.le_refl _, hM2, noneW.start _ _ _ _ _, HK.out, fun _ => rfl, by omega⟩
  obtain ⟨bt, hbt⟩ : ∃ bt, w.heap.size = bt := ⟨_, rfl⟩
  rw [hbt] at HR0
  have HBT : Hid (w.heap.size = bt ∧ N ≤ bt ∧ bc < N) := ⟨hbt, by omega, hbc⟩
  have HUN : Hid (∀ k, 0 ≤ nth U0 k ∧ nth U0 k ≤ 100000) := hUn
  have HUL : Hid (U0.length ≤ M) := hM1
  clear hown hu hcr hf HK hUn hU hM1
  go_enter Try.func115, Try.ntmps115
  go_wp2_with fail
  clear hW1
  go_loopw [2] (fun va wr => FitR bc bt N crew time need a0 U0 M w va wr) (fun va _ => M + 1 - (intOf va).toNat)
  case atStart => exact HR0.out
  case round =>
    obtain ⟨a, vU1, U, rfl, ha1, ha2, HNW, HK, HE, hl⟩ := hrel
    clear HR0
    have HL0 : Hid (FitL bc bt N crew time need U0 M w wr) := ⟨vU1, U, HK, HE, hl⟩
    clear HK HE hl
    go_wp2
    go_loopw [] (fun wi => FitL bc bt N crew time need U0 M w wi) (fun wi => M + time.toNat - usedLen bc wi)
    case atStart => exact HL0.out
    case round =>
      obtain ⟨vU2, U2, HK, HE, hl⟩ := hrel
      clear HL0
      obtain ⟨ax, cx, rfl⟩ := HK.out.shape
      obtain ⟨l, hl'⟩ : ∃ l, U2.length = l := ⟨_, rfl⟩
      have HLL : Hid (U2.length = l) := hl'
      have c0 := HK.out.used
      have c1 := HK.out.time
      have hsz := HK.out.frm.size
      have HNW1 : Hid (N ≤ wr.heap.size) := by have := HBT.out; show _ ≤ _; omega
      rw [hl'] at c0 hl HK
      have w1 : IntKind.i64.wrap (a + time) = a + time := IntWalk.i64_in _ (by omega)
      clear hl' hsz
      by_cases hlt : (l : Int) < a + time
      · go_wp2
        go_quiet (fail)
        have HX2 : Hid (FitK bc bt N crew time need w (wr.drewN nq) (.slice ax l cx) U2) := HK.out.drewN nq
        have HNW2 : Hid (N ≤ (wr.drewN nq).heap.size) := HNW1.out
        have HLM : Hid (usedLen bc wr = l) := by have := HK.out.len; have := HLL.out; show _ = _; omega
        obtain ⟨W2, hW2⟩ : ∃ W, wr.drewN nq = W := ⟨_, rfl⟩
        rw [hW2] at HX2 HNW2 ⊢
        clear HK hW2 c0 c1 HNW1
        have c0 := HX2.out.used
        go_wp2_with (at_builtin; refine append_i64L rfl _ _ rfl N (.slice ax l cx) U2 [0] (by simp) rfl _ rfl HX2.out.own HNW2.out (by have := HLL.out; simp; omega) ?_; intro g1 c1 w3 ho3 hg3 hlie; have HA3 := Lib.hid (And.intro ho3 (And.intro hg3 hlie)); obtain ⟨d1, _, d2, _, _, _⟩ := HX2.out.grow (U' := []) HBT.out.2.2 HNW2.out hg3; clear ho3 hg3 hlie)
        have HX3 : Hid (FitK bc bt N crew time need w (w3.setCell ⟨bc, 0, none⟩ (.slice (some ⟨g1, 0, none⟩) (U2.length + 1) c1)) (.slice (some ⟨g1, 0, none⟩) (U2.length + 1) c1) (U2 ++ [0])) := HX2.out.app HBT.out.2.2 (by have := HBT.out; omega) HNW2.out HA3.out.1 HA3.out.2.1 HA3.out.2.2
        go_roundw
        case rel => exact ⟨_, _, HX3, fun k => by rw [nth_zeros]; exact HE.out k, by have := HLL.out; simp; omega⟩
        case measure =>
          have e1 := HX3.out.len
          have e2 := HLM.out
          have e3 := HLL.out
          simp only [List.length_append, List.length_cons, List.length_nil] at e1 ⊢
          first
            | omega
            | (rw [e1]; omega)
      · go_wp2
        go_quiet (fail)
        go_wp2
        have HX2 : Hid (FitK bc bt N crew time need w (wr.drewN nq) (.slice ax l cx) U2) := HK.out.drewN nq
        obtain ⟨W2, hW2⟩ : ∃ W, wr.drewN nq = W := ⟨_, rfl⟩
        rw [hW2] at HX2 ⊢
        have HLB : Hid (a + time ≤ (l : Int)) := by show _ ≤ _; omega
        clear HK hW2 c0 c1 HNW1 hlt
        have c0 := HX2.out.used
        have c1 := HX2.out.time
        have c2 := HX2.out.need
        have c3 := HX2.out.crew
        have HS0 : Hid (FitS U0 crew need a time W2 (.int .i64 (-1)) (.int .i64 a) W2) := ⟨a.toNat, -1, 0, rfl, by go_num, by omega, by omega, by rw [Int.toNat_of_nonneg (by omega)]; exact LastB.start _ _ _ _, rfl⟩
        go_loopw [7, 8] (fun vb vk wi => FitS U0 crew need a time W2 vb vk wi) (fun _ vk _ => (a + time - intOf vk).toNat)
        case atStart => exact HS0.out
        case round =>
          obtain ⟨k, b, q, rfl, rfl, hka, hkt, HLS, rfl⟩ := hrel
          clear HS0
          by_cases hlt : (k : Int) < a + time
          · have hkl : k < U2.length := by have := HLL.out; have := HLB.out; omega
            obtain ⟨g, hg⟩ : ∃ g, ax = some ⟨g, 0, none⟩ := by
              rcases HX2.out.own.nil_or with ⟨h1, h2⟩ | ⟨g, c, h1⟩
              · rw [h2] at hkl; simp at hkl
              · injection h1 with h1 _ _; exact ⟨g, h1⟩
            subst hg
            have c4 := HX2.out.own.at_ HLL.out.symm k hkl
            rw [HE.out k] at c4
            have hu := HUN.out k
            obtain ⟨u, hu'⟩ : ∃ u, nth U0 k = u := ⟨_, rfl⟩
            have HUE : Hid (nth U0 k = u) := hu'
            rw [hu'] at c4 hu
            have k0 : (0 : Int) ≤ (k : Int) := by omega
            have k1 : (k : Int) < (l : Int) := by have := HLB.out; omega
            have w2 : IntKind.i64.wrap (u + need) = u + need := IntWalk.i64_in _ (by omega)
            have HLN := Lib.hid (HLS.out.next hka (by omega))
            clear hu' hkl
            by_cases hb : crew < u + need
            · have HB : Hid (crew < nth U0 k + need) := by show _ < _; rw [HUE.out]; exact hb
              go_wp2
              go_quiet (fail)
              go_wp2
              go_roundw
              case rel =>
                have := HLN.out
                rw [if_pos HB.out] at this
                exact ⟨k + 1, k, _, rfl, by go_num, by omega, by omega, by show LastB _ _ _ _ _ _; simpa using this, rfl⟩
              case measure => simp [intOf]; omega
            · have HB : Hid (¬ crew < nth U0 k + need) := by show ¬ _; rw [HUE.out]; exact hb
              go_wp2
              go_quiet (fail)
              go_wp2
              go_roundw
              case rel =>
                have := HLN.out
                rw [if_neg (by have := HB.out; omega)] at this
                exact ⟨k + 1, b, _, rfl, by go_num, by omega, by omega, by show LastB _ _ _ _ _ _; simpa using this, rfl⟩
              case measure => simp [intOf]; omega
          · have HLA : Hid (LastB (nth U0) crew need a (a + time) b) := by
              have := HLS.out
              rw [show (k : Int) = a + time by omega] at this
              exact this
            rcases HLA.out with ⟨rfl, hfree⟩ | ⟨hb1, hb2, hb3⟩
            · have HFR : Hid (Fit (nth U0) crew need time a0 a) := ⟨ha1, fun j j1 j2 => hfree j j1 j2, HNW.out⟩
              clear HLA hfree HLS
              have HX4 : Hid (FitK bc bt N crew time need w (W2.drewN q) (.slice ax l cx) U2) := HX2.out.drewN q
              obtain ⟨W4, hW4⟩ : ∃ W, W2.drewN q = W := ⟨_, rfl⟩
              rw [hW4] at HX4 ⊢
              clear hW4 HX2 c0 c1 c2 c3
              have HT0 : Hid (FitT bc bt N crew time need a U0 ax l cx w (.int .i64 a) W4) := ⟨a.toNat, U2, by go_num, by omega, by omega, HX4.out, HLL.out, fun j => by rw [HE.out j, if_neg (by omega)]; omega⟩
              have c1 := HX4.out.time
              have hlt' : ¬ (k : Int) < a + time := hlt
              go_wp2
              clear HX4 c1
              go_loopw [9] (fun vk wi => FitT bc bt N crew time need a U0 ax l cx w vk wi) (fun vk _ => (a + time - intOf vk).toNat)
              case atStart => exact HT0.out
              case round =>
                obtain ⟨k3, U3, rfl, hka3, hkt3, HX, HL3, HU3⟩ := hrel
                clear HT0
                have c1 := HX.out.time
                by_cases hlt3 : (k3 : Int) < a + time
                · have hkl : k3 < U3.length := by have := HL3.out; have := HLB.out; omega
                  obtain ⟨g, hg⟩ : ∃ g, ax = some ⟨g, 0, none⟩ := by
                    rcases HX.out.own.nil_or with ⟨h1, h2⟩ | ⟨g, c, h1⟩
                    · rw [h2] at hkl; simp at hkl
                    · injection h1 with h1 _ _; exact ⟨g, h1⟩
                  subst hg
                  have hv : nth U3 k3 = nth U0 k3 := by rw [HU3.out k3, if_neg (by omega)]; omega
                  have hu := HUN.out k3
                  obtain ⟨u, hu'⟩ : ∃ u, nth U0 k3 = u := ⟨_, rfl⟩
                  have HUE : Hid (nth U0 k3 = u) := hu'
                  have c0 := HX.out.used
                  have c2 := HX.out.need
                  have c4 := HX.out.own.at_ HL3.out.symm k3 hkl
                  have fp := (HX.out.own.store HL3.out.symm k3 hkl (u + need)).2.1
                  rw [hv, hu'] at c4
                  rw [hu'] at hu
                  have HPUT : Hid (FitK bc bt N crew time need w (wr.setCell ⟨g, k3, none⟩ (.int .i64 (u + need))) (.slice (some ⟨g, 0, none⟩) l cx) (U3.set k3 (u + need))) := by
                    have h := HX.out
                    rw [← HL3.out] at h
                    have h2 := h.put HBT.out.2.2 (by have := HX.out.frm.size; have := HBT.out; omega) k3 hkl (u + need)
                    rw [HL3.out] at h2
                    exact h2
                  have k0 : (0 : Int) ≤ (k3 : Int) := by omega
                  have k1 : (k3 : Int) < (l : Int) := by have := HLB.out; omega
                  have w2 : IntKind.i64.wrap (u + need) = u + need := IntWalk.i64_in _ (by omega)
                  have HKL : Hid (k3 < U3.length) := hkl
                  clear hu' hv hkl
                  go_wp2
                  go_region
                  go_wp2
                  go_roundw
                  case rel => exact ⟨k3 + 1, _, by go_num, by omega, by omega, HPUT.out.drewN _, by show _ = _; rw [List.length_set]; exact HL3.out, fun j => by
                    by_cases e : j = k3
                    · subst e
                      rw [nth_setF _ HKL.out, if_pos rfl, if_pos (by omega), HUE.out]
                    · rw [nth_setF _ HKL.out, if_neg (fun x => e x.symm), HU3.out j]
                      by_cases hq : a ≤ (j : Int) ∧ j < k3
                      · rw [if_pos hq, if_pos (by omega)]
                      · rw [if_neg hq, if_neg (by omega)]⟩
                  case measure => simp [intOf]; omega
                · go_wp2
                  go_ret
                  exact ⟨a, rfl, HFR.out, ha2, _, U3, HX.out.own, fun j => by
                    rw [HU3.out j]
                    by_cases hq : a ≤ (j : Int) ∧ j < k3
                    · rw [if_pos hq, if_pos (by omega)]
                    · rw [if_neg hq, if_neg (by omega)], by have := HL3.out; omega, HX.out.used, HX.out.crew, HX.out.froz, HX.out.frm⟩
            · have HB : Hid (a ≤ b ∧ b < a + time ∧ crew < nth U0 b.toNat + need) := ⟨hb1, hb2, hb3⟩
              have HNX : Hid (noneW (nth U0) crew need time a0 (b + 1)) := by
                have := HNW.out.jump (b := b.toNat) (by omega) (by omega) HB.out.2.2
                rw [Int.toNat_of_nonneg (by omega)] at this; exact this
              have hbM := HNX.out.bound HUL.out hM2 hn.2
              clear HLA hb3
              go_wp2
              go_roundw
              case rel => exact ⟨b + 1, _, U2, by go_num, by omega, hbM, HNX.out, HX2.out.drewN _, HE.out, by have := HLL.out; omega⟩
              case measure => simp [intOf]; omega
end Go.Proofs.Ytcjeededlhdcbaa

namespace Go.Proofs.Ytcjeededlhdcbaa
open Go.RowKit
set_option linter.unusedVariables false
set_option linter.unusedSimpArgs false

def LatIR (ts : List Tk) (e : Int) (T g N : Nat) (w : World) (vi : Value) (wr : World) : Prop :=
  ∃ (d : Nat) (i : Int), vi = .int .i64 i ∧ d ≤ T ∧ -1 ≤ i ∧ i < T ∧ Hid (i + 1 + d = T) ∧ Hid (OwnI wr N (.slice (some ⟨g, 0, none⟩) T T) (lateTo ts e d)) ∧ Hid (Below N w wr)
set_option maxRecDepth 100000 in
set_option maxHeartbeats 2000000 in
theorem lateStarts_any (vt : Value) (ts : List Tk) (e : Int) (w : World) (ht : TasksR w vt ts) (hsm : SmTs ts) (hrs : RiseTs ts) (he : 0 ≤ e ∧ e ≤ 2000000) :
    Calls Try.prog 116 #[vt, .int .i64 e] w fun x w' => (∃ g, x = .returned (.slice (some ⟨g, 0, none⟩) ts.length ts.length) ∧ OwnI w' w.heap.size (.slice (some ⟨g, 0, none⟩) ts.length ts.length) (lateN ts e)) ∧ Below w.heap.size w w' := by
  obtain ⟨A, hA⟩ : ∃ A, w.heap.size = A := ⟨_, rfl⟩
  have HA := Lib.hid hA
  have HSZ : Hid (∀ W, Below A w W → A ≤ W.heap.size) := fun W h => by rw [← hA]; exact h.size
  have h16 := hsm.n16
  have h1 := hsm.n1
  have HLE : Hid (∀ (vs : Value) (d p : Nat) W, Below A w W → Ints W vs (lateTo ts e d) → d ≤ ts.length → p < ts.length → Calls Try.prog 152 #[vt, vs, .int .i64 p, .int .i64 e] W fun x w' => x = .returned (.int .i64 (greatN ts (lateTo ts e d) p e)) ∧ ∃ q, w' = W.drewN q) := fun vs d p W hW hs hd hp => latest_any vt vs ts (lateTo ts e d) p e W (ht.below (by rw [hA]; exact hW) (Nat.le_refl _)) hs hsm hrs ⟨lateTo_len _ _ _, fun j _ => by have := lateTo_bounds hsm he.1 d hd j; omega⟩ hp he
  have HLN : Hid (∀ k, (lateTo ts e k).length = ts.length) := lateTo_len ts e
  have HEN : Hid (lateN ts e = lateTo ts e ts.length) := rfl
  have HZ : Hid (lateTo ts e 0 = List.replicate ts.length 0) := rfl
  have HNX : Hid (∀ d, lateTo ts e (d + 1) = (lateTo ts e d).set (ts.length - 1 - d) (greatN ts (lateTo ts e d) (ts.length - 1 - d) e)) := fun d => rfl
  obtain ⟨a, c, rfl, hcap, _⟩ := ht.at_
  obtain ⟨n, hn⟩ : ∃ n, ts.length = n := ⟨_, rfl⟩
  rw [hn] at HLE h16 h1 hcap HEN HZ ⊢
  simp only [hn] at HLN HNX
  obtain ⟨i0, hi, hz0, hz1, hz2⟩ := info_parts info_i64
  have w0 : IntKind.i64.wrap ((n : Int) - 1) = (n : Int) - 1 := IntWalk.i64_in _ (by omega)
  clear ht hsm hn
  go_enter Try.func116, Try.ntmps116
  go_wp2_with (at_make; refine wpList_make_full _ rfl _ _ 27 rfl A 2 i0 (.int .i64 0) 1 Try.underlying27 hi hz0 hz1 _ _ _ _ n rfl rfl rfl rfl (by rw [hz2]; omega) (by unfold maxLen; omega) (by rw [hA]; exact Nat.le_refl _) ?_; intro w1 hown1 hgrow1; have HA1 := Lib.hid (And.intro hown1 hgrow1); clear hown1 hgrow1)
  rw [hA] at HA1
  have HR0 : Hid (LatIR ts e n A A w (.int .i64 ((n : Int) - 1)) w1) := by
    obtain ⟨ho, hg⟩ := HA1.out
    exact ⟨0, (n : Int) - 1, rfl, Nat.zero_le _, by omega, by omega, by show _ = _; omega, by show OwnI _ _ _ _; rw [HZ.out]; exact made_replicate ho, (Below.refl _ w).grown hg (by rw [hA]; exact Nat.le_refl _) (fun k e => by cases e)⟩
  clear HA1 hi hz0 hz1 hz2
  go_wp2
  go_loopw [6] (fun vi wr => LatIR ts e n A A w vi wr) (fun vi _ => (intOf vi + 1).toNat)
  case atStart => exact HR0.out
  case round =>
    obtain ⟨d, i, rfl, hd, hi1, hi2, HI, HO, HB⟩ := hrel
    clear HR0
    have w1 : IntKind.i64.wrap (i - 1) = i - 1 := IntWalk.i64_in _ (by omega)
    by_cases hi0 : 0 ≤ i
    · obtain ⟨p, rfl⟩ : ∃ p : Nat, i = p := ⟨i.toNat, by omega⟩
      have hpn : p < n := by omega
      have HP : Hid (n - 1 - d = p) := by have := HI.out; show _ = _; omega
      have HC := Lib.hid (HLE.out _ d p wr HB.out HO.out.ints hd hpn)
      have HN2 := Lib.hid (HNX.out d)
      rw [HP.out] at HN2
      obtain ⟨r, hr⟩ : ∃ r, greatN ts (lateTo ts e d) p e = r := ⟨_, rfl⟩
      rw [hr] at HC HN2
      clear hr
      have hdn : d + 1 ≤ n := by have := HI.out; omega
      have HI2 : Hid ((p : Int) - 1 + 1 + ((d + 1 : Nat) : Int) = n) := by have := HI.out; show _ = _; omega
      go_wp2_with fail
      refine HC.out.mono ?_
      rintro x W2 ⟨rfl, q, rfl⟩
      obtain ⟨s1, s2, s3, s4⟩ := (HO.out.drewN q).store (HLN.out d).symm p (by rw [HLN.out]; exact hpn) r
      have HS := Lib.hid (And.intro s3 ((below_drewN q HB.out).grown s4 (HSZ.out _ (below_drewN q HB.out)) (fun j e => by cases e; exact Nat.le_refl _)))
      obtain ⟨u0, hu0⟩ : ∃ u, wr.cell? ⟨A, p, none⟩ = some u := ⟨_, s1⟩
      have f0 : wr.frozen? ⟨A, p, none⟩ = false := s2
      clear s1 s2 s3 s4 HC HO
      go_wp2
      go_roundw
      case rel => exact ⟨d + 1, (p : Int) - 1, rfl, by omega, by omega, by omega, HI2.out, by show OwnI _ _ _ _; rw [HN2.out]; exact HS.out.1, HS.out.2⟩
      case measure => first | (simp [intOf]; done) | (simp [intOf]; omega)
    · have HK2 : Hid (d = n) := by have := HI.out; show _ = _; omega
      have HFIN : Hid (OwnI wr A (.slice (some ⟨A, 0, none⟩) n n) (lateN ts e)) := by
        have h := HO.out
        rw [HK2.out] at h
        rw [HEN.out]; exact h
      clear HO HLE
      go_wp2
      go_ret
      first
        | exact ⟨⟨A, rfl, HFIN.out⟩, HB.out⟩
        | (rw [HA.out]; exact ⟨⟨A, rfl, HFIN.out⟩, HB.out⟩)

def slackM (ts : List Tk) (k : Nat) : List Int := (List.range ts.length).map fun i => if i < k then nth (lateN ts (endN ts)) i - nth (earlyN ts) i else nth (lateN ts (endN ts)) i
theorem slackM_len (ts : List Tk) (k : Nat) : (slackM ts k).length = ts.length := by simp [slackM]
theorem slackM_at {ts : List Tk} {k i : Nat} (hi : i < ts.length) : nth (slackM ts k) i = if i < k then nth (lateN ts (endN ts)) i - nth (earlyN ts) i else nth (lateN ts (endN ts)) i := by
  rw [nth_eq (by rw [slackM_len]; exact hi)]; simp [slackM]
theorem slackM_zero (ts : List Tk) : slackM ts 0 = lateN ts (endN ts) := by
  refine list_nth (by rw [slackM_len]; exact (lateTo_len _ _ _).symm) (fun k hk => ?_)
  rw [slackM_len] at hk
  rw [slackM_at hk, if_neg (Nat.not_lt_zero _)]
theorem slackM_all (ts : List Tk) : slackM ts ts.length = slackN ts := by
  refine list_nth (by rw [slackM_len, slackN_len]) (fun k hk => ?_)
  rw [slackM_len] at hk
  rw [slackM_at hk, if_pos hk, slackN_at hk]
theorem slackM_step {ts : List Tk} {k : Nat} (hk : k < ts.length) : (slackM ts k).set k (nth (lateN ts (endN ts)) k - nth (earlyN ts) k) = slackM ts (k + 1) := by
  refine list_nth (by rw [List.length_set, slackM_len, slackM_len]) (fun i hi => ?_)
  rw [List.length_set, slackM_len] at hi
  rw [nth_setF _ (by rw [slackM_len]; exact hk), slackM_at hi, slackM_at hi]
  by_cases e : k = i
  · subst e; rw [if_pos rfl, if_pos (Nat.lt_succ_self _)]
  · rw [if_neg e]
    by_cases q : i < k
    · rw [if_pos q, if_pos (by omega)]
    · rw [if_neg q, if_neg (by omega)]
def SlkIR (ts : List Tk) (T gl N : Nat) (w : World) (vk : Value) (wr : World) : Prop :=
  ∃ (k : Nat), vk = .int .i64 k ∧ k ≤ T ∧ Hid (OwnI wr N (.slice (some ⟨gl, 0, none⟩) T T) (slackM ts k)) ∧ Hid (GrownL [gl] w wr)
set_option maxRecDepth 100000 in
set_option maxHeartbeats 2000000 in
theorem slack_any (vt : Value) (ts : List Tk) (w : World) (ht : TasksR w vt ts) (hsm : SmTs ts) (hrs : RiseTs ts) :
    Calls Try.prog 117 #[vt] w fun x w' => (∃ g, x = .returned (.slice (some ⟨g, 0, none⟩) ts.length ts.length) ∧ OwnI w' w.heap.size (.slice (some ⟨g, 0, none⟩) ts.length ts.length) (slackN ts)) ∧ Below w.heap.size w w' := by
  have HC1 := Lib.hid (earlyStarts_any vt ts w ht hsm)
  have HC2 : Hid (∀ vs W, Below w.heap.size w W → Ints W vs (earlyN ts) → Calls Try.prog 78 #[vt, vs] W fun e w' => e = .returned (.int .i64 (endN ts)) ∧ Below W.heap.size W w') := fun vs W hW hs => lastEnd_any vt vs ts (earlyN ts) W (ht.below hW (Nat.le_refl _)) hs hsm (earlyTo_sm hsm _ (Nat.le_refl _))
  have HC3 : Hid (∀ W, Below w.heap.size w W → Calls Try.prog 116 #[vt, .int .i64 (endN ts)] W fun x w' => (∃ g, x = .returned (.slice (some ⟨g, 0, none⟩) ts.length ts.length) ∧ OwnI w' W.heap.size (.slice (some ⟨g, 0, none⟩) ts.length ts.length) (lateN ts (endN ts))) ∧ Below W.heap.size W w') := fun W hW => lateStarts_any vt ts (endN ts) W (ht.below hW (Nat.le_refl _)) hsm hrs (by have := endN_bounds hsm; omega)
  have HM0 : Hid (slackM ts 0 = lateN ts (endN ts)) := slackM_zero ts
  have HMN : Hid (slackM ts ts.length = slackN ts) := slackM_all ts
  have HMS : Hid (∀ k, k < ts.length → (slackM ts k).set k (nth (lateN ts (endN ts)) k - nth (earlyN ts) k) = slackM ts (k + 1)) := fun k hk => slackM_step hk
  have HML : Hid (∀ k, (slackM ts k).length = ts.length) := slackM_len ts
  have HMA : Hid (∀ k, k < ts.length → nth (slackM ts k) k = nth (lateN ts (endN ts)) k) := fun k hk => by rw [slackM_at hk, if_neg (Nat.lt_irrefl _)]
  have HLN : Hid ((earlyN ts).length = ts.length) := earlyTo_len _ _
  have HLB : Hid (∀ j, -3200 ≤ nth (lateN ts (endN ts)) j ∧ nth (lateN ts (endN ts)) j ≤ 1000100) := fun j => by
    have h1 := endN_bounds hsm
    have h2 := lateTo_bounds hsm h1.1 ts.length (Nat.le_refl _) j
    have h3 := hsm.n16
    unfold lateN
    omega
  have HEB : Hid (∀ j, 0 ≤ nth (earlyN ts) j ∧ nth (earlyN ts) j ≤ 3200) := fun j => by
    have h2 := earlyTo_bounds hsm ts.length (Nat.le_refl _) j
    have h3 := hsm.n16
    unfold earlyN
    omega
  have h16 := hsm.n16
  obtain ⟨T, hT⟩ : ∃ T, ts.length = T := ⟨_, rfl⟩
  rw [hT] at HC1 HMN HMS HMA HLN h16 ⊢
  simp only [hT] at HC3 HML
  clear ht hsm hrs hT
  go_enter Try.func117, Try.ntmps117
  go_wp2_with fail
  refine HC1.out.mono ?_
  rintro x W1 ⟨⟨ge, rfl, ho1⟩, hb1⟩
  have HB1 := Lib.hid hb1
  have HO1 := Lib.hid ho1
  clear ho1 hb1 HC1
  have HD2 := Lib.hid (HC2.out _ W1 HB1.out HO1.out.ints)
  clear HC2
  go_wp2_with fail
  refine HD2.out.mono ?_
  rintro x W2 ⟨rfl, hb2⟩
  have HB2 : Hid (Below w.heap.size w W2) := HB1.out.trans (hb2.mono HB1.out.size)
  have HO2 := Lib.hid (HO1.out.below hb2 (Nat.le_refl _))
  clear hb2 HD2
  have HD3 := Lib.hid (HC3.out W2 HB2.out)
  clear HC3
  go_wp2_with fail
  refine HD3.out.mono ?_
  rintro x W3 ⟨⟨gl, rfl, ho3⟩, hb3⟩
  have HB3 : Hid (Below w.heap.size w W3) := HB2.out.trans (hb3.mono HB2.out.size)
  have HE3 := Lib.hid (HO2.out.below hb3 (Nat.le_refl _))
  have HL3 := Lib.hid ho3
  have HGE : Hid (ge < gl ∧ w.heap.size ≤ gl ∧ ge < W3.heap.size) := ⟨by have := (HO2.out.lt ge rfl).2; have := (ho3.lt gl rfl).1; omega, by have := (ho3.lt gl rfl).1; have := HB2.out.size; omega, (HE3.out.lt ge rfl).2⟩
  clear ho3 hb3 HD3 HO2 HO1
  have HEC : Hid (∀ W, GrownL [gl] W3 W → ∀ k, k < T → W.cell? ⟨ge, k, none⟩ = some (.int .i64 (nth (earlyN ts) k))) := fun W hW k hk =>
    (hW.cell (p := ⟨ge, k, none⟩) HGE.out.2.2 (by show ge ∉ [gl]; have := HGE.out.1; simp; omega)).trans (HE3.out.at_ HLN.out.symm k (by rw [HLN.out]; exact hk))
  have HR0 : Hid (SlkIR ts T gl w.heap.size W3 (.int .i64 0) W3) := ⟨0, rfl, Nat.zero_le _, by show OwnI _ _ _ _; rw [HM0.out]; exact HL3.out.mono HB2.out.size, GrownL.refl _ _⟩
  clear HE3 HL3
  go_wp2
  go_loopw [15] (fun vk wr => SlkIR ts T gl w.heap.size W3 vk wr) (fun vk _ => T - (intOf vk).toNat)
  case atStart => exact HR0.out
  case round =>
    obtain ⟨k, rfl, hk, HO, HG⟩ := hrel
    clear HR0
    by_cases hkT : k < T
    · have k0 : (0 : Int) ≤ (k : Int) := by omega
      have k1 : (k : Int) < (T : Int) := by omega
      have h1 := HLB.out k
      have h2 := HEB.out k
      have c0 := HEC.out wr HG.out k hkT
      have c1 := HO.out.at_ (HML.out k).symm k (by rw [HML.out]; exact hkT)
      have f1 := (HO.out.store (HML.out k).symm k (by rw [HML.out]; exact hkT) (nth (lateN ts (endN ts)) k - nth (earlyN ts) k)).2.1
      have HS2 := Lib.hid (HO.out.store (HML.out k).symm k (by rw [HML.out]; exact hkT) (nth (lateN ts (endN ts)) k - nth (earlyN ts) k)).2.2
      have HN2 := Lib.hid (HMS.out k hkT)
      rw [HMA.out k hkT] at c1
      obtain ⟨lv, hlv⟩ : ∃ x, nth (lateN ts (endN ts)) k = x := ⟨_, rfl⟩
      obtain ⟨ev, hev⟩ : ∃ x, nth (earlyN ts) k = x := ⟨_, rfl⟩
      rw [hlv] at h1 HN2 HS2 c1
      rw [hev] at h2 HN2 HS2 c0
      have w1 : IntKind.i64.wrap (lv - ev) = lv - ev := IntWalk.i64_in _ (by omega)
      clear hlv hev
      go_wp2
      go_region
      go_wp2
      go_roundw
      case rel => exact ⟨k + 1, by go_num, by omega, by show OwnI _ _ _ _; rw [← HN2.out]; exact HS2.out.1.drewN 1, (HG.out.rowU HS2.out.2).drewN 1⟩
      case measure => simp [intOf]; omega
    · have k1 : ¬ (k : Int) < (T : Int) := by omega
      obtain rfl : k = T := by omega
      have HFIN : Hid (OwnI wr w.heap.size (.slice (some ⟨gl, 0, none⟩) k k) (slackN ts) ∧ Below w.heap.size w wr) := by
        have h := HO.out
        rw [HMN.out] at h
        exact ⟨h, HG.out.toBelow HB3.out HB3.out.size (fun j hj => by have := HGE.out.2.1; simp; omega)⟩
      clear HO
      go_wp2
      go_ret
      exact ⟨⟨gl, rfl, HFIN.out.1⟩, HFIN.out.2⟩
set_option maxRecDepth 100000 in
theorem EarlyStarts_any (vt : Value) (ts : List Tk) (w : World) (ht : TasksR w vt ts) (hok : tasksOk ts = true) :
    Calls Try.prog 68 #[vt] w fun x w' => (∃ g, x = .returned (.tuple #[.slice (some ⟨g, 0, none⟩) ts.length ts.length, .int .i64 (endN ts), .bool true]) ∧ OwnI w' w.heap.size (.slice (some ⟨g, 0, none⟩) ts.length ts.length) (earlyN ts)) ∧ Below w.heap.size w w' := by
  have hsm := tasks_sm hok
  have HC0 := Lib.hid (areTasks_any vt ts w ht)
  rw [hok] at HC0
  have HC1 : Hid (∀ W, Below w.heap.size w W → Calls Try.prog 128 #[vt] W fun e w' => (∃ g, e = .returned (.slice (some ⟨g, 0, none⟩) ts.length ts.length) ∧ OwnI w' W.heap.size (.slice (some ⟨g, 0, none⟩) ts.length ts.length) (earlyN ts)) ∧ Below W.heap.size W w') := fun W hW => earlyStarts_any vt ts W (ht.below hW (Nat.le_refl _)) hsm
  have HC2 : Hid (∀ vs W, Below w.heap.size w W → Ints W vs (earlyN ts) → Calls Try.prog 78 #[vt, vs] W fun e w' => e = .returned (.int .i64 (endN ts)) ∧ Below W.heap.size W w') := fun vs W hW hs => lastEnd_any vt vs ts (earlyN ts) W (ht.below hW (Nat.le_refl _)) hs hsm (earlyTo_sm hsm _ (Nat.le_refl _))
  obtain ⟨T, hT⟩ : ∃ T, ts.length = T := ⟨_, rfl⟩
  simp only [hT] at HC1 ⊢
  clear ht hsm hT hok
  go_enter Try.func68, Try.ntmps68
  go_wp2_with fail
  refine HC0.out.mono ?_
  rintro x W0 ⟨rfl, hb0⟩
  have HB0 := Lib.hid hb0
  clear hb0 HC0
  go_wp2_with fail
  refine (HC1.out W0 HB0.out).mono ?_
  rintro x W1 ⟨⟨ge, rfl, ho1⟩, hb1⟩
  have HB1 : Hid (Below w.heap.size w W1) := HB0.out.trans (hb1.mono HB0.out.size)
  have HO1 := Lib.hid ho1
  clear ho1 hb1 HC1
  have HD2 := Lib.hid (HC2.out _ W1 HB1.out HO1.out.ints)
  clear HC2
  go_wp2_with fail
  refine HD2.out.mono ?_
  rintro x W2 ⟨rfl, hb2⟩
  have HB2 : Hid (Below w.heap.size w W2) := HB1.out.trans (hb2.mono HB1.out.size)
  have HO2 := Lib.hid (HO1.out.below hb2 (Nat.le_refl _))
  clear hb2 HD2
  go_wp2
  go_ret3
  exact ⟨⟨ge, rfl, HO2.out.mono HB0.out.size⟩, HB2.out⟩
end Go.Proofs.Ytcjeededlhdcbaa

namespace Go.Proofs.Ytcjeededlhdcbaa
open Go.RowKit
set_option linter.unusedVariables false
set_option linter.unusedSimpArgs false

/-- What is asked of a test: it only reads. -/
def TestAt (kf : Nat) (cap : Array Value) (P : Int → Bool) (x : Int) (W : World) : Prop :=
  Calls Try.prog kf (#[.int .i64 x] ++ cap) W fun e w' => e = .returned (.bool (P x)) ∧ ∃ q, w' = W.drewN q
/-- The first place that a test takes. -/
def FirstP (P : Int → Bool) (l : List Int) (r : Int) : Prop := (r = -1 ∧ ∀ j, j < l.length → P (nth l j) = false) ∨ ∃ k : Nat, r = k ∧ k < l.length ∧ P (nth l k) = true ∧ ∀ j, j < k → P (nth l j) = false
theorem FirstP.any {P : Int → Bool} {l : List Int} {r : Int} (h : FirstP P l r) : decide (0 ≤ r) = l.any P := by
  rcases h with ⟨rfl, h⟩ | ⟨k, rfl, hk, hP, _⟩
  · rw [decide_eq_false (by omega)]
    symm
    rw [List.any_eq_false]
    intro x hx
    obtain ⟨j, hj, rfl⟩ := List.getElem_of_mem hx
    have := h j hj
    rw [nth_eq hj] at this
    rw [this]; simp
  · rw [decide_eq_true (by omega)]
    symm
    rw [List.any_eq_true]
    exact ⟨l[k], List.getElem_mem hk, by rw [← nth_eq hk]; exact hP⟩
def IdxFR (P : Int → Bool) (l : List Int) (L : Nat) (w : World) (vk : Value) (wr : World) : Prop :=
  ∃ (k m : Nat), vk = .int .i64 k ∧ k ≤ L ∧ Hid (∀ j, j < k → P (nth l j) = false) ∧ wr = w.drewN m
set_option maxRecDepth 100000 in
set_option maxHeartbeats 1000000 in
theorem indexF_any (a : Option Addr) (c : Nat) (l : List Int) (kf : Nat) (cap : Array Value) (P : Int → Bool) (w : World) (hl : l.length ≤ 1048576) (hc : ∀ k, k < l.length → ∃ b o, a = some ⟨b, o, none⟩ ∧ w.cell? ⟨b, o + k, none⟩ = some (.int .i64 (nth l k)))
    (hp : ∀ k, k < l.length → ∀ q, TestAt kf cap P (nth l k) (w.drewN q)) (heg : ∀ args w, (callFunc kf args).run Try.prog w = .ok (.enter kf args) w) :
    Calls Try.prog 129 #[.slice a l.length c, .func (.func kf) #[] cap] w fun e w' => (∃ r, e = .returned (.int .i64 r) ∧ FirstP P l r) ∧ ∃ q, w' = w.drewN q := by
  have HC : Hid (∀ k, k < l.length → ∃ b o, a = some ⟨b, o, none⟩ ∧ w.cell? ⟨b, o + k, none⟩ = some (.int .i64 (nth l k))) := hc
  have HPP : Hid (∀ k, k < l.length → ∀ q, TestAt kf cap P (nth l k) (w.drewN q)) := hp
  obtain ⟨L, hL⟩ : ∃ L, l.length = L := ⟨_, rfl⟩
  have HL : Hid (l.length = L) := hL
  rw [hL] at hl HC HPP ⊢
  clear hc hp hL
  have HR0 : Hid (IdxFR P l L w (.int .i64 0) w) := ⟨0, 0, rfl, Nat.zero_le _, fun j hj => absurd hj (Nat.not_lt_zero _), rfl⟩
  go_enter Try.func129, Try.ntmps129
  go_wp2
  go_loopw [8] (fun vk wr => IdxFR P l L w vk wr) (fun vk _ => L - (intOf vk).toNat)
  case atStart => exact HR0.out
  case round =>
    obtain ⟨k, m, rfl, hk, HNO, rfl⟩ := hrel
    clear HR0
    by_cases hkL : k < L
    · have k0 : (0 : Int) ≤ (k : Int) := by omega
      have k1 : (k : Int) < (L : Int) := by omega
      obtain ⟨b, o, rfl, cb⟩ := HC.out k hkL
      have HT := Lib.hid (HPP.out k hkL m)
      obtain ⟨x, hx⟩ : ∃ x, nth l k = x := ⟨_, rfl⟩
      have HX : Hid (nth l k = x) := hx
      rw [hx] at cb HT
      clear hx
      cases hPx : P x
      · have HT2 : Hid (Calls Try.prog kf (#[.int .i64 x] ++ cap) (w.drewN m) fun e w' => e = .returned (.bool false) ∧ ∃ q, w' = (w.drewN m).drewN q) := by have := HT.out; unfold TestAt at this; rw [hPx] at this; exact this
        have HPX : Hid (P x = false) := hPx
        clear HT hPx
        go_wp2_with fail
        refine HT2.out.mono ?_
        rintro e W2 ⟨rfl, q, rfl⟩
        go_wp2
        go_roundw
        case rel => exact ⟨k + 1, m + q, by go_num, by omega, fun j hj => by
          by_cases e : j = k
          · subst e; rw [HX.out]; exact HPX.out
          · exact HNO.out j (by omega), rfl⟩
        case measure => simp [intOf]; omega
      · have HT2 : Hid (Calls Try.prog kf (#[.int .i64 x] ++ cap) (w.drewN m) fun e w' => e = .returned (.bool true) ∧ ∃ q, w' = (w.drewN m).drewN q) := by have := HT.out; unfold TestAt at this; rw [hPx] at this; exact this
        have HPX : Hid (P x = true) := hPx
        clear HT hPx
        go_wp2_with fail
        refine HT2.out.mono ?_
        rintro e W2 ⟨rfl, q, rfl⟩
        go_wp2
        go_ret
        exact ⟨⟨_, rfl, .inr ⟨k, rfl, by rw [HL.out]; exact hkL, by rw [HX.out]; exact HPX.out, HNO.out⟩⟩, m + q, rfl⟩
    · have k1 : ¬ (k : Int) < (L : Int) := by omega
      have HK : Hid (k = L) := by show _ = _; omega
      clear hkL
      go_wp2
      go_ret
      exact ⟨⟨_, rfl, .inl ⟨rfl, fun j hj => HNO.out j (by rw [HK.out, ← HL.out]; exact hj)⟩⟩, m, rfl⟩
set_option maxRecDepth 100000 in
theorem containsF_any (a : Option Addr) (c : Nat) (l : List Int) (kf : Nat) (cap : Array Value) (P : Int → Bool) (w : World) (hl : l.length ≤ 1048576) (hc : ∀ k, k < l.length → ∃ b o, a = some ⟨b, o, none⟩ ∧ w.cell? ⟨b, o + k, none⟩ = some (.int .i64 (nth l k)))
    (hp : ∀ k, k < l.length → ∀ q, TestAt kf cap P (nth l k) (w.drewN q)) (heg : ∀ args w, (callFunc kf args).run Try.prog w = .ok (.enter kf args) w) :
    Calls Try.prog 69 #[.slice a l.length c, .func (.func kf) #[] cap] w fun e w' => e = .returned (.bool (l.any P)) ∧ ∃ q, w' = w.drewN q := by
  have HC := Lib.hid (indexF_any a c l kf cap P w hl hc hp heg)
  clear hc hp
  go_enter Try.func69, Try.ntmps69
  go_wp2_with fail
  refine HC.out.mono ?_
  rintro e W2 ⟨⟨r, rfl, hr⟩, q, rfl⟩
  have HA := Lib.hid hr.any
  clear hr HC
  by_cases h : 0 ≤ r
  · have h2 : r ≥ 0 := h
    go_wp2
    go_ret
    exact ⟨ret_bool (by rw [← HA.out, decide_eq_true h]), q, rfl⟩
  · have h2 : ¬ r ≥ 0 := h
    go_wp2
    go_ret
    exact ⟨ret_bool (by rw [← HA.out]), q, rfl⟩
end Go.Proofs.Ytcjeededlhdcbaa
