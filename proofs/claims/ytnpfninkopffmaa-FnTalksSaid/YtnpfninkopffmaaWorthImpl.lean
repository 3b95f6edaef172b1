
/- WorthTalks, the program: its contract. Conditions: valid talks and worths. -/
import Derived.Test.YtnpfninkopffmaaWorthSpec
import Derived.Test.YtnpfninkopffmaaOwnInt
import Derived.Test.YtnpfninkopffmaaAppendLies
import Derived.Test.YtnpfninkopffmaaNone
import Derived.Test.YtnpfninkopffmaaShelf
import Derived.StillTailTactics
namespace Go.Proofs.Ytnpfninkopffmaa
open Go.RowKit Go.BigFrame
set_option linter.unusedVariables false
set_option linter.unusedSimpArgs false
attribute [local go_sem] Oper.semAt_some

/-- The rows of who meets whom, made so far. -/
def metL (xs : List Int) (n i k : Nat) : List Int := (List.range n).map fun (j : Nat) => if j < i then (metTo xs j j : Int) else if j = i then (metTo xs i k : Int) else 0
theorem metL_length (xs : List Int) (n i k : Nat) : (metL xs n i k).length = n := by simp [metL]
theorem metL_get (xs : List Int) (n i k j : Nat) (h : j < n) : nth (metL xs n i k) j = if j < i then (metTo xs j j : Int) else if j = i then (metTo xs i k : Int) else 0 := by
  rw [nth_eq (by rw [metL_length]; exact h)]; simp [metL]
theorem metL_zero (xs : List Int) (n : Nat) : metL xs n 0 0 = List.replicate n 0 := by
  apply List.ext_getElem
  · simp [metL]
  · intro j h1 h2; simp [metL, metTo]
theorem metL_next (xs : List Int) (n i : Nat) : metL xs n i i = metL xs n (i + 1) 0 := by
  unfold metL
  apply List.map_congr_left
  intro j _
  by_cases h1 : j < i
  · simp [h1, show j < i + 1 from by omega]
  · by_cases h2 : j = i
    · subst h2; simp
    · by_cases h3 : j = i + 1
      · subst h3; rw [if_neg (by omega), if_neg (by omega), if_neg (by omega), if_pos rfl]; rfl
      · simp [h1, h2, h3, show ¬ j < i + 1 from by omega]
theorem metL_set (xs : List Int) (n i k : Nat) (hi : i < n) (y : Nat) (hy : metTo xs i (k + 1) = y) : (metL xs n i k).set i (y : Int) = metL xs n i (k + 1) := by
  apply List.ext_getElem
  · simp [metL]
  · intro j h1 h2
    rw [List.getElem_set]
    simp only [metL, List.getElem_map, List.getElem_range]
    by_cases h : i = j
    · subst h; simp [hy]
    · simp [h, show ¬ j = i from fun e => h e.symm]
theorem metL_skip (xs : List Int) (n i k : Nat) (h : metTo xs i (k + 1) = metTo xs i k) : metL xs n i (k + 1) = metL xs n i k := by unfold metL; rw [h]
/-- The worths of sets told so far. -/
def wInt (xs ws : List Int) (n s : Nat) : Int := match wVal xs ws n s with | some q => q | none => -1
def valL (xs ws : List Int) (n P m : Nat) : List Int := (List.range P).map fun (j : Nat) => if j ≤ m then wInt xs ws n j else 0
theorem valL_length (xs ws : List Int) (n P m : Nat) : (valL xs ws n P m).length = P := by simp [valL]
theorem valL_get (xs ws : List Int) (n P m j : Nat) (h : j < P) : nth (valL xs ws n P m) j = if j ≤ m then wInt xs ws n j else 0 := by
  rw [nth_eq (by rw [valL_length]; exact h)]; simp [valL]
theorem valL_zero (xs ws : List Int) (n P : Nat) : valL xs ws n P 0 = List.replicate P 0 := by
  apply List.ext_getElem
  · simp [valL]
  · intro j h1 h2
    simp only [valL, List.getElem_map, List.getElem_range, List.getElem_replicate]
    split
    · rename_i h
      have : j = 0 := by omega
      subst this
      unfold wInt; rw [wVal_zero]
    · rfl
theorem valL_set (xs ws : List Int) (n P m : Nat) (y : Int) (hy : wInt xs ws n (m + 1) = y) : (valL xs ws n P m).set (m + 1) y = valL xs ws n P (m + 1) := by
  apply List.ext_getElem
  · simp [valL]
  · intro j h1 h2
    rw [List.getElem_set]
    simp only [valL, List.getElem_map, List.getElem_range]
    by_cases h : m + 1 = j
    · subst h; simp [hy]
    · by_cases h3 : j ≤ m
      · simp [h, h3, show j ≤ m + 1 from by omega]
      · simp [h, h3, show ¬ j ≤ m + 1 from by omega]

theorem bits_or16 (x p : Nat) (hx : x < 2 ^ 16) (hp : p < 2 ^ 16) : bits .or .i64 (x : Int) (p : Int) = ((x ||| p : Nat) : Int) :=
  (bits_nat .i64 16 (by decide) (fun m h0 h1 => IntWalk.i64_in m (by omega)) x p hx hp).2
theorem bits_and16 (x p : Nat) (hx : x < 2 ^ 16) (hp : p < 2 ^ 16) : bits .and .i64 (x : Int) (p : Int) = ((x &&& p : Nat) : Int) :=
  (bits_nat .i64 16 (by decide) (fun m h0 h1 => IntWalk.i64_in m (by omega)) x p hx hp).1

set_option maxRecDepth 100000 in
set_option maxHeartbeats 4000000 in
theorem implWorth_yes (n : Nat) (v u : Value) (xs ws : List Int) (w : World) (hv : Ints w v xs) (hu : Ints w u ws) (hok : talksOk xs = true) (hn1 : 1 ≤ n) (hn : n ≤ 16) (hx : xs.length = 2 * n) (hwm : many ws n n 0 1000 = true) (hwl : ws.length = n) (hws : ∀ k, k < n → 0 ≤ nth ws k ∧ nth ws k ≤ 1000) :
    Calls Try.prog 27 #[v, u] w fun e w' => (∃ v', e = .returned (.tuple #[v', .int .i64 (bestTo xs ws n (2 ^ n - 1)).2, .bool true]) ∧ OwnI w' w.heap.size v' (talksOf (bestTo xs ws n (2 ^ n - 1)).1 n)) ∧ Below w.heap.size w w' := by
  have ht := implTalks_any v xs w hv
  rw [hok] at ht
  have HT := Lib.hid ht
  have HAM : Hid (∀ W, Below w.heap.size w W → Calls Try.prog 73 #[u, .int .i64 n, .int .i64 n, .int .i64 0, .int .i64 1000] W fun e w' => e = .returned (.bool true) ∧ W = w') := fun W hW => by
    have := areMany_any u ws (n : Int) (n : Int) 0 1000 W (hu.below hW (Nat.le_refl _))
    rw [hwm] at this
    exact this
  have HM : Hid (∀ W i k (p q : Int), Below w.heap.size w W → i < n → k < n → p = i → q = k → Calls Try.prog 64 #[v, .int .i64 p, .int .i64 q] W fun e w' => e = .returned (.bool (meetB xs i k)) ∧ ∃ q, w' = W.drewN q) := fun W i k p q hW hi hk hp hq => meet_any v xs i k W (hv.below hW (Nat.le_refl _)) (by omega) (by omega) (by omega) p q hp hq
  have HU : Hid (∀ W, Below w.heap.size w W → Ints W u ws) := fun W hW => hu.below hW (Nat.le_refl _)
  obtain ⟨hm, a, c, rfl, hcap, hc⟩ := hv
  obtain ⟨hm', a', c', rfl, hcap', hc'⟩ := hu
  obtain ⟨i0, hi, hz0, hz1, hz2⟩ := info_parts info_i64
  obtain ⟨ig, gi, gz0, gz1, gz2⟩ := info_parts info_gint
  have HWS := Lib.hid hws
  obtain ⟨M, hM⟩ : ∃ M, 2 ^ n = M + 1 := ⟨2 ^ n - 1, by have := Nat.one_le_two_pow (n := n); omega⟩
  have hM16 : M < 2 ^ 16 := by have : 2 ^ n ≤ 2 ^ 16 := Nat.pow_le_pow_right (by decide) hn; omega
  have h16 : (2 : Nat) ^ 16 = 65536 := by decide
  have hM2 : M < 65536 := by omega
  have hPI : (2 : Int) ^ n = ((M + 1 : Nat) : Int) := by rw [← hM]; simp
  obtain ⟨P, hP⟩ : ∃ P : Nat, M + 1 = P := ⟨_, rfl⟩
  rw [hP] at hPI
  have hME : 2 ^ n - 1 = M := by omega
  rw [hME]
  have w1 : IntKind.i64.wrap (P : Int) = P := IntWalk.i64_in _ (by omega)
  have i4 : (n : Int) ≤ 64 := by omega
  have hP65 : P ≤ 65536 := by omega
  have HP := Lib.hid hP
  have hdiv : (xs.length : Int) / 2 = n := by omega
  have hn0 : ¬ ((n : Int) < 0) := by omega
  have hP0 : ¬ ((P : Int) < 0) := by omega
  rw [hwl] at hcap' HAM ⊢
  have HX := Lib.hid hx
  have HWL := Lib.hid hwl
  have hl64 : xs.length ≤ 64 := by omega
  clear ht hok hc hc' hm hm' hM hws hME hP hM16 h16 hx hwl hwm
  go_enter Try.func27, Try.ntmps27
  go_wp2_with (first
    | (go_at_call 29; refine HT.out.mono ?_; rintro e W1 ⟨rfl, hb1⟩; have HB1 := Lib.hid hb1; have hsz1 := hb1.size; clear hb1)
    | (go_at_call 73; refine (HAM.out _ HB1.out).mono ?_; rintro e w' ⟨rfl, rfl⟩)
    | (at_make; refine wpList_make_full _ rfl _ _ 86 rfl w.heap.size 3 ig (.int .i64 0) 1 Try.underlying86 gi gz0 gz1 _ _ _ _ n rfl rfl rfl rfl (by rw [gz2]; omega) (by unfold maxLen at *; omega) hsz1 ?_; intro w2 hown2 hgrow2; have HO2 := Lib.hid (OwnJ.made hown2); have HB2 := Lib.hid (HB1.out.grown hgrow2 hsz1 (fun k e => by cases e)); clear hown2 hgrow2))
  obtain ⟨G, hG⟩ : ∃ G, W1.heap.size = G := ⟨_, rfl⟩
  have hO2 : OwnJ w2 w.heap.size (.slice (some ⟨G, 0, none⟩) n n) (metL xs n 0 0) := by rw [metL_zero, ← hG]; exact HO2.out
  have HM0 := Lib.hid hO2
  rw [hG]
  have hGN : w.heap.size ≤ G := by rw [← hG]; exact hsz1
  clear HO2 hO2 hG hsz1
  go_loopw [38] (fun vi wr => ∃ i : Nat, i ≤ n ∧ vi = .int .i64 i ∧ Below w.heap.size w wr ∧ OwnJ wr w.heap.size (.slice (some ⟨G, 0, none⟩) n n) (metL xs n i 0)) (fun vi _ => n - (intOf vi).toNat)
  case atStart => exact ⟨0, Nat.zero_le _, rfl, HB2.out, HM0.out⟩
  case round =>
    obtain ⟨i, hin, rfl, hB, hO⟩ := hrel
    obtain ⟨wr', rfl⟩ : ∃ wr' : World, wr' = wr := ⟨_, rfl⟩
    have HB := Lib.hid hB
    have HO := Lib.hid hO
    clear hB hO HM0 HB2
    by_cases hlt : i < n
    · have j0 : (0 : Int) ≤ (i : Int) := by omega
      have j1 : (i : Int) < (n : Int) := by omega
      go_wp2
      go_loopw [42] (fun vk wk => ∃ k : Nat, k ≤ i ∧ vk = .int .i64 k ∧ Below w.heap.size w wk ∧ OwnJ wk w.heap.size (.slice (some ⟨G, 0, none⟩) n n) (metL xs n i k)) (fun vk _ => i - (intOf vk).toNat)
      case atStart => exact ⟨0, Nat.zero_le _, rfl, HB.out, HO.out⟩
      case round =>
        obtain ⟨k, hki, rfl, hBk, hOk⟩ := hrel
        obtain ⟨wk, rfl⟩ : ∃ wk : World, wk = wr := ⟨_, rfl⟩
        have HBK := Lib.hid hBk
        have HOK := Lib.hid hOk
        clear hBk hOk
        by_cases hlk : k < i
        · have hcall := HM.out wk i k i k HBK.out hlt (by omega) rfl rfl
          have hsc := metTo_succ xs i k
          cases hmt : meetB xs i k
          · rw [hmt] at hcall hsc
            simp only [Bool.false_eq_true, if_false] at hsc
            have HSC := Lib.hid (metL_skip xs n i k hsc)
            have HC := Lib.hid hcall
            clear hcall hsc hmt
            go_wp2_with (go_at_call 64; refine HC.out.mono ?_; rintro e w' ⟨rfl, qq, rfl⟩)
            go_roundw
            case rel => exact ⟨k + 1, by omega, by go_num, below_drewN qq HBK.out, by rw [HSC.out]; exact HOK.out.drewN qq⟩
            case measure => simp [intOf]; omega
          · rw [hmt] at hcall hsc
            simp only [if_true] at hsc
            obtain ⟨A, hA⟩ : ∃ A, metTo xs i k = A := ⟨_, rfl⟩
            obtain ⟨Q, hQ⟩ : ∃ Q, 2 ^ k = Q := ⟨_, rfl⟩
            have hA16 : A < 2 ^ 16 := by rw [← hA]; exact metTo_lt xs i k (by omega)
            have hQ16 : Q < 2 ^ 16 := by rw [← hQ]; exact Nat.pow_lt_pow_right (by decide) (by omega)
            have hQI : (2 : Int) ^ k = (Q : Int) := by rw [← hQ]; simp
            have hor := bits_or16 A Q hA16 hQ16
            rw [hA, hQ] at hsc
            obtain ⟨A2, hA2⟩ : ∃ A2, (A ||| Q) = A2 := ⟨_, rfl⟩
            rw [hA2] at hor hsc
            have hset := metL_set xs n i k hlt A2 hsc
            have hat := HOK.out.at_ (by rw [metL_length]) i (by rw [metL_length]; exact hlt)
            rw [metL_get _ _ _ _ _ hlt, if_neg (by omega), if_pos rfl, hA] at hat
            have HST : Hid (∀ q, (wk.drewN q).frozen? ⟨G, i, none⟩ = false ∧ OwnJ ((wk.drewN q).setCell ⟨G, i, none⟩ (.int .i64 A2)) w.heap.size (.slice (some ⟨G, 0, none⟩) n n) (metL xs n i (k + 1))) := fun q => by
              obtain ⟨s1, s2, s3, _⟩ := (HOK.out.drewN q).store (by rw [metL_length]) i (by rw [metL_length]; exact hlt) (A2 : Int)
              rw [hset] at s3
              exact ⟨s2, s3⟩
            have HAT := Lib.hid hat
            have HC := Lib.hid hcall
            have wQ : IntKind.i64.wrap (Q : Int) = Q := IntWalk.i64_in _ (by have : (2 : Nat) ^ 16 = 65536 := (by decide); omega)
            have k2 : (k : Int) ≤ 64 := by omega
            clear hcall hsc hmt hA hQ hA2 hset hA16 hQ16 hat
            go_wp2_with (go_at_call 64; refine HC.out.mono ?_; rintro e w' ⟨rfl, hqq⟩; have HQQ := Lib.hid hqq; have hat' : w'.cell? ⟨G, i, none⟩ = some (.int .i64 A) := (by obtain ⟨qq, rfl⟩ := hqq; exact HAT.out); have hfz' : w'.frozen? ⟨G, i, none⟩ = false := (by obtain ⟨qq, rfl⟩ := hqq; exact (HST.out qq).1); clear hqq)
            go_still_tail 8, (by kernel_rfl)
            go_wp2
            go_roundw
            case rel =>
              obtain ⟨qq, rfl⟩ := HQQ.out
              exact ⟨k + 1, by omega, by go_num, ((below_drewN qq HBK.out).setCell (p := ⟨G, i, none⟩) hGN _).drew, (HST.out qq).2.drew⟩
            case measure => simp [intOf]; omega
        · obtain rfl : i = k := by omega
          have HNX := Lib.hid (metL_next xs n i)
          clear hlk
          go_wp2
          go_roundw
          case rel => exact ⟨i + 1, by omega, by go_num, HBK.out, by rw [← HNX.out]; exact HOK.out⟩
          case measure => simp [intOf]; omega
    · obtain rfl : n = i := by omega
      have hsz2 := HB.out.size
      clear hlt
      go_wp2_with (at_make; refine wpList_make_full _ rfl _ _ 29 rfl w.heap.size 2 i0 (.int .i64 0) 1 Try.underlying29 hi hz0 hz1 _ _ _ _ P rfl rfl rfl rfl (by rw [hz2]; omega) (by unfold maxLen at *; omega) hsz2 ?_; intro w3 hown3 hgrow3; have HO3 := Lib.hid (made_replicate hown3); have HB3 := Lib.hid (HB.out.grown hgrow3 hsz2 (fun k e => by cases e)); have HM3 := Lib.hid (HO.out.kept hgrow3 (.inr (by rw [ownBlock_slice]; simp))); clear hown3 hgrow3)
      obtain ⟨H, hH⟩ : ∃ H, wr'.heap.size = H := ⟨_, rfl⟩
      have hGH : G < H := by rw [← hH]; exact (HO.out.lt G rfl).2
      have hO3 : OwnI w3 w.heap.size (.slice (some ⟨H, 0, none⟩) P P) (valL xs ws n P 0) := by rw [valL_zero, ← hH]; exact HO3.out
      have HV0 := Lib.hid hO3
      rw [hH]
      clear HO3 hO3 hH hsz2
      go_loopw [12, 13] (fun vb vs wr => ∃ s b q, s ≤ M ∧ vs = .int .i64 ↑(s + 1) ∧ vb = .int .i64 (b : Nat) ∧ Hid (bestTo xs ws n s = (b, q)) ∧ Below w.heap.size w wr ∧ OwnJ wr w.heap.size (.slice (some ⟨G, 0, none⟩) n n) (metL xs n n 0) ∧ OwnI wr w.heap.size (.slice (some ⟨H, 0, none⟩) P P) (valL xs ws n P s)) (fun _ vs _ => M + 1 - (intOf vs).toNat)
      case atStart => exact ⟨0, 0, 0, Nat.zero_le _, rfl, rfl, rfl, HB3.out, HM3.out, HV0.out⟩
      case round =>
        obtain ⟨s, b, q, hsM, rfl, rfl, hbest, hBs, hMs, hVs⟩ := hrel
        obtain ⟨ws', rfl⟩ : ∃ ws' : World, ws' = wr := ⟨_, rfl⟩
        have HBS := Lib.hid hBs
        have HMS := Lib.hid hMs
        have HVS := Lib.hid hVs
        have HBEST := Lib.hid hbest.out
        have hbv := bestTo_val xs ws n s
        rw [hbest.out] at hbv
        have hqb := wPre_bounds n q HWS.out hbv.1
        have hbs : b ≤ s := hbv.2
        have hbI : wInt xs ws n b = q := by unfold wInt; rw [hbv.1]
        have HBI := Lib.hid hbI
        have hb0 : (0 : Int) ≤ (b : Int) := by omega
        clear hBs hMs hVs hbest hbv hbI HV0 HM3 HB3 HO HB
        by_cases hlt : s < M
        · have hs16 : s + 1 < 2 ^ 16 := by have : (2 : Nat) ^ 16 = 65536 := (by decide); omega
          have c1 : ((s + 1 : Nat) : Int) < (P : Int) := by have := HP.out; omega
          have c0 : (0 : Int) ≤ ((s + 1 : Nat) : Int) := by omega
          have hsP : ((s + 1 : Nat) : Int) ≤ 65536 := by omega
          obtain ⟨l, hl1, hl2, hl3, hl4⟩ := bitLen_last (s + 1) (by omega) hs16
          have hln : l < n := by
            by_cases h : l < n
            · exact h
            · exfalso
              have h1 : 2 ^ n ≤ 2 ^ l := Nat.pow_le_pow_right (by decide) (by omega)
              have h2 : (2 : Int) ^ n = ((2 ^ n : Nat) : Int) := by simp
              have := HP.out
              omega
          have hval := wVal_last (xs := xs) (ws := ws) hln hl3 hl4
          have hanot := bits_andNot_last (s + 1) l hl3 hl4 hl2
          obtain ⟨R, hR⟩ : ∃ R, s + 1 - 2 ^ l = R := ⟨_, rfl⟩
          have hRs : R ≤ s := by have := Nat.one_le_two_pow (n := l); omega
          rw [hR] at hval hanot
          obtain ⟨Q, hQ⟩ : ∃ Q, 2 ^ l = Q := ⟨_, rfl⟩
          have hQI : (2 : Int) ^ l = (Q : Int) := by rw [← hQ]; simp
          have hQ16 : Q ≤ 65536 := by omega
          rw [hQ] at hanot
          have wQ : IntKind.i64.wrap (Q : Int) = Q := IntWalk.i64_in _ (by omega)
          have hblen := Try.bits_Len ((s + 1 : Nat) : Int) ws' c0 (by omega)
          rw [Int.toNat_natCast, hl1] at hblen
          have hbit0 := bits_and16 (metTo xs l l) R (metTo_lt xs l l (by omega)) (by omega)
          have hmet := met_and xs l R
          obtain ⟨A, hA⟩ : ∃ A, metTo xs l l = A := ⟨_, rfl⟩
          rw [hA] at hbit0 hmet
          have e1 := HVS.out.at_ (by rw [valL_length]) R (by rw [valL_length]; have := HP.out; omega)
          rw [valL_get _ _ _ _ _ _ (by have := HP.out; omega), if_pos hRs] at e1
          have e2 := HMS.out.at_ (by rw [metL_length]) l (by rw [metL_length]; exact hln)
          rw [metL_get _ _ _ _ _ hln, if_pos hln, hA] at e2
          have hset : ∀ y, wInt xs ws n (s + 1) = y → (valL xs ws n P s).set (s + 1) y = valL xs ws n P (s + 1) := fun y hy => valL_set xs ws n P s y hy
          obtain ⟨S, hS⟩ : ∃ S, s + 1 = S := ⟨_, rfl⟩
          rw [hS] at hs16 c1 c0 hsP hanot hblen hval hset ⊢
          have HSI : Hid ((S : Int) + 1 = ((s + 1 + 1 : Nat) : Int)) := by show _ = _; rw [← hS]; omega
          have wS : IntKind.u64.wrap (S : Int) = S := by rw [show IntKind.u64.wrap (S : Int) = (S : Int) % 18446744073709551616 by simp [IntKind.wrap, IntKind.bits, IntKind.signed]]; omega
          have HSS := Lib.hid hS
          have HBL := Lib.hid hblen
          have r0 : (0 : Int) ≤ (R : Int) := by omega
          have r1 : (R : Int) < (P : Int) := by omega
          have l0 : (0 : Int) ≤ (l : Int) := by omega
          have l1 : (l : Int) < (n : Int) := by omega
          have l2 : (l : Int) ≤ 64 := by omega
          have hSP : S < P := by omega
          have hfz := (HVS.out.store (by rw [valL_length]) S (by rw [valL_length]; exact hSP) 0).2.1
          have hcS := HVS.out.at_ (by rw [valL_length]) S (by rw [valL_length]; exact hSP)
          have HSET := Lib.hid hset
          have HVAL := Lib.hid hval
          clear hl1 hl2 hl3 hl4 hval hR hQ hblen hA hset hS
          have hHN : w.heap.size ≤ H := by omega
          have HNO : Hid (wVal xs ws n S = none → bestTo xs ws n (s + 1) = (b, q) ∧ Below w.heap.size w (ws'.setCell ⟨H, S, none⟩ (.int .i64 (-1))) ∧ OwnJ (ws'.setCell ⟨H, S, none⟩ (.int .i64 (-1))) w.heap.size (.slice (some ⟨G, 0, none⟩) n n) (metL xs n n 0) ∧ OwnI (ws'.setCell ⟨H, S, none⟩ (.int .i64 (-1))) w.heap.size (.slice (some ⟨H, 0, none⟩) P P) (valL xs ws n P (s + 1))) := fun hno => by
            have hno' : wVal xs ws n (s + 1) = none := by rw [HSS.out]; exact hno
            have hy : wInt xs ws n S = -1 := by unfold wInt; rw [hno]
            refine ⟨by rw [bestTo_none hno', HBEST.out], HBS.out.setCell hHN _, HMS.out.setCell _ (by rw [ownBlock_slice]; intro e; injection e with e; have e2 : G = H := e; omega), ?_⟩
            have h1 := (HVS.out.store (by rw [valL_length]) S (by rw [valL_length]; exact hSP) (-1)).2.2.1
            rw [HSET.out _ hy] at h1
            rw [HSS.out]; exact h1
          cases hwr : wVal xs ws n R with
          | none =>
            have e3 : wInt xs ws n R = -1 := by unfold wInt; rw [hwr]
            have HN := Lib.hid (HNO.out (by rw [HVAL.out, hwr]))
            rw [e3] at e1
            clear e3 hwr hmet hbit0
            go_wp2_with (go_at_call 74; refine HBL.out.mono ?_; rintro e w' ⟨rfl, hw⟩; obtain rfl : ws' = w' := hw.symm)
            go_roundw
            case rel => exact ⟨s + 1, b, q, by omega, val_int HSI.out, rfl, HN.out.1, HN.out.2.1, HN.out.2.2.1, HN.out.2.2.2⟩
            case measure => have := HSS.out; simp [intOf]; omega
          | some qr =>
            have e3 : wInt xs ws n R = qr := by unfold wInt; rw [hwr]
            have hqr := wPre_bounds n qr HWS.out hwr
            have hval2 := HVAL.out
            rw [hwr] at hval2
            simp only [] at hval2
            obtain ⟨Z, hZ⟩ : ∃ Z, A &&& R = Z := ⟨_, rfl⟩
            rw [hZ] at hmet hbit0
            rw [e3] at e1
            cases hcl : clashIn xs R l l
            · rw [hcl] at hmet hval2
              simp only [Bool.not_false, Bool.false_eq_true, if_false] at hmet hval2
              obtain rfl : Z = 0 := by simpa using hmet
              obtain ⟨_, a2, c2, hsl, _, hcell⟩ := HU.out ws' HBS.out
              obtain ⟨bo, oo, ha2, _, e5⟩ := hcell l (by rw [HWL.out]; exact hln)
              obtain ⟨rfl, rfl⟩ : a' = a2 ∧ c' = c2 := by simpa using hsl
              subst ha2
              rw [← nth_eq] at e5
              obtain ⟨x1, x2⟩ := HWS.out l hln
              obtain ⟨x, hx⟩ : ∃ x, nth ws l = x := ⟨_, rfl⟩
              rw [hx] at e5 x1 x2 hval2
              have hyS : wInt xs ws n S = qr + x := by unfold wInt; rw [hval2]
              have hstore := HVS.out.store (by rw [valL_length]) S (by rw [valL_length]; exact hSP) (qr + x)
              have HV2 : Hid (OwnI (ws'.setCell ⟨H, S, none⟩ (.int .i64 (qr + x))) w.heap.size (.slice (some ⟨H, 0, none⟩) P P) (valL xs ws n P (s + 1))) := by
                have h1 := hstore.2.2.1
                rw [HSET.out _ hyS] at h1
                show OwnI _ _ _ _
                rw [HSS.out]; exact h1
              have HM2 : Hid (OwnJ (ws'.setCell ⟨H, S, none⟩ (.int .i64 (qr + x))) w.heap.size (.slice (some ⟨G, 0, none⟩) n n) (metL xs n n 0)) := HMS.out.setCell _ (by rw [ownBlock_slice]; intro e; injection e with e; have e2 : G = H := e; omega)
              have HB2 : Hid (Below w.heap.size w (ws'.setCell ⟨H, S, none⟩ (.int .i64 (qr + x)))) := HBS.out.setCell hHN _
              have hbs2 := bestTo_some (xs := xs) (ws := ws) (n := n) (m := s) (q := qr + x) (by rw [HSS.out]; exact hval2)
              rw [HBEST.out] at hbs2
              have HBS2 := Lib.hid hbs2
              have wx : IntKind.i64.wrap (qr + x) = qr + x := IntWalk.i64_in _ (by omega)
              have hbP0 : b < P := by have := HSS.out; omega
              have FB : Hid ((ws'.setCell ⟨H, S, none⟩ (.int .i64 (qr + x))).cell? ⟨H, b, none⟩ = some (.int .i64 q) ∧ (ws'.setCell ⟨H, S, none⟩ (.int .i64 (qr + x))).cell? ⟨H, S, none⟩ = some (.int .i64 (qr + x))) := by
                have h1 := HV2.out.at_ (by rw [valL_length]) b (by rw [valL_length]; omega)
                rw [valL_get _ _ _ _ _ _ (by omega), if_pos (by omega), HBI.out] at h1
                have h2 := HV2.out.at_ (by rw [valL_length]) S (by rw [valL_length]; omega)
                rw [valL_get _ _ _ _ _ _ (by omega), if_pos (by have := HSS.out; omega), hyS] at h2
                exact ⟨h1, h2⟩
              have hbP : (b : Int) < (P : Int) := by omega
              clear e3 hwr hmet hval2 hZ hcl hcell hsl hx hyS hstore hbs2
              go_wp2_with (go_at_call 74; refine HBL.out.mono ?_; rintro e w' ⟨rfl, hw⟩; obtain rfl : ws' = w' := hw.symm)
              go_still_tail 12, (by kernel_rfl)
              go_wp2_with fail
              obtain ⟨U, hU⟩ : ∃ U, ws'.setCell ⟨H, S, none⟩ (.int .i64 (qr + x)) = U := ⟨_, rfl⟩
              rw [hU]
              obtain ⟨f1, f2⟩ := FB.out
              rw [hU] at f1 f2 HV2 HM2 HB2
              clear hU e1 e2 e5 hcS hfz
              go_quiet (fail)
              by_cases hgt : q < qr + x
              · have HN : Hid (bestTo xs ws n (s + 1) = (S, qr + x)) := by show _ = _; rw [HBS2.out, if_pos hgt, HSS.out]
                go_wp2
                go_roundw
                case rel => exact ⟨s + 1, S, qr + x, by omega, val_int HSI.out, rfl, HN.out, below_drewN _ HB2.out, HM2.out.drewN _, HV2.out.drewN _⟩
                case measure => have := HSS.out; simp [intOf]; omega
              · have HN : Hid (bestTo xs ws n (s + 1) = (b, q)) := by show _ = _; rw [HBS2.out, if_neg hgt]
                go_wp2
                go_roundw
                case rel => exact ⟨s + 1, b, q, by omega, val_int HSI.out, rfl, HN.out, below_drewN _ HB2.out, HM2.out.drewN _, HV2.out.drewN _⟩
                case measure => have := HSS.out; simp [intOf]; omega
            · rw [hcl] at hmet hval2
              simp only [Bool.not_true, if_true] at hmet hval2
              have hz : ((Z : Int) != 0) = true := by rw [bne_iff_ne]; intro h; have h0 : Z = 0 := (by omega); rw [h0] at hmet; cases hmet
              have HN := Lib.hid (HNO.out hval2)
              clear e3 hwr hmet hval2 hZ hcl
              go_wp2_with (go_at_call 74; refine HBL.out.mono ?_; rintro e w' ⟨rfl, hw⟩; obtain rfl : ws' = w' := hw.symm)
              go_roundw
              case rel => exact ⟨s + 1, b, q, by omega, val_int HSI.out, rfl, HN.out.1, HN.out.2.1, HN.out.2.2.1, HN.out.2.2.2⟩
              case measure => have := HSS.out; simp [intOf]; omega
        · obtain rfl : s = M := by omega
          have hb16 : b < 2 ^ 16 := by have : (2 : Nat) ^ 16 = 65536 := (by decide); omega
          have hPc : ((s + 1 : Nat) : Int) = (P : Int) := by have := HP.out; omega
          have hbP : b < P := by have := HP.out; omega
          have hbP2 : (b : Int) < (P : Int) := by omega
          rw [hPc]
          clear hPc hlt
          go_wp2
          have hws := HBS.out.size
          have HA0 : Hid (OwnI (ws'.alloc (.cells #[] 2)) w.heap.size (.slice (some ⟨ws'.heap.size, 0, none⟩) 0 0) (talksOf b 0)) := OwnI.lit ws' w.heap.size [] hws (Nat.zero_le _)
          have HB3 := Lib.hid (HBS.out.alloc hws (.cells #[] 2))
          have HH := (HVS.out.lt H rfl).2
          have HVA := Lib.hid (HVS.out.alloc (.cells #[] 2))
          go_loopw [16, 117] (fun vo vi wk => ∃ (i g c : Nat), i ≤ n ∧ vi = .int .i64 i ∧ vo = .slice (some ⟨g, 0, none⟩) (talksOf b i).length c ∧ H ≠ g ∧ OwnI wk w.heap.size (.slice (some ⟨g, 0, none⟩) (talksOf b i).length c) (talksOf b i) ∧ Below w.heap.size w wk ∧ OwnI wk w.heap.size (.slice (some ⟨H, 0, none⟩) P P) (valL xs ws n P s)) (fun _ vi _ => n - (intOf vi).toNat)
          case atStart => exact ⟨0, ws'.heap.size, 0, Nat.zero_le _, rfl, rfl, by omega, HA0.out, HB3.out, HVA.out⟩
          case round =>
            obtain ⟨i, g, cg, hin, rfl, rfl, hHg, hok, hBk, hVk⟩ := hrel
            obtain ⟨wk, rfl⟩ : ∃ wk : World, wk = wr := ⟨_, rfl⟩
            have HOK := Lib.hid hok
            have HBK := Lib.hid hBk
            have HVK := Lib.hid hVk
            have hwk := hBk.size
            have htl := talksOf_len b i
            clear hok hBk HA0 HB3 hVk HVA
            by_cases hlti : i < n
            · have hbit := bit_of16 b i hb16
              have hsc := talksOf_succ b i
              have i0 : (0 : Int) ≤ (i : Int) := by omega
              have i2 : (i : Int) ≤ 64 := by omega
              cases hb : b.testBit i
              · rw [hb] at hbit hsc
                simp only [Bool.false_eq_true, if_false, List.append_nil] at hbit hsc
                have HSC := Lib.hid hsc
                clear hb hsc
                go_wp2
                go_roundw
                case rel => exact ⟨i + 1, g, cg, by omega, by go_num, by rw [HSC.out], hHg, by rw [HSC.out]; exact HOK.out, HBK.out, HVK.out⟩
                case measure => simp [intOf]; omega
              · rw [hb] at hbit hsc
                simp only [if_true] at hbit hsc
                have HSC := Lib.hid hsc
                clear hb hsc
                go_wp2_with (at_builtin; refine append_i64L rfl _ _ rfl w.heap.size (.slice (some ⟨g, 0, none⟩) (talksOf b i).length cg) (talksOf b i) [(i : Int)] (by simp) rfl _ rfl HOK.out hwk (by simp; omega) ?_; intro g1 c1 w3 ho3 hg3 hlie; have hb3 := Below.app HBK.out HOK.out hg3 hwk; have HO3 := Lib.hid ho3; have HB3 := Lib.hid hb3; have HV3 := Lib.hid (HVK.out.kept hg3 (.inr (by rw [ownBlock_slice, ownBlock_slice]; intro e; injection e with e; exact hHg e))); have HLT := (HVK.out.lt H rfl).2; have hHg1 : H ≠ g1 := (by rcases hlie with h | h; rw [ownBlock_slice] at h; injection h with h; omega; omega); clear ho3 hb3 hg3 hlie)
                go_roundw
                case rel => exact ⟨i + 1, g1, c1, by omega, by go_num, by rw [HSC.out]; simp, hHg1, by rw [HSC.out]; simpa using HO3.out, HB3.out, HV3.out⟩
                case measure => simp [intOf]; omega
            · obtain rfl : n = i := by omega
              have hfin := HBEST.out
              have HF : Hid ((bestTo xs ws n s).1 = b ∧ (bestTo xs ws n s).2 = q) := by rw [hfin]; exact ⟨rfl, rfl⟩
              have hcb := HVK.out.at_ (by rw [valL_length]) b (by rw [valL_length]; exact hbP)
              rw [valL_get _ _ _ _ _ _ hbP, if_pos hbs, HBI.out] at hcb
              clear hfin hlti
              go_wp2
              go_quiet (fail)
              go_wp2
              go_ret3
              exact ⟨⟨_, by rw [HF.out.2]; rfl, by rw [HF.out.1]; exact HOK.out.drewN _⟩, below_drewN _ HBK.out⟩
end Go.Proofs.Ytnpfninkopffmaa
