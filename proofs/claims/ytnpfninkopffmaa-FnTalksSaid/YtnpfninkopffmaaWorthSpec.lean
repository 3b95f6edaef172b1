
/- WorthTalks, the reference: its contract. Conditions: valid talks and worths. -/
import Derived.Test.YtnpfninkopffmaaWorthPlain
import Derived.Test.YtnpfninkopffmaaAppend
import Derived.Test.YtnpfninkopffmaaCircle
namespace Go.Proofs.Ytnpfninkopffmaa
open Go.RowKit Go.BigFrame
set_option linter.unusedVariables false
set_option linter.unusedSimpArgs false
attribute [local go_sem] Oper.semAt_some

theorem bit_of16 (x k : Nat) (hx : x < 2 ^ 16) : bits .and .i64 ((x : Int) / 2 ^ k) 1 = if x.testBit k then 1 else 0 := by
  have h1 : (x : Int) / 2 ^ k = ((x / 2 ^ k : Nat) : Int) := by simp
  have h2 : x / 2 ^ k < 2 ^ 16 := Nat.lt_of_le_of_lt (Nat.div_le_self _ _) hx
  rw [h1, show (1 : Int) = ((1 : Nat) : Int) from rfl, (bits_nat .i64 16 (by decide) (fun m h0 h1 => IntWalk.i64_in m (by omega)) (x / 2 ^ k) 1 h2 (by decide)).1]
  rw [Nat.testBit_eq_decide_div_mod_eq, Nat.and_one_is_mod]
  by_cases h : x / 2 ^ k % 2 = 1
  · rw [h]; simp
  · have : x / 2 ^ k % 2 = 0 := by omega
    rw [this]; simp

def worthSt (xs ws : List Int) (n s i : Nat) (fr : Bool) (sum : Int) : Prop := (fr = true ∧ wPre xs ws s i = some sum) ∨ (fr = false ∧ wVal xs ws n s = none)

set_option maxRecDepth 100000 in
set_option maxHeartbeats 4000000 in
theorem specWorth_yes (n : Nat) (v u : Value) (xs ws : List Int) (w : World) (hv : Ints w v xs) (hu : Ints w u ws) (hwf : ∀ z ∈ xs, (Lit.int .i64 z).wf = true) (hok : talksOk xs = true) (hn1 : 1 ≤ n) (hn : n ≤ 16) (hx : xs.length = 2 * n) (hwl : ws.length = n) (hws : ∀ k, k < n → 0 ≤ nth ws k ∧ nth ws k ≤ 1000) :
    Calls Try.prog 28 #[v, u] w fun e w' => (∃ v', e = .returned (.tuple #[v', .int .i64 (bestTo xs ws n (2 ^ n - 1)).2, .bool true]) ∧ OwnI w' w.heap.size v' (talksOf (bestTo xs ws n (2 ^ n - 1)).1 n)) ∧ Below w.heap.size w w' := by
  have ht := specTalks_any v xs w hv hwf
  rw [hok] at ht
  have HT := Lib.hid ht
  have HM : Hid (∀ W i k (p q : Int), Below w.heap.size w W → i < n → k < n → p = i → q = k → Calls Try.prog 59 #[v, .int .i64 p, .int .i64 q] W fun e w' => e = .returned (.bool (meetB xs i k)) ∧ ∃ q, w' = W.drewN q) := fun W i k p q hW hi hk hp hq => l07Meet_any v xs i k W (hv.below hW (Nat.le_refl _)) (by omega) (by omega) (by omega) p q hp hq
  have HU : Hid (∀ W, Below w.heap.size w W → Ints W u ws) := fun W hW => hu.below hW (Nat.le_refl _)
  obtain ⟨hm, a, c, rfl, hcap, hc⟩ := hv
  obtain ⟨hm', a', c', rfl, hcap', hc'⟩ := hu
  have HWS := Lib.hid hws
  obtain ⟨M, hM⟩ : ∃ M, 2 ^ n = M + 1 := ⟨2 ^ n - 1, by have := Nat.one_le_two_pow (n := n); omega⟩
  have hM16 : M < 2 ^ 16 := by have : 2 ^ n ≤ 2 ^ 16 := Nat.pow_le_pow_right (by decide) hn; omega
  have h16 : (2 : Nat) ^ 16 = 65536 := by decide
  have hM2 : M < 65536 := by omega
  have hPI : (2 : Int) ^ n = ((M + 1 : Nat) : Int) := by rw [← hM]; simp
  obtain ⟨P, hP⟩ : ∃ P : Nat, M + 1 = P := ⟨_, rfl⟩
  rw [hP] at hPI
  have hME : 2 ^ n - 1 = M := by omega
  rw [hME]
  have w1 : IntKind.i64.wrap (P : Int) = P := IntWalk.i64_in _ (by omega)
  have w2 : IntKind.u64.wrap (n : Int) = n := by rw [show IntKind.u64.wrap (n : Int) = (n : Int) % 18446744073709551616 by simp [IntKind.wrap, IntKind.bits, IntKind.signed]]; omega
  have i4 : (n : Int) ≤ 64 := by omega
  have hPM : (P : Int) = (M : Int) + 1 := by omega
  have HP := Lib.hid hP
  have HPM := Lib.hid hPM
  have hne : ((xs.length : Int) != 2 * (n : Int)) = false := by simp; omega
  rw [hwl] at hcap' ⊢
  have HX := Lib.hid hx
  have HWL := Lib.hid hwl
  have hl64 : xs.length ≤ 64 := by omega
  clear ht hok hc hc' hm hm' hM hws hME hP hPM hwf hM16 h16 hx hwl
  go_enter Try.func28, Try.ntmps28
  go_wp2_with (go_at_call 55; refine HT.out.mono ?_; rintro e W1 ⟨rfl, hb1⟩; have HB1 := Lib.hid hb1; clear hb1)
  go_loopw [36] (fun vi wr => ∃ k : Nat, k ≤ n ∧ vi = .int .i64 k ∧ W1 = wr) (fun vi _ => n - (intOf vi).toNat)
  case atStart => exact ⟨0, Nat.zero_le _, rfl, rfl⟩
  case round =>
    obtain ⟨k, hk, rfl, rfl⟩ := hrel
    by_cases hlt : k < n
    · obtain ⟨_, a2, c2, hsl, _, hcell⟩ := HU.out W1 HB1.out
      obtain ⟨bo, oo, ha2, _, e0⟩ := hcell k (by rw [HWL.out]; exact hlt)
      obtain ⟨rfl, rfl⟩ : a' = a2 ∧ c' = c2 := by simpa using hsl
      subst ha2
      rw [← nth_eq] at e0
      obtain ⟨q1, q2⟩ := HWS.out k hlt
      have hin := l00In_any (nth ws k) 0 1000 W1
      rw [win_true.2 ⟨q1, q2⟩] at hin
      have HIN := Lib.hid hin
      have k0 : (0 : Int) ≤ (k : Int) := by omega
      have k1 : (k : Int) < (n : Int) := by omega
      clear hcell hsl hin
      go_wp2_with (go_at_call 54; refine HIN.out.mono ?_; rintro e w' ⟨rfl, rfl⟩)
      go_roundw
      case rel => exact ⟨k + 1, by omega, by go_num, trivial⟩
      case measure => simp [intOf]; omega
    · obtain rfl : n = k := by omega
      clear hlt
      go_wp2
      go_loopw [9, 10, 11, 12, 13, 14, 15] (fun vb vm vs _ _ _ _ wr => ∃ s b q, s ≤ M ∧ vs = .int .i64 ↑(s + 1) ∧ vb = .int .i64 (b : Nat) ∧ vm = .int .i64 q ∧ Hid (bestTo xs ws n s = (b, q)) ∧ Below w.heap.size w wr) (fun _ _ vs _ _ _ _ _ => M + 1 - (intOf vs).toNat)
      case atStart => exact ⟨0, 0, 0, Nat.zero_le _, rfl, rfl, rfl, rfl, HB1.out⟩
      case round =>
        obtain ⟨s, b, q, hsM, rfl, rfl, rfl, hbest, hB⟩ := hrel
        obtain ⟨wr', rfl⟩ : ∃ wr' : World, wr' = wr := ⟨_, rfl⟩
        have HB := Lib.hid hB
        have HBEST := Lib.hid hbest.out
        have hbv := bestTo_val xs ws n s
        rw [hbest.out] at hbv
        have hqb := wPre_bounds n q HWS.out hbv.1
        have hbs := hbv.2
        have hb0 : (0 : Int) ≤ (b : Int) := by omega
        clear hB hbest hbv
        by_cases hlt : s < M
        · have hs16 : s + 1 < 2 ^ 16 := by have : (2 : Nat) ^ 16 = 65536 := (by decide); omega
          have c1 : ((s + 1 : Nat) : Int) < (P : Int) := by have := HP.out; omega
          have c0 : (0 : Int) ≤ ((s + 1 : Nat) : Int) := by omega
          have hsP : ((s + 1 : Nat) : Int) ≤ 65536 := by omega
          obtain ⟨S, hS⟩ : ∃ S, s + 1 = S := ⟨_, rfl⟩
          rw [hS] at hs16 c1 c0 hsP ⊢
          have HS := Lib.hid hS
          clear hS
          go_wp2
          go_loopw [12, 13, 14, 15] (fun vsum vf vi _ wq => ∃ (i : Nat) (fr : Bool) (sum : Int), i ≤ n ∧ vi = .int .i64 i ∧ vf = .bool fr ∧ vsum = .int .i64 sum ∧ Hid (worthSt xs ws n S i fr sum) ∧ Below w.heap.size w wq) (fun _ _ vi _ _ => n - (intOf vi).toNat)
          case atStart => exact ⟨0, true, 0, Nat.zero_le _, rfl, rfl, rfl, .inl ⟨rfl, rfl⟩, HB.out⟩
          case round =>
            obtain ⟨i, fr, sum, hin, rfl, rfl, rfl, hst, hBq⟩ := hrel
            obtain ⟨wq, rfl⟩ : ∃ wq : World, wq = wr := ⟨_, rfl⟩
            have HBQ := Lib.hid hBq
            clear hBq
            by_cases hgo : i < n ∧ fr = true
            · obtain ⟨hlti, rfl⟩ := hgo
              have hpre : wPre xs ws S i = some sum := by rcases hst.out with ⟨_, h⟩ | ⟨h, _⟩; exact h; cases h
              have hsb := wPre_bounds i sum (fun k hk => HWS.out k (by omega)) hpre
              have hbit := bit_of16 S i hs16
              have i0 : (0 : Int) ≤ (i : Int) := by omega
              have i1 : (i : Int) < (n : Int) := by omega
              have i2 : (i : Int) ≤ 64 := by omega
              cases hb : S.testBit i
              · have HST : Hid (worthSt xs ws n S (i + 1) true sum) := .inl ⟨rfl, wPre_skip hpre hb⟩
                rw [hb] at hbit
                simp only [Bool.false_eq_true, if_false] at hbit
                clear hst hpre hb
                go_wp2
                go_roundw
                case rel => exact ⟨i + 1, true, sum, by omega, by go_num, rfl, rfl, HST.out, HBQ.out⟩
                case measure => simp [intOf]; omega
              · have hput := wPre_put hpre hb
                rw [hb] at hbit
                simp only [if_true] at hbit
                obtain ⟨_, a2, c2, hsl, _, hcell⟩ := HU.out wq HBQ.out
                obtain ⟨bo, oo, ha2, _, e0⟩ := hcell i (by rw [HWL.out]; exact hlti)
                obtain ⟨rfl, rfl⟩ : a' = a2 ∧ c' = c2 := by simpa using hsl
                subst ha2
                rw [← nth_eq] at e0
                obtain ⟨q1, q2⟩ := HWS.out i hlti
                obtain ⟨x, hx⟩ : ∃ x, nth ws i = x := ⟨_, rfl⟩
                rw [hx] at e0 q1 q2 hput
                have HPUT := Lib.hid hput
                clear hcell hsl hst hpre hb hput hx
                go_wp2
                go_loopw [13, 15] (fun vf vk wk => ∃ k : Nat, k ≤ i ∧ vk = .int .i64 k ∧ vf = .bool (!clashIn xs S i k) ∧ Below w.heap.size w wk) (fun _ vk _ => i - (intOf vk).toNat)
                case atStart => exact ⟨0, Nat.zero_le _, rfl, rfl, HBQ.out⟩
                case round =>
                  obtain ⟨k, hk, rfl, rfl, hBk⟩ := hrel
                  obtain ⟨wk, rfl⟩ : ∃ wk : World, wk = wr := ⟨_, rfl⟩
                  have HBK := Lib.hid hBk
                  clear hBk e0
                  by_cases hki : k < i
                  · have hnx := clashIn_succ xs S i k
                    obtain ⟨y, hy⟩ : ∃ y, clashIn xs S i k = y := ⟨_, rfl⟩
                    rw [hy] at hnx ⊢
                    have hbk := bit_of16 S k hs16
                    have k0 : (0 : Int) ≤ (k : Int) := by omega
                    have k1 : (k : Int) < (i : Int) := by omega
                    have k2 : (k : Int) ≤ 64 := by omega
                    clear hy
                    cases hb : S.testBit k
                    · rw [hb] at hbk hnx
                      simp only [Bool.false_eq_true, if_false] at hbk
                      rw [Bool.false_and, Bool.or_false] at hnx
                      have HNX := Lib.hid hnx
                      clear hnx hb
                      go_wp2
                      go_roundw
                      case rel => exact ⟨k + 1, by omega, by go_num, by rw [HNX.out], HBK.out⟩
                      case measure => simp [intOf]; omega
                    · rw [hb] at hbk hnx
                      simp only [if_true] at hbk
                      rw [Bool.true_and] at hnx
                      have hcall := HM.out wk i k i k HBK.out hlti (by omega) rfl rfl
                      cases hmt : meetB xs i k
                      · rw [hmt] at hcall hnx
                        rw [Bool.or_false] at hnx
                        have HNX := Lib.hid hnx
                        have HC := Lib.hid hcall
                        clear hnx hb hcall hmt
                        go_wp2_with (go_at_call 59; refine HC.out.mono ?_; rintro e w' ⟨rfl, qq, rfl⟩)
                        go_roundw
                        case rel => exact ⟨k + 1, by omega, by go_num, by rw [HNX.out], below_drewN qq HBK.out⟩
                        case measure => simp [intOf]; omega
                      · rw [hmt] at hcall hnx
                        rw [Bool.or_true] at hnx
                        have HNX := Lib.hid hnx
                        have HC := Lib.hid hcall
                        clear hnx hb hcall hmt
                        go_wp2_with (go_at_call 59; refine HC.out.mono ?_; rintro e w' ⟨rfl, qq, rfl⟩)
                        go_roundw
                        case rel => exact ⟨k + 1, by omega, by go_num, by rw [HNX.out]; rfl, below_drewN qq HBK.out⟩
                        case measure => simp [intOf]; omega
                  · obtain rfl : i = k := by omega
                    obtain ⟨y, hy⟩ : ∃ y, clashIn xs S i i = y := ⟨_, rfl⟩
                    have hput := HPUT.out
                    rw [hy] at hput ⊢
                    have HST : Hid (worthSt xs ws n S (i + 1) (!y) (sum + x)) := by
                      cases y
                      · exact .inl ⟨rfl, hput⟩
                      · refine .inr ⟨rfl, ?_⟩
                        have := wPre_none (xs := xs) (ws := ws) (s := S) (i := i + 1) hput (n - (i + 1))
                        rw [show i + 1 + (n - (i + 1)) = n from by omega] at this
                        exact this
                    clear hput hy hki
                    go_wp2
                    go_roundw
                    case rel => exact ⟨i + 1, !y, sum + x, by omega, by go_num, rfl, rfl, HST.out, HBK.out⟩
                    case measure => simp [intOf]; omega
            · have HSN : Hid (∀ m, m = s + 1 → S = m) := fun m hm => by rw [hm]; exact HS.out.symm
              have hmeas : s < M := hlt
              cases fr
              · have hno : wVal xs ws n (s + 1) = none := by rw [HS.out]; rcases hst.out with ⟨h, _⟩ | ⟨_, h⟩; cases h; exact h
                have HN : Hid (bestTo xs ws n (s + 1) = (b, q)) := by show _ = _; rw [bestTo_none hno, HBEST.out]
                have HSI : Hid ((S : Int) + 1 = ((s + 1 + 1 : Nat) : Int)) := by show _ = _; rw [← HS.out]; omega
                clear hst hgo hno
                by_cases hit3 : i < n
                · go_wp2
                  go_roundw
                  case rel => exact ⟨s + 1, b, q, by omega, val_int HSI.out, rfl, rfl, HN.out, HBQ.out⟩
                  case measure => have := HS.out; simp [intOf]; omega
                · go_wp2
                  go_roundw
                  case rel => exact ⟨s + 1, b, q, by omega, val_int HSI.out, rfl, rfl, HN.out, HBQ.out⟩
                  case measure => have := HS.out; simp [intOf]; omega
              · obtain rfl : n = i := by by_cases h : i < n; exact absurd ⟨h, rfl⟩ hgo; omega
                have hyes : wVal xs ws n (s + 1) = some sum := by rw [HS.out]; rcases hst.out with ⟨_, h⟩ | ⟨h, _⟩; exact h; cases h
                have hbs2 := bestTo_some hyes
                rw [HBEST.out] at hbs2
                have hsb := wPre_bounds n sum HWS.out hyes
                have HSI : Hid ((S : Int) + 1 = ((s + 1 + 1 : Nat) : Int)) := by show _ = _; rw [← HS.out]; omega
                by_cases hgt : q < sum
                · have HN : Hid (bestTo xs ws n (s + 1) = (S, sum)) := by show _ = _; rw [hbs2, if_pos hgt, HS.out]
                  clear hst hgo hyes hbs2
                  go_wp2
                  go_roundw
                  case rel => exact ⟨s + 1, S, sum, by omega, val_int HSI.out, rfl, rfl, HN.out, HBQ.out⟩
                  case measure => have := HS.out; simp [intOf]; omega
                · have HN : Hid (bestTo xs ws n (s + 1) = (b, q)) := by show _ = _; rw [hbs2, if_neg hgt]
                  clear hst hgo hyes hbs2
                  go_wp2
                  go_roundw
                  case rel => exact ⟨s + 1, b, q, by omega, val_int HSI.out, rfl, rfl, HN.out, HBQ.out⟩
                  case measure => have := HS.out; simp [intOf]; omega
        · obtain rfl : s = M := by omega
          have hb16 : b < 2 ^ 16 := by have : (2 : Nat) ^ 16 = 65536 := (by decide); omega
          have hPc : ((s + 1 : Nat) : Int) = (P : Int) := by have := HP.out; omega
          rw [hPc]
          clear hPc hlt
          go_wp2
          have hws := HB.out.size
          have HA0 : Hid (OwnI (wr'.alloc (.cells #[] 2)) w.heap.size (.slice (some ⟨wr'.heap.size, 0, none⟩) 0 0) (talksOf b 0)) := OwnI.lit wr' w.heap.size [] hws (Nat.zero_le _)
          have HB3 := Lib.hid (HB.out.alloc hws (.cells #[] 2))
          go_loopw [16, 17] (fun vo vi wk => ∃ (i g c : Nat), i ≤ n ∧ vi = .int .i64 i ∧ vo = .slice (some ⟨g, 0, none⟩) (talksOf b i).length c ∧ OwnI wk w.heap.size (.slice (some ⟨g, 0, none⟩) (talksOf b i).length c) (talksOf b i) ∧ Below w.heap.size w wk) (fun _ vi _ => n - (intOf vi).toNat)
          case atStart => exact ⟨0, wr'.heap.size, 0, Nat.zero_le _, rfl, rfl, HA0.out, HB3.out⟩
          case round =>
            obtain ⟨i, g, cg, hin, rfl, rfl, hok, hBk⟩ := hrel
            obtain ⟨wk, rfl⟩ : ∃ wk : World, wk = wr := ⟨_, rfl⟩
            have HOK := Lib.hid hok
            have HBK := Lib.hid hBk
            have hwk := hBk.size
            have htl := talksOf_len b i
            clear hok hBk HA0 HB3
            by_cases hlti : i < n
            · have hbit := bit_of16 b i hb16
              have hsc := talksOf_succ b i
              have i0 : (0 : Int) ≤ (i : Int) := by omega
              have i2 : (i : Int) ≤ 64 := by omega
              cases hb : b.testBit i
              · rw [hb] at hbit hsc
                simp only [Bool.false_eq_true, if_false, List.append_nil] at hbit hsc
                have HSC := Lib.hid hsc
                clear hb hsc
                go_wp2
                go_roundw
                case rel => exact ⟨i + 1, g, cg, by omega, by go_num, by rw [HSC.out], by rw [HSC.out]; exact HOK.out, HBK.out⟩
                case measure => simp [intOf]; omega
              · rw [hb] at hbit hsc
                simp only [if_true] at hbit hsc
                have HSC := Lib.hid hsc
                clear hb hsc
                go_wp2_with (at_builtin; refine append_i64 rfl _ _ rfl w.heap.size (.slice (some ⟨g, 0, none⟩) (talksOf b i).length cg) (talksOf b i) [(i : Int)] (by simp) rfl _ rfl HOK.out hwk (by simp; omega) ?_; intro g1 c1 w3 ho3 hg3; have hb3 := Below.app HBK.out HOK.out hg3 hwk; have HO3 := Lib.hid ho3; have HB3 := Lib.hid hb3; clear ho3 hb3 hg3)
                go_roundw
                case rel => exact ⟨i + 1, g1, c1, by omega, by go_num, by rw [HSC.out]; simp, by rw [HSC.out]; simpa using HO3.out, HB3.out⟩
                case measure => simp [intOf]; omega
            · obtain rfl : n = i := by omega
              have hfin := HBEST.out
              have HF : Hid ((bestTo xs ws n s).1 = b ∧ (bestTo xs ws n s).2 = q) := by rw [hfin]; exact ⟨rfl, rfl⟩
              clear hfin hlti
              go_wp2
              go_ret3
              exact ⟨⟨_, by rw [HF.out.2]; rfl, by rw [HF.out.1]; exact HOK.out⟩, HBK.out⟩
end Go.Proofs.Ytnpfninkopffmaa
