
/- GreatClique, the reference: its contract. Conditions: valid clashes. -/
import Derived.Test.YtmhepomjbaendaaCliquePlain
namespace Go.Proofs.Ytmhepomjbaendaa
open Go.RowKit Go.BigFrame
set_option linter.unusedVariables false
set_option linter.unusedSimpArgs false
attribute [local go_sem] Oper.semAt_some

theorem half_pow (s t i K : Nat) (h : i + K + 1 = t) : s / 2 ^ (t - i) = s / 2 ^ K / 2 ∧ s / 2 ^ (t - (i + 1)) = s / 2 ^ K := by
  rw [show t - i = K + 1 from by omega, show t - (i + 1) = K from by omega]
  exact ⟨by rw [Nat.pow_succ, Nat.div_div_eq_div_mul], rfl⟩
theorem clq_pre (xs : List Int) (t s : Nat) : ∀ K i, i + K = t → clq xs t s = true → clq xs i (s / 2 ^ K) = true := by
  intro K
  induction K with
  | zero => intro i h hc; rw [Nat.pow_zero, Nat.div_one, show i = t from by omega]; exact hc
  | succ K ih =>
    intro i h hc
    have h1 := ih (i + 1) (by omega) hc
    have h2 := (half_pow s t i K (by omega)).1
    rw [show t - i = K + 1 from by omega] at h2
    rw [h2]
    change (clq xs i (s / 2 ^ K / 2) && _) = true at h1
    exact (Bool.and_eq_true _ _ ▸ h1).1
theorem clq_not {xs : List Int} {t s i K : Nat} (h : i + K = t) (hc : clq xs i (s / 2 ^ K) = false) : clq xs t s = false := by
  cases h1 : clq xs t s
  · rfl
  · rw [clq_pre xs t s K i h h1] at hc; cases hc

def cliState (xs : List Int) (t s i : Nat) (al : Bool) (l : List Int) : Prop := (al = true ∧ l = lst i (s / 2 ^ (t - i)) ∧ clq xs i (s / 2 ^ (t - i)) = true) ∨ (al = false ∧ clq xs t s = false)
theorem cliState_end {xs : List Int} {t s : Nat} {al : Bool} {l : List Int} (h : cliState xs t s t al l) (best : List Int) : cand t xs s best = if al = true ∧ best.length < l.length then l else best := by
  unfold cand
  rcases h with ⟨rfl, rfl, h⟩ | ⟨rfl, h⟩
  · rw [Nat.sub_self, Nat.pow_zero, Nat.div_one] at h ⊢
    rw [h]; simp [up]
  · rw [h]; simp
theorem cliState_no {xs : List Int} {t s i : Nat} {l : List Int} (h : cliState xs t s i false l) (best : List Int) : cand t xs s best = best := by
  unfold cand
  rcases h with ⟨h, _⟩ | ⟨_, h⟩
  · cases h
  · rw [h]; simp
theorem cliState_skip {xs : List Int} {t s i K : Nat} {l : List Int} (hK : i + K + 1 = t) (h : cliState xs t s i true l) (hb : s.testBit K = false) : cliState xs t s (i + 1) true l := by
  obtain ⟨h1, h2⟩ := half_pow s t i K hK
  rcases h with ⟨_, rfl, h⟩ | ⟨h, _⟩
  · have hm : ¬ s / 2 ^ K % 2 = 1 := by rw [Nat.testBit_eq_decide_div_mod_eq] at hb; simpa using hb
    refine .inl ⟨rfl, ?_, ?_⟩
    · rw [h2, h1]; show _ = lst i (s / 2 ^ K / 2) ++ _; rw [if_neg hm, List.append_nil]
    · rw [h2]; show (clq xs i (s / 2 ^ K / 2) && _) = true; rw [if_neg hm, Bool.and_true, ← h1]; exact h
  · cases h
theorem cliState_put {xs : List Int} {t s i K : Nat} {l : List Int} (hK : i + K + 1 = t) (h : cliState xs t s i true l) (hb : s.testBit K = true) : cliState xs t s (i + 1) (okTo xs l i) (l ++ [(i : Int)]) := by
  obtain ⟨h1, h2⟩ := half_pow s t i K hK
  rcases h with ⟨_, rfl, h⟩ | ⟨h, _⟩
  · have hm : s / 2 ^ K % 2 = 1 := by rw [Nat.testBit_eq_decide_div_mod_eq] at hb; simpa using hb
    have hc : clq xs (i + 1) (s / 2 ^ (t - (i + 1))) = okTo xs (lst i (s / 2 ^ (t - i))) i := by
      rw [h2, h1]; show (clq xs i (s / 2 ^ K / 2) && _) = _; rw [if_pos hm, ← h1, h, Bool.true_and]
    cases ho : okTo xs (lst i (s / 2 ^ (t - i))) i
    · rw [ho] at hc
      exact .inr ⟨rfl, clq_not (i := i + 1) (K := t - (i + 1)) (by omega) hc⟩
    · rw [ho] at hc
      refine .inl ⟨rfl, ?_, hc⟩
      rw [h2, h1]; show _ = lst i (s / 2 ^ K / 2) ++ _; rw [if_pos hm]
  · cases h
/-- The first y of l clash with i. -/
def okPre (xs l : List Int) (i y : Nat) : Bool := okTo xs (l.take y) i
theorem okPre_succ (xs l : List Int) (i y : Nat) (h : y < l.length) : okPre xs l i (y + 1) = (okPre xs l i y && clashB xs (nth l y) (i : Int)) := by
  unfold okPre okTo; rw [List.take_succ_eq_append_getElem h, List.all_append, nth_eq h]; simp

set_option maxRecDepth 100000 in
set_option maxHeartbeats 2000000 in
theorem specClique_yes (t : Nat) (v : Value) (xs : List Int) (w : World) (hv : Ints w v xs) (ht1 : 1 ≤ t) (ht : t ≤ 12) (hl : xs.length ≤ 64) (hev : xs.length % 2 = 0) (hc1 : clashesOk (t : Int) xs = true) :
    Calls Try.prog 35 #[.int .i64 t, v] w fun e w' => (∃ v', e = .returned (.tuple #[v', .bool true]) ∧ OwnI w' w.heap.size v' (cliqueL t xs)) ∧ Below w.heap.size w w' := by
  have hca := specClashes_any (t : Int) v xs w hv (wf_i64_iff.2 ⟨by omega, by omega⟩)
  rw [hc1] at hca
  have HCA := Lib.hid hca
  have HCL : Hid (∀ W a b, Below w.heap.size w W → Calls Try.prog 93 #[v, .int .i64 a, .int .i64 b] W fun e w' => e = .returned (.bool (clashB xs a b)) ∧ W = w') := fun W a b hW => l07Clash_any v xs a b W (hv.below hW (Nat.le_refl _)) hev (by omega)
  obtain ⟨hm, a, c, rfl, hcap, hc⟩ := hv
  obtain ⟨M, hM⟩ : ∃ M, 2 ^ t = M + 1 := ⟨2 ^ t - 1, by have := Nat.one_le_two_pow (n := t); omega⟩
  have hM12 : M < 2 ^ 12 := by have : 2 ^ t ≤ 2 ^ 12 := Nat.pow_le_pow_right (by decide) ht; omega
  have hPI : (2 : Int) ^ t = ((M + 1 : Nat) : Int) := by rw [← hM]; simp
  have HEND : Hid (rng t xs 1 M [] = cliqueL t xs) := by
    have := rng_clique t xs
    rw [hM, Nat.add_sub_cancel] at this
    exact this
  obtain ⟨P, hP⟩ : ∃ P : Nat, M + 1 = P := ⟨_, rfl⟩
  rw [hP] at hPI
  have hPM : (P : Int) - 1 = (M : Int) := by omega
  have w1 : IntKind.i64.wrap (P : Int) = P := IntWalk.i64_in _ (by omega)
  have i4 : (t : Int) ≤ 64 := by omega
  have hn0 : ¬ ((t : Int) < 0) := by omega
  clear hca hc1 hc hm hev hM
  go_enter Try.func35, Try.ntmps35
  go_wp2_with (first
    | (go_at_call 88; refine HCA.out.mono ?_; rintro e W1 ⟨rfl, hb1⟩; have HB1 := Lib.hid hb1; clear hb1))
  have hws := HB1.out.size
  have HA0 : Hid (OwnI (W1.alloc (.cells #[] 2)) w.heap.size (.slice (some ⟨W1.heap.size, 0, none⟩) 0 0) (rng t xs (M + 1) 0 [])) := OwnI.lit W1 w.heap.size [] hws (Nat.zero_le _)
  have HB3 := Lib.hid (HB1.out.alloc hws (.cells #[] 2))
  go_loopw [6, 7, 8, 9, 10, 11, 44] (fun vb vs _ _ _ _ _ wr => ∃ (s m n g c : Nat) (best : List Int), s + m = M ∧ vs = .int .i64 s ∧ vb = .slice (some ⟨g, 0, none⟩) n c ∧ best.length = n ∧ Hid (rng t xs (s + 1) m [] = best) ∧ OwnI wr w.heap.size (.slice (some ⟨g, 0, none⟩) n c) best ∧ Below w.heap.size w wr) (fun _ vs _ _ _ _ _ _ => (intOf vs).toNat)
  case atStart => exact ⟨M, 0, 0, W1.heap.size, 0, [], rfl, rfl, rfl, rfl, rfl, HA0.out, HB3.out⟩
  case round =>
    obtain ⟨s, m, n, gb, cb, best, hsm, rfl, rfl, hbl, hbr, hob, hBr⟩ := hrel
    obtain ⟨Wr, rfl⟩ : ∃ Wr, Wr = wr := ⟨_, rfl⟩
    clear HA0 HB3
    have HBEST := Lib.hid hob
    have HBR := Lib.hid hBr
    have HBL := Lib.hid hbl
    clear hob hBr hbl
    by_cases hs0 : 0 < s
    · have hs12 : s < 2 ^ 12 := by omega
      obtain ⟨s1, hs1⟩ : ∃ s1, s1 + 1 = s := ⟨s - 1, by omega⟩
      have hsI : (s : Int) - 1 = (s1 : Int) := by omega
      go_wp2
      have hwr := HBR.out.size
      have HL0 : Hid (OwnI (Wr.alloc (.cells #[] 2)) Wr.heap.size (.slice (some ⟨Wr.heap.size, 0, none⟩) 0 0) []) := OwnI.lit Wr Wr.heap.size [] (Nat.le_refl _) (Nat.zero_le _)
      have HBL0 : Hid (Below Wr.heap.size Wr (Wr.alloc (.cells #[] 2))) := (Below.refl _ Wr).alloc (Nat.le_refl _) _
      go_loopw [8, 9, 10, 11, 44] (fun vl va vi _ _ wk => ∃ (i k g c : Nat) (al : Bool) (l : List Int), i ≤ t ∧ k ≤ i ∧ vi = .int .i64 i ∧ va = .bool al ∧ vl = .slice (some ⟨g, 0, none⟩) k c ∧ l.length = k ∧ Hid (cliState xs t s i al l) ∧ OwnI wk Wr.heap.size (.slice (some ⟨g, 0, none⟩) k c) l ∧ Below Wr.heap.size Wr wk) (fun _ _ vi _ _ _ => t - (intOf vi).toNat)
      case atStart => exact ⟨0, 0, Wr.heap.size, 0, true, [], Nat.zero_le _, Nat.le_refl _, rfl, rfl, rfl, rfl, .inl ⟨rfl, rfl, rfl⟩, HL0.out, HBL0.out⟩
      case round =>
        obtain ⟨i, k, g, cg, al, l, hit, hki, rfl, rfl, rfl, hll, hst, hol, hBk⟩ := hrel
        clear HL0 HBL0
        obtain ⟨wk, rfl⟩ : ∃ wk, wk = wr := ⟨_, rfl⟩
        have HOL := Lib.hid hol
        have HBK := Lib.hid hBk
        have HLL := Lib.hid hll
        clear hol hBk hll
        by_cases hgo : i < t ∧ al = true
        · obtain ⟨hlt, rfl⟩ := hgo
          obtain ⟨K, hK⟩ : ∃ K, i + K + 1 = t := ⟨t - i - 1, by omega⟩
          have hKI : (t : Int) - 1 - (i : Int) = (K : Int) := by omega
          have hbit := bit_of s K hs12
          cases hb : s.testBit K
          · have HST : Hid (cliState xs t s (i + 1) true l) := cliState_skip hK hst.out hb
            rw [hb] at hbit
            simp only [Bool.false_eq_true, if_false] at hbit
            clear hb hst
            go_wp2
            go_roundw
            case rel => exact ⟨i + 1, k, g, cg, true, l, by omega, by omega, by go_num, rfl, rfl, HLL.out, HST.out, HOL.out, HBK.out⟩
            case measure => simp [intOf]; omega
          · have HST : Hid (cliState xs t s (i + 1) (okTo xs l i) (l ++ [(i : Int)])) := cliState_put hK hst.out hb
            rw [hb] at hbit
            simp only [if_true] at hbit
            clear hb hst
            have HCELL : Hid (∀ j, j < k → wk.cell? ⟨g, j, none⟩ = some (.int .i64 (nth l j))) := fun j hj => HOL.out.at_ HLL.out.symm j (by have := HLL.out; omega)
            have HCALL : Hid (∀ p : Int, Calls Try.prog 93 #[.slice a xs.length c, .int .i64 p, .int .i64 i] wk fun e w' => e = .returned (.bool (clashB xs p i)) ∧ wk = w') := fun p => HCL.out wk p i (HBR.out.trans (HBK.out.mono HBR.out.size))
            go_wp2
            go_loopw [9, 11, 44] (fun va _ vy wq => ∃ y : Nat, y ≤ k ∧ vy = .int .i64 y ∧ va = .bool (okPre xs l i y) ∧ wk = wq) (fun _ _ vy _ => k - (intOf vy).toNat)
            case atStart => exact ⟨0, Nat.zero_le _, rfl, rfl, rfl⟩
            case round =>
              obtain ⟨y, hy, rfl, rfl, rfl⟩ := hrel
              by_cases hyk : y < k
              · have hnx := okPre_succ xs l i y (by have := HLL.out; omega)
                have e1 := HCELL.out y hyk
                have hcall := HCALL.out (nth l y)
                obtain ⟨p, hp⟩ : ∃ p, nth l y = p := ⟨_, rfl⟩
                obtain ⟨q, hq⟩ : ∃ q, okPre xs l i y = q := ⟨_, rfl⟩
                rw [hp] at e1 hnx hcall
                rw [hq] at hnx ⊢
                obtain ⟨cb, hcb⟩ : ∃ cb, clashB xs p (i : Int) = cb := ⟨_, rfl⟩
                rw [hcb] at hcall hnx
                have HCALL1 := Lib.hid hcall
                have HNX := Lib.hid hnx
                have y0 : (0 : Int) ≤ (y : Int) := by omega
                have y1 : (y : Int) < (k : Int) := by omega
                clear hcall hp hcb hq hnx
                cases q
                · go_wp2
                  go_roundw
                  case rel => exact ⟨y + 1, by omega, by go_num, by rw [HNX.out]; rfl, trivial⟩
                  case measure => simp [intOf]; omega
                · go_wp2_with (go_at_call 93; refine HCALL1.out.mono ?_; rintro x w' ⟨rfl, rfl⟩)
                  go_roundw
                  case rel => exact ⟨y + 1, by omega, by go_num, by rw [HNX.out]; rfl, trivial⟩
                  case measure => simp [intOf]; omega
              · obtain rfl : y = k := by omega
                have hok : okPre xs l i y = okTo xs l i := by unfold okPre; rw [← HLL.out, List.take_length]
                rw [hok]
                obtain ⟨q, hq⟩ : ∃ q, okTo xs l i = q := ⟨_, rfl⟩
                have HST2 := HST.out
                rw [hq] at HST2 ⊢
                have HSTQ := Lib.hid HST2
                clear HST2 hok hq hyk
                have hwk := HBK.out.size
                go_wp2_with (at_builtin; refine append_i64 rfl _ _ rfl Wr.heap.size (.slice (some ⟨g, 0, none⟩) y cg) l [(i : Int)] (by simp) rfl _ rfl HOL.out hwk (by rw [HLL.out]; simp; omega) ?_; intro g1 c1 w3 ho3 hg3; have hb3 := Below.app HBK.out HOL.out hg3 hwk; have HO3 := Lib.hid ho3; have HB3 := Lib.hid hb3; clear ho3 hb3 hg3)
                go_roundw
                case rel => exact ⟨i + 1, y + 1, g1, c1, q, l ++ [(i : Int)], by omega, by omega, by go_num, rfl, by rw [HLL.out], by simp; exact HLL.out, HSTQ.out, by have := HO3.out; rw [HLL.out] at this; exact this, HB3.out⟩
                case measure => simp [intOf]; omega
        · have HNXT : Hid (rng t xs s (m + 1) [] = cand t xs s best) := by show cand t xs s (rng t xs (s + 1) m []) = _; rw [hbr.out]
          cases al
          · have HC := Lib.hid (cliState_no hst.out best)
            clear hst hgo
            have hmeas : s1 < s := by omega
            by_cases hit3 : i < t
            · go_wp2
              go_roundw
              case rel => exact ⟨s1, m + 1, n, gb, cb, best, by omega, by go_num, rfl, HBL.out, by show _ = _; rw [hs1, HNXT.out, HC.out], HBEST.out.below HBK.out (Nat.le_refl _), HBR.out.trans (HBK.out.mono HBR.out.size)⟩
              case measure => simp [intOf]; omega
            · go_wp2
              go_roundw
              case rel => exact ⟨s1, m + 1, n, gb, cb, best, by omega, by go_num, rfl, HBL.out, by show _ = _; rw [hs1, HNXT.out, HC.out], HBEST.out.below HBK.out (Nat.le_refl _), HBR.out.trans (HBK.out.mono HBR.out.size)⟩
              case measure => simp [intOf]; omega
          · have hit2 : i = t := by by_cases h : i < t; exact absurd ⟨h, rfl⟩ hgo; omega
            subst hit2
            have HC := Lib.hid (cliState_end hst.out best)
            clear hst hgo
            by_cases hlen : n < k
            · go_wp2
              go_roundw
              case rel => exact ⟨s1, m + 1, k, g, cg, l, by omega, by go_num, rfl, HLL.out, by show _ = _; rw [hs1, HNXT.out, HC.out, if_pos ⟨rfl, by rw [HBL.out, HLL.out]; exact hlen⟩], HOL.out.mono HBR.out.size, HBR.out.trans (HBK.out.mono HBR.out.size)⟩
              case measure => simp [intOf]; omega
            · go_wp2
              go_roundw
              case rel => exact ⟨s1, m + 1, n, gb, cb, best, by omega, by go_num, rfl, HBL.out, by show _ = _; rw [hs1, HNXT.out, HC.out, if_neg (by rw [HBL.out, HLL.out]; exact fun h => hlen h.2)], HBEST.out.below HBK.out (Nat.le_refl _), HBR.out.trans (HBK.out.mono HBR.out.size)⟩
              case measure => simp [intOf]; omega
    · obtain rfl : s = 0 := by omega
      obtain rfl : m = M := by omega
      have HF : Hid (best = cliqueL t xs) := by show _ = _; rw [← HEND.out, ← hbr.out]
      clear hbr
      go_wp2
      go_ret2
      exact ⟨⟨_, rfl, by rw [← HF.out]; exact HBEST.out⟩, HBR.out⟩
end Go.Proofs.Ytmhepomjbaendaa
