/- The walk of FnTalks. Conditions: none. With the texts that it alone needs. -/
import Derived.Test.YtnpfninkopffmaaDraws
import Derived.Test.YtnpfninkopffmaaTalks
import Derived.Test.YtnpfninkopffmaaTalkThm
import Derived.Test.YtnpfninkopffmaaWorthBoth
import Derived.Test.YtnpfninkopffmaaMat
import Derived.Test.YtnpfninkopffmaaSlices
import Derived.Test.YtnpfninkopffmaaGrownL
import Derived.Deep.CutRange
import Derived.Test.YtnpfninkopffmaaMostImpl
import Derived.Test.YtnpfninkopffmaaRoomImpl
import Derived.Test.YtnpfninkopffmaaAtOnceImpl
namespace Go.Proofs.Ytnpfninkopffmaa
open Go.RowKit Go.Shelf Go.BigFrame
set_option linter.unusedVariables false
set_option linter.unusedSimpArgs false

/-- Pairs that are talks. -/
def PairsOk (ys : List Int) : Prop := ∀ j, 2 * j + 1 < ys.length → 0 ≤ nth ys (2 * j) ∧ nth ys (2 * j) < nth ys (2 * j + 1) ∧ nth ys (2 * j + 1) ≤ 28
theorem nth_appL {a b : List Int} {i : Nat} (h : i < a.length) : nth (a ++ b) i = nth a i := by
  unfold nth; rw [List.getD_eq_getElem?_getD, List.getD_eq_getElem?_getD, List.getElem?_append_left h]
theorem nth_appR {a b : List Int} {i : Nat} (h : a.length ≤ i) : nth (a ++ b) i = nth b (i - a.length) := by
  unfold nth; rw [List.getD_eq_getElem?_getD, List.getD_eq_getElem?_getD, List.getElem?_append_right h]
theorem PairsOk.snoc {ys : List Int} {p q : Int} (h : PairsOk ys) (he : ys.length % 2 = 0) (h0 : 0 ≤ p) (h1 : p < q) (h2 : q ≤ 28) : PairsOk (ys ++ [p, q]) := by
  intro j hj
  rw [List.length_append] at hj
  by_cases hl : 2 * j + 1 < ys.length
  · rw [nth_appL (by omega), nth_appL hl]; exact h j hl
  · have e : 2 * j = ys.length := by simp at hj; omega
    rw [nth_appR (by omega), nth_appR (by omega), show 2 * j - ys.length = 0 by omega, show 2 * j + 1 - ys.length = 1 by omega]
    exact ⟨h0, h1, h2⟩
theorem PairsOk.talks {ys : List Int} {n : Nat} (h : PairsOk ys) (hn : ys.length = 2 * n) (h1 : 1 ≤ n) (h2 : n ≤ 8) : talksOk ys = true :=
  talks_split (by omega) (by omega) (by omega) fun j hj => by have := h j (by omega); omega
theorem PairsOk.wf {ys : List Int} {n : Nat} (h : PairsOk ys) (hn : ys.length = 2 * n) : ∀ x ∈ ys, (Lit.int .i64 x).wf = true := fun x hx => by
  obtain ⟨i, hi, rfl⟩ := List.getElem_of_mem hx
  rw [wf_i64_iff, ← nth_eq hi]
  have := h (i / 2) (by omega)
  rcases Nat.mod_two_eq_zero_or_one i with e | e
  · rw [show 2 * (i / 2) = i by omega] at this; omega
  · rw [show 2 * (i / 2) + 1 = i by omega] at this; omega

def TalkD (A t : Nat) (v : Value) (w : World) (vo vn : Value) (wr : World) : Prop :=
  ∃ (n k g c a : Nat) (ys : List Int), n ≤ t ∧ vn = .int .i64 n ∧ vo = .slice (some ⟨g, 0, none⟩) k c ∧ a + 2 * n ≤ 2 * t ∧ Hid (k = ys.length) ∧ Hid (ys.length = 2 * (t - n)) ∧ Hid (PairsOk ys) ∧ Hid (OwnI wr (A + 1) (.slice (some ⟨g, 0, none⟩) k c) ys) ∧ Hid (Src wr A v a) ∧ Hid (Below A w wr)

set_option maxRecDepth 100000 in
set_option maxHeartbeats 2000000 in
theorem drawTalks_any (v : Value) (xs : List Int) (t : Nat) (w : World) (hv : Byts w v xs) (hb : ∀ n ∈ xs, (Lit.int .u8 n).wf = true) (h2 : t ≤ 8) :
    Calls Try.prog 25 #[v, .int .i64 (t : Int)] w fun e w' => (∃ v', e = .returned v' ∧ ∃ ys, OwnI w' w.heap.size v' ys ∧ ys.length = 2 * t ∧ PairsOk ys) ∧ Below w.heap.size w w' := by
  have HFR := Lib.hid (from_any v xs w hv)
  have HPK : Hid (∀ g a (n : Int) W, Below w.heap.size w W → Src W g v a → a ≤ 1099511627776 → n ≤ 200 → Calls Try.prog 72 #[.pointer (some ⟨g, 0, none⟩), .int .i64 n] W fun e w' => (∃ x : Int, e = .returned (.int .i64 x) ∧ 0 ≤ x ∧ (1 ≤ n → x < n)) ∧ (∃ a', a' ≤ a + 1 ∧ Src w' g v a') ∧ GrownL [g] W w') := fun g a n W hW hs ha hn => pick_any v xs g a n W (hv.below hW (Nat.le_refl _)) hb hs ha hn
  clear hv hb
  obtain ⟨A, hA⟩ : ∃ A, w.heap.size = A := ⟨_, rfl⟩
  have HA := Lib.hid hA
  have HSZ : Hid (∀ W, Below A w W → A ≤ W.heap.size) := fun W h => by rw [← hA]; exact h.size
  clear hA
  go_enter Try.func25, Try.ntmps25
  go_wp2_with fail
  refine HFR.out.mono ?_
  rintro e W1 ⟨rfl, hs1, hb1, hz1⟩
  rw [HA.out] at hs1 hb1 hz1
  obtain ⟨W2, hW2⟩ : ∃ W, W1.alloc (.cells #[] 2) = W := ⟨_, rfl⟩
  have HR0 : Hid (TalkD A t v w (.slice (some ⟨W1.heap.size, 0, none⟩) 0 0) (.int .i64 t) W2) := by
    show TalkD _ _ _ _ _ _ _
    rw [← hW2]
    exact ⟨t, 0, W1.heap.size, 0, 0, [], Nat.le_refl _, rfl, rfl, by omega, rfl, by show _ = _; simp, (fun j hj => by simp at hj), OwnI.lit W1 (A + 1) [] (by omega) (by unfold maxLen; simp), hs1.grown ((GrownL.refl [] W1).alloc _) (by simp), hb1.alloc (by omega) _⟩
  clear hs1 hb1 hz1
  rw [HA.out]
  go_wp2
  go_loopw [6, 1] (fun vo vn wr => TalkD A t v w vo vn wr) (fun _ vn _ => (intOf vn).toNat)
  case atStart => exact HR0.out
  case round =>
    obtain ⟨n, k, g, c, a, ys, hn, rfl, rfl, ha, HK, HL, HP, HO, HS, HB⟩ := hrel
    clear HR0 hW2
    by_cases hgo : 0 < n
    · have i1 : (n : Int) > 0 := by omega
      have hgA : A + 1 ≤ g ∧ g < wr.heap.size := HO.out.lt g rfl
      go_wp2_with fail
      refine (HPK.out _ _ _ _ (by rw [HA.out]; exact HB.out) HS.out (by omega) (by omega)).mono ?_
      rintro e W3 ⟨⟨p, rfl, p0, p1⟩, ⟨a3, ha3, hs3⟩, hg3⟩
      have p1 := p1 (by omega)
      have HS3 := Lib.hid hs3
      have HO3 := Lib.hid (hg3.own HO.out (by simp; omega))
      have HB3 : Hid (Below A w W3) := hg3.toBelow HB.out (HSZ.out _ HB.out) (by simp; omega)
      clear hs3 hg3 HS HO HB
      have w1 : IntKind.i64.wrap (p + 1) = p + 1 := IntWalk.i64_in _ (by omega)
      go_wp2_with fail
      refine (HPK.out _ _ _ _ (by rw [HA.out]; exact HB3.out) HS3.out (by omega) (by omega)).mono ?_
      rintro e W4 ⟨⟨q, rfl, q0, q1⟩, ⟨a4, ha4, hs4⟩, hg4⟩
      have q1 := q1 (by omega)
      have HS4 := Lib.hid hs4
      have HO4 := Lib.hid (hg4.own HO3.out (by simp; omega))
      have HB4 : Hid (Below A w W4) := hg4.toBelow HB3.out (HSZ.out _ HB3.out) (by simp; omega)
      clear hs4 hg4 HS3 HO3 HB3
      have w2 : IntKind.i64.wrap (p + 1 + q) = p + 1 + q := IntWalk.i64_in _ (by omega)
      have hA4 : A + 1 ≤ W4.heap.size := by have := HS4.out.lt; omega
      go_wp2_with (at_builtin; refine append_i64 rfl _ _ rfl (A + 1) (.slice (some ⟨g, 0, none⟩) k c) ys [p, p + 1 + q] (by simp) rfl _ rfl HO4.out hA4 (by have := HL.out; simp; omega) ?_; intro g1 c1 w5 ho1 hg1; have HA1 := Lib.hid (And.intro ho1 hg1); clear ho1 hg1)
      go_roundw
      case rel =>
        obtain ⟨ho1, hg1⟩ := HA1.out
        have hL := HL.out
        refine ⟨n - 1, ys.length + 2, g1, c1, a4, ys ++ [p, p + 1 + q], by omega, by go_num, rfl, by omega, by show _ = _; simp, by show _ = _; simp; omega, HP.out.snoc (by omega) p0 (by omega) (by omega), ho1, ?_, Below.app HB4.out (HO4.out.mono (by omega)) hg1 (HSZ.out _ HB4.out)⟩
        exact HS4.out.grown ((GrownL.refl [g] W4).grown hg1 (fun j e => .inl (by rw [ownBlock_slice] at e; injection e with e; simp [e]))) (by simp; omega)
      case measure => simp [intOf]; omega
    · have i1 : ¬ (n : Int) > 0 := by omega
      have HR : Hid (∃ ys, OwnI wr w.heap.size (.slice (some ⟨g, 0, none⟩) k c) ys ∧ ys.length = 2 * t ∧ PairsOk ys) := by
        rw [HA.out]
        exact ⟨ys, HO.out.mono (by omega), by have := HL.out; omega, HP.out⟩
      have HBW : Hid (Below w.heap.size w wr) := by rw [HA.out]; exact HB.out
      clear HO HB HL HP HS
      go_wp2
      go_ret
      exact ⟨⟨_, rfl, HR.out⟩, HBW.out⟩
end Go.Proofs.Ytnpfninkopffmaa

namespace Go.Proofs.Ytnpfninkopffmaa
open Go.RowKit
set_option linter.unusedVariables false
set_option linter.unusedSimpArgs false

theorem pair_far {l : List Int} {P : Int → Int → Prop} (hs : ∀ x y, P x y → P y x) (h : l.Pairwise P) {i k : Nat} (hk : k < i) (hi : i < l.length) : P (nth l i) (nth l k) := by
  have := List.pairwise_iff_getElem.1 h k i (by omega) hi hk
  rw [nth_eq hi, nth_eq (by omega)]
  exact hs _ _ this
theorem worth_ok {T ws : List Int} {t : Nat} (hok : talksOk T = true) (hl : T.length = 2 * t) (h8 : t ≤ 8) (hw : ws.length = t) (hb : ∀ k, k < t → 0 ≤ nth ws k ∧ nth ws k ≤ 1000) : worthOk T ws = true := by
  unfold worthOk
  rw [hok, show T.length / 2 = t by omega, decide_eq_true (show t ≤ 16 by omega)]
  rw [show many ws (t : Int) (t : Int) 0 1000 = true from many_true.2 ⟨by omega, by omega, by
    rw [List.all_eq_true]; intro x hx
    obtain ⟨i, hi, rfl⟩ := List.getElem_of_mem hx
    rw [← nth_eq hi]; exact win_true.2 (hb i (by omega))⟩]
  rfl
/-- What is asked. -/
structure TalksFin (T : List Int) (t : Nat) (C X : Int) (RL HL BL ones : List Int) : Prop where
  ok : talksOk T = true
  rooms : roomsC T = C ∧ roomsR T = RL ∧ RL.length = t
  most : (atOnce T).1 = C ∧ (atOnce T).2 = X ∧ (cntAt T X t : Int) = C
  heard : mostR T = HL
  best : worthOk T ones = true ∧ worthR T ones = (HL.length : Int) ∧ worthL T ones = BL ∧ BL.length = HL.length
  in_ : ∀ i, i < t → 0 ≤ nth RL i ∧ nth RL i < C
  apart : ∀ i k, i < t → k < i → nth RL i = nth RL k → meetB T i k = false
  hin : ∀ i, i < HL.length → 0 ≤ nth HL i ∧ nth HL i < (t : Int)
  hapart : ∀ i k, i < HL.length → k < i → nth HL i ≠ nth HL k ∧ meetB T (nth HL i).toNat (nth HL k).toNat = false
  hlen : HL.length ≤ 8
theorem talks_fin {T : List Int} {t : Nat} (hp : PairsOk T) (hl : T.length = 2 * t) (h1 : 1 ≤ t) (h8 : t ≤ 8) : ∃ C X RL HL BL, TalksFin T t C X RL HL BL (List.replicate t 1) := by
  have hok := hp.talks hl h1 h8
  have hn : T.length / 2 = t := by omega
  have hw : ∀ k, k < t → nth (List.replicate t (1 : Int)) k = 1 := fun k hk => by rw [nth_eq (by simpa using hk)]; simp
  have hwo := worth_ok hok hl h8 (ws := List.replicate t 1) (by simp) (fun k hk => by rw [hw k hk]; omega)
  have hgw := greedy_worth hok hn hw
  have hwy := worth_yes hwo
  have hwn : worthN T = t := by unfold worthN; omega
  rw [hwn] at hwy
  have hmr : mostR T = heardL T := by unfold mostR; rw [if_pos hok]
  have hrr : roomsR T = roomsTo T t t := by unfold roomsR; rw [if_pos hok, hn]
  have hro := rooms_ok T t t (Nat.le_refl _)
  have hth := rooms_th T t t (Nat.le_refl _)
  have hall := rooms_all T t
  have hg := heard_greedy hok
  rw [hn] at hg
  refine ⟨roomsC T, (atOnce T).2, roomsTo T t t, heardL T, worthL T (List.replicate t 1), hok, ⟨rfl, hrr, hro.len⟩, ⟨(rooms_most hok).symm, rfl, ?_⟩, hmr, ⟨hwo, ?_, rfl, ?_⟩, fun i hi => ⟨hall i hi, ?_⟩, fun i k hi hk he => hth.apart i k hi (by omega) (by omega) (hall i hi) he, fun i hi => ?_, fun i k hi hk => ?_, ?_⟩
  · rw [rooms_most hok, most_count hok, hn]
  · rw [hwy.1]; exact hgw.1
  · rw [hwy.2]
    have := hgw.1.symm.trans hgw.2
    omega
  · have := (maxTo_spec (roomsTo T t t) (t - 1)).1 i (by omega)
    unfold roomsC
    rw [if_pos hok, hn]; omega
  · have := hg.sub _ (List.getElem_mem hi)
    rw [nth_eq hi]
    exact (sortsL_mem _ _ _).1 this
  · have := pair_far (P := fun x y => x ≠ y ∧ meetB T x.toNat y.toNat = false) (fun x y h => ⟨Ne.symm h.1, by rw [meetB_comm]; exact h.2⟩) hg.apart hk hi
    exact this
  · have := heardN_len T (T.length / 2) (T.length / 2) []
    unfold heardL
    simp at this; omega
/-- A list of one list. -/
theorem mat_one {W : World} {v : Value} {T : List Int} (hv : Ints W v T) (hw : ∀ x ∈ T, (Lit.int .i64 x).wf = true) : MatR (W.alloc (.cells #[v] 29)) (.slice (some ⟨W.heap.size, 0, none⟩) 1 1) [T] := by
  refine ⟨by unfold maxLen; simp, some ⟨W.heap.size, 0, none⟩, 1, rfl, Nat.le_refl _, fun i hi => ?_⟩
  obtain rfl : i = 0 := by simpa using hi
  refine ⟨W.heap.size, 0, [v], rfl, by simp, ⟨v, rfl, SlR.of_ints (hv.below ((Below.refl _ W).alloc (Nat.le_refl _) _) (Nat.le_refl _)) hw⟩, fun j hj => ?_⟩
  obtain rfl : j = 0 := by simpa using hj
  simp
end Go.Proofs.Ytnpfninkopffmaa

namespace Go.Proofs.Ytnpfninkopffmaa
open Go.RowKit
set_option linter.unusedVariables false
set_option linter.unusedSimpArgs false

theorem b10Long_any (v u : Value) (xs ys : List Int) (w : World) (hv : Byts w v xs) (hu : Byts w u ys) :
    Calls Try.prog 23 #[v, u] w fun e w' => e = .returned (.bool (decide (1048576 < xs.length) || decide (1048576 < ys.length))) ∧ w = w' := by
  obtain ⟨hm, a, c, rfl, hcap, hc⟩ := hv
  obtain ⟨hm', a', c', rfl, hcap', hc'⟩ := hu
  unfold maxLen at hm hm'
  clear hc hc'
  by_cases h : 1048576 < xs.length
  · go_enter Try.func23, Try.ntmps23
    go_wp2
    go_ret
    exact ⟨ret_bool (by simp [h]), rfl⟩
  · have hd : decide (1048576 < xs.length) = false := by simpa using h
    by_cases h2 : 1048576 < ys.length
    · go_enter Try.func23, Try.ntmps23
      go_wp2
      go_ret
      exact ⟨ret_bool (by rw [hd]; first | rfl | (symm; simp; omega) | (rw [Bool.eq_iff_iff]; simp; omega)), rfl⟩
    · go_enter Try.func23, Try.ntmps23
      go_wp2
      go_ret
      exact ⟨ret_bool (by rw [hd]; first | rfl | (symm; simp; omega) | (rw [Bool.eq_iff_iff]; simp; omega)), rfl⟩

/-- A number from 0 to n - 1. -/
theorem b10At_any (v : Value) (xs : List Int) (i n : Int) (w : World) (hv : Byts w v xs) (hwf : ∀ x ∈ xs, (Lit.int .u8 x).wf = true) (hi : 0 ≤ i) (hi2 : i ≤ 100000000) (hn : 1 ≤ n) (hn2 : n ≤ 100000000) :
    Calls Try.prog 24 #[v, .int .i64 i, .int .i64 n] w fun e w' => (∃ x, e = .returned (.int .i64 x) ∧ 0 ≤ x ∧ x < n) ∧ w = w' := by
  obtain ⟨hm, a, c, rfl, hcap, hc⟩ := hv
  unfold maxLen at hm
  obtain ⟨k, rfl⟩ : ∃ k : Nat, i = k := ⟨i.toNat, by omega⟩
  by_cases h1 : n ≤ 1
  · clear hc
    go_enter Try.func24, Try.ntmps24
    go_wp2
    go_ret
    exact ⟨⟨0, rfl, by omega, by omega⟩, rfl⟩
  · by_cases hlt : k < xs.length
    · obtain ⟨b, o, rfl, hbs, hck⟩ := hc k hlt
      have hx := wf_u8_iff.1 (hwf xs[k] (List.getElem_mem _))
      obtain ⟨x, hxx⟩ : ∃ x, xs[k] = x := ⟨_, rfl⟩
      rw [hxx] at hck hx
      obtain ⟨hx1, hx2⟩ := hx
      clear hc hxx hwf
      go_enter Try.func24, Try.ntmps24
      go_wp2
      go_ret
      exact ⟨⟨x % n, rfl, Int.emod_nonneg _ (by omega), Int.emod_lt_of_pos _ (by omega)⟩, rfl⟩
    · clear hc
      go_enter Try.func24, Try.ntmps24
      go_wp2
      go_ret
      exact ⟨⟨((k : Int) * 37 + 11) % n, rfl, Int.emod_nonneg _ (by omega), Int.emod_lt_of_pos _ (by omega)⟩, rfl⟩
end Go.Proofs.Ytnpfninkopffmaa

namespace Go.Proofs.Ytnpfninkopffmaa
open Go.RowKit Go.Shelf Go.BigFrame
set_option linter.unusedVariables false
set_option linter.unusedSimpArgs false

theorem Ints.rowI {w : World} {v : Value} {xs : List Int} (h : Ints w v xs) (h0 : 0 < xs.length) : ∃ b o c, v = .slice (some ⟨b, o, none⟩) xs.length c ∧ b < w.heap.size ∧ xs.length ≤ c ∧ ∀ i, i < xs.length → w.cell? ⟨b, o + i, none⟩ = some (.int .i64 (nth xs i)) := by
  obtain ⟨_, a, c, rfl, hcap, hc⟩ := h
  obtain ⟨b, o, ha, hb, _⟩ := hc 0 h0
  subst ha
  refine ⟨b, o, c, rfl, hb, hcap, fun i hi => ?_⟩
  obtain ⟨b', o', he, _, hcell⟩ := hc i hi
  obtain ⟨rfl, rfl⟩ : b = b' ∧ o = o' := by simpa using he
  rw [hcell, nth_eq hi]

theorem b10Ints_any (v u : Value) (xs ys : List Int) (w : World) (hv : Ints w v xs) (hu : Ints w u ys) :
    Calls Try.prog 30 #[v, u] w fun e w' => e = .returned (.bool (xs == ys)) ∧ Below w.heap.size w w' := by
  obtain ⟨hm, a, c, rfl, hcap, hc⟩ := hv
  obtain ⟨hm', a', c', rfl, hcap', hc'⟩ := hu
  unfold maxLen at hm hm'
  by_cases hlen : xs.length = ys.length
  · have hl1 : ((xs.length : Int) != ys.length) = false := by simp [hlen]
    go_enter Try.func30, Try.ntmps30
    go_wp2
    go_loopw [13] (fun i wr => ∃ k : Nat, k ≤ xs.length ∧ i = .int .i64 k ∧ xs.take k = ys.take k ∧ Below w.heap.size w wr) (fun i _ => xs.length - (intOf i).toNat)
    case atStart => exact ⟨0, Nat.zero_le _, rfl, rfl, Below.refl _ _⟩
    case round =>
      obtain ⟨k, hk, rfl, heq, hb⟩ := hrel
      by_cases hlt : k < xs.length
      · have hlt' : k < ys.length := by omega
        obtain ⟨b, o, rfl, hbs, hc1⟩ := hc k hlt
        obtain ⟨b', o', rfl, hbs', hc1'⟩ := hc' k hlt'
        have hc2 : wr.cell? ⟨b, o + k, none⟩ = some (.int .i64 xs[k]) := (hb.cell (p := ⟨b, o + k, none⟩) hbs).trans hc1
        have hc2' : wr.cell? ⟨b', o' + k, none⟩ = some (.int .i64 ys[k]) := (hb.cell (p := ⟨b', o' + k, none⟩) hbs').trans hc1'
        have hk0 : (0 : Int) ≤ (k : Int) := by omega
        have hk1 : (k : Int) < (xs.length : Int) := by omega
        have hk2 : (k : Int) < (ys.length : Int) := by omega
        have Heq := Lib.hid heq
        have Hlen := Lib.hid hlen
        clear hc hc' hc1 hc1' heq hlen
        cases hne : (xs[k] != ys[k])
        · go_wp2
          go_quiet (fail)
          go_wp2
          go_roundw
          case rel =>
            refine ⟨k + 1, by omega, by go_num, ?_, below_drewN _ hb⟩
            rw [List.take_succ_eq_append_getElem hlt, List.take_succ_eq_append_getElem hlt', Heq.out]
            simp at hne; rw [hne]
          case measure => simp [intOf]; omega
        · go_wp2
          go_quiet (fail)
          go_wp2
          go_ret
          refine ⟨ret_bool ?_, below_drewN _ hb⟩
          symm
          rw [beq_eq_false_iff_ne]
          rintro rfl
          simp at hne
      · have hk' : k = xs.length := by omega
        clear hc hc'
        have Heq := Lib.hid heq
        have Hlen := Lib.hid hlen
        have Hk' := Lib.hid hk'
        clear heq hlen hk'
        have hkk : ¬ k < ys.length := by have := Hlen.out; have := Hk'.out; omega
        go_wp2
        go_ret
        refine ⟨ret_bool ?_, hb⟩
        symm
        rw [beq_iff_eq]
        have h := Heq.out
        have h1 := Hk'.out
        have h2 := Hlen.out
        rwa [List.take_of_length_le (by omega), List.take_of_length_le (by omega)] at h
  · have hl1 : ((xs.length : Int) != ys.length) = true := by simp; omega
    have Hlen := Lib.hid hlen
    clear hlen
    go_enter Try.func30, Try.ntmps30
    go_wp2
    go_ret
    refine ⟨ret_bool ?_, Below.refl _ _⟩
    symm
    rw [beq_eq_false_iff_ne]
    rintro rfl
    exact Hlen.out rfl
end Go.Proofs.Ytnpfninkopffmaa

namespace Go.Proofs.Ytnpfninkopffmaa
open Go.RowKit
set_option linter.unusedVariables false
set_option linter.unusedSimpArgs false

/-- A talk from s til e is in the way of a meeting of that length at t. -/
def hitB (long t s e : Int) : Bool := decide (s < t + long) && decide (t < e)
def freeRow (xs : List Int) (long t : Int) (k : Nat) : Bool := (List.range k).all fun j => !(hitB long t (nth xs (2 * j)) (nth xs (2 * j + 1)))
theorem freeRow_succ (xs : List Int) (long t : Int) (k : Nat) : freeRow xs long t (k + 1) = (freeRow xs long t k && !(hitB long t (nth xs (2 * k)) (nth xs (2 * k + 1)))) := by
  unfold freeRow; rw [List.range_succ, List.all_append]; simp
def freeAt (xss : List (List Int)) (long t : Int) : Bool := xss.all fun xs => freeRow xs long t (xs.length / 2)
def freeF (xss : List (List Int)) (long til : Int) : Nat → Int → Option Int
  | 0, _ => none
  | k + 1, t => if t + long ≤ til then (if freeAt xss long t then some t else freeF xss long til k (t + 1)) else none
def freeOk (xss : List (List Int)) (f til long : Int) : Bool := decide (xss.length ≤ 8) && (win f 0 10000 && win til 0 10000) && win long 1 10000 && xss.all talksOk
def freeR (xss : List (List Int)) (f til long : Int) : Option Int := if freeOk xss f til long then freeF xss long til 20001 f else none

theorem freeF_end {xss : List (List Int)} {long til t : Int} (k : Nat) (h : ¬ t + long ≤ til) : freeF xss long til k t = none := by
  cases k with
  | zero => rfl
  | succ k => unfold freeF; rw [if_neg h]
theorem freeF_hit {xss : List (List Int)} {long til t : Int} (k : Nat) (h : t + long ≤ til) (hf : freeAt xss long t = true) : freeF xss long til (k + 1) t = some t := by
  unfold freeF; rw [if_pos h, if_pos hf]
theorem freeF_next {xss : List (List Int)} {long til t : Int} (k : Nat) (h : t + long ≤ til) (hf : freeAt xss long t = false) : freeF xss long til (k + 1) t = freeF xss long til k (t + 1) := by
  conv => lhs; unfold freeF
  rw [if_pos h, if_neg (by rw [hf]; exact Bool.false_ne_true)]
/-- Where nothing is free ahead of at. -/
theorem freeF_skip {xss : List (List Int)} {long til : Int} : ∀ (d k : Nat) (t : Int), (∀ s, t ≤ s → s < t + d → freeAt xss long s = false) → freeF xss long til (k + d) t = (if t + d + long ≤ til then freeF xss long til k (t + d) else none)
  | 0, k, t, _ => by
    by_cases h : t + ((0 : Nat) : Int) + long ≤ til
    · rw [if_pos h]; simp
    · rw [if_neg h]; exact freeF_end _ (by omega)
  | d + 1, k, t, h => by
    by_cases ht : t + long ≤ til
    · rw [show k + (d + 1) = (k + d) + 1 by omega, freeF_next _ ht (h t (Int.le_refl _) (by omega)), freeF_skip d k (t + 1) (fun s h1 h2 => h s (by omega) (by omega))]
      rw [show t + 1 + (d : Int) = t + ((d + 1 : Nat) : Int) by omega]
    · rw [freeF_end _ ht, if_neg (by omega)]
/-- What the search by jumps finds. -/
theorem free_jump {xss : List (List Int)} {f til long a : Int} (hok : freeOk xss f til long = true) (h0 : f ≤ a) (h1 : a ≤ 10000) (hno : ∀ t, f ≤ t → t < a → freeAt xss long t = false) (hfree : freeAt xss long a = true) :
    freeR xss f til long = if a + long > til then none else some a := by
  unfold freeR
  rw [if_pos hok]
  have hf : 0 ≤ f := by
    simp only [freeOk, Bool.and_eq_true] at hok
    exact (win_true.1 hok.1.1.2.1).1
  obtain ⟨d, rfl⟩ : ∃ d : Nat, a = f + d := ⟨(a - f).toNat, by omega⟩
  obtain ⟨k, hk⟩ : ∃ k, 20001 = (k + 1) + d := ⟨20000 - d, by omega⟩
  rw [hk, freeF_skip d (k + 1) f hno]
  by_cases h : f + (d : Int) + long > til
  · rw [if_pos h, if_neg (by omega)]
  · rw [if_neg h, if_pos (by omega), freeF_hit _ (by omega) hfree]
/-- No time that is jumped over is free. -/
theorem jump_none {xss : List (List Int)} {long a t : Int} {xs : List Int} {j : Nat} (hx : xs ∈ xss) (hj : j < xs.length / 2) (hh : hitB long a (nth xs (2 * j)) (nth xs (2 * j + 1)) = true) (h1 : a ≤ t) (h2 : t < nth xs (2 * j + 1)) : freeAt xss long t = false := by
  unfold freeAt
  rw [List.all_eq_false]
  refine ⟨xs, hx, ?_⟩
  unfold freeRow
  rw [List.all_eq_true]
  intro h
  have := h j (List.mem_range.2 hj)
  unfold hitB at this hh
  simp at this hh
  omega
end Go.Proofs.Ytnpfninkopffmaa

namespace Go.Proofs.Ytnpfninkopffmaa
open Go.RowKit
set_option linter.unusedVariables false
set_option linter.unusedSimpArgs false

/-- What FreeTime returns. -/
def retF (r : Option Int) : Ending := .returned (.tuple #[.int .i64 (r.getD 0), .bool r.isSome])
def freeHead (xss : List (List Int)) (f til long : Int) : Bool := decide (xss.length ≤ 8) && (win f 0 10000 && win til 0 10000) && win long 1 10000
theorem freeR_no {xss : List (List Int)} {f til long : Int} (h : freeHead xss f til long = false) : freeR xss f til long = none := by
  unfold freeR freeOk
  rw [show (decide (xss.length ≤ 8) && (win f 0 10000 && win til 0 10000) && win long 1 10000) = false from h]; rfl
theorem freeR_bad {xss : List (List Int)} {f til long : Int} {i : Nat} (hi : i < xss.length) (h : talksOk xss[i] = false) : freeR xss f til long = none := by
  have : xss.all talksOk = false := List.all_eq_false.2 ⟨_, List.getElem_mem hi, by rw [h]; exact Bool.false_ne_true⟩
  unfold freeR freeOk
  rw [this, Bool.and_false]; rfl
/-- The rounds of the tests. -/
def FreeT (n : Nat) (xss : List (List Int)) (w : World) (vk : Value) (wr : World) : Prop :=
  ∃ k : Nat, k ≤ n ∧ vk = .int .i64 k ∧ Hid ((xss.take k).all talksOk = true) ∧ Hid (Below w.heap.size w wr)
def FreeS (xss : List (List Int)) (f til long : Int) (w : World) (vt : Value) (wr : World) : Prop :=
  ∃ (t : Int) (k : Nat), vt = .int .i64 t ∧ 0 ≤ t ∧ t ≤ 10001 ∧ Hid (freeF xss long til k t = freeF xss long til 20001 f ∧ til - t + 1 ≤ k) ∧ Hid (Below w.heap.size w wr)
def FreeI (n : Nat) (xss : List (List Int)) (t long : Int) (w : World) (vf vi : Value) (wr : World) : Prop :=
  ∃ (i : Nat) (F : Bool), i ≤ n ∧ vf = .bool F ∧ vi = .int .i64 i ∧ Hid (F = (xss.take i).all fun xs => freeRow xs long t (xs.length / 2)) ∧ Hid (Below w.heap.size w wr)
def FreeJ (xs : List Int) (t long : Int) (F0 : Bool) (m : Nat) (w : World) (vf vj : Value) (wr : World) : Prop :=
  ∃ (j q : Nat) (F : Bool), j ≤ m ∧ q = 2 * j ∧ vf = .bool F ∧ vj = .int .i64 q ∧ Hid (F = (F0 && freeRow xs long t j)) ∧ Hid (Below w.heap.size w wr)

set_option maxRecDepth 100000 in
set_option maxHeartbeats 4000000 in
theorem specFree_any (v : Value) (xss : List (List Int)) (f til long : Int) (w : World) (hv : MatR w v xss) :
    Calls Try.prog 11 #[v, .int .i64 f, .int .i64 til, .int .i64 long] w fun e w' => e = retF (freeR xss f til long) ∧ Below w.heap.size w w' := by
  have HNO := Lib.hid (freeR_no (xss := xss) (f := f) (til := til) (long := long))
  have HBAD := Lib.hid (fun i hi h => freeR_bad (xss := xss) (f := f) (til := til) (long := long) (i := i) hi h)
  obtain ⟨a, c, rfl, hcap, hc⟩ := hv.at_
  have hm := hv.1
  unfold maxLen at hm
  have HC := Lib.hid hc
  clear hc hv
  have H1 : Hid (∀ n lo hi W, Calls Try.prog 54 #[.int .i64 n, .int .i64 lo, .int .i64 hi] W fun e w' => e = .returned (.bool (win n lo hi)) ∧ W = w') := fun n lo hi W => l00In_any n lo hi W
  obtain ⟨H, hH⟩ : ∃ H, freeHead xss f til long = H := ⟨_, rfl⟩
  obtain ⟨B, hB⟩ : ∃ B, B = !H := ⟨_, rfl⟩
  have HB := Lib.hid hB
  have HH := Lib.hid hH
  clear hB
  go_enter Try.func11, Try.ntmps11
  go_upto_region 1 with fail
  go_cut [32] from 15 to 32 (fun v1 wx => v1 = .bool B ∧ wx = w)
  case first =>
    unfold freeHead at hH
    by_cases h8 : xss.length ≤ 8
    · have hd8 : decide ((xss.length : Int) > 8) = false := by simp; omega
      rw [decide_eq_true h8] at hH
      cases z1 : win f 0 10000
      · have hf : Hid (B = true) := by rw [z1] at hH; show _ = _; rw [HB.out, ← hH]; rfl
        go_wp2_with (go_at_call 54; refine (H1.out _ _ _ _).mono ?_; rintro e w' ⟨rfl, rfl⟩; try rw [z1])
        go_meet
        exact ⟨by rw [hf.out], rfl⟩
      · cases z2 : win til 0 10000
        · have hf : Hid (B = true) := by rw [z1, z2] at hH; show _ = _; rw [HB.out, ← hH]; rfl
          go_wp2_with (go_at_call 54; refine (H1.out _ _ _ _).mono ?_; rintro e w' ⟨rfl, rfl⟩; first | rw [z1] | rw [z2])
          go_meet
          exact ⟨by rw [hf.out], rfl⟩
        · cases z3 : win long 1 10000
          · have hf : Hid (B = true) := by rw [z1, z2, z3] at hH; show _ = _; rw [HB.out, ← hH]; rfl
            go_wp2_with (go_at_call 54; refine (H1.out _ _ _ _).mono ?_; rintro e w' ⟨rfl, rfl⟩; first | rw [z1] | rw [z2] | rw [z3])
            go_meet
            exact ⟨by rw [hf.out], rfl⟩
          · have hf : Hid (B = false) := by rw [z1, z2, z3] at hH; show _ = _; rw [HB.out, ← hH]; rfl
            go_wp2_with (go_at_call 54; refine (H1.out _ _ _ _).mono ?_; rintro e w' ⟨rfl, rfl⟩; first | rw [z1] | rw [z2] | rw [z3])
            go_meet
            exact ⟨by rw [hf.out], rfl⟩
    · have hd8 : decide ((xss.length : Int) > 8) = true := by simp; omega
      have hf : Hid (B = true) := by rw [decide_eq_false h8] at hH; show _ = _; rw [HB.out, ← hH]; rfl
      go_wp2
      go_meet
      exact ⟨by rw [hf.out], rfl⟩
  case rest =>
  obtain ⟨rfl, rfl⟩ := hcut
  cases B with
  | true =>
    have hr : Hid (freeR xss f til long = none) := HNO.out (by have := HB.out; have h2 := HH.out; rw [h2]; simpa using this)
    go_wp2
    go_ret2
    exact ⟨by rw [hr.out]; rfl, Below.refl _ _⟩
  | false =>
    have hHt : Hid (freeHead xss f til long = true) := by have := HB.out; have h2 := HH.out; show _ = _; rw [h2]; simpa using this
    clear HNO HB HH H1 hH
    have h8 : xss.length ≤ 8 := by
      have h := hHt.out
      unfold freeHead at h
      simp only [Bool.and_eq_true, decide_eq_true_eq] at h
      exact h.1.1
    have hf : 0 ≤ f ∧ f ≤ 10000 ∧ 0 ≤ til ∧ til ≤ 10000 ∧ 1 ≤ long ∧ long ≤ 10000 := by
      have h := hHt.out
      unfold freeHead at h
      simp only [Bool.and_eq_true] at h
      have h1 := win_true.1 h.1.2.1
      have h2 := win_true.1 h.1.2.2
      have h3 := win_true.1 h.2
      exact ⟨h1.1, h1.2, h2.1, h2.2, h3.1, h3.2⟩
    obtain ⟨f0, f1, g0, g1, l0, l1⟩ := hf
    go_wp2
    go_loopw [35] (fun vk wr => FreeT xss.length xss wc vk wr) (fun vk _ => xss.length - (intOf vk).toNat)
    case atStart => exact ⟨0, Nat.zero_le _, rfl, rfl, Below.refl _ _⟩
    case round =>
      obtain ⟨k, hk, rfl, HT, HW⟩ := hrel
      by_cases hkl : k < xss.length
      · obtain ⟨b, o, u, rfl, hbs, hr, hcell⟩ := HC.out k hkl
        have k1 : (k : Int) < (xss.length : Int) := by omega
        have k0 : (0 : Int) ≤ (k : Int) := by omega
        have ck := (HW.out.cell (p := ⟨b, o + k, none⟩) hbs).trans hcell
        have hri := (hr.below HW.out (Nat.le_refl _)).ints
        have HCT := Lib.hid (specTalks_any u xss[k] wr hri.1 hri.2)
        obtain ⟨T, hT⟩ : ∃ T, talksOk xss[k] = T := ⟨_, rfl⟩
        rw [hT] at HCT
        have HTT := Lib.hid hT
        have HNX : Hid (T ≠ false → (xss.take (k + 1)).all talksOk = true) := fun h => by
          rw [List.take_succ_eq_append_getElem hkl, List.all_append, HT.out]; simp [hT]; simpa using h
        clear hcell hr hri hT
        cases T
        · have HR := Lib.hid (HBAD.out k hkl HTT.out)
          go_wp2_with (go_at_call 55; refine HCT.out.mono ?_; rintro e W1 ⟨rfl, hb⟩; have HB1 : Hid (Below wc.heap.size wc W1) := HW.out.trans (hb.mono HW.out.size); clear hb)
          go_ret2
          exact ⟨by rw [HR.out]; rfl, HB1.out⟩
        · go_wp2_with (go_at_call 55; refine HCT.out.mono ?_; rintro e W1 ⟨rfl, hb⟩; have HB1 : Hid (Below wc.heap.size wc W1) := HW.out.trans (hb.mono HW.out.size); clear hb)
          go_roundw
          case rel => exact ⟨k + 1, by omega, by go_num, HNX.out (by simp), HB1.out⟩
          case measure => simp [intOf]; omega
      · have k1 : ¬ (k : Int) < (xss.length : Int) := by omega
        have HALL : Hid (xss.all talksOk = true) := by
          have := HT.out
          rw [List.take_of_length_le (by omega)] at this
          exact this
        have HOK : Hid (freeR xss f til long = freeF xss long til 20001 f) := by
          show _ = _
          unfold freeR freeOk
          rw [show (decide (xss.length ≤ 8) && (win f 0 10000 && win til 0 10000) && win long 1 10000) = true from hHt.out, HALL.out]; rfl
        have HST : Hid (FreeS xss f til long wc (.int .i64 f) wr) := ⟨f, 20001, rfl, f0, by omega, ⟨rfl, by omega⟩, HW.out⟩
        clear HBAD HT HW
        go_wp2
        go_loopw [11] (fun vt wr => FreeS xss f til long wc vt wr) (fun vt _ => (til + 1 - intOf vt).toNat)
        case atStart => exact HST.out
        case round =>
          obtain ⟨t, kk, rfl, t0, t9, HF, HW⟩ := hrel
          clear HST
          have tlw : IntKind.i64.wrap (t + long) = t + long := IntWalk.i64_in _ (by omega)
          by_cases htl : t + long ≤ til
          · obtain ⟨Wt, hWt⟩ : ∃ W : World, W = wr := ⟨_, rfl⟩
            subst hWt
            go_wp2
            go_loopw [12, 55] (fun vf vi wi => FreeI xss.length xss t long Wt vf vi wi) (fun _ vi _ => xss.length - (intOf vi).toNat)
            case atStart => exact ⟨0, true, Nat.zero_le _, rfl, rfl, rfl, Below.refl _ _⟩
            case round =>
              obtain ⟨i, F, hi, rfl, rfl, HFF, HWi⟩ := hrel
              by_cases hil : i < xss.length
              · have i1 : (i : Int) < (xss.length : Int) := by omega
                have i0 : (0 : Int) ≤ (i : Int) := by omega
                obtain ⟨Wi, hWi⟩ : ∃ W : World, W = wr := ⟨_, rfl⟩
                subst hWi
                go_wp2
                obtain ⟨b, o, u, rfl, hbs, hr, hcell⟩ := HC.out i hil
                obtain ⟨⟨hm2, a2, c2, rfl, hcap2, hc2⟩, _⟩ := hr.ints
                have HX : Hid (talksOk xss[i] = true) := List.all_eq_true.1 HALL.out _ (List.getElem_mem hil)
                have HNX : Hid ((xss.take (i + 1)).all (fun xs => freeRow xs long t (xs.length / 2)) = (F && freeRow xss[i] long t (xss[i].length / 2))) := by
                  show _ = _
                  rw [List.take_succ_eq_append_getElem hil, List.all_append, ← HFF.out]; simp
                obtain ⟨xs, hxs⟩ : ∃ xs, xss[i] = xs := ⟨_, rfl⟩
                rw [hxs] at HX HNX hcap2 hm2 hcell
                have hc2' : ∀ (j : Nat) (h : j < xs.length), ∃ b o, a2 = some ⟨b, o, none⟩ ∧ b < wc.heap.size ∧ wc.cell? ⟨b, o + j, none⟩ = some (.int .i64 xs[j]) := by subst hxs; exact hc2
                have hx := HX.out
                simp only [talksOk, talksHead, Bool.and_eq_true, decide_eq_true_eq] at hx
                have hx2 := (many_true.1 hx.1.1).1
                have hx3 := (many_true.1 hx.1.1).2.1
                have hx4 := hx.1.2
                obtain ⟨m, hm⟩ : ∃ m, xs.length = 2 * m := ⟨xs.length / 2, by omega⟩
                have hm1 : m ≤ 32 := by omega
                have hm0 : 1 ≤ m := by omega
                obtain ⟨b2, o2, ha2, hb2, hcs2⟩ := row_at hc2'
                obtain rfl := ha2 (by omega)
                have hb2 := hb2 (by omega)
                have HBW : Hid (∀ W, Below Wi.heap.size Wi W → Below wc.heap.size wc W) := fun W hW => by
                  have h1 := HWi.out.trans (hW.mono HWi.out.size)
                  exact HW.out.trans (h1.mono HW.out.size)
                have HCS : Hid (∀ W, Below Wi.heap.size Wi W → W.cell? ⟨b, o + i, none⟩ = some (.slice (some ⟨b2, o2, none⟩) xs.length c2) ∧ ∀ j, j < xs.length → W.cell? ⟨b2, o2 + j, none⟩ = some (.int .i64 (nth xs j))) := fun W hW =>
                  ⟨((HBW.out W hW).cell (p := ⟨b, o + i, none⟩) hbs).trans hcell, fun j hj => by rw [nth_eq hj]; exact ((HBW.out W hW).cell (p := ⟨b2, o2 + j, none⟩) hb2).trans (hcs2 j hj)⟩
                have HXM := Lib.hid hm
                clear hx hc2 hc2' hxs hcs2 hcell hr hx2 hx3 hx4 hm ha2
                go_loopw [12, 14] (fun vf vj wj => FreeJ xs t long F m Wi vf vj wj) (fun _ vj _ => 2 * m - (intOf vj).toNat)
                case atStart => exact ⟨0, 0, F, Nat.zero_le _, rfl, rfl, rfl, by show _ = _; simp [freeRow], Below.refl _ _⟩
                case round =>
                  obtain ⟨j, q, G, hj, hq, rfl, rfl, HG, HWj⟩ := hrel
                  obtain ⟨cb, cj⟩ := HCS.out wr HWj.out
                  have hxm := HXM.out
                  have hq2 := Lib.hid hq
                  by_cases hjm : j < m
                  · have j1 : (q : Int) < (xs.length : Int) := by omega
                    have j0 : (0 : Int) ≤ (q : Int) := by omega
                    have cA := cj q (by omega)
                    have cB := cj (q + 1) (by omega)
                    have hqb : q + 2 ≤ 1000 := by omega
                    have qw : IntKind.i64.wrap ((q : Int) + 1) = (q : Int) + 1 := IntWalk.i64_in _ (by omega)
                    have j2 : (0 : Int) ≤ (q : Int) + 1 := by omega
                    have j3 : (q : Int) + 1 < (xs.length : Int) := by omega
                    have n1 : ((q : Int) + 1).toNat = q + 1 := by omega
                    have HGN : Hid ((F && freeRow xs long t (j + 1)) = (G && !(hitB long t (nth xs q) (nth xs (q + 1))))) := by
                      show _ = _
                      rw [freeRow_succ, ← Bool.and_assoc, ← HG.out, hq2.out]
                    obtain ⟨A, hA⟩ : ∃ A, nth xs q = A := ⟨_, rfl⟩
                    obtain ⟨E, hE⟩ : ∃ E, nth xs (q + 1) = E := ⟨_, rfl⟩
                    rw [hA] at cA HGN
                    rw [hE] at cB HGN
                    unfold hitB at HGN
                    clear hA hE hxm hq cj
                    by_cases hlt : A < t + long
                    · have d1 : decide (A < t + long) = true := by simpa using hlt
                      by_cases hlt2 : t < E
                      · have d2 : decide (t < E) = true := by simpa using hlt2
                        rw [d1, d2] at HGN
                        go_wp2
                        go_roundw
                        case rel => exact ⟨j + 1, q + 2, false, by omega, by have := hq2.out; omega, rfl, by go_num, by show _ = _; rw [HGN.out]; simp, HWj.out⟩
                        case measure => have := hq2.out; simp [intOf]; omega
                      · have d2 : decide (t < E) = false := by simpa using hlt2
                        rw [d1, d2] at HGN
                        go_wp2
                        go_roundw
                        case rel => exact ⟨j + 1, q + 2, G, by omega, by have := hq2.out; omega, rfl, by go_num, by show _ = _; rw [HGN.out]; simp, HWj.out⟩
                        case measure => have := hq2.out; simp [intOf]; omega
                    · have d1 : decide (A < t + long) = false := by simpa using hlt
                      rw [d1] at HGN
                      go_wp2
                      go_roundw
                      case rel => exact ⟨j + 1, q + 2, G, by omega, by have := hq2.out; omega, rfl, by go_num, by show _ = _; rw [HGN.out]; simp, HWj.out⟩
                      case measure => have := hq2.out; simp [intOf]; omega
                  · have j1 : ¬ (q : Int) < (xs.length : Int) := by omega
                    have HGE : Hid (G = (xss.take (i + 1)).all fun xs => freeRow xs long t (xs.length / 2)) := by
                      show _ = _
                      rw [HNX.out, HG.out, show xs.length / 2 = j by omega]
                    have HWE : Hid (Below Wt.heap.size Wt wr) := HWi.out.trans (HWj.out.mono HWi.out.size)
                    clear HG cj hxm hq
                    go_wp2
                    go_roundw
                    case rel => exact ⟨i + 1, G, by omega, rfl, by go_num, HGE.out, HWE.out⟩
                    case measure => simp [intOf]; omega
              · have i1 : ¬ (i : Int) < (xss.length : Int) := by omega
                have HFA : Hid (F = freeAt xss long t) := by
                  show _ = _
                  rw [HFF.out, List.take_of_length_le (by omega)]; rfl
                have HWE : Hid (Below wc.heap.size wc wr) := HW.out.trans (HWi.out.mono HW.out.size)
                have hkk := HF.out
                obtain ⟨k', hk'⟩ : ∃ k', kk = k' + 1 := ⟨kk - 1, by omega⟩
                have HKK := Lib.hid hk'
                clear HFF hkk hk'
                cases F
                · have HN : Hid (freeF xss long til k' (t + 1) = freeF xss long til 20001 f ∧ til - (t + 1) + 1 ≤ k') := by
                    have h := HF.out
                    rw [HKK.out, freeF_next _ htl HFA.out.symm] at h
                    exact ⟨h.1, by omega⟩
                  go_wp2
                  go_roundw
                  case rel => exact ⟨t + 1, k', by go_num, by omega, by omega, HN.out, HWE.out⟩
                  case measure => simp [intOf]; omega
                · have HN : Hid (freeR xss f til long = some t) := by
                    have h := HF.out.1
                    rw [HKK.out, freeF_hit _ htl HFA.out.symm] at h
                    show _ = _
                    rw [HOK.out, ← h]
                  go_wp2
                  go_ret2
                  exact ⟨by rw [HN.out]; rfl, HWE.out⟩
          · have HN : Hid (freeR xss f til long = none) := by
              have h := HF.out.1
              rw [freeF_end _ htl] at h
              show _ = _
              rw [HOK.out, ← h]
            go_wp2
            go_ret2
            exact ⟨by rw [HN.out]; rfl, HW.out⟩
end Go.Proofs.Ytnpfninkopffmaa

namespace Go.Proofs.Ytnpfninkopffmaa
open Go.RowKit Go.Shelf
set_option linter.unusedVariables false
set_option linter.unusedSimpArgs false
attribute [local go_sem] Oper.semAt_some

theorem boxed_drewF {W : World} {b : Nat} {t : TypeId} {v : Value} (h : Boxed W b t v) (q : Nat) : Boxed (W.drewN q) b t v := h
theorem boxed_blwF {W W' : World} {b N : Nat} {t : TypeId} {v : Value} (h : Boxed W b t v) (hb : Below N W W') (hN : b < N) : Boxed W' b t v := (hb.block b hN).trans h
/-- The mark that a loop over a function leaves. -/
def markD (D : Nat) : Deferred := { target := .collected D, args := #[] }
/-- All marks' blocks are open, and no two are one. -/
structure OpenD (N : Nat) (Ds : List Nat) (W : World) : Prop where
  open_ : ∀ D ∈ Ds, N ≤ D ∧ W.heap[D]? = some (.deferred (some []))
  nodup : Ds.Pairwise fun x y => x ≠ y
theorem OpenD.nil (N : Nat) (W : World) : OpenD N [] W := ⟨fun D h => (by cases h), List.Pairwise.nil⟩
theorem OpenD.grownL {N : Nat} {Ds : List Nat} {gs : List Nat} {A W : World} (h : OpenD N Ds A) (hg : GrownL gs A W) (hn : ∀ D ∈ Ds, D ∉ gs) : OpenD N Ds W :=
  ⟨fun D hD => ⟨(h.open_ D hD).1, (hg.block D (Array.getElem?_eq_some_iff.1 (h.open_ D hD).2).1 (hn D hD)).trans (h.open_ D hD).2⟩, h.nodup⟩
theorem OpenD.cons {N D : Nat} {Ds : List Nat} {A W : World} (h : OpenD N Ds W) (hA : OpenD N Ds A) (hD : A.heap.size ≤ D) (hN : N ≤ D) (hK : W.heap[D]? = some (.deferred (some []))) : OpenD N (D :: Ds) W :=
  ⟨fun x hx => by
    rcases List.mem_cons.1 hx with rfl | hx
    · exact ⟨hN, hK⟩
    · exact h.open_ x hx, List.pairwise_cons.2 ⟨fun x hx e => by
      have := (Array.getElem?_eq_some_iff.1 (hA.open_ x hx).2).1
      omega, h.nodup⟩⟩
/-- A cell's block is no mark's. -/
theorem OpenD.not_boxed {N : Nat} {Ds : List Nat} {W : World} {b : Nat} {t : TypeId} {v : Value} (h : OpenD N Ds W) (hb : Boxed W b t v) : b ∉ Ds := fun hm => by
  have h1 := (h.open_ b hm).2
  rw [show W.heap[b]? = some (.cells #[v] t (0, 0)) from hb] at h1
  cases h1
/-- The end of a function that holds loops over iterators, each run so and so often. -/
theorem bodyM_rets {P : Program} {n : Nat} {fn : Func} {R : Ending → World → Prop} {tmps : Array Value} {v : Value} {N : Nat} (hres : ∀ W, (results fn tmps).run P W = .ok v W) :
    ∀ (Ds : List Nat) (W : World), OpenD N Ds W → (∀ W', Below N W W' → R (.returned v) W') → LeavesInM Fence.wide n P fn tmps R (Ds.map markD) .returning W
  | [], W, _, hR => ⟨v, hres W, hR W (Below.refl _ _)⟩
  | D :: Ds, W, h, hR => by
    obtain ⟨h1, h2⟩ := h.open_ D (List.mem_cons_self ..)
    have hp := List.pairwise_cons.1 h.nodup
    refine ⟨by simp, .inl ⟨D, W.putObj D (.deferred none), rfl, run_takeDeferred h2, ?_⟩⟩
    have hb : Below N W (W.putObj D (.deferred none)) := below_putObj (Below.refl _ _) h1 h2
    refine bodyM_rets hres Ds _ ⟨fun x hx => ⟨(h.open_ x (List.mem_cons_of_mem _ hx)).1, ?_⟩, hp.2⟩ (fun W' hW' => hR W' (hb.trans hW'))
    rw [World.putObj_heap_other (fun e => hp.1 x hx e.symm)]
    exact (h.open_ x (List.mem_cons_of_mem _ hx)).2

/-- The frames of the two loops. -/
def frO (s0 : Value) (f til long : Int) (bl ba : Nat) (n k : Nat) (x : Nat → Value) (bm : Nat) (u : Nat → Value) : Array Value :=
  #[s0, .int .i64 f, .int .i64 til, .int .i64 long, undef, undef, undef, .pointer (some ⟨bl, 0, none⟩), x 8, x 9, undef, x 11, .pointer (some ⟨ba, 0, none⟩), .pointer (some ⟨bm, 0, none⟩), undef, u 15, u 16, x 17, x 18, x 19, x 20, x 21, x 22, x 23, x 24, x 25, x 26, x 27, x 28, x 29, x 30, .bool false, s0, .int .i64 n, .int .i64 k, .bool false, x 36, x 37, x 38, x 39, x 40, x 41, .int .i64 f, u 43, u 44, u 45, u 46, u 47, u 48, u 49, u 50, u 51, u 52, u 53, u 54, u 55, u 56, u 57, u 58, u 59, u 60, u 61, u 62, u 63, u 64, u 65, u 66, u 67, u 68, u 69, u 70, u 71, undef, undef, undef, undef, undef, undef]
def frI (s0 : Value) (f til long : Int) (bl ba : Nat) (n k : Nat) (x : Nat → Value) (bm : Nat) (q : Nat) (u : Nat → Value) : Array Value :=
  #[s0, .int .i64 f, .int .i64 til, .int .i64 long, undef, undef, undef, .pointer (some ⟨bl, 0, none⟩), x 8, x 9, undef, x 11, .pointer (some ⟨ba, 0, none⟩), .pointer (some ⟨bm, 0, none⟩), undef, u 15, u 16, x 17, x 18, x 19, x 20, x 21, x 22, x 23, x 24, x 25, x 26, x 27, x 28, x 29, x 30, .bool false, s0, .int .i64 n, .int .i64 k, .bool false, x 36, x 37, x 38, x 39, x 40, x 41, .int .i64 f, u 43, s0, .int .i64 n, .int .i64 q, u 47, u 48, u 49, u 50, u 51, u 52, u 53, u 54, u 55, u 56, u 57, u 58, u 59, u 60, u 61, u 62, u 63, u 64, u 65, u 66, u 67, u 68, u 69, u 70, u 71, undef, undef, undef, undef, undef, undef]
/-- What is known of the time reached. -/
structure AtOk (xss : List (List Int)) (f long a : Int) : Prop where
  lo : f ≤ a
  hi : a ≤ 10000
  no : ∀ t, f ≤ t → t < a → freeAt xss long t = false
/-- The boxes: how long, the time, whether it has moved. -/
structure FreeB (bl ba bm : Nat) (long a : Int) (mv : Bool) (W : World) : Prop where
  l : Boxed W bl 2 (.int .i64 long)
  a : Boxed W ba 2 (.int .i64 a)
  m : Boxed W bm 4 (.bool mv)
/-- The rounds of the outer loop. -/
def FreeO (xss : List (List Int)) (s0 : Value) (f til long : Int) (bl ba : Nat) (n k : Nat) (x : Nat → Value) (N : Nat) (A : World) (act : Act) (wr : World) : Prop :=
  ∃ (Ds : List Nat) (a : Int) (mv : Bool) (bm : Nat) (u : Nat → Value), act = ⟨frO s0 f til long bl ba n k x bm u, Ds.map markD⟩ ∧ Hid (OpenD N Ds wr) ∧ Hid (GrownL [ba, ba + 1] A wr) ∧ Hid (FreeB bl ba bm long a mv wr) ∧ Hid (bm = ba + 1 ∨ A.heap.size ≤ bm) ∧ Hid (AtOk xss f long a) ∧ Hid (mv = false → freeAt xss long a = true)
def FreeN (xss : List (List Int)) (s0 : Value) (f til long a0 : Int) (bl ba : Nat) (n k : Nat) (x : Nat → Value) (bm : Nat) (N : Nat) (A : World) (act : Act) (wr : World) : Prop :=
  ∃ (Ds : List Nat) (a : Int) (mv : Bool) (q : Nat) (u : Nat → Value), act = ⟨frI s0 f til long bl ba n k x bm q u, Ds.map markD⟩ ∧ q ≤ n ∧ Hid (OpenD N Ds wr) ∧ Hid (GrownL [ba, ba + 1] A wr) ∧ Hid (FreeB bl ba bm long a mv wr) ∧ Hid (AtOk xss f long a) ∧ Hid ((mv = true → a0 < a) ∧ (mv = false → a = a0 ∧ ((xss.take q).all fun xs => freeRow xs long a0 (xs.length / 2)) = true))
theorem FreeN.of {xss : List (List Int)} {s0 : Value} {f til long a0 : Int} {bl ba n k : Nat} {x : Nat → Value} {bm N : Nat} {A : World} {act : Act} {wr : World} (Ds : List Nat) (a : Int) (mv : Bool) (q : Nat)
    (h : act = ⟨frI s0 f til long bl ba n k x bm q (fun i => act.tmps.getD i undef), Ds.map markD⟩) (hq : q ≤ n) (h1 : OpenD N Ds wr) (h2 : GrownL [ba, ba + 1] A wr) (h3 : FreeB bl ba bm long a mv wr) (h4 : AtOk xss f long a) (h5 : (mv = true → a0 < a) ∧ (mv = false → a = a0 ∧ ((xss.take q).all fun xs => freeRow xs long a0 (xs.length / 2)) = true)) :
    FreeN xss s0 f til long a0 bl ba n k x bm N A act wr := ⟨Ds, a, mv, q, _, h, hq, h1, h2, h3, h4, h5⟩
theorem FreeO.of {xss : List (List Int)} {s0 : Value} {f til long : Int} {bl ba n k : Nat} {x : Nat → Value} {N : Nat} {A : World} {act : Act} {wr : World} (Ds : List Nat) (a : Int) (mv : Bool) (bm : Nat)
    (h : act = ⟨frO s0 f til long bl ba n k x bm (fun i => act.tmps.getD i undef), Ds.map markD⟩) (h1 : OpenD N Ds wr) (h2 : GrownL [ba, ba + 1] A wr) (h3 : FreeB bl ba bm long a mv wr) (h4 : bm = ba + 1 ∨ A.heap.size ≤ bm) (h5 : AtOk xss f long a) (h6 : mv = false → freeAt xss long a = true) :
    FreeO xss s0 f til long bl ba n k x N A act wr := ⟨Ds, a, mv, bm, _, h, h1, h2, h3, h4, h5, h6⟩
/-- A jump over a talk that is in the way. -/
theorem AtOk.jump {xss : List (List Int)} {f long a : Int} {xs : List Int} {j : Nat} (h : AtOk xss f long a) (hx : xs ∈ xss) (hj : j < xs.length / 2) (hh : hitB long a (nth xs (2 * j)) (nth xs (2 * j + 1)) = true) (he : nth xs (2 * j + 1) ≤ 10000) :
    AtOk xss f long (nth xs (2 * j + 1)) ∧ a < nth xs (2 * j + 1) := by
  have h1 : a < nth xs (2 * j + 1) := by unfold hitB at hh; simp at hh; exact hh.2
  refine ⟨⟨by have := h.lo; omega, he, fun t t1 t2 => ?_⟩, h1⟩
  by_cases ht : t < a
  · exact h.no t t1 ht
  · exact jump_none hx hj hh (by omega) t2
/-- What is known within a row of talks. -/
structure InRow (xss : List (List Int)) (xs : List Int) (f long a0 a : Int) (mv : Bool) (done : Bool) (js : List Nat) : Prop where
  ok : AtOk xss f long a
  moved : mv = true → a0 < a
  still : mv = false → a = a0 ∧ done = true ∧ ∀ j ∈ js, hitB long a0 (nth xs (2 * j)) (nth xs (2 * j + 1)) = false
theorem ownFrom_ex {β γ : Type} {B : Nat} {g : γ → β → World → Prop} (h : ∀ a, OwnFrom B (g a)) : OwnFrom B (fun s W => ∃ a, g a s W) := fun s W W' row hs hg hr => by
  obtain ⟨a, ha⟩ := hs
  exact ⟨a, h a s W W' row ha hg hr⟩
def ptrB : Value → Nat
  | .pointer (some p) => p.block
  | _ => 0
def freeMu (ba : Nat) (act : Act) (w : World) : Nat :=
  2 * (10000 - (intOf ((w.cell? ⟨ba, 0, none⟩).getD undef)).toNat) + (match (w.cell? ⟨ptrB (act.tmps.getD 13 undef), 0, none⟩).getD undef with | .bool true => 1 | _ => 0)
theorem freeMu_eq {s0 : Value} {f til long a : Int} {bl ba n k bm : Nat} {x u : Nat → Value} {ds : List Deferred} {w : World} {mv : Bool} (h : FreeB bl ba bm long a mv w) (h0 : 0 ≤ a) :
    freeMu ba ⟨frO s0 f til long bl ba n k x bm u, ds⟩ w = 2 * (10000 - a.toNat) + (if mv then 1 else 0) := by
  unfold freeMu
  have e : (frO s0 f til long bl ba n k x bm u).getD 13 undef = .pointer (some ⟨bm, 0, none⟩) := rfl
  show 2 * (10000 - (intOf ((w.cell? ⟨ba, 0, none⟩).getD undef)).toNat) + _ = _
  rw [h.a.cell, e]
  show _ + (match (w.cell? ⟨bm, 0, none⟩).getD undef with | .bool true => 1 | _ => 0) = _
  rw [h.m.cell]
  cases mv <;> rfl

theorem freeMu_act {long a : Int} {bl ba bm : Nat} {act : Act} {w : World} {mv : Bool} (h : FreeB bl ba bm long a mv w) (e : act.tmps.getD 13 undef = .pointer (some ⟨bm, 0, none⟩)) :
    freeMu ba act w = 2 * (10000 - a.toNat) + (if mv then 1 else 0) := by
  unfold freeMu
  rw [h.a.cell, e]
  show _ + (match (w.cell? ⟨bm, 0, none⟩).getD undef with | .bool true => 1 | _ => 0) = _
  rw [h.m.cell]
  cases mv <;> rfl

set_option maxRecDepth 100000 in
set_option maxHeartbeats 4000000 in
theorem implFree_any (v : Value) (xss : List (List Int)) (f til long : Int) (w : World) (hv : MatR w v xss) :
    Calls Try.prog 13 #[v, .int .i64 f, .int .i64 til, .int .i64 long] w fun e w' => e = retF (freeR xss f til long) ∧ Below w.heap.size w w' := by
  have HNO := Lib.hid (freeR_no (xss := xss) (f := f) (til := til) (long := long))
  have HBAD := Lib.hid (fun i hi h => freeR_bad (xss := xss) (f := f) (til := til) (long := long) (i := i) hi h)
  have HMV := Lib.hid hv
  obtain ⟨a, c, rfl, hcap, hc⟩ := hv.at_
  have hm := hv.1
  unfold maxLen at hm
  have HC := Lib.hid hc
  clear hc hv
  obtain ⟨W0, hW0⟩ : ∃ W, w.alloc (.cells #[.int .i64 long] 2) = W := ⟨_, rfl⟩
  have HB0 : Hid (Below w.heap.size w W0 ∧ W0.heap.size = w.heap.size + 1) := by show Below _ _ _ ∧ _; rw [← hW0]; exact ⟨(Below.refl _ w).alloc (Nat.le_refl _) _, by simp⟩
  have hX0 : Boxed W0 w.heap.size 2 (.int .i64 long) := by rw [← hW0]; exact Boxed.new _ _ _
  have hc0 := hX0.cell
  have HX0 := Lib.hid hX0
  have HA : Hid (Calls Try.prog 56 #[.slice (some ⟨W0.heap.size, 0, none⟩) 2 2, .int .i64 0, .int .i64 10000] (W0.alloc (.cells #[.int .i64 f, .int .i64 til] 2)) fun e w' => e = .returned (.bool (win f 0 10000 && win til 0 10000)) ∧ (W0.alloc (.cells #[.int .i64 f, .int .i64 til] 2)) = w') := by
    have := areWithin_any (.slice (some ⟨W0.heap.size, 0, none⟩) 2 2) [f, til] 0 10000 (W0.alloc (.cells #[.int .i64 f, .int .i64 til] 2)) (OwnI.lit W0 W0.heap.size [f, til] (Nat.le_refl _) (by unfold maxLen; simp)).ints
    rw [show ([f, til].all fun n => win n 0 10000) = (win f 0 10000 && win til 0 10000) from by simp [List.all_cons]] at this
    exact this
  have HWI : Hid (∀ W, Calls Try.prog 57 #[.int .i64 long, .int .i64 1, .int .i64 10000] W fun e w' => e = .returned (.bool (win long 1 10000)) ∧ W = w') := fun W => within_any long 1 10000 W
  obtain ⟨W1, hW1⟩ : ∃ W, W0.alloc (.cells #[.int .i64 f, .int .i64 til] 2) = W := ⟨_, rfl⟩
  have HB1 : Hid (Below W0.heap.size W0 W1) := by show Below _ _ _; rw [← hW1]; exact (Below.refl _ W0).alloc (Nat.le_refl _) _
  rw [hW1] at HA
  have hc1 := (boxed_blwF hX0 HB1.out (by have := HB0.out.2; omega)).cell
  obtain ⟨H, hH⟩ : ∃ H, freeHead xss f til long = H := ⟨_, rfl⟩
  obtain ⟨B, hB⟩ : ∃ B, B = !H := ⟨_, rfl⟩
  have HB := Lib.hid hB
  have HH := Lib.hid hH
  clear hB hX0
  refine (callsIn_wide (n := 9)).1 ?_
  refine callsIn_of_wp_marks Try.func13 rfl trivial ?_ rfl
  simp only [Try.ntmps13, List.size_toArray, List.length_cons, List.length_nil, Nat.reduceAdd, Nat.reduceSub, Array.replicate_succ, Array.replicate_zero, List.push_toArray, List.append_toArray, List.nil_append, List.cons_append]
  refine wpIn_wide.2 ?_
  go_upto_region 1 with fail
  go_cut [31] from 17 to 31 (fun v1 wx => v1 = .bool B ∧ Hid (Below W0.heap.size W0 wx))
  case first =>
    unfold freeHead at hH
    by_cases h8 : xss.length ≤ 8
    · have hd8 : decide ((xss.length : Int) > 8) = false := by simp; omega
      rw [decide_eq_true h8] at hH
      cases z1 : (win f 0 10000 && win til 0 10000)
      · have hf : Hid (B = true) := by rw [z1] at hH; show _ = _; rw [HB.out, ← hH]; rfl
        rw [z1] at HA
        go_wp2_with (first | (go_at_call 56; refine HA.out.mono ?_; rintro e w' ⟨rfl, rfl⟩))
        go_meet
        exact ⟨by rw [hf.out], HB1.out⟩
      · rw [z1] at HA
        cases z3 : win long 1 10000
        · have hf : Hid (B = true) := by rw [z1, z3] at hH; show _ = _; rw [HB.out, ← hH]; rfl
          rw [z3] at HWI
          go_wp2_with (first | (go_at_call 56; refine HA.out.mono ?_; rintro e w' ⟨rfl, rfl⟩) | (go_at_call 57; refine (HWI.out _).mono ?_; rintro e w' ⟨rfl, rfl⟩))
          go_meet
          exact ⟨by rw [hf.out], HB1.out⟩
        · have hf : Hid (B = false) := by rw [z1, z3] at hH; show _ = _; rw [HB.out, ← hH]; rfl
          rw [z3] at HWI
          go_wp2_with (first | (go_at_call 56; refine HA.out.mono ?_; rintro e w' ⟨rfl, rfl⟩) | (go_at_call 57; refine (HWI.out _).mono ?_; rintro e w' ⟨rfl, rfl⟩))
          go_meet
          exact ⟨by rw [hf.out], HB1.out⟩
    · have hd8 : decide ((xss.length : Int) > 8) = true := by simp; omega
      have hf : Hid (B = true) := by rw [decide_eq_false h8] at hH; show _ = _; rw [HB.out, ← hH]; rfl
      go_wp2
      go_meet
      exact ⟨by rw [hf.out], Below.refl _ _⟩
  case rest =>
  obtain ⟨rfl, hbc⟩ := hcut
  have HBW : Hid (Below w.heap.size w wc ∧ Boxed wc w.heap.size 2 (.int .i64 long)) := ⟨HB0.out.1.trans (hbc.out.mono (by have := HB0.out.2; omega)), boxed_blwF HX0.out hbc.out (by have := HB0.out.2; omega)⟩
  clear hbc hc0 hc1 HA HWI HB1 HX0 HB0 hW0 hW1
  cases B with
  | true =>
    have hr : Hid (freeR xss f til long = none) := HNO.out (by have := HB.out; have h2 := HH.out; rw [h2]; simpa using this)
    go_wp2
    refine bodyM_rets (v := .tuple #[.int .i64 0, .bool false]) (N := w.heap.size) (fun W => by simp [results, Try.results13, go_sem]) [] wc (OpenD.nil _ _) (fun W' hW' => ⟨by rw [hr.out]; rfl, HBW.out.1.trans hW'⟩)
  | false =>
    have hHt : Hid (freeHead xss f til long = true) := by have := HB.out; have h2 := HH.out; show _ = _; rw [h2]; simpa using this
    clear HNO HB HH hH
    have h8 : xss.length ≤ 8 := by
      have h := hHt.out
      unfold freeHead at h
      simp only [Bool.and_eq_true, decide_eq_true_eq] at h
      exact h.1.1
    have hf : 0 ≤ f ∧ f ≤ 10000 ∧ 0 ≤ til ∧ til ≤ 10000 ∧ 1 ≤ long ∧ long ≤ 10000 := by
      have h := hHt.out
      unfold freeHead at h
      simp only [Bool.and_eq_true] at h
      have h1 := win_true.1 h.1.2.1
      have h2 := win_true.1 h.1.2.2
      have h3 := win_true.1 h.2
      exact ⟨h1.1, h1.2, h2.1, h2.2, h3.1, h3.2⟩
    obtain ⟨f0, f1, g0, g1, l0, l1⟩ := hf
    have hsz : Hid (w.heap.size < wc.heap.size) := HBW.out.2.lt
    go_wp2
    go_loopw [34] (fun vk wr => FreeT xss.length xss wc vk wr) (fun vk _ => xss.length - (intOf vk).toNat)
    case atStart => exact ⟨0, Nat.zero_le _, rfl, rfl, Below.refl _ _⟩
    case round =>
      obtain ⟨k, hk, rfl, HT, HW⟩ := hrel
      have HWW : Hid (Below w.heap.size w wr) := HBW.out.1.trans (HW.out.mono HBW.out.1.size)
      by_cases hkl : k < xss.length
      · obtain ⟨b, o, u, rfl, hbs, hr, hcell⟩ := HC.out k hkl
        have k1 : (k : Int) < (xss.length : Int) := by omega
        have k0 : (0 : Int) ≤ (k : Int) := by omega
        have ck := (HWW.out.cell (p := ⟨b, o + k, none⟩) hbs).trans hcell
        have hri := (hr.below HWW.out (Nat.le_refl _)).ints
        have HCT := Lib.hid (implTalks_any u xss[k] wr hri.1)
        obtain ⟨T, hT⟩ : ∃ T, talksOk xss[k] = T := ⟨_, rfl⟩
        rw [hT] at HCT
        have HTT := Lib.hid hT
        have HNX : Hid (T ≠ false → (xss.take (k + 1)).all talksOk = true) := fun h => by
          rw [List.take_succ_eq_append_getElem hkl, List.all_append, HT.out]; simp [hT]; simpa using h
        clear hcell hr hri hT
        cases T
        · have HR := Lib.hid (HBAD.out k hkl HTT.out)
          go_wp2_with (go_at_call 29; refine HCT.out.mono ?_; rintro e W1 ⟨rfl, hb⟩; have HB1 : Hid (Below w.heap.size w W1) := HWW.out.trans (hb.mono HWW.out.size); clear hb)
          refine bodyM_rets (v := .tuple #[.int .i64 0, .bool false]) (N := w.heap.size) (fun W => by simp [results, Try.results13, go_sem]) [] _ (OpenD.nil _ _) (fun W' hW' => ⟨by rw [HR.out]; rfl, HB1.out.trans hW'⟩)
        · go_wp2_with (go_at_call 29; refine HCT.out.mono ?_; rintro e W1 ⟨rfl, hb⟩; have HB1 : Hid (Below wc.heap.size wc W1) := HW.out.trans (hb.mono HW.out.size); clear hb)
          go_roundw
          case rel => exact ⟨k + 1, by omega, by go_num, HNX.out (by simp), HB1.out⟩
          case measure => simp [intOf]; omega
      · have k1 : ¬ (k : Int) < (xss.length : Int) := by omega
        have HALL : Hid (xss.all talksOk = true) := by
          have := HT.out
          rw [List.take_of_length_le (by omega)] at this
          exact this
        have HOK : Hid (freeOk xss f til long = true) := by
          show _ = _
          unfold freeOk
          rw [show (decide (xss.length ≤ 8) && (win f 0 10000 && win til 0 10000) && win long 1 10000) = true from hHt.out, HALL.out]; rfl
        have hcl := (boxed_blwF HBW.out.2 HW.out hsz.out).cell
        have hlt := hsz.out
        have hws := HW.out.size
        clear HBAD HT
        go_wp2
        obtain ⟨A, hA⟩ : ∃ W, (wr.alloc (.cells #[.int .i64 f] 2)).alloc (.cells #[.bool true] 4) = W := ⟨_, rfl⟩
        rw [hA]
        have HAA : Hid (Below w.heap.size w A ∧ FreeB w.heap.size wr.heap.size (wr.heap.size + 1) long f true A ∧ A.heap.size = wr.heap.size + 2) := by
          show Below _ _ _ ∧ _
          rw [← hA]
          have h1 := (boxed_blwF HBW.out.2 HW.out hsz.out)
          refine ⟨(HWW.out.alloc HWW.out.size _).alloc (by simp; have := HWW.out.size; omega) _, ⟨(h1.alloc _).alloc _, (Boxed.new _ _ _).alloc _, ?_⟩, by simp⟩
          have := Boxed.new (wr.alloc (.cells #[.int .i64 f] 2)) 4 (.bool true)
          simpa using this
        have hba : Hid (w.heap.size < wr.heap.size) := by show _ < _; omega
        clear hA HW HWW
        obtain ⟨ba, hbae⟩ : ∃ ba, wr.heap.size = ba := ⟨_, rfl⟩
        rw [hbae] at HAA hba
        simp only [hbae]
        clear hbae
        refine wp_loop (FreeO xss (.slice a xss.length c) f til long w.heap.size ba xss.length k (fun i => #[undef, undef, undef, undef, undef, undef, undef, undef, u8, u9, undef, u11, undef, undef, undef, undef, undef, u17, u18, u19, u20, u21, u22, u23, u24, u25, u26, u27, u28, u29, u30, undef, undef, undef, undef, undef, u36, u37, u38, u39, u40, u41].getD i undef) w.heap.size A) (freeMu ba) ?hstart ?hround
        case hstart => exact FreeO.of [] f true (ba + 1) rfl (OpenD.nil _ _) (GrownL.refl _ _) HAA.out.2.1 (.inl rfl) ⟨Int.le_refl _, f1, fun t h1 h2 => by omega⟩ (fun h => by cases h)
        case hround =>
          rintro act wo ⟨Ds, at_, mv, bm, u, rfl, HOD, HGO, HBO, HBM, HAT, HMV⟩
          generalize (fun i => #[undef, undef, undef, undef, undef, undef, undef, undef, u8, u9, undef, u11, undef, undef, undef, undef, undef, u17, u18, u19, u20, u21, u22, u23, u24, u25, u26, u27, u28, u29, u30, undef, undef, undef, undef, undef, u36, u37, u38, u39, u40, u41].getD i undef) = x
          have ha0 : 0 ≤ at_ := by have := HAT.out.lo; omega
          have ha1 : at_ ≤ 10000 := HAT.out.hi
          rw [freeMu_eq HBO.out ha0]
          dsimp only [frO]
          have cl := HBO.out.l.cell
          have ca := HBO.out.a.cell
          have cm := HBO.out.m.cell
          have cmf := HBO.out.m.frozen
          have HBW2 : Hid (Below w.heap.size w wo) := HGO.out.toBelow HAA.out.1 (by have := HAA.out.2.2; have := hba.out; omega) (fun i hi => by simp; have := hba.out; omega)
          cases mv with
          | false =>
            have HRES := Lib.hid (free_jump HOK.out HAT.out.lo HAT.out.hi HAT.out.no (HMV.out rfl))
            have tlw : IntKind.i64.wrap (at_ + long) = at_ + long := IntWalk.i64_in _ (by omega)
            by_cases hgt : at_ + long > til
            · have hr : Hid (freeR xss f til long = none) := by have := HRES.out; rw [if_pos hgt] at this; exact this
              clear HRES
              go_wp2
              refine bodyM_rets (v := .tuple #[.int .i64 0, .bool false]) (N := w.heap.size) (fun W => by simp [results, Try.results13, go_sem]) Ds _ HOD.out (fun W' hW' => ⟨by rw [hr.out]; rfl, HBW2.out.trans hW'⟩)
            · have hr : Hid (freeR xss f til long = some at_) := by have := HRES.out; rw [if_neg hgt] at this; exact this
              clear HRES
              go_wp2
              refine bodyM_rets (v := .tuple #[.int .i64 at_, .bool true]) (N := w.heap.size) (fun W => by simp [results, Try.results13, go_sem]) Ds _ HOD.out (fun W' hW' => ⟨by rw [hr.out]; rfl, HBW2.out.trans hW'⟩)
          | true =>
            obtain ⟨W1, hW1⟩ : ∃ W, wo.setCell ⟨bm, 0, none⟩ (.bool false) = W := ⟨_, rfl⟩
            have hne1 : w.heap.size ≠ bm := by have := HBM.out; have := hba.out; have := HAA.out.2.2; omega
            have hne2 : ba ≠ bm := by have := HBM.out; have := HAA.out.2.2; omega
            have HG1 : Hid (GrownL [ba, ba + 1] A W1) := by
              show GrownL _ _ _
              rw [← hW1]
              exact HGO.out.setCell _ _ (by rcases HBM.out with h | h; exact .inl (by simp [h]); exact .inr h)
            have HB1 : Hid (FreeB w.heap.size ba bm long at_ false W1) := by
              show FreeB _ _ _ _ _ _ _
              rw [← hW1]
              exact ⟨HBO.out.l.other hne1 _, HBO.out.a.other hne2 _, HBO.out.m.set _⟩
            have HO1 : Hid (OpenD w.heap.size Ds W1) := by
              show OpenD _ _ _
              rw [← hW1]
              exact ⟨fun D hD => ⟨(HOD.out.open_ D hD).1, kept_setCell (HOD.out.open_ D hD).2⟩, HOD.out.nodup⟩
            go_wp2
            refine wp_loop (FreeN xss (.slice a xss.length c) f til long at_ w.heap.size ba xss.length k x bm w.heap.size A) (fun act _ => xss.length - (intOf (act.tmps.getD 46 undef)).toNat) ?istart ?iround
            case istart => exact FreeN.of Ds at_ false 0 rfl (Nat.zero_le _) HO1.out HG1.out HB1.out HAT.out ⟨fun h => (by cases h), fun _ => ⟨rfl, by simp⟩⟩
            case iround =>
              rintro act wi ⟨Ds2, a2, mv2, q, u2, rfl, hq, HOD2, HG2, HBO2, HAT2, HMV2⟩
              have b0 : 0 ≤ a2 := by have := HAT2.out.lo; omega
              have b1 : a2 ≤ 10000 := HAT2.out.hi
              clear HB1 HG1 HO1 HOD HGO HBO HMV HBW2 cl ca cm cmf hW1
              dsimp only [frI]
              have HBW2 : Hid (Below w.heap.size w wi) := HG2.out.toBelow HAA.out.1 (by have := HAA.out.2.2; have := hba.out; omega) (fun i hi => by simp; have := hba.out; omega)
              by_cases hqn : q < xss.length
              · have q1 : (q : Int) < (xss.length : Int) := by omega
                have q0 : (0 : Int) ≤ (q : Int) := by omega
                obtain ⟨b, o, uu, rfl, hbs, hr, hcell⟩ := HC.out q hqn
                have cq := (HBW2.out.cell (p := ⟨b, o + q, none⟩) hbs).trans hcell
                obtain ⟨⟨hm2, ar, cr, rfl, hcap2, hcr⟩, _⟩ := hr.ints
                have HTK : Hid (talksOk xss[q] = true) := List.all_eq_true.1 HALL.out _ (List.getElem_mem hqn)
                have HMEM : Hid (xss[q] ∈ xss) := List.getElem_mem hqn
                have HTN : Hid ((xss.take (q + 1)).all (fun xs => freeRow xs long at_ (xs.length / 2)) = ((xss.take q).all (fun xs => freeRow xs long at_ (xs.length / 2)) && freeRow xss[q] long at_ (xss[q].length / 2))) := by
                  show _ = _
                  rw [List.take_succ_eq_append_getElem hqn, List.all_append]; simp
                obtain ⟨xs, hxs⟩ : ∃ xs, xss[q] = xs := ⟨_, rfl⟩
                rw [hxs] at HTK HMEM HTN hcap2 hm2 hcell cq
                have hcr' : ∀ (j : Nat) (h : j < xs.length), ∃ b o, ar = some ⟨b, o, none⟩ ∧ b < w.heap.size ∧ w.cell? ⟨b, o + j, none⟩ = some (.int .i64 xs[j]) := by subst hxs; exact hcr
                obtain ⟨br, or, har, hbr, hcs⟩ := row_at hcr'
                have hx := HTK.out
                simp only [talksOk, talksHead, Bool.and_eq_true, decide_eq_true_eq] at hx
                have hx3 := (many_true.1 hx.1.1).2.1
                have hx4 := hx.1.2
                obtain ⟨m, hm⟩ : ∃ m, xs.length = 2 * m := ⟨xs.length / 2, by omega⟩
                have HXM := Lib.hid hm
                have HPAIR : Hid (∀ j, j < m → nth xs (2 * j + 1) ≤ 10000) := fun j hj => by
                  have h1 := (many_true.1 hx.1.1).2.2
                  rw [List.all_eq_true] at h1
                  have h2 := win_true.1 (h1 _ (List.getElem_mem (show 2 * j + 1 < xs.length by omega)))
                  rw [nth_eq (by omega)]; exact h2.2
                have hx5 : xs.length ≤ 64 := by omega
                clear hx hx4 hm hcr hcr' hxs hcell hr
                go_wp2_with (first | (go_at_call 58; refine (chunk_call _ _ _ _ _ (by omega)).mono ?_; rintro e W0 ⟨rfl, hW0⟩))
                have hsz0 : W0.heap.size = wi.heap.size + 2 := hW0.size
                have hs0 : W0.cell? ⟨wi.heap.size, 0, none⟩ = some (.slice ar xs.length cr) := hW0.s
                have hn0 : W0.cell? ⟨wi.heap.size + 1, 0, none⟩ = some (.int .i64 2) := hW0.n
                have hb0 := hW0.below
                have h3 := HBO2.out
                have hBB0 : FreeB w.heap.size ba bm long a2 mv2 W0 := ⟨boxed_blwF h3.l hb0 h3.l.lt, boxed_blwF h3.a hb0 h3.a.lt, boxed_blwF h3.m hb0 h3.m.lt⟩
                have hlw : Hid (w.heap.size < wi.heap.size ∧ ba < wi.heap.size ∧ bm < wi.heap.size) := ⟨h3.l.lt, h3.a.lt, h3.m.lt⟩
                have HBW0 : Hid (Below w.heap.size w W0) := HBW2.out.trans (hb0.mono HBW2.out.size)
                have HG0 : Hid (GrownL [ba, ba + 1] A W0) := HG2.out.below hb0 HG2.out.size
                have HO0 : Hid (OpenD w.heap.size Ds2 W0) := ⟨fun D hD => ⟨(HOD2.out.open_ D hD).1, (hb0.block D (Array.getElem?_eq_some_iff.1 (HOD2.out.open_ D hD).2).1).trans (HOD2.out.open_ D hD).2⟩, HOD2.out.nodup⟩
                obtain ⟨dn, hdn⟩ : ∃ dn, ((xss.take q).all fun xs => freeRow xs long at_ (xs.length / 2)) = dn := ⟨_, rfl⟩
                have HDN := Lib.hid hdn
                have hn1 : w.heap.size ≠ bm := hne1
                have hIN0 : InRow xss xs f long at_ a2 mv2 dn [] := ⟨HAT2.out, HMV2.out.1, fun h => ⟨(HMV2.out.2 h).1, by rw [← hdn]; exact (HMV2.out.2 h).2, fun j hj => by cases hj⟩⟩
                clear hW0 hb0 h3 hdn HMV2 HAT2 HBO2 HG2 HOD2 HBW2
                refine chunk_loop (k := 9) (by omega) (Bs := wi.heap.size) (Bn := wi.heap.size + 1) rfl br or cr 2 m xs.length ar HXM.out (by omega) (by omega) har hs0 hcap2 hn0 rfl
                  (fun pre W => ∃ (am : Int × Bool), FreeB w.heap.size ba bm long am.1 am.2 W ∧ GrownL [ba, bm] W0 W ∧ InRow xss xs f long at_ am.1 am.2 dn (pre.map fun x => x.1))
                  (fun _ _ _ => False)
                  ?hI ?hIx ?h0 ?a1 ?hassign ?hbody ?hdone ?hstop
                case hassign =>
                  intro l y W K hK
                  gi_wp2
                  exact hK
                case hI =>
                  refine ownFrom_ex fun am => OwnFrom.and ?_ (OwnFrom.and (ownFrom_grownL (Nat.le_refl _)) (ownFrom_pure _ _))
                  intro s W W' row hs hg hr
                  exact ⟨ownFrom_boxed _ _ _ (fun (_ : List (Fin m)) => .int .i64 long) s W W' row hs.l hg hr, ownFrom_boxed _ _ _ (fun (_ : List (Fin m)) => .int .i64 am.1) s W W' row hs.a hg hr, ownFrom_boxed _ _ _ (fun (_ : List (Fin m)) => .bool am.2) s W W' row hs.m hg hr⟩
                case hIx => exact fun cd => ownFrom_pure _ _
                case h0 => exact ⟨(a2, mv2), hBB0, GrownL.refl _ _, hIN0⟩
                case hbody =>
                  rintro l pre y W hl hr ⟨⟨a3, mv3⟩, hB, hG, hI⟩
                  have hBw : Below w.heap.size w W := hG.toBelow HBW0.out (by have := hlw.out; omega) (fun i hi => by have := hba.out; have := HBM.out; have := HAA.out.2.2; simp; omega)
                  obtain ⟨e0, e1⟩ := pair_cells hbr hcs hBw (Nat.le_refl _) HXM.out y
                  have hcl := hB.l.cell
                  have hca := hB.a.cell
                  have hcaf := hB.a.frozen
                  have hcm := hB.m.cell
                  have hcmf := hB.m.frozen
                  have hlo := hI.ok.lo
                  have hhi := hI.ok.hi
                  have hym := y.2
                  have hym2 : y.1 < xs.length / 2 := by have := HXM.out; omega
                  have tlw : IntKind.i64.wrap (a3 + long) = a3 + long := IntWalk.i64_in _ (by simp only at hlo hhi; omega)
                  have hE9 := HPAIR.out y.1 hym
                  have HJ := Lib.hid (fun h => hI.ok.jump HMEM.out hym2 h hE9)
                  have HIN := Lib.hid hI
                  have HBB := Lib.hid hB
                  have HGG := Lib.hid hG
                  have hbmba : ba ≠ bm := hne2
                  unfold hitB at HJ
                  have HHB : Hid (hitB long a3 (nth xs (2 * y.1)) (nth xs (2 * y.1 + 1)) = (decide (nth xs (2 * y.1) < a3 + long) && decide (a3 < nth xs (2 * y.1 + 1)))) := rfl
                  obtain ⟨S, hS⟩ : ∃ S, nth xs (2 * y.1) = S := ⟨_, rfl⟩
                  obtain ⟨E, hE⟩ : ∃ E, nth xs (2 * y.1 + 1) = E := ⟨_, rfl⟩
                  have HSE : Hid (nth xs (2 * y.1) = S ∧ nth xs (2 * y.1 + 1) = E) := ⟨hS, hE⟩
                  rw [hS] at e0 HJ HHB
                  rw [hE] at e1 HJ HHB
                  unfold chunkAt
                  clear hr hs0 hn0 hcs hbr har hI hB hG hE9 hS hE hBw
                  by_cases h1 : S < a3 + long
                  · have d1 : decide (S < a3 + long) = true := by simpa using h1
                    by_cases h2 : a3 < E
                    · have d2 : decide (a3 < E) = true := by simpa using h2
                      obtain ⟨hj1, hj2⟩ := HJ.out (by rw [d1, d2]; rfl)
                      have HJ2 := Lib.hid hj1
                      have hj2' : at_ < E := by
                        cases mv3 with
                        | false => have h5 : a3 = at_ := (HIN.out.still rfl).1; omega
                        | true => have h5 : at_ < a3 := HIN.out.moved rfl; omega
                      clear HJ hj1
                      gi_wp2
                      refine round_quiet_lit (by kernel_rfl) (by kernel_rfl) (by kernel_rfl) ?_
                      repeat (gi_big_quiet_step (fail))
                      refine wpQuietIn_nil ?_
                      intro _ hw'
                      obtain ⟨nq, hw''⟩ := hw'
                      subst hw''
                      gi_wp2
                      have hbw := hlw.out
                      refine ⟨(((KeepsFrom.refl _ _).drewN _).setCell _ _).setCell _ _, (((Keep2.refl _ _ _).drewN _).setCell (by show _ ≠ ba; omega) (by show _ ≠ ba; omega) _).setCell (by show _ ≠ bm; omega) (by show _ ≠ bm; omega) _, (E, true), ⟨?_, ?_, ?_⟩, ((HGG.out.drewN _).setCell _ _ (.inl (by simp))).setCell _ _ (.inl (by simp)), ⟨HJ2.out, fun _ => hj2', fun h => by cases h⟩⟩
                      · exact (Boxed.other (boxed_drewF HBB.out.l _) (by have := hba.out; omega) _).other hne1 _
                      · exact (Boxed.set (.int .i64 E) (boxed_drewF HBB.out.a _)).other hne2 _
                      · exact Boxed.set (.bool true) (Boxed.other (boxed_drewF HBB.out.m _) (Ne.symm hne2) _)
                    · have d2 : decide (a3 < E) = false := by simpa using h2
                      have HNH : Hid (hitB long a3 (nth xs (2 * y.1)) (nth xs (2 * y.1 + 1)) = false) := by show _ = _; rw [HSE.out.1, HSE.out.2, HHB.out, d1, d2]; rfl
                      clear HJ
                      gi_wp2
                      refine round_quiet_lit (by kernel_rfl) (by kernel_rfl) (by kernel_rfl) ?_
                      repeat (gi_big_quiet_step (fail))
                      refine wpQuietIn_nil ?_
                      intro _ hw'
                      obtain ⟨nq, hw''⟩ := hw'
                      subst hw''
                      gi_wp2
                      refine ⟨(KeepsFrom.refl _ _).drewN _, (Keep2.refl _ _ _).drewN _, (a3, mv3), ⟨boxed_drewF HBB.out.l _, boxed_drewF HBB.out.a _, boxed_drewF HBB.out.m _⟩, HGG.out.drewN _, ⟨HIN.out.ok, HIN.out.moved, fun h => ⟨(HIN.out.still h).1, (HIN.out.still h).2.1, fun j hj => ?_⟩⟩⟩
                      rw [List.map_append] at hj
                      rcases List.mem_append.1 hj with hj | hj
                      · exact (HIN.out.still h).2.2 j hj
                      · obtain rfl : j = y.1 := by simpa using hj
                        have h5 : a3 = at_ := (HIN.out.still h).1
                        rw [← h5]; exact HNH.out
                  · have d1 : decide (S < a3 + long) = false := by simpa using h1
                    have HNH : Hid (hitB long a3 (nth xs (2 * y.1)) (nth xs (2 * y.1 + 1)) = false) := by show _ = _; rw [HSE.out.1, HSE.out.2, HHB.out, d1]; rfl
                    clear HJ
                    gi_wp2
                    refine round_quiet_lit (by kernel_rfl) (by kernel_rfl) (by kernel_rfl) ?_
                    repeat (gi_big_quiet_step (fail))
                    refine wpQuietIn_nil ?_
                    intro _ hw'
                    obtain ⟨nq, hw''⟩ := hw'
                    subst hw''
                    gi_wp2
                    refine ⟨(KeepsFrom.refl _ _).drewN _, (Keep2.refl _ _ _).drewN _, (a3, mv3), ⟨boxed_drewF HBB.out.l _, boxed_drewF HBB.out.a _, boxed_drewF HBB.out.m _⟩, HGG.out.drewN _, ⟨HIN.out.ok, HIN.out.moved, fun h => ⟨(HIN.out.still h).1, (HIN.out.still h).2.1, fun j hj => ?_⟩⟩⟩
                    rw [List.map_append] at hj
                    rcases List.mem_append.1 hj with hj | hj
                    · exact (HIN.out.still h).2.2 j hj
                    · obtain rfl : j = y.1 := by simpa using hj
                      have h5 : a3 = at_ := (HIN.out.still h).1
                      rw [← h5]; exact HNH.out
                case hdone =>
                  rintro D W hD ⟨⟨a3, mv3⟩, hB, hG, hI⟩ hK
                  have HRES : Hid (OpenD w.heap.size (D :: Ds2) W ∧ GrownL [ba, ba + 1] A W ∧ FreeB w.heap.size ba bm long a3 mv3 W ∧ AtOk xss f long a3 ∧ ((mv3 = true → at_ < a3) ∧ (mv3 = false → a3 = at_ ∧ ((xss.take (q + 1)).all fun xs => freeRow xs long at_ (xs.length / 2)) = true))) := by
                    have hgg : GrownL [ba, ba + 1] A W := by
                      refine ⟨hG.os.trans HG0.out.os, hG.tape.trans HG0.out.tape, hG.output.trans HG0.out.output, Nat.le_trans HG0.out.size hG.size, fun i hi hn => (hG.block i (Nat.lt_of_lt_of_le hi HG0.out.size) ?_).trans (HG0.out.block i hi hn)⟩
                      have := HBM.out
                      simp at hn ⊢
                      omega
                    have hod : OpenD w.heap.size Ds2 W := HO0.out.grownL hG (fun d hd => by
                      have n1 := HO0.out.not_boxed hBB0.a
                      have n2 := HO0.out.not_boxed hBB0.m
                      intro hm
                      rcases List.mem_cons.1 hm with rfl | hm
                      · exact n1 hd
                      · obtain rfl : d = bm := by simpa using hm
                        exact n2 hd)
                    refine ⟨hod.cons HO0.out hD (by have := HBW0.out.size; omega) hK, hgg, hB, hI.ok, hI.moved, fun h => ?_⟩
                    obtain ⟨s1, s2, s3⟩ := hI.still h
                    refine ⟨s1, ?_⟩
                    rw [HTN.out, HDN.out, s2, Bool.true_and]
                    unfold freeRow
                    rw [List.all_eq_true]
                    intro j hj
                    have hj2 := List.mem_range.1 hj
                    have := HXM.out
                    have := s3 j (by rw [List.mem_map]; exact ⟨⟨j, by omega⟩, List.mem_finRange _, rfl⟩)
                    rw [this]; rfl
                  clear hB hG hI hK hBB0 hIN0
                  go_wp2
                  obtain ⟨r1, r2, r3, r4, r5⟩ := HRES.out
                  refine ⟨FreeN.of (D :: Ds2) a3 mv3 (q + 1) rfl (by omega) r1 r2 r3 r4 r5, ?_⟩
                  show xss.length - (intOf (Value.int .i64 ((q : Int) + 1))).toNat < xss.length - (intOf (Value.int .i64 (q : Int))).toNat
                  simp [intOf]; omega
                case hstop => exact fun _ _ _ _ _ _ h _ => h.elim
              · have q1 : ¬ (q : Int) < (xss.length : Int) := by omega
                have cm := HBO2.out.m.cell
                have hst : Hid (mv2 = false → freeAt xss long a2 = true) := fun h => by
                  obtain ⟨s1, s2⟩ := HMV2.out.2 h
                  rw [List.take_of_length_le (by omega)] at s2
                  rw [s1]; exact s2
                have hless : Hid (2 * (10000 - a2.toNat) + (if mv2 then 1 else 0) < 2 * (10000 - at_.toNat) + 1) := by
                  cases mv2 with
                  | false => have := (HMV2.out.2 rfl).1; show 2 * (10000 - a2.toNat) + 0 < 2 * (10000 - at_.toNat) + 1; omega
                  | true => have := HMV2.out.1 rfl; show 2 * (10000 - a2.toNat) + 1 < 2 * (10000 - at_.toNat) + 1; omega
                have HNB : Hid (FreeB w.heap.size ba wi.heap.size long a2 mv2 (wi.alloc (.cells #[.bool mv2] 4))) := ⟨HBO2.out.l.alloc _, HBO2.out.a.alloc _, Boxed.new _ _ _⟩
                have HND : Hid (OpenD w.heap.size Ds2 (wi.alloc (.cells #[.bool mv2] 4))) := ⟨fun D hD => ⟨(HOD2.out.open_ D hD).1, (Below.heap_alloc _ _ _ (Array.getElem?_eq_some_iff.1 (HOD2.out.open_ D hD).2).1).trans (HOD2.out.open_ D hD).2⟩, HOD2.out.nodup⟩
                clear HMV2
                go_wp2
                refine ⟨FreeO.of Ds2 a2 mv2 wi.heap.size rfl HND.out (HG2.out.alloc _) HNB.out (.inr HG2.out.size) HAT2.out hst.out, ?_⟩
                rw [freeMu_act (bm := wi.heap.size) HNB.out rfl]
                exact hless.out
end Go.Proofs.Ytnpfninkopffmaa

namespace Go.Proofs.Ytnpfninkopffmaa
open Go.RowKit Go.Shelf Go.BigFrame
set_option linter.unusedVariables false
set_option linter.unusedSimpArgs false

theorem own_shape {w : World} {B : Nat} {v : Value} {xs : List Int} (h : OwnI w B v xs) : ∃ a c, v = .slice a xs.length c := by
  obtain ⟨_, a, c, hv, _⟩ := h.ints
  exact ⟨a, c, hv⟩
/-- The rounds of the tests. -/
def CntR (T : List Int) (X : Int) (t : Nat) (w : World) (vc vi : Value) (wr : World) : Prop := ∃ i : Nat, i ≤ t ∧ vc = .int .i64 (cntAt T X i : Int) ∧ vi = .int .i64 i ∧ Hid (Below w.heap.size w wr)
def IdxR (t : Nat) (w : World) (vi : Value) (wr : World) : Prop := ∃ i : Nat, i ≤ t ∧ vi = .int .i64 i ∧ Hid (Below w.heap.size w wr)
/-- The rounds that make the worths. -/
def OnesR (B t : Nat) (w : World) (v1 v2 vi : Value) (wr : World) : Prop :=
  ∃ (i g1 c1 l1 g2 c2 l2 : Nat) (ws : List Int), i ≤ t ∧ v1 = .slice (some ⟨g1, 0, none⟩) l1 c1 ∧ v2 = .slice (some ⟨g2, 0, none⟩) l2 c2 ∧ vi = .int .i64 i ∧ g1 ≠ g2 ∧ Hid (l1 = i ∧ l2 = i ∧ ws.length = i ∧ ∀ k, k < i → 0 ≤ nth ws k ∧ nth ws k ≤ 1000) ∧ Hid (OwnI wr B (.slice (some ⟨g1, 0, none⟩) l1 c1) (List.replicate i 1)) ∧ Hid (OwnI wr B (.slice (some ⟨g2, 0, none⟩) l2 c2) ws) ∧ Hid (Below B w wr)

set_option maxRecDepth 100000 in
set_option maxHeartbeats 8000000 in
theorem walkFnTalks (a0 : Option Addr) (len0 cap0 : Nat) (z0 : List Int) (a1 : Option Addr) (len1 cap1 : Nat) (z1 : List Int) (w : World)
    (w0 : (a0 = none ∧ len0 = 0 ∧ cap0 = 0 ∧ z0 = []) ∨
      ∃ x, a0 = some x ∧ len0 ≤ cap0 ∧ cap0 ≤ maxLen ∧ z0.length = cap0 ∧ (∀ i, i < z0.length → w.cell? (x.add i) = some (.int .u8 (z0.getD i 0))) ∧ ∀ n ∈ z0, (Lit.int .u8 n).wf = true)
    (w1 : (a1 = none ∧ len1 = 0 ∧ cap1 = 0 ∧ z1 = []) ∨
      ∃ x, a1 = some x ∧ len1 ≤ cap1 ∧ cap1 ≤ maxLen ∧ z1.length = cap1 ∧ (∀ i, i < z1.length → w.cell? (x.add i) = some (.int .u8 (z1.getD i 0))) ∧ ∀ n ∈ z1, (Lit.int .u8 n).wf = true) :
    Calls Try.prog 6 #[.slice a0 len0 cap0, .slice a1 len1 cap1] w fun e w' => e = .returned (.bool true) ∧ Below w.heap.size w w' := by
  obtain ⟨hv0, hwf0, hlen0⟩ := bytes_of_row w0
  obtain ⟨hv1, hwf1, hlen1⟩ := bytes_of_row w1
  generalize z0.take len0 = xs at *
  generalize z1.take len1 = ys at *
  subst hlen0 hlen1
  clear w0 w1
  have Hwf0 := Lib.hid hwf0
  have Hwf1 := Lib.hid hwf1
  clear hwf0 hwf1
  cases hlong : (decide (1048576 < xs.length) || decide (1048576 < ys.length))
  · go_enter Try.func6, Try.ntmps6
    go_wp2_with fail
    refine (b10Long_any _ _ xs ys _ hv0 hv1).mono ?_
    rintro e w' ⟨rfl, rfl⟩
    go_wp2_with fail
    refine (b10At_any _ ys _ _ _ hv1 Hwf1.out (by omega) (by omega) (by omega) (by omega)).mono ?_
    rintro e w' ⟨⟨x0, rfl, hx0a, hx0b⟩, rfl⟩
    obtain ⟨t, ht⟩ : ∃ t : Nat, 1 + x0 = (t : Int) := ⟨(1 + x0).toNat, by omega⟩
    have h1 : 1 ≤ t := by omega
    have h8 : t ≤ 8 := by omega
    have HDT := Lib.hid (drawTalks_any _ xs t w hv0 Hwf0.out h8)
    have HAT : Hid (∀ W (i n : Int), Below w.heap.size w W → 0 ≤ i → i ≤ 100 → 1 ≤ n → n ≤ 100 → Calls Try.prog 24 #[.slice a1 ys.length cap1, .int .i64 i, .int .i64 n] W fun e w' => (∃ x, e = .returned (.int .i64 x) ∧ 0 ≤ x ∧ x < n) ∧ W = w') := fun W i n hW i0 i1 n0 n1 => b10At_any _ ys i n W (hv1.below hW (Nat.le_refl _)) Hwf1.out i0 (by omega) n0 (by omega)
    clear hv0 hv1 Hwf0 Hwf1
    go_wp2_with fail
    clear ht hx0a hx0b
    refine HDT.out.mono ?_
    rintro e W1 ⟨⟨v1, rfl, T, ho1, hTl, hTp⟩, hb1⟩
    obtain ⟨C, X, RL, HL, BL, hF⟩ := talks_fin hTp hTl h1 h8
    have HF := Lib.hid hF
    have B1 := Lib.hid hb1
    have HT := Lib.hid (And.intro hTl (And.intro hTp (hTp.wf hTl)))
    have I1 : Hid (∀ W, Below W1.heap.size W1 W → Ints W v1 T) := fun W hW => ho1.ints.below hW (Nat.le_refl _)
    obtain ⟨m, hm⟩ : ∃ m, HL.length = m := ⟨_, rfl⟩
    have HM : Hid (HL.length = m ∧ m ≤ 8) := ⟨hm, by rw [← hm]; exact hF.hlen⟩
    have HRM : Hid (∀ W, Below W1.heap.size W1 W → Calls Try.prog 22 #[v1] W fun e w' => (∃ u, e = .returned (.tuple #[u, .int .i64 C, .bool true]) ∧ OwnI w' W.heap.size u RL) ∧ Below W.heap.size W w') := fun W hW => by
      have := implRooms_any v1 T W (I1.out W hW); rwa [hF.rooms.1, hF.rooms.2.1, hF.ok] at this
    have HMA : Hid (∀ W, Below W1.heap.size W1 W → Calls Try.prog 26 #[v1] W fun e w' => e = .returned (.tuple #[.int .i64 C, .int .i64 X, .bool true]) ∧ Below W.heap.size W w') := fun W hW => by
      have := implAtOnce_any v1 T W (I1.out W hW); rwa [hF.most.1, hF.most.2.1, hF.ok] at this
    have HMT : Hid (∀ W, Below W1.heap.size W1 W → Calls Try.prog 17 #[v1] W fun e w' => (∃ u, e = .returned (.tuple #[u, .bool true]) ∧ OwnI w' W.heap.size u HL) ∧ Below W.heap.size W w') := fun W hW => by
      have := implMost_any v1 T W (I1.out W hW); rwa [hF.heard, hF.ok] at this
    have HW1 : Hid (∀ W u, Below W1.heap.size W1 W → Ints W u (List.replicate t 1) → Calls Try.prog 27 #[v1, u] W fun e w' => (∃ v', e = .returned (.tuple #[v', .int .i64 (m : Int), .bool true]) ∧ OwnI w' W.heap.size v' BL) ∧ Below W.heap.size W w') := fun W u hW hu => by
      have := implWorth_u v1 u T (List.replicate t 1) W (I1.out W hW) hu; rwa [hF.best.1, hF.best.2.1, hF.best.2.2.1, hm] at this
    have HW2 : Hid (∀ W u ws, Below W1.heap.size W1 W → Ints W u ws → ws.length = t → (∀ k, k < t → 0 ≤ nth ws k ∧ nth ws k ≤ 1000) → Calls Try.prog 27 #[v1, u] W fun e w' => (∃ v', e = .returned (.tuple #[v', .int .i64 (worthR T ws), .bool true]) ∧ OwnI w' W.heap.size v' (worthL T ws)) ∧ Below W.heap.size W w') := fun W u ws hW hu hl hk => by
      have := implWorth_u v1 u T ws W (I1.out W hW) hu; rwa [worth_ok hF.ok hTl h8 hl hk] at this
    have HW3 : Hid (∀ W u ws, Below W1.heap.size W1 W → Ints W u ws → ws.length = t → (∀ k, k < t → 0 ≤ nth ws k ∧ nth ws k ≤ 1000) → Calls Try.prog 28 #[v1, u] W fun e w' => (∃ v', e = .returned (.tuple #[v', .int .i64 (worthR T ws), .bool true]) ∧ OwnI w' W.heap.size v' (worthL T ws)) ∧ Below W.heap.size W w') := fun W u ws hW hu hl hk => by
      have := specWorth_u v1 u T ws W (I1.out W hW) hu (hTp.wf hTl) (by omega); rwa [worth_ok hF.ok hTl h8 hl hk] at this
    have HAR : Hid (∀ W, Below W1.heap.size W1 W → Calls Try.prog 29 #[v1] W fun e w' => e = .returned (.bool true) ∧ Below W.heap.size W w') := fun W hW => by
      have := implTalks_any v1 T W (I1.out W hW); rwa [hF.ok] at this
    have HTS : Hid (∃ b o c, v1 = .slice (some ⟨b, o, none⟩) (2 * t) c ∧ b < W1.heap.size ∧ ∀ W, Below W1.heap.size W1 W → ∀ j, j < 2 * t → W.cell? ⟨b, o + j, none⟩ = some (.int .i64 (nth T j))) := by
      obtain ⟨_, a, c, hv, _, hc⟩ := ho1.ints
      obtain ⟨b, o, ha, hb, hcs⟩ := row_at hc
      obtain rfl := ha (by omega)
      refine ⟨b, o, c, by rw [hv, hTl], hb (by omega), fun W hW j hj => ?_⟩
      rw [nth_eq (by omega)]
      exact (hW.cell (p := ⟨b, o + j, none⟩) (hb (by omega))).trans (hcs j (by omega))
    clear hb1 ho1 hTl hTp hF hm HDT
    -- the calls ahead of the worths
    go_wp2_with fail
    refine (HRM.out _ (Below.refl _ _)).mono ?_
    rintro e W2 ⟨⟨v2, rfl, ho2⟩, hb2⟩
    obtain ⟨ar, cr, rfl⟩ := own_shape ho2
    rw [HF.out.rooms.2.2] at ho2 ⊢
    have B2 : Hid (Below W1.heap.size W1 W2) := hb2
    have O2 := Lib.hid ho2
    clear hb2 ho2
    go_wp2_with fail
    refine (HMA.out _ B2.out).mono ?_
    rintro e W3 ⟨rfl, hb3⟩
    have B3 : Hid (Below W1.heap.size W1 W3) := B2.out.trans (hb3.mono B2.out.size)
    have O3 := Lib.hid (O2.out.below hb3 (Nat.le_refl _))
    clear hb3 O2 B2
    go_wp2_with fail
    refine (HMT.out _ B3.out).mono ?_
    rintro e W4 ⟨⟨v4, rfl, ho4⟩, hb4⟩
    obtain ⟨ah, ch, rfl⟩ := own_shape ho4
    rw [HM.out.1] at ho4 ⊢
    have B4 : Hid (Below W1.heap.size W1 W4) := B3.out.trans (hb4.mono B3.out.size)
    have O4 := Lib.hid (O3.out.below hb4 (Nat.le_refl _))
    have P4 := Lib.hid ho4
    clear hb4 ho4 O3 B3
    obtain ⟨W5, hW5⟩ : ∃ W, (W4.alloc (.cells #[] 2)).alloc (.cells #[] 2) = W := ⟨_, rfl⟩
    have HR0 : Hid (OnesR W4.heap.size t W4 (.slice (some ⟨W4.heap.size, 0, none⟩) 0 0) (.slice (some ⟨W4.heap.size + 1, 0, none⟩) 0 0) (.int .i64 0) W5) := by
      show OnesR _ _ _ _ _ _ _
      rw [← hW5]
      have h1 := OwnI.lit W4 W4.heap.size [] (Nat.le_refl _) (Nat.zero_le _)
      have h2 := OwnI.lit (W4.alloc (.cells #[] 2)) W4.heap.size [] (by simp) (Nat.zero_le _)
      rw [World.size_alloc] at h2
      exact ⟨0, W4.heap.size, 0, 0, W4.heap.size + 1, 0, 0, [], Nat.zero_le _, rfl, rfl, rfl, by omega, ⟨rfl, rfl, rfl, fun k hk => by omega⟩, h1.alloc _, h2, ((Below.refl _ W4).alloc (Nat.le_refl _) _).alloc (by simp) _⟩
    go_wp2
    go_loopw [15, 16, 17] (fun x y z wr => OnesR W4.heap.size t W4 x y z wr) (fun _ _ z _ => t - (intOf z).toNat)
    case atStart => exact HR0.out
    case round =>
      obtain ⟨i, g1, c1, l1, g2, c2, l2, ws, hit, rfl, rfl, rfl, hgg, HLL, HO1, HO2, HB⟩ := hrel
      clear HR0 hW5
      by_cases hi : i < t
      · have i1 : (i : Int) < (t : Int) := by omega
        have hrl : (List.replicate i (1 : Int)).length + 1 ≤ 100 := by simp; omega
        have hBB : Hid (Below w.heap.size w wr) := B1.out.trans ((B4.out.trans (HB.out.mono B4.out.size)).mono B1.out.size)
        have hwz := HB.out.size
        have hg1w := (HO1.out.lt g1 rfl).2
        have hg2w := (HO2.out.lt g2 rfl).2
        go_wp2_with (at_builtin; refine append_i64L rfl _ _ rfl W4.heap.size (.slice (some ⟨g1, 0, none⟩) l1 c1) (List.replicate i 1) [1] (by simp) rfl _ rfl HO1.out hwz (by simp; omega) ?_; intro g3 c3 w6 ho6 hg6 hl6; have HA6 := Lib.hid (And.intro ho6 (And.intro hg6 hl6)); clear ho6 hg6 hl6)
        have H6 : Hid (OwnI w6 W4.heap.size (.slice (some ⟨g3, 0, none⟩) (i + 1) c3) (List.replicate (i + 1) 1) ∧ OwnI w6 W4.heap.size (.slice (some ⟨g2, 0, none⟩) l2 c2) ws ∧ Below W4.heap.size W4 w6 ∧ g3 ≠ g2 ∧ g3 < w6.heap.size ∧ Below w.heap.size w w6) := by
          obtain ⟨ho6, hg6, hl6⟩ := HA6.out
          rw [ownBlock_slice] at hg6 hl6
          have hb6 := Below.app HB.out HO1.out hg6 hwz
          have e1 : (List.replicate i (1 : Int)).length + [(1 : Int)].length = i + 1 := by simp
          rw [e1, show List.replicate i (1 : Int) ++ [1] = List.replicate (i + 1) 1 from by rw [List.replicate_succ']] at ho6
          refine ⟨ho6, HO2.out.kept hg6 (.inr (by rw [ownBlock_slice]; intro e; injection e with e; omega)), hb6, ?_, (ho6.lt g3 rfl).2, B1.out.trans ((B4.out.trans (hb6.mono B4.out.size)).mono B1.out.size)⟩
          rcases hl6 with h | h
          · injection h with h; omega
          · omega
        have hw6 := H6.out.2.2.1.size
        refine (HAT.out _ _ _ H6.out.2.2.2.2.2 (by omega) (by omega) (by omega) (by omega)).mono ?_
        rintro e w' ⟨⟨x, rfl, x0, x1⟩, rfl⟩
        have hwl : ws.length + 1 ≤ 100 := by have := HLL.out; omega
        clear HA6 HO1 HO2 HB
        go_wp2_with (at_builtin; refine append_i64L rfl _ _ rfl W4.heap.size (.slice (some ⟨g2, 0, none⟩) l2 c2) ws [x] (by simp) rfl _ rfl H6.out.2.1 hw6 (by simp; omega) ?_; intro g4 c4 w7 ho7 hg7 hl7; have HA7 := Lib.hid (And.intro ho7 (And.intro hg7 hl7)); clear ho7 hg7 hl7)
        go_roundw
        case rel =>
          obtain ⟨ho7, hg7, hl7⟩ := HA7.out
          rw [ownBlock_slice] at hg7 hl7
          obtain ⟨q1, q2, q3, q4, q5, q6⟩ := H6.out
          obtain ⟨e1, e2, e3, e4⟩ := HLL.out
          have hne : g3 ≠ g4 := by
            rcases hl7 with h | h
            · injection h with h; omega
            · omega
          refine ⟨i + 1, g3, c3, i + 1, g4, c4, ws.length + 1, ws ++ [x], by omega, rfl, rfl, by go_num, hne, ⟨rfl, by omega, by simp; omega, fun k hk => ?_⟩, q1.kept hg7 (.inr (by rw [ownBlock_slice]; intro e; injection e with e; omega)), ho7, Below.app q3 q2 hg7 hw6⟩
          by_cases hki : k < ws.length
          · rw [nth_appL hki]; exact e4 k (by omega)
          · rw [nth_appR (by omega), show k - ws.length = 0 by omega]
            show 0 ≤ x ∧ x ≤ 1000
            omega
        case measure => simp [intOf]; omega
      · have i1 : ¬ (i : Int) < (t : Int) := by omega
        have hie : Hid (i = t) := by show _ = _; omega
        obtain ⟨W6, hW6⟩ : ∃ W : World, W = wr := ⟨_, rfl⟩
        subst hW6
        have B6 : Hid (Below W1.heap.size W1 W6) := B4.out.trans (HB.out.mono B4.out.size)
        have O6 := Lib.hid (O4.out.below HB.out (Nat.le_refl _))
        have P6 := Lib.hid (P4.out.below HB.out (Nat.le_refl _))
        have U6 : Hid (Ints W6 (.slice (some ⟨g1, 0, none⟩) l1 c1) (List.replicate t 1)) := by
          have := HO1.out.ints; rw [hie.out] at this; exact this
        have V6 := Lib.hid HO2.out.ints
        have HWS : Hid (ws.length = t ∧ ∀ k, k < t → 0 ≤ nth ws k ∧ nth ws k ≤ 1000) := by
          have := HLL.out.2.2; rw [hie.out] at this; exact this
        clear HO1 HO2 HB HLL hi O4 P4 B4
        go_wp2_with fail
        refine (HW1.out _ _ B6.out U6.out).mono ?_
        rintro e W7 ⟨⟨v7, rfl, ho7⟩, hb7⟩
        obtain ⟨ab, cb, rfl⟩ := own_shape ho7
        rw [HF.out.best.2.2.2, HM.out.1]
        have B7 : Hid (Below W1.heap.size W1 W7) := B6.out.trans (hb7.mono B6.out.size)
        have O7 := Lib.hid (O6.out.below hb7 (Nat.le_refl _))
        have P7 := Lib.hid (P6.out.below hb7 (Nat.le_refl _))
        have V7 := Lib.hid (V6.out.below hb7 (Nat.le_refl _))
        clear hb7 ho7 O6 P6 V6 U6 B6
        go_wp2_with fail
        refine (HW2.out _ _ ws B7.out V7.out HWS.out.1 HWS.out.2).mono ?_
        rintro e W8 ⟨⟨v8, rfl, ho8⟩, hb8⟩
        have B8 : Hid (Below W1.heap.size W1 W8) := B7.out.trans (hb8.mono B7.out.size)
        have O8 := Lib.hid (O7.out.below hb8 (Nat.le_refl _))
        have P8 := Lib.hid (P7.out.below hb8 (Nat.le_refl _))
        have V8 := Lib.hid (V7.out.below hb8 (Nat.le_refl _))
        have Q8 := Lib.hid ho8.ints
        clear hb8 ho8 O7 P7 V7 B7
        go_wp2_with fail
        refine (HW3.out _ _ ws B8.out V8.out HWS.out.1 HWS.out.2).mono ?_
        rintro e W9 ⟨⟨v9, rfl, ho9⟩, hb9⟩
        have B9 : Hid (Below W1.heap.size W1 W9) := B8.out.trans (hb9.mono B8.out.size)
        have O9 := Lib.hid (O8.out.below hb9 (Nat.le_refl _))
        have P9 := Lib.hid (P8.out.below hb9 (Nat.le_refl _))
        have Q9 := Lib.hid (Q8.out.below hb9 (Nat.le_refl _))
        have R9 := Lib.hid ho9.ints
        clear hb9 ho9 O8 P8 V8 B8 Q8
        obtain ⟨WR, hWR⟩ : ∃ r, worthR T ws = r := ⟨_, rfl⟩
        simp only [hWR]
        have z1 : (C != C) = false := by simp
        have z2 : ((t : Int) != (t : Int)) = false := by simp
        have z3 : ((m : Int) != (m : Int)) = false := by simp
        have z4 : (WR != WR) = false := by simp
        clear hWR HWS HW1 HW2 HW3 HMA HMT HRM
        go_wp2_with fail
        refine (HAR.out _ B9.out).mono ?_
        rintro e WA ⟨rfl, hbA⟩
        have BA : Hid (Below W1.heap.size W1 WA) := B9.out.trans (hbA.mono B9.out.size)
        have OA := Lib.hid (O9.out.below hbA (Nat.le_refl _))
        have PA := Lib.hid (P9.out.below hbA (Nat.le_refl _))
        have HBI := Lib.hid (b10Ints_any v8 v9 _ _ WA (Q9.out.below hbA (Nat.le_refl _)) (R9.out.below hbA (Nat.le_refl _)))
        rw [show (worthL T ws == worthL T ws) = true from beq_self_eq_true _] at HBI
        clear hbA O9 P9 Q9 R9 B9
        go_wp2_with fail
        refine HBI.out.mono ?_
        rintro e WB ⟨rfl, hbB⟩
        have BB : Hid (Below W1.heap.size W1 WB) := BA.out.trans (hbB.mono BA.out.size)
        have OB := Lib.hid (OA.out.below hbB (Nat.le_refl _))
        have PB := Lib.hid (PA.out.below hbB (Nat.le_refl _))
        clear hbB OA PA BA HBI
        obtain ⟨bT, oT, cT, rfl, hbT, hT⟩ := HTS.out
        have HT2 : Hid (∀ W, Below WB.heap.size WB W → ∀ j, j < 2 * t → W.cell? ⟨bT, oT + j, none⟩ = some (.int .i64 (nth T j))) := fun W hW => hT W (BB.out.trans (hW.mono BB.out.size))
        obtain ⟨_, _, _, hrv, _, hrc⟩ := OB.out.ints
        obtain ⟨bR, oR, haR, hbR, hcR⟩ := row_at hrc
        have hrl := HF.out.rooms.2.2
        injection hrv with hrv1 hrv2 hrv3
        rw [haR (by omega)] at hrv1
        subst hrv1
        have HR2 : Hid (∀ W, Below WB.heap.size WB W → ∀ j, j < t → W.cell? ⟨bR, oR + j, none⟩ = some (.int .i64 (nth RL j))) := fun W hW j hj => by
          rw [nth_eq (by omega)]; exact (hW.cell (p := ⟨bR, oR + j, none⟩) (hbR (by omega))).trans (hcR j (by omega))
        obtain ⟨_, ah', _, hhv, _, hhc⟩ := PB.out.ints
        obtain ⟨bH, oH, haH, hbH, hcH⟩ := row_at hhc
        injection hhv with hhv1 hhv2 hhv3
        have hml := HM.out.1
        have HH2 : Hid (∀ j, j < m → ah = some ⟨bH, oH, none⟩ ∧ ∀ W, Below WB.heap.size WB W → W.cell? ⟨bH, oH + j, none⟩ = some (.int .i64 (nth HL j))) := fun j hj =>
          ⟨by rw [hhv1]; exact haH (by omega), fun W hW => by rw [nth_eq (by omega)]; exact (hW.cell (p := ⟨bH, oH + j, none⟩) (hbH (by omega))).trans (hcH j (by omega))⟩
        have hm8 : m ≤ 8 := HM.out.2
        have BBw : Hid (Below w.heap.size w WB) := B1.out.trans (BB.out.mono B1.out.size)
        have ITB : Hid (Ints WB (.slice (some ⟨bT, oT, none⟩) (2 * t) cT) T) := I1.out _ BB.out
        clear hT hrc haR hbR hcR hrl hrv2 hrv3 hhc haH hbH hcH hhv1 hhv2 hhv3 hml OB PB HTS B1 BB I1 HAR
        go_wp2
        go_loopw [27, 28] (fun vc vi wr => CntR T X t WB vc vi wr) (fun _ vi _ => t - (intOf vi).toNat)
        case atStart => exact ⟨0, Nat.zero_le _, rfl, rfl, Below.refl _ _⟩
        case round =>
          obtain ⟨i, hit, rfl, rfl, HW⟩ := hrel
          by_cases hi : i < t
          · have i1 : (i : Int) < (t : Int) := by omega
            have i0 : (0 : Int) ≤ (i : Int) := by omega
            have cr1 := HR2.out wr HW.out i hi
            have hin := HF.out.in_ i hi
            obtain ⟨I, hI⟩ : ∃ I, 2 * i = I := ⟨_, rfl⟩
            have cA := HT2.out wr HW.out I (by omega)
            have cB := HT2.out wr HW.out (I + 1) (by omega)
            have II : 2 * (i : Int) = (I : Int) := by omega
            have wI : IntKind.i64.wrap (I : Int) = (I : Int) := IntWalk.i64_in _ (by omega)
            have wI1 : IntKind.i64.wrap ((I : Int) + 1) = (I : Int) + 1 := IntWalk.i64_in _ (by omega)
            have I0 : (0 : Int) ≤ (I : Int) := by omega
            have I1' : (I : Int) < 2 * (t : Int) := by omega
            have I2 : (0 : Int) ≤ (I : Int) + 1 := by omega
            have I3 : (I : Int) + 1 < 2 * (t : Int) := by omega
            have In : ((I : Int) + 1).toNat = I + 1 := by omega
            obtain ⟨RI, hRI⟩ : ∃ RI, nth RL i = RI := ⟨_, rfl⟩
            obtain ⟨A, hA⟩ : ∃ A, nth T I = A := ⟨_, rfl⟩
            obtain ⟨E, hE⟩ : ∃ E, nth T (I + 1) = E := ⟨_, rfl⟩
            rw [hRI] at cr1 hin
            rw [hA] at cA
            rw [hE] at cB
            have HSI := Lib.hid (And.intro hI (And.intro hRI (And.intro hA hE)))
            have d1 : decide (RI < 0) = false := by simp; omega
            have d2 : decide (RI ≥ C) = false := by simp; omega
            have hc8 := cntAt_le T X i
            have HCN : Hid (cntAt T X (i + 1) = cntAt T X i + if (decide (A ≤ X) && decide (X < E)) = true then 1 else 0) := by
              show _ = _
              rw [cntAt_succ]
              unfold onAt
              rw [hI, hA, hE]
            clear hI hRI hA hE hin
            obtain ⟨Wi, hWi⟩ : ∃ W : World, W = wr := ⟨_, rfl⟩
            subst hWi
            obtain ⟨q, hq⟩ : ∃ q, cntAt T X i = q := ⟨_, rfl⟩
            rw [hq] at HCN hc8 ⊢
            clear hq
            clear cr1
            by_cases hAX : A ≤ X
            · have d6 : decide (A ≤ X) = true := by simpa using hAX
              by_cases hXE : X < E
              · have d7 : decide (X < E) = true := by simpa using hXE
                have HCQ : Hid (cntAt T X (i + 1) = q + 1) := by show _ = _; rw [HCN.out, d6, d7]; rfl
                have qw : IntKind.i64.wrap ((q : Int) + 1) = (q : Int) + 1 := IntWalk.i64_in _ (by omega)
                clear HCN
                have cr1 := HR2.out Wi HW.out i hi
                rw [HSI.out.2.1] at cr1
                go_wp2
                go_loopw [29] (fun vk wr => IdxR i Wi vk wr) (fun vk _ => i - (intOf vk).toNat)
                case atStart => exact ⟨0, Nat.zero_le _, rfl, Below.refl _ _⟩
                case round =>
                  obtain ⟨k, hki, rfl, HWk⟩ := hrel
                  have HBk : Hid (Below WB.heap.size WB wr) := HW.out.trans (HWk.out.mono HW.out.size)
                  by_cases hk : k < i
                  · have k1 : (k : Int) < (i : Int) := by omega
                    have k0 : (0 : Int) ≤ (k : Int) := by omega
                    have cr2 := HR2.out wr HBk.out k (by omega)
                    have cr1 := HR2.out wr HBk.out i hi
                    rw [HSI.out.2.1] at cr1
                    obtain ⟨K, hK⟩ : ∃ K, 2 * k = K := ⟨_, rfl⟩
                    have cA := HT2.out wr HBk.out I (by omega)
                    have cB := HT2.out wr HBk.out (I + 1) (by omega)
                    have cC := HT2.out wr HBk.out K (by omega)
                    have cD := HT2.out wr HBk.out (K + 1) (by omega)
                    have KK : 2 * (k : Int) = (K : Int) := by omega
                    have wK : IntKind.i64.wrap (K : Int) = (K : Int) := IntWalk.i64_in _ (by omega)
                    have wK1 : IntKind.i64.wrap ((K : Int) + 1) = (K : Int) + 1 := IntWalk.i64_in _ (by omega)
                    have K0 : (0 : Int) ≤ (K : Int) := by omega
                    have K1' : (K : Int) < 2 * (t : Int) := by omega
                    have K2 : (0 : Int) ≤ (K : Int) + 1 := by omega
                    have K3 : (K : Int) + 1 < 2 * (t : Int) := by omega
                    have Kn : ((K : Int) + 1).toNat = K + 1 := by omega
                    have HAP : Hid (nth RL k = RI → (decide (A < nth T (K + 1)) && decide (nth T K < E)) = false) := fun he => by
                      have := HF.out.apart i k hi hk (by rw [HSI.out.2.1]; exact he.symm)
                      unfold meetB at this
                      rw [HSI.out.1, hK, HSI.out.2.2.1, HSI.out.2.2.2] at this
                      exact this
                    obtain ⟨RK, hRK⟩ : ∃ RK, nth RL k = RK := ⟨_, rfl⟩
                    obtain ⟨U, hU⟩ : ∃ U, nth T K = U := ⟨_, rfl⟩
                    obtain ⟨V, hV⟩ : ∃ V, nth T (K + 1) = V := ⟨_, rfl⟩
                    rw [HSI.out.2.2.1] at cA
                    rw [HSI.out.2.2.2] at cB
                    rw [hRK] at cr2 HAP
                    rw [hU] at cC HAP
                    rw [hV] at cD HAP
                    clear hRK hU hV hK
                    by_cases he : RI = RK
                    · have d3 : (RI == RK) = true := by simpa using he
                      have hap := HAP.out he.symm
                      clear HAP he
                      by_cases h1 : A < V
                      · have d4 : decide (A < V) = true := by simpa using h1
                        have d5 : decide (U < E) = false := by rw [d4] at hap; simpa using hap
                        clear hap
                        go_wp2
                        go_quiet (fail)
                        go_wp2
                        go_roundw
                        case rel => exact ⟨k + 1, by omega, by go_num, below_drewN _ HWk.out⟩
                        case measure => simp [intOf]; omega
                      · have d4 : decide (A < V) = false := by simpa using h1
                        clear hap
                        go_wp2
                        go_quiet (fail)
                        go_wp2
                        go_roundw
                        case rel => exact ⟨k + 1, by omega, by go_num, below_drewN _ HWk.out⟩
                        case measure => simp [intOf]; omega
                    · have d3 : (RI == RK) = false := by simpa using he
                      clear HAP he
                      go_wp2
                      go_quiet (fail)
                      go_wp2
                      go_roundw
                      case rel => exact ⟨k + 1, by omega, by go_num, below_drewN _ HWk.out⟩
                      case measure => simp [intOf]; omega
                  · have k1 : ¬ (k : Int) < (i : Int) := by omega
                    go_wp2
                    go_roundw
                    case rel => exact ⟨i + 1, by omega, by rw [HCQ.out]; go_num, by go_num, HBk.out⟩
                    case measure => simp [intOf]; omega
              · have d7 : decide (X < E) = false := by simpa using hXE
                have HCQ : Hid (cntAt T X (i + 1) = q) := by show _ = _; rw [HCN.out, d6, d7]; rfl
                clear HCN
                have cr1 := HR2.out Wi HW.out i hi
                rw [HSI.out.2.1] at cr1
                go_wp2
                go_loopw [29] (fun vk wr => IdxR i Wi vk wr) (fun vk _ => i - (intOf vk).toNat)
                case atStart => exact ⟨0, Nat.zero_le _, rfl, Below.refl _ _⟩
                case round =>
                  obtain ⟨k, hki, rfl, HWk⟩ := hrel
                  have HBk : Hid (Below WB.heap.size WB wr) := HW.out.trans (HWk.out.mono HW.out.size)
                  by_cases hk : k < i
                  · have k1 : (k : Int) < (i : Int) := by omega
                    have k0 : (0 : Int) ≤ (k : Int) := by omega
                    have cr2 := HR2.out wr HBk.out k (by omega)
                    have cr1 := HR2.out wr HBk.out i hi
                    rw [HSI.out.2.1] at cr1
                    obtain ⟨K, hK⟩ : ∃ K, 2 * k = K := ⟨_, rfl⟩
                    have cA := HT2.out wr HBk.out I (by omega)
                    have cB := HT2.out wr HBk.out (I + 1) (by omega)
                    have cC := HT2.out wr HBk.out K (by omega)
                    have cD := HT2.out wr HBk.out (K + 1) (by omega)
                    have KK : 2 * (k : Int) = (K : Int) := by omega
                    have wK : IntKind.i64.wrap (K : Int) = (K : Int) := IntWalk.i64_in _ (by omega)
                    have wK1 : IntKind.i64.wrap ((K : Int) + 1) = (K : Int) + 1 := IntWalk.i64_in _ (by omega)
                    have K0 : (0 : Int) ≤ (K : Int) := by omega
                    have K1' : (K : Int) < 2 * (t : Int) := by omega
                    have K2 : (0 : Int) ≤ (K : Int) + 1 := by omega
                    have K3 : (K : Int) + 1 < 2 * (t : Int) := by omega
                    have Kn : ((K : Int) + 1).toNat = K + 1 := by omega
                    have HAP : Hid (nth RL k = RI → (decide (A < nth T (K + 1)) && decide (nth T K < E)) = false) := fun he => by
                      have := HF.out.apart i k hi hk (by rw [HSI.out.2.1]; exact he.symm)
                      unfold meetB at this
                      rw [HSI.out.1, hK, HSI.out.2.2.1, HSI.out.2.2.2] at this
                      exact this
                    obtain ⟨RK, hRK⟩ : ∃ RK, nth RL k = RK := ⟨_, rfl⟩
                    obtain ⟨U, hU⟩ : ∃ U, nth T K = U := ⟨_, rfl⟩
                    obtain ⟨V, hV⟩ : ∃ V, nth T (K + 1) = V := ⟨_, rfl⟩
                    rw [HSI.out.2.2.1] at cA
                    rw [HSI.out.2.2.2] at cB
                    rw [hRK] at cr2 HAP
                    rw [hU] at cC HAP
                    rw [hV] at cD HAP
                    clear hRK hU hV hK
                    by_cases he : RI = RK
                    · have d3 : (RI == RK) = true := by simpa using he
                      have hap := HAP.out he.symm
                      clear HAP he
                      by_cases h1 : A < V
                      · have d4 : decide (A < V) = true := by simpa using h1
                        have d5 : decide (U < E) = false := by rw [d4] at hap; simpa using hap
                        clear hap
                        go_wp2
                        go_quiet (fail)
                        go_wp2
                        go_roundw
                        case rel => exact ⟨k + 1, by omega, by go_num, below_drewN _ HWk.out⟩
                        case measure => simp [intOf]; omega
                      · have d4 : decide (A < V) = false := by simpa using h1
                        clear hap
                        go_wp2
                        go_quiet (fail)
                        go_wp2
                        go_roundw
                        case rel => exact ⟨k + 1, by omega, by go_num, below_drewN _ HWk.out⟩
                        case measure => simp [intOf]; omega
                    · have d3 : (RI == RK) = false := by simpa using he
                      clear HAP he
                      go_wp2
                      go_quiet (fail)
                      go_wp2
                      go_roundw
                      case rel => exact ⟨k + 1, by omega, by go_num, below_drewN _ HWk.out⟩
                      case measure => simp [intOf]; omega
                  · have k1 : ¬ (k : Int) < (i : Int) := by omega
                    go_wp2
                    go_roundw
                    case rel => exact ⟨i + 1, by omega, by rw [HCQ.out], by go_num, HBk.out⟩
                    case measure => simp [intOf]; omega
            · have d6 : decide (A ≤ X) = false := by simpa using hAX
              have HCQ : Hid (cntAt T X (i + 1) = q) := by show _ = _; rw [HCN.out, d6]; rfl
              clear HCN
              have cr1 := HR2.out Wi HW.out i hi
              rw [HSI.out.2.1] at cr1
              go_wp2
              go_loopw [29] (fun vk wr => IdxR i Wi vk wr) (fun vk _ => i - (intOf vk).toNat)
              case atStart => exact ⟨0, Nat.zero_le _, rfl, Below.refl _ _⟩
              case round =>
                obtain ⟨k, hki, rfl, HWk⟩ := hrel
                have HBk : Hid (Below WB.heap.size WB wr) := HW.out.trans (HWk.out.mono HW.out.size)
                by_cases hk : k < i
                · have k1 : (k : Int) < (i : Int) := by omega
                  have k0 : (0 : Int) ≤ (k : Int) := by omega
                  have cr2 := HR2.out wr HBk.out k (by omega)
                  have cr1 := HR2.out wr HBk.out i hi
                  rw [HSI.out.2.1] at cr1
                  obtain ⟨K, hK⟩ : ∃ K, 2 * k = K := ⟨_, rfl⟩
                  have cA := HT2.out wr HBk.out I (by omega)
                  have cB := HT2.out wr HBk.out (I + 1) (by omega)
                  have cC := HT2.out wr HBk.out K (by omega)
                  have cD := HT2.out wr HBk.out (K + 1) (by omega)
                  have KK : 2 * (k : Int) = (K : Int) := by omega
                  have wK : IntKind.i64.wrap (K : Int) = (K : Int) := IntWalk.i64_in _ (by omega)
                  have wK1 : IntKind.i64.wrap ((K : Int) + 1) = (K : Int) + 1 := IntWalk.i64_in _ (by omega)
                  have K0 : (0 : Int) ≤ (K : Int) := by omega
                  have K1' : (K : Int) < 2 * (t : Int) := by omega
                  have K2 : (0 : Int) ≤ (K : Int) + 1 := by omega
                  have K3 : (K : Int) + 1 < 2 * (t : Int) := by omega
                  have Kn : ((K : Int) + 1).toNat = K + 1 := by omega
                  have HAP : Hid (nth RL k = RI → (decide (A < nth T (K + 1)) && decide (nth T K < E)) = false) := fun he => by
                    have := HF.out.apart i k hi hk (by rw [HSI.out.2.1]; exact he.symm)
                    unfold meetB at this
                    rw [HSI.out.1, hK, HSI.out.2.2.1, HSI.out.2.2.2] at this
                    exact this
                  obtain ⟨RK, hRK⟩ : ∃ RK, nth RL k = RK := ⟨_, rfl⟩
                  obtain ⟨U, hU⟩ : ∃ U, nth T K = U := ⟨_, rfl⟩
                  obtain ⟨V, hV⟩ : ∃ V, nth T (K + 1) = V := ⟨_, rfl⟩
                  rw [HSI.out.2.2.1] at cA
                  rw [HSI.out.2.2.2] at cB
                  rw [hRK] at cr2 HAP
                  rw [hU] at cC HAP
                  rw [hV] at cD HAP
                  clear hRK hU hV hK
                  by_cases he : RI = RK
                  · have d3 : (RI == RK) = true := by simpa using he
                    have hap := HAP.out he.symm
                    clear HAP he
                    by_cases h1 : A < V
                    · have d4 : decide (A < V) = true := by simpa using h1
                      have d5 : decide (U < E) = false := by rw [d4] at hap; simpa using hap
                      clear hap
                      go_wp2
                      go_quiet (fail)
                      go_wp2
                      go_roundw
                      case rel => exact ⟨k + 1, by omega, by go_num, below_drewN _ HWk.out⟩
                      case measure => simp [intOf]; omega
                    · have d4 : decide (A < V) = false := by simpa using h1
                      clear hap
                      go_wp2
                      go_quiet (fail)
                      go_wp2
                      go_roundw
                      case rel => exact ⟨k + 1, by omega, by go_num, below_drewN _ HWk.out⟩
                      case measure => simp [intOf]; omega
                  · have d3 : (RI == RK) = false := by simpa using he
                    clear HAP he
                    go_wp2
                    go_quiet (fail)
                    go_wp2
                    go_roundw
                    case rel => exact ⟨k + 1, by omega, by go_num, below_drewN _ HWk.out⟩
                    case measure => simp [intOf]; omega
                · have k1 : ¬ (k : Int) < (i : Int) := by omega
                  go_wp2
                  go_roundw
                  case rel => exact ⟨i + 1, by omega, by rw [HCQ.out], by go_num, HBk.out⟩
                  case measure => simp [intOf]; omega
          · have i1 : ¬ (i : Int) < (t : Int) := by omega
            have hcc : (cntAt T X i : Int) = C := by rw [show i = t by omega]; exact HF.out.most.2.2
            rw [hcc]
            clear hcc
            obtain ⟨Wi, hWi⟩ : ∃ W : World, W = wr := ⟨_, rfl⟩
            subst hWi
            have BWi : Hid (Below w.heap.size w Wi ∧ Below WB.heap.size WB Wi) := ⟨BBw.out.trans (HW.out.mono BBw.out.size), HW.out⟩
            clear HR2 HW
            go_wp2
            go_loopw [245] (fun vi wr => IdxR m Wi vi wr) (fun vi _ => m - (intOf vi).toNat)
            case atStart => exact ⟨0, Nat.zero_le _, rfl, Below.refl _ _⟩
            case round =>
              obtain ⟨j, hjm, rfl, HWj⟩ := hrel
              by_cases hj : j < m
              · have j1 : (j : Int) < (m : Int) := by omega
                have j0 : (0 : Int) ≤ (j : Int) := by omega
                obtain ⟨Wj, hWj⟩ : ∃ W : World, W = wr := ⟨_, rfl⟩
                subst hWj
                have BWj : Hid (Below WB.heap.size WB Wj) := BWi.out.2.trans (HWj.out.mono BWi.out.2.size)
                obtain ⟨hah, hcj⟩ := HH2.out j hj
                subst hah
                have hin1 := HF.out.hin j (by rw [HM.out.1]; exact hj)
                go_wp2
                go_loopw [31] (fun vk wr => IdxR j Wj vk wr) (fun vk _ => j - (intOf vk).toNat)
                case atStart => exact ⟨0, Nat.zero_le _, rfl, Below.refl _ _⟩
                case round =>
                  obtain ⟨k, hkj, rfl, HWk⟩ := hrel
                  have HBk : Hid (Below WB.heap.size WB wr) := BWj.out.trans (HWk.out.mono BWj.out.size)
                  by_cases hk : k < j
                  · have k1 : (k : Int) < (j : Int) := by omega
                    have k0 : (0 : Int) ≤ (k : Int) := by omega
                    have k2 : (k : Int) < (m : Int) := by omega
                    have cj := hcj wr HBk.out
                    have ck := (HH2.out k (by omega)).2 wr HBk.out
                    have hin2 := HF.out.hin k (by rw [HM.out.1]; omega)
                    have hap := HF.out.hapart j k (by rw [HM.out.1]; exact hj) hk
                    obtain ⟨A, hA⟩ : ∃ A : Nat, nth HL j = A := ⟨(nth HL j).toNat, by omega⟩
                    obtain ⟨B, hB⟩ : ∃ B : Nat, nth HL k = B := ⟨(nth HL k).toNat, by omega⟩
                    rw [hA] at cj hap hin1
                    rw [hB] at ck hap hin2
                    rw [Int.toNat_natCast, Int.toNat_natCast] at hap
                    obtain ⟨hne, hmt⟩ := hap
                    have d1 : ((A : Int) == (B : Int)) = false := by simpa using hne
                    unfold meetB at hmt
                    obtain ⟨I, hI⟩ : ∃ I, 2 * A = I := ⟨_, rfl⟩
                    obtain ⟨K, hK⟩ : ∃ K, 2 * B = K := ⟨_, rfl⟩
                    rw [hI, hK] at hmt
                    have cA := HT2.out wr HBk.out I (by omega)
                    have cB := HT2.out wr HBk.out (I + 1) (by omega)
                    have cC := HT2.out wr HBk.out K (by omega)
                    have cD := HT2.out wr HBk.out (K + 1) (by omega)
                    have II : 2 * (A : Int) = (I : Int) := by omega
                    have KK : 2 * (B : Int) = (K : Int) := by omega
                    have wI : IntKind.i64.wrap (I : Int) = (I : Int) := IntWalk.i64_in _ (by omega)
                    have wI1 : IntKind.i64.wrap ((I : Int) + 1) = (I : Int) + 1 := IntWalk.i64_in _ (by omega)
                    have wK : IntKind.i64.wrap (K : Int) = (K : Int) := IntWalk.i64_in _ (by omega)
                    have wK1 : IntKind.i64.wrap ((K : Int) + 1) = (K : Int) + 1 := IntWalk.i64_in _ (by omega)
                    have I0 : (0 : Int) ≤ (I : Int) := by omega
                    have I1' : (I : Int) < 2 * (t : Int) := by omega
                    have I2 : (0 : Int) ≤ (I : Int) + 1 := by omega
                    have I3 : (I : Int) + 1 < 2 * (t : Int) := by omega
                    have In : ((I : Int) + 1).toNat = I + 1 := by omega
                    have K0 : (0 : Int) ≤ (K : Int) := by omega
                    have K1' : (K : Int) < 2 * (t : Int) := by omega
                    have K2 : (0 : Int) ≤ (K : Int) + 1 := by omega
                    have K3 : (K : Int) + 1 < 2 * (t : Int) := by omega
                    have Kn : ((K : Int) + 1).toNat = K + 1 := by omega
                    obtain ⟨P, hP⟩ : ∃ P, nth T I = P := ⟨_, rfl⟩
                    obtain ⟨E, hE⟩ : ∃ E, nth T (I + 1) = E := ⟨_, rfl⟩
                    obtain ⟨U, hU⟩ : ∃ U, nth T K = U := ⟨_, rfl⟩
                    obtain ⟨V, hV⟩ : ∃ V, nth T (K + 1) = V := ⟨_, rfl⟩
                    rw [hP] at cA hmt
                    rw [hE] at cB hmt
                    rw [hU] at cC hmt
                    rw [hV] at cD hmt
                    clear hP hE hU hV hI hK hA hB hne
                    by_cases h1 : P < V
                    · have d4 : decide (P < V) = true := by simpa using h1
                      have d5 : decide (U < E) = false := by rw [d4] at hmt; simpa using hmt
                      clear hmt
                      go_wp2
                      go_quiet (fail)
                      go_wp2
                      go_roundw
                      case rel => exact ⟨k + 1, by omega, by go_num, below_drewN _ HWk.out⟩
                      case measure => simp [intOf]; omega
                    · have d4 : decide (P < V) = false := by simpa using h1
                      clear hmt
                      go_wp2
                      go_quiet (fail)
                      go_wp2
                      go_roundw
                      case rel => exact ⟨k + 1, by omega, by go_num, below_drewN _ HWk.out⟩
                      case measure => simp [intOf]; omega
                  · have k1 : ¬ (k : Int) < (j : Int) := by omega
                    have HWR : Hid (Below Wi.heap.size Wi wr) := HWj.out.trans (HWk.out.mono HWj.out.size)
                    go_wp2
                    go_roundw
                    case rel => exact ⟨j + 1, by omega, by go_num, HWR.out⟩
                    case measure => simp [intOf]; omega
              · have j1 : ¬ (j : Int) < (m : Int) := by omega
                have BWC : Hid (Below w.heap.size w wr ∧ Below WB.heap.size WB wr) := ⟨BWi.out.1.trans (HWj.out.mono BWi.out.1.size), BWi.out.2.trans (HWj.out.mono BWi.out.2.size)⟩
                obtain ⟨WC, hWC⟩ : ∃ W : World, W = wr := ⟨_, rfl⟩
                subst hWC
                clear HWj BWi HH2 HT2
                go_wp2_with fail
                refine (HAT.out _ _ _ BWC.out.1 (by omega) (by omega) (by omega) (by omega)).mono ?_
                rintro e w' ⟨⟨y, rfl, y0, y1⟩, rfl⟩
                obtain ⟨long, hlg⟩ : ∃ long, 1 + y = long := ⟨_, rfl⟩
                have lw : IntKind.i64.wrap long = long := IntWalk.i64_in _ (by omega)
                have HFI : Hid (∀ W, Below WB.heap.size WB W → Calls Try.prog 13 #[.slice (some ⟨W.heap.size, 0, none⟩) 1 1, .int .i64 0, .int .i64 30, .int .i64 long] (W.alloc (.cells #[.slice (some ⟨bT, oT, none⟩) (2 * t) cT] 29)) fun e w' => e = retF (freeR [T] 0 30 long) ∧ Below W.heap.size W w') := fun W hW =>
                  (implFree_any _ [T] 0 30 long _ (mat_one (ITB.out.below hW (Nat.le_refl _)) HT.out.2.2)).mono fun e w' ⟨h1, h2⟩ => ⟨h1, ((Below.refl _ W).alloc (Nat.le_refl _) _).trans (h2.mono (by simp))⟩
                have HFS : Hid (∀ W, Below WB.heap.size WB W → Calls Try.prog 11 #[.slice (some ⟨W.heap.size, 0, none⟩) 1 1, .int .i64 0, .int .i64 30, .int .i64 long] (W.alloc (.cells #[.slice (some ⟨bT, oT, none⟩) (2 * t) cT] 29)) fun e w' => e = retF (freeR [T] 0 30 long) ∧ Below W.heap.size W w') := fun W hW =>
                  (specFree_any _ [T] 0 30 long _ (mat_one (ITB.out.below hW (Nat.le_refl _)) HT.out.2.2)).mono fun e w' ⟨h1, h2⟩ => ⟨h1, ((Below.refl _ W).alloc (Nat.le_refl _) _).trans (h2.mono (by simp))⟩
                unfold retF at HFI HFS
                obtain ⟨G, hG⟩ : ∃ G, (freeR [T] 0 30 long).getD 0 = G := ⟨_, rfl⟩
                obtain ⟨S, hS⟩ : ∃ S, (freeR [T] 0 30 long).isSome = S := ⟨_, rfl⟩
                simp only [hG, hS] at HFI HFS
                clear hG hS
                go_wp2_with fail
                refine (HFI.out _ BWC.out.2).mono ?_
                rintro e WD ⟨rfl, hbD⟩
                have BWD : Hid (Below w.heap.size w WD ∧ Below WB.heap.size WB WD) := ⟨BWC.out.1.trans (hbD.mono BWC.out.1.size), BWC.out.2.trans (hbD.mono BWC.out.2.size)⟩
                clear hbD BWC
                go_wp2_with fail
                refine (HFS.out _ BWD.out.2).mono ?_
                rintro e WE ⟨rfl, hbE⟩
                have BWE : Hid (Below w.heap.size w WE) := BWD.out.1.trans (hbE.mono BWD.out.1.size)
                have e1 : (C == C) = true := by simp
                have e2 : (G == G) = true := by simp
                clear hbE BWD
                cases S
                · go_wp2
                  go_ret
                  exact ⟨rfl, BWE.out⟩
                · go_wp2
                  go_ret
                  exact ⟨rfl, BWE.out⟩
  · go_enter Try.func6, Try.ntmps6
    go_wp2_with fail
    refine (b10Long_any _ _ xs ys _ hv0 hv1).mono ?_
    rintro e w' ⟨rfl, rfl⟩
    rw [hlong]
    go_wp2_with fail
    go_ret
    exact ⟨rfl, Below.refl _ _⟩
end Go.Proofs.Ytnpfninkopffmaa
