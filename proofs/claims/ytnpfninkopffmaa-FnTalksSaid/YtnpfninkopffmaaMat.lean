
/- Lists of lists of integers: how they read, that they are the call's own; the laws' szInt64SS, toInt64SS, eqInt64SS, markInt64SS. Conditions: at most 2^20 numbers. -/
import Derived.Test.YtnpfninkopffmaaRead
import Derived.Test.YtnpfninkopffmaaBlk
import Derived.StillTailTactics
namespace Go.Proofs.Ytnpfninkopffmaa
open Go.RowKit
set_option linter.unusedVariables false
set_option linter.unusedSimpArgs false

abbrev MatR (w : World) (v : Value) (xs : List (List Int)) : Prop := SlR (rSl rInt) w v xs
theorem MatR.at_ {w : World} {v : Value} {xs : List (List Int)} (h : MatR w v xs) : ∃ a c, v = .slice a xs.length c ∧ xs.length ≤ c ∧ ∀ i (hi : i < xs.length), ∃ b o u, a = some ⟨b, o, none⟩ ∧ b < w.heap.size ∧ SlR rInt w u xs[i] ∧ w.cell? ⟨b, o + i, none⟩ = some u := by
  obtain ⟨hm, a, c, hv, hcap, hc⟩ := h
  refine ⟨a, c, hv, hcap, fun i hi => ?_⟩
  obtain ⟨b, o, cs, ha, hbs, ⟨u, rfl, hr⟩, hcell⟩ := hc i hi
  have := hcell 0 (by simp)
  exact ⟨b, o, u, ha, hbs, hr, by simpa [rSl] using this⟩
/-- How many numbers there are in all. -/
def matSum (xs : List (List Int)) : Nat := (xs.map List.length).sum
theorem matSum_take (xs : List (List Int)) (i : Nat) (h : i < xs.length) : matSum (xs.take (i + 1)) = matSum (xs.take i) + xs[i].length := by
  unfold matSum; rw [List.take_succ_eq_append_getElem h, List.map_append, List.sum_append]; simp
theorem matSum_full (xs : List (List Int)) : matSum (xs.take xs.length) = matSum xs := by rw [List.take_length]
theorem matSum_le (xs : List (List Int)) (i : Nat) : matSum (xs.take i) ≤ matSum xs := by
  unfold matSum
  conv => rhs; rw [← List.take_append_drop i xs]
  rw [List.map_append, List.sum_append]; omega
def smallMat (xs : List (List Int)) : Prop := xs.length + matSum xs ≤ 1048576
theorem smallMat.row {xs : List (List Int)} (h : smallMat xs) (i : Nat) (hi : i < xs.length) : xs[i].length ≤ 1048576 := by
  unfold smallMat at h
  have := matSum_take xs i hi
  have := matSum_le xs (i + 1)
  omega

theorem szInt64S_val (v : Value) (xs : List Int) (left : Int) (w : World) (hv : Ints w v xs) (h0 : 0 ≤ left) (h1 : left ≤ 1048576) :
    Calls Try.prog 53 #[v, .int .i64 left] w fun e w' => e = .returned (.int .i64 (if left < xs.length then -1 else left - xs.length)) ∧ w = w' := by
  obtain ⟨hm, a, c, rfl, hcap, hc⟩ := hv
  unfold maxLen at hm
  clear hc
  by_cases hlt : left < (xs.length : Int)
  · have hd : left - (xs.length : Int) < 0 := by omega
    go_enter Try.func53, Try.ntmps53
    go_wp2
    go_ret
    exact ⟨by simp, rfl⟩
  · have hd : ¬ left - (xs.length : Int) < 0 := by omega
    go_enter Try.func53, Try.ntmps53
    go_wp2
    go_ret
    exact ⟨by simp, rfl⟩

set_option maxHeartbeats 1000000 in
theorem szInt64SS_any (v : Value) (xs : List (List Int)) (w : World) (hv : MatR w v xs) :
    Calls Try.prog 10 #[v, .int .i64 1048576] w fun e w' => (∃ r : Int, e = .returned (.int .i64 r) ∧ (r = -1 ∨ 0 ≤ r ∧ smallMat xs)) ∧ w = w' := by
  have hm := hv.1
  obtain ⟨a, c, rfl, hcap, hc⟩ := hv.at_
  have HC := Lib.hid hc
  unfold maxLen at hm
  clear hc hv
  by_cases hlt : (1048576 : Int) < (xs.length : Int)
  · have hd : 1048576 - (xs.length : Int) < 0 := by omega
    go_enter Try.func10, Try.ntmps10
    go_wp2
    go_ret
    exact ⟨⟨-1, rfl, .inl rfl⟩, rfl⟩
  · have hd : ¬ 1048576 - (xs.length : Int) < 0 := by omega
    go_enter Try.func10, Try.ntmps10
    go_wp2
    go_loop [1, 5] (fun vl vi => ∃ (k : Nat) (q : Int), k ≤ xs.length ∧ vi = .int .i64 k ∧ vl = .int .i64 q ∧ 0 ≤ q ∧ q ≤ 1048576 ∧ Hid (q = 1048576 - xs.length - matSum (xs.take k))) (fun _ vi => xs.length - (intOf vi).toNat)
    case atStart => exact ⟨0, _, Nat.zero_le _, rfl, rfl, by omega, by omega, by show _ = _; simp [matSum]⟩
    case round =>
      obtain ⟨k, q, hk, rfl, rfl, h0, h1, hq⟩ := hrel
      by_cases hkl : k < xs.length
      · obtain ⟨b, o, u, rfl, hbs, hr, hcell⟩ := HC.out k hkl
        have hs := szInt64S_val u xs[k] q w hr.ints.1 h0 h1
        have HT := Lib.hid (matSum_take xs k hkl)
        obtain ⟨n, hn⟩ : ∃ n, xs[k].length = n := ⟨_, rfl⟩
        rw [hn] at hs HT
        have k0 : (0 : Int) ≤ (k : Int) := by omega
        have k1 : (k : Int) < (xs.length : Int) := by omega
        clear hr hn
        by_cases hnq : q < (n : Int)
        · rw [if_pos hnq] at hs
          have HSZ := Lib.hid hs
          clear hs
          go_wp2_with (go_at_call 53; refine HSZ.out.mono ?_; rintro e w' ⟨rfl, rfl⟩)
          go_ret
          exact ⟨⟨-1, rfl, .inl rfl⟩, rfl⟩
        · rw [if_neg hnq] at hs
          have HSZ := Lib.hid hs
          have hqn : ¬ q - (n : Int) < 0 := by omega
          clear hs
          go_wp2_with (go_at_call 53; refine HSZ.out.mono ?_; rintro e w' ⟨rfl, rfl⟩)
          go_round
          case rel => exact ⟨k + 1, q - n, by omega, by go_num, rfl, by omega, by omega, by show _ = _; rw [HT.out]; have := hq.out; omega⟩
          case measure => simp [intOf]; omega
      · obtain rfl : k = xs.length := by omega
        have HS : Hid (smallMat xs) := by show smallMat xs; have := hq.out; rw [matSum_full] at this; unfold smallMat; omega
        clear hq
        go_wp2
        go_ret
        exact ⟨⟨q, rfl, .inr ⟨h0, HS.out⟩⟩, rfl⟩

/-- The rows of a list of lists that is the call's own: each in a block of its own between lo and hi. -/
def RowsM (w : World) (lo hi : Nat) (raw : List Value) (xs : List (List Int)) (k : Nat) : Prop :=
  ∀ i (h : i < xs.length), i < k → ∃ u, raw[i]? = some u ∧ OwnI w lo u xs[i] ∧ ∀ b, u.ownBlock = some b → b < hi ∧ ∀ j, j < i → ∀ u', raw[j]? = some u' → u'.ownBlock ≠ some b
theorem RowsM.step {w w' : World} {lo hi : Nat} {raw : List Value} {xs : List (List Int)} {k : Nat} (h : RowsM w lo hi raw xs k) (hw : ∀ i (h : i < xs.length), i < k → ∀ u, raw[i]? = some u → OwnI w lo u xs[i] → OwnI w' lo u xs[i]) : RowsM w' lo hi raw xs k := fun i hi hk => by
  obtain ⟨u, h1, h2, h3⟩ := h i hi hk
  exact ⟨u, h1, hw i hi hk u h1 h2, h3⟩
theorem RowsM.push {w : World} {lo hi hi' : Nat} {raw : List Value} {xs : List (List Int)} {k : Nat} (h : RowsM w lo hi raw xs k) {u : Value} (hk : k < xs.length) (hr : k < raw.length) (ho : OwnI w lo u xs[k]) (hh : hi ≤ hi') (hu : ∀ b, u.ownBlock = some b → hi ≤ b ∧ b < hi') : RowsM w lo hi' (raw.set k u) xs (k + 1) := by
  intro i hi2 hik
  rcases Nat.lt_succ_iff_lt_or_eq.1 hik with h1 | rfl
  · obtain ⟨u1, q1, q2, q3⟩ := h i hi2 h1
    refine ⟨u1, by rw [List.getElem?_set_ne (by omega)]; exact q1, q2, fun b hb => ⟨by have := (q3 b hb).1; omega, fun j hj u' hu' => ?_⟩⟩
    rw [List.getElem?_set_ne (by omega)] at hu'
    exact (q3 b hb).2 j hj u' hu'
  · refine ⟨u, by simp [hr], ho, fun b hb => ⟨(hu b hb).2, fun j hj u' hu' e => ?_⟩⟩
    rw [List.getElem?_set_ne (by omega)] at hu'
    obtain ⟨u2, q1, _, q3⟩ := h j (by omega) hj
    rw [q1] at hu'
    obtain rfl : u2 = u' := by simpa using hu'
    have := (q3 b e).1
    have := (hu b hb).1
    omega
structure OwnM (w : World) (lo hi : Nat) (v : Value) (xs : List (List Int)) : Prop where
  ex : ∃ g raw, v = .slice (some ⟨g, 0, none⟩) xs.length xs.length ∧ g < hi ∧ OwnV 29 1 w lo v xs.length raw ∧ RowsM w (g + 1) hi raw xs xs.length
  wf : ∀ x ∈ xs, ∀ n ∈ x, (Lit.int .i64 n).wf = true
  len : xs.length ≤ maxLen
theorem OwnM.read {w : World} {lo hi : Nat} {v : Value} {xs : List (List Int)} (h : OwnM w lo hi v xs) : MatR w v xs := by
  obtain ⟨⟨g, raw, rfl, hg, hO, hR⟩, hwf, hl⟩ := h
  refine ⟨hl, _, _, rfl, Nat.le_refl _, fun i hi => ?_⟩
  obtain ⟨u, h1, h2, _⟩ := hR i hi hi
  have hlen := hO.length
  refine ⟨g, 0, [u], rfl, (hO.lt g rfl).2, ⟨u, rfl, SlR.of_ints h2.ints (hwf _ (List.getElem_mem hi))⟩, fun j hj => ?_⟩
  obtain rfl : j = 0 := by simpa using hj
  have := (hO.store i (by rw [hlen]; omega) u).1
  rw [List.getElem?_eq_getElem (by rw [hlen]; omega)] at h1
  simp only [rSl, Nat.mul_one, Nat.add_zero, Nat.zero_add, List.getElem_cons_zero]
  rw [this]; exact h1
theorem OwnM.below {w w' : World} {lo hi : Nat} {v : Value} {xs : List (List Int)} (h : OwnM w lo hi v xs) (hb : Below w.heap.size w w') : OwnM w' lo hi v xs := by
  obtain ⟨⟨g, raw, hv, hg, hO, hR⟩, hwf, hl⟩ := h
  exact ⟨⟨g, raw, hv, hg, hO.below hb (Nat.le_refl _), hR.step fun i _ _ u _ ho => ho.below hb (Nat.le_refl _)⟩, hwf, hl⟩
theorem OwnM.grown {w w' : World} {lo hi lo' hi' : Nat} {v u : Value} {xs : List (List Int)} {ys : List Int} (h : OwnM w lo hi v xs) (k : Own2 w lo' hi' u ys) (hg : w.grownBy w' u.ownBlock) (hd : hi ≤ lo' ∨ hi' ≤ lo) : OwnM w' lo hi v xs := by
  obtain ⟨⟨g, raw, rfl, hgh, hO, hR⟩, hwf, hl⟩ := h
  have hgl := (hO.lt g rfl).1
  have key : ∀ b, lo ≤ b → b < hi → u.ownBlock ≠ some b := fun b h1 h2 e => by
    have := k.own.lt b e; have := k.hi b e; omega
  refine ⟨⟨g, raw, rfl, hgh, hO.kept hg (.inr fun e => key g hgl hgh e.symm), hR.step fun i hi2 _ z hz ho => ho.kept hg ?_⟩, hwf, hl⟩
  cases hb : z.ownBlock with
  | none => exact .inl rfl
  | some b =>
    obtain ⟨z', q1, _, q3⟩ := hR i hi2 hi2
    rw [q1] at hz
    obtain rfl : z' = z := by simpa using hz
    exact .inr fun e => key b (by have := (ho.lt b hb).1; omega) (q3 b hb).1 e.symm

theorem info_row : (Try.prog.info? 29).map (fun i => (i.zero, i.size, i.bytes)) = some (some (.slice none 0 0), 1, 24) := by kernel_rfl
set_option maxRecDepth 100000 in
set_option maxHeartbeats 2000000 in
theorem toInt64SS_any (v : Value) (xs : List (List Int)) (w : World) (hv : MatR w v xs) (hs : smallMat xs) :
    Calls Try.prog 12 #[v] w fun e w' => (∃ v', e = .returned v' ∧ OwnM w' w.heap.size w'.heap.size v' xs) ∧ Below w.heap.size w w' := by
  have HV : Hid (∀ W, Below w.heap.size w W → MatR W v xs) := fun W hW => hv.below hW (Nat.le_refl _)
  have hm0 := hv.1
  have HWF : Hid (∀ x ∈ xs, ∀ n ∈ x, (Lit.int .i64 n).wf = true) := fun x hx => by
    obtain ⟨i, hi, rfl⟩ := List.mem_iff_getElem.1 hx
    obtain ⟨_, _, _, _, h⟩ := hv.at_
    obtain ⟨_, _, _, _, _, hr, _⟩ := h i hi
    exact hr.ints.2
  obtain ⟨a, c, rfl, hcap, hc⟩ := hv.at_
  obtain ⟨i0, hi, hz0, hz1, hz2⟩ := info_parts info_row
  have hl : xs.length ≤ 1048576 := by unfold smallMat at hs; omega
  have HS := Lib.hid hs
  have HM := Lib.hid hm0
  unfold maxLen at hm0
  clear hc hv hs
  go_enter Try.func12, Try.ntmps12
  go_wp2_with (at_make; refine wpList_make_full _ rfl _ _ 22 rfl w.heap.size 29 i0 (.slice none 0 0) 1 Try.underlying22 hi hz0 hz1 _ _ _ _ xs.length rfl rfl rfl rfl (by rw [hz2]; omega) (by unfold maxLen at *; omega) (Nat.le_refl _) ?_; intro w1 hown1 hgrow1)
  obtain ⟨g, hg⟩ : ∃ g, w.heap.size = g := ⟨_, rfl⟩
  obtain ⟨raw0, hO1⟩ : ∃ raw, OwnV 29 1 w1 g (.slice (some ⟨g, 0, none⟩) xs.length xs.length) xs.length raw := by subst hg; exact ⟨_, hown1⟩
  have HO1 := Lib.hid hO1
  have HB1 := Lib.hid ((Below.refl g w).grown hgrow1 (by omega) (fun k e => by cases e))
  have HG := Lib.hid hg
  rw [hg]
  clear hown1 hgrow1 hi hz0 hz1 hz2 hg hO1
  go_loopw [4] (fun vi wr => ∃ (k : Nat) (raw : List Value), k ≤ xs.length ∧ vi = .int .i64 k ∧ OwnV 29 1 wr g (.slice (some ⟨g, 0, none⟩) xs.length xs.length) xs.length raw ∧ RowsM wr (g + 1) wr.heap.size raw xs k ∧ Below g w wr) (fun vi _ => xs.length - (intOf vi).toNat)
  case atStart => exact ⟨0, _, Nat.zero_le _, rfl, HO1.out, fun i _ h => by omega, HB1.out⟩
  case round =>
    obtain ⟨k, raw, hk, rfl, hO, hF, hB⟩ := hrel
    obtain ⟨wr', rfl⟩ : ∃ wr' : World, wr' = wr := ⟨_, rfl⟩
    have HO := Lib.hid hO
    have HF := Lib.hid hF
    have HB := Lib.hid hB
    have hgl := (hO.lt g rfl).2
    clear hO hF hB HO1 HB1
    by_cases hkl : k < xs.length
    · have hV := HV.out wr' (by rw [HG.out]; exact HB.out)
      obtain ⟨a3, c3, hsl3, _, hc⟩ := hV.at_
      obtain ⟨rfl, rfl⟩ : a = a3 ∧ c = c3 := by simpa using hsl3
      obtain ⟨b, o, u, rfl, hbs, hr, e0⟩ := hc k hkl
      have hto := toInt64S_any u xs[k] wr' hr.ints.1 (HS.out.row k hkl)
      have k0 : (0 : Int) ≤ (k : Int) := by omega
      have k1 : (k : Int) < (xs.length : Int) := by omega
      have hlen := HO.out.length
      have HTO := Lib.hid hto
      have HLEN := Lib.hid hlen
      clear hto hc hsl3 hr hV hlen
      go_wp2_with fail
      refine HTO.out.mono ?_
      rintro e W1 ⟨u1, rfl, (ho1 : OwnI _ _ _ _), hb1⟩
      have hO1 := HO.out.below hb1 (Nat.le_refl _)
      have hF1 : RowsM W1 (g + 1) wr'.heap.size raw xs k := HF.out.step fun i _ _ z _ hz => hz.below hb1 (Nat.le_refl _)
      have hB1 := HB.out.trans (hb1.mono (by omega))
      have hput := hF1.push hkl (by rw [HLEN.out]; omega) (ho1.mono (by omega)) hb1.size (fun b hb => ho1.lt b hb)
      have hfar : ∀ b, g < b → ∀ z : Value, z.ownBlock = some b → z.ownBlock ≠ some g := fun b h1 z h2 e => by rw [h2] at e; cases e; omega
      obtain ⟨s0, f0, o0, _⟩ := hO1.store k (by rw [HLEN.out]; omega) u1
      have HO3 := Lib.hid o0
      have HPUT := Lib.hid hput
      have HB1 := Lib.hid hB1
      obtain ⟨ua, uc, rfl⟩ : ∃ a c, u1 = .slice a xs[k].length c := by obtain ⟨_, a, c, h, _⟩ := ho1.ints; exact ⟨a, c, h⟩
      clear o0 hput hb1 hO1 hF1 hB1 ho1
      go_wp2_with fail
      go_roundw
      case rel =>
        refine ⟨k + 1, _, by omega, by go_num, HO3.out, ?_, HB1.out.setCell (p := ⟨g, k, none⟩) (Nat.le_refl _) _⟩
        have := HPUT.out.step (w' := W1.setCell ⟨g, k, none⟩ (.slice ua xs[k].length uc)) fun i _ _ z _ hz => hz.setCell _ (fun e => by have := (hz.lt _ e).1; simp at this; omega)
        simpa using this
      case measure => simp [intOf]; omega
    · obtain rfl : k = xs.length := by omega
      clear hkl
      go_wp2_with fail
      go_ret
      rw [HG.out]
      exact ⟨⟨_, rfl, ⟨g, raw, rfl, hgl, HO.out, HF.out⟩, HWF.out, HM.out⟩, HB.out⟩

set_option maxRecDepth 100000 in
set_option maxHeartbeats 1000000 in
theorem eqInt64SS_same (v u : Value) (xs : List (List Int)) (w : World) (hv : MatR w v xs) (hu : MatR w u xs) :
    Calls Try.prog 14 #[v, u] w fun e w' => e = .returned (.bool true) ∧ Below w.heap.size w w' := by
  have HV : Hid (∀ W, Below w.heap.size w W → MatR W v xs) := fun W hW => hv.below hW (Nat.le_refl _)
  have HU : Hid (∀ W, Below w.heap.size w W → MatR W u xs) := fun W hW => hu.below hW (Nat.le_refl _)
  have hm0 := hv.1
  unfold maxLen at hm0
  obtain ⟨a, c, rfl, hcap, _⟩ := hv.at_
  obtain ⟨a', c', rfl, hcap', _⟩ := hu.at_
  clear hv hu
  go_enter Try.func14, Try.ntmps14
  go_wp2
  go_loopw [5] (fun i wr => ∃ k : Nat, k ≤ xs.length ∧ i = .int .i64 k ∧ Below w.heap.size w wr) (fun i _ => xs.length - (intOf i).toNat)
  case atStart => exact ⟨0, Nat.zero_le _, rfl, Below.refl _ _⟩
  case round =>
    obtain ⟨k, hk, rfl, hb⟩ := hrel
    obtain ⟨wr', rfl⟩ : ∃ wr' : World, wr' = wr := ⟨_, rfl⟩
    have HB := Lib.hid hb
    by_cases hlt : k < xs.length
    · obtain ⟨a3, c3, hsl3, _, hc⟩ := (HV.out wr' hb).at_
      obtain ⟨rfl, rfl⟩ : a = a3 ∧ c = c3 := by simpa using hsl3
      obtain ⟨b, o, u1, rfl, hbs, h1, e0⟩ := hc k hlt
      obtain ⟨a4, c4, hsl4, _, hc'⟩ := (HU.out wr' hb).at_
      obtain ⟨rfl, rfl⟩ : a' = a4 ∧ c' = c4 := by simpa using hsl4
      obtain ⟨b', o', u2, rfl, hbs', h1', f0⟩ := hc' k hlt
      have HCALL : Hid (∀ q, Calls Try.prog 18 #[u1, u2] (wr'.drewN q) fun e w' => e = .returned (.bool true) ∧ Below (wr'.drewN q).heap.size (wr'.drewN q) w') := fun q => by
        have := eqInt64S_any u1 u2 xs[k] xs[k] (wr'.drewN q) (h1.ints.1.below (below_drewN q (Below.refl _ _)) (Nat.le_refl _)) (h1'.ints.1.below (below_drewN q (Below.refl _ _)) (Nat.le_refl _))
        rwa [beq_self_eq_true] at this
      have hk0 : (0 : Int) ≤ (k : Int) := by omega
      have hk1 : (k : Int) < (xs.length : Int) := by omega
      clear hc hc' hsl3 hsl4 h1 h1' hb
      go_wp2
      go_still_tail 8, (by kernel_rfl)
      go_wp2_with (go_at_call 18; refine (HCALL.out 1).mono ?_; rintro e W1 ⟨rfl, hb1⟩; have HB1 := Lib.hid ((below_drewN 1 HB.out).trans (hb1.mono (by have := HB.out.size; exact this))); clear hb1)
      go_roundw
      case rel => exact ⟨k + 1, by omega, by go_num, HB1.out⟩
      case measure => simp [intOf]; omega
    · clear hb
      go_wp2
      go_ret
      exact ⟨rfl, HB.out⟩
end Go.Proofs.Ytnpfninkopffmaa
