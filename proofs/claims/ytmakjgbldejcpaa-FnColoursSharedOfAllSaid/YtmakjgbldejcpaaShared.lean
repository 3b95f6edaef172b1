
/- ColoursShared, program and reference, for all arguments. Conditions: none. -/
import Derived.Test.YtmakjgbldejcpaaLeastBoth
import Derived.Test.YtmakjgbldejcpaaMat
import Derived.Deep.RegionWith
namespace Go.Proofs.Ytmakjgbldejcpaa
open Go.RowKit Go.Shelf Go.BigFrame
set_option linter.unusedVariables false
set_option linter.unusedSimpArgs false
attribute [local go_sem] Oper.semAt_some

def shHead (xs : List (List Int)) (n q : Int) : Bool := decide (xs.length ≤ 8) && win n 1 12 && win q 1 8
def shOk (xs : List (List Int)) (n q : Int) : Bool := shHead xs n q && xs.all (clashesOk n)
def shL (xs : List (List Int)) (n q : Int) : List Int := if shOk xs n q then xs.map (lstN n) else []
theorem sh_no {xs : List (List Int)} {n q : Int} (h : shOk xs n q = false) : shL xs n q = [] := by unfold shL; rw [h]; rfl
theorem sh_yes {xs : List (List Int)} {n q : Int} (h : shOk xs n q = true) : shL xs n q = xs.map (lstN n) := by unfold shL; rw [h]; rfl
theorem sh_bad {xs : List (List Int)} {n q : Int} {i : Nat} (hi : i < xs.length) (h : clashesOk n xs[i] = false) : shOk xs n q = false := by
  unfold shOk
  have : xs.all (clashesOk n) = false := by rw [List.all_eq_false]; exact ⟨_, List.getElem_mem hi, by rw [h]; simp⟩
  rw [this, Bool.and_false]
theorem sh_all {xs : List (List Int)} {n q : Int} (h1 : shHead xs n q = true) (h : ∀ i (hi : i < xs.length), clashesOk n xs[i] = true) : shOk xs n q = true := by
  unfold shOk
  rw [h1, Bool.true_and, List.all_eq_true]
  intro x hx
  obtain ⟨i, hi, rfl⟩ := List.mem_iff_getElem.1 hx
  exact h i hi
theorem shL_small (xs : List (List Int)) (n q : Int) : (shL xs n q).length ≤ 8 := by
  unfold shL
  split
  · rename_i h
    unfold shOk shHead at h
    simp only [Bool.and_eq_true, decide_eq_true_eq] at h
    simpa using h.1.1.1
  · simp
theorem take_lst {xs : List (List Int)} {n : Int} {k : Nat} (h : k < xs.length) : (xs.take (k + 1)).map (lstN n) = (xs.take k).map (lstN n) ++ [lstN n xs[k]] := by
  rw [List.take_succ_eq_append_getElem h, List.map_append]; rfl

theorem areWorkers_any (n : Int) (w : World) : Calls Try.prog 101 #[.int .i64 n] w fun e w' => e = .returned (.bool (win n 1 8)) ∧ w = w' := by
  go_enter Try.func101, Try.ntmps101
  go_wp2_with (go_at_call 69; refine (within_any _ _ _ _).mono ?_; rintro e w' ⟨rfl, rfl⟩)
  go_ret
  exact ⟨rfl, rfl⟩

set_option maxHeartbeats 2000000 in
theorem implShared_u (v : Value) (xs : List (List Int)) (n q : Int) (w : World) (hv : MatR w v xs) (hn : (Lit.int .i64 n).wf = true) :
    Calls Try.prog 37 #[v, .int .i64 n, .int .i64 q] w fun e w' => (∃ v', e = .returned (.tuple #[v', .bool (shOk xs n q)]) ∧ OwnI w' w.heap.size v' (shL xs n q)) ∧ Below w.heap.size w w' := by
  have HV : Hid (∀ W, Below w.heap.size w W → MatR W v xs) := fun W hW => hv.below hW (Nat.le_refl _)
  have HN := Lib.hid hn
  have hm := hv.1
  unfold maxLen at hm
  have HX : Hid (shHead xs n q = false → shOk xs n q = false ∧ shL xs n q = []) := fun h => by
    have : shOk xs n q = false := by unfold shOk; rw [h]; rfl
    exact ⟨this, sh_no this⟩
  have HBAD : Hid (∀ i (hi : i < xs.length), clashesOk n xs[i] = false → shOk xs n q = false ∧ shL xs n q = []) := fun i hi h => ⟨sh_bad hi h, sh_no (sh_bad hi h)⟩
  have H1 : Hid (∀ W, Calls Try.prog 100 #[.int .i64 n] W fun e w' => e = .returned (.bool (win n 1 12)) ∧ W = w') := fun W => areExams_any n W
  have H2 : Hid (∀ W, Calls Try.prog 101 #[.int .i64 q] W fun e w' => e = .returned (.bool (win q 1 8)) ∧ W = w') := fun W => areWorkers_any q W
  obtain ⟨a, c, rfl, hcap, _⟩ := hv.at_
  clear hv hn
  by_cases h8 : xs.length ≤ 8
  · have hd8 : decide ((xs.length : Int) > 8) = false := by simp; omega
    cases z1 : win n 1 12
    · have HF := Lib.hid (HX.out (by unfold shHead; rw [z1]; simp))
      rw [z1] at H1
      clear z1
      go_enter Try.func37, Try.ntmps37
      go_wp2_with (first | (go_at_call 100; refine (H1.out _).mono ?_; rintro e w' ⟨rfl, rfl⟩) | (go_at_call 101; refine (H2.out _).mono ?_; rintro e w' ⟨rfl, rfl⟩))
      go_ret2
      exact ⟨⟨_, by rw [HF.out.1]; rfl, by rw [HF.out.2]; exact own_nil _ _⟩, Below.refl _ _⟩
    · cases z2 : win q 1 8
      · have HF := Lib.hid (HX.out (by unfold shHead; rw [z1, z2]; simp))
        rw [z1] at H1
        rw [z2] at H2
        clear z1 z2
        go_enter Try.func37, Try.ntmps37
        go_wp2_with (first | (go_at_call 100; refine (H1.out _).mono ?_; rintro e w' ⟨rfl, rfl⟩) | (go_at_call 101; refine (H2.out _).mono ?_; rintro e w' ⟨rfl, rfl⟩))
        go_ret2
        exact ⟨⟨_, by rw [HF.out.1]; rfl, by rw [HF.out.2]; exact own_nil _ _⟩, Below.refl _ _⟩
      · have HALL : Hid ((∀ i (hi : i < xs.length), clashesOk n xs[i] = true) → shOk xs n q = true ∧ shL xs n q = xs.map (lstN n)) := fun h => by
          have := sh_all (n := n) (q := q) (by unfold shHead; rw [z1, z2]; simp [h8]) h
          exact ⟨this, sh_yes this⟩
        rw [z1] at H1
        rw [z2] at H2
        have HL0 : Hid (OwnI (w.alloc (.cells #[] 2)) w.heap.size (.slice (some ⟨w.heap.size, 0, none⟩) 0 0) []) := OwnI.lit w w.heap.size [] (Nat.le_refl _) (Nat.zero_le _)
        have HBA : Hid (Below w.heap.size w (w.alloc (.cells #[] 2))) := (Below.refl _ _).alloc (Nat.le_refl _) _
        clear z1 z2
        go_enter Try.func37, Try.ntmps37
        go_wp2_with (first | (go_at_call 100; refine (H1.out _).mono ?_; rintro e w' ⟨rfl, rfl⟩) | (go_at_call 101; refine (H2.out _).mono ?_; rintro e w' ⟨rfl, rfl⟩))
        go_loopw [8, 30] (fun vo vi wr => ∃ (k g' c' : Nat), k ≤ xs.length ∧ vi = .int .i64 k ∧ vo = .slice (some ⟨g', 0, none⟩) k c' ∧ OwnI wr w.heap.size (.slice (some ⟨g', 0, none⟩) k c') ((xs.take k).map (lstN n)) ∧ Below w.heap.size w wr ∧ Hid (∀ i (hi : i < xs.length), i < k → clashesOk n xs[i] = true)) (fun _ vi _ => xs.length - (intOf vi).toNat)
        case atStart => exact ⟨0, _, _, Nat.zero_le _, rfl, rfl, HL0.out, HBA.out, fun i hi h => by omega⟩
        case round =>
          obtain ⟨k, g', c', hk, rfl, rfl, hO, hB, hok⟩ := hrel
          obtain ⟨wr', rfl⟩ : ∃ wr' : World, wr' = wr := ⟨_, rfl⟩
          have HO := Lib.hid hO
          have HB := Lib.hid hB
          clear hO hB
          by_cases hkl : k < xs.length
          · obtain ⟨a3, c3, hsl3, _, hc⟩ := (HV.out wr' HB.out).at_
            obtain ⟨rfl, rfl⟩ : a = a3 ∧ c = c3 := by simpa using hsl3
            obtain ⟨b, o, u, rfl, hbs, hr, e0⟩ := hc k hkl
            have hcall := implLeast_u n u xs[k] wr' hr.ints.1 HN.out
            have HBD := Lib.hid (HBAD.out k hkl)
            have HTK := Lib.hid (take_lst (n := n) hkl)
            have hxk : ∀ y : Bool, clashesOk n xs[k] = y → Hid (clashesOk n xs[k] = y) := fun y h => h
            have k0 : (0 : Int) ≤ (k : Int) := by omega
            have k1 : (k : Int) < (xs.length : Int) := by omega
            cases hck : clashesOk n xs[k]
            · have HF := Lib.hid (HBD.out hck)
              rw [hck] at hcall
              have HC := Lib.hid hcall
              clear hcall hr hc hsl3 hck hok hxk
              go_wp2_with (go_at_call 42; refine HC.out.mono ?_; rintro e W1 ⟨⟨u1, rfl, ho1⟩, hb1⟩; have HB1 := Lib.hid (HB.out.trans (hb1.mono HB.out.size)); clear ho1 hb1)
              go_ret2
              exact ⟨⟨_, by rw [HF.out.1]; rfl, by rw [HF.out.2]; exact own_nil _ _⟩, HB1.out⟩
            · have HOK : Hid (∀ i (hi : i < xs.length), i < k + 1 → clashesOk n xs[i] = true) := fun i hi h => by
                rcases Nat.lt_succ_iff_lt_or_eq.1 h with h | rfl
                · exact hok.out i hi h
                · exact hck
              rw [hck] at hcall
              obtain ⟨L, hL⟩ : ∃ L, lstN n xs[k] = L := ⟨_, rfl⟩
              obtain ⟨Y, hY⟩ : ∃ Y, (xs.take k).map (lstN n) = Y := ⟨_, rfl⟩
              have hYl : Y.length = k := by rw [← hY]; simp; omega
              rw [hL] at hcall HTK
              rw [hY] at HO HTK
              have HC := Lib.hid hcall
              have HYL := Lib.hid hYl
              clear hcall hr hc hsl3 hck hok hxk hL hY hYl
              go_wp2_with (first
                | (go_at_call 42; refine HC.out.mono ?_; rintro e W1 ⟨⟨u1, rfl, ho1⟩, hb1⟩; obtain ⟨_, a1, c1, rfl, _⟩ := ho1.ints; have HB1 := Lib.hid (HB.out.trans (hb1.mono HB.out.size)); have HO1 := Lib.hid (HO.out.below hb1 (Nat.le_refl _)); clear ho1 hb1)
                | (at_builtin; refine append_i64 rfl _ _ rfl w.heap.size (.slice (some ⟨g', 0, none⟩) k c') Y [L] (Nat.zero_lt_succ _) rfl _ rfl HO1.out HB1.out.size (by rw [HYL.out]; simp; omega) ?_; intro g4 c4 w4 ho4 hg4; have hb4 := Below.app HB1.out HO1.out hg4 HB1.out.size; have HO4 := Lib.hid ho4; have HB4 := Lib.hid hb4; clear ho4 hg4 hb4))
              go_roundw
              case rel => exact ⟨k + 1, g4, c4, by omega, by go_num, by rw [HYL.out], by have := HO4.out; rw [HYL.out] at this; rw [HTK.out]; exact this, HB4.out, HOK.out⟩
              case measure => simp [intOf]; omega
          · obtain rfl : k = xs.length := by omega
            have HF := Lib.hid (HALL.out fun i hi => hok.out i hi hi)
            have HT : Hid (xs.take xs.length = xs) := List.take_length
            clear hok hkl
            go_wp2
            go_ret2
            exact ⟨⟨_, by rw [HF.out.1]; rfl, by rw [HF.out.2]; have := HO.out; rw [HT.out] at this; exact this⟩, HB.out⟩
  · have hd8 : decide ((xs.length : Int) > 8) = true := by simp; omega
    have HF := Lib.hid (HX.out (by unfold shHead; simp [h8]))
    clear h8
    go_enter Try.func37, Try.ntmps37
    go_wp2
    go_ret2
    exact ⟨⟨_, by rw [HF.out.1]; rfl, by rw [HF.out.2]; exact own_nil _ _⟩, Below.refl _ _⟩
set_option maxHeartbeats 2000000 in
theorem specShared_u (v : Value) (xs : List (List Int)) (n q : Int) (w : World) (hv : MatR w v xs) (hn : (Lit.int .i64 n).wf = true) :
    Calls Try.prog 38 #[v, .int .i64 n, .int .i64 q] w fun e w' => (∃ v', e = .returned (.tuple #[v', .bool (shOk xs n q)]) ∧ OwnI w' w.heap.size v' (shL xs n q)) ∧ Below w.heap.size w w' := by
  have HV : Hid (∀ W, Below w.heap.size w W → MatR W v xs) := fun W hW => hv.below hW (Nat.le_refl _)
  have HN := Lib.hid hn
  have hm := hv.1
  unfold maxLen at hm
  have HX : Hid (shHead xs n q = false → shOk xs n q = false ∧ shL xs n q = []) := fun h => by
    have : shOk xs n q = false := by unfold shOk; rw [h]; rfl
    exact ⟨this, sh_no this⟩
  have HBAD : Hid (∀ i (hi : i < xs.length), clashesOk n xs[i] = false → shOk xs n q = false ∧ shL xs n q = []) := fun i hi h => ⟨sh_bad hi h, sh_no (sh_bad hi h)⟩
  have H1 : Hid (∀ W, Calls Try.prog 66 #[.int .i64 n, .int .i64 1, .int .i64 12] W fun e w' => e = .returned (.bool (win n 1 12)) ∧ W = w') := fun W => l00In_any n 1 12 W
  have H2 : Hid (∀ W, Calls Try.prog 66 #[.int .i64 q, .int .i64 1, .int .i64 8] W fun e w' => e = .returned (.bool (win q 1 8)) ∧ W = w') := fun W => l00In_any q 1 8 W
  obtain ⟨a, c, rfl, hcap, _⟩ := hv.at_
  clear hv hn
  by_cases h8 : xs.length ≤ 8
  · have hd8 : decide ((xs.length : Int) > 8) = false := by simp; omega
    cases z1 : win n 1 12
    · have HF := Lib.hid (HX.out (by unfold shHead; rw [z1]; simp))
      rw [z1] at H1
      clear z1
      go_enter Try.func38, Try.ntmps38
      go_wp2_with (first | (go_at_call_of 66 n; refine (H1.out _).mono ?_; rintro e w' ⟨rfl, rfl⟩) | (go_at_call_of 66 q; refine (H2.out _).mono ?_; rintro e w' ⟨rfl, rfl⟩))
      go_ret2
      exact ⟨⟨_, by rw [HF.out.1]; rfl, by rw [HF.out.2]; exact own_nil _ _⟩, Below.refl _ _⟩
    · cases z2 : win q 1 8
      · have HF := Lib.hid (HX.out (by unfold shHead; rw [z1, z2]; simp))
        rw [z1] at H1
        rw [z2] at H2
        clear z1 z2
        go_enter Try.func38, Try.ntmps38
        go_wp2_with (first | (go_at_call_of 66 n; refine (H1.out _).mono ?_; rintro e w' ⟨rfl, rfl⟩) | (go_at_call_of 66 q; refine (H2.out _).mono ?_; rintro e w' ⟨rfl, rfl⟩))
        go_ret2
        exact ⟨⟨_, by rw [HF.out.1]; rfl, by rw [HF.out.2]; exact own_nil _ _⟩, Below.refl _ _⟩
      · have HALL : Hid ((∀ i (hi : i < xs.length), clashesOk n xs[i] = true) → shOk xs n q = true ∧ shL xs n q = xs.map (lstN n)) := fun h => by
          have := sh_all (n := n) (q := q) (by unfold shHead; rw [z1, z2]; simp [h8]) h
          exact ⟨this, sh_yes this⟩
        rw [z1] at H1
        rw [z2] at H2
        have HL0 : Hid (OwnI (w.alloc (.cells #[] 2)) w.heap.size (.slice (some ⟨w.heap.size, 0, none⟩) 0 0) []) := OwnI.lit w w.heap.size [] (Nat.le_refl _) (Nat.zero_le _)
        have HBA : Hid (Below w.heap.size w (w.alloc (.cells #[] 2))) := (Below.refl _ _).alloc (Nat.le_refl _) _
        clear z1 z2
        go_enter Try.func38, Try.ntmps38
        go_wp2_with (first | (go_at_call_of 66 n; refine (H1.out _).mono ?_; rintro e w' ⟨rfl, rfl⟩) | (go_at_call_of 66 q; refine (H2.out _).mono ?_; rintro e w' ⟨rfl, rfl⟩))
        go_loopw [8, 28] (fun vo vi wr => ∃ (k g' c' : Nat), k ≤ xs.length ∧ vi = .int .i64 k ∧ vo = .slice (some ⟨g', 0, none⟩) k c' ∧ OwnI wr w.heap.size (.slice (some ⟨g', 0, none⟩) k c') ((xs.take k).map (lstN n)) ∧ Below w.heap.size w wr ∧ Hid (∀ i (hi : i < xs.length), i < k → clashesOk n xs[i] = true)) (fun _ vi _ => xs.length - (intOf vi).toNat)
        case atStart => exact ⟨0, _, _, Nat.zero_le _, rfl, rfl, HL0.out, HBA.out, fun i hi h => by omega⟩
        case round =>
          obtain ⟨k, g', c', hk, rfl, rfl, hO, hB, hok⟩ := hrel
          obtain ⟨wr', rfl⟩ : ∃ wr' : World, wr' = wr := ⟨_, rfl⟩
          have HO := Lib.hid hO
          have HB := Lib.hid hB
          clear hO hB
          by_cases hkl : k < xs.length
          · obtain ⟨a3, c3, hsl3, _, hc⟩ := (HV.out wr' HB.out).at_
            obtain ⟨rfl, rfl⟩ : a = a3 ∧ c = c3 := by simpa using hsl3
            obtain ⟨b, o, u, rfl, hbs, hr, e0⟩ := hc k hkl
            have hcall := specClashes_any n u xs[k] wr' hr.ints.1 HN.out
            have HLEAST : Hid (clashesOk n xs[k] = true → ∀ W, Below wr'.heap.size wr' W → Calls Try.prog 103 #[.int .i64 n, u] W fun e w' => (∃ g c m, e = .returned (.tuple #[.slice (some ⟨g, 0, none⟩) m c, .int .i64 (lstN n xs[k])])) ∧ Below W.heap.size W w') := fun hck W hW => by
              obtain ⟨t, rfl, h1, h2, h3, h4, h5⟩ := clash_bounds hck
              rw [(lst_yes hck).2, Int.toNat_natCast]
              exact (l07Least_any t u xs[k] W (hr.ints.1.below hW (Nat.le_refl _)) h1 h2 h4 (by omega)).mono fun e w' ⟨⟨g, c, he, _⟩, hb⟩ => ⟨⟨g, c, t, he⟩, hb⟩
            have HBD := Lib.hid (HBAD.out k hkl)
            have HTK := Lib.hid (take_lst (n := n) hkl)
            have hxk : ∀ y : Bool, clashesOk n xs[k] = y → Hid (clashesOk n xs[k] = y) := fun y h => h
            have k0 : (0 : Int) ≤ (k : Int) := by omega
            have k1 : (k : Int) < (xs.length : Int) := by omega
            cases hck : clashesOk n xs[k]
            · have HF := Lib.hid (HBD.out hck)
              rw [hck] at hcall
              have HC := Lib.hid hcall
              clear hcall hr hc hsl3 hck hok hxk
              go_wp2_with (go_at_call 102; refine HC.out.mono ?_; rintro e W1 ⟨rfl, hb1⟩; have HB1 := Lib.hid (HB.out.trans (hb1.mono HB.out.size)); clear hb1)
              go_ret2
              exact ⟨⟨_, by rw [HF.out.1]; rfl, by rw [HF.out.2]; exact own_nil _ _⟩, HB1.out⟩
            · have HOK : Hid (∀ i (hi : i < xs.length), i < k + 1 → clashesOk n xs[i] = true) := fun i hi h => by
                rcases Nat.lt_succ_iff_lt_or_eq.1 h with h | rfl
                · exact hok.out i hi h
                · exact hck
              rw [hck] at hcall
              have HLE := Lib.hid (HLEAST.out hck)
              have HBS := Lib.hid hbs
              have E0 := Lib.hid e0
              obtain ⟨L, hL⟩ : ∃ L, lstN n xs[k] = L := ⟨_, rfl⟩
              obtain ⟨Y, hY⟩ : ∃ Y, (xs.take k).map (lstN n) = Y := ⟨_, rfl⟩
              have hYl : Y.length = k := by rw [← hY]; simp; omega
              rw [hL] at HLE HTK
              rw [hY] at HO HTK
              have HC := Lib.hid hcall
              have HYL := Lib.hid hYl
              clear hcall hr hc hsl3 hck hok hxk hL hY hYl
              go_wp2_with (first
                | (go_at_call 102; refine HC.out.mono ?_; rintro e W0 ⟨rfl, hb0⟩; have hcell0 := (hb0.cell (p := ⟨b, o + k, none⟩) HBS.out).trans E0.out; have HB0 := Lib.hid hb0; clear hb0)
                | (go_at_call 103; refine (HLE.out _ HB0.out).mono ?_; rintro e W1 ⟨⟨g1, c1, m1, rfl⟩, hb01⟩; have hb1 := HB0.out.trans (hb01.mono HB0.out.size); have HB1 := Lib.hid (HB.out.trans (hb1.mono HB.out.size)); have HO1 := Lib.hid (HO.out.below hb1 (Nat.le_refl _)); clear hb01 hb1)
                | (at_builtin; refine append_i64 rfl _ _ rfl w.heap.size (.slice (some ⟨g', 0, none⟩) k c') Y [L] (Nat.zero_lt_succ _) rfl _ rfl HO1.out HB1.out.size (by rw [HYL.out]; simp; omega) ?_; intro g4 c4 w4 ho4 hg4; have hb4 := Below.app HB1.out HO1.out hg4 HB1.out.size; have HO4 := Lib.hid ho4; have HB4 := Lib.hid hb4; clear ho4 hg4 hb4))
              go_roundw
              case rel => exact ⟨k + 1, g4, c4, by omega, by go_num, by rw [HYL.out], by have := HO4.out; rw [HYL.out] at this; rw [HTK.out]; exact this, HB4.out, HOK.out⟩
              case measure => simp [intOf]; omega
          · obtain rfl : k = xs.length := by omega
            have HF := Lib.hid (HALL.out fun i hi => hok.out i hi hi)
            have HT : Hid (xs.take xs.length = xs) := List.take_length
            clear hok hkl
            go_wp2
            go_ret2
            exact ⟨⟨_, by rw [HF.out.1]; rfl, by rw [HF.out.2]; have := HO.out; rw [HT.out] at this; exact this⟩, HB.out⟩
  · have hd8 : decide ((xs.length : Int) > 8) = true := by simp; omega
    have HF := Lib.hid (HX.out (by unfold shHead; simp [h8]))
    clear h8
    go_enter Try.func38, Try.ntmps38
    go_wp2
    go_ret2
    exact ⟨⟨_, by rw [HF.out.1]; rfl, by rw [HF.out.2]; exact own_nil _ _⟩, Below.refl _ _⟩
end Go.Proofs.Ytmakjgbldejcpaa
