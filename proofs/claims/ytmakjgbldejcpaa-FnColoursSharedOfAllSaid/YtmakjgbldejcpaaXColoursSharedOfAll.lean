
/- The walk of FnColoursSharedOfAll. Conditions: none. -/
import Derived.Test.YtmakjgbldejcpaaShared
namespace Go.Proofs.Ytmakjgbldejcpaa
open Go.RowKit
set_option linter.unusedVariables false
set_option linter.unusedSimpArgs false

theorem sameInts_any (v u : Value) (xs ys : List Int) (w : World) (hv : Ints w v xs) (hu : Ints w u ys) :
    Calls Try.prog 39 #[v, u] w fun e w' => e = .returned (.bool (xs == ys)) ∧ Below w.heap.size w w' := by
  obtain ⟨hm, a, c, rfl, hcap, hc⟩ := hv
  obtain ⟨hm', a', c', rfl, hcap', hc'⟩ := hu
  unfold maxLen at hm hm'
  by_cases hlen : xs.length = ys.length
  · have hl1 : ((xs.length : Int) != ys.length) = false := by simp [hlen]
    go_enter Try.func39, Try.ntmps39
    go_wp2
    go_loopw [5] (fun i wr => ∃ k : Nat, k ≤ xs.length ∧ i = .int .i64 k ∧ xs.take k = ys.take k ∧ Below w.heap.size w wr) (fun i _ => xs.length - (intOf i).toNat)
    case atStart => exact ⟨0, Nat.zero_le _, rfl, rfl, Below.refl _ _⟩
    case round =>
      obtain ⟨k, hk, rfl, heq, hb⟩ := hrel
      by_cases hlt : k < xs.length
      · have hlt' : k < ys.length := by omega
        obtain ⟨b, o, rfl, hbs, hc1⟩ := hc k hlt
        obtain ⟨b', o', rfl, hbs', hc1'⟩ := hc' k hlt'
        have hc2 : wr.cell? ⟨b, o + k, none⟩ = some (.int .i64 xs[k]) := (hb.cell (p := ⟨b, o + k, none⟩) hbs).trans hc1
        have hc2' : wr.cell? ⟨b', o' + k, none⟩ = some (.int .i64 ys[k]) := (hb.cell (p := ⟨b', o' + k, none⟩) hbs').trans hc1'
        have hk0 : (0 : Int) ≤ (k : Int) := by omega
        have hk1 : (k : Int) < (xs.length : Int) := by omega
        have hk2 : (k : Int) < (ys.length : Int) := by omega
        have Heq := Lib.hid heq
        have Hlen := Lib.hid hlen
        clear hc hc' hc1 hc1' heq hlen
        cases hne : (xs[k] != ys[k])
        · go_wp2
          go_quiet (fail)
          go_wp2
          go_roundw
          case rel =>
            refine ⟨k + 1, by omega, by go_num, ?_, below_drewN _ hb⟩
            rw [List.take_succ_eq_append_getElem hlt, List.take_succ_eq_append_getElem hlt', Heq.out]
            simp at hne; rw [hne]
          case measure => simp [intOf]; omega
        · go_wp2
          go_quiet (fail)
          go_wp2
          go_ret
          refine ⟨ret_bool ?_, below_drewN _ hb⟩
          symm
          rw [beq_eq_false_iff_ne]
          rintro rfl
          simp at hne
      · have hk' : k = xs.length := by omega
        clear hc hc'
        have Heq := Lib.hid heq
        have Hlen := Lib.hid hlen
        have Hk' := Lib.hid hk'
        clear heq hlen hk'
        go_wp2
        go_ret
        refine ⟨ret_bool ?_, hb⟩
        symm
        rw [beq_iff_eq]
        have h := Heq.out
        have h1 := Hk'.out
        have h2 := Hlen.out
        rwa [List.take_of_length_le (by omega), List.take_of_length_le (by omega)] at h
  · have hl1 : ((xs.length : Int) != ys.length) = true := by simp; omega
    have Hlen := Lib.hid hlen
    clear hlen
    go_enter Try.func39, Try.ntmps39
    go_wp2
    go_ret
    refine ⟨ret_bool ?_, Below.refl _ _⟩
    symm
    rw [beq_eq_false_iff_ne]
    rintro rfl
    exact Hlen.out rfl

theorem shOk_same {xs : List (List Int)} {n p q : Int} (hp : win p 1 8 = true) (hq : win q 1 8 = true) : shOk xs n p = shOk xs n q := by
  unfold shOk shHead; rw [hp, hq]
theorem shL_same {xs : List (List Int)} {n p q : Int} (hp : win p 1 8 = true) (hq : win q 1 8 = true) : shL xs n p = shL xs n q := by
  unfold shL; rw [shOk_same hp hq]

set_option maxRecDepth 100000 in
set_option maxHeartbeats 4000000 in
theorem walkFnColoursSharedOfAll (a0 : Value) (xs : List (List Int)) (n p q : Int) (w : World) (hv : SlR (rSl rInt) w a0 xs) (w1 : (Lit.int .i64 n).wf = true) (w2 : (Lit.int .i64 p).wf = true) (w3 : (Lit.int .i64 q).wf = true) :
    Calls Try.prog 8 #[a0, .int .i64 n, .int .i64 p, .int .i64 q] w fun e w' => e = .returned (.bool true) ∧ Below w.heap.size w w' := by
  have HV : Hid (∀ W, Below w.heap.size w W → MatR W a0 xs) := fun W hW => hv.below hW (Nat.le_refl _)
  have hm := hv.1
  unfold maxLen at hm
  have HI : Hid (∀ W r, Below w.heap.size w W → Calls Try.prog 37 #[a0, .int .i64 n, .int .i64 r] W fun e w' => (∃ v', e = .returned (.tuple #[v', .bool (shOk xs n r)]) ∧ OwnI w' W.heap.size v' (shL xs n r)) ∧ Below W.heap.size W w') := fun W r hW => implShared_u a0 xs n r W (hv.below hW (Nat.le_refl _)) w1
  have HP : Hid (∀ W r, Below w.heap.size w W → Calls Try.prog 38 #[a0, .int .i64 n, .int .i64 r] W fun e w' => (∃ v', e = .returned (.tuple #[v', .bool (shOk xs n r)]) ∧ OwnI w' W.heap.size v' (shL xs n r)) ∧ Below W.heap.size W w') := fun W r hW => specShared_u a0 xs n r W (hv.below hW (Nat.le_refl _)) w1
  have HPQ : Hid (win p 1 8 = true → win q 1 8 = true → shOk xs n p = shOk xs n q ∧ shL xs n p = shL xs n q) := fun h1 h2 => ⟨shOk_same h1 h2, shL_same h1 h2⟩
  have HSAME : Hid (∀ v u ys W, Ints W v ys → Ints W u ys → Calls Try.prog 39 #[v, u] W fun e w' => e = .returned (.bool true) ∧ Below W.heap.size W w') := fun v u ys W h1 h2 => by
    have := sameInts_any v u ys ys W h1 h2; rwa [beq_self_eq_true] at this
  obtain ⟨_, a, c, rfl, hcap, _⟩ := hv
  clear w1 w2 w3
  by_cases hbig : xs.length ≤ 10000
  · have hd : decide ((xs.length : Int) > 10000) = false := by simp; omega
    go_enter Try.func8, Try.ntmps8
    go_wp2_with fail
    refine (HI.out _ p (Below.refl _ _)).mono ?_
    rintro e W1 ⟨⟨x1, rfl, ho1⟩, hb1⟩
    have HB1 := Lib.hid hb1
    have HO1 := Lib.hid ho1
    obtain ⟨_, a1, c1, rfl, _⟩ := ho1.ints
    clear ho1 hb1
    go_wp2_with fail
    refine (HI.out _ q HB1.out).mono ?_
    rintro e W2 ⟨⟨x2, rfl, ho2⟩, hb2⟩
    have HO12 := Lib.hid (HO1.out.below hb2 (Nat.le_refl _))
    have HB2 := Lib.hid (HB1.out.trans (hb2.mono HB1.out.size))
    have HO2 := Lib.hid ho2
    obtain ⟨_, a2, c2, rfl, _⟩ := ho2.ints
    clear ho2 hb2 HO1 HB1
    go_wp2_with fail
    refine (HP.out _ p HB2.out).mono ?_
    rintro e W3 ⟨⟨x3, rfl, ho3⟩, hb3⟩
    have HO13 := Lib.hid (HO12.out.below hb3 (Nat.le_refl _))
    have HO23 := Lib.hid (HO2.out.below hb3 (Nat.le_refl _))
    have HB3 := Lib.hid (HB2.out.trans (hb3.mono HB2.out.size))
    have HO3 := Lib.hid ho3
    obtain ⟨_, a3, c3, rfl, _⟩ := ho3.ints
    clear ho3 hb3 HO12 HO2 HB2
    have HEND : Hid (∀ W, Below W3.heap.size W3 W → Below w.heap.size w W) := fun W h => HB3.out.trans (h.mono HB3.out.size)
    have H13 : Hid (∀ W, Below W3.heap.size W3 W → Calls Try.prog 39 #[.slice a1 (shL xs n p).length c1, .slice a3 (shL xs n p).length c3] W fun e w' => e = .returned (.bool true) ∧ Below W.heap.size W w') := fun W h => HSAME.out _ _ _ W (HO13.out.ints.below h (Nat.le_refl _)) (HO3.out.ints.below h (Nat.le_refl _))
    have H12 : Hid (shL xs n p = shL xs n q → ∀ W, Below W3.heap.size W3 W → Calls Try.prog 39 #[.slice a1 (shL xs n p).length c1, .slice a2 (shL xs n q).length c2] W fun e w' => e = .returned (.bool true) ∧ Below W.heap.size W w') := fun he W h => HSAME.out _ _ (shL xs n p) W (HO13.out.ints.below h (Nat.le_refl _)) (by rw [he]; exact HO23.out.ints.below h (Nat.le_refl _))
    obtain ⟨b1, hb1⟩ : ∃ b, shOk xs n p = b := ⟨_, rfl⟩
    obtain ⟨b2, hb2⟩ : ∃ b, shOk xs n q = b := ⟨_, rfl⟩
    rw [hb1] at HPQ ⊢
    rw [hb2] at HPQ ⊢
    obtain ⟨L1, hL1⟩ : ∃ b, shL xs n p = b := ⟨_, rfl⟩
    obtain ⟨L2, hL2⟩ : ∃ b, shL xs n q = b := ⟨_, rfl⟩
    rw [hL1] at HPQ H13 H12 ⊢
    rw [hL2] at HPQ H12 ⊢
    clear hb1 hb2 hL1 hL2 HO13 HO23 HO3
    by_cases p1 : p < 1
    · cases b1
      · go_wp2
        go_ret
        exact ⟨rfl, HB3.out⟩
      · go_wp2_with (go_at_call 39; refine (H13.out _ (Below.refl _ _)).mono ?_; rintro e W4 ⟨rfl, hb4⟩)
        go_ret
        exact ⟨rfl, HEND.out _ hb4⟩
    · have p1' : decide (p < 1) = false := by simpa using p1
      by_cases p2 : 8 < p
      · cases b1
        · go_wp2
          go_ret
          exact ⟨rfl, HB3.out⟩
        · go_wp2_with (go_at_call 39; refine (H13.out _ (Below.refl _ _)).mono ?_; rintro e W4 ⟨rfl, hb4⟩)
          go_ret
          exact ⟨rfl, HEND.out _ hb4⟩
      · have p2' : decide (8 < p) = false := by simpa using p2
        by_cases q1 : q < 1
        · cases b1
          · go_wp2
            go_ret
            exact ⟨rfl, HB3.out⟩
          · go_wp2_with (go_at_call 39; refine (H13.out _ (Below.refl _ _)).mono ?_; rintro e W4 ⟨rfl, hb4⟩)
            go_ret
            exact ⟨rfl, HEND.out _ hb4⟩
        · have q1' : decide (q < 1) = false := by simpa using q1
          by_cases q2 : 8 < q
          · cases b1
            · go_wp2
              go_ret
              exact ⟨rfl, HB3.out⟩
            · go_wp2_with (go_at_call 39; refine (H13.out _ (Below.refl _ _)).mono ?_; rintro e W4 ⟨rfl, hb4⟩)
              go_ret
              exact ⟨rfl, HEND.out _ hb4⟩
          · have q2' : decide (8 < q) = false := by simpa using q2
            obtain ⟨e1, e2⟩ := HPQ.out (win_true.2 ⟨by omega, by omega⟩) (win_true.2 ⟨by omega, by omega⟩)
            have H12' := Lib.hid (H12.out e2)
            subst e1
            clear e2 HPQ H12
            cases b1
            · go_wp2
              go_ret
              exact ⟨rfl, HB3.out⟩
            · go_wp2_with fail
              refine (H13.out _ (Below.refl _ _)).mono ?_
              rintro e W4 ⟨rfl, hb4⟩
              have HB4 := Lib.hid hb4
              clear hb4
              go_wp2_with fail
              refine (H12'.out _ HB4.out).mono ?_
              rintro e W5 ⟨rfl, hb5⟩
              have HB5 := Lib.hid hb5
              clear hb5
              go_wp2
              go_ret
              exact ⟨rfl, HEND.out _ (HB4.out.trans (HB5.out.mono HB4.out.size))⟩
  · have hd : decide ((xs.length : Int) > 10000) = true := by simp; omega
    go_enter Try.func8, Try.ntmps8
    go_wp2
    go_ret
    exact ⟨rfl, Below.refl _ _⟩
end Go.Proofs.Ytmakjgbldejcpaa
