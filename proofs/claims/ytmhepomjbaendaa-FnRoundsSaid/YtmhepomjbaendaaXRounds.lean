
/- The walk of FnRounds. Conditions: none. -/
import Derived.Test.YtmhepomjbaendaaRoundsLaw
import Derived.Test.YtmhepomjbaendaaLawCode
import Derived.Test.YtmhepomjbaendaaBytes2
namespace Go.Proofs.Ytmhepomjbaendaa
open Go.RowKit Go.Shelf Go.BigFrame
set_option linter.unusedVariables false
set_option linter.unusedSimpArgs false

theorem made_rep {w : World} {base g : Nat} {n : Nat} (h : w.ownsRow base 2 1 (.slice (some ⟨g, 0, none⟩) n n) n (madeCells (Value.int .i64 0).cells (n * 1)).toList) : OwnI w base (.slice (some ⟨g, 0, none⟩) n n) (List.replicate n 0) := by
  have e : (madeCells (Value.int .i64 0).cells (n * 1)).toList = (List.replicate n 0).map (Value.int .i64) := by
    rw [Nat.mul_one]; exact (toList_madeCells_one _ _).trans (by simp)
  rw [e] at h
  unfold OwnI
  rwa [List.length_replicate]

theorem b10Ints_any (v u : Value) (xs ys : List Int) (w : World) (hv : Ints w v xs) (hu : Ints w u ys) :
    Calls Try.prog 21 #[v, u] w fun e w' => e = .returned (.bool (xs == ys)) ∧ Below w.heap.size w w' := by
  obtain ⟨hm, a, c, rfl, hcap, hc⟩ := hv
  obtain ⟨hm', a', c', rfl, hcap', hc'⟩ := hu
  unfold maxLen at hm hm'
  by_cases hlen : xs.length = ys.length
  · have hl1 : ((xs.length : Int) != ys.length) = false := by simp [hlen]
    go_enter Try.func21, Try.ntmps21
    go_wp2
    go_loopw [13] (fun i wr => ∃ k : Nat, k ≤ xs.length ∧ i = .int .i64 k ∧ xs.take k = ys.take k ∧ Below w.heap.size w wr) (fun i _ => xs.length - (intOf i).toNat)
    case atStart => exact ⟨0, Nat.zero_le _, rfl, rfl, Below.refl _ _⟩
    case round =>
      obtain ⟨k, hk, rfl, heq, hb⟩ := hrel
      by_cases hlt : k < xs.length
      · have hlt' : k < ys.length := by omega
        obtain ⟨b, o, rfl, hbs, hc1⟩ := hc k hlt
        obtain ⟨b', o', rfl, hbs', hc1'⟩ := hc' k hlt'
        have hc2 : wr.cell? ⟨b, o + k, none⟩ = some (.int .i64 xs[k]) := (hb.cell (p := ⟨b, o + k, none⟩) hbs).trans hc1
        have hc2' : wr.cell? ⟨b', o' + k, none⟩ = some (.int .i64 ys[k]) := (hb.cell (p := ⟨b', o' + k, none⟩) hbs').trans hc1'
        have hk0 : (0 : Int) ≤ (k : Int) := by omega
        have hk1 : (k : Int) < (xs.length : Int) := by omega
        have hk2 : (k : Int) < (ys.length : Int) := by omega
        have Heq := Lib.hid heq
        have Hlen := Lib.hid hlen
        clear hc hc' hc1 hc1' heq hlen
        cases hne : (xs[k] != ys[k])
        · go_wp2
          go_quiet (fail)
          go_wp2
          go_roundw
          case rel =>
            refine ⟨k + 1, by omega, by go_num, ?_, below_drewN _ hb⟩
            rw [List.take_succ_eq_append_getElem hlt, List.take_succ_eq_append_getElem hlt', Heq.out]
            simp at hne; rw [hne]
          case measure => simp [intOf]; omega
        · go_wp2
          go_quiet (fail)
          go_wp2
          go_ret
          refine ⟨ret_bool ?_, below_drewN _ hb⟩
          symm
          rw [beq_eq_false_iff_ne]
          rintro rfl
          simp at hne
      · have hk' : k = xs.length := by omega
        clear hc hc'
        have Heq := Lib.hid heq
        have Hlen := Lib.hid hlen
        have Hk' := Lib.hid hk'
        clear heq hlen hk'
        have hkk : ¬ k < ys.length := by have := Hlen.out; have := Hk'.out; omega
        go_wp2
        go_ret
        refine ⟨ret_bool ?_, hb⟩
        symm
        rw [beq_iff_eq]
        have h := Heq.out
        have h1 := Hk'.out
        have h2 := Hlen.out
        rwa [List.take_of_length_le (by omega), List.take_of_length_le (by omega)] at h
  · have hl1 : ((xs.length : Int) != ys.length) = true := by simp; omega
    have Hlen := Lib.hid hlen
    clear hlen
    go_enter Try.func21, Try.ntmps21
    go_wp2
    go_ret
    refine ⟨ret_bool ?_, Below.refl _ _⟩
    symm
    rw [beq_eq_false_iff_ne]
    rintro rfl
    exact Hlen.out rfl


set_option maxRecDepth 100000 in
set_option maxHeartbeats 4000000 in
theorem walkFnRounds (a0 : Option Addr) (len0 cap0 : Nat) (z0 : List Int) (a1 : Option Addr) (len1 cap1 : Nat) (z1 : List Int) (w : World)
    (w0 : (a0 = none ∧ len0 = 0 ∧ cap0 = 0 ∧ z0 = []) ∨
      ∃ x, a0 = some x ∧ len0 ≤ cap0 ∧ cap0 ≤ maxLen ∧ z0.length = cap0 ∧ (∀ i, i < z0.length → w.cell? (x.add i) = some (.int .u8 (z0.getD i 0))) ∧ ∀ n ∈ z0, (Lit.int .u8 n).wf = true)
    (w1 : (a1 = none ∧ len1 = 0 ∧ cap1 = 0 ∧ z1 = []) ∨
      ∃ x, a1 = some x ∧ len1 ≤ cap1 ∧ cap1 ≤ maxLen ∧ z1.length = cap1 ∧ (∀ i, i < z1.length → w.cell? (x.add i) = some (.int .u8 (z1.getD i 0))) ∧ ∀ n ∈ z1, (Lit.int .u8 n).wf = true) :
    Calls Try.prog 3 #[.slice a0 len0 cap0, .slice a1 len1 cap1] w fun e w' => e = .returned (.bool true) ∧ Below w.heap.size w w' := by
  obtain ⟨hv0, hwf0, hlen0⟩ := bytes_of_row w0
  obtain ⟨hv1, hwf1, hlen1⟩ := bytes_of_row w1
  generalize z0.take len0 = xs at *
  generalize z1.take len1 = ys at *
  subst hlen0 hlen1
  clear w0 w1
  have Hwf0 := Lib.hid hwf0
  have Hwf1 := Lib.hid hwf1
  clear hwf0 hwf1
  cases hlong : (decide (1048576 < xs.length) || decide (1048576 < ys.length))
  · go_enter Try.func3, Try.ntmps3
    go_wp2_with fail
    refine (b10Long_any _ _ xs ys _ hv0 hv1).mono ?_
    rintro e w' ⟨rfl, rfl⟩
    go_wp2_with fail
    refine (b10At_any _ ys _ _ _ hv1 Hwf1.out (by omega) (by omega) (by omega) (by omega)).mono ?_
    rintro e w' ⟨⟨x0, rfl, hx0a, hx0b⟩, rfl⟩
    obtain ⟨t, ht, htm⟩ : ∃ t : Nat, 2 + 2 * x0 = (t : Int) ∧ t ∈ [2, 4, 6, 8, 10] := ⟨(2 + 2 * x0).toNat, by omega, by
      obtain h | h | h | h | h : x0 = 0 ∨ x0 = 1 ∨ x0 = 2 ∨ x0 = 3 ∨ x0 = 4 := by omega
      all_goals subst h; decide⟩
    have ht2 : 2 ≤ t ∧ t ≤ 10 := by simp at htm; omega
    obtain ⟨ht2, ht10⟩ := ht2
    obtain ⟨e1, e2, e3, e4, e5, e6, e7, e8, e9, e10⟩ := rlA_facts htm
    have HEV : Hid (t * (t - 1) % 2 = 0) := by
      show _ = _
      simp at htm
      obtain h | h | h | h | h := htm
      all_goals subst h; rfl
    have HRB : Hid (∀ r, r < t - 1 → _) := fun r hr => rlB_facts (t := t) (r := r) htm hr
    have htw : (Lit.int .i64 (t : Int)).wf = true := wf_i64_iff.2 ⟨by omega, by omega⟩
    have HCI : Hid (∀ W, Calls Try.prog 12 #[.int .i64 (t : Int)] W fun e w' => (∃ v, e = .returned (.tuple #[v, .bool true]) ∧ OwnI w' W.heap.size v (circL t)) ∧ Below W.heap.size W w') := fun W => by
      have := implCircleRounds_u (t : Int) W htw; rwa [e1] at this
    have HBK : Hid (∀ W v, Ints W v (circL t) → Calls Try.prog 13 #[.int .i64 (t : Int), v] W fun e w' => (∃ v', e = .returned (.tuple #[v', .bool true]) ∧ OwnI w' W.heap.size v' (backL t (circL t))) ∧ Below W.heap.size W w') := fun W v hv => by
      have := implBack_u (t : Int) v (circL t) W hv htw (by have := circL_small t; omega); rwa [e3] at this
    have HTU : Hid (∀ W v (r : Nat), r < t - 1 → Ints W v (circL t) → Calls Try.prog 14 #[.int .i64 (t : Int), v, .int .i64 (r : Int)] W fun e w' => (∃ v', e = .returned (.tuple #[v', .bool true]) ∧ OwnI w' W.heap.size v' (turnL t (circL t) r)) ∧ Below W.heap.size W w') := fun W v r hr hv => by
      have := implTurned_u (t : Int) v (circL t) r W hv htw (wf_i64_iff.2 ⟨by omega, by omega⟩) (by have := circL_small t; omega); rwa [(HRB.out r hr).1] at this
    have HHO : Hid (∀ W v, Ints W v (circL t) → Calls Try.prog 15 #[.int .i64 (t : Int), v] W fun e w' => (∃ v', e = .returned (.tuple #[v', .bool true]) ∧ OwnB w' W.heap.size v' (homesL t (circL t))) ∧ Below W.heap.size W w') := fun W v hv => by
      have := implHomes_u (t : Int) v (circL t) W hv htw (by have := circL_small t; omega); rwa [e2] at this
    obtain ⟨BR, hBR⟩ : ∃ z, breaks (t : Int) (circL t) = z := ⟨_, rfl⟩
    have HB1 : Hid (∀ W v, Ints W v (circL t) → Calls Try.prog 16 #[.int .i64 (t : Int), v] W fun e w' => e = .returned (.tuple #[.int .i64 BR, .bool true]) ∧ Below W.heap.size W w') := fun W v hv => by
      have := implBreaks_any (t : Int) v (circL t) W hv htw (by have := circL_small t; omega); rwa [e2, hBR] at this
    have HB2 : Hid (∀ W v, Ints W v (circL t) → Calls Try.prog 17 #[.int .i64 (t : Int), v] W fun e w' => e = .returned (.tuple #[.int .i64 BR, .bool true]) ∧ Below W.heap.size W w') := fun W v hv => by
      have := specBreaks_any (t : Int) v (circL t) W hv htw (by have := circL_small t; omega); rwa [e2, hBR] at this
    have HAR : Hid (∀ W v us, us.length ≤ 1048576 → roundsOk t us = true → Ints W v us → Calls Try.prog 18 #[.int .i64 (t : Int), v] W fun e w' => e = .returned (.bool true) ∧ Below W.heap.size W w') := fun W v us hl hok hv => by
      have := implRounds_any (t : Int) v us W hv htw hl; rwa [hok] at this
    have HT1 : Hid (∀ W v u, Ints W v (circL t) → Ints W u (farL t) → Calls Try.prog 19 #[.int .i64 (t : Int), v, u] W fun e w' => (∃ v', e = .returned (.tuple #[v', .bool true]) ∧ OwnI w' W.heap.size v' (tripsL t (circL t) (farL t))) ∧ Below W.heap.size W w') := fun W v u hv hu => by
      have := implTrips_u (t : Int) v u (circL t) (farL t) W hv hu htw (by have := circL_small t; omega) (by rw [← farTo_all, farTo_length]; have := Nat.mul_le_mul ht10 ht10; omega); rwa [e8] at this
    have HT2 : Hid (∀ W v u, Ints W v (circL t) → Ints W u (farL t) → Calls Try.prog 20 #[.int .i64 (t : Int), v, u] W fun e w' => (∃ v', e = .returned (.tuple #[v', .bool true]) ∧ OwnI w' W.heap.size v' (tripsL t (circL t) (farL t))) ∧ Below W.heap.size W w') := fun W v u hv hu => by
      have := specTrips_u (t : Int) v u (circL t) (farL t) W hv hu htw (by have := circL_small t; omega) (by rw [← farTo_all, farTo_length]; have := Nat.mul_le_mul ht10 ht10; omega); rwa [e8] at this
    obtain ⟨G, hG⟩ : ∃ z, circL (t : Int) = z := ⟨_, rfl⟩
    rw [hG] at e2 e4 e5 e6 e7 e9 e10 HRB HCI HBK HTU HHO HB1 HB2 HT1 HT2
    obtain ⟨BK, hBK⟩ : ∃ z, backL (t : Int) G = z := ⟨_, rfl⟩
    obtain ⟨HM, hHM⟩ : ∃ z, homesL (t : Int) G = z := ⟨_, rfl⟩
    obtain ⟨TR, hTR⟩ : ∃ z, tripsL (t : Int) G (farL t) = z := ⟨_, rfl⟩
    rw [hBK] at e4 e6 e9 HBK
    rw [hHM] at e7 e9 HHO
    rw [hTR] at HT1 HT2
    clear hG hBK hHM hTR hBR e1 e3 e8 htm
    have E2 := Lib.hid e2
    have E4 := Lib.hid e4
    have E5 := Lib.hid e5
    have E6 := Lib.hid e6
    have E7 := Lib.hid e7
    have E9 := Lib.hid e9
    have E10 := Lib.hid e10
    clear e2 e4 e5 e6 e7 e9 e10 htw
    go_wp2_with fail
    clear ht hx0a hx0b
    refine (HCI.out _).mono ?_
    rintro e W1 ⟨⟨v1, rfl, ho1⟩, hb1⟩
    have hG0 : 0 < G.length := by rw [E5.out]; exact Nat.mul_pos (by omega) (by omega)
    have HB1' := Lib.hid hb1
    have I1 : Hid (∀ W, Below W1.heap.size W1 W → Ints W v1 G) := fun W hW => ho1.ints.below hW (Nat.le_refl _)
    obtain ⟨bg, og, cg, rfl, hbg, hcg, hcell⟩ := ho1.ints.rowOf hG0
    have HGC := Lib.hid hcell
    clear ho1 hcell hb1
    go_wp2_with fail
    refine (HBK.out _ _ (I1.out _ (Below.refl _ _))).mono ?_
    rintro e W2 ⟨⟨v2, rfl, ho2⟩, hb2⟩
    have hK0 : 0 < BK.length := by rw [E6.out]; omega
    have B2 : Hid (Below w.heap.size w W2) := HB1'.out.trans (hb2.mono HB1'.out.size)
    have B12 := Lib.hid hb2
    have I2 : Hid (∀ W, Below W2.heap.size W2 W → Ints W v2 BK) := fun W hW => ho2.ints.below hW (Nat.le_refl _)
    obtain ⟨bk, ok, ck, rfl, hbk, hck, hcell⟩ := ho2.ints.rowOf hK0
    have HKC := Lib.hid hcell
    clear ho2 hcell hb2
    have hvb := hv1.below B2.out (Nat.le_refl _)
    go_wp2_with fail
    refine (b10At_any _ ys _ _ _ hvb Hwf1.out (by omega) (by omega) (by omega) (by omega)).mono ?_
    rintro e w' ⟨⟨y0, rfl, hy0a, hy0b⟩, rfl⟩
    obtain ⟨r, rfl⟩ : ∃ r : Nat, y0 = r := ⟨y0.toNat, by omega⟩
    have hr : r < t - 1 := by omega
    obtain ⟨_, f1, f2, f3⟩ := HRB.out r hr
    have HTU2 := Lib.hid (HTU.out W2 _ r hr (I1.out _ B12.out))
    obtain ⟨TU, hTU⟩ : ∃ z, turnL (t : Int) G (r : Int) = z := ⟨_, rfl⟩
    rw [hTU] at f1 f2 f3 HTU2
    have F1 := Lib.hid f1
    have F2 := Lib.hid f2
    have F3 := Lib.hid f3
    clear hTU f1 f2 f3 HRB HTU hvb
    go_wp2_with fail
    refine HTU2.out.mono ?_
    rintro e W3 ⟨⟨v3, rfl, ho3⟩, hb3⟩
    have hT0 : 0 < TU.length := by rw [F1.out]; exact hG0
    have B3 : Hid (Below w.heap.size w W3) := B2.out.trans (hb3.mono B2.out.size)
    have B13 : Hid (Below W1.heap.size W1 W3) := B12.out.trans (hb3.mono B12.out.size)
    have B23 := Lib.hid hb3
    have I3 : Hid (∀ W, Below W3.heap.size W3 W → Ints W v3 TU) := fun W hW => ho3.ints.below hW (Nat.le_refl _)
    obtain ⟨bt, ot, ct, rfl, hbt, hct, hcell⟩ := ho3.ints.rowOf hT0
    have HTC := Lib.hid hcell
    clear ho3 hcell hb3
    go_wp2_with fail
    refine (HHO.out _ _ (I1.out _ B13.out)).mono ?_
    rintro e W4 ⟨⟨v4, rfl, ho4⟩, hb4⟩
    have B4 : Hid (Below w.heap.size w W4) := B3.out.trans (hb4.mono B3.out.size)
    have B14 : Hid (Below W1.heap.size W1 W4) := B13.out.trans (hb4.mono B13.out.size)
    have B24 : Hid (Below W2.heap.size W2 W4) := B23.out.trans (hb4.mono B23.out.size)
    have B34 := Lib.hid hb4
    obtain ⟨gh, ch, rfl⟩ : ∃ g c, v4 = .slice (some ⟨g, 0, none⟩) HM.length c := by
      rcases ho4.2 with ⟨_, h0⟩ | ⟨g, cap, cur, rfl, _⟩
      · simp at h0; rw [h0] at E7; have := E7.out; simp at this; omega
      · exact ⟨g, cap, rfl⟩
    have hgh := ho4.lt gh rfl
    have O4 := Lib.hid ho4
    clear ho4 hb4
    go_wp2_with fail
    refine (HB1.out _ _ (I1.out _ B14.out)).mono ?_
    rintro e W5 ⟨rfl, hb5⟩
    have B5 : Hid (Below w.heap.size w W5) := B4.out.trans (hb5.mono B4.out.size)
    have B15 : Hid (Below W1.heap.size W1 W5) := B14.out.trans (hb5.mono B14.out.size)
    have B45 := Lib.hid hb5
    clear hb5
    go_wp2_with fail
    refine (HB2.out _ _ (I1.out _ B15.out)).mono ?_
    rintro e W6 ⟨rfl, hb6⟩
    have B6 : Hid (Below w.heap.size w W6) := B5.out.trans (hb6.mono B5.out.size)
    have B46 : Hid (Below W4.heap.size W4 W6) := B45.out.trans (hb6.mono B45.out.size)
    have B16 : Hid (Below W1.heap.size W1 W6) := B15.out.trans (hb6.mono B15.out.size)
    have B26 : Hid (Below W2.heap.size W2 W6) := B24.out.trans (B46.out.mono B24.out.size)
    have B36 : Hid (Below W3.heap.size W3 W6) := B34.out.trans (B46.out.mono B34.out.size)
    clear hb6
    have p0 : (0 : Int) ≤ (t : Int) * ((t : Int) - 1) := Int.mul_nonneg (by omega) (by omega)
    have p1 : (t : Int) * ((t : Int) - 1) ≤ 90 := by
      have : (t : Int) * ((t : Int) - 1) ≤ 10 * 9 := Int.mul_le_mul (by omega) (by omega) (by omega) (by omega)
      omega
    obtain ⟨L, hL⟩ : ∃ L, G.length = L := ⟨_, rfl⟩
    have HLN : Hid (L = t * (t - 1)) := by show _ = _; rw [← hL, E5.out]
    have hLt : (L : Int) = (t : Int) * ((t : Int) - 1) := by rw [← hL, E5.out]; push_cast; congr 1; omega
    have hL90 : L ≤ 90 := by omega
    have n1 : ((L : Int) != (t : Int) * ((t : Int) - 1)) = false := by rw [hLt]; simp
    have q1 : BK.length = 2 * L := by rw [E6.out, hL]
    have q2 : TU.length = L := by rw [F1.out, hL]
    have q3 : HM.length = L := by rw [E7.out, hL]
    obtain ⟨L2, hL2⟩ : ∃ L2, 2 * L = L2 := ⟨_, rfl⟩
    rw [hL2] at q1
    have n2 : ((L2 : Int) != 2 * (L : Int)) = false := by rw [← hL2]; simp
    rw [hL] at I1 hcg HGC E9 E10 F3 hG0
    rw [q1] at I2 hck HKC
    rw [q2] at I3 hct HTC
    rw [q3] at O4
    rw [hL, q1, q2, q3]
    have R1 : Hid (∀ W, Below W6.heap.size W6 W → Calls Try.prog 18 #[.int .i64 (t : Int), .slice (some ⟨bg, og, none⟩) L cg] W fun e w' => e = .returned (.bool true) ∧ Below W.heap.size W w') := fun W hW => HAR.out W _ G (by omega) E2.out (I1.out W (B16.out.trans (hW.mono B16.out.size)))
    have R2 : Hid (∀ W, Below W6.heap.size W6 W → Calls Try.prog 18 #[.int .i64 (t : Int), .slice (some ⟨bk, ok, none⟩) L2 ck] W fun e w' => e = .returned (.bool true) ∧ Below W.heap.size W w') := fun W hW => HAR.out W _ BK (by omega) E4.out (I2.out W (B26.out.trans (hW.mono B26.out.size)))
    have R3 : Hid (∀ W, Below W6.heap.size W6 W → Calls Try.prog 18 #[.int .i64 (t : Int), .slice (some ⟨bt, ot, none⟩) L ct] W fun e w' => e = .returned (.bool true) ∧ Below W.heap.size W w') := fun W hW => HAR.out W _ TU (by omega) F2.out (I3.out W (B36.out.trans (hW.mono B36.out.size)))
    have HGD : Hid (∀ W, Below W6.heap.size W6 W → ∀ i, i < L → W.cell? ⟨bg, og + i, none⟩ = some (.int .i64 (nth G i))) := fun W hW i hi => ((B16.out.trans (hW.mono B16.out.size)).cell (p := ⟨bg, og + i, none⟩) hbg).trans (HGC.out i hi)
    have HKD : Hid (∀ W, Below W6.heap.size W6 W → ∀ i, i < L2 → W.cell? ⟨bk, ok + i, none⟩ = some (.int .i64 (nth BK i))) := fun W hW i hi => ((B26.out.trans (hW.mono B26.out.size)).cell (p := ⟨bk, ok + i, none⟩) hbk).trans (HKC.out i hi)
    have HTD : Hid (∀ W, Below W6.heap.size W6 W → ∀ i, i < L → W.cell? ⟨bt, ot + i, none⟩ = some (.int .i64 (nth TU i))) := fun W hW i hi => ((B36.out.trans (hW.mono B36.out.size)).cell (p := ⟨bt, ot + i, none⟩) hbt).trans (HTC.out i hi)
    have HHD : Hid (∀ W, Below W6.heap.size W6 W → ∀ i, i < L → W.cell? ⟨gh, i, none⟩ = some (.bool (HM.getD i false))) := fun W hW i hi => ((B46.out.trans (hW.mono B46.out.size)).cell (p := ⟨gh, i, none⟩) hgh.2).trans (OwnB.cell O4.out q3.symm i (by omega))
    have I1' : Hid (∀ W, Below W6.heap.size W6 W → Ints W (.slice (some ⟨bg, og, none⟩) L cg) G) := fun W hW => I1.out W (B16.out.trans (hW.mono B16.out.size))
    have HEX : Hid (∀ m, m < L / 2 → _) := E9.out
    clear I1 I2 I3 HGC HKC HTC O4 B2 B3 B4 B5 B12 B13 B14 B15 B24 B23 B34 B45 B46 B16 B26 B36 HAR E9 HB1 HB2 HCI HBK HHO HTU2 hbg hbk hbt hgh E5 E6 E7 F1 E2 E4 F2 hT0 hK0 HB1'
    have Q3 := Lib.hid q3
    have Q2 := Lib.hid q2
    have Q1 := Lib.hid q1
    have QL := Lib.hid hL
    have QL2 := Lib.hid hL2
    have QT := Lib.hid hLt
    clear q1 q2 q3 hL hL2 hLt
    have HR : Hid (∀ W v, Below W6.heap.size W6 W → (v = .slice (some ⟨bg, og, none⟩) L cg ∨ v = .slice (some ⟨bk, ok, none⟩) L2 ck ∨ v = .slice (some ⟨bt, ot, none⟩) L ct) → Calls Try.prog 18 #[.int .i64 (t : Int), v] W fun e w' => e = .returned (.bool true) ∧ Below W.heap.size W w') := by
      rintro W v hW (rfl | rfl | rfl)
      · exact R1.out W hW
      · exact R2.out W hW
      · exact R3.out W hW
    have BB : Hid (Below W6.heap.size W6 W6) := Below.refl _ _
    obtain ⟨i0, hi, hz0, hz1, hz2⟩ := info_parts info_i64
    obtain ⟨Q, hQ⟩ : ∃ Q : Nat, (t : Int) * (t : Int) = (Q : Int) := ⟨t * t, by push_cast; rfl⟩
    have hQ2 : Q = t * t := by have : ((t * t : Nat) : Int) = (Q : Int) := by push_cast; exact hQ
                               omega
    have hQ100 : Q ≤ 100 := by have := Nat.mul_le_mul ht10 ht10; omega
    have hQt0 : (0 : Int) ≤ (t : Int) * (t : Int) := by rw [hQ]; omega
    have hQt1 : (t : Int) * (t : Int) ≤ 100 := by rw [hQ]; omega
    have HQ := Lib.hid hQ
    have HQ2 := Lib.hid hQ2
    clear hQ hQ2
    clear R1 R2 R3
    go_wp2_with (first
      | (go_at_call 18; refine (HR.out _ _ BB.out (by first | exact .inl rfl | exact .inr (.inl rfl) | exact .inr (.inr rfl))).mono ?_; rintro e W7 ⟨rfl, hb7⟩; have BB2 := Lib.hid (BB.out.trans (hb7.mono BB.out.size)); clear BB hb7; have BB := BB2; clear BB2)
      | (at_make; refine cutg ?_))
    refine Lib.hid ?_
    rw [HQ.out]
    refine wpList_make_full _ rfl _ _ 25 rfl W7.heap.size 2 i0 (.int .i64 0) 1 Try.underlying25 hi hz0 hz1 _ _ _ _ Q rfl rfl rfl rfl (by rw [hz2]; omega) (by unfold maxLen at *; omega) (Nat.le_refl _) ?_
    intro w8 hown8 hgrow8
    have HO8 := Lib.hid (made_rep hown8)
    have HB8 := Lib.hid ((Below.refl W7.heap.size W7).grown hgrow8 (Nat.le_refl _) (fun k e => by cases e))
    clear hown8 hgrow8
    go_wp2
    have HM0 : Hid (OwnI w8 W7.heap.size (.slice (some ⟨W7.heap.size, 0, none⟩) Q Q) (metL t G 0)) := by
      show OwnI _ _ _ _; unfold metL; rw [← HQ2.out]; exact HO8.out
    go_loopw [20] (fun vi wr => ∃ m I : Nat, Hid (I = 2 * m) ∧ I ≤ L ∧ vi = .int .i64 I ∧ Hid (Below W7.heap.size W7 wr) ∧ Hid (OwnI wr W7.heap.size (.slice (some ⟨W7.heap.size, 0, none⟩) Q Q) (metL t G m))) (fun vi _ => L - (intOf vi).toNat)
    case atStart => exact ⟨0, 0, rfl, Nat.zero_le _, rfl, HB8.out, HM0.out⟩
    case round =>
      obtain ⟨m, I, hmI, hI, rfl, HB, HO⟩ := hrel
      clear HM0 HO8 HB8
      by_cases hlt : I < L
      · have hmI' : I = 2 * m := hmI.out
        have hLe : L % 2 = 0 := by rw [HLN.out]; exact HEV.out
        have hm2 : m < L / 2 := by omega
        obtain ⟨g0, g1, g2, g3, g4, g5, g6, g7⟩ := HEX.out m hm2
        have g8 := F3.out m hm2
        have hwin := metL_win t G m
        have hmul := metL_length t G m
        have hmul' : (metL t G m).length = Q := by rw [hmul, HQ2.out]
        have hnext := metL_succ t G m
        unfold metStep at hnext
        rw [← hmI'] at g0 g1 g2 g3 g4 g5 g6 g7 g8 hnext
        obtain ⟨A, hA⟩ : ∃ A : Nat, nth G I = A := ⟨(nth G I).toNat, by omega⟩
        obtain ⟨B, hB⟩ : ∃ A : Nat, nth G (I + 1) = A := ⟨(nth G (I + 1)).toNat, by omega⟩
        have BW : Hid (Below W6.heap.size W6 wr) := BB.out.trans (HB.out.mono BB.out.size)
        have c0 := HGD.out wr BW.out I hlt
        have c1 := HGD.out wr BW.out (I + 1) (by omega)
        have c2 := HKD.out wr BW.out (L + I) (by have := QL2.out; omega)
        have c3 := HKD.out wr BW.out (L + I + 1) (by have := QL2.out; omega)
        rw [g4] at c2
        rw [g5] at c3
        rw [hA] at c0 c3 g0 g1 g6 g8 hnext
        rw [hB] at c1 c2 g2 g3 g7 hnext
        simp only [Int.toNat_natCast] at g6 g7 hnext
        have hAt : A < t := by omega
        have hBt : B < t := by omega
        obtain ⟨X, hX⟩ : ∃ X, A * t + B = X := ⟨_, rfl⟩
        obtain ⟨Y, hY⟩ : ∃ X, B * t + A = X := ⟨_, rfl⟩
        obtain ⟨R, hR⟩ : ∃ R, I / t = R := ⟨_, rfl⟩
        obtain ⟨Xh, hXh⟩ : ∃ X, R * t + A = X := ⟨_, rfl⟩
        obtain ⟨Yh, hYh⟩ : ∃ X, R * t + B = X := ⟨_, rfl⟩
        obtain ⟨P, hP⟩ : ∃ X, r * t = X := ⟨_, rfl⟩
        obtain ⟨Z, hZ⟩ : ∃ X, (I + L - P) % L = X := ⟨_, rfl⟩
        rw [hR, hXh] at g6
        rw [hR, hYh] at g7
        rw [hP, hZ] at g8
        rw [hX, hY] at hnext
        have hXQ : X < Q := by
          have h1 : (A + 1) * t ≤ t * t := Nat.mul_le_mul_right t (by omega)
          rw [Nat.succ_mul] at h1
          rw [HQ2.out]; omega
        have hYQ : Y < Q := by
          have h1 : (B + 1) * t ≤ t * t := Nat.mul_le_mul_right t (by omega)
          rw [Nat.succ_mul] at h1
          rw [HQ2.out]; omega
        have hPL : P < L := by
          have h1 : (r + 1) * t ≤ (t - 1) * t := Nat.mul_le_mul_right t (by omega)
          rw [Nat.succ_mul, Nat.mul_comm (t - 1)] at h1
          rw [HLN.out]; omega
        have hRt : R + 1 ≤ t - 1 := by
          have h1 : I / t < t - 1 := by
            rw [Nat.div_lt_iff_lt_mul (by omega), Nat.mul_comm]
            rw [← HLN.out]; exact hlt
          omega
        have hRL : R * t + t ≤ L := by
          have h1 : (R + 1) * t ≤ (t - 1) * t := Nat.mul_le_mul_right t hRt
          rw [Nat.succ_mul, Nat.mul_comm (t - 1)] at h1
          rw [HLN.out]; exact h1
        have hXhL : Xh < L := by omega
        have hYhL : Yh < L := by omega
        have hZL : Z < L := by rw [← hZ]; exact Nat.mod_lt _ (by omega)
        have g7' : HM.getD Yh false = false := by
          have hl : Yh < HM.length := by rw [Q3.out]; exact hYhL
          rw [List.getD_eq_getElem?_getD, List.getElem?_eq_getElem hl] at g7 ⊢
          exact g7
        have hV1 := hwin X
        have st1 := HO.out.store hmul'.symm X (by omega) (nth (metL t G m) X + 1)
        rw [← nth_eq (by omega)] at st1
        obtain ⟨M, hM⟩ : ∃ M, metL t G m = M := ⟨_, rfl⟩
        rw [hM] at hmul hmul' hnext hwin hV1 st1
        obtain ⟨v1, hv1'⟩ : ∃ v, nth M X = v := ⟨_, rfl⟩
        rw [hv1'] at hnext hV1 st1
        obtain ⟨s1, s2, s3, _⟩ := st1
        have hl1 : (M.set X (v1 + 1)).length = Q := by rw [List.length_set]; exact hmul'
        have st2 := s3.store hl1.symm Y (by omega) (nth (M.set X (v1 + 1)) Y + 1)
        rw [← nth_eq (by omega)] at st2
        have hV2 : 0 ≤ nth (M.set X (v1 + 1)) Y ∧ nth (M.set X (v1 + 1)) Y ≤ 2 * m + 1 := by
          rw [nth_set _ (by omega)]
          have := hwin Y
          split <;> omega
        obtain ⟨v2, hv2'⟩ : ∃ v, nth (M.set X (v1 + 1)) Y = v := ⟨_, rfl⟩
        rw [hv2'] at hnext hV2 st2
        obtain ⟨s4, s5, s6, _⟩ := st2
        obtain ⟨hV1a, hV1b⟩ := hV1
        obtain ⟨hV2a, hV2b⟩ := hV2
        have hm45 : m ≤ 45 := by omega
        obtain ⟨w2, hw2⟩ : ∃ z, (wr.setCell ⟨W7.heap.size, X, none⟩ (.int .i64 (v1 + 1))).setCell ⟨W7.heap.size, Y, none⟩ (.int .i64 (v2 + 1)) = z := ⟨_, rfl⟩
        have BW2 : Hid (Below W7.heap.size W7 w2) := by rw [← hw2]; exact (HB.out.setCell (Nat.le_refl _) _).setCell (Nat.le_refl _) _
        have BW3 : Hid (Below W6.heap.size W6 w2) := BB.out.trans (BW2.out.mono BB.out.size)
        have c6 := HHD.out w2 BW3.out Xh hXhL
        have c7 := HHD.out w2 BW3.out Yh hYhL
        have c8 := HTD.out w2 BW3.out Z hZL
        rw [g6] at c6
        rw [g7'] at c7
        rw [g8] at c8
        rw [hw2] at s6
        have S6 := Lib.hid s6
        have HW2 := Lib.hid hw2
        have HNX := Lib.hid hnext
        rw [← hw2] at c6 c7 c8
        have i1 : (A : Int) * (t : Int) + (B : Int) = (X : Int) := by rw [← hX]; push_cast; rfl
        have i2 : (B : Int) * (t : Int) + (A : Int) = (Y : Int) := by rw [← hY]; push_cast; rfl
        have i3 : (I : Int) / (t : Int) = (R : Int) := by rw [← hR]; push_cast; rfl
        have i4 : (R : Int) * (t : Int) + (A : Int) = (Xh : Int) := by rw [← hXh]; push_cast; rfl
        have i5 : (R : Int) * (t : Int) + (B : Int) = (Yh : Int) := by rw [← hYh]; push_cast; rfl
        have i6 : (r : Int) * (t : Int) = (P : Int) := by rw [← hP]; push_cast; rfl
        have i7 : ((I : Int) + (L : Int) - (P : Int)) % (L : Int) = (Z : Int) := by rw [← hZ]; push_cast [show P ≤ I + L by omega]; rfl
        have j1 : (0 : Int) ≤ (A : Int) * (t : Int) := by omega
        have j2 : (A : Int) * (t : Int) ≤ 100 := by omega
        have j3 : (0 : Int) ≤ (B : Int) * (t : Int) := by omega
        have j4 : (B : Int) * (t : Int) ≤ 100 := by omega
        have j5 : (0 : Int) ≤ (R : Int) * (t : Int) := by omega
        have j6 : (R : Int) * (t : Int) ≤ 100 := by omega
        have r0 : wrap64 (R : Int) = (R : Int) := IntWalk.wrap64_in _ ⟨by omega, by omega⟩
        have k1 : ¬ (A : Int) < 0 := by omega
        have k2 : ¬ (B : Int) < 0 := by omega
        have k3 : ¬ (t : Int) ≤ (A : Int) := by omega
        have k4 : ¬ (t : Int) ≤ (B : Int) := by omega
        have x1 : (X : Int) < (Q : Int) := by omega
        have x2 : (Y : Int) < (Q : Int) := by omega
        have x3 : (Xh : Int) < (L : Int) := by omega
        have x4 : (Yh : Int) < (L : Int) := by omega
        have x5 : (Z : Int) < (L : Int) := by omega
        have x6 : (L : Int) + (I : Int) < (L2 : Int) := by have := QL2.out; omega
        have x7 : (L : Int) + (I : Int) + 1 < (L2 : Int) := by have := QL2.out; omega
        have x8 : (I : Int) + 1 < (L : Int) := by omega
        have x9 : (I : Int) < (L : Int) := by omega
        clear hmI' hLe hm2 g0 g1 g2 g3 g4 g5 g6 g7 g7' g8 hwin hmul hmul' hnext hA hB hX hY hR hXh hYh hP hZ hRt hRL hw2 hl1 s3 s6 hM hv1' hv2'
        go_wp2
        go_roundw
        case rel =>
          refine ⟨m + 1, I + 2, ?_, by omega, by go_num, ?_, ?_⟩
          · show _ = _
            have := hmI.out
            omega
          · rw [HW2.out]; exact BW2
          · show OwnI _ _ _ _
            rw [HW2.out, HNX.out]; exact S6.out
        case measure => simp [intOf]; omega
      · have hIL : L = I := by omega
        subst hIL
        have hm : m = L / 2 := by have := hmI.out; omega
        subst hm
        have HMT : Hid (∀ i k, i < t → k < t → i ≠ k → nth (metL t G (L / 2)) (i * t + k) = 1) := E10.out
        have HML : Hid ((metL t G (L / 2)).length = Q) := by show _ = _; rw [metL_length, HQ2.out]
        obtain ⟨M, hM⟩ : ∃ M, metL t G (L / 2) = M := ⟨_, rfl⟩
        rw [hM] at HO HMT HML
        have BW : Hid (Below W6.heap.size W6 wr) := BB.out.trans (HB.out.mono BB.out.size)
        clear hM hmI hlt
        go_wp2
        go_loopw [24] (fun vi wk => ∃ i : Nat, i ≤ t ∧ vi = .int .i64 i ∧ wk = wr) (fun vi _ => t - (intOf vi).toNat)
        case atStart => exact ⟨0, Nat.zero_le _, rfl, rfl⟩
        case round =>
          obtain ⟨i, hi, rfl, rfl⟩ := hrel
          by_cases hlt : i < t
          · go_wp2
            go_loopw [25] (fun vk wj => ∃ k : Nat, k ≤ t ∧ vk = .int .i64 k ∧ wj = wr) (fun vk _ => t - (intOf vk).toNat)
            case atStart => exact ⟨0, Nat.zero_le _, rfl, rfl⟩
            case round =>
              obtain ⟨k, hk, rfl, rfl⟩ := hrel
              by_cases hkt : k < t
              · by_cases hik : i = k
                · subst hik
                  go_wp2
                  go_roundw
                  case rel => exact ⟨i + 1, by omega, by go_num, by first | rfl | trivial⟩
                  case measure => simp [intOf]; omega
                · obtain ⟨X, hX⟩ : ∃ X, i * t + k = X := ⟨_, rfl⟩
                  have hXQ : X < Q := by
                    have h1 : (i + 1) * t ≤ t * t := Nat.mul_le_mul_right t (by omega)
                    rw [Nat.succ_mul] at h1
                    rw [HQ2.out]; omega
                  have c0 := HO.out.at_ HML.out.symm X (by rw [HML.out]; exact hXQ)
                  have g0 := HMT.out i k hlt hkt hik
                  rw [hX] at g0
                  rw [g0] at c0
                  have i1 : (i : Int) * (t : Int) + (k : Int) = (X : Int) := by rw [← hX]; push_cast; rfl
                  have j1 : (0 : Int) ≤ (i : Int) * (t : Int) := by omega
                  have j2 : (i : Int) * (t : Int) ≤ 100 := by omega
                  have b0 : ((i : Int) != (k : Int)) = true := by simp; omega
                  have x1 : (X : Int) < (Q : Int) := by omega
                  clear hX g0
                  go_wp2
                  go_roundw
                  case rel => exact ⟨k + 1, by omega, by go_num, by first | rfl | trivial⟩
                  case measure => simp [intOf]; omega
              · go_wp2
                go_roundw
                case rel => exact ⟨i + 1, by omega, by go_num, by first | rfl | trivial⟩
                case measure => simp [intOf]; omega
          · go_wp2
            obtain ⟨Wf, hWf⟩ : ∃ z, z = wr := ⟨_, rfl⟩
            subst hWf
            obtain ⟨A0, hA0⟩ : ∃ z, Wf.heap.size = z := ⟨_, rfl⟩
            have HFB : Hid (∀ W, Below A0 Wf W → Below W6.heap.size W6 W ∧ A0 ≤ W.heap.size) := fun W h => by subst hA0; exact ⟨BW.out.trans (h.mono BW.out.size), h.size⟩
            have HA0 := Lib.hid hA0
            clear hA0 HB HO HMT HML BW BB
            go_loopw [26, 27] (fun vf vi wk => ∃ (i n g c : Nat) (Y : List Int), Hid (n = i * t) ∧ Hid (Y = farTo t n) ∧ i ≤ t ∧ vi = .int .i64 i ∧ vf = .slice (some ⟨g, 0, none⟩) n c ∧ Hid (OwnI wk A0 (.slice (some ⟨g, 0, none⟩) n c) Y) ∧ Hid (Below A0 Wf wk)) (fun _ vi _ => t - (intOf vi).toNat)
            case atStart =>
              refine ⟨0, 0, Wf.heap.size, 0, [], by show _ = _; simp, by show _ = _; rfl, Nat.zero_le _, rfl, rfl, ?_, ?_⟩
              · show OwnI _ _ _ _
                exact OwnI.lit Wf A0 [] (by rw [HA0.out]; exact Nat.le_refl _) (by unfold maxLen; simp)
              · show Below _ _ _
                exact (Below.refl A0 Wf).alloc (by rw [HA0.out]; exact Nat.le_refl _) _
            case round =>
              obtain ⟨i, n, g, c, Y, HN, HY, hi, rfl, rfl, HOF, HBF⟩ := hrel
              by_cases hlt : i < t
              · go_wp2
                go_loopw [26, 28, 29] (fun vf vk _ wk => ∃ (k n g c : Nat) (Y : List Int), Hid (n = i * t + k) ∧ Hid (Y = farTo t n) ∧ k ≤ t ∧ vk = .int .i64 k ∧ vf = .slice (some ⟨g, 0, none⟩) n c ∧ Hid (OwnI wk A0 (.slice (some ⟨g, 0, none⟩) n c) Y) ∧ Hid (Below A0 Wf wk)) (fun _ vk _ _ => t - (intOf vk).toNat)
                case atStart => exact ⟨0, n, g, c, Y, by show _ = _; rw [HN.out]; rfl, HY, Nat.zero_le _, rfl, rfl, HOF, HBF⟩
                case round =>
                  obtain ⟨k, n, g, c, Y, HN, HY, hk, rfl, rfl, HOF, HBF⟩ := hrel
                  by_cases hkt : k < t
                  · have hn100 : n ≤ 110 := by
                      have h1 : i * t ≤ 10 * 10 := Nat.mul_le_mul (by omega) ht10
                      rw [HN.out]; omega
                    have hYl : Y.length = n := by rw [HY.out, farTo_length]
                    have hA1 : A0 ≤ wr.heap.size := (HFB.out _ HBF.out).2
                    have HEND : Hid (∀ (x : Int) (n' g' c' : Nat) (w' : World), x = (if i = k then 0 else 1) → n' = (Y ++ [x]).length → OwnI w' A0 (.slice (some ⟨g', 0, none⟩) n' c') (Y ++ [x]) → Below A0 Wf w' → ∃ (k1 n1 g1 c1 : Nat) (Y1 : List Int), Hid (n1 = i * t + k1) ∧ Hid (Y1 = farTo t n1) ∧ k1 ≤ t ∧ Value.int .i64 ((k : Int) + 1) = .int .i64 k1 ∧ Value.slice (some ⟨g', 0, none⟩) n' c' = .slice (some ⟨g1, 0, none⟩) n1 c1 ∧ Hid (OwnI w' A0 (.slice (some ⟨g1, 0, none⟩) n1 c1) Y1) ∧ Hid (Below A0 Wf w')) := by
                      intro x n' g' c' w' hx hn' ho' hb'
                      have hn2 : n' = i * t + k + 1 := by rw [hn', List.length_append, hYl, HN.out]; simp
                      refine ⟨k + 1, n', g', c', Y ++ [x], hn2, ?_, by omega, by go_num, rfl, ho', hb'⟩
                      show _ = _
                      rw [hn2, farTo_succ t i k hkt, HY.out, HN.out, hx]
                    have HYL := Lib.hid hYl
                    clear hYl
                    by_cases hik : i = k
                    · subst hik
                      go_wp2_with (at_builtin; refine append_i64N rfl _ _ rfl A0 (.slice (some ⟨g, 0, none⟩) n c) Y [0] (by simp) rfl _ rfl HOF.out hA1 (by rw [HYL.out]; simp; omega) ?_; intro g5 c5 n5 w5 hn5 ho5 hg5; have HE5 := Lib.hid (HEND.out 0 n5 g5 c5 w5 (by simp) hn5.out ho5 (HBF.out.grown hg5 hA1 (fun j e => (HOF.out.lt j e).1))); clear hn5 ho5 hg5 HOF HBF HEND)
                      go_roundw
                      case rel => exact HE5.out
                      case measure => simp [intOf]; omega
                    · have b0 : ((i : Int) == (k : Int)) = false := by simp; omega
                      go_wp2_with (at_builtin; refine append_i64N rfl _ _ rfl A0 (.slice (some ⟨g, 0, none⟩) n c) Y [1] (by simp) rfl _ rfl HOF.out hA1 (by rw [HYL.out]; simp; omega) ?_; intro g5 c5 n5 w5 hn5 ho5 hg5; have HE5 := Lib.hid (HEND.out 1 n5 g5 c5 w5 (by simp [hik]) hn5.out ho5 (HBF.out.grown hg5 hA1 (fun j e => (HOF.out.lt j e).1))); clear hn5 ho5 hg5 HOF HBF HEND)
                      go_roundw
                      case rel => exact HE5.out
                      case measure => simp [intOf]; omega
                  · have hkt' : k = t := by omega
                    have HN2 : Hid (n = (i + 1) * t) := by show _ = _; rw [HN.out, hkt', Nat.succ_mul]
                    clear HN
                    subst hkt'
                    go_wp2
                    go_roundw
                    case rel => exact ⟨i + 1, n, g, c, Y, HN2, HY, by omega, by go_num, rfl, HOF, HBF⟩
                    case measure => simp [intOf]; omega
              · have hit : i = t := by omega
                have HYF : Hid (Y = farL t) := by show _ = _; rw [HY.out, HN.out, hit, farTo_all]
                obtain ⟨BW8, hA8⟩ := HFB.out _ HBF.out
                have HB8 := Lib.hid BW8
                have HOF2 : Hid (Ints wr (.slice (some ⟨g, 0, none⟩) n c) (farL t)) := by rw [← HYF.out]; exact HOF.out.ints
                clear HY HN HYF HOF HBF BW8
                subst hit
                go_wp2_with fail
                refine (HT1.out _ _ _ (I1'.out _ HB8.out) HOF2.out).mono ?_
                rintro e W9 ⟨⟨v9, rfl, ho9⟩, hb9⟩
                have HO9 := Lib.hid ho9
                have HB9 := Lib.hid (HB8.out.trans (hb9.mono HB8.out.size))
                have HOF3 := Lib.hid (HOF2.out.below hb9 (Nat.le_refl _))
                clear ho9 hb9 HOF2
                go_wp2_with fail
                refine (HT2.out _ _ _ (I1'.out _ HB9.out) HOF3.out).mono ?_
                rintro e W10 ⟨⟨v10, rfl, ho10⟩, hb10⟩
                have HI10 := Lib.hid ho10.ints
                have HI9 := Lib.hid (HO9.out.ints.below hb10 (Nat.le_refl _))
                have HB10 := Lib.hid (HB9.out.trans (hb10.mono HB9.out.size))
                clear ho10 hb10 HO9
                go_wp2_with fail
                refine (b10Ints_any _ _ TR TR _ HI9.out HI10.out).mono ?_
                rintro e W11 ⟨rfl, hb11⟩
                have HB11 := Lib.hid (B6.out.trans ((HB10.out.trans (hb11.mono HB10.out.size)).mono B6.out.size))
                clear hb11
                rw [beq_self_eq_true]
                go_wp2
                go_ret
                exact ⟨rfl, HB11.out⟩
  · go_enter Try.func3, Try.ntmps3
    go_wp2_with fail
    refine (b10Long_any _ _ xs ys _ hv0 hv1).mono ?_
    rintro e w' ⟨rfl, rfl⟩
    go_wp2_with fail
    go_ret
    exact ⟨rfl, Below.refl _ _⟩
end Go.Proofs.Ytmhepomjbaendaa
