
/- The tests for sameness of jobs, rules and lists, program and reference. Conditions: none. -/
import Derived.Test.YtmakjgbldejcpaaDeskTo2
namespace Go.Proofs.Ytmakjgbldejcpaa
open Go.RowKit Go.BigFrame
set_option linter.unusedVariables false
set_option linter.unusedSimpArgs false

set_option maxHeartbeats 2000000 in
theorem implSameRule_any (a0 a1 a2 a3 a4 b0 b1 b2 b3 b4 : Int) (w : World) :
    Calls Try.prog 79 #[.agg #[.int .i64 a0, .int .i64 a1, .int .i64 a2, .int .i64 a3, .int .i64 a4], .agg #[.int .i64 b0, .int .i64 b1, .int .i64 b2, .int .i64 b3, .int .i64 b4]] w fun e w' =>
      e = .returned (.bool ((a0, a1, a2, a3, a4) == (b0, b1, b2, b3, b4))) ∧ Below w.heap.size w w' := by
  obtain ⟨r, hr⟩ : ∃ r, ((a0, a1, a2, a3, a4) == (b0, b1, b2, b3, b4)) = r := ⟨_, rfl⟩
  have HR := Lib.hid hr
  rw [hr]
  clear hr
  go_enter Try.func79, Try.ntmps79
  go_wp2
  all_goals
    go_ret
    refine ⟨ret_bool ?_, ((Below.refl _ w).alloc (Nat.le_refl _) _).alloc (by simp) _⟩
    rw [← HR.out]
    first | (simp_all; done) | (subst_vars; rw [Bool.eq_iff_iff]; simp)

set_option maxHeartbeats 2000000 in
theorem specSameRule_any (a0 a1 a2 a3 a4 b0 b1 b2 b3 b4 : Int) (w : World) :
    Calls Try.prog 74 #[.agg #[.int .i64 a0, .int .i64 a1, .int .i64 a2, .int .i64 a3, .int .i64 a4], .agg #[.int .i64 b0, .int .i64 b1, .int .i64 b2, .int .i64 b3, .int .i64 b4]] w fun e w' =>
      e = .returned (.bool ((a0, a1, a2, a3, a4) == (b0, b1, b2, b3, b4))) ∧ Below w.heap.size w w' := by
  obtain ⟨r, hr⟩ : ∃ r, ((a0, a1, a2, a3, a4) == (b0, b1, b2, b3, b4)) = r := ⟨_, rfl⟩
  have HR := Lib.hid hr
  rw [hr]
  clear hr
  go_enter Try.func74, Try.ntmps74
  go_wp2
  all_goals
    go_ret
    refine ⟨ret_bool ?_, ((Below.refl _ w).alloc (Nat.le_refl _) _).alloc (by simp) _⟩
    rw [← HR.out]
    first | (simp_all; done) | (subst_vars; rw [Bool.eq_iff_iff]; simp)

set_option maxRecDepth 100000 in
set_option maxHeartbeats 4000000 in
theorem sliceEqJobs_any (v u : Value) (xs ys : List Jb) (w : World) (hv : Jobs w v xs) (hu : Jobs w u ys) (hxl : xs.length ≤ 1048576) (hyl : ys.length ≤ 1048576) :
    Calls Try.prog 128 #[v, u] w fun e w' => e = .returned (.bool (xs == ys)) ∧ Below w.heap.size w w' := by
  obtain ⟨a, c, rfl, hcap, hc⟩ := hv.at_
  obtain ⟨a', c', rfl, hcap', hc'⟩ := hu.at_
  have HC := Lib.hid hc
  have HC' := Lib.hid hc'
  clear hv hu hc hc'
  by_cases hlen : xs.length = ys.length
  · have hl1 : ((xs.length : Int) != ys.length) = false := by simp [hlen]
    have Hlen := Lib.hid hlen
    clear hlen
    go_enter Try.func128, Try.ntmps128
    go_wp2
    go_loopw [13] (fun i wr => ∃ k : Nat, k ≤ xs.length ∧ i = .int .i64 k ∧ Hid (xs.take k = ys.take k) ∧ Below w.heap.size w wr) (fun i _ => xs.length - (intOf i).toNat)
    case atStart => exact ⟨0, Nat.zero_le _, rfl, rfl, Below.refl _ _⟩
    case round =>
      obtain ⟨k, hk, rfl, Heq, hb⟩ := hrel
      by_cases hlt : k < xs.length
      · have hlt' : k < ys.length := by have := Hlen.out; omega
        obtain ⟨b, o, rfl, hbs, g0, g1, g2, g3⟩ := HC.out k hlt
        obtain ⟨b', o', rfl, hbs', g0', g1', g2', g3'⟩ := HC'.out k hlt'
        have c0 := (hb.cell (p := ⟨b, o + k * 4, none⟩) hbs).trans g0
        have c1 := (hb.cell (p := ⟨b, o + k * 4 + 1, none⟩) hbs).trans g1
        have c2 := (hb.cell (p := ⟨b, o + k * 4 + 2, none⟩) hbs).trans g2
        have c3 := (hb.cell (p := ⟨b, o + k * 4 + 3, none⟩) hbs).trans g3
        have d0 := (hb.cell (p := ⟨b', o' + k * 4, none⟩) hbs').trans g0'
        have d1 := (hb.cell (p := ⟨b', o' + k * 4 + 1, none⟩) hbs').trans g1'
        have d2 := (hb.cell (p := ⟨b', o' + k * 4 + 2, none⟩) hbs').trans g2'
        have d3 := (hb.cell (p := ⟨b', o' + k * 4 + 3, none⟩) hbs').trans g3'
        have HNO : Hid (xs[k] ≠ ys[k] → (xs == ys) = false) := fun h => by
          rw [beq_eq_false_iff_ne]; rintro rfl; exact h rfl
        have HYES : Hid (xs[k] = ys[k] → xs.take (k + 1) = ys.take (k + 1)) := fun h => by
          rw [List.take_succ_eq_append_getElem hlt, List.take_succ_eq_append_getElem hlt', Heq.out, h]
        have HEX : Hid (xs[k] = (xs[k].1, xs[k].2.1, xs[k].2.2.1, xs[k].2.2.2)) := rfl
        have HEY : Hid (ys[k] = (ys[k].1, ys[k].2.1, ys[k].2.2.1, ys[k].2.2.2)) := rfl
        obtain ⟨x0, hx0⟩ : ∃ z, xs[k].1 = z := ⟨_, rfl⟩
        obtain ⟨x1, hx1⟩ : ∃ z, xs[k].2.1 = z := ⟨_, rfl⟩
        obtain ⟨x2, hx2⟩ : ∃ z, xs[k].2.2.1 = z := ⟨_, rfl⟩
        obtain ⟨x3, hx3⟩ : ∃ z, xs[k].2.2.2 = z := ⟨_, rfl⟩
        obtain ⟨y0, hy0⟩ : ∃ z, ys[k].1 = z := ⟨_, rfl⟩
        obtain ⟨y1, hy1⟩ : ∃ z, ys[k].2.1 = z := ⟨_, rfl⟩
        obtain ⟨y2, hy2⟩ : ∃ z, ys[k].2.2.1 = z := ⟨_, rfl⟩
        obtain ⟨y3, hy3⟩ : ∃ z, ys[k].2.2.2 = z := ⟨_, rfl⟩
        rw [hx0] at c0 HEX
        rw [hx1] at c1 HEX
        rw [hx2] at c2 HEX
        rw [hx3] at c3 HEX
        rw [hy0] at d0 HEY
        rw [hy1] at d1 HEY
        rw [hy2] at d2 HEY
        rw [hy3] at d3 HEY
        have hk0 : (0 : Int) ≤ (k : Int) := by omega
        have hk1 : (k : Int) < (xs.length : Int) := by omega
        have hk2 : (k : Int) < (ys.length : Int) := by omega
        have HB := Lib.hid hb
        clear hx0 hx1 hx2 hx3 hy0 hy1 hy2 hy3 g0 g1 g2 g3 g0' g1' g2' g3' hb
        have hcase : (x0 = y0 ∧ x1 = y1 ∧ x2 = y2 ∧ x3 = y3) ∨ x0 ≠ y0 ∨ (x0 = y0 ∧ x1 ≠ y1) ∨ (x0 = y0 ∧ x1 = y1 ∧ x2 ≠ y2) ∨ (x0 = y0 ∧ x1 = y1 ∧ x2 = y2 ∧ x3 ≠ y3) := by
          by_cases e0 : x0 = y0 <;> by_cases e1 : x1 = y1 <;> by_cases e2 : x2 = y2 <;> by_cases e3 : x3 = y3 <;> simp [e0, e1, e2, e3]
        rcases hcase with ⟨rfl, rfl, rfl, rfl⟩ | h0 | ⟨rfl, h0⟩ | ⟨rfl, rfl, h0⟩ | ⟨rfl, rfl, rfl, h0⟩
        · have HN := Lib.hid (HYES.out (by rw [HEX.out, HEY.out]))
          go_wp2
          go_quiet (fail)
          go_wp2
          go_roundw
          case rel => exact ⟨k + 1, by omega, by go_num, HN.out, below_drewN _ HB.out⟩
          case measure => simp [intOf]; omega
        · have HF := Lib.hid (HNO.out (by rw [HEX.out, HEY.out]; simp [h0]))
          have q0 : (x0 != y0) = true := by simpa using h0
          go_wp2
          go_quiet (fail)
          go_wp2
          go_ret
          exact ⟨ret_bool HF.out.symm, below_drewN _ HB.out⟩
        · have HF := Lib.hid (HNO.out (by rw [HEX.out, HEY.out]; simp [h0]))
          have q0 : (x1 != y1) = true := by simpa using h0
          go_wp2
          go_quiet (fail)
          go_wp2
          go_ret
          exact ⟨ret_bool HF.out.symm, below_drewN _ HB.out⟩
        · have HF := Lib.hid (HNO.out (by rw [HEX.out, HEY.out]; simp [h0]))
          have q0 : (x2 != y2) = true := by simpa using h0
          go_wp2
          go_quiet (fail)
          go_wp2
          go_ret
          exact ⟨ret_bool HF.out.symm, below_drewN _ HB.out⟩
        · have HF := Lib.hid (HNO.out (by rw [HEX.out, HEY.out]; simp [h0]))
          have q0 : (x3 != y3) = true := by simpa using h0
          go_wp2
          go_quiet (fail)
          go_wp2
          go_ret
          exact ⟨ret_bool HF.out.symm, below_drewN _ HB.out⟩
      · have HE : Hid ((xs == ys) = true) := by
          show _ = _
          rw [beq_iff_eq]
          have h := Heq.out
          have h2 := Hlen.out
          rwa [List.take_of_length_le (by omega), List.take_of_length_le (by omega)] at h
        clear Heq
        go_wp2
        go_ret
        exact ⟨ret_bool HE.out.symm, hb⟩
  · have hl1 : ((xs.length : Int) != ys.length) = true := by simp; omega
    have HE : Hid ((xs == ys) = false) := by
      show _ = _
      rw [beq_eq_false_iff_ne]; rintro rfl; exact hlen rfl
    clear hlen
    go_enter Try.func128, Try.ntmps128
    go_wp2
    go_ret
    exact ⟨ret_bool HE.out.symm, Below.refl _ _⟩

set_option maxRecDepth 100000 in
set_option maxHeartbeats 4000000 in
theorem l02Same_any (v u : Value) (xs ys : List Jb) (w : World) (hv : Jobs w v xs) (hu : Jobs w u ys) (hxl : xs.length ≤ 1048576) (hyl : ys.length ≤ 1048576) :
    Calls Try.prog 73 #[v, u] w fun e w' => e = .returned (.bool (xs == ys)) ∧ Below w.heap.size w w' := by
  obtain ⟨a, c, rfl, hcap, hc⟩ := hv.at_
  obtain ⟨a', c', rfl, hcap', hc'⟩ := hu.at_
  have HC := Lib.hid hc
  have HC' := Lib.hid hc'
  clear hv hu hc hc'
  by_cases hlen : xs.length = ys.length
  · have hl1 : ((xs.length : Int) != ys.length) = false := by simp [hlen]
    have Hlen := Lib.hid hlen
    clear hlen
    go_enter Try.func73, Try.ntmps73
    go_wp2
    go_loopw [5] (fun i wr => ∃ k : Nat, k ≤ xs.length ∧ i = .int .i64 k ∧ Hid (xs.take k = ys.take k) ∧ Below w.heap.size w wr) (fun i _ => xs.length - (intOf i).toNat)
    case atStart => exact ⟨0, Nat.zero_le _, rfl, rfl, Below.refl _ _⟩
    case round =>
      obtain ⟨k, hk, rfl, Heq, hb⟩ := hrel
      by_cases hlt : k < xs.length
      · have hlt' : k < ys.length := by have := Hlen.out; omega
        obtain ⟨b, o, rfl, hbs, g0, g1, g2, g3⟩ := HC.out k hlt
        obtain ⟨b', o', rfl, hbs', g0', g1', g2', g3'⟩ := HC'.out k hlt'
        have c0 := (hb.cell (p := ⟨b, o + k * 4, none⟩) hbs).trans g0
        have c1 := (hb.cell (p := ⟨b, o + k * 4 + 1, none⟩) hbs).trans g1
        have c2 := (hb.cell (p := ⟨b, o + k * 4 + 2, none⟩) hbs).trans g2
        have c3 := (hb.cell (p := ⟨b, o + k * 4 + 3, none⟩) hbs).trans g3
        have d0 := (hb.cell (p := ⟨b', o' + k * 4, none⟩) hbs').trans g0'
        have d1 := (hb.cell (p := ⟨b', o' + k * 4 + 1, none⟩) hbs').trans g1'
        have d2 := (hb.cell (p := ⟨b', o' + k * 4 + 2, none⟩) hbs').trans g2'
        have d3 := (hb.cell (p := ⟨b', o' + k * 4 + 3, none⟩) hbs').trans g3'
        have HNO : Hid (xs[k] ≠ ys[k] → (xs == ys) = false) := fun h => by
          rw [beq_eq_false_iff_ne]; rintro rfl; exact h rfl
        have HYES : Hid (xs[k] = ys[k] → xs.take (k + 1) = ys.take (k + 1)) := fun h => by
          rw [List.take_succ_eq_append_getElem hlt, List.take_succ_eq_append_getElem hlt', Heq.out, h]
        have HEX : Hid (xs[k] = (xs[k].1, xs[k].2.1, xs[k].2.2.1, xs[k].2.2.2)) := rfl
        have HEY : Hid (ys[k] = (ys[k].1, ys[k].2.1, ys[k].2.2.1, ys[k].2.2.2)) := rfl
        obtain ⟨x0, hx0⟩ : ∃ z, xs[k].1 = z := ⟨_, rfl⟩
        obtain ⟨x1, hx1⟩ : ∃ z, xs[k].2.1 = z := ⟨_, rfl⟩
        obtain ⟨x2, hx2⟩ : ∃ z, xs[k].2.2.1 = z := ⟨_, rfl⟩
        obtain ⟨x3, hx3⟩ : ∃ z, xs[k].2.2.2 = z := ⟨_, rfl⟩
        obtain ⟨y0, hy0⟩ : ∃ z, ys[k].1 = z := ⟨_, rfl⟩
        obtain ⟨y1, hy1⟩ : ∃ z, ys[k].2.1 = z := ⟨_, rfl⟩
        obtain ⟨y2, hy2⟩ : ∃ z, ys[k].2.2.1 = z := ⟨_, rfl⟩
        obtain ⟨y3, hy3⟩ : ∃ z, ys[k].2.2.2 = z := ⟨_, rfl⟩
        rw [hx0] at c0 HEX
        rw [hx1] at c1 HEX
        rw [hx2] at c2 HEX
        rw [hx3] at c3 HEX
        rw [hy0] at d0 HEY
        rw [hy1] at d1 HEY
        rw [hy2] at d2 HEY
        rw [hy3] at d3 HEY
        have hk0 : (0 : Int) ≤ (k : Int) := by omega
        have hk1 : (k : Int) < (xs.length : Int) := by omega
        have hk2 : (k : Int) < (ys.length : Int) := by omega
        have HB := Lib.hid hb
        clear hx0 hx1 hx2 hx3 hy0 hy1 hy2 hy3 g0 g1 g2 g3 g0' g1' g2' g3' hb
        have hcase : (x0 = y0 ∧ x1 = y1 ∧ x2 = y2 ∧ x3 = y3) ∨ x0 ≠ y0 ∨ (x0 = y0 ∧ x1 ≠ y1) ∨ (x0 = y0 ∧ x1 = y1 ∧ x2 ≠ y2) ∨ (x0 = y0 ∧ x1 = y1 ∧ x2 = y2 ∧ x3 ≠ y3) := by
          by_cases e0 : x0 = y0 <;> by_cases e1 : x1 = y1 <;> by_cases e2 : x2 = y2 <;> by_cases e3 : x3 = y3 <;> simp [e0, e1, e2, e3]
        rcases hcase with ⟨rfl, rfl, rfl, rfl⟩ | h0 | ⟨rfl, h0⟩ | ⟨rfl, rfl, h0⟩ | ⟨rfl, rfl, rfl, h0⟩
        · have HN := Lib.hid (HYES.out (by rw [HEX.out, HEY.out]))
          go_wp2
          go_quiet (fail)
          go_wp2
          go_roundw
          case rel => exact ⟨k + 1, by omega, by go_num, HN.out, below_drewN _ HB.out⟩
          case measure => simp [intOf]; omega
        · have HF := Lib.hid (HNO.out (by rw [HEX.out, HEY.out]; simp [h0]))
          have q0 : (x0 != y0) = true := by simpa using h0
          go_wp2
          go_quiet (fail)
          go_wp2
          go_ret
          exact ⟨ret_bool HF.out.symm, below_drewN _ HB.out⟩
        · have HF := Lib.hid (HNO.out (by rw [HEX.out, HEY.out]; simp [h0]))
          have q0 : (x1 != y1) = true := by simpa using h0
          go_wp2
          go_quiet (fail)
          go_wp2
          go_ret
          exact ⟨ret_bool HF.out.symm, below_drewN _ HB.out⟩
        · have HF := Lib.hid (HNO.out (by rw [HEX.out, HEY.out]; simp [h0]))
          have q0 : (x2 != y2) = true := by simpa using h0
          go_wp2
          go_quiet (fail)
          go_wp2
          go_ret
          exact ⟨ret_bool HF.out.symm, below_drewN _ HB.out⟩
        · have HF := Lib.hid (HNO.out (by rw [HEX.out, HEY.out]; simp [h0]))
          have q0 : (x3 != y3) = true := by simpa using h0
          go_wp2
          go_quiet (fail)
          go_wp2
          go_ret
          exact ⟨ret_bool HF.out.symm, below_drewN _ HB.out⟩
      · have HE : Hid ((xs == ys) = true) := by
          show _ = _
          rw [beq_iff_eq]
          have h := Heq.out
          have h2 := Hlen.out
          rwa [List.take_of_length_le (by omega), List.take_of_length_le (by omega)] at h
        clear Heq
        go_wp2
        go_ret
        exact ⟨ret_bool HE.out.symm, hb⟩
  · have hl1 : ((xs.length : Int) != ys.length) = true := by simp; omega
    have HE : Hid ((xs == ys) = false) := by
      show _ = _
      rw [beq_eq_false_iff_ne]; rintro rfl; exact hlen rfl
    clear hlen
    go_enter Try.func73, Try.ntmps73
    go_wp2
    go_ret
    exact ⟨ret_bool HE.out.symm, Below.refl _ _⟩

theorem sliceEqInts_any (v u : Value) (xs ys : List Int) (w : World) (hv : Ints w v xs) (hu : Ints w u ys) :
    Calls Try.prog 80 #[v, u] w fun e w' => e = .returned (.bool (xs == ys)) ∧ Below w.heap.size w w' := by
  obtain ⟨hm, a, c, rfl, hcap, hc⟩ := hv
  obtain ⟨hm', a', c', rfl, hcap', hc'⟩ := hu
  unfold maxLen at hm hm'
  by_cases hlen : xs.length = ys.length
  · have hl1 : ((xs.length : Int) != ys.length) = false := by simp [hlen]
    have Hlen := Lib.hid hlen
    clear hlen
    go_enter Try.func80, Try.ntmps80
    go_wp2
    go_loopw [13] (fun i wr => ∃ k : Nat, k ≤ xs.length ∧ i = .int .i64 k ∧ xs.take k = ys.take k ∧ Below w.heap.size w wr) (fun i _ => xs.length - (intOf i).toNat)
    case atStart => exact ⟨0, Nat.zero_le _, rfl, rfl, Below.refl _ _⟩
    case round =>
      obtain ⟨k, hk, rfl, heq, hb⟩ := hrel
      by_cases hlt : k < xs.length
      · have hlt' : k < ys.length := by have := Hlen.out; omega
        obtain ⟨b, o, rfl, hbs, hc1⟩ := hc k hlt
        obtain ⟨b', o', rfl, hbs', hc1'⟩ := hc' k hlt'
        have hc2 : wr.cell? ⟨b, o + k, none⟩ = some (.int .i64 xs[k]) := (hb.cell (p := ⟨b, o + k, none⟩) hbs).trans hc1
        have hc2' : wr.cell? ⟨b', o' + k, none⟩ = some (.int .i64 ys[k]) := (hb.cell (p := ⟨b', o' + k, none⟩) hbs').trans hc1'
        have hk0 : (0 : Int) ≤ (k : Int) := by omega
        have hk1 : (k : Int) < (xs.length : Int) := by omega
        have hk2 : (k : Int) < (ys.length : Int) := by omega
        have Heq := Lib.hid heq
        clear hc hc' hc1 hc1' heq
        cases hne : (xs[k] != ys[k])
        · go_wp2
          go_quiet (fail)
          go_wp2
          go_roundw
          case rel =>
            refine ⟨k + 1, by omega, by go_num, ?_, below_drewN _ hb⟩
            rw [List.take_succ_eq_append_getElem hlt, List.take_succ_eq_append_getElem hlt', Heq.out]
            simp at hne; rw [hne]
          case measure => simp [intOf]; omega
        · go_wp2
          go_quiet (fail)
          go_wp2
          go_ret
          refine ⟨ret_bool ?_, below_drewN _ hb⟩
          symm
          rw [beq_eq_false_iff_ne]
          rintro rfl
          simp at hne
      · have hk' : k = xs.length := by omega
        clear hc hc'
        have Heq := Lib.hid heq
        have Hk' := Lib.hid hk'
        clear heq hk'
        go_wp2
        go_ret
        refine ⟨ret_bool ?_, hb⟩
        symm
        rw [beq_iff_eq]
        have h := Heq.out
        have h1 := Hk'.out
        have h2 := Hlen.out
        rwa [List.take_of_length_le (by omega), List.take_of_length_le (by omega)] at h
  · have hl1 : ((xs.length : Int) != ys.length) = true := by simp; omega
    have Hlen := Lib.hid hlen
    clear hlen
    go_enter Try.func80, Try.ntmps80
    go_wp2
    go_ret
    refine ⟨ret_bool ?_, Below.refl _ _⟩
    symm
    rw [beq_eq_false_iff_ne]
    rintro rfl
    exact Hlen.out rfl

theorem l08Equal_any (v u : Value) (xs ys : List Int) (w : World) (hv : Ints w v xs) (hu : Ints w u ys) :
    Calls Try.prog 75 #[v, u] w fun e w' => e = .returned (.bool (xs == ys)) ∧ Below w.heap.size w w' := by
  obtain ⟨hm, a, c, rfl, hcap, hc⟩ := hv
  obtain ⟨hm', a', c', rfl, hcap', hc'⟩ := hu
  unfold maxLen at hm hm'
  by_cases hlen : xs.length = ys.length
  · have hl1 : ((xs.length : Int) != ys.length) = false := by simp [hlen]
    have Hlen := Lib.hid hlen
    clear hlen
    go_enter Try.func75, Try.ntmps75
    go_wp2
    go_loopw [5] (fun i wr => ∃ k : Nat, k ≤ xs.length ∧ i = .int .i64 k ∧ xs.take k = ys.take k ∧ Below w.heap.size w wr) (fun i _ => xs.length - (intOf i).toNat)
    case atStart => exact ⟨0, Nat.zero_le _, rfl, rfl, Below.refl _ _⟩
    case round =>
      obtain ⟨k, hk, rfl, heq, hb⟩ := hrel
      by_cases hlt : k < xs.length
      · have hlt' : k < ys.length := by have := Hlen.out; omega
        obtain ⟨b, o, rfl, hbs, hc1⟩ := hc k hlt
        obtain ⟨b', o', rfl, hbs', hc1'⟩ := hc' k hlt'
        have hc2 : wr.cell? ⟨b, o + k, none⟩ = some (.int .i64 xs[k]) := (hb.cell (p := ⟨b, o + k, none⟩) hbs).trans hc1
        have hc2' : wr.cell? ⟨b', o' + k, none⟩ = some (.int .i64 ys[k]) := (hb.cell (p := ⟨b', o' + k, none⟩) hbs').trans hc1'
        have hk0 : (0 : Int) ≤ (k : Int) := by omega
        have hk1 : (k : Int) < (xs.length : Int) := by omega
        have hk2 : (k : Int) < (ys.length : Int) := by omega
        have Heq := Lib.hid heq
        clear hc hc' hc1 hc1' heq
        cases hne : (xs[k] != ys[k])
        · go_wp2
          go_quiet (fail)
          go_wp2
          go_roundw
          case rel =>
            refine ⟨k + 1, by omega, by go_num, ?_, below_drewN _ hb⟩
            rw [List.take_succ_eq_append_getElem hlt, List.take_succ_eq_append_getElem hlt', Heq.out]
            simp at hne; rw [hne]
          case measure => simp [intOf]; omega
        · go_wp2
          go_quiet (fail)
          go_wp2
          go_ret
          refine ⟨ret_bool ?_, below_drewN _ hb⟩
          symm
          rw [beq_eq_false_iff_ne]
          rintro rfl
          simp at hne
      · have hk' : k = xs.length := by omega
        clear hc hc'
        have Heq := Lib.hid heq
        have Hk' := Lib.hid hk'
        clear heq hk'
        go_wp2
        go_ret
        refine ⟨ret_bool ?_, hb⟩
        symm
        rw [beq_iff_eq]
        have h := Heq.out
        have h1 := Hk'.out
        have h2 := Hlen.out
        rwa [List.take_of_length_le (by omega), List.take_of_length_le (by omega)] at h
  · have hl1 : ((xs.length : Int) != ys.length) = true := by simp; omega
    have Hlen := Lib.hid hlen
    clear hlen
    go_enter Try.func75, Try.ntmps75
    go_wp2
    go_ret
    refine ⟨ret_bool ?_, Below.refl _ _⟩
    symm
    rw [beq_eq_false_iff_ne]
    rintro rfl
    exact Hlen.out rfl

theorem implSameJobs_any (v u : Value) (xs ys : List Jb) (w : World) (hv : Jobs w v xs) (hu : Jobs w u ys) (hxl : xs.length ≤ 1048576) (hyl : ys.length ≤ 1048576) :
    Calls Try.prog 78 #[v, u] w fun e w' => e = .returned (.bool (xs == ys)) ∧ Below w.heap.size w w' := by
  have H := Lib.hid (sliceEqJobs_any v u xs ys w hv hu hxl hyl)
  obtain ⟨_, a, c, rfl, _⟩ := hv
  obtain ⟨_, a', c', rfl, _⟩ := hu
  go_enter Try.func78, Try.ntmps78
  go_wp2_with (go_at_call 128; refine H.out.mono ?_; rintro e w' ⟨rfl, hb⟩)
  go_ret
  exact ⟨rfl, hb⟩
end Go.Proofs.Ytmakjgbldejcpaa
