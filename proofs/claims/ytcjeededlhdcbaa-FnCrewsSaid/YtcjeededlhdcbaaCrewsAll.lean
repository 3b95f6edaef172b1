/- The walk of FnCrews. Conditions: none. With texts that it needs. -/
import Derived.Test.YtcjeededlhdcbaaCrewsAll1
import Derived.Test.YtcjeededlhdcbaaCrewsAll9
import Derived.Test.YtcjeededlhdcbaaCrewsAll10
import Derived.Test.YtcjeededlhdcbaaCrewsAll19
namespace Go.Proofs.Ytcjeededlhdcbaa
open Go.RowKit
set_option linter.unusedVariables false
set_option linter.unusedSimpArgs false

theorem b10Long_any (v u : Value) (xs ys : List Int) (w : World) (hv : Byts w v xs) (hu : Byts w u ys) :
    Calls Try.prog 6 #[v, u] w fun e w' => e = .returned (.bool (decide (1048576 < xs.length) || decide (1048576 < ys.length))) ∧ w = w' := by
  obtain ⟨hm, a, c, rfl, hcap, hc⟩ := hv
  obtain ⟨hm', a', c', rfl, hcap', hc'⟩ := hu
  unfold maxLen at hm hm'
  clear hc hc'
  by_cases h : 1048576 < xs.length
  · go_enter Try.func6, Try.ntmps6
    go_wp2
    go_ret
    exact ⟨ret_bool (by simp [h]), rfl⟩
  · have hd : decide (1048576 < xs.length) = false := by simpa using h
    by_cases h2 : 1048576 < ys.length
    · go_enter Try.func6, Try.ntmps6
      go_wp2
      go_ret
      exact ⟨ret_bool (by rw [hd]; first | rfl | (symm; simp; omega) | (rw [Bool.eq_iff_iff]; simp; omega)), rfl⟩
    · go_enter Try.func6, Try.ntmps6
      go_wp2
      go_ret
      exact ⟨ret_bool (by rw [hd]; first | rfl | (symm; simp; omega) | (rw [Bool.eq_iff_iff]; simp; omega)), rfl⟩

/-- A number from 0 to n - 1. -/
theorem b10At_any (v : Value) (xs : List Int) (i n : Int) (w : World) (hv : Byts w v xs) (hwf : ∀ x ∈ xs, (Lit.int .u8 x).wf = true) (hi : 0 ≤ i) (hi2 : i ≤ 100000000) (hn : 1 ≤ n) (hn2 : n ≤ 100000000) :
    Calls Try.prog 7 #[v, .int .i64 i, .int .i64 n] w fun e w' => (∃ x, e = .returned (.int .i64 x) ∧ 0 ≤ x ∧ x < n) ∧ w = w' := by
  obtain ⟨hm, a, c, rfl, hcap, hc⟩ := hv
  unfold maxLen at hm
  obtain ⟨k, rfl⟩ : ∃ k : Nat, i = k := ⟨i.toNat, by omega⟩
  by_cases h1 : n ≤ 1
  · clear hc
    go_enter Try.func7, Try.ntmps7
    go_wp2
    go_ret
    exact ⟨⟨0, rfl, by omega, by omega⟩, rfl⟩
  · by_cases hlt : k < xs.length
    · obtain ⟨b, o, rfl, hbs, hck⟩ := hc k hlt
      have hx := wf_u8_iff.1 (hwf xs[k] (List.getElem_mem _))
      obtain ⟨x, hxx⟩ : ∃ x, xs[k] = x := ⟨_, rfl⟩
      rw [hxx] at hck hx
      obtain ⟨hx1, hx2⟩ := hx
      clear hc hxx hwf
      go_enter Try.func7, Try.ntmps7
      go_wp2
      go_ret
      exact ⟨⟨x % n, rfl, Int.emod_nonneg _ (by omega), Int.emod_lt_of_pos _ (by omega)⟩, rfl⟩
    · clear hc
      go_enter Try.func7, Try.ntmps7
      go_wp2
      go_ret
      exact ⟨⟨((k : Int) * 37 + 11) % n, rfl, Int.emod_nonneg _ (by omega), Int.emod_lt_of_pos _ (by omega)⟩, rfl⟩
end Go.Proofs.Ytcjeededlhdcbaa

namespace Go.Proofs.Ytcjeededlhdcbaa
open Go.RowKit Go.Shelf Go.BigFrame
set_option linter.unusedVariables false
set_option linter.unusedSimpArgs false

theorem Ints.rowI {w : World} {v : Value} {xs : List Int} (h : Ints w v xs) (h0 : 0 < xs.length) : ∃ b o c, v = .slice (some ⟨b, o, none⟩) xs.length c ∧ b < w.heap.size ∧ xs.length ≤ c ∧ ∀ i, i < xs.length → w.cell? ⟨b, o + i, none⟩ = some (.int .i64 (nth xs i)) := by
  obtain ⟨_, a, c, rfl, hcap, hc⟩ := h
  obtain ⟨b, o, ha, hb, _⟩ := hc 0 h0
  subst ha
  refine ⟨b, o, c, rfl, hb, hcap, fun i hi => ?_⟩
  obtain ⟨b', o', he, _, hcell⟩ := hc i hi
  obtain ⟨rfl, rfl⟩ : b = b' ∧ o = o' := by simpa using he
  rw [hcell, nth_eq hi]

theorem b10Ints_any (v u : Value) (xs ys : List Int) (w : World) (hv : Ints w v xs) (hu : Ints w u ys) :
    Calls Try.prog 17 #[v, u] w fun e w' => e = .returned (.bool (xs == ys)) ∧ Below w.heap.size w w' := by
  obtain ⟨hm, a, c, rfl, hcap, hc⟩ := hv
  obtain ⟨hm', a', c', rfl, hcap', hc'⟩ := hu
  unfold maxLen at hm hm'
  by_cases hlen : xs.length = ys.length
  · have hl1 : ((xs.length : Int) != ys.length) = false := by simp [hlen]
    go_enter Try.func17, Try.ntmps17
    go_wp2
    go_loopw [13] (fun i wr => ∃ k : Nat, k ≤ xs.length ∧ i = .int .i64 k ∧ xs.take k = ys.take k ∧ Below w.heap.size w wr) (fun i _ => xs.length - (intOf i).toNat)
    case atStart => exact ⟨0, Nat.zero_le _, rfl, rfl, Below.refl _ _⟩
    case round =>
      obtain ⟨k, hk, rfl, heq, hb⟩ := hrel
      by_cases hlt : k < xs.length
      · have hlt' : k < ys.length := by omega
        obtain ⟨b, o, rfl, hbs, hc1⟩ := hc k hlt
        obtain ⟨b', o', rfl, hbs', hc1'⟩ := hc' k hlt'
        have hc2 : wr.cell? ⟨b, o + k, none⟩ = some (.int .i64 xs[k]) := (hb.cell (p := ⟨b, o + k, none⟩) hbs).trans hc1
        have hc2' : wr.cell? ⟨b', o' + k, none⟩ = some (.int .i64 ys[k]) := (hb.cell (p := ⟨b', o' + k, none⟩) hbs').trans hc1'
        have hk0 : (0 : Int) ≤ (k : Int) := by omega
        have hk1 : (k : Int) < (xs.length : Int) := by omega
        have hk2 : (k : Int) < (ys.length : Int) := by omega
        have Heq := Lib.hid heq
        have Hlen := Lib.hid hlen
        clear hc hc' hc1 hc1' heq hlen
        cases hne : (xs[k] != ys[k])
        · go_wp2
          go_quiet (fail)
          go_wp2
          go_roundw
          case rel =>
            refine ⟨k + 1, by omega, by go_num, ?_, below_drewN _ hb⟩
            rw [List.take_succ_eq_append_getElem hlt, List.take_succ_eq_append_getElem hlt', Heq.out]
            simp at hne; rw [hne]
          case measure => simp [intOf]; omega
        · go_wp2
          go_quiet (fail)
          go_wp2
          go_ret
          refine ⟨ret_bool ?_, below_drewN _ hb⟩
          symm
          rw [beq_eq_false_iff_ne]
          rintro rfl
          simp at hne
      · have hk' : k = xs.length := by omega
        clear hc hc'
        have Heq := Lib.hid heq
        have Hlen := Lib.hid hlen
        have Hk' := Lib.hid hk'
        clear heq hlen hk'
        have hkk : ¬ k < ys.length := by have := Hlen.out; have := Hk'.out; omega
        go_wp2
        go_ret
        refine ⟨ret_bool ?_, hb⟩
        symm
        rw [beq_iff_eq]
        have h := Heq.out
        have h1 := Hk'.out
        have h2 := Hlen.out
        rwa [List.take_of_length_le (by omega), List.take_of_length_le (by omega)] at h
  · have hl1 : ((xs.length : Int) != ys.length) = true := by simp; omega
    have Hlen := Lib.hid hlen
    clear hlen
    go_enter Try.func17, Try.ntmps17
    go_wp2
    go_ret
    refine ⟨ret_bool ?_, Below.refl _ _⟩
    symm
    rw [beq_eq_false_iff_ne]
    rintro rfl
    exact Hlen.out rfl
end Go.Proofs.Ytcjeededlhdcbaa

namespace Go.Proofs.Ytcjeededlhdcbaa
open Go.RowKit Go.Shelf Go.BigFrame
set_option linter.unusedVariables false
set_option linter.unusedSimpArgs false

/-- What the calls of the law give, at drawn tasks. -/
structure CrwE (ts : List Tk) (crew kd : Int) (T : Nat) (vt : Value) (w : World) (stR stO stB : List Int) (eR eO eB : Nat) (X : Int) (an : Bool) : Prop where
  rp : ∀ W, Below w.heap.size w W → Calls Try.prog 9 #[vt, .int .i64 kd, .int .i64 crew] W fun e w' => (∃ g, e = .returned (.tuple #[.slice (some ⟨g, 0, none⟩) T T, .int .i64 eR, .bool true]) ∧ OwnI w' W.heap.size (.slice (some ⟨g, 0, none⟩) T T) stR) ∧ Below W.heap.size W w'
  rs : ∀ W, Below w.heap.size w W → Calls Try.prog 10 #[vt, .int .i64 kd, .int .i64 crew] W fun e w' => (∃ g, e = .returned (.tuple #[.slice (some ⟨g, 0, none⟩) T T, .int .i64 eR, .bool true]) ∧ OwnI w' W.heap.size (.slice (some ⟨g, 0, none⟩) T T) stR) ∧ Below W.heap.size W w'
  op : ∀ vo W, Below w.heap.size w W → Ints W vo (idL T) → Calls Try.prog 11 #[vt, vo, .int .i64 crew] W fun e w' => (∃ g, e = .returned (.tuple #[.slice (some ⟨g, 0, none⟩) T T, .int .i64 eO, .bool true]) ∧ OwnI w' W.heap.size (.slice (some ⟨g, 0, none⟩) T T) stO) ∧ Below W.heap.size W w'
  bi : ∀ W, Below w.heap.size w W → Calls Try.prog 12 #[vt, .int .i64 crew] W fun e w' => (∃ g, e = .returned (.tuple #[.slice (some ⟨g, 0, none⟩) T T, .int .i64 eB, .bool true]) ∧ OwnI w' W.heap.size (.slice (some ⟨g, 0, none⟩) T T) stB) ∧ Below W.heap.size W w'
  bs : ∀ W, Below w.heap.size w W → Calls Try.prog 13 #[vt, .int .i64 crew] W fun e w' => (∃ g, e = .returned (.tuple #[.slice (some ⟨g, 0, none⟩) T T, .int .i64 eB, .bool true]) ∧ OwnI w' W.heap.size (.slice (some ⟨g, 0, none⟩) T T) stB) ∧ Below W.heap.size W w'
  cs : ∀ vc (k : Int) W, Below w.heap.size w W → Ints W vc [crew, crew + 1] → 1 ≤ k → k ≤ 8 → Calls Try.prog 14 #[vt, vc, .int .i64 k] W fun e w' => (∃ g c, e = .returned (.tuple #[.slice (some ⟨g, 0, none⟩) 2 c, .bool true]) ∧ OwnI w' W.heap.size (.slice (some ⟨g, 0, none⟩) 2 c) [endR ts 0 crew, endR ts 0 (crew + 1)]) ∧ Below W.heap.size W w'
  r0 : ∀ W, Below w.heap.size w W → Calls Try.prog 10 #[vt, .int .i64 0, .int .i64 crew] W fun e w' => (∃ g, e = .returned (.tuple #[.slice (some ⟨g, 0, none⟩) T T, .int .i64 (endR ts 0 crew), .bool true])) ∧ Below W.heap.size W w'
  pb : ∀ W, Below w.heap.size w W → Calls Try.prog 15 #[vt, .int .i64 crew] W fun e w' => e = .returned (.tuple #[.int .i64 X, .bool (!an)]) ∧ Below W.heap.size W w'
  ps : ∀ W, Below w.heap.size w W → Calls Try.prog 16 #[vt, .int .i64 crew] W fun e w' => (∃ x, e = .returned (.tuple #[.int .i64 x, .bool (!an)])) ∧ Below W.heap.size W w'
  ic : ∀ vs st W, st = stR ∨ st = stO ∨ st = stB → Below w.heap.size w W → Ints W vs st → Calls Try.prog 18 #[vt, vs, .int .i64 crew] W fun e w' => e = .returned (.bool true) ∧ Below W.heap.size W w'
  cu : ∀ vs W, Below w.heap.size w W → Ints W vs stB → Calls Try.prog 19 #[vt, vs] W fun e w' => (∃ a c, e = .returned (.tuple #[.slice a eB c, .bool true]) ∧ OwnI w' W.heap.size (.slice a eB c) (useL ts stB eB T)) ∧ Below W.heap.size W w'
  pg : ∀ vs W, Below w.heap.size w W → Ints W vs stB → Calls Try.prog 20 #[vt, vs, .int .i64 eB] W fun e w' => e = .returned (.tuple #[.int .i64 (allTo ts T), .int .i64 (allTo ts T), .bool true]) ∧ Below W.heap.size W w'
  p0 : ∀ vs W, Below w.heap.size w W → Ints W vs stB → Calls Try.prog 20 #[vt, vs, .int .i64 0] W fun e w' => e = .returned (.tuple #[.int .i64 0, .int .i64 (allTo ts T), .bool true]) ∧ Below W.heap.size W w'
  lr : eB ≤ eR
  lo : eB ≤ eO
  bd : an = false → X ≤ (eB : Int)
  okB : CrewOk ts crew stB eB
theorem crwE (ts : List Tk) (crew kd : Int) (T : Nat) (vt : Value) (w : World) (ht : TasksR w vt ts) (hT : ts.length = T) (hdr : Drawn ts) (h1 : 1 ≤ T) (h5 : T ≤ 5) (hc : 3 ≤ crew ∧ crew ≤ 6) (hkd : kd = 0 ∨ kd = 1 ∨ kd = 2 ∨ kd = 3) :
    ∃ (stR stO stB : List Int) (eR eO eB : Nat) (X : Int) (an : Bool), CrwE ts crew kd T vt w stR stO stB eR eO eB X an := by
  subst hT
  have hok := drawn_ok hdr h1 (by omega)
  have hsm := tasks_sm hok
  have hneed : ∀ i, i < ts.length → needN ts i ≤ crew := fun i hi => by have := (drawn_at hdr hi).2.1; omega
  have hneed1 : ∀ i, i < ts.length → needN ts i ≤ crew + 1 := fun i hi => by have := hneed i hi; omega
  obtain ⟨stR, hR⟩ := takeL_some hsm hneed (by omega) (ruleN_ok hsm kd)
  obtain ⟨stO, hO⟩ := takeL_some hsm hneed (by omega) (ordOk_id hsm)
  obtain ⟨EB, lB, stB, hF, hB, hl, hEB⟩ := firstL_some hsm hneed (by omega)
  obtain ⟨eR, oR⟩ := crewOk hdr h1 (by omega) (by omega) (ruleN_ok hsm kd).perm hR
  obtain ⟨eO, oO⟩ := crewOk hdr h1 (by omega) (by omega) (List.Perm.refl _) hO
  obtain ⟨eB, oB⟩ := crewOk hdr h1 (by omega) (by omega) hEB hB
  have hleast := ((firstL_spec (n := ts.length) (f := endOfL ts crew)).2 EB lB hF).2.2
  have hlB : lB = eB := by rw [hl, oB.eq]
  have hrE : endR ts kd crew = eR := by rw [endR_some hR, oR.eq]
  refine ⟨stR, stO, stB, eR, eO, eB, (if anyNeg ts then 0 else boundV ts crew), anyNeg ts, ?_⟩
  refine ⟨fun W hW => ?_, fun W hW => ?_, fun vo W hW ho => ?_, fun W hW => ?_, fun W hW => ?_, fun vc k W hW hi k1 k8 => ?_, fun W hW => ?_, fun W hW => ?_, fun W hW => ?_, fun vs st W hst hW hi => ?_, fun vs W hW hi => ?_, fun vs W hW hi => ?_, fun vs W hW hi => ?_, ?_, ?_, ?_, oB⟩
  · refine (RulePlanE_any vt ts kd crew W (ht.below hW (Nat.le_refl _)) hok hkd (by omega) hneed).mono ?_
    rintro e w' ⟨⟨out, g, k1, _, k3, k4⟩, k5⟩
    obtain rfl : stR = out := by rw [hR] at k1; injection k1
    exact ⟨⟨g, by rw [← hrE]; exact k3, k4⟩, k5⟩
  · refine (specRulePlan_any vt ts kd crew W (ht.below hW (Nat.le_refl _)) hok hkd hneed (by omega)).mono ?_
    rintro e w' ⟨⟨out, g, k1, k3, k4⟩, k5⟩
    obtain rfl : stR = out := by have k2 : takeL ts crew (ruleN ts kd) = some out := k1; rw [hR] at k2; injection k2
    exact ⟨⟨g, by rw [← oR.eq]; exact k3, k4⟩, k5⟩
  · refine (OrderPlan_any vt vo ts (idL ts.length) crew W (ht.below hW (Nat.le_refl _)) ho (List.Perm.refl _) hok (by omega) hneed (fun W' hW' => ?_)).mono ?_
    · have h := isOrder_any ts.length vo (idL ts.length) W' (ho.below hW' (Nat.le_refl _)) (by rw [idL_length]; omega)
      have e1 : (win (ts.length : Int) 1 24 && orders (ts.length : Int) (idL ts.length)) = true := by
        rw [Bool.and_eq_true]
        refine ⟨win_true.2 (by omega), ?_⟩
        refine orders_yes (by rw [idL_length]) fun i hi => ?_
        rw [idL_length] at hi
        rw [idL_get hi]
        refine ⟨win_true.2 (by omega), ?_⟩
        rw [List.any_eq_false]
        intro x hx
        have e2 : (idL ts.length).take i = idL i := by unfold idL; rw [← List.map_take, List.take_range, Nat.min_eq_left (by omega)]
        rw [e2] at hx
        have := idL_mem.1 hx
        simp
        omega
      rw [e1] at h
      exact h
    · rintro e w' ⟨h, k5⟩
      rcases h with ⟨k1, _⟩ | ⟨out, g, k1, _, k3, k4⟩
      · rw [hO] at k1; cases k1
      · obtain rfl : stO = out := by rw [hO] at k1; injection k1
        exact ⟨⟨g, by rw [← oO.eq]; exact k3, k4⟩, k5⟩
  · refine (BestPlan_any vt ts crew W (ht.below hW (Nat.le_refl _)) hok (by omega) (by omega) hneed).mono ?_
    rintro e w' ⟨h, k5⟩
    rcases h with ⟨k1, _⟩ | ⟨E, l, out, g, k1, k2, _, k3, k4⟩
    · rw [hF] at k1; cases k1
    · rw [hF] at k1
      injection k1 with k1
      injection k1 with k1 k6
      subst k1
      obtain rfl : stB = out := by rw [hB] at k2; injection k2
      exact ⟨⟨g, by rw [← oB.eq]; exact k3, k4⟩, k5⟩
  · refine (specBest_any vt ts crew W (ht.below hW (Nat.le_refl _)) hok (by omega) (by omega) hneed).mono ?_
    rintro e w' ⟨⟨E, l, out, g, k1, k2, k6, k3, k4⟩, k5⟩
    rw [hF] at k1
    injection k1 with k1
    injection k1 with k1 k7
    subst k1 k7
    obtain rfl : stB = out := by rw [hB] at k2; injection k2
    exact ⟨⟨g, by rw [← hlB]; exact k3, k4⟩, k5⟩
  · refine (CrewsShared_any vt vc ts [crew, crew + 1] k W (ht.below hW (Nat.le_refl _)) hok hi (by simp) (fun c hc' => ?_) ⟨k1, k8⟩).mono ?_
    · simp at hc'
      rcases hc' with rfl | rfl
      · exact ⟨by omega, hneed⟩
      · exact ⟨by omega, hneed1⟩
    · rintro e w' ⟨⟨g, c, k3, k4⟩, k5⟩
      exact ⟨⟨g, c, k3, k4⟩, k5⟩
  · refine (specRulePlan_any vt ts 0 crew W (ht.below hW (Nat.le_refl _)) hok (.inl rfl) hneed (by omega)).mono ?_
    rintro e w' ⟨⟨out, g, k1, k3, k4⟩, k5⟩
    exact ⟨⟨g, by rw [endR_some (show takeL ts crew (ruleN ts 0) = some out from k1)]; exact k3⟩, k5⟩
  · refine (PlanBound_any vt ts crew W (ht.below hW (Nat.le_refl _)) hok (by omega) hneed).mono ?_
    rintro e w' ⟨h, k5⟩
    rcases h with ⟨k1, k3⟩ | ⟨k1, k3⟩
    · exact ⟨by rw [k1]; exact k3, k5⟩
    · exact ⟨by rw [k1]; exact k3, k5⟩
  · refine (specBound_any vt ts crew W (ht.below hW (Nat.le_refl _)) hok (by omega) hneed).mono ?_
    rintro e w' ⟨h, k5⟩
    rcases h with ⟨k1, k3⟩ | ⟨k1, x, k3⟩
    · exact ⟨⟨0, by rw [k1]; exact k3⟩, k5⟩
    · exact ⟨⟨x, by rw [k1]; exact k3⟩, k5⟩
  · have h := isCrewPlan_any vt vs ts st crew W (ht.below hW (Nat.le_refl _)) hi
    rcases hst with rfl | rfl | rfl
    · rw [oR.ok] at h; exact h
    · rw [oO.ok] at h; exact h
    · rw [oB.ok] at h; exact h
  · refine (CrewUse_any vt vs ts stB W (ht.below hW (Nat.le_refl _)) hi).mono ?_
    rintro e w' ⟨⟨u, k3, k4⟩, k5⟩
    rw [oB.uses] at k3 k4
    have k6 := k4 rfl
    rw [oB.eq, Int.toNat_natCast] at k6
    have k7 := useL_len ts stB eB ts.length
    rcases k6.nil_or with ⟨rfl, h0⟩ | ⟨g, c, rfl⟩
    · have he0 : eB = 0 := by rw [h0] at k7; simpa using k7.symm
      exact ⟨⟨none, 0, by rw [he0]; exact k3, by rw [he0] at k6 ⊢; exact k6⟩, k5⟩
    · rw [k7] at k3 k6
      exact ⟨⟨_, c, k3, k6⟩, k5⟩
  · have h := ProgressOf_any vt vs ts stB eB W (ht.below hW (Nat.le_refl _)) hi hok oB.many (by have := oB.e4; omega)
    rw [oB.done] at h
    exact h
  · have h := ProgressOf_any vt vs ts stB 0 W (ht.below hW (Nat.le_refl _)) hi hok oB.many (by omega)
    rw [oB.none] at h
    exact h
  · have := hleast _ (ruleN_ok hsm kd).perm _ (endOfL_some hR)
    rw [hlB, oR.eq] at this
    omega
  · have := hleast _ (List.Perm.refl _) _ (endOfL_some hO)
    rw [hlB, oO.eq] at this
    omega
  · intro h
    rw [h]
    exact oB.bound
theorem sumF_nn {f : Nat → Int} : ∀ m, (∀ t, t < m → 0 ≤ f t) → 0 ≤ sumF f m
  | 0, _ => Int.le_refl _
  | m + 1, h => by
    have h1 := sumF_nn m (fun t ht => h t (by omega))
    have h2 := h m (by omega)
    unfold sumF
    omega
def IdR (T : Nat) (w : World) (N : Nat) (vo vi : Value) (wr : World) : Prop :=
  ∃ (k g c : Nat), k ≤ T ∧ vi = .int .i64 k ∧ vo = .slice (some ⟨g, 0, none⟩) k c ∧ Hid (OwnI wr N (.slice (some ⟨g, 0, none⟩) k c) (idL k)) ∧ Hid (Below w.heap.size w wr) ∧ N ≤ wr.heap.size
def WkR (ts : List Tk) (T : Nat) (W : World) (vs vk : Value) (wr : World) : Prop :=
  ∃ (k m : Nat), k ≤ T ∧ vk = .int .i64 k ∧ vs = .int .i64 (workTo ts k) ∧ wr = W.drewN m
def SbR (f : Nat → Int) (A : Int) (E : Nat) (W : World) (vs vk : Value) (wr : World) : Prop :=
  ∃ (k m : Nat), k ≤ E ∧ vk = .int .i64 k ∧ vs = .int .i64 (A - sumF f k) ∧ wr = W.drewN m
set_option maxRecDepth 100000 in
set_option maxHeartbeats 8000000 in
theorem walkFnCrews (a0 : Option Addr) (len0 cap0 : Nat) (z0 : List Int) (a1 : Option Addr) (len1 cap1 : Nat) (z1 : List Int) (w : World)
    (w0 : (a0 = none ∧ len0 = 0 ∧ cap0 = 0 ∧ z0 = []) ∨
      ∃ x, a0 = some x ∧ len0 ≤ cap0 ∧ cap0 ≤ maxLen ∧ z0.length = cap0 ∧ (∀ i, i < z0.length → w.cell? (x.add i) = some (.int .u8 (z0.getD i 0))) ∧ ∀ n ∈ z0, (Lit.int .u8 n).wf = true)
    (w1 : (a1 = none ∧ len1 = 0 ∧ cap1 = 0 ∧ z1 = []) ∨
      ∃ x, a1 = some x ∧ len1 ≤ cap1 ∧ cap1 ≤ maxLen ∧ z1.length = cap1 ∧ (∀ i, i < z1.length → w.cell? (x.add i) = some (.int .u8 (z1.getD i 0))) ∧ ∀ n ∈ z1, (Lit.int .u8 n).wf = true) :
    Calls Try.prog 3 #[.slice a0 len0 cap0, .slice a1 len1 cap1] w fun e w' => e = .returned (.bool true) ∧ Below w.heap.size w w' := by
  obtain ⟨hv0, hwf0, hlen0⟩ := bytes_of_row w0
  obtain ⟨hv1, hwf1, hlen1⟩ := bytes_of_row w1
  generalize z0.take len0 = xs at *
  generalize z1.take len1 = ys at *
  subst hlen0 hlen1
  clear w0 w1
  have Hwf0 := Lib.hid hwf0
  have Hwf1 := Lib.hid hwf1
  clear hwf0 hwf1
  cases hlong : (decide (1048576 < xs.length) || decide (1048576 < ys.length))
  · have HAT : Hid (∀ (i n : Int) W, Below w.heap.size w W → 0 ≤ i → i ≤ 100 → 1 ≤ n → n ≤ 100 → Calls Try.prog 7 #[.slice a1 ys.length cap1, .int .i64 i, .int .i64 n] W fun e w' => (∃ x, e = .returned (.int .i64 x) ∧ 0 ≤ x ∧ x < n) ∧ W = w') := fun i n W hW h1 h2 h3 h4 => b10At_any _ ys i n W (hv1.below hW (Nat.le_refl _)) Hwf1.out h1 (by omega) h3 (by omega)
    have HTK : Hid (∀ (n : Nat), n ≤ 7 → Calls Try.prog 8 #[.slice a0 xs.length cap0, .int .i64 n] w fun e w' => (∃ vt ts, e = .returned vt ∧ TasksR w' vt ts ∧ ts.length = n ∧ Drawn ts) ∧ Below w.heap.size w w') := fun n hn => b10Tasks_any _ xs n w hv0 Hwf0.out hn
    have HLG := Lib.hid (b10Long_any _ _ xs ys _ hv0 hv1)
    rw [hlong] at HLG
    clear hlong hv0 hv1
    go_enter Try.func3, Try.ntmps3
    go_wp2_with fail
    refine HLG.out.mono ?_
    rintro e w' ⟨rfl, rfl⟩
    go_wp2_with fail
    refine (HAT.out _ _ w (Below.refl _ _) (by omega) (by omega) (by omega) (by omega)).mono ?_
    rintro e w' ⟨⟨x0, rfl, hx0a, hx0b⟩, rfl⟩
    obtain ⟨t, ht⟩ : ∃ t : Nat, 1 + x0 = (t : Int) := ⟨(1 + x0).toNat, by omega⟩
    have h1 : 1 ≤ t := by omega
    have h5 : t ≤ 5 := by omega
    have wt : IntKind.i64.wrap (1 + x0) = (t : Int) := by rw [ht]; exact IntWalk.i64_in _ (by omega)
    have HTK1 := Lib.hid (HTK.out t (by omega))
    clear hx0a hx0b
    go_wp2_with fail
    refine HTK1.out.mono ?_
    rintro e W1 ⟨⟨vt, ts, rfl, htr, hlen, hdr⟩, hb1⟩
    have HB1 := Lib.hid hb1
    have HTR := Lib.hid htr
    have HLN := Lib.hid hlen
    have HDR := Lib.hid hdr
    clear hb1 htr hlen hdr HTK HTK1 wt ht
    have h1' : (1 : Int) ≤ (t : Int) := by omega
    have h5' : (t : Int) ≤ 5 := by omega
    go_wp2_with fail
    refine (HAT.out _ _ W1 HB1.out (by omega) (by omega) (by omega) (by omega)).mono ?_
    rintro e w' ⟨⟨x1, rfl, hx1a, hx1b⟩, rfl⟩
    obtain ⟨crew, hcr⟩ : ∃ c : Int, 3 + x1 = c := ⟨_, rfl⟩
    have hcr1 : 3 ≤ crew ∧ crew ≤ 6 := by omega
    have wc : IntKind.i64.wrap (3 + x1) = crew := by rw [hcr]; exact IntWalk.i64_in _ (by omega)
    clear hcr hx1a hx1b
    go_wp2_with fail
    refine (HAT.out _ _ W1 HB1.out (by omega) (by omega) (by omega) (by omega)).mono ?_
    rintro e w' ⟨⟨kd, rfl, hkda, hkdb⟩, rfl⟩
    obtain ⟨stR, stO, stB, eR, eO, eB, X, an, hce⟩ := crwE ts crew kd t vt W1 HTR.out HLN.out HDR.out h1 h5 hcr1 (by omega)
    obtain ⟨b, o, c, AB, CB, AL, CL, rfl, hcap, hbw, hV⟩ := HTR.out.view (by rw [HLN.out]; exact h1)
    have HV : Hid (∀ W, Below W1.heap.size W1 W → TkView W b o ts AB CB AL CL) := hV
    rw [HLN.out] at hcap hce ⊢
    have HC := Lib.hid hce
    have g1 : ¬ (eR : Int) < (eB : Int) := by have := hce.lr; omega
    have g2 : ¬ (eO : Int) < (eB : Int) := by have := hce.lo; omega
    have wc1 : IntKind.i64.wrap (crew + 1) = crew + 1 := IntWalk.i64_in _ (by omega)
    clear hkda hkdb wc hV hce
    go_wp2_with fail
    refine (HC.out.rp W1 (Below.refl _ _)).mono ?_
    rintro e W2 ⟨⟨g2', rfl, ho2⟩, hb2⟩
    have HB2 := Lib.hid hb2
    have HO2 := Lib.hid ho2
    clear hb2 ho2
    go_wp2_with fail
    refine (HC.out.rs W2 HB2.out).mono ?_
    rintro e W3 ⟨⟨g3, rfl, ho3⟩, hb3⟩
    have HB3 : Hid (Below W1.heap.size W1 W3) := HB2.out.trans (hb3.mono HB2.out.size)
    have HO3 := Lib.hid ho3
    have HO2 := Lib.hid (HO2.out.below hb3 (Nat.le_refl _))
    clear hb3 ho3
    have HI0 : Hid (IdR t W3 W3.heap.size (.slice (some ⟨W3.heap.size, 0, none⟩) 0 0) (.int .i64 0) (W3.alloc (.cells #[] 2))) :=
      ⟨0, W3.heap.size, 0, Nat.zero_le _, rfl, rfl, OwnI.lit W3 W3.heap.size [] (Nat.le_refl _) (by unfold maxLen; simp), (Below.refl _ W3).alloc (Nat.le_refl _) _, by simp⟩
    go_wp2_with fail
    go_loopw [15, 16] (fun vo vi wr => IdR t W3 W3.heap.size vo vi wr) (fun _ vi _ => t - (intOf vi).toNat)
    case atStart => exact HI0.out
    case round =>
      obtain ⟨k, g, c4, hk, rfl, rfl, HO, HB, hsz⟩ := hrel
      clear HI0
      by_cases hkt : k < t
      · have k0 : (0 : Int) ≤ (k : Int) := by omega
        have k1 : (k : Int) < (t : Int) := by omega
        have HLK := Lib.hid (idL_length k)
        go_wp2_with (at_builtin; refine append_i64 rfl _ _ rfl W3.heap.size (.slice (some ⟨g, 0, none⟩) k c4) (idL k) [(k : Int)] (by simp) rfl _ rfl HO.out hsz (by rw [HLK.out]; simp; omega) ?_; intro g1 c1 w3 ho3 hg3; have hb3 := Below.app HB.out HO.out hg3 hsz; rw [HLK.out] at ho3; rw [HLK.out]; have HO3' := Lib.hid ho3; have HB3' := Lib.hid hb3; clear ho3 hb3 hg3)
        go_roundw
        case rel => exact ⟨k + 1, g1, c1, by omega, by go_num, rfl, by show OwnI _ _ _ _; rw [idL_succ]; exact HO3'.out, HB3'.out, HB3'.out.size⟩
        case measure => simp [intOf]; omega
      · obtain rfl : k = t := by omega
        have HB5 : Hid (Below W1.heap.size W1 wr) := HB3.out.trans (HB.out.mono HB3.out.size)
        have HO5R := Lib.hid (HO2.out.below HB.out (Nat.le_refl _))
        have HO5S := Lib.hid (HO3.out.below HB.out (Nat.le_refl _))
        have HIO : Hid (Ints wr (.slice (some ⟨g, 0, none⟩) k c4) (idL k)) := by
          have h := HO.out.ints
          exact h
        have HC1 := Lib.hid (HC.out.op _ wr HB5.out HIO.out)
        clear HO HIO hk hkt HO2 HO3
        go_wp2_with fail
        refine HC1.out.mono ?_
        rintro e W6 ⟨⟨g6, rfl, ho6⟩, hb6⟩
        have HB6 : Hid (Below W1.heap.size W1 W6) := HB5.out.trans (hb6.mono HB5.out.size)
        have HO6R := Lib.hid (HO5R.out.below hb6 (Nat.le_refl _))
        have HO6S := Lib.hid (HO5S.out.below hb6 (Nat.le_refl _))
        have HO6 := Lib.hid ho6
        have HC2 := Lib.hid (HC.out.bi W6 HB6.out)
        clear hb6 ho6 HC1 HO5R HO5S
        go_wp2_with fail
        refine HC2.out.mono ?_
        rintro e W7 ⟨⟨g7, rfl, ho7⟩, hb7⟩
        have HB7 : Hid (Below W1.heap.size W1 W7) := HB6.out.trans (hb7.mono HB6.out.size)
        have HO7R := Lib.hid (HO6R.out.below hb7 (Nat.le_refl _))
        have HO7S := Lib.hid (HO6S.out.below hb7 (Nat.le_refl _))
        have HO7O := Lib.hid (HO6.out.below hb7 (Nat.le_refl _))
        have HO7 := Lib.hid ho7
        have HC3 := Lib.hid (HC.out.bs W7 HB7.out)
        clear hb7 ho7 HC2 HO6R HO6S HO6
        go_wp2_with fail
        refine HC3.out.mono ?_
        rintro e W8 ⟨⟨g8, rfl, ho8⟩, hb8⟩
        have HB8 : Hid (Below W1.heap.size W1 W8) := HB7.out.trans (hb8.mono HB7.out.size)
        have HO8R := Lib.hid (HO7R.out.below hb8 (Nat.le_refl _))
        have HO8S := Lib.hid (HO7S.out.below hb8 (Nat.le_refl _))
        have HO8O := Lib.hid (HO7O.out.below hb8 (Nat.le_refl _))
        have HO8B := Lib.hid (HO7.out.below hb8 (Nat.le_refl _))
        have HO8 := Lib.hid ho8
        clear hb8 ho8 HC3 HO7R HO7S HO7O HO7
        go_wp2_with fail
        have HBA : Hid (Below W8.heap.size W8 (W8.alloc (.cells #[.int .i64 crew, .int .i64 (crew + 1)] 2))) := (Below.refl _ W8).alloc (Nat.le_refl _) _
        have HB9 : Hid (Below W1.heap.size W1 (W8.alloc (.cells #[.int .i64 crew, .int .i64 (crew + 1)] 2))) := HB8.out.trans (HBA.out.mono HB8.out.size)
        have HI9 : Hid (Ints (W8.alloc (.cells #[.int .i64 crew, .int .i64 (crew + 1)] 2)) (.slice (some ⟨W8.heap.size, 0, none⟩) 2 2) [crew, crew + 1]) := by
          have h := (OwnI.lit W8 W8.heap.size [crew, crew + 1] (Nat.le_refl _) (by unfold maxLen; simp)).ints
          exact h
        refine (HAT.out _ _ _ (HB1.out.trans (HB9.out.mono HB1.out.size)) (by omega) (by omega) (by omega) (by omega)).mono ?_
        rintro e w' ⟨⟨x3, rfl, hx3a, hx3b⟩, rfl⟩
        obtain ⟨wk, hwk⟩ : ∃ c : Int, 1 + x3 = c := ⟨_, rfl⟩
        have hwk1 : 1 ≤ wk ∧ wk ≤ 8 := by omega
        have wc3 : IntKind.i64.wrap (1 + x3) = wk := by rw [hwk]; exact IntWalk.i64_in _ (by omega)
        have HC4 := Lib.hid (HC.out.cs _ wk _ HB9.out HI9.out hwk1.1 hwk1.2)
        clear hwk hx3a hx3b HI9
        go_wp2_with fail
        refine HC4.out.mono ?_
        rintro e W10 ⟨⟨g10, c10, rfl, ho10⟩, hb10⟩
        have hb8 : Below W8.heap.size W8 W10 := HBA.out.trans (hb10.mono (by simp))
        have HB10 : Hid (Below W1.heap.size W1 W10) := HB8.out.trans (hb8.mono HB8.out.size)
        have HO10R := Lib.hid (HO8R.out.below hb8 (Nat.le_refl _))
        have HO10S := Lib.hid (HO8S.out.below hb8 (Nat.le_refl _))
        have HO10O := Lib.hid (HO8O.out.below hb8 (Nat.le_refl _))
        have HO10B := Lib.hid (HO8B.out.below hb8 (Nat.le_refl _))
        have HO10Z := Lib.hid (HO8.out.below hb8 (Nat.le_refl _))
        have HO10 := Lib.hid ho10
        have HC5 := Lib.hid (HC.out.r0 W10 HB10.out)
        clear hb8 hb10 ho10 HC4 HBA HB9 HO8R HO8S HO8O HO8B HO8 wc3 hwk1
        go_wp2_with fail
        refine HC5.out.mono ?_
        rintro e W11 ⟨⟨g11, rfl⟩, hb11⟩
        have HB11 : Hid (Below W1.heap.size W1 W11) := HB10.out.trans (hb11.mono HB10.out.size)
        have HX11 := Lib.hid hb11
        have HC6 := Lib.hid (HC.out.pb W11 HB11.out)
        clear hb11 HC5
        go_wp2_with fail
        refine HC6.out.mono ?_
        rintro e W12 ⟨rfl, hb12⟩
        have HB12 : Hid (Below W1.heap.size W1 W12) := HB11.out.trans (hb12.mono HB11.out.size)
        have HX12 : Hid (Below W10.heap.size W10 W12) := HX11.out.trans (hb12.mono HX11.out.size)
        have HC7 := Lib.hid (HC.out.ps W12 HB12.out)
        clear hb12 HC6
        go_wp2_with fail
        refine HC7.out.mono ?_
        rintro e W13 ⟨⟨xs13, rfl⟩, hb13⟩
        have HB13 : Hid (Below W1.heap.size W1 W13) := HB12.out.trans (hb13.mono HB12.out.size)
        have HX13 : Hid (Below W10.heap.size W10 W13) := HX12.out.trans (hb13.mono HX12.out.size)
        have HIN : Hid (∀ (g N : Nat) (st : List Int) W, OwnI W10 N (.slice (some ⟨g, 0, none⟩) k k) st → Below W10.heap.size W10 W → Ints W (.slice (some ⟨g, 0, none⟩) k k) st) := fun g N st W h hb => (h.below hb (Nat.le_refl _)).ints
        have HQ1 : Hid (∀ W, Below W10.heap.size W10 W → Calls Try.prog 17 #[.slice (some ⟨g2', 0, none⟩) k k, .slice (some ⟨g3, 0, none⟩) k k] W fun e w' => e = .returned (.bool true) ∧ Below W.heap.size W w') := fun W hW => by
          have h := b10Ints_any _ _ stR stR W (HIN.out _ _ _ _ HO10R.out hW) (HIN.out _ _ _ _ HO10S.out hW)
          rwa [show (stR == stR) = true from by simp] at h
        have HQ2 : Hid (∀ W, Below W10.heap.size W10 W → Calls Try.prog 17 #[.slice (some ⟨g7, 0, none⟩) k k, .slice (some ⟨g8, 0, none⟩) k k] W fun e w' => e = .returned (.bool true) ∧ Below W.heap.size W w') := fun W hW => by
          have h := b10Ints_any _ _ stB stB W (HIN.out _ _ _ _ HO10B.out hW) (HIN.out _ _ _ _ HO10Z.out hW)
          rwa [show (stB == stB) = true from by simp] at h
        clear hb13 HC7 HX11 HX12 HB11 HB12 HB5 HB6 HB7 HB8 HB2 HB3
        obtain ⟨ez, hez⟩ : ∃ ez, endR ts 0 crew = ez := ⟨_, rfl⟩
        have HZC : Hid (∀ W, Below W10.heap.size W10 W → W.cell? ⟨g10, 0, none⟩ = some (.int .i64 ez)) := fun W hW => by
          have h := (HO10.out.below hW (Nat.le_refl _)).at_ rfl 0 (by simp)
          rw [← hez]
          exact h
        rw [hez]
        clear hez
        have hxe : an = false → ¬ (eB : Int) < X := fun h => by have := HC.out.bd h; omega
        have hpf : ∀ W, Below W10.heap.size W10 W → Below W1.heap.size W1 W := fun W h => HB10.out.trans (h.mono HB10.out.size)
        have HPF := Lib.hid hpf
        have HSM := Lib.hid (tasks_sm (drawn_ok HDR.out (by rw [HLN.out]; exact h1) (by rw [HLN.out]; omega)))
        have HWB : Hid (∀ j, j ≤ k → 0 ≤ workTo ts j ∧ workTo ts j ≤ 2000 * (j : Int)) := fun j hj => workTo_bounds HSM.out j (by rw [HLN.out]; exact hj)
        clear hpf HO10S HO10Z HB HB13
        cases an <;> (
        try have hx0 := hxe rfl
        clear hxe
        go_wp2_with fail
        refine (HQ1.out W13 HX13.out).mono ?_
        rintro e W14 ⟨rfl, hb14⟩
        have HX14 : Hid (Below W10.heap.size W10 W14) := HX13.out.trans (hb14.mono HX13.out.size)
        clear hb14
        go_wp2_with fail
        refine (HQ2.out W14 HX14.out).mono ?_
        rintro e W15 ⟨rfl, hb15⟩
        have HX15 : Hid (Below W10.heap.size W10 W15) := HX14.out.trans (hb15.mono HX14.out.size)
        have cz := HZC.out W15 HX15.out
        clear hb15 HQ1 HQ2 HZC
        go_wp2_with fail
        refine (HC.out.ic _ stR W15 (.inl rfl) (HPF.out _ HX15.out) (HIN.out _ _ _ W15 HO10R.out HX15.out)).mono ?_
        rintro e W16 ⟨rfl, hb16⟩
        have HX16 : Hid (Below W10.heap.size W10 W16) := HX15.out.trans (hb16.mono HX15.out.size)
        clear hb16 cz HX13 HX14
        go_wp2_with fail
        refine (HC.out.ic _ stO W16 (.inr (.inl rfl)) (HPF.out _ HX16.out) (HIN.out _ _ _ W16 HO10O.out HX16.out)).mono ?_
        rintro e W17 ⟨rfl, hb17⟩
        have HX17 : Hid (Below W10.heap.size W10 W17) := HX16.out.trans (hb17.mono HX16.out.size)
        clear hb17
        go_wp2_with fail
        refine (HC.out.ic _ stB W17 (.inr (.inr rfl)) (HPF.out _ HX17.out) (HIN.out _ _ _ W17 HO10B.out HX17.out)).mono ?_
        rintro e W18 ⟨rfl, hb18⟩
        have HX18 : Hid (Below W10.heap.size W10 W18) := HX17.out.trans (hb18.mono HX17.out.size)
        clear hb18
        go_wp2_with fail
        refine (HC.out.cu _ W18 (HPF.out _ HX18.out) (HIN.out _ _ _ W18 HO10B.out HX18.out)).mono ?_
        rintro e W19 ⟨⟨aU, cU, rfl, ho19⟩, hb19⟩
        have HX19 : Hid (Below W10.heap.size W10 W19) := HX18.out.trans (hb19.mono HX18.out.size)
        have HU : Hid (∀ m q, q < eB → ∃ b o, aU = some ⟨b, o, none⟩ ∧ (W19.drewN m).cell? ⟨b, o + q, none⟩ = some (.int .i64 (useN ts stB (q : Int) k))) := fun m q hq => by
          obtain ⟨_, a', c', hv', _, hcell⟩ := (ho19.drewN m).ints
          have hl := useL_len ts stB eB k
          obtain ⟨b', o', ha', _, hc'⟩ := hcell q (by rw [hl]; exact hq)
          rw [hl] at hv'
          injection hv' with u1 u2 u3
          exact ⟨b', o', by rw [u1]; exact ha', by rw [hc', ← nth_eq, useL_nth hq]⟩
        have HW0 : Hid (WkR ts k W19 (.int .i64 0) (.int .i64 0) W19) := ⟨0, 0, Nat.zero_le _, rfl, rfl, rfl⟩
        clear hb19 ho19 HX15 HX16 HX17 HX18 HO10R HO10O HO10
        go_wp2_with fail
        go_loopw [37, 257] (fun vs vk wr => WkR ts k W19 vs vk wr) (fun _ vk _ => k - (intOf vk).toNat)
        case atStart => exact HW0.out
        case round =>
          obtain ⟨j, m, hj, rfl, rfl, rfl⟩ := hrel
          clear HW0
          by_cases hjk : j < k
          · have j0 : (0 : Int) ≤ (j : Int) := by omega
            have j1 : (j : Int) < (k : Int) := by omega
            have hc := HV.out W19 (HPF.out _ HX19.out) j (by rw [HLN.out]; exact hjk)
            have c0 := hc.time
            have c1 := hc.need
            have htb := HSM.out.time j (by rw [HLN.out]; exact hjk)
            have hnb := HSM.out.need j (by rw [HLN.out]; exact hjk)
            have hwb := HWB.out j hj
            have HST : Hid (workTo ts (j + 1) = workTo ts j + timeN ts j * needN ts j) := rfl
            obtain ⟨tm, htm⟩ : ∃ x, timeN ts j = x := ⟨_, rfl⟩
            obtain ⟨nd, hnd⟩ : ∃ x, needN ts j = x := ⟨_, rfl⟩
            obtain ⟨Y, hY⟩ : ∃ x, workTo ts j = x := ⟨_, rfl⟩
            rw [htm, hnd, hY] at HST
            rw [show (tkN ts j).1 = tm from htm] at c0
            rw [show (tkN ts j).2.1 = nd from hnd] at c1
            rw [htm] at htb
            rw [hnd] at hnb
            rw [hY] at hwb ⊢
            have hmul : 0 ≤ tm * nd ∧ tm * nd ≤ 2000 := ⟨Int.mul_nonneg htb.1 hnb.1, Int.mul_le_mul htb.2 hnb.2 hnb.1 (by omega)⟩
            have w9 : IntKind.i64.wrap (tm * nd) = tm * nd := IntWalk.i64_in _ (by omega)
            have w8 : IntKind.i64.wrap (Y + tm * nd) = Y + tm * nd := IntWalk.i64_in _ (by omega)
            clear hc htm hnd hY hmul
            go_wp2
            go_quiet (fail)
            go_wp2
            go_roundw
            case rel => exact ⟨j + 1, _, by omega, by go_num, by rw [HST.out], rfl⟩
            case measure => simp [intOf]; omega
          · obtain rfl : j = k := by omega
            have HSB0 : Hid (SbR (fun t => useN ts stB (t : Int) j) (workTo ts j) eB W19 (.int .i64 (workTo ts j)) (.int .i64 0) (W19.drewN m)) := ⟨0, m, Nat.zero_le _, rfl, by simp [sumF], rfl⟩
            have hus := HC.out.okB.use
            have hsm := HC.out.okB.sum
            have he4 := HC.out.okB.e4
            rw [HLN.out] at hus hsm
            obtain ⟨f, hf⟩ : ∃ f : Nat → Int, (fun t : Nat => useN ts stB (t : Int) j) = f := ⟨_, rfl⟩
            have hfx : ∀ q : Nat, useN ts stB (q : Int) j = f q := fun q => by rw [← hf]
            have hus2 : ∀ q : Nat, q < eB → 0 ≤ f q ∧ f q ≤ crew := fun q hq => by rw [← hf]; exact hus q hq
            have HFB : Hid (∀ q : Nat, q < eB → 0 ≤ f q ∧ f q ≤ crew) := hus2
            have HSBB : Hid (∀ q : Nat, q ≤ eB → 0 ≤ sumF f q ∧ sumF f q ≤ 2400) := fun q hq => by
              have h2 := sumF_le (f := f) q (fun t ht => (hus2 t (by omega)).2)
              have h3 : crew * (q : Int) ≤ 6 * 400 := Int.mul_le_mul hcr1.2 (by omega) (by omega) (by omega)
              exact ⟨sumF_nn q (fun t ht => (hus2 t (by omega)).1), by omega⟩
            have HU2 : Hid (∀ m q, q < eB → ∃ b o, aU = some ⟨b, o, none⟩ ∧ (W19.drewN m).cell? ⟨b, o + q, none⟩ = some (.int .i64 (f q))) := fun m q hq => by
              have h := HU.out m q hq
              rwa [hfx] at h
            have hwt := HWB.out j (Nat.le_refl _)
            rw [hf] at hsm HSB0
            obtain ⟨A, hA⟩ : ∃ A, workTo ts j = A := ⟨_, rfl⟩
            rw [hA] at hsm HSB0 hwt ⊢
            have HSE : Hid (A - sumF f eB = 0) := by show _ = _; omega
            have HFC := Lib.hid hcr1
            clear hus hsm hf hfx hus2 HU hA
            go_wp2
            go_loopw [37, 276] (fun vs vk wr => SbR f A eB W19 vs vk wr) (fun _ vk _ => eB - (intOf vk).toNat)
            case atStart => exact HSB0.out
            case round =>
              obtain ⟨q, n, hq, rfl, rfl, rfl⟩ := hrel
              clear HSB0
              by_cases hqe : q < eB
              · obtain ⟨b2, o2, rfl, cu⟩ := HU2.out n q hqe
                have q0 : (0 : Int) ≤ (q : Int) := by omega
                have q1 : (q : Int) < (eB : Int) := by omega
                have hfq := HFB.out q hqe
                have hsq := HSBB.out q hq
                have HST : Hid (sumF f (q + 1) = sumF f q + f q) := rfl
                obtain ⟨x, hx⟩ : ∃ x, f q = x := ⟨_, rfl⟩
                obtain ⟨Y, hY⟩ : ∃ x, A - sumF f q = x := ⟨_, rfl⟩
                have HST2 : Hid (A - sumF f (q + 1) = Y - x) := by show _ = _; rw [HST.out, ← hx, ← hY]; omega
                rw [hx] at cu hfq
                have hYb : -2400 ≤ Y ∧ Y ≤ 2000 * (j : Int) := by omega
                rw [hY]
                have n1 : ¬ x < 0 := by omega
                have n2 : ¬ crew < x := by omega
                have w9 : IntKind.i64.wrap (Y - x) = Y - x := IntWalk.i64_in _ (by omega)
                clear hx hY HST
                go_wp2
                go_roundw
                case rel => exact ⟨q + 1, n, by omega, by go_num, by rw [HST2.out], rfl⟩
                case measure => simp [intOf]; omega
              · obtain rfl : q = eB := by omega
                rw [HSE.out]
                have HXF : Hid (Below W10.heap.size W10 (W19.drewN n)) := below_drewN n HX19.out
                have HG1 := Lib.hid (HC.out.pg _ _ (HPF.out _ HXF.out) (HIN.out _ _ _ _ HO10B.out HXF.out))
                obtain ⟨AL', hAL'⟩ : ∃ x, allTo ts j = x := ⟨_, rfl⟩
                rw [hAL'] at HG1
                go_wp2_with fail
                refine HG1.out.mono ?_
                rintro e W21 ⟨rfl, hb21⟩
                have HX21 : Hid (Below W10.heap.size W10 W21) := HXF.out.trans (hb21.mono HXF.out.size)
                have HG2 := Lib.hid (HC.out.p0 _ _ (HPF.out _ HX21.out) (HIN.out _ _ _ _ HO10B.out HX21.out))
                clear hb21 HG1
                go_wp2_with fail
                refine HG2.out.mono ?_
                rintro e W22 ⟨rfl, hb22⟩
                have HBF : Hid (Below w.heap.size w W22) := HB1.out.trans ((HPF.out _ (HX21.out.trans (hb22.mono HX21.out.size))).mono HB1.out.size)
                clear hb22 HG2
                go_wp2
                go_ret
                exact ⟨rfl, HBF.out⟩
        )
  · go_enter Try.func3, Try.ntmps3
    go_wp2_with fail
    refine (b10Long_any _ _ xs ys _ hv0 hv1).mono ?_
    rintro e w' ⟨rfl, rfl⟩
    rw [hlong]
    go_wp2
    go_ret
    exact ⟨rfl, Below.refl _ _⟩
end Go.Proofs.Ytcjeededlhdcbaa
