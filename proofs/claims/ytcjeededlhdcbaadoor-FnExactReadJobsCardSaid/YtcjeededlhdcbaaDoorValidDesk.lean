
/- ValidDesk, program and reference: one plain test. Conditions: none. -/
import Derived.Test.YtcjeededlhdcbaaDoorValidParts
import Derived.Deep.RegionWith
namespace Go.Proofs.YtcjeededlhdcbaaDoor
open Go.RowKit Go.BigFrame
set_option linter.unusedVariables false
set_option linter.unusedSimpArgs false

theorem all16 {cs : List Int} (h : many cs 1 8 0 16 = true) : (cs.all fun n => win n 0 16) = true ∧ cs.length ≤ 8 := by
  obtain ⟨h1, h2, h3⟩ := many_true.1 h
  exact ⟨h3, by omega⟩
theorem counts_bad {cs : List Int} {k : Nat} (h : k < cs.length) (hb : win (nth cs k) 0 16 = false) : countsOk cs = false := by
  have : many cs 1 8 0 16 = false := by
    unfold many
    have : (cs.all fun n => win n 0 16) = false := by rw [List.all_eq_false]; exact ⟨cs[k], List.getElem_mem h, by rw [← nth_eq h, hb]; simp⟩
    rw [this]; simp
  unfold countsOk; rw [this]; rfl
theorem counts_end {cs : List Int} (h : ∀ k, k < cs.length → win (nth cs k) 0 16 = true) : (cs.all fun n => win n 0 16) = true ∧ countsOk cs = (decide (1 ≤ cs.length) && decide (cs.length ≤ 8) && win cs.sum 1 64) := by
  have : (cs.all fun n => win n 0 16) = true := by
    rw [List.all_eq_true]
    intro x hx
    obtain ⟨k, hk, rfl⟩ := List.mem_iff_getElem.1 hx
    rw [← nth_eq hk]; exact h k hk
  refine ⟨this, ?_⟩
  unfold countsOk many
  rw [this, Bool.and_true]
  congr 2
  · congr 1; simp; omega
  · simp; omega
/-! Jobs. -/
def jobOk (j : Jb) : Bool := win j.1 1 10000 && win j.2.1 0 10000 && win j.2.2.1 0 10000 && win j.2.2.2 0 10000
def jobsOk (js : List Jb) : Bool := js.all jobOk && decide (1 ≤ js.length) && decide (js.length ≤ 24)
theorem jobs_bad {js : List Jb} {k : Nat} (h : k < js.length) (hb : jobOk js[k] = false) : jobsOk js = false := by
  unfold jobsOk
  have : js.all jobOk = false := by rw [List.all_eq_false]; exact ⟨js[k], List.getElem_mem h, by rw [hb]; simp⟩
  rw [this]; rfl
theorem jobs_end {js : List Jb} (h : ∀ k (hk : k < js.length), jobOk js[k] = true) : jobsOk js = (decide (1 ≤ js.length) && decide (js.length ≤ 24)) := by
  unfold jobsOk
  have : js.all jobOk = true := by
    rw [List.all_eq_true]; intro x hx
    obtain ⟨k, hk, rfl⟩ := List.mem_iff_getElem.1 hx
    exact h k hk
  rw [this]; rfl
set_option maxHeartbeats 2000000 in
theorem areJobs_any (v : Value) (js : List Jb) (w : World) (hv : Jobs w v js) : Calls Tryd.prog 31 #[v] w fun e w' => e = .returned (.bool (jobsOk js)) ∧ Below w.heap.size w w' := by
  have hm := hv.1
  unfold maxLen at hm
  obtain ⟨a, c, rfl, hcap, hc⟩ := hv.at_
  have HC := Lib.hid hc
  have HBAD : Hid (∀ k (h : k < js.length), jobOk js[k] = false → jobsOk js = false) := fun k hk h => jobs_bad hk h
  have HEND : Hid ((∀ k (hk : k < js.length), jobOk js[k] = true) → jobsOk js = (decide (1 ≤ js.length) && decide (js.length ≤ 24))) := jobs_end
  clear hc hv
  go_enter Tryd.func31, Tryd.ntmps31
  go_wp2
  go_loopw [7] (fun i wr => ∃ k : Nat, k ≤ js.length ∧ i = .int .i64 k ∧ Below w.heap.size w wr ∧ Hid (∀ j (hj : j < js.length), j < k → jobOk js[j] = true)) (fun i _ => js.length - (intOf i).toNat)
  case atStart => exact ⟨0, Nat.zero_le _, rfl, Below.refl _ _, fun j hj h => by omega⟩
  case round =>
    obtain ⟨k, hk, rfl, hB, hok⟩ := hrel
    obtain ⟨wr', rfl⟩ : ∃ wr' : World, wr' = wr := ⟨_, rfl⟩
    by_cases hlt : k < js.length
    · obtain ⟨b, o, rfl, hbs, g0, g1, g2, g3⟩ := HC.out k hlt
      have c0 := (hB.cell (p := ⟨b, o + k * 4, none⟩) hbs).trans g0
      have c1 := (hB.cell (p := ⟨b, o + k * 4 + 1, none⟩) hbs).trans g1
      have c2 := (hB.cell (p := ⟨b, o + k * 4 + 2, none⟩) hbs).trans g2
      have c3 := (hB.cell (p := ⟨b, o + k * 4 + 3, none⟩) hbs).trans g3
      have HX : Hid (jobOk js[k] = (win js[k].1 1 10000 && win js[k].2.1 0 10000 && win js[k].2.2.1 0 10000 && win js[k].2.2.2 0 10000)) := rfl
      have HBD := Lib.hid (HBAD.out k hlt)
      have HOK : Hid (jobOk js[k] = true → ∀ j (hj : j < js.length), j < k + 1 → jobOk js[j] = true) := fun h j hj h1 => by
        rcases Nat.lt_succ_iff_lt_or_eq.1 h1 with h2 | rfl
        · exact hok.out j hj h2
        · exact h
      obtain ⟨Y, hY⟩ : ∃ Y, jobOk js[k] = Y := ⟨_, rfl⟩
      rw [hY] at HX HBD HOK
      obtain ⟨x0, hx0⟩ : ∃ z, js[k].1 = z := ⟨_, rfl⟩
      obtain ⟨x1, hx1⟩ : ∃ z, js[k].2.1 = z := ⟨_, rfl⟩
      obtain ⟨x2, hx2⟩ : ∃ z, js[k].2.2.1 = z := ⟨_, rfl⟩
      obtain ⟨x3, hx3⟩ : ∃ z, js[k].2.2.2 = z := ⟨_, rfl⟩
      rw [hx0] at c0 HX
      rw [hx1] at c1 HX
      rw [hx2] at c2 HX
      rw [hx3] at c3 HX
      have k0 : (0 : Int) ≤ (k : Int) := by omega
      have k1 : (k : Int) < (js.length : Int) := by omega
      have HB := Lib.hid hB
      have HBA : Hid (Below w.heap.size w (wr'.alloc (.cells #[.int .i64 x0, .int .i64 x1, .int .i64 x2, .int .i64 x3] 60))) := hB.alloc hB.size _
      have HAW : Hid (Calls Tryd.prog 53 #[.slice (some ⟨wr'.heap.size + 1, 0, none⟩) 3 3, .int .i64 0, .int .i64 10000] ((wr'.alloc (.cells #[.int .i64 x0, .int .i64 x1, .int .i64 x2, .int .i64 x3] 60)).alloc (.cells #[.int .i64 x1, .int .i64 x2, .int .i64 x3] 2)) fun e w' => e = .returned (.bool (win x1 0 10000 && win x2 0 10000 && win x3 0 10000)) ∧ ((wr'.alloc (.cells #[.int .i64 x0, .int .i64 x1, .int .i64 x2, .int .i64 x3] 60)).alloc (.cells #[.int .i64 x1, .int .i64 x2, .int .i64 x3] 2)) = w') := by
        refine Lib.hid ?_
        have hl := OwnI.lit (wr'.alloc (.cells #[.int .i64 x0, .int .i64 x1, .int .i64 x2, .int .i64 x3] 60)) 0 [x1, x2, x3] (Nat.zero_le _) (by unfold maxLen; simp)
        have := areWithin_any _ [x1, x2, x3] 0 10000 _ hl.ints
        simpa [Bool.and_assoc] using this
      clear hx0 hx1 hx2 hx3 g0 g1 g2 g3 hB hok hY
      cases z0 : win x0 1 10000
      · have hYf : Y = false := by rw [HX.out, z0]; rfl
        have HF := Lib.hid (HBD.out hYf)
        clear hYf
        go_wp2_with (first | (go_at_call 37; refine (within_any _ _ _ _).mono ?_; rintro e w' ⟨rfl, rfl⟩) | (go_at_call 53; refine HAW.out.mono ?_; rintro e w' ⟨rfl, rfl⟩))
        go_ret
        exact ⟨ret_bool HF.out.symm, HBA.out⟩
      · obtain ⟨q, hq⟩ : ∃ q, (win x1 0 10000 && win x2 0 10000 && win x3 0 10000) = q := ⟨_, rfl⟩
        have hYq : Y = q := by rw [HX.out, z0, ← hq]; simp [Bool.and_assoc]
        rw [hq] at HAW
        clear hq
        cases q
        · have HF := Lib.hid (HBD.out hYq)
          clear hYq
          go_wp2_with (first | (go_at_call 37; refine (within_any _ _ _ _).mono ?_; rintro e w' ⟨rfl, rfl⟩) | (go_at_call 53; refine HAW.out.mono ?_; rintro e w' ⟨rfl, rfl⟩))
          go_ret
          exact ⟨ret_bool HF.out.symm, HBA.out.alloc HBA.out.size _⟩
        · have HF := Lib.hid (HOK.out hYq)
          clear hYq
          go_wp2_with (first | (go_at_call 37; refine (within_any _ _ _ _).mono ?_; rintro e w' ⟨rfl, rfl⟩) | (go_at_call 53; refine HAW.out.mono ?_; rintro e w' ⟨rfl, rfl⟩))
          go_roundw
          case rel => exact ⟨k + 1, by omega, by go_num, HBA.out.alloc HBA.out.size _, HF.out⟩
          case measure => simp [intOf]; omega
    · have HE := Lib.hid (HEND.out fun j hj => hok.out j hj (by omega))
      clear hok
      by_cases h1 : 1 ≤ js.length
      · go_wp2
        go_ret
        exact ⟨ret_bool (by rw [HE.out]; simp [h1]; omega), hB⟩
      · have hd : decide ((1 : Int) ≤ (js.length : Int)) = false := by simp; omega
        go_wp2
        go_ret
        exact ⟨ret_bool (by rw [HE.out]; simp [h1]), hB⟩
set_option maxHeartbeats 2000000 in
theorem l02Job_any (b o : Nat) (x0 x1 x2 x3 : Int) (w : World) (c0 : w.cell? ⟨b, o, none⟩ = some (.int .i64 x0)) (c1 : w.cell? ⟨b, o + 1, none⟩ = some (.int .i64 x1)) (c2 : w.cell? ⟨b, o + 2, none⟩ = some (.int .i64 x2)) (c3 : w.cell? ⟨b, o + 3, none⟩ = some (.int .i64 x3)) :
    Calls Tryd.prog 61 #[.pointer (some ⟨b, o, none⟩)] w fun e w' => e = .returned (.bool (jobOk (x0, x1, x2, x3))) ∧ w = w' := by
  have HX : Hid (jobOk (x0, x1, x2, x3) = (win x0 1 10000 && win x1 0 10000 && win x2 0 10000 && win x3 0 10000)) := rfl
  cases z0 : win x0 1 10000
  · have HF : Hid (jobOk (x0, x1, x2, x3) = false) := by show _ = _; rw [HX.out, z0]; rfl
    go_enter Tryd.func61, Tryd.ntmps61
    go_wp2_with (go_at_call 58; refine (l00In_any _ _ _ _).mono ?_; rintro e w' ⟨rfl, rfl⟩)
    go_ret
    exact ⟨ret_bool HF.out.symm, rfl⟩
  · cases z1 : win x1 0 10000
    · have HF : Hid (jobOk (x0, x1, x2, x3) = false) := by show _ = _; rw [HX.out, z0, z1]; rfl
      go_enter Tryd.func61, Tryd.ntmps61
      go_wp2_with (go_at_call 58; refine (l00In_any _ _ _ _).mono ?_; rintro e w' ⟨rfl, rfl⟩)
      go_ret
      exact ⟨ret_bool HF.out.symm, rfl⟩
    · cases z2 : win x2 0 10000
      · have HF : Hid (jobOk (x0, x1, x2, x3) = false) := by show _ = _; rw [HX.out, z0, z1, z2]; rfl
        go_enter Tryd.func61, Tryd.ntmps61
        go_wp2_with (go_at_call 58; refine (l00In_any _ _ _ _).mono ?_; rintro e w' ⟨rfl, rfl⟩)
        go_ret
        exact ⟨ret_bool HF.out.symm, rfl⟩
      · have HF : Hid (jobOk (x0, x1, x2, x3) = win x3 0 10000) := by show _ = _; rw [HX.out, z0, z1, z2]; rfl
        go_enter Tryd.func61, Tryd.ntmps61
        go_wp2_with (go_at_call 58; refine (l00In_any _ _ _ _).mono ?_; rintro e w' ⟨rfl, rfl⟩)
        go_ret
        exact ⟨ret_bool HF.out.symm, rfl⟩

set_option maxHeartbeats 2000000 in
theorem l02Jobs_any (v : Value) (js : List Jb) (w : World) (hv : Jobs w v js) : Calls Tryd.prog 51 #[v] w fun e w' => e = .returned (.bool (jobsOk js)) ∧ w = w' := by
  have hm := hv.1
  unfold maxLen at hm
  obtain ⟨a, c, rfl, hcap, hc⟩ := hv.at_
  have HC := Lib.hid hc
  have HBAD : Hid (∀ k (h : k < js.length), jobOk js[k] = false → jobsOk js = false) := fun k hk h => jobs_bad hk h
  have HEND : Hid ((∀ k (hk : k < js.length), jobOk js[k] = true) → jobsOk js = (decide (1 ≤ js.length) && decide (js.length ≤ 24))) := jobs_end
  clear hc hv
  go_enter Tryd.func51, Tryd.ntmps51
  go_wp2
  go_loop [3] (fun i => ∃ k : Nat, k ≤ js.length ∧ i = .int .i64 k ∧ Hid (∀ j (hj : j < js.length), j < k → jobOk js[j] = true)) (fun i => js.length - (intOf i).toNat)
  case atStart => exact ⟨0, Nat.zero_le _, rfl, fun j hj h => by omega⟩
  case round =>
    obtain ⟨k, hk, rfl, hok⟩ := hrel
    by_cases hlt : k < js.length
    · obtain ⟨b, o, rfl, hbs, g0, g1, g2, g3⟩ := HC.out k hlt
      have hcall := l02Job_any b (o + k * 4) _ _ _ _ w g0 g1 g2 g3
      have HBD := Lib.hid (HBAD.out k hlt)
      have HOK : Hid (jobOk js[k] = true → ∀ j (hj : j < js.length), j < k + 1 → jobOk js[j] = true) := fun h j hj h1 => by
        rcases Nat.lt_succ_iff_lt_or_eq.1 h1 with h2 | rfl
        · exact hok.out j hj h2
        · exact h
      rw [show (js[k].1, js[k].2.1, js[k].2.2.1, js[k].2.2.2) = js[k] from rfl] at hcall
      obtain ⟨Y, hY⟩ : ∃ Y, jobOk js[k] = Y := ⟨_, rfl⟩
      rw [hY] at hcall HBD HOK
      have k0 : (0 : Int) ≤ (k : Int) := by omega
      have k1 : (k : Int) < (js.length : Int) := by omega
      have HCALL := Lib.hid hcall
      clear hcall g0 g1 g2 g3 hok hY
      cases Y
      · have HF := Lib.hid (HBD.out rfl)
        go_wp2_with (go_at_call 61; refine HCALL.out.mono ?_; rintro e w' ⟨rfl, rfl⟩)
        go_ret
        exact ⟨ret_bool HF.out.symm, rfl⟩
      · have HF := Lib.hid (HOK.out rfl)
        go_wp2_with (go_at_call 61; refine HCALL.out.mono ?_; rintro e w' ⟨rfl, rfl⟩)
        go_round
        case rel => exact ⟨k + 1, by omega, by go_num, HF.out⟩
        case measure => simp [intOf]; omega
    · have HE := Lib.hid (HEND.out fun j hj => hok.out j hj (by omega))
      clear hok
      by_cases h1 : 1 ≤ js.length
      · go_wp2
        go_ret
        exact ⟨ret_bool (by rw [HE.out]; simp [h1]; omega), rfl⟩
      · have hd : decide ((1 : Int) ≤ (js.length : Int)) = false := by simp; omega
        go_wp2
        go_ret
        exact ⟨ret_bool (by rw [HE.out]; simp [h1]), rfl⟩

/-! Rules. -/
def ruleOk (r : Rl) : Bool := win r.1 1 24 && win r.2.1 0 r.2.2.1 && decide (r.2.2.1 ≤ r.1) && win r.2.2.2.1 1 r.1 && win r.2.2.2.2 1 r.1
theorem ruleOk_spec (a0 a1 a2 a3 a4 : Int) : ruleOk (a0, a1, a2, a3, a4) = (win a0 1 24 && win a2 0 a0 && win a1 0 a2 && win a3 1 a0 && win a4 1 a0) := by
  unfold ruleOk win
  rw [Bool.eq_iff_iff]
  simp only [Bool.and_eq_true, decide_eq_true_eq]
  omega
set_option maxHeartbeats 4000000 in
theorem validRule_any (a0 a1 a2 a3 a4 : Int) (w : World) :
    Calls Tryd.prog 20 #[.agg #[.int .i64 a0, .int .i64 a1, .int .i64 a2, .int .i64 a3, .int .i64 a4]] w fun e w' => e = .returned (.bool (ruleOk (a0, a1, a2, a3, a4))) ∧ Below w.heap.size w w' := by
  have HX : Hid (ruleOk (a0, a1, a2, a3, a4) = (win a0 1 24 && win a1 0 a2 && decide (a2 ≤ a0) && win a3 1 a0 && win a4 1 a0)) := rfl
  have HB : Hid (Below w.heap.size w (w.alloc (.cells #[.int .i64 a0, .int .i64 a1, .int .i64 a2, .int .i64 a3, .int .i64 a4] 23))) := (Below.refl _ w).alloc (Nat.le_refl _) _
  cases z0 : win a0 1 24
  · have HF : Hid (ruleOk (a0, a1, a2, a3, a4) = false) := by show _ = _; rw [HX.out, z0]; rfl
    go_enter Tryd.func20, Tryd.ntmps20
    go_wp2_with (go_at_call 37; refine (within_any _ _ _ _).mono ?_; rintro e w' ⟨rfl, rfl⟩)
    go_ret
    exact ⟨ret_bool HF.out.symm, HB.out⟩
  · cases z1 : win a1 0 a2
    · have HF : Hid (ruleOk (a0, a1, a2, a3, a4) = false) := by show _ = _; rw [HX.out, z0, z1]; rfl
      go_enter Tryd.func20, Tryd.ntmps20
      go_wp2_with (go_at_call 37; refine (within_any _ _ _ _).mono ?_; rintro e w' ⟨rfl, rfl⟩)
      go_ret
      exact ⟨ret_bool HF.out.symm, HB.out⟩
    · cases z2 : decide (a2 ≤ a0)
      · have HF : Hid (ruleOk (a0, a1, a2, a3, a4) = false) := by show _ = _; rw [HX.out, z0, z1, z2]; rfl
        go_enter Tryd.func20, Tryd.ntmps20
        go_wp2_with (go_at_call 37; refine (within_any _ _ _ _).mono ?_; rintro e w' ⟨rfl, rfl⟩)
        go_ret
        exact ⟨ret_bool HF.out.symm, HB.out⟩
      · have q2 : a2 ≤ a0 := by simpa using z2
        cases z3 : win a3 1 a0
        · have HF : Hid (ruleOk (a0, a1, a2, a3, a4) = false) := by show _ = _; rw [HX.out, z0, z1, z2, z3]; rfl
          go_enter Tryd.func20, Tryd.ntmps20
          go_wp2_with (go_at_call 37; refine (within_any _ _ _ _).mono ?_; rintro e w' ⟨rfl, rfl⟩)
          go_ret
          exact ⟨ret_bool HF.out.symm, HB.out⟩
        · have HF : Hid (ruleOk (a0, a1, a2, a3, a4) = win a4 1 a0) := by show _ = _; rw [HX.out, z0, z1, z2, z3]; rfl
          go_enter Tryd.func20, Tryd.ntmps20
          go_wp2_with (go_at_call 37; refine (within_any _ _ _ _).mono ?_; rintro e w' ⟨rfl, rfl⟩)
          go_ret
          exact ⟨ret_bool HF.out.symm, HB.out⟩
set_option maxHeartbeats 4000000 in
theorem l06Is_any (b o : Nat) (a0 a1 a2 a3 a4 : Int) (w : World) (c0 : w.cell? ⟨b, o, none⟩ = some (.int .i64 a0)) (c1 : w.cell? ⟨b, o + 1, none⟩ = some (.int .i64 a1)) (c2 : w.cell? ⟨b, o + 2, none⟩ = some (.int .i64 a2)) (c3 : w.cell? ⟨b, o + 3, none⟩ = some (.int .i64 a3)) (c4 : w.cell? ⟨b, o + 4, none⟩ = some (.int .i64 a4)) :
    Calls Tryd.prog 48 #[.pointer (some ⟨b, o, none⟩)] w fun e w' => e = .returned (.bool (ruleOk (a0, a1, a2, a3, a4))) ∧ ∃ q, w' = w.drewN q := by
  have HX := Lib.hid (ruleOk_spec a0 a1 a2 a3 a4)
  have H0 : Hid (∀ W, Calls Tryd.prog 58 #[.int .i64 a0, .int .i64 1, .int .i64 24] W fun e w' => e = .returned (.bool (win a0 1 24)) ∧ W = w') := fun W => l00In_any _ _ _ W
  have H1 : Hid (∀ W, Calls Tryd.prog 58 #[.int .i64 a2, .int .i64 0, .int .i64 a0] W fun e w' => e = .returned (.bool (win a2 0 a0)) ∧ W = w') := fun W => l00In_any _ _ _ W
  have H2 : Hid (∀ W, Calls Tryd.prog 58 #[.int .i64 a1, .int .i64 0, .int .i64 a2] W fun e w' => e = .returned (.bool (win a1 0 a2)) ∧ W = w') := fun W => l00In_any _ _ _ W
  have H3 : Hid (∀ W, Calls Tryd.prog 58 #[.int .i64 a3, .int .i64 1, .int .i64 a0] W fun e w' => e = .returned (.bool (win a3 1 a0)) ∧ W = w') := fun W => l00In_any _ _ _ W
  have H4 : Hid (∀ W, Calls Tryd.prog 58 #[.int .i64 a4, .int .i64 1, .int .i64 a0] W fun e w' => e = .returned (.bool (win a4 1 a0)) ∧ W = w') := fun W => l00In_any _ _ _ W
  obtain ⟨e0, h0⟩ : ∃ e, win a0 1 24 = e := ⟨_, rfl⟩
  obtain ⟨e1, h1⟩ : ∃ e, win a2 0 a0 = e := ⟨_, rfl⟩
  obtain ⟨e2, h2⟩ : ∃ e, win a1 0 a2 = e := ⟨_, rfl⟩
  obtain ⟨e3, h3⟩ : ∃ e, win a3 1 a0 = e := ⟨_, rfl⟩
  obtain ⟨e4, h4⟩ : ∃ e, win a4 1 a0 = e := ⟨_, rfl⟩
  rw [h0] at HX H0
  rw [h1] at HX H1
  rw [h2] at HX H2
  rw [h3] at HX H3
  rw [h4] at HX H4
  clear h0 h1 h2 h3 h4
  cases e0
  · have HF := Lib.hid HX.out
    clear HX
    go_enter Tryd.func48, Tryd.ntmps48
    go_wp2_with fail
    go_quiet ((first | (go_at_call_of 58 a1; exact quiet_eq (H2.out _)) | (go_at_call_of 58 (24 : Int); exact quiet_eq (H0.out _)) | (go_at_call_of 58 a3; exact quiet_eq (H3.out _)) | (go_at_call_of 58 a4; exact quiet_eq (H4.out _)) | (go_at_call_of 58 a2; exact quiet_eq (H1.out _))))
    go_wp2
    go_ret
    exact ⟨ret_bool HF.out.symm, _, rfl⟩
  · skip
    cases e1
    · have HF := Lib.hid HX.out
      clear HX
      go_enter Tryd.func48, Tryd.ntmps48
      go_wp2_with fail
      go_quiet ((first | (go_at_call_of 58 a1; exact quiet_eq (H2.out _)) | (go_at_call_of 58 (24 : Int); exact quiet_eq (H0.out _)) | (go_at_call_of 58 a3; exact quiet_eq (H3.out _)) | (go_at_call_of 58 a4; exact quiet_eq (H4.out _)) | (go_at_call_of 58 a2; exact quiet_eq (H1.out _))))
      go_wp2
      go_ret
      exact ⟨ret_bool HF.out.symm, _, rfl⟩
    · skip
      cases e2
      · have HF := Lib.hid HX.out
        clear HX
        go_enter Tryd.func48, Tryd.ntmps48
        go_wp2_with fail
        go_quiet ((first | (go_at_call_of 58 a1; exact quiet_eq (H2.out _)) | (go_at_call_of 58 (24 : Int); exact quiet_eq (H0.out _)) | (go_at_call_of 58 a3; exact quiet_eq (H3.out _)) | (go_at_call_of 58 a4; exact quiet_eq (H4.out _)) | (go_at_call_of 58 a2; exact quiet_eq (H1.out _))))
        go_wp2
        go_ret
        exact ⟨ret_bool HF.out.symm, _, rfl⟩
      · skip
        cases e3
        · have HF := Lib.hid HX.out
          clear HX
          go_enter Tryd.func48, Tryd.ntmps48
          go_wp2_with fail
          go_quiet ((first | (go_at_call_of 58 a1; exact quiet_eq (H2.out _)) | (go_at_call_of 58 (24 : Int); exact quiet_eq (H0.out _)) | (go_at_call_of 58 a3; exact quiet_eq (H3.out _)) | (go_at_call_of 58 a4; exact quiet_eq (H4.out _)) | (go_at_call_of 58 a2; exact quiet_eq (H1.out _))))
          go_wp2
          go_ret
          exact ⟨ret_bool HF.out.symm, _, rfl⟩
        · skip
          cases e4
          · have HF := Lib.hid HX.out
            clear HX
            go_enter Tryd.func48, Tryd.ntmps48
            go_wp2_with fail
            go_quiet ((first | (go_at_call_of 58 a1; exact quiet_eq (H2.out _)) | (go_at_call_of 58 (24 : Int); exact quiet_eq (H0.out _)) | (go_at_call_of 58 a3; exact quiet_eq (H3.out _)) | (go_at_call_of 58 a4; exact quiet_eq (H4.out _)) | (go_at_call_of 58 a2; exact quiet_eq (H1.out _))))
            go_wp2
            go_ret
            exact ⟨ret_bool HF.out.symm, _, rfl⟩
          · skip
            have HF := Lib.hid HX.out
            clear HX
            go_enter Tryd.func48, Tryd.ntmps48
            go_wp2_with fail
            go_quiet ((first | (go_at_call_of 58 a1; exact quiet_eq (H2.out _)) | (go_at_call_of 58 (24 : Int); exact quiet_eq (H0.out _)) | (go_at_call_of 58 a3; exact quiet_eq (H3.out _)) | (go_at_call_of 58 a4; exact quiet_eq (H4.out _)) | (go_at_call_of 58 a2; exact quiet_eq (H1.out _))))
            go_wp2
            go_ret
            exact ⟨ret_bool HF.out.symm, _, rfl⟩
end Go.Proofs.YtcjeededlhdcbaaDoor
