
/- ValidDesk, program and reference. Conditions: none. -/
import Derived.Test.YtmakjgbldejcpaaValidDesk
namespace Go.Proofs.Ytmakjgbldejcpaa
open Go.RowKit Go.BigFrame
set_option linter.unusedVariables false
set_option linter.unusedSimpArgs false

def deskOk (x : Dk) : Bool := jobsOk x.1 && ruleOk x.2.1 && countsOk x.2.2.1 && patOk x.2.2.2 64
set_option maxRecDepth 100000 in
set_option maxHeartbeats 4000000 in
theorem validDesk_any (vj vc : Value) (r : Rl) (p : ByteArray) (js : List Jb) (cs : List Int) (w : World) (hj : Jobs w vj js) (hc : Ints w vc cs) (hp : p.size ≤ maxLen) :
    Calls Try.prog 36 #[deskV vj r vc p] w fun e w' => e = .returned (.bool (deskOk (js, r, cs, p))) ∧ Below w.heap.size w w' := by
  obtain ⟨a0, a1, a2, a3, a4⟩ := r
  have HX : Hid (deskOk (js, (a0, a1, a2, a3, a4), cs, p) = (jobsOk js && ruleOk (a0, a1, a2, a3, a4) && countsOk cs && patOk p 64)) := rfl
  have HJ : Hid (∀ W, Below w.heap.size w W → Calls Try.prog 96 #[vj] W fun e w' => e = .returned (.bool (jobsOk js)) ∧ Below W.heap.size W w') := fun W hW => areJobs_any vj js W (hj.below hW (Nat.le_refl _))
  have HR : Hid (∀ W, Calls Try.prog 97 #[.agg #[.int .i64 a0, .int .i64 a1, .int .i64 a2, .int .i64 a3, .int .i64 a4]] W fun e w' => e = .returned (.bool (ruleOk (a0, a1, a2, a3, a4))) ∧ Below W.heap.size W w') := fun W => validRule_any a0 a1 a2 a3 a4 W
  have HC : Hid (∀ W, Below w.heap.size w W → Calls Try.prog 98 #[vc] W fun e w' => e = .returned (.bool (countsOk cs)) ∧ W = w') := fun W hW => areCounts_any vc cs W (hc.below hW (Nat.le_refl _))
  have HP : Hid (∀ W, Calls Try.prog 99 #[.string p, .int .i64 64] W fun e w' => e = .returned (.bool (patOk p 64)) ∧ W = w') := fun W => isPattern_any p 64 W hp
  obtain ⟨_, j1, j2, rfl, _⟩ := hj
  obtain ⟨_, l1, l2, rfl, _⟩ := hc
  obtain ⟨e1, he1⟩ : ∃ e, jobsOk js = e := ⟨_, rfl⟩
  obtain ⟨e2, he2⟩ : ∃ e, ruleOk (a0, a1, a2, a3, a4) = e := ⟨_, rfl⟩
  obtain ⟨e3, he3⟩ : ∃ e, countsOk cs = e := ⟨_, rfl⟩
  obtain ⟨e4, he4⟩ : ∃ e, patOk p 64 = e := ⟨_, rfl⟩
  rw [he1] at HJ HX
  rw [he2] at HR HX
  rw [he3] at HC HX
  rw [he4] at HP HX
  clear he1 he2 he3 he4 hp
  unfold deskV
  cases e1
  · have HF := Lib.hid HX.out
    clear HX
    go_enter Try.func36, Try.ntmps36
    go_wp2_with (first | (go_at_call 96; refine (HJ.out _ ((Below.refl _ w).alloc (Nat.le_refl _) _)).mono ?_; rintro e W1 ⟨rfl, hb1⟩; obtain ⟨hc1, hf1⟩ := bcell hb1; have HB1 := Lib.hid (((Below.refl _ w).alloc (Nat.le_refl _) _).trans (hb1.mono (by simp))); have hz1 : w.heap.size < W1.heap.size := (by have := hb1.size; simp at this; omega); clear hb1) | (go_at_call 97; refine (HR.out _).mono ?_; rintro e W2 ⟨rfl, hb2⟩; obtain ⟨hc2, hf2⟩ := bcell hb2; have HB2 := Lib.hid (HB1.out.trans (hb2.mono HB1.out.size)); have hz2 : w.heap.size < W2.heap.size := (by have := hb2.size; omega); clear hb2) | (go_at_call 98; refine (HC.out _ HB2.out).mono ?_; rintro e w' ⟨rfl, rfl⟩) | (go_at_call 99; refine (HP.out _).mono ?_; rintro e w' ⟨rfl, rfl⟩))
    go_ret
    exact ⟨ret_bool (by rw [HF.out]; rfl), HB1.out⟩
  · skip
    cases e2
    · have HF := Lib.hid HX.out
      clear HX
      go_enter Try.func36, Try.ntmps36
      go_wp2_with (first | (go_at_call 96; refine (HJ.out _ ((Below.refl _ w).alloc (Nat.le_refl _) _)).mono ?_; rintro e W1 ⟨rfl, hb1⟩; obtain ⟨hc1, hf1⟩ := bcell hb1; have HB1 := Lib.hid (((Below.refl _ w).alloc (Nat.le_refl _) _).trans (hb1.mono (by simp))); have hz1 : w.heap.size < W1.heap.size := (by have := hb1.size; simp at this; omega); clear hb1) | (go_at_call 97; refine (HR.out _).mono ?_; rintro e W2 ⟨rfl, hb2⟩; obtain ⟨hc2, hf2⟩ := bcell hb2; have HB2 := Lib.hid (HB1.out.trans (hb2.mono HB1.out.size)); have hz2 : w.heap.size < W2.heap.size := (by have := hb2.size; omega); clear hb2) | (go_at_call 98; refine (HC.out _ HB2.out).mono ?_; rintro e w' ⟨rfl, rfl⟩) | (go_at_call 99; refine (HP.out _).mono ?_; rintro e w' ⟨rfl, rfl⟩))
      go_ret
      exact ⟨ret_bool (by rw [HF.out]; rfl), HB2.out⟩
    · skip
      cases e3
      · have HF := Lib.hid HX.out
        clear HX
        go_enter Try.func36, Try.ntmps36
        go_wp2_with (first | (go_at_call 96; refine (HJ.out _ ((Below.refl _ w).alloc (Nat.le_refl _) _)).mono ?_; rintro e W1 ⟨rfl, hb1⟩; obtain ⟨hc1, hf1⟩ := bcell hb1; have HB1 := Lib.hid (((Below.refl _ w).alloc (Nat.le_refl _) _).trans (hb1.mono (by simp))); have hz1 : w.heap.size < W1.heap.size := (by have := hb1.size; simp at this; omega); clear hb1) | (go_at_call 97; refine (HR.out _).mono ?_; rintro e W2 ⟨rfl, hb2⟩; obtain ⟨hc2, hf2⟩ := bcell hb2; have HB2 := Lib.hid (HB1.out.trans (hb2.mono HB1.out.size)); have hz2 : w.heap.size < W2.heap.size := (by have := hb2.size; omega); clear hb2) | (go_at_call 98; refine (HC.out _ HB2.out).mono ?_; rintro e w' ⟨rfl, rfl⟩) | (go_at_call 99; refine (HP.out _).mono ?_; rintro e w' ⟨rfl, rfl⟩))
        go_ret
        exact ⟨ret_bool (by rw [HF.out]; rfl), HB2.out⟩
      · skip
        have HF := Lib.hid HX.out
        clear HX
        go_enter Try.func36, Try.ntmps36
        go_wp2_with (first | (go_at_call 96; refine (HJ.out _ ((Below.refl _ w).alloc (Nat.le_refl _) _)).mono ?_; rintro e W1 ⟨rfl, hb1⟩; obtain ⟨hc1, hf1⟩ := bcell hb1; have HB1 := Lib.hid (((Below.refl _ w).alloc (Nat.le_refl _) _).trans (hb1.mono (by simp))); have hz1 : w.heap.size < W1.heap.size := (by have := hb1.size; simp at this; omega); clear hb1) | (go_at_call 97; refine (HR.out _).mono ?_; rintro e W2 ⟨rfl, hb2⟩; obtain ⟨hc2, hf2⟩ := bcell hb2; have HB2 := Lib.hid (HB1.out.trans (hb2.mono HB1.out.size)); have hz2 : w.heap.size < W2.heap.size := (by have := hb2.size; omega); clear hb2) | (go_at_call 98; refine (HC.out _ HB2.out).mono ?_; rintro e w' ⟨rfl, rfl⟩) | (go_at_call 99; refine (HP.out _).mono ?_; rintro e w' ⟨rfl, rfl⟩))
        go_ret
        exact ⟨ret_bool (by rw [HF.out]; rfl), HB2.out⟩

set_option maxRecDepth 100000 in
set_option maxHeartbeats 4000000 in
theorem l08Is_any (b o : Nat) (vj vc : Value) (r : Rl) (p : ByteArray) (js : List Jb) (cs : List Int) (w : World) (hj : Jobs w vj js) (hc : Ints w vc cs) (hp : p.size ≤ maxLen) (hb : b < w.heap.size)
    (c0 : w.cell? ⟨b, o, none⟩ = some vj) (c1 : w.cell? ⟨b, o + 1, none⟩ = some (.int .i64 r.1)) (c2 : w.cell? ⟨b, o + 1 + 1, none⟩ = some (.int .i64 r.2.1)) (c3 : w.cell? ⟨b, o + 1 + 2, none⟩ = some (.int .i64 r.2.2.1)) (c4 : w.cell? ⟨b, o + 1 + 3, none⟩ = some (.int .i64 r.2.2.2.1)) (c5 : w.cell? ⟨b, o + 1 + 4, none⟩ = some (.int .i64 r.2.2.2.2)) (c6 : w.cell? ⟨b, o + 6, none⟩ = some vc) (c7 : w.cell? ⟨b, o + 7, none⟩ = some (.string p)) :
    Calls Try.prog 95 #[.pointer (some ⟨b, o, none⟩)] w fun e w' => e = .returned (.bool (deskOk (js, r, cs, p))) ∧ ∃ q, w' = w.drewN q := by
  obtain ⟨a0, a1, a2, a3, a4⟩ := r
  have HX : Hid (deskOk (js, (a0, a1, a2, a3, a4), cs, p) = (jobsOk js && ruleOk (a0, a1, a2, a3, a4) && countsOk cs && patOk p 64)) := rfl
  have HJ : Hid (Calls Try.prog 137 #[vj] w fun e w' => e = .returned (.bool (jobsOk js)) ∧ w = w') := l02Jobs_any vj js w hj
  have HR : Hid (Calls Try.prog 138 #[.pointer (some ⟨b, o + 1, none⟩)] w fun e w' => e = .returned (.bool (ruleOk (a0, a1, a2, a3, a4))) ∧ ∃ q, w' = w.drewN q) := l06Is_any b (o + 1) a0 a1 a2 a3 a4 w c1 c2 c3 c4 c5
  have HC : Hid (∀ q, Calls Try.prog 139 #[vc] (w.drewN q) fun e w' => e = .returned (.bool (countsOk cs)) ∧ w.drewN q = w') := fun q => l04Counts_any vc cs _ (hc.below (below_drewN q (Below.refl _ _)) (Nat.le_refl _))
  have HP : Hid (∀ W, Calls Try.prog 140 #[.string p, .int .i64 64] W fun e w' => e = .returned (.bool (patOk p 64)) ∧ W = w') := fun W => l06Days_any p 64 W hp
  obtain ⟨_, j1, j2, rfl, _⟩ := hj
  obtain ⟨_, l1, l2, rfl, _⟩ := hc
  obtain ⟨e1, he1⟩ : ∃ e, jobsOk js = e := ⟨_, rfl⟩
  obtain ⟨e2, he2⟩ : ∃ e, ruleOk (a0, a1, a2, a3, a4) = e := ⟨_, rfl⟩
  obtain ⟨e3, he3⟩ : ∃ e, countsOk cs = e := ⟨_, rfl⟩
  obtain ⟨e4, he4⟩ : ∃ e, patOk p 64 = e := ⟨_, rfl⟩
  rw [he1] at HJ HX
  rw [he2] at HR HX
  rw [he3] at HC HX
  rw [he4] at HP HX
  clear he1 he2 he3 he4 hp
  cases e1
  · have HF := Lib.hid HX.out
    clear HX
    go_enter Try.func95, Try.ntmps95
    go_wp2_with (first | (go_at_call 137; refine HJ.out.mono ?_; rintro e w' ⟨rfl, rfl⟩) | (go_at_call 138; refine HR.out.mono ?_; rintro e w' ⟨rfl, q, rfl⟩) | (go_at_call 139; refine (HC.out _).mono ?_; rintro e w' ⟨rfl, rfl⟩) | (go_at_call 140; refine (HP.out _).mono ?_; rintro e w' ⟨rfl, rfl⟩))
    go_ret
    exact ⟨ret_bool (by rw [HF.out]; rfl), ⟨0, rfl⟩⟩
  · skip
    cases e2
    · have HF := Lib.hid HX.out
      clear HX
      go_enter Try.func95, Try.ntmps95
      go_wp2_with (first | (go_at_call 137; refine HJ.out.mono ?_; rintro e w' ⟨rfl, rfl⟩) | (go_at_call 138; refine HR.out.mono ?_; rintro e w' ⟨rfl, q, rfl⟩) | (go_at_call 139; refine (HC.out _).mono ?_; rintro e w' ⟨rfl, rfl⟩) | (go_at_call 140; refine (HP.out _).mono ?_; rintro e w' ⟨rfl, rfl⟩))
      go_ret
      exact ⟨ret_bool (by rw [HF.out]; rfl), ⟨_, rfl⟩⟩
    · skip
      cases e3
      · have HF := Lib.hid HX.out
        clear HX
        go_enter Try.func95, Try.ntmps95
        go_wp2_with (first | (go_at_call 137; refine HJ.out.mono ?_; rintro e w' ⟨rfl, rfl⟩) | (go_at_call 138; refine HR.out.mono ?_; rintro e w' ⟨rfl, q, rfl⟩) | (go_at_call 139; refine (HC.out _).mono ?_; rintro e w' ⟨rfl, rfl⟩) | (go_at_call 140; refine (HP.out _).mono ?_; rintro e w' ⟨rfl, rfl⟩))
        go_ret
        exact ⟨ret_bool (by rw [HF.out]; rfl), ⟨_, rfl⟩⟩
      · skip
        have HF := Lib.hid HX.out
        clear HX
        go_enter Try.func95, Try.ntmps95
        go_wp2_with (first | (go_at_call 137; refine HJ.out.mono ?_; rintro e w' ⟨rfl, rfl⟩) | (go_at_call 138; refine HR.out.mono ?_; rintro e w' ⟨rfl, q, rfl⟩) | (go_at_call 139; refine (HC.out _).mono ?_; rintro e w' ⟨rfl, rfl⟩) | (go_at_call 140; refine (HP.out _).mono ?_; rintro e w' ⟨rfl, rfl⟩))
        go_ret
        exact ⟨ret_bool (by rw [HF.out]; rfl), ⟨_, rfl⟩⟩

set_option maxRecDepth 100000 in
theorem specValidDesk_any (vj vc : Value) (r : Rl) (p : ByteArray) (js : List Jb) (cs : List Int) (w : World) (hj : Jobs w vj js) (hc : Ints w vc cs) (hp : p.size ≤ maxLen) :
    Calls Try.prog 35 #[deskV vj r vc p] w fun e w' => e = .returned (.bool (deskOk (js, r, cs, p))) ∧ Below w.heap.size w w' := by
  obtain ⟨a0, a1, a2, a3, a4⟩ := r
  obtain ⟨T0, hT0⟩ : ∃ T0, (Obj.cells #[vj, .int .i64 a0, .int .i64 a1, .int .i64 a2, .int .i64 a3, .int .i64 a4, vc, .string p] 40) = T0 := ⟨_, rfl⟩
  have hB0 : Below w.heap.size w (w.alloc T0) := (Below.refl _ w).alloc (Nat.le_refl _) _
  have k1 : Blk (w.alloc T0) w.heap.size 40 [vj, .int .i64 a0, .int .i64 a1, .int .i64 a2, .int .i64 a3, .int .i64 a4, vc, .string p] := by rw [← hT0]; exact Blk.new w _ _
  have H := Lib.hid (l08Is_any w.heap.size 0 vj vc (a0, a1, a2, a3, a4) p js cs (w.alloc T0) (hj.below hB0 (Nat.le_refl _)) (hc.below hB0 (Nat.le_refl _)) hp k1.lt (k1.cell 0 _ rfl) (k1.cell 1 _ rfl) (k1.cell 2 _ rfl) (k1.cell 3 _ rfl) (k1.cell 4 _ rfl) (k1.cell 5 _ rfl) (k1.cell 6 _ rfl) (k1.cell 7 _ rfl))
  have HB0 := Lib.hid hB0
  obtain ⟨_, j1, j2, rfl, _⟩ := hj
  obtain ⟨_, l1, l2, rfl, _⟩ := hc
  subst hT0
  unfold deskV
  clear hB0 k1 hp
  go_enter Try.func35, Try.ntmps35
  go_wp2_with (go_at_call 95; refine H.out.mono ?_; rintro e w' ⟨rfl, q, rfl⟩)
  go_ret
  exact ⟨rfl, below_drewN q HB0.out⟩
end Go.Proofs.Ytmakjgbldejcpaa
