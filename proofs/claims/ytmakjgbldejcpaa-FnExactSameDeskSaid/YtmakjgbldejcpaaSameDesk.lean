
/- SameDesk, program and reference. Conditions: none. -/
import Derived.Test.YtmakjgbldejcpaaSameParts
namespace Go.Proofs.Ytmakjgbldejcpaa
open Go.RowKit Go.BigFrame
set_option linter.unusedVariables false
set_option linter.unusedSimpArgs false

def deskEq (x y : Dk) : Bool := (x.1 == y.1) && (x.2.1 == y.2.1) && (x.2.2.1 == y.2.2.1) && (x.2.2.2.toList == y.2.2.2.toList)
set_option maxRecDepth 100000 in
set_option maxHeartbeats 2000000 in
theorem implSameDesk_any (vj uj vc uc : Value) (r s : Rl) (p q : ByteArray) (js ks : List Jb) (cs ds : List Int) (w : World) (hj : Jobs w vj js) (hk : Jobs w uj ks) (hc : Ints w vc cs) (hd : Ints w uc ds) (hjl : js.length ≤ 1048576) (hkl : ks.length ≤ 1048576) :
    Calls Try.prog 23 #[deskV vj r vc p, deskV uj s uc q] w fun e w' => e = .returned (.bool (deskEq (js, r, cs, p) (ks, s, ds, q))) ∧ Below w.heap.size w w' := by
  obtain ⟨a0, a1, a2, a3, a4⟩ := r
  obtain ⟨b0, b1, b2, b3, b4⟩ := s
  have HJ : Hid (∀ W, Below w.heap.size w W → Calls Try.prog 78 #[vj, uj] W fun e w' => e = .returned (.bool (js == ks)) ∧ Below W.heap.size W w') := fun W hW => implSameJobs_any vj uj js ks W (hj.below hW (Nat.le_refl _)) (hk.below hW (Nat.le_refl _)) hjl hkl
  have HR : Hid (∀ W, Calls Try.prog 79 #[.agg #[.int .i64 a0, .int .i64 a1, .int .i64 a2, .int .i64 a3, .int .i64 a4], .agg #[.int .i64 b0, .int .i64 b1, .int .i64 b2, .int .i64 b3, .int .i64 b4]] W fun e w' => e = .returned (.bool ((a0, a1, a2, a3, a4) == (b0, b1, b2, b3, b4))) ∧ Below W.heap.size W w') := fun W => implSameRule_any a0 a1 a2 a3 a4 b0 b1 b2 b3 b4 W
  have HI : Hid (∀ W, Below w.heap.size w W → Calls Try.prog 80 #[vc, uc] W fun e w' => e = .returned (.bool (cs == ds)) ∧ Below W.heap.size W w') := fun W hW => sliceEqInts_any vc uc cs ds W (hc.below hW (Nat.le_refl _)) (hd.below hW (Nat.le_refl _))
  have HX : Hid (deskEq (js, (a0, a1, a2, a3, a4), cs, p) (ks, (b0, b1, b2, b3, b4), ds, q) = ((js == ks) && ((a0, a1, a2, a3, a4) == (b0, b1, b2, b3, b4)) && (cs == ds) && (p.toList == q.toList))) := rfl
  obtain ⟨_, j1, j2, rfl, _⟩ := hj
  obtain ⟨_, k1, k2, rfl, _⟩ := hk
  obtain ⟨_, l1, l2, rfl, _⟩ := hc
  obtain ⟨_, m1, m2, rfl, _⟩ := hd
  obtain ⟨e1, he1⟩ : ∃ e, (js == ks) = e := ⟨_, rfl⟩
  obtain ⟨e2, he2⟩ : ∃ e, ((a0, a1, a2, a3, a4) == (b0, b1, b2, b3, b4)) = e := ⟨_, rfl⟩
  obtain ⟨e3, he3⟩ : ∃ e, (cs == ds) = e := ⟨_, rfl⟩
  obtain ⟨e4, he4⟩ : ∃ e, (p.toList == q.toList) = e := ⟨_, rfl⟩
  rw [he1] at HJ HX
  rw [he2] at HR HX
  rw [he3] at HI HX
  rw [he4] at HX
  unfold deskV
  clear he1 he2 he3
  cases e1
  · have HF : Hid (deskEq (js, (a0, a1, a2, a3, a4), cs, p) (ks, (b0, b1, b2, b3, b4), ds, q) = false) := by show _ = _; rw [HX.out]; rfl
    clear he4
    go_enter Try.func23, Try.ntmps23
    go_wp2_with (first | (go_at_call 78; refine (HJ.out _ (((Below.refl _ w).alloc (Nat.le_refl _) _).alloc (by simp) _)).mono ?_; rintro e W1 ⟨rfl, hb1⟩; obtain ⟨hc1, hf1⟩ := bcell hb1; have HB1 := Lib.hid ((((Below.refl _ w).alloc (Nat.le_refl _) _).alloc (by simp) _).trans (hb1.mono (by simp; omega))); have hz1 : w.heap.size + 1 < W1.heap.size := (by have := hb1.size; simp at this; omega); have hy1 : w.heap.size < W1.heap.size := (by omega); clear hb1) | (go_at_call 79; refine (HR.out _).mono ?_; rintro e W2 ⟨rfl, hb2⟩; obtain ⟨hc2, hf2⟩ := bcell hb2; have HB2 := Lib.hid (HB1.out.trans (hb2.mono HB1.out.size)); have hz2 : w.heap.size + 1 < W2.heap.size := (by have := hb2.size; omega); have hy2 : w.heap.size < W2.heap.size := (by omega); clear hb2) | (go_at_call 80; refine (HI.out _ HB2.out).mono ?_; rintro e W3 ⟨rfl, hb3⟩; obtain ⟨hc3, hf3⟩ := bcell hb3; have HB3 := Lib.hid (HB2.out.trans (hb3.mono HB2.out.size)); clear hb3))
    go_ret
    exact ⟨ret_bool HF.out.symm, HB1.out⟩
  · cases e2
    · have HF : Hid (deskEq (js, (a0, a1, a2, a3, a4), cs, p) (ks, (b0, b1, b2, b3, b4), ds, q) = false) := by show _ = _; rw [HX.out]; rfl
      clear he4
      go_enter Try.func23, Try.ntmps23
      go_wp2_with (first | (go_at_call 78; refine (HJ.out _ (((Below.refl _ w).alloc (Nat.le_refl _) _).alloc (by simp) _)).mono ?_; rintro e W1 ⟨rfl, hb1⟩; obtain ⟨hc1, hf1⟩ := bcell hb1; have HB1 := Lib.hid ((((Below.refl _ w).alloc (Nat.le_refl _) _).alloc (by simp) _).trans (hb1.mono (by simp; omega))); have hz1 : w.heap.size + 1 < W1.heap.size := (by have := hb1.size; simp at this; omega); have hy1 : w.heap.size < W1.heap.size := (by omega); clear hb1) | (go_at_call 79; refine (HR.out _).mono ?_; rintro e W2 ⟨rfl, hb2⟩; obtain ⟨hc2, hf2⟩ := bcell hb2; have HB2 := Lib.hid (HB1.out.trans (hb2.mono HB1.out.size)); have hz2 : w.heap.size + 1 < W2.heap.size := (by have := hb2.size; omega); have hy2 : w.heap.size < W2.heap.size := (by omega); clear hb2) | (go_at_call 80; refine (HI.out _ HB2.out).mono ?_; rintro e W3 ⟨rfl, hb3⟩; obtain ⟨hc3, hf3⟩ := bcell hb3; have HB3 := Lib.hid (HB2.out.trans (hb3.mono HB2.out.size)); clear hb3))
      go_ret
      exact ⟨ret_bool HF.out.symm, HB2.out⟩
    · cases e3
      · have HF : Hid (deskEq (js, (a0, a1, a2, a3, a4), cs, p) (ks, (b0, b1, b2, b3, b4), ds, q) = false) := by show _ = _; rw [HX.out]; rfl
        clear he4
        go_enter Try.func23, Try.ntmps23
        go_wp2_with (first | (go_at_call 78; refine (HJ.out _ (((Below.refl _ w).alloc (Nat.le_refl _) _).alloc (by simp) _)).mono ?_; rintro e W1 ⟨rfl, hb1⟩; obtain ⟨hc1, hf1⟩ := bcell hb1; have HB1 := Lib.hid ((((Below.refl _ w).alloc (Nat.le_refl _) _).alloc (by simp) _).trans (hb1.mono (by simp; omega))); have hz1 : w.heap.size + 1 < W1.heap.size := (by have := hb1.size; simp at this; omega); have hy1 : w.heap.size < W1.heap.size := (by omega); clear hb1) | (go_at_call 79; refine (HR.out _).mono ?_; rintro e W2 ⟨rfl, hb2⟩; obtain ⟨hc2, hf2⟩ := bcell hb2; have HB2 := Lib.hid (HB1.out.trans (hb2.mono HB1.out.size)); have hz2 : w.heap.size + 1 < W2.heap.size := (by have := hb2.size; omega); have hy2 : w.heap.size < W2.heap.size := (by omega); clear hb2) | (go_at_call 80; refine (HI.out _ HB2.out).mono ?_; rintro e W3 ⟨rfl, hb3⟩; obtain ⟨hc3, hf3⟩ := bcell hb3; have HB3 := Lib.hid (HB2.out.trans (hb3.mono HB2.out.size)); clear hb3))
        go_ret
        exact ⟨ret_bool HF.out.symm, HB3.out⟩
      · have HF : Hid (deskEq (js, (a0, a1, a2, a3, a4), cs, p) (ks, (b0, b1, b2, b3, b4), ds, q) = e4) := by show _ = _; rw [HX.out]; rfl
        have HE4 := Lib.hid he4
        clear he4
        go_enter Try.func23, Try.ntmps23
        go_wp2_with (first | (go_at_call 78; refine (HJ.out _ (((Below.refl _ w).alloc (Nat.le_refl _) _).alloc (by simp) _)).mono ?_; rintro e W1 ⟨rfl, hb1⟩; obtain ⟨hc1, hf1⟩ := bcell hb1; have HB1 := Lib.hid ((((Below.refl _ w).alloc (Nat.le_refl _) _).alloc (by simp) _).trans (hb1.mono (by simp; omega))); have hz1 : w.heap.size + 1 < W1.heap.size := (by have := hb1.size; simp at this; omega); have hy1 : w.heap.size < W1.heap.size := (by omega); clear hb1) | (go_at_call 79; refine (HR.out _).mono ?_; rintro e W2 ⟨rfl, hb2⟩; obtain ⟨hc2, hf2⟩ := bcell hb2; have HB2 := Lib.hid (HB1.out.trans (hb2.mono HB1.out.size)); have hz2 : w.heap.size + 1 < W2.heap.size := (by have := hb2.size; omega); have hy2 : w.heap.size < W2.heap.size := (by omega); clear hb2) | (go_at_call 80; refine (HI.out _ HB2.out).mono ?_; rintro e W3 ⟨rfl, hb3⟩; obtain ⟨hc3, hf3⟩ := bcell hb3; have HB3 := Lib.hid (HB2.out.trans (hb3.mono HB2.out.size)); clear hb3))
        go_ret
        exact ⟨ret_bool (by rw [HF.out, ← HE4.out]), HB3.out⟩

set_option maxRecDepth 100000 in
set_option maxHeartbeats 2000000 in
theorem specSameDesk_any (vj uj vc uc : Value) (r s : Rl) (p q : ByteArray) (js ks : List Jb) (cs ds : List Int) (w : World) (hj : Jobs w vj js) (hk : Jobs w uj ks) (hc : Ints w vc cs) (hd : Ints w uc ds) (hjl : js.length ≤ 1048576) (hkl : ks.length ≤ 1048576) :
    Calls Try.prog 21 #[deskV vj r vc p, deskV uj s uc q] w fun e w' => e = .returned (.bool (deskEq (js, r, cs, p) (ks, s, ds, q))) ∧ Below w.heap.size w w' := by
  obtain ⟨a0, a1, a2, a3, a4⟩ := r
  obtain ⟨b0, b1, b2, b3, b4⟩ := s
  have HJ : Hid (∀ W, Below w.heap.size w W → Calls Try.prog 73 #[vj, uj] W fun e w' => e = .returned (.bool (js == ks)) ∧ Below W.heap.size W w') := fun W hW => l02Same_any vj uj js ks W (hj.below hW (Nat.le_refl _)) (hk.below hW (Nat.le_refl _)) hjl hkl
  have HR : Hid (∀ W, Calls Try.prog 74 #[.agg #[.int .i64 a0, .int .i64 a1, .int .i64 a2, .int .i64 a3, .int .i64 a4], .agg #[.int .i64 b0, .int .i64 b1, .int .i64 b2, .int .i64 b3, .int .i64 b4]] W fun e w' => e = .returned (.bool ((a0, a1, a2, a3, a4) == (b0, b1, b2, b3, b4))) ∧ Below W.heap.size W w') := fun W => specSameRule_any a0 a1 a2 a3 a4 b0 b1 b2 b3 b4 W
  have HI : Hid (∀ W, Below w.heap.size w W → Calls Try.prog 75 #[vc, uc] W fun e w' => e = .returned (.bool (cs == ds)) ∧ Below W.heap.size W w') := fun W hW => l08Equal_any vc uc cs ds W (hc.below hW (Nat.le_refl _)) (hd.below hW (Nat.le_refl _))
  have HX : Hid (deskEq (js, (a0, a1, a2, a3, a4), cs, p) (ks, (b0, b1, b2, b3, b4), ds, q) = ((js == ks) && ((a0, a1, a2, a3, a4) == (b0, b1, b2, b3, b4)) && (cs == ds) && (p.toList == q.toList))) := rfl
  obtain ⟨_, j1, j2, rfl, _⟩ := hj
  obtain ⟨_, k1, k2, rfl, _⟩ := hk
  obtain ⟨_, l1, l2, rfl, _⟩ := hc
  obtain ⟨_, m1, m2, rfl, _⟩ := hd
  obtain ⟨e1, he1⟩ : ∃ e, (js == ks) = e := ⟨_, rfl⟩
  obtain ⟨e2, he2⟩ : ∃ e, ((a0, a1, a2, a3, a4) == (b0, b1, b2, b3, b4)) = e := ⟨_, rfl⟩
  obtain ⟨e3, he3⟩ : ∃ e, (cs == ds) = e := ⟨_, rfl⟩
  obtain ⟨e4, he4⟩ : ∃ e, (p.toList == q.toList) = e := ⟨_, rfl⟩
  rw [he1] at HJ HX
  rw [he2] at HR HX
  rw [he3] at HI HX
  rw [he4] at HX
  unfold deskV
  clear he1 he2 he3
  cases e1
  · have HF : Hid (deskEq (js, (a0, a1, a2, a3, a4), cs, p) (ks, (b0, b1, b2, b3, b4), ds, q) = false) := by show _ = _; rw [HX.out]; rfl
    clear he4
    go_enter Try.func21, Try.ntmps21
    go_wp2_with (first | (go_at_call 73; refine (HJ.out _ (((Below.refl _ w).alloc (Nat.le_refl _) _).alloc (by simp) _)).mono ?_; rintro e W1 ⟨rfl, hb1⟩; obtain ⟨hc1, hf1⟩ := bcell hb1; have HB1 := Lib.hid ((((Below.refl _ w).alloc (Nat.le_refl _) _).alloc (by simp) _).trans (hb1.mono (by simp; omega))); have hz1 : w.heap.size + 1 < W1.heap.size := (by have := hb1.size; simp at this; omega); have hy1 : w.heap.size < W1.heap.size := (by omega); clear hb1) | (go_at_call 74; refine (HR.out _).mono ?_; rintro e W2 ⟨rfl, hb2⟩; obtain ⟨hc2, hf2⟩ := bcell hb2; have HB2 := Lib.hid (HB1.out.trans (hb2.mono HB1.out.size)); have hz2 : w.heap.size + 1 < W2.heap.size := (by have := hb2.size; omega); have hy2 : w.heap.size < W2.heap.size := (by omega); clear hb2) | (go_at_call 75; refine (HI.out _ HB2.out).mono ?_; rintro e W3 ⟨rfl, hb3⟩; obtain ⟨hc3, hf3⟩ := bcell hb3; have HB3 := Lib.hid (HB2.out.trans (hb3.mono HB2.out.size)); clear hb3))
    go_ret
    exact ⟨ret_bool HF.out.symm, HB1.out⟩
  · cases e2
    · have HF : Hid (deskEq (js, (a0, a1, a2, a3, a4), cs, p) (ks, (b0, b1, b2, b3, b4), ds, q) = false) := by show _ = _; rw [HX.out]; rfl
      clear he4
      go_enter Try.func21, Try.ntmps21
      go_wp2_with (first | (go_at_call 73; refine (HJ.out _ (((Below.refl _ w).alloc (Nat.le_refl _) _).alloc (by simp) _)).mono ?_; rintro e W1 ⟨rfl, hb1⟩; obtain ⟨hc1, hf1⟩ := bcell hb1; have HB1 := Lib.hid ((((Below.refl _ w).alloc (Nat.le_refl _) _).alloc (by simp) _).trans (hb1.mono (by simp; omega))); have hz1 : w.heap.size + 1 < W1.heap.size := (by have := hb1.size; simp at this; omega); have hy1 : w.heap.size < W1.heap.size := (by omega); clear hb1) | (go_at_call 74; refine (HR.out _).mono ?_; rintro e W2 ⟨rfl, hb2⟩; obtain ⟨hc2, hf2⟩ := bcell hb2; have HB2 := Lib.hid (HB1.out.trans (hb2.mono HB1.out.size)); have hz2 : w.heap.size + 1 < W2.heap.size := (by have := hb2.size; omega); have hy2 : w.heap.size < W2.heap.size := (by omega); clear hb2) | (go_at_call 75; refine (HI.out _ HB2.out).mono ?_; rintro e W3 ⟨rfl, hb3⟩; obtain ⟨hc3, hf3⟩ := bcell hb3; have HB3 := Lib.hid (HB2.out.trans (hb3.mono HB2.out.size)); clear hb3))
      go_ret
      exact ⟨ret_bool HF.out.symm, HB2.out⟩
    · cases e3
      · have HF : Hid (deskEq (js, (a0, a1, a2, a3, a4), cs, p) (ks, (b0, b1, b2, b3, b4), ds, q) = false) := by show _ = _; rw [HX.out]; rfl
        clear he4
        go_enter Try.func21, Try.ntmps21
        go_wp2_with (first | (go_at_call 73; refine (HJ.out _ (((Below.refl _ w).alloc (Nat.le_refl _) _).alloc (by simp) _)).mono ?_; rintro e W1 ⟨rfl, hb1⟩; obtain ⟨hc1, hf1⟩ := bcell hb1; have HB1 := Lib.hid ((((Below.refl _ w).alloc (Nat.le_refl _) _).alloc (by simp) _).trans (hb1.mono (by simp; omega))); have hz1 : w.heap.size + 1 < W1.heap.size := (by have := hb1.size; simp at this; omega); have hy1 : w.heap.size < W1.heap.size := (by omega); clear hb1) | (go_at_call 74; refine (HR.out _).mono ?_; rintro e W2 ⟨rfl, hb2⟩; obtain ⟨hc2, hf2⟩ := bcell hb2; have HB2 := Lib.hid (HB1.out.trans (hb2.mono HB1.out.size)); have hz2 : w.heap.size + 1 < W2.heap.size := (by have := hb2.size; omega); have hy2 : w.heap.size < W2.heap.size := (by omega); clear hb2) | (go_at_call 75; refine (HI.out _ HB2.out).mono ?_; rintro e W3 ⟨rfl, hb3⟩; obtain ⟨hc3, hf3⟩ := bcell hb3; have HB3 := Lib.hid (HB2.out.trans (hb3.mono HB2.out.size)); clear hb3))
        go_ret
        exact ⟨ret_bool HF.out.symm, HB3.out⟩
      · have HF : Hid (deskEq (js, (a0, a1, a2, a3, a4), cs, p) (ks, (b0, b1, b2, b3, b4), ds, q) = e4) := by show _ = _; rw [HX.out]; rfl
        have HE4 := Lib.hid he4
        clear he4
        go_enter Try.func21, Try.ntmps21
        go_wp2_with (first | (go_at_call 73; refine (HJ.out _ (((Below.refl _ w).alloc (Nat.le_refl _) _).alloc (by simp) _)).mono ?_; rintro e W1 ⟨rfl, hb1⟩; obtain ⟨hc1, hf1⟩ := bcell hb1; have HB1 := Lib.hid ((((Below.refl _ w).alloc (Nat.le_refl _) _).alloc (by simp) _).trans (hb1.mono (by simp; omega))); have hz1 : w.heap.size + 1 < W1.heap.size := (by have := hb1.size; simp at this; omega); have hy1 : w.heap.size < W1.heap.size := (by omega); clear hb1) | (go_at_call 74; refine (HR.out _).mono ?_; rintro e W2 ⟨rfl, hb2⟩; obtain ⟨hc2, hf2⟩ := bcell hb2; have HB2 := Lib.hid (HB1.out.trans (hb2.mono HB1.out.size)); have hz2 : w.heap.size + 1 < W2.heap.size := (by have := hb2.size; omega); have hy2 : w.heap.size < W2.heap.size := (by omega); clear hb2) | (go_at_call 75; refine (HI.out _ HB2.out).mono ?_; rintro e W3 ⟨rfl, hb3⟩; obtain ⟨hc3, hf3⟩ := bcell hb3; have HB3 := Lib.hid (HB2.out.trans (hb3.mono HB2.out.size)); clear hb3))
        go_ret
        exact ⟨ret_bool (by rw [HF.out, ← HE4.out]), HB3.out⟩

end Go.Proofs.Ytmakjgbldejcpaa
