
/- SameSaved, program and reference: one plain test. Conditions: none. -/
import Derived.Test.YtmhepomjbaendaaSavedS
import Derived.Test.YtmhepomjbaendaaSameTasks
namespace Go.Proofs.Ytmhepomjbaendaa
open Go.RowKit Go.Shelf Go.BigFrame
set_option linter.unusedVariables false
set_option linter.unusedSimpArgs false

def savedEq (x y : Sv) : Bool := (x.1.toList == y.1.toList) && allEq taskEq x.2.1 y.2.1 && (x.2.2 == y.2.2)

set_option maxRecDepth 100000 in
set_option maxHeartbeats 4000000 in
theorem sameSaved_any (s t : ByteArray) (vt vs ut us : Value) (xs ys : List Tk) (cs ds : List Int) (w : World) (h1 : TasksR w vt xs) (h2 : Ints w vs cs) (h3 : TasksR w ut ys) (h4 : Ints w us ds) :
    Calls Try.prog 82 #[savedV s vt vs, savedV t ut us] w fun e w' => e = .returned (.bool (savedEq (s, xs, cs) (t, ys, ds))) ∧ Below w.heap.size w w' := by
  have HX : Hid (savedEq (s, xs, cs) (t, ys, ds) = ((s.toList == t.toList) && allEq taskEq xs ys && (cs == ds))) := rfl
  have HA : Hid (∀ W, Below w.heap.size w W → Calls Try.prog 83 #[vt, ut] W fun e w' => e = .returned (.bool (allEq taskEq xs ys)) ∧ Below W.heap.size W w') := fun W hW => implSameTasks_any vt ut xs ys W (h1.below hW (Nat.le_refl _)) (h3.below hW (Nat.le_refl _))
  have HL : Hid (∀ W, Below w.heap.size w W → Calls Try.prog 84 #[vs, us] W fun e w' => e = .returned (.bool (cs == ds)) ∧ Below W.heap.size W w') := fun W hW => sliceEqInts_any vs us cs ds W (h2.below hW (Nat.le_refl _)) (h4.below hW (Nat.le_refl _))
  have HB0 : Hid (Below w.heap.size w ((w.alloc (.cells #[.string s, vt, vs] 44)).alloc (.cells #[.string t, ut, us] 44))) := ((Below.refl _ w).alloc (Nat.le_refl _) _).alloc (by simp) _
  obtain ⟨_, p1, p2, rfl, _⟩ := h1
  obtain ⟨_, q1, q2, rfl, _⟩ := h2
  obtain ⟨_, r1, r2, rfl, _⟩ := h3
  obtain ⟨_, s1, s2, rfl, _⟩ := h4
  obtain ⟨e0, he0⟩ : ∃ e, (s.toList == t.toList) = e := ⟨_, rfl⟩
  obtain ⟨e1, he1⟩ : ∃ e, allEq taskEq xs ys = e := ⟨_, rfl⟩
  obtain ⟨e2, he2⟩ : ∃ e, (cs == ds) = e := ⟨_, rfl⟩
  rw [he0, he1, he2] at HX
  rw [he1] at HA
  rw [he2] at HL
  unfold savedV
  clear he1 he2
  cases e0
  · have HF := Lib.hid HX.out
    clear HX
    go_enter Try.func82, Try.ntmps82
    go_wp2_with (first | (go_at_call 83; refine (HA.out _ HB0.out).mono ?_; rintro e W1 ⟨rfl, hb1⟩; obtain ⟨hc1, hf1⟩ := bcell hb1; have HB1 := Lib.hid (HB0.out.trans (hb1.mono HB0.out.size)); have hz1 : w.heap.size + 1 < W1.heap.size := (by have := hb1.size; simp at this; omega); have hy1 : w.heap.size < W1.heap.size := (by omega); clear hb1) | (go_at_call 84; refine (HL.out _ HB1.out).mono ?_; rintro e W2 ⟨rfl, hb2⟩; have HB2 := Lib.hid (HB1.out.trans (hb2.mono HB1.out.size)); clear hb2))
    go_ret
    exact ⟨ret_bool (by rw [HF.out]; rfl), HB0.out⟩
  · skip
    cases e1
    · have HF := Lib.hid HX.out
      clear HX
      go_enter Try.func82, Try.ntmps82
      go_wp2_with (first | (go_at_call 83; refine (HA.out _ HB0.out).mono ?_; rintro e W1 ⟨rfl, hb1⟩; obtain ⟨hc1, hf1⟩ := bcell hb1; have HB1 := Lib.hid (HB0.out.trans (hb1.mono HB0.out.size)); have hz1 : w.heap.size + 1 < W1.heap.size := (by have := hb1.size; simp at this; omega); have hy1 : w.heap.size < W1.heap.size := (by omega); clear hb1) | (go_at_call 84; refine (HL.out _ HB1.out).mono ?_; rintro e W2 ⟨rfl, hb2⟩; have HB2 := Lib.hid (HB1.out.trans (hb2.mono HB1.out.size)); clear hb2))
      go_ret
      exact ⟨ret_bool (by rw [HF.out]; rfl), HB1.out⟩
    · skip
      have HF := Lib.hid HX.out
      clear HX
      go_enter Try.func82, Try.ntmps82
      go_wp2_with (first | (go_at_call 83; refine (HA.out _ HB0.out).mono ?_; rintro e W1 ⟨rfl, hb1⟩; obtain ⟨hc1, hf1⟩ := bcell hb1; have HB1 := Lib.hid (HB0.out.trans (hb1.mono HB0.out.size)); have hz1 : w.heap.size + 1 < W1.heap.size := (by have := hb1.size; simp at this; omega); have hy1 : w.heap.size < W1.heap.size := (by omega); clear hb1) | (go_at_call 84; refine (HL.out _ HB1.out).mono ?_; rintro e W2 ⟨rfl, hb2⟩; have HB2 := Lib.hid (HB1.out.trans (hb2.mono HB1.out.size)); clear hb2))
      go_ret
      exact ⟨ret_bool (by rw [HF.out]; rfl), HB2.out⟩

set_option maxRecDepth 100000 in
set_option maxHeartbeats 4000000 in
theorem equalSaveds_any (v u : Value) (xs ys : List Sv) (w : World) (hv : SavedsR w v xs) (hu : SavedsR w u ys) :
    Calls Try.prog 81 #[v, u, .func (.func 82) #[] #[]] w fun e w' => e = .returned (.bool (allEq savedEq xs ys)) ∧ Below w.heap.size w w' := by
  have hek : ∀ args w, (callFunc 82 args).run Try.prog w = .ok (.enter 82 args) w := enters_of Try.func82 (by kernel_rfl) rfl
  have HV : Hid (∀ W, Below w.heap.size w W → SavedsR W v xs) := fun W hW => hv.below hW (Nat.le_refl _)
  have HU : Hid (∀ W, Below w.heap.size w W → SavedsR W u ys) := fun W hW => hu.below hW (Nat.le_refl _)
  have hm0 := hv.1
  have hm1 := hu.1
  unfold maxLen at hm0 hm1
  obtain ⟨a, c, rfl, hcap, _⟩ := hv.at_
  obtain ⟨a', c', rfl, hcap', _⟩ := hu.at_
  clear hv hu
  by_cases hlen : xs.length = ys.length
  · have hl1 : ((xs.length : Int) != ys.length) = false := by simp [hlen]
    have Hlen := Lib.hid hlen
    clear hlen
    go_enter Try.func81, Try.ntmps81
    go_wp2
    go_loopw [17] (fun i wr => ∃ k : Nat, k ≤ xs.length ∧ i = .int .i64 k ∧ Below w.heap.size w wr ∧ Hid (∀ j (h1 : j < xs.length) (h2 : j < ys.length), j < k → savedEq xs[j] ys[j] = true)) (fun i _ => xs.length - (intOf i).toNat)
    case atStart => exact ⟨0, Nat.zero_le _, rfl, Below.refl _ _, fun j h1 h2 h => by omega⟩
    case round =>
      obtain ⟨k, hk, rfl, hb, hok⟩ := hrel
      obtain ⟨wr', rfl⟩ : ∃ wr' : World, wr' = wr := ⟨_, rfl⟩
      have HB := Lib.hid hb
      by_cases hlt : k < xs.length
      · have hlt' : k < ys.length := by have := Hlen.out; omega
        obtain ⟨a3, c3, hsl3, _, hc⟩ := (HV.out wr' hb).at_
        obtain ⟨rfl, rfl⟩ : a = a3 ∧ c = c3 := by simpa using hsl3
        obtain ⟨b, o, vb, vl, rfl, hbs, _, h1, h2, g0, g1, g2⟩ := hc k hlt
        obtain ⟨a4, c4, hsl4, _, hc'⟩ := (HU.out wr' hb).at_
        obtain ⟨rfl, rfl⟩ : a' = a4 ∧ c' = c4 := by simpa using hsl4
        obtain ⟨b', o', ub, ul, rfl, hbs', _, h1', h2', f0, f1, f2⟩ := hc' k hlt'
        have HBA : Hid (Below wr'.heap.size wr' ((wr'.alloc (.cells #[.string xs[k].1, vb, vl] 44)).alloc (.cells #[.string ys[k].1, ub, ul] 44))) := ((Below.refl _ _).alloc (Nat.le_refl _) _).alloc (by simp) _
        have hcall := sameSaved_any xs[k].1 ys[k].1 vb vl ub ul xs[k].2.1 ys[k].2.1 xs[k].2.2 ys[k].2.2 _ (h1.below HBA.out (Nat.le_refl _)) (h2.ints.1.below HBA.out (Nat.le_refl _)) (h1'.below HBA.out (Nat.le_refl _)) (h2'.ints.1.below HBA.out (Nat.le_refl _))
        rw [show savedEq (xs[k].1, xs[k].2.1, xs[k].2.2) (ys[k].1, ys[k].2.1, ys[k].2.2) = savedEq xs[k] ys[k] from rfl] at hcall
        unfold savedV at hcall
        have HBAD : Hid (savedEq xs[k] ys[k] = false → allEq savedEq xs ys = false) := fun h => allEq_bad hlt hlt' h
        have HOK : Hid (savedEq xs[k] ys[k] = true → ∀ j (h1 : j < xs.length) (h2 : j < ys.length), j < k + 1 → savedEq xs[j] ys[j] = true) := fun h j q1 q2 q3 => by
          rcases Nat.lt_succ_iff_lt_or_eq.1 q3 with h4 | rfl
          · exact hok.out j q1 q2 h4
          · exact h
        obtain ⟨x0, hx0⟩ : ∃ z, xs[k].1 = z := ⟨_, rfl⟩
        obtain ⟨y0, hy0⟩ : ∃ z, ys[k].1 = z := ⟨_, rfl⟩
        obtain ⟨Y, hY⟩ : ∃ z, savedEq xs[k] ys[k] = z := ⟨_, rfl⟩
        rw [hY] at hcall HBAD HOK
        rw [hx0] at g0 hcall HBA
        rw [hy0] at f0 hcall HBA
        obtain ⟨_, p1, p2, rfl, _⟩ := h1
        obtain ⟨_, q1, q2, rfl, _⟩ := h2.ints.1
        obtain ⟨_, r1, r2, rfl, _⟩ := h1'
        obtain ⟨_, s1, s2, rfl, _⟩ := h2'.ints.1
        have hk0 : (0 : Int) ≤ (k : Int) := by omega
        have hk1 : (k : Int) < (xs.length : Int) := by omega
        have hk2 : (k : Int) < (ys.length : Int) := by omega
        have HCALL := Lib.hid hcall
        clear hcall hc hc' hsl3 hsl4 h2 h2' hx0 hy0 hY hok hb
        cases Y
        · have HF := Lib.hid (HBAD.out rfl)
          go_wp2_with (go_at_call 82; refine HCALL.out.mono ?_; rintro e W1 ⟨rfl, hb1⟩; have HB1 := Lib.hid (HB.out.trans ((HBA.out.trans (hb1.mono HBA.out.size)).mono HB.out.size)); clear hb1)
          go_ret
          exact ⟨ret_bool HF.out.symm, HB1.out⟩
        · have HF := Lib.hid (HOK.out rfl)
          go_wp2_with (go_at_call 82; refine HCALL.out.mono ?_; rintro e W1 ⟨rfl, hb1⟩; have HB1 := Lib.hid (HB.out.trans ((HBA.out.trans (hb1.mono HBA.out.size)).mono HB.out.size)); clear hb1)
          go_roundw
          case rel => exact ⟨k + 1, by omega, by go_num, HB1.out, HF.out⟩
          case measure => simp [intOf]; omega
      · have HF : Hid (allEq savedEq xs ys = true) := allEq_end Hlen.out fun j h1 h2 => hok.out j h1 h2 (by omega)
        clear hok
        go_wp2
        go_ret
        exact ⟨ret_bool HF.out.symm, HB.out⟩
  · have hl1 : ((xs.length : Int) != ys.length) = true := by simp; omega
    have HF : Hid (allEq savedEq xs ys = false) := allEq_len hlen
    clear hlen
    go_enter Try.func81, Try.ntmps81
    go_wp2
    go_ret
    exact ⟨ret_bool HF.out.symm, Below.refl _ _⟩
theorem implSameSaved_any (v u : Value) (xs ys : List Sv) (w : World) (hv : SavedsR w v xs) (hu : SavedsR w u ys) :
    Calls Try.prog 30 #[v, u] w fun e w' => e = .returned (.bool (allEq savedEq xs ys)) ∧ Below w.heap.size w w' := by
  have H := Lib.hid (equalSaveds_any v u xs ys w hv hu)
  obtain ⟨_, a, c, rfl, _⟩ := hv
  obtain ⟨_, a', c', rfl, _⟩ := hu
  go_enter Try.func30, Try.ntmps30
  go_wp2_with (go_at_call 81; refine H.out.mono ?_; rintro e w' ⟨rfl, hb⟩)
  go_ret
  exact ⟨rfl, hb⟩

end Go.Proofs.Ytmhepomjbaendaa
