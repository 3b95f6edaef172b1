
/- CountColours, program and reference, for all arguments. Conditions: none. -/
import Derived.Test.YtmhepomjbaendaaWaysSpec
import Derived.Test.YtmhepomjbaendaaColRun
import Derived.Test.YtmhepomjbaendaaCliqueBoth
namespace Go.Proofs.Ytmhepomjbaendaa
open Go.RowKit Go.Shelf Go.BigFrame
set_option linter.unusedVariables false
set_option linter.unusedSimpArgs false
attribute [local go_sem] Oper.semAt_some

theorem countDo_any (b : Nat) (n : Int) (v : Value) (W : World) (hb : Boxed W b 2 (.int .i64 n)) : Calls Try.prog 100 #[v, .pointer (some ⟨b, 0, none⟩)] W fun e W' => e = .returned (.bool true) ∧ W' = W.setCell ⟨b, 0, none⟩ (.int .i64 (wrap64 (n + 1))) := by
  have hc := hb.cell
  have hf := hb.frozen
  clear hb
  go_enter Try.func100, Try.ntmps100
  go_wp2
  go_ret
  exact ⟨rfl, rfl⟩
theorem countDoK (N t b : Nat) (hb : b < N) : ∀ gc, N ≤ gc → DoK Int N gc t 100 #[.pointer (some ⟨b, 0, none⟩)] [b] (fun n W => Boxed W b 2 (.int .i64 n)) cntStep := fun gc hg =>
  ⟨fun s cs W _ hs _ => (countDo_any b s _ W hs).mono fun e W' ⟨he, hw⟩ => ⟨he, by rw [hw]; exact hs.set _, by rw [hw]; exact (GrownL.refl _ _).setCell _ _ (.inl (by simp))⟩,
   fun s W W' hs hg' => hg'.boxed hs (by simp; omega), enters_of Try.func100 (by kernel_rfl) rfl⟩

def cntOk (n : Int) (xs : List Int) (m : Int) : Bool := clashesOk n xs && decide (n ≤ 8) && win m 1 4
def cntR (n : Int) (xs : List Int) (m : Int) : Int := if cntOk n xs m then ways xs m.toNat n.toNat [] else 0
theorem cntR_no {n : Int} {xs : List Int} {m : Int} (h : cntOk n xs m = false) : cntR n xs m = 0 := by unfold cntR; rw [h]; rfl
theorem cntR_yes {n : Int} {xs : List Int} {m : Int} (h : cntOk n xs m = true) : cntR n xs m = ways xs m.toNat n.toNat [] := by unfold cntR; rw [h]; rfl

set_option maxHeartbeats 2000000 in
theorem implCount_yes (t most : Nat) (v : Value) (xs : List Int) (w : World) (hv : Ints w v xs) (ht1 : 1 ≤ t) (ht : t ≤ 8) (hm1 : 1 ≤ most) (hm2 : most ≤ 4) (hl : xs.length ≤ 64) (hev : xs.length % 2 = 0) (hw : ∀ k, k < xs.length → 0 ≤ nth xs k ∧ nth xs k < (t : Int)) (hc1 : clashesOk (t : Int) xs = true) :
    Calls Try.prog 41 #[.int .i64 t, v, .int .i64 most] w fun e w' => e = .returned (.tuple #[.int .i64 (ways xs most t []), .bool true]) ∧ Below w.heap.size w w' := by
  have hmf : ∀ (fn : Fn) (first cap : Array Value) (w : World), (Instr.makeFunc fn first cap).run Try.prog w = .ok (.func fn first cap) w := fun _ _ _ _ => rfl
  have hca := implAreClashes_any (t : Int) v xs w hv (wf_i64_iff.2 ⟨by omega, by omega⟩)
  rw [hc1] at hca
  have HCA := Lib.hid hca
  have hwin : win (most : Int) 1 4 = true := win_true.2 ⟨by omega, by omega⟩
  have HWI : Hid (∀ W, Calls Try.prog 60 #[.int .i64 most, .int .i64 1, .int .i64 4] W fun e w' => e = .returned (.bool true) ∧ W = w') := fun W => by have := within_any (most : Int) 1 4 W; rw [hwin] at this; exact this
  have HCS : Hid (∀ W, Below w.heap.size w W → Calls Try.prog 85 #[.int .i64 t, v] W fun e w' => (∃ g, e = .returned (.slice (some ⟨g, 0, none⟩) t t) ∧ OwnI w' W.heap.size (.slice (some ⟨g, 0, none⟩) t t) (mInts (masks t xs))) ∧ Below W.heap.size W w') := fun W hW =>
    clashSets_any t v xs W (hv.below hW (Nat.le_refl _)) ht1 (by omega) hl hev hw
  have HW := Lib.hid hw
  have t8 : (t : Int) ≤ 8 := by omega
  clear hca hw hc1 hwin hv
  go_enter Try.func41, Try.ntmps41
  go_wp2_with (first
    | (go_at_call 39; refine HCA.out.mono ?_; rintro e W1 ⟨rfl, hb1⟩; have HB1 := Lib.hid hb1; clear hb1)
    | (go_at_call 60; refine (HWI.out _).mono ?_; rintro e w' ⟨rfl, rfl⟩)
    | (go_at_call 85; refine (HCS.out _ (HB1.out.alloc HB1.out.size _)).mono ?_; rintro e W2 ⟨⟨gs, rfl, hos⟩, hb2⟩; have hgs := hos.lt gs rfl; have hbx : Boxed W2 W1.heap.size 2 (.int .i64 0) := boxed_below (Boxed.new W1 _ _) hb2; have hbc := hbx.cell; have HBX := Lib.hid hbx; have HB2 := Lib.hid ((HB1.out.alloc HB1.out.size _).trans (hb2.mono (by have := HB1.out.size; simp; omega))); have HOS := Lib.hid (hos.mono (B' := 0) (Nat.zero_le _)); clear hb2 hos hbx))
  have hlt := HBX.out.lt
  simp only [World.size_alloc] at hgs
  refine (colourings_any t most xs gs 100 #[.pointer (some ⟨W1.heap.size, 0, none⟩)] [W1.heap.size] (fun n W => Boxed W W1.heap.size 2 (.int .i64 n)) cntStep ht1 (by omega) (by omega) HW.out W2 HOS.out (countDoK _ _ _ hlt) (fun i hi => by simp at hi; omega) 0 HBX.out).mono ?_
  rintro e W3 ⟨rfl, hb3, hg3⟩
  rw [runCol_ways xs most hm2 ht] at hb3
  have hc3 := hb3.cell
  have HB3 : Hid (Below w.heap.size w W3) := hg3.toBelow HB2.out HB2.out.size (fun i hi => by have := HB1.out.size; simp; omega)
  clear hb3 hg3
  go_wp2
  go_ret2
  exact ⟨rfl, HB3.out⟩

theorem implCount_u (n : Int) (v : Value) (xs : List Int) (m : Int) (w : World) (hv : Ints w v xs) (hn : (Lit.int .i64 n).wf = true) :
    Calls Try.prog 41 #[.int .i64 n, v, .int .i64 m] w fun e w' => e = .returned (.tuple #[.int .i64 (cntR n xs m), .bool (cntOk n xs m)]) ∧ Below w.heap.size w w' := by
  cases h : cntOk n xs m
  · rw [cntR_no h]
    have hca := implAreClashes_any n v xs w hv hn
    unfold cntOk at h
    cases hc : clashesOk n xs
    · rw [hc] at hca
      have HCA := Lib.hid hca
      clear hca hv h hc
      go_enter Try.func41, Try.ntmps41
      go_wp2_with (go_at_call 39; refine HCA.out.mono ?_; rintro e W1 ⟨rfl, hb1⟩)
      go_ret2
      exact ⟨rfl, hb1⟩
    · rw [hc] at hca h
      have HCA := Lib.hid hca
      by_cases h8 : n ≤ 8
      · have hwf : win m 1 4 = false := by simpa [h8] using h
        have HWI : Hid (∀ W, Calls Try.prog 60 #[.int .i64 m, .int .i64 1, .int .i64 4] W fun e w' => e = .returned (.bool false) ∧ W = w') := fun W => by have := within_any m 1 4 W; rw [hwf] at this; exact this
        clear hca hv h hc hwf
        go_enter Try.func41, Try.ntmps41
        go_wp2_with (first | (go_at_call 39; refine HCA.out.mono ?_; rintro e W1 ⟨rfl, hb1⟩) | (go_at_call 60; refine (HWI.out _).mono ?_; rintro e w' ⟨rfl, rfl⟩))
        go_ret2
        exact ⟨rfl, hb1⟩
      · clear hca hv h hc
        go_enter Try.func41, Try.ntmps41
        go_wp2_with (first | (go_at_call 39; refine HCA.out.mono ?_; rintro e W1 ⟨rfl, hb1⟩))
        go_ret2
        exact ⟨rfl, hb1⟩
  · rw [cntR_yes h]
    unfold cntOk at h
    rw [Bool.and_eq_true, Bool.and_eq_true] at h
    obtain ⟨t, rfl, h1, h2, h3, h4, h5⟩ := clash_bounds h.1.1
    have h8 : (t : Int) ≤ 8 := by simpa using h.1.2
    obtain ⟨h6, h7⟩ := win_true.1 h.2
    obtain ⟨q, rfl⟩ : ∃ q : Nat, m = q := ⟨m.toNat, by omega⟩
    rw [Int.toNat_natCast, Int.toNat_natCast]
    exact implCount_yes t q v xs w hv h1 (by omega) (by omega) (by omega) h3 h4 h5 h.1.1

theorem specCount_u (n : Int) (v : Value) (xs : List Int) (m : Int) (w : World) (hv : Ints w v xs) (hn : (Lit.int .i64 n).wf = true) :
    Calls Try.prog 42 #[.int .i64 n, v, .int .i64 m] w fun e w' => e = .returned (.tuple #[.int .i64 (cntR n xs m), .bool (cntOk n xs m)]) ∧ Below w.heap.size w w' := by
  have hca := specClashes_any n v xs w hv hn
  cases h : cntOk n xs m
  · rw [cntR_no h]
    unfold cntOk at h
    cases hc : clashesOk n xs
    · rw [hc] at hca
      have HCA := Lib.hid hca
      clear hca hv h hc
      go_enter Try.func42, Try.ntmps42
      go_wp2_with (go_at_call 88; refine HCA.out.mono ?_; rintro e W1 ⟨rfl, hb1⟩)
      go_ret2
      exact ⟨rfl, hb1⟩
    · rw [hc] at hca h
      have HCA := Lib.hid hca
      by_cases h8 : n ≤ 8
      · have hwf : win m 1 4 = false := by simpa [h8] using h
        have HWI : Hid (∀ W, Calls Try.prog 68 #[.int .i64 m, .int .i64 1, .int .i64 4] W fun e w' => e = .returned (.bool false) ∧ W = w') := fun W => by have := l00In_any m 1 4 W; rw [hwf] at this; exact this
        clear hca hv h hc hwf
        go_enter Try.func42, Try.ntmps42
        go_wp2_with (first | (go_at_call 88; refine HCA.out.mono ?_; rintro e W1 ⟨rfl, hb1⟩) | (go_at_call 68; refine (HWI.out _).mono ?_; rintro e w' ⟨rfl, rfl⟩))
        go_ret2
        exact ⟨rfl, hb1⟩
      · clear hca hv h hc
        go_enter Try.func42, Try.ntmps42
        go_wp2_with (first | (go_at_call 88; refine HCA.out.mono ?_; rintro e W1 ⟨rfl, hb1⟩))
        go_ret2
        exact ⟨rfl, hb1⟩
  · rw [cntR_yes h]
    unfold cntOk at h
    rw [Bool.and_eq_true, Bool.and_eq_true] at h
    obtain ⟨t, rfl, h1, h2, h3, h4, h5⟩ := clash_bounds h.1.1
    have h8 : (t : Int) ≤ 8 := by simpa using h.1.2
    obtain ⟨h6, h7⟩ := win_true.1 h.2
    obtain ⟨q, rfl⟩ : ∃ q : Nat, m = q := ⟨m.toNat, by omega⟩
    rw [Int.toNat_natCast, Int.toNat_natCast]
    rw [h.1.1] at hca
    have HCA := Lib.hid hca
    have hwin := h.2
    have HWI : Hid (∀ W, Calls Try.prog 68 #[.int .i64 q, .int .i64 1, .int .i64 4] W fun e w' => e = .returned (.bool true) ∧ W = w') := fun W => by have := l00In_any (q : Int) 1 4 W; rw [hwin] at this; exact this
    have HWY : Hid (∀ W, Below w.heap.size w W → Calls Try.prog 101 #[.int .i64 t, v, .slice (some ⟨W.heap.size, 0, none⟩) 0 0, .int .i64 q] (W.alloc (.cells #[] 2)) fun e W' => e = .returned (.int .i64 (ways xs q t [])) ∧ Below (W.heap.size + 1) (W.alloc (.cells #[] 2)) W') := fun W hW => by
      have hA : Below w.heap.size w (W.alloc (.cells #[] 2)) := hW.alloc hW.size _
      have := l07Ways_any t q v xs (by omega) (by omega) h4 h3 t 0 (by omega) (W.alloc (.cells #[] 2)) [] W.heap.size 0 (hv.below hA (Nat.le_refl _)) (OwnI.lit W 0 [] (Nat.zero_le _) (Nat.zero_le _)) rfl
      rw [World.size_alloc] at this
      exact this
    clear hca hv h hwin h5
    go_enter Try.func42, Try.ntmps42
    go_wp2_with (first | (go_at_call 88; refine HCA.out.mono ?_; rintro e W1 ⟨rfl, hb1⟩; have HB1 := Lib.hid hb1; clear hb1) | (go_at_call 68; refine (HWI.out _).mono ?_; rintro e w' ⟨rfl, rfl⟩) | (go_at_call 101; refine (HWY.out _ HB1.out).mono ?_; rintro e W2 ⟨rfl, hb2⟩; have HB2 := Lib.hid ((HB1.out.alloc HB1.out.size _).trans (hb2.mono (by have := HB1.out.size; omega))); clear hb2))
    go_ret2
    exact ⟨rfl, HB2.out⟩
end Go.Proofs.Ytmhepomjbaendaa
