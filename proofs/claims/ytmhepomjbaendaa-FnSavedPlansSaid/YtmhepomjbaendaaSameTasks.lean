
/- SameTasks, program and reference: one plain test. Conditions: none. -/
import Derived.Test.YtmhepomjbaendaaSameParts
import Derived.Test.YtmhepomjbaendaaTasksToS
import Derived.Deep.RegionWith
import Derived.Shelf.Abstract
namespace Go.Proofs.Ytmhepomjbaendaa
open Go.RowKit Go.Shelf Go.BigFrame
set_option linter.unusedVariables false
set_option linter.unusedSimpArgs false

theorem quiet_drewS {P : Program} {f : FuncId} {args : Array Value} {w : World} {n : Nat} {v : Value}
    (h : Calls P f args (w.drewN n) fun e w' => e = .returned v ∧ ∃ q, w' = (w.drewN n).drewN q) : Calls P f args (w.drewN n) fun e w'' => e = .returned v ∧ ∃ m, w'' = w.drewN m :=
  h.mono fun _ _ ⟨he, q, hq⟩ => ⟨he, n + q, by rw [hq]; simp⟩
/-- Two lists are as long, and alike at each place. -/
def allEq {α : Type} (eq : α → α → Bool) (xs ys : List α) : Bool := decide (xs.length = ys.length) && (xs.zip ys).all fun p => eq p.1 p.2
theorem allEq_len {α : Type} {eq : α → α → Bool} {xs ys : List α} (h : xs.length ≠ ys.length) : allEq eq xs ys = false := by simp [allEq, h]
theorem allEq_bad {α : Type} {eq : α → α → Bool} {xs ys : List α} {k : Nat} (h1 : k < xs.length) (h2 : k < ys.length) (h : eq xs[k] ys[k] = false) : allEq eq xs ys = false := by
  unfold allEq
  have : ((xs.zip ys).all fun p => eq p.1 p.2) = false := by
    rw [List.all_eq_false]
    refine ⟨(xs[k], ys[k]), ?_, by simp [h]⟩
    rw [← List.getElem_zip (h := by simp; omega)]
    exact List.getElem_mem _
  rw [this, Bool.and_false]
theorem allEq_end {α : Type} {eq : α → α → Bool} {xs ys : List α} (hl : xs.length = ys.length) (h : ∀ k (h1 : k < xs.length) (h2 : k < ys.length), eq xs[k] ys[k] = true) : allEq eq xs ys = true := by
  unfold allEq
  rw [Bool.and_eq_true, decide_eq_true_eq, List.all_eq_true]
  refine ⟨hl, fun p hp => ?_⟩
  obtain ⟨k, hk, rfl⟩ := List.mem_iff_getElem.1 hp
  rw [List.getElem_zip]
  exact h k _ _

def taskEq (x y : Tk) : Bool := (x.1 == y.1) && (x.2.1 == y.2.1) && (x.2.2.1 == y.2.2.1) && (x.2.2.2 == y.2.2.2)

set_option maxRecDepth 100000 in
set_option maxHeartbeats 4000000 in
theorem sameTask_any (a0 a1 b0 b1 : Int) (vb vl ub ul : Value) (bs ls cs ds : List Int) (w : World) (h1 : Ints w vb bs) (h2 : Ints w vl ls) (h3 : Ints w ub cs) (h4 : Ints w ul ds) :
    Calls Try.prog 127 #[.agg #[.int .i64 a0, .int .i64 a1, vb, vl], .agg #[.int .i64 b0, .int .i64 b1, ub, ul]] w fun e w' => e = .returned (.bool (taskEq (a0, a1, bs, ls) (b0, b1, cs, ds))) ∧ Below w.heap.size w w' := by
  have HX : Hid (taskEq (a0, a1, bs, ls) (b0, b1, cs, ds) = ((a0 == b0) && (a1 == b1) && (bs == cs) && (ls == ds))) := rfl
  have HA : Hid (∀ W, Below w.heap.size w W → Calls Try.prog 84 #[vb, ub] W fun e w' => e = .returned (.bool (bs == cs)) ∧ Below W.heap.size W w') := fun W hW => sliceEqInts_any vb ub bs cs W (h1.below hW (Nat.le_refl _)) (h3.below hW (Nat.le_refl _))
  have HL : Hid (∀ W, Below w.heap.size w W → Calls Try.prog 84 #[vl, ul] W fun e w' => e = .returned (.bool (ls == ds)) ∧ Below W.heap.size W w') := fun W hW => sliceEqInts_any vl ul ls ds W (h2.below hW (Nat.le_refl _)) (h4.below hW (Nat.le_refl _))
  have HB0 : Hid (Below w.heap.size w ((w.alloc (.cells #[.int .i64 a0, .int .i64 a1, vb, vl] 86)).alloc (.cells #[.int .i64 b0, .int .i64 b1, ub, ul] 86))) := ((Below.refl _ w).alloc (Nat.le_refl _) _).alloc (by simp) _
  obtain ⟨_, p1, p2, rfl, _⟩ := h1
  obtain ⟨_, q1, q2, rfl, _⟩ := h2
  obtain ⟨_, r1, r2, rfl, _⟩ := h3
  obtain ⟨_, s1, s2, rfl, _⟩ := h4
  obtain ⟨e0, he0⟩ : ∃ e, (a0 == b0) = e := ⟨_, rfl⟩
  obtain ⟨e1, he1⟩ : ∃ e, (a1 == b1) = e := ⟨_, rfl⟩
  obtain ⟨e2, he2⟩ : ∃ e, (bs == cs) = e := ⟨_, rfl⟩
  obtain ⟨e3, he3⟩ : ∃ e, (ls == ds) = e := ⟨_, rfl⟩
  rw [he0, he1, he2, he3] at HX
  rw [he2] at HA
  rw [he3] at HL
  clear he2 he3
  cases e0
  · have HF := Lib.hid HX.out
    clear HX
    go_enter Try.func127, Try.ntmps127
    go_wp2_with (first | (go_at_call_of 84 p1; refine (HA.out _ HB0.out).mono ?_; rintro e W1 ⟨rfl, hb1⟩; obtain ⟨hc1, hf1⟩ := bcell hb1; have HB1 := Lib.hid (HB0.out.trans (hb1.mono HB0.out.size)); have hz1 : w.heap.size + 1 < W1.heap.size := (by have := hb1.size; simp at this; omega); have hy1 : w.heap.size < W1.heap.size := (by omega); clear hb1) | (go_at_call_of 84 q1; refine (HL.out _ HB1.out).mono ?_; rintro e W2 ⟨rfl, hb2⟩; have HB2 := Lib.hid (HB1.out.trans (hb2.mono HB1.out.size)); clear hb2))
    go_ret
    exact ⟨ret_bool (by rw [HF.out]; rfl), HB0.out⟩
  · skip
    cases e1
    · have HF := Lib.hid HX.out
      clear HX
      go_enter Try.func127, Try.ntmps127
      go_wp2_with (first | (go_at_call_of 84 p1; refine (HA.out _ HB0.out).mono ?_; rintro e W1 ⟨rfl, hb1⟩; obtain ⟨hc1, hf1⟩ := bcell hb1; have HB1 := Lib.hid (HB0.out.trans (hb1.mono HB0.out.size)); have hz1 : w.heap.size + 1 < W1.heap.size := (by have := hb1.size; simp at this; omega); have hy1 : w.heap.size < W1.heap.size := (by omega); clear hb1) | (go_at_call_of 84 q1; refine (HL.out _ HB1.out).mono ?_; rintro e W2 ⟨rfl, hb2⟩; have HB2 := Lib.hid (HB1.out.trans (hb2.mono HB1.out.size)); clear hb2))
      go_ret
      exact ⟨ret_bool (by rw [HF.out]; rfl), HB0.out⟩
    · skip
      cases e2
      · have HF := Lib.hid HX.out
        clear HX
        go_enter Try.func127, Try.ntmps127
        go_wp2_with (first | (go_at_call_of 84 p1; refine (HA.out _ HB0.out).mono ?_; rintro e W1 ⟨rfl, hb1⟩; obtain ⟨hc1, hf1⟩ := bcell hb1; have HB1 := Lib.hid (HB0.out.trans (hb1.mono HB0.out.size)); have hz1 : w.heap.size + 1 < W1.heap.size := (by have := hb1.size; simp at this; omega); have hy1 : w.heap.size < W1.heap.size := (by omega); clear hb1) | (go_at_call_of 84 q1; refine (HL.out _ HB1.out).mono ?_; rintro e W2 ⟨rfl, hb2⟩; have HB2 := Lib.hid (HB1.out.trans (hb2.mono HB1.out.size)); clear hb2))
        go_ret
        exact ⟨ret_bool (by rw [HF.out]; rfl), HB1.out⟩
      · skip
        have HF := Lib.hid HX.out
        clear HX
        go_enter Try.func127, Try.ntmps127
        go_wp2_with (first | (go_at_call_of 84 p1; refine (HA.out _ HB0.out).mono ?_; rintro e W1 ⟨rfl, hb1⟩; obtain ⟨hc1, hf1⟩ := bcell hb1; have HB1 := Lib.hid (HB0.out.trans (hb1.mono HB0.out.size)); have hz1 : w.heap.size + 1 < W1.heap.size := (by have := hb1.size; simp at this; omega); have hy1 : w.heap.size < W1.heap.size := (by omega); clear hb1) | (go_at_call_of 84 q1; refine (HL.out _ HB1.out).mono ?_; rintro e W2 ⟨rfl, hb2⟩; have HB2 := Lib.hid (HB1.out.trans (hb2.mono HB1.out.size)); clear hb2))
        go_ret
        exact ⟨ret_bool (by rw [HF.out]; rfl), HB2.out⟩

set_option maxRecDepth 100000 in
set_option maxHeartbeats 4000000 in
theorem equalTasks_any (v u : Value) (xs ys : List Tk) (w : World) (hv : TasksR w v xs) (hu : TasksR w u ys) :
    Calls Try.prog 126 #[v, u, .func (.func 127) #[] #[]] w fun e w' => e = .returned (.bool (allEq taskEq xs ys)) ∧ Below w.heap.size w w' := by
  have hek : ∀ args w, (callFunc 127 args).run Try.prog w = .ok (.enter 127 args) w := enters_of Try.func127 (by kernel_rfl) rfl
  have HV : Hid (∀ W, Below w.heap.size w W → TasksR W v xs) := fun W hW => hv.below hW (Nat.le_refl _)
  have HU : Hid (∀ W, Below w.heap.size w W → TasksR W u ys) := fun W hW => hu.below hW (Nat.le_refl _)
  have hm0 := hv.1
  have hm1 := hu.1
  unfold maxLen at hm0 hm1
  obtain ⟨a, c, rfl, hcap, _⟩ := hv.at_
  obtain ⟨a', c', rfl, hcap', _⟩ := hu.at_
  clear hv hu
  by_cases hlen : xs.length = ys.length
  · have hl1 : ((xs.length : Int) != ys.length) = false := by simp [hlen]
    have Hlen := Lib.hid hlen
    clear hlen
    go_enter Try.func126, Try.ntmps126
    go_wp2
    go_loopw [17] (fun i wr => ∃ k : Nat, k ≤ xs.length ∧ i = .int .i64 k ∧ Below w.heap.size w wr ∧ Hid (∀ j (h1 : j < xs.length) (h2 : j < ys.length), j < k → taskEq xs[j] ys[j] = true)) (fun i _ => xs.length - (intOf i).toNat)
    case atStart => exact ⟨0, Nat.zero_le _, rfl, Below.refl _ _, fun j h1 h2 h => by omega⟩
    case round =>
      obtain ⟨k, hk, rfl, hb, hok⟩ := hrel
      obtain ⟨wr', rfl⟩ : ∃ wr' : World, wr' = wr := ⟨_, rfl⟩
      have HB := Lib.hid hb
      by_cases hlt : k < xs.length
      · have hlt' : k < ys.length := by have := Hlen.out; omega
        obtain ⟨a3, c3, hsl3, _, hc⟩ := (HV.out wr' hb).at_
        obtain ⟨rfl, rfl⟩ : a = a3 ∧ c = c3 := by simpa using hsl3
        obtain ⟨b, o, vb, vl, rfl, hbs, h1, h2, _, _, g0, g1, g2, g3⟩ := hc k hlt
        obtain ⟨a4, c4, hsl4, _, hc'⟩ := (HU.out wr' hb).at_
        obtain ⟨rfl, rfl⟩ : a' = a4 ∧ c' = c4 := by simpa using hsl4
        obtain ⟨b', o', ub, ul, rfl, hbs', h1', h2', _, _, f0, f1, f2, f3⟩ := hc' k hlt'
        have HBA : Hid (Below wr'.heap.size wr' ((wr'.alloc (.cells #[.int .i64 xs[k].1, .int .i64 xs[k].2.1, vb, vl] 86)).alloc (.cells #[.int .i64 ys[k].1, .int .i64 ys[k].2.1, ub, ul] 86))) := ((Below.refl _ _).alloc (Nat.le_refl _) _).alloc (by simp) _
        have hcall := sameTask_any xs[k].1 xs[k].2.1 ys[k].1 ys[k].2.1 vb vl ub ul xs[k].2.2.1 xs[k].2.2.2 ys[k].2.2.1 ys[k].2.2.2 _ (h1.ints.1.below HBA.out (Nat.le_refl _)) (h2.ints.1.below HBA.out (Nat.le_refl _)) (h1'.ints.1.below HBA.out (Nat.le_refl _)) (h2'.ints.1.below HBA.out (Nat.le_refl _))
        rw [show taskEq (xs[k].1, xs[k].2.1, xs[k].2.2.1, xs[k].2.2.2) (ys[k].1, ys[k].2.1, ys[k].2.2.1, ys[k].2.2.2) = taskEq xs[k] ys[k] from rfl] at hcall
        have HBAD : Hid (taskEq xs[k] ys[k] = false → allEq taskEq xs ys = false) := fun h => allEq_bad hlt hlt' h
        have HOK : Hid (taskEq xs[k] ys[k] = true → ∀ j (h1 : j < xs.length) (h2 : j < ys.length), j < k + 1 → taskEq xs[j] ys[j] = true) := fun h j q1 q2 q3 => by
          rcases Nat.lt_succ_iff_lt_or_eq.1 q3 with h4 | rfl
          · exact hok.out j q1 q2 h4
          · exact h
        obtain ⟨x0, hx0⟩ : ∃ z, xs[k].1 = z := ⟨_, rfl⟩
        obtain ⟨x1, hx1⟩ : ∃ z, xs[k].2.1 = z := ⟨_, rfl⟩
        obtain ⟨y0, hy0⟩ : ∃ z, ys[k].1 = z := ⟨_, rfl⟩
        obtain ⟨y1, hy1⟩ : ∃ z, ys[k].2.1 = z := ⟨_, rfl⟩
        obtain ⟨Y, hY⟩ : ∃ z, taskEq xs[k] ys[k] = z := ⟨_, rfl⟩
        rw [hY] at hcall HBAD HOK
        rw [hx0] at g0 hcall HBA
        rw [hx1] at g1 hcall HBA
        rw [hy0] at f0 hcall HBA
        rw [hy1] at f1 hcall HBA
        obtain ⟨_, p1, p2, rfl, _⟩ := h1.ints.1
        obtain ⟨_, q1, q2, rfl, _⟩ := h2.ints.1
        obtain ⟨_, r1, r2, rfl, _⟩ := h1'.ints.1
        obtain ⟨_, s1, s2, rfl, _⟩ := h2'.ints.1
        have hk0 : (0 : Int) ≤ (k : Int) := by omega
        have hk1 : (k : Int) < (xs.length : Int) := by omega
        have hk2 : (k : Int) < (ys.length : Int) := by omega
        have HCALL := Lib.hid hcall
        clear hcall hc hc' hsl3 hsl4 h1 h2 h1' h2' hx0 hx1 hy0 hy1 hY hok hb
        cases Y
        · have HF := Lib.hid (HBAD.out rfl)
          go_wp2_with (go_at_call 127; refine HCALL.out.mono ?_; rintro e W1 ⟨rfl, hb1⟩; have HB1 := Lib.hid (HB.out.trans ((HBA.out.trans (hb1.mono HBA.out.size)).mono HB.out.size)); clear hb1)
          go_ret
          exact ⟨ret_bool HF.out.symm, HB1.out⟩
        · have HF := Lib.hid (HOK.out rfl)
          go_wp2_with (go_at_call 127; refine HCALL.out.mono ?_; rintro e W1 ⟨rfl, hb1⟩; have HB1 := Lib.hid (HB.out.trans ((HBA.out.trans (hb1.mono HBA.out.size)).mono HB.out.size)); clear hb1)
          go_roundw
          case rel => exact ⟨k + 1, by omega, by go_num, HB1.out, HF.out⟩
          case measure => simp [intOf]; omega
      · have HF : Hid (allEq taskEq xs ys = true) := allEq_end Hlen.out fun j h1 h2 => hok.out j h1 h2 (by omega)
        clear hok
        go_wp2
        go_ret
        exact ⟨ret_bool HF.out.symm, HB.out⟩
  · have hl1 : ((xs.length : Int) != ys.length) = true := by simp; omega
    have HF : Hid (allEq taskEq xs ys = false) := allEq_len hlen
    clear hlen
    go_enter Try.func126, Try.ntmps126
    go_wp2
    go_ret
    exact ⟨ret_bool HF.out.symm, Below.refl _ _⟩
theorem implSameTasks_any (v u : Value) (xs ys : List Tk) (w : World) (hv : TasksR w v xs) (hu : TasksR w u ys) :
    Calls Try.prog 83 #[v, u] w fun e w' => e = .returned (.bool (allEq taskEq xs ys)) ∧ Below w.heap.size w w' := by
  have H := Lib.hid (equalTasks_any v u xs ys w hv hu)
  obtain ⟨_, a, c, rfl, _⟩ := hv
  obtain ⟨_, a', c', rfl, _⟩ := hu
  go_enter Try.func83, Try.ntmps83
  go_wp2_with (go_at_call 126; refine H.out.mono ?_; rintro e w' ⟨rfl, hb⟩)
  go_ret
  exact ⟨rfl, hb⟩

end Go.Proofs.Ytmhepomjbaendaa
