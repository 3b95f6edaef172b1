
/- Tasks: the laws' toTaskS, eqTask, eqTaskS. Conditions: at most 2^20 numbers. -/
import Derived.Test.YtmhepomjbaendaaTasksTo
namespace Go.Proofs.Ytmhepomjbaendaa
open Go.RowKit
set_option linter.unusedVariables false
set_option linter.unusedSimpArgs false

theorem info_task : (Try.prog.info? 86).map (fun i => (i.zero, i.size, i.bytes)) = some (some (.agg #[.int .i64 0, .int .i64 0, .slice none 0 0, .slice none 0 0]), 4, 64) := by kernel_rfl

set_option maxRecDepth 100000 in
set_option maxHeartbeats 1000000 in
theorem eqTask_same (a0 a1 : Int) (vb vl ub ul : Value) (bs ls : List Int) (w : World) (hb : Ints w vb bs) (hl : Ints w vl ls) (hb' : Ints w ub bs) (hl' : Ints w ul ls) :
    Calls Try.prog 132 #[.agg #[.int .i64 a0, .int .i64 a1, vb, vl], .agg #[.int .i64 a0, .int .i64 a1, ub, ul]] w fun e w' => e = .returned (.bool true) ∧ Below w.heap.size w w' := by
  have H1 : Hid (∀ W, Below w.heap.size w W → Calls Try.prog 104 #[vb, ub] W fun e w' => e = .returned (.bool true) ∧ Below W.heap.size W w') := fun W hW => by
    have := eqInt64S_any vb ub bs bs W (hb.below hW (Nat.le_refl _)) (hb'.below hW (Nat.le_refl _)); rwa [beq_self_eq_true] at this
  have H2 : Hid (∀ W, Below w.heap.size w W → Calls Try.prog 104 #[vl, ul] W fun e w' => e = .returned (.bool true) ∧ Below W.heap.size W w') := fun W hW => by
    have := eqInt64S_any vl ul ls ls W (hl.below hW (Nat.le_refl _)) (hl'.below hW (Nat.le_refl _)); rwa [beq_self_eq_true] at this
  obtain ⟨_, b1, b2, rfl, _⟩ := hb
  obtain ⟨_, l1, l2, rfl, _⟩ := hl
  obtain ⟨_, b3, b4, rfl, _⟩ := hb'
  obtain ⟨_, l3, l4, rfl, _⟩ := hl'
  go_enter Try.func132, Try.ntmps132
  go_wp2_with fail
  obtain ⟨W0, hW0⟩ : ∃ W0, ((w.alloc (.cells #[.int .i64 a0, .int .i64 a1, .slice b1 bs.length b2, .slice l1 ls.length l2] 86)).alloc (.cells #[.int .i64 a0, .int .i64 a1, .slice b3 bs.length b4, .slice l3 ls.length l4] 86)) = W0 := ⟨_, rfl⟩
  have hB0 : Below w.heap.size w W0 := by rw [← hW0]; exact ((Below.refl _ w).alloc (Nat.le_refl _) _).alloc (by simp) _
  have k1 : Blk W0 w.heap.size 86 [.int .i64 a0, .int .i64 a1, .slice b1 bs.length b2, .slice l1 ls.length l2] := by rw [← hW0]; exact (Blk.new w _ _).alloc _
  have k2 : Blk W0 (w.heap.size + 1) 86 [.int .i64 a0, .int .i64 a1, .slice b3 bs.length b4, .slice l3 ls.length l4] := by
    rw [← hW0]
    have := Blk.new (w.alloc (.cells #[.int .i64 a0, .int .i64 a1, .slice b1 bs.length b2, .slice l1 ls.length l2] 86)) 86 [.int .i64 a0, .int .i64 a1, .slice b3 bs.length b4, .slice l3 ls.length l4]
    rwa [World.size_alloc] at this
  rw [hW0]
  have HB0 := Lib.hid hB0
  have l1' := k1.lt
  have l2' := k2.lt
  clear hW0 hB0
  refine (H1.out W0 HB0.out).mono ?_
  rintro e W1 ⟨rfl, hb1⟩
  have m1 := k1.below hb1 l1'
  have m2 := k2.below hb1 l2'
  have c1 := m1.cell 3 _ rfl
  have c2 := m2.cell 3 _ rfl
  have HB1 := Lib.hid (HB0.out.trans (hb1.mono HB0.out.size))
  clear hb1 m1 m2 k1 k2
  go_wp2_with fail
  refine (H2.out W1 HB1.out).mono ?_
  rintro e W2 ⟨rfl, hb2⟩
  have HB2 := Lib.hid (HB1.out.trans (hb2.mono HB1.out.size))
  clear hb2
  go_wp2
  go_ret
  exact ⟨rfl, HB2.out⟩

set_option maxRecDepth 100000 in
set_option maxHeartbeats 1000000 in
theorem eqTaskS_same (v u : Value) (xs : List Tk) (w : World) (hv : TasksR w v xs) (hu : TasksR w u xs) :
    Calls Try.prog 103 #[v, u] w fun e w' => e = .returned (.bool true) ∧ Below w.heap.size w w' := by
  have HV : Hid (∀ W, Below w.heap.size w W → TasksR W v xs) := fun W hW => hv.below hW (Nat.le_refl _)
  have HU : Hid (∀ W, Below w.heap.size w W → TasksR W u xs) := fun W hW => hu.below hW (Nat.le_refl _)
  have hm0 := hv.1
  unfold maxLen at hm0
  obtain ⟨a, c, rfl, hcap, _⟩ := hv.at_
  obtain ⟨a', c', rfl, hcap', _⟩ := hu.at_
  clear hv hu
  go_enter Try.func103, Try.ntmps103
  go_wp2
  go_loopw [5] (fun i wr => ∃ k : Nat, k ≤ xs.length ∧ i = .int .i64 k ∧ Below w.heap.size w wr) (fun i _ => xs.length - (intOf i).toNat)
  case atStart => exact ⟨0, Nat.zero_le _, rfl, Below.refl _ _⟩
  case round =>
    obtain ⟨k, hk, rfl, hb⟩ := hrel
    obtain ⟨wr', rfl⟩ : ∃ wr' : World, wr' = wr := ⟨_, rfl⟩
    have HB := Lib.hid hb
    by_cases hlt : k < xs.length
    · obtain ⟨a3, c3, hsl3, _, hc⟩ := (HV.out wr' hb).at_
      obtain ⟨rfl, rfl⟩ : a = a3 ∧ c = c3 := by simpa using hsl3
      obtain ⟨b, o, vb, vl, rfl, hbs, h1, h2, _, _, e0, e1, e2, e3⟩ := hc k hlt
      obtain ⟨a4, c4, hsl4, _, hc'⟩ := (HU.out wr' hb).at_
      obtain ⟨rfl, rfl⟩ : a' = a4 ∧ c' = c4 := by simpa using hsl4
      obtain ⟨b', o', ub, ul, rfl, hbs', h1', h2', _, _, f0, f1, f2, f3⟩ := hc' k hlt
      have HCALL : Hid (∀ q, Calls Try.prog 132 #[.agg #[.int .i64 xs[k].1, .int .i64 xs[k].2.1, vb, vl], .agg #[.int .i64 xs[k].1, .int .i64 xs[k].2.1, ub, ul]] (wr'.drewN q) _) := fun q =>
        eqTask_same xs[k].1 xs[k].2.1 vb vl ub ul xs[k].2.2.1 xs[k].2.2.2 (wr'.drewN q) (h1.ints.1.below (below_drewN q (Below.refl _ _)) (Nat.le_refl _)) (h2.ints.1.below (below_drewN q (Below.refl _ _)) (Nat.le_refl _)) (h1'.ints.1.below (below_drewN q (Below.refl _ _)) (Nat.le_refl _)) (h2'.ints.1.below (below_drewN q (Below.refl _ _)) (Nat.le_refl _))
      obtain ⟨x0, hx0⟩ : ∃ x0, xs[k].1 = x0 := ⟨_, rfl⟩
      obtain ⟨x1, hx1⟩ : ∃ x1, xs[k].2.1 = x1 := ⟨_, rfl⟩
      rw [hx0] at e0 f0 HCALL
      rw [hx1] at e1 f1 HCALL
      have hk0 : (0 : Int) ≤ (k : Int) := by omega
      have hk1 : (k : Int) < (xs.length : Int) := by omega
      clear hc hc' hsl3 hsl4 h1 h2 h1' h2' hx0 hx1 hb
      go_wp2
      go_still_tail 8, (by kernel_rfl)
      go_wp2_with (go_at_call 132; refine (HCALL.out 1).mono ?_; rintro e W1 ⟨rfl, hb1⟩; have HB1 := Lib.hid ((below_drewN 1 HB.out).trans (hb1.mono (by have := HB.out.size; exact this))); clear hb1)
      go_roundw
      case rel => exact ⟨k + 1, by omega, by go_num, HB1.out⟩
      case measure => simp [intOf]; omega
    · clear hb
      go_wp2
      go_ret
      exact ⟨rfl, HB.out⟩
end Go.Proofs.Ytmhepomjbaendaa
