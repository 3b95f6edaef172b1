
/- Tasks: how they read; the laws' szTask, toTask, eqTask and those over lists. Conditions: at most 2^20 numbers. -/
import Derived.Test.YtmakjgbldejcpaaRead
import Derived.Test.YtmakjgbldejcpaaDeskLaw
import Derived.StillTailTactics
namespace Go.Proofs.Ytmakjgbldejcpaa
open Go.RowKit
set_option linter.unusedVariables false
set_option linter.unusedSimpArgs false

abbrev Tk := Int × Int × List Int × List Int
def rTask : Rdr Tk := rPair rInt (rPair rInt (rPair (rSl rInt) (rSl rInt)))
theorem task_cells {w : World} {cs : List Value} {x : Tk} : rTask.R w cs x ↔ ∃ vb vl, cs = [.int .i64 x.1, .int .i64 x.2.1, vb, vl] ∧ (Lit.int .i64 x.1).wf = true ∧ (Lit.int .i64 x.2.1).wf = true ∧ SlR rInt w vb x.2.2.1 ∧ SlR rInt w vl x.2.2.2 := by
  constructor
  · rintro ⟨c1, c2, rfl, ⟨rfl, h1⟩, c3, c4, rfl, ⟨rfl, h2⟩, c5, c6, rfl, ⟨vb, rfl, h3⟩, vl, rfl, h4⟩
    exact ⟨vb, vl, rfl, h1, h2, h3, h4⟩
  · rintro ⟨vb, vl, rfl, h1, h2, h3, h4⟩
    exact ⟨_, _, rfl, ⟨rfl, h1⟩, _, _, rfl, ⟨rfl, h2⟩, _, _, rfl, ⟨vb, rfl, h3⟩, vl, rfl, h4⟩
abbrev TasksR (w : World) (v : Value) (xs : List Tk) : Prop := SlR rTask w v xs
theorem rTask_size : rTask.size = 4 := rfl
/-- The four cells of a task. -/
theorem TasksR.at_ {w : World} {v : Value} {xs : List Tk} (h : TasksR w v xs) : ∃ a c, v = .slice a xs.length c ∧ xs.length ≤ c ∧ ∀ i (hi : i < xs.length), ∃ b o vb vl, a = some ⟨b, o, none⟩ ∧ b < w.heap.size ∧ SlR rInt w vb xs[i].2.2.1 ∧ SlR rInt w vl xs[i].2.2.2 ∧ (Lit.int .i64 xs[i].1).wf = true ∧ (Lit.int .i64 xs[i].2.1).wf = true ∧
    w.cell? ⟨b, o + i * 4, none⟩ = some (.int .i64 xs[i].1) ∧ w.cell? ⟨b, o + i * 4 + 1, none⟩ = some (.int .i64 xs[i].2.1) ∧ w.cell? ⟨b, o + i * 4 + 2, none⟩ = some vb ∧ w.cell? ⟨b, o + i * 4 + 3, none⟩ = some vl := by
  obtain ⟨hm, a, c, hv, hcap, hc⟩ := h
  refine ⟨a, c, hv, hcap, fun i hi => ?_⟩
  obtain ⟨b, o, cs, ha, hbs, hr, hcell⟩ := hc i hi
  obtain ⟨vb, vl, rfl, h1, h2, h3, h4⟩ := task_cells.1 hr
  refine ⟨b, o, vb, vl, ha, hbs, h3, h4, h1, h2, ?_, ?_, ?_, ?_⟩
  · exact hcell 0 (by simp)
  · exact hcell 1 (by simp)
  · exact hcell 2 (by simp)
  · exact hcell 3 (by simp)

/-- No more numbers than a machine can copy at once. -/
def smallTask (x : Tk) : Prop := x.2.2.1.length ≤ 1048576 ∧ x.2.2.2.length ≤ 1048576
def smallTasks (xs : List Tk) : Prop := xs.length ≤ 1048576 ∧ ∀ x ∈ xs, smallTask x

theorem szInt64S_any (v : Value) (xs : List Int) (left : Int) (w : World) (hv : Ints w v xs) (h0 : 0 ≤ left) (h1 : left ≤ 1048576) :
    Calls Try.prog 65 #[v, .int .i64 left] w fun e w' => (∃ r : Int, e = .returned (.int .i64 r) ∧ (r = -1 ∨ 0 ≤ r ∧ r ≤ left ∧ xs.length ≤ 1048576)) ∧ w = w' := by
  obtain ⟨hm, a, c, rfl, hcap, hc⟩ := hv
  unfold maxLen at hm
  clear hc
  by_cases hlt : left < (xs.length : Int)
  · have hd : left - (xs.length : Int) < 0 := by omega
    go_enter Try.func65, Try.ntmps65
    go_wp2
    go_ret
    exact ⟨⟨-1, rfl, .inl rfl⟩, rfl⟩
  · have hd : ¬ left - (xs.length : Int) < 0 := by omega
    go_enter Try.func65, Try.ntmps65
    go_wp2
    go_ret
    exact ⟨⟨_, rfl, .inr ⟨by omega, by omega, by omega⟩⟩, rfl⟩

theorem szTask_any (a0 a1 : Int) (vb vl : Value) (bs ls : List Int) (left : Int) (w : World) (hb : Ints w vb bs) (hl : Ints w vl ls) (h0 : 0 ≤ left) (h1 : left ≤ 1048576) :
    Calls Try.prog 130 #[.agg #[.int .i64 a0, .int .i64 a1, vb, vl], .int .i64 left] w fun e w' => (∃ r : Int, e = .returned (.int .i64 r) ∧ (r = -1 ∨ 0 ≤ r ∧ r ≤ left ∧ bs.length ≤ 1048576 ∧ ls.length ≤ 1048576)) ∧ Below w.heap.size w w' := by
  have hB : Below w.heap.size w (w.alloc (.cells #[.int .i64 a0, .int .i64 a1, vb, vl] 138)) := (Below.refl _ w).alloc (Nat.le_refl _) _
  have H1 := Lib.hid (szInt64S_any vb bs left _ (hb.below hB (Nat.le_refl _)) h0 h1)
  have H2 : Hid (∀ left' : Int, 0 ≤ left' → left' ≤ 1048576 → Calls Try.prog 65 #[vl, .int .i64 left'] (w.alloc (.cells #[.int .i64 a0, .int .i64 a1, vb, vl] 138)) _) := fun left' q0 q1 => szInt64S_any vl ls left' _ (hl.below hB (Nat.le_refl _)) q0 q1
  have HB := Lib.hid hB
  obtain ⟨_, b1, b2, rfl, _⟩ := hb
  obtain ⟨_, l1, l2, rfl, _⟩ := hl
  clear hB
  go_enter Try.func130, Try.ntmps130
  go_wp2_with fail
  refine H1.out.mono ?_
  rintro e w' ⟨⟨r, rfl, hr⟩, rfl⟩
  by_cases hr0 : r < 0
  · go_wp2
    go_ret
    exact ⟨⟨-1, rfl, .inl rfl⟩, HB.out⟩
  · have HR : Hid (0 ≤ r ∧ r ≤ left ∧ bs.length ≤ 1048576) := by rcases hr with h | h; omega; exact h
    have r0 := HR.out.1
    have r1 := HR.out.2.1
    clear hr
    go_wp2_with fail
    refine (H2.out r r0 (by omega)).mono ?_
    rintro e w' ⟨⟨r2, rfl, hr2⟩, rfl⟩
    by_cases hr20 : r2 < 0
    · go_wp2
      go_ret
      exact ⟨⟨-1, rfl, .inl rfl⟩, HB.out⟩
    · have HR2 : Hid (0 ≤ r2 ∧ r2 ≤ r ∧ ls.length ≤ 1048576) := by rcases hr2 with h | h; omega; exact h
      clear hr2
      go_wp2
      go_ret
      exact ⟨⟨r2, rfl, .inr ⟨HR2.out.1, by have := HR2.out; omega, HR.out.2.2, HR2.out.2.2⟩⟩, HB.out⟩

set_option maxHeartbeats 1000000 in
theorem szTaskS_any (v : Value) (xs : List Tk) (left : Int) (w : World) (hv : TasksR w v xs) (h0 : 0 ≤ left) (h1 : left ≤ 1048576) :
    Calls Try.prog 83 #[v, .int .i64 left] w fun e w' => (∃ r : Int, e = .returned (.int .i64 r) ∧ (r = -1 ∨ 0 ≤ r ∧ r ≤ left ∧ smallTasks xs)) ∧ Below w.heap.size w w' := by
  have hm := hv.1
  have HV : Hid (∀ W, Below w.heap.size w W → TasksR W v xs) := fun W hW => hv.below hW (Nat.le_refl _)
  obtain ⟨a, c, rfl, hcap, hc⟩ := hv.at_
  unfold maxLen at hm
  clear hc hv
  by_cases hlt : left < (xs.length : Int)
  · have hd : left - (xs.length : Int) < 0 := by omega
    go_enter Try.func83, Try.ntmps83
    go_wp2
    go_ret
    exact ⟨⟨-1, rfl, .inl rfl⟩, Below.refl _ _⟩
  · have hd : ¬ left - (xs.length : Int) < 0 := by omega
    have hxl : xs.length ≤ 1048576 := by omega
    go_enter Try.func83, Try.ntmps83
    go_wp2
    go_loopw [1, 5] (fun vl vi wr => ∃ (k : Nat) (q : Int), k ≤ xs.length ∧ vi = .int .i64 k ∧ vl = .int .i64 q ∧ 0 ≤ q ∧ q ≤ left ∧ Below w.heap.size w wr ∧ Hid (∀ i (hi : i < xs.length), i < k → smallTask xs[i])) (fun _ vi _ => xs.length - (intOf vi).toNat)
    case atStart => exact ⟨0, _, Nat.zero_le _, rfl, rfl, by omega, by omega, Below.refl _ _, fun i hi h => by omega⟩
    case round =>
      obtain ⟨k, q, hk, rfl, rfl, hq0, hq1, hB, hs⟩ := hrel
      have HB := Lib.hid hB
      by_cases hkl : k < xs.length
      · obtain ⟨_, a2, c2, hsl, _⟩ := HV.out wr hB
        obtain ⟨a3, c3, hsl3, _, hc⟩ := (HV.out wr hB).at_
        obtain ⟨rfl, rfl⟩ : a = a3 ∧ c = c3 := by simpa using hsl3
        obtain ⟨b, o, vb, vl, rfl, hbs, h1, h2, _, _, e0, e1, e2, e3⟩ := hc k hkl
        have hsz := szTask_any xs[k].1 xs[k].2.1 vb vl xs[k].2.2.1 xs[k].2.2.2 q wr h1.ints.1 h2.ints.1 hq0 (by omega)
        obtain ⟨x0, hx0⟩ : ∃ x0, xs[k].1 = x0 := ⟨_, rfl⟩
        obtain ⟨x1, hx1⟩ : ∃ x1, xs[k].2.1 = x1 := ⟨_, rfl⟩
        rw [hx0] at e0 hsz
        rw [hx1] at e1 hsz
        have k0 : (0 : Int) ≤ (k : Int) := by omega
        have k1 : (k : Int) < (xs.length : Int) := by omega
        have HSZ := Lib.hid hsz
        clear hsz hc hsl hsl3 h1 h2 hx0 hx1 hB
        go_wp2_with fail
        refine HSZ.out.mono ?_
        rintro e W1 ⟨⟨r, rfl, hr⟩, hb1⟩
        have HB1 := Lib.hid (HB.out.trans (hb1.mono HB.out.size))
        clear hb1
        by_cases hr0 : r < 0
        · go_wp2
          go_ret
          exact ⟨⟨-1, rfl, .inl rfl⟩, HB1.out⟩
        · have HR : Hid (0 ≤ r ∧ r ≤ q ∧ smallTask xs[k]) := by rcases hr with h | h; omega; exact ⟨h.1, h.2.1, h.2.2⟩
          clear hr
          go_wp2
          go_roundw
          case rel =>
            refine ⟨k + 1, r, by omega, by go_num, rfl, HR.out.1, by have := HR.out; omega, HB1.out, fun i hi h => ?_⟩
            rcases Nat.lt_succ_iff_lt_or_eq.1 h with h | rfl
            · exact hs.out i hi h
            · exact HR.out.2.2
          case measure => simp [intOf]; omega
      · have HS : Hid (smallTasks xs) := ⟨hxl, fun x hx => by
          obtain ⟨i, hi, rfl⟩ := List.mem_iff_getElem.1 hx
          exact hs.out i hi (by omega)⟩
        clear hs hB
        go_wp2
        go_ret
        exact ⟨⟨q, rfl, .inr ⟨hq0, hq1, HS.out⟩⟩, HB.out⟩
end Go.Proofs.Ytmakjgbldejcpaa
