
/- Slices of structs of some cells; jobs; the laws' eqJob, eqJobS. Conditions: none. -/
import Derived.Test.YtcjeededlhdcbaaDoorMarks
import Derived.StillTailTactics
namespace Go.Proofs.YtcjeededlhdcbaaDoor
open Go.RowKit
set_option linter.unusedVariables false
set_option linter.unusedSimpArgs false

/-- The slice value v reads as the list xs, k cells an element. -/
def SlN {α : Type} (k : Nat) (enc : α → List Value) (w : World) (v : Value) (xs : List α) : Prop :=
  xs.length ≤ maxLen ∧ ∃ a c, v = .slice a xs.length c ∧ xs.length ≤ c ∧ ∀ i (h : i < xs.length), ∃ b o, a = some ⟨b, o, none⟩ ∧ b < w.heap.size ∧ ∀ j (hj : j < (enc xs[i]).length), w.cell? ⟨b, o + (i * k + j), none⟩ = some (enc xs[i])[j]
theorem SlN.below {α : Type} {k : Nat} {enc : α → List Value} {w w' : World} {v : Value} {xs : List α} {B : Nat} (h : SlN k enc w v xs) (hb : Below B w w') (hB : w.heap.size ≤ B) : SlN k enc w' v xs := by
  obtain ⟨hm, a, c, hv, hcap, hc⟩ := h
  refine ⟨hm, a, c, hv, hcap, fun i hi => ?_⟩
  obtain ⟨b, o, ha, hbs, hcell⟩ := hc i hi
  exact ⟨b, o, ha, by have := hb.size; omega, fun j hj => (hb.cell (p := ⟨b, o + (i * k + j), none⟩) (by show b < B; omega)).trans (hcell j hj)⟩

abbrev Jb := Int × Int × Int × Int
def jbCells (j : Jb) : List Value := [.int .i64 j.1, .int .i64 j.2.1, .int .i64 j.2.2.1, .int .i64 j.2.2.2]
abbrev Jobs (w : World) (v : Value) (xs : List Jb) : Prop := SlN 4 jbCells w v xs
def jbAgg (j : Jb) : Value := .agg #[.int .i64 j.1, .int .i64 j.2.1, .int .i64 j.2.2.1, .int .i64 j.2.2.2]

theorem eqJob_any (a0 a1 a2 a3 b0 b1 b2 b3 : Int) (w : World) :
    Calls Tryd.prog 32 #[.agg #[.int .i64 a0, .int .i64 a1, .int .i64 a2, .int .i64 a3], .agg #[.int .i64 b0, .int .i64 b1, .int .i64 b2, .int .i64 b3]] w fun e w' =>
      e = .returned (.bool ((a0, a1, a2, a3) == (b0, b1, b2, b3))) ∧ Below w.heap.size w w' := by
  have hB : Below w.heap.size w ((w.alloc (.cells #[.int .i64 a0, .int .i64 a1, .int .i64 a2, .int .i64 a3] 60)).alloc (.cells #[.int .i64 b0, .int .i64 b1, .int .i64 b2, .int .i64 b3] 60)) := ((Below.refl _ w).alloc (Nat.le_refl _) _).alloc (by simp) _
  have HB := Lib.hid hB
  clear hB
  obtain ⟨r, hr⟩ : ∃ r, ((a0, a1, a2, a3) == (b0, b1, b2, b3)) = r := ⟨_, rfl⟩
  have HR := Lib.hid hr
  rw [hr]
  clear hr
  go_enter Tryd.func32, Tryd.ntmps32
  go_wp2
  all_goals
    go_ret
    refine ⟨ret_bool ?_, HB.out⟩
    rw [← HR.out]
    simp_all

set_option maxRecDepth 100000 in
set_option maxHeartbeats 1000000 in
theorem eqJobS_any (v u : Value) (xs ys : List Jb) (w : World) (hv : Jobs w v xs) (hu : Jobs w u ys) :
    Calls Tryd.prog 11 #[v, u] w fun e w' => e = .returned (.bool (xs == ys)) ∧ Below w.heap.size w w' := by
  obtain ⟨hm, a, c, rfl, hcap, hc⟩ := hv
  obtain ⟨hm', a', c', rfl, hcap', hc'⟩ := hu
  unfold maxLen at hm hm'
  by_cases hlen : xs.length = ys.length
  · have hl1 : ((xs.length : Int) != ys.length) = false := by simp [hlen]
    have HC := Lib.hid hc
    have HC' := Lib.hid hc'
    have Hlen := Lib.hid hlen
    clear hc hc' hlen
    go_enter Tryd.func11, Tryd.ntmps11
    go_wp2
    go_loopw [5] (fun i wr => ∃ k : Nat, k ≤ xs.length ∧ i = .int .i64 k ∧ xs.take k = ys.take k ∧ Below w.heap.size w wr) (fun i _ => xs.length - (intOf i).toNat)
    case atStart => exact ⟨0, Nat.zero_le _, rfl, rfl, Below.refl _ _⟩
    case round =>
      obtain ⟨k, hk, rfl, heq, hb⟩ := hrel
      by_cases hlt : k < xs.length
      · have hlt' : k < ys.length := by have := Hlen.out; omega
        obtain ⟨b, o, rfl, hbs, hc1⟩ := HC.out k hlt
        obtain ⟨b', o', rfl, hbs', hc1'⟩ := HC'.out k hlt'
        have e0 : wr.cell? ⟨b, o + k * 4, none⟩ = some (.int .i64 xs[k].1) := (hb.cell (p := ⟨b, o + k * 4, none⟩) hbs).trans (hc1 0 (by simp [jbCells]))
        have e1 : wr.cell? ⟨b, o + k * 4 + 1, none⟩ = some (.int .i64 xs[k].2.1) := (hb.cell (p := ⟨b, o + k * 4 + 1, none⟩) hbs).trans (hc1 1 (by simp [jbCells]))
        have e2 : wr.cell? ⟨b, o + k * 4 + 2, none⟩ = some (.int .i64 xs[k].2.2.1) := (hb.cell (p := ⟨b, o + k * 4 + 2, none⟩) hbs).trans (hc1 2 (by simp [jbCells]))
        have e3 : wr.cell? ⟨b, o + k * 4 + 3, none⟩ = some (.int .i64 xs[k].2.2.2) := (hb.cell (p := ⟨b, o + k * 4 + 3, none⟩) hbs).trans (hc1 3 (by simp [jbCells]))
        have f0 : wr.cell? ⟨b', o' + k * 4, none⟩ = some (.int .i64 ys[k].1) := (hb.cell (p := ⟨b', o' + k * 4, none⟩) hbs').trans (hc1' 0 (by simp [jbCells]))
        have f1 : wr.cell? ⟨b', o' + k * 4 + 1, none⟩ = some (.int .i64 ys[k].2.1) := (hb.cell (p := ⟨b', o' + k * 4 + 1, none⟩) hbs').trans (hc1' 1 (by simp [jbCells]))
        have f2 : wr.cell? ⟨b', o' + k * 4 + 2, none⟩ = some (.int .i64 ys[k].2.2.1) := (hb.cell (p := ⟨b', o' + k * 4 + 2, none⟩) hbs').trans (hc1' 2 (by simp [jbCells]))
        have f3 : wr.cell? ⟨b', o' + k * 4 + 3, none⟩ = some (.int .i64 ys[k].2.2.2) := (hb.cell (p := ⟨b', o' + k * 4 + 3, none⟩) hbs').trans (hc1' 3 (by simp [jbCells]))
        have hk0 : (0 : Int) ≤ (k : Int) := by omega
        have hk1 : (k : Int) < (xs.length : Int) := by omega
        have hk2 : (k : Int) < (ys.length : Int) := by omega
        have HSX : Hid (xs.take (k + 1) = xs.take k ++ [xs[k]]) := List.take_succ_eq_append_getElem hlt
        have HSY : Hid (ys.take (k + 1) = ys.take k ++ [ys[k]]) := List.take_succ_eq_append_getElem hlt'
        have HNE : Hid ((xs[k] == ys[k]) = false → (xs == ys) = false) := fun h => by
          rw [beq_eq_false_iff_ne] at h ⊢
          rintro rfl; exact h rfl
        obtain ⟨⟨x0, x1, x2, x3⟩, hx⟩ : ∃ p, xs[k] = p := ⟨_, rfl⟩
        obtain ⟨⟨y0, y1, y2, y3⟩, hy⟩ : ∃ p, ys[k] = p := ⟨_, rfl⟩
        rw [hx] at e0 e1 e2 e3 HSX HNE
        rw [hy] at f0 f1 f2 f3 HSY HNE
        have Heq := Lib.hid heq
        have HB := Lib.hid hb
        clear hc1 hc1' heq hb hx hy
        cases hne : (((x0, x1, x2, x3) : Jb) == (y0, y1, y2, y3))
        all_goals
          have HNE2 := Lib.hid hne
          clear hne
          go_wp2
          go_still_tail 8, (by kernel_rfl)
          go_wp2_with (go_at_call 32; refine (eqJob_any _ _ _ _ _ _ _ _ _).mono ?_; rw [HNE2.out]; rintro e W1 ⟨rfl, hb1⟩)
        · go_ret
          exact ⟨ret_bool (HNE.out HNE2.out).symm, (below_drewN 1 HB.out).trans (hb1.mono (by have := HB.out.size; exact this))⟩
        · go_roundw
          case rel => exact ⟨k + 1, by omega, by go_num, by rw [HSX.out, HSY.out, Heq.out, beq_iff_eq.1 HNE2.out], (below_drewN 1 HB.out).trans (hb1.mono (by have := HB.out.size; exact this))⟩
          case measure => simp [intOf]; omega
      · have Heq := Lib.hid heq
        clear heq
        go_wp2
        go_ret
        refine ⟨ret_bool ?_, hb⟩
        symm
        rw [beq_iff_eq]
        have h := Heq.out
        have h2 := Hlen.out
        rwa [List.take_of_length_le (by omega), List.take_of_length_le (by omega)] at h
  · have hl1 : ((xs.length : Int) != ys.length) = true := by simp; omega
    have Hlen := Lib.hid hlen
    clear hlen hc hc'
    go_enter Tryd.func11, Tryd.ntmps11
    go_wp2
    go_ret
    refine ⟨ret_bool ?_, Below.refl _ _⟩
    symm
    rw [beq_eq_false_iff_ne]
    rintro rfl
    exact Hlen.out rfl

theorem eqRule_any (a0 a1 a2 a3 a4 b0 b1 b2 b3 b4 : Int) (w : World) :
    Calls Tryd.prog 8 #[.agg #[.int .i64 a0, .int .i64 a1, .int .i64 a2, .int .i64 a3, .int .i64 a4], .agg #[.int .i64 b0, .int .i64 b1, .int .i64 b2, .int .i64 b3, .int .i64 b4]] w fun e w' =>
      e = .returned (.bool ((a0, a1, a2, a3, a4) == (b0, b1, b2, b3, b4))) ∧ Below w.heap.size w w' := by
  have hB : Below w.heap.size w ((w.alloc (.cells #[.int .i64 a0, .int .i64 a1, .int .i64 a2, .int .i64 a3, .int .i64 a4] 23)).alloc (.cells #[.int .i64 b0, .int .i64 b1, .int .i64 b2, .int .i64 b3, .int .i64 b4] 23)) := ((Below.refl _ w).alloc (Nat.le_refl _) _).alloc (by simp) _
  have HB := Lib.hid hB
  clear hB
  obtain ⟨r, hr⟩ : ∃ r, ((a0, a1, a2, a3, a4) == (b0, b1, b2, b3, b4)) = r := ⟨_, rfl⟩
  have HR := Lib.hid hr
  rw [hr]
  clear hr
  go_enter Tryd.func8, Tryd.ntmps8
  go_wp2
  all_goals
    go_ret
    refine ⟨ret_bool ?_, HB.out⟩
    rw [← HR.out]
    simp_all
end Go.Proofs.YtcjeededlhdcbaaDoor
