
/- CircleRounds, program and reference: the contracts of both, by one plain list; and the laws' own marks on a result. Conditions: none. -/
import Derived.Test.YtmhepomjbaendaaAppend
import Derived.Shelf.Abstract
import Derived.Deep.RegionWith
namespace Go.Proofs.Ytmhepomjbaendaa
open Go.RowKit Go.Shelf
set_option linter.unusedVariables false
set_option linter.unusedSimpArgs false

def pairL (a b : Int) (first : Bool) : List Int := if first then [a, b] else [b, a]
/-- The pairs of round r, of t teams, up to the k-th. -/
def circRow (t r k : Nat) : List Int := pairL r ((t : Int) - 1) (r % 2 == 1) ++ (List.range k).flatMap fun (j : Nat) => pairL (((r : Int) + ((j : Int) + 1)) % ((t : Int) - 1)) (((r : Int) + ((t : Int) - 1) - ((j : Int) + 1)) % ((t : Int) - 1)) ((j + 1) % 2 == 1)
def circ (t n : Nat) : List Int := (List.range n).flatMap fun r => circRow t r (t / 2 - 1)

theorem pairL_length (a b : Int) (f : Bool) : (pairL a b f).length = 2 := by cases f <;> rfl
theorem circRow_succ (t r k : Nat) : circRow t r (k + 1) = circRow t r k ++ pairL (((r : Int) + (k + 1)) % ((t : Int) - 1)) (((r : Int) + ((t : Int) - 1) - (k + 1)) % ((t : Int) - 1)) ((k + 1) % 2 == 1) := by
  simp [circRow, List.range_succ]
theorem circ_succ (t n : Nat) : circ t (n + 1) = circ t n ++ circRow t n (t / 2 - 1) := by simp [circ, List.range_succ]
theorem circRow_length (t r k : Nat) : (circRow t r k).length = 2 * k + 2 := by
  induction k with
  | zero => simp [circRow, pairL_length]
  | succ k ih => rw [circRow_succ, List.length_append, ih, pairL_length]; omega
theorem circ_length (t n : Nat) (ht : 2 ≤ t) : (circ t n).length = n * (2 * (t / 2 - 1) + 2) := by
  induction n with
  | zero => simp [circ]
  | succ n ih => rw [circ_succ, List.length_append, ih, circRow_length, Nat.add_mul]; omega

theorem circ_small (t n : Nat) (h1 : 2 ≤ t) (h2 : t ≤ 16) (hn : n ≤ 16) : (circ t n).length ≤ 256 := by
  rw [circ_length t n h1]
  calc n * (2 * (t / 2 - 1) + 2) ≤ 16 * 16 := Nat.mul_le_mul hn (by omega)
    _ = 256 := rfl

/-- A box of a slice is not the block of a row of integers. -/
theorem own_ne {w : World} {B N g n c : Nat} {v : Value} {xs : List Int} (hb : Boxed w B 25 v) (ho : OwnI w N (.slice (some ⟨g, 0, none⟩) n c) xs) : g ≠ B := by
  have := Boxed.not_row hb (by decide) ho
  rw [ownBlock_slice] at this
  exact fun e => this (by rw [e])

theorem areTeams_any (n : Int) (w : World) (hn : (Lit.int .i64 n).wf = true) : Calls Try.prog 56 #[.int .i64 n] w fun e w' => e = .returned (.bool (win n 2 16 && (n % 2 == 0))) ∧ w = w' := by
  cases h : win n 2 16
  · go_enter Try.func56, Try.ntmps56
    go_wp2_with (go_at_call 60; refine (within_any _ _ _ _).mono ?_; rintro e w' ⟨rfl, rfl⟩)
    go_ret
    exact ⟨rfl, rfl⟩
  · obtain ⟨h1, h2⟩ := win_true.1 h
    go_enter Try.func56, Try.ntmps56
    go_wp2_with (go_at_call 60; refine (within_any _ _ _ _).mono ?_; rintro e w' ⟨rfl, rfl⟩)
    go_ret
    exact ⟨rfl, rfl⟩

set_option maxHeartbeats 800000 in
/-- The closure 'add'. -/
theorem circleAdd_any (a b : Int) (first : Bool) (B N g c : Nat) (xs : List Int) (w : World) (hb : Boxed w B 25 (.slice (some ⟨g, 0, none⟩) xs.length c)) (ho : OwnI w N (.slice (some ⟨g, 0, none⟩) xs.length c) xs) (hN : N ≤ B) (hg : g ≠ B) (hl : xs.length ≤ 1000000) :
    Calls Try.prog 57 #[.int .i64 a, .int .i64 b, .bool first, .pointer (some ⟨B, 0, none⟩)] w fun e w' => e = .returned (.tuple #[]) ∧ Below N w w' ∧ ∃ g' c', g' ≠ B ∧ Boxed w' B 25 (.slice (some ⟨g', 0, none⟩) (xs ++ pairL a b first).length c') ∧ OwnI w' N (.slice (some ⟨g', 0, none⟩) (xs ++ pairL a b first).length c') (xs ++ pairL a b first) := by
  have hlt := hb.lt
  have hc := hb.cell
  have hf := hb.frozen
  have HB := Lib.hid hb
  have HO := Lib.hid ho
  clear hb ho
  cases first
  · go_enter Try.func57, Try.ntmps57
    go_wp2_with (at_builtin; refine append_i64 rfl _ _ rfl N (.slice (some ⟨g, 0, none⟩) xs.length c) xs [b, a] (Nat.zero_lt_succ _) rfl _ rfl HO.out (by omega) (by simp; omega) ?_; intro g1 c1 w1 ho1 hg1; have hb1 : Boxed w1 B _ _ := HB.out.kept hg1 (by rw [ownBlock_slice]; intro e; exact hg (by cases e; rfl)); have hc1 := hb1.cell; have hf1 := hb1.frozen; have hB1 := Below.app (Below.refl N w) HO.out hg1 (by omega); have HO1 := Lib.hid ho1; have HB1 := Lib.hid hb1; have HG1 := Lib.hid hg1; clear ho1 hb1 hg1)
    have hgB : g1 ≠ B := own_ne HB1.out HO1.out
    have hl2 : (xs ++ pairL a b false).length = xs.length + 2 := by simp [pairL_length]
    go_end0
    refine ⟨rfl, hB1.setCell hN _, g1, c1, hgB, ?_, ?_⟩
    · rw [hl2]; exact HB1.out.set _
    · rw [hl2]; exact HO1.out.setCell _ (by rw [ownBlock_slice]; intro e; exact hgB (by cases e; rfl))
  · go_enter Try.func57, Try.ntmps57
    go_wp2_with (at_builtin; refine append_i64 rfl _ _ rfl N (.slice (some ⟨g, 0, none⟩) xs.length c) xs [a, b] (Nat.zero_lt_succ _) rfl _ rfl HO.out (by omega) (by simp; omega) ?_; intro g1 c1 w1 ho1 hg1; have hb1 : Boxed w1 B _ _ := HB.out.kept hg1 (by rw [ownBlock_slice]; intro e; exact hg (by cases e; rfl)); have hc1 := hb1.cell; have hf1 := hb1.frozen; have hB1 := Below.app (Below.refl N w) HO.out hg1 (by omega); have HO1 := Lib.hid ho1; have HB1 := Lib.hid hb1; have HG1 := Lib.hid hg1; clear ho1 hb1 hg1)
    have hgB : g1 ≠ B := own_ne HB1.out HO1.out
    have hl2 : (xs ++ pairL a b true).length = xs.length + 2 := by simp [pairL_length]
    go_end0
    refine ⟨rfl, hB1.setCell hN _, g1, c1, hgB, ?_, ?_⟩
    · rw [hl2]; exact HB1.out.set _
    · rw [hl2]; exact HO1.out.setCell _ (by rw [ownBlock_slice]; intro e; exact hgB (by cases e; rfl))
/-- What CircleRounds returns beside the list. -/
def teamsOk (n : Int) : Bool := win n 2 16 && (n % 2 == 0)
theorem teamsOk_bounds {n : Int} (h : teamsOk n = true) : ∃ t : Nat, n = t ∧ 2 ≤ t ∧ t ≤ 16 ∧ t % 2 = 0 := by
  simp only [teamsOk, Bool.and_eq_true, win_true, beq_iff_eq] at h
  exact ⟨n.toNat, by omega, by omega, by omega, by omega⟩

theorem implCircle_no (n : Int) (w : World) (hn : (Lit.int .i64 n).wf = true) (h : teamsOk n = false) :
    Calls Try.prog 12 #[.int .i64 n] w fun e w' => e = .returned (.tuple #[.slice none 0 0, .bool false]) ∧ Below w.heap.size w w' := by
  unfold teamsOk at h
  go_enter Try.func12, Try.ntmps12
  go_wp2_with (go_at_call 56; refine (areTeams_any _ _ hn).mono ?_; rintro e w' ⟨rfl, rfl⟩)
  go_ret2
  exact ⟨rfl, Below.refl _ _⟩

set_option maxHeartbeats 1600000 in
theorem implCircle_yes (t : Nat) (w : World) (h1 : 2 ≤ t) (h2 : t ≤ 16) (h3 : t % 2 = 0) :
    Calls Try.prog 12 #[.int .i64 t] w fun e w' => (∃ g c, e = .returned (.tuple #[.slice (some ⟨g, 0, none⟩) (circ t (t - 1)).length c, .bool true]) ∧ OwnI w' w.heap.size (.slice (some ⟨g, 0, none⟩) (circ t (t - 1)).length c) (circ t (t - 1))) ∧ Below w.heap.size w w' := by
  have hn : (Lit.int .i64 (t : Int)).wf = true := wf_i64_iff.2 ⟨by omega, by omega⟩
  have hok : (win (t : Int) 2 16 && ((t : Int) % 2 == 0)) = true := by simp [win]; omega
  have hmf : ∀ (fn : Fn) (first cap : Array Value) (w : World), (Instr.makeFunc fn first cap).run Try.prog w = .ok (.func fn first cap) w := fun _ _ _ _ => rfl
  have heg := enters_of Try.func57 (by kernel_rfl) rfl
  obtain ⟨W0, hW0⟩ : ∃ W0, ((w.alloc (.cells #[] 2)).alloc (.cells #[.slice (some ⟨w.heap.size, 0, none⟩) 0 0] 25)) = W0 := ⟨_, rfl⟩
  have hB0 : Below w.heap.size w W0 := by rw [← hW0]; exact ((Below.refl _ w).alloc (Nat.le_refl _) _).alloc (by simp) _
  have hb0 : Boxed W0 (w.heap.size + 1) 25 (.slice (some ⟨w.heap.size, 0, none⟩) 0 0) := by rw [← hW0]; have := Boxed.new (w.alloc (.cells #[] 2)) 25 (.slice (some ⟨w.heap.size, 0, none⟩) 0 0); rwa [World.size_alloc] at this
  have ho0 : OwnI W0 w.heap.size (.slice (some ⟨w.heap.size, 0, none⟩) 0 0) [] := by rw [← hW0]; exact (OwnI.lit w w.heap.size [] (Nat.le_refl _) (Nat.zero_le _)).alloc _
  go_enter Try.func12, Try.ntmps12
  go_wp2_with (go_at_call 56; refine (areTeams_any _ _ hn).mono ?_; rintro e w' ⟨rfl, rfl⟩)
  have hsz0 : w.heap.size + 2 ≤ W0.heap.size := by have := hb0.lt; omega
  clear hW0 hn hok
  go_loopw [7, 8, 17] (fun _ _ i wr => ∃ r : Nat, r ≤ t - 1 ∧ i = .int .i64 r ∧ Below w.heap.size w wr ∧ ∃ g c, g ≠ w.heap.size + 1 ∧ Boxed wr (w.heap.size + 1) 25 (.slice (some ⟨g, 0, none⟩) (circ t r).length c) ∧ OwnI wr w.heap.size (.slice (some ⟨g, 0, none⟩) (circ t r).length c) (circ t r)) (fun _ _ i _ => t - (intOf i).toNat)
  case atStart => exact ⟨0, Nat.zero_le _, rfl, hB0, w.heap.size, 0, by omega, hb0, ho0⟩
  case round =>
    obtain ⟨r, hr, rfl, hB, g, c, hg, hb, ho⟩ := hrel
    clear hb0 ho0 hB0
    have hsmall := circ_small t r h1 h2 (by omega)
    by_cases hlt : r < t - 1
    · have hone : (((r : Int) % 2) == 1) = (r % 2 == 1) := by rw [Bool.eq_iff_iff]; simp; omega
      go_wp2_with fail
      have Hone := Lib.hid hone
      clear hone
      refine (circleAdd_any _ _ _ (w.heap.size + 1) w.heap.size g c (circ t r) wr hb ho (by omega) hg (by omega)).mono ?_
      rintro e w1 ⟨rfl, hB1, g1, c1, hg1, hb1, ho1⟩
      have hB2 := hB.trans hB1
      have hrow : circ t r ++ pairL (↑r) (↑t - 1) (r % 2 == 1) = circ t r ++ circRow t r 0 := by simp [circRow]
      rw [hrow] at hb1 ho1
      clear hb ho hB hB1 hrow
      go_wp2_with fail
      obtain ⟨wo, hwo⟩ : ∃ wo : World, wo = w1 := ⟨_, rfl⟩
      subst hwo
      go_loopw [8] (fun k wk => ∃ j : Nat, j ≤ t / 2 - 1 ∧ k = .int .i64 ↑(j + 1) ∧ Below w.heap.size w wk ∧ ∃ g c, g ≠ w.heap.size + 1 ∧ Boxed wk (w.heap.size + 1) 25 (.slice (some ⟨g, 0, none⟩) (circ t r ++ circRow t r j).length c) ∧ OwnI wk w.heap.size (.slice (some ⟨g, 0, none⟩) (circ t r ++ circRow t r j).length c) (circ t r ++ circRow t r j)) (fun k _ => t - (intOf k).toNat)
      case atStart => exact ⟨0, Nat.zero_le _, rfl, hB2, g1, c1, hg1, hb1, ho1⟩
      case round =>
        obtain ⟨j, hj, rfl, hBk, gk, ck, hgk, hbk, hok⟩ := hrel
        clear hb1 ho1 hB2
        have hlen : (circ t r ++ circRow t r j).length ≤ 1000000 := by rw [List.length_append, circRow_length]; omega
        by_cases hltj : j < t / 2 - 1
        · have hone : (((j : Int) + 1) % 2 == 1) = ((j + 1) % 2 == 1) := by rw [Bool.eq_iff_iff]; simp; omega
          have hjt : (j : Int) + 1 ≤ (t : Int) - 1 := by omega
          have Hbk := Lib.hid hbk
          have Hok := Lib.hid hok
          have Hlen := Lib.hid hlen
          clear hbk hok hlen
          go_wp2_with fail
          go_region_with ((go_at_call 57; refine (circleAdd_any _ _ _ (w.heap.size + 1) w.heap.size gk ck (circ t r ++ circRow t r j) _ (by exact Hbk.out) (by exact Hok.out) (by omega) hgk Hlen.out).mono ?_; rintro e w5 ⟨rfl, hB5, g5, c5, hg5, hb5, ho5⟩))
          all_goals
            simp only [Int.tmod_eq_emod_of_nonneg (show (0 : Int) ≤ ↑r + (↑t - 1) - (↑j + 1) by omega), Int.tmod_eq_emod_of_nonneg (show (0 : Int) ≤ ↑r + (↑j + 1) by omega)] at hb5 ho5
            rw [List.append_assoc, ← circRow_succ t r j] at hb5 ho5
            have hB6 : Below w.heap.size w w5 := hBk.drew.trans hB5
            have Hb5 := Lib.hid hb5
            have Ho5 := Lib.hid ho5
            clear hb5 ho5 hB5 hBk
            go_wp2_with fail
            go_roundw
            case rel => exact ⟨j + 1, by omega, by go_num, hB6, g5, c5, hg5, Hb5.out, Ho5.out⟩
            case measure => simp [intOf]; omega
        · obtain rfl : j = t / 2 - 1 := by omega
          rw [← circ_succ] at hbk hok
          have Hbk := Lib.hid hbk
          have Hok := Lib.hid hok
          clear hbk hok
          go_wp2_with fail
          go_roundw
          case rel => exact ⟨r + 1, by omega, by go_num, hBk, gk, ck, hgk, Hbk.out, Hok.out⟩
          case measure => simp [intOf]; omega
    · have hbc := hb.cell
      obtain rfl : r = t - 1 := by omega
      go_wp2_with fail
      go_ret2
      exact ⟨⟨g, c, rfl, ho⟩, hB⟩
theorem l07Teams_any (n : Int) (w : World) (hn : (Lit.int .i64 n).wf = true) : Calls Try.prog 133 #[.int .i64 n] w fun e w' => e = .returned (.bool (teamsOk n)) ∧ w = w' := by
  unfold teamsOk
  cases h : win n 2 16
  · go_enter Try.func133, Try.ntmps133
    go_wp2_with (go_at_call 68; refine (l00In_any _ _ _ _).mono ?_; rintro e w' ⟨rfl, rfl⟩)
    go_ret
    exact ⟨rfl, rfl⟩
  · obtain ⟨h1, h2⟩ := win_true.1 h
    go_enter Try.func133, Try.ntmps133
    go_wp2_with (go_at_call 68; refine (l00In_any _ _ _ _).mono ?_; rintro e w' ⟨rfl, rfl⟩)
    go_ret
    exact ⟨rfl, rfl⟩

/-- The list that CircleRounds returns. -/
def circL (n : Int) : List Int := if teamsOk n then circ n.toNat (n.toNat - 1) else []
theorem circL_small (n : Int) : (circL n).length ≤ 256 := by
  unfold circL
  cases h : teamsOk n
  · simp
  · obtain ⟨t, rfl, h1, h2, h3⟩ := teamsOk_bounds h
    simpa using circ_small t (t - 1) h1 h2 (by omega)
theorem own_nil (w : World) (N : Nat) : OwnI w N (.slice none 0 0) [] := World.ownsRow_nil w N _ _

theorem implCircleRounds_u (n : Int) (w : World) (hn : (Lit.int .i64 n).wf = true) :
    Calls Try.prog 12 #[.int .i64 n] w fun e w' => (∃ v, e = .returned (.tuple #[v, .bool (teamsOk n)]) ∧ OwnI w' w.heap.size v (circL n)) ∧ Below w.heap.size w w' := by
  cases h : teamsOk n
  · refine (implCircle_no n w hn h).mono ?_
    rintro e w' ⟨rfl, hb⟩
    exact ⟨⟨_, rfl, by simp only [circL, h]; exact own_nil _ _⟩, hb⟩
  · obtain ⟨t, rfl, h1, h2, h3⟩ := teamsOk_bounds h
    refine (implCircle_yes t w h1 h2 h3).mono ?_
    rintro e w' ⟨⟨g, c, rfl, ho⟩, hb⟩
    exact ⟨⟨_, rfl, by simp only [circL, h]; exact ho⟩, hb⟩
end Go.Proofs.Ytmhepomjbaendaa
