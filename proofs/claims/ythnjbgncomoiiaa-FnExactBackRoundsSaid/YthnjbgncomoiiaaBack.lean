/- BackRounds, program and reference. Conditions: at most 2^20 numbers. -/
import Derived.Test.YthnjbgncomoiiaaRoundsSpec
import Derived.Test.YthnjbgncomoiiaaClone
import Derived.Test.YthnjbgncomoiiaaRoundTail
import Derived.Test.YthnjbgncomoiiaaAppendStep
import Derived.Outline
import Derived.IntWalk
namespace Go.Proofs.Ythnjbgncomoiiaa
open Go.RowKit Go.Shelf Go.BigFrame
set_option linter.unusedVariables false
set_option linter.unusedSimpArgs false
attribute [local go_sem] Oper.semAt_some

/-- The pairs turned round. -/
def swp (xs : List Int) (k : Nat) : List Int := (List.range k).flatMap fun j => [nth xs (2 * j + 1), nth xs (2 * j)]
theorem swp_zero (xs : List Int) : swp xs 0 = [] := rfl
theorem swp_succ (xs : List Int) (k : Nat) : swp xs (k + 1) = swp xs k ++ [nth xs (2 * k + 1), nth xs (2 * k)] := by
  unfold swp; rw [List.range_succ, List.flatMap_append]; simp
theorem swp_length (xs : List Int) (k : Nat) : (swp xs k).length = 2 * k := by
  induction k with
  | zero => rfl
  | succ k ih => rw [swp_succ, List.length_append, ih]; simp; omega
def bothL (xs : List Int) : List Int := xs ++ swp xs (xs.length / 2)
def backOk (n : Int) (xs : List Int) : Bool := roundsOk n xs && decide ((xs.length : Int) ≤ n * (n - 1)) && roundsOk n (bothL xs)
def backL (n : Int) (xs : List Int) : List Int := if backOk n xs then bothL xs else []

theorem rounds_even {n : Int} {xs : List Int} (h : roundsOk n xs = true) : ∃ t : Nat, n = t ∧ 2 ≤ t ∧ t ≤ 16 ∧ 2 ≤ xs.length ∧ xs.length ≤ 480 ∧ xs.length % 2 = 0 := by
  unfold roundsOk at h
  rw [Bool.and_eq_true, Bool.and_eq_true] at h
  obtain ⟨t, R, rfl, h1, h2, h3, hlen, hR1, hR2, hdiv, _⟩ := roundsHead_bounds h.1.1
  refine ⟨t, rfl, h1, h2, ?_, ?_, ?_⟩
  · rw [hlen]; exact Nat.le_trans h1 (Nat.le_mul_of_pos_left t (by omega))
  · rw [hlen]; exact Nat.le_trans (Nat.mul_le_mul hR2 h2) (by decide)
  · rw [hlen, Nat.mul_mod, h3, Nat.mul_zero]

set_option maxHeartbeats 1000000 in
theorem specBack_u (n : Int) (v : Value) (xs : List Int) (w : World) (hv : Ints w v xs) (hn : (Lit.int .i64 n).wf = true) (hl : xs.length ≤ 1048576) :
    Calls Try.prog 39 #[.int .i64 n, v] w fun e w' => (∃ v', e = .returned (.tuple #[v', .bool (backOk n xs)]) ∧ OwnI w' w.heap.size v' (backL n xs)) ∧ Below w.heap.size w w' := by
  have hr := l07Rounds_any n v xs w hv hn hl
  unfold backL
  cases hok : roundsOk n xs
  · have hb : backOk n xs = false := by unfold backOk; rw [hok]; rfl
    rw [hok] at hr
    rw [hb]
    have Hr := Lib.hid hr
    clear hr hb hok hv
    go_enter Try.func39, Try.ntmps39
    go_wp2_with (go_at_call 60; refine Hr.out.mono ?_; rintro e w' ⟨rfl, hb⟩)
    go_ret2
    exact ⟨⟨_, rfl, own_nil _ _⟩, hb⟩
  · obtain ⟨t, rfl, ht1, ht2, hl2, hl480, hev⟩ := rounds_even hok
    rw [hok] at hr
    obtain ⟨q, hq, hq0⟩ : ∃ q : Nat, (t : Int) * ((t : Int) - 1) = (q : Int) ∧ q ≤ 240 := by
      refine ⟨t * (t - 1), ?_, ?_⟩
      · rw [Int.natCast_mul, Int.natCast_sub (by omega)]; rfl
      · exact Nat.mul_le_mul ht2 (show t - 1 ≤ 15 by omega)
    have hOK : backOk (t : Int) xs = (decide ((xs.length : Int) ≤ (q : Int)) && roundsOk (t : Int) (bothL xs)) := by unfold backOk; rw [hok, hq]; simp
    have HOK := Lib.hid hOK
    have hall := fun w' v' (h : Ints w' v' (bothL xs)) => l07Rounds_any (t : Int) v' (bothL xs) w' h hn (by unfold bothL; rw [List.length_append, swp_length]; omega)
    have HALL := Lib.hid hall
    have Hr := Lib.hid hr
    obtain ⟨hm, a, c, rfl, hcap, hc⟩ := hv
    obtain ⟨b, o, ha0, hbs, hcs⟩ := row_at hc
    obtain rfl := ha0 (by omega)
    have hbs := hbs (by omega)
    have HCS := Lib.hid hcs
    clear hr hok hOK hall ha0 hc hcs
    by_cases hbig : (xs.length : Int) ≤ (q : Int)
    · have hgt : decide ((xs.length : Int) > (q : Int)) = false := by simpa using hbig
      have hok2 : backOk (t : Int) xs = roundsOk (t : Int) (bothL xs) := by rw [HOK.out]; simp [hbig]
      rw [hok2]
      clear hok2
      go_enter Try.func39, Try.ntmps39
      go_wp2_with (first | (go_at_call 60; refine Hr.out.mono ?_; rintro e W1 ⟨rfl, hb⟩; have ho := OwnI.lit W1 w.heap.size [] hb.size (by unfold maxLen; simp); have hB := hb.alloc hb.size (.cells #[] 2); have HO := Lib.hid ho; have HB := Lib.hid hB; have hW1 := hb.size; clear ho hB hb) | (at_builtin; refine append_from rfl _ _ rfl w.heap.size (.slice (some ⟨W1.heap.size, 0, none⟩) 0 0) [] xs (by omega) rfl b o c rfl (fun i h => (HB.out.cell (p := ⟨b, o + i, none⟩) hbs).trans (HCS.out i h)) HO.out (by simp; omega) (by simp; omega) ?_; intro g1 c1 w1 ho1 hg1; have hb1 := Below.app (hB := by simp; omega) (HB.out.trans (Below.refl _ _)) HO.out hg1; have Ho1 := Lib.hid ho1; have Hb1 := Lib.hid hb1; clear ho1 hg1 hb1))
      have HA : Hid (OwnI w1 w.heap.size (.slice (some ⟨g1, 0, none⟩) xs.length c1) xs) := by
        have := Ho1.out
        show OwnI _ _ _ _
        simpa using this
      clear Ho1
      go_loopw [6, 7] (fun v i wr => ∃ (m I : Nat) (Y : List Int), Hid (I = 2 * m) ∧ Hid (Y = xs ++ swp xs m) ∧ I ≤ xs.length ∧ i = .int .i64 I ∧ Below w.heap.size w wr ∧ ∃ g c, v = .slice (some ⟨g, 0, none⟩) Y.length c ∧ OwnI wr w.heap.size (.slice (some ⟨g, 0, none⟩) Y.length c) Y) (fun _ i _ => xs.length - (intOf i).toNat)
      case atStart => exact ⟨0, 0, xs, rfl, by rw [swp_zero, List.append_nil]; exact rfl, Nat.zero_le _, rfl, Hb1.out, g1, c1, rfl, HA.out⟩
      case round =>
        obtain ⟨m, I, Y, hmI, hY, hm, rfl, hB, g, c2, rfl, ho⟩ := hrel
        have hL480 : Y.length ≤ 960 := by rw [hY.out, List.length_append, swp_length, ← hmI.out]; omega
        have HO := Lib.hid ho
        have HB := Lib.hid hB
        clear ho hB HA Hb1
        have hwr := HB.out.size
        have hgw := HO.out.lt g rfl
        by_cases hlt : I < xs.length
        · have hlt2 : I + 1 < xs.length := by have := hmI.out; omega
          have e0 : wr.cell? ⟨b, o + I, none⟩ = some (.int .i64 (nth xs I)) := by rw [nth_eq hlt]; exact (HB.out.cell (p := ⟨b, o + I, none⟩) hbs).trans (HCS.out I hlt)
          have e1 : wr.cell? ⟨b, o + (I + 1), none⟩ = some (.int .i64 (nth xs (I + 1))) := by rw [nth_eq hlt2]; exact (HB.out.cell (p := ⟨b, o + (I + 1), none⟩) hbs).trans (HCS.out (I + 1) hlt2)
          obtain ⟨p0, hp0⟩ : ∃ p, nth xs I = p := ⟨_, rfl⟩
          obtain ⟨p1, hp1⟩ : ∃ p, nth xs (I + 1) = p := ⟨_, rfl⟩
          rw [hp0] at e0
          rw [hp1] at e1
          have HS : Hid (Y ++ [p1, p0] = xs ++ swp xs (m + 1)) := by show Y ++ _ = _; rw [swp_succ, ← hmI.out, hp0, hp1, hY.out, List.append_assoc]
          have i0 : (0 : Int) ≤ (I : Int) := by omega
          have i1 : (I : Int) < (xs.length : Int) := by omega
          have i2 : (I : Int) + 1 < (xs.length : Int) := by omega
          have s1 : IntKind.i64.wrap ((I : Int) + 1) = (I : Int) + 1 := IntWalk.i64_in _ (by omega)
          have s2 : (0 : Int) ≤ (I : Int) + 1 := by omega
          have s3 : ((I : Int) + 1).toNat = I + 1 := by omega
          have HBG : Hid (some b ≠ (Value.slice (some ⟨g, 0, none⟩) Y.length c2).ownBlock) := by
            show some b ≠ some g; intro h; cases h; omega
          clear hp0 hp1
          go_wp2
          go_region_held3 (fun w' => w'.cell? ⟨b, o + I, none⟩ = some (.int .i64 p0) ∧ w'.cell? ⟨b, o + (I + 1), none⟩ = some (.int .i64 p1))
            (first | go_keep | (go_split_ands; refine ⟨?_, ?_⟩ <;> (rw [hg3.cell_far _ (by simp; omega) HBG.out]; assumption)))
            ((refine step_append_i64 (by rfl) _ _ (by rfl) w.heap.size (.slice (some ⟨g, 0, none⟩) Y.length c2) Y [p1, p0] (by simp) (by rfl) 2 (by rfl) HO.out hwr (by simp; omega) ?_; intro g3 c3 w3 ho3 hg3))
          have hb3 := Below.app HB.out HO.out hg3 hwr
          have Ho3 := Lib.hid ho3
          have Hb3 := Lib.hid hb3
          clear ho3 hb3 hg3 s1 s3
          go_wp2
          go_roundw
          case rel => exact ⟨m + 1, I + 2, Y ++ [p1, p0], by have := hmI.out; show I + 2 = 2 * (m + 1); omega, HS, by omega, by go_num, Hb3.out, g3, c3, by simp, by simpa using Ho3.out⟩
          case measure => simp [intOf]; omega
        · have hYB : Y = bothL xs := by rw [hY.out]; unfold bothL; congr 2; have := hmI.out; omega
          have hr2 := HALL.out wr (.slice (some ⟨g, 0, none⟩) Y.length c2) (by rw [← hYB]; exact HO.out.ints)
          have Hr2 := Lib.hid hr2
          have HYB := Lib.hid hYB
          clear hr2 hYB
          cases hok3 : roundsOk (t : Int) (bothL xs)
          · rw [hok3] at Hr2
            go_wp2_with (go_at_call 60; refine Hr2.out.mono ?_; rintro e W2 ⟨rfl, hb2⟩)
            all_goals
              go_ret2
              exact ⟨⟨_, rfl, own_nil _ _⟩, HB.out.trans (hb2.mono hwr)⟩
          · rw [hok3] at Hr2
            go_wp2_with (go_at_call 60; refine Hr2.out.mono ?_; rintro e W2 ⟨rfl, hb2⟩)
            all_goals
              go_ret2
              exact ⟨⟨_, rfl, by simp only [if_true]; rw [← HYB.out]; exact HO.out.below hb2 (Nat.le_refl _)⟩, HB.out.trans (hb2.mono hwr)⟩
    · have hb : backOk (t : Int) xs = false := by rw [HOK.out]; simp [hbig]
      rw [hb]
      have hgt : (xs.length : Int) > (q : Int) := by omega
      clear hb
      go_enter Try.func39, Try.ntmps39
      go_wp2_with (go_at_call 60; refine Hr.out.mono ?_; rintro e w' ⟨rfl, hb⟩)
      go_ret2
      exact ⟨⟨_, rfl, own_nil _ _⟩, hb⟩
end Go.Proofs.Ythnjbgncomoiiaa
