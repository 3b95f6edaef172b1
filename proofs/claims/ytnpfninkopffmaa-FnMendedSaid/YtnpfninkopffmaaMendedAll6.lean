/- A plan that is mended: plain law (what both programs compute). Conditions: none. With texts that it needs. -/
import Derived.Test.YtnpfninkopffmaaMendedAll5
import Derived.BigFrame
import Derived.Test.YtnpfninkopffmaaMendedAll3
namespace Go.Proofs.Ytnpfninkopffmaa
open Go.RowKit Go.Shelf Go.BigFrame
set_option linter.unusedVariables false
set_option linter.unusedSimpArgs false
attribute [local go_sem] Oper.semAt_some

def talksHead (xs : List Int) : Bool := many xs 2 64 0 10000 && decide (xs.length % 2 = 0)
def talksOk (xs : List Int) : Bool := talksHead xs && (List.range (xs.length / 2)).all fun j => decide (nth xs (2 * j) < nth xs (2 * j + 1))

theorem implTalks_no (v : Value) (xs : List Int) (w : World) (hv : Ints w v xs) (h : talksHead xs = false) :
    Calls Try.prog 29 #[v] w fun e w' => e = .returned (.bool false) ∧ Below w.heap.size w w' := by
  have hv1 : Ints (w.alloc (.cells #[.bool false] 4)) v xs := hv.below ((Below.refl _ _).alloc (Nat.le_refl _) _) (Nat.le_refl _)
  obtain ⟨hm, a, c, rfl, hcap, hc⟩ := hv
  clear hc
  unfold maxLen at hm
  unfold talksHead at h
  cases h1 : many xs 2 64 0 10000
  · go_enter Try.func29, Try.ntmps29
    go_wp2_with (go_at_call 73; refine (areMany_any _ xs 2 64 _ _ _ hv1).mono ?_; rintro e w' ⟨rfl, rfl⟩)
    exact bodyPost_ret (v := .bool false) (by simp [results, Try.results29, go_sem]) rfl ⟨rfl, (Below.refl _ _).alloc (Nat.le_refl _) _⟩
  · have h3 : ¬ xs.length % 2 = 0 := by simpa [h1] using h
    have h3' : (((xs.length : Int) % 2) != 0) = true := by simp; omega
    go_enter Try.func29, Try.ntmps29
    go_wp2_with (go_at_call 73; refine (areMany_any _ xs 2 64 _ _ _ hv1).mono ?_; rintro e w' ⟨rfl, rfl⟩)
    exact bodyPost_ret (v := .bool false) (by simp [results, Try.results29, go_sem]) rfl ⟨rfl, (Below.refl _ _).alloc (Nat.le_refl _) _⟩

theorem implTalks_yes (v : Value) (xs : List Int) (w : World) (m : Nat) (hv : Ints w v xs) (h : many xs 2 64 0 10000 = true) (hxm : xs.length = 2 * m) :
    Calls Try.prog 29 #[v] w fun e w' => e = .returned (.bool ((List.range m).all fun j => decide (nth xs (2 * j) < nth xs (2 * j + 1)))) ∧ Below w.heap.size w w' := by
  have hv1 : Ints (w.alloc (.cells #[.bool false] 4)) v xs := hv.below ((Below.refl _ _).alloc (Nat.le_refl _) _) (Nat.le_refl _)
  obtain ⟨hm, a, c, rfl, hcap, hc⟩ := hv
  unfold maxLen at hm
  have hlen : xs.length ≤ 64 := by have := (many_true.1 h).2.1; omega
  have h3' : (((xs.length : Int) % 2) != 0) = false := by simp; omega
  have HXM := Lib.hid hxm
  clear hxm
  obtain ⟨b, o, ha0, hbs, hcs⟩ := row_at hc
  clear hc
  refine (callsIn_wide (n := 9)).1 ?_
  refine callsIn_of_wp_marks Try.func29 rfl trivial ?_ rfl
  simp only [Try.ntmps29, List.size_toArray, List.length_cons, List.length_nil, Nat.reduceAdd, Nat.reduceSub, Array.replicate_succ, Array.replicate_zero, List.push_toArray, List.append_toArray, List.nil_append, List.cons_append]
  refine wpIn_wide.2 ?_
  go_wp2_with (first | (go_at_call 73; refine (areMany_any _ xs 2 64 _ _ _ hv1).mono ?_; rintro e w' ⟨rfl, rfl⟩) | (go_at_call 58; refine (chunk_call _ _ _ _ _ (by omega)).mono ?_; rintro e W0 ⟨rfl, hW0⟩))
  have hsz : W0.heap.size = w.heap.size + 3 := by have := hW0.size; simpa using this
  have hB0 : Below w.heap.size w W0 := ((Below.refl _ w).alloc (Nat.le_refl _) _).trans (hW0.below.mono (by simp))
  have hR0 : Boxed W0 w.heap.size 4 (.bool false) := (hW0.below.block _ (by simp)).trans (Boxed.new _ _ _)
  have hs0 : W0.cell? ⟨w.heap.size + 1, 0, none⟩ = some (.slice a xs.length c) := by have := hW0.s; simpa using this
  have hn0 : W0.cell? ⟨w.heap.size + 1 + 1, 0, none⟩ = some (.int .i64 2) := by have := hW0.n; simpa using this
  clear hW0
  refine chunk_loop (k := 9) (by omega) (Bs := w.heap.size + 1) (Bn := w.heap.size + 1 + 1) rfl b o c 2 m xs.length a HXM.out (by omega) (by omega) ha0 hs0 hcap hn0 rfl
    (fun pre W => Boxed W w.heap.size 4 (.bool false) ∧ Below w.heap.size w W ∧ ∀ x ∈ pre, nth xs (2 * x.1) < nth xs (2 * x.1 + 1))
    (fun cd pre W => cd = .ret ∧ Boxed W w.heap.size 4 (.bool false) ∧ Below w.heap.size w W ∧ ∃ x ∈ pre, nth xs (2 * x.1 + 1) ≤ nth xs (2 * x.1))
    ?hI ?hIx ?h0 ?a1 ?hassign ?hbody ?hdone ?hstop
  case hassign =>
    intro l x W K hK
    gi_wp2
    exact hK
  case hI => exact OwnFrom.and (ownFrom_boxed _ _ _ _) (OwnFrom.and (ownFrom_below (by omega) (by omega)) (ownFrom_pure _ _))
  case hIx => exact fun cd => OwnFrom.and (ownFrom_pure _ _) (OwnFrom.and (ownFrom_boxed _ _ _ _) (OwnFrom.and (ownFrom_below (by omega) (by omega)) (ownFrom_pure _ _)))
  case h0 => exact ⟨hR0, hB0, by simp⟩
  case hbody =>
    rintro l pre x W hl hr ⟨hR, hB, hp⟩
    obtain ⟨e0, e1⟩ := pair_cells hbs hcs hB (Nat.le_refl _) HXM.out x
    have hRc := hR.cell
    have hRf := hR.frozen
    unfold chunkAt
    clear hr hs0 hn0 hcs
    by_cases hq : nth xs (2 * x.1 + 1) ≤ nth xs (2 * x.1)
    · have hp' : ∃ y ∈ pre ++ [x], nth xs (2 * y.1 + 1) ≤ nth xs (2 * y.1) := ⟨x, by simp, hq⟩
      clear hp
      gi_wp2
      refine round_quiet_lit (by kernel_rfl) (by kernel_rfl) (by kernel_rfl) ?_
      repeat (gi_big_quiet_step (fail))
      refine wpQuietIn_nil ?_
      intro _ hw'
      obtain ⟨nq, hw''⟩ := hw'
      subst hw''
      gi_wp2
      refine ⟨((KeepsFrom.refl _ _).drewN _).setCell _ _, rfl, ?_, (below_drewN _ hB).setCell (Nat.le_refl _) _, hp'⟩
      exact Boxed.set _ (show Boxed (W.drewN nq) _ _ _ from hR)
    · have hp' : ∀ y ∈ pre ++ [x], nth xs (2 * y.1) < nth xs (2 * y.1 + 1) := by
        intro y hy
        rcases List.mem_append.1 hy with h | h
        · exact hp y h
        · obtain rfl : y = x := by simpa using h
          omega
      have hk : Keep2 (w.heap.size + 1) (w.heap.size + 1 + 1) W W := Keep2.refl _ _ _
      clear hp
      gi_wp2
      refine round_quiet_lit (by kernel_rfl) (by kernel_rfl) (by kernel_rfl) ?_
      repeat (gi_big_quiet_step (fail))
      refine wpQuietIn_nil ?_
      intro _ hw'
      obtain ⟨nq, hw''⟩ := hw'
      subst hw''
      gi_wp2
      exact ⟨(KeepsFrom.refl _ _).drewN _, hk.drewN _, hR, below_drewN _ hB, hp'⟩
  case hdone =>
    rintro D W hD ⟨hR, hB, hp⟩ hK
    have hRc := hR.cell
    have hRf := hR.frozen
    go_wp2
    have hR' := boxed_putObj (o' := .deferred none) (Boxed.set (.bool true) hR) (kept_setCell hK)
    have hc' := hR'.cell
    refine bodyM_ret (v := .bool true) rfl (kept_setCell hK) (by simp [results, Try.results29, go_sem, hc']) ⟨ret_bool ?_, below_putObj (hB.setCell (Nat.le_refl _) _) (by omega) (kept_setCell hK)⟩
    symm
    rw [List.all_eq_true]
    intro j hj
    have := hp ⟨j, by simpa using hj⟩ (List.mem_finRange _)
    simpa using this
  case hstop =>
    rintro D cd pre W hD hS ⟨rfl, hR, hB, hp⟩ hK
    go_wp2
    have hR' := boxed_putObj (o' := .deferred none) hR hK
    have hc' := hR'.cell
    refine bodyM_ret (v := .bool false) rfl hK (by simp [results, Try.results29, go_sem, hc']) ⟨ret_bool ?_, below_putObj hB (by omega) hK⟩
    symm
    rw [List.all_eq_false]
    obtain ⟨y, _, hy⟩ := hp
    exact ⟨y.1, by simp, by simpa using hy⟩

theorem implTalks_any (v : Value) (xs : List Int) (w : World) (hv : Ints w v xs) :
    Calls Try.prog 29 #[v] w fun e w' => e = .returned (.bool (talksOk xs)) ∧ Below w.heap.size w w' := by
  cases h : talksHead xs
  · refine (implTalks_no v xs w hv h).mono ?_
    rintro e w' ⟨rfl, hb⟩
    exact ⟨by simp [talksOk, h], hb⟩
  · have h3 : many xs 2 64 0 10000 = true ∧ xs.length % 2 = 0 := by simpa [talksHead] using h
    refine (implTalks_yes v xs w (xs.length / 2) hv h3.1 (by omega)).mono ?_
    rintro e w' ⟨rfl, hb⟩
    exact ⟨by simp [talksOk, h], hb⟩

theorem talks_split {xs : List Int} (hl : 2 ≤ xs.length) (h2 : xs.length ≤ 64) (h3 : xs.length % 2 = 0)
    (h : ∀ j, 2 * j < xs.length → 0 ≤ nth xs (2 * j) ∧ nth xs (2 * j) ≤ 10000 ∧ nth xs (2 * j) + 1 ≤ nth xs (2 * j + 1) ∧ nth xs (2 * j + 1) ≤ 10000) : talksOk xs = true := by
  have h1 : (xs.all fun x => win x 0 10000) = true := by
    rw [List.all_eq_true]; intro x hx
    obtain ⟨i, hi, rfl⟩ := List.getElem_of_mem hx
    rw [win_true, ← nth_eq hi]
    rcases Nat.mod_two_eq_zero_or_one i with e | e
    · have := h (i / 2) (by omega)
      rw [show 2 * (i / 2) = i by omega] at this; omega
    · have := h (i / 2) (by omega)
      rw [show 2 * (i / 2) + 1 = i by omega] at this; omega
  have h4 : ((List.range (xs.length / 2)).all fun j => decide (nth xs (2 * j) < nth xs (2 * j + 1))) = true := by
    rw [List.all_eq_true]; intro j hj
    have := h j (by have := List.mem_range.1 hj; omega)
    simp; omega
  have h5 : many xs 2 64 0 10000 = true := many_true.2 ⟨by omega, by omega, h1⟩
  simp [talksOk, talksHead, h5, h3, h4]

theorem talks_bad {xs : List Int} (h3 : xs.length % 2 = 0) (j : Nat) (hj : 2 * j < xs.length) (h : ¬ (0 ≤ nth xs (2 * j) ∧ nth xs (2 * j) ≤ 10000 ∧ nth xs (2 * j) + 1 ≤ nth xs (2 * j + 1) ∧ nth xs (2 * j + 1) ≤ 10000)) : talksOk xs = false := by
  cases hc : talksOk xs
  · rfl
  · exfalso
    simp only [talksOk, talksHead, many, Bool.and_eq_true, List.all_eq_true, decide_eq_true_eq] at hc
    obtain ⟨⟨⟨_, ha⟩, _⟩, hb⟩ := hc
    have h0 := win_true.1 (ha _ (List.getElem_mem (show 2 * j < xs.length from hj)))
    have h1 := win_true.1 (ha _ (List.getElem_mem (show 2 * j + 1 < xs.length by omega)))
    rw [← nth_eq] at h0 h1
    have := hb j (List.mem_range.2 (by omega))
    omega

set_option maxHeartbeats 1000000 in
theorem specTalks_any (v : Value) (xs : List Int) (w : World) (hv : Ints w v xs) (hwf : ∀ n ∈ xs, (Lit.int .i64 n).wf = true) :
    Calls Try.prog 55 #[v] w fun e w' => e = .returned (.bool (talksOk xs)) ∧ Below w.heap.size w w' := by
  obtain ⟨hm, a, c, rfl, hcap, hc⟩ := hv
  unfold maxLen at hm
  by_cases h1 : 2 ≤ xs.length
  · by_cases h2 : xs.length ≤ 64
    · by_cases h3 : xs.length % 2 = 0
      · have h3' : (((xs.length : Int) % 2) != 0) = false := by simp; omega
        have H3 := Lib.hid h3
        clear h3
        obtain ⟨b, o, ha0, hbs, hcs⟩ := row_at hc
        obtain rfl := ha0 (by omega)
        have hbs := hbs (by omega)
        clear hc ha0
        go_enter Try.func55, Try.ntmps55
        go_wp2
        go_loopw [3] (fun i wr => ∃ j : Nat, 2 * j ≤ xs.length ∧ i = .int .i64 ↑(2 * j) ∧ Below w.heap.size w wr ∧ ∀ j', j' < j → 0 ≤ nth xs (2 * j') ∧ nth xs (2 * j') ≤ 10000 ∧ nth xs (2 * j') + 1 ≤ nth xs (2 * j' + 1) ∧ nth xs (2 * j' + 1) ≤ 10000) (fun i _ => xs.length - (intOf i).toNat)
        case atStart => exact ⟨0, Nat.zero_le _, rfl, Below.refl _ _, fun i hi => by omega⟩
        case round =>
          obtain ⟨j, hj, rfl, hb, hr⟩ := hrel
          have Hr := Lib.hid hr
          clear hr
          obtain ⟨k, hk⟩ : ∃ k, 2 * j = k := ⟨_, rfl⟩
          have Hk := Lib.hid hk
          rw [hk] at hj ⊢
          clear hk
          by_cases hlt : k < xs.length
          · have hlt2 : k + 1 < xs.length := by have := H3.out; have := Hk.out; omega
            have e0 : wr.cell? ⟨b, o + k, none⟩ = some (.int .i64 (nth xs k)) := by rw [nth_eq hlt]; exact (hb.cell (p := ⟨b, o + k, none⟩) hbs).trans (hcs k hlt)
            have e1 : wr.cell? ⟨b, o + (k + 1), none⟩ = some (.int .i64 (nth xs (k + 1))) := by rw [nth_eq hlt2]; exact (hb.cell (p := ⟨b, o + (k + 1), none⟩) hbs).trans (hcs (k + 1) hlt2)
            have hb0 := wf_i64_iff.1 (hwf _ (List.getElem_mem hlt))
            rw [← nth_eq] at hb0
            obtain ⟨p, hp⟩ : ∃ p, nth xs k = p := ⟨_, rfl⟩
            obtain ⟨q, hq⟩ : ∃ q, nth xs (k + 1) = q := ⟨_, rfl⟩
            rw [hp] at e0 hb0
            rw [hq] at e1
            obtain ⟨hb0a, hb0b⟩ := hb0
            have Hp := Lib.hid hp
            have Hq := Lib.hid hq
            have hk0 : (0 : Int) ≤ (k : Int) := by omega
            have hk1 : (k : Int) < (xs.length : Int) := by omega
            have hk2 : (k : Int) + 1 < (xs.length : Int) := by omega
            clear hp hq hcs
            cases hw : win p 0 10000
            · go_wp2
              go_quiet ((go_at_call 54; exact quiet_eq (l00In_any _ _ _ _)))
              go_wp2
              go_ret
              refine ⟨ret_bool ?_, below_drewN _ hb⟩
              symm
              refine talks_bad H3.out j (by have := Hk.out; omega) ?_
              rw [Hk.out, Hp.out]
              have := win_false.1 hw
              omega
            · obtain ⟨hw1, hw2⟩ := win_true.1 hw
              cases hw' : win q (p + 1) 10000
              · go_wp2
                go_quiet ((go_at_call 54; exact quiet_eq (l00In_any _ _ _ _)))
                go_wp2
                go_ret
                refine ⟨ret_bool ?_, below_drewN _ hb⟩
                symm
                refine talks_bad H3.out j (by have := Hk.out; omega) ?_
                rw [Hk.out, Hp.out, Hq.out]
                have := win_false.1 hw'
                omega
              · go_wp2
                go_quiet ((go_at_call 54; exact quiet_eq (l00In_any _ _ _ _)))
                go_wp2
                go_roundw
                case rel =>
                  refine ⟨j + 1, by have := Hk.out; omega, by have := Hk.out; rw [← this]; go_num, below_drewN _ hb, fun i hi => ?_⟩
                  rcases Nat.lt_succ_iff_lt_or_eq.1 hi with h | rfl
                  · exact Hr.out i h
                  · rw [Hk.out, Hp.out, Hq.out]
                    have := win_true.1 hw'
                    omega
                case measure => simp [intOf]; omega
          · go_wp2
            go_ret
            refine ⟨ret_bool ?_, hb⟩
            symm
            exact talks_split h1 h2 H3.out (fun i hi => Hr.out i (by have := Hk.out; omega))
      · have h3' : (((xs.length : Int) % 2) != 0) = true := by simp; omega
        clear hc
        go_enter Try.func55, Try.ntmps55
        go_wp2
        go_ret
        exact ⟨ret_bool (by simp [talksOk, talksHead, h3]), Below.refl _ _⟩
    · clear hc
      go_enter Try.func55, Try.ntmps55
      go_wp2
      go_ret
      exact ⟨ret_bool (by simp [talksOk, talksHead, many]; omega), Below.refl _ _⟩
  · clear hc
    go_enter Try.func55, Try.ntmps55
    go_wp2
    go_ret
    exact ⟨ret_bool (by simp [talksOk, talksHead, many]; omega), Below.refl _ _⟩

end Go.Proofs.Ytnpfninkopffmaa

namespace Go.Proofs.Ytnpfninkopffmaa
open Go.RowKit Go.BigFrame
set_option linter.unusedVariables false
set_option linter.unusedSimpArgs false
attribute [local go_sem] Oper.semAt_some

def meetB (xs : List Int) (i k : Nat) : Bool := decide (nth xs (2 * i) < nth xs (2 * k + 1)) && decide (nth xs (2 * k) < nth xs (2 * i + 1))
theorem meetB_comm (xs : List Int) (i k : Nat) : meetB xs i k = meetB xs k i := by unfold meetB; rw [Bool.and_comm]

theorem talk_any (v : Value) (xs : List Int) (i : Nat) (w : World) (hv : Ints w v xs) (hi : 2 * i + 1 < xs.length) (hl : xs.length ≤ 64) (p : Int) (hp : Hid (p = i)) :
    Calls Try.prog 109 #[v, .int .i64 p] w fun e w' => e = .returned (.tuple #[.int .i64 (nth xs (2 * i)), .int .i64 (nth xs (2 * i + 1))]) ∧ ∃ q, w' = w.drewN q := by
  obtain rfl := hp.out
  obtain ⟨hm, a, c, rfl, hcap, hc⟩ := hv
  obtain ⟨b, o, ha0, hbs, hcs⟩ := row_at hc
  obtain rfl := ha0 (by omega)
  have e0 := hcs (2 * i) (by omega)
  have e1 := hcs (2 * i + 1) hi
  rw [← nth_eq] at e0 e1
  obtain ⟨I, hI⟩ : ∃ I, 2 * i = I := ⟨_, rfl⟩
  rw [hI] at e0 e1 hi ⊢
  have hIi : 2 * (i : Int) = (I : Int) := by omega
  have w0 : IntKind.i64.wrap (2 * (i : Int)) = (I : Int) := by rw [hIi]; exact IntWalk.i64_in _ (by omega)
  have w1 : IntKind.i64.wrap ((I : Int) + 1) = (I : Int) + 1 := IntWalk.i64_in _ (by omega)
  have i0 : (0 : Int) ≤ (I : Int) := by omega
  have i1 : (I : Int) < (xs.length : Int) := by omega
  have i2 : (0 : Int) ≤ (I : Int) + 1 := by omega
  have i3 : (I : Int) + 1 < (xs.length : Int) := by omega
  have n1 : ((I : Int) + 1).toNat = I + 1 := by omega
  clear hp hc hcs ha0 hI
  go_enter Try.func109, Try.ntmps109
  go_wp2
  go_quiet (fail)
  go_wp2
  go_ret2
  exact ⟨rfl, _, rfl⟩

theorem meet_any (v : Value) (xs : List Int) (i k : Nat) (w : World) (hv : Ints w v xs) (hi : 2 * i + 1 < xs.length) (hk : 2 * k + 1 < xs.length) (hl : xs.length ≤ 64) (p q : Int) (hp : Hid (p = i)) (hq : Hid (q = k)) :
    Calls Try.prog 64 #[v, .int .i64 p, .int .i64 q] w fun e w' => e = .returned (.bool (meetB xs i k)) ∧ ∃ q, w' = w.drewN q := by
  have H1 := Lib.hid (talk_any v xs i w hv hi hl p hp)
  have H2 : Hid (∀ m, Calls Try.prog 109 #[v, .int .i64 q] (w.drewN m) _) := fun m => talk_any v xs k (w.drewN m) (hv.below (below_drewN m (Below.refl w.heap.size w)) (Nat.le_refl _)) hk hl q hq
  have HM : Hid (meetB xs i k = (decide (nth xs (2 * i) < nth xs (2 * k + 1)) && decide (nth xs (2 * k) < nth xs (2 * i + 1)))) := rfl
  obtain ⟨A, hA⟩ : ∃ A, nth xs (2 * i) = A := ⟨_, rfl⟩
  obtain ⟨B, hB⟩ : ∃ B, nth xs (2 * i + 1) = B := ⟨_, rfl⟩
  obtain ⟨C, hC⟩ : ∃ C, nth xs (2 * k) = C := ⟨_, rfl⟩
  obtain ⟨D, hD⟩ : ∃ D, nth xs (2 * k + 1) = D := ⟨_, rfl⟩
  rw [hA, hB] at H1
  simp only [hC, hD] at H2
  rw [hA, hB, hC, hD] at HM
  clear hA hB hC hD hp hq
  by_cases hlt : A < D
  · have h1 : decide (A < D) = true := by simpa using hlt
    go_enter Try.func64, Try.ntmps64
    go_wp2_with fail
    refine H1.out.mono ?_
    rintro e w1 ⟨rfl, m, rfl⟩
    go_wp2_with fail
    refine (H2.out m).mono ?_
    rintro e w2 ⟨rfl, m2, rfl⟩
    go_wp2
    go_ret
    exact ⟨ret_bool (by rw [HM.out]; simp [h1]), _, rfl⟩
  · have h1 : decide (A < D) = false := by simpa using hlt
    go_enter Try.func64, Try.ntmps64
    go_wp2_with fail
    refine H1.out.mono ?_
    rintro e w1 ⟨rfl, m, rfl⟩
    go_wp2_with fail
    refine (H2.out m).mono ?_
    rintro e w2 ⟨rfl, m2, rfl⟩
    go_wp2
    go_ret
    exact ⟨ret_bool (by rw [HM.out]; simp [h1]), _, rfl⟩

theorem l07Meet_any (v : Value) (xs : List Int) (i k : Nat) (w : World) (hv : Ints w v xs) (hi : 2 * i + 1 < xs.length) (hk : 2 * k + 1 < xs.length) (hl : xs.length ≤ 64) (p q : Int) (hp : Hid (p = i)) (hq : Hid (q = k)) :
    Calls Try.prog 59 #[v, .int .i64 p, .int .i64 q] w fun e w' => e = .returned (.bool (meetB xs i k)) ∧ ∃ q, w' = w.drewN q := by
  obtain rfl := hp.out
  obtain rfl := hq.out
  have HM : Hid (meetB xs i k = (decide (nth xs (2 * i) < nth xs (2 * k + 1)) && decide (nth xs (2 * k) < nth xs (2 * i + 1)))) := rfl
  obtain ⟨hm, a, c, rfl, hcap, hc⟩ := hv
  obtain ⟨b, o, ha0, hbs, hcs⟩ := row_at hc
  obtain rfl := ha0 (by omega)
  have e0 := hcs (2 * i) (by omega)
  have e1 := hcs (2 * i + 1) hi
  have f0 := hcs (2 * k) (by omega)
  have f1 := hcs (2 * k + 1) hk
  rw [← nth_eq] at e0 e1 f0 f1
  obtain ⟨I, hI⟩ : ∃ I, 2 * i = I := ⟨_, rfl⟩
  obtain ⟨K, hK⟩ : ∃ K, 2 * k = K := ⟨_, rfl⟩
  rw [hI] at e0 e1 hi HM
  rw [hK] at f0 f1 hk HM
  obtain ⟨A, hA⟩ : ∃ A, nth xs I = A := ⟨_, rfl⟩
  obtain ⟨B, hB⟩ : ∃ B, nth xs (I + 1) = B := ⟨_, rfl⟩
  obtain ⟨C, hC⟩ : ∃ C, nth xs K = C := ⟨_, rfl⟩
  obtain ⟨D, hD⟩ : ∃ D, nth xs (K + 1) = D := ⟨_, rfl⟩
  rw [hA] at e0
  rw [hB] at e1
  rw [hC] at f0
  rw [hD] at f1
  rw [hA, hB, hC, hD] at HM
  have hIi : 2 * (i : Int) = (I : Int) := by omega
  have hKi : 2 * (k : Int) = (K : Int) := by omega
  have w0 : IntKind.i64.wrap (2 * (i : Int)) = (I : Int) := by rw [hIi]; exact IntWalk.i64_in _ (by omega)
  have w1 : IntKind.i64.wrap ((I : Int) + 1) = (I : Int) + 1 := IntWalk.i64_in _ (by omega)
  have w2 : IntKind.i64.wrap (2 * (k : Int)) = (K : Int) := by rw [hKi]; exact IntWalk.i64_in _ (by omega)
  have w3 : IntKind.i64.wrap ((K : Int) + 1) = (K : Int) + 1 := IntWalk.i64_in _ (by omega)
  have i0 : (0 : Int) ≤ (I : Int) := by omega
  have i1 : (I : Int) < (xs.length : Int) := by omega
  have i2 : (0 : Int) ≤ (I : Int) + 1 := by omega
  have i3 : (I : Int) + 1 < (xs.length : Int) := by omega
  have n1 : ((I : Int) + 1).toNat = I + 1 := by omega
  have j0 : (0 : Int) ≤ (K : Int) := by omega
  have j1 : (K : Int) < (xs.length : Int) := by omega
  have j2 : (0 : Int) ≤ (K : Int) + 1 := by omega
  have j3 : (K : Int) + 1 < (xs.length : Int) := by omega
  have n2 : ((K : Int) + 1).toNat = K + 1 := by omega
  clear hp hq hc hcs ha0 hI hK hA hB hC hD
  by_cases hlt : A < D
  · have h1 : decide (A < D) = true := by simpa using hlt
    go_enter Try.func59, Try.ntmps59
    go_wp2
    go_quiet (fail)
    go_wp2
    go_ret
    exact ⟨ret_bool (by rw [HM.out]; simp [h1]), _, rfl⟩
  · have h1 : decide (A < D) = false := by simpa using hlt
    go_enter Try.func59, Try.ntmps59
    go_wp2
    go_quiet (fail)
    go_wp2
    go_ret
    exact ⟨ret_bool (by rw [HM.out]; simp [h1]), _, rfl⟩
end Go.Proofs.Ytnpfninkopffmaa

namespace Go.Proofs.Ytnpfninkopffmaa
open Go.RowKit
set_option linter.unusedVariables false
set_option linter.unusedSimpArgs false

/-- The first of those that are free, with the least key; -1 if there is none. -/
def pickK (f : Nat → Bool) (key : Int → Int) : Nat → Int
  | 0 => -1
  | i + 1 => if f i = true ∧ (pickK f key i < 0 ∨ key i < key (pickK f key i)) then (i : Int) else pickK f key i
theorem pickK_spec (f : Nat → Bool) (key : Int → Int) : ∀ n, (pickK f key n = -1 ∧ ∀ i, i < n → f i = false) ∨ (0 ≤ pickK f key n ∧ pickK f key n < n ∧ f (pickK f key n).toNat = true ∧ ∀ i : Nat, i < n → f i = true → (i : Int) = pickK f key n ∨ lexLt key (pickK f key n) i)
  | 0 => .inl ⟨rfl, fun i h => absurd h (Nat.not_lt_zero _)⟩
  | n + 1 => by
    have ih := pickK_spec f key n
    unfold pickK
    by_cases hf : f n = true
    · rcases ih with ⟨h1, h2⟩ | ⟨h1, h2, h3, h4⟩
      · rw [if_pos ⟨hf, .inl (by omega)⟩]
        refine .inr ⟨by omega, by omega, by simpa using hf, fun i hi h => ?_⟩
        by_cases e : i = n
        · exact .inl (by rw [e])
        · rw [h2 i (by omega)] at h; cases h
      · by_cases hk : key n < key (pickK f key n)
        · rw [if_pos ⟨hf, .inr hk⟩]
          refine .inr ⟨by omega, by omega, by simpa using hf, fun i hi h => ?_⟩
          by_cases e : i = n
          · exact .inl (by rw [e])
          · right; left
            rcases h4 i (by omega) h with h5 | h5 | h5
            · rw [h5]; exact hk
            · omega
            · omega
        · rw [if_neg (fun h => by rcases h.2 with h | h; omega; exact hk h)]
          refine .inr ⟨h1, by omega, h3, fun i hi h => ?_⟩
          by_cases e : i = n
          · subst e
            right
            by_cases e2 : key (pickK f key i) = key i
            · exact .inr ⟨e2, by omega⟩
            · exact .inl (by omega)
          · exact h4 i (by omega) h
    · rw [if_neg (fun h => hf h.1)]
      have hf' : f n = false := by simpa using hf
      rcases ih with ⟨h1, h2⟩ | ⟨h1, h2, h3, h4⟩
      · refine .inl ⟨h1, fun i hi => ?_⟩
        by_cases e : i = n
        · rw [e]; exact hf'
        · exact h2 i (by omega)
      · refine .inr ⟨h1, by omega, h3, fun i hi h => ?_⟩
        by_cases e : i = n
        · rw [e, hf'] at h; cases h
        · exact h4 i (by omega) h

/-- Where a talk ends, where it begins. -/
def endOf (xs : List Int) (i : Int) : Int := nth xs (2 * i.toNat + 1)
def begOf (xs : List Int) (i : Int) : Int := nth xs (2 * i.toNat)
/-- Does i meet one of out? -/
def meetsB (xs : List Int) (out : List Int) (i : Int) : Bool := out.any fun k => meetB xs i.toNat k.toNat
def heardStep (xs : List Int) (out : List Int) (i : Int) : List Int := if meetsB xs out i then out else out ++ [i]
/-- Is i not in out, and meets none of it? -/
def freeS (xs : List Int) (out : List Int) (i : Nat) : Bool := out.all fun k => !(decide ((i : Int) = k) || meetB xs i k.toNat)
def heardN (xs : List Int) (n : Nat) : Nat → List Int → List Int
  | 0, out => out
  | k + 1, out => if pickK (freeS xs out) (endOf xs) n < 0 then out else heardN xs n k (out ++ [pickK (freeS xs out) (endOf xs) n])
def cntF (xs : List Int) (n : Nat) (out : List Int) : Nat := ((List.range n).filter (freeS xs out)).length

theorem filter_less {α : Type} {p q : α → Bool} : ∀ {l : List α}, (∀ x ∈ l, p x = true → q x = true) → (l.filter p).length ≤ (l.filter q).length
  | [], _ => Nat.le_refl _
  | a :: l, h => by
    have ih := filter_less (l := l) fun x hx => h x (List.mem_cons_of_mem _ hx)
    have ha := h a (List.mem_cons_self ..)
    rw [List.filter_cons, List.filter_cons]
    split
    · rename_i h1; rw [if_pos (ha h1)]; simp; exact ih
    · split
      · simp; omega
      · exact ih
theorem filter_lt {α : Type} {p q : α → Bool} {b : α} : ∀ {l : List α}, (∀ x ∈ l, p x = true → q x = true) → b ∈ l → q b = true → p b = false → (l.filter p).length < (l.filter q).length
  | [], _, hb, _, _ => by cases hb
  | a :: l, h, hb, hq, hp => by
    have h' : ∀ x ∈ l, p x = true → q x = true := fun x hx => h x (List.mem_cons_of_mem _ hx)
    rw [List.filter_cons, List.filter_cons]
    rcases List.mem_cons.1 hb with e | hb
    · subst e
      rw [if_neg (by rw [hp]; exact Bool.false_ne_true), if_pos hq]
      have := filter_less h'
      simp; omega
    · have ih := filter_lt h' hb hq hp
      have ha := h a (List.mem_cons_self ..)
      split
      · rename_i h1; rw [if_pos (ha h1)]; simp; exact ih
      · split
        · simp; omega
        · exact ih

theorem freeS_snoc (xs out : List Int) (b : Int) (i : Nat) : freeS xs (out ++ [b]) i = (freeS xs out i && !(decide ((i : Int) = b) || meetB xs i b.toNat)) := by
  unfold freeS; rw [List.all_append]; simp
theorem cntF_less {xs out : List Int} {n : Nat} {b : Int} (h0 : 0 ≤ b) (hn : b < n) (hf : freeS xs out b.toNat = true) : cntF xs n (out ++ [b]) + 1 ≤ cntF xs n out := by
  unfold cntF
  have := filter_lt (p := freeS xs (out ++ [b])) (q := freeS xs out) (b := b.toNat) (l := List.range n) (fun x _ hx => by
    rw [freeS_snoc, Bool.and_eq_true] at hx; exact hx.1) (List.mem_range.2 (by omega)) hf (by
    rw [freeS_snoc]; simp; intro _ h; omega)
  omega
theorem cntF_zero {xs out : List Int} {n : Nat} (h : cntF xs n out = 0) : ∀ i, i < n → freeS xs out i = false := fun i hi => by
  cases hf : freeS xs out i
  · rfl
  · have : i ∈ (List.range n).filter (freeS xs out) := List.mem_filter.2 ⟨List.mem_range.2 hi, hf⟩
    rw [List.length_eq_zero_iff.1 h] at this
    cases this
theorem pick_none {xs out : List Int} {n : Nat} (h : ∀ i, i < n → freeS xs out i = false) : pickK (freeS xs out) (endOf xs) n < 0 := by
  rcases pickK_spec (freeS xs out) (endOf xs) n with ⟨h1, _⟩ | ⟨h1, h2, h3, _⟩
  · omega
  · rw [h _ (by omega)] at h3; cases h3
theorem heardN_stop {xs out : List Int} {n : Nat} (k : Nat) (h : pickK (freeS xs out) (endOf xs) n < 0) : heardN xs n k out = out := by
  cases k with
  | zero => rfl
  | succ k => unfold heardN; rw [if_pos h]
theorem free_iff {xs out : List Int} {n : Nat} (hself : ∀ i, i < n → meetB xs i i = true) {x : Int} (h0 : 0 ≤ x) (hn : x < n) : freeS xs out x.toNat = !meetsB xs out x := by
  unfold freeS meetsB
  rw [List.all_eq_not_any_not]
  congr 2
  funext k
  rw [Bool.not_not]
  by_cases e : ((x.toNat : Nat) : Int) = k
  · rw [← e, Int.toNat_natCast, hself x.toNat (by omega), Bool.or_true]
  · rw [decide_eq_false e, Bool.false_or]

theorem sorts_after {key : Int → Int} {n : Nat} {E pre suf : List Int} {x y : Int} (h : SortsBy key n E) (he : E = pre ++ x :: suf) (hy : y ∈ suf) : lexLt key x y := by
  obtain ⟨j, hj, rfl⟩ := List.getElem_of_mem hy
  have hl : E.length = n := by rw [h.1.length_eq, idL_length]
  have hlen : pre.length + 1 + j < n := by rw [← hl, he]; simp; omega
  have e1 : nth E pre.length = x := by rw [nth_eq (by omega)]; subst he; simp
  have e2 : nth E (pre.length + 1 + j) = suf[j] := by
    rw [nth_eq (by omega)]; subst he
    rw [List.getElem_append_right (by omega)]
    simp only [show pre.length + 1 + j - pre.length = j + 1 by omega, List.getElem_cons_succ]
  have := h.2 pre.length (pre.length + 1 + j) (Nat.zero_le _) (by omega) hlen
  rwa [e1, e2] at this

theorem heard_fold {xs : List Int} {n : Nat} {E : List Int} (hE : SortsBy (endOf xs) n E) (hself : ∀ i, i < n → meetB xs i i = true) :
    ∀ (suf pre out : List Int) (k : Nat), E = pre ++ suf → (∀ x ∈ pre, freeS xs out x.toNat = false) → cntF xs n out ≤ k → suf.foldl (heardStep xs) out = heardN xs n k out := by
  have hmem : ∀ x, x ∈ E ↔ 0 ≤ x ∧ x < (n : Int) := fun x => by rw [hE.1.mem_iff, idL_mem]
  intro suf
  induction suf with
  | nil =>
    intro pre out k he hp _
    rw [List.append_nil] at he
    rw [heardN_stop k (pick_none fun i hi => ?_)]
    · rfl
    · have := hp (i : Int) (by rw [← he]; exact (hmem _).2 ⟨by omega, by omega⟩)
      simpa using this
  | cons x suf ih =>
    intro pre out k he hp hk
    have hx := (hmem x).1 (by rw [he]; simp)
    have hf := free_iff (out := out) hself hx.1 hx.2
    rw [List.foldl_cons]
    cases hm : meetsB xs out x
    · rw [hm] at hf
      have hpick : pickK (freeS xs out) (endOf xs) n = x := by
        rcases pickK_spec (freeS xs out) (endOf xs) n with ⟨_, h2⟩ | ⟨h1, h2, h3, h4⟩
        · rw [h2 _ (by omega)] at hf; cases hf
        · obtain ⟨b, hb⟩ : ∃ b, pickK (freeS xs out) (endOf xs) n = b := ⟨_, rfl⟩
          rw [hb] at h1 h2 h3 h4 ⊢
          have h5 := h4 x.toNat (by omega) hf
          rw [show ((x.toNat : Nat) : Int) = x by omega] at h5
          rcases h5 with h5 | h5
          · exact h5.symm
          · exfalso
            have hbE := (hmem b).2 ⟨h1, h2⟩
            rw [he] at hbE
            rcases List.mem_append.1 hbE with hb1 | hb1
            · rw [hp b hb1] at h3; cases h3
            · rcases List.mem_cons.1 hb1 with hb1 | hb1
              · subst hb1; unfold lexLt at h5; omega
              · have h6 := sorts_after hE he hb1
                unfold lexLt at h5 h6; omega
      have hc := cntF_less hx.1 hx.2 hf
      obtain ⟨k, rfl⟩ : ∃ k', k = k' + 1 := ⟨k - 1, by omega⟩
      unfold heardN
      rw [hpick, if_neg (by omega), ← ih (pre ++ [x]) (out ++ [x]) k (by rw [he]; simp) (fun y hy => ?_) (by omega)]
      · unfold heardStep; rw [hm]; rfl
      · rw [freeS_snoc]
        rcases List.mem_append.1 hy with hy | hy
        · rw [hp y hy]; rfl
        · obtain rfl : y = x := by simpa using hy
          rw [show ((y.toNat : Nat) : Int) = y by omega]; simp
    · rw [hm] at hf
      rw [show heardStep xs out x = out by unfold heardStep; rw [hm]; rfl]
      exact ih (pre ++ [x]) out k (by rw [he]; simp) (fun y hy => by
        rcases List.mem_append.1 hy with hy | hy
        · exact hp y hy
        · obtain rfl : y = x := by simpa using hy
          exact hf) hk
/-- The most talks. -/
def heardL (xs : List Int) : List Int := heardN xs (xs.length / 2) (xs.length / 2) []
theorem cntF_nil (xs : List Int) (n : Nat) : cntF xs n [] ≤ n := by
  unfold cntF
  have := List.length_filter_le (freeS xs []) (List.range n)
  simpa using this
theorem heardL_fold {xs E : List Int} (hE : SortsBy (endOf xs) (xs.length / 2) E) (hself : ∀ i, i < xs.length / 2 → meetB xs i i = true) : E.foldl (heardStep xs) [] = heardL xs :=
  heard_fold hE hself E [] [] _ rfl (fun x hx => by cases hx) (cntF_nil _ _)
theorem meet_self {xs : List Int} (h : talksOk xs = true) : ∀ i, i < xs.length / 2 → meetB xs i i = true := fun i hi => by
  simp only [talksOk, Bool.and_eq_true, List.all_eq_true, decide_eq_true_eq] at h
  have := h.2 i (List.mem_range.2 hi)
  simp [meetB, this]
theorem heardN_len (xs : List Int) (n : Nat) : ∀ k out, (heardN xs n k out).length ≤ out.length + k
  | 0, out => Nat.le_refl _
  | k + 1, out => by
    unfold heardN
    split
    · omega
    · have := heardN_len xs n k (out ++ [pickK (freeS xs out) (endOf xs) n])
      simp at this; omega
/-- What MostTalks returns. -/
def mostR (xs : List Int) : List Int := if talksOk xs then heardL xs else []
theorem mostR_small (xs : List Int) : (mostR xs).length ≤ 32 := by
  unfold mostR
  split
  · rename_i h
    simp only [talksOk, talksHead, Bool.and_eq_true] at h
    have := many_true.1 h.1.1
    have := heardN_len xs (xs.length / 2) (xs.length / 2) []
    unfold heardL
    simp at this; omega
  · exact Nat.zero_le _
end Go.Proofs.Ytnpfninkopffmaa

namespace Go.Proofs.Ytnpfninkopffmaa
open Go.RowKit
set_option linter.unusedVariables false
set_option linter.unusedSimpArgs false

/-! The sorted list is one alone. -/
def lexLe (key : Int → Int) (x y : Int) : Bool := decide (key x < key y) || (decide (key x = key y) && decide (x ≤ y))
theorem lexLe_iff {key : Int → Int} {x y : Int} : lexLe key x y = true ↔ key x < key y ∨ key x = key y ∧ x ≤ y := by simp [lexLe]
def sortsL (key : Int → Int) (n : Nat) : List Int := (idL n).mergeSort (lexLe key)
theorem pairwise_of_on {key : Int → Int} {E : List Int} {n : Nat} (hl : E.length = n) (h : SortedOn key E 0 n) : E.Pairwise (lexLt key) := by
  rw [List.pairwise_iff_getElem]
  intro i j hi hj hij
  have := h i j (Nat.zero_le _) hij (by omega)
  rwa [nth_eq hi, nth_eq hj] at this
theorem on_of_pairwise {key : Int → Int} {E : List Int} {n : Nat} (hl : E.length = n) (h : E.Pairwise (lexLt key)) : SortedOn key E 0 n := fun i j _ hij hj => by
  rw [nth_eq (by omega), nth_eq (by omega)]
  exact List.pairwise_iff_getElem.1 h i j (by omega) (by omega) hij
theorem idL_nodup (n : Nat) : (idL n).Pairwise fun x y => x ≠ y := by
  rw [List.pairwise_iff_getElem]
  intro i j hi hj hij
  rw [idL_length] at hi hj
  rw [← nth_eq, ← nth_eq, idL_get hi, idL_get hj]; omega
theorem sortsL_ok (key : Int → Int) (n : Nat) : SortsBy key n (sortsL key n) := by
  have hp : (sortsL key n).Perm (idL n) := List.mergeSort_perm _ _
  refine ⟨hp, on_of_pairwise (by rw [hp.length_eq, idL_length]) ?_⟩
  have h1 : (sortsL key n).Pairwise fun a b => lexLe key a b = true := List.pairwise_mergeSort (fun a b c h k => by rw [lexLe_iff] at *; omega) (fun a b => by rw [Bool.or_eq_true, lexLe_iff, lexLe_iff]; omega) _
  have h2 : (sortsL key n).Pairwise fun x y => x ≠ y := (hp.pairwise_iff (fun h => Ne.symm h)).2 (idL_nodup n)
  exact (h1.and h2).imp fun ⟨h, k⟩ => by rw [lexLe_iff] at h; unfold lexLt; omega
theorem sorts_one {key : Int → Int} {n : Nat} {E F : List Int} (h : SortsBy key n E) (k : SortsBy key n F) : E = F := by
  refine List.Perm.eq_of_pairwise (le := lexLt key) (fun a b _ _ h1 h2 => ?_) (pairwise_of_on (by rw [h.1.length_eq, idL_length]) h.2) (pairwise_of_on (by rw [k.1.length_eq, idL_length]) k.2) (h.1.trans k.1.symm)
  unfold lexLt at h1 h2; omega

/-- The next to be taken. -/
theorem pick_next {key : Int → Int} {n : Nat} {E pre suf : List Int} {x : Int} {f : Nat → Bool} (hE : SortsBy key n E) (he : E = pre ++ x :: suf) (hp : ∀ y ∈ pre, f y.toNat = false) (hx : f x.toNat = true) : pickK f key n = x := by
  have hmem : ∀ x, x ∈ E ↔ 0 ≤ x ∧ x < (n : Int) := fun x => by rw [hE.1.mem_iff, idL_mem]
  have hx0 := (hmem x).1 (by rw [he]; simp)
  rcases pickK_spec f key n with ⟨_, h2⟩ | ⟨h1, h2, h3, h4⟩
  · rw [h2 _ (by omega)] at hx; cases hx
  · obtain ⟨b, hb⟩ : ∃ b, pickK f key n = b := ⟨_, rfl⟩
    rw [hb] at h1 h2 h3 h4 ⊢
    have h5 := h4 x.toNat (by omega) hx
    rw [show ((x.toNat : Nat) : Int) = x by omega] at h5
    rcases h5 with h5 | h5
    · exact h5.symm
    · exfalso
      have hbE := (hmem b).2 ⟨h1, h2⟩
      rw [he] at hbE
      rcases List.mem_append.1 hbE with hb1 | hb1
      · rw [hp b hb1] at h3; cases h3
      · rcases List.mem_cons.1 hb1 with hb1 | hb1
        · subst hb1; unfold lexLt at h5; omega
        · have h6 := sorts_after hE he hb1
          unfold lexLt at h5 h6; omega

/-! Rooms. -/
def clashR (xs out : List Int) (n i : Nat) (r : Int) : Bool := (idL n).any fun k => (nth out k.toNat == r) && meetB xs i k.toNat
def roomF (xs out : List Int) (n i : Nat) : Nat → Int → Int
  | 0, r => r
  | f + 1, r => if clashR xs out n i r then roomF xs out n i f (r + 1) else r
def roomAt (xs out : List Int) (n i : Nat) : Int := roomF xs out n i n 0
def roomStep (xs : List Int) (n : Nat) (out : List Int) (i : Int) : List Int := out.set i.toNat (roomAt xs out n i.toNat)
def noneL (n : Nat) : List Int := List.replicate n (-1)
def roomsTo (xs : List Int) (n t : Nat) : List Int := ((sortsL (begOf xs) n).take t).foldl (roomStep xs n) (noneL n)
/-- The greatest of the first k + 1. -/
def maxTo (xs : List Int) : Nat → Int
  | 0 => nth xs 0
  | k + 1 => if maxTo xs k < nth xs (k + 1) then nth xs (k + 1) else maxTo xs k

theorem clash_hit {xs out : List Int} {n i : Nat} {r : Int} (h : clashR xs out n i r = true) : ∃ k, k < n ∧ nth out k = r := by
  unfold clashR at h
  rw [List.any_eq_true] at h
  obtain ⟨k, hk, h⟩ := h
  rw [Bool.and_eq_true, beq_iff_eq] at h
  have := idL_mem.1 hk
  exact ⟨k.toNat, by omega, h.1⟩
theorem roomF_bounds {xs out : List Int} {n i : Nat} {t : Int} (ht : ∀ k, k < n → nth out k < t) : ∀ f r, r ≤ t → r ≤ roomF xs out n i f r ∧ roomF xs out n i f r ≤ t
  | 0, r, h => ⟨Int.le_refl _, h⟩
  | f + 1, r, h => by
    unfold roomF
    split
    · rename_i hc
      obtain ⟨k, hk, he⟩ := clash_hit hc
      have h1 := ht k hk
      have := roomF_bounds (xs := xs) (i := i) ht f (r + 1) (by omega)
      omega
    · exact ⟨Int.le_refl _, h⟩
theorem roomAt_bounds {xs out : List Int} {n i : Nat} {t : Int} (ht : ∀ k, k < n → nth out k < t) (h0 : 0 ≤ t) : 0 ≤ roomAt xs out n i ∧ roomAt xs out n i ≤ t := roomF_bounds ht n 0 h0
theorem roomF_stop {xs out : List Int} {n i : Nat} {r : Int} (f : Nat) (h : clashR xs out n i r = false) : roomF xs out n i f r = r := by
  cases f with
  | zero => rfl
  | succ f => unfold roomF; rw [if_neg (by rw [h]; simp)]
theorem roomF_next {xs out : List Int} {n i r : Nat} (hr : ∀ k, k < n → nth out k < (n : Int)) (hrn : r ≤ n) (h : clashR xs out n i (r : Int) = true) : r + 1 ≤ n ∧ roomF xs out n i (n - r) r = roomF xs out n i (n - (r + 1)) ((r + 1 : Nat) : Int) := by
  obtain ⟨k, hk, he⟩ := clash_hit h
  have := hr k hk
  refine ⟨by omega, ?_⟩
  obtain ⟨f, hf⟩ : ∃ f, n - r = f + 1 := ⟨n - r - 1, by omega⟩
  rw [hf, show n - (r + 1) = f by omega]
  conv => lhs; unfold roomF
  rw [if_pos h]
  congr 1

theorem nth_replicate {n k : Nat} (h : k < n) : nth (noneL n) k = -1 := by
  unfold noneL
  rw [nth_eq (by simpa using h)]; simp
/-- What is known of the rooms behind t steps. -/
structure RoomsOk (xs : List Int) (n t : Nat) (out : List Int) : Prop where
  len : out.length = n
  lo : ∀ k, k < n → -1 ≤ nth out k
  hi : ∀ k, k < n → nth out k < (t : Int)
  free : ∀ k : Nat, k < n → (nth out k < 0 ↔ (k : Int) ∉ (sortsL (begOf xs) n).take t)
theorem sortsL_len (key : Int → Int) (n : Nat) : (sortsL key n).length = n := by rw [(sortsL_ok key n).1.length_eq, idL_length]
theorem sortsL_mem (key : Int → Int) (n : Nat) (x : Int) : x ∈ sortsL key n ↔ 0 ≤ x ∧ x < (n : Int) := by rw [(sortsL_ok key n).1.mem_iff, idL_mem]
/-- The t-th in the order. -/
theorem sortsL_at {key : Int → Int} {n t : Nat} (h : t < n) : ∃ x suf, sortsL key n = (sortsL key n).take t ++ x :: suf ∧ (sortsL key n).take (t + 1) = (sortsL key n).take t ++ [x] ∧ nth (sortsL key n) t = x ∧ 0 ≤ x ∧ x < (n : Int) := by
  have hl : t < (sortsL key n).length := by rw [sortsL_len]; exact h
  have hx := (sortsL_mem key n _).1 (List.getElem_mem hl)
  exact ⟨(sortsL key n)[t], (sortsL key n).drop (t + 1), by rw [← List.drop_eq_getElem_cons hl, List.take_append_drop], List.take_succ_eq_append_getElem hl, nth_eq hl, hx⟩
theorem sortsL_new {key : Int → Int} {n t : Nat} (h : t < n) : nth (sortsL key n) t ∉ (sortsL key n).take t := by
  intro hm
  obtain ⟨j, hj, he⟩ := List.getElem_of_mem hm
  rw [List.getElem_take] at he
  have hl := sortsL_len key n
  rw [List.length_take] at hj
  have := (sortsL_ok key n).2 j t (Nat.zero_le _) (by omega) h
  rw [nth_eq (by omega), he] at this
  unfold lexLt at this; omega
theorem RoomsOk.zero (xs : List Int) (n : Nat) : RoomsOk xs n 0 (roomsTo xs n 0) := by
  have e : roomsTo xs n 0 = noneL n := rfl
  rw [e]
  refine ⟨by simp [noneL], fun k hk => ?_, fun k hk => ?_, fun k hk => ?_⟩
  · rw [nth_replicate hk]; omega
  · rw [nth_replicate hk]; omega
  · rw [nth_replicate hk]; simp
theorem roomsTo_succ {xs : List Int} {n t : Nat} (h : t < n) : roomsTo xs n (t + 1) = roomStep xs n (roomsTo xs n t) (nth (sortsL (begOf xs) n) t) := by
  obtain ⟨x, suf, _, h2, h3, _⟩ := sortsL_at (key := begOf xs) h
  unfold roomsTo
  rw [h2, List.foldl_append, h3]; rfl
theorem RoomsOk.next {xs : List Int} {n t : Nat} (h : RoomsOk xs n t (roomsTo xs n t)) (ht : t < n) : RoomsOk xs n (t + 1) (roomsTo xs n (t + 1)) := by
  obtain ⟨x, suf, h1, h2, h3, h4, h5⟩ := sortsL_at (key := begOf xs) ht
  rw [roomsTo_succ ht, h3]
  obtain ⟨out, ho⟩ : ∃ out, roomsTo xs n t = out := ⟨_, rfl⟩
  rw [ho] at h ⊢
  obtain ⟨b1, b2⟩ := roomAt_bounds (xs := xs) (i := x.toNat) h.hi (by omega)
  unfold roomStep
  have hn : ∀ k, nth (out.set x.toNat (roomAt xs out n x.toNat)) k = if x.toNat = k then roomAt xs out n x.toNat else nth out k := fun k => nth_set1 _ (by rw [h.len]; omega)
  refine ⟨by rw [List.length_set]; exact h.len, fun k hk => ?_, fun k hk => ?_, fun k hk => ?_⟩
  · rw [hn]; split
    · omega
    · exact h.lo k hk
  · rw [hn]; split
    · omega
    · have := h.hi k hk; omega
  · rw [hn, h2, List.mem_append, not_or]
    split
    · rename_i e
      subst e
      constructor
      · intro h; omega
      · rintro ⟨_, h⟩
        exact absurd (by simp; omega) h
    · rename_i e
      rw [h.free k hk]
      constructor
      · intro h; exact ⟨h, by simp; omega⟩
      · intro h; exact h.1
theorem rooms_ok (xs : List Int) (n : Nat) : ∀ t, t ≤ n → RoomsOk xs n t (roomsTo xs n t)
  | 0, _ => RoomsOk.zero xs n
  | t + 1, h => (rooms_ok xs n t (by omega)).next (by omega)
/-- The next talk by looking is the next in the order. -/
theorem rooms_pick {xs : List Int} {n t : Nat} (ht : t < n) : pickK (fun k => decide (nth (roomsTo xs n t) k < 0)) (begOf xs) n = nth (sortsL (begOf xs) n) t := by
  obtain ⟨x, suf, h1, h2, h3, h4, h5⟩ := sortsL_at (key := begOf xs) ht
  have hr := rooms_ok xs n t (by omega)
  rw [h3]
  refine pick_next (sortsL_ok _ _) h1 (fun y hy => ?_) ?_
  · have hy0 := (sortsL_mem (begOf xs) n y).1 (List.mem_of_mem_take hy)
    have h6 := hr.free y.toNat (by omega)
    rw [show ((y.toNat : Nat) : Int) = y by omega] at h6
    show decide (nth (roomsTo xs n t) y.toNat < 0) = false
    rw [decide_eq_false_iff_not]
    intro h; exact h6.1 h hy
  · have h6 := hr.free x.toNat (by omega)
    rw [show ((x.toNat : Nat) : Int) = x by omega] at h6
    show decide (nth (roomsTo xs n t) x.toNat < 0) = true
    rw [decide_eq_true_eq]
    refine h6.2 ?_
    have := sortsL_new (key := begOf xs) ht
    rwa [h3] at this
theorem maxTo_spec (xs : List Int) : ∀ m, (∀ k, k ≤ m → nth xs k ≤ maxTo xs m) ∧ ∃ k, k ≤ m ∧ nth xs k = maxTo xs m
  | 0 => ⟨fun k hk => by obtain rfl : k = 0 := by omega
                         exact Int.le_refl _, 0, Nat.le_refl _, rfl⟩
  | m + 1 => by
    obtain ⟨h1, k, h2, h3⟩ := maxTo_spec xs m
    unfold maxTo
    split
    · refine ⟨fun j hj => ?_, m + 1, Nat.le_refl _, rfl⟩
      by_cases e : j = m + 1
      · rw [e]; exact Int.le_refl _
      · have := h1 j (by omega); omega
    · refine ⟨fun j hj => ?_, k, by omega, h3⟩
      by_cases e : j = m + 1
      · rw [e]; omega
      · exact h1 j (by omega)
/-- How many rooms there are, as the reference counts them. -/
structure CountOk (n : Nat) (out : List Int) (c : Int) : Prop where
  all : ∀ k, k < n → nth out k < c
  some_ : c = 0 ∨ ∃ k, k < n ∧ nth out k = c - 1
  pos : 0 ≤ c
theorem CountOk.zero (n : Nat) : CountOk n (noneL n) 0 := ⟨fun k hk => by rw [nth_replicate hk]; omega, .inl rfl, Int.le_refl _⟩
theorem CountOk.next {n : Nat} {out : List Int} {c r : Int} {x : Nat} (h : CountOk n out c) (hl : out.length = n) (hx : x < n) (hf : nth out x < 0) (hr : 0 ≤ r) : CountOk n (out.set x r) (if c < r + 1 then r + 1 else c) := by
  have hn : ∀ k, nth (out.set x r) k = if x = k then r else nth out k := fun k => nth_set1 _ (by rw [hl]; omega)
  have hp := h.pos
  refine ⟨fun k hk => ?_, ?_, by split <;> omega⟩
  · have := h.all k hk
    rw [hn]; split <;> split <;> omega
  · right
    split
    · exact ⟨x, hx, by rw [hn, if_pos rfl]; omega⟩
    · rename_i hc
      rcases h.some_ with h0 | ⟨k, hk, he⟩
      · omega
      · refine ⟨k, hk, ?_⟩
        rw [hn, if_neg (fun e => by subst e; omega)]; exact he
theorem CountOk.done {n : Nat} {out : List Int} {c : Int} (h : CountOk n out c) (hn : 1 ≤ n) (h0 : ∀ k, k < n → 0 ≤ nth out k) : c = maxTo out (n - 1) + 1 := by
  obtain ⟨h1, k, h2, h3⟩ := maxTo_spec out (n - 1)
  have h4 := h.all k (by omega)
  rcases h.some_ with h5 | ⟨j, h5, h6⟩
  · have := h0 0 (by omega)
    have := h.all 0 (by omega)
    omega
  · have := h1 j (by omega)
    omega
def roomsR (xs : List Int) : List Int := if talksOk xs then roomsTo xs (xs.length / 2) (xs.length / 2) else []
def roomsC (xs : List Int) : Int := if talksOk xs then maxTo (roomsTo xs (xs.length / 2) (xs.length / 2)) (xs.length / 2 - 1) + 1 else 0
theorem roomsR_small (xs : List Int) : (roomsR xs).length ≤ 32 := by
  unfold roomsR
  split
  · rename_i h
    simp only [talksOk, talksHead, Bool.and_eq_true] at h
    have := many_true.1 h.1.1
    rw [(rooms_ok xs _ _ (Nat.le_refl _)).len]; omega
  · exact Nat.zero_le _
/-- All rooms are told at the end. -/
theorem rooms_all (xs : List Int) (n : Nat) : ∀ k, k < n → 0 ≤ nth (roomsTo xs n n) k := fun k hk => by
  have h := (rooms_ok xs n n (Nat.le_refl _)).free k hk
  have h2 : (k : Int) ∈ (sortsL (begOf xs) n).take n := by
    rw [List.take_of_length_le (by rw [sortsL_len]; exact Nat.le_refl _), sortsL_mem]; omega
  have : ¬ nth (roomsTo xs n n) k < 0 := fun h3 => h.1 h3 h2
  omega
end Go.Proofs.Ytnpfninkopffmaa

namespace Go.Proofs.Ytnpfninkopffmaa
open Go.RowKit
set_option linter.unusedVariables false
set_option linter.unusedSimpArgs false

theorem nth_setM {l : List Int} {m i : Nat} (v : Int) (hm : m < l.length) : nth (l.set m v) i = if m = i then v else nth l i := by
  unfold nth
  rw [List.getD_eq_getElem?_getD, List.getElem?_set, List.getD_eq_getElem?_getD]
  split
  · rename_i e'; subst e'; simp [hm]
  · rfl
/-- Is task j told, and does it run at t. -/
def runsO (ts : List Tk) (out : List Int) (t : Int) (j : Nat) : Prop := 0 ≤ nth out j ∧ nth out j ≤ t ∧ t < nth out j + timeN ts j
instance (ts : List Tk) (out : List Int) (t : Int) (j : Nat) : Decidable (runsO ts out t j) := by unfold runsO; exact inferInstance
/-- What the told tasks take at t. -/
def useO (ts : List Tk) (out : List Int) (t : Int) : Nat → Int
  | 0 => 0
  | j + 1 => useO ts out t j + if runsO ts out t j then needN ts j else 0
theorem useO_bounds {ts : List Tk} {out : List Int} {t : Int} (ht : SmTs ts) : ∀ i, i ≤ ts.length → 0 ≤ useO ts out t i ∧ useO ts out t i ≤ 20 * (i : Int)
  | 0, _ => ⟨Int.le_refl _, Int.le_refl _⟩
  | i + 1, hi => by
    have h := useO_bounds (out := out) (t := t) ht i (by omega)
    have hn := ht.need i (by omega)
    unfold useO
    split <;> omega
theorem useO_set {ts : List Tk} {out : List Int} {t s : Int} {i : Nat} (hi : i < out.length) (hm : nth out i = -1) (hs : 0 ≤ s) : ∀ n, useO ts (out.set i s) t n = useO ts out t n + if i < n ∧ s ≤ t ∧ t < s + timeN ts i then needN ts i else 0
  | 0 => by rw [if_neg (by omega)]; rfl
  | n + 1 => by
    unfold useO
    rw [useO_set hi hm hs n]
    by_cases e : i = n
    · subst e
      have h1 : ¬ runsO ts out t i := by unfold runsO; rw [hm]; omega
      rw [if_neg h1, if_neg (show ¬ (i < i ∧ s ≤ t ∧ t < s + timeN ts i) by omega)]
      have h2 : runsO ts (out.set i s) t i ↔ (i < i + 1 ∧ s ≤ t ∧ t < s + timeN ts i) := by unfold runsO; rw [nth_setM _ hi, if_pos rfl]; omega
      by_cases h : runsO ts (out.set i s) t i
      · rw [if_pos h, if_pos (h2.1 h)] <;> omega
      · rw [if_neg h, if_neg (fun k => h (h2.2 k))] <;> omega
    · have h2 : runsO ts (out.set i s) t n ↔ runsO ts out t n := by unfold runsO; rw [nth_setM _ hi, if_neg e]
      have h3 : (i < n + 1 ∧ s ≤ t ∧ t < s + timeN ts i) ↔ (i < n ∧ s ≤ t ∧ t < s + timeN ts i) := by omega
      by_cases h : runsO ts out t n
      · rw [if_pos h, if_pos (h2.2 h)]
        by_cases q : i < n ∧ s ≤ t ∧ t < s + timeN ts i
        · rw [if_pos q, if_pos (h3.2 q)] <;> omega
        · rw [if_neg q, if_neg (fun k => q (h3.1 k))] <;> omega
      · rw [if_neg h, if_neg (fun k => h (h2.1 k))]
        by_cases q : i < n ∧ s ≤ t ∧ t < s + timeN ts i
        · rw [if_pos q, if_pos (h3.2 q)] <;> omega
        · rw [if_neg q, if_neg (fun k => q (h3.1 k))] <;> omega
theorem useO_none (ts : List Tk) (m : Nat) (t : Int) : ∀ n, n ≤ m → useO ts (noneL m) t n = 0
  | 0, _ => rfl
  | n + 1, h => by
    unfold useO
    rw [useO_none ts m t n (by omega), if_neg (by unfold runsO; rw [nth_replicate (by omega)]; omega)]; rfl
/-- How many of the told start elsewhere. -/
def diffO (st out : List Int) : Nat → Int
  | 0 => 0
  | j + 1 => diffO st out j + if 0 ≤ nth out j ∧ nth out j ≠ nth st j then 1 else 0
theorem diffO_bounds {st out : List Int} : ∀ n, 0 ≤ diffO st out n ∧ diffO st out n ≤ n
  | 0 => ⟨Int.le_refl _, Int.le_refl _⟩
  | n + 1 => by have := diffO_bounds (st := st) (out := out) n; unfold diffO; split <;> omega
theorem diffO_set {st out : List Int} {s : Int} {i : Nat} (hi : i < out.length) (hm : nth out i = -1) (hs : 0 ≤ s) : ∀ n, diffO st (out.set i s) n = diffO st out n + if i < n ∧ s ≠ nth st i then 1 else 0
  | 0 => by rw [if_neg (by omega)]; rfl
  | n + 1 => by
    unfold diffO
    rw [diffO_set hi hm hs n, nth_setM _ hi]
    by_cases e : i = n
    · subst e
      rw [if_pos rfl, hm, if_neg (show ¬ (i < i ∧ s ≠ nth st i) by omega), if_neg (show ¬ ((0 : Int) ≤ -1 ∧ (-1 : Int) ≠ nth st i) by omega)]
      by_cases q : s ≠ nth st i
      · rw [if_pos (show 0 ≤ s ∧ s ≠ nth st i from ⟨hs, q⟩), if_pos (show i < i + 1 ∧ s ≠ nth st i from ⟨by omega, q⟩)] <;> omega
      · rw [if_neg (show ¬ (0 ≤ s ∧ s ≠ nth st i) from fun k => q k.2), if_neg (show ¬ (i < i + 1 ∧ s ≠ nth st i) from fun k => q k.2)] <;> omega
    · rw [if_neg e]
      by_cases q : i < n ∧ s ≠ nth st i
      · rw [if_pos q, if_pos (show i < n + 1 ∧ s ≠ nth st i from ⟨by omega, q.2⟩)] <;> omega
      · rw [if_neg q, if_neg (show ¬ (i < n + 1 ∧ s ≠ nth st i) from fun k => q ⟨by omega, k.2⟩)] <;> omega
theorem diffO_none (st : List Int) (m : Nat) : ∀ n, n ≤ m → diffO st (noneL m) n = 0
  | 0, _ => rfl
  | n + 1, h => by
    unfold diffO
    rw [diffO_none st m n (by omega), if_neg (by rw [nth_replicate (by omega)]; omega)]; rfl
/-- The start that fits. -/
noncomputable def fitOf (u : Nat → Int) (crew need time a : Int) : Int := open Classical in if h : ∃ s, Fit u crew need time a s then h.choose else 0
theorem Fit.eq {u : Nat → Int} {crew need time a s : Int} (h : Fit u crew need time a s) : fitOf u crew need time a = s := by
  unfold fitOf
  rw [dif_pos ⟨s, h⟩]
  exact Fit.unique (Exists.choose_spec (p := fun s => Fit u crew need time a s) ⟨s, h⟩) h
/-- Are the tasks before i told. -/
def toldB (ts : List Tk) (out : List Int) (i : Nat) : Bool := (befN ts i).all fun b => decide (0 ≤ nth out b.toNat)
noncomputable def mendS (ts : List Tk) (st : List Int) (crew : Int) (out : List Int) (i : Nat) : List Int :=
  out.set i (fitOf (fun t => useO ts out t ts.length) crew (needN ts i) (timeN ts i) (max (nth st i) (leastN ts out i)))
noncomputable def mendL (ts : List Tk) (st : List Int) (crew : Int) : List Int → List Int → Option (List Int)
  | [], out => some out
  | i :: r, out => if toldB ts out i.toNat = true then mendL ts st crew r (mendS ts st crew out i.toNat) else none
def keyOf (st : List Int) (x : Int) : Int := nth st x.toNat
noncomputable def mendOf (ts : List Tk) (st : List Int) (crew : Int) : Option (List Int) := mendL ts st crew (sortsL (keyOf st) ts.length) (noneL ts.length)
/-- What is known behind k tasks. -/
structure MendI (ts : List Tk) (st : List Int) (crew : Int) (E : List Int) (k : Nat) (out : List Int) : Prop where
  kn : k ≤ ts.length
  len : out.length = ts.length
  lo : ∀ j, j < ts.length → -1 ≤ nth out j
  hi : ∀ j, j < ts.length → nth out j + timeN ts j ≤ 500 + 300 * (k : Int)
  rem : mendL ts st crew (E.drop k) out = mendOf ts st crew
  told : ∀ y ∈ E.take k, 0 ≤ nth out y.toNat
  not : ∀ y ∈ E.drop k, nth out y.toNat = -1
theorem mendI_start {ts : List Tk} {st : List Int} {crew : Int} {E : List Int} (ht : SmTs ts) (hE : SortsBy (keyOf st) ts.length E) : MendI ts st crew E 0 (noneL ts.length) := by
  have hl : (noneL ts.length).length = ts.length := by simp [noneL]
  refine ⟨Nat.zero_le _, hl, fun j hj => by rw [nth_replicate hj]; omega, fun j hj => by rw [nth_replicate hj]; have := ht.time j hj; omega, ?_, fun y hy => by simp at hy, fun y hy => ?_⟩
  · rw [sorts_one hE (sortsL_ok _ _)]; rfl
  · have h := idL_mem.1 (hE.1.mem_iff.1 (List.mem_of_mem_drop hy))
    exact nth_replicate (by omega)
theorem leastTo_le {ts : List Tk} {out : List Int} {i : Nat} {B : Int} (ht : SmTs ts) (hi : i < ts.length) (hB : 0 ≤ B) (hh : ∀ j, j < ts.length → nth out j + timeN ts j ≤ B) : ∀ k, k ≤ (befN ts i).length → leastTo ts out i k ≤ B + 100
  | 0, _ => by unfold leastTo; omega
  | k + 1, hk => by
    have h1 := leastTo_le ht hi hB hh k (by omega)
    have h2 := ht.bef i hi k (by omega)
    have h3 := ht.lag i hi k (by omega)
    have h4 := hh (nth (befN ts i) k).toNat (by omega)
    unfold leastTo
    omega
/-- The task that comes next, and what is known of it. -/
theorem MendI.next {ts : List Tk} {st : List Int} {crew : Int} {E out : List Int} {k : Nat} (h : MendI ts st crew E k out) (hE : SortsBy (keyOf st) ts.length E) (hk : k < ts.length) :
    E.drop k = nth E k :: E.drop (k + 1) ∧ 0 ≤ nth E k ∧ (nth E k).toNat < ts.length ∧ nth out (nth E k).toNat = -1 := by
  have hl : E.length = ts.length := by rw [hE.1.length_eq, idL_length]
  have h1 : E.drop k = nth E k :: E.drop (k + 1) := by rw [nth_eq (by omega)]; exact List.drop_eq_getElem_cons (by omega)
  have h2 : nth E k ∈ E.drop k := by rw [h1]; exact List.mem_cons_self
  have h3 := idL_mem.1 (hE.1.mem_iff.1 (List.mem_of_mem_drop h2))
  exact ⟨h1, h3.1, by omega, h.not _ h2⟩
theorem MendI.fail {ts : List Tk} {st : List Int} {crew : Int} {E out : List Int} {k : Nat} (h : MendI ts st crew E k out) (hE : SortsBy (keyOf st) ts.length E) (hk : k < ts.length) (ht : toldB ts out (nth E k).toNat = false) : mendOf ts st crew = none := by
  have h1 := h.rem
  rw [(h.next hE hk).1] at h1
  unfold mendL at h1
  rw [if_neg (by rw [ht]; simp)] at h1
  exact h1.symm
theorem MendI.done {ts : List Tk} {st : List Int} {crew : Int} {E out : List Int} (h : MendI ts st crew E ts.length out) (hE : SortsBy (keyOf st) ts.length E) : mendOf ts st crew = some out := by
  have hl : E.length = ts.length := by rw [hE.1.length_eq, idL_length]
  have h1 := h.rem
  rw [List.drop_eq_nil_of_le (by omega)] at h1
  exact h1.symm
theorem MendI.step {ts : List Tk} {st : List Int} {crew : Int} {E out : List Int} {k : Nat} {s : Int} (h : MendI ts st crew E k out) (hE : SortsBy (keyOf st) ts.length E) (hk : k < ts.length) (hts : SmTs ts) (ht : toldB ts out (nth E k).toNat = true)
    (hs : Fit (fun t => useO ts out t ts.length) crew (needN ts (nth E k).toNat) (timeN ts (nth E k).toNat) (max (nth st (nth E k).toNat) (leastN ts out (nth E k).toNat)) s) (hs0 : 0 ≤ s) (hsB : s ≤ 600 + 300 * (k : Int)) :
    MendI ts st crew E (k + 1) (out.set (nth E k).toNat s) := by
  have hl : E.length = ts.length := by rw [hE.1.length_eq, idL_length]
  obtain ⟨h1, h2, h3, h4⟩ := h.next hE hk
  have hil : (nth E k).toNat < out.length := by rw [h.len]; exact h3
  refine ⟨hk, by rw [List.length_set]; exact h.len, fun j hj => ?_, fun j hj => ?_, ?_, fun y hy => ?_, fun y hy => ?_⟩
  · rw [nth_setM _ hil]
    have := h.lo j hj
    split <;> omega
  · rw [nth_setM _ hil]
    have := h.hi j hj
    have := hts.time j hj
    split <;> omega
  · have h5 := h.rem
    rw [h1] at h5
    conv at h5 => lhs; unfold mendL
    rw [if_pos ht] at h5
    unfold mendS at h5
    rw [hs.eq] at h5
    exact h5
  · rw [nth_setM _ hil]
    rw [List.take_succ_eq_append_getElem (by omega), List.mem_append] at hy
    split
    · exact hs0
    · rename_i e
      rcases hy with hy | hy
      · exact h.told y hy
      · exfalso; apply e
        rw [List.mem_singleton] at hy
        rw [hy, nth_eq (by omega)]
  · have hn := h.not y (by rw [h1]; exact List.mem_cons_of_mem _ hy)
    rw [nth_setM _ hil]
    split
    · rename_i e
      exfalso
      have hp := (hE.1.pairwise_iff (fun h => Ne.symm h)).2 (idL_nodup ts.length)
      have hp2 := List.Pairwise.sublist (List.drop_sublist k E) hp
      rw [h1, List.pairwise_cons] at hp2
      have h6 := idL_mem.1 (hE.1.mem_iff.1 (List.mem_of_mem_drop hy))
      exact hp2.1 y hy (by omega)
    · exact hn
end Go.Proofs.Ytnpfninkopffmaa
