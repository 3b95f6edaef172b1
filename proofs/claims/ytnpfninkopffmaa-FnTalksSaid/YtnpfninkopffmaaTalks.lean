
/- AreTalks, program and reference: the contracts of both, by one plain function. Conditions: none. -/
import Derived.Test.YtnpfninkopffmaaChunk
namespace Go.Proofs.Ytnpfninkopffmaa
open Go.RowKit Go.Shelf Go.BigFrame
set_option linter.unusedVariables false
set_option linter.unusedSimpArgs false
attribute [local go_sem] Oper.semAt_some

def talksHead (xs : List Int) : Bool := many xs 2 64 0 10000 && decide (xs.length % 2 = 0)
def talksOk (xs : List Int) : Bool := talksHead xs && (List.range (xs.length / 2)).all fun j => decide (nth xs (2 * j) < nth xs (2 * j + 1))

theorem implTalks_no (v : Value) (xs : List Int) (w : World) (hv : Ints w v xs) (h : talksHead xs = false) :
    Calls Try.prog 29 #[v] w fun e w' => e = .returned (.bool false) ∧ Below w.heap.size w w' := by
  have hv1 : Ints (w.alloc (.cells #[.bool false] 4)) v xs := hv.below ((Below.refl _ _).alloc (Nat.le_refl _) _) (Nat.le_refl _)
  obtain ⟨hm, a, c, rfl, hcap, hc⟩ := hv
  clear hc
  unfold maxLen at hm
  unfold talksHead at h
  cases h1 : many xs 2 64 0 10000
  · go_enter Try.func29, Try.ntmps29
    go_wp2_with (go_at_call 73; refine (areMany_any _ xs 2 64 _ _ _ hv1).mono ?_; rintro e w' ⟨rfl, rfl⟩)
    exact bodyPost_ret (v := .bool false) (by simp [results, Try.results29, go_sem]) rfl ⟨rfl, (Below.refl _ _).alloc (Nat.le_refl _) _⟩
  · have h3 : ¬ xs.length % 2 = 0 := by simpa [h1] using h
    have h3' : (((xs.length : Int) % 2) != 0) = true := by simp; omega
    go_enter Try.func29, Try.ntmps29
    go_wp2_with (go_at_call 73; refine (areMany_any _ xs 2 64 _ _ _ hv1).mono ?_; rintro e w' ⟨rfl, rfl⟩)
    exact bodyPost_ret (v := .bool false) (by simp [results, Try.results29, go_sem]) rfl ⟨rfl, (Below.refl _ _).alloc (Nat.le_refl _) _⟩

theorem implTalks_yes (v : Value) (xs : List Int) (w : World) (m : Nat) (hv : Ints w v xs) (h : many xs 2 64 0 10000 = true) (hxm : xs.length = 2 * m) :
    Calls Try.prog 29 #[v] w fun e w' => e = .returned (.bool ((List.range m).all fun j => decide (nth xs (2 * j) < nth xs (2 * j + 1)))) ∧ Below w.heap.size w w' := by
  have hv1 : Ints (w.alloc (.cells #[.bool false] 4)) v xs := hv.below ((Below.refl _ _).alloc (Nat.le_refl _) _) (Nat.le_refl _)
  obtain ⟨hm, a, c, rfl, hcap, hc⟩ := hv
  unfold maxLen at hm
  have hlen : xs.length ≤ 64 := by have := (many_true.1 h).2.1; omega
  have h3' : (((xs.length : Int) % 2) != 0) = false := by simp; omega
  have HXM := Lib.hid hxm
  clear hxm
  obtain ⟨b, o, ha0, hbs, hcs⟩ := row_at hc
  clear hc
  refine (callsIn_wide (n := 9)).1 ?_
  refine callsIn_of_wp_marks Try.func29 rfl trivial ?_ rfl
  simp only [Try.ntmps29, List.size_toArray, List.length_cons, List.length_nil, Nat.reduceAdd, Nat.reduceSub, Array.replicate_succ, Array.replicate_zero, List.push_toArray, List.append_toArray, List.nil_append, List.cons_append]
  refine wpIn_wide.2 ?_
  go_wp2_with (first | (go_at_call 73; refine (areMany_any _ xs 2 64 _ _ _ hv1).mono ?_; rintro e w' ⟨rfl, rfl⟩) | (go_at_call 58; refine (chunk_call _ _ _ _ _ (by omega)).mono ?_; rintro e W0 ⟨rfl, hW0⟩))
  have hsz : W0.heap.size = w.heap.size + 3 := by have := hW0.size; simpa using this
  have hB0 : Below w.heap.size w W0 := ((Below.refl _ w).alloc (Nat.le_refl _) _).trans (hW0.below.mono (by simp))
  have hR0 : Boxed W0 w.heap.size 4 (.bool false) := (hW0.below.block _ (by simp)).trans (Boxed.new _ _ _)
  have hs0 : W0.cell? ⟨w.heap.size + 1, 0, none⟩ = some (.slice a xs.length c) := by have := hW0.s; simpa using this
  have hn0 : W0.cell? ⟨w.heap.size + 1 + 1, 0, none⟩ = some (.int .i64 2) := by have := hW0.n; simpa using this
  clear hW0
  refine chunk_loop (k := 9) (by omega) (Bs := w.heap.size + 1) (Bn := w.heap.size + 1 + 1) rfl b o c 2 m xs.length a HXM.out (by omega) (by omega) ha0 hs0 hcap hn0 rfl
    (fun pre W => Boxed W w.heap.size 4 (.bool false) ∧ Below w.heap.size w W ∧ ∀ x ∈ pre, nth xs (2 * x.1) < nth xs (2 * x.1 + 1))
    (fun cd pre W => cd = .ret ∧ Boxed W w.heap.size 4 (.bool false) ∧ Below w.heap.size w W ∧ ∃ x ∈ pre, nth xs (2 * x.1 + 1) ≤ nth xs (2 * x.1))
    ?hI ?hIx ?h0 ?a1 ?hassign ?hbody ?hdone ?hstop
  case hassign =>
    intro l x W K hK
    gi_wp2
    exact hK
  case hI => exact OwnFrom.and (ownFrom_boxed _ _ _ _) (OwnFrom.and (ownFrom_below (by omega) (by omega)) (ownFrom_pure _ _))
  case hIx => exact fun cd => OwnFrom.and (ownFrom_pure _ _) (OwnFrom.and (ownFrom_boxed _ _ _ _) (OwnFrom.and (ownFrom_below (by omega) (by omega)) (ownFrom_pure _ _)))
  case h0 => exact ⟨hR0, hB0, by simp⟩
  case hbody =>
    rintro l pre x W hl hr ⟨hR, hB, hp⟩
    obtain ⟨e0, e1⟩ := pair_cells hbs hcs hB (Nat.le_refl _) HXM.out x
    have hRc := hR.cell
    have hRf := hR.frozen
    unfold chunkAt
    clear hr hs0 hn0 hcs
    by_cases hq : nth xs (2 * x.1 + 1) ≤ nth xs (2 * x.1)
    · have hp' : ∃ y ∈ pre ++ [x], nth xs (2 * y.1 + 1) ≤ nth xs (2 * y.1) := ⟨x, by simp, hq⟩
      clear hp
      gi_wp2
      refine round_quiet_lit (by kernel_rfl) (by kernel_rfl) (by kernel_rfl) ?_
      repeat (gi_big_quiet_step (fail))
      refine wpQuietIn_nil ?_
      intro _ hw'
      obtain ⟨nq, hw''⟩ := hw'
      subst hw''
      gi_wp2
      refine ⟨((KeepsFrom.refl _ _).drewN _).setCell _ _, rfl, ?_, (below_drewN _ hB).setCell (Nat.le_refl _) _, hp'⟩
      exact Boxed.set _ (show Boxed (W.drewN nq) _ _ _ from hR)
    · have hp' : ∀ y ∈ pre ++ [x], nth xs (2 * y.1) < nth xs (2 * y.1 + 1) := by
        intro y hy
        rcases List.mem_append.1 hy with h | h
        · exact hp y h
        · obtain rfl : y = x := by simpa using h
          omega
      have hk : Keep2 (w.heap.size + 1) (w.heap.size + 1 + 1) W W := Keep2.refl _ _ _
      clear hp
      gi_wp2
      refine round_quiet_lit (by kernel_rfl) (by kernel_rfl) (by kernel_rfl) ?_
      repeat (gi_big_quiet_step (fail))
      refine wpQuietIn_nil ?_
      intro _ hw'
      obtain ⟨nq, hw''⟩ := hw'
      subst hw''
      gi_wp2
      exact ⟨(KeepsFrom.refl _ _).drewN _, hk.drewN _, hR, below_drewN _ hB, hp'⟩
  case hdone =>
    rintro D W hD ⟨hR, hB, hp⟩ hK
    have hRc := hR.cell
    have hRf := hR.frozen
    go_wp2
    have hR' := boxed_putObj (o' := .deferred none) (Boxed.set (.bool true) hR) (kept_setCell hK)
    have hc' := hR'.cell
    refine bodyM_ret (v := .bool true) rfl (kept_setCell hK) (by simp [results, Try.results29, go_sem, hc']) ⟨ret_bool ?_, below_putObj (hB.setCell (Nat.le_refl _) _) (by omega) (kept_setCell hK)⟩
    symm
    rw [List.all_eq_true]
    intro j hj
    have := hp ⟨j, by simpa using hj⟩ (List.mem_finRange _)
    simpa using this
  case hstop =>
    rintro D cd pre W hD hS ⟨rfl, hR, hB, hp⟩ hK
    go_wp2
    have hR' := boxed_putObj (o' := .deferred none) hR hK
    have hc' := hR'.cell
    refine bodyM_ret (v := .bool false) rfl hK (by simp [results, Try.results29, go_sem, hc']) ⟨ret_bool ?_, below_putObj hB (by omega) hK⟩
    symm
    rw [List.all_eq_false]
    obtain ⟨y, _, hy⟩ := hp
    exact ⟨y.1, by simp, by simpa using hy⟩

theorem implTalks_any (v : Value) (xs : List Int) (w : World) (hv : Ints w v xs) :
    Calls Try.prog 29 #[v] w fun e w' => e = .returned (.bool (talksOk xs)) ∧ Below w.heap.size w w' := by
  cases h : talksHead xs
  · refine (implTalks_no v xs w hv h).mono ?_
    rintro e w' ⟨rfl, hb⟩
    exact ⟨by simp [talksOk, h], hb⟩
  · have h3 : many xs 2 64 0 10000 = true ∧ xs.length % 2 = 0 := by simpa [talksHead] using h
    refine (implTalks_yes v xs w (xs.length / 2) hv h3.1 (by omega)).mono ?_
    rintro e w' ⟨rfl, hb⟩
    exact ⟨by simp [talksOk, h], hb⟩

theorem talks_split {xs : List Int} (hl : 2 ≤ xs.length) (h2 : xs.length ≤ 64) (h3 : xs.length % 2 = 0)
    (h : ∀ j, 2 * j < xs.length → 0 ≤ nth xs (2 * j) ∧ nth xs (2 * j) ≤ 10000 ∧ nth xs (2 * j) + 1 ≤ nth xs (2 * j + 1) ∧ nth xs (2 * j + 1) ≤ 10000) : talksOk xs = true := by
  have h1 : (xs.all fun x => win x 0 10000) = true := by
    rw [List.all_eq_true]; intro x hx
    obtain ⟨i, hi, rfl⟩ := List.getElem_of_mem hx
    rw [win_true, ← nth_eq hi]
    rcases Nat.mod_two_eq_zero_or_one i with e | e
    · have := h (i / 2) (by omega)
      rw [show 2 * (i / 2) = i by omega] at this; omega
    · have := h (i / 2) (by omega)
      rw [show 2 * (i / 2) + 1 = i by omega] at this; omega
  have h4 : ((List.range (xs.length / 2)).all fun j => decide (nth xs (2 * j) < nth xs (2 * j + 1))) = true := by
    rw [List.all_eq_true]; intro j hj
    have := h j (by have := List.mem_range.1 hj; omega)
    simp; omega
  have h5 : many xs 2 64 0 10000 = true := many_true.2 ⟨by omega, by omega, h1⟩
  simp [talksOk, talksHead, h5, h3, h4]

theorem talks_bad {xs : List Int} (h3 : xs.length % 2 = 0) (j : Nat) (hj : 2 * j < xs.length) (h : ¬ (0 ≤ nth xs (2 * j) ∧ nth xs (2 * j) ≤ 10000 ∧ nth xs (2 * j) + 1 ≤ nth xs (2 * j + 1) ∧ nth xs (2 * j + 1) ≤ 10000)) : talksOk xs = false := by
  cases hc : talksOk xs
  · rfl
  · exfalso
    simp only [talksOk, talksHead, many, Bool.and_eq_true, List.all_eq_true, decide_eq_true_eq] at hc
    obtain ⟨⟨⟨_, ha⟩, _⟩, hb⟩ := hc
    have h0 := win_true.1 (ha _ (List.getElem_mem (show 2 * j < xs.length from hj)))
    have h1 := win_true.1 (ha _ (List.getElem_mem (show 2 * j + 1 < xs.length by omega)))
    rw [← nth_eq] at h0 h1
    have := hb j (List.mem_range.2 (by omega))
    omega

set_option maxHeartbeats 1000000 in
theorem specTalks_any (v : Value) (xs : List Int) (w : World) (hv : Ints w v xs) (hwf : ∀ n ∈ xs, (Lit.int .i64 n).wf = true) :
    Calls Try.prog 55 #[v] w fun e w' => e = .returned (.bool (talksOk xs)) ∧ Below w.heap.size w w' := by
  obtain ⟨hm, a, c, rfl, hcap, hc⟩ := hv
  unfold maxLen at hm
  by_cases h1 : 2 ≤ xs.length
  · by_cases h2 : xs.length ≤ 64
    · by_cases h3 : xs.length % 2 = 0
      · have h3' : (((xs.length : Int) % 2) != 0) = false := by simp; omega
        have H3 := Lib.hid h3
        clear h3
        obtain ⟨b, o, ha0, hbs, hcs⟩ := row_at hc
        obtain rfl := ha0 (by omega)
        have hbs := hbs (by omega)
        clear hc ha0
        go_enter Try.func55, Try.ntmps55
        go_wp2
        go_loopw [3] (fun i wr => ∃ j : Nat, 2 * j ≤ xs.length ∧ i = .int .i64 ↑(2 * j) ∧ Below w.heap.size w wr ∧ ∀ j', j' < j → 0 ≤ nth xs (2 * j') ∧ nth xs (2 * j') ≤ 10000 ∧ nth xs (2 * j') + 1 ≤ nth xs (2 * j' + 1) ∧ nth xs (2 * j' + 1) ≤ 10000) (fun i _ => xs.length - (intOf i).toNat)
        case atStart => exact ⟨0, Nat.zero_le _, rfl, Below.refl _ _, fun i hi => by omega⟩
        case round =>
          obtain ⟨j, hj, rfl, hb, hr⟩ := hrel
          have Hr := Lib.hid hr
          clear hr
          obtain ⟨k, hk⟩ : ∃ k, 2 * j = k := ⟨_, rfl⟩
          have Hk := Lib.hid hk
          rw [hk] at hj ⊢
          clear hk
          by_cases hlt : k < xs.length
          · have hlt2 : k + 1 < xs.length := by have := H3.out; have := Hk.out; omega
            have e0 : wr.cell? ⟨b, o + k, none⟩ = some (.int .i64 (nth xs k)) := by rw [nth_eq hlt]; exact (hb.cell (p := ⟨b, o + k, none⟩) hbs).trans (hcs k hlt)
            have e1 : wr.cell? ⟨b, o + (k + 1), none⟩ = some (.int .i64 (nth xs (k + 1))) := by rw [nth_eq hlt2]; exact (hb.cell (p := ⟨b, o + (k + 1), none⟩) hbs).trans (hcs (k + 1) hlt2)
            have hb0 := wf_i64_iff.1 (hwf _ (List.getElem_mem hlt))
            rw [← nth_eq] at hb0
            obtain ⟨p, hp⟩ : ∃ p, nth xs k = p := ⟨_, rfl⟩
            obtain ⟨q, hq⟩ : ∃ q, nth xs (k + 1) = q := ⟨_, rfl⟩
            rw [hp] at e0 hb0
            rw [hq] at e1
            obtain ⟨hb0a, hb0b⟩ := hb0
            have Hp := Lib.hid hp
            have Hq := Lib.hid hq
            have hk0 : (0 : Int) ≤ (k : Int) := by omega
            have hk1 : (k : Int) < (xs.length : Int) := by omega
            have hk2 : (k : Int) + 1 < (xs.length : Int) := by omega
            clear hp hq hcs
            cases hw : win p 0 10000
            · go_wp2
              go_quiet ((go_at_call 54; exact quiet_eq (l00In_any _ _ _ _)))
              go_wp2
              go_ret
              refine ⟨ret_bool ?_, below_drewN _ hb⟩
              symm
              refine talks_bad H3.out j (by have := Hk.out; omega) ?_
              rw [Hk.out, Hp.out]
              have := win_false.1 hw
              omega
            · obtain ⟨hw1, hw2⟩ := win_true.1 hw
              cases hw' : win q (p + 1) 10000
              · go_wp2
                go_quiet ((go_at_call 54; exact quiet_eq (l00In_any _ _ _ _)))
                go_wp2
                go_ret
                refine ⟨ret_bool ?_, below_drewN _ hb⟩
                symm
                refine talks_bad H3.out j (by have := Hk.out; omega) ?_
                rw [Hk.out, Hp.out, Hq.out]
                have := win_false.1 hw'
                omega
              · go_wp2
                go_quiet ((go_at_call 54; exact quiet_eq (l00In_any _ _ _ _)))
                go_wp2
                go_roundw
                case rel =>
                  refine ⟨j + 1, by have := Hk.out; omega, by have := Hk.out; rw [← this]; go_num, below_drewN _ hb, fun i hi => ?_⟩
                  rcases Nat.lt_succ_iff_lt_or_eq.1 hi with h | rfl
                  · exact Hr.out i h
                  · rw [Hk.out, Hp.out, Hq.out]
                    have := win_true.1 hw'
                    omega
                case measure => simp [intOf]; omega
          · go_wp2
            go_ret
            refine ⟨ret_bool ?_, hb⟩
            symm
            exact talks_split h1 h2 H3.out (fun i hi => Hr.out i (by have := Hk.out; omega))
      · have h3' : (((xs.length : Int) % 2) != 0) = true := by simp; omega
        clear hc
        go_enter Try.func55, Try.ntmps55
        go_wp2
        go_ret
        exact ⟨ret_bool (by simp [talksOk, talksHead, h3]), Below.refl _ _⟩
    · clear hc
      go_enter Try.func55, Try.ntmps55
      go_wp2
      go_ret
      exact ⟨ret_bool (by simp [talksOk, talksHead, many]; omega), Below.refl _ _⟩
  · clear hc
    go_enter Try.func55, Try.ntmps55
    go_wp2
    go_ret
    exact ⟨ret_bool (by simp [talksOk, talksHead, many]; omega), Below.refl _ _⟩

end Go.Proofs.Ytnpfninkopffmaa
