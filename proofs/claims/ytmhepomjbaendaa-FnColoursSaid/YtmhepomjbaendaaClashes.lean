
/- AreClashes and AreTalks, program and reference: the contracts of both, by one plain function. Conditions: at most 2^20 numbers. -/
import Derived.Test.YtmhepomjbaendaaChunk
namespace Go.Proofs.Ytmhepomjbaendaa
open Go.RowKit Go.Shelf
set_option linter.unusedVariables false
set_option linter.unusedSimpArgs false
open Go.BigFrame
attribute [local go_sem] Oper.semAt_some

def clashesHead (n : Int) (xs : List Int) : Bool := win n 1 12 && decide (xs.length ≤ 64) && decide (xs.length % 2 = 0) && xs.all (fun x => win x 0 (n - 1))
def clashesOk (n : Int) (xs : List Int) : Bool := clashesHead n xs && (List.range (xs.length / 2)).all fun j => nth xs (2 * j) != nth xs (2 * j + 1)

theorem areExams_any (n : Int) (w : World) : Calls Try.prog 97 #[.int .i64 n] w fun e w' => e = .returned (.bool (win n 1 12)) ∧ w = w' := by
  go_enter Try.func97, Try.ntmps97
  go_wp2_with (go_at_call 60; refine (within_any _ _ _ _).mono ?_; rintro e w' ⟨rfl, rfl⟩)
  go_ret
  exact ⟨rfl, rfl⟩

theorem implClashes_no (n : Int) (v : Value) (xs : List Int) (w : World) (hv : Ints w v xs) (h : clashesHead n xs = false) (hn : (Lit.int .i64 n).wf = true) :
    Calls Try.prog 39 #[.int .i64 n, v] w fun e w' => e = .returned (.bool false) ∧ Below w.heap.size w w' := by
  have hv1 : Ints (w.alloc (.cells #[.bool false] 4)) v xs := hv.below ((Below.refl _ _).alloc (Nat.le_refl _) _) (Nat.le_refl _)
  obtain ⟨hm, a, c, rfl, hcap, hc⟩ := hv
  clear hc
  rw [wf_i64_iff] at hn
  obtain ⟨hn1, hn2⟩ := hn
  unfold maxLen at hm
  unfold clashesHead at h
  by_cases h1 : win n 1 12 = true
  · have h1' := win_true.1 h1
    obtain ⟨h1a, h1b⟩ := h1'
    by_cases h2 : xs.length ≤ 64
    · by_cases h3 : xs.length % 2 = 0
      · have h4 : (xs.all fun x => win x 0 (n - 1)) = false := by simpa [h1, h2, h3] using h
        have h3' : (((xs.length : Int) % 2) != 0) = false := by simp; omega
        go_enter Try.func39, Try.ntmps39
        go_wp2_with (first | (go_at_call 97; refine (areExams_any _ _).mono ?_; rintro e w' ⟨rfl, rfl⟩) | (go_at_call 99; refine (areWithin_any _ xs _ _ _ hv1).mono ?_; rintro e w' ⟨rfl, rfl⟩))
        exact bodyPost_ret (v := .bool false) (by simp [results, Try.results39, go_sem]) rfl ⟨rfl, (Below.refl _ _).alloc (Nat.le_refl _) _⟩
      · have h3' : (((xs.length : Int) % 2) != 0) = true := by simp; omega
        go_enter Try.func39, Try.ntmps39
        go_wp2_with (first | (go_at_call 97; refine (areExams_any _ _).mono ?_; rintro e w' ⟨rfl, rfl⟩) | (go_at_call 99; refine (areWithin_any _ xs _ _ _ hv1).mono ?_; rintro e w' ⟨rfl, rfl⟩))
        exact bodyPost_ret (v := .bool false) (by simp [results, Try.results39, go_sem]) rfl ⟨rfl, (Below.refl _ _).alloc (Nat.le_refl _) _⟩
    · go_enter Try.func39, Try.ntmps39
      go_wp2_with (first | (go_at_call 97; refine (areExams_any _ _).mono ?_; rintro e w' ⟨rfl, rfl⟩) | (go_at_call 99; refine (areWithin_any _ xs _ _ _ hv1).mono ?_; rintro e w' ⟨rfl, rfl⟩))
      exact bodyPost_ret (v := .bool false) (by simp [results, Try.results39, go_sem]) rfl ⟨rfl, (Below.refl _ _).alloc (Nat.le_refl _) _⟩
  · have h1' : win n 1 12 = false := by simpa using h1
    go_enter Try.func39, Try.ntmps39
    go_wp2_with (first | (go_at_call 97; refine (areExams_any _ _).mono ?_; rintro e w' ⟨rfl, rfl⟩) | (go_at_call 99; refine (areWithin_any _ xs _ _ _ hv1).mono ?_; rintro e w' ⟨rfl, rfl⟩))
    exact bodyPost_ret (v := .bool false) (by simp [results, Try.results39, go_sem]) rfl ⟨rfl, (Below.refl _ _).alloc (Nat.le_refl _) _⟩

theorem implClashes_yes (n : Int) (v : Value) (xs : List Int) (w : World) (m : Nat) (hv : Ints w v xs) (h : clashesHead n xs = true) (hxm : xs.length = 2 * m) :
    Calls Try.prog 39 #[.int .i64 n, v] w fun e w' => e = .returned (.bool ((List.range m).all fun j => nth xs (2 * j) != nth xs (2 * j + 1))) ∧ Below w.heap.size w w' := by
  have hv1 : Ints (w.alloc (.cells #[.bool false] 4)) v xs := hv.below ((Below.refl _ _).alloc (Nat.le_refl _) _) (Nat.le_refl _)
  obtain ⟨hm, a, c, rfl, hcap, hc⟩ := hv
  unfold maxLen at hm
  simp only [clashesHead, Bool.and_eq_true, decide_eq_true_eq] at h
  obtain ⟨⟨⟨h1, h2⟩, h3⟩, h4⟩ := h
  obtain ⟨h1a, h1b⟩ := win_true.1 h1
  have h3' : (((xs.length : Int) % 2) != 0) = false := by simp; omega
  have HXM := Lib.hid hxm
  clear h3 hxm
  refine (callsIn_wide (n := 9)).1 ?_
  refine callsIn_of_wp_marks Try.func39 rfl trivial ?_ rfl
  simp only [Try.ntmps39, List.size_toArray, List.length_cons, List.length_nil, Nat.reduceAdd, Nat.reduceSub, Array.replicate_succ, Array.replicate_zero, List.push_toArray, List.append_toArray, List.nil_append, List.cons_append]
  refine wpIn_wide.2 ?_
  go_wp2_with (first | (go_at_call 97; refine (areExams_any _ _).mono ?_; rintro e w' ⟨rfl, rfl⟩) | (go_at_call 99; refine (areWithin_any _ xs _ _ _ hv1).mono ?_; rintro e w' ⟨rfl, rfl⟩) | (go_at_call 59; refine (chunk_any _ _ _ _ _ (by omega)).mono ?_; rintro e w' ⟨rfl, rfl⟩))
  obtain ⟨W0, hW0⟩ : ∃ W0, ((w.alloc (.cells #[.bool false] 4)).alloc (.cells #[.slice a xs.length c] 25)).alloc (.cells #[.int .i64 2] 3) = W0 := ⟨_, rfl⟩
  have hsz : W0.heap.size = w.heap.size + 3 := by rw [← hW0]; simp
  have hB0 : Below w.heap.size w W0 := by rw [← hW0]; exact (((Below.refl _ w).alloc (Nat.le_refl _) _).alloc (by simp) _).alloc (by simp; omega) _
  have hR0 : Boxed W0 w.heap.size 4 (.bool false) := by rw [← hW0]; exact ((Boxed.new _ _ _).alloc _).alloc _
  have hs0 : W0.cell? ⟨w.heap.size + 1, 0, none⟩ = some (.slice a xs.length c) := by
    have := ((Boxed.new (w.alloc (.cells #[.bool false] 4)) 25 (.slice a xs.length c)).alloc (.cells #[.int .i64 2] 3)).cell
    rw [hW0] at this; simpa using this
  have hn0 : W0.cell? ⟨w.heap.size + 1 + 1, 0, none⟩ = some (.int .i64 2) := by
    have := (Boxed.new ((w.alloc (.cells #[.bool false] 4)).alloc (.cells #[.slice a xs.length c] 25)) 3 (.int .i64 2)).cell
    rw [hW0] at this; simpa using this
  rw [hW0]
  clear hW0
  obtain ⟨b, o, ha0, hbs, hcs⟩ := row_at hc
  clear hc
  refine chunk_loop (k := 9) (by omega) (Bs := w.heap.size + 1) (Bn := w.heap.size + 1 + 1) rfl b o c 2 m xs.length a HXM.out (by omega) (by omega) ha0 hs0 hcap hn0 rfl
    (fun pre W => Boxed W w.heap.size 4 (.bool false) ∧ Below w.heap.size w W ∧ ∀ x ∈ pre, nth xs (2 * x.1) ≠ nth xs (2 * x.1 + 1))
    (fun cd pre W => cd = .ret ∧ Boxed W w.heap.size 4 (.bool false) ∧ Below w.heap.size w W ∧ ∃ x ∈ pre, nth xs (2 * x.1) = nth xs (2 * x.1 + 1))
    ?hI ?hIx ?h0 ?a1 ?hassign ?hbody ?hdone ?hstop
  case hassign =>
    intro l x W K hK
    gi_wp2
    exact hK
  case hI => exact OwnFrom.and (ownFrom_boxed _ _ _ _) (OwnFrom.and (ownFrom_below (by omega) (by omega)) (ownFrom_pure _ _))
  case hIx => exact fun cd => OwnFrom.and (ownFrom_pure _ _) (OwnFrom.and (ownFrom_boxed _ _ _ _) (OwnFrom.and (ownFrom_below (by omega) (by omega)) (ownFrom_pure _ _)))
  case h0 => exact ⟨hR0, hB0, by simp⟩
  case hbody =>
    rintro l pre x W hl hr ⟨hR, hB, hp⟩
    have hx2 : 2 * x.1 + 1 < xs.length := by have := x.2; have := HXM.out; omega
    have e0 : W.cell? ⟨b, o + x.1 * 2, none⟩ = some (.int .i64 (nth xs (2 * x.1))) := by
      rw [hB.cell (p := ⟨b, o + x.1 * 2, none⟩) (hbs (by omega)), Nat.mul_comm x.1 2, hcs _ (by omega), nth_eq (by omega)]
    have e1 : W.cell? ⟨b, o + x.1 * 2 + 1, none⟩ = some (.int .i64 (nth xs (2 * x.1 + 1))) := by
      rw [hB.cell (p := ⟨b, o + x.1 * 2 + 1, none⟩) (hbs (by omega)), Nat.mul_comm x.1 2, Nat.add_assoc, hcs _ (by omega), nth_eq hx2]
    have hRc := hR.cell
    have hRf := hR.frozen
    unfold chunkAt
    cases hq : (nth xs (2 * x.1) == nth xs (2 * x.1 + 1))
    · have hp' : ∀ y ∈ pre ++ [x], nth xs (2 * y.1) ≠ nth xs (2 * y.1 + 1) := by
        intro y hy
        rcases List.mem_append.1 hy with h | h
        · exact hp y h
        · obtain rfl : y = x := by simpa using h
          simpa using hq
      have hk : Keep2 (w.heap.size + 1) (w.heap.size + 1 + 1) W W := Keep2.refl _ _ _
      clear hp
      gi_wp2
      refine round_quiet_lit (by kernel_rfl) (by kernel_rfl) (by kernel_rfl) ?_
      repeat (gi_big_quiet_step (fail))
      refine wpQuietIn_nil ?_
      intro _ hw'
      obtain ⟨nq, hw''⟩ := hw'
      subst hw''
      gi_wp2
      exact ⟨(KeepsFrom.refl _ _).drewN _, hk.drewN _, hR, below_drewN _ hB, hp'⟩
    · have hp' : ∃ y ∈ pre ++ [x], nth xs (2 * y.1) = nth xs (2 * y.1 + 1) := ⟨x, by simp, by simpa using hq⟩
      clear hp
      gi_wp2
      refine round_quiet_lit (by kernel_rfl) (by kernel_rfl) (by kernel_rfl) ?_
      repeat (gi_big_quiet_step (fail))
      refine wpQuietIn_nil ?_
      intro _ hw'
      obtain ⟨nq, hw''⟩ := hw'
      subst hw''
      gi_wp2
      refine ⟨((KeepsFrom.refl _ _).drewN _).setCell _ _, rfl, ?_, (below_drewN _ hB).setCell (Nat.le_refl _) _, hp'⟩
      exact Boxed.set _ (show Boxed (W.drewN nq) _ _ _ from hR)
  case hdone =>
    rintro D W hD ⟨hR, hB, hp⟩ hK
    have hRc := hR.cell
    have hRf := hR.frozen
    go_wp2
    have hR' := boxed_putObj (o' := .deferred none) (Boxed.set (.bool true) hR) (kept_setCell hK)
    have hc' := hR'.cell
    refine bodyM_ret (v := .bool true) rfl (kept_setCell hK) (by simp [results, Try.results39, go_sem, hc']) ⟨ret_bool ?_, below_putObj (hB.setCell (Nat.le_refl _) _) (by omega) (kept_setCell hK)⟩
    symm
    rw [List.all_eq_true]
    intro j hj
    have := hp ⟨j, by simpa using hj⟩ (List.mem_finRange _)
    simpa using this
  case hstop =>
    rintro D cd pre W hD hS ⟨rfl, hR, hB, hp⟩ hK
    go_wp2
    have hR' := boxed_putObj (o' := .deferred none) hR hK
    have hc' := hR'.cell
    refine bodyM_ret (v := .bool false) rfl hK (by simp [results, Try.results39, go_sem, hc']) ⟨ret_bool ?_, below_putObj hB (by omega) hK⟩
    symm
    rw [List.all_eq_false]
    obtain ⟨y, _, hy⟩ := hp
    exact ⟨y.1, by simp, by simpa using hy⟩

theorem clashes_split {n : Int} {xs : List Int} {m : Nat} (hxm : xs.length = 2 * m) (hh : win n 1 12 = true) (h2 : xs.length ≤ 64)
    (h : ∀ i (hi : i < xs.length), win xs[i] 0 (n - 1) = true ∧ (i % 2 = 1 → xs[i] ≠ nth xs (i - 1))) : clashesOk n xs = true := by
  have h1 : (xs.all fun x => win x 0 (n - 1)) = true := by
    rw [List.all_eq_true]; intro x hx
    obtain ⟨i, hi, rfl⟩ := List.getElem_of_mem hx
    exact (h i hi).1
  have h3 : ((List.range (xs.length / 2)).all fun j => nth xs (2 * j) != nth xs (2 * j + 1)) = true := by
    rw [List.all_eq_true]; intro j hj
    have hj' : 2 * j + 1 < xs.length := by have := List.mem_range.1 hj; omega
    have := (h (2 * j + 1) hj').2 (by omega)
    rw [nth_eq hj']
    simpa using fun e => this e.symm
  simp [clashesOk, clashesHead, hh, h1, h2, h3]; omega

set_option maxHeartbeats 1000000 in
theorem specClashes_any (n : Int) (v : Value) (xs : List Int) (w : World) (hv : Ints w v xs) (hn : (Lit.int .i64 n).wf = true) :
    Calls Try.prog 88 #[.int .i64 n, v] w fun e w' => e = .returned (.bool (clashesOk n xs)) ∧ Below w.heap.size w w' := by
  obtain ⟨hm, a, c, rfl, hcap, hc⟩ := hv
  rw [wf_i64_iff] at hn
  obtain ⟨hn1, hn2⟩ := hn
  unfold maxLen at hm
  by_cases h1 : win n 1 12 = true
  · obtain ⟨h1a, h1b⟩ := win_true.1 h1
    by_cases h2 : xs.length ≤ 64
    · by_cases h3 : xs.length % 2 = 0
      · have h3' : (((xs.length : Int) % 2) != 0) = false := by simp; omega
        have H3 := Lib.hid h3
        clear h3
        go_enter Try.func88, Try.ntmps88
        go_wp2_with (go_at_call 68; refine (l00In_any _ _ _ _).mono ?_; rintro e w' ⟨rfl, rfl⟩)
        go_loopw [5, 22] (fun _ i wr => ∃ k : Nat, k ≤ xs.length ∧ i = .int .i64 k ∧ Below w.heap.size w wr ∧ ∀ i (hi : i < k) (hi' : i < xs.length), win xs[i] 0 (n - 1) = true ∧ (i % 2 = 1 → xs[i] ≠ nth xs (i - 1))) (fun _ i _ => xs.length - (intOf i).toNat)
        case atStart => exact ⟨0, Nat.zero_le _, rfl, Below.refl _ _, fun i hi => by omega⟩
        case round =>
          obtain ⟨k, hk, rfl, hb, hr⟩ := hrel
          have Hr := Lib.hid hr
          clear hr
          by_cases hlt : k < xs.length
          · obtain ⟨b, o, rfl, hbs, hc1⟩ := hc k hlt
            have hck : wr.cell? ⟨b, o + k, none⟩ = some (.int .i64 xs[k]) := (hb.cell (p := ⟨b, o + k, none⟩) hbs).trans hc1
            have hck' : k % 2 = 1 → wr.cell? ⟨b, o + (k - 1), none⟩ = some (.int .i64 (nth xs (k - 1))) := fun h => by
              obtain ⟨b', o', hbo, hbs', hc2⟩ := hc (k - 1) (by omega)
              obtain ⟨rfl, rfl⟩ : b = b' ∧ o = o' := by simpa using hbo
              rw [nth_eq (by omega)]
              exact (hb.cell (p := ⟨b, o + (k - 1), none⟩) hbs').trans hc2
            obtain ⟨p, hp⟩ : ∃ p, xs[k] = p := ⟨_, rfl⟩
            rw [hp] at hck
            have Hp := Lib.hid hp
            have hk0 : (0 : Int) ≤ (k : Int) := by omega
            have hk1 : (k : Int) < (xs.length : Int) := by omega
            clear hc hc1 hp
            cases hw : win p 0 (n - 1)
            · go_wp2
              go_quiet ((go_at_call 68; exact quiet_eq (l00In_any _ _ _ _)))
              go_wp2
              go_ret
              refine ⟨ret_bool ?_, below_drewN _ hb⟩
              symm
              have : (xs.all fun x => win x 0 (n - 1)) = false := by
                rw [List.all_eq_false]
                exact ⟨xs[k], List.getElem_mem _, by rw [Hp.out, hw]; simp⟩
              simp [clashesOk, clashesHead, this]
            · by_cases hodd : k % 2 = 1
              · have hck2 := hck' hodd
                have ho : (((k : Int) % 2) == 1) = true := by simp; omega
                clear hck'
                cases hq : (p == nth xs (k - 1))
                · go_wp2
                  go_quiet ((go_at_call 68; exact quiet_eq (l00In_any _ _ _ _)))
                  go_wp2
                  go_roundw
                  case rel =>
                    refine ⟨k + 1, by omega, by go_num, below_drewN _ hb, fun i hi hi' => ?_⟩
                    rcases Nat.lt_succ_iff_lt_or_eq.1 hi with h | rfl
                    · exact Hr.out i h hi'
                    · rw [Hp.out]; exact ⟨hw, fun _ => by simpa using hq⟩
                  case measure => simp [intOf]; omega
                · go_wp2
                  go_quiet ((go_at_call 68; exact quiet_eq (l00In_any _ _ _ _)))
                  go_wp2
                  go_ret
                  refine ⟨ret_bool ?_, below_drewN _ hb⟩
                  symm
                  have hq' : p = nth xs (k - 1) := by simpa using hq
                  have : ((List.range (xs.length / 2)).all fun j => nth xs (2 * j) != nth xs (2 * j + 1)) = false := by
                    rw [List.all_eq_false]
                    refine ⟨k / 2, by simp; omega, ?_⟩
                    rw [show 2 * (k / 2) = k - 1 by omega, show k - 1 + 1 = k by omega, nth_eq hlt, Hp.out, hq']
                    simp
                  simp [clashesOk, this]
              · have ho : (((k : Int) % 2) == 1) = false := by simp; omega
                clear hck'
                go_wp2
                go_quiet ((go_at_call 68; exact quiet_eq (l00In_any _ _ _ _)))
                go_wp2
                go_roundw
                case rel =>
                  refine ⟨k + 1, by omega, by go_num, below_drewN _ hb, fun i hi hi' => ?_⟩
                  rcases Nat.lt_succ_iff_lt_or_eq.1 hi with h | rfl
                  · exact Hr.out i h hi'
                  · rw [Hp.out]; exact ⟨hw, fun h => absurd h hodd⟩
                case measure => simp [intOf]; omega
          · go_wp2
            go_ret
            refine ⟨ret_bool ?_, hb⟩
            symm
            exact clashes_split (m := xs.length / 2) (by have := H3.out; omega) h1 h2 (fun i hi => Hr.out i (by omega) hi)
      · have h3' : (((xs.length : Int) % 2) != 0) = true := by simp; omega
        clear hc
        go_enter Try.func88, Try.ntmps88
        go_wp2_with (go_at_call 68; refine (l00In_any _ _ _ _).mono ?_; rintro e w' ⟨rfl, rfl⟩)
        go_ret
        exact ⟨ret_bool (by simp [clashesOk, clashesHead, h3]), Below.refl _ _⟩
    · clear hc
      go_enter Try.func88, Try.ntmps88
      go_wp2_with (go_at_call 68; refine (l00In_any _ _ _ _).mono ?_; rintro e w' ⟨rfl, rfl⟩)
      go_ret
      exact ⟨ret_bool (by simp [clashesOk, clashesHead, h2]), Below.refl _ _⟩
  · have h1' : win n 1 12 = false := by simpa using h1
    clear hc
    go_enter Try.func88, Try.ntmps88
    go_wp2_with (go_at_call 68; refine (l00In_any _ _ _ _).mono ?_; rintro e w' ⟨rfl, rfl⟩)
    go_ret
    exact ⟨ret_bool (by simp [clashesOk, clashesHead, h1']), Below.refl _ _⟩

theorem implAreClashes_any (n : Int) (v : Value) (xs : List Int) (w : World) (hv : Ints w v xs) (hn : (Lit.int .i64 n).wf = true) :
    Calls Try.prog 39 #[.int .i64 n, v] w fun e w' => e = .returned (.bool (clashesOk n xs)) ∧ Below w.heap.size w w' := by
  cases h : clashesHead n xs
  · refine (implClashes_no n v xs w hv h hn).mono ?_
    rintro e w' ⟨rfl, hb⟩
    exact ⟨by simp [clashesOk, h], hb⟩
  · have h3 : xs.length % 2 = 0 := by
      simp only [clashesHead, Bool.and_eq_true, decide_eq_true_eq] at h
      exact h.1.2
    refine (implClashes_yes n v xs w (xs.length / 2) hv h (by omega)).mono ?_
    rintro e w' ⟨rfl, hb⟩
    exact ⟨by simp [clashesOk, h], hb⟩

end Go.Proofs.Ytmhepomjbaendaa
