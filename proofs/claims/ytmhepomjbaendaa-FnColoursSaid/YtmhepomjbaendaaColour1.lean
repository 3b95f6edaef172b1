
/- IsColour, program and reference: the contracts of both, by one plain function. Conditions: none. -/
import Derived.Test.YtmhepomjbaendaaClashes
namespace Go.Proofs.Ytmhepomjbaendaa
open Go.RowKit Go.Shelf Go.BigFrame
set_option linter.unusedVariables false
set_option linter.unusedSimpArgs false
attribute [local go_sem] Oper.semAt_some

def colourHead (n : Int) (xs cs : List Int) : Bool := clashesOk n xs && many cs n n 0 11
/-- The colours of a pair. -/
def colourA (xs cs : List Int) (j : Nat) : Int := nth cs (nth xs (2 * j)).toNat
def colourB (xs cs : List Int) (j : Nat) : Int := nth cs (nth xs (2 * j + 1)).toNat
def colourOk (n : Int) (xs cs : List Int) : Bool := colourHead n xs cs && (List.range (xs.length / 2)).all fun j => colourA xs cs j != colourB xs cs j

theorem clashesOk_head {n : Int} {xs : List Int} (h : clashesOk n xs = true) : 1 ≤ n ∧ n ≤ 12 ∧ xs.length ≤ 64 ∧ xs.length % 2 = 0 ∧ ∀ k, k < xs.length → 0 ≤ nth xs k ∧ nth xs k < n := by
  simp only [clashesOk, clashesHead, Bool.and_eq_true, decide_eq_true_eq, List.all_eq_true] at h
  obtain ⟨⟨⟨⟨h1, h2⟩, h3⟩, h4⟩, _⟩ := h
  have := win_true.1 h1
  refine ⟨this.1, this.2, h2, h3, fun k hk => ?_⟩
  have := win_true.1 (h4 _ (List.getElem_mem hk))
  rw [← nth_eq] at this
  omega

theorem implColour_no (n : Int) (v u : Value) (xs cs : List Int) (w : World) (hv : Ints w v xs) (hu : Ints w u cs) (hn : (Lit.int .i64 n).wf = true) (h : colourHead n xs cs = false) :
    Calls Try.prog 40 #[.int .i64 n, v, u] w fun e w' => e = .returned (.tuple #[.bool false, .bool false]) ∧ Below w.heap.size w w' := by
  obtain ⟨hmu, au, cu, rfl, hcapu, hcu⟩ := id hu
  clear hcu
  obtain ⟨W0, hW0⟩ : ∃ W0, (((w.alloc (.cells #[.slice au cs.length cu] 25)).alloc (.cells #[.bool false] 4)).alloc (.cells #[.bool false] 4)) = W0 := ⟨_, rfl⟩
  have hB0 : Below w.heap.size w W0 := by rw [← hW0]; exact (((Below.refl _ w).alloc (Nat.le_refl _) _).alloc (by simp) _).alloc (by simp; omega) _
  have hsz : W0.heap.size = w.heap.size + 3 := by rw [← hW0]; simp
  have hb0 : Boxed W0 w.heap.size 25 (.slice au cs.length cu) := by rw [← hW0]; exact ((Boxed.new _ _ _).alloc _).alloc _
  have hb1 : Boxed W0 (w.heap.size + 1) 4 (.bool false) := by rw [← hW0]; have := (Boxed.new (w.alloc (.cells #[.slice au cs.length cu] 25)) 4 (.bool false)).alloc (.cells #[.bool false] 4); rwa [World.size_alloc] at this
  have hb2 : Boxed W0 (w.heap.size + 1 + 1) 4 (.bool false) := by rw [← hW0]; have := Boxed.new ((w.alloc (.cells #[.slice au cs.length cu] 25)).alloc (.cells #[.bool false] 4)) 4 (.bool false); rwa [World.size_alloc, World.size_alloc] at this
  unfold colourHead at h
  go_enter Try.func40, Try.ntmps40
  go_wp2_with fail
  clear hW0
  refine (implAreClashes_any _ _ xs _ (hv.below hB0 (Nat.le_refl _)) hn).mono ?_
  rintro e w1 ⟨rfl, hbe⟩
  have hB1 : Below w.heap.size w w1 := hB0.trans (hbe.mono hB0.size)
  have hc0 := (Boxed.cell (show Boxed w1 _ _ _ from (hbe.block _ (by omega)).trans hb0))
  have hR1 : Boxed w1 _ _ _ := (hbe.block _ (by omega)).trans hb1
  have hR2 : Boxed w1 _ _ _ := (hbe.block _ (by omega)).trans hb2
  have hc1 := hR1.cell
  have hc2 := hR2.cell
  have hf1 := hR1.frozen
  have hf2 := hR2.frozen
  have hu1 := hu.below hB1 (Nat.le_refl _)
  have hs1 : w1.setCell ⟨w.heap.size + 1, 0, none⟩ (.bool false) = w1.setCell ⟨w.heap.size + 1, 0, none⟩ (.bool false) := rfl
  have hR2' : Boxed (w1.setCell ⟨w.heap.size + 1, 0, none⟩ (.bool false)) _ _ _ := hR2.other (by omega) (.bool false)
  have hc2' := hR2'.cell
  have hf2' := hR2'.frozen
  have hR1'' : Boxed ((w1.setCell ⟨w.heap.size + 1, 0, none⟩ (.bool false)).setCell ⟨w.heap.size + 1 + 1, 0, none⟩ (.bool false)) _ _ _ := (hR1.set (.bool false)).other (by omega) (.bool false)
  have hR2'' : Boxed ((w1.setCell ⟨w.heap.size + 1, 0, none⟩ (.bool false)).setCell ⟨w.heap.size + 1 + 1, 0, none⟩ (.bool false)) _ _ _ := hR2'.set (.bool false)
  have hc1'' := hR1''.cell
  have hc2'' := hR2''.cell
  have hBe : Below w.heap.size w ((w1.setCell ⟨w.heap.size + 1, 0, none⟩ (.bool false)).setCell ⟨w.heap.size + 1 + 1, 0, none⟩ (.bool false)) := (hB1.setCell (p := ⟨w.heap.size + 1, 0, none⟩) (by show w.heap.size ≤ w.heap.size + 1; omega) _).setCell (p := ⟨w.heap.size + 1 + 1, 0, none⟩) (by show w.heap.size ≤ w.heap.size + 1 + 1; omega) _
  clear hs1 hb0 hb1 hb2 hR1 hR2 hR2' hR1'' hR2''
  cases hk : clashesOk n xs
  · go_wp2_with fail
    exact bodyPost_ret (v := .tuple #[.bool false, .bool false]) (by simp [results, Try.results40, go_sem, hc1'', hc2'']) rfl ⟨rfl, hBe⟩
  · have h2 : many cs n n 0 11 = false := by simpa [hk] using h
    go_wp2_with (go_at_call 66; refine (areMany_any _ cs n n _ _ _ hu1).mono ?_; rintro e w' ⟨rfl, rfl⟩)
    exact bodyPost_ret (v := .tuple #[.bool false, .bool false]) (by simp [results, Try.results40, go_sem, hc1'', hc2'']) rfl ⟨rfl, hBe⟩

set_option maxHeartbeats 800000 in
theorem implColour_yes (n : Int) (v u : Value) (xs cs : List Int) (w : World) (m : Nat) (hv : Ints w v xs) (hu : Ints w u cs) (hn : (Lit.int .i64 n).wf = true) (hk : clashesOk n xs = true) (h2 : many cs n n 0 11 = true) (hxm : xs.length = 2 * m) :
    Calls Try.prog 40 #[.int .i64 n, v, u] w fun e w' => e = .returned (.tuple #[.bool ((List.range m).all fun j => colourA xs cs j != colourB xs cs j), .bool true]) ∧ Below w.heap.size w w' := by
  obtain ⟨hmu, au, cu, rfl, hcapu, hcu⟩ := id hu
  obtain ⟨hmv, a, c, rfl, hcap, hc⟩ := id hv
  obtain ⟨b, o, ha0, hbs, hcs⟩ := row_at hc
  obtain ⟨bu, ou, hau0, hbsu, hcsu⟩ := row_at hcu
  obtain ⟨hk1, hk2, hk3, hk4, hk5⟩ := clashesOk_head hk
  have hcl : (cs.length : Int) = n := by have := many_true.1 h2; omega
  obtain rfl := hau0 (by omega)
  have HXM := Lib.hid hxm
  have HCL := Lib.hid hcl
  clear hcu hc hau0 hxm hcl hk4
  have hbsu := hbsu (by have := HCL.out; omega)
  obtain ⟨W0, hW0⟩ : ∃ W0, (((w.alloc (.cells #[.slice (some ⟨bu, ou, none⟩) cs.length cu] 25)).alloc (.cells #[.bool false] 4)).alloc (.cells #[.bool false] 4)) = W0 := ⟨_, rfl⟩
  have hB0 : Below w.heap.size w W0 := by rw [← hW0]; exact (((Below.refl _ w).alloc (Nat.le_refl _) _).alloc (by simp) _).alloc (by simp; omega) _
  have hsz : W0.heap.size = w.heap.size + 3 := by rw [← hW0]; simp
  have hb0 : Boxed W0 w.heap.size 25 (.slice (some ⟨bu, ou, none⟩) cs.length cu) := by rw [← hW0]; exact ((Boxed.new _ _ _).alloc _).alloc _
  have hb1 : Boxed W0 (w.heap.size + 1) 4 (.bool false) := by rw [← hW0]; have := (Boxed.new (w.alloc (.cells #[.slice (some ⟨bu, ou, none⟩) cs.length cu] 25)) 4 (.bool false)).alloc (.cells #[.bool false] 4); rwa [World.size_alloc] at this
  have hb2 : Boxed W0 (w.heap.size + 1 + 1) 4 (.bool false) := by rw [← hW0]; have := Boxed.new ((w.alloc (.cells #[.slice (some ⟨bu, ou, none⟩) cs.length cu] 25)).alloc (.cells #[.bool false] 4)) 4 (.bool false); rwa [World.size_alloc, World.size_alloc] at this
  refine (callsIn_wide (n := 9)).1 ?_
  refine callsIn_of_wp_marks Try.func40 rfl trivial ?_ rfl
  simp only [Try.ntmps40, List.size_toArray, List.length_cons, List.length_nil, Nat.reduceAdd, Nat.reduceSub, Array.replicate_succ, Array.replicate_zero, List.push_toArray, List.append_toArray, List.nil_append, List.cons_append]
  refine wpIn_wide.2 ?_
  go_wp2_with fail
  clear hW0
  refine (implAreClashes_any _ _ xs _ (hv.below hB0 (Nat.le_refl _)) hn).mono ?_
  rintro e w1 ⟨rfl, hbe⟩
  have hB1 : Below w.heap.size w w1 := hB0.trans (hbe.mono hB0.size)
  have hR0 : Boxed w1 _ _ _ := (hbe.block _ (by omega)).trans hb0
  have hR1 : Boxed w1 _ _ _ := (hbe.block _ (by omega)).trans hb1
  have hR2 : Boxed w1 _ _ _ := (hbe.block _ (by omega)).trans hb2
  have hc0 := hR0.cell
  have hu1 := hu.below hB1 (Nat.le_refl _)
  have hsz1 : w.heap.size + 3 ≤ w1.heap.size := by have := hbe.size; omega
  clear hbe hb0 hb1 hb2 hsz hB0
  go_wp2_with (first | (go_at_call 66; refine (areMany_any _ cs n n _ _ _ hu1).mono ?_; rintro e w' ⟨rfl, rfl⟩) | (go_at_call 59; refine (chunk_call _ _ _ _ _ (by omega)).mono ?_; rintro e W2 ⟨rfl, hW2⟩))
  have hB2 : Below w.heap.size w W2 := hB1.trans (hW2.below.mono hB1.size)
  have hR0 : Boxed W2 _ _ _ := (hW2.below.block _ (by omega)).trans hR0
  have hR1 : Boxed W2 _ _ _ := (hW2.below.block _ (by omega)).trans hR1
  have hR2 : Boxed W2 _ _ _ := (hW2.below.block _ (by omega)).trans hR2
  have hs0 := hW2.s
  have hn0 := hW2.n
  have hsz2 := hW2.size
  obtain ⟨N, hN⟩ : ∃ N, w.heap.size = N := ⟨_, rfl⟩
  obtain ⟨N1, hN1⟩ : ∃ N1, w1.heap.size = N1 := ⟨_, rfl⟩
  rw [hN1] at hs0 hn0 hsz1 hsz2 ⊢
  rw [hN] at hbs hbsu hR0 hR1 hR2 hB2 hsz1 ⊢
  have HN := Lib.hid hN
  have HSZ2 := Lib.hid hsz2
  clear hW2 hN1 hN hB1 hu1 hc0 hsz2 hu hv
  refine chunk_loop (k := 9) (by omega) (Bs := N1) (Bn := N1 + 1) rfl b o c 2 m xs.length a HXM.out (by omega) (by omega) ha0 hs0 hcap hn0 rfl
    (fun pre W => Boxed W N 25 (.slice (some ⟨bu, ou, none⟩) cs.length cu) ∧ Boxed W (N + 1) 4 (.bool false) ∧ Boxed W (N + 1 + 1) 4 (.bool false) ∧ Below N w W ∧ ∀ x ∈ pre, colourA xs cs x.1 ≠ colourB xs cs x.1)
    (fun cd pre W => cd = .ret ∧ Boxed W (N + 1) 4 (.bool false) ∧ Boxed W (N + 1 + 1) 4 (.bool true) ∧ Below N w W ∧ ∃ x ∈ pre, colourA xs cs x.1 = colourB xs cs x.1)
    ?hI ?hIx ?h0 ?a1 ?hassign ?hbody ?hdone ?hstop
  case hassign =>
    intro l x W K hK
    gi_wp2
    exact hK
  case hI => exact OwnFrom.and (ownFrom_boxed _ _ _ _) (OwnFrom.and (ownFrom_boxed _ _ _ _) (OwnFrom.and (ownFrom_boxed _ _ _ _) (OwnFrom.and (ownFrom_below (by rw [HN.out]; omega) (by have := HSZ2.out; omega)) (ownFrom_pure _ _))))
  case hIx => exact fun cd => OwnFrom.and (ownFrom_pure _ _) (OwnFrom.and (ownFrom_boxed _ _ _ _) (OwnFrom.and (ownFrom_boxed _ _ _ _) (OwnFrom.and (ownFrom_below (by rw [HN.out]; omega) (by have := HSZ2.out; omega)) (ownFrom_pure _ _))))
  case h0 => exact ⟨hR0, hR1, hR2, hB2, by simp⟩
  case hbody =>
    rintro l pre x W hl hr ⟨hR0, hR1, hR2, hB, hp⟩
    have hx := x.2
    have hxl : 2 * x.1 + 1 < xs.length := by have := HXM.out; omega
    obtain ⟨e0, e1⟩ := pair_cells (N := N) (fun h => by have := HN.out; have := hbs h; omega) hcs hB (by rw [HN.out]; omega) HXM.out x
    obtain ⟨p, hp0⟩ : ∃ p, nth xs (2 * x.1) = p := ⟨_, rfl⟩
    obtain ⟨q, hq0⟩ : ∃ q, nth xs (2 * x.1 + 1) = q := ⟨_, rfl⟩
    have hpb := hk5 (2 * x.1) (by omega)
    have hqb := hk5 (2 * x.1 + 1) (by omega)
    have hcA : colourA xs cs x.1 = nth cs p.toNat := by unfold colourA; rw [hp0]
    have hcB : colourB xs cs x.1 = nth cs q.toNat := by unfold colourB; rw [hq0]
    rw [hp0] at e0 hpb
    rw [hq0] at e1 hqb
    obtain ⟨hp1, hp2⟩ := hpb
    obtain ⟨hq1, hq2⟩ := hqb
    have hpl : p < (cs.length : Int) := by have := HCL.out; omega
    have hql : q < (cs.length : Int) := by have := HCL.out; omega
    have f0 : W.cell? ⟨bu, ou + p.toNat, none⟩ = some (.int .i64 (nth cs p.toNat)) := by
      rw [hB.cell (p := ⟨bu, ou + p.toNat, none⟩) hbsu, hcsu _ (by omega), nth_eq (by omega)]
    have f1 : W.cell? ⟨bu, ou + q.toNat, none⟩ = some (.int .i64 (nth cs q.toNat)) := by
      rw [hB.cell (p := ⟨bu, ou + q.toNat, none⟩) hbsu, hcsu _ (by omega), nth_eq (by omega)]
    obtain ⟨s, hs⟩ : ∃ s, nth cs p.toNat = s := ⟨_, rfl⟩
    obtain ⟨t, ht⟩ : ∃ t, nth cs q.toNat = t := ⟨_, rfl⟩
    rw [hs] at f0 hcA
    rw [ht] at f1 hcB
    have HcA := Lib.hid hcA
    have HcB := Lib.hid hcB
    have hRc0 := hR0.cell
    have hRc1 := hR1.cell
    have hRc2 := hR2.cell
    have hRf1 := hR1.frozen
    have hRf2 := hR2.frozen
    unfold chunkAt
    clear hr hs0 hn0 hcs hp0 hq0 hcA hcB hs ht hcsu
    cases hq : (s == t)
    · have hp' : ∀ y ∈ pre ++ [x], colourA xs cs y.1 ≠ colourB xs cs y.1 := by
        intro y hy
        rcases List.mem_append.1 hy with h | h
        · exact hp y h
        · obtain rfl : y = x := by simpa using h
          rw [HcA.out, HcB.out]; simpa using hq
      have hk : Keep2 N1 (N1 + 1) W W := Keep2.refl _ _ _
      clear hp
      gi_wp2
      refine round_quiet_lit (by kernel_rfl) (by kernel_rfl) (by kernel_rfl) ?_
      repeat (gi_big_quiet_step (fail))
      refine wpQuietIn_nil ?_
      intro _ hw'
      obtain ⟨nq, hw''⟩ := hw'
      subst hw''
      gi_wp2
      exact ⟨(KeepsFrom.refl _ _).drewN _, hk.drewN _, hR0, hR1, hR2, below_drewN _ hB, hp'⟩
    · have hp' : ∃ y ∈ pre ++ [x], colourA xs cs y.1 = colourB xs cs y.1 := ⟨x, by simp, by rw [HcA.out, HcB.out]; simpa using hq⟩
      clear hp
      gi_wp2
      refine round_quiet_lit (by kernel_rfl) (by kernel_rfl) (by kernel_rfl) ?_
      repeat (gi_big_quiet_step (fail))
      refine wpQuietIn_nil ?_
      intro _ hw'
      obtain ⟨nq, hw''⟩ := hw'
      subst hw''
      have hR2' : Boxed ((W.drewN nq).setCell ⟨N + 1, 0, none⟩ (.bool false)) _ _ _ := Boxed.other (show Boxed (W.drewN nq) _ _ _ from hR2) (by omega) (.bool false)
      have hc2' := hR2'.cell
      have hf2' := hR2'.frozen
      gi_wp2
      refine ⟨(((KeepsFrom.refl _ _).drewN _).setCell _ _).setCell _ _, rfl, ?_, hR2'.set _, ((below_drewN _ hB).setCell (p := ⟨N + 1, 0, none⟩) (by show N ≤ N + 1; omega) _).setCell (p := ⟨N + 1 + 1, 0, none⟩) (by show N ≤ N + 1 + 1; omega) _, hp'⟩
      exact (Boxed.set (.bool false) (show Boxed (W.drewN nq) _ _ _ from hR1)).other (by omega) _
  case hdone =>
    rintro D W hD ⟨hR0, hR1, hR2, hB, hp⟩ hK
    have hRc1 := hR1.cell
    have hRf1 := hR1.frozen
    have hR2' : Boxed (W.setCell ⟨N + 1, 0, none⟩ (.bool true)) _ _ _ := hR2.other (by omega) (.bool true)
    have hc2' := hR2'.cell
    have hf2' := hR2'.frozen
    go_wp2
    have hK2 := kept_setCell (p := ⟨N + 1 + 1, 0, none⟩) (v := .bool true) (kept_setCell (p := ⟨N + 1, 0, none⟩) (v := .bool true) hK)
    have hA := (boxed_putObj (o' := .deferred none) ((hR1.set (.bool true)).other (by omega) (.bool true)) hK2).cell
    have hA2 := (boxed_putObj (o' := .deferred none) (hR2'.set (.bool true)) hK2).cell
    refine bodyM_ret (v := .tuple #[.bool true, .bool true]) rfl hK2 (by simp [results, Try.results40, go_sem, hA, hA2]) ⟨ret_t2 (val_bool ?_) rfl, by rw [HN.out]; exact below_putObj ((hB.setCell (p := ⟨N + 1, 0, none⟩) (by show N ≤ N + 1; omega) _).setCell (p := ⟨N + 1 + 1, 0, none⟩) (by show N ≤ N + 1 + 1; omega) _) (by have := HSZ2.out; omega) hK2⟩
    symm
    rw [List.all_eq_true]
    intro j hj
    have := hp ⟨j, by simpa using hj⟩ (List.mem_finRange _)
    simpa using this
  case hstop =>
    rintro D cd pre W hD hS ⟨rfl, hR1, hR2, hB, hp⟩ hK
    go_wp2
    have hA := (boxed_putObj (o' := .deferred none) hR1 hK).cell
    have hA2 := (boxed_putObj (o' := .deferred none) hR2 hK).cell
    refine bodyM_ret (v := .tuple #[.bool false, .bool true]) rfl hK (by simp [results, Try.results40, go_sem, hA, hA2]) ⟨ret_t2 (val_bool ?_) rfl, by rw [HN.out]; exact below_putObj hB (by have := HSZ2.out; omega) hK⟩
    symm
    rw [List.all_eq_false]
    obtain ⟨y, _, hy⟩ := hp
    exact ⟨y.1, by simp, by simpa using hy⟩

theorem implIsColour_any (n : Int) (v u : Value) (xs cs : List Int) (w : World) (hv : Ints w v xs) (hu : Ints w u cs) (hn : (Lit.int .i64 n).wf = true) :
    Calls Try.prog 40 #[.int .i64 n, v, u] w fun e w' => e = .returned (.tuple #[.bool (colourOk n xs cs), .bool (colourHead n xs cs)]) ∧ Below w.heap.size w w' := by
  cases h : colourHead n xs cs
  · refine (implColour_no n v u xs cs w hv hu hn h).mono ?_
    rintro e w' ⟨rfl, hb⟩
    exact ⟨by simp [colourOk, h], hb⟩
  · have h' := h
    simp only [colourHead, Bool.and_eq_true] at h'
    obtain ⟨h1, h2⟩ := h'
    refine (implColour_yes n v u xs cs w (xs.length / 2) hv hu hn h1 h2 (by have := clashesOk_head h1; omega)).mono ?_
    rintro e w' ⟨rfl, hb⟩
    exact ⟨by simp [colourOk, h], hb⟩

end Go.Proofs.Ytmhepomjbaendaa
