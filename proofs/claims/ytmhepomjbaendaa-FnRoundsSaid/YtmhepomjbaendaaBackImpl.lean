
/- BackRounds, the program: its contract. Conditions: at most 2^20 numbers. -/
import Derived.Test.YtmhepomjbaendaaBack
import Derived.Test.YtmhepomjbaendaaOwnBox
import Derived.Test.YtmhepomjbaendaaRoundMix
namespace Go.Proofs.Ytmhepomjbaendaa
open Go.RowKit Go.Shelf Go.BigFrame
set_option linter.unusedVariables false
set_option linter.unusedSimpArgs false
attribute [local go_sem] Oper.semAt_some

/-- The list and the turned pairs of pre. -/
def bothP {m : Nat} (xs : List Int) (pre : List (Fin m)) : List Int := xs ++ pre.flatMap fun j => [nth xs (2 * j.1 + 1), nth xs (2 * j.1)]
theorem bothP_nil {m : Nat} (xs : List Int) : bothP xs ([] : List (Fin m)) = xs := by simp [bothP]
theorem bothP_snoc {m : Nat} (xs : List Int) (pre : List (Fin m)) (x : Fin m) : bothP xs (pre ++ [x]) = bothP xs pre ++ [nth xs (2 * x.1 + 1), nth xs (2 * x.1)] := by simp [bothP]
theorem bothP_length {m : Nat} (xs : List Int) (pre : List (Fin m)) : (bothP xs pre).length = xs.length + 2 * pre.length := by
  unfold bothP
  rw [List.length_append]
  congr 1
  induction pre with
  | nil => rfl
  | cons a t ih => rw [List.flatMap_cons, List.length_append, ih]; simp; omega
theorem bothP_all (xs : List Int) : bothP xs (List.finRange (xs.length / 2)) = bothL xs := by
  unfold bothP bothL swp
  congr 1
  rw [← finRange_val, List.flatMap_map]

theorem implBack_no1 (n : Int) (v : Value) (xs : List Int) (w : World) (hv : Ints w v xs) (hn : (Lit.int .i64 n).wf = true) (hl : xs.length ≤ 1048576) (hok : roundsOk n xs = false) :
    Calls Try.prog 13 #[.int .i64 n, v] w fun e w' => e = .returned (.tuple #[.slice none 0 0, .bool false]) ∧ Below w.heap.size w w' := by
  have hr := implRounds_any n v xs w hv hn hl
  rw [hok] at hr
  have Hr := Lib.hid hr
  clear hr hok hv
  go_enter Try.func13, Try.ntmps13
  go_wp2_with (go_at_call 18; refine Hr.out.mono ?_; rintro e w' ⟨rfl, hb⟩)
  go_ret2
  exact ⟨rfl, hb⟩

set_option maxRecDepth 100000 in
set_option maxHeartbeats 1000000 in
theorem implBack_u (n : Int) (v : Value) (xs : List Int) (w : World) (hv : Ints w v xs) (hn : (Lit.int .i64 n).wf = true) (hl : xs.length ≤ 1048576) :
    Calls Try.prog 13 #[.int .i64 n, v] w fun e w' => (∃ v', e = .returned (.tuple #[v', .bool (backOk n xs)]) ∧ OwnI w' w.heap.size v' (backL n xs)) ∧ Below w.heap.size w w' := by
  have hL0 : backOk n xs = false → backL n xs = [] := fun h => by unfold backL; rw [h]; rfl
  have hL1 : backOk n xs = true → backL n xs = bothL xs := fun h => by unfold backL; rw [h]; rfl
  have HL0 := Lib.hid hL0
  have HL1 := Lib.hid hL1
  clear hL0 hL1
  cases hok : roundsOk n xs
  · have hb : backOk n xs = false := by unfold backOk; rw [hok]; rfl
    rw [hb, HL0.out hb]
    refine (implBack_no1 n v xs w hv hn hl hok).mono ?_
    rintro e w' ⟨rfl, hb⟩
    exact ⟨⟨_, rfl, own_nil _ _⟩, hb⟩
  · have hr := implRounds_any n v xs w hv hn hl
    obtain ⟨t, rfl, ht1, ht2, hl2, hl480, hev⟩ := rounds_even hok
    rw [hok] at hr
    obtain ⟨q, hq, hq0⟩ : ∃ q : Nat, (t : Int) * ((t : Int) - 1) = (q : Int) ∧ q ≤ 240 := by
      refine ⟨t * (t - 1), ?_, ?_⟩
      · rw [Int.natCast_mul, Int.natCast_sub (by omega)]; rfl
      · exact Nat.mul_le_mul ht2 (show t - 1 ≤ 15 by omega)
    have hOK : backOk (t : Int) xs = (decide ((xs.length : Int) ≤ (q : Int)) && roundsOk (t : Int) (bothL xs)) := by unfold backOk; rw [hok, hq]; simp
    have HOK := Lib.hid hOK
    have HALL : Hid (∀ (w' : World) (v' : Value), Ints w' v' (bothL xs) → Calls Try.prog 18 #[.int .i64 t, v'] w' fun e w'' => e = .returned (.bool (roundsOk t (bothL xs))) ∧ Below w'.heap.size w' w'') :=
      fun w' v' h => implRounds_any (t : Int) v' (bothL xs) w' h hn (by unfold bothL; rw [List.length_append, swp_length]; omega)
    have Hr := Lib.hid hr
    by_cases hbig : (xs.length : Int) ≤ (q : Int)
    · have hgt : decide ((xs.length : Int) > (q : Int)) = false := by simpa using hbig
      have hok2 : backOk (t : Int) xs = roundsOk (t : Int) (bothL xs) := by rw [HOK.out]; simp [hbig]
      have HOK2 := Lib.hid hok2
      have HCL : Hid (∀ W, Below w.heap.size w W → Calls Try.prog 58 #[v] W fun e w' => (∃ g c, e = .returned (.slice (some ⟨g, 0, none⟩) xs.length c) ∧ OwnI w' W.heap.size (.slice (some ⟨g, 0, none⟩) xs.length c) xs) ∧ Below W.heap.size W w') :=
        fun W hW => clone_any v xs W (hv.below hW (Nat.le_refl _)) (by omega) hl
      obtain ⟨hm, a, c, rfl, hcap, hc⟩ := hv
      obtain ⟨b, o, ha0, hbs, hcs⟩ := row_at hc
      have HCS := Lib.hid hcs
      have HBS := Lib.hid hbs
      have HA0 := Lib.hid ha0
      obtain ⟨M, hM⟩ : ∃ M, xs.length / 2 = M := ⟨_, rfl⟩
      have HXM : Hid (xs.length = 2 * M) := by show xs.length = 2 * M; omega
      have HM := Lib.hid hM
      clear hr hok hOK ha0 hc hcs hok2 hbs hM
      refine (callsIn_wide (n := 9)).1 ?_
      refine callsIn_of_wp_marks Try.func13 rfl trivial ?_ rfl
      simp only [Try.ntmps13, List.size_toArray, List.length_cons, List.length_nil, Nat.reduceAdd, Nat.reduceSub, Array.replicate_succ, Array.replicate_zero, List.push_toArray, List.append_toArray, List.nil_append, List.cons_append]
      refine wpIn_wide.2 ?_
      go_wp2_with (first | (go_at_call 18; refine Hr.out.mono ?_; rintro e W1 ⟨rfl, hb1⟩; have HB1 := Lib.hid hb1; clear hb1) | (go_at_call 58; refine (HCL.out _ HB1.out).mono ?_; rintro e W2 ⟨⟨g2, c2, rfl, ho2⟩, hb2⟩; have HO2 := Lib.hid ho2; have HB2 := Lib.hid hb2; clear ho2 hb2) | (go_at_call 59; refine (chunk_callB _ _ _ _ _ (by omega)).mono ?_; rintro e W4 ⟨rfl, hW4, hBs4, hBn4⟩))
      have hsz : W4.heap.size = W2.heap.size + 3 := by have := hW4.size; simpa using this
      obtain ⟨N, hN⟩ : ∃ N, w.heap.size = N := ⟨_, rfl⟩
      obtain ⟨C, hC⟩ : ∃ C, W2.heap.size = C := ⟨_, rfl⟩
      have hNC : N ≤ C := by have := HB1.out.size; have := HB2.out.size; omega
      have HB4 : Hid (Below N w W4) := by
        have h1 := HB1.out
        have h2 := HB2.out.mono h1.size
        have h3 := ((h1.trans h2).alloc (by rw [← hN] at hNC; omega) (.cells #[.slice (some ⟨g2, 0, none⟩) xs.length c2] 25)).trans (hW4.below.mono (by simp; omega))
        rw [hN] at h3; exact h3
      have HOB : Hid (OwnBox W4 C N (bothP (m := M) xs [])) := by
        refine ⟨g2, c2, ?_, ?_⟩
        · rw [bothP_nil]
          have := Boxed.new W2 25 (.slice (some ⟨g2, 0, none⟩) xs.length c2)
          rw [hC] at this
          exact (hW4.below.block _ (by simp; omega)).trans this
        · rw [bothP_nil]
          have h1 := ((HO2.out.mono (B' := N) (by have := HB1.out.size; omega)).alloc (.cells #[.slice (some ⟨g2, 0, none⟩) xs.length c2] 25)).below hW4.below (Nat.le_refl _)
          exact h1
      have hs4 := hW4.s
      have hn4 := hW4.n
      simp only [World.size_alloc, hC] at hs4 hn4 hBs4 hBn4
      rw [hC] at hsz
      have HBS4 := Lib.hid hBs4
      have HBN4 := Lib.hid hBn4
      have HN := Lib.hid hN
      have HSZ := Lib.hid hsz
      simp only [World.size_alloc, hC]
      clear hN
      clear hW4 hBs4 hBn4 HO2 HB2 HB1 hC hsz
      refine chunk_loopL (k := 9) (by omega) (Bs := C + 1) (Bn := C + 1 + 1) rfl b o c 2 M xs.length a HXM.out (by omega) (by omega) HA0.out hs4 hcap hn4 rfl
        (fun pre W => OwnBox W C N (bothP xs pre) ∧ Boxed W (C + 1) 25 (.slice a xs.length c) ∧ Boxed W (C + 1 + 1) 3 (.int .i64 2) ∧ Below N w W ∧ C + 3 ≤ W.heap.size)
        (fun _ _ _ => False)
        ?hI ?hIx ?h0 ?a1 ?hassign ?hbody ?hdone ?hstop
      case hassign =>
        intro l x W K hK
        gi_wp2
        exact hK
      case hI => exact OwnFrom.and (ownFrom_ownBox _ _ _ _) (OwnFrom.and (ownFrom_boxed _ _ _ _) (OwnFrom.and (ownFrom_boxed _ _ _ _) (OwnFrom.and (ownFrom_below (by rw [HN.out]; omega) (by have := HSZ.out; omega)) (ownFrom_sz _ _))))
      case hIx => exact fun _ _ _ _ _ h _ _ => h
      case h0 => exact ⟨HOB.out, HBS4.out, HBN4.out, HB4.out, by rw [HSZ.out]; exact Nat.le_refl _⟩
      case hstop => exact fun _ _ _ _ _ _ h _ => h.elim
      case hbody =>
        rintro l pre x W hl hr ⟨⟨g, cg, hbx, hown⟩, hBs, hBn, hB, hszW⟩ hlen
        have hbs0 : 0 < xs.length → b < w.heap.size := HBS.out
        obtain ⟨e0, e1⟩ := pair_cells (N := N) hbs0 HCS.out hB (by rw [HN.out]; exact Nat.le_refl _) HXM.out x
        have hnx := bothP_snoc xs pre x
        obtain ⟨p0, hp0⟩ : ∃ p, nth xs (2 * x.1) = p := ⟨_, rfl⟩
        obtain ⟨p1, hp1⟩ : ∃ p, nth xs (2 * x.1 + 1) = p := ⟨_, rfl⟩
        rw [hp0] at e0 hnx
        rw [hp1] at e1 hnx
        have hylen := bothP_length xs pre
        obtain ⟨Y, hY⟩ : ∃ Y, bothP xs pre = Y := ⟨_, rfl⟩
        rw [hY] at hbx hown hnx hylen
        have HNX := Lib.hid hnx
        have HYL := Lib.hid hylen
        have hbc := hbx.cell
        have HBX := Lib.hid hbx
        have HOWN := Lib.hid hown
        have HB := Lib.hid hB
        have HBs := Lib.hid hBs
        have HBn := Lib.hid hBn
        clear hp0 hp1 hY hnx hylen hbx hown hB hBs hBn hbs0 hs4 hn4
        have hmix : Try.prog.follows .mixedOrders = true := rfl
        obtain ⟨V, hV⟩ : ∃ V, V = W.drew.alloc (.cells ([p1, p0].map (Value.int .i64)).toArray 2) := ⟨_, rfl⟩
        have hbV : Below W.heap.size W V := by rw [hV]; exact ((Below.refl _ W).drew).alloc (Nat.le_refl _) _
        have hbN : b < W.heap.size := by have := HBS.out (by have := x.2; have := HXM.out; omega); have := HB.out.size; omega
        have e0v : V.cell? ⟨b, o + x.1 * 2, none⟩ = some (.int .i64 p0) := (hbV.cell (p := ⟨b, o + x.1 * 2, none⟩) hbN).trans e0
        have e1v : V.cell? ⟨b, o + x.1 * 2 + 1, none⟩ = some (.int .i64 p1) := (hbV.cell (p := ⟨b, o + x.1 * 2 + 1, none⟩) hbN).trans e1
        have hbcv : V.cell? ⟨C, 0, none⟩ = some (.slice (some ⟨g, 0, none⟩) Y.length cg) := (hbV.cell (p := ⟨C, 0, none⟩) (show C < W.heap.size by omega)).trans hbc
        have HV := Lib.hid hV
        have HBV := Lib.hid hbV
        clear hV hbV
        unfold chunkAt
        gi_wp2_with fail
        refine region_mix2 (m := 7) (N := 8) 33 [.tmp 29, .tmp 32] [.int .i64 p1, .int .i64 p0] (.slice (some ⟨W.heap.size, 0, none⟩) 2 2) V ?A ?A2 (by decide) (by decide) (by decide) rfl hmix (by kernel_rfl) (by kernel_rfl) (by kernel_rfl) (by kernel_rfl) rfl rfl (by kernel_rfl) (by kernel_rfl) (by kernel_rfl) ?hA2 ?hal ?hq ?hq2 ?hT
        case hq =>
          simp only [mixOff, offOp, List.set_cons_succ, List.set_cons_zero, List.getElem_cons_succ, List.getElem_cons_zero, List.take_succ_cons, List.take_zero, List.drop_succ_cons, List.drop_zero, List.map_cons, List.map_nil, List.cons_append, List.nil_append]
          iterate 10 (
            refine q_step _ (fun w' hw' f hf => by simp [Oper.about] at hf) rfl (by rintro w' (rfl | rfl) <;> (simp [Oper.quietAtIn, Oper.quietUponIn, go_sem, e0, e1, hbc, e0v, e1v, hbcv]; try rfl)) ?_
            simp only [Act.put, List.setIfInBounds_toArray, List.set_cons_succ, List.set_cons_zero])
          refine wpQuietIn_nil ?_
          refine Eq.refl _
        case hq2 =>
          simp only [mixRec, offOp, List.set_cons_succ, List.set_cons_zero, List.getElem_cons_succ, List.getElem_cons_zero, List.take_succ_cons, List.take_zero, List.drop_succ_cons, List.drop_zero, List.map_cons, List.map_nil, List.cons_append, List.nil_append]
          iterate 10 (
            refine q_step _ (fun w' hw' f hf => by simp [Oper.about] at hf) rfl (by rintro w' rfl; simp [Oper.quietAtIn, Oper.quietUponIn, go_sem, e0, e1, hbc, Instr.makeFunc]; try rfl) ?_
            simp only [Act.put, List.setIfInBounds_toArray, List.set_cons_succ, List.set_cons_zero])
          refine wpQuietIn_nil ?_
          refine Eq.refl _
        case hA2 => rfl
        case hal =>
          intro a K hops hK
          simp only [List.map_cons, List.map_nil, List.cons.injEq, and_true] at hops
          obtain ⟨o1, o2⟩ := hops
          rw [HV.out] at hK
          simp [Act.eval] at o1 o2
          simp [Oper.wpIn, go_sem, o1, o2]
          exact hK
        case hT =>
          rw [HV.out]
          simp only [List.drop_succ_cons, List.drop_zero]
          have hNW : N ≤ W.drew.heap.size := by show N ≤ W.heap.size; omega
          refine append_i64In (by rfl) _ _ (by rfl) N (.slice (some ⟨g, 0, none⟩) Y.length cg) Y [p1, p0] (by simp) (by rfl) 2 (by rfl) (HOWN.out.drewN 1) hNW (by rw [HYL.out]; have := HXM.out; simp; omega) ?_
          intro g3 c3 w3 ho3 hg3
          have hbx3 : Boxed w3 C 25 (.slice (some ⟨g, 0, none⟩) Y.length cg) := (hg3.block C (by show C < W.heap.size; omega) (by show some C ≠ some g; intro e; injection e with e; exact HOWN.out.ne_box HBX.out (by decide) e)).trans HBX.out
          have hbc3 := hbx3.cell
          have hbf3 := hbx3.frozen
          have HBX3 := Lib.hid hbx3
          have HO3 := Lib.hid ho3
          have HG3 := Lib.hid hg3
          clear hbx3 ho3 hg3 e0 e1 e0v e1v hbc hbcv
          gi_wp2
          have hkk3 : Keep2 (C + 1) (C + 1 + 1) W w3 := ⟨HG3.out.block (C + 1) (by show C + 1 < W.heap.size; omega) (by show some (C + 1) ≠ some g; intro e; injection e with e; exact HOWN.out.ne_box HBs.out (by decide) e), HG3.out.block (C + 1 + 1) (by show C + 1 + 1 < W.heap.size; omega) (by show some (C + 1 + 1) ≠ some g; intro e; injection e with e; exact HOWN.out.ne_box HBn.out (by decide) e)⟩
          have hne3 : C ≠ g3 := HO3.out.ne_box HBX3.out (by decide)
          have hlen3 : Y.length + [p1, p0].length = (Y ++ [p1, p0]).length := by simp
          have hkk4 : Keep2 (C + 1) (C + 1 + 1) W (w3.setCell ⟨C, 0, none⟩ (.slice (some ⟨g3, 0, none⟩) (Y.length + 2) c3)) := hkk3.setCell (show C + 1 ≠ C by omega) (show C + 1 + 1 ≠ C by omega) _
          have hb3 : Below N w w3 := by
            have h0 := HB.out
            refine ⟨HG3.out.os.trans h0.os, HG3.out.tape.trans h0.tape, HG3.out.output.trans h0.output, Nat.le_trans h0.size HG3.out.size, fun i hi => ?_⟩
            have hgN := (HOWN.out.lt g rfl).1
            have hwN := HN.out
            exact (HG3.out.block i (by show i < W.heap.size; omega) (by show some i ≠ some g; intro e; injection e with e; omega)).trans (h0.block i hi)
          refine ⟨?_, hkk4, ⟨g3, c3, ?_, ?_⟩, hkk4.s.trans HBs.out, hkk4.n.trans HBn.out, hb3.setCell (show N ≤ C by omega) _, ?_⟩
          · have hgg : W.grownBy w3 (some g) := ⟨HG3.out.os, HG3.out.tape, HG3.out.output, HG3.out.size, HG3.out.block⟩
            obtain ⟨cur, hcur⟩ := HOWN.out.block
            exact ((KeepsOthers.of_grownBy hgg (fun j ob e ho => by injection e with e; subst e; rw [hcur] at ho; injection ho with ho; subst ho; rfl)).from _).setCell _ _
          · rw [HNX.out, ← hlen3]; exact HBX3.out.set _
          · rw [HNX.out, ← hlen3]
            exact HO3.out.setCell _ (by show some g3 ≠ some C; intro e; injection e with e; exact hne3 e.symm)
          · rw [World.size_setCell]; have : W.heap.size ≤ w3.heap.size := HG3.out.size; omega
      case hdone =>
        rintro D W hD ⟨⟨g, cg, hbx, hown⟩, hBs, hBn, hB, hszW⟩ hK
        have hall : bothP xs (List.finRange M) = bothL xs := by rw [← HM.out]; exact bothP_all xs
        rw [hall] at hbx hown
        obtain ⟨Y, hY⟩ : ∃ Y, bothL xs = Y := ⟨_, rfl⟩
        have hr2 := HALL.out W _ (by rw [hY] at hown ⊢; exact hown.ints)
        rw [hY] at hbx hown hr2
        have hbc := hbx.cell
        have hDW : D < W.heap.size := (Array.getElem?_eq_some_iff.1 hK).1
        have HR2 := Lib.hid hr2
        have HOWN := Lib.hid hown
        have HB := Lib.hid hB
        have HK := Lib.hid hK
        have HY := Lib.hid hY
        have hND : N ≤ D := by have := HSZ.out; omega
        clear hbx hown hBs hBn hB hK hr2 hall hs4 hn4
        cases hok3 : roundsOk (t : Int) Y
        all_goals
          rw [hok3] at HR2
          have HPOST : Hid (backOk (t : Int) xs = roundsOk (t : Int) Y) := by show backOk (t : Int) xs = _; rw [HOK2.out, hY]
          have HOK3 := Lib.hid hok3
          clear hok3 hY
        · go_wp2_with (go_at_call 18; refine HR2.out.mono ?_; rintro e W5 ⟨rfl, hb5⟩)
          have hK5 : W5.heap[D]? = some (.deferred (some [])) := (hb5.block D hDW).trans HK.out
          have hb := HPOST.out.trans HOK3.out
          exact bodyM_ret (v := .tuple #[.slice none 0 0, .bool false]) rfl hK5 (by simp [results, Try.results13, go_sem]) ⟨⟨_, by rw [hb], by rw [HL0.out hb]; exact own_nil _ _⟩, by rw [HN.out]; exact below_putObj (HB.out.trans (hb5.mono (by have := HB.out.size; rw [HN.out] at this; exact this))) hND hK5⟩
        · go_wp2_with (go_at_call 18; refine HR2.out.mono ?_; rintro e W5 ⟨rfl, hb5⟩; have hbc5 := (hb5.cell (p := ⟨C, 0, none⟩) (by show C < W.heap.size; omega)).trans hbc)
          have hK5 : W5.heap[D]? = some (.deferred (some [])) := (hb5.block D hDW).trans HK.out
          have hb := HPOST.out.trans HOK3.out
          have hgD : g ≠ D := by
            obtain ⟨cur, hcur⟩ := HOWN.out.block
            intro e; subst e; rw [HK.out] at hcur; cases hcur
          exact bodyM_ret (v := .tuple #[.slice (some ⟨g, 0, none⟩) Y.length cg, .bool true]) rfl hK5 (by simp [results, Try.results13, go_sem]) ⟨⟨_, by rw [hb], by
            rw [HL1.out hb, HY.out, HN.out]
            exact (HOWN.out.below hb5 (Nat.le_refl _)).kept (grownBy_putObj' W5 D _) (.inr (fun e => hgD (by injection e)))⟩, by rw [HN.out]; exact below_putObj (HB.out.trans (hb5.mono (by have := HB.out.size; rw [HN.out] at this; exact this))) hND hK5⟩
    · have hb : backOk (t : Int) xs = false := by rw [HOK.out]; simp [hbig]
      rw [hb, HL0.out hb]
      have hgt : (xs.length : Int) > (q : Int) := by omega
      obtain ⟨hm, a, c, rfl, hcap, hc⟩ := hv
      clear hb hr hok hOK hc
      go_enter Try.func13, Try.ntmps13
      go_wp2_with (go_at_call 18; refine Hr.out.mono ?_; rintro e w' ⟨rfl, hb⟩)
      go_ret2
      exact ⟨⟨_, rfl, own_nil _ _⟩, hb⟩

theorem backL_small (n : Int) (xs : List Int) : (backL n xs).length ≤ 1000 := by
  unfold backL
  split
  · rename_i h
    unfold backOk at h
    rw [Bool.and_eq_true, Bool.and_eq_true] at h
    obtain ⟨t, _, _, _, _, h2, _⟩ := rounds_even h.1.1
    unfold bothL; rw [List.length_append, swp_length]; omega
  · simp
end Go.Proofs.Ytmhepomjbaendaa
