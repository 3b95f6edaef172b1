
/- clashSets: its contract. Conditions: valid clashes. -/
import Derived.Test.YtmhepomjbaendaaMasks
namespace Go.Proofs.Ytmhepomjbaendaa
open Go.RowKit Go.Shelf Go.BigFrame
set_option linter.unusedVariables false
set_option linter.unusedSimpArgs false
attribute [local go_sem] Oper.semAt_some

set_option maxRecDepth 100000 in
set_option maxHeartbeats 2000000 in
theorem clashSets_any (n : Nat) (v : Value) (xs : List Int) (w : World) (hv : Ints w v xs) (hn0 : 1 ≤ n) (hn : n ≤ 12) (hl : xs.length ≤ 64) (hev : xs.length % 2 = 0) (hw : ∀ k, k < xs.length → 0 ≤ nth xs k ∧ nth xs k < (n : Int)) :
    Calls Try.prog 85 #[.int .i64 n, v] w fun e w' => (∃ g, e = .returned (.slice (some ⟨g, 0, none⟩) n n) ∧ OwnI w' w.heap.size (.slice (some ⟨g, 0, none⟩) n n) (mInts (masks n xs))) ∧ Below w.heap.size w w' := by
  obtain ⟨hm, a, c, rfl, hcap, hc⟩ := hv
  obtain ⟨b, o, ha0, hbs, hcs⟩ := row_at hc
  obtain ⟨i0, hi, hz0, hz1, hz2⟩ := info_parts info_i64
  obtain ⟨M, hM⟩ : ∃ M, xs.length / 2 = M := ⟨_, rfl⟩
  have HXM : Hid (xs.length = 2 * M) := by show xs.length = 2 * M; omega
  have HA0 := Lib.hid ha0
  have HBS := Lib.hid hbs
  have HCS := Lib.hid hcs
  have HM := Lib.hid hM
  have HW := Lib.hid hw
  have hn0' : ¬ ((n : Int) < 0) := by omega
  clear ha0 hbs hcs hc hM hev hw hm
  refine (callsIn_wide (n := 9)).1 ?_
  refine callsIn_of_wp_marks Try.func85 rfl trivial ?_ rfl
  simp only [Try.ntmps85, List.size_toArray, List.length_cons, List.length_nil, Nat.reduceAdd, Nat.reduceSub, Array.replicate_succ, Array.replicate_zero, List.push_toArray, List.append_toArray, List.nil_append, List.cons_append]
  refine wpIn_wide.2 ?_
  go_wp2_with (first
    | (at_make; refine wpList_make_full _ rfl _ _ 25 rfl w.heap.size 2 i0 (.int .i64 0) 1 Try.underlying25 hi hz0 hz1 _ _ _ _ n rfl rfl rfl rfl (by rw [hz2]; omega) (by unfold maxLen at *; omega) (Nat.le_refl _) ?_; intro w1 hown1 hgrow1; have HO1 := Lib.hid (made_replicate hown1); have HB1 := Lib.hid ((Below.refl w.heap.size w).grown hgrow1 (Nat.le_refl _) (fun k e => by cases e)); clear hown1 hgrow1)
    | (go_at_call 59; refine (chunk_callB _ _ _ _ _ (by omega)).mono ?_; rintro e W3 ⟨rfl, hW3, hBs3, hBn3⟩))
  obtain ⟨N, hN⟩ : ∃ N, w.heap.size = N := ⟨_, rfl⟩
  obtain ⟨D, hD⟩ : ∃ D, w1.heap.size = D := ⟨_, rfl⟩
  have o1 : N < D := by have := (HO1.out.lt w.heap.size rfl).2; omega
  have hsz3 : W3.heap.size = D + 3 := by have := hW3.size; rw [World.size_alloc, hD] at this; exact this
  have g13 : GrownL [] (w1.alloc (.cells #[.slice (some ⟨w.heap.size, 0, none⟩) n n] 25)) W3 := (GrownL.refl [] _).below hW3.below (Nat.le_refl _)
  have hbD : Boxed W3 D 25 (.slice (some ⟨N, 0, none⟩) n n) := by
    have h1 := g13.boxed (Boxed.new w1 25 (.slice (some ⟨w.heap.size, 0, none⟩) n n)) (by simp)
    rw [hD, hN] at h1; exact h1
  have hO3 : OwnI W3 N (.slice (some ⟨N, 0, none⟩) n n) (mInts (maskPre n xs [])) := by
    have h1 := g13.own (HO1.out.alloc _) (by simp)
    rw [hN] at h1
    rw [show mInts (maskPre n xs []) = List.replicate n 0 by simp [mInts, maskPre]]; exact h1
  have hB3 : Below N w W3 := by
    have h1 := HB1.out
    rw [hN] at h1
    exact g13.toBelow (h1.alloc (by omega) _) (by simp; omega) (by simp)
  have hs3 := hW3.s
  have hn3 := hW3.n
  simp only [World.size_alloc, hD] at hs3 hn3
  have HBD := Lib.hid hbD
  have HO3 := Lib.hid hO3
  have HB3 := Lib.hid hB3
  have HNW := Lib.hid hN
  simp only [World.size_alloc, hN, hD]
  clear hbD hO3 hB3 g13 hW3 hBs3 hBn3 HO1 HB1 hN hD hi hz0 hz1 hz2
  refine chunk_loopL (k := 9) (by omega) (Bs := D + 1) (Bn := D + 1 + 1) rfl b o c 2 M xs.length a HXM.out (by omega) (by omega) HA0.out hs3 hcap hn3 rfl
    (fun pre W => GrownL [N] W3 W ∧ OwnI W N (.slice (some ⟨N, 0, none⟩) n n) (mInts (maskPre n xs (pre.map (·.1)))))
    (fun _ _ _ => False)
    ?hI ?hIx ?h0 ?a1 ?hassign ?hbody ?hdone ?hstop
  case hassign =>
    intro l x W K hK
    gi_wp2
    exact hK
  case hI => exact OwnFrom.and (ownFrom_grownL (Nat.le_refl _)) (ownFrom_ownI (fun (s : List (Fin M)) => mInts (maskPre n xs (s.map (·.1)))))
  case hIx => exact fun _ _ _ _ _ h _ _ => h
  case h0 => exact ⟨GrownL.refl _ _, HO3.out⟩
  case hstop => exact fun _ _ _ _ _ _ h _ => h.elim
  case hbody =>
    rintro l pre x W hl hr ⟨hg, ho⟩ hlen
    have hx := x.2
    have hx1 : 2 * x.1 + 1 < xs.length := by have := HXM.out; omega
    have hinv := MaskInv.pre hn HW.out (pre.map (·.1)) (fun y hy => by
      obtain ⟨z, _, rfl⟩ := List.mem_map.1 hy
      have := z.2; have := HXM.out; omega)
    have hsn := maskPre_snoc n xs (pre.map (·.1)) x.1
    have hmap : (pre ++ [x]).map (·.1) = pre.map (·.1) ++ [x.1] := by simp
    rw [← hmap] at hsn
    obtain ⟨ms, hms⟩ : ∃ ms, maskPre n xs (pre.map (·.1)) = ms := ⟨_, rfl⟩
    rw [hms] at ho hinv hsn
    have hB := hg.toBelow HB3.out (by omega) (by intro i hi; simp; omega)
    have hbN : b < N := by have := HBS.out (by omega); have := HNW.out; omega
    obtain ⟨X2, hX2⟩ : ∃ X2, x.1 * 2 = X2 := ⟨_, rfl⟩
    have c0 : W.cell? ⟨b, o + X2, none⟩ = some (.int .i64 (nth xs (2 * x.1))) := by rw [hB.cell (p := ⟨b, o + X2, none⟩) hbN, ← hX2, Nat.mul_comm x.1 2, HCS.out _ (by omega), nth_eq (by omega)]
    have c1 : W.cell? ⟨b, o + X2 + 1, none⟩ = some (.int .i64 (nth xs (2 * x.1 + 1))) := by rw [hB.cell (p := ⟨b, o + X2 + 1, none⟩) hbN, ← hX2, Nat.mul_comm x.1 2, Nat.add_assoc, HCS.out _ hx1, nth_eq hx1]
    have cD := (hg.boxed HBD.out (by simp; omega)).cell
    obtain ⟨v1, v2⟩ := HW.out (2 * x.1) (by omega)
    obtain ⟨u1, u2⟩ := HW.out (2 * x.1 + 1) hx1
    unfold maskPair at hsn
    obtain ⟨p, hp⟩ : ∃ p : Nat, nth xs (2 * x.1) = p := ⟨(nth xs (2 * x.1)).toNat, by omega⟩
    obtain ⟨q, hq⟩ : ∃ q : Nat, nth xs (2 * x.1 + 1) = q := ⟨(nth xs (2 * x.1 + 1)).toNat, by omega⟩
    rw [hp] at c0 v1 v2
    rw [hq] at c1 u1 u2
    rw [hp, hq, Int.toNat_natCast, Int.toNat_natCast] at hsn
    have hpn : p < n := by omega
    have hqn : q < n := by omega
    have hinv2 := hinv.one hpn (show q < 12 by omega)
    obtain ⟨m2, hm2⟩ : ∃ m2, maskOne ms p q = m2 := ⟨_, rfl⟩
    rw [hm2] at hsn hinv2
    have hl1 : n = (mInts ms).length := by rw [mInts_length, hinv.len]
    have hl2 : n = (mInts m2).length := by rw [mInts_length, hinv2.len]
    have c2 := ho.at_ hl1 p (by omega)
    rw [mInts_nth] at c2
    obtain ⟨P, hP⟩ : ∃ P, 2 ^ q = P := ⟨_, rfl⟩
    obtain ⟨Q, hQ⟩ : ∃ Q, 2 ^ p = Q := ⟨_, rfl⟩
    have hP12 : P < 2 ^ 12 := by rw [← hP]; exact Nat.pow_lt_pow_right (by decide) (by omega)
    have hQ12 : Q < 2 ^ 12 := by rw [← hQ]; exact Nat.pow_lt_pow_right (by decide) (by omega)
    have hPI : (2 : Int) ^ q = (P : Int) := by rw [← hP]; simp
    have hQI : (2 : Int) ^ p = (Q : Int) := by rw [← hQ]; simp
    have hor := bits_or_nat (mAt ms p) P (hinv.lt p) hP12
    have hor2 := bits_or_nat (mAt m2 q) Q (hinv2.lt q) hQ12
    have hset1 : (mInts ms).set p ((mAt ms p ||| P : Nat) : Int) = mInts m2 := by rw [mInts_set, ← hm2]; unfold maskOne; rw [hP]
    have hset2 : (mInts m2).set q ((mAt m2 q ||| Q : Nat) : Int) = mInts (maskOne m2 q p) := by rw [mInts_set]; unfold maskOne; rw [hQ]
    obtain ⟨A, hA⟩ : ∃ A, mAt ms p = A := ⟨_, rfl⟩
    obtain ⟨A2, hA2⟩ : ∃ A2, (mAt ms p ||| P) = A2 := ⟨_, rfl⟩
    rw [hA2] at hor hset1
    rw [hA] at hor c2
    obtain ⟨B, hBB⟩ : ∃ B, mAt m2 q = B := ⟨_, rfl⟩
    obtain ⟨B2, hB2⟩ : ∃ B2, (mAt m2 q ||| Q) = B2 := ⟨_, rfl⟩
    rw [hB2] at hor2 hset2
    rw [hBB] at hor2
    have HST : Hid (∀ q0, W.frozen? ⟨N, p, none⟩ = false ∧ OwnI ((W.drewN q0).setCell ⟨N, p, none⟩ (.int .i64 A2)) N (.slice (some ⟨N, 0, none⟩) n n) (mInts m2)) := fun q0 => by
      obtain ⟨s1, s2, s3, s4⟩ := (ho.drewN q0).store hl1 p (by omega) (A2 : Int)
      rw [hset1] at s3
      exact ⟨s2, s3⟩
    have HSN := Lib.hid hsn
    have HSET2 := Lib.hid hset2
    have HL2 := Lib.hid hl2
    have HG := Lib.hid hg
    have HQB := Lib.hid hBB
    have fz := (HST.out 0).1
    have w1 : IntKind.i64.wrap (P : Int) = P := IntWalk.i64_in _ (by omega)
    have w2 : IntKind.i64.wrap (Q : Int) = Q := IntWalk.i64_in _ (by omega)
    have hmix : Try.prog.follows .mixedOrders = true := rfl
    have i0' : (0 : Int) ≤ (p : Int) := by omega
    have i1' : (p : Int) < (n : Int) := by omega
    have i2' : (0 : Int) ≤ (q : Int) := by omega
    have i3' : (q : Int) < (n : Int) := by omega
    have i4' : (q : Int) ≤ 64 := by omega
    have i5' : (p : Int) ≤ 64 := by omega
    have HX2 := Lib.hid hX2
    unfold chunkAt
    simp only [hX2]
    clear hg ho hinv hinv2 hsn hmap hms hB hX2 hp hq hm2 hl1 hl2 hP hQ hset1 hset2 hA hA2 hBB hB2 hs3 hn3 hr
    gi_wp2_with fail
    refine region_tailC 12 ?tA1 (by decide) rfl hmix (by kernel_rfl) (by kernel_rfl) (by kernel_rfl) (by kernel_rfl) (by kernel_rfl) ?tq1 ?tT1
    case tq1 =>
      simp only [tailOff, offOp, List.take_succ_cons, List.take_zero, List.drop_succ_cons, List.drop_zero, List.map_cons, List.map_nil, List.cons_append, List.nil_append]
      repeat (gi_big_quiet_step (fail))
      refine wpQuietIn_nil ?_
      exact Eq.refl _
    simp only [List.drop_succ_cons, List.drop_zero]
    intro q0
    have h1 : (W.drewN q0).frozen? ⟨N, p, none⟩ = false := fz
    have hGw : (W.drewN q0).cell? ⟨N, p, none⟩ = some (.int .i64 A) := c2
    gi_wp2_with fail
    obtain ⟨U, hU⟩ : ∃ U, (W.drewN q0).setCell ⟨N, p, none⟩ (.int .i64 A2) = U := ⟨_, rfl⟩
    rw [hU]
    obtain ⟨_, s3⟩ := HST.out q0
    rw [hU] at s3
    have hgU : GrownL [N] W U := by rw [← hU]; exact ((GrownL.refl _ _).drewN q0).setCell _ _ (.inl (by simp))
    have hgA := HG.out.trans hgU
    have dD := (hgA.boxed HBD.out (by simp; omega)).cell
    have d0 : U.cell? ⟨b, o + X2, none⟩ = some (.int .i64 p) := by rw [← hU]; exact cell_far q0 (show b ≠ N by omega) c0
    have d1 : U.cell? ⟨b, o + X2 + 1, none⟩ = some (.int .i64 q) := by rw [← hU]; exact cell_far q0 (show b ≠ N by omega) c1
    have d2 := s3.at_ HL2.out q (by have := HL2.out; omega)
    rw [mInts_nth, HQB.out] at d2
    have HUD : Hid (∀ q1, U.frozen? ⟨N, q, none⟩ = false ∧ OwnI ((U.drewN q1).setCell ⟨N, q, none⟩ (.int .i64 B2)) N (.slice (some ⟨N, 0, none⟩) n n) (mInts (maskOne m2 q p))) := fun q1 => by
      obtain ⟨r1, r2, r3, r4⟩ := (s3.drewN q1).store HL2.out q (by have := HL2.out; omega) (B2 : Int)
      rw [HSET2.out] at r3
      exact ⟨r2, r3⟩
    have fz2 := (HUD.out 0).1
    have HGU := Lib.hid hgU
    clear hU s3 hgU hgA h1 hGw c0 c1 c2 cD fz
    refine region_tailC 12 ?tA2 (by decide) rfl hmix (by kernel_rfl) (by kernel_rfl) (by kernel_rfl) (by kernel_rfl) (by kernel_rfl) ?tq2 ?tT2
    case tq2 =>
      simp only [tailOff, offOp, List.take_succ_cons, List.take_zero, List.drop_succ_cons, List.drop_zero, List.map_cons, List.map_nil, List.cons_append, List.nil_append]
      repeat (gi_big_quiet_step (fail))
      refine wpQuietIn_nil ?_
      exact Eq.refl _
    simp only [List.drop_succ_cons, List.drop_zero]
    intro q1
    have e1 : (U.drewN q1).cell? ⟨N, q, none⟩ = some (.int .i64 B) := d2
    have e2 : (U.drewN q1).frozen? ⟨N, q, none⟩ = false := fz2
    gi_wp2
    have hgE : GrownL [N] W ((U.drewN q1).setCell ⟨N, q, none⟩ (.int .i64 B2)) := (HGU.out.drewN q1).setCell _ _ (.inl (by simp))
    exact ⟨hgE.keepsFrom (by intro i hi; simp; omega), hgE.keep2 (by have := HG.out.size; omega) (by have := HG.out.size; omega) (by simp; omega) (by simp; omega), HG.out.trans hgE, by rw [HSN.out]; exact (HUD.out q1).2⟩
  case hdone =>
    rintro D0 W hD0 ⟨hg, ho⟩ hK
    rw [finRange_val, ← HM.out] at ho
    have cD := (hg.boxed HBD.out (by simp; omega)).cell
    have HG := Lib.hid hg
    have HO : Hid (OwnI W N (.slice (some ⟨N, 0, none⟩) n n) (mInts (masks n xs))) := ho
    have HK := Lib.hid hK
    have hND : N ≠ D0 := by omega
    have hND2 : N ≤ D0 := by omega
    clear hg ho hK hs3 hn3
    go_wp2
    exact bodyM_ret (v := .slice (some ⟨N, 0, none⟩) n n) rfl HK.out (by simp [results, Try.results85, go_sem]) ⟨⟨_, rfl, by
      rw [HNW.out]
      exact HO.out.kept (grownBy_putObj' W D0 _) (.inr (fun e => hND (by injection e)))⟩, by rw [HNW.out]; exact below_putObj (HG.out.toBelow HB3.out (by omega) (by intro i hi; simp; omega)) hND2 HK.out⟩
end Go.Proofs.Ytmhepomjbaendaa
