
/- TripsOf, the program: its contract. Conditions: at most 2^20 numbers. -/
import Derived.Test.YtmhepomjbaendaaTripsSpec2
import Derived.Test.YtmhepomjbaendaaCounting
import Derived.Test.YtmhepomjbaendaaGrownL
import Derived.Test.YtmhepomjbaendaaRoundMix
import Derived.IntWalk
namespace Go.Proofs.Ytmhepomjbaendaa
open Go.RowKit Go.Shelf Go.BigFrame
set_option linter.unusedVariables false
set_option linter.unusedSimpArgs false
attribute [local go_sem] Oper.semAt_some

set_option maxRecDepth 100000 in
set_option maxHeartbeats 2000000 in
theorem implTrips_yes (t R : Nat) (v u : Value) (xs far : List Int) (w : World) (hv : Ints w v xs) (hu : Ints w u far) (ht : 2 ≤ t) (ht2 : t ≤ 16) (hev : t % 2 = 0) (hlen : xs.length = R * t) (hle : xs.length ≤ 480) (hok : roundsOk (t : Int) xs = true) (hfl : far.length = t * t)
    (hw : ∀ i, i < xs.length → 0 ≤ nth xs i ∧ nth xs i ≤ (t : Int) - 1) (hf : ∀ i, i < t * t → 0 ≤ nth far i ∧ nth far i ≤ 1000) :
    Calls Try.prog 19 #[.int .i64 t, v, u] w fun e w' => (∃ v', e = .returned (.tuple #[v', .bool true]) ∧ OwnI w' w.heap.size v' (homeTo t far (tripTo t xs far xs.length).2 (tripTo t xs far xs.length).1 t)) ∧ Below w.heap.size w w' := by
  obtain ⟨V, hV⟩ : ∃ V, (w.alloc (.cells #[.int .i64 t] 2)).alloc (.cells #[u] 25) = V := ⟨_, rfl⟩
  have hBV : Below w.heap.size w V := by rw [← hV]; exact ((Below.refl _ w).alloc (Nat.le_refl _) _).alloc (by simp) _
  have hT0 : Boxed V w.heap.size 2 (.int .i64 t) := by rw [← hV]; exact (Boxed.new w _ _).alloc _
  have hF0 : Boxed V (w.heap.size + 1) 25 u := by
    rw [← hV]; have := Boxed.new (w.alloc (.cells #[.int .i64 t] 2)) 25 u; rw [World.size_alloc] at this; exact this
  have hVs : V.heap.size = w.heap.size + 2 := by rw [← hV]; simp
  have hr := implRounds_any (t : Int) v xs V (hv.below hBV (by omega)) (wf_i64_iff.2 ⟨by omega, by omega⟩) (by omega)
  rw [hok] at hr
  have Hr := Lib.hid hr
  obtain ⟨F, hF⟩ : ∃ F, t * t = F := ⟨_, rfl⟩
  have hF' : (t : Int) * (t : Int) = (F : Int) := by rw [← hF, Int.natCast_mul]
  have hF2 : F ≤ 256 := by rw [← hF]; exact Nat.mul_le_mul ht2 ht2
  have hmany : many far F F 0 1000 = true := by
    rw [many_true]
    refine ⟨by omega, by omega, ?_⟩
    rw [List.all_eq_true]
    intro y hy
    obtain ⟨i, hi, rfl⟩ := List.getElem_of_mem hy
    have := hf i (by omega)
    rw [nth_eq hi] at this
    exact win_true.2 this
  have HMany : Hid (∀ W, Below w.heap.size w W → Calls Try.prog 66 #[u, .int .i64 F, .int .i64 F, .int .i64 0, .int .i64 1000] W fun e w' => e = .returned (.bool true) ∧ W = w') := fun W hW => by
    have := areMany_any u far F F 0 1000 W (hu.below hW (by omega))
    rwa [hmany] at this
  obtain ⟨i0, hi, hz0, hz1, hz2⟩ := info_parts info_i64
  obtain ⟨hm, a, c, rfl, hcap, hc⟩ := hv
  obtain ⟨hm', a', c', rfl, hcap', hc'⟩ := hu
  obtain ⟨b', o', ha0', hbs', hcs'⟩ := row_at hc'
  have hpos' : 0 < far.length := by rw [hfl]; exact Nat.mul_pos (by omega) (by omega)
  obtain rfl := ha0' hpos'
  have hbs' := hbs' hpos'
  obtain ⟨b, o, ha0, hbs, hcs⟩ := row_at hc
  have hx2 : xs.length % 2 = 0 := by rw [hlen, Nat.mul_mod, hev, Nat.mul_zero]
  obtain ⟨M, hM⟩ : ∃ M, xs.length / 2 = M := ⟨_, rfl⟩
  have HXM : Hid (xs.length = 2 * M) := by show xs.length = 2 * M; omega
  have HFS : Hid (∀ W, Below w.heap.size w W → ∀ i, i < F → W.cell? ⟨b', o' + i, none⟩ = some (.int .i64 (nth far i))) := fun W hW i hi => by
    rw [hW.cell (p := ⟨b', o' + i, none⟩) hbs', hcs' i (by omega), nth_eq (by omega)]
  have HA0 := Lib.hid ha0
  have HBS := Lib.hid hbs
  have HCS := Lib.hid hcs
  have HM := Lib.hid hM
  have HBV := Lib.hid hBV
  have HT0 := Lib.hid hT0
  have HF0 := Lib.hid hF0
  have HV := Lib.hid hV
  have HVS := Lib.hid hVs
  have HLEN := Lib.hid hlen
  have HFL := Lib.hid hfl
  have HF := Lib.hid hF
  have HW := Lib.hid hw
  have HFB := Lib.hid hf
  clear hr hok hmany hBV hT0 hF0 hV hVs hlen hfl hF hw hf hc hc' hcs hcs' hbs ha0 ha0' hx2 hM hm hm'
  refine (callsIn_wide (n := 9)).1 ?_
  refine callsIn_of_wp_marks Try.func19 rfl trivial ?_ rfl
  simp only [Try.ntmps19, List.size_toArray, List.length_cons, List.length_nil, Nat.reduceAdd, Nat.reduceSub, Array.replicate_succ, Array.replicate_zero, List.push_toArray, List.append_toArray, List.nil_append, List.cons_append]
  refine wpIn_wide.2 ?_
  go_wp2_with (first
    | (go_at_call 18; rw [HV.out]; refine Hr.out.mono ?_; rintro e W1 ⟨rfl, hb1⟩; have HB1 := Lib.hid (HBV.out.trans (hb1.mono HBV.out.size)); have HT1 := Lib.hid (show Boxed W1 _ _ _ from (hb1.block _ (by have := HVS.out; omega)).trans HT0.out); have HF1 := Lib.hid (show Boxed W1 _ _ _ from (hb1.block _ (by have := HVS.out; omega)).trans HF0.out); have hT1c := HT1.out.cell; have hF1c := HF1.out.cell; have HS1 := Lib.hid hb1.size; clear hb1)
    | (go_at_call 66; refine (HMany.out _ HB1.out).mono ?_; rintro e w' ⟨rfl, rfl⟩)
    | (at_make; refine wpList_make_full _ rfl _ _ 25 rfl W1.heap.size 2 i0 (.int .i64 0) 1 Try.underlying25 hi hz0 hz1 _ _ _ _ t rfl rfl rfl rfl (by rw [hz2]; omega) (by unfold maxLen at *; omega) (Nat.le_refl _) ?_; intro w2 hown2 hgrow2; have hb2 : Below W1.heap.size W1 w2 := (Below.refl _ _).grown hgrow2 (Nat.le_refl _) (fun k e => by cases e); have HO2 : Hid (OwnI w2 W1.heap.size (.slice (some ⟨W1.heap.size, 0, none⟩) t t) (List.replicate t 0)) := OwnI.made hown2; have HB2 := Lib.hid hb2; have HT2 := Lib.hid (show Boxed w2 _ _ _ from (hb2.block _ (by have := HVS.out; have := HS1.out; omega)).trans HT1.out); have HF2 := Lib.hid (show Boxed w2 _ _ _ from (hb2.block _ (by have := HVS.out; have := HS1.out; omega)).trans HF1.out); have hT2c : ∀ ob, (w2.alloc ob).cell? ⟨w.heap.size, 0, none⟩ = some (.int .i64 t) := fun ob => (HT2.out.alloc ob).cell; clear hown2 hgrow2 hb2)
    | (go_at_call 67; refine (counting_any t _ (by omega)).mono ?_; rintro e W3 ⟨⟨gp, cp, rfl, hop⟩, hb3⟩; have HOP := Lib.hid hop; have HB3 := Lib.hid hb3; clear hop hb3)
    | (go_at_call 59; refine (chunk_callB _ _ _ _ _ (by omega)).mono ?_; rintro e W4 ⟨rfl, hW4, hBs4, hBn4⟩))
  obtain ⟨N, hN⟩ : ∃ N, w.heap.size = N := ⟨_, rfl⟩
  obtain ⟨G, hG⟩ : ∃ G, W1.heap.size = G := ⟨_, rfl⟩
  obtain ⟨D, hD⟩ : ∃ D, w2.heap.size = D := ⟨_, rfl⟩
  obtain ⟨E, hE⟩ : ∃ E, W3.heap.size = E := ⟨_, rfl⟩
  have hsz4 : W4.heap.size = E + 3 := by have := hW4.size; rw [World.size_alloc, hE] at this; exact this
  have o1 : N + 2 ≤ G := by have := HVS.out; have := HS1.out; omega
  have o2 : G < D := by have := (HO2.out.lt W1.heap.size rfl).2; omega
  obtain ⟨o3', o4'⟩ := HOP.out.lt gp rfl
  have o3 : D + 1 ≤ gp := by rw [World.size_alloc, hD] at o3'; exact o3'
  have o4 : gp < E := by omega
  have hsize3 : D + 1 ≤ W3.heap.size := by have := HB3.out.size; rw [World.size_alloc, hD] at this; exact this
  -- from w2 on nothing that was there changes
  have g23 : GrownL [] w2 W3 := ((GrownL.refl [] w2).alloc _).below HB3.out (by simp)
  have g24 : GrownL [] w2 W4 := (g23.alloc _).below hW4.below (by have := g23.size; rw [World.size_alloc]; omega)
  have hbT : Boxed W4 N 2 (.int .i64 t) := by have := g24.boxed HT2.out (by simp); rw [hN] at this; exact this
  have hbF : Boxed W4 (N + 1) 25 (.slice (some ⟨b', o', none⟩) far.length c') := by have := g24.boxed HF2.out (by simp); rw [hN] at this; exact this
  have hbD : Boxed W4 D 25 (.slice (some ⟨G, 0, none⟩) t t) := by
    have h1 := Boxed.new w2 25 (.slice (some ⟨W1.heap.size, 0, none⟩) t t)
    rw [hD, hG] at h1
    have h2 : GrownL [] (w2.alloc (.cells #[.slice (some ⟨W1.heap.size, 0, none⟩) t t] 25)) W4 := (((GrownL.refl [] _).below HB3.out (Nat.le_refl _)).alloc _).below hW4.below (by have := HB3.out.size; simp at this ⊢; omega)
    rw [hG] at h2
    exact h2.boxed h1 (by simp)
  have hbE : Boxed W4 E 25 (.slice (some ⟨gp, 0, none⟩) t cp) := by
    have h1 := Boxed.new W3 25 (.slice (some ⟨gp, 0, none⟩) t cp)
    rw [hE] at h1
    exact ((GrownL.refl [] _).below hW4.below (Nat.le_refl _)).boxed h1 (by simp)
  have hO4 : OwnI W4 N (.slice (some ⟨G, 0, none⟩) t t) (tripTo t xs far 0).1 := by
    have h1 := g24.own (HO2.out.mono (B' := N) (by rw [hG]; omega)) (by simp)
    rw [hG] at h1; exact h1
  have hP4 : OwnI W4 N (.slice (some ⟨gp, 0, none⟩) t cp) (tripTo t xs far 0).2 := by
    have h2 : GrownL [] W3 W4 := ((GrownL.refl [] _).alloc _).below hW4.below (by simp)
    exact h2.own (HOP.out.mono (B' := N) (by rw [World.size_alloc, hD]; omega)) (by simp)
  have hB4 : Below N w W4 := by
    have h1 : Below N w w2 := by have := HB1.out.trans (HB2.out.mono (show w.heap.size ≤ W1.heap.size by rw [hG, hN]; omega)); rw [hN] at this; exact this
    exact g24.toBelow h1 (by omega) (by simp)
  have hs4 := hW4.s
  have hn4 := hW4.n
  simp only [World.size_alloc, hE] at hs4 hn4
  have HBT := Lib.hid hbT
  have HBF := Lib.hid hbF
  have HBD := Lib.hid hbD
  have HBE := Lib.hid hbE
  have HO4 := Lib.hid hO4
  have HP4 := Lib.hid hP4
  have HB4 := Lib.hid hB4
  have HNW := Lib.hid hN
  simp only [World.size_alloc, hN, hD, hE, hG]
  clear hbT hbF hbD hbE hO4 hP4 hB4 g23 g24 hW4 hBs4 hBn4 HO2 HOP HB3 HB2 HT2 HF2 hT2c HB1 HT1 HF1 hT1c hF1c HS1 HMany Hr hi hz0 hz1 hz2 hN hG hD hE o3' o4' hsize3
  refine chunk_loopL (k := 9) (by omega) (Bs := E + 1) (Bn := E + 1 + 1) rfl b o c 2 M xs.length a HXM.out (by omega) (by omega) HA0.out hs4 hcap hn4 rfl
    (fun pre W => GrownL [G, gp] W4 W ∧ OwnI W N (.slice (some ⟨G, 0, none⟩) t t) (tripPre t xs far (pre.map (·.1))).1 ∧ OwnI W N (.slice (some ⟨gp, 0, none⟩) t cp) (tripPre t xs far (pre.map (·.1))).2)
    (fun _ _ _ => False)
    ?hI ?hIx ?h0 ?a1 ?hassign ?hbody ?hdone ?hstop
  case hassign =>
    intro l x W K hK
    gi_wp2
    exact hK
  case hI => exact OwnFrom.and (ownFrom_grownL (Nat.le_refl _)) (OwnFrom.and (ownFrom_ownI (fun (s : List (Fin M)) => (tripPre t xs far (s.map (·.1))).1)) (ownFrom_ownI (fun (s : List (Fin M)) => (tripPre t xs far (s.map (·.1))).2)))
  case hIx => exact fun _ _ _ _ _ h _ _ => h
  case h0 => exact ⟨GrownL.refl _ _, HO4.out, HP4.out⟩
  case hstop => exact fun _ _ _ _ _ _ h _ => h.elim
  case hbody =>
    rintro l pre x W hl hr ⟨hg, ho, hp⟩ hlen
    have hx := x.2
    have hx1 : 2 * x.1 + 1 < xs.length := by have := HXM.out; omega
    have hinv := tripPre_inv HW.out HFB.out (pre.map (·.1)) (fun y hy => by
      obtain ⟨z, _, rfl⟩ := List.mem_map.1 hy
      have := z.2; have := HXM.out; omega)
    rw [List.length_map] at hinv
    have hsn := tripPre_snoc t xs far (pre.map (·.1)) x.1
    have hmap : (pre ++ [x]).map (·.1) = pre.map (·.1) ++ [x.1] := by simp
    rw [← hmap] at hsn
    obtain ⟨st, hst⟩ : ∃ st, tripPre t xs far (pre.map (·.1)) = st := ⟨_, rfl⟩
    rw [hst] at ho hp hinv hsn
    have HINV : Hid (∀ q, q ≤ 2 → TripInv t (2 * pre.length + q) (tripIn t xs far st x.1 q)) := fun q hq => tripIn_inv hinv HW.out HFB.out hx1 q hq
    have HSN := Lib.hid hsn
    have HG0 := Lib.hid hg
    have HO := Lib.hid ho
    have HP := Lib.hid hp
    have hmix : Try.prog.follows .mixedOrders = true := rfl
    clear hg ho hp hinv hsn hmap hst hs4 hn4 hr
    obtain ⟨X2, hX2⟩ : ∃ X2, x.1 * 2 = X2 := ⟨_, rfl⟩
    have HX2 := Lib.hid hX2
    unfold chunkAt
    simp only [hX2]
    clear hX2
    gi_wp2_with fail
    gi_loopw [12, 38] (fun _ i wr => ∃ q : Nat, q ≤ 2 ∧ i = .int .i64 q ∧ GrownL [G, gp] W wr ∧ OwnI wr N (.slice (some ⟨G, 0, none⟩) t t) (tripIn t xs far st x.1 q).1 ∧ OwnI wr N (.slice (some ⟨gp, 0, none⟩) t cp) (tripIn t xs far st x.1 q).2) (fun _ i _ => 2 - (intOf i).toNat)
    case atStart => exact ⟨0, by omega, rfl, GrownL.refl _ _, HO.out, HP.out⟩
    case round =>
      obtain ⟨q, hq, rfl, hg, ho, hp⟩ := hrel
      clear HO HP
      by_cases hlt : q < 2
      · have hgA := HG0.out.trans hg
        have hB := hgA.toBelow HB4.out (by omega) (by intro i hi; simp; omega)
        have hwN : w.heap.size = N := HNW.out
        have hbN : b < N := by have := HBS.out (by omega); omega
        have hxq : 2 * x.1 + q < xs.length := by omega
        have hX2' : x.1 * 2 = X2 := HX2.out
        have cT := (hgA.boxed HBT.out (by simp; omega)).cell
        have cF := (hgA.boxed HBF.out (by simp; omega)).cell
        have cD := (hgA.boxed HBD.out (by simp; omega)).cell
        have cE := (hgA.boxed HBE.out (by simp; omega)).cell
        have c0 : wr.cell? ⟨b, o + X2, none⟩ = some (.int .i64 (nth xs (2 * x.1))) := by rw [hB.cell (p := ⟨b, o + X2, none⟩) hbN, ← hX2', Nat.mul_comm x.1 2, HCS.out _ (by omega), nth_eq (by omega)]
        have c1 : wr.cell? ⟨b, o + X2 + q, none⟩ = some (.int .i64 (nth xs (2 * x.1 + q))) := by rw [hB.cell (p := ⟨b, o + X2 + q, none⟩) hbN, ← hX2', Nat.mul_comm x.1 2, Nat.add_assoc, HCS.out _ hxq, nth_eq hxq]
        obtain ⟨i1, i2, i3, i4⟩ := HINV.out q hq
        have hnext : tripIn t xs far st x.1 (q + 1) = tripHalf t far (tripIn t xs far st x.1 q) (nth xs (2 * x.1 + q)).toNat (nth xs (2 * x.1)).toNat := rfl
        obtain ⟨su, hsu⟩ : ∃ su, tripIn t xs far st x.1 q = su := ⟨_, rfl⟩
        rw [hsu] at ho hp i1 i2 i3 i4 hnext
        obtain ⟨w1', w2'⟩ := HW.out _ hxq
        obtain ⟨v1, v2⟩ := HW.out (2 * x.1) (by omega)
        obtain ⟨p, hp'⟩ : ∃ p : Nat, nth xs (2 * x.1 + q) = p := ⟨(nth xs (2 * x.1 + q)).toNat, by omega⟩
        obtain ⟨h, hh⟩ : ∃ p : Nat, nth xs (2 * x.1) = p := ⟨(nth xs (2 * x.1)).toNat, by omega⟩
        rw [hp'] at c1 w1' w2'
        rw [hh] at c0 v1 v2
        rw [hp', hh, Int.toNat_natCast, Int.toNat_natCast] at hnext
        have hpk : p < t := by omega
        have hhk : h < t := by omega
        obtain ⟨j1, j2⟩ := i3 p hpk
        obtain ⟨j3, j4⟩ := i4 p hpk
        have c2 := ho.at_ i1.symm p (by omega)
        have c3 := hp.at_ i2.symm p (by omega)
        unfold tripHalf at hnext
        obtain ⟨a0, ha0⟩ : ∃ a0, nth su.1 p = a0 := ⟨_, rfl⟩
        obtain ⟨y, hy⟩ : ∃ y : Nat, nth su.2 p = y := ⟨(nth su.2 p).toNat, by omega⟩
        rw [ha0] at c2 j1 j2 hnext
        rw [hy] at c3 j3 j4
        rw [hy, Int.toNat_natCast] at hnext
        have hyk : y < t := by omega
        have hx3 := ix_lt hyk hhk
        rw [HF.out] at hx3
        obtain ⟨yk, hyk'⟩ : ∃ yk, y * t = yk := ⟨_, rfl⟩
        have hyk2 : (y : Int) * (t : Int) = (yk : Int) := by rw [← hyk', Int.natCast_mul]
        rw [hyk'] at hx3 hnext
        obtain ⟨X, hX⟩ : ∃ X, yk + h = X := ⟨_, rfl⟩
        have hX' : (yk : Int) + (h : Int) = (X : Int) := by omega
        rw [hX] at hx3 hnext
        have c4 := HFS.out wr (by rw [hwN]; exact hB) X hx3
        obtain ⟨f1, f2⟩ := HFB.out X (by rw [HF.out]; exact hx3)
        obtain ⟨fv, hfv⟩ : ∃ fv, nth far X = fv := ⟨_, rfl⟩
        rw [hfv] at c4 f1 f2 hnext
        have hpl : pre.length < 240 := by have := HXM.out; omega
        have HST : Hid (∀ q0, wr.frozen? ⟨G, p, none⟩ = false ∧ OwnI ((wr.drewN q0).setCell ⟨G, p, none⟩ (.int .i64 (a0 + fv))) N (.slice (some ⟨G, 0, none⟩) t t) (su.1.set p (a0 + fv)) ∧ OwnI ((wr.drewN q0).setCell ⟨G, p, none⟩ (.int .i64 (a0 + fv))) N (.slice (some ⟨gp, 0, none⟩) t cp) su.2) := fun q0 => by
          obtain ⟨s1, s2, s3, s4⟩ := (ho.drewN q0).store i1.symm p (by omega) (a0 + fv)
          exact ⟨s2, s3, (hp.drewN q0).setCell (p := ⟨G, p, none⟩) (.int .i64 (a0 + fv)) (by show some gp ≠ some G; intro e; injection e with e; omega)⟩
        have HI2 := Lib.hid i2
        have HNEXT := Lib.hid hnext
        have HG1 := Lib.hid hg
        have fz := (HST.out 0).1
        have t5 : (0 : Int) ≤ (X : Int) := by omega
        have t6 : (X : Int) < (far.length : Int) := by have := HFL.out; have := HF.out; omega
        have q1 : IntKind.i64.wrap (yk : Int) = (yk : Int) := IntWalk.i64_in _ (by omega)
        have q2 : IntKind.i64.wrap (X : Int) = (X : Int) := IntWalk.i64_in _ (by omega)
        have q3 : IntKind.i64.wrap (a0 + fv) = a0 + fv := IntWalk.i64_in _ (by omega)
        clear hg ho hp hnext i1 i2 i3 i4 hsu hfv hX hyk' hy ha0 hp' hh hgA hB hwN hX2' hx3
        gi_wp2_with fail
        refine region_tailC 19 ?tA1 (by decide) rfl hmix (by kernel_rfl) (by kernel_rfl) (by kernel_rfl) (by kernel_rfl) (by kernel_rfl) ?tq1 ?tT1
        case tq1 =>
          simp only [tailOff, offOp, List.take_succ_cons, List.take_zero, List.drop_succ_cons, List.drop_zero, List.map_cons, List.map_nil, List.cons_append, List.nil_append]
          repeat (gi_big_quiet_step (fail))
          refine wpQuietIn_nil ?_
          exact Eq.refl _
        simp only [List.drop_succ_cons, List.drop_zero]
        intro q0
        have h1 : (wr.drewN q0).frozen? ⟨G, p, none⟩ = false := fz
        gi_wp2_with fail
        have hGw : (wr.drewN q0).cell? ⟨G, p, none⟩ = some (.int .i64 a0) := c2
        obtain ⟨U, hU⟩ : ∃ U, (wr.drewN q0).setCell ⟨G, p, none⟩ (.int .i64 (a0 + fv)) = U := ⟨_, rfl⟩
        rw [hU]
        obtain ⟨_, s3, p3⟩ := HST.out q0
        rw [hU] at s3 p3
        have hgU : GrownL [G, gp] W U := by rw [← hU]; exact (HG1.out.drewN q0).setCell _ _ (.inl (by simp))
        have hgA := HG0.out.trans hgU
        have hBU := hgA.toBelow HB4.out (by omega) (by intro i hi; simp; omega)
        have dE := (hgA.boxed HBE.out (by simp; omega)).cell
        have d0 : U.cell? ⟨b, o + X2, none⟩ = some (.int .i64 h) := by rw [← hU]; exact cell_far q0 (show b ≠ G by omega) c0
        have HUD : Hid (∀ q1, U.cell? ⟨gp, p, none⟩ = some (.int .i64 y) ∧ U.frozen? ⟨gp, p, none⟩ = false ∧ OwnI ((U.drewN q1).setCell ⟨gp, p, none⟩ (.int .i64 h)) N (.slice (some ⟨gp, 0, none⟩) t cp) (su.2.set p (h : Int)) ∧ OwnI ((U.drewN q1).setCell ⟨gp, p, none⟩ (.int .i64 h)) N (.slice (some ⟨G, 0, none⟩) t t) (su.1.set p (a0 + fv))) := fun q1 => by
          obtain ⟨r1, r2, r3, r4⟩ := (p3.drewN q1).store HI2.out.symm p (by have := HI2.out; omega) (h : Int)
          refine ⟨?_, r2, r3, (s3.drewN q1).setCell (p := ⟨gp, p, none⟩) (.int .i64 h) (by show some G ≠ some gp; intro e; injection e with e; omega)⟩
          rw [← hU]; exact cell_far q0 (show gp ≠ G by omega) c3
        obtain ⟨d1, d2, _⟩ := HUD.out 0
        have HGU := Lib.hid hgU
        clear hU s3 p3 hgU hgA hBU h1 hGw cT cF cD cE c0 c1 c2 c3 c4 fz
        refine region_tailC 6 ?tA2 (by decide) rfl hmix (by kernel_rfl) (by kernel_rfl) (by kernel_rfl) (by kernel_rfl) (by kernel_rfl) ?tq2 ?tT2
        case tq2 =>
          simp only [tailOff, offOp, List.take_succ_cons, List.take_zero, List.drop_succ_cons, List.drop_zero, List.map_cons, List.map_nil, List.cons_append, List.nil_append]
          repeat (gi_big_quiet_step (fail))
          refine wpQuietIn_nil ?_
          exact Eq.refl _
        simp only [List.drop_succ_cons, List.drop_zero]
        intro q1
        have e1 : (U.drewN q1).cell? ⟨gp, p, none⟩ = some (.int .i64 y) := d1
        have e2 : (U.drewN q1).frozen? ⟨gp, p, none⟩ = false := d2
        gi_wp2
        go_roundw
        case rel => exact ⟨q + 1, by omega, by go_num, (HGU.out.drewN q1).setCell _ _ (.inl (by simp)), by rw [HNEXT.out]; exact (HUD.out q1).2.2.2, by rw [HNEXT.out]; exact (HUD.out q1).2.2.1⟩
        case measure => simp [intOf]; omega
      · obtain rfl : q = 2 := by omega
        have HGg := Lib.hid hg
        have HO := Lib.hid ho
        have HP := Lib.hid hp
        clear hg ho hp hlt
        gi_wp2
        exact ⟨HGg.out.keepsFrom (by intro i hi; simp; omega), HGg.out.keep2 (by have := HG0.out.size; omega) (by have := HG0.out.size; omega) (by simp; omega) (by simp; omega), HG0.out.trans HGg.out, by rw [HSN.out]; exact HO.out, by rw [HSN.out]; exact HP.out⟩
  case hdone =>
    rintro D0 W hD0 ⟨hg, ho, hp⟩ hK
    rw [finRange_val, tripPre_range, ← HXM.out] at ho hp
    have hinv := tripTo_inv HW.out HFB.out xs.length (Nat.le_refl _)
    obtain ⟨o0, ho0⟩ : ∃ o0, (tripTo t xs far xs.length).1 = o0 := ⟨_, rfl⟩
    obtain ⟨pl, hpl⟩ : ∃ pl, (tripTo t xs far xs.length).2 = pl := ⟨_, rfl⟩
    obtain ⟨z1, z2, z3, z4⟩ := hinv
    rw [ho0] at ho z1 z3
    rw [hpl] at hp z2 z4
    have HH : Hid (∀ j, j ≤ t → (homeTo t far pl o0 j).length = t ∧ ∀ m, m < t → 0 ≤ nth (homeTo t far pl o0 j) m ∧ nth (homeTo t far pl o0 j) m ≤ ((1000 * xs.length : Nat) : Int) + 1000 * j) := fun j hj => homeTo_inv z1 (fun m hm => by have := z3 m hm; omega) z4 HFB.out j hj
    have HZ4 := Lib.hid z4
    have HO00 := Lib.hid ho0
    have HPL := Lib.hid hpl
    have HZ2 := Lib.hid z2
    have HO := Lib.hid ho
    have HP := Lib.hid hp
    have HG := Lib.hid hg
    have HK := Lib.hid hK
    have cD := (hg.boxed HBD.out (by simp; omega)).cell
    have hDW : D0 < W.heap.size := (Array.getElem?_eq_some_iff.1 hK).1
    clear z1 z2 z3 z4 ho0 hpl ho hp hg hK hs4 hn4
    go_wp2
    go_loopw [13, 70] (fun _ i wk => ∃ j : Nat, j ≤ t ∧ i = .int .i64 j ∧ GrownL [G, gp] W4 wk ∧ wk.heap[D0]? = some (.deferred (some [])) ∧ OwnI wk N (.slice (some ⟨G, 0, none⟩) t t) (homeTo t far pl o0 j) ∧ OwnI wk N (.slice (some ⟨gp, 0, none⟩) t cp) pl) (fun _ i _ => t - (intOf i).toNat)
    case atStart => exact ⟨0, Nat.zero_le _, rfl, HG.out, HK.out, HO.out, HP.out⟩
    case round =>
      obtain ⟨j, hj, rfl, hg, hK, ho, hp⟩ := hrel
      clear HG HK HO HP cD
      have hB := hg.toBelow HB4.out (by omega) (by intro i hi; simp; omega)
      have HBw := Lib.hid hB
      have cT := (hg.boxed HBT.out (by simp; omega)).cell
      have cF := (hg.boxed HBF.out (by simp; omega)).cell
      have cD := (hg.boxed HBD.out (by simp; omega)).cell
      have cE := (hg.boxed HBE.out (by simp; omega)).cell
      by_cases hjk : j < t
      · obtain ⟨l1, l2⟩ := HH.out j (by omega)
        obtain ⟨l3, l4⟩ := l2 j hjk
        obtain ⟨y1, y2⟩ := HZ4.out j hjk
        have hnext : homeTo t far pl o0 (j + 1) = (homeTo t far pl o0 j).set j (nth (homeTo t far pl o0 j) j + nth far ((nth pl j).toNat * t + j)) := rfl
        obtain ⟨oo, hoo⟩ : ∃ oo, homeTo t far pl o0 j = oo := ⟨_, rfl⟩
        rw [hoo] at ho l1 l3 l4 hnext
        have c2 := ho.at_ l1.symm j (by omega)
        have c3 := hp.at_ HZ2.out.symm j (by have := HZ2.out; omega)
        obtain ⟨a0, ha0⟩ : ∃ a0, nth oo j = a0 := ⟨_, rfl⟩
        obtain ⟨y, hy⟩ : ∃ y : Nat, nth pl j = y := ⟨(nth pl j).toNat, by omega⟩
        rw [ha0] at c2 l3 l4 hnext
        rw [hy] at c3 y1 y2
        rw [hy, Int.toNat_natCast] at hnext
        have hyk : y < t := by omega
        have hx1 := ix_lt hyk hjk
        rw [HF.out] at hx1
        obtain ⟨yk, hyk'⟩ : ∃ yk, y * t = yk := ⟨_, rfl⟩
        have hyk2 : (y : Int) * (t : Int) = (yk : Int) := by rw [← hyk', Int.natCast_mul]
        rw [hyk'] at hx1 hnext
        obtain ⟨X, hX⟩ : ∃ X, yk + j = X := ⟨_, rfl⟩
        have hX2 : (yk : Int) + (j : Int) = (X : Int) := by omega
        rw [hX] at hx1 hnext
        have c4 := HFS.out wr (by rw [HNW.out]; exact hB) X hx1
        obtain ⟨f1, f2⟩ := HFB.out X (by rw [HF.out]; exact hx1)
        obtain ⟨fv, hfv⟩ : ∃ fv, nth far X = fv := ⟨_, rfl⟩
        rw [hfv] at c4 f1 f2 hnext
        have hGD : G ≠ D0 := by
          obtain ⟨cur, hcur⟩ := ho.block
          intro e; subst e; rw [hK] at hcur; cases hcur
        obtain ⟨s1, s2, s3, s4⟩ := (ho.drewN 1).store l1.symm j (by omega) (a0 + fv)
        have hp3 := (hp.drewN 1).setCell (p := ⟨G, j, none⟩) (.int .i64 (a0 + fv)) (by show some gp ≠ some G; intro e; injection e with e; omega)
        have hg3 : GrownL [G, gp] W4 ((wr.drewN 1).setCell ⟨G, j, none⟩ (.int .i64 (a0 + fv))) := (hg.drewN 1).setCell _ _ (.inl (by simp))
        have hK3 : ((wr.drewN 1).setCell ⟨G, j, none⟩ (.int .i64 (a0 + fv))).heap[D0]? = some (.deferred (some [])) := (Below.heap_setCell _ _ _ _ (Ne.symm hGD)).trans hK
        have u1 : wr.cell? ⟨G, j, none⟩ = some (.int .i64 a0) := c2
        have u2 : wr.frozen? ⟨G, j, none⟩ = false := s2
        have u3 : wr.cell? ⟨gp, j, none⟩ = some (.int .i64 y) := c3
        have HS5 := Lib.hid s3
        have HR3 := Lib.hid hp3
        have HG3 := Lib.hid hg3
        have HK3 := Lib.hid hK3
        have HNEXT := Lib.hid hnext
        have t5 : (0 : Int) ≤ (X : Int) := by omega
        have t6 : (X : Int) < (far.length : Int) := by have := HFL.out; have := HF.out; omega
        have t7 : (0 : Int) ≤ (j : Int) := by omega
        have t8 : (j : Int) < (t : Int) := by omega
        have q1 : IntKind.i64.wrap (yk : Int) = (yk : Int) := IntWalk.i64_in _ (by omega)
        have q2 : IntKind.i64.wrap (X : Int) = (X : Int) := IntWalk.i64_in _ (by omega)
        have q3 : IntKind.i64.wrap (a0 + fv) = a0 + fv := IntWalk.i64_in _ (by omega)
        clear s1 s2 s3 s4 hp3 hg3 hK3 hK hB ho hp hnext l1 l2 hoo hfv hX hyk' hy ha0 c2 c3 hx1 hGD
        go_wp2
        go_still_tail 17, (by kernel_rfl)
        go_wp2
        go_roundw
        case rel => exact ⟨j + 1, by omega, by go_num, HG3.out, HK3.out, by rw [HNEXT.out]; exact HS5.out, HR3.out⟩
        case measure => simp [intOf]; omega
      · obtain rfl : j = t := by omega
        have HO3 := Lib.hid ho
        have HK3 := Lib.hid hK
        have hND : N ≤ D0 := by omega
        have hGD : G ≠ D0 := by
          obtain ⟨cur, hcur⟩ := ho.block
          intro e; subst e; rw [hK] at hcur; cases hcur
        clear ho hp hjk hK hB
        go_wp2
        exact bodyM_ret (v := .tuple #[.slice (some ⟨G, 0, none⟩) j j, .bool true]) rfl HK3.out (by simp [results, Try.results19, go_sem]) ⟨⟨_, rfl, by
          rw [HO00.out, HPL.out, HNW.out]
          exact HO3.out.kept (grownBy_putObj' wr D0 _) (.inr (fun e => hGD (by injection e)))⟩, by rw [HNW.out]; exact below_putObj HBw.out hND HK3.out⟩
end Go.Proofs.Ytmhepomjbaendaa
