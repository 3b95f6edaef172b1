
/- AreRounds, program and reference: the contracts of both, by one plain function. Conditions: at most 2^20 numbers. -/
import Derived.Test.YtmhepomjbaendaaRoundsPlain
import Derived.Test.YtmhepomjbaendaaChunk
import Derived.Test.YtmhepomjbaendaaRoundAlloc
namespace Go.Proofs.Ytmhepomjbaendaa
open Go.RowKit Go.Shelf Go.BigFrame
set_option linter.unusedVariables false
set_option linter.unusedSimpArgs false
attribute [local go_sem] Oper.semAt_some

theorem ownFrom_keeps {β : Type} {B B0 : Nat} {A : World} (hA : A.heap.size ≤ B) : OwnFrom B (fun (_ : β) W => KeepsFrom B0 A W) :=
  fun s W W' row hs hg hr => ⟨Nat.le_trans hs.size hg.size, fun k o hB hk ho => (hg.block k (Array.getElem?_eq_some_iff.1 (hs.same k o hB hk ho)).1 (fun e => by have := (hr k e.symm).1; have := (Array.getElem?_eq_some_iff.1 hk).1; omega)).trans (hs.same k o hB hk ho)⟩
theorem ownFrom_keep2 {β : Type} {B Bs Bn : Nat} {A : World} (h1 : Bs < B) (h2 : Bn < B) (hA1 : Bs < A.heap.size) (hA2 : Bn < A.heap.size) : OwnFrom B (fun (_ : β) W => Keep2 Bs Bn A W) :=
  fun s W W' row hs hg hr => by
    have k1 : Bs < W.heap.size := (Array.getElem?_eq_some_iff.1 (hs.s.trans (Array.getElem?_eq_getElem hA1))).1
    have k2 : Bn < W.heap.size := (Array.getElem?_eq_some_iff.1 (hs.n.trans (Array.getElem?_eq_getElem hA2))).1
    exact hs.grown hg k1 k2 (fun e => by have := (hr _ e.symm).1; omega) (fun e => by have := (hr _ e.symm).1; omega)

theorem implRounds_no (n : Int) (v : Value) (xs : List Int) (w : World) (hv : Ints w v xs) (h : roundsHead n xs = false) (hn : (Lit.int .i64 n).wf = true) (hl : xs.length ≤ 1048576) :
    Calls Try.prog 18 #[.int .i64 n, v] w fun e w' => e = .returned (.bool false) ∧ Below w.heap.size w w' := by
  obtain ⟨hm, a, c, rfl, hcap, hc⟩ := hv
  clear hc
  unfold roundsHead at h
  cases ht : teamsOk n
  · unfold teamsOk at ht
    go_enter Try.func18, Try.ntmps18
    go_wp2_with (go_at_call 56; refine (areTeams_any _ _ hn).mono ?_; rintro e w' ⟨rfl, rfl⟩)
    exact bodyPost_ret (v := .bool false) (by simp [results, Try.results18, go_sem]) rfl ⟨rfl, (Below.refl _ _).alloc (Nat.le_refl _) _⟩
  · obtain ⟨t, rfl, h1, h2, h3⟩ := teamsOk_bounds ht
    have ht' := ht
    unfold teamsOk at ht'
    have hne : ¬ (t : Int) = 0 := by omega
    obtain ⟨m, hm2⟩ : ∃ m, (xs.length : Int) % t = m := ⟨_, rfl⟩
    obtain ⟨d, hd⟩ : ∃ d, (xs.length : Int) / t = d := ⟨_, rfl⟩
    rw [ht, hm2, hd] at h
    by_cases hmod : m = 0
    · have hmod' : (m != 0) = false := by simp [hmod]
      have hw : win d 1 (2 * (t : Int) - 2) = false := by simpa [hmod] using h
      have hd1 : d ≤ 1048576 := by have := Int.ediv_le_self (b := (t : Int)) (a := (xs.length : Int)) (by omega); omega
      have hd0 : 0 ≤ d := by rw [← hd]; exact Int.ediv_nonneg (by omega) (by omega)
      clear hmod ht h
      go_enter Try.func18, Try.ntmps18
      go_wp2_with (first | (go_at_call 56; refine (areTeams_any _ _ hn).mono ?_; rintro e w' ⟨rfl, rfl⟩) | (go_at_call 60; refine (within_any _ _ _ _).mono ?_; rintro e w' ⟨rfl, rfl⟩))
      exact bodyPost_ret (v := .bool false) (by simp [results, Try.results18, go_sem]) rfl ⟨rfl, (Below.refl _ _).alloc (Nat.le_refl _) _⟩
    · have hmod' : (m != 0) = true := by simp [hmod]
      clear hmod ht h
      go_enter Try.func18, Try.ntmps18
      go_wp2_with (go_at_call 56; refine (areTeams_any _ _ hn).mono ?_; rintro e w' ⟨rfl, rfl⟩)
      exact bodyPost_ret (v := .bool false) (by simp [results, Try.results18, go_sem]) rfl ⟨rfl, (Below.refl _ _).alloc (Nat.le_refl _) _⟩

set_option maxRecDepth 100000 in
set_option maxHeartbeats 2000000 in
theorem implRounds_yes (t R q : Nat) (v : Value) (xs : List Int) (w : World) (hv : Ints w v xs) (h1 : 2 ≤ t) (h2 : t ≤ 16) (h3 : t = 2 * q) (hlen : xs.length = R * t) (hR1 : 1 ≤ R) (hR2 : R ≤ 30) (hR3 : (R : Int) ≤ 2 * t - 2) :
    Calls Try.prog 18 #[.int .i64 t, v] w fun e w' => e = .returned (.bool (((List.range R).all fun r => isAllB (roundL xs t r)) && decide ((prs xs q (List.range R)).Nodup))) ∧ Below w.heap.size w w' := by
  obtain ⟨hm, a, c, rfl, hcap, hc⟩ := hv
  obtain ⟨b, o, ha0, hbs, hcs⟩ := row_at hc
  have hn : (Lit.int .i64 (t : Int)).wf = true := wf_i64_iff.2 ⟨by omega, by omega⟩
  have ht' : (win (t : Int) 2 16 && ((t : Int) % 2 == 0)) = true := by simp [win]; omega
  have hle : xs.length ≤ 480 := by rw [hlen]; exact Nat.le_trans (Nat.mul_le_mul hR2 h2) (by decide)
  have hmod : (xs.length : Int) % t = 0 := by rw [hlen]; simp
  have hdiv : (xs.length : Int) / t = R := by rw [hlen, Int.natCast_mul]; exact Int.mul_ediv_cancel _ (by omega)
  have hmod' : ((0 : Int) != 0) = false := rfl
  have hwin : win (R : Int) 1 (2 * (t : Int) - 2) = true := win_true.2 ⟨by omega, by omega⟩
  have hne : ¬ (t : Int) = 0 := by omega
  have hmm := @run_makeMap Try.prog
  have HLEN := Lib.hid hlen
  have H3 := Lib.hid h3
  clear hc hlen h3
  refine (callsIn_wide (n := 9)).1 ?_
  refine callsIn_of_wp_marks Try.func18 rfl trivial ?_ rfl
  simp only [Try.ntmps18, List.size_toArray, List.length_cons, List.length_nil, Nat.reduceAdd, Nat.reduceSub, Array.replicate_succ, Array.replicate_zero, List.push_toArray, List.append_toArray, List.nil_append, List.cons_append]
  refine wpIn_wide.2 ?_
  go_wp2_with (first | (go_at_call 56; refine (areTeams_any _ _ hn).mono ?_; rintro e w' ⟨rfl, rfl⟩) | (go_at_call 60; refine (within_any _ _ _ _).mono ?_; rintro e w' ⟨rfl, rfl⟩) | (go_at_call 59; refine (chunk_call _ _ _ _ _ (by omega)).mono ?_; rintro e W0 ⟨rfl, hW0⟩))
  have hsz : W0.heap.size = w.heap.size + 5 := by have := hW0.size; simpa using this
  have hB0 : Below w.heap.size w W0 := ((((Below.refl _ w).alloc (Nat.le_refl _) _).alloc (by simp) _).alloc (by simp; omega) _).trans (hW0.below.mono (by simp; omega))
  have hR0 : Boxed W0 w.heap.size 4 (.bool false) := (hW0.below.block _ (by simp; omega)).trans (((Boxed.new w 4 (.bool false)).alloc (.map #[] 0)).alloc (.cells #[.map (some (w.heap.size + 1))] 80))
  have hM0 : Boxed W0 (w.heap.size + 1 + 1) 80 (.map (some (w.heap.size + 1))) := (hW0.below.block _ (by simp)).trans (by
    have := Boxed.new ((w.alloc (.cells #[.bool false] 4)).alloc (.map #[] 0)) 80 (.map (some (w.heap.size + 1))); simp only [World.size_alloc] at this; exact this)
  have hP0 : MapP W0 (w.heap.size + 1) (prs xs q (([] : List (Fin R)).map (·.1))) := by
    have h0 := MapP.new (w.alloc (.cells #[.bool false] 4))
    simp only [World.size_alloc] at h0
    exact (h0.block (W' := (((w.alloc (.cells #[.bool false] 4)).alloc (.map #[] 0)).alloc (.cells #[.map (some (w.heap.size + 1))] 80))) (Below.heap_alloc _ _ _ (by simp))).block (hW0.below.block _ (by simp))
  have hs0 := hW0.s
  have hn0 := hW0.n
  simp only [World.size_alloc] at hs0 hn0
  clear hW0
  obtain ⟨N, hN⟩ : ∃ N, w.heap.size = N := ⟨_, rfl⟩
  rw [hN] at hs0 hn0 hsz hB0 hR0 hM0 hP0
  have HN := Lib.hid hN
  have HSZ := Lib.hid hsz
  have HM0 := Lib.hid hM0
  have HP0 := Lib.hid hP0
  have HR0 := Lib.hid hR0
  clear hM0 hP0 hR0 hdiv hmod
  rw [hN] at hbs ⊢
  clear hN hsz
  refine chunk_loop (k := 9) (by omega) (Bs := N + 1 + 1 + 1) (Bn := N + 1 + 1 + 1 + 1) rfl b o c t R xs.length a (by rw [HLEN.out, Nat.mul_comm]) (by omega) (by omega) ha0 hs0 hcap hn0 rfl
    (fun pre W => Boxed W N 4 (.bool false) ∧ Boxed W (N + 1 + 1) 80 (.map (some (N + 1))) ∧ MapP W (N + 1) (prs xs q (pre.map (·.1))) ∧ Below N w W ∧ ((prs xs q (pre.map (·.1))).Nodup ∧ ∀ r ∈ pre, isAllB (roundL xs t r.1) = true))
    (fun cd pre W => cd = .ret ∧ Boxed W N 4 (.bool false) ∧ Below N w W ∧ (¬ (prs xs q (pre.map (·.1))).Nodup ∨ ∃ r ∈ pre, isAllB (roundL xs t r.1) = false))
    ?hI ?hIx ?h0 ?a1 ?hassign ?hbody ?hdone ?hstop
  case hassign =>
    intro l x W K hK
    gi_wp2
    exact hK
  case hI => exact OwnFrom.and (ownFrom_boxed _ _ _ _) (OwnFrom.and (ownFrom_boxed _ _ _ _) (OwnFrom.and (ownFrom_mapP _ _ (by have := HSZ.out; omega) _) (OwnFrom.and (ownFrom_below (by rw [HN.out]; omega) (by have := HSZ.out; omega)) (ownFrom_pure _ _))))
  case hIx => exact fun cd => OwnFrom.and (ownFrom_pure _ _) (OwnFrom.and (ownFrom_boxed _ _ _ _) (OwnFrom.and (ownFrom_below (by rw [HN.out]; omega) (by have := HSZ.out; omega)) (ownFrom_pure _ _)))
  case h0 => exact ⟨HR0.out, HM0.out, HP0.out, hB0, by simp [prs], by simp⟩
  case hbody =>
    rintro l pre x W hl hr ⟨hR, hM, hP, hB, hnd, hall⟩
    have hxb : x.1 * t + t ≤ xs.length := by rw [HLEN.out]; have := Nat.mul_le_mul_right t (show x.1 + 1 ≤ R from x.2); rwa [Nat.add_mul, Nat.one_mul] at this
    have hci := chunk_ints (n := t) (j := x.1) (N := N) (fun hh => by have := hbs hh; rw [HN.out]; omega) hcs hB (by rw [HN.out]; omega) hxb (by omega)
    have hrl : ((xs.drop (x.1 * t)).take t).length = t := by simp; omega
    have hRc := hR.cell
    have hRf := hR.frozen
    have hsW : N + 5 ≤ W.heap.size := by
      obtain ⟨r, hr⟩ := hr
      have := (Array.getElem?_eq_some_iff.1 hr).1; have := HSZ.out; omega
    have hisall := isAll_any (chunkAt b o t x.1) (roundL xs t x.1) W hci (by unfold roundL; omega)
    have Hisall := Lib.hid hisall
    have Hrl := Lib.hid hrl
    have Hci := Lib.hid hci
    have HP := Lib.hid hP
    have HM := Lib.hid hM
    have HR := Lib.hid hR
    have Hnd := Lib.hid hnd
    have Hall := Lib.hid hall
    have Hr := Lib.hid hr
    clear hisall hrl hci hP hM hR hnd hall hr hs0 hn0 hmm
    have hkk : Keep2 (N + 1 + 1 + 1) (N + 1 + 1 + 1 + 1) W W := Keep2.refl _ _ _
    have hkf : KeepsFrom W0.heap.size W W := KeepsFrom.refl _ _
    have hxm : (pre ++ [x]).map (·.1) = pre.map (·.1) ++ [x.1] := by simp
    gi_wp2_with fail
    refine ⟨trivial, ?_⟩
    refine (CallsIn.inRound l (callsIn_wide.2 Hisall.out)).mono ?_
    rintro e W1 ⟨rfl, hb1⟩
    have hB1 : Below N w W1 := hB.trans (hb1.mono (by omega))
    have hR1' : Boxed W1 N _ _ := (hb1.block _ (by omega)).trans HR.out
    have hkk1 := hkk.below hb1 (by omega) (by omega)
    have hkf1 := hkf.below hb1 (Nat.le_refl _)
    have hRc1 := hR1'.cell
    have hRf1 := hR1'.frozen
    have HR1' := Lib.hid hR1'
    have HKK1 := Lib.hid hkk1
    have HKF1 := Lib.hid hkf1
    clear hR1' hkk hkf hkk1 hkf1 hRc hRf
    cases hia : isAllB (roundL xs t x.1)
    · have Hia := Lib.hid hia
      clear hia
      gi_wp2
      exact ⟨HKF1.out.setCell _ _, rfl, HR1'.out.set _, hB1.setCell (Nat.le_refl _) _, .inr ⟨x, by simp, Hia.out⟩⟩
    · have Hia := Lib.hid hia
      have hM1 : Boxed W1 (N + 1 + 1) _ _ := (hb1.block _ (by omega)).trans HM.out
      have hP1 : MapP W1 (N + 1) _ := HP.out.block (hb1.block _ (by omega))
      have hl1 : ∃ r, W1.heap[l]? = some (.loop r) := by
        obtain ⟨r, hr⟩ := Hr.out
        exact ⟨r, (hb1.block l (Array.getElem?_eq_some_iff.1 hr).1).trans hr⟩
      have hsW1 := hb1.size
      have HM1 := Lib.hid hM1
      have HP1 := Lib.hid hP1
      have Hl1 := Lib.hid hl1
      clear hia hM1 hP1 hl1 hb1
      gi_wp2_with fail
      refine ⟨trivial, ?_⟩
      refine (CallsIn.inRound l (callsIn_wide.2 (chunk_call (some ⟨b, o + x.1 * t, none⟩) t t 2 W1 (by omega)))).mono ?_
      rintro e W2 ⟨rfl, hW2⟩
      have hB2 : Below N w W2 := hB1.trans (hW2.below.mono (by omega))
      have hR2' : Boxed W2 N _ _ := (hW2.below.block _ (by omega)).trans HR1'.out
      have hM2 : Boxed W2 (N + 1 + 1) _ _ := (hW2.below.block _ (by omega)).trans HM1.out
      have hP2 : MapP W2 (N + 1) _ := HP1.out.block (hW2.below.block _ (by omega))
      have hl2 : ∃ r, W2.heap[l]? = some (.loop r) := by
        obtain ⟨r, hr⟩ := Hl1.out
        exact ⟨r, (hW2.below.block l (Array.getElem?_eq_some_iff.1 hr).1).trans hr⟩
      have hkk2 := HKK1.out.below hW2.below (by omega) (by omega)
      have hkf2 := HKF1.out.below hW2.below (Nat.le_refl _)
      have hs2 := hW2.s
      have hn2 := hW2.n
      have hsz2 := hW2.size
      have HR2' := Lib.hid hR2'
      have HM2 := Lib.hid hM2
      have HP2 := Lib.hid hP2
      have Hl2 := Lib.hid hl2
      have HKK2 := Lib.hid hkk2
      have HKF2 := Lib.hid hkf2
      have HB2 := Lib.hid hB2
      obtain ⟨M, hM⟩ : ∃ M, W1.heap.size = M := ⟨_, rfl⟩
      rw [hM] at hs2 hn2 hsz2 hsW1 ⊢
      clear hR2' hM2 hP2 hl2 hkk2 hkf2 hW2 hB2 hB1 hRc1 hRf1 hM
      gi_wp2_with fail
      have hq : t = 2 * q := H3.out
      have HQ := Lib.hid hq
      clear hq
      refine chunk_loopN (k := 9 - 1 - 1) (by omega) Hl2.out (Bs := M) (Bn := M + 1) rfl b (o + x.1 * t) t 2 q t (some ⟨b, o + x.1 * t, none⟩) HQ.out (by omega) (by omega) (fun _ => rfl) hs2 (Nat.le_refl _) hn2 rfl
        (fun pre2 W' => Boxed W' N 4 (.bool false) ∧ Boxed W' (N + 1 + 1) 80 (.map (some (N + 1))) ∧ MapP W' (N + 1) (prs xs q (pre.map (·.1)) ++ pre2.map (fun j => pairAt xs (x.1 * q + j.1))) ∧ Below N w W' ∧ KeepsFrom W0.heap.size W W' ∧ Keep2 (N + 1 + 1 + 1) (N + 1 + 1 + 1 + 1) W W' ∧ (prs xs q (pre.map (·.1)) ++ pre2.map (fun j => pairAt xs (x.1 * q + j.1))).Nodup)
        (fun cd pre2 W' => cd = .ret ∧ Boxed W' N 4 (.bool false) ∧ Below N w W' ∧ KeepsFrom W0.heap.size W W' ∧ ¬ (prs xs q (pre.map (·.1)) ++ pre2.map (fun j => pairAt xs (x.1 * q + j.1))).Nodup)
        ?hI2 ?hIx2 ?h02 ?a2 ?hassign2 ?hbody2 ?hdone2 ?hstop2
      case hassign2 =>
        intro l x W K hK
        gi_wp2
        exact hK
      case hI2 =>
        exact OwnFrom.and (ownFrom_boxed _ _ _ _) (OwnFrom.and (ownFrom_boxed _ _ _ _) (OwnFrom.and (ownFrom_mapP _ _ (by omega) _) (OwnFrom.and (ownFrom_below (by rw [HN.out]; omega) (by omega)) (OwnFrom.and (ownFrom_keeps (by omega)) (OwnFrom.and (ownFrom_keep2 (by omega) (by omega) (by omega) (by omega)) (ownFrom_pure _ _))))))
      case hIx2 => exact fun cd => OwnFrom.and (ownFrom_pure _ _) (OwnFrom.and (ownFrom_boxed _ _ _ _) (OwnFrom.and (ownFrom_below (by rw [HN.out]; omega) (by omega)) (OwnFrom.and (ownFrom_keeps (by omega)) (ownFrom_pure _ _))))
      case h02 => exact ⟨HR2'.out, HM2.out, by simpa using HP2.out, HB2.out, HKF2.out, HKK2.out, by simpa using Hnd.out⟩
      case hbody2 =>
        rintro l2 pre2 y V hl2 hr2 ⟨hR, hM, hP, hB, hkf, hkk, hnd⟩
        have hj := pair_cells (w := w) (W := V) (N := N) (b := b) (o := o) (m := R * q) (xs := xs) (fun hh => by have := hbs hh; rw [HN.out]; omega) hcs hB (by rw [HN.out]; omega) (by rw [HLEN.out, HQ.out]; rw [Nat.mul_left_comm]) ⟨x.1 * q + y.1, by have := Nat.mul_le_mul_right q (show x.1 + 1 ≤ R from x.2); rw [Nat.add_mul] at this; have := y.2; omega⟩
        have hidx : o + (x.1 * q + y.1) * 2 = o + x.1 * t + y.1 * 2 := by rw [HQ.out, Nat.add_mul, Nat.mul_assoc, Nat.mul_comm q 2, Nat.add_assoc]
        simp only [hidx] at hj
        obtain ⟨e0, e1⟩ := hj
        have hpa : pairAt xs (x.1 * q + y.1) = (nth xs (2 * (x.1 * q + y.1)), nth xs (2 * (x.1 * q + y.1) + 1)) := rfl
        obtain ⟨p1, hp1⟩ : ∃ p, nth xs (2 * (x.1 * q + y.1)) = p := ⟨_, rfl⟩
        obtain ⟨p2, hp2⟩ : ∃ p, nth xs (2 * (x.1 * q + y.1) + 1) = p := ⟨_, rfl⟩
        rw [hp1, hp2] at hpa
        rw [hp1] at e0
        rw [hp2] at e1
        have hps : (pre2 ++ [y]).map (fun j => pairAt xs (x.1 * q + j.1)) = pre2.map (fun j => pairAt xs (x.1 * q + j.1)) ++ [(p1, p2)] := by simp [hpa]
        obtain ⟨ps, hps0⟩ : ∃ ps, prs xs q (pre.map (·.1)) ++ pre2.map (fun j => pairAt xs (x.1 * q + j.1)) = ps := ⟨_, rfl⟩
        rw [hps0] at hP hnd
        have HPS := Lib.hid hps
        have HPS0 := Lib.hid hps0
        have hl2V : l2 < V.heap.size := by obtain ⟨r, hr⟩ := hr2; exact (Array.getElem?_eq_some_iff.1 hr).1
        have hsV : N + 5 ≤ V.heap.size := by have := hkf.size; omega
        have hMc := hM.cell
        have hMf := hM.frozen
        have hRc := hR.cell
        have hRf := hR.frozen
        have HR := Lib.hid hR
        have HM := Lib.hid hM
        have HP := Lib.hid hP
        have HB := Lib.hid hB
        have HKF := Lib.hid hkf
        have HKK := Lib.hid hkk
        have HND := Lib.hid hnd
        clear hR hM hP hB hkf hkk hnd hcs hs2 hn2 hps hps0 hpa hp1 hp2
        unfold chunkAt
        gi_wp2_with fail
        have hbV : b < V.heap.size := by have := hbs (by omega); omega
        have hmix : Try.prog.follows .mixedOrders = true := rfl
        have e0a : ∀ ob, (V.alloc ob).cell? ⟨b, o + x.1 * t + y.1 * 2, none⟩ = some (.int .i64 p1) := fun ob => (World.cell?_of_block (Below.heap_alloc _ _ _ hbV)).trans e0
        have e1a : ∀ ob, (V.alloc ob).cell? ⟨b, o + x.1 * t + y.1 * 2 + 1, none⟩ = some (.int .i64 p2) := fun ob => (World.cell?_of_block (Below.heap_alloc _ _ _ hbV)).trans e1
        refine region_allocA (m := 7) (s := 8) (.pointer (some ⟨V.heap.size, 0, none⟩)) ((V.alloc (.cells #[.int .i64 0, .int .i64 0] 82)).drew) ?A (by decide) (by decide) (by decide) rfl hmix (by kernel_rfl) (by kernel_rfl) (by kernel_rfl) rfl (by kernel_rfl) ?hal ?hst ?hq
        case hal =>
          intro a K hK
          simp [Oper.wpIn, go_sem]
          exact hK
        case hq =>
          simp only [turned, List.set_cons_succ, List.set_cons_zero, List.getElem_cons_succ, List.getElem_cons_zero]
          iterate 9 (
            refine q_step _ (fun w' hw' f hf => by simp [Oper.about] at hf) rfl (by rintro w' (rfl | rfl) <;> (simp [Oper.quietAtIn, Oper.quietUponIn, go_sem, e0, e1, e0a, e1a]; try rfl)) ?_
            simp only [Act.put, List.setIfInBounds_toArray, List.set_cons_succ, List.set_cons_zero])
          refine wpQuietIn_nil ?_
          refine Eq.refl _
        case hst =>
          simp only [List.getElem_cons_succ, List.getElem_cons_zero]
          simp [Oper.wpIn, go_sem]
          obtain ⟨V2, hV2⟩ : ∃ V2, (V.alloc (.cells #[.int .i64 p1, .int .i64 p2] 82)).drew = V2 := ⟨_, rfl⟩
          rw [hV2]
          have hbV2 : Below V.heap.size V V2 := by rw [← hV2]; exact ⟨rfl, rfl, rfl, by simp, fun k hk => Below.heap_alloc _ _ _ hk⟩
          have hsV2 : V2.heap.size = V.heap.size + 1 := by rw [← hV2]; simp
          have hk0 : V2.cell? ⟨V.heap.size, 0, none⟩ = some (.int .i64 p1) := by rw [← hV2]; simp [go_sem]
          have hk1 : V2.cell? ⟨V.heap.size, 1, none⟩ = some (.int .i64 p2) := by rw [← hV2]; simp [go_sem]
          have hB2 : Below N w V2 := HB.out.trans (hbV2.mono (by omega))
          have hR2 : Boxed V2 N _ _ := (hbV2.block _ (by omega)).trans HR.out
          have hM2 : Boxed V2 (N + 1 + 1) _ _ := (hbV2.block _ (by omega)).trans HM.out
          have hP2 : MapP V2 (N + 1) ps := HP.out.block (hbV2.block _ (by omega))
          have hkf2 : KeepsFrom W2.heap.size V V2 := (KeepsFrom.refl _ _).below hbV2 (Nat.le_refl _)
          have hkk2 : Keep2 M (M + 1) V V2 := (Keep2.refl _ _ _).below hbV2 (by omega) (by omega)
          have hkf3 : KeepsFrom W0.heap.size W V2 := HKF.out.below hbV2 (Nat.le_refl _)
          have hkk3 : Keep2 (N + 1 + 1 + 1) (N + 1 + 1 + 1 + 1) W V2 := HKK.out.below hbV2 (by omega) (by omega)
          have hlook := hP2.look p1 p2
          have hRc := hR2.cell
          have hRf := hR2.frozen
          have hMc := hM2.cell
          have hMf := hM2.frozen
          have HR2 := Lib.hid hR2
          have HM2' := Lib.hid hM2
          have HP2' := Lib.hid hP2
          have HB2' := Lib.hid hB2
          have HKF2' := Lib.hid hkf2
          have HKK2' := Lib.hid hkk2
          have HKF3 := Lib.hid hkf3
          have HKK3 := Lib.hid hkk3
          clear hR2 hM2 hP2 hB2 hkf2 hkk2 hkf3 hkk3 hbV2 hV2 e0 e1 e0a e1a
          cases hh : hasP ps p1 p2
          · rw [hh] at hlook
            obtain ⟨ob, hrun, hmp⟩ := HP2'.out.store p1 p2 hh
            have HH := Lib.hid hh
            have HMP := Lib.hid hmp
            clear hmp hh
            gi_wp2
            have hput : ∀ i, N + 1 ≠ i → (V2.putObj (N + 1) ob).heap[i]? = V2.heap[i]? := fun i hi => World.putObj_heap_other (Ne.symm hi)
            have hkp : ∀ B (A : World), N + 1 < B → KeepsFrom B A V2 → KeepsFrom B A (V2.putObj (N + 1) ob) := fun B A hB hk => hk.trans (KeepsFrom.of_grownBy (grownBy_putObj' V2 (N + 1) ob) (fun j e => by cases e; exact hB))
            obtain ⟨es, cc, hes, _⟩ := HP2'.out
            refine ⟨hkp _ _ (by omega) HKF2'.out, HKK2'.out.trans ⟨hput _ (by omega), hput _ (by omega)⟩, (hput _ (by omega)).trans HR2.out, (hput _ (by omega)).trans HM2'.out, ?_, below_putObj HB2'.out (by omega) hes, hkp _ _ (by have := HSZ.out; omega) HKF3.out, HKK3.out.trans ⟨hput _ (by omega), hput _ (by omega)⟩, ?_⟩
            · rw [HPS.out, ← List.append_assoc, HPS0.out]; exact HMP.out
            · rw [HPS.out, ← List.append_assoc, HPS0.out]; exact nodup_snoc.2 ⟨HND.out, HH.out⟩
          · rw [hh] at hlook
            have HH := Lib.hid hh
            clear hh
            gi_wp2
            refine ⟨HKF2'.out.setCell _ _, rfl, HR2.out.set _, HB2'.out.setCell (Nat.le_refl _) _, HKF3.out.setCell _ _, ?_⟩
            rw [HPS.out, ← List.append_assoc, HPS0.out, nodup_snoc, HH.out]
            simp
      case hdone2 =>
        rintro V ⟨hR, hM, hP, hB, hkf, hkk, hnd⟩
        have hrp : (List.finRange q).map (fun j => pairAt xs (x.1 * q + j.1)) = rp xs q x.1 := by
          unfold rp; rw [← finRange_val, List.map_map]; rfl
        rw [hrp, ← prs_snoc, ← hxm] at hP hnd
        have HR := Lib.hid hR
        have HM := Lib.hid hM
        have HP := Lib.hid hP
        have HB := Lib.hid hB
        have HKF := Lib.hid hkf
        have HKK := Lib.hid hkk
        have HND := Lib.hid hnd
        clear hR hM hP hB hkf hkk hnd
        gi_wp2
        refine ⟨HKF.out, HKK.out, HR.out, HM.out, HP.out, HB.out, HND.out, ?_⟩
        intro r hr
        rcases List.mem_append.1 hr with h | h
        · exact Hall.out r h
        · obtain rfl : r = x := by simpa using h
          exact Hia.out
      case hstop2 =>
        rintro cd pre2 V hpf ⟨rfl, hR, hB, hkf, hnd⟩
        gi_wp2
        refine ⟨hkf, rfl, hR, hB, .inl fun h => hnd (nodup_prefix ?_ h)⟩
        have hrp : (List.finRange q).map (fun j => pairAt xs (x.1 * q + j.1)) = rp xs q x.1 := by
          unfold rp; rw [← finRange_val, List.map_map]; rfl
        rw [hxm, prs_snoc, ← hrp]
        obtain ⟨d, hd⟩ := hpf
        exact ⟨d.map (fun j => pairAt xs (x.1 * q + j.1)), by rw [← hd, List.map_append, List.append_assoc]⟩
  case hdone =>
    rintro D W hD ⟨hR, hM, hP, hB, hnd, hall⟩ hK
    have hND : N ≤ D := by have := HSZ.out; omega
    have hRc := hR.cell
    have hRf := hR.frozen
    clear hs0 hn0 hcs hM hP
    go_wp2
    have hR' := boxed_putObj (o' := .deferred none) (Boxed.set (.bool true) hR) (kept_setCell hK)
    have hc' := hR'.cell
    refine bodyM_ret (v := .bool true) rfl (kept_setCell hK) (by simp [results, Try.results18, go_sem, hc']) ⟨ret_bool ?_, by rw [HN.out]; exact below_putObj (hB.setCell (Nat.le_refl _) _) hND (kept_setCell hK)⟩
    symm
    rw [Bool.and_eq_true, List.all_eq_true, decide_eq_true_iff]
    rw [finRange_val] at hnd
    refine ⟨fun r hr => ?_, hnd⟩
    exact hall ⟨r, by simpa using hr⟩ (List.mem_finRange _)
  case hstop =>
    rintro D cd pre W hD hpf ⟨rfl, hR, hB, hx⟩ hK
    have hND : N ≤ D := by have := HSZ.out; omega
    go_wp2
    have hR' := boxed_putObj (o' := .deferred none) hR hK
    have hc' := hR'.cell
    refine bodyM_ret (v := .bool false) rfl hK (by simp [results, Try.results18, go_sem, hc']) ⟨ret_bool ?_, by rw [HN.out]; exact below_putObj hB hND hK⟩
    symm
    have hpm : pre.map (·.1) <+: List.range R := by
      rw [← finRange_val]
      obtain ⟨d, hd⟩ := hpf
      exact ⟨d.map (·.1), by rw [← hd, List.map_append]⟩
    rcases hx with h | ⟨r, hr, h⟩
    · have : decide ((prs xs q (List.range R)).Nodup) = false := by
        rw [decide_eq_false_iff_not]
        exact fun hc => h (nodup_prefix (prs_prefix xs q hpm) hc)
      rw [this, Bool.and_false]
    · have : ((List.range R).all fun r => isAllB (roundL xs t r)) = false := by
        rw [List.all_eq_false]
        exact ⟨r.1, by simp, by simp [h]⟩
      rw [this, Bool.false_and]
end Go.Proofs.Ytmhepomjbaendaa
