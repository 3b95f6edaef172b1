/- Jobs in pieces: what is left altogether, until when there is work, and that the loop ends. Plain law. Conditions: times of at least 1, releases of at least 0. With texts that it needs. -/
import Derived.Test.YtcopjdhnmkfkfaaBestAll10
import Derived.Test.YtcopjdhnmkfkfaaBestAll9
import Derived.Test.YtcopjdhnmkfkfaaBestAll2
import Derived.Test.YtcopjdhnmkfkfaaBestAll6
namespace Go.Proofs.Ytcopjdhnmkfkfaa
open Go.RowKit
set_option linter.unusedVariables false
set_option linter.unusedSimpArgs false

def lenW : Value → Nat
  | .slice _ n _ => n
  | _ => 0
/-- What both loops know of memory. -/
structure BoM (w wr : World) (P gT g c : Nat) (L p : List Int) : Prop where
  own : OwnI wr w.heap.size (.slice (some ⟨g, 0, none⟩) p.length c) p
  tab : OwnI wr w.heap.size (.slice (some ⟨gT, 0, none⟩) P P) L
  ne : g ≠ gT
  bel : Below w.heap.size w wr
theorem BoM.below {w wr W : World} {P gT g c : Nat} {L p : List Int} (h : BoM w wr P gT g c L p) (hb : Below wr.heap.size wr W) : BoM w W P gT g c L p :=
  ⟨h.own.below hb (Nat.le_refl _), h.tab.below hb (Nat.le_refl _), h.ne, h.bel.trans (hb.mono h.bel.size)⟩
theorem BoM.push {w W4 w5 : World} {P gT g c g1 c1 i : Nat} {L p : List Int} (h : BoM w W4 P gT g c L p) (ho : OwnI w5 w.heap.size (.slice (some ⟨g1, 0, none⟩) (p.length + 1) c1) (p ++ [(i : Int)])) (hg : W4.grownBy w5 (some g)) (hl : some g = some g1 ∨ W4.heap.size ≤ g1) : BoM w w5 P gT g1 c1 L (p ++ [(i : Int)]) := by
  have h1 := h.own.lt g rfl
  have h2 := h.tab.lt gT rfl
  have hne := h.ne
  refine ⟨by rw [List.length_append]; exact ho, h.tab.kept hg (.inr (by rw [ownBlock_slice]; intro e; injection e with e; exact hne e.symm)), ?_, h.bel.grown hg h.bel.size (fun j e => by cases e; exact h1.1)⟩
  rcases hl with e | e
  · injection e with e; rw [← e]; exact hne
  · omega
structure BoP (kind : Int) (js : List Jb) (T : Nat) (m : Int) (p : List Int) : Prop where
  pre : PreOk T p
  first : firstEq kind js m (T - p.length) p = firstEq kind js m T []
def BoR (kind : Int) (js : List Jb) (T P gT : Nat) (m : Int) (L : List Int) (w : World) (vo vd ve vs : Value) (wr : World) : Prop :=
  ∃ (p : List Int) (g c l : Nat), l = p.length ∧ vo = .slice (some ⟨g, 0, none⟩) l c ∧ vd = .int .i64 (maskL p) ∧ ve = .int .i64 (doneT js (maskL p) T) ∧ vs = .int .i64 (soP kind js p) ∧ l ≤ T ∧ Hid (BoP kind js T m p) ∧ Hid (BoM w wr P gT g c L p)
def BiR (kind : Int) (js : List Jb) (T P gT g c l : Nat) (m : Int) (L p : List Int) (w : World) (vo vd ve vs vk : Value) (wr : World) : Prop :=
  ∃ i : Nat, i ≤ T ∧ vk = .int .i64 i ∧ vo = .slice (some ⟨g, 0, none⟩) l c ∧ vd = .int .i64 (maskL p) ∧ ve = .int .i64 (doneT js (maskL p) T) ∧ vs = .int .i64 (soP kind js p) ∧ Hid (∀ j : Nat, j < i → p.contains (j : Int) = false → allC kind js (nth L) (P - 1) p j ≠ m) ∧ Hid (BoM w wr P gT g c L p)
set_option maxRecDepth 100000 in
set_option maxHeartbeats 5000000 in
theorem BestOrder_any (v : Value) (js : List Jb) (kind : Int) (w : World) (hv : Jobs w v js) (hok : jobsOk js = true) (hf : FreeJ js) (h10 : js.length ≤ 10) (hk : 0 ≤ kind ∧ kind ≤ 4) :
    Calls Try.prog 8 #[v, .int .i64 kind] w fun e w' => (∃ b l g c, firstL js.length (costF kind js) = some (b, l) ∧ e = .returned (.tuple #[.slice (some ⟨g, 0, none⟩) js.length c, .int .i64 l, .bool true]) ∧ OwnI w' w.heap.size (.slice (some ⟨g, 0, none⟩) js.length c) b) ∧ Below w.heap.size w w' := by
  have hs := jobs_sm hok
  have HAO := Lib.hid (atOnce_any v js w hv hok (fun i _ => hf.rel i))
  have HLC : Hid (∀ W, Below w.heap.size w W → Calls Try.prog 23 #[v, .int .i64 kind] W fun e w' => (∃ g, e = .returned (.slice (some ⟨g, 0, none⟩) (2 ^ js.length) (2 ^ js.length)) ∧ ∃ L, OwnI w' W.heap.size (.slice (some ⟨g, 0, none⟩) (2 ^ js.length) (2 ^ js.length)) L ∧ LcT kind js (2 ^ js.length) (-1) L) ∧ Below W.heap.size W w') := fun W hW => leastCosts_any v js kind W (hv.below hW (Nat.le_refl _)) hs hf h10 hk
  have HWI : Hid (∀ W, Calls Try.prog 22 #[.int .i64 kind, .int .i64 0, .int .i64 4] W fun e w' => e = .returned (.bool true) ∧ W = w') := fun W => by
    have h := within_any kind 0 4 W
    rwa [show win kind 0 4 = true from win_true.2 hk] at h
  obtain ⟨b, o, c, rfl, hcap, hbw, hV⟩ := jobs_view hv hs.n1
  have HV : Hid (∀ W, Below w.heap.size w W → JbView W b o js) := hV
  have HSM := Lib.hid hs
  have HFR := Lib.hid hf
  have hn1 := hs.n1
  obtain ⟨T, hT⟩ : ∃ T, js.length = T := ⟨_, rfl⟩
  have HT := Lib.hid hT
  obtain ⟨P, hP⟩ : ∃ P, 2 ^ T = P := ⟨_, rfl⟩
  have HP := Lib.hid hP
  have hP2 : 2 ≤ P := by rw [← hP]; have := Nat.pow_le_pow_right (n := 2) (by omega) (show 1 ≤ T by omega); omega
  have hP10 : P ≤ 1024 := by rw [← hP]; have := Nat.pow_le_pow_right (n := 2) (by omega) (show T ≤ 10 by omega); omega
  have hPI : (2 : Int) ^ T = (P : Int) := by rw [← hP]; simp
  have HSH : Hid (∀ (i done : Nat) W, i < js.length → Calls Try.prog 24 #[.agg #[.int .i64 (tmJ js i), .int .i64 (rlJ js i), .int .i64 (duJ js i), .int .i64 (wgJ js i)], .int .i64 kind, .int .i64 (doneT js done js.length + tmJ js i)] W fun x w' => x = .returned (.int .i64 (nextS kind js done i)) ∧ Below W.heap.size W w') := fun i done W hi => by
    have h1 := doneT_le hs done js.length (Nat.le_refl _)
    have h2 := hs.time i hi
    exact share_any _ _ _ _ kind _ W hk (hs.due i hi) (hs.wgt i hi) (by omega)
  have HNB : Hid (∀ (i done : Nat), i < js.length → -10000 ≤ nextS kind js done i ∧ nextS kind js done i ≤ 10000000000) := fun i done hi => by
    have h1 := doneT_le hs done js.length (Nat.le_refl _)
    have h2 := hs.time i hi
    exact shareB_bounds (hs.due i hi) (hs.wgt i hi) (by omega)
  have HLB : Hid (∀ d x, LeastM kind js d x → -300000 ≤ x ∧ x ≤ 300000000000) := fun d x h => leastM_bounds hs hf h
  have HDB : Hid (∀ d k, k ≤ js.length → 0 ≤ doneT js d k ∧ doneT js d k ≤ 10000 * (k : Int)) := fun d k h => doneT_le hs d k h
  have HSB : Hid (∀ p, PreOk js.length p → -300000 ≤ soP kind js p ∧ soP kind js p ≤ 300000000000) := fun p h => soP_bounds hs hf h
  have HFO : Hid (∀ L b, LcT kind js (2 ^ js.length) (-1) L → firstEq kind js (nth L 0) js.length [] = some b → firstL js.length (costF kind js) = some (b, nth L 0)) := fun L b h1 h2 => firstL_of hs.n1 h1 h2
  obtain ⟨R, hR⟩ : ∃ R, firstL js.length (costF kind js) = R := ⟨_, rfl⟩
  rw [hR] at HFO ⊢
  rw [hT] at hcap HAO HLC HSH HNB HDB HSB HFO h10 hn1 ⊢
  rw [hP] at HLC HFO
  have g10 : ¬ (10 : Int) < (T : Int) := by omega
  have t0 : (0 : Int) ≤ (T : Int) := by omega
  have t64 : (T : Int) < 64 := by omega
  clear hv hok hs hf hV hT hP hR
  go_enter Try.func8, Try.ntmps8
  go_wp2_with fail
  refine HAO.out.mono ?_
  rintro e W1 ⟨rfl, hb1⟩
  have HB1 := Lib.hid hb1
  clear hb1 HAO
  go_wp2_with fail
  refine (HWI.out _).mono ?_
  rintro e w' ⟨rfl, rfl⟩
  go_wp2_with fail
  refine (HLC.out W1 HB1.out).mono ?_
  rintro e W2 ⟨⟨gT, rfl, L, hoL, hL⟩, hb2⟩
  have HB2 : Hid (Below w.heap.size w W2) := HB1.out.trans (hb2.mono HB1.out.size)
  have HOL := Lib.hid (hoL.mono HB1.out.size)
  have HL := Lib.hid hL
  have hgT : gT < W2.heap.size := (hoL.lt gT rfl).2
  have HRO : Hid (RestOk kind js (nth L) (P - 1)) := by
    have h := restOk_of HFR.out (show LcT kind js (2 ^ js.length) (-1) L by rw [HT.out, HP.out]; exact hL)
    rwa [HT.out, HP.out] at h
  have HMIN : Hid (∀ E ∈ permL T T [], ∀ c, seqO kind js none 0 E = some c → nth L 0 ≤ c) := by
    have h := (rest_min (by rw [HT.out]; exact hn1) (show LcT kind js (2 ^ js.length) (-1) L by rw [HT.out, HP.out]; exact hL)).1
    rwa [HT.out] at h
  have HFS : Hid (firstEq kind js (nth L 0) T [] ≠ none) := by
    have h := firstEq_some (by rw [HT.out]; exact hn1) (show LcT kind js (2 ^ js.length) (-1) L by rw [HT.out, HP.out]; exact hL)
    rwa [HT.out] at h
  obtain ⟨m, hm⟩ : ∃ m, nth L 0 = m := ⟨_, rfl⟩
  have HM := Lib.hid hm
  rw [hm] at HMIN HFS
  have HR0 : Hid (BoR kind js T P gT m L w (.slice (some ⟨W2.heap.size, 0, none⟩) 0 0) (.int .i64 0) (.int .i64 0) (.int .i64 0) (W2.alloc (.cells #[] 2))) := by
    refine ⟨[], W2.heap.size, 0, 0, rfl, rfl, rfl, ?_, rfl, Nat.zero_le _, ⟨PreOk.nil _, rfl⟩, ⟨(OwnI.lit W2 W2.heap.size [] (Nat.le_refl _) (by unfold maxLen; simp)).mono HB2.out.size, HOL.out.alloc _, by omega, HB2.out.alloc HB2.out.size _⟩⟩
    rw [show maskL [] = 0 from rfl, doneT_zero]
  clear hb2 hoL hL hm HLC
  go_wp2_with fail
  go_loopw [9, 10, 11, 12] (fun vo vd ve vs wr => BoR kind js T P gT m L w vo vd ve vs wr) (fun vo _ _ _ _ => T - lenW vo)
  case atStart => exact HR0.out
  case round =>
    obtain ⟨p, g, c9, l, hl, rfl, rfl, rfl, rfl, hlT, HBP, HBM⟩ := hrel
    clear HR0
    by_cases hlt : l < T
    · have l0 : (0 : Int) ≤ (l : Int) := by omega
      have l1 : (l : Int) < (T : Int) := by omega
      have HI0 : Hid (BiR kind js T P gT g c9 l m L p w (.slice (some ⟨g, 0, none⟩) l c9) (.int .i64 (maskL p)) (.int .i64 (doneT js (maskL p) T)) (.int .i64 (soP kind js p)) (.int .i64 0) wr) := ⟨0, Nat.zero_le _, rfl, rfl, rfl, rfl, rfl, fun j hj => absurd hj (Nat.not_lt_zero _), HBM.out⟩
      have HLL := Lib.hid hl
      clear HBM hl
      go_wp2_with fail
      go_loopw [9, 10, 11, 12, 42] (fun vo vd ve vs vk wi => BiR kind js T P gT g c9 l m L p w vo vd ve vs vk wi) (fun _ _ _ _ vk _ => T - (intOf vk).toNat)
      case atStart => exact HI0.out
      case round =>
        obtain ⟨i, hiT, rfl, rfl, rfl, rfl, rfl, HNO, HBM⟩ := hrel
        clear HI0
        by_cases hi2 : i < T
        · have i0 : (0 : Int) ≤ (i : Int) := by omega
          have i1 : (i : Int) < (T : Int) := by omega
          have i64' : (i : Int) < 64 := by omega
          have hc := HV.out _ HBM.out.bel i (by rw [HT.out]; exact hi2)
          have c0 := hc.c0
          have c1 := hc.c1
          have c2 := hc.c2
          have c3 := hc.c3
          have hpre := HBP.out.pre
          have hbp := maskL_bit hpre.nn i
          have hml := maskL_lt hpre
          rw [HP.out] at hml
          obtain ⟨M, hM⟩ : ∃ M, maskL p = M := ⟨_, rfl⟩
          have HMK := Lib.hid hM
          rw [hM] at hbp hml ⊢
          have hM12 : M < 2 ^ 12 := by omega
          have hbit := bitJ_of M i hM12
          have htb := HSM.out.time i (by rw [HT.out]; exact hi2)
          obtain ⟨Q, hQ⟩ : ∃ Q, 2 ^ i = Q := ⟨_, rfl⟩
          have hQI : (2 : Int) ^ i = (Q : Int) := by rw [← hQ]; simp
          rw [hQI] at hbit
          have HBA : Hid (∀ o : Obj, BoM w (World.alloc _ o) P gT g c9 L p) := fun o => HBM.out.below ((Below.refl _ _).alloc (Nat.le_refl _) o)
          cases hcn : p.contains (i : Int)
          · rw [hcn] at hbp
            rw [hbp] at hbit
            rw [if_neg (by simp)] at hbit
            have HBT := Lib.hid hbp
            have HCN := Lib.hid hcn
            have hns := HNB.out i M hi2
            have hsb := HSB.out p hpre
            have hEb := HDB.out M T (Nat.le_refl _)
            have HSI : Hid (∀ W, Calls Try.prog 24 #[.agg #[.int .i64 (tmJ js i), .int .i64 (rlJ js i), .int .i64 (duJ js i), .int .i64 (wgJ js i)], .int .i64 kind, .int .i64 (doneT js M T + tmJ js i)] W fun x w' => x = .returned (.int .i64 (nextS kind js M i)) ∧ Below W.heap.size W w') := fun W => HSH.out i M W hi2
            have hE2 : doneT js (M ||| 1 <<< i) T = doneT js M T + tmJ js i := by rw [doneT_or hbp, if_pos hi2]
            have hQP : Q ≤ P / 2 := by
              have h1 := Nat.pow_le_pow_right (n := 2) (by omega) (show i + 1 ≤ T by omega)
              rw [HP.out, Nat.pow_succ, hQ] at h1
              omega
            have hshift : 1 <<< i = Q := by rw [Nat.one_shiftLeft]; exact hQ
            obtain ⟨N, hN⟩ : ∃ N, M ||| Q = N := ⟨_, rfl⟩
            have hor := bitsJ_or M Q hM12 (by omega)
            rw [hN] at hor
            have hN2 : M ||| 1 <<< i = N := by rw [hshift]; exact hN
            rw [hN2] at hE2
            have hNP : N < P := by
              rw [← HP.out, ← hN, ← hQ]
              exact Nat.or_lt_two_pow (by rw [HP.out]; omega) (Nat.pow_lt_pow_right (by omega) hi2)
            have hpush := hpre.push hi2 hcn
            have hmk2 : maskL (p ++ [(i : Int)]) = N := by rw [maskL_push, hM]; exact hN2
            have hso2 := soP_push (kind := kind) (i := i) HFR.out (show PreOk js.length p by rw [HT.out]; exact hpre)
            have hsb2 := HSB.out _ hpush
            obtain ⟨C, hC⟩ : ∃ C, nextC kind js p i = C := ⟨_, rfl⟩
            rw [hso2, hC] at hsb2
            rw [hC] at hso2
            obtain ⟨A, hA⟩ : ∃ A, allC kind js (nth L) (P - 1) p i = A := ⟨_, rfl⟩
            have hAv : A = if N = P - 1 then C else bothB (isGr kind) C (nth L N) := by rw [← hA, ← hC]; unfold allC; rw [hM, hN2]
            have HRB : Hid (N ≠ P - 1 → -300000 ≤ nth L N ∧ nth L N ≤ 300000000000) := fun h => HLB.out N _ (HL.out.least N (by omega) (by omega))
            have HBO : Hid (∀ W, N ≠ P - 1 → Calls Try.prog 25 #[.int .i64 kind, .int .i64 C, .int .i64 (nth L N)] W fun e w' => e = .returned (.int .i64 A) ∧ W = w') := fun W h => by
              have h1 := HRB.out h
              have h2 := both_any kind C (nth L N) W (by omega) (by omega)
              rw [hAv, if_neg h]
              exact h2
            obtain ⟨S, hS⟩ : ∃ S, nextS kind js M i = S := ⟨_, rfl⟩
            rw [hS] at HSI hns
            have HCS : Hid (p = [] → C = S) := fun h => by rw [← hC, ← hS, ← hM, h]; exact nextC_nil kind js i
            have HBC : Hid (∀ W, p ≠ [] → Calls Try.prog 25 #[.int .i64 kind, .int .i64 (soP kind js p), .int .i64 S] W fun e w' => e = .returned (.int .i64 C) ∧ W = w') := fun W h => by
              have h2 := both_any kind (soP kind js p) S W (by omega) (by omega)
              rw [← hC, nextC_cons h, hM, hS]
              exact h2
            have HPN : Hid (A = m → BoP kind js T m (p ++ [(i : Int)])) := fun h => by
              refine ⟨hpush, ?_⟩
              rw [← HBP.out.first, List.length_append, List.length_singleton, ← HLL.out, show T - l = (T - (l + 1)) + 1 by omega]
              have h3 := firstEq_step HRO.out (m := m) (by rw [HT.out]; exact HMIN.out) (p := p) (by rw [HT.out]; exact hpre) (i := i) (d := T - (l + 1)) (by rw [HT.out, ← HLL.out]; omega) ⟨by rw [HT.out]; exact hi2, hcn, by rw [hA]; exact h, fun j hj hjc => HNO.out j hj hjc⟩
              exact h3.symm
            have HNO2 : Hid (A ≠ m → ∀ j : Nat, j < i + 1 → p.contains (j : Int) = false → allC kind js (nth L) (P - 1) p j ≠ m) := fun h j hj hjc => by
              by_cases e : j = i
              · subst e; rw [hA]; exact h
              · exact HNO.out j (by omega) hjc
            have HSO2 := Lib.hid hso2
            have HMK2 := Lib.hid hmk2
            have HE2 := Lib.hid hE2
            have HAV := Lib.hid hAv
            obtain ⟨E, hE⟩ : ∃ x, doneT js M T = x := ⟨_, rfl⟩
            rw [hE] at HSI hEb HE2 ⊢
            obtain ⟨y0, hy0⟩ : ∃ x, tmJ js i = x := ⟨_, rfl⟩
            obtain ⟨y1, hy1⟩ : ∃ x, rlJ js i = x := ⟨_, rfl⟩
            obtain ⟨y2, hy2⟩ : ∃ x, duJ js i = x := ⟨_, rfl⟩
            obtain ⟨y3, hy3⟩ : ∃ x, wgJ js i = x := ⟨_, rfl⟩
            rw [hy0, hy1, hy2, hy3] at HSI
            rw [hy0] at htb HE2
            rw [show (jbN js i).1 = y0 from hy0] at c0
            rw [show (jbN js i).2.1 = y1 from hy1] at c1
            rw [show (jbN js i).2.2.1 = y2 from hy2] at c2
            rw [show (jbN js i).2.2.2 = y3 from hy3] at c3
            obtain ⟨SO, hSO⟩ : ∃ x, soP kind js p = x := ⟨_, rfl⟩
            have HSO := Lib.hid hSO
            have HEM := Lib.hid hE
            rw [hSO] at HBC ⊢
            have we : IntKind.i64.wrap (E + y0) = E + y0 := IntWalk.i64_in _ (by omega)
            have n0 : (0 : Int) ≤ (N : Int) := by omega
            have n1 : (N : Int) < (P : Int) := by omega
            have p0 : (0 : Int) < (P : Int) := by omega
            have wpm : IntKind.i64.wrap ((P : Int) - 1) = (P : Int) - 1 := IntWalk.i64_in _ (by omega)
            clear hc hcn hbp hM hQ hN hshift hN2 hmk2 hso2 hC hS hA hAv hE hE2 hy0 hy1 hy2 hy3 hSO hsb hpre hpush hns hsb2
            go_wp2_with fail
            refine (HSI.out _).mono ?_
            rintro e W4 ⟨rfl, hb4⟩
            have HBM4 : Hid (BoM w W4 P gT g c9 L p) := (HBA.out _).below hb4
            have cN := HBM4.out.tab.at_ HL.out.len.symm N (by rw [HL.out.len]; exact hNP)
            have cm := HBM4.out.tab.at_ HL.out.len.symm 0 (by rw [HL.out.len]; omega)
            rw [HM.out] at cm
            have hJ := HBM.out.own.lt g rfl
            have hJ4 : wr.heap.size < W4.heap.size := by have := hb4.size; simp at this; omega
            have cj : W4.cell? ⟨wr.heap.size, 0, none⟩ = some (.int .i64 y0) := (hb4.cell (p := ⟨wr.heap.size, 0, none⟩) (by show wr.heap.size < _; simp)).trans (by simp)
            clear hb4 HSI c0 c1 c2 c3 HBA HBM
            have HOW : Hid (OwnI W4 w.heap.size (.slice (some ⟨g, 0, none⟩) l c9) p) := by rw [HLL.out]; exact HBM4.out.own
            have HLP : Hid (p.length = l) := HLL.out.symm
            have hw4 : w.heap.size ≤ W4.heap.size := HBM4.out.bel.size
            have HFAR : Hid (∀ w5, W4.grownBy w5 (some g) → w5.cell? ⟨wr.heap.size, 0, none⟩ = some (.int .i64 y0)) := fun w5 hg => (hg.cell_far ⟨wr.heap.size, 0, none⟩ hJ4 (by intro e; injection e with e; have e : wr.heap.size = g := e; omega)).trans cj
            rcases Nat.eq_zero_or_pos l with hl0 | hl0
            focus
              have hCS : C = S := HCS.out (List.eq_nil_of_length_eq_zero (by rw [HLP.out]; exact hl0))
              subst hl0
              subst hCS
              clear HBC HCS
            rotate_left
            focus
              have hl2 : (0 : Int) < (l : Int) := by omega
              have HBCN := Lib.hid (fun W => HBC.out W (fun e => absurd hl0 (by rw [HLL.out, e]; exact Nat.lt_irrefl 0)))
              clear hl0 HBC HCS
              go_wp2_with fail
              refine (HBCN.out _).mono ?_
              rintro e w' ⟨rfl, rfl⟩
              clear HBCN
            all_goals by_cases hNf : N = P - 1
            all_goals by_cases hAm : A = m
            all_goals (
              first
                | (have hNf2 : ((N : Int) != (P : Int) - 1) = false := by rw [bne_eq_false_iff_eq]; omega
                   have hAC : A = C := by rw [HAV.out, if_pos hNf])
                | (have hNf2 : ((N : Int) != (P : Int) - 1) = true := by rw [bne_iff_ne]; omega
                   have HBN := Lib.hid (fun W => HBO.out W hNf))
              first
                | (have HPP := Lib.hid (HPN.out hAm))
                | (have HPP := Lib.hid (HNO2.out hAm))
              clear hNf HBO HRB HPN HNO2
              try subst hAC
              first
                | (have HX := Lib.hid hAm
                   have hAm2 : (A == m) = true := by simpa using HX.out
                   clear hAm)
                | (have HX := Lib.hid hAm
                   have hAm2 : (A == m) = false := by simpa using HX.out
                   clear hAm)
              go_wp2_with (first
                | (go_at_call 25; refine (HBN.out _).mono ?_; rintro e w' ⟨rfl, rfl⟩)
                | (at_builtin; refine append_i64L rfl _ _ rfl w.heap.size (.slice (some ⟨g, 0, none⟩) l c9) p [(i : Int)] (Nat.zero_lt_succ _) rfl _ rfl HOW.out hw4 (by rw [HLP.out]; simp only [List.length_singleton]; omega) ?_; intro g1 c1 w5 ho5 hg5 hl5; have HM5 := Lib.hid (HBM4.out.push ho5 hg5 hl5); have cj5 := HFAR.out w5 hg5; rw [HLP.out] at ho5; rw [HLP.out]; clear ho5 hg5 hl5)
                | (at_builtin; refine append_i64L rfl _ _ rfl w.heap.size (.slice (some ⟨g, 0, none⟩) 0 c9) p [(i : Int)] (Nat.zero_lt_succ _) rfl _ rfl HOW.out hw4 (by rw [HLP.out]; simp only [List.length_singleton]; omega) ?_; intro g1 c1 w5 ho5 hg5 hl5; have HM5 := Lib.hid (HBM4.out.push ho5 hg5 hl5); have cj5 := HFAR.out w5 hg5; rw [HLP.out] at ho5; rw [HLP.out]; clear ho5 hg5 hl5))
              go_roundw
              case rel =>
                first
                  | exact ⟨p ++ [(i : Int)], g1, c1, _, by rw [List.length_append, HLP.out]; rfl, rfl, by rw [HMK2.out], by rw [HMK2.out, HE2.out], by rw [HSO2.out], by omega, HPP.out, HM5.out⟩
                  | exact ⟨i + 1, by omega, by go_num, rfl, by rw [HMK.out], by rw [HMK.out, HEM.out], by rw [HSO.out], HPP.out, HBM4.out⟩
                  | ((repeat apply Exists.intro); refine ⟨?_, rfl⟩; exact ⟨i + 1, by omega, by go_num, rfl, by rw [HMK.out], by rw [HMK.out, HEM.out], by rw [HSO.out], HPP.out, HBM4.out⟩)
              case measure => first | (simp [lenW]; omega) | (simp [intOf]; omega) | simp [lenW])
          · rw [hcn] at hbp
            rw [hbp] at hbit
            rw [if_pos rfl] at hbit
            have HNO2 : Hid (∀ j : Nat, j < i + 1 → p.contains (j : Int) = false → allC kind js (nth L) (P - 1) p j ≠ m) := fun j hj hjc => by
              by_cases e : j = i
              · subst e; rw [hcn] at hjc; cases hjc
              · exact HNO.out j (by omega) hjc
            clear hc hcn hbp hM hQ
            go_wp2_with fail
            go_roundw
            case rel => exact ⟨i + 1, by omega, by go_num, rfl, by rw [HMK.out], by rw [HMK.out], rfl, HNO2.out, HBA.out _⟩
            case measure => simp [intOf]; omega
        · exfalso
          obtain ⟨i', a1, a2, a3⟩ := pick_exists HRO.out (m := m) (by rw [HT.out]; exact HMIN.out) (p := p) (by rw [HT.out]; exact HBP.out.pre) (d := T - l - 1) (by rw [HT.out, ← HLL.out]; omega) (by
            rw [show T - l - 1 + 1 = T - p.length by rw [← HLL.out]; omega, HBP.out.first]
            exact HFS.out)
          exact HNO.out i' (by rw [HT.out] at a1; omega) a2 a3
    · obtain rfl : l = T := by omega
      have cm := HBM.out.tab.at_ HL.out.len.symm 0 (by rw [HL.out.len]; omega)
      rw [HM.out] at cm
      have HRES : Hid (R = some (p, m)) := by
        have h1 := HBP.out.first
        rw [show l - p.length = 0 by rw [← hl]; omega] at h1
        have h2 : firstEq kind js m 0 p = some p := by
          cases he : firstEq kind js m l [] with
          | none => exact absurd he HFS.out
          | some q =>
            rw [he] at h1
            unfold firstEq permL at h1
            rw [List.find?_cons] at h1
            split at h1
            · rename_i h3
              unfold firstEq permL
              rw [List.find?_cons, h3]
            · cases h1
        rw [h2] at h1
        have h3 := HFO.out L p HL.out (by rw [HM.out]; exact h1.symm)
        rw [HM.out] at h3
        exact h3
      have HOW : Hid (OwnI wr w.heap.size (.slice (some ⟨g, 0, none⟩) l c9) p) := by rw [hl]; exact HBM.out.own
      clear hl
      go_wp2
      go_quiet (fail)
      go_wp2
      go_ret3
      exact ⟨⟨p, m, g, c9, HRES.out, rfl, HOW.out.drewN _⟩, below_drewN _ HBM.out.bel⟩
end Go.Proofs.Ytcopjdhnmkfkfaa

namespace Go.Proofs.Ytcopjdhnmkfkfaa
open Go.RowKit
set_option linter.unusedVariables false
set_option linter.unusedSimpArgs false

/-- What is left altogether. -/
def sumA (left : List Int) (n : Nat) : Int := sumP (fun i => nth left i) (fun _ => true) n
/-- The latest release of the first k. -/
def latR (js : List Jb) : Nat → Int
  | 0 => 0
  | k + 1 => max (latR js k) (rlJ js k)
theorem latR_nn (js : List Jb) : ∀ k, 0 ≤ latR js k
  | 0 => Int.le_refl _
  | k + 1 => by have := latR_nn js k; unfold latR; omega
theorem latR_ge (js : List Jb) : ∀ k i, i < k → rlJ js i ≤ latR js k
  | 0, i, h => absurd h (Nat.not_lt_zero _)
  | k + 1, i, h => by
    unfold latR
    by_cases e : i = k
    · subst e; omega
    · have := latR_ge js k i (by omega); omega
/-- The times of the first k. -/
def totT (js : List Jb) (k : Nat) : Int := sumP (tmJ js) (fun _ => true) k
theorem totT_succ (js : List Jb) (k : Nat) : totT js (k + 1) = totT js k + tmJ js k := by unfold totT; conv => lhs; unfold sumP; rw [if_pos rfl]
theorem sumA_nn {js : List Jb} {t : Int} {s : PieS} (h : PieI js t s) : 0 ≤ sumA s.left js.length := sumP_nn _ (fun i hi _ => (h.left i hi).1)
theorem sumA_zero {js : List Jb} {t : Int} {s : PieS} (h : PieI js t s) (h0 : ¬ 0 < sumA s.left js.length) : ∀ i, i < js.length → nth s.left i = 0 := fun i hi =>
  sumP_all (f := fun i => nth s.left i) (p := fun _ => true) js.length (fun j hj _ => (h.left j hj).1) (by have := h0; unfold sumA at this; omega) i hi rfl
theorem sumA_step {js : List Jb} {rule t : Int} {s : PieS} (h : PieI js t s) : (pkQ js rule s.left t = -1 → (pieStep js rule t s).left = s.left) ∧
    (∀ b : Nat, pkQ js rule s.left t = b → sumA (pieStep js rule t s).left js.length = sumA s.left js.length - 1) := by
  rcases pieStep_cases (js := js) (rule := rule) (t := t) (s := s) with ⟨h1, h2, h3⟩ | ⟨b, h1, h2, h3, h4, h5⟩
  · exact ⟨fun _ => by rw [h3], fun b hb => by rw [h1] at hb; omega⟩
  · refine ⟨fun hn => by rw [h2] at hn; omega, fun b' hb => ?_⟩
    rw [h5]
    have h6 := sumP_upd (f := fun i => nth s.left i) (g := fun i => nth (s.left.set b (nth s.left b - 1)) i) (p := fun _ => true) (q := fun _ => true) (b := b) js.length h1 (fun i hi hn => ⟨rfl, by
      show nth s.left i = nth (s.left.set b _) i
      rw [nth_set1 _ (by rw [h.ll]; exact h1), if_neg (fun e => hn e.symm)]⟩)
    unfold sumA
    rw [h6]
    simp only [if_true]
    rw [nth_set1 _ (by rw [h.ll]; exact h1), if_pos rfl]
    omega
theorem sumA_none {js : List Jb} {rule t : Int} {s : PieS} (h : PieI js t s) (h0 : 0 < sumA s.left js.length) (hl : latR js js.length ≤ t) : pkQ js rule s.left t ≠ -1 := fun hn => by
  rcases pieStep_cases (js := js) (rule := rule) (t := t) (s := s) with ⟨h1, h2, h3⟩ | ⟨b, h1, h2, h3, h4, h5⟩
  · have : sumA s.left js.length = 0 := sumP_zero _ (fun i hi _ => by
      have h4 := h2 i hi
      have h5 := latR_ge js js.length i hi
      by_cases e : nth s.left i = 0
      · exact e
      · exact absurd ⟨by omega, e⟩ h4)
    omega
  · rw [h2] at hn; omega
theorem sumA_start (js : List Jb) (rule : Int) : sumA (pieTo js rule 0).left js.length = totT js js.length :=
  sumP_congr _ (fun i hi => ⟨rfl, fun _ => nth_map1 hi⟩)
/-- Until when there is work. -/
theorem sumA_to {js : List Jb} (h : GoodJ js) (rule : Int) : ∀ t : Nat, (∀ t', t' < t → 0 < sumA (pieTo js rule t').left js.length) → sumA (pieTo js rule t).left js.length ≤ totT js js.length ∧ (t : Int) + sumA (pieTo js rule t).left js.length ≤ latR js js.length + totT js js.length
  | 0, _ => by
    rw [sumA_start]
    have := latR_nn js js.length
    omega
  | t + 1, hp => by
    have h1 := sumA_to h rule t (fun t' ht => hp t' (by omega))
    have h2 := hp t (by omega)
    have hI := pieI_to h rule t
    have h3 := sumA_step (rule := rule) hI
    have h4 := sumA_none (rule := rule) hI h2
    show sumA (pieStep js rule t (pieTo js rule t)).left js.length ≤ _ ∧ _ + sumA (pieStep js rule t (pieTo js rule t)).left js.length ≤ _
    rcases pieStep_cases (js := js) (rule := rule) (t := t) (s := pieTo js rule t) with ⟨h5, _, _⟩ | ⟨b, _, h5, _⟩
    · rw [h3.1 h5]
      have h6 : (t : Int) < latR js js.length := by
        by_cases e : latR js js.length ≤ t
        · exact absurd h5 (h4 e)
        · omega
      omega
    · rw [h3.2 b h5]
      omega
/-- Each round brings the end nearer. -/
theorem sumA_meas {js : List Jb} (h : GoodJ js) (rule : Int) (t : Nat) (h2 : 0 < sumA (pieTo js rule t).left js.length) :
    (sumA (pieTo js rule (t + 1)).left js.length + max 0 (latR js js.length - ((t : Int) + 1))).toNat < (sumA (pieTo js rule t).left js.length + max 0 (latR js js.length - (t : Int))).toNat := by
  have hI := pieI_to h rule t
  have h3 := sumA_step (rule := rule) hI
  have h4 := sumA_none (rule := rule) hI h2
  show (sumA (pieStep js rule t (pieTo js rule t)).left js.length + _).toNat < _
  rcases pieStep_cases (js := js) (rule := rule) (t := t) (s := pieTo js rule t) with ⟨h5, _, _⟩ | ⟨b, _, h5, _⟩
  · rw [h3.1 h5]
    have h6 : (t : Int) < latR js js.length := by
      by_cases e : latR js js.length ≤ t
      · exact absurd h5 (h4 e)
      · omega
    omega
  · rw [h3.2 b h5]
    omega
end Go.Proofs.Ytcopjdhnmkfkfaa
