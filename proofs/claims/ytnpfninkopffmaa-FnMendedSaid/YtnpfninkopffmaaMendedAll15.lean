/- impl.MendPlan on a plan of valid tasks: its walk. Conditions: planOk, the longer task is small, no task needs more than the crew. With texts that it needs. -/
import Derived.Test.YtnpfninkopffmaaMendedAll13
import Derived.Test.YtnpfninkopffmaaMendedAll14
import Derived.Test.YtnpfninkopffmaaMendedAll11
import Derived.Test.YtnpfninkopffmaaMendedAll1
import Derived.Deep.RegionHeld3
import Derived.Deep.QuietTactic
import Derived.BigQuiet
namespace Go.Proofs.Ytnpfninkopffmaa
open Go.RowKit
set_option linter.unusedVariables false
set_option linter.unusedSimpArgs false

theorem specCrew_any (vt : Value) (ts : List Tk) (crew : Int) (w : World) (ht : TasksR w vt ts) (hok : tasksOk ts = true) (hneed : ∀ i, i < ts.length → needN ts i ≤ crew) (hcw : 0 ≤ crew ∧ crew ≤ 20) :
    Calls Try.prog 85 #[vt, .int .i64 crew] w fun e w' => e = .returned (.bool true) ∧ ∃ q, w' = w.drewN q := by
  have hsm := tasks_sm hok
  have HA := Lib.hid (specAre_any vt ts w ht (by have := hsm.n16; omega))
  rw [hok] at HA
  have HI : Hid (∀ W, Calls Try.prog 54 #[.int .i64 crew, .int .i64 0, .int .i64 20] W fun e w' => e = .returned (.bool true) ∧ W = w') := fun W => by
    have h := l00In_any crew 0 20 W
    rw [show win crew 0 20 = true from win_true.2 hcw] at h
    exact h
  obtain ⟨b, o, c, AB, CB, AL, CL, rfl, hcap, hbw, hV⟩ := ht.view hsm.n1
  have HV := Lib.hid hV
  have HND := Lib.hid hneed
  obtain ⟨T, hT⟩ : ∃ T, ts.length = T := ⟨_, rfl⟩
  have HT : Hid (ts.length = T) := hT
  rw [hT] at HA HND hcap ⊢
  have h16 : T ≤ 16 := by rw [← hT]; exact hsm.n16
  clear ht hok hneed hsm hV hT
  go_enter Try.func85, Try.ntmps85
  go_wp2_with fail
  refine HA.out.mono ?_
  rintro e W1 ⟨rfl, q1, rfl⟩
  go_wp2_with fail
  refine (HI.out _).mono ?_
  rintro e W2 ⟨rfl, rfl⟩
  have HR0 : Hid (∃ (k m : Nat), (Value.int .i64 0) = .int .i64 (k : Int) ∧ k ≤ T ∧ w.drewN q1 = w.drewN m) := ⟨0, q1, rfl, Nat.zero_le _, rfl⟩
  go_wp2
  go_loopw [16] (fun vk wr => ∃ (k m : Nat), vk = .int .i64 k ∧ k ≤ T ∧ wr = w.drewN m) (fun vk _ => T - (intOf vk).toNat)
  case atStart => exact HR0.out
  case round =>
    obtain ⟨k, m, rfl, hk, rfl⟩ := hrel
    clear HR0
    by_cases hkT : k < T
    · have k0 : (0 : Int) ≤ (k : Int) := by omega
      have k1 : (k : Int) < (T : Int) := by omega
      have c1 := (HV.out w (Below.refl _ _) k (by rw [HT.out]; exact hkT)).need
      have hn := HND.out k hkT
      obtain ⟨nd, hnd⟩ : ∃ x, needN ts k = x := ⟨_, rfl⟩
      rw [show (tkN ts k).2.1 = nd from hnd] at c1
      rw [hnd] at hn
      have hn2 : ¬ crew < nd := by omega
      clear hnd
      go_wp2
      go_roundw
      case rel => exact ⟨k + 1, m, by go_num, by omega, rfl⟩
      case measure => simp [intOf]; omega
    · have k1 : ¬ (k : Int) < (T : Int) := by omega
      go_wp2
      go_ret
      exact ⟨rfl, m, rfl⟩
/-- What RulePlan gives. -/
noncomputable def planR (ts : List Tk) (kind crew : Int) : Option (List Int) := takeL ts crew (ruleN ts kind)
set_option maxHeartbeats 1000000 in
theorem specRulePlan_any (vt : Value) (ts : List Tk) (kind crew : Int) (w : World) (ht : TasksR w vt ts) (hok : tasksOk ts = true) (hkd : kind = 0 ∨ kind = 1 ∨ kind = 2 ∨ kind = 3) (hneed : ∀ i, i < ts.length → needN ts i ≤ crew) (hcw : 0 ≤ crew ∧ crew ≤ 20) :
    Calls Try.prog 38 #[vt, .int .i64 kind, .int .i64 crew] w fun e w' => (∃ st g, planR ts kind crew = some st ∧ e = .returned (.tuple #[.slice (some ⟨g, 0, none⟩) ts.length ts.length, .int .i64 (endTo ts st ts.length), .bool true]) ∧ OwnI w' w.heap.size (.slice (some ⟨g, 0, none⟩) ts.length ts.length) st) ∧ Below w.heap.size w w' := by
  have hsm := tasks_sm hok
  have HC := Lib.hid (specCrew_any vt ts crew w ht hok hneed hcw)
  have HI : Hid (∀ W, Calls Try.prog 54 #[.int .i64 kind, .int .i64 0, .int .i64 3] W fun e w' => e = .returned (.bool true) ∧ W = w') := fun W => by
    have h := l00In_any kind 0 3 W
    rw [show win kind 0 3 = true from win_true.2 (by omega)] at h
    exact h
  have HR : Hid (∀ W, Below w.heap.size w W → Calls Try.prog 87 #[vt, .int .i64 kind] W fun x w' => (∃ g c, x = .returned (.slice (some ⟨g, 0, none⟩) ts.length c) ∧ OwnI w' W.heap.size (.slice (some ⟨g, 0, none⟩) ts.length c) (ruleN ts kind)) ∧ Below W.heap.size W w') := fun W hW => specRule_any vt ts kind W (ht.below hW (Nat.le_refl _)) hsm hkd
  have HTK : Hid (∀ vo W, Below w.heap.size w W → Ints W vo (ruleN ts kind) → Calls Try.prog 86 #[vt, vo, .int .i64 crew] W fun e w' => (∃ out g, takeL ts crew (ruleN ts kind) = some out ∧ e = .returned (.slice (some ⟨g, 0, none⟩) ts.length ts.length) ∧ OwnI w' W.heap.size (.slice (some ⟨g, 0, none⟩) ts.length ts.length) out) ∧ Below W.heap.size W w') := fun vo W hW ho => specTake_any vt vo ts (ruleN ts kind) crew W (ht.below hW (Nat.le_refl _)) ho hsm (ruleN_ok hsm kind) hneed hcw
  have HEN : Hid (∀ vs st W, Below w.heap.size w W → Ints W vs st → SmSt st ts.length → Calls Try.prog 88 #[vt, vs] W fun e w' => e = .returned (.int .i64 (endTo ts st ts.length)) ∧ Below W.heap.size W w') := fun vs st W hW hs hst => specEnd_any vt vs ts st W (ht.below hW (Nat.le_refl _)) hs hsm hst
  have HST : Hid (∀ st, takeL ts crew (ruleN ts kind) = some st → SmSt st ts.length) := fun st h => by
    have hb : PlanB ts (zeroS ts.length) crew 0 100 100 := ⟨hsm, hneed, fun i _ => by rw [zeroS_at]; exact Int.le_refl _, fun i hi k hk => by
      have := hsm.lag i hi k hk; omega, fun i hi => (hsm.time i hi).2, by omega, by omega, by omega⟩
    obtain ⟨h1, h2⟩ := mendL_all hb hcw.1 (ruleN_ok hsm kind).perm h
    refine ⟨h1.len, fun j hj => ?_⟩
    have h3 := h1.hi j hj (h2 j hj)
    have h4 := h2 j hj
    have h5 := hsm.time j hj
    have h6 := hsm.n16
    have h7 : (100 + 100 : Int) * (ts.length : Int) ≤ 200 * 16 := by omega
    omega
  have HPR : Hid (planR ts kind crew = takeL ts crew (ruleN ts kind)) := rfl
  obtain ⟨a, c, rfl, hcap, _⟩ := ht.at_
  obtain ⟨T, hT⟩ : ∃ T, ts.length = T := ⟨_, rfl⟩
  rw [hT] at HC hcap HST ⊢
  simp only [hT] at HR HTK HEN
  clear ht hok hkd hneed hsm hT
  go_enter Try.func38, Try.ntmps38
  go_wp2_with fail
  refine HC.out.mono ?_
  rintro e W1 ⟨rfl, q1, rfl⟩
  go_wp2_with fail
  refine (HI.out _).mono ?_
  rintro e W2 ⟨rfl, rfl⟩
  have HB1 : Hid (Below w.heap.size w (w.drewN q1)) := below_drewN q1 (Below.refl _ _)
  have HR1 := Lib.hid (HR.out _ HB1.out)
  go_wp2_with fail
  refine HR1.out.mono ?_
  rintro e W3 ⟨⟨g3, c3, rfl, ho3⟩, hb3⟩
  have HB3 : Hid (Below w.heap.size w W3) := HB1.out.trans (hb3.mono HB1.out.size)
  have HT3 := Lib.hid (HTK.out _ W3 HB3.out ho3.ints)
  clear ho3 hb3 HR1 HR HTK
  go_wp2_with fail
  refine HT3.out.mono ?_
  rintro e W4 ⟨⟨st, g4, hst, rfl, ho4⟩, hb4⟩
  have HB4 : Hid (Below w.heap.size w W4) := HB3.out.trans (hb4.mono HB3.out.size)
  have HS4 := Lib.hid hst
  have HO4 := Lib.hid ho4
  have HE4 := Lib.hid (HEN.out _ st W4 HB4.out ho4.ints (HST.out st hst))
  clear hst ho4 hb4 HT3 HEN HST
  go_wp2_with fail
  refine HE4.out.mono ?_
  rintro e W5 ⟨rfl, hb5⟩
  have HB5 : Hid (Below w.heap.size w W5) := HB4.out.trans (hb5.mono HB4.out.size)
  have HO5 : Hid (OwnI W5 w.heap.size (.slice (some ⟨g4, 0, none⟩) T T) st) := (HO4.out.below hb5 (Nat.le_refl _)).mono HB3.out.size
  clear hb5
  go_wp2
  go_ret3
  exact ⟨⟨st, g4, by rw [HPR.out]; exact HS4.out, rfl, HO5.out⟩, HB5.out⟩
end Go.Proofs.Ytnpfninkopffmaa

namespace Go.Proofs.Ytnpfninkopffmaa
open Go.RowKit
set_option linter.unusedVariables false
set_option linter.unusedSimpArgs false

theorem boxed_blwM {W W' : World} {b N : Nat} {t : TypeId} {v : Value} (h : Boxed W b t v) (hb : Below N W W') (hN : b < N) : Boxed W' b t v := (hb.block b hN).trans h
theorem within_in (n lo hi : Int) (h1 : lo ≤ n) (h2 : n ≤ hi) (w : World) : Calls Try.prog 57 #[.int .i64 n, .int .i64 lo, .int .i64 hi] w fun e w' => e = .returned (.bool true) ∧ w = w' := by
  have h := within_any n lo hi w
  rw [show win n lo hi = true by simp [win]; omega] at h
  exact h
theorem OwnV.grownM {T size n lo : Nat} {gs : List Nat} {w W : World} {v : Value} {raw : List Value} (h : OwnV T size w lo v n raw) (hg : GrownL gs w W) (hn : ∀ k, v.ownBlock = some k → k ∉ gs) : OwnV T size W lo v n raw := by
  refine ⟨h.1, ?_⟩
  rcases h.2 with h1 | ⟨g, cap, cur, rfl, h2, h3, r⟩
  · exact .inl h1
  · exact .inr ⟨g, cap, cur, rfl, h2, (hg.block g (Array.getElem?_eq_some_iff.1 h3).1 (hn g rfl)).trans h3, r⟩
/-- What the rounds know. -/
structure MendK (T : Nat) (ts : List Tk) (st : List Int) (crew : Int) (E : List Int) (go bc N N2 k : Nat) (W0 wr : World) (out : List Int) (vU : Value) (U : List Int) : Prop where
  inv : MendI ts st crew E k out
  own : OwnI wr N (.slice (some ⟨go, 0, none⟩) T T) out
  ownU : OwnI wr N2 vU U
  used : wr.cell? ⟨bc, 0, none⟩ = some vU
  crew : wr.cell? ⟨bc, 1, none⟩ = some (.int .i64 crew)
  froz : wr.frozen? ⟨bc, 0, none⟩ = false
  take : ∀ t : Nat, nth U t = useO ts out t T
  len : (U.length : Int) ≤ 500 + 300 * (k : Int)
  frm : GrownL [go, bc] W0 wr
theorem MendK.drewN {T : Nat} {ts : List Tk} {st : List Int} {crew : Int} {E : List Int} {go bc N N2 k : Nat} {W0 wr : World} {out : List Int} {vU : Value} {U : List Int} (h : MendK T ts st crew E go bc N N2 k W0 wr out vU U) (q : Nat) : MendK T ts st crew E go bc N N2 k W0 (wr.drewN q) out vU U :=
  ⟨h.inv, h.own.drewN q, h.ownU.drewN q, h.used, h.crew, h.froz, h.take, h.len, h.frm.drewN q⟩
def MendR (T : Nat) (ts : List Tk) (st : List Int) (crew : Int) (E : List Int) (go bc N N2 : Nat) (W0 : World) (vd vk : Value) (wr : World) : Prop :=
  ∃ (k : Nat) (d : Int) (out : List Int) (vU : Value) (U : List Int), vk = .int .i64 k ∧ k ≤ T ∧ vd = .int .i64 d ∧ Hid (d = diffO st out T) ∧ Hid (MendK T ts st crew E go bc N N2 k W0 wr out vU U)

/-- Behind fit, ahead of the store. -/
structure MendF (T : Nat) (ts : List Tk) (st : List Int) (crew : Int) (E : List Int) (go bc N N2 k : Nat) (W0 wr W : World) (out out' : List Int) (i : Nat) : Prop where
  inv : MendI ts st crew E k out'
  own : OwnI W N (.slice (some ⟨go, 0, none⟩) T T) out
  rest : ∃ vU U, OwnI W N2 vU U ∧ W.cell? ⟨bc, 0, none⟩ = some vU ∧ W.cell? ⟨bc, 1, none⟩ = some (.int .i64 crew) ∧ W.frozen? ⟨bc, 0, none⟩ = false ∧ (∀ t : Nat, nth U t = useO ts out' t T) ∧ (U.length : Int) ≤ 500 + 300 * (k : Int)
  frm : GrownL [go, bc] W0 W
theorem OwnI.frm {b M lo g n c : Nat} {xs : List Int} {w W : World} (h : OwnI w lo (.slice (some ⟨g, 0, none⟩) n c) xs) (hf : Frm b M w W) (hg : g < M) (hne : g ≠ b) : OwnI W lo (.slice (some ⟨g, 0, none⟩) n c) xs := by
  refine ⟨h.1, ?_⟩
  rcases h.2 with h1 | ⟨g', cap, cur, h1, h2, h3, r⟩
  · exact .inl h1
  · refine .inr ⟨g', cap, cur, h1, h2, ?_, r⟩
    obtain ⟨rfl⟩ : g = g' := by simp at h1; exact h1.1
    exact (hf.block g hg hne).trans h3
theorem MendF.put {T : Nat} {ts : List Tk} {st : List Int} {crew s : Int} {E : List Int} {go bc N N2 k : Nat} {W0 wr W : World} {out out' : List Int} {i : Nat} (h : MendF T ts st crew E go bc N N2 k W0 wr W out out' i)
    (ho : out' = out.set i s) (hi : i < T) (hl : T = out.length) (hgo : go < bc) (hbc : bc < N2) (hN : N2 ≤ W0.heap.size) :
    W.cell? ⟨go, i, none⟩ = some (.int .i64 (nth out i)) ∧ W.frozen? ⟨go, i, none⟩ = false ∧ ∃ vU U, MendK T ts st crew E go bc N N2 k W0 (W.setCell ⟨go, i, none⟩ (.int .i64 s)) out' vU U := by
  obtain ⟨s1, s2, s3, s4⟩ := h.own.store hl i (by omega) s
  obtain ⟨vU, U, r1, r2, r3, r4, r5, r6⟩ := h.rest
  have hU : vU.ownBlock ≠ some go := fun e => by have := (r1.lt go e).1; omega
  have hsz : bc < W.heap.size := by have := h.frm.size; omega
  have hne : some bc ≠ some go := by intro e; injection e with e; omega
  refine ⟨h.own.at_ hl i (by omega), s2, vU, U, h.inv, by rw [ho]; exact s3, r1.kept s4 (.inr hU), (s4.cell_far ⟨bc, 0, none⟩ hsz hne).trans r2, (s4.cell_far ⟨bc, 1, none⟩ hsz hne).trans r3, (s4.frozen_far ⟨bc, 0, none⟩ hsz hne).trans r4, r5, r6, h.frm.grown s4 (fun j e => .inl (by cases e; simp))⟩
/-- The first q of what i waits for are told. -/
def MendB (ts : List Tk) (out : List Int) (i L : Nat) (W : World) (vq : Value) (wr : World) : Prop :=
  ∃ (q m : Nat), vq = .int .i64 q ∧ q ≤ L ∧ (∀ j, j < q → 0 ≤ nth out (nth (befN ts i) j).toNat) ∧ wr = W.drewN m
set_option maxRecDepth 100000 in
set_option maxHeartbeats 4000000 in
theorem mendPlan_any (vt vs : Value) (ts : List Tk) (st : List Int) (task : Nat) (by_ crew : Int) (w : World) (ht : TasksR w vt ts) (hs : Ints w vs st) (hok : planOk ts st crew = true) (htk : task < ts.length) (hby : 0 ≤ by_ ∧ by_ ≤ 100) (hlong : timeN ts task + by_ ≤ 100) (hneed : ∀ i, i < ts.length → needN ts i ≤ crew) :
    Calls Try.prog 34 #[vt, vs, .int .i64 task, .int .i64 by_, .int .i64 crew] w fun e w' => ((mendOf (longT ts task by_) st crew = none ∧ e = .returned (.tuple #[.slice none 0 0, .int .i64 0, .bool false])) ∨
      ∃ out g, mendOf (longT ts task by_) st crew = some out ∧ e = .returned (.tuple #[.slice (some ⟨g, 0, none⟩) ts.length ts.length, .int .i64 (diffO st out ts.length), .bool true]) ∧ OwnI w' w.heap.size (.slice (some ⟨g, 0, none⟩) ts.length ts.length) out) ∧ Below w.heap.size w w' := by
  have hcw : 0 ≤ crew ∧ crew ≤ 20 := by
    unfold planOk planHd at hok
    simp only [Bool.and_eq_true] at hok
    exact win_true.1 hok.1.1.2
  have HCW : Hid (0 ≤ crew ∧ crew ≤ 20) := hcw
  have HND : Hid (∀ i, i < ts.length → needN ts i ≤ crew) := hneed
  clear hcw
  have hp : tasksOk ts = true ∧ many st ts.length ts.length 0 100000 = true ∧ endTo ts st ts.length ≤ 400 := by
    unfold planOk planHd usesOk at hok
    simp only [Bool.and_eq_true, decide_eq_true_eq] at hok
    exact ⟨hok.1.1.1.1.1, hok.1.1.1.1.2, hok.1.1.1.2⟩
  obtain ⟨hsm, hst, hst0⟩ := uses_sm hp.1 hp.2.1
  obtain ⟨b, o, c, VB, VL, rfl, hcap, hbw, hsrc⟩ := ht.src hsm.n1
  have hT16 := hsm.n16
  have htm := hsm.time task htk
  have HSRC : Hid (∀ i, i < ts.length → TkSrc w b o ts VB VL i) := hsrc
  obtain ⟨aS, cS, rfl, scap, hS⟩ := hs.view
  have hs' := hs
  rw [hst.1] at hs' scap ⊢
  clear hs
  have hs := hs'
  clear hs'
  obtain ⟨W0, hW0⟩ : ∃ W, w.alloc (.cells #[.slice aS ts.length cS] 29) = W := ⟨_, rfl⟩
  have HB0 : Hid (Below w.heap.size w W0) := by show Below _ _ _; rw [← hW0]; exact (Below.refl _ w).alloc (Nat.le_refl _) _
  have HBX : Boxed W0 w.heap.size 29 (.slice aS ts.length cS) := by rw [← hW0]; exact Boxed.new _ _ _
  have HSZ : Hid (W0.heap.size = w.heap.size + 1) := by show _ = _; rw [← hW0]; simp
  have hbc := HBX.cell
  have HV := Lib.hid hs
  have HTK := Lib.hid ht
  have HC := Lib.hid (isCrewPlan_any _ (.slice aS ts.length cS) ts st crew W0 (ht.below HB0.out (Nat.le_refl _)) (hs.below HB0.out (Nat.le_refl _)))
  rw [hok] at HC
  have HX := Lib.hid HBX
  have HSM := Lib.hid hsm
  have HST := Lib.hid hst
  have HP : Hid (endTo ts st ts.length ≤ 400) := hp.2.2
  have w1 : IntKind.i64.wrap ((ts.length : Int) - 1) = (ts.length : Int) - 1 := IntWalk.i64_in _ (by omega)
  obtain ⟨T, hT⟩ : ∃ T, ts.length = T := ⟨_, rfl⟩
  have HT : Hid (ts.length = T) := hT
  rw [hT] at htk hcap hT16 HSRC HST HP w1 HC HX HV hbc scap hW0 ⊢
  clear hS ht hs hsrc hok hp hsm hst HBX hT hst0 hneed HTK
  go_enter Try.func34, Try.ntmps34
  go_wp2_with fail
  refine HC.out.mono ?_
  rintro e W1 ⟨rfl, hb1⟩
  have HB1 : Hid (Below w.heap.size w W1) := HB0.out.trans (hb1.mono HB0.out.size)
  have HX1 : Hid (Boxed W1 w.heap.size 29 (.slice aS T cS)) := boxed_blwM HX.out hb1 HX.out.lt
  clear hb1 hbc hW0
  have HWB : Hid (∀ W, Calls Try.prog 57 #[.int .i64 by_, .int .i64 0, .int .i64 100] W fun e w' => e = .returned (.bool true) ∧ W = w') := fun W => within_in _ _ _ hby.1 hby.2 W
  have HWT : Hid (∀ W, Calls Try.prog 57 #[.int .i64 task, .int .i64 0, .int .i64 ((T : Int) - 1)] W fun e w' => e = .returned (.bool true) ∧ W = w') := fun W => within_in _ _ _ (by omega) (by omega) W
  go_wp2_with fail
  refine (HWT.out _).mono ?_
  rintro e w' ⟨rfl, rfl⟩
  go_wp2_with fail
  refine (HWB.out _).mono ?_
  rintro e w' ⟨rfl, rfl⟩
  have c0 : W1.cell? ⟨b, o + task * 4, none⟩ = some (.int .i64 (timeN ts task)) := (HB1.out.cell (p := ⟨b, o + task * 4, none⟩) hbw).trans (HSRC.out task htk).c0
  obtain ⟨tm, htm'⟩ : ∃ tm, timeN ts task = tm := ⟨_, rfl⟩
  have HTM : Hid (timeN ts task = tm) := htm'
  rw [htm'] at c0 htm hlong
  have w2 : IntKind.i64.wrap (tm + by_) = tm + by_ := IntWalk.i64_in _ (by omega)
  have k0 : (0 : Int) ≤ (task : Int) := by omega
  have k1 : (task : Int) < (T : Int) := by omega
  have HCL := Lib.hid (cloneTk_any b o c ts VB VL W1 (fun i hi => by
    have h := HSRC.out i (by have := HT.out; omega)
    have hc : ∀ q, W1.cell? ⟨b, q, none⟩ = w.cell? ⟨b, q, none⟩ := fun q => HB1.out.cell (p := ⟨b, q, none⟩) hbw
    exact ⟨h.bef.below HB1.out (Nat.le_refl _), h.lag.below HB1.out (Nat.le_refl _), h.wf, (hc _).trans h.c0, (hc _).trans h.c1, (hc _).trans h.c2, (hc _).trans h.c3⟩) (by have := HB1.out.size; omega) (by have := HT.out; omega) (by have := HT.out; omega))
  rw [HT.out] at HCL
  clear htm'
  go_wp2_with fail
  refine HCL.out.mono ?_
  rintro e W2 ⟨⟨gl, cl, rfl, ho2⟩, hb2⟩
  have HB2 : Hid (Below w.heap.size w W2) := HB1.out.trans (hb2.mono HB1.out.size)
  have HX2 : Hid (Boxed W2 w.heap.size 29 (.slice aS T cS)) := boxed_blwM HX1.out hb2 HX1.out.lt
  have hrl : (rawT ts VB VL).length = T * 4 := by rw [rawT_len, HT.out]
  obtain ⟨s1, s2, s3, s4⟩ := OwnV.store (n := T) ho2 (task * 4) (by rw [hrl]; omega) (.int .i64 (tm + by_))
  have hv0 : (rawT ts VB VL)[task * 4]'(by rw [hrl]; omega) = .int .i64 tm := by
    have h := rawT_at (VB := VB) (VL := VL) (ts := ts) (i := task) (j := 0) (by rw [HT.out]; exact htk) (by omega)
    rw [Nat.add_zero, List.getElem?_eq_getElem (by rw [hrl]; omega)] at h
    have h2 : cellT ts VB VL task 0 = .int .i64 tm := by show Value.int .i64 (timeN ts task) = _; rw [HTM.out]
    rw [h2] at h
    exact Option.some.inj h
  rw [hv0] at s1
  have hgl := (ho2.lt gl rfl)
  have HGL : Hid (w.heap.size < gl ∧ gl < W2.heap.size) := ⟨by have := hgl.1; have := hb2.size; have := HX1.out.lt; omega, hgl.2⟩
  have HO3 : Hid (OwnV 56 4 (W2.setCell ⟨gl, task * 4, none⟩ (.int .i64 (tm + by_))) W1.heap.size (.slice (some ⟨gl, 0, none⟩) T cl) T (rawT (longT ts task by_) VB VL)) := by
    show OwnV _ _ _ _ _ _ _
    rw [← longT_raw by_ (by rw [HT.out]; exact htk), HTM.out]; exact s3
  have HG3 := Lib.hid s4
  clear ho2 hb2 s3 s4 hv0 hrl hgl
  have HN : Hid (∀ W, Calls Try.prog 66 #[.int .i64 T] W fun e w' => (∃ g, e = .returned (.slice (some ⟨g, 0, none⟩) T T) ∧ OwnI w' W.heap.size (.slice (some ⟨g, 0, none⟩) T T) (List.replicate T (-1))) ∧ Below W.heap.size W w') := fun W => none_any T W (by omega) (by omega)
  go_wp2_with fail
  obtain ⟨W3, hW3⟩ : ∃ W, W2.setCell ⟨gl, task * 4, none⟩ (.int .i64 (tm + by_)) = W := ⟨_, rfl⟩
  rw [hW3] at HO3 HG3 ⊢
  have HB3 : Hid (Below w.heap.size w W3) := HB2.out.grown HG3.out HB2.out.size (fun k e => by injection e with e; have := HGL.out; omega)
  have HX3 : Hid (Boxed W3 w.heap.size 29 (.slice aS T cS)) := (HG3.out.block w.heap.size HX2.out.lt (by intro e; injection e with e; have := HGL.out; omega)).trans HX2.out
  have HGL3 : Hid (gl < W3.heap.size) := by have := HG3.out.size; have := HGL.out; show _ < _; omega
  clear hW3 HG3 HX2
  refine (HN.out _).mono ?_
  rintro e W4 ⟨⟨go, rfl, ho4⟩, hb4⟩
  have HB4 : Hid (Below w.heap.size w W4) := HB3.out.trans (hb4.mono HB3.out.size)
  have HX4 : Hid (Boxed W4 w.heap.size 29 (.slice aS T cS)) := boxed_blwM HX3.out hb4 HX3.out.lt
  have HO4 : Hid (OwnV 56 4 W4 W1.heap.size (.slice (some ⟨gl, 0, none⟩) T cl) T (rawT (longT ts task by_) VB VL)) := HO3.out.below hb4 (Nat.le_refl _)
  have HU4 : Hid (OwnI W4 W3.heap.size (.slice (some ⟨go, 0, none⟩) T T) (noneL T)) := ho4
  clear ho4 hb4 HN
  go_wp2_with fail
  obtain ⟨W5, hW5⟩ : ∃ W, W4.alloc (.cells #[.slice none 0 0, .int .i64 crew] 96) = W := ⟨_, rfl⟩
  have hb5 : Below W4.heap.size W4 W5 := by rw [← hW5]; exact (Below.refl _ W4).alloc (Nat.le_refl _) _
  have HZ5 : Hid (W5.heap.size = W4.heap.size + 1) := by show _ = _; rw [← hW5]; simp
  have HC5 : Hid (W5.cell? ⟨W4.heap.size, 0, none⟩ = some (.slice none 0 0) ∧ W5.cell? ⟨W4.heap.size, 1, none⟩ = some (.int .i64 crew) ∧ W5.frozen? ⟨W4.heap.size, 0, none⟩ = false) := by
    show _ ∧ _ ∧ _
    rw [← hW5]
    exact ⟨by simp, by simp, World.frozen?_alloc_at _ _ _ _ rfl⟩
  have HB5 : Hid (Below w.heap.size w W5) := HB4.out.trans (hb5.mono HB4.out.size)
  have HX5 : Hid (Boxed W5 w.heap.size 29 (.slice aS T cS)) := boxed_blwM HX4.out hb5 HX4.out.lt
  have HO5 : Hid (OwnV 56 4 W5 W1.heap.size (.slice (some ⟨gl, 0, none⟩) T cl) T (rawT (longT ts task by_) VB VL)) := HO4.out.below hb5 (Nat.le_refl _)
  have HU5 : Hid (OwnI W5 W3.heap.size (.slice (some ⟨go, 0, none⟩) T T) (noneL T)) := HU4.out.below hb5 (Nat.le_refl _)
  have HGO : Hid (W3.heap.size ≤ go ∧ go < W4.heap.size) := HU4.out.lt go rfl
  rw [hW5]
  clear hb5 hW5 HX4 HO4 HU4
  obtain ⟨bc, hbc⟩ : ∃ bc, W4.heap.size = bc := ⟨_, rfl⟩
  have HBC : Hid (W4.heap.size = bc) := hbc
  rw [hbc] at HZ5 HC5 HGO ⊢
  clear hbc
  have HS := Lib.hid (sortedBy_any T 80 #[.pointer (some ⟨w.heap.size, 0, none⟩)] (keyOf st) W5 (by omega) (fun W x h0 hx hW => by
      have hl := HST.out.1
      have h := mendKey_any aS cS st w.heap.size x W (by rw [hl]; exact boxed_blwM HX5.out hW HX5.out.lt) (by rw [hl]; exact HV.out.below (HB5.out.trans (hW.mono HB5.out.size)) (Nat.le_refl _)) (by omega) h0 (by omega)
      exact h)
    (enters_of Try.func80 (by kernel_rfl) rfl))
  go_wp2_with fail
  refine HS.out.mono ?_
  rintro e W6 ⟨⟨ge, ce, E, rfl, ho6, hlE, hsort⟩, hb6⟩
  have HL6 : Hid (T ≤ (longT ts task by_).length ∧ (longT ts task by_).length ≤ T) := by have h := longT_len ts task by_; have := HT.out; exact ⟨by omega, by omega⟩
  have HSL : Hid (SmTs (longT ts task by_)) := longT_sm HSM.out (by rw [HT.out]; exact htk) hby.1 (by rw [HTM.out]; exact hlong)
  have HB6 : Hid (Below w.heap.size w W6) := HB5.out.trans (hb6.mono HB5.out.size)
  have HX6 : Hid (Boxed W6 w.heap.size 29 (.slice aS T cS)) := boxed_blwM HX5.out hb6 HX5.out.lt
  have HO6 : Hid (OwnV 56 4 W6 W1.heap.size (.slice (some ⟨gl, 0, none⟩) T cl) T (rawT (longT ts task by_) VB VL)) := HO5.out.below hb6 (Nat.le_refl _)
  have HU6 : Hid (OwnI W6 W3.heap.size (.slice (some ⟨go, 0, none⟩) T T) (noneL T)) := HU5.out.below hb6 (Nat.le_refl _)
  have HE6 : Hid (OwnI W6 W5.heap.size (.slice (some ⟨ge, 0, none⟩) T ce) E ∧ T = E.length ∧ SortsBy (keyOf st) T E) := ⟨ho6, hlE, hsort⟩
  have hbc5 : bc < W5.heap.size := by have := HZ5.out; omega
  have HC6 : Hid (W6.cell? ⟨bc, 0, none⟩ = some (.slice none 0 0) ∧ W6.cell? ⟨bc, 1, none⟩ = some (.int .i64 crew) ∧ W6.frozen? ⟨bc, 0, none⟩ = false) := by
    have hg : W5.grownBy W6 none := ⟨hb6.os, hb6.tape, hb6.output, hb6.size, fun i hi _ => hb6.block i hi⟩
    exact ⟨(hb6.cell (p := ⟨bc, 0, none⟩) hbc5).trans HC5.out.1, (hb6.cell (p := ⟨bc, 1, none⟩) hbc5).trans HC5.out.2.1, (hg.frozen_far ⟨bc, 0, none⟩ hbc5 (by intro e; cases e)).trans HC5.out.2.2⟩
  have HR0 : Hid (MendR T (longT ts task by_) st crew E go bc w.heap.size W6.heap.size W6 (.int .i64 0) (.int .i64 0) W6) := by
    have hTL : (longT ts task by_).length = T := by have := HL6.out; omega
    refine ⟨0, 0, noneL T, .slice none 0 0, [], rfl, Nat.zero_le _, rfl, ?_, ?_⟩
    · show _ = _; exact (diffO_none st T T (Nat.le_refl _)).symm
    · have hI := mendI_start (crew := crew) (E := E) (st := st) HSL.out (by rw [hTL]; exact hsort)
      rw [hTL] at hI
      exact ⟨hI, HU6.out.mono HB3.out.size, World.ownsRow_nil _ _ _ _, HC6.out.1, HC6.out.2.1, HC6.out.2.2, fun t => by rw [useO_none _ T _ T (Nat.le_refl _)]; exact nth_over (Nat.zero_le _), by simp, GrownL.refl _ _⟩
  have HGB : Hid (bc < W6.heap.size ∧ go < bc) := ⟨by have := hb6.size; omega, HGO.out.2⟩
  clear ho6 hlE hsort hb6 HX5 HO5 HU5 HC5 HS
  go_wp2
  go_loopw [16, 70] (fun vd vk wr => MendR T (longT ts task by_) st crew E go bc w.heap.size W6.heap.size W6 vd vk wr) (fun _ vk _ => T - (intOf vk).toNat)
  case atStart => exact HR0.out
  case round =>
    obtain ⟨k, d, out, vU, U, rfl, hk, rfl, HD, HK⟩ := hrel
    clear HR0
    by_cases hkT : k < T
    · have k2 : (k : Int) < (T : Int) := by omega
      have k3 : (0 : Int) ≤ (k : Int) := by omega
      have HTL : Hid ((longT ts task by_).length = T) := by have := HL6.out; show _ = _; omega
      have HSO : Hid (SortsBy (keyOf st) (longT ts task by_).length E) := by show SortsBy _ _ _; rw [HTL.out]; exact HE6.out.2.2
      have hnx := HK.out.inv.next HSO.out (by rw [HTL.out]; exact hkT)
      rw [HTL.out] at hnx
      obtain ⟨i, hi⟩ : ∃ i : Nat, nth E k = i := ⟨(nth E k).toNat, by omega⟩
      have HI : Hid (nth E k = i) := hi
      rw [hi, Int.toNat_natCast] at hnx
      have hge := (HE6.out.1.lt ge rfl)
      have ce := (HE6.out.1.at_ HE6.out.2.1 k (by rw [← HE6.out.2.1]; exact hkT))
      rw [hi] at ce
      have ce := (HK.out.frm.cell (p := ⟨ge, k, none⟩) hge.2 (by show ge ∉ _; have := HGB.out; have := HZ5.out; have := hge.1; simp; omega)).trans ce
      have hiT := hnx.2.2.1
      have HNI : Hid (nth out i = -1) := hnx.2.2.2
      have i0 : (0 : Int) ≤ (i : Int) := by omega
      have i1 : (i : Int) < (T : Int) := by omega
      clear hi hnx
      have HBr : Hid (Below w.heap.size w wr) := HK.out.frm.toBelow HB6.out HB6.out.size (fun j hj => by have := HGB.out; have := HGO.out; have := HB3.out.size; simp; omega)
      have hsi := HSRC.out i hiT
      obtain ⟨aB, cB, hVB, bcap, hB⟩ := (hsi.bef.ints.1).view
      have c2 : wr.cell? ⟨b, o + i * 4 + 2, none⟩ = some (VB i) := (HBr.out.cell (p := ⟨b, o + i * 4 + 2, none⟩) hbw).trans hsi.c2
      rw [hVB] at c2
      obtain ⟨L, hL⟩ : ∃ L, (befN ts i).length = L := ⟨_, rfl⟩
      have HLB : Hid ((befN ts i).length = L) := hL
      rw [hL] at c2 bcap
      have hL16 : L ≤ 16 := by have := HSM.out.blen i (by rw [HT.out]; exact hiT); omega
      have HBF : Hid (∀ q, q < L → ∃ b' o', aB = some ⟨b', o', none⟩ ∧ wr.cell? ⟨b', o' + q, none⟩ = some (.int .i64 (nth (befN ts i) q))) := fun q hq => hB wr HBr.out q (by rw [hL]; exact hq)
      have HBE : Hid (∀ q, q < L → 0 ≤ nth (befN ts i) q ∧ nth (befN ts i) q < (i : Int)) := fun q hq => HSM.out.bef i (by rw [HT.out]; exact hiT) q (by rw [hL]; exact hq)
      clear hsi hVB hB hL
      have HQ0 : Hid (MendB ts out i L wr (.int .i64 0) wr) := ⟨0, 0, rfl, Nat.zero_le _, fun j hj => absurd hj (Nat.not_lt_zero _), rfl⟩
      go_wp2
      go_loopw [80] (fun vq wi => MendB ts out i L wr vq wi) (fun vq _ => L - (intOf vq).toNat)
      case atStart => exact HQ0.out
      case round =>
        obtain ⟨q, m, rfl, hq, HTO, rfl⟩ := hrel
        clear HQ0
        by_cases hqL : q < L
        · obtain ⟨b2, o2, haB, cb⟩ := HBF.out q hqL
          subst haB
          have hbe := HBE.out q hqL
          obtain ⟨p, hp⟩ : ∃ p : Nat, nth (befN ts i) q = p := ⟨(nth (befN ts i) q).toNat, by omega⟩
          have HPE : Hid (nth (befN ts i) q = p) := hp
          rw [hp] at cb hbe
          have holen : T = out.length := by have := HK.out.inv.len; have := HTL.out; omega
          have co := HK.out.own.at_ holen p (by omega)
          obtain ⟨v, hv⟩ : ∃ v, nth out p = v := ⟨_, rfl⟩
          have HVE : Hid (nth out p = v) := hv
          rw [hv] at co
          have q0 : (0 : Int) ≤ (q : Int) := by omega
          have q1 : (q : Int) < (L : Int) := by omega
          have p0 : (0 : Int) ≤ (p : Int) := by omega
          have p1 : (p : Int) < (T : Int) := by omega
          clear hp hv holen
          by_cases hneg : v < 0
          · go_wp2
            go_ret3
            refine ⟨.inl ⟨?_, rfl⟩, below_drewN _ HBr.out⟩
            apply HK.out.inv.fail HSO.out (by rw [HTL.out]; exact hkT)
            rw [HI.out, Int.toNat_natCast]
            have hbl : befN (longT ts task by_) i = befN ts i := by
              unfold befN
              rw [longT_at _ (by rw [HT.out]; exact htk)]
              split
              · rename_i e; subst e; rfl
              · rfl
            cases h : toldB (longT ts task by_) out i
            · rfl
            · exfalso
              unfold toldB at h
              rw [hbl, List.all_eq_true] at h
              have h2 := h (nth (befN ts i) q) (nth_mem (by rw [HLB.out]; exact hqL))
              rw [HPE.out, Int.toNat_natCast, HVE.out, decide_eq_true_eq] at h2
              omega
          · go_wp2
            go_roundw
            case rel => exact ⟨q + 1, m, by go_num, by omega, fun j hj => by
              by_cases e : j = q
              · subst e; rw [HPE.out, Int.toNat_natCast, HVE.out]; omega
              · exact HTO j (by omega), rfl⟩
            case measure => simp [intOf]; omega
        · have hbl : befN (longT ts task by_) i = befN ts i := by
            unfold befN
            rw [longT_at _ (by rw [HT.out]; exact htk)]
            split
            · rename_i e; subst e; rfl
            · rfl
          have HTD : Hid (toldB (longT ts task by_) out i = true) := by
            show toldB _ _ _ = true
            unfold toldB
            rw [hbl, List.all_eq_true]
            intro x hx
            obtain ⟨j, hj, rfl⟩ := List.getElem_of_mem hx
            have := HTO j (by have := HLB.out; omega)
            rw [nth_eq hj] at this
            exact decide_eq_true this
          have q2 : ¬ (q : Int) < (L : Int) := by omega
          clear hbl HTO
          have hTT : (longT ts task by_).length = T := HTL.out
          have HOr : Hid (OwnV 56 4 wr W1.heap.size (.slice (some ⟨gl, 0, none⟩) T cl) T (rawT (longT ts task by_) VB VL)) := by
            refine HO6.out.grownM HK.out.frm (fun j e => ?_)
            obtain rfl : gl = j := by rw [ownBlock_slice] at e; injection e
            have := HGL3.out
            have := HGO.out
            have := HGB.out
            simp
            omega
          have HTR : Hid (TasksR wr (.slice (some ⟨gl, 0, none⟩) T cl) (longT ts task by_)) := by
            refine rawT_reads (M := 0) (ts := ts) (us := longT ts task by_) (fun j hj => HSRC.out j (by have := HT.out; omega)) HBr.out (by rw [longT_len]) (by have := HT.out; unfold maxLen; omega) (fun j hj => ?_) (by rw [HT.out]; exact HOr.out) (by have := HT.out; omega)
            have h1 := HSL.out.time j (by rw [longT_len]; exact hj)
            have h2 := HSL.out.need j (by rw [longT_len]; exact hj)
            have hbl : befN (longT ts task by_) j = befN ts j ∧ lagN (longT ts task by_) j = lagN ts j := by
              unfold befN lagN
              rw [longT_at _ (by rw [HT.out]; exact htk)]
              split
              · rename_i e; subst e; exact ⟨rfl, rfl⟩
              · exact ⟨rfl, rfl⟩
            exact ⟨hbl.1, hbl.2, wf_i64_iff.2 ⟨by omega, by omega⟩, wf_i64_iff.2 ⟨by omega, by omega⟩⟩
          have HSO2 : Hid (SmSt out T) := ⟨by have := HK.out.inv.len; omega, fun j hj => by
            have h1 := HK.out.inv.lo j (by omega)
            have h2 := HK.out.inv.hi j (by omega)
            have h3 := HSL.out.time j (by omega)
            omega⟩
          have HEA : Hid (∀ m, Calls Try.prog 82 #[.slice (some ⟨gl, 0, none⟩) T cl, .slice (some ⟨go, 0, none⟩) T T, .int .i64 i] (wr.drewN m) fun e w' => e = .returned (.int .i64 (leastN (longT ts task by_) out i)) ∧ ∃ q, w' = (wr.drewN m).drewN q) := fun m =>
            earliest_any _ _ (longT ts task by_) out i (wr.drewN m) (HTR.out.below (below_drewN m (Below.refl wr.heap.size wr)) (Nat.le_refl _)) ((HK.out.own.ints).below (below_drewN m (Below.refl wr.heap.size wr)) (Nat.le_refl _)) HSL.out (by rw [hTT]; exact HSO2.out) (by rw [hTT]; exact hiT)
          have HNE : Hid (0 ≤ needN (longT ts task by_) i ∧ needN (longT ts task by_) i ≤ crew) := by
            have h1 := HSL.out.need i (by rw [hTT]; exact hiT)
            have h2 := HND.out i (by rw [HT.out]; exact hiT)
            have h3 : needN (longT ts task by_) i = needN ts i := by
              unfold needN
              rw [longT_at _ (by rw [HT.out]; exact htk)]
              split
              · rename_i e; subst e; rfl
              · rfl
            show _ ∧ _
            omega
          have HA0 : Hid (0 ≤ max (nth st i) (leastN (longT ts task by_) out i) ∧ max (nth st i) (leastN (longT ts task by_) out i) ≤ 600 + 300 * (k : Int)) := by
            have h1 := leastTo_le (B := 500 + 300 * (k : Int)) HSL.out (i := i) (out := out) (by rw [hTT]; exact hiT) (by omega) HK.out.inv.hi _ (Nat.le_refl _)
            have h2 := leastN_bounds (i := i) HSL.out (by rw [hTT]; exact HSO2.out) (by rw [hTT]; exact hiT)
            have h3 : nth st i + timeN ts i ≤ endTo ts st T := end_ge T i hiT
            have h4 := HP.out
            have h5 := HSM.out.time i (by rw [HT.out]; exact hiT)
            have h6 : leastN (longT ts task by_) out i ≤ 500 + 300 * (k : Int) + 100 := h1
            show _ ∧ _
            omega
          have HFT : Hid (∀ (m : Nat) (vb vl : Value), Calls Try.prog 81 #[.pointer (some ⟨bc, 0, none⟩), .agg #[.int .i64 (timeN (longT ts task by_) i), .int .i64 (needN (longT ts task by_) i), vb, vl], .int .i64 (max (nth st i) (leastN (longT ts task by_) out i))] (wr.drewN m) fun e w' =>
              ∃ (s : Int) (out' : List Int), e = .returned (.int .i64 s) ∧ Hid (out' = out.set i s) ∧ 0 ≤ s ∧ s ≤ 600 + 300 * (k : Int) ∧ Hid (MendF T (longT ts task by_) st crew E go bc w.heap.size W6.heap.size (k + 1) W6 wr w' out out' i)) := fun m vb vl => by
            have h := fit_any bc W6.heap.size vU vb vl U crew (timeN (longT ts task by_) i) (needN (longT ts task by_) i) (max (nth st i) (leastN (longT ts task by_) out i)) (wr.drewN m) (HK.out.ownU.drewN m) HGB.out.1 (HK.out.frm.size) HK.out.used HK.out.crew HK.out.froz (by have := HSL.out.time i (by rw [hTT]; exact hiT); omega) HNE.out (by have := HCW.out; omega) (by have := HA0.out; omega) (by have := HK.out.len; omega) (fun t => by
              rw [HK.out.take t]
              have := useO_bounds (ts := longT ts task by_) (out := out) (t := t) HSL.out T (by rw [hTT]; exact Nat.le_refl _)
              omega)
            refine h.mono ?_
            rintro e W ⟨s, vU', U', rfl, hfit, hsl, ho', hU', hl', hu', hc', hf', hfr⟩
            have hfit2 : Fit (fun t : Nat => useO (longT ts task by_) out t (longT ts task by_).length) crew (needN (longT ts task by_) i) (timeN (longT ts task by_) i) (max (nth st i) (leastN (longT ts task by_) out i)) s := hfit.congr (fun t => by rw [HK.out.take t, hTT])
            have hs0 : 0 ≤ s := by have := HA0.out; have := hfit.le; omega
            have hsB : s ≤ 600 + 300 * (k : Int) := by have := HA0.out; have := HK.out.len; omega
            have hil : i < out.length := by have := HK.out.inv.len; omega
            refine ⟨s, out.set i s, rfl, rfl, hs0, hsB, ?_⟩
            refine ⟨?_, (HK.out.own.drewN m).frm hfr (by have := HGB.out; omega) (by have := HGB.out; omega), ⟨vU', U', ho', hu', hc', hf', fun t => ?_, ?_⟩, (HK.out.frm.drewN m).frm hfr (Nat.le_refl _) (by simp)⟩
            · have h := HK.out.inv.step HSO.out (by rw [hTT]; exact hkT) HSL.out (by rw [HI.out, Int.toNat_natCast]; exact HTD.out) (by rw [HI.out, Int.toNat_natCast]; exact hfit2) hs0 hsB
              rw [HI.out, Int.toNat_natCast] at h
              exact h
            · rw [hU' t, HK.out.take t, useO_set hil HNI.out hs0 T]
              by_cases q : s ≤ (t : Int) ∧ (t : Int) < s + timeN (longT ts task by_) i
              · rw [if_pos q, if_pos ⟨hiT, q⟩]
              · rw [if_neg q, if_neg (fun x => q x.2)]
            · have h1 := HSL.out.time i (by rw [hTT]; exact hiT)
              have h2 := HA0.out
              have h3 := HK.out.len
              omega
          obtain ⟨aS', cS', e1, _, hS⟩ := HV.out.view
          injection e1 with e1 e2 e3
          subst e1
          obtain ⟨bS, oS, rfl, _⟩ := hS w (Below.refl _ _) i (by rw [HST.out.1]; exact hiT)
          have HSA : Hid (∀ W, GrownL [go, bc] W6 W → W.cell? ⟨w.heap.size, 0, none⟩ = some (.slice (some ⟨bS, oS, none⟩) T cS) ∧ W.cell? ⟨bS, oS + i, none⟩ = some (.int .i64 (nth st i)) ∧ W.cell? ⟨gl, i * 4, none⟩ = some (.int .i64 (timeN (longT ts task by_) i)) ∧ W.cell? ⟨gl, i * 4 + 1, none⟩ = some (.int .i64 (needN (longT ts task by_) i)) ∧ W.cell? ⟨gl, i * 4 + 2, none⟩ = some (VB i) ∧ W.cell? ⟨gl, i * 4 + 3, none⟩ = some (VL i)) := fun W hW => by
            have hcell : ∀ j, j < 4 → W.cell? ⟨gl, i * 4 + j, none⟩ = some (cellT (longT ts task by_) VB VL i j) := fun j hj => by
              have hOW : OwnV 56 4 W W1.heap.size (.slice (some ⟨gl, 0, none⟩) T cl) T (rawT (longT ts task by_) VB VL) := by
                refine HO6.out.grownM hW (fun j e => ?_)
                obtain rfl : gl = j := by rw [ownBlock_slice] at e; injection e
                have := HGL3.out
                have := HGO.out
                have := HGB.out
                simp
                omega
              have hL : (rawT (longT ts task by_) VB VL).length = T * 4 := by rw [rawT_len, hTT]
              have h5 := (OwnV.store (n := T) hOW (i * 4 + j) (by rw [hL]; omega) (.bool true)).1
              have h6 := rawT_at (VB := VB) (VL := VL) (ts := longT ts task by_) (i := i) (j := j) (by rw [hTT]; exact hiT) hj
              rw [List.getElem?_eq_getElem (by rw [hL]; omega)] at h6
              rw [h5]; exact h6
            have hBW : Below w.heap.size w W := hW.toBelow HB6.out HB6.out.size (fun j hj => by have := HGB.out; have := HGO.out; have := HB3.out.size; simp; omega)
            obtain ⟨bS', oS', e4, cst⟩ := hS W hBW i (by rw [HST.out.1]; exact hiT)
            obtain ⟨rfl, rfl⟩ : bS = bS' ∧ oS = oS' := by simpa using e4
            exact ⟨(hW.boxed HX6.out (by have := HGB.out; have := HGO.out; have := HB3.out.size; have := HX3.out.lt; simp; omega)).cell, cst, hcell 0 (by omega), hcell 1 (by omega), hcell 2 (by omega), hcell 3 (by omega)⟩
          obtain ⟨stI, hstI⟩ : ∃ x, nth st i = x := ⟨_, rfl⟩
          have HSI : Hid (nth st i = stI) := hstI
          rw [hstI] at HSA HFT HA0
          obtain ⟨tmI, htmI⟩ : ∃ x, timeN (longT ts task by_) i = x := ⟨_, rfl⟩
          obtain ⟨ndI, hndI⟩ : ∃ x, needN (longT ts task by_) i = x := ⟨_, rfl⟩
          obtain ⟨leI, hleI⟩ : ∃ x, leastN (longT ts task by_) out i = x := ⟨_, rfl⟩
          obtain ⟨VBi, hVBi⟩ : ∃ x, VB i = x := ⟨_, rfl⟩
          obtain ⟨VLi, hVLi⟩ : ∃ x, VL i = x := ⟨_, rfl⟩
          rw [htmI] at HSA HFT
          rw [hndI] at HSA HFT
          rw [hVBi] at HSA
          rw [hVLi] at HSA
          rw [hleI] at HEA HFT HA0
          have HDL : Hid (T = out.length ∧ i < out.length) := by have := HK.out.inv.len; show _ ∧ _; omega
          have w3 : IntKind.i64.wrap (d + 1) = d + 1 := by
            have h := diffO_bounds (st := st) (out := out) T
            rw [← HD.out] at h
            exact IntWalk.i64_in _ (by omega)
          obtain ⟨cbx, cst, d0, d1, d2, d3⟩ := HSA.out wr HK.out.frm
          clear htmI hndI hleI hVBi hVLi hS hstI e2 e3 hTT htk c2 ce bcap hbw HTR HOr HSO2 HNE
          have i2 : (i : Int).toNat = i := Int.toNat_natCast _
          go_wp2
          go_region_held3 (fun w' => w'.cell? ⟨w.heap.size, 0, none⟩ = some (.slice (some ⟨bS, oS, none⟩) T cS) ∧ w'.cell? ⟨bS, oS + i, none⟩ = some (.int .i64 stI) ∧ w'.cell? ⟨gl, i * 4, none⟩ = some (.int .i64 tmI) ∧ w'.cell? ⟨gl, i * 4 + 1, none⟩ = some (.int .i64 ndI) ∧ w'.cell? ⟨gl, i * 4 + 2, none⟩ = some VBi ∧ w'.cell? ⟨gl, i * 4 + 3, none⟩ = some VLi)
            (first | go_keep | exact HS8.out | exact HSA.out _ HK8.out.frm)
            (first
              | (go_at_call 82; refine (HEA.out _).mono ?_; rintro e W7 ⟨rfl, q7, rfl⟩)
              | (go_at_call 81; refine (HFT.out _ _ _).mono ?_; rintro e W8 ⟨s, out8, rfl, HO8, s0, s1, HF8⟩; obtain ⟨f1, f2, vU8, U8, K8⟩ := HF8.out.put HO8.out hiT HDL.out.1 HGB.out.2 HGB.out.1 (Nat.le_refl _); have HK8 := Lib.hid K8; have HS8 := Lib.hid (HSA.out W8 HF8.out.frm); clear K8 HF8))
          obtain ⟨W9, hW9⟩ : ∃ W, W8.setCell ⟨go, i, none⟩ (.int .i64 s) = W := ⟨_, rfl⟩
          rw [hW9] at HK8 ⊢
          have HO9 : Hid (nth out8 i = s) := by show _ = _; rw [HO8.out, nth_setM _ HDL.out.2, if_pos rfl]
          have co := HK8.out.own.at_ (by have := HK8.out.inv.len; have := HTL.out; omega) i (by have := HK8.out.inv.len; have := HTL.out; omega)
          rw [HO9.out] at co
          obtain ⟨cbx9, cst9, _⟩ := HSA.out W9 HK8.out.frm
          have HD9 : Hid (diffO st out8 T = d + if s ≠ stI then 1 else 0) := by
            show _ = _
            rw [HO8.out, diffO_set HDL.out.2 HNI.out s0 T, HD.out, HSI.out]
            by_cases q : s = stI
            · rw [if_neg (fun x => x.2 q), if_neg (fun x => x q)]
            · rw [if_pos ⟨hiT, q⟩, if_pos q]
          clear hW9 HFT HEA HSA cbx cst d0 d1 d2 d3 f1 f2 HS8
          by_cases hse : s = stI
          · have HD10 : Hid (diffO st out8 T = d) := by have := HD9.out; rw [if_neg (fun x => x hse)] at this; show _ = _; omega
            subst hse
            go_wp2
            go_quiet (fail)
            go_wp2
            go_roundw
            case rel => exact ⟨k + 1, d, out8, vU8, U8, by go_num, by omega, rfl, HD10.out.symm, HK8.out.drewN _⟩
            case measure => simp [intOf]; omega
          · have HD10 : Hid (diffO st out8 T = d + 1) := by have := HD9.out; rw [if_pos hse] at this; exact this
            go_wp2
            go_quiet (fail)
            go_wp2
            go_roundw
            case rel => exact ⟨k + 1, d + 1, out8, vU8, U8, by go_num, by omega, rfl, HD10.out.symm, HK8.out.drewN _⟩
            case measure => simp [intOf]; omega
    · have k2 : ¬ (k : Int) < (T : Int) := by omega
      have HKT : Hid (k = T) := by show _ = _; omega
      clear hkT
      go_wp2
      go_ret3
      refine ⟨.inr ⟨out, ?_, go, by rw [HD.out]; rfl, HK.out.own⟩, ?_⟩
      · have hTL : (longT ts task by_).length = T := by have := HL6.out; omega
        have h := HK.out.inv
        rw [HKT.out, ← hTL] at h
        exact h.done (by rw [hTL]; exact HE6.out.2.2)
      · have h := HK.out.frm
        exact h.toBelow HB6.out HB6.out.size (fun j hj => by have := HGB.out; have := HGO.out; have := HB3.out.size; simp; omega)
end Go.Proofs.Ytnpfninkopffmaa
