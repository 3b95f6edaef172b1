/- spec.l03Least, spec.l03End: their contracts. Conditions: small numbers. With texts that it needs. -/
import Derived.Test.YtcjeededlhdcbaaCrewsAll7
import Derived.Test.YtcjeededlhdcbaaCrewsAll6
import Derived.Test.YtcjeededlhdcbaaCrewsAll9
import Derived.Test.YtcjeededlhdcbaaCrewsAll11
import Derived.Test.YtcjeededlhdcbaaCrewsAll5
import Derived.Test.YtcjeededlhdcbaaCrewsAll8
import Derived.Test.YtcjeededlhdcbaaCrewsAll10
import Derived.Test.YtcjeededlhdcbaaCrewsAll1
import Derived.Deep.RegionHeld3
import Derived.Deep.QuietTactic
import Derived.BigQuiet
import Derived.Test.YtcjeededlhdcbaaCrewsAll3
import Derived.Test.YtcjeededlhdcbaaCrewsAll13
import Derived.Test.YtcjeededlhdcbaaCrewsAll2
namespace Go.Proofs.Ytcjeededlhdcbaa
open Go.RowKit
set_option linter.unusedVariables false
set_option linter.unusedSimpArgs false

theorem sl_nilT (p : Addr) (n c : Nat) (W : World) : (binOp .eql 25 (.slice (some p) n c) (.slice none 0 0)).run Try.prog W = .ok (.bool false) W := by kernel_rfl
/-- The longer tasks are small too. -/
theorem longT_sm {ts : List Tk} {i : Nat} {x : Int} (h : SmTs ts) (hi : i < ts.length) (hx : 0 ≤ x) (hl : timeN ts i + x ≤ 100) : SmTs (longT ts i x) := by
  have hl2 := longT_len ts i x
  have ht : ∀ j, j < ts.length → timeN ts j ≤ timeN (longT ts i x) j ∧ timeN (longT ts i x) j ≤ 100 ∧ needN (longT ts i x) j = needN ts j ∧ befN (longT ts i x) j = befN ts j ∧ lagN (longT ts i x) j = lagN ts j := fun j hj => by
    have h1 := h.time j hj
    unfold timeN needN befN lagN at *
    rw [longT_at x hi]
    split
    · rename_i e; subst e; exact ⟨by show _ ≤ _ + _; omega, hl, rfl, rfl, rfl⟩
    · exact ⟨Int.le_refl _, h1.2, rfl, rfl, rfl⟩
  refine ⟨by rw [hl2]; exact h.n1, by rw [hl2]; exact h.n16, fun j hj => ?_, fun j hj => ?_, fun j hj => ?_, fun j hj => ?_, fun j hj k hk => ?_, fun j hj k hk => ?_⟩
  all_goals rw [hl2] at hj
  all_goals obtain ⟨t1, t2, t3, t4, t5⟩ := ht j hj
  · have := h.time j hj; omega
  · rw [t3]; exact h.need j hj
  · rw [t4, t5]; exact h.len j hj
  · rw [t4]; exact h.blen j hj
  · rw [t4] at hk ⊢; exact h.bef j hj k hk
  · rw [t4] at hk; rw [t5]; exact h.lag j hj k hk
theorem GrownL.frm {b N : Nat} {gs : List Nat} {A W W' : World} (h : GrownL gs A W) (hf : Frm b N W W') (hN : A.heap.size ≤ N) (hb : b ∈ gs) : GrownL gs A W' :=
  ⟨hf.os.trans h.os, hf.tape.trans h.tape, hf.output.trans h.output, Nat.le_trans h.size hf.size, fun i hi hn => (hf.block i (by omega) (fun e => hn (by rw [e]; exact hb))).trans (h.block i hi hn)⟩
end Go.Proofs.Ytcjeededlhdcbaa

namespace Go.Proofs.Ytcjeededlhdcbaa
open Go.RowKit
set_option linter.unusedVariables false
set_option linter.unusedSimpArgs false

/-- What the rounds know. -/
structure OrdK (T : Nat) (ts : List Tk) (crew : Int) (E : List Int) (go bc N N2 k : Nat) (W0 wr : World) (out : List Int) (vU : Value) (U : List Int) : Prop where
  inv : TakeI ts (zeroS T) crew E k out
  own : OwnI wr N (.slice (some ⟨go, 0, none⟩) T T) out
  ownU : OwnI wr N2 vU U
  used : wr.cell? ⟨bc, 0, none⟩ = some vU
  crew : wr.cell? ⟨bc, 1, none⟩ = some (.int .i64 crew)
  froz : wr.frozen? ⟨bc, 0, none⟩ = false
  take : ∀ t : Nat, nth U t = useO ts out t T
  len : (U.length : Int) ≤ 500 + 300 * (k : Int)
  frm : GrownL [go, bc] W0 wr
def OrdKR (T : Nat) (ts : List Tk) (crew : Int) (E : List Int) (go bc N N2 : Nat) (W0 : World) (vk : Value) (wr : World) : Prop :=
  ∃ (k : Nat) (out : List Int) (vU : Value) (U : List Int), vk = .int .i64 k ∧ k ≤ T ∧ Hid (OrdK T ts crew E go bc N N2 k W0 wr out vU U)
/-- Behind fit, ahead of the store. -/
structure OrdF (T : Nat) (ts : List Tk) (crew : Int) (E : List Int) (go bc N N2 k : Nat) (W0 wr W : World) (out out' : List Int) (i : Nat) : Prop where
  inv : TakeI ts (zeroS T) crew E k out'
  own : OwnI W N (.slice (some ⟨go, 0, none⟩) T T) out
  rest : ∃ vU U, OwnI W N2 vU U ∧ W.cell? ⟨bc, 0, none⟩ = some vU ∧ W.cell? ⟨bc, 1, none⟩ = some (.int .i64 crew) ∧ W.frozen? ⟨bc, 0, none⟩ = false ∧ (∀ t : Nat, nth U t = useO ts out' t T) ∧ (U.length : Int) ≤ 500 + 300 * (k : Int)
  frm : GrownL [go, bc] W0 W
theorem OwnI.frmO {b M lo g n c : Nat} {xs : List Int} {w W : World} (h : OwnI w lo (.slice (some ⟨g, 0, none⟩) n c) xs) (hf : Frm b M w W) (hg : g < M) (hne : g ≠ b) : OwnI W lo (.slice (some ⟨g, 0, none⟩) n c) xs := by
  refine ⟨h.1, ?_⟩
  rcases h.2 with h1 | ⟨g', cap, cur, h1, h2, h3, r⟩
  · exact .inl h1
  · refine .inr ⟨g', cap, cur, h1, h2, ?_, r⟩
    obtain ⟨rfl⟩ : g = g' := by simp at h1; exact h1.1
    exact (hf.block g hg hne).trans h3
theorem OrdF.put {T : Nat} {ts : List Tk} {crew s : Int} {E : List Int} {go bc N N2 k : Nat} {W0 wr W : World} {out out' : List Int} {i : Nat} (h : OrdF T ts crew E go bc N N2 k W0 wr W out out' i)
    (ho : out' = out.set i s) (hi : i < T) (hl : T = out.length) (hgo : go < bc) (hbc : bc < N2) (hN : N2 ≤ W0.heap.size) :
    W.cell? ⟨go, i, none⟩ = some (.int .i64 (nth out i)) ∧ W.frozen? ⟨go, i, none⟩ = false ∧ ∃ vU U, OrdK T ts crew E go bc N N2 k W0 (W.setCell ⟨go, i, none⟩ (.int .i64 s)) out' vU U := by
  obtain ⟨s1, s2, s3, s4⟩ := h.own.store hl i (by omega) s
  obtain ⟨vU, U, r1, r2, r3, r4, r5, r6⟩ := h.rest
  have hU : vU.ownBlock ≠ some go := fun e => by have := (r1.lt go e).1; omega
  have hsz : bc < W.heap.size := by have := h.frm.size; omega
  have hne : some bc ≠ some go := by intro e; injection e with e; omega
  refine ⟨h.own.at_ hl i (by omega), s2, vU, U, h.inv, by rw [ho]; exact s3, r1.kept s4 (.inr hU), (s4.cell_far ⟨bc, 0, none⟩ hsz hne).trans r2, (s4.cell_far ⟨bc, 1, none⟩ hsz hne).trans r3, (s4.frozen_far ⟨bc, 0, none⟩ hsz hne).trans r4, r5, r6, h.frm.grown s4 (fun j e => .inl (by cases e; simp))⟩
/-- The first q of what i waits for are told. -/
def OrdB (ts : List Tk) (out : List Int) (i L : Nat) (W : World) (vq : Value) (wr : World) : Prop :=
  ∃ (q m : Nat), vq = .int .i64 q ∧ q ≤ L ∧ (∀ j, j < q → 0 ≤ nth out (nth (befN ts i) j).toNat) ∧ wr = W.drewN m
set_option maxRecDepth 100000 in
set_option maxHeartbeats 4000000 in
theorem orderPlan_any (vt vo : Value) (ts : List Tk) (E : List Int) (crew : Int) (w : World) (ht : TasksR w vt ts) (ho : Ints w vo E) (hE : E.Perm (idL ts.length)) (hsm : SmTs ts) (hcr : 0 ≤ crew ∧ crew ≤ 20) (hneed : ∀ i, i < ts.length → needN ts i ≤ crew) :
    Calls Try.prog 55 #[vt, vo, .int .i64 crew] w fun e w' => ((takeL ts crew E = none ∧ e = .returned (.tuple #[.slice none 0 0, .int .i64 0, .bool false])) ∨
      ∃ out g, takeL ts crew E = some out ∧ SmSt out ts.length ∧ e = .returned (.tuple #[.slice (some ⟨g, 0, none⟩) ts.length ts.length, .int .i64 (endTo ts out ts.length), .bool true]) ∧ OwnI w' w.heap.size (.slice (some ⟨g, 0, none⟩) ts.length ts.length) out) ∧ Below w.heap.size w w' := by
  have HEL : Hid (E.length = ts.length) := OrdOk.len hE
  obtain ⟨b, o, c, VB, VL, rfl, hcap, hbw, hsrc⟩ := ht.src hsm.n1
  have hT16 := hsm.n16
  have hT1 := hsm.n1
  have HSRC : Hid (∀ i, i < ts.length → TkSrc w b o ts VB VL i) := hsrc
  obtain ⟨aS, cS, rfl, scap, hS⟩ := ho.view
  rw [HEL.out] at scap ⊢
  have HSO : Hid (∀ W, Below w.heap.size w W → ∀ i, i < E.length → ∃ b o, aS = some ⟨b, o, none⟩ ∧ W.cell? ⟨b, o + i, none⟩ = some (.int .i64 (nth E i))) := fun W hW i hi => hS W hW i hi
  have HTK := Lib.hid ht
  have HSM := Lib.hid hsm
  have HPE := Lib.hid hE
  have HCW := Lib.hid hcr
  have HND := Lib.hid hneed
  obtain ⟨T, hT⟩ : ∃ T, ts.length = T := ⟨_, rfl⟩
  have HT : Hid (ts.length = T) := hT
  rw [hT] at hcap hT16 hT1 HSRC HEL scap HPE HTK ⊢
  have HN : Hid (∀ W, Calls Try.prog 114 #[.int .i64 T] W fun e w' => (∃ g, e = .returned (.slice (some ⟨g, 0, none⟩) T T) ∧ OwnI w' W.heap.size (.slice (some ⟨g, 0, none⟩) T T) (List.replicate T (-1))) ∧ Below W.heap.size W w') := fun W => none_any T W (by omega) (by omega)
  clear hS ht ho hE hsrc hsm hcr hneed hT
  go_enter Try.func55, Try.ntmps55
  go_wp2_with fail
  refine (HN.out _).mono ?_
  rintro e W4 ⟨⟨go, rfl, ho4⟩, hb4⟩
  have HB4 : Hid (Below w.heap.size w W4) := hb4
  have HU4 : Hid (OwnI W4 w.heap.size (.slice (some ⟨go, 0, none⟩) T T) (noneL T)) := ho4
  clear ho4 hb4 HN
  go_wp2
  obtain ⟨W5, hW5⟩ : ∃ W, W4.alloc (.cells #[.slice none 0 0, .int .i64 crew] 132) = W := ⟨_, rfl⟩
  have hb5 : Below W4.heap.size W4 W5 := by rw [← hW5]; exact (Below.refl _ W4).alloc (Nat.le_refl _) _
  have HZ5 : Hid (W5.heap.size = W4.heap.size + 1) := by show _ = _; rw [← hW5]; simp
  have HC5 : Hid (W5.cell? ⟨W4.heap.size, 0, none⟩ = some (.slice none 0 0) ∧ W5.cell? ⟨W4.heap.size, 1, none⟩ = some (.int .i64 crew) ∧ W5.frozen? ⟨W4.heap.size, 0, none⟩ = false) := by
    show _ ∧ _ ∧ _
    rw [← hW5]
    exact ⟨by simp, by simp, World.frozen?_alloc_at _ _ _ _ rfl⟩
  have HB5 : Hid (Below w.heap.size w W5) := HB4.out.trans (hb5.mono HB4.out.size)
  have HU5 : Hid (OwnI W5 w.heap.size (.slice (some ⟨go, 0, none⟩) T T) (noneL T)) := HU4.out.below hb5 (Nat.le_refl _)
  have HGO : Hid (w.heap.size ≤ go ∧ go < W4.heap.size) := HU4.out.lt go rfl
  rw [hW5]
  clear hb5 hW5 HU4
  obtain ⟨bc, hbc⟩ : ∃ bc, W4.heap.size = bc := ⟨_, rfl⟩
  rw [hbc] at HZ5 HC5 HGO ⊢
  clear hbc
  have HGB : Hid (bc < W5.heap.size ∧ go < bc) := ⟨by have := HZ5.out; omega, HGO.out.2⟩
  have HR0 : Hid (OrdKR T ts crew E go bc w.heap.size W5.heap.size W5 (.int .i64 0) W5) := by
    refine ⟨0, noneL T, .slice none 0 0, [], rfl, Nat.zero_le _, ?_⟩
    have hI := takeI_start (crew := crew) (E := E) (st := zeroS T) HSM.out (by rw [HT.out]; exact HPE.out)
    rw [HT.out] at hI
    exact ⟨hI, HU5.out, World.ownsRow_nil _ _ _ _, HC5.out.1, HC5.out.2.1, HC5.out.2.2, fun t => by rw [useO_none _ T _ T (Nat.le_refl _)]; exact nth_over (Nat.zero_le _), by simp, GrownL.refl _ _⟩
  clear HU5 HC5
  go_loopw [22] (fun vk wr => OrdKR T ts crew E go bc w.heap.size W5.heap.size W5 vk wr) (fun vk _ => T - (intOf vk).toNat)
  case atStart => exact HR0.out
  case round =>
    obtain ⟨k, out, vU, U, rfl, hk, HK⟩ := hrel
    clear HR0
    by_cases hkT : k < T
    · have k2 : (k : Int) < (T : Int) := by omega
      have k3 : (0 : Int) ≤ (k : Int) := by omega
      have hnx := HK.out.inv.next (by rw [HT.out]; exact HPE.out) (by rw [HT.out]; exact hkT)
      rw [HT.out] at hnx
      obtain ⟨i, hi⟩ : ∃ i : Nat, nth E k = i := ⟨(nth E k).toNat, by omega⟩
      have HI : Hid (nth E k = i) := hi
      rw [hi, Int.toNat_natCast] at hnx
      have HBr : Hid (Below w.heap.size w wr) := HK.out.frm.toBelow HB5.out HB5.out.size (fun j hj => by have := HGB.out; have := HGO.out; simp; omega)
      obtain ⟨be, oe, rfl, ce⟩ := HSO.out wr HBr.out k (by rw [HEL.out]; exact hkT)
      rw [hi] at ce
      have hiT := hnx.2.2.1
      have HNI : Hid (nth out i = -1) := hnx.2.2.2
      have i0 : (0 : Int) ≤ (i : Int) := by omega
      have i1 : (i : Int) < (T : Int) := by omega
      clear hi hnx
      have hsi := HSRC.out i hiT
      obtain ⟨aB, cB, hVB, bcap, hB⟩ := (hsi.bef.ints.1).view
      have c2 : wr.cell? ⟨b, o + i * 4 + 2, none⟩ = some (VB i) := (HBr.out.cell (p := ⟨b, o + i * 4 + 2, none⟩) hbw).trans hsi.c2
      rw [hVB] at c2
      obtain ⟨L, hL⟩ : ∃ L, (befN ts i).length = L := ⟨_, rfl⟩
      have HLB : Hid ((befN ts i).length = L) := hL
      rw [hL] at c2 bcap
      have hL16 : L ≤ 16 := by have := HSM.out.blen i (by rw [HT.out]; exact hiT); omega
      have HBF : Hid (∀ q, q < L → ∃ b' o', aB = some ⟨b', o', none⟩ ∧ wr.cell? ⟨b', o' + q, none⟩ = some (.int .i64 (nth (befN ts i) q))) := fun q hq => hB wr HBr.out q (by rw [hL]; exact hq)
      have HBE : Hid (∀ q, q < L → 0 ≤ nth (befN ts i) q ∧ nth (befN ts i) q < (i : Int)) := fun q hq => HSM.out.bef i (by rw [HT.out]; exact hiT) q (by rw [hL]; exact hq)
      clear hsi hVB hB hL
      have HQ0 : Hid (OrdB ts out i L wr (.int .i64 0) wr) := ⟨0, 0, rfl, Nat.zero_le _, fun j hj => absurd hj (Nat.not_lt_zero _), rfl⟩
      go_wp2
      go_loopw [32] (fun vq wi => OrdB ts out i L wr vq wi) (fun vq _ => L - (intOf vq).toNat)
      case atStart => exact HQ0.out
      case round =>
        obtain ⟨q, m, rfl, hq, HTO, rfl⟩ := hrel
        clear HQ0
        by_cases hqL : q < L
        · obtain ⟨b2, o2, haB, cb⟩ := HBF.out q hqL
          subst haB
          have hbe := HBE.out q hqL
          obtain ⟨p, hp⟩ : ∃ p : Nat, nth (befN ts i) q = p := ⟨(nth (befN ts i) q).toNat, by omega⟩
          have HPQ : Hid (nth (befN ts i) q = p) := hp
          rw [hp] at cb hbe
          have holen : T = out.length := by have := HK.out.inv.len; have := HT.out; omega
          have co := HK.out.own.at_ holen p (by omega)
          obtain ⟨v, hv⟩ : ∃ v, nth out p = v := ⟨_, rfl⟩
          have HVE : Hid (nth out p = v) := hv
          rw [hv] at co
          have q0 : (0 : Int) ≤ (q : Int) := by omega
          have q1 : (q : Int) < (L : Int) := by omega
          have p0 : (0 : Int) ≤ (p : Int) := by omega
          have p1 : (p : Int) < (T : Int) := by omega
          clear hp hv holen
          by_cases hneg : v < 0
          · go_wp2
            go_ret3
            refine ⟨.inl ⟨?_, rfl⟩, below_drewN _ HBr.out⟩
            unfold takeL
            rw [HT.out]
            have hf := HK.out.inv.fail (by rw [HT.out]; exact HPE.out) (by rw [HT.out]; exact hkT) (by
              rw [HI.out, Int.toNat_natCast]
              cases h : toldB ts out i
              · rfl
              · exfalso
                unfold toldB at h
                rw [List.all_eq_true] at h
                have h2 := h (nth (befN ts i) q) (nth_mem (by rw [HLB.out]; exact hqL))
                rw [HPQ.out, Int.toNat_natCast, HVE.out, decide_eq_true_eq] at h2
                omega)
            rw [HT.out] at hf
            exact hf
          · go_wp2
            go_roundw
            case rel => exact ⟨q + 1, m, by go_num, by omega, fun j hj => by
              by_cases e : j = q
              · subst e; rw [HPQ.out, Int.toNat_natCast, HVE.out]; omega
              · exact HTO j (by omega), rfl⟩
            case measure => simp [intOf]; omega
        · have HTD : Hid (toldB ts out i = true) := by
            show toldB _ _ _ = true
            unfold toldB
            rw [List.all_eq_true]
            intro x hx
            obtain ⟨j, hj, rfl⟩ := List.getElem_of_mem hx
            have := HTO j (by have := HLB.out; omega)
            rw [nth_eq hj] at this
            exact decide_eq_true this
          have q2 : ¬ (q : Int) < (L : Int) := by omega
          clear HTO
          have hTT := HT.out
          have HTR : Hid (TasksR wr (.slice (some ⟨b, o, none⟩) T c) ts) := HTK.out.below HBr.out (Nat.le_refl _)
          have HSO2 : Hid (SmSt out T) := ⟨by have := HK.out.inv.len; omega, fun j hj => by
            have h1 := HK.out.inv.lo j (by omega)
            have h2 := HK.out.inv.hi j (by omega)
            have h3 := HSM.out.time j (by omega)
            omega⟩
          have HEA : Hid (∀ m, Calls Try.prog 75 #[.slice (some ⟨b, o, none⟩) T c, .slice (some ⟨go, 0, none⟩) T T, .int .i64 i] (wr.drewN m) fun e w' => e = .returned (.int .i64 (leastN ts out i)) ∧ ∃ q, w' = (wr.drewN m).drewN q) := fun m =>
            earliest_any _ _ ts out i (wr.drewN m) (HTR.out.below (below_drewN m (Below.refl wr.heap.size wr)) (Nat.le_refl _)) ((HK.out.own.ints).below (below_drewN m (Below.refl wr.heap.size wr)) (Nat.le_refl _)) HSM.out (by rw [hTT]; exact HSO2.out) (by rw [hTT]; exact hiT)
          have HNE : Hid (0 ≤ needN ts i ∧ needN ts i ≤ crew) := ⟨(HSM.out.need i (by rw [hTT]; exact hiT)).1, HND.out i (by rw [hTT]; exact hiT)⟩
          have HA0 : Hid (0 ≤ leastN ts out i ∧ leastN ts out i ≤ 600 + 300 * (k : Int)) := by
            have h1 := leastTo_le (B := 500 + 300 * (k : Int)) HSM.out (i := i) (out := out) (by rw [hTT]; exact hiT) (by omega) HK.out.inv.hi _ (Nat.le_refl _)
            have h2 := leastN_bounds (i := i) HSM.out (by rw [hTT]; exact HSO2.out) (by rw [hTT]; exact hiT)
            have h6 : leastN ts out i ≤ 500 + 300 * (k : Int) + 100 := h1
            show _ ∧ _
            omega
          have HFT : Hid (∀ (m : Nat) (vb vl : Value), Calls Try.prog 115 #[.pointer (some ⟨bc, 0, none⟩), .agg #[.int .i64 (timeN ts i), .int .i64 (needN ts i), vb, vl], .int .i64 (leastN ts out i)] (wr.drewN m) fun e w' =>
              ∃ (s : Int) (out' : List Int), e = .returned (.int .i64 s) ∧ Hid (out' = out.set i s) ∧ 0 ≤ s ∧ s ≤ 600 + 300 * (k : Int) ∧ Hid (OrdF T ts crew E go bc w.heap.size W5.heap.size (k + 1) W5 wr w' out out' i)) := fun m vb vl => by
            have h := fit_any bc W5.heap.size vU vb vl U crew (timeN ts i) (needN ts i) (leastN ts out i) (wr.drewN m) (HK.out.ownU.drewN m) HGB.out.1 (HK.out.frm.size) HK.out.used HK.out.crew HK.out.froz (by have := HSM.out.time i (by rw [hTT]; exact hiT); omega) HNE.out (by have := HCW.out; omega) (by have := HA0.out; omega) (by have := HK.out.len; omega) (fun t => by
              rw [HK.out.take t]
              have := useO_bounds (ts := ts) (out := out) (t := t) HSM.out T (by rw [hTT]; exact Nat.le_refl _)
              omega)
            refine h.mono ?_
            rintro e W ⟨s, vU', U', rfl, hfit, hsl, ho', hU', hl', hu', hc', hf', hfr⟩
            have hfit2 : Fit (fun t : Nat => useO ts out t ts.length) crew (needN ts i) (timeN ts i) (max (nth (zeroS T) i) (leastN ts out i)) s := by
              rw [max_zeroS]
              exact hfit.congr (fun t => by rw [HK.out.take t, hTT])
            have hs0 : 0 ≤ s := by have := HA0.out; have := hfit.le; omega
            have hsB : s ≤ 600 + 300 * (k : Int) := by have := HA0.out; have := HK.out.len; omega
            have hil : i < out.length := by have := HK.out.inv.len; omega
            refine ⟨s, out.set i s, rfl, rfl, hs0, hsB, ?_⟩
            refine ⟨?_, (HK.out.own.drewN m).frmO hfr (by have := HGB.out; omega) (by have := HGB.out; omega), ⟨vU', U', ho', hu', hc', hf', fun t => ?_, ?_⟩, (HK.out.frm.drewN m).frm hfr (Nat.le_refl _) (by simp)⟩
            · have h := HK.out.inv.step (by rw [hTT]; exact HPE.out) (by rw [hTT]; exact hkT) HSM.out (by rw [HI.out, Int.toNat_natCast]; exact HTD.out) (by rw [HI.out, Int.toNat_natCast]; exact hfit2) hs0 hsB
              rw [HI.out, Int.toNat_natCast] at h
              exact h
            · rw [hU' t, HK.out.take t, useO_set hil HNI.out hs0 T]
              by_cases q : s ≤ (t : Int) ∧ (t : Int) < s + timeN ts i
              · rw [if_pos q, if_pos ⟨hiT, q⟩]
              · rw [if_neg q, if_neg (fun x => q x.2)]
            · have h1 := HSM.out.time i (by rw [hTT]; exact hiT)
              have h2 := HA0.out
              have h3 := HK.out.len
              omega
          have HSA : Hid (∀ W, GrownL [go, bc] W5 W → W.cell? ⟨b, o + i * 4, none⟩ = some (.int .i64 (timeN ts i)) ∧ W.cell? ⟨b, o + i * 4 + 1, none⟩ = some (.int .i64 (needN ts i)) ∧ W.cell? ⟨b, o + i * 4 + 2, none⟩ = some (VB i) ∧ W.cell? ⟨b, o + i * 4 + 3, none⟩ = some (VL i)) := fun W hW => by
            have hb := hW.toBelow HB5.out HB5.out.size (fun j hj => by have := HGB.out; have := HGO.out; simp; omega)
            have hs := HSRC.out i hiT
            exact ⟨(hb.cell (p := ⟨b, o + i * 4, none⟩) hbw).trans hs.c0, (hb.cell (p := ⟨b, o + i * 4 + 1, none⟩) hbw).trans hs.c1, (hb.cell (p := ⟨b, o + i * 4 + 2, none⟩) hbw).trans hs.c2, (hb.cell (p := ⟨b, o + i * 4 + 3, none⟩) hbw).trans hs.c3⟩
          obtain ⟨tmI, htmI⟩ : ∃ x, timeN ts i = x := ⟨_, rfl⟩
          obtain ⟨ndI, hndI⟩ : ∃ x, needN ts i = x := ⟨_, rfl⟩
          obtain ⟨leI, hleI⟩ : ∃ x, leastN ts out i = x := ⟨_, rfl⟩
          obtain ⟨VBi, hVBi⟩ : ∃ x, VB i = x := ⟨_, rfl⟩
          obtain ⟨VLi, hVLi⟩ : ∃ x, VL i = x := ⟨_, rfl⟩
          rw [htmI] at HSA HFT
          rw [hndI] at HSA HFT
          rw [hVBi] at HSA
          rw [hVLi] at HSA
          rw [hleI] at HEA HFT HA0
          have HDL : Hid (T = out.length ∧ i < out.length) := by have := HK.out.inv.len; show _ ∧ _; omega
          obtain ⟨d0, d1, d2, d3⟩ := HSA.out wr HK.out.frm
          clear htmI hndI hleI hVBi hVLi hTT c2 ce bcap HTR HSO2 HNE
          have i2 : (i : Int).toNat = i := Int.toNat_natCast _
          go_wp2
          go_region_held3 (fun w' => w'.cell? ⟨b, o + i * 4, none⟩ = some (.int .i64 tmI) ∧ w'.cell? ⟨b, o + i * 4 + 1, none⟩ = some (.int .i64 ndI) ∧ w'.cell? ⟨b, o + i * 4 + 2, none⟩ = some VBi ∧ w'.cell? ⟨b, o + i * 4 + 3, none⟩ = some VLi)
            (first | go_keep | exact HS8.out | exact HSA.out _ HK8.out.frm)
            (first
              | (go_at_call 75; refine (HEA.out _).mono ?_; rintro e W7 ⟨rfl, q7, rfl⟩)
              | (go_at_call 115; refine (HFT.out _ _ _).mono ?_; rintro e W8 ⟨s, out8, rfl, HO8, s0, s1, HF8⟩; obtain ⟨f1, f2, vU8, U8, K8⟩ := HF8.out.put HO8.out hiT HDL.out.1 HGB.out.2 HGB.out.1 (Nat.le_refl _); have HK8 := Lib.hid K8; have HS8 := Lib.hid (HSA.out W8 HF8.out.frm); clear K8 HF8))
          go_wp2
          go_roundw
          case rel => exact ⟨k + 1, out8, vU8, U8, by go_num, by omega, HK8⟩
          case measure => simp [intOf]; omega
    · have k2 : ¬ (k : Int) < (T : Int) := by omega
      obtain rfl : k = T := by omega
      have HBr : Hid (Below w.heap.size w wr) := HK.out.frm.toBelow HB5.out HB5.out.size (fun j hj => by have := HGB.out; have := HGO.out; simp; omega)
      have HSO2 : Hid (SmSt out k) := ⟨by have := HK.out.inv.len; have := HT.out; omega, fun j hj => by
        have := HT.out
        have h1 := HK.out.inv.lo j (by omega)
        have h2 := HK.out.inv.hi j (by omega)
        have h3 := HSM.out.time j (by omega)
        omega⟩
      have HLE : Hid (Calls Try.prog 78 #[.slice (some ⟨b, o, none⟩) k c, .slice (some ⟨go, 0, none⟩) k k] wr fun e w' => e = .returned (.int .i64 (endTo ts out k)) ∧ Below wr.heap.size wr w') := by
        have h := lastEnd_any (.slice (some ⟨b, o, none⟩) k c) (.slice (some ⟨go, 0, none⟩) k k) ts out wr (HTK.out.below HBr.out (Nat.le_refl _)) HK.out.own.ints HSM.out (by rw [HT.out]; exact HSO2.out)
        rw [HT.out] at h
        exact h
      have HDN : Hid (takeL ts crew E = some out) := by
        show _ = _
        have h := HK.out.inv
        have hk2 := HT.out
        unfold takeL
        rw [hk2]
        have h3 := TakeI.done (by rw [hk2]; exact h) (by rw [hk2]; exact HPE.out)
        rw [hk2] at h3
        exact h3
      clear hkT
      go_wp2_with fail
      refine HLE.out.mono ?_
      rintro e W9 ⟨rfl, hb9⟩
      have HB9 : Hid (Below w.heap.size w W9) := HBr.out.trans (hb9.mono HBr.out.size)
      have HO9 := Lib.hid (HK.out.own.below hb9 (Nat.le_refl _))
      clear hb9 HLE
      go_wp2
      go_ret3
      exact ⟨.inr ⟨out, go, HDN.out, HSO2.out, rfl, HO9.out⟩, HB9.out⟩
end Go.Proofs.Ytcjeededlhdcbaa

namespace Go.Proofs.Ytcjeededlhdcbaa
open Go.RowKit
set_option linter.unusedVariables false
set_option linter.unusedSimpArgs false

set_option maxRecDepth 100000 in
theorem fitsTest_any (bc : Nat) (t nd crew : Int) (vb vl : Value) (w : World) (hb : Boxed w bc 2 (.int .i64 crew)) (h : nd ≤ crew) :
    Calls Try.prog 113 #[.agg #[.int .i64 t, .int .i64 nd, vb, vl], .pointer (some ⟨bc, 0, none⟩)] w fun e w' => e = .returned (.bool false) ∧ Below w.heap.size w w' := by
  have hbc := hb.cell
  have hlt := hb.lt
  have h2 : ¬ nd > crew := by omega
  have h3 : ¬ crew < nd := by omega
  have HB : Hid (Below w.heap.size w (w.alloc (.cells #[.int .i64 t, .int .i64 nd, vb, vl] 40))) := (Below.refl _ w).alloc (Nat.le_refl _) _
  have hne : ¬ bc = w.heap.size := by omega
  go_enter Try.func113, Try.ntmps113
  go_wp2
  go_ret
  exact ⟨rfl, HB.out⟩
def IdxTR (L : Nat) (w : World) (vk : Value) (wr : World) : Prop := ∃ (k : Nat), vk = .int .i64 k ∧ k ≤ L ∧ Hid (Below w.heap.size w wr)
set_option maxRecDepth 100000 in
set_option maxHeartbeats 1000000 in
theorem fitsIdx_any (vt : Value) (ts : List Tk) (bc : Nat) (crew : Int) (w : World) (ht : TasksR w vt ts) (hsm : SmTs ts) (hb : Boxed w bc 2 (.int .i64 crew)) (hneed : ∀ i, i < ts.length → needN ts i ≤ crew) :
    Calls Try.prog 150 #[vt, .func (.func 113) #[] #[.pointer (some ⟨bc, 0, none⟩)]] w fun e w' => e = .returned (.int .i64 (-1)) ∧ Below w.heap.size w w' := by
  obtain ⟨b, o, c, VB, VL, rfl, hcap, hbw, hsrc⟩ := ht.src hsm.n1
  have HSRC : Hid (∀ i, i < ts.length → TkSrc w b o ts VB VL i) := hsrc
  have HND : Hid (∀ i, i < ts.length → needN ts i ≤ crew) := hneed
  have h16 := hsm.n16
  have HBX := Lib.hid hb
  have heg := enters_of Try.func113 (by kernel_rfl) rfl
  obtain ⟨T, hT⟩ : ∃ T, ts.length = T := ⟨_, rfl⟩
  rw [hT] at HSRC HND h16 hcap ⊢
  clear ht hsm hsrc hneed hb hT
  have HR0 : Hid (IdxTR T w (.int .i64 0) w) := ⟨0, rfl, Nat.zero_le _, Below.refl _ _⟩
  go_enter Try.func150, Try.ntmps150
  go_wp2
  go_loopw [8] (fun vk wr => IdxTR T w vk wr) (fun vk _ => T - (intOf vk).toNat)
  case atStart => exact HR0.out
  case round =>
    obtain ⟨k, rfl, hk, HB⟩ := hrel
    clear HR0
    by_cases hkT : k < T
    · have k0 : (0 : Int) ≤ (k : Int) := by omega
      have k1 : (k : Int) < (T : Int) := by omega
      have hs := HSRC.out k hkT
      have c0 : wr.cell? ⟨b, o + k * 4, none⟩ = some (.int .i64 (timeN ts k)) := (HB.out.cell (p := ⟨b, o + k * 4, none⟩) hbw).trans hs.c0
      have c1 : wr.cell? ⟨b, o + k * 4 + 1, none⟩ = some (.int .i64 (needN ts k)) := (HB.out.cell (p := ⟨b, o + k * 4 + 1, none⟩) hbw).trans hs.c1
      have c2 : wr.cell? ⟨b, o + k * 4 + 2, none⟩ = some (VB k) := (HB.out.cell (p := ⟨b, o + k * 4 + 2, none⟩) hbw).trans hs.c2
      have c3 : wr.cell? ⟨b, o + k * 4 + 3, none⟩ = some (VL k) := (HB.out.cell (p := ⟨b, o + k * 4 + 3, none⟩) hbw).trans hs.c3
      have HT := Lib.hid (fitsTest_any bc (timeN ts k) (needN ts k) crew (VB k) (VL k) wr ((HB.out.block bc HBX.out.lt).trans HBX.out) (HND.out k hkT))
      obtain ⟨x0, h0⟩ : ∃ x, timeN ts k = x := ⟨_, rfl⟩
      obtain ⟨x1, h1⟩ : ∃ x, needN ts k = x := ⟨_, rfl⟩
      obtain ⟨x2, h2⟩ : ∃ x, VB k = x := ⟨_, rfl⟩
      obtain ⟨x3, h3⟩ : ∃ x, VL k = x := ⟨_, rfl⟩
      rw [h0] at c0 HT
      rw [h1] at c1 HT
      rw [h2] at c2 HT
      rw [h3] at c3 HT
      clear h0 h1 h2 h3 hs
      go_wp2_with fail
      refine HT.out.mono ?_
      rintro e W2 ⟨rfl, hb2⟩
      have HB2 : Hid (Below w.heap.size w W2) := HB.out.trans (hb2.mono HB.out.size)
      clear hb2 HT
      go_wp2
      go_roundw
      case rel => exact ⟨k + 1, by go_num, by omega, HB2.out⟩
      case measure => simp [intOf]; omega
    · have k1 : ¬ (k : Int) < (T : Int) := by omega
      clear hkT
      go_wp2
      go_ret
      exact ⟨rfl, HB.out⟩
set_option maxRecDepth 100000 in
theorem fitsHas_any (vt : Value) (ts : List Tk) (bc : Nat) (crew : Int) (w : World) (ht : TasksR w vt ts) (hsm : SmTs ts) (hb : Boxed w bc 2 (.int .i64 crew)) (hneed : ∀ i, i < ts.length → needN ts i ≤ crew) :
    Calls Try.prog 112 #[vt, .func (.func 113) #[] #[.pointer (some ⟨bc, 0, none⟩)]] w fun e w' => e = .returned (.bool false) ∧ Below w.heap.size w w' := by
  have HC := Lib.hid (fitsIdx_any vt ts bc crew w ht hsm hb hneed)
  obtain ⟨b, o, c, VB, VL, rfl, hcap, hbw, hsrc⟩ := ht.src hsm.n1
  clear ht hsm hb hneed hsrc
  go_enter Try.func112, Try.ntmps112
  go_wp2_with fail
  refine HC.out.mono ?_
  rintro e W2 ⟨rfl, hb⟩
  have HB := Lib.hid hb
  clear hb
  go_wp2
  go_ret
  exact ⟨rfl, HB.out⟩
set_option maxRecDepth 100000 in
theorem fitsCrew_any (vt : Value) (ts : List Tk) (crew : Int) (w : World) (ht : TasksR w vt ts) (hok : tasksOk ts = true) (hcr : 0 ≤ crew ∧ crew ≤ 20) (hneed : ∀ i, i < ts.length → needN ts i ≤ crew) :
    Calls Try.prog 53 #[vt, .int .i64 crew] w fun e w' => e = .returned (.bool true) ∧ Below w.heap.size w w' := by
  have hsm := tasks_sm hok
  obtain ⟨W0, hW0⟩ : ∃ W, w.alloc (.cells #[.int .i64 crew] 2) = W := ⟨_, rfl⟩
  have HB0 : Hid (Below w.heap.size w W0) := by show Below _ _ _; rw [← hW0]; exact (Below.refl _ w).alloc (Nat.le_refl _) _
  have HBX : Hid (Boxed W0 w.heap.size 2 (.int .i64 crew)) := by show Boxed _ _ _ _; rw [← hW0]; exact Boxed.new _ _ _
  have HA := Lib.hid (areTasks_any vt ts W0 (ht.below HB0.out (Nat.le_refl _)))
  rw [hok] at HA
  have HAC : Hid (∀ W, Calls Try.prog 74 #[.int .i64 crew] W fun e w' => e = .returned (.bool true) ∧ W = w') := fun W => by
    have h := areCrew_any crew W
    rwa [win_true.2 hcr] at h
  have HHS : Hid (∀ W, Below w.heap.size w W → Boxed W w.heap.size 2 (.int .i64 crew) → Calls Try.prog 112 #[vt, .func (.func 113) #[] #[.pointer (some ⟨w.heap.size, 0, none⟩)]] W fun e w' => e = .returned (.bool false) ∧ Below W.heap.size W w') := fun W hW hb => fitsHas_any vt ts w.heap.size crew W (ht.below hW (Nat.le_refl _)) hsm hb hneed
  obtain ⟨b, o, c, VB, VL, rfl, hcap, hbw, hsrc⟩ := ht.src hsm.n1
  clear ht hok hsm hcr hneed hsrc
  go_enter Try.func53, Try.ntmps53
  go_wp2_with fail
  clear hW0
  refine HA.out.mono ?_
  rintro e W1 ⟨rfl, hb1⟩
  have HB1 : Hid (Below w.heap.size w W1) := HB0.out.trans (hb1.mono HB0.out.size)
  have HX1 : Hid (Boxed W1 w.heap.size 2 (.int .i64 crew)) := (hb1.block _ HBX.out.lt).trans HBX.out
  have hbc := HX1.out.cell
  clear hb1 HA
  go_wp2_with fail
  refine (HAC.out _).mono ?_
  rintro e w' ⟨rfl, rfl⟩
  go_wp2_with fail
  refine (HHS.out _ HB1.out HX1.out).mono ?_
  rintro e W2 ⟨rfl, hb2⟩
  have HB2 : Hid (Below w.heap.size w W2) := HB1.out.trans (hb2.mono HB1.out.size)
  clear hb2
  go_wp2
  go_ret
  exact ⟨rfl, HB2.out⟩
end Go.Proofs.Ytcjeededlhdcbaa

namespace Go.Proofs.Ytcjeededlhdcbaa
open Go.RowKit
set_option linter.unusedVariables false
set_option linter.unusedSimpArgs false

set_option maxRecDepth 100000 in
theorem RulePlan_any (vt : Value) (ts : List Tk) (kind crew : Int) (w : World) (ht : TasksR w vt ts) (hok : tasksOk ts = true) (hkd : kind = 0 ∨ kind = 1 ∨ kind = 2 ∨ kind = 3) (hcr : 0 ≤ crew ∧ crew ≤ 20) (hneed : ∀ i, i < ts.length → needN ts i ≤ crew) :
    Calls Try.prog 9 #[vt, .int .i64 kind, .int .i64 crew] w fun e w' => ((takeL ts crew (ruleN ts kind) = none ∧ e = .returned (.tuple #[.slice none 0 0, .int .i64 0, .bool false])) ∨
      ∃ out g, takeL ts crew (ruleN ts kind) = some out ∧ SmSt out ts.length ∧ e = .returned (.tuple #[.slice (some ⟨g, 0, none⟩) ts.length ts.length, .int .i64 (endTo ts out ts.length), .bool true]) ∧ OwnI w' w.heap.size (.slice (some ⟨g, 0, none⟩) ts.length ts.length) out) ∧ Below w.heap.size w w' := by
  have hsm := tasks_sm hok
  have HF := Lib.hid (fitsCrew_any vt ts crew w ht hok hcr hneed)
  have HWI : Hid (∀ W, Calls Try.prog 54 #[.int .i64 kind, .int .i64 0, .int .i64 3] W fun e w' => e = .returned (.bool true) ∧ W = w') := fun W => by
    have h := within_any kind 0 3 W
    rwa [show win kind 0 3 = true from win_true.2 (by omega)] at h
  have HRU : Hid (∀ W, Below w.heap.size w W → Calls Try.prog 56 #[vt, .int .i64 kind] W fun x w' => (∃ g c, x = .returned (.slice (some ⟨g, 0, none⟩) ts.length c) ∧ OwnI w' W.heap.size (.slice (some ⟨g, 0, none⟩) ts.length c) (ruleN ts kind)) ∧ Below W.heap.size W w') := fun W hW => ruleOrder_any vt ts kind W (ht.below hW (Nat.le_refl _)) hok hkd
  have HP : Hid (∀ vo W, Below w.heap.size w W → Ints W vo (ruleN ts kind) → Calls Try.prog 55 #[vt, vo, .int .i64 crew] W fun e w' => ((takeL ts crew (ruleN ts kind) = none ∧ e = .returned (.tuple #[.slice none 0 0, .int .i64 0, .bool false])) ∨
      ∃ out g, takeL ts crew (ruleN ts kind) = some out ∧ SmSt out ts.length ∧ e = .returned (.tuple #[.slice (some ⟨g, 0, none⟩) ts.length ts.length, .int .i64 (endTo ts out ts.length), .bool true]) ∧ OwnI w' W.heap.size (.slice (some ⟨g, 0, none⟩) ts.length ts.length) out) ∧ Below W.heap.size W w') := fun vo W hW ho => orderPlan_any vt vo ts (ruleN ts kind) crew W (ht.below hW (Nat.le_refl _)) ho (ruleN_ok hsm kind).perm hsm hcr hneed
  obtain ⟨b, o, c, VB, VL, rfl, hcap, hbw, hsrc⟩ := ht.src hsm.n1
  clear ht hok hsm hcr hneed hsrc hkd
  go_enter Try.func9, Try.ntmps9
  go_wp2_with fail
  refine HF.out.mono ?_
  rintro e W1 ⟨rfl, hb1⟩
  have HB1 := Lib.hid hb1
  clear hb1 HF
  go_wp2_with fail
  refine (HWI.out _).mono ?_
  rintro e w' ⟨rfl, rfl⟩
  go_wp2_with fail
  refine (HRU.out W1 HB1.out).mono ?_
  rintro e W2 ⟨⟨ge, ce, rfl, ho2⟩, hb2⟩
  have HB2 : Hid (Below w.heap.size w W2) := HB1.out.trans (hb2.mono HB1.out.size)
  have HPX := Lib.hid (HP.out _ W2 HB2.out ho2.ints)
  clear hb2 ho2 HRU HP
  go_wp2_with fail
  refine HPX.out.mono ?_
  rintro e W3 ⟨hr, hb3⟩
  have HB3 : Hid (Below w.heap.size w W3) := HB2.out.trans (hb3.mono HB2.out.size)
  clear hb3 HPX
  rcases hr with ⟨h1, rfl⟩ | ⟨out, g, h1, h2, rfl, h3⟩
  · have H1 := Lib.hid h1
    clear h1
    go_wp2
    go_ret3
    exact ⟨.inl ⟨H1.out, rfl⟩, HB3.out⟩
  · have H1 := Lib.hid h1
    have H2 := Lib.hid h2
    have H3 := Lib.hid h3
    clear h1 h2 h3
    go_wp2
    go_ret3
    exact ⟨.inr ⟨out, g, H1.out, H2.out, rfl, H3.out.mono HB2.out.size⟩, HB3.out⟩
end Go.Proofs.Ytcjeededlhdcbaa

namespace Go.Proofs.Ytcjeededlhdcbaa
open Go.RowKit
set_option linter.unusedVariables false
set_option linter.unusedSimpArgs false

/-- All orders that begin with p (d more numbers), handed to step one after another. -/
def permTo {σ : Type} (rec_ : List Int → σ → σ) (p : List Int) (s : σ) (m : Nat) : σ :=
  (List.range m).foldl (fun a (i : Nat) => if p.contains (i : Int) then a else rec_ (p ++ [(i : Int)]) a) s
def permF {σ : Type} (n : Nat) (step : σ → List Int → σ) : Nat → List Int → σ → σ
  | 0, p, s => step s p
  | d + 1, p, s => permTo (permF n step d) p s n
theorem permTo_succ {σ : Type} (rec_ : List Int → σ → σ) (p : List Int) (s : σ) (m : Nat) :
    permTo rec_ p s (m + 1) = if p.contains (m : Int) then permTo rec_ p s m else rec_ (p ++ [(m : Int)]) (permTo rec_ p s m) := by
  unfold permTo; rw [List.range_succ, List.foldl_append]; rfl
/-- All orders that begin with p. -/
def permL (n : Nat) : Nat → List Int → List (List Int)
  | 0, p => [p]
  | d + 1, p => (List.range n).flatMap fun (i : Nat) => if p.contains (i : Int) then [] else permL n d (p ++ [(i : Int)])
theorem foldl_flat {α β σ : Type} (f : α → List β) (g : σ → β → σ) : ∀ (l : List α) (s : σ), (l.flatMap f).foldl g s = l.foldl (fun a x => (f x).foldl g a) s
  | [], s => rfl
  | x :: l, s => by rw [List.flatMap_cons, List.foldl_append, foldl_flat f g l]; rfl
theorem foldl_same {α σ : Type} {f g : σ → α → σ} : ∀ (l : List α) (s : σ), (∀ a, ∀ x ∈ l, f a x = g a x) → l.foldl f s = l.foldl g s
  | [], s, _ => rfl
  | x :: l, s, h => by
    rw [List.foldl_cons, List.foldl_cons, h s x List.mem_cons_self]
    exact foldl_same l _ (fun a y hy => h a y (List.mem_cons_of_mem _ hy))
theorem permF_eq {σ : Type} (n : Nat) (step : σ → List Int → σ) : ∀ (d : Nat) (p : List Int) (s : σ), permF n step d p s = (permL n d p).foldl step s
  | 0, p, s => rfl
  | d + 1, p, s => by
    show permTo _ p s n = ((List.range n).flatMap _).foldl step s
    rw [foldl_flat]
    unfold permTo
    refine foldl_same _ _ fun a i _ => ?_
    by_cases h : p.contains (i : Int) = true
    · rw [if_pos h, if_pos h]; rfl
    · rw [if_neg h, if_neg h]; exact permF_eq n step d _ a
/-- Numbers below n, each once. -/
structure PreOk (n : Nat) (p : List Int) : Prop where
  nodup : p.Pairwise fun x y => x ≠ y
  lt : ∀ x ∈ p, 0 ≤ x ∧ x < (n : Int)
theorem PreOk.nil (n : Nat) : PreOk n [] := ⟨List.Pairwise.nil, fun x hx => by simp at hx⟩
theorem PreOk.push {n : Nat} {p : List Int} (h : PreOk n p) {i : Nat} (hi : i < n) (hc : p.contains (i : Int) = false) : PreOk n (p ++ [(i : Int)]) := by
  refine ⟨List.pairwise_append.2 ⟨h.nodup, by simp, fun x hx y hy => ?_⟩, fun x hx => ?_⟩
  · rw [List.mem_singleton] at hy
    subst hy
    rintro rfl
    rw [List.contains_iff_mem.2 hx] at hc
    cases hc
  · rcases List.mem_append.1 hx with h1 | h1
    · exact h.lt x h1
    · rw [List.mem_singleton] at h1
      omega
theorem PreOk.len {n : Nat} {p : List Int} (h : PreOk n p) : p.length ≤ n := by
  have := sub_len p (idL n) h.nodup (fun x hx => idL_mem.2 (h.lt x hx))
  rwa [idL_length] at this
theorem PreOk.perm {n : Nat} {p : List Int} (h : PreOk n p) (hl : p.length = n) : p.Perm (idL n) :=
  sub_perm p (idL n) h.nodup (fun x hx => idL_mem.2 (h.lt x hx)) (by rw [idL_length]; omega)
theorem PreOk.of_perm {n : Nat} {p : List Int} (h : p.Perm (idL n)) : PreOk n p :=
  ⟨perm_nodup h, fun x hx => idL_mem.1 (h.mem_iff.1 hx)⟩
theorem PreOk.left {n : Nat} {p q : List Int} (h : PreOk n (p ++ q)) : PreOk n p :=
  ⟨(List.pairwise_append.1 h.nodup).1, fun x hx => h.lt x (List.mem_append_left _ hx)⟩
theorem permL_pre {n : Nat} : ∀ {d : Nat} {p E : List Int}, E ∈ permL n d p → ∃ q, E = p ++ q ∧ q.length = d
  | 0, p, E, h => ⟨[], by simpa [permL] using h, rfl⟩
  | d + 1, p, E, h => by
    obtain ⟨i, hi, h2⟩ := List.mem_flatMap.1 h
    split at h2
    · cases h2
    · obtain ⟨q, rfl, hq⟩ := permL_pre h2
      exact ⟨(i : Int) :: q, by simp, by simp [hq]⟩
theorem permL_ok {n : Nat} : ∀ {d : Nat} {p E : List Int}, PreOk n p → E ∈ permL n d p → PreOk n E
  | 0, p, E, hp, h => by
    have : E = p := by simpa [permL] using h
    rw [this]; exact hp
  | d + 1, p, E, hp, h => by
    obtain ⟨i, hi, h2⟩ := List.mem_flatMap.1 h
    split at h2
    · cases h2
    · rename_i hc
      exact permL_ok (hp.push (List.mem_range.1 hi) (by simpa using hc)) h2
theorem mem_permL {n : Nat} : ∀ (q p : List Int), PreOk n (p ++ q) → p ++ q ∈ permL n q.length p
  | [], p, h => by simp [permL]
  | x :: q, p, h => by
    have hx := h.lt x (by simp)
    obtain ⟨i, rfl⟩ : ∃ i : Nat, x = i := ⟨x.toNat, by omega⟩
    show _ ∈ (List.range n).flatMap _
    refine List.mem_flatMap.2 ⟨i, List.mem_range.2 (by omega), ?_⟩
    have hc : ¬ p.contains (i : Int) = true := by
      intro hc
      exact (List.pairwise_append.1 h.nodup).2.2 _ (List.contains_iff_mem.1 hc) _ List.mem_cons_self rfl
    rw [if_neg hc]
    have h2 : p ++ (i : Int) :: q = (p ++ [(i : Int)]) ++ q := by simp
    rw [h2] at h ⊢
    exact mem_permL q _ h
theorem permL_perm {n : Nat} {E : List Int} : E ∈ permL n n [] ↔ E.Perm (idL n) := by
  constructor
  · intro h
    obtain ⟨q, rfl, hq⟩ := permL_pre h
    exact (permL_ok (PreOk.nil n) h).perm (by simpa using hq)
  · intro h
    have hl : E.length = n := by rw [h.length_eq, idL_length]
    have := mem_permL E [] (by simpa using PreOk.of_perm h)
    rwa [hl, List.nil_append] at this

/-- The first one with the least number. -/
def flStep (f : List Int → Option Int) (s : Option (List Int × Int)) (E : List Int) : Option (List Int × Int) :=
  match f E with
  | none => s
  | some x => match s with
    | none => some (E, x)
    | some b => if x < b.2 then some (E, x) else s
theorem flStep_none {f : List Int → Option Int} {s : Option (List Int × Int)} {E : List Int} (h : f E = none) : flStep f s E = s := by unfold flStep; rw [h]
theorem fl_spec (f : List Int → Option Int) : ∀ (L : List (List Int)) (s : Option (List Int × Int)),
    (L.foldl (flStep f) s = none → s = none ∧ ∀ E ∈ L, f E = none) ∧
    ∀ b l, L.foldl (flStep f) s = some (b, l) → (s = some (b, l) ∨ (b ∈ L ∧ f b = some l)) ∧ (∀ E ∈ L, ∀ x, f E = some x → l ≤ x) ∧ ∀ b0 l0, s = some (b0, l0) → l ≤ l0
  | [], s => ⟨fun h => ⟨h, fun E hE => by simp at hE⟩, fun b l h => ⟨.inl h, fun E hE => by simp at hE, fun b0 l0 h0 => by
      have h1 : s = some (b, l) := h
      rw [h0] at h1; injection h1 with h1; injection h1 with h1 h2; omega⟩⟩
  | E :: L, s => by
    obtain ⟨h1, h2⟩ := fl_spec f L (flStep f s E)
    rw [List.foldl_cons]
    cases hf : f E with
    | none =>
      rw [flStep_none hf] at h1 h2 ⊢
      refine ⟨fun h => ⟨(h1 h).1, fun E' hE' => ?_⟩, fun b l h => ?_⟩
      · rcases List.mem_cons.1 hE' with rfl | h3
        · exact hf
        · exact (h1 h).2 _ h3
      · obtain ⟨a1, a2, a3⟩ := h2 b l h
        refine ⟨a1.imp id (fun q => ⟨List.mem_cons_of_mem _ q.1, q.2⟩), fun E' hE' x hx => ?_, a3⟩
        rcases List.mem_cons.1 hE' with rfl | h3
        · rw [hf] at hx; cases hx
        · exact a2 _ h3 x hx
    | some x =>
      have key : ∃ b1 l1, flStep f s E = some (b1, l1) ∧ l1 ≤ x ∧ ((s = some (b1, l1)) ∨ (b1 = E ∧ l1 = x)) ∧ ∀ b0 l0, s = some (b0, l0) → l1 ≤ l0 := by
        unfold flStep
        rw [hf]
        cases s with
        | none => exact ⟨E, x, rfl, Int.le_refl _, .inr ⟨rfl, rfl⟩, fun b0 l0 h => by cases h⟩
        | some b =>
          by_cases hb : x < b.2
          · refine ⟨E, x, if_pos hb, Int.le_refl _, .inr ⟨rfl, rfl⟩, fun b0 l0 h => ?_⟩
            injection h with h; subst h; exact Int.le_of_lt hb
          · refine ⟨b.1, b.2, if_neg hb, by omega, .inl rfl, fun b0 l0 h => ?_⟩
            injection h with h; subst h; exact Int.le_refl _
      obtain ⟨b1, l1, k1, k2, k3, k4⟩ := key
      rw [k1] at h1 h2 ⊢
      refine ⟨fun h => absurd (h1 h).1 (by simp), fun b l h => ?_⟩
      obtain ⟨a1, a2, a3⟩ := h2 b l h
      have hl1 := a3 b1 l1 rfl
      refine ⟨?_, fun E' hE' y hy => ?_, fun b0 l0 h0 => Int.le_trans hl1 (k4 b0 l0 h0)⟩
      · rcases a1 with e | ⟨e1, e2⟩
        · injection e with e; injection e with e1 e2; subst e1 e2
          rcases k3 with e | ⟨e1, e2⟩
          · exact .inl e
          · exact .inr ⟨by rw [e1]; exact List.mem_cons_self, by rw [e1, e2]; exact hf⟩
        · exact .inr ⟨List.mem_cons_of_mem _ e1, e2⟩
      · rcases List.mem_cons.1 hE' with rfl | h3
        · rw [hf] at hy; injection hy with hy; omega
        · exact a2 _ h3 y hy
/-- The first of the least ones of all orders. -/
def firstL (n : Nat) (f : List Int → Option Int) : Option (List Int × Int) := permF n (flStep f) n [] none
theorem firstL_spec {n : Nat} {f : List Int → Option Int} : (firstL n f = none → ∀ E : List Int, E.Perm (idL n) → f E = none) ∧
    ∀ b l, firstL n f = some (b, l) → b.Perm (idL n) ∧ f b = some l ∧ ∀ E : List Int, E.Perm (idL n) → ∀ x, f E = some x → l ≤ x := by
  have h := fl_spec f (permL n n []) none
  unfold firstL
  rw [permF_eq]
  refine ⟨fun h0 E hE => (h.1 h0).2 E (permL_perm.2 hE), fun b l h0 => ?_⟩
  obtain ⟨a1, a2, _⟩ := h.2 b l h0
  rcases a1 with e | ⟨e1, e2⟩
  · cases e
  · exact ⟨permL_perm.1 e1, e2, fun E hE x hx => a2 E (permL_perm.2 hE) x hx⟩
end Go.Proofs.Ytcjeededlhdcbaa

namespace Go.Proofs.Ytcjeededlhdcbaa
open Go.RowKit
set_option linter.unusedVariables false
set_option linter.unusedSimpArgs false

def tryTo {σ : Type} (rec_ : List Int → σ → σ) (ok : Nat → Bool) (p : List Int) (s : σ) (m : Nat) : σ :=
  (List.range m).foldl (fun a (i : Nat) => if ok i = true then rec_ (p ++ [(i : Int)]) a else a) s
theorem tryTo_succ {σ : Type} (rec_ : List Int → σ → σ) (ok : Nat → Bool) (p : List Int) (s : σ) (m : Nat) :
    tryTo rec_ ok p s (m + 1) = if ok m = true then rec_ (p ++ [(m : Int)]) (tryTo rec_ ok p s m) else tryTo rec_ ok p s m := by
  unfold tryTo; rw [List.range_succ, List.foldl_append]; rfl
/-- Only those that are free come next. -/
def tryF {σ : Type} (ts : List Tk) (step : σ → List Int → σ) : Nat → List Int → σ → σ
  | 0, p, s => step s p
  | d + 1, p, s => tryTo (tryF ts step d) (freeB ts p) p s ts.length
theorem mendL_append (ts : List Tk) (st : List Int) (crew : Int) : ∀ (p r out : List Int), mendL ts st crew (p ++ r) out = (mendL ts st crew p out).bind (mendL ts st crew r)
  | [], r, out => by
    conv => rhs; unfold mendL
    rfl
  | i :: p, r, out => by
    rw [List.cons_append]
    unfold mendL
    split
    · exact mendL_append ts st crew p r _
    · rfl
theorem mendL_else {ts : List Tk} {st : List Int} {crew : Int} : ∀ (p out o : List Int) (j : Nat), mendL ts st crew p out = some o → (∀ y ∈ p, y.toNat ≠ j) → nth o j = nth out j
  | [], out, o, j, h, _ => by
    unfold mendL at h
    injection h with h
    rw [h]
  | i :: p, out, o, j, h, hn => by
    unfold mendL at h
    split at h
    · rw [mendL_else p _ o j h (fun y hy => hn y (List.mem_cons_of_mem _ hy))]
      have hij := hn i List.mem_cons_self
      unfold mendS nth
      simp only [List.getD_eq_getElem?_getD, List.getElem?_set_ne hij]
    · cases h
/-- What is taken stands behind its Before. -/
theorem takeL_told {ts : List Tk} {crew : Int} {p q : List Int} {i : Nat} (hsm : SmTs ts) (hi : i < ts.length) (hp : PreOk ts.length p) (h : takeL ts crew (p ++ (i : Int) :: q) ≠ none) : (befN ts i).all (fun b => p.contains b) = true := by
  unfold takeL at h
  rw [mendL_append] at h
  cases hm : mendL ts (zeroS ts.length) crew p (noneL ts.length) with
  | none => rw [hm] at h; exact absurd rfl h
  | some o =>
    rw [hm, Option.bind_some] at h
    unfold mendL at h
    split at h
    · rename_i ht
      rw [List.all_eq_true]
      intro b hb
      obtain ⟨k, hk, rfl⟩ := List.getElem_of_mem hb
      rw [Int.toNat_natCast] at ht
      have h1 := toldB_iff.1 ht k hk
      have h2 := hsm.bef i hi k hk
      rw [nth_eq hk] at h1 h2
      rw [List.contains_iff_mem]
      rcases Classical.em ((befN ts i)[k] ∈ p) with hin | hin
      · exact hin
      · exfalso
        have h3 := mendL_else p _ o (befN ts i)[k].toNat hm (fun y hy e => by
          have := hp.lt y hy
          apply hin
          rw [show (befN ts i)[k] = y by omega]; exact hy)
        have h4 : nth (noneL ts.length) (befN ts i)[k].toNat = -1 := by unfold noneL; exact nth_replicate (by omega)
        omega
    · exact absurd rfl h
theorem foldl_stay {α σ : Type} {f : σ → α → σ} : ∀ (l : List α) (s : σ), (∀ a, ∀ x ∈ l, f a x = a) → l.foldl f s = s
  | [], s, _ => rfl
  | x :: l, s, h => by
    rw [List.foldl_cons, h s x List.mem_cons_self]
    exact foldl_stay l s (fun a y hy => h a y (List.mem_cons_of_mem _ hy))
theorem permF_tryF {σ : Type} {ts : List Tk} {crew : Int} {step : σ → List Int → σ} (hsm : SmTs ts) (hst : ∀ s E, takeL ts crew E = none → step s E = s) : ∀ (d : Nat) (p : List Int) (s : σ), PreOk ts.length p → permF ts.length step d p s = tryF ts step d p s
  | 0, p, s, _ => rfl
  | d + 1, p, s, hp => by
    show permTo _ p s _ = tryTo _ _ p s _
    unfold permTo tryTo
    refine foldl_same _ _ fun a i hi => ?_
    have hin : i < ts.length := List.mem_range.1 hi
    cases hc : p.contains (i : Int)
    · rw [if_neg (by simp)]
      have hfr : freeB ts p i = (befN ts i).all (fun b => p.contains b) := by unfold freeB; rw [hc]; rfl
      rw [hfr]
      cases ha : (befN ts i).all (fun b => p.contains b)
      · rw [if_neg (by simp), permF_eq]
        refine foldl_stay _ _ fun s' E hE => hst s' E ?_
        obtain ⟨q, rfl, _⟩ := permL_pre hE
        rcases Classical.em (takeL ts crew (p ++ [(i : Int)] ++ q) = none) with h | h
        · exact h
        · have := takeL_told (q := q) hsm hin hp (by rwa [List.append_assoc, List.singleton_append] at h)
          rw [ha] at this; cases this
      · rw [if_pos rfl]
        exact permF_tryF hsm hst d _ a (hp.push hin hc)
    · rw [if_pos rfl, if_neg]
      unfold freeB
      rw [hc]; simp
/-- Each once, behind all of its Before: a beginning. -/
structure OrdPre (ts : List Tk) (p : List Int) : Prop where
  pre : PreOk ts.length p
  bef : ∀ k, k < p.length → ∀ q, q < (befN ts (nth p k).toNat).length → nth (befN ts (nth p k).toNat) q ∈ p.take k
theorem OrdPre.nil (ts : List Tk) : OrdPre ts [] := ⟨PreOk.nil _, fun k hk => by simp at hk⟩
theorem OrdPre.push {ts : List Tk} {p : List Int} {i : Nat} (h : OrdPre ts p) (hi : i < ts.length) (hf : freeB ts p i = true) : OrdPre ts (p ++ [(i : Int)]) := by
  unfold freeB at hf
  rw [Bool.and_eq_true, Bool.not_eq_true', List.all_eq_true] at hf
  refine ⟨h.pre.push hi hf.1, fun k hk q hq => ?_⟩
  rw [List.length_append, List.length_singleton] at hk
  by_cases e : k = p.length
  · subst e
    have hx : nth (p ++ [(i : Int)]) p.length = i := by rw [nth_eq (by simp)]; simp
    rw [hx, Int.toNat_natCast] at hq ⊢
    rw [List.take_left]
    have := hf.2 (nth (befN ts i) q) (by rw [nth_eq hq]; exact List.getElem_mem hq)
    exact List.contains_iff_mem.1 this
  · have hk2 : k < p.length := by omega
    have hx : nth (p ++ [(i : Int)]) k = nth p k := by rw [nth_eq (by simp; omega), nth_eq hk2, List.getElem_append_left hk2]
    rw [hx] at hq ⊢
    rw [List.take_append_of_le_length (by omega)]
    exact h.bef k hk2 q hq
theorem OrdPre.ok {ts : List Tk} {p : List Int} (h : OrdPre ts p) (hl : p.length = ts.length) : OrdOk ts p := ⟨h.pre.perm hl, fun k hk => h.bef k (by omega)⟩
theorem OrdPre.le {ts : List Tk} {p : List Int} (h : OrdPre ts p) : p.length ≤ ts.length := h.pre.len
end Go.Proofs.Ytcjeededlhdcbaa

namespace Go.Proofs.Ytcjeededlhdcbaa
open Go.RowKit
set_option linter.unusedVariables false
set_option linter.unusedSimpArgs false

theorem maxP_any (a b : Int) (w : World) : Calls Try.prog 72 #[.int .i64 a, .int .i64 b] w fun e w' => e = .returned (.int .i64 (max a b)) ∧ w = w' := by
  by_cases h : a > b
  · have hm : Hid (max a b = a) := by show _ = _; omega
    go_enter Try.func72, Try.ntmps72
    go_wp2
    go_ret
    exact ⟨ret_int hm.out.symm, rfl⟩
  · have hm : Hid (max a b = b) := by show _ = _; omega
    go_enter Try.func72, Try.ntmps72
    go_wp2
    go_ret
    exact ⟨ret_int hm.out.symm, rfl⟩
def LeastR (ts : List Tk) (st : List Int) (i n : Nat) (w : World) (va vk : Value) (wr : World) : Prop :=
  ∃ (k : Nat), k ≤ n ∧ va = .int .i64 (leastTo ts st i k) ∧ vk = .int .i64 k ∧ Hid (∃ q, wr = w.drewN q)
def SEndR (ts : List Tk) (st : List Int) (n : Nat) (w : World) (va vk : Value) (wr : World) : Prop :=
  ∃ (k : Nat), k ≤ n ∧ va = .int .i64 (endTo ts st k) ∧ vk = .int .i64 k ∧ Hid (Below w.heap.size w wr)

set_option maxRecDepth 100000 in
set_option maxHeartbeats 2000000 in
theorem specLeast_any (vt vs : Value) (ts : List Tk) (st : List Int) (i : Nat) (w : World) (ht : TasksR w vt ts) (hs : Ints w vs st) (hsm : SmTs ts) (hst : SmSt st ts.length) (hi : i < ts.length) :
    Calls Try.prog 121 #[vt, vs, .int .i64 i] w fun e w' => e = .returned (.int .i64 (leastN ts st i)) ∧ ∃ q, w' = w.drewN q := by
  obtain ⟨b, o, c, AB, CB, AL, CL, rfl, hcap, hbw, hV⟩ := ht.view hsm.n1
  obtain ⟨aS, cS, rfl, scap, hS⟩ := hs.view
  have HV := Lib.hid hV
  have HS := Lib.hid hS
  have HSM := Lib.hid hsm
  have HST := Lib.hid hst
  have e2 := (hV w (Below.refl _ _) i hi).bef
  have hbl := hsm.blen i hi
  have HBD : Hid (∀ k, k ≤ (befN ts i).length → 0 ≤ leastTo ts st i k ∧ leastTo ts st i k ≤ 1000200) := fun k hk => leastTo_bounds hsm hst hi k hk
  obtain ⟨n, hn⟩ : ∃ n, (befN ts i).length = n := ⟨_, rfl⟩
  obtain ⟨T, hT⟩ : ∃ T, ts.length = T := ⟨_, rfl⟩
  have HN : Hid ((befN ts i).length = n) := hn
  have HT : Hid (ts.length = T) := hT
  have HLN : Hid (leastN ts st i = leastTo ts st i n) := by show _ = _; rw [← hn]; rfl
  rw [show (tkN ts i).2.2.1.length = n from hn] at e2
  obtain ⟨ab, hab0⟩ : ∃ ab, AB i = ab := ⟨_, rfl⟩
  rw [hab0] at e2
  have HAB : Hid (AB i = ab) := hab0
  clear hab0
  rw [hn] at hbl HBD
  rw [hst.1, hT]
  rw [hT] at hcap hi
  have hT16 : T ≤ 16 := by rw [← hT]; exact hsm.n16
  have i0 : (0 : Int) ≤ (i : Int) := by omega
  have i1 : (i : Int) < (T : Int) := by omega
  clear ht hs hV hS hsm hst hn hT scap
  go_enter Try.func121, Try.ntmps121
  go_wp2
  go_loopw [7, 16] (fun va vk wr => LeastR ts st i n w va vk wr) (fun _ vk _ => n - (intOf vk).toNat)
  case atStart => exact ⟨0, Nat.zero_le _, rfl, rfl, 0, rfl⟩
  case round =>
    obtain ⟨k, hk, rfl, rfl, hwr⟩ := hrel
    by_cases hkn : k < n
    · have k1 : (k : Int) < (n : Int) := by omega
      have k0 : (0 : Int) ≤ (k : Int) := by omega
      have hW : Below w.heap.size w wr := by obtain ⟨q, hq⟩ := hwr.out; rw [hq]; exact below_drewN q (Below.refl _ _)
      have hC := HV.out wr hW i (by rw [HT.out]; exact hi)
      have hbb := HSM.out.bef i (by rw [HT.out]; exact hi) k (by rw [HN.out]; exact hkn)
      have hll := HSM.out.lag i (by rw [HT.out]; exact hi) k (by rw [HN.out]; exact hkn)
      obtain ⟨b1, o1, hab, cb⟩ := hC.befAt k (by show k < (befN ts i).length; rw [HN.out]; exact hkn)
      obtain ⟨b2, o2, hal, cl⟩ := hC.lagAt k (by show k < (lagN ts i).length; rw [HSM.out.len i (by rw [HT.out]; exact hi), HN.out]; exact hkn)
      have e2 := hC.bef
      have e3 := hC.lag
      rw [hab, show (tkN ts i).2.2.1.length = n from HN.out] at e2
      rw [hal, show (tkN ts i).2.2.2.length = n from by rw [HSM.out.len i (by rw [HT.out]; exact hi)]; exact HN.out] at e3
      obtain ⟨j, hj⟩ : ∃ j : Nat, nth (befN ts i) k = j := ⟨(nth (befN ts i) k).toNat, by omega⟩
      have hjT : j < T := by omega
      have hts := HSM.out.time j (by rw [HT.out]; exact hjT)
      have hss := HST.out.2 j (by rw [HT.out]; exact hjT)
      have et := (HV.out wr hW j (by rw [HT.out]; exact hjT)).time
      obtain ⟨b3, o3, has, cs'⟩ := HS.out wr hW j (by rw [HST.out.1, HT.out]; exact hjT)
      have HNX : Hid (leastTo ts st i (k + 1) = max (leastTo ts st i k) (nth st j + timeN ts j + nth (lagN ts i) k)) := by
        show max _ _ = _; rw [hj, Int.toNat_natCast]
      rw [show nth (tkN ts i).2.2.1 k = (j : Int) from hj] at cb
      have hbd := HBD.out k hk
      obtain ⟨s, hs⟩ : ∃ s, nth st j = s := ⟨_, rfl⟩
      obtain ⟨t, ht⟩ : ∃ t, timeN ts j = t := ⟨_, rfl⟩
      obtain ⟨l, hl⟩ : ∃ l, nth (lagN ts i) k = l := ⟨_, rfl⟩
      obtain ⟨R, hR⟩ : ∃ R, leastTo ts st i k = R := ⟨_, rfl⟩
      rw [hs] at hss cs' HNX
      rw [show (tkN ts j).1 = t from ht] at et
      rw [ht] at hts HNX
      rw [show nth (tkN ts i).2.2.2 k = l from hl] at cl
      rw [hl] at hll HNX
      rw [hR] at hbd HNX ⊢
      subst has
      have hab1 : ab = some ⟨b1, o1, none⟩ := HAB.out.symm.trans hab
      subst hab1
      have HWQ : Hid (∀ n, ∃ q', wr.drewN n = w.drewN q') := fun n => by obtain ⟨q, hq⟩ := hwr.out; exact ⟨_, by rw [hq]; exact World.drewN_drewN _ _ _⟩
      have j0 : (0 : Int) ≤ (j : Int) := by omega
      have j1 : (j : Int) < (T : Int) := by omega
      have w1 : IntKind.i64.wrap (s + t) = s + t := IntWalk.i64_in _ (by omega)
      have w2 : IntKind.i64.wrap (s + t + l) = s + t + l := IntWalk.i64_in _ (by omega)
      clear hs ht hl hR hC hab hal hbb hj hW
      go_wp2
      go_quiet ((first | (go_at_call 72; exact quiet_eq (maxP_any _ _ _))))
      go_wp2
      go_roundw
      case rel => exact ⟨k + 1, by omega, by rw [HNX.out], by go_num, HWQ.out _⟩
      case measure => simp [intOf]; omega
    · have k1 : ¬ (k : Int) < (n : Int) := by omega
      have HE : Hid (leastTo ts st i k = leastN ts st i) := by show _ = _; rw [HLN.out]; congr 1; omega
      have HWE := hwr
      clear hkn
      go_wp2
      go_ret
      exact ⟨ret_int HE.out, HWE.out⟩

set_option maxRecDepth 100000 in
set_option maxHeartbeats 2000000 in
theorem specEnd_any (vt vs : Value) (ts : List Tk) (st : List Int) (w : World) (ht : TasksR w vt ts) (hs : Ints w vs st) (hsm : SmTs ts) (hst : SmSt st ts.length) :
    Calls Try.prog 61 #[vt, vs] w fun e w' => e = .returned (.int .i64 (endTo ts st ts.length)) ∧ Below w.heap.size w w' := by
  obtain ⟨b, o, c, AB, CB, AL, CL, rfl, hcap, hbw, hV⟩ := ht.view hsm.n1
  obtain ⟨aS, cS, rfl, scap, hS⟩ := hs.view
  have HV := Lib.hid hV
  have HS := Lib.hid hS
  have HSM := Lib.hid hsm
  have HST := Lib.hid hst
  have HBD : Hid (∀ k, k ≤ ts.length → 0 ≤ endTo ts st k ∧ endTo ts st k ≤ 1000100) := fun k hk => endTo_bounds hsm hst k hk
  obtain ⟨T, hT⟩ : ∃ T, ts.length = T := ⟨_, rfl⟩
  have HT : Hid (ts.length = T) := hT
  rw [hst.1, hT]
  rw [hT] at hcap HBD
  have hT16 : T ≤ 16 := by rw [← hT]; exact hsm.n16
  clear ht hs hV hS hsm hst hT scap
  go_enter Try.func61, Try.ntmps61
  go_wp2
  go_loopw [5, 9] (fun va vk wr => SEndR ts st T w va vk wr) (fun _ vk _ => T - (intOf vk).toNat)
  case atStart => exact ⟨0, Nat.zero_le _, rfl, rfl, Below.refl _ _⟩
  case round =>
    obtain ⟨k, hk, rfl, rfl, hW⟩ := hrel
    by_cases hkT : k < T
    · have k1 : (k : Int) < (T : Int) := by omega
      have k0 : (0 : Int) ≤ (k : Int) := by omega
      have hC := HV.out wr hW.out k (by rw [HT.out]; exact hkT)
      have e0 := hC.time
      have e1 := hC.need
      have e2 := hC.bef
      have e3 := hC.lag
      have hts := HSM.out.time k (by rw [HT.out]; exact hkT)
      have hss := HST.out.2 k (by rw [HT.out]; exact hkT)
      obtain ⟨b3, o3, haS, cs'⟩ := HS.out wr hW.out k (by rw [HST.out.1, HT.out]; exact hkT)
      subst haS
      have hb3 : b3 < wr.heap.size := lt_of_cell cs'
      have HNX : Hid (endTo ts st (k + 1) = max (endTo ts st k) (nth st k + timeN ts k)) := rfl
      have hbd := HBD.out k hk
      obtain ⟨s, hs⟩ : ∃ s, nth st k = s := ⟨_, rfl⟩
      obtain ⟨t, ht⟩ : ∃ t, timeN ts k = t := ⟨_, rfl⟩
      obtain ⟨R, hR⟩ : ∃ R, endTo ts st k = R := ⟨_, rfl⟩
      rw [hs] at hss cs' HNX
      rw [show (tkN ts k).1 = t from ht] at e0
      rw [ht] at hts HNX
      rw [hR] at hbd HNX ⊢
      have w1 : IntKind.i64.wrap (s + t) = s + t := IntWalk.i64_in _ (by omega)
      clear hs ht hR hC
      go_wp2
      go_quiet ((first | (go_at_call 72; exact quiet_eq (maxP_any _ _ _))))
      go_wp2
      go_roundw
      case rel => exact ⟨k + 1, by omega, by rw [HNX.out], by go_num, below_drewN _ hW.out⟩
      case measure => simp [intOf]; omega
    · have k1 : ¬ (k : Int) < (T : Int) := by omega
      have HE : Hid (k = T) := by show _ = _; omega
      clear hkT
      go_wp2
      go_ret
      exact ⟨ret_int (by rw [HE.out]), hW.out⟩
end Go.Proofs.Ytcjeededlhdcbaa
