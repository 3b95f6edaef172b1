
/- spec: jobs read from texts. Conditions: texts of at most 2^20 bytes. -/
import Derived.Test.YtcjeededlhdcbaaDoorRdJobs
namespace Go.Proofs.YtcjeededlhdcbaaDoor
open Go.RowKit Go.Shelf Go.BigFrame
set_option linter.unusedVariables false
set_option linter.unusedSimpArgs false

theorem OwnZ.mono {T size n : Nat} {w : World} {B B' : Nat} {v : Value} {xs : List Int} (h : OwnZ T size w B v n xs) (hB : B' ≤ B) : OwnZ T size w B' v n xs := by
  refine ⟨h.1, ?_⟩
  rcases h.2 with h1 | ⟨g, cap, cur, h1, h2, h3⟩
  · exact .inl h1
  · exact .inr ⟨g, cap, cur, h1, Nat.le_trans hB h2, h3⟩
set_option maxRecDepth 100000 in
set_option maxHeartbeats 4000000 in
theorem l08ReadJobs_any (t : ByteArray) (w : World) (hs : t.size ≤ 1048576) :
    Calls Tryd.prog 29 #[.string t] w fun e w' => (∃ v, e = .returned (.tuple #[v, .bool (rjB t)]) ∧ OwnZ 60 4 w' w.heap.size v (rjL t).length (jbRaw (rjL t))) ∧ Below w.heap.size w w' := by
  obtain ⟨B, hB⟩ : ∃ B, w.heap.size = B := ⟨_, rfl⟩
  have HCU : Hid (Calls Tryd.prog 50 #[.string t, .int .u8 59] w fun e w' => (∃ v, e = .returned v ∧ OwnT w' w.heap.size v (cutB 59 t)) ∧ Below w.heap.size w w') := l01Cut_any t 59 w hs
  have HRL : Hid (∀ p W, p.size ≤ 1048576 → Calls Tryd.prog 47 #[.string p] W fun e w' => (∃ v, e = .returned (.tuple #[v, .bool (rlB p)]) ∧ OwnI w' W.heap.size v (rlL p)) ∧ Below W.heap.size W w') := fun p W hp => l01Numbers_any p W hp
  have HPL : Hid (∀ x ∈ cutB 59 t, x.size ≤ 1048576) := fun x hx => Nat.le_trans (cutB_le hx) hs
  have HPN : Hid ((cutB 59 t).length ≤ 1048578) := by
    have := Go.Lib.count_le t.data.toList [59]
    rw [size_data] at this
    have h3 : Go.Lib.countB t ⟨#[59]⟩ ≤ t.size + 1 := this
    show _ ≤ _
    rw [cutB_length]; omega
  have HAJ : Hid (∀ v js W, Jobs W v js → Calls Tryd.prog 51 #[v] W fun e w' => e = .returned (.bool (jobsOk js)) ∧ W = w') := fun v js W h => l02Jobs_any v js W h
  clear hs
  obtain ⟨ps, hps⟩ : ∃ ps, cutB 59 t = ps := ⟨_, rfl⟩
  have HBAD : Hid (∀ p ∈ ps, jbB p = false → rjB t = false ∧ rjL t = []) := fun p hp h => rj_bad hps hp h
  have HLONG : Hid (24 < ps.length → rjB t = false ∧ rjL t = []) := rj_long hps
  have HEND : Hid ((∀ p ∈ ps, jbB p = true) → rjB t = jobsOk (ps.map jbT) ∧ (rjB t = true → rjL t = ps.map jbT) ∧ (rjB t = false → rjL t = [])) := rj_end hps
  rw [hps] at HPL HPN
  rw [hps, hB] at HCU
  rw [hB]
  obtain ⟨L, hL⟩ : ∃ L, ps.length = L := ⟨_, rfl⟩
  have HL : Hid (ps.length = L) := hL
  have hL2 : L ≤ 1048578 := by rw [← hL]; exact HPN.out
  have HBQ := Lib.hid hB
  clear hps hL hB
  go_enter Tryd.func29, Tryd.ntmps29
  go_wp2_with fail
  refine HCU.out.mono ?_
  rintro e W0 ⟨⟨v, rfl, hov⟩, hb1⟩
  obtain ⟨a, c, rfl, hcells⟩ := hov.form
  obtain ⟨A, hA⟩ : ∃ A, W0.heap.size = A := ⟨_, rfl⟩
  have HA := Lib.hid hA
  have HBA : Hid (B ≤ A) := by show _ ≤ _; rw [← hA, ← HBQ.out]; exact hb1.size
  obtain ⟨W1, hW1⟩ : ∃ W, W0.alloc (.cells #[] 60) = W := ⟨_, rfl⟩
  have hbb : Below A W0 W1 := by rw [← hW1, ← hA]; exact (Below.refl _ W0).alloc (Nat.le_refl _) _
  have HB1 : Hid (Below B w W1) := hb1.trans (hbb.mono HBA.out)
  have HO1 : Hid (OwnZ 60 4 W1 A (.slice (some ⟨A, 0, none⟩) 0 0) 0 []) := by
    have h := jb_lit W0 A (by rw [hA]; exact Nat.le_refl _)
    rw [hA, hW1] at h
    exact h
  have HZ1 : Hid (W1.heap.size = A + 1) := by show _ = _; rw [← hW1, ← hA]; simp
  have HCT : Hid (∀ k, k < L → ∀ W, GrownL [A] W1 W → ∃ b, a = some ⟨b, 0, none⟩ ∧ W.cell? ⟨b, k, none⟩ = some (.string (ps.getD k ByteArray.empty))) := fun k hk W hW => by
    obtain ⟨b, h1, h2, h3, h4⟩ := hcells k (by rw [HL.out]; exact hk)
    have h5 : W1.cell? ⟨b, k, none⟩ = W0.cell? ⟨b, k, none⟩ := hbb.cell (p := ⟨b, k, none⟩) (by rw [← hA]; exact h3)
    exact ⟨b, h1, (hW.cell (p := ⟨b, k, none⟩) (by have := HZ1.out; show b < _; omega) (by show b ∉ [A]; simp; omega)).trans (h5.trans h4)⟩
  have HW := Lib.hid hW1
  rw [HL.out]
  have HR0 : Hid (JdR ps A W1.heap.size W1 (.slice (some ⟨A, 0, none⟩) 0 0) (.int .i64 0) W1) := ⟨0, A, 0, rfl, rfl, Nat.zero_le _, (by intro p hp; simp at hp), HO1.out, .inl rfl, GrownL.refl _ _⟩
  clear hov hb1 hcells HCU HO1 hbb hA hW1
  go_wp2
  simp only [HA.out, HW.out]
  clear HW
  go_loopw [5, 6] (fun vo vi wr => JdR ps A W1.heap.size W1 vo vi wr) (fun _ vi _ => L - (intOf vi).toNat)
  case atStart => exact HR0.out
  case round =>
    obtain ⟨k, g, cg, rfl, rfl, hk, HAL, HO, HGA, HG⟩ := hrel
    clear HR0
    have HBw : Hid (Below B w wr) := HG.out.toBelow HB1.out (by have := HZ1.out; have := HBA.out; omega) (fun j hj => by have := HBA.out; simp; omega)
    by_cases hkL : k < L
    · have k1 : (k : Int) < (L : Int) := by omega
      have k0 : (0 : Int) ≤ (k : Int) := by omega
      obtain ⟨b, rfl, cb⟩ := HCT.out k hkL wr HG.out
      have hkp : k < ps.length := by rw [HL.out]; exact hkL
      obtain ⟨p, hp⟩ : ∃ p, ps.getD k ByteArray.empty = p := ⟨_, rfl⟩
      have hpk : ps[k] = p := by rw [← hp, List.getD_eq_getElem?_getD, List.getElem?_eq_getElem hkp]; rfl
      have HTK : Hid (ps.take (k + 1) = ps.take k ++ [p]) := by show _ = _; rw [List.take_succ_eq_append_getElem hkp, hpk]
      have HPM : Hid (p ∈ ps) := by show _ ∈ _; rw [← hpk]; exact List.getElem_mem hkp
      have hps : p.size ≤ 1048576 := HPL.out p HPM.out
      rw [hp] at cb
      have HD := Lib.hid (HRL.out p wr hps)
      have HN1 : Hid (rlB p = false → jbB p = false) := jbB_no1
      have HN2 : Hid (¬ (rlL p).length = 4 → jbB p = false) := jbB_no2
      have HYS : Hid (rlB p = true → (rlL p).length = 4 → jbB p = true) := jbB_yes
      have HBD := Lib.hid (HBAD.out p HPM.out)
      have HJT : Hid (jbT p = (nth (rlL p) 0, nth (rlL p) 1, nth (rlL p) 2, nth (rlL p) 3)) := rfl
      obtain ⟨l, hl⟩ : ∃ l, rlL p = l := ⟨_, rfl⟩
      rw [hl] at HD HN2 HYS HJT
      clear hp hpk hl hkp
      go_wp2_with fail
      refine HD.out.mono ?_
      rintro e W2 ⟨⟨v, rfl, ho⟩, hb2⟩
      obtain ⟨_, a2, c2, hv, _⟩ := ho.ints
      subst hv
      have HB2 : Hid (Below B w W2) := HBw.out.trans (hb2.mono (by have := HZ1.out; have := HBA.out; have := HG.out.size; omega))
      have HO2 := Lib.hid (HO.out.below hb2 (Nat.le_refl _))
      have HG2 := Lib.hid (HG.out.below hb2 HG.out.size)
      have HA2 : Hid (A ≤ W2.heap.size) := by have := HZ1.out; have := HG.out.size; have := hb2.size; show _ ≤ _; omega
      have HLI := Lib.hid ho
      have HSW : Hid (wr.heap.size ≤ W2.heap.size) := hb2.size
      have HGL : Hid (g < wr.heap.size) := (HO.out.lt g rfl).2
      clear ho hb2 HD HO HG
      cases hb : rlB p
      · have HF := Lib.hid (HBD.out (HN1.out hb))
        go_wp2
        go_ret2
        rw [HF.out.1, HF.out.2]
        exact ⟨⟨_, rfl, ownZ_nil _ _⟩, HB2.out⟩
      · by_cases h4 : l.length = 4
        · by_cases h24 : k = 24
          · have HF := Lib.hid (HLONG.out (by have := HL.out; omega))
            have h24b : ((k : Int) == 24) = true := by rw [h24]; rfl
            rw [h4]
            go_wp2
            go_ret2
            rw [HF.out.1, HF.out.2]
            exact ⟨⟨_, rfl, ownZ_nil _ _⟩, HB2.out⟩
          · have h24b : ((k : Int) == 24) = false := by simp; omega
            have h24i : ¬ (k : Int) = 24 := by omega
            have HJ := Lib.hid (HYS.out hb h4)
            obtain ⟨gl, rfl, hg1, hg2, d0, d1, d2, d3⟩ := own4 HLI.out h4
            have HAN := Lib.hid (take_all HAL.out HTK.out HJ.out)
            have HSA : Hid (∀ w3 : World, W2.grownBy w3 (Value.slice (some ⟨g, 0, none⟩) k cg).ownBlock → w3.cell? ⟨gl, 0, none⟩ = some (.int .i64 (nth l 0)) ∧ w3.cell? ⟨gl, 1, none⟩ = some (.int .i64 (nth l 1)) ∧ w3.cell? ⟨gl, 2, none⟩ = some (.int .i64 (nth l 2)) ∧ w3.cell? ⟨gl, 3, none⟩ = some (.int .i64 (nth l 3))) := fun w3 hg => by
              have hf : ∀ j, w3.cell? ⟨gl, j, none⟩ = W2.cell? ⟨gl, j, none⟩ := fun j => hg.cell_far ⟨gl, j, none⟩ hg2 (by rw [ownBlock_slice]; intro e; have e2 : gl = g := Option.some.inj e; have := HGL.out; omega)
              exact ⟨(hf 0).trans d0, (hf 1).trans d1, (hf 2).trans d2, (hf 3).trans d3⟩
            obtain ⟨a0, e0⟩ : ∃ x, nth l 0 = x := ⟨_, rfl⟩
            obtain ⟨a1, e1⟩ : ∃ x, nth l 1 = x := ⟨_, rfl⟩
            obtain ⟨a2, e2⟩ : ∃ x, nth l 2 = x := ⟨_, rfl⟩
            obtain ⟨a3, e3⟩ : ∃ x, nth l 3 = x := ⟨_, rfl⟩
            rw [e0] at d0
            rw [e1] at d1
            rw [e2] at d2
            rw [e3] at d3
            rw [e0, e1, e2, e3] at HJT
            simp only [e0, e1, e2, e3] at HSA
            rw [h4]
            clear e0 e1 e2 e3 hg1 h4 HN1 HN2 HYS HLI
            go_wp2
            go_region_held3 (fun w' => w'.cell? ⟨gl, 0, none⟩ = some (.int .i64 a0) ∧ w'.cell? ⟨gl, 1, none⟩ = some (.int .i64 a1) ∧ w'.cell? ⟨gl, 2, none⟩ = some (.int .i64 a2) ∧ w'.cell? ⟨gl, 3, none⟩ = some (.int .i64 a3))
              (first | go_keep | exact HKP.out)
              ((refine step_append_jb (by rfl) _ _ (by rfl) A (.slice (some ⟨g, 0, none⟩) k cg) k _ a0 a1 a2 a3 (by rfl) 1 (by rfl) HO2.out HA2.out (by omega) ?_; intro g3 c3 w3 ho3 hg3 hl3; have HO3 := Lib.hid ho3; have HG3 : Hid (GrownL [A] W1 w3) := HG2.out.grown hg3 (fun j e => by rw [ownBlock_slice] at e; injection e with e; rcases HGA.out with q | q; exact .inl (List.mem_singleton.2 (by omega)); exact .inr (by omega)); have HGA3 : Hid (g3 = A ∨ W1.heap.size ≤ g3) := lie_keep hl3 HGA.out HG2.out.size; have HKP := Lib.hid (HSA.out w3 hg3); clear ho3 hg3 hl3))
            go_wp2
            go_roundw
            case rel => exact ⟨k + 1, g3, c3, rfl, by go_num, by rw [HL.out]; omega, HAN.out, by show OwnZ _ _ _ _ _ _ _; rw [HTK.out, List.map_append, List.map_singleton, jbRaw_snoc, HJT.out]; exact HO3.out, HGA3.out, HG3.out⟩
            case measure => simp [intOf]; omega
        · have HF := Lib.hid (HBD.out (HN2.out h4))
          have h4b : ((l.length : Int) != 4) = true := by simp; omega
          have h4c : ((l.length : Int) == 4) = false := by simp; omega
          have h4i : ¬ (l.length : Int) = 4 := by omega
          go_wp2
          go_ret2
          rw [HF.out.1, HF.out.2]
          exact ⟨⟨_, rfl, ownZ_nil _ _⟩, HB2.out⟩
    · have k1 : ¬ (k : Int) < (L : Int) := by omega
      obtain rfl : k = L := by have := HL.out; omega
      have HTF : Hid (ps.take k = ps) := List.take_of_length_le (by rw [HL.out]; exact Nat.le_refl _)
      have HE := HAL.out
      rw [HTF.out] at HE
      have HEN := Lib.hid (HEND.out HE)
      have HO9 := HO.out
      rw [HTF.out] at HO9
      have HOF : Hid (OwnZ 60 4 wr A (.slice (some ⟨g, 0, none⟩) k cg) (ps.map jbT).length (jbRaw (ps.map jbT))) := by show OwnZ _ _ _ _ _ _ _; rw [List.length_map, HL.out]; exact HO9
      have HJ := Lib.hid (HAJ.out _ _ wr HOF.out.jobs)
      obtain ⟨js, hjs⟩ : ∃ js, ps.map jbT = js := ⟨_, rfl⟩
      rw [hjs] at HJ HEN HOF
      clear hkL HE HO9 hjs HO HAL
      go_wp2_with fail
      refine HJ.out.mono ?_
      rintro e W4 ⟨rfl, rfl⟩
      have HB4 : Hid (Below B w wr) := HBw.out
      have HO4 := Lib.hid (HOF.out.mono HBA.out)
      clear HJ
      cases hok : jobsOk js
      · have HF : Hid (rjB t = false) := HEN.out.1.trans hok
        have HF2 := Lib.hid (HEN.out.2.2 HF.out)
        go_wp2
        go_ret2
        rw [HF.out, HF2.out]
        exact ⟨⟨_, rfl, ownZ_nil _ _⟩, HB4.out⟩
      · have HF : Hid (rjB t = true) := HEN.out.1.trans hok
        have HF2 := Lib.hid (HEN.out.2.1 HF.out)
        go_wp2
        go_ret2
        rw [HF.out, HF2.out]
        exact ⟨⟨_, rfl, HO4.out⟩, HB4.out⟩
set_option maxRecDepth 100000 in
theorem specReadJobs_any (t : ByteArray) (w : World) (hs : t.size ≤ 1048576) :
    Calls Tryd.prog 9 #[.string t] w fun e w' => (∃ v, e = .returned (.tuple #[v, .bool (rjB t)]) ∧ OwnZ 60 4 w' w.heap.size v (rjL t).length (jbRaw (rjL t))) ∧ Below w.heap.size w w' := by
  have HC := Lib.hid (l08ReadJobs_any t w hs)
  go_enter Tryd.func9, Tryd.ntmps9
  go_wp2_with fail
  refine HC.out.mono ?_
  rintro e W1 ⟨⟨v, rfl, ho⟩, hb⟩
  have HO := Lib.hid ho
  have HB := Lib.hid hb
  clear ho hb HC
  go_wp2
  go_ret2
  exact ⟨⟨_, rfl, HO.out⟩, HB.out⟩
end Go.Proofs.YtcjeededlhdcbaaDoor
