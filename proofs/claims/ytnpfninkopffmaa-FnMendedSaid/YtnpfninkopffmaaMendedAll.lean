/- The walk of FnMended. Conditions: none. With texts that it needs. -/
import Derived.Test.YtnpfninkopffmaaMendedAll11
import Derived.Test.YtnpfninkopffmaaMendedAll15
import Derived.Test.YtnpfninkopffmaaMendedAll16
namespace Go.Proofs.Ytnpfninkopffmaa
open Go.RowKit Go.Shelf Go.BigFrame
set_option linter.unusedVariables false
set_option linter.unusedSimpArgs false

def ApR (st out : List Int) (T : Nat) (W : World) (va vk : Value) (wr : World) : Prop :=
  ∃ (k m : Nat), va = .int .i64 (diffO st out k) ∧ vk = .int .i64 k ∧ k ≤ T ∧ wr = W.drewN m
set_option maxRecDepth 100000 in
set_option maxHeartbeats 8000000 in
theorem walkFnMended (a0 : Option Addr) (len0 cap0 : Nat) (z0 : List Int) (a1 : Option Addr) (len1 cap1 : Nat) (z1 : List Int) (w : World)
    (w0 : (a0 = none ∧ len0 = 0 ∧ cap0 = 0 ∧ z0 = []) ∨
      ∃ x, a0 = some x ∧ len0 ≤ cap0 ∧ cap0 ≤ maxLen ∧ z0.length = cap0 ∧ (∀ i, i < z0.length → w.cell? (x.add i) = some (.int .u8 (z0.getD i 0))) ∧ ∀ n ∈ z0, (Lit.int .u8 n).wf = true)
    (w1 : (a1 = none ∧ len1 = 0 ∧ cap1 = 0 ∧ z1 = []) ∨
      ∃ x, a1 = some x ∧ len1 ≤ cap1 ∧ cap1 ≤ maxLen ∧ z1.length = cap1 ∧ (∀ i, i < z1.length → w.cell? (x.add i) = some (.int .u8 (z1.getD i 0))) ∧ ∀ n ∈ z1, (Lit.int .u8 n).wf = true) :
    Calls Try.prog 8 #[.slice a0 len0 cap0, .slice a1 len1 cap1] w fun e w' => e = .returned (.bool true) ∧ Below w.heap.size w w' := by
  obtain ⟨hv0, hwf0, hlen0⟩ := bytes_of_row w0
  obtain ⟨hv1, hwf1, hlen1⟩ := bytes_of_row w1
  generalize z0.take len0 = xs at *
  generalize z1.take len1 = ys at *
  subst hlen0 hlen1
  clear w0 w1
  have Hwf0 := Lib.hid hwf0
  have Hwf1 := Lib.hid hwf1
  clear hwf0 hwf1
  cases hlong : (decide (1048576 < xs.length) || decide (1048576 < ys.length))
  · have HAT : Hid (∀ (i n : Int) W, Below w.heap.size w W → 0 ≤ i → i ≤ 100 → 1 ≤ n → n ≤ 100 → Calls Try.prog 24 #[.slice a1 ys.length cap1, .int .i64 i, .int .i64 n] W fun e w' => (∃ x, e = .returned (.int .i64 x) ∧ 0 ≤ x ∧ x < n) ∧ W = w') := fun i n W hW h1 h2 h3 h4 => b10At_any _ ys i n W (hv1.below hW (Nat.le_refl _)) Hwf1.out h1 (by omega) h3 (by omega)
    have HTK : Hid (∀ (n : Nat), n ≤ 7 → Calls Try.prog 37 #[.slice a0 xs.length cap0, .int .i64 n] w fun e w' => (∃ vt ts, e = .returned vt ∧ TasksR w' vt ts ∧ ts.length = n ∧ Drawn ts) ∧ Below w.heap.size w w') := fun n hn => b10Tasks_any _ xs n w hv0 Hwf0.out hn
    have HLG := Lib.hid (b10Long_any _ _ xs ys _ hv0 hv1)
    rw [hlong] at HLG
    clear hlong hv0 hv1
    go_enter Try.func8, Try.ntmps8
    go_wp2_with fail
    refine HLG.out.mono ?_
    rintro e w' ⟨rfl, rfl⟩
    go_wp2_with fail
    refine (HAT.out _ _ w (Below.refl _ _) (by omega) (by omega) (by omega) (by omega)).mono ?_
    rintro e w' ⟨⟨x0, rfl, hx0a, hx0b⟩, rfl⟩
    obtain ⟨t, ht⟩ : ∃ t : Nat, 1 + x0 = (t : Int) := ⟨(1 + x0).toNat, by omega⟩
    have h1 : 1 ≤ t := by omega
    have h6 : t ≤ 6 := by omega
    have wt : IntKind.i64.wrap (1 + x0) = (t : Int) := by rw [ht]; exact IntWalk.i64_in _ (by omega)
    have HTK1 := Lib.hid (HTK.out t (by omega))
    have HTE : Hid (1 + x0 = (t : Int)) := ht
    clear hx0a hx0b
    go_wp2_with fail
    refine HTK1.out.mono ?_
    rintro e W1 ⟨⟨vt, ts, rfl, htr, hlen, hdr⟩, hb1⟩
    have HB1 := Lib.hid hb1
    have HTR := Lib.hid htr
    have HLN := Lib.hid hlen
    have HDR := Lib.hid hdr
    clear hb1 htr hlen hdr HTK HTK1 wt ht
    have h1' : (1 : Int) ≤ (t : Int) := by omega
    have h6' : (t : Int) ≤ 6 := by omega
    go_wp2_with fail
    refine (HAT.out _ _ W1 HB1.out (by omega) (by omega) (by omega) (by omega)).mono ?_
    rintro e w' ⟨⟨x1, rfl, hx1a, hx1b⟩, rfl⟩
    obtain ⟨crew, hcr⟩ : ∃ c : Int, 3 + x1 = c := ⟨_, rfl⟩
    have HCR : Hid (3 ≤ crew ∧ crew ≤ 6) := by show _ ∧ _; omega
    have wc : IntKind.i64.wrap (3 + x1) = crew := by rw [hcr]; exact IntWalk.i64_in _ (by omega)
    clear hcr hx1a hx1b
    go_wp2_with fail
    refine (HAT.out _ _ W1 HB1.out (by omega) (by omega) (by omega) (by omega)).mono ?_
    rintro e w' ⟨⟨kd, rfl, hkda, hkdb⟩, rfl⟩
    have HKD : Hid (kd = 0 ∨ kd = 1 ∨ kd = 2 ∨ kd = 3) := by show _ ∨ _; omega
    have HOK := Lib.hid (drawn_ok HDR.out (by rw [HLN.out]; exact h1) (by rw [HLN.out]; omega))
    have HND : Hid (∀ i, i < ts.length → needN ts i ≤ crew) := fun i hi => by have := (drawn_at HDR.out hi).2.1; have := HCR.out; omega
    have HRP := Lib.hid (specRulePlan_any vt ts kd crew W1 HTR.out HOK.out HKD.out HND.out (by have := HCR.out; omega))
    obtain ⟨b, o, c, VB, VL, rfl, hcap, hbw, hsrc⟩ := HTR.out.src (by rw [HLN.out]; exact h1)
    have HSRC := Lib.hid hsrc
    rw [HLN.out] at HRP hcap ⊢
    clear hkda hkdb wc hsrc
    go_wp2_with fail
    refine HRP.out.mono ?_
    rintro e W2 ⟨⟨st, gS, hst, rfl, ho2⟩, hb2⟩
    have HST := Lib.hid (planR_ok HDR.out (by rw [HLN.out]; exact h1) (by rw [HLN.out]; omega) (by have := HCR.out; omega) hst)
    have HB2 : Hid (Below w.heap.size w W2) := HB1.out.trans (hb2.mono HB1.out.size)
    have HO2 := Lib.hid ho2
    have HB12 := Lib.hid hb2
    clear hst ho2 hb2 HRP
    go_wp2_with fail
    refine (HAT.out _ _ W2 HB2.out (by omega) (by omega) (by omega) (by omega)).mono ?_
    rintro e w' ⟨⟨x3, rfl, hx3a, hx3b⟩, rfl⟩
    obtain ⟨task, rfl⟩ : ∃ n : Nat, x3 = n := ⟨x3.toNat, by omega⟩
    have htk : task < t := by omega
    clear hx3a hx3b
    go_wp2_with fail
    refine (HAT.out _ _ W2 HB2.out (by omega) (by omega) (by omega) (by omega)).mono ?_
    rintro e w' ⟨⟨by_, rfl, hba, hbb⟩, rfl⟩
    have HBY : Hid (0 ≤ by_ ∧ by_ ≤ 5) := by show _ ∧ _; omega
    have HTM : Hid (0 ≤ timeN ts task ∧ timeN ts task ≤ 6) := (drawn_at HDR.out (by rw [HLN.out]; exact htk)).1
    have HTR2 : Hid (∀ W, Below W2.heap.size W2 W → TasksR W (.slice (some ⟨b, o, none⟩) t c) ts) := fun W hW => by
      have h := HTR.out.below (HB12.out.trans (hW.mono HB12.out.size)) (Nat.le_refl _)
      rw [HLN.out] at h
      exact h
    have HS2 : Hid (∀ W, Below W2.heap.size W2 W → Ints W (.slice (some ⟨gS, 0, none⟩) t t) st) := fun W hW => (HO2.out.below hW (Nat.le_refl _)).ints
    have HSM : Hid (∀ W, Below W2.heap.size W2 W → Calls Try.prog 32 #[.slice (some ⟨b, o, none⟩) t c, .slice (some ⟨gS, 0, none⟩) t t, .int .i64 task, .int .i64 by_, .int .i64 crew] W fun e w' => ((mendOf (longT ts task by_) st crew = none ∧ e = .returned (.tuple #[.slice none 0 0, .int .i64 0, .bool false])) ∨
      ∃ out g, mendOf (longT ts task by_) st crew = some out ∧ e = .returned (.tuple #[.slice (some ⟨g, 0, none⟩) t t, .int .i64 (diffO st out t), .bool true]) ∧ OwnI w' W.heap.size (.slice (some ⟨g, 0, none⟩) t t) (zerL out)) ∧ Below W.heap.size W w') := fun W hW => by
      have h := specMend_any _ _ ts st task by_ crew W (HTR2.out W hW) (HS2.out W hW) HST.out.1 (by rw [HLN.out]; exact htk) (by have := HBY.out; omega) (by have := HBY.out; have := HTM.out; omega) HND.out
      rw [HLN.out] at h
      exact h
    have HIM : Hid (∀ W, Below W2.heap.size W2 W → Calls Try.prog 34 #[.slice (some ⟨b, o, none⟩) t c, .slice (some ⟨gS, 0, none⟩) t t, .int .i64 task, .int .i64 by_, .int .i64 crew] W fun e w' => ((mendOf (longT ts task by_) st crew = none ∧ e = .returned (.tuple #[.slice none 0 0, .int .i64 0, .bool false])) ∨
      ∃ out g, mendOf (longT ts task by_) st crew = some out ∧ e = .returned (.tuple #[.slice (some ⟨g, 0, none⟩) t t, .int .i64 (diffO st out t), .bool true]) ∧ OwnI w' W.heap.size (.slice (some ⟨g, 0, none⟩) t t) out) ∧ Below W.heap.size W w') := fun W hW => by
      have h := mendPlan_any _ _ ts st task by_ crew W (HTR2.out W hW) (HS2.out W hW) HST.out.1 (by rw [HLN.out]; exact htk) (by have := HBY.out; omega) (by have := HBY.out; have := HTM.out; omega) HND.out
      rw [HLN.out] at h
      exact h
    clear hba hbb HAT
    cases hmo : mendOf (longT ts task by_) st crew with
    | none =>
      have HMO := Lib.hid hmo
      clear hmo
      go_wp2_with fail
      refine (HSM.out W2 (Below.refl _ _)).mono ?_
      rintro e W3 ⟨h3, hb3⟩
      rcases h3 with ⟨_, rfl⟩ | ⟨out, g, hm, _⟩
      · have HB3 : Hid (Below W2.heap.size W2 W3) := hb3
        clear hb3
        go_wp2_with fail
        refine (HIM.out W3 HB3.out).mono ?_
        rintro e W4 ⟨h4, hb4⟩
        rcases h4 with ⟨_, rfl⟩ | ⟨out, g, hm, _⟩
        · have HB4 : Hid (Below w.heap.size w W4) := HB2.out.trans ((HB3.out.trans (hb4.mono HB3.out.size)).mono HB2.out.size)
          clear hb4
          go_wp2
          go_ret
          exact ⟨rfl, HB4.out⟩
        · rw [HMO.out] at hm; cases hm
      · rw [HMO.out] at hm; cases hm
    | some out =>
      have HMO := Lib.hid hmo
      have HOT := Lib.hid (mend_ok HDR.out (by rw [HLN.out]; exact h1) (by rw [HLN.out]; omega) (by have := HCR.out; omega) (by rw [HLN.out]; exact htk) HBY.out HST.out.2.2 hmo)
      have HD0 : Hid (by_ = 0 → diffO st out t = 0) := fun h0 => by
        have h5 := hmo
        rw [h0] at h5
        have h6 := mend_none (by rw [HLN.out]; exact htk) HST.out.1 h5 (fun j hj => (HOT.out.2.2 j hj).1)
        rw [HLN.out] at h6
        exact h6
      clear hmo
      go_wp2_with fail
      refine (HSM.out W2 (Below.refl _ _)).mono ?_
      rintro e W3 ⟨h3, hb3⟩
      rcases h3 with ⟨hm, _⟩ | ⟨out', g, hm, rfl, _⟩
      · rw [HMO.out] at hm; cases hm
      · have HB3 : Hid (Below W2.heap.size W2 W3) := hb3
        have he : out' = out := by rw [HMO.out] at hm; injection hm with hm; exact hm.symm
        subst he
        clear hb3 hm
        go_wp2_with fail
        refine (HIM.out W3 HB3.out).mono ?_
        rintro e W4 ⟨h4, hb4⟩
        rcases h4 with ⟨hm, _⟩ | ⟨out2, gM, hm, rfl, ho4⟩
        · rw [HMO.out] at hm; cases hm
        · have HB4 : Hid (Below W2.heap.size W2 W4) := HB3.out.trans (hb4.mono HB3.out.size)
          have he : out2 = out' := by rw [HMO.out] at hm; injection hm with hm; exact hm.symm
          subst he
          have HO4 : Hid (OwnI W4 W3.heap.size (.slice (some ⟨gM, 0, none⟩) t t) out2) := ho4
          clear hb4 hm ho4 HSM HIM
          obtain ⟨d, hd⟩ : ∃ d, diffO st out2 t = d := ⟨_, rfl⟩
          have HDD : Hid (diffO st out2 t = d) := hd
          rw [hd] at HD0 ⊢
          clear hd
          have HB4w : Hid (Below w.heap.size w W4) := HB2.out.trans (HB4.out.mono HB2.out.size)
          have hbw2 : b < W4.heap.size := by have := HB12.out.size; have := HB4.out.size; omega
          have HC4 : Hid (∀ i, i < t → ∀ j, j < 4 → (W4.alloc (.cells #[] 56)).cell? ⟨b, o + (i * 4 + j), none⟩ = some (cellT ts VB VL i j)) := fun i hi j hj => by
            have hB : Below W1.heap.size W1 (W4.alloc (.cells #[] 56)) := (HB12.out.trans (HB4.out.mono HB12.out.size)).trans (((Below.refl _ W4).alloc (Nat.le_refl _) _).mono (by have := HB12.out.size; have := HB4.out.size; omega))
            exact (hB.cell (p := ⟨b, o + (i * 4 + j), none⟩) hbw).trans ((HSRC.out i (by rw [HLN.out]; exact hi)).cell hj)
          have HON : Hid (∀ i, i < t → (VB i).oneCell' = true ∧ (VL i).oneCell' = true) := fun i hi => by
            have h := HSRC.out i (by rw [HLN.out]; exact hi)
            exact ⟨h.bef.one, h.lag.one⟩
          have HOa : Hid (OwnV 56 4 (W4.alloc (.cells #[] 56)) W4.heap.size (.slice (some ⟨W4.heap.size, 0, none⟩) 0 0) 0 []) :=
            World.ownsRow_lit (e := 56) (size := 4) W4 #[] 0 (Nat.le_refl _) (by unfold maxLen; omega) (by simp)
          have HBa : Hid (Below W4.heap.size W4 (W4.alloc (.cells #[] 56))) := (Below.refl _ W4).alloc (Nat.le_refl _) _
          have wl : IntKind.i64.wrap (timeN ts task + by_) = timeN ts task + by_ := IntWalk.i64_in _ (by have := HBY.out; have := HTM.out; omega)
          have k0 : (0 : Int) ≤ (task : Int) := by omega
          have k1 : (task : Int) < (t : Int) := by omega
          obtain ⟨tm, htm⟩ : ∃ x, timeN ts task = x := ⟨_, rfl⟩
          have HTT : Hid (timeN ts task = tm) := htm
          rw [htm] at wl
          clear htm
          go_wp2_with (at_builtin; refine append_tks rfl _ _ rfl W4.heap.size (.slice (some ⟨W4.heap.size, 0, none⟩) 0 0) ts VB VL (by rw [HLN.out]; exact h1) (by rw [HLN.out]; omega) rfl b o c (by rw [HLN.out]; rfl) (by rw [HLN.out]; exact HC4.out) (by rw [HLN.out]; exact HON.out) HOa.out (by simp) ?_; intro gl cl W5 ho5 hg5; rw [HLN.out] at ho5 ⊢; have HB5 : Hid (Below W4.heap.size W4 W5) := HBa.out.grown hg5 HBa.out.size (fun k e => by cases e; exact Nat.le_refl _); obtain ⟨s1, s2, s3, s4, s5⟩ := copy_long ho5 HLN.out htk by_; rw [HTT.out] at s1 s3 s4; have HO6 := Lib.hid s3; have HB6 : Hid (Below W4.heap.size W4 (W5.setCell ⟨gl, task * 4, none⟩ (.int .i64 (tm + by_)))) := HB5.out.grown s4 HB5.out.size (fun k e => by cases e; exact s5.1); clear ho5 hg5 s3 s4 s5)
          obtain ⟨W6, hW6⟩ : ∃ W, W5.setCell ⟨gl, task * 4, none⟩ (.int .i64 (tm + by_)) = W := ⟨_, rfl⟩
          rw [hW6] at HO6 HB6 ⊢
          clear hW6 s1 s2 HC4 HON HOa HBa wl
          have HLL : Hid ((longT ts task by_).length = t) := by show _ = _; rw [longT_len]; exact HLN.out
          have HSML : Hid (SmTs (longT ts task by_)) := tasks_sm (longT_ok HDR.out (by rw [HLN.out]; exact h1) (by rw [HLN.out]; omega) (by rw [HLN.out]; exact htk) (by have := HBY.out; omega))
          have HRD : Hid (TasksR W6 (.slice (some ⟨gl, 0, none⟩) t cl) (longT ts task by_)) := by
            refine rawT_reads (M := 0) (ts := ts) (us := longT ts task by_) (fun j hj => HSRC.out j hj) ((HB12.out.trans (HB4.out.mono HB12.out.size)).trans (HB6.out.mono (by have := HB12.out.size; have := HB4.out.size; omega))) (by rw [longT_len]) (by have := HLN.out; unfold maxLen; omega) (fun j hj => ?_) (by rw [HLN.out]; exact HO6.out) (by have := HLN.out; omega)
            have q1 := HSML.out.time j (by rw [longT_len]; exact hj)
            have q2 := HSML.out.need j (by rw [longT_len]; exact hj)
            have hbl : befN (longT ts task by_) j = befN ts j ∧ lagN (longT ts task by_) j = lagN ts j := by
              unfold befN lagN
              rw [longT_at _ (by rw [HLN.out]; exact htk)]
              split
              · rename_i e; subst e; exact ⟨rfl, rfl⟩
              · exact ⟨rfl, rfl⟩
            exact ⟨hbl.1, hbl.2, wf_i64_iff.2 ⟨by omega, by omega⟩, wf_i64_iff.2 ⟨by omega, by omega⟩⟩
          have HIC := Lib.hid (isCrewPlan_any _ (.slice (some ⟨gM, 0, none⟩) t t) (longT ts task by_) out2 crew W6 HRD.out ((HO4.out.below HB6.out (Nat.le_refl _)).ints))
          rw [HOT.out.1] at HIC
          refine HIC.out.mono ?_
          rintro e W7 ⟨rfl, hb7⟩
          have HB7 : Hid (Below W4.heap.size W4 W7) := HB6.out.trans (hb7.mono HB6.out.size)
          have HMC : Hid (∀ j, j < t → W7.cell? ⟨gM, j, none⟩ = some (.int .i64 (nth out2 j))) := fun j hj => (HO4.out.below HB7.out (Nat.le_refl _)).at_ (by have := HOT.out.2.1; have := HLN.out; omega) j (by have := HOT.out.2.1; have := HLN.out; omega)
          have HSC : Hid (∀ j, j < t → W7.cell? ⟨gS, j, none⟩ = some (.int .i64 (nth st j))) := fun j hj => (HO2.out.below (HB4.out.trans (HB7.out.mono HB4.out.size)) (Nat.le_refl _)).at_ (by have := HST.out.2.1; have := HLN.out; omega) j (by have := HST.out.2.1; have := HLN.out; omega)
          have HGE : Hid (∀ j, j < t → 0 ≤ nth out2 j ∧ nth st j ≤ nth out2 j) := fun j hj => HOT.out.2.2 j (by rw [HLN.out]; exact hj)
          have HBF : Hid (Below w.heap.size w W7) := HB4w.out.trans (HB7.out.mono HB4w.out.size)
          have HA0 : Hid (ApR st out2 t W7 (.int .i64 0) (.int .i64 0) W7) := ⟨0, 0, rfl, rfl, Nat.zero_le _, rfl⟩
          clear hb7 HIC HRD HO6 HB6
          go_wp2
          go_loopw [20, 102] (fun va vk wr => ApR st out2 t W7 va vk wr) (fun _ vk _ => t - (intOf vk).toNat)
          case atStart => exact HA0.out
          case round =>
            obtain ⟨k, m, rfl, rfl, hk, rfl⟩ := hrel
            clear HA0
            have hdb := diffO_bounds (st := st) (out := out2) k
            by_cases hkt : k < t
            · have q1 : (k : Int) < (t : Int) := by omega
              have q0 : (0 : Int) ≤ (k : Int) := by omega
              have cm := HMC.out k hkt
              have cs := HSC.out k hkt
              have hge := HGE.out k hkt
              have HDN := Lib.hid (diffO_all (st := st) (out := out2) (n := k) hge.1)
              obtain ⟨F, hF⟩ : ∃ x, nth out2 k = x := ⟨_, rfl⟩
              obtain ⟨S, hS⟩ : ∃ x, nth st k = x := ⟨_, rfl⟩
              obtain ⟨D, hD⟩ : ∃ x, diffO st out2 k = x := ⟨_, rfl⟩
              rw [hF] at cm hge HDN
              rw [hS] at cs hge HDN
              rw [hD] at HDN hdb ⊢
              clear hF hS hD
              have hlt : ¬ F < S := by omega
              have wd : IntKind.i64.wrap (D + 1) = D + 1 := IntWalk.i64_in _ (by omega)
              by_cases he : F = S
              · have HDM : Hid (diffO st out2 (k + 1) = D) := by have := HDN.out; rw [if_neg (fun x => x he)] at this; show _ = _; omega
                subst he
                clear HDN
                go_wp2
                go_quiet (fail)
                go_wp2
                go_quiet (fail)
                go_wp2
                go_roundw
                case rel => exact ⟨k + 1, _, by rw [HDM.out], by go_num, by omega, rfl⟩
                case measure => simp [intOf]; omega
              · have HDM : Hid (diffO st out2 (k + 1) = D + 1) := by have := HDN.out; rw [if_pos he] at this; exact this
                clear HDN
                go_wp2
                go_quiet (fail)
                go_wp2
                go_quiet (fail)
                go_wp2
                go_roundw
                case rel => exact ⟨k + 1, _, by rw [HDM.out], by go_num, by omega, rfl⟩
                case measure => simp [intOf]; omega
            · have q1 : ¬ (k : Int) < (t : Int) := by omega
              obtain rfl : k = t := by omega
              rw [HDD.out]
              by_cases hb0 : by_ = 0
              · have hd0 := HD0.out hb0
                subst hb0 hd0
                go_wp2
                go_ret
                exact ⟨rfl, below_drewN _ HBF.out⟩
              · have hb1 : decide (0 < by_) = true := by have := HBY.out; simp; omega
                go_wp2
                go_ret
                exact ⟨ret_bool (by simp [hb1]), below_drewN _ HBF.out⟩
  · go_enter Try.func8, Try.ntmps8
    go_wp2_with fail
    refine (b10Long_any _ _ xs ys _ hv0 hv1).mono ?_
    rintro e w' ⟨rfl, rfl⟩
    rw [hlong]
    go_wp2
    go_ret
    exact ⟨rfl, Below.refl _ _⟩
end Go.Proofs.Ytnpfninkopffmaa
