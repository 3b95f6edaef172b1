
/- spec: numbers and lists read from texts (l01Value, l01Numbers). Conditions: texts of at most 2^20 bytes. -/
import Derived.Test.YtcjeededlhdcbaaDoorRdI2
namespace Go.Proofs.YtcjeededlhdcbaaDoor
open Go.RowKit Go.Shelf Go.BigFrame
set_option linter.unusedVariables false
set_option linter.unusedSimpArgs false

theorem bytI_at {s : ByteArray} {i : Nat} (h : i < s.size) : (bytI s)[i]'(by rw [bytI_len]; exact h) = (s[i].toNat : Int) := by
  unfold bytI
  rw [List.getElem_map]
  rfl
theorem valTo_bound {s : ByteArray} : ∀ k, k ≤ s.size → 0 ≤ valL ((bytI s).take k) ∧ valL ((bytI s).take k) < ((10 ^ k : Nat) : Int)
  | 0, _ => ⟨Int.le_refl _, by show (0 : Int) < _; decide⟩
  | k + 1, h => by
    obtain ⟨h1, h2⟩ := valTo_bound (s := s) k (by omega)
    rw [List.take_succ_eq_append_getElem (by rw [bytI_len]; omega), valL_snoc, bytI_at (by omega)]
    have hp : ((10 ^ (k + 1) : Nat) : Int) = 10 * ((10 ^ k : Nat) : Int) := by rw [Nat.pow_succ]; push_cast; omega
    rw [hp]
    unfold valStep
    split <;> omega
theorem valTo_small {s : ByteArray} {k : Nat} (h : k ≤ s.size) (h17 : k ≤ 17) : 0 ≤ valL ((bytI s).take k) ∧ valL ((bytI s).take k) < 100000000000000000 := by
  obtain ⟨h1, h2⟩ := valTo_bound (s := s) k h
  have h3 : 10 ^ k ≤ 10 ^ 17 := Nat.pow_le_pow_right (by decide) h17
  have h4 : (10 : Nat) ^ 17 = 100000000000000000 := by decide
  omega
theorem byte_at2 {s : ByteArray} {i : Nat} (h : i < s.size) : s.data.toList[i]? = some s[i] := by
  have h2 : i < s.data.toList.length := by rw [size_data]; exact h
  rw [List.getElem?_eq_getElem h2]
  rfl
theorem u8_in (c : Int) (h : 0 ≤ c ∧ c ≤ 255) : IntKind.u8.wrap c = c := by
  simp only [IntKind.wrap, IntKind.signed, IntKind.bits]
  simp
  omega
def ValR (s : ByteArray) (w : World) (vn vi : Value) (wr : World) : Prop := ∃ k : Nat, vn = .int .i64 (valL ((bytI s).take k)) ∧ vi = .int .i64 k ∧ k ≤ s.size ∧ wr = w
set_option maxRecDepth 100000 in
set_option maxHeartbeats 2000000 in
theorem l01Value_any (s : ByteArray) (w : World) (hs : s.size ≤ 1048576) :
    Calls Tryd.prog 57 #[.string s] w fun e w' => e = .returned (.tuple #[.int .i64 (rdV s), .bool (rdB s)]) ∧ Below w.heap.size w w' := by
  have HNO : Hid (rdD s = none → rdV s = 0 ∧ rdB s = false) := fun h => by unfold rdV rdB; rw [h]; exact ⟨rfl, rfl⟩
  have HLEN : Hid (¬ (1 ≤ s.size ∧ s.size ≤ 17) → rdD s = none) := fun h => by
    cases hr : rdD s with
    | none => rfl
    | some n => exact absurd (rdD_len hr) h
  by_cases hlo : s.size < 1
  · have h1 : (s.size : Int) < 1 := by omega
    have HF := Lib.hid (HNO.out (HLEN.out (by omega)))
    clear hlo
    go_enter Tryd.func57, Tryd.ntmps57
    go_wp2
    go_ret2
    rw [HF.out.1, HF.out.2]
    exact ⟨rfl, Below.refl _ _⟩
  · have h1 : ¬ (s.size : Int) < 1 := by omega
    by_cases hhi : s.size ≤ 17
    · have h2 : ¬ (s.size : Int) > 17 := by omega
      have HDC : Hid (∀ n W, (Lit.int .i64 n).wf = true → Calls Tryd.prog 72 #[.int .i64 n] W fun e w' => e = .returned (.string (decS n)) ∧ Below W.heap.size W w') := fun n W hn => l01Dec_any n W hn
      have HIN : Hid (∀ (n : Int) W, Calls Tryd.prog 58 #[.int .i64 n, .int .i64 (-1000000000000000), .int .i64 1000000000000000] W fun e w' => e = .returned (.bool (win n (-maxV) maxV)) ∧ W = w') := fun n W => l00In_any n (-1000000000000000) 1000000000000000 W
      have HLN : Hid (∀ k, k ≤ s.size → 0 ≤ valL ((bytI s).take k) ∧ valL ((bytI s).take k) < 100000000000000000) := fun k hk => valTo_small hk (by omega)
      have HRD : Hid (rdD s = if -maxV ≤ valS (bytI s) ∧ valS (bytI s) ≤ maxV ∧ decS (valS (bytI s)) = s then some (valS (bytI s)) else none) := rfl
      have HR0 : Hid (ValR s w (.int .i64 0) (.int .i64 0) w) := ⟨0, rfl, rfl, Nat.zero_le _, rfl⟩
      go_enter Tryd.func57, Tryd.ntmps57
      go_wp2
      go_loopw [4, 5] (fun vn vi wr => ValR s w vn vi wr) (fun _ vi _ => s.size - (intOf vi).toNat)
      case atStart => exact HR0.out
      case round =>
        obtain ⟨k, rfl, rfl, hk, rfl⟩ := hrel
        clear HR0
        have hv := HLN.out k hk
        by_cases hks : k < s.size
        · have k1 : (k : Int) < (s.size : Int) := by omega
          have k0 : (0 : Int) ≤ (k : Int) := by omega
          have HNX : Hid (valL ((bytI s).take (k + 1)) = valStep (valL ((bytI s).take k)) (s[k].toNat : Int)) := by
            show _ = _
            rw [List.take_succ_eq_append_getElem (by rw [bytI_len]; omega), valL_snoc, bytI_at hks]
          have hbl := s[k].toNat_lt
          obtain ⟨v, hvv⟩ : ∃ v, valL ((bytI s).take k) = v := ⟨_, rfl⟩
          rw [hvv] at HNX hv ⊢
          clear hvv
          by_cases hd1 : 48 ≤ s[k].toNat
          · have d1 : (48 : Int) ≤ (s[k].toNat : Int) := by omega
            by_cases hd2 : s[k].toNat ≤ 57
            · have d2 : (s[k].toNat : Int) ≤ 57 := by omega
              have HN2 : Hid (valL ((bytI s).take (k + 1)) = 10 * v + ((s[k].toNat : Int) - 48)) := by show _ = _; rw [HNX.out]; unfold valStep; rw [if_pos (by omega)]
              have w1 : IntKind.u8.wrap ((s[k].toNat : Int) - 48) = (s[k].toNat : Int) - 48 := u8_in _ (by omega)
              have w2 : IntKind.i64.wrap (10 * v) = 10 * v := IntWalk.i64_in _ (by omega)
              have w3 : IntKind.i64.wrap (10 * v + ((s[k].toNat : Int) - 48)) = 10 * v + ((s[k].toNat : Int) - 48) := IntWalk.i64_in _ (by omega)
              have w4 : IntKind.i64.wrap ((s[k].toNat : Int) - 48) = (s[k].toNat : Int) - 48 := IntWalk.i64_in _ (by omega)
              clear HNX
              go_wp2
              go_roundw
              case rel => exact ⟨k + 1, by rw [HN2.out], by go_num, by omega, rfl⟩
              case measure => simp [intOf]; omega
            · have d2 : decide ((s[k].toNat : Int) ≤ 57) = false := by simp; omega
              have HN2 : Hid (valL ((bytI s).take (k + 1)) = v) := by show _ = _; rw [HNX.out]; unfold valStep; rw [if_neg (by omega)]
              clear HNX
              go_wp2
              go_roundw
              case rel => exact ⟨k + 1, by rw [HN2.out], by go_num, by omega, rfl⟩
              case measure => simp [intOf]; omega
          · have d1 : decide ((48 : Int) ≤ (s[k].toNat : Int)) = false := by simp; omega
            have HN2 : Hid (valL ((bytI s).take (k + 1)) = v) := by show _ = _; rw [HNX.out]; unfold valStep; rw [if_neg (by omega)]
            clear HNX
            go_wp2
            go_roundw
            case rel => exact ⟨k + 1, by rw [HN2.out], by go_num, by omega, rfl⟩
            case measure => simp [intOf]; omega
        · have k1 : ¬ (k : Int) < (s.size : Int) := by omega
          have hfull : valL ((bytI s).take k) = valL (bytI s) := by rw [List.take_of_length_le (by rw [bytI_len]; omega)]
          have h0s : 0 < s.size := by omega
          have hhd : (bytI s).head? = some (s[0].toNat : Int) := by
            rw [List.head?_eq_getElem?, List.getElem?_eq_getElem (by rw [bytI_len]; exact h0s), bytI_at h0s]
          rw [hfull] at hv ⊢
          obtain ⟨v, hvv⟩ : ∃ v, valL (bytI s) = v := ⟨_, rfl⟩
          have HVS : Hid (valS (bytI s) = if s[0].toNat = 45 then -v else v) := by
            show _ = _
            unfold valS
            rw [hhd, hvv]
            by_cases q : s[0].toNat = 45
            · rw [if_pos (by rw [q]; rfl), if_pos q]
            · rw [if_neg (by intro e; injection e with e; omega), if_neg q]
          rw [hvv] at hv ⊢
          clear hfull hhd hvv
          have HEND : Hid (∀ u, valS (bytI s) = u → -100000000000000000 < u ∧ u < 100000000000000000 → (win u (-maxV) maxV = false → rdV s = 0 ∧ rdB s = false) ∧ (win u (-maxV) maxV = true → (decS u = s → rdV s = u ∧ rdB s = true) ∧ (decS u ≠ s → rdV s = 0 ∧ rdB s = false))) := fun u hu hub => by
            have h3 := HRD.out
            rw [hu] at h3
            refine ⟨fun hw => HNO.out ?_, fun hw => ⟨fun hd => ?_, fun hd => HNO.out ?_⟩⟩
            · rw [h3, if_neg]
              intro h
              have := win_true.2 ⟨h.1, h.2.1⟩
              rw [this] at hw; cases hw
            · have h4 := win_true.1 hw
              rw [if_pos ⟨h4.1, h4.2, hd⟩] at h3
              unfold rdV rdB
              rw [h3]; exact ⟨rfl, rfl⟩
            · rw [h3, if_neg (fun h => hd h.2.2)]
          by_cases h45 : s[0].toNat = 45
          · have q1 : ((s[0].toNat : Int) == 45) = true := by rw [h45]; rfl
            have HU : Hid (valS (bytI s) = -v) := by have := HVS.out; rw [if_pos h45] at this; exact this
            have w1 : IntKind.i64.wrap (-v) = -v := IntWalk.i64_in _ (by omega)
            obtain ⟨E1, E2⟩ := HEND.out (-v) HU.out (by omega)
            have H1 := Lib.hid E1
            have H2 := Lib.hid E2
            have hwf : (Lit.int .i64 (-v)).wf = true := wf_i64_iff.2 ⟨by omega, by omega⟩
            have HD := Lib.hid (HDC.out (-v) wr hwf)
            have HI := Lib.hid (HIN.out (-v) wr)
            clear E1 E2 h45 HVS HEND hwf
            cases hw : win (-v) (-maxV) maxV
            · rw [hw] at HI
              have HF := Lib.hid (H1.out hw)
              go_wp2_with fail
              refine HI.out.mono ?_
              rintro e w' ⟨rfl, rfl⟩
              go_wp2
              go_ret2
              rw [HF.out.1, HF.out.2]
              exact ⟨rfl, Below.refl _ _⟩
            · rw [hw] at HI
              have H3 := Lib.hid (H2.out hw)
              have hq := str_ne (decS (-v)) s
              go_wp2_with fail
              refine HI.out.mono ?_
              rintro e w' ⟨rfl, rfl⟩
              go_wp2_with fail
              refine HD.out.mono ?_
              rintro e W2 ⟨rfl, hb2⟩
              have HB2 := Lib.hid hb2
              clear hb2 HD
              by_cases hd : decS (-v) = s
              · rw [decide_eq_true hd] at hq
                have HF := Lib.hid (H3.out.1 hd)
                clear hd
                go_wp2
                go_ret2
                rw [HF.out.1, HF.out.2]
                exact ⟨rfl, HB2.out⟩
              · rw [decide_eq_false hd] at hq
                have HF := Lib.hid (H3.out.2 hd)
                clear hd
                go_wp2
                go_ret2
                rw [HF.out.1, HF.out.2]
                exact ⟨rfl, HB2.out⟩
          · have q1 : ((s[0].toNat : Int) == 45) = false := by simp; omega
            have HU : Hid (valS (bytI s) = v) := by have := HVS.out; rw [if_neg h45] at this; exact this
            obtain ⟨E1, E2⟩ := HEND.out v HU.out (by omega)
            have H1 := Lib.hid E1
            have H2 := Lib.hid E2
            have hwf : (Lit.int .i64 v).wf = true := wf_i64_iff.2 ⟨by omega, by omega⟩
            have HD := Lib.hid (HDC.out v wr hwf)
            have HI := Lib.hid (HIN.out v wr)
            clear E1 E2 h45 HVS HEND hwf
            cases hw : win v (-maxV) maxV
            · rw [hw] at HI
              have HF := Lib.hid (H1.out hw)
              go_wp2_with fail
              refine HI.out.mono ?_
              rintro e w' ⟨rfl, rfl⟩
              go_wp2
              go_ret2
              rw [HF.out.1, HF.out.2]
              exact ⟨rfl, Below.refl _ _⟩
            · rw [hw] at HI
              have H3 := Lib.hid (H2.out hw)
              have hq := str_ne (decS v) s
              go_wp2_with fail
              refine HI.out.mono ?_
              rintro e w' ⟨rfl, rfl⟩
              go_wp2_with fail
              refine HD.out.mono ?_
              rintro e W2 ⟨rfl, hb2⟩
              have HB2 := Lib.hid hb2
              clear hb2 HD
              by_cases hd : decS v = s
              · rw [decide_eq_true hd] at hq
                have HF := Lib.hid (H3.out.1 hd)
                clear hd
                go_wp2
                go_ret2
                rw [HF.out.1, HF.out.2]
                exact ⟨rfl, HB2.out⟩
              · rw [decide_eq_false hd] at hq
                have HF := Lib.hid (H3.out.2 hd)
                clear hd
                go_wp2
                go_ret2
                rw [HF.out.1, HF.out.2]
                exact ⟨rfl, HB2.out⟩
    · have h2 : (s.size : Int) > 17 := by omega
      have HF := Lib.hid (HNO.out (HLEN.out (by omega)))
      clear hhi
      go_enter Tryd.func57, Tryd.ntmps57
      go_wp2
      go_ret2
      rw [HF.out.1, HF.out.2]
      exact ⟨rfl, Below.refl _ _⟩
set_option maxRecDepth 100000 in
set_option maxHeartbeats 4000000 in
theorem l01Numbers_any (s : ByteArray) (w : World) (hs : s.size ≤ 1048576) :
    Calls Tryd.prog 47 #[.string s] w fun e w' => (∃ v, e = .returned (.tuple #[v, .bool (rlB s)]) ∧ OwnI w' w.heap.size v (rlL s)) ∧ Below w.heap.size w w' := by
  obtain ⟨A, hA⟩ : ∃ A, w.heap.size = A := ⟨_, rfl⟩
  have HCU : Hid (∀ W, Calls Tryd.prog 50 #[.string s, .int .u8 44] W fun e w' => (∃ v, e = .returned v ∧ OwnT w' W.heap.size v (cutB 44 s)) ∧ Below W.heap.size W w') := fun W => l01Cut_any s 44 W hs
  have HRD : Hid (∀ p W, p.size ≤ 1048576 → Calls Tryd.prog 57 #[.string p] W fun e w' => e = .returned (.tuple #[.int .i64 (rdV p), .bool (rdB p)]) ∧ Below W.heap.size W w') := fun p W hp => l01Value_any p W hp
  have HPL : Hid (∀ x ∈ cutB 44 s, x.size ≤ 1048576) := fun x hx => Nat.le_trans (cutB_le hx) hs
  have HA := Lib.hid hA
  have HB0 : Hid (Below A w (w.alloc (.cells #[] 2))) := (Below.refl _ w).alloc (by rw [hA]; exact Nat.le_refl _) _
  have HO0 : Hid (OwnI (w.alloc (.cells #[] 2)) A (.slice (some ⟨A, 0, none⟩) 0 0) []) := by
    have h := OwnI.lit w A [] (by rw [hA]; exact Nat.le_refl _) (Nat.zero_le _)
    rw [hA] at h
    exact h
  have HS0 : Hid (A < (w.alloc (.cells #[] 2)).heap.size) := by show _ < _; simp; omega
  have hq : (s.toList == [110, 111, 110, 101]) = decide (s = noneS) := by
    have h := str_ne s noneS
    rw [show noneS.toList = [110, 111, 110, 101] by rw [ByteArray.toList_eq]; rfl] at h
    exact h
  rw [hA]
  by_cases hn : s = noneS
  · rw [decide_eq_true hn] at hq
    have HF : Hid (rlB s = true ∧ rlL s = []) := by
      unfold rlB rlL rdL piecesL
      rw [if_pos hn]
      exact ⟨rfl, rfl⟩
    clear hn hA
    go_enter Tryd.func47, Tryd.ntmps47
    go_wp2
    go_ret2
    simp only [HA.out]
    rw [HF.out.1, HF.out.2]
    exact ⟨⟨_, rfl, HO0.out⟩, HB0.out⟩
  · rw [decide_eq_false hn] at hq
    have HPI : Hid (piecesL s = cutB 44 s) := by show _ = _; unfold piecesL; rw [if_neg hn]
    have HLIM : Hid (¬ (cutB 44 s).length ≤ 64 → rlB s = false ∧ rlL s = []) := fun h => by
      unfold rlB rlL rdL
      rw [HPI.out, if_neg h]; exact ⟨rfl, rfl⟩
    have HLIN : Hid ((cutB 44 s).length ≤ 64 → rlB s = (rdAll (cutB 44 s)).isSome ∧ rlL s = (rdAll (cutB 44 s)).getD []) := fun h => by
      unfold rlB rlL rdL
      rw [HPI.out, if_pos h]; exact ⟨rfl, rfl⟩
    obtain ⟨ps, hps⟩ : ∃ ps, cutB 44 s = ps := ⟨_, rfl⟩
    rw [hps] at HPL HLIM HLIN
    simp only [hps] at HCU
    obtain ⟨L, hL⟩ : ∃ L, ps.length = L := ⟨_, rfl⟩
    have HL : Hid (ps.length = L) := hL
    rw [hL] at HLIM HLIN
    have HC := Lib.hid (HCU.out (w.alloc (.cells #[] 2)))
    clear hn hps hL HPI HCU hA
    go_enter Tryd.func47, Tryd.ntmps47
    go_wp2_with fail
    refine HC.out.mono ?_
    rintro e W1 ⟨⟨v, rfl, hov⟩, hb1⟩
    obtain ⟨a, c, rfl, hcells⟩ := hov.form
    have HB1 : Hid (Below A w W1) := HB0.out.trans (hb1.mono (by have := HS0.out; omega))
    have HO1 := Lib.hid (HO0.out.below hb1 (Nat.le_refl _))
    have HZ1 : Hid (A < W1.heap.size) := by have := HS0.out; have := hb1.size; show _ < _; omega
    have HCT : Hid (∀ k, k < L → ∀ W, GrownL [A] W1 W → ∃ b, a = some ⟨b, 0, none⟩ ∧ W.cell? ⟨b, k, none⟩ = some (.string (ps.getD k ByteArray.empty))) := fun k hk W hW => by
      obtain ⟨b, h1, h2, h3, h4⟩ := hcells k (by rw [HL.out]; exact hk)
      exact ⟨b, h1, (hW.cell (p := ⟨b, k, none⟩) h3 (by show b ∉ [A]; have := HS0.out; simp; omega)).trans h4⟩
    rw [HL.out]
    have HNI := Lib.hid (nilIn W1 A)
    have HR0 : Hid (RdR ps A W1.heap.size W1 (.slice (some ⟨A, 0, none⟩) 0 0) (.int .i64 0) W1) := ⟨0, A, 0, 0, [], rfl, rfl, Nat.zero_le _, rfl, rfl, HO1.out, .inl rfl, GrownL.refl _ _⟩
    clear hov hb1 hcells HC HO1 HO0 HB0
    by_cases hL64 : L ≤ 64
    · have hL2 : ¬ (L : Int) > 64 := by omega
      have HLI := Lib.hid (HLIN.out hL64)
      clear HLIN HLIM
      go_wp2
      simp only [HA.out]
      go_loopw [4, 6] (fun vo vi wr => RdR ps A W1.heap.size W1 vo vi wr) (fun _ vi _ => L - (intOf vi).toNat)
      case atStart => exact HR0.out
      case round =>
        obtain ⟨k, g, cg, n, l, rfl, rfl, hk, HN, HAL, HO, HGA, HG⟩ := hrel
        clear HR0
        have HBw : Hid (Below A w wr) := HG.out.toBelow HB1.out (by have := HZ1.out; omega) (fun j hj => by simp; omega)
        by_cases hkL : k < L
        · have k1 : (k : Int) < (L : Int) := by omega
          have k0 : (0 : Int) ≤ (k : Int) := by omega
          obtain ⟨b, rfl, cb⟩ := HCT.out k hkL wr HG.out
          have hkp : k < ps.length := by rw [HL.out]; exact hkL
          obtain ⟨p, hp⟩ : ∃ p, ps.getD k ByteArray.empty = p := ⟨_, rfl⟩
          have hpk : ps[k] = p := by rw [← hp, List.getD_eq_getElem?_getD, List.getElem?_eq_getElem hkp]; rfl
          have HTK : Hid (ps.take (k + 1) = ps.take k ++ [p]) := by show _ = _; rw [List.take_succ_eq_append_getElem hkp, hpk]
          have hps : p.size ≤ 1048576 := HPL.out p (by rw [← hpk]; exact List.getElem_mem hkp)
          rw [hp] at cb
          have HD := Lib.hid (HRD.out p wr hps)
          have HSN := Lib.hid (rdAll_snoc p (ps.take k))
          rw [← HTK.out, HAL.out] at HSN
          cases hd : rdD p with
          | none =>
            have HV : Hid (rdV p = 0 ∧ rdB p = false) := by unfold rdV rdB; rw [hd]; exact ⟨rfl, rfl⟩
            have HBAD : Hid (rdAll ps = none) := by
              have h1 := HSN.out
              rw [hd] at h1
              have h2 := rdAll_bad (ps.drop (k + 1)) (ps.take (k + 1)) h1
              rw [List.take_append_drop] at h2
              exact h2
            rw [HV.out.1, HV.out.2] at HD
            clear hd hp hpk
            go_wp2_with fail
            refine HD.out.mono ?_
            rintro e W2 ⟨rfl, hb2⟩
            have HB2 : Hid (Below A w W2) := HBw.out.trans (hb2.mono (by have := HZ1.out; have := HG.out.size; omega))
            have HNI2 := Lib.hid (nilIn W2 A)
            clear hb2 HD
            go_wp2
            go_ret2
            rw [HLI.out.1, HLI.out.2, HBAD.out]
            exact ⟨⟨_, rfl, HNI2.out⟩, HB2.out⟩
          | some x =>
            have HV : Hid (rdV p = x ∧ rdB p = true) := by unfold rdV rdB; rw [hd]; exact ⟨rfl, rfl⟩
            have HAN : Hid (rdAll (ps.take (k + 1)) = some (l ++ [x])) := by
              have h1 := HSN.out
              rw [hd] at h1
              exact h1
            rw [HV.out.1, HV.out.2] at HD
            have hl64 : l.length + 1 ≤ 1048580 := by have := rdAll_len _ _ HAL.out; rw [List.length_take] at this; omega
            clear hd hp hpk
            go_wp2_with fail
            refine HD.out.mono ?_
            rintro e W2 ⟨rfl, hb2⟩
            have HO2 := Lib.hid (HO.out.below hb2 (Nat.le_refl _))
            have HG2 := Lib.hid (HG.out.below hb2 HG.out.size)
            have HA2 : Hid (A ≤ W2.heap.size) := by have := HZ1.out; have := HG.out.size; have := hb2.size; show _ ≤ _; omega
            clear hb2 HD HO HG
            go_wp2_with (at_builtin; refine append_i64L rfl _ _ rfl A (.slice (some ⟨g, 0, none⟩) n cg) l [x] (by simp) rfl _ rfl HO2.out HA2.out (by simp; omega) ?_; intro g3 c3 w3 ho3 hg3 hl3; have HO3 := Lib.hid ho3; have HG3 : Hid (GrownL [A] W1 w3) := HG2.out.grown hg3 (fun j e => by rw [ownBlock_slice] at e; injection e with e; rcases HGA.out with q | q; exact .inl (List.mem_singleton.2 (by omega)); exact .inr (by omega)); have HGA3 : Hid (g3 = A ∨ W1.heap.size ≤ g3) := lie_keep hl3 HGA.out HG2.out.size; clear ho3 hg3 hl3)
            go_roundw
            case rel => exact ⟨k + 1, g3, c3, _, _, rfl, by go_num, hkp, by show _ = _; simp, HAN.out, HO3.out, HGA3.out, HG3.out⟩
            case measure => simp [intOf]; omega
        · have k1 : ¬ (k : Int) < (L : Int) := by omega
          have HALL : Hid (rdAll ps = some l) := by
            have h := HAL.out
            rw [List.take_of_length_le (by rw [HL.out]; omega)] at h
            exact h
          clear hkL
          go_wp2
          go_ret2
          rw [HLI.out.1, HLI.out.2, HALL.out]
          exact ⟨⟨_, rfl, HO.out⟩, HBw.out⟩
    · have hL2 : (L : Int) > 64 := by omega
      have HLI := Lib.hid (HLIM.out hL64)
      clear HLIN HLIM
      go_wp2
      go_ret2
      rw [HLI.out.1, HLI.out.2]
      exact ⟨⟨_, rfl, HNI.out⟩, HB1.out⟩
end Go.Proofs.YtcjeededlhdcbaaDoor
