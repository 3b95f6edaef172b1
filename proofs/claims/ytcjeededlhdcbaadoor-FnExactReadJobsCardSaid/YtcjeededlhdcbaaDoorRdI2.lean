
/- impl: lists read from texts (pieces, readList, ReadList). Conditions: texts of at most 2^20 bytes; the library's tables and its two error values stand. -/
import Derived.Test.YtcjeededlhdcbaaDoorRdI
import Derived.Test.YtcjeededlhdcbaaDoorAppendLies
namespace Go.Proofs.YtcjeededlhdcbaaDoor
open Go.RowKit Go.Shelf Go.BigFrame
set_option linter.unusedVariables false
set_option linter.unusedSimpArgs false

theorem cutL_len (m : UInt8) : ∀ (l : List UInt8), ∀ x ∈ cutL m l, x.length ≤ l.length
  | [], x, h => by
    simp only [cutL, List.mem_singleton] at h
    subst h; exact Nat.le_refl _
  | c :: l, x, h => by
    have ih := cutL_len m l
    by_cases hc : c = m
    · subst hc
      rw [cutL_eq] at h
      rcases List.mem_cons.1 h with e | e
      · subst e; exact Nat.zero_le _
      · have := ih x e; rw [List.length_cons]; omega
    · rw [cutL_ne hc] at h
      split at h
      · rename_i p ps he
        rcases List.mem_cons.1 h with e | e
        · subst e
          have := ih p (by rw [he]; exact List.mem_cons_self)
          rw [List.length_cons, List.length_cons]; omega
        · have := ih x (by rw [he]; exact List.mem_cons_of_mem _ e)
          rw [List.length_cons]; omega
      · rename_i he
        rw [List.mem_singleton] at h
        subst h
        rw [List.length_cons, List.length_cons]; simp
theorem cutB_le {m : UInt8} {s x : ByteArray} (h : x ∈ cutB m s) : x.size ≤ s.size := by
  have h1 : x.data.toList ∈ (cutB m s).map (·.data.toList) := List.mem_map.2 ⟨x, h, rfl⟩
  rw [cutB_map] at h1
  have := cutL_len m _ _ h1
  rw [size_data, size_data] at this
  exact this
theorem piece_le {s x : ByteArray} (h : x ∈ piecesL s) : x.size ≤ s.size := by
  unfold piecesL at h
  split at h
  · cases h
  · exact cutB_le h
theorem pieces_len (s : ByteArray) : (piecesL s).length ≤ s.size + 2 := by
  unfold piecesL
  split
  · exact Nat.zero_le _
  · rw [cutB_length]
    have := Go.Lib.count_le s.data.toList [44]
    rw [size_data] at this
    have h3 : Go.Lib.countB s ⟨#[44]⟩ ≤ s.size + 1 := this
    omega
theorem nilTx (w : World) (B : Nat) : OwnT w B (.slice none 0 0) [] := ⟨by simp, .inl ⟨rfl, rfl⟩⟩
theorem nilIn (w : World) (B : Nat) : OwnI w B (.slice none 0 0) [] := ⟨by simp, .inl ⟨rfl, rfl⟩⟩
set_option maxRecDepth 100000 in
set_option maxHeartbeats 1000000 in
theorem pieces_any (s : ByteArray) (m : Int) (w : World) (hs : s.size ≤ 1048576) (hm : w.cell? ⟨0, 0, none⟩ = some (.int .i64 m)) :
    Calls Tryd.prog 59 #[.string s] w fun e w' => (∃ v, e = .returned v ∧ OwnT w' w.heap.size v (piecesL s)) ∧ Below w.heap.size w w' := by
  have HSP := Lib.hid (Tryd.strings_Split s ⟨#[44]⟩ m w (by omega) hm (by decide))
  have HLIT : Hid (∀ W, W = w.alloc (.cells ((cutB 44 s).map Value.string).toArray 9) → OwnT W w.heap.size (.slice (some ⟨w.heap.size, 0, none⟩) (cutB 44 s).length (cutB 44 s).length) (cutB 44 s) ∧ Below w.heap.size w W) := by
    rintro W rfl
    refine ⟨OwnT.lit w w.heap.size (cutB 44 s) (Nat.le_refl _) ?_, (Below.refl _ w).alloc (Nat.le_refl _) _⟩
    have := Go.Lib.count_le s.data.toList [44]
    rw [size_data] at this
    have h3 : Go.Lib.countB s ⟨#[44]⟩ ≤ s.size + 1 := this
    rw [cutB_length]; unfold maxLen; omega
  have hlen := cutB_length 44 s
  have hcut : Go.Lib.splitB ⟨#[44]⟩ 0 (Go.Lib.countB s ⟨#[44]⟩) s = cutB 44 s := rfl
  rw [← hlen] at HSP
  rw [hcut] at HSP
  have HNIL := Lib.hid (nilTx w w.heap.size)
  clear hlen hcut hm
  have hq : (s.toList == [110, 111, 110, 101]) = decide (s = noneS) := by
    have h := str_ne s noneS
    rw [show noneS.toList = [110, 111, 110, 101] by rw [ByteArray.toList_eq]; rfl] at h
    exact h
  by_cases hn : s = noneS
  · rw [decide_eq_true hn] at hq
    have HP : Hid (piecesL s = []) := by show _ = _; unfold piecesL; rw [if_pos hn]
    clear hn HSP HLIT
    go_enter Tryd.func59, Tryd.ntmps59
    go_wp2
    go_ret
    rw [HP.out]
    exact ⟨⟨_, rfl, HNIL.out⟩, Below.refl _ _⟩
  · rw [decide_eq_false hn] at hq
    have HP : Hid (piecesL s = cutB 44 s) := by show _ = _; unfold piecesL; rw [if_neg hn]
    clear hn
    go_enter Tryd.func59, Tryd.ntmps59
    go_wp2_with fail
    refine HSP.out.mono ?_
    rintro e W1 ⟨rfl, hW1⟩
    have H1 := Lib.hid (HLIT.out W1 hW1)
    clear hW1 HLIT HSP
    go_wp2
    go_ret
    rw [HP.out]
    exact ⟨⟨_, rfl, H1.out.1⟩, H1.out.2⟩
theorem lie_keep {g g3 A N n c : Nat} {W2 : World} (h : (Value.slice (some ⟨g, 0, none⟩) n c).ownBlock = some g3 ∨ W2.heap.size ≤ g3) (hg : g = A ∨ N ≤ g) (hN : N ≤ W2.heap.size) : g3 = A ∨ N ≤ g3 := by
  rcases h with q | q
  · rw [ownBlock_slice] at q
    have q2 : g = g3 := Option.some.inj q
    omega
  · omega
def RdR (ps : List ByteArray) (A N : Nat) (W1 : World) (vo vi : Value) (wr : World) : Prop :=
  ∃ (k g c n : Nat) (l : List Int), vo = .slice (some ⟨g, 0, none⟩) n c ∧ vi = .int .i64 k ∧ k ≤ ps.length ∧ Hid (n = l.length) ∧ Hid (rdAll (ps.take k) = some l) ∧ Hid (OwnI wr A (.slice (some ⟨g, 0, none⟩) n c) l) ∧ Hid (g = A ∨ N ≤ g) ∧ Hid (GrownL [A] W1 wr)
theorem OwnT.form {w : World} {B : Nat} {v : Value} {xs : List ByteArray} (h : OwnT w B v xs) : ∃ a c, v = .slice a xs.length c ∧ (∀ k, k < xs.length → ∃ b, a = some ⟨b, 0, none⟩ ∧ B ≤ b ∧ b < w.heap.size ∧ w.cell? ⟨b, k, none⟩ = some (.string (xs.getD k ByteArray.empty))) := by
  by_cases h0 : 1 ≤ xs.length
  · obtain ⟨g, c, rfl, hc, hg, hcell⟩ := h.txc h0
    exact ⟨_, c, rfl, fun k hk => ⟨g, rfl, (h.lt g rfl).1, hg, hcell k hk⟩⟩
  · rcases h.2 with ⟨h1, h2⟩ | ⟨g, cap, cur, h1, _⟩
    · exact ⟨none, 0, by rw [h1, h2], fun k hk => by omega⟩
    · exact ⟨_, cap, h1, fun k hk => by omega⟩
set_option maxRecDepth 100000 in
set_option maxHeartbeats 4000000 in
theorem readList_any (s : ByteArray) (m : Int) (w : World) (hs : s.size ≤ 1048576) (hm : w.cell? ⟨0, 0, none⟩ = some (.int .i64 m)) (ht : Tab10 w) (he : ErrW w) :
    Calls Tryd.prog 49 #[.string s] w fun e w' => (∃ v, e = .returned (.tuple #[v, .bool (rdAll (piecesL s)).isSome]) ∧ OwnI w' w.heap.size v ((rdAll (piecesL s)).getD [])) ∧ Below w.heap.size w w' := by
  obtain ⟨A, hA⟩ : ∃ A, w.heap.size = A := ⟨_, rfl⟩
  have hmG := lt_of_cell hm
  have HPI : Hid (∀ W, Below A w W → Calls Tryd.prog 59 #[.string s] W fun e w' => (∃ v, e = .returned v ∧ OwnT w' W.heap.size v (piecesL s)) ∧ Below W.heap.size W w') := fun W hW => pieces_any s m W hs ((hW.cell (p := ⟨0, 0, none⟩) (by rw [← hA]; exact hmG)).trans hm)
  have HRD : Hid (∀ p W, Below A w W → p.size ≤ 1048576 → Calls Tryd.prog 60 #[.string p] W fun e w' => e = .returned (.tuple #[.int .i64 (rdV p), .bool (rdB p)]) ∧ Below W.heap.size W w') := fun p W hW hp => readDecimal_any p W hp (ht.below (by rw [hA]; exact hW)) (he.below (by rw [hA]; exact hW))
  have HPL : Hid (∀ x ∈ piecesL s, x.size ≤ 1048576) := fun x hx => Nat.le_trans (piece_le hx) hs
  have HPN : Hid ((piecesL s).length ≤ 1048578) := by have := pieces_len s; show _ ≤ _; omega
  have HA := Lib.hid hA
  clear hm ht he hmG hs
  obtain ⟨ps, hps⟩ : ∃ ps, piecesL s = ps := ⟨_, rfl⟩
  rw [hps] at HPL HPN
  rw [hps]
  simp only [hps] at HPI
  rw [hA]
  obtain ⟨L, hL⟩ : ∃ L, ps.length = L := ⟨_, rfl⟩
  have HL : Hid (ps.length = L) := hL
  have hL2 : L ≤ 1048578 := by rw [← hL]; exact HPN.out
  have HB0 : Hid (Below A w (w.alloc (.cells #[] 2))) := (Below.refl _ w).alloc (by rw [hA]; exact Nat.le_refl _) _
  have HO0 : Hid (OwnI (w.alloc (.cells #[] 2)) A (.slice (some ⟨A, 0, none⟩) 0 0) []) := by
    have h := OwnI.lit w A [] (by rw [hA]; exact Nat.le_refl _) (Nat.zero_le _)
    rw [hA] at h
    exact h
  have HS0 : Hid (A < (w.alloc (.cells #[] 2)).heap.size) := by show _ < _; simp; omega
  have HC := Lib.hid (HPI.out _ HB0.out)
  clear hps hL hA HPI
  go_enter Tryd.func49, Tryd.ntmps49
  go_wp2_with fail
  refine HC.out.mono ?_
  rintro e W1 ⟨⟨v, rfl, hov⟩, hb1⟩
  obtain ⟨a, c, rfl, hcells⟩ := hov.form
  have HB1 : Hid (Below A w W1) := HB0.out.trans (hb1.mono (by have := HS0.out; omega))
  have HO1 := Lib.hid (HO0.out.below hb1 (Nat.le_refl _))
  have HZ1 : Hid (A < W1.heap.size) := by have := HS0.out; have := hb1.size; show _ < _; omega
  have HCT : Hid (∀ k, k < L → ∀ W, GrownL [A] W1 W → ∃ b, a = some ⟨b, 0, none⟩ ∧ W.cell? ⟨b, k, none⟩ = some (.string (ps.getD k ByteArray.empty))) := fun k hk W hW => by
    obtain ⟨b, h1, h2, h3, h4⟩ := hcells k (by rw [HL.out]; exact hk)
    exact ⟨b, h1, (hW.cell (p := ⟨b, k, none⟩) h3 (by show b ∉ [A]; have := HS0.out; simp; omega)).trans h4⟩
  rw [HL.out]
  have HR0 : Hid (RdR ps A W1.heap.size W1 (.slice (some ⟨A, 0, none⟩) 0 0) (.int .i64 0) W1) := ⟨0, A, 0, 0, [], rfl, rfl, Nat.zero_le _, rfl, rfl, HO1.out, .inl rfl, GrownL.refl _ _⟩
  clear hov hb1 hcells HC HO1 HO0 HB0
  go_wp2
  simp only [HA.out]
  go_loopw [4, 13] (fun vo vi wr => RdR ps A W1.heap.size W1 vo vi wr) (fun _ vi _ => L - (intOf vi).toNat)
  case atStart => exact HR0.out
  case round =>
    obtain ⟨k, g, cg, n, l, rfl, rfl, hk, HN, HAL, HO, HGA, HG⟩ := hrel
    clear HR0
    have HBw : Hid (Below A w wr) := HG.out.toBelow HB1.out (by have := HZ1.out; omega) (fun j hj => by simp; omega)
    by_cases hkL : k < L
    · have k1 : (k : Int) < (L : Int) := by omega
      have k0 : (0 : Int) ≤ (k : Int) := by omega
      obtain ⟨b, rfl, cb⟩ := HCT.out k hkL wr HG.out
      have hkp : k < ps.length := by rw [HL.out]; exact hkL
      obtain ⟨p, hp⟩ : ∃ p, ps.getD k ByteArray.empty = p := ⟨_, rfl⟩
      have hpk : ps[k] = p := by rw [← hp, List.getD_eq_getElem?_getD, List.getElem?_eq_getElem hkp]; rfl
      have HTK : Hid (ps.take (k + 1) = ps.take k ++ [p]) := by show _ = _; rw [List.take_succ_eq_append_getElem hkp, hpk]
      have hps : p.size ≤ 1048576 := HPL.out p (by rw [← hpk]; exact List.getElem_mem hkp)
      rw [hp] at cb
      have HD := Lib.hid (HRD.out p wr HBw.out hps)
      have HSN := Lib.hid (rdAll_snoc p (ps.take k))
      rw [← HTK.out, HAL.out] at HSN
      cases hd : rdD p with
      | none =>
        have HV : Hid (rdV p = 0 ∧ rdB p = false) := by unfold rdV rdB; rw [hd]; exact ⟨rfl, rfl⟩
        have HBAD : Hid (rdAll ps = none) := by
          have h1 := HSN.out
          rw [hd] at h1
          have h2 := rdAll_bad (ps.drop (k + 1)) (ps.take (k + 1)) h1
          rw [List.take_append_drop] at h2
          exact h2
        rw [HV.out.1, HV.out.2] at HD
        clear hd hp hpk
        go_wp2_with fail
        refine HD.out.mono ?_
        rintro e W2 ⟨rfl, hb2⟩
        have HB2 : Hid (Below A w W2) := HBw.out.trans (hb2.mono (by have := HZ1.out; have := HG.out.size; omega))
        have HNI := Lib.hid (nilIn W2 A)
        clear hb2 HD
        go_wp2
        go_ret2
        rw [HBAD.out]
        exact ⟨⟨_, rfl, HNI.out⟩, HB2.out⟩
      | some x =>
        have HV : Hid (rdV p = x ∧ rdB p = true) := by unfold rdV rdB; rw [hd]; exact ⟨rfl, rfl⟩
        have HAN : Hid (rdAll (ps.take (k + 1)) = some (l ++ [x])) := by
          have h1 := HSN.out
          rw [hd] at h1
          exact h1
        rw [HV.out.1, HV.out.2] at HD
        have hl64 : l.length + 1 ≤ 1048580 := by have := rdAll_len _ _ HAL.out; rw [List.length_take] at this; omega
        clear hd hp hpk
        go_wp2_with fail
        refine HD.out.mono ?_
        rintro e W2 ⟨rfl, hb2⟩
        have HO2 := Lib.hid (HO.out.below hb2 (Nat.le_refl _))
        have HG2 := Lib.hid (HG.out.below hb2 HG.out.size)
        have HA2 : Hid (A ≤ W2.heap.size) := by have := HZ1.out; have := HG.out.size; have := hb2.size; show _ ≤ _; omega
        clear hb2 HD HO HG
        go_wp2_with (at_builtin; refine append_i64L rfl _ _ rfl A (.slice (some ⟨g, 0, none⟩) n cg) l [x] (by simp) rfl _ rfl HO2.out HA2.out (by simp; omega) ?_; intro g3 c3 w3 ho3 hg3 hl3; have HO3 := Lib.hid ho3; have HG3 : Hid (GrownL [A] W1 w3) := HG2.out.grown hg3 (fun j e => by rw [ownBlock_slice] at e; injection e with e; rcases HGA.out with q | q; exact .inl (List.mem_singleton.2 (by omega)); exact .inr (by omega)); have HGA3 : Hid (g3 = A ∨ W1.heap.size ≤ g3) := lie_keep hl3 HGA.out HG2.out.size; clear ho3 hg3 hl3)
        go_roundw
        case rel => exact ⟨k + 1, g3, c3, _, _, rfl, by go_num, hkp, by show _ = _; simp, HAN.out, HO3.out, HGA3.out, HG3.out⟩
        case measure => simp [intOf]; omega
    · have k1 : ¬ (k : Int) < (L : Int) := by omega
      have HALL : Hid (rdAll ps = some l) := by
        have h := HAL.out
        rw [List.take_of_length_le (by rw [HL.out]; omega)] at h
        exact h
      clear hkL
      go_wp2
      go_ret2
      rw [HALL.out]
      exact ⟨⟨_, rfl, HO.out⟩, HBw.out⟩
/-- What reading a list gives. -/
def rlB (s : ByteArray) : Bool := (rdL s 64).isSome
def rlL (s : ByteArray) : List Int := (rdL s 64).getD []
set_option maxRecDepth 100000 in
theorem ReadList_any (s : ByteArray) (m : Int) (w : World) (hs : s.size ≤ 1048576) (hm : w.cell? ⟨0, 0, none⟩ = some (.int .i64 m)) (ht : Tab10 w) (he : ErrW w) :
    Calls Tryd.prog 28 #[.string s] w fun e w' => (∃ v, e = .returned (.tuple #[v, .bool (rlB s)]) ∧ OwnI w' w.heap.size v (rlL s)) ∧ Below w.heap.size w w' := by
  have HC := Lib.hid (readList_any s m w hs hm ht he)
  have HYES : Hid (∀ l, rdAll (piecesL s) = some l → rlB s = decide (l.length ≤ 64) ∧ (l.length ≤ 64 → rlL s = l) ∧ (¬ l.length ≤ 64 → rlL s = [])) := fun l h => by
    have hl := rdAll_len _ _ h
    unfold rlB rlL rdL
    by_cases q : l.length ≤ 64
    · rw [if_pos (by omega), h, decide_eq_true q]; exact ⟨rfl, fun _ => rfl, fun x => absurd q x⟩
    · rw [if_neg (by omega), decide_eq_false q]; exact ⟨rfl, fun x => absurd x q, fun _ => rfl⟩
  have HNO : Hid (rdAll (piecesL s) = none → rlB s = false ∧ rlL s = []) := fun h => by
    unfold rlB rlL rdL
    rw [h]
    split <;> exact ⟨rfl, rfl⟩
  obtain ⟨R, hR⟩ : ∃ R, rdAll (piecesL s) = R := ⟨_, rfl⟩
  rw [hR] at HC HNO
  simp only [hR] at HYES
  clear hm ht he hR
  cases R with
  | none =>
    have HF := Lib.hid (HNO.out rfl)
    go_enter Tryd.func28, Tryd.ntmps28
    go_wp2_with fail
    refine HC.out.mono ?_
    rintro e W1 ⟨⟨v, rfl, ho⟩, hb⟩
    have HB := Lib.hid hb
    have HNI := Lib.hid (nilIn W1 w.heap.size)
    clear ho hb
    go_wp2
    go_ret2
    rw [HF.out.1, HF.out.2]
    exact ⟨⟨_, rfl, HNI.out⟩, HB.out⟩
  | some l =>
    obtain ⟨y1, y2, y3⟩ := HYES.out l rfl
    have HY1 := Lib.hid y1
    have HY2 := Lib.hid y2
    have HY3 := Lib.hid y3
    clear y1 y2 y3 HYES HNO
    go_enter Tryd.func28, Tryd.ntmps28
    go_wp2_with fail
    refine HC.out.mono ?_
    rintro e W1 ⟨⟨v, rfl, ho⟩, hb⟩
    have ho : OwnI W1 w.heap.size v l := ho
    obtain ⟨_, a, c, hv, _⟩ := ho.ints
    subst hv
    have HO := Lib.hid ho
    have HB := Lib.hid hb
    have HNI := Lib.hid (nilIn W1 w.heap.size)
    obtain ⟨n, hn⟩ : ∃ n, l.length = n := ⟨_, rfl⟩
    rw [hn] at HO HY1 HY2 HY3
    rw [hn]
    clear ho hb hn HC
    by_cases h64 : n ≤ 64
    · have h1 : ¬ (n : Int) > 64 := by omega
      go_wp2
      go_ret2
      rw [HY1.out, HY2.out h64, decide_eq_true h64]
      exact ⟨⟨_, rfl, HO.out⟩, HB.out⟩
    · have h1 : (n : Int) > 64 := by omega
      go_wp2
      go_ret2
      rw [HY1.out, HY3.out h64, decide_eq_false h64]
      exact ⟨⟨_, rfl, HNI.out⟩, HB.out⟩
end Go.Proofs.YtcjeededlhdcbaaDoor
