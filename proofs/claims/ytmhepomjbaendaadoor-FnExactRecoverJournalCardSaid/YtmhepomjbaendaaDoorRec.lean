
/- The lines of a journal at a text's beginning, by the program and by the reference. Conditions: at most 2^20 bytes; the library's table of powers of ten and bytealg.MaxLen stand (impl). -/
import Derived.Test.YtmhepomjbaendaaDoorRecP
import Derived.Test.YtmhepomjbaendaaDoorTextsLaw
import Derived.Test.YtmhepomjbaendaaDoorDec
import Derived.Test.YtmhepomjbaendaaDoorLines
import Derived.Deep.RegionWith
namespace Go.Proofs.YtmhepomjbaendaaDoor
open Go.RowKit Go.Shelf Go.BigFrame
set_option linter.unusedVariables false
set_option linter.unusedSimpArgs false

theorem cut_shareR {P G : Prop} (main : P) (cont : Hid P → G) : G := cont (Lib.hid main)
theorem lineM_le (t : ByteArray) : lineM t ≤ t.size + 1 := by
  have h1 := cutB_length 10 t
  have h2 := Go.Lib.count_le t.data.toList [10]
  rw [size_data] at h2
  have h3 : Go.Lib.countB t ⟨#[10]⟩ ≤ t.size + 1 := h2
  unfold lineM
  omega

set_option maxRecDepth 100000 in
set_option maxHeartbeats 2000000 in
theorem recovered_any (t : ByteArray) (m : Int) (w : World) (hs : t.size ≤ 1048576) (hm : w.cell? ⟨0, 0, none⟩ = some (.int .i64 m)) (ht : Tab10 w) :
    Calls Tryd.prog 47 #[.string t] w fun e w' => (∃ v, e = .returned (.tuple #[v, .int .i64 (rcN t)]) ∧ OwnT w' w.heap.size v (rcOut t)) ∧ Below w.heap.size w w' := by
  obtain ⟨A, hA⟩ : ∃ A, w.heap.size = A := ⟨_, rfl⟩
  have h0A : 0 < A := by rw [← hA]; exact lt_of_cell hm
  have HSZ : Hid (∀ W, Below A w W → A ≤ W.heap.size) := fun W h => by rw [← hA]; exact h.size
  have HDC : Hid (∀ n W, 0 ≤ n → n ≤ 65002 → Below A w W → Calls Tryd.prog 43 #[.int .i64 n] W fun e w' => e = .returned (.string (decS n)) ∧ Below W.heap.size W w') := fun n W h0 h1 hW => decimal_any n W (wf_i64_iff.2 ⟨by omega, by omega⟩) (ht.below (by rw [hA]; exact hW))
  have HIB : Hid (∀ (s : ByteArray) W, Calls Tryd.prog 63 #[.string s, .int .u8 10] W fun e w' => e = .returned (.int .i64 (Lib.indexByte s.data.toList 10)) ∧ W = w') := fun s W => by
    refine (Tryd.strings_IndexByte s 10 W).mono ?_
    rintro e w' ⟨h1, h2⟩
    exact ⟨h1, h2.symm⟩
  have HCU : Hid (∀ (x : ByteArray) W, x.size ≤ 1048576 → Below A w W → Calls Tryd.prog 64 #[.string x, .string ⟨#[32]⟩] W fun e w' => e = .returned (.tuple #[.string (wdS x), .string (lnS x), .bool (fdS x)]) ∧ ∃ n, w' = W.drewN n) := fun x W hx hW => Tryd.strings_Cut x ⟨#[32]⟩ m W (by omega) ((hW.cell (p := ⟨0, 0, none⟩) h0A).trans hm)
  have HCK : Hid (∀ n (s : ByteArray) W, 0 ≤ n → n ≤ 65002 → s.size ≤ 1048576 → Calls Tryd.prog 41 #[.int .i64 n, .string s] W fun e w' => e = .returned (.tuple #[.int .i64 (chk n s), .bool true]) ∧ W = w') := fun n s W h0 h1 hs => checkOf_any n s W h0 h1 (by unfold maxLen; omega)
  obtain ⟨L, hL⟩ : ∃ L, cutB 10 t = L := ⟨_, rfl⟩
  have HLM : Hid (∀ k, k < lineM t → k < L.length) := fun k h => by rw [← hL]; unfold lineM at h; omega
  have HLE : Hid (lineM t ≤ 1048577) := by have := lineM_le t; show _ ≤ _; omega
  have HW0 : Hid (∀ k, 0 ≤ rcC L k ∧ rcC L k ≤ 65002) := rcC_win L
  have HDN : Hid (∀ k, k ≤ lineM t → (∀ i, i < k → rcGood L i = true) → (k = lineM t ∨ rcGood L k = false) → rcOut t = (L.take k).map lnS ∧ rcN t = rcAt L k) := fun k h1 h2 h3 => by
    have := rc_done (t := t) h1 (by rw [hL]; exact h2) (by rw [hL]; exact h3)
    rw [hL] at this
    exact this
  have HNO : Hid (∀ k a, CutAt 10 t (L.take k) a a → k ≤ lineM t → Lib.indexByte (t.extract a t.size).data.toList 10 = -1 → k = lineM t) := fun k a h1 h2 h3 => rc_none (by rw [hL]; exact h1) h2 h3
  have HLI : Hid (∀ k a (n : Nat), CutAt 10 t (L.take k) a a → k ≤ lineM t → Lib.indexByte (t.extract a t.size).data.toList 10 = (n : Int) → k < lineM t ∧ a + n + 1 ≤ t.size ∧ CutAt 10 t (L.take (k + 1)) (a + n + 1) (a + n + 1) ∧ ∃ hlt : k < L.length, L[k] = t.extract a (a + n) ∧ (t.extract a (a + n)).size = n) := fun k a n h1 h2 h3 => by
    have := rc_line (t := t) (k := k) (at_ := a) (n := n) (by rw [hL]; exact h1) h2 h3
    obtain ⟨p1, p2, p3, p4, p5, p6⟩ := this
    subst hL
    exact ⟨p1, p2, p3, p4, p5, p6⟩
  have HC0 : Hid (CutAt 10 t (L.take 0) 0 0) := by show CutAt _ _ _ _ _; rw [List.take_zero]; exact CutAt.zero 10 t
  have HAS : Hid (∀ k (h : k < L.length), rcAt L (k + 1) = rcAt L k + (L[k].size + 1)) := fun k h => rcAt_succ h
  have HCS : Hid (∀ k (h : k < L.length), rcC L (k + 1) = chk (rcC L k) (lnS L[k])) := fun k h => rcC_succ h
  have HGA : Hid (∀ k (h : k < L.length), rcGood L k = rcOkX L[k] (rcC L (k + 1))) := fun k h => rcGood_at h
  have HTK : Hid (∀ k (h : k < L.length), (L.take k).map lnS ++ [lnS L[k]] = (L.take (k + 1)).map lnS) := fun k h => by
    rw [List.take_succ_eq_append_getElem h, List.map_append]; rfl
  have HA := Lib.hid hA
  clear hA hm ht hL h0A
  go_enter Tryd.func47, Tryd.ntmps47
  go_wp2
  go_loopw [4, 5, 6, 7, 8, 9, 10, 11, 12] (fun vo vc va _ _ _ _ _ _ wr => ∃ (k n g c a : Nat), k ≤ lineM t ∧ a ≤ t.size ∧ Hid (n = k) ∧ vo = .slice (some ⟨g, 0, none⟩) n c ∧ vc = .int .i64 (rcC L k) ∧ va = .int .i64 a ∧ Hid (a = rcAt L k ∧ CutAt 10 t (L.take k) a a ∧ ∀ i, i < k → rcGood L i = true) ∧ Hid (OwnT wr A (.slice (some ⟨g, 0, none⟩) n c) ((L.take k).map lnS)) ∧ Hid (Below A w wr)) (fun _ _ va _ _ _ _ _ _ _ => t.size - (intOf va).toNat)
  case atStart =>
    refine ⟨0, 0, w.heap.size, 0, 0, Nat.zero_le _, Nat.zero_le _, rfl, rfl, rfl, rfl, ⟨rfl, HC0.out, fun i h => by omega⟩, ?_, ?_⟩
    · show OwnT _ _ _ _
      exact OwnT.lit w A [] (by rw [HA.out]; exact Nat.le_refl _) (by unfold maxLen; simp)
    · show Below _ _ _
      rw [← HA.out]; exact (Below.refl _ w).alloc (Nat.le_refl _) _
  case round =>
    obtain ⟨k, n, g, c, a, hk, ha, HN, rfl, rfl, rfl, HK, HO, HB⟩ := hrel
    have hA1 : A ≤ wr.heap.size := HSZ.out _ HB.out
    have HI := Lib.hid (HIB.out (t.extract a t.size) wr)
    have hat : a ≤ 1048576 := by omega
    obtain ⟨p, hp⟩ : ∃ p, Lib.indexByte (t.extract a t.size).data.toList 10 = p := ⟨_, rfl⟩
    have hpg : -1 ≤ p := by rw [← hp]; exact Lib.indexByte_ge _ _
    rw [hp] at HI
    have HP := Lib.hid hp
    clear hp HC0
    by_cases hneg : p < 0
    · have HF := Lib.hid (HDN.out k hk HK.out.2.2 (.inl (HNO.out k a HK.out.2.1 hk (by rw [HP.out]; omega))))
      have HAT : Hid ((a : Int) = (rcN t : Int)) := by show _ = _; rw [HF.out.2, ← HK.out.1]
      clear HDC HIB HCU HCK HLI HNO HDN HW0 HAS HCS HGA HTK HK
      go_wp2_with fail
      refine HI.out.mono ?_
      rintro e w' ⟨rfl, rfl⟩
      go_wp2
      go_ret2
      rw [HF.out.1, ← HAT.out, HA.out]
      exact ⟨⟨_, rfl, HO.out⟩, HB.out⟩
    · obtain ⟨q, rfl⟩ : ∃ q : Nat, p = q := ⟨p.toNat, by omega⟩
      obtain ⟨l1, l2, l3, l4, l5, l6⟩ := HLI.out k a q HK.out.2.1 hk HP.out
      have HL3 := Lib.hid l3
      have has := HAS.out k l4
      have HCS1 := Lib.hid (HCS.out k l4)
      have HGA1 := Lib.hid (HGA.out k l4)
      have HTK1 := Lib.hid (HTK.out k l4)
      have HG2 := HK.out.2.2
      rw [l5] at has HCS1 HGA1 HTK1
      rw [l6] at has
      have HAX : Hid (a + q + 1 = rcAt L (k + 1)) := by show _ = _; rw [has, ← HK.out.1]; omega
      have hw1 := HW0.out (k + 1)
      have HWZ := Lib.hid hw1
      have hw2 := HW0.out k
      obtain ⟨x, hx⟩ : ∃ x, t.extract a (a + q) = x := ⟨_, rfl⟩
      rw [hx] at HCS1 HGA1 HTK1 l6
      have hxs : x.size ≤ 1048576 := by omega
      have HCU1 := Lib.hid (HCU.out x wr hxs HB.out)
      have hls := lnS_size x
      have HCK1 : Hid (∀ W, Calls Tryd.prog 41 #[.int .i64 (rcC L k), .string (lnS x)] W fun e w' => e = .returned (.tuple #[.int .i64 (rcC L (k + 1)), .bool true]) ∧ W = w') := fun W => by
        have := HCK.out (rcC L k) (lnS x) W hw2.1 hw2.2 (by omega)
        rw [← HCS1.out] at this
        exact this
      have HXX : Hid (t.extract a (a + q) = x) := hx
      have HGS : Hid (rcGood L k = true → ∀ i, i < k + 1 → rcGood L i = true) := fun h i hi => by
        rcases Nat.lt_succ_iff_lt_or_eq.1 hi with h2 | rfl
        · exact HG2 i h2
        · exact h
      have HBAD : Hid (rcGood L k = false → rcOut t = (L.take k).map lnS ∧ rcN t = rcAt L k) := fun h => HDN.out k hk HG2 (.inr h)
      have HAK : Hid (a = rcAt L k) := HK.out.1
      have HOKX : Hid (rcOkX x (rcC L (k + 1)) = (fdS x && decide (wdS x = decS (rcC L (k + 1))))) := rfl
      have HD1 : Hid (∀ W, Below A w W → Calls Tryd.prog 43 #[.int .i64 (rcC L (k + 1))] W fun e w' => e = .returned (.string (decS (rcC L (k + 1)))) ∧ Below W.heap.size W w') := fun W hW => HDC.out _ W hw1.1 hw1.2 hW
      obtain ⟨C, hC⟩ : ∃ C, rcC L (k + 1) = C := ⟨_, rfl⟩
      have HCC := Lib.hid hC
      rw [hC] at HCK1 HGA1 HOKX HD1 hw1
      obtain ⟨D, hD⟩ : ∃ D, decS C = D := ⟨_, rfl⟩
      rw [hD] at HOKX HD1
      obtain ⟨F, hF⟩ : ∃ F, fdS x = F := ⟨_, rfl⟩
      rw [hF] at HCU1 HOKX
      obtain ⟨Y, hY⟩ : ∃ Y, wdS x = Y := ⟨_, rfl⟩
      rw [hY] at HCU1 HOKX
      obtain ⟨Z, hZ⟩ : ∃ Z, lnS x = Z := ⟨_, rfl⟩
      rw [hZ] at HCU1 HCK1 HTK1 hls
      have q0 : (0 : Int) ≤ (q : Int) := by omega
      have e1 : a ≤ a + q := by omega
      have e2 : a + q ≤ t.size := by omega
      have e3 : (a : Int) + (q : Int) ≤ (t.size : Int) := by omega
      have e4 : (a : Int) ≤ (a : Int) + (q : Int) := by omega
      rw [← HXX.out] at HCU1
      clear l3 has hx HDC HIB HCU HCK HLI HNO HDN HW0 HAS HCS HGA HTK HK hC hD hF hY hZ HCS1 HG2 hw2
      go_wp2_with fail
      refine HI.out.mono ?_
      rintro e w' ⟨rfl, rfl⟩
      go_wp2_with fail
      refine HCU1.out.mono ?_
      rintro e w' ⟨rfl, nd, rfl⟩
      have HB1 : Hid (Below A w (wr.drewN nd)) := below_drewN nd HB.out
      have HO1 : Hid (OwnT (wr.drewN nd) A (.slice (some ⟨g, 0, none⟩) n c) ((L.take k).map lnS)) := HO.out.drewN nd
      have hA2 : A ≤ (wr.drewN nd).heap.size := hA1
      obtain ⟨W1, hW1⟩ : ∃ W, wr.drewN nd = W := ⟨_, rfl⟩
      rw [hW1] at HB1 HO1 hA2
      rw [hW1]
      clear hW1 HB HO HI HCU1 HXX
      go_wp2_with fail
      refine (HCK1.out _).mono ?_
      rintro e w' ⟨rfl, rfl⟩
      cases F
      · have HF := Lib.hid (HBAD.out (by rw [HGA1.out, HOKX.out]; rfl))
        have HAT : Hid ((a : Int) = (rcN t : Int)) := by show _ = _; rw [HF.out.2, ← HAK.out]
        clear HBAD HGS HGA1 HOKX HTK1 HCK1 HD1
        go_wp2
        go_ret2
        rw [HF.out.1, ← HAT.out, HA.out]
        exact ⟨⟨_, rfl, HO1.out⟩, HB1.out⟩
      · go_wp2_with fail
        refine (HD1.out _ HB1.out).mono ?_
        rintro e W2 ⟨rfl, hb2⟩
        have HB2 := Lib.hid (HB1.out.trans (hb2.mono hA2))
        have HO2 := Lib.hid (HO1.out.below hb2 (Nat.le_refl _))
        have hA3 : A ≤ W2.heap.size := HSZ.out _ HB2.out
        clear hb2 HB1 HO1
        by_cases hyd : Y = D
        · have HG1 := Lib.hid (HGS.out (by rw [HGA1.out, HOKX.out, decide_eq_true hyd]; rfl))
          subst hyd
          clear HBAD HGS HGA1 HOKX HCK1 HD1
          have hlen : Hid (((L.take k).map lnS).length + [Z].length ≤ 1099511627776) := by show _ ≤ _; have := HLE.out; simp; omega
          go_wp2_with (at_builtin; refine append_tN rfl _ _ rfl A (.slice (some ⟨g, 0, none⟩) n c) ((L.take k).map lnS) [Z] (by simp) rfl _ rfl HO2.out hA3 hlen.out ?_; intro g5 c5 n5 w5 hn5 ho5 hg5; rw [HTK1.out] at hn5 ho5; have HO5 := Lib.hid ho5; have HN5 : Hid (n5 = k + 1) := (by show _ = _; rw [hn5.out, List.length_map, List.length_take]; have := HLM.out k l1; omega); have HB5 : Hid (Below A w w5) := HB2.out.grown hg5 hA3 (fun j e => (HO2.out.lt j e).1); clear ho5 hg5 hn5)
          go_roundw
          case rel => exact ⟨k + 1, n5, g5, c5, a + q + 1, by omega, l2, HN5, rfl, by rw [HCC.out], by go_num, ⟨HAX.out, HL3.out, HG1.out⟩, HO5.out, HB5.out⟩
          case measure => simp [intOf]; omega
        · have HF := Lib.hid (HBAD.out (by rw [HGA1.out, HOKX.out, decide_eq_false hyd]; rfl))
          have HAT : Hid ((a : Int) = (rcN t : Int)) := by show _ = _; rw [HF.out.2, ← HAK.out]
          have hyl : (Y.toList == D.toList) = false := by
            rw [beq_eq_false_iff_ne]
            intro e
            rw [Lib.toList_data, Lib.toList_data] at e
            exact hyd (bytes_ext e)
          clear HBAD HGS HGA1 HOKX HTK1 HCK1 HD1
          go_wp2
          go_ret2
          rw [HF.out.1, ← HAT.out, HA.out]
          exact ⟨⟨_, rfl, HO2.out⟩, HB2.out⟩

theorem byte_ge {x : ByteArray} {j : Nat} (h : j < x.size) : x.data.toList[j]? = some x[j] := byte_at h
theorem byte_ne {b : UInt8} (h : ¬ (b.toNat : Int) = 32) : b ≠ 32 := fun e => h (by rw [e]; rfl)
theorem byte_eq {b : UInt8} (h : (b.toNat : Int) = 32) : b = 32 := by
  have h1 : b.toNat = 32 := by omega
  exact UInt8.toNat_inj.1 (by rw [h1]; rfl)

set_option maxRecDepth 100000 in
set_option maxHeartbeats 4000000 in
theorem l08Recover_any (t : ByteArray) (w : World) (hs : t.size ≤ 1048576) :
    Calls Tryd.prog 46 #[.string t] w fun e w' => (∃ v, e = .returned (.tuple #[v, .int .i64 (rcN t)]) ∧ OwnT w' w.heap.size v (rcOut t)) ∧ Below w.heap.size w w' := by
  have HLS := Lib.hid (l08Lines_any t w hs)
  obtain ⟨L, hL⟩ : ∃ L, cutB 10 t = L := ⟨_, rfl⟩
  obtain ⟨M, hM⟩ : ∃ M, lineM t = M := ⟨_, rfl⟩
  have hNM : lineN t = M := hM
  have HLM : Hid (∀ k, k < M → k < L.length) := fun k h => by rw [← hL]; unfold lineM at hM; omega
  have HLE : Hid (M ≤ 1048577) := by have := lineM_le t; show _ ≤ _; omega
  have HW0 : Hid (∀ k, 0 ≤ rcC L k ∧ rcC L k ≤ 65002) := rcC_win L
  have HDN : Hid (∀ k, k ≤ M → (∀ i, i < k → rcGood L i = true) → (k = M ∨ rcGood L k = false) → rcOut t = (L.take k).map lnS ∧ rcN t = rcAt L k) := fun k h1 h2 h3 => by
    have := rc_done (t := t) (k := k) (by rw [hM]; exact h1) (by rw [hL]; exact h2) (by rw [hL, hM]; exact h3)
    rw [hL] at this
    exact this
  have HSX : Hid (∀ k (h : k < L.length), L[k].size ≤ 1048576) := fun k h => by
    have h1 : L[k] ∈ cutB 10 t := by rw [hL]; exact List.getElem_mem h
    have := cutB_size h1
    omega
  have HRA : Hid (∀ k, k ≤ M → rcAt L k ≤ k * 1048577) := fun k hk => rcAt_le (fun i h => HSX.out i h) k (by unfold lineM at hM; rw [← hL]; omega)
  have HAS : Hid (∀ k (h : k < L.length), rcAt L (k + 1) = rcAt L k + (L[k].size + 1)) := fun k h => rcAt_succ h
  have HCS : Hid (∀ k (h : k < L.length), rcC L (k + 1) = chk (rcC L k) (lnS L[k])) := fun k h => rcC_succ h
  have HGA : Hid (∀ k (h : k < L.length), rcGood L k = rcOkX L[k] (rcC L (k + 1))) := fun k h => rcGood_at h
  have HTK : Hid (∀ k (h : k < L.length), (L.take k).map lnS ++ [lnS L[k]] = (L.take (k + 1)).map lnS) := fun k h => by
    rw [List.take_succ_eq_append_getElem h, List.map_append]; rfl
  have HDC : Hid (∀ n W, 0 ≤ n → n ≤ 65002 → Calls Tryd.prog 59 #[.int .i64 n] W fun e w' => e = .returned (.string (decS n)) ∧ Below W.heap.size W w') := fun n W h0 h1 => l01Dec_any n W (wf_i64_iff.2 ⟨by omega, by omega⟩)
  have HCK : Hid (∀ n (s : ByteArray) W, 0 ≤ n → n ≤ 65002 → s.size ≤ 1048576 → Calls Tryd.prog 58 #[.int .i64 n, .string s] W fun e w' => e = .returned (.int .i64 (chk n s)) ∧ W = w') := fun n s W h0 h1 hs => l01Check_any n s W h0 h1 (by unfold maxLen; omega)
  rw [hL, hNM] at HLS
  clear hL hM hNM
  go_enter Tryd.func46, Tryd.ntmps46
  go_wp2_with fail
  refine HLS.out.mono ?_
  rintro e W1 ⟨⟨b, cl, rfl, hcl, htx⟩, hb1⟩
  obtain ⟨A, hA⟩ : ∃ A, W1.heap.size = A := ⟨_, rfl⟩
  have HSZ : Hid (∀ W, Below A W1 W → A ≤ W.heap.size) := fun W h => by rw [← hA]; exact h.size
  have HC : Hid (b < A ∧ ∀ k (h : k < L.length), W1.cell? ⟨b, k, none⟩ = some (.string L[k])) := ⟨by rw [← hA]; exact htx.1, fun k h => by
    have := htx.2 k h
    rwa [List.getD_eq_getElem?_getD, List.getElem?_eq_getElem h] at this⟩
  have HFIN : Hid (∀ W v xs, OwnT W A v xs → Below A W1 W → OwnT W w.heap.size v xs ∧ Below w.heap.size w W) := fun W v xs ho hb => ⟨ho.mono (by rw [← hA]; exact hb1.size), hb1.trans (hb.mono (by rw [← hA]; exact hb1.size))⟩
  have HA := Lib.hid hA
  clear htx hb1 hA HLS
  go_wp2
  go_loopw [6, 7, 8, 9, 10, 11] (fun vo vc vn vi _ _ wr => ∃ (k n g c : Nat), k ≤ M ∧ Hid (n = k) ∧ vo = .slice (some ⟨g, 0, none⟩) n c ∧ vc = .int .i64 (rcC L k) ∧ vn = .int .i64 (rcAt L k) ∧ vi = .int .i64 k ∧ Hid (∀ i, i < k → rcGood L i = true) ∧ Hid (OwnT wr A (.slice (some ⟨g, 0, none⟩) n c) ((L.take k).map lnS)) ∧ Hid (Below A W1 wr)) (fun _ _ _ vi _ _ _ => M - (intOf vi).toNat)
  case atStart =>
    refine ⟨0, 0, W1.heap.size, 0, Nat.zero_le _, rfl, rfl, rfl, rfl, rfl, fun i h => by omega, ?_, ?_⟩
    · show OwnT _ _ _ _
      exact OwnT.lit W1 A [] (by rw [HA.out]; exact Nat.le_refl _) (by unfold maxLen; simp)
    · show Below _ _ _
      rw [← HA.out]; exact (Below.refl _ W1).alloc (Nat.le_refl _) _
  case round =>
    obtain ⟨k, n, g, c, hk, HN, rfl, rfl, rfl, rfl, HG, HO, HB⟩ := hrel
    have hA1 : A ≤ wr.heap.size := HSZ.out _ HB.out
    by_cases hlt : k < M
    · have hkl := HLM.out k hlt
      have c0 := (HB.out.cell (p := ⟨b, k, none⟩) HC.out.1).trans (HC.out.2 k hkl)
      have has := HAS.out k hkl
      have HCS1 := Lib.hid (HCS.out k hkl)
      have HGA1 := Lib.hid (HGA.out k hkl)
      have HTK1 := Lib.hid (HTK.out k hkl)
      have hxs := HSX.out k hkl
      have hra := HRA.out k hk
      have hra2 := HRA.out (k + 1) (by omega)
      have hle := HLE.out
      have hw1 := HW0.out (k + 1)
      have hw2 := HW0.out k
      have HC2 := Lib.hid (HC.out.2 k hkl)
      have HBA := Lib.hid HC.out.1
      obtain ⟨x, hx⟩ : ∃ x, L[k] = x := ⟨_, rfl⟩
      rw [hx] at c0 has HCS1 HGA1 HTK1 hxs HC2
      have HAX : Hid (rcAt L (k + 1) = rcAt L k + (x.size + 1)) := has
      have HGS : Hid (rcGood L k = true → ∀ i, i < k + 1 → rcGood L i = true) := fun h i hi => by
        rcases Nat.lt_succ_iff_lt_or_eq.1 hi with h2 | rfl
        · exact HG.out i h2
        · exact h
      have HBAD : Hid (rcGood L k = false → rcOut t = (L.take k).map lnS ∧ rcN t = rcAt L k) := fun h => HDN.out k hk HG.out (.inr h)
      have HOKX : Hid (rcOkX x (rcC L (k + 1)) = (fdS x && decide (wdS x = decS (rcC L (k + 1))))) := rfl
      have HCK1 : Hid (Calls Tryd.prog 58 #[.int .i64 (rcC L k), .string (lnS x)] wr fun e w' => e = .returned (.int .i64 (rcC L (k + 1))) ∧ wr = w') := by
        have := HCK.out (rcC L k) (lnS x) wr hw2.1 hw2.2 (by have := lnS_size x; omega)
        rw [← HCS1.out] at this
        exact this
      have HD1 : Hid (Calls Tryd.prog 59 #[.int .i64 (rcC L (k + 1))] wr.drew fun e w' => e = .returned (.string (decS (rcC L (k + 1)))) ∧ Below wr.drew.heap.size wr.drew w') := HDC.out _ _ hw1.1 hw1.2
      obtain ⟨C, hC⟩ : ∃ C, rcC L (k + 1) = C := ⟨_, rfl⟩
      have HCC := Lib.hid hC
      rw [hC] at HCK1 HGA1 HOKX HD1 hw1
      obtain ⟨D, hD⟩ : ∃ D, decS C = D := ⟨_, rfl⟩
      rw [hD] at HOKX HD1
      obtain ⟨R, hR⟩ : ∃ R, rcAt L k = R := ⟨_, rfl⟩
      rw [hR] at hra HAX HBAD
      rw [hR]
      have HRX : Hid (rcAt L (k + 1) ≤ (k + 1) * 1048577) := hra2
      have hRb : R ≤ 1048577 * 1048577 := Nat.le_trans hra (Nat.mul_le_mul_right _ (by omega))
      have i1 : (k : Int) < (M : Int) := by omega
      have i0 : (0 : Int) ≤ (k : Int) := by omega
      have HRAWC := Lib.hid hC
      clear has hx hra hra2 hR hD hC HDC HCK HW0 HDN HAS HCS HGA HTK HSX HRA hw2 HCS1 HC HG
      go_wp2
      go_loop [10] (fun vj => ∃ (j : Nat), j ≤ x.size ∧ vj = .int .i64 j ∧ Hid (∀ i, i < j → x.data.toList[i]? ≠ some 32)) (fun vj => x.size - (intOf vj).toNat)
      case atStart => exact ⟨0, Nat.zero_le _, rfl, fun i h => by omega⟩
      case round =>
        obtain ⟨j, hj, rfl, HT⟩ := hrel
        have j0 : (0 : Int) ≤ (j : Int) := by omega
        by_cases hjl : j < x.size
        · have j1 : (j : Int) < (x.size : Int) := by omega
          have HBY := Lib.hid (byte_ge hjl)
          obtain ⟨y, hy⟩ : ∃ y, x[j] = y := ⟨_, rfl⟩
          have HY := Lib.hid hy
          rw [hy] at HBY
          by_cases h32 : (y.toNat : Int) = 32
          · obtain ⟨f1, f2, f3⟩ := space_at (x := x) (j := j) (by rw [HBY.out, byte_eq h32]) HT.out
            rw [f1, f3] at HOKX
            rw [f2] at HCK1 HTK1
            have e0 : ¬ ((j : Int) = (x.size : Int)) := by omega
            have hZs : (x.extract (j + 1) x.size).size ≤ 1048576 := by rw [← f2]; have := lnS_size x; omega
            clear f1 f2 f3 HT HBY
            go_wp2_with fail
            refine HCK1.out.mono ?_
            rintro e w' ⟨rfl, rfl⟩
            obtain ⟨Y, hY⟩ : ∃ Y, x.extract 0 j = Y := ⟨_, rfl⟩
            have HYY := Lib.hid hY
            rw [hY] at HOKX
            by_cases hyd : Y = D
            · have HG1 := Lib.hid (HGS.out (by rw [HGA1.out, HOKX.out, decide_eq_true hyd]; rfl))
              have hlen : Hid (((L.take k).map lnS).length + [x.extract (j + 1) x.size].length ≤ 1099511627776) := by show _ ≤ _; simp; omega
              have hyl : (Y.toList == D.toList) = true := by rw [hyd]; simp
              clear HBAD HGS HGA1 HOKX HCK1 hyd
              go_wp2_with fail
              refine cut_shareR (P := ?P1) ?main1 ?cont1
              case cont1 =>
                intro key
                go_region_with (go_at_call 59; refine HD1.out.mono ?_; rintro e W2 ⟨rfl, hb2⟩; have HB3 : Hid (Below A W1 W2) := (HB.out.drew).trans (hb2.mono hA1); have HO3 : Hid (OwnT W2 A (.slice (some ⟨g, 0, none⟩) n c) ((L.take k).map lnS)) := HO.out.below ((Below.refl _ wr).drew.trans hb2) (Nat.le_refl _); have c0b := (HB3.out.cell (p := ⟨b, k, none⟩) HBA.out).trans HC2.out; clear hb2)
                all_goals
                  clear c0b
                  revert W2
                  exact key.out
              intro W2 HB3 HO3
              have hA3 : A ≤ W2.heap.size := HSZ.out _ HB3.out
              have c0b := (HB3.out.cell (p := ⟨b, k, none⟩) HBA.out).trans HC2.out
              clear c0 HB HO HD1
              go_wp2_with (at_builtin; refine append_tN rfl _ _ rfl A (.slice (some ⟨g, 0, none⟩) n c) ((L.take k).map lnS) [x.extract (j + 1) x.size] (by simp) rfl _ rfl HO3.out hA3 hlen.out ?_; intro g5 c5 n5 w5 hn5 ho5 hg5; rw [HTK1.out] at hn5 ho5; have HO5 := Lib.hid ho5; have HN5 : Hid (n5 = k + 1) := (by show _ = _; rw [hn5.out, List.length_map, List.length_take]; have := HLM.out k hlt; omega); have HB5 : Hid (Below A W1 w5) := HB3.out.grown hg5 hA3 (fun j e => (HO3.out.lt j e).1); have c0c := (HB5.out.cell (p := ⟨b, k, none⟩) HBA.out).trans HC2.out; clear ho5 hg5 hn5)
              go_roundw
              case rel => exact ⟨k + 1, n5, g5, c5, by omega, HN5, rfl, by rw [HCC.out], by rw [HAX.out]; go_num, by go_num, HG1.out, HO5.out, HB5.out⟩
              case measure => simp [intOf]; omega
            · have HF := Lib.hid (HBAD.out (by rw [HGA1.out, HOKX.out, decide_eq_false hyd]; rfl))
              have HAT : Hid ((R : Int) = (rcN t : Int)) := by show _ = _; rw [HF.out.2]
              have hyl : (Y.toList == D.toList) = false := by
                rw [beq_eq_false_iff_ne]
                intro e
                rw [Lib.toList_data, Lib.toList_data] at e
                exact hyd (bytes_ext e)
              clear HBAD HGS HGA1 HOKX HCK1 hyd HTK1
              go_wp2_with fail
              refine cut_shareR (P := ?P2) ?main2 ?cont2
              case cont2 =>
                intro key
                go_region_with (go_at_call 59; refine HD1.out.mono ?_; rintro e W2 ⟨rfl, hb2⟩; have HB3 : Hid (Below A W1 W2) := (HB.out.drew).trans (hb2.mono hA1); have HO3 : Hid (OwnT W2 A (.slice (some ⟨g, 0, none⟩) n c) ((L.take k).map lnS)) := HO.out.below ((Below.refl _ wr).drew.trans hb2) (Nat.le_refl _); have c0b := (HB3.out.cell (p := ⟨b, k, none⟩) HBA.out).trans HC2.out; clear hb2)
                all_goals
                  clear c0b
                  revert W2
                  exact key.out
              intro W2 HB3 HO3
              have HFO := Lib.hid (HFIN.out _ _ _ HO3.out HB3.out)
              clear c0 HB HO HD1 HO3 HB3
              go_wp2
              go_ret2
              rw [HF.out.1, ← HAT.out]
              exact ⟨⟨_, rfl, HFO.out.1⟩, HFO.out.2⟩
          · have HT2 : Hid (∀ i, i < j + 1 → x.data.toList[i]? ≠ some 32) := fun i hi => by
              rcases Nat.lt_succ_iff_lt_or_eq.1 hi with h2 | rfl
              · exact HT.out i h2
              · rw [HBY.out]; intro e; exact byte_ne h32 (Option.some.inj e)
            clear HT HBY
            go_wp2
            go_round
            case rel => exact ⟨j + 1, by omega, by go_num, HT2.out⟩
            case measure => simp [intOf]; omega
        · obtain rfl : j = x.size := by omega
          obtain ⟨f1, f2⟩ := space_no HT.out
          rw [f1] at HOKX
          have HF := Lib.hid (HBAD.out (by rw [HGA1.out, HOKX.out]; rfl))
          have HAT : Hid ((R : Int) = (rcN t : Int)) := by show _ = _; rw [HF.out.2]
          have HFO := Lib.hid (HFIN.out _ _ _ HO.out HB.out)
          clear HT f1 f2 HOKX HBAD HGS HGA1 HTK1 HCK1 HD1
          go_wp2
          go_ret2
          rw [HF.out.1, ← HAT.out]
          exact ⟨⟨_, rfl, HFO.out.1⟩, HFO.out.2⟩
    · have hkM : k = M := by omega
      have HF := Lib.hid (HDN.out k hk HG.out (.inl hkM))
      have HAT : Hid ((rcAt L k : Int) = (rcN t : Int)) := by show _ = _; rw [HF.out.2]
      have HFO := Lib.hid (HFIN.out _ _ _ HO.out HB.out)
      clear HDC HCK HW0 HDN HAS HCS HGA HTK HSX HRA HC HG hkM
      go_wp2
      go_ret2
      rw [HF.out.1, ← HAT.out]
      exact ⟨⟨_, rfl, HFO.out.1⟩, HFO.out.2⟩
end Go.Proofs.YtmhepomjbaendaaDoor
