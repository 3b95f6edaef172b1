
/- The journal of lines, by the program and by the reference. Conditions: at most 2^20 bytes; the library's table of powers of ten stands (impl). -/
import Derived.Test.YtmhepomjbaendaaDoorJourP
import Derived.Test.YtmhepomjbaendaaDoorTextsLaw
import Derived.Test.YtmhepomjbaendaaDoorDec
import Derived.Test.YtmhepomjbaendaaDoorShelf
import Derived.Deep.RegionWith
import Derived.Lib.IndexAny
namespace Go.Proofs.YtmhepomjbaendaaDoor
open Go.RowKit Go.Shelf Go.BigFrame
set_option linter.unusedVariables false
set_option linter.unusedSimpArgs false

theorem cut_shareK {P G : Prop} (main : P) (cont : Hid P → G) : G := cont (Lib.hid main)
theorem builder_below {T e : TypeId} {B b N : Nat} {p : Value} {bs : List Value} {w w' : World} (h : Lib.BuilderAt T e B b p bs w) (hb : Below N w w') (hN : w.heap.size ≤ N) : Lib.BuilderAt T e B b p bs w' := by
  have hlt := h.lt
  obtain ⟨hB, v, hbk, hown, hne⟩ := h
  refine ⟨hB, v, (hb.block b (by omega)).trans hbk, ?_, hne⟩
  refine World.ownsRow.kept (row := none) hown ⟨hb.os, hb.tape, hb.output, hb.size, fun k hk _ => hb.block k (by omega)⟩ ?_
  cases v.ownBlock <;> simp
theorem isBuilder_below {T e : TypeId} {B b N : Nat} {bs : List Value} {w w' : World} (h : Lib.IsBuilder T e B b bs w) (hb : Below N w w') (hN : w.heap.size ≤ N) : Lib.IsBuilder T e B b bs w' :=
  h.elim (fun x => .inl (builder_below x hb hN)) (fun x => .inr (builder_below x hb hN))
theorem cells_app (a b : ByteArray) : Lib.strCells (a ++ b) = Lib.strCells a ++ Lib.strCells b := by
  unfold Lib.strCells
  rw [app_data, List.map_append]
theorem cells_len (a : ByteArray) : (Lib.strCells a).length = a.size := by
  unfold Lib.strCells
  rw [List.length_map, Lib.size_eq]

set_option maxRecDepth 100000 in
set_option maxHeartbeats 2000000 in
theorem implJournalOf_any (v : Value) (ls : List ByteArray) (w : World) (hv : Txs w v ls) (hz : ∀ k (h : k < ls.length), ls[k].size ≤ 1048576) (hl : ls.length ≤ 1048576) (ht : Tab10 w) :
    Calls Tryd.prog 21 #[v] w fun e w' => e = .returned (.tuple #[.string (jrS ls), .bool (jrOk ls)]) ∧ Below w.heap.size w w' := by
  obtain ⟨A, hA⟩ : ∃ A, w.heap.size = A := ⟨_, rfl⟩
  have HSZ : Hid (∀ W, Below A w W → A ≤ W.heap.size) := fun W h => by rw [← hA]; exact h.size
  have HDC : Hid (∀ n W, 0 ≤ n → n ≤ 65002 → Below A w W → Calls Tryd.prog 43 #[.int .i64 n] W fun e w' => e = .returned (.string (decS n)) ∧ Below W.heap.size W w') := fun n W h0 h1 hW => decimal_any n W (wf_i64_iff.2 ⟨by omega, by omega⟩) (ht.below (by rw [hA]; exact hW))
  have HCO : Hid (∀ (s : ByteArray) W, Calls Tryd.prog 40 #[.string s, .string ⟨#[10]⟩] W fun e w' => e = .returned (.bool (hasNl s)) ∧ w' = W) := fun s W => by
    have := Tryd.strings_Contains_one s 10 W
    rw [← Lib.contains_iff_indexByte] at this
    exact this
  have HCK : Hid (∀ n (s : ByteArray) W, 0 ≤ n → n ≤ 65002 → s.size ≤ 1048576 → Calls Tryd.prog 41 #[.int .i64 n, .string s] W fun e w' => e = .returned (.tuple #[.int .i64 (chk n s), .bool true]) ∧ W = w') := fun n s W h0 h1 hs => checkOf_any n s W h0 h1 (by unfold maxLen; omega)
  have HWS : Hid (∀ (P s : ByteArray) W, Lib.IsBuilder 69 5 A A (Lib.strCells P) W → P.size ≤ 16000 → s.size ≤ 2000000 → A ≤ W.heap.size → Calls Tryd.prog 42 #[.pointer (some ⟨w.heap.size, 0, none⟩), .string s] W fun e w' => e = .returned (.tuple #[.int .i64 s.size, .nilIface]) ∧ (Lib.IsBuilder 69 5 A A (Lib.strCells (P ++ s)) w' ∧ Below A W w')) := fun P s W hB hP hs hW => by
    rw [hA]
    refine (Any.Builder_WriteString { Tryd.lays156 with } Tryd.Builder_Extra_156 A A (Lib.strCells P) s W hB (by rw [cells_len]; omega) hW).mono ?_
    rintro e w' ⟨h1, h2, h3⟩
    refine ⟨h1, .inr ?_, h3⟩
    rw [cells_app]
    exact h2
  have HLN : Hid (∀ (P : ByteArray) W, Lib.IsBuilder 69 5 A A (Lib.strCells P) W → Calls Tryd.prog 44 #[.pointer (some ⟨w.heap.size, 0, none⟩)] W fun e w' => e = .returned (.int .i64 P.size) ∧ w' = W) := fun P W hB => by
    rw [hA]
    have := Tryd.Builder_Len A A (Lib.strCells P) W hB
    rw [cells_len] at this
    exact this
  have HST : Hid (∀ (P : ByteArray) W, Lib.IsBuilder 69 5 A A (Lib.strCells P) W → A ≤ W.heap.size → Calls Tryd.prog 45 #[.pointer (some ⟨w.heap.size, 0, none⟩)] W fun e w' => e = .returned (.string P) ∧ Below A W w') := fun P W hB hW => by rw [hA]; exact Tryd.Builder_String_any A A P.data.toList W hB hW
  have HIB : Hid (∀ N P W W', Lib.IsBuilder 69 5 A A (Lib.strCells P) W → Below N W W' → W.heap.size ≤ N → Lib.IsBuilder 69 5 A A (Lib.strCells P) W') := fun N P W W' h hb hN => isBuilder_below h hb hN
  have HNEW : Hid (Lib.IsBuilder 69 5 A A (Lib.strCells (jrTo ls 0)) (w.alloc (.cells #[.pointer none, .slice none 0 0] 69))) := by
    rw [← hA]
    exact Lib.fresh_isBuilder _ _ w
  have HNL : Hid (∀ k (h : k < ls.length), hasNl ls[k] = true → jrOk ls = false ∧ jrS ls = ByteArray.empty) := fun k h hn => jr_nl h hn
  have HLG : Hid (∀ k, k ≤ ls.length → 16000 < (jrTo ls k).size → jrOk ls = false ∧ jrS ls = ByteArray.empty) := fun k h hn => jr_long h hn
  have HDN : Hid ((∀ k (hk : k < ls.length), hasNl ls[k] = false) → (jrTo ls ls.length).size ≤ 16000 → jrOk ls = true ∧ jrS ls = jrTo ls ls.length) := jr_done
  have HW0 : Hid (∀ k, 0 ≤ jrC ls k ∧ jrC ls k ≤ 65002) := jrC_win ls
  have HZ : Hid (∀ k (h : k < ls.length), ls[k].size ≤ 1048576) := hz
  have HDS : Hid (∀ n, 0 ≤ n → n ≤ 65002 → (decS n).size ≤ 20) := fun n h0 h1 => (decS_size h0 h1).2
  obtain ⟨hm, a, c, rfl, hcap, hc⟩ := hv
  have HC := Lib.hid hc
  have HA := Lib.hid hA
  obtain ⟨K, hK⟩ : ∃ K, jrOk ls = K := ⟨_, rfl⟩
  obtain ⟨R, hR⟩ : ∃ R, jrS ls = R := ⟨_, rfl⟩
  rw [hK, hR] at HNL HLG HDN
  rw [hK, hR]
  unfold maxLen at hm
  clear hA hc hz ht hK hR
  go_enter Tryd.func21, Tryd.ntmps21
  go_wp2
  go_loopw [5, 7, 11] (fun vc _ vi wr => ∃ (k : Nat), k ≤ ls.length ∧ vi = .int .i64 k ∧ vc = .int .i64 (jrC ls k) ∧ Hid ((jrTo ls k).size ≤ 16000 ∧ ∀ j (hj : j < ls.length), j < k → hasNl ls[j] = false) ∧ Hid (Lib.IsBuilder 69 5 A A (Lib.strCells (jrTo ls k)) wr) ∧ Hid (Below A w wr)) (fun _ _ vi _ => ls.length - (intOf vi).toNat)
  case atStart =>
    refine ⟨0, Nat.zero_le _, rfl, rfl, ⟨by show ByteArray.empty.size ≤ _; simp, fun j _ h => by omega⟩, HNEW, ?_⟩
    show Below A w _
    rw [← HA.out]; exact (Below.refl _ w).alloc (Nat.le_refl _) _
  case round =>
    obtain ⟨k, hk, rfl, rfl, HOK, HBU, HB⟩ := hrel
    have hA1 : A ≤ wr.heap.size := HSZ.out _ HB.out
    by_cases hlt : k < ls.length
    · obtain ⟨b, o, rfl, hbs, g0⟩ := HC.out k hlt
      rw [HA.out] at hbs
      have c0 := (HB.out.cell (p := ⟨b, o + k, none⟩) hbs).trans g0
      have HSU := Lib.hid (jrTo_succ hlt)
      have HCS := Lib.hid (jrC_succ hlt)
      have hw1 := HW0.out (k + 1)
      have HN2 := Lib.hid (HNL.out k hlt)
      have HL2 := Lib.hid (HLG.out (k + 1) hlt)
      have hzs := HZ.out k hlt
      have hds := HDS.out _ hw1.1 hw1.2
      have HOK2 : Hid (hasNl ls[k] = false → ∀ j (hj : j < ls.length), j < k + 1 → hasNl ls[j] = false) := fun h j hj h1 => by
        rcases Nat.lt_succ_iff_lt_or_eq.1 h1 with h2 | rfl
        · exact HOK.out.2 j hj h2
        · exact h
      have HCO1 := Lib.hid (HCO.out ls[k] wr)
      have HCK1 := Lib.hid (HCK.out (jrC ls k) ls[k] wr (HW0.out k).1 (HW0.out k).2 hzs)
      rw [← HCS.out] at HCK1
      obtain ⟨s, hs⟩ : ∃ s, ls[k] = s := ⟨_, rfl⟩
      rw [hs] at c0 HSU HN2 HOK2 HCO1 HCK1 hzs
      obtain ⟨C, hC⟩ : ∃ C, jrC ls (k + 1) = C := ⟨_, rfl⟩
      have HD := Lib.hid (HDC.out C wr)
      rw [hC] at hw1 hds HSU HCK1
      obtain ⟨D, hD⟩ : ∃ D, decS C = D := ⟨_, rfl⟩
      have HUL : Hid (jrL C s = ((D ++ ⟨#[32]⟩) ++ s) ++ ⟨#[10]⟩) := by show _ = _; rw [← hD]; rfl
      rw [hD] at hds HD
      obtain ⟨P, hP⟩ : ∃ P, jrTo ls k = P := ⟨_, rfl⟩
      have hps := HOK.out.1
      rw [hP] at HSU HBU hps
      rw [HUL.out] at HSU
      obtain ⟨D1, hD1⟩ : ∃ D1, D ++ (⟨#[32]⟩ : ByteArray) = D1 := ⟨_, rfl⟩
      have z1 : D1.size ≤ 21 := by rw [← hD1, ByteArray.size_append]; exact Nat.add_le_add_right hds 1
      obtain ⟨D2, hD2⟩ : ∃ D2, D1 ++ s = D2 := ⟨_, rfl⟩
      have z2 : D2.size ≤ 1048597 := by rw [← hD2, ByteArray.size_append]; omega
      obtain ⟨D3, hD3⟩ : ∃ D3, D2 ++ (⟨#[10]⟩ : ByteArray) = D3 := ⟨_, rfl⟩
      have z3 : D3.size ≤ 1048598 := by rw [← hD3, ByteArray.size_append]; exact Nat.add_le_add_right z2 1
      rw [hD1, hD2, hD3] at HSU
      have i1 : (k : Int) < (ls.length : Int) := by omega
      have i0 : (0 : Int) ≤ (k : Int) := by omega
      have HCC := Lib.hid hC
      have HWZ := Lib.hid hw1
      have HZ3 := Lib.hid z3
      have HPS := Lib.hid hps
      clear g0 hs hD hP hbs HCS HUL HNL HLG HDN HCK HCO HDC HZ HDS HW0 HOK HC hC z3 hps HNEW
      cases hnl : hasNl s
      · rw [hnl] at HCO1
        have HOK3 := Lib.hid (HOK2.out hnl)
        clear HN2 HOK2 hnl
        go_wp2_with fail
        refine HCO1.out.mono ?_
        rintro e w' ⟨rfl, rfl⟩
        go_wp2_with fail
        refine HCK1.out.mono ?_
        rintro e w' ⟨rfl, rfl⟩
        go_wp2_with fail
        refine (HD.out HWZ.out.1 HWZ.out.2 HB.out).mono ?_
        rintro e W1 ⟨rfl, hb1⟩
        have HB1 := Lib.hid (HB.out.trans (hb1.mono hA1))
        have hA2 : A ≤ W1.heap.size := HSZ.out _ HB1.out
        have HW1 := Lib.hid (HWS.out P D3 W1 (HIB.out _ _ _ _ HBU.out hb1 (Nat.le_refl _)) HPS.out (by have := HZ3.out; omega) hA2)
        clear hb1 HBU HB HD HWS
        go_wp2_with fail
        refine HW1.out.mono ?_
        rintro e W2 ⟨rfl, hbu2, hb2⟩
        have HB2 := Lib.hid (HB1.out.trans hb2)
        have hA3 : A ≤ W2.heap.size := HSZ.out _ HB2.out
        have HBU2 := Lib.hid hbu2
        have HLEN := Lib.hid (HLN.out (P ++ D3) W2 hbu2)
        obtain ⟨Z, hZ⟩ : ∃ Z, (P ++ D3).size = Z := ⟨_, rfl⟩
        have HZZ : Hid (Z = (P ++ D3).size) := hZ.symm
        rw [hZ] at HLEN
        have zb : Z ≤ 2000000 := by rw [← hZ, ByteArray.size_append]; have := HZ3.out; have := HPS.out; omega
        clear hbu2 hb2 hZ HB1 HW1 HLN
        by_cases hbig : 16000 < Z
        · have HF := Lib.hid (HL2.out (by rw [HSU.out, ← HZZ.out]; exact hbig))
          have i2 : (16000 : Int) < (Z : Int) := by omega
          clear HL2
          go_wp2_with fail
          refine HLEN.out.mono ?_
          rintro e w' ⟨rfl, rfl⟩
          go_wp2
          go_ret2
          rw [HF.out.1, HF.out.2, HA.out]
          exact ⟨rfl, HB2.out⟩
        · have i2 : ¬ (16000 : Int) < (Z : Int) := by omega
          have HBU3 : Hid (Lib.IsBuilder 69 5 A A (Lib.strCells (jrTo ls (k + 1))) W2) := by rw [HSU.out]; exact HBU2.out
          have HSM : Hid ((jrTo ls (k + 1)).size ≤ 16000) := by show _ ≤ _; rw [HSU.out, ← HZZ.out]; omega
          clear HL2 hbig
          go_wp2_with fail
          refine HLEN.out.mono ?_
          rintro e w' ⟨rfl, rfl⟩
          go_wp2
          go_roundw
          case rel => exact ⟨k + 1, by omega, by go_num, by rw [HCC.out], ⟨HSM.out, HOK3.out⟩, HBU3.out, HB2.out⟩
          case measure => simp [intOf]; omega
      · rw [hnl] at HCO1
        have HF := Lib.hid (HN2.out hnl)
        clear HN2 HOK2 hnl HL2
        go_wp2_with fail
        refine HCO1.out.mono ?_
        rintro e w' ⟨rfl, rfl⟩
        go_wp2
        go_ret2
        rw [HF.out.1, HF.out.2, HA.out]
        exact ⟨rfl, HB.out⟩
    · have hkl : k = ls.length := by omega
      have HF := Lib.hid (HDN.out (fun j hj => HOK.out.2 j hj (by omega)) (by have := HOK.out.1; rw [hkl] at this; exact this))
      have HS := Lib.hid (HST.out _ wr HBU.out hA1)
      clear HST HWS HLN HDC HCK HCO HC HNL HLG HDN
      go_wp2_with fail
      refine HS.out.mono ?_
      rintro e W2 ⟨rfl, hb2⟩
      have HB2 := Lib.hid (HB.out.trans hb2)
      have HKL : Hid (jrTo ls k = jrTo ls ls.length) := by show _ = _; rw [hkl]
      clear hb2
      go_wp2
      go_ret2
      rw [HF.out.1, HF.out.2, HA.out]
      exact ⟨rfl, HB2.out⟩

set_option maxRecDepth 100000 in
set_option maxHeartbeats 4000000 in
theorem l08Journal_any (v : Value) (ls : List ByteArray) (w : World) (hv : Txs w v ls) (hn : jrN ls ls.length ≤ 16000) :
    Calls Tryd.prog 39 #[v] w fun e w' => e = .returned (.string (jrTo ls ls.length)) ∧ Below w.heap.size w w' := by
  obtain ⟨A, hA⟩ : ∃ A, w.heap.size = A := ⟨_, rfl⟩
  have HSZ : Hid (∀ W, Below A w W → A ≤ W.heap.size) := fun W h => by rw [← hA]; exact h.size
  have HDC : Hid (∀ n W, 0 ≤ n → n ≤ 65002 → Calls Tryd.prog 59 #[.int .i64 n] W fun e w' => e = .returned (.string (decS n)) ∧ Below W.heap.size W w') := fun n W h0 h1 => l01Dec_any n W (wf_i64_iff.2 ⟨by omega, by omega⟩)
  have HCK : Hid (∀ n (s : ByteArray) W, 0 ≤ n → n ≤ 65002 → s.size ≤ 1048576 → Calls Tryd.prog 58 #[.int .i64 n, .string s] W fun e w' => e = .returned (.int .i64 (chk n s)) ∧ W = w') := fun n s W h0 h1 hs => l01Check_any n s W h0 h1 (by unfold maxLen; omega)
  have HW0 : Hid (∀ k, 0 ≤ jrC ls k ∧ jrC ls k ≤ 65002) := jrC_win ls
  have HLE : Hid (∀ k, k ≤ ls.length → jrN ls k ≤ 16000 ∧ k ≤ 16000) := fun k hk => ⟨by have := jrN_mono hk (Nat.le_refl ls.length); omega, by have := jrN_mono hk (Nat.le_refl ls.length); have := jrN_ge ls k; omega⟩
  have HTL : Hid (∀ k, k ≤ ls.length → (jrTo ls k).size ≤ 16000 + 19 * 16000) := fun k hk => by have := jrTo_leN hk; have := HLE.out k hk; omega
  have HZ : Hid (∀ k (h : k < ls.length), ls[k].size ≤ 16000) := fun k h => by have := jrN_succ h; have := (HLE.out (k + 1) h).1; omega
  have HDS : Hid (∀ n, 0 ≤ n → n ≤ 65002 → (decS n).size ≤ 20) := fun n h0 h1 => (decS_size h0 h1).2
  obtain ⟨hm, a, c, rfl, hcap, hc⟩ := hv
  have HC := Lib.hid hc
  have HA := Lib.hid hA
  unfold maxLen at hm
  clear hA hc hn
  go_enter Tryd.func39, Tryd.ntmps39
  go_wp2
  go_loopw [3, 4, 5] (fun vo vc vi wr => ∃ (k : Nat), k ≤ ls.length ∧ vi = .int .i64 k ∧ vc = .int .i64 (jrC ls k) ∧ vo = .string (jrTo ls k) ∧ Hid (Below A w wr)) (fun _ _ vi _ => ls.length - (intOf vi).toNat)
  case atStart => exact ⟨0, Nat.zero_le _, rfl, rfl, rfl, by show Below A w w; rw [← HA.out]; exact Below.refl _ w⟩
  case round =>
    obtain ⟨k, hk, rfl, rfl, rfl, HB⟩ := hrel
    have hA1 : A ≤ wr.heap.size := HSZ.out _ HB.out
    by_cases hlt : k < ls.length
    · obtain ⟨b, o, rfl, hbs, g0⟩ := HC.out k hlt
      rw [HA.out] at hbs
      have c0 := (HB.out.cell (p := ⟨b, o + k, none⟩) hbs).trans g0
      have HSU := Lib.hid (jrTo_succ hlt)
      have HCS := Lib.hid (jrC_succ hlt)
      have hw1 := HW0.out (k + 1)
      have hzs := HZ.out k hlt
      have hds := HDS.out _ hw1.1 hw1.2
      have hps := HTL.out k hk
      have HCK1 := Lib.hid (HCK.out (jrC ls k) ls[k] wr (HW0.out k).1 (HW0.out k).2 (by omega))
      rw [← HCS.out] at HCK1
      obtain ⟨s, hs⟩ : ∃ s, ls[k] = s := ⟨_, rfl⟩
      rw [hs] at c0 HSU HCK1 hzs g0
      have HG0 := Lib.hid g0
      have HBS := Lib.hid hbs
      obtain ⟨C, hC⟩ : ∃ C, jrC ls (k + 1) = C := ⟨_, rfl⟩
      have HD := Lib.hid (HDC.out C wr.drew)
      rw [hC] at hw1 hds HSU HCK1
      obtain ⟨D, hD⟩ : ∃ D, decS C = D := ⟨_, rfl⟩
      have HUL : Hid (jrL C s = ((D ++ ⟨#[32]⟩) ++ s) ++ ⟨#[10]⟩) := by show _ = _; rw [← hD]; rfl
      rw [hD] at hds HD
      obtain ⟨P, hP⟩ : ∃ P, jrTo ls k = P := ⟨_, rfl⟩
      rw [hP] at HSU hps
      rw [hP]
      rw [HUL.out] at HSU
      obtain ⟨D1, hD1⟩ : ∃ D1, D ++ (⟨#[32]⟩ : ByteArray) = D1 := ⟨_, rfl⟩
      have z1 : D1.size ≤ 21 := by rw [← hD1, ByteArray.size_append]; exact Nat.add_le_add_right hds 1
      obtain ⟨D2, hD2⟩ : ∃ D2, D1 ++ s = D2 := ⟨_, rfl⟩
      have z2 : D2.size ≤ 16021 := by rw [← hD2, ByteArray.size_append]; omega
      obtain ⟨D3, hD3⟩ : ∃ D3, D2 ++ (⟨#[10]⟩ : ByteArray) = D3 := ⟨_, rfl⟩
      have z3 : D3.size ≤ 16022 := by rw [← hD3, ByteArray.size_append]; exact Nat.add_le_add_right z2 1
      rw [hD1, hD2, hD3] at HSU
      have i1 : (k : Int) < (ls.length : Int) := by omega
      have i0 : (0 : Int) ≤ (k : Int) := by omega
      have HCC := Lib.hid hC
      have HWZ := Lib.hid hw1
      clear g0 hs hD hP hbs HCS HUL HCK HDC HZ HDS HW0 HTL hC HLE
      go_wp2_with fail
      refine HCK1.out.mono ?_
      rintro e w' ⟨rfl, rfl⟩
      have HD2 := Lib.hid (HD.out HWZ.out.1 HWZ.out.2)
      go_wp2_with fail
      refine cut_shareK (P := ?P1) ?main1 ?cont1
      case cont1 =>
        intro key
        go_region_with (go_at_call 59; refine HD2.out.mono ?_; rintro e W2 ⟨rfl, hb2⟩; have HB3 : Hid (Below A w W2) := (HB.out.drew).trans (hb2.mono hA1); have c0b := (HB3.out.cell (p := ⟨b, o + k, none⟩) HBS.out).trans HG0.out; clear hb2)
        all_goals
          clear c0b
          revert W2
          exact key.out
      intro W2 HB3
      go_wp2
      go_roundw
      case rel => exact ⟨k + 1, by omega, by go_num, by rw [HCC.out], by rw [HSU.out], HB3.out⟩
      case measure => simp [intOf]; omega
    · obtain rfl : k = ls.length := by omega
      clear HC HDC HCK HZ HDS HW0 HTL HLE
      go_wp2
      go_ret
      rw [HA.out]
      exact ⟨rfl, HB.out⟩

theorem nl_take (s : ByteArray) (k : Nat) (h : k < s.size) : (s.data.toList.take (k + 1)).contains 10 = ((s.data.toList.take k).contains 10 || (s[k] == 10)) := by
  have h1 : s.data.toList.take (k + 1) = s.data.toList.take k ++ [s[k]] := by
    rw [List.take_succ_eq_append_getElem (by rw [← Lib.size_eq]; exact h)]
    rfl
  rw [h1]
  simp only [List.contains_eq_any_beq, List.any_append, List.any_cons, List.any_nil, Bool.or_false]
  congr 1
  exact BEq.comm
theorem nl_byte (b : UInt8) : (b == 10) = decide ((b.toNat : Int) = 10) := by
  rcases Nat.lt_or_ge b.toNat 256 with h | h
  · by_cases hb : b = 10
    · subst hb; rfl
    · have : b.toNat ≠ 10 := fun e => hb (UInt8.toNat_inj.1 (by rw [e]; rfl))
      rw [beq_eq_false_iff_ne.2 hb]
      symm
      rw [decide_eq_false_iff_not]
      omega
  · have := b.toNat_lt; omega

set_option maxRecDepth 100000 in
set_option maxHeartbeats 2000000 in
theorem specJournalOf_any (v : Value) (ls : List ByteArray) (w : World) (hv : Txs w v ls) (hz : ∀ k (h : k < ls.length), ls[k].size ≤ 1048576) (hl : ls.length ≤ 1048576) :
    Calls Tryd.prog 19 #[v] w fun e w' => e = .returned (.tuple #[.string (jrS ls), .bool (jrOk ls)]) ∧ Below w.heap.size w w' := by
  have HJ : Hid (jrN ls ls.length ≤ 16000 → Calls Tryd.prog 39 #[v] w fun e w' => e = .returned (.string (jrTo ls ls.length)) ∧ Below w.heap.size w w') := fun h => l08Journal_any v ls w hv h
  have HNL : Hid (∀ k (h : k < ls.length), hasNl ls[k] = true → jrOk ls = false ∧ jrS ls = ByteArray.empty) := fun k h hn => jr_nl h hn
  have HLG : Hid (∀ k, k ≤ ls.length → 16000 < jrN ls k → jrOk ls = false ∧ jrS ls = ByteArray.empty) := fun k h hn => jr_longN h hn
  have HLL : Hid (16000 < (jrTo ls ls.length).size → jrOk ls = false ∧ jrS ls = ByteArray.empty) := fun hn => jr_long (Nat.le_refl _) hn
  have HDN : Hid ((∀ k (hk : k < ls.length), hasNl ls[k] = false) → (jrTo ls ls.length).size ≤ 16000 → jrOk ls = true ∧ jrS ls = jrTo ls ls.length) := jr_done
  have HTS : Hid (jrN ls ls.length ≤ 16000 → (jrTo ls ls.length).size ≤ 16000 + 19 * 1048576) := fun h => by have := jrTo_leN (Nat.le_refl ls.length); omega
  have HZ : Hid (∀ k (h : k < ls.length), ls[k].size ≤ 1048576) := hz
  obtain ⟨hm, a, c, rfl, hcap, hc⟩ := hv
  have HC := Lib.hid hc
  obtain ⟨K, hK⟩ : ∃ K, jrOk ls = K := ⟨_, rfl⟩
  obtain ⟨R, hR⟩ : ∃ R, jrS ls = R := ⟨_, rfl⟩
  rw [hK, hR] at HNL HLG HDN HLL
  rw [hK, hR]
  unfold maxLen at hm
  clear hc hz hK hR
  go_enter Tryd.func19, Tryd.ntmps19
  go_wp2
  go_loop [4, 5, 6] (fun vt vi _ => ∃ (k : Nat), k ≤ ls.length ∧ vi = .int .i64 k ∧ vt = .int .i64 (jrN ls k) ∧ Hid (jrN ls k ≤ 16000 ∧ ∀ j (hj : j < ls.length), j < k → hasNl ls[j] = false)) (fun _ vi _ => ls.length - (intOf vi).toNat)
  case atStart => exact ⟨0, Nat.zero_le _, rfl, rfl, ⟨Nat.zero_le _, fun j _ h => by omega⟩⟩
  case round =>
    obtain ⟨k, hk, rfl, rfl, HOK⟩ := hrel
    by_cases hlt : k < ls.length
    · obtain ⟨b, o, rfl, hbs, c0⟩ := HC.out k hlt
      have HN := Lib.hid (jrN_succ hlt)
      have HNX : Hid ((jrN ls (k + 1) : Int) = jrN ls k + (ls[k].size + 3)) := by show _ = _; rw [HN.out]; omega
      have HF1 := Lib.hid (HNL.out k hlt)
      have HL1 := Lib.hid (HLG.out (k + 1) hlt)
      have hzs := HZ.out k hlt
      have hns := HOK.out.1
      have HOK2 : Hid (hasNl ls[k] = false → ∀ j (hj : j < ls.length), j < k + 1 → hasNl ls[j] = false) := fun h j hj h1 => by
        rcases Nat.lt_succ_iff_lt_or_eq.1 h1 with h2 | rfl
        · exact HOK.out.2 j hj h2
        · exact h
      obtain ⟨s, hs⟩ : ∃ s, ls[k] = s := ⟨_, rfl⟩
      rw [hs] at c0 HNX HF1 HOK2 hzs
      obtain ⟨M, hM⟩ : ∃ M, jrN ls k = M := ⟨_, rfl⟩
      rw [hM] at HNX hns
      rw [hM]
      have HM1 : Hid (jrN ls (k + 1) = M + (s.size + 3)) := by have := HNX.out; show _ = _; omega
      have i1 : (k : Int) < (ls.length : Int) := by omega
      have i0 : (0 : Int) ≤ (k : Int) := by omega
      have m0 : (0 : Int) ≤ (M : Int) := by omega
      clear hs hM HN HNL HLG HZ HC HOK HTS HJ HLL HDN
      by_cases hbig : 16000 < M + (s.size + 3)
      · have HF := Lib.hid (HL1.out (by rw [HM1.out]; exact hbig))
        have i2 : (16000 : Int) < (M : Int) + ((s.size : Int) + 3) := by omega
        clear HL1 HF1 HNX HOK2 HM1
        go_wp2
        go_ret2
        rw [HF.out.1, HF.out.2]
        exact ⟨rfl, Below.refl _ _⟩
      · have i2 : ¬ (16000 : Int) < (M : Int) + ((s.size : Int) + 3) := by omega
        have HSM : Hid (jrN ls (k + 1) ≤ 16000) := by show _ ≤ _; rw [HM1.out]; omega
        clear HL1 hbig HM1
        go_wp2
        go_loop [6] (fun vj => ∃ (j : Nat), j ≤ s.size ∧ vj = .int .i64 j ∧ Hid ((s.data.toList.take j).contains 10 = false)) (fun vj => s.size - (intOf vj).toNat)
        case atStart => exact ⟨0, Nat.zero_le _, rfl, by show _ = _; simp⟩
        case round =>
          obtain ⟨j, hj, rfl, HT⟩ := hrel
          by_cases hjl : j < s.size
          · have HS1 := Lib.hid (nl_take s j hjl)
            have HB1 := Lib.hid (nl_byte s[j])
            have hb := s[j].toNat_lt
            have HHAS : Hid (s[j] == 10 → hasNl s = true) := fun h => by
              unfold hasNl
              rw [List.contains_iff_mem]
              have h1 : s[j] = 10 := by simpa using h
              rw [← h1]
              have : s[j] = s.data.toList[j]'(by rw [← Lib.size_eq]; exact hjl) := rfl
              rw [this]
              exact List.getElem_mem _
            obtain ⟨x, hx⟩ : ∃ x, s[j] = x := ⟨_, rfl⟩
            rw [hx] at HS1 HB1 hb HHAS
            have j0 : (0 : Int) ≤ (j : Int) := by omega
            have j1 : (j : Int) < (s.size : Int) := by omega
            by_cases h10 : (x.toNat : Int) = 10
            · have HF := Lib.hid (HF1.out (HHAS.out (by rw [HB1.out]; simpa using h10)))
              clear HS1 HB1 HHAS HF1 HOK2 HNX HSM HT
              go_wp2
              go_ret2
              rw [HF.out.1, HF.out.2]
              exact ⟨rfl, Below.refl _ _⟩
            · have HT2 : Hid ((s.data.toList.take (j + 1)).contains 10 = false) := by
                show _ = _
                rw [HS1.out, HT.out, HB1.out]
                simpa using h10
              clear HS1 HB1 HHAS HF1 HT
              go_wp2
              go_round
              case rel => exact ⟨j + 1, by omega, by go_num, HT2.out⟩
              case measure => simp [intOf]; omega
          · have HO3 := Lib.hid (HOK2.out (by
              unfold hasNl
              have := HT.out
              rw [List.take_of_length_le (by rw [← Lib.size_eq]; omega)] at this
              exact this))
            clear HT HF1 HOK2
            go_wp2
            go_round
            case rel => exact ⟨k + 1, by omega, by go_num, by first | (rw [HNX.out]; done) | (rw [HNX.out]; go_num), ⟨HSM.out, HO3.out⟩⟩
            case measure => simp [intOf]; omega
    · have hkl : k = ls.length := by omega
      have HN0 : Hid (jrN ls ls.length ≤ 16000 ∧ ∀ j (hj : j < ls.length), hasNl ls[j] = false) := ⟨by rw [← hkl]; exact HOK.out.1, fun j hj => HOK.out.2 j hj (by omega)⟩
      have HJ2 := Lib.hid (HJ.out HN0.out.1)
      have HD2 := Lib.hid (HDN.out HN0.out.2)
      have zs := HTS.out HN0.out.1
      obtain ⟨T, hT⟩ : ∃ T, jrTo ls ls.length = T := ⟨_, rfl⟩
      rw [hT] at HJ2 HD2 HLL zs
      clear HJ HDN HNL HLG HC HZ HOK hT HTS hkl
      go_wp2_with fail
      refine HJ2.out.mono ?_
      rintro e W2 ⟨rfl, hb2⟩
      have HB2 := Lib.hid hb2
      clear hb2 HJ2
      by_cases hbig : 16000 < T.size
      · have HF := Lib.hid (HLL.out hbig)
        have i2 : (16000 : Int) < (T.size : Int) := by omega
        clear HLL HD2 hbig
        go_wp2
        go_ret2
        rw [HF.out.1, HF.out.2]
        exact ⟨rfl, HB2.out⟩
      · have HF := Lib.hid (HD2.out (by omega))
        have i2 : ¬ (16000 : Int) < (T.size : Int) := by omega
        clear HLL HD2 hbig
        go_wp2
        go_ret2
        rw [HF.out.1, HF.out.2]
        exact ⟨rfl, HB2.out⟩
end Go.Proofs.YtmhepomjbaendaaDoor
