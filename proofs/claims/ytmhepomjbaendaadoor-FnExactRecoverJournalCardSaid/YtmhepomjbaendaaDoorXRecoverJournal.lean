
/- The walk of FnExactRecoverJournal. Conditions: the library's tables stand. -/
import Derived.Test.YtmhepomjbaendaaDoorRec
import Derived.Test.YtmhepomjbaendaaDoorMarkT
import Derived.Test.YtmhepomjbaendaaDoorXRuleText
namespace Go.Proofs.YtmhepomjbaendaaDoor
open Go.RowKit Go.Shelf Go.BigFrame
set_option linter.unusedVariables false
set_option linter.unusedSimpArgs false

def rvB (t : ByteArray) : Bool := decide (t.size ≤ 16000)
def rvO (t : ByteArray) : List ByteArray := if t.size ≤ 16000 then rcOut t else []
def rvN (t : ByteArray) : Nat := if t.size ≤ 16000 then rcN t else 0
theorem nilT (w : World) (B : Nat) : OwnT w B (.slice none 0 0) [] := ⟨by simp, .inl ⟨rfl, rfl⟩⟩
theorem rv_yes {t : ByteArray} (h : t.size ≤ 16000) : rvB t = true ∧ rvO t = rcOut t ∧ rvN t = rcN t := by
  unfold rvB rvO rvN
  rw [if_pos h, if_pos h, decide_eq_true h]
  exact ⟨rfl, rfl, rfl⟩
theorem rv_no {t : ByteArray} (h : ¬ t.size ≤ 16000) : rvB t = false ∧ rvO t = [] ∧ rvN t = 0 := by
  unfold rvB rvO rvN
  rw [if_neg h, if_neg h, decide_eq_false h]
  exact ⟨rfl, rfl, rfl⟩
theorem rvO_len {t : ByteArray} : (rvO t).length ≤ 16001 := by
  unfold rvO
  split
  · rename_i h
    have h1 := lineM_le t
    unfold rcOut
    rw [List.length_map, List.length_take]
    have h3 : (cutB 10 t).length ≤ lineM t + 1 := by unfold lineM; omega
    have h4 : rcK t ≤ lineM t := rcGo_le (by omega)
    omega
  · simp

theorem implRecoverJournal_any (t : ByteArray) (m : Int) (w : World) (hs : t.size ≤ 1048576) (hm : w.cell? ⟨0, 0, none⟩ = some (.int .i64 m)) (ht : Tab10 w) :
    Calls Tryd.prog 24 #[.string t] w fun e w' => (∃ v, e = .returned (.tuple #[v, .int .i64 (rvN t), .bool (rvB t)]) ∧ OwnT w' w.heap.size v (rvO t)) ∧ Below w.heap.size w w' := by
  have HR := Lib.hid (recovered_any t m w hs hm ht)
  have HNIL := Lib.hid (nilT w w.heap.size)
  clear hm ht
  by_cases hsz : t.size ≤ 16000
  · have hsz2 : (t.size : Int) ≤ 16000 := by omega
    have HV := Lib.hid (rv_yes hsz)
    go_enter Tryd.func24, Tryd.ntmps24
    go_wp2_with fail
    refine HR.out.mono ?_
    rintro e W1 ⟨⟨v, rfl, ho⟩, hb⟩
    have HO := Lib.hid ho
    have HB := Lib.hid hb
    clear ho hb HR
    go_wp2
    go_ret3
    rw [HV.out.1, HV.out.2.1, HV.out.2.2]
    exact ⟨⟨_, rfl, HO.out⟩, HB.out⟩
  · have hsz2 : ¬ (t.size : Int) ≤ 16000 := by omega
    have HV := Lib.hid (rv_no hsz)
    clear HR
    go_enter Tryd.func24, Tryd.ntmps24
    go_wp2
    go_ret3
    rw [HV.out.1, HV.out.2.1, HV.out.2.2]
    exact ⟨⟨_, rfl, HNIL.out⟩, Below.refl _ _⟩
theorem specRecoverJournal_any (t : ByteArray) (w : World) (hs : t.size ≤ 1048576) :
    Calls Tryd.prog 23 #[.string t] w fun e w' => (∃ v, e = .returned (.tuple #[v, .int .i64 (rvN t), .bool (rvB t)]) ∧ OwnT w' w.heap.size v (rvO t)) ∧ Below w.heap.size w w' := by
  have HR := Lib.hid (l08Recover_any t w hs)
  have HNIL := Lib.hid (nilT w w.heap.size)
  by_cases hsz : t.size ≤ 16000
  · have hsz2 : (t.size : Int) ≤ 16000 := by omega
    have HV := Lib.hid (rv_yes hsz)
    go_enter Tryd.func23, Tryd.ntmps23
    go_wp2_with fail
    refine HR.out.mono ?_
    rintro e W1 ⟨⟨v, rfl, ho⟩, hb⟩
    have HO := Lib.hid ho
    have HB := Lib.hid hb
    clear ho hb HR
    go_wp2
    go_ret3
    rw [HV.out.1, HV.out.2.1, HV.out.2.2]
    exact ⟨⟨_, rfl, HO.out⟩, HB.out⟩
  · have hsz2 : ¬ (t.size : Int) ≤ 16000 := by omega
    have HV := Lib.hid (rv_no hsz)
    clear HR
    go_enter Tryd.func23, Tryd.ntmps23
    go_wp2
    go_ret3
    rw [HV.out.1, HV.out.2.1, HV.out.2.2]
    exact ⟨⟨_, rfl, HNIL.out⟩, Below.refl _ _⟩

set_option maxHeartbeats 2000000 in
theorem walkFnExactRecoverJournal (t : ByteArray) (w : World) (hs : t.size ≤ maxLen) (hL : laidMetH Tryd.prog Rows.fnExactRecoverJournalRow.laid w) (hsh : w.ShapedOpen Tryd.prog) :
    Calls Tryd.prog 7 #[.string t] w fun e w' => e = .returned (.bool true) ∧ Below w.heap.size w w' := by
  have ht := tab10_of (by kernel_rfl) ⟨_, _, rfl⟩ hL
  obtain ⟨m, hm⟩ := Tryd.laysM146.s1_3 w hsh
  have hm : w.cell? ⟨0, 0, none⟩ = some (.int .i64 m) := hm
  have h0 : 0 < w.heap.size := lt_of_cell hm
  by_cases hlong : t.size ≤ 1048576
  · have h1 : ¬ (t.size : Int) > 1048576 := by omega
    have HI : Hid (∀ W, Below w.heap.size w W → Calls Tryd.prog 24 #[.string t] W fun e w' => (∃ v, e = .returned (.tuple #[v, .int .i64 (rvN t), .bool (rvB t)]) ∧ OwnT w' W.heap.size v (rvO t)) ∧ Below W.heap.size W w') := fun W hW => implRecoverJournal_any t m W hlong ((hW.cell (p := ⟨0, 0, none⟩) h0).trans hm) (ht.below hW)
    have HS := Lib.hid (specRecoverJournal_any t w hlong)
    obtain ⟨O, hO⟩ : ∃ O, rvO t = O := ⟨_, rfl⟩
    obtain ⟨N, hN⟩ : ∃ O, rvN t = O := ⟨_, rfl⟩
    obtain ⟨K, hK⟩ : ∃ O, rvB t = O := ⟨_, rfl⟩
    have hOl : O.length ≤ 16001 := by rw [← hO]; exact rvO_len
    rw [hO, hN, hK] at HI HS
    have HTX : Hid (∀ W B v, OwnT W B v O → Txs W v O) := fun W B v h => h.txs (by unfold maxLen; omega)
    have HEQ : Hid (∀ v u W, Txs W v O → Txs W u O → Calls Tryd.prog 22 #[v, u] W fun e w' => e = .returned (.bool true) ∧ Below W.heap.size W w') := fun v u W hv hu => eqStringS_same v u O W hv hu
    have HMK : Hid (∀ v B W, OwnT W B v O → Calls Tryd.prog 25 #[v, .int .i64 1] W fun e w' => e = .returned (.int .i64 (1 + O.length)) ∧ OwnT w' B v (mtsS 1 O.length) ∧ W.grownBy w' v.ownBlock) := fun v B W h => by
      have := markStringS_any v O 1 B W h (by omega) (by omega) (by omega)
      simpa using this
    have HHD : Hid (∀ v W, Txs W v (mtsS 1 O.length) → Calls Tryd.prog 26 #[v, .int .i64 1] W fun e w' => e = .returned (.int .i64 (1 + O.length)) ∧ Below W.heap.size W w') := fun v W h => by
      have := heldStringS_any v 1 O.length W (by simpa using h) (by omega) (by omega) (by omega)
      simpa using this
    have HTM : Hid (∀ W B v, OwnT W B v (mtsS 1 O.length) → Txs W v (mtsS 1 O.length)) := fun W B v h => h.txs (by rw [mtsS_length]; unfold maxLen; omega)
    have hneg : ¬ (1 + (O.length : Int) < 0) := by omega
    clear hO hN hK hm ht hL hsh h0
    go_enter Tryd.func7, Tryd.ntmps7
    go_wp2_with fail
    refine HS.out.mono ?_
    rintro e W1 ⟨⟨v0, rfl, ho0⟩, hb1⟩
    obtain ⟨A1, hA1⟩ : ∃ A, W1.heap.size = A := ⟨_, rfl⟩
    have HB1 := Lib.hid hb1
    have HS1 : Hid (w.heap.size ≤ A1) := by show _ ≤ _; rw [← hA1]; exact hb1.size
    have HT0 : Hid (∀ W, Below A1 W1 W → Txs W v0 O) := fun W hW => (HTX.out _ _ _ ho0).below hW (by rw [hA1]; exact Nat.le_refl _)
    have HI1 := Lib.hid (HI.out W1 hb1)
    have HBW : Hid (∀ W, Below A1 W1 W → Below w.heap.size w W ∧ A1 ≤ W.heap.size) := fun W hW => ⟨hb1.trans (hW.mono HS1.out), by have := hW.size; omega⟩
    rw [hA1] at HI1
    have hbr : Below A1 W1 W1 := by rw [← hA1]; exact Below.refl _ _
    have HBR := Lib.hid hbr
    clear hb1 ho0 HS hA1 hbr
    go_wp2_with fail
    refine HI1.out.mono ?_
    rintro e W2 ⟨⟨v2, rfl, ho2⟩, hb2⟩
    have B2 := Lib.hid (HBR.out.trans hb2)
    have O2 := Lib.hid ho2
    have HQ2 := Lib.hid (HEQ.out v2 v0 W2 (HTX.out _ _ _ ho2) (HT0.out _ B2.out))
    clear hb2 ho2 HI1
    go_wp2_with fail
    refine HQ2.out.mono ?_
    rintro e W3 ⟨rfl, hb3⟩
    have B3 := Lib.hid (B2.out.trans (hb3.mono (HBW.out _ B2.out).2))
    have O3 := Lib.hid (O2.out.below hb3 (Nat.le_refl _))
    have HM3 := Lib.hid (HMK.out v2 A1 W3 O3.out)
    clear hb3 HQ2 O2 B2
    cases K
    all_goals
      go_wp2_with fail
      refine HM3.out.mono ?_
      rintro e W4 ⟨rfl, ho4, hg4⟩
      have B4 : Hid (Below A1 W1 W4) := B3.out.grown hg4 (HBW.out _ B3.out).2 (fun j e => (O3.out.lt j e).1)
      have T4 : Hid (∀ W, Below W4.heap.size W4 W → Txs W v2 (mtsS 1 O.length)) := fun W hW => (HTM.out _ _ _ ho4).below hW (Nat.le_refl _)
      clear ho4 hg4 HM3 O3 B3
      go_wp2_with fail
      refine (HHD.out v2 W4 (T4.out _ (Below.refl _ _))).mono ?_
      rintro e W5 ⟨rfl, hb5⟩
      have B5 := Lib.hid (B4.out.trans (hb5.mono (HBW.out _ B4.out).2))
      have T5 : Hid (∀ W, Below W5.heap.size W5 W → Txs W v2 (mtsS 1 O.length)) := fun W hW => T4.out W (hb5.trans (hW.mono hb5.size))
      clear hb5 T4 B4
      go_wp2_with fail
      refine (HI.out W5 (HBW.out _ B5.out).1).mono ?_
      rintro e W6 ⟨⟨v6, rfl, ho6⟩, hb6⟩
      have B6 := Lib.hid (B5.out.trans (hb6.mono (HBW.out _ B5.out).2))
      have T6 : Hid (∀ W, Below W6.heap.size W6 W → Txs W v2 (mtsS 1 O.length)) := fun W hW => T5.out W (hb6.trans (hW.mono hb6.size))
      have HQ6 := Lib.hid (HEQ.out v6 v0 W6 (HTX.out _ _ _ ho6) (HT0.out _ B6.out))
      clear hb6 ho6 T5 B5 HI
      go_wp2_with fail
      refine HQ6.out.mono ?_
      rintro e W7 ⟨rfl, hb7⟩
      have B7 := Lib.hid (B6.out.trans (hb7.mono (HBW.out _ B6.out).2))
      have T7 := Lib.hid (T6.out W7 hb7)
      clear hb7 T6 B6 HQ6
      go_wp2_with fail
      refine (HHD.out v2 W7 T7.out).mono ?_
      rintro e W8 ⟨rfl, hb8⟩
      have B8 := Lib.hid (HBW.out _ (B7.out.trans (hb8.mono (HBW.out _ B7.out).2))).1
      clear hb8 T7 B7
      go_wp2
      go_ret
      exact ⟨rfl, B8.out⟩
  · have h1 : (t.size : Int) > 1048576 := by omega
    clear hm ht hL hsh h0
    go_enter Tryd.func7, Tryd.ntmps7
    go_wp2
    go_ret
    exact ⟨rfl, Below.refl _ _⟩
end Go.Proofs.YtmhepomjbaendaaDoor
