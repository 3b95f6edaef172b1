
/- The walk of FnExactJournalOf. Conditions: the library's table of powers of ten stands. -/
import Derived.Test.YtmhepomjbaendaaDoorJour
import Derived.Test.YtmhepomjbaendaaDoorXRuleText
namespace Go.Proofs.YtmhepomjbaendaaDoor
open Go.RowKit Go.Shelf Go.BigFrame
set_option linter.unusedVariables false
set_option linter.unusedSimpArgs false

set_option maxHeartbeats 2000000 in
theorem walkFnExactJournalOf (v0 : Value) (x0 : List ByteArray) (w : World) (w0 : SlR rStr w v0 x0) (hL : laidMetH Tryd.prog Rows.fnExactJournalOfRow.laid w) (hsh : w.ShapedOpen Tryd.prog) :
    Calls Tryd.prog 6 #[v0] w fun e w' => e = .returned (.bool true) ∧ Below w.heap.size w w' := by
  have ht := tab10_of (by kernel_rfl) ⟨_, _, rfl⟩ hL
  have HJ0 : Hid (∀ W, Below w.heap.size w W → Txs W v0 x0) := fun W hW => w0.txs.1.below hW (Nat.le_refl _)
  have HSZ := Lib.hid (szStringS_any v0 x0 1048576 w w0.txs.1 w0.txs.2 (by omega) (by omega))
  have HSM : Hid (∀ k, (x0.length : Int) + zsT x0 x0.length ≤ 1048576 → ∀ (h : k < x0.length), x0[k].size ≤ 1048576) := fun k h1 h => by have := zsT_one h; omega
  have HTO : Hid (x0.length ≤ 1048576 → ∀ W, Below w.heap.size w W → Calls Tryd.prog 20 #[v0] W fun e w' => (∃ v', e = .returned v' ∧ OwnT w' W.heap.size v' x0) ∧ Below W.heap.size W w') := fun h W hW => by
    refine (toStringS_any v0 x0 W (HJ0.out W hW) h).mono ?_
    rintro e w' ⟨v', h1, h2, h3⟩
    exact ⟨⟨v', h1, h2⟩, h3⟩
  have HI : Hid ((x0.length : Int) + zsT x0 x0.length ≤ 1048576 → ∀ v W, Below w.heap.size w W → Txs W v x0 → Calls Tryd.prog 21 #[v] W fun e w' => e = .returned (.tuple #[.string (jrS x0), .bool (jrOk x0)]) ∧ Below W.heap.size W w') := fun h v W hW hj => implJournalOf_any v x0 W hj (fun k hk => HSM.out k h hk) (by omega) (ht.below hW)
  have HS : Hid ((x0.length : Int) + zsT x0 x0.length ≤ 1048576 → ∀ v W, Txs W v x0 → Calls Tryd.prog 19 #[v] W fun e w' => e = .returned (.tuple #[.string (jrS x0), .bool (jrOk x0)]) ∧ Below W.heap.size W w') := fun h v W hj => specJournalOf_any v x0 W hj (fun k hk => HSM.out k h hk) (by omega)
  have HEQ : Hid (∀ v u W, Txs W v x0 → Txs W u x0 → Calls Tryd.prog 22 #[v, u] W fun e w' => e = .returned (.bool true) ∧ Below W.heap.size W w') := fun v u W hv hu => eqStringS_same v u x0 W hv hu
  have HFR : Hid (∀ N W W' v, x0.length ≤ 1048576 → OwnT W N v x0 → Below W.heap.size W W' → Txs W' v x0) := fun N W W' v hl h hb => (h.txs (by unfold maxLen; omega)).below hb (Nat.le_refl _)
  obtain ⟨T, hT⟩ : ∃ T, jrS x0 = T := ⟨_, rfl⟩
  obtain ⟨K, hK⟩ : ∃ T, jrOk x0 = T := ⟨_, rfl⟩
  rw [hT, hK] at HI HS
  obtain ⟨hm0, a, c, rfl, hcap, _⟩ := w0.txs.1
  clear hT hK hL hsh ht w0 HSM
  go_enter Tryd.func6, Tryd.ntmps6
  go_wp2_with fail
  refine HSZ.out.mono ?_
  rintro e w' ⟨⟨r, rfl, hr⟩, rfl⟩
  by_cases hn : r < 0
  · go_wp2
    go_ret
    exact ⟨rfl, Below.refl _ _⟩
  have HB : Hid ((x0.length : Int) + zsT x0 x0.length ≤ 1048576) := by rcases hr with h | h; omega; exact h.2.2
  have HLN : Hid (x0.length ≤ 1048576) := by have := HB.out; show _ ≤ _; omega
  have HT1 := Lib.hid (HTO.out HLN.out)
  have HI1 := Lib.hid (HI.out HB.out)
  have HS1 := Lib.hid (HS.out HB.out)
  clear HTO hr HSZ HI HS HB
  go_wp2_with fail
  refine (HT1.out _ (Below.refl _ _)).mono ?_
  rintro e W1 ⟨⟨v1, rfl, hf1⟩, hb1⟩
  have B1 := Lib.hid hb1
  have HS2 := Lib.hid (HS1.out v1 W1 (HFR.out _ _ _ _ HLN.out hf1 (Below.refl _ _)))
  clear hb1 hf1 HS1
  go_wp2_with fail
  refine HS2.out.mono ?_
  rintro e W2 ⟨rfl, hb2⟩
  have B2 := Lib.hid (B1.out.trans (hb2.mono B1.out.size))
  clear hb2 B1 HS2
  go_wp2_with fail
  refine (HT1.out _ B2.out).mono ?_
  rintro e W3 ⟨⟨v3, rfl, hf3⟩, hb3⟩
  have B3 := Lib.hid (B2.out.trans (hb3.mono B2.out.size))
  have HV3 : Hid (∀ W, Below W3.heap.size W3 W → Txs W v3 x0) := fun W hW => HFR.out _ _ _ _ HLN.out hf3 hW
  have HI3 := Lib.hid (HI1.out v3 W3 B3.out (HV3.out _ (Below.refl _ _)))
  clear hb3 hf3 B2 HI1
  go_wp2_with fail
  refine HI3.out.mono ?_
  rintro e W4 ⟨rfl, hb4⟩
  have B4 := Lib.hid (B3.out.trans (hb4.mono B3.out.size))
  have HV4 : Hid (∀ W, Below W4.heap.size W4 W → Txs W v3 x0) := fun W hW => HV3.out W (hb4.trans (hW.mono hb4.size))
  clear hb4 B3 HI3 HV3
  cases K
  all_goals
    go_wp2_with fail
    refine (HT1.out _ B4.out).mono ?_
    rintro e W5 ⟨⟨v5, rfl, hf5⟩, hb5⟩
    have B5 := Lib.hid (B4.out.trans (hb5.mono B4.out.size))
    have HQ := Lib.hid (HEQ.out v3 v5 W5 (HV4.out _ hb5) (HFR.out _ _ _ _ HLN.out hf5 (Below.refl _ _)))
    clear hb5 hf5
    go_wp2_with fail
    refine HQ.out.mono ?_
    rintro e W6 ⟨rfl, hb6⟩
    have B6 := Lib.hid (B5.out.trans (hb6.mono B5.out.size))
    clear hb6
    go_wp2
    go_ret
    exact ⟨rfl, B6.out⟩
end Go.Proofs.YtmhepomjbaendaaDoor
