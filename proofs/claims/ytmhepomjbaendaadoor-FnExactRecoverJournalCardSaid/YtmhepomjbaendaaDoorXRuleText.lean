
/- The walk of FnExactRuleText. Conditions: the library's table of powers of ten stands. -/
import Derived.Test.YtmhepomjbaendaaDoorTxt
import Derived.Test.YtmhepomjbaendaaDoorValidDesk
import Derived.Test.YtmhepomjbaendaaDoorDeskTo
import Derived.Deep.RegionWith
import Derived.Stop.LaidErr
import Derived.MakeChecks
import Derived.StillTailTactics
namespace Go.Proofs.YtmhepomjbaendaaDoor
open Go.RowKit Go.Shelf Go.BigFrame
set_option linter.unusedVariables false
set_option linter.unusedSimpArgs false

theorem ints_lit (w : World) (xs : List Int) (hx : xs.length ≤ maxLen) : Ints (w.alloc (.cells (xs.map (Value.int .i64)).toArray 2)) (.slice (some ⟨w.heap.size, 0, none⟩) xs.length xs.length) xs := (OwnI.lit w w.heap.size xs (Nat.le_refl _) hx).ints

/-- The text of a rule. -/
def ruleS (r : Int × Int × Int × Int × Int) : ByteArray := if ruleOk r then listS [r.1, r.2.1, r.2.2.1, r.2.2.2.1, r.2.2.2.2] else ByteArray.empty
theorem ruleS_yes {a0 a1 a2 a3 a4 : Int} (h : ruleOk (a0, a1, a2, a3, a4) = true) : ruleS (a0, a1, a2, a3, a4) = listS [a0, a1, a2, a3, a4] := by unfold ruleS; rw [h]; rfl
theorem ruleS_no {a0 a1 a2 a3 a4 : Int} (h : ruleOk (a0, a1, a2, a3, a4) = false) : ruleS (a0, a1, a2, a3, a4) = ByteArray.empty := by unfold ruleS; rw [h]; rfl

set_option maxHeartbeats 1000000 in
theorem implRuleText_any (a0 a1 a2 a3 a4 : Int) (w : World) (h : ∀ x ∈ [a0, a1, a2, a3, a4], (Lit.int .i64 x).wf = true) (ht : Tab10 w) :
    Calls Tryd.prog 12 #[.agg #[.int .i64 a0, .int .i64 a1, .int .i64 a2, .int .i64 a3, .int .i64 a4]] w fun e w' => e = .returned (.tuple #[.string (ruleS (a0, a1, a2, a3, a4)), .bool (ruleOk (a0, a1, a2, a3, a4))]) ∧ Below w.heap.size w w' := by
  have HR : Hid (∀ W, Calls Tryd.prog 31 #[.agg #[.int .i64 a0, .int .i64 a1, .int .i64 a2, .int .i64 a3, .int .i64 a4]] W fun e w' => e = .returned (.bool (ruleOk (a0, a1, a2, a3, a4))) ∧ Below W.heap.size W w') := fun W => validRule_any a0 a1 a2 a3 a4 W
  have HL : Hid (∀ v W, Below w.heap.size w W → Ints W v [a0, a1, a2, a3, a4] → Calls Tryd.prog 32 #[v] W fun e w' => e = .returned (.string (listS [a0, a1, a2, a3, a4])) ∧ Below W.heap.size W w') := fun v W hW hv => listText_any v _ W hv h (by simp) (ht.below hW)
  have HYES : Hid (ruleOk (a0, a1, a2, a3, a4) = true → ruleS (a0, a1, a2, a3, a4) = listS [a0, a1, a2, a3, a4]) := ruleS_yes
  have HNO : Hid (ruleOk (a0, a1, a2, a3, a4) = false → ruleS (a0, a1, a2, a3, a4) = ByteArray.empty) := ruleS_no
  obtain ⟨L, hL⟩ : ∃ L, listS [a0, a1, a2, a3, a4] = L := ⟨_, rfl⟩
  rw [hL] at HL HYES
  clear h ht hL
  obtain ⟨W0, hW0⟩ : ∃ W, w.alloc (.cells #[.int .i64 a0, .int .i64 a1, .int .i64 a2, .int .i64 a3, .int .i64 a4] 29) = W := ⟨_, rfl⟩
  have B0 : Hid (Below w.heap.size w W0) := by rw [← hW0]; exact (Below.refl _ w).alloc (Nat.le_refl _) _
  have hc : ∀ W, Below W0.heap.size W0 W → W.cell? ⟨w.heap.size, 0, none⟩ = some (.int .i64 a0) ∧ W.cell? ⟨w.heap.size, 1, none⟩ = some (.int .i64 a1) ∧ W.cell? ⟨w.heap.size, 2, none⟩ = some (.int .i64 a2) ∧ W.cell? ⟨w.heap.size, 3, none⟩ = some (.int .i64 a3) ∧ W.cell? ⟨w.heap.size, 4, none⟩ = some (.int .i64 a4) := by
    intro W hW
    have hlt : w.heap.size < W0.heap.size := by rw [← hW0]; simp
    have e : ∀ o, W.cell? ⟨w.heap.size, o, none⟩ = W0.cell? ⟨w.heap.size, o, none⟩ := fun o => hW.cell (p := ⟨w.heap.size, o, none⟩) hlt
    simp only [e, ← hW0]
    simp [go_sem]
  have HC := Lib.hid hc
  obtain ⟨c0, c1, c2, c3, c4⟩ := hc W0 (Below.refl _ _)
  clear hc
  go_enter Tryd.func12, Tryd.ntmps12
  go_wp2_with fail
  refine (HR.out _).mono ?_
  rintro e W1 ⟨rfl, hb1⟩
  have B1 := Lib.hid (B0.out.trans (hb1.mono B0.out.size))
  obtain ⟨d0, d1, d2, d3, d4⟩ := HC.out W1 hb1
  clear hb1 c0 c1 c2 c3 c4 hW0 HC HR
  cases hok : ruleOk (a0, a1, a2, a3, a4)
  · go_wp2
    go_ret2
    rw [hok, HNO.out hok]
    exact ⟨rfl, B1.out⟩
  · have HI := Lib.hid (ints_lit W1 [a0, a1, a2, a3, a4] (by unfold maxLen; simp))
    have HB2 : Hid (Below W1.heap.size W1 (W1.alloc (.cells (([a0, a1, a2, a3, a4] : List Int).map (Value.int .i64)).toArray 2))) := (Below.refl _ _).alloc (Nat.le_refl _) _
    have B2 : Hid (Below w.heap.size w (W1.alloc (.cells (([a0, a1, a2, a3, a4] : List Int).map (Value.int .i64)).toArray 2))) := B1.out.trans (HB2.out.mono B1.out.size)
    have HL2 := Lib.hid (HL.out _ _ B2.out HI.out)
    clear HL HI HB2
    go_wp2_with fail
    refine HL2.out.mono ?_
    rintro e W3 ⟨rfl, hb3⟩
    have B3 := Lib.hid (B2.out.trans (hb3.mono B2.out.size))
    clear hb3 HL2 B2
    go_wp2
    go_ret2
    rw [hok, HYES.out hok]
    exact ⟨rfl, B3.out⟩

set_option maxRecDepth 100000 in
set_option maxHeartbeats 1000000 in
theorem l08Rule_any (b o : Nat) (a0 a1 a2 a3 a4 : Int) (w : World) (h : ∀ x ∈ [a0, a1, a2, a3, a4], (Lit.int .i64 x).wf = true)
    (c0 : w.cell? ⟨b, o, none⟩ = some (.int .i64 a0)) (c1 : w.cell? ⟨b, o + 1, none⟩ = some (.int .i64 a1)) (c2 : w.cell? ⟨b, o + 2, none⟩ = some (.int .i64 a2)) (c3 : w.cell? ⟨b, o + 3, none⟩ = some (.int .i64 a3)) (c4 : w.cell? ⟨b, o + 4, none⟩ = some (.int .i64 a4)) :
    Calls Tryd.prog 30 #[.pointer (some ⟨b, o, none⟩)] w fun e w' => e = .returned (.string (listS [a0, a1, a2, a3, a4])) ∧ Below w.heap.size w w' := by
  have HL : Hid (∀ v W, Ints W v [a0, a1, a2, a3, a4] → Calls Tryd.prog 52 #[v] W fun e w' => e = .returned (.string (listS [a0, a1, a2, a3, a4])) ∧ Below W.heap.size W w') := fun v W hv => l01Text_any v _ W hv h (by simp)
  obtain ⟨L, hL⟩ : ∃ L, listS [a0, a1, a2, a3, a4] = L := ⟨_, rfl⟩
  rw [hL] at HL
  rw [hL]
  clear h hL
  have HI := Lib.hid (ints_lit (w.drewN 1) [a0, a1, a2, a3, a4] (by unfold maxLen; simp))
  have HB2 : Hid (Below w.heap.size w ((w.drewN 1).alloc (.cells (([a0, a1, a2, a3, a4] : List Int).map (Value.int .i64)).toArray 2))) := (below_drewN 1 (Below.refl _ w)).alloc (Nat.le_refl _) _
  have HL2 := Lib.hid (HL.out _ _ HI.out)
  clear HL HI
  go_enter Tryd.func30, Tryd.ntmps30
  go_wp2
  go_still_tail 20, (by kernel_rfl)
  go_wp2_with fail
  refine HL2.out.mono ?_
  rintro e W3 ⟨rfl, hb3⟩
  have B3 := Lib.hid (HB2.out.trans (hb3.mono HB2.out.size))
  clear hb3 HL2 HB2
  go_wp2
  go_ret
  exact ⟨rfl, B3.out⟩

set_option maxHeartbeats 1000000 in
theorem specRuleText_any (a0 a1 a2 a3 a4 : Int) (w : World) (h : ∀ x ∈ [a0, a1, a2, a3, a4], (Lit.int .i64 x).wf = true) :
    Calls Tryd.prog 10 #[.agg #[.int .i64 a0, .int .i64 a1, .int .i64 a2, .int .i64 a3, .int .i64 a4]] w fun e w' => e = .returned (.tuple #[.string (ruleS (a0, a1, a2, a3, a4)), .bool (ruleOk (a0, a1, a2, a3, a4))]) ∧ Below w.heap.size w w' := by
  have HYES : Hid (ruleOk (a0, a1, a2, a3, a4) = true → ruleS (a0, a1, a2, a3, a4) = listS [a0, a1, a2, a3, a4]) := ruleS_yes
  have HNO : Hid (ruleOk (a0, a1, a2, a3, a4) = false → ruleS (a0, a1, a2, a3, a4) = ByteArray.empty) := ruleS_no
  obtain ⟨W0, hW0⟩ : ∃ W, w.alloc (.cells #[.int .i64 a0, .int .i64 a1, .int .i64 a2, .int .i64 a3, .int .i64 a4] 29) = W := ⟨_, rfl⟩
  have B0 : Hid (Below w.heap.size w W0) := by rw [← hW0]; exact (Below.refl _ w).alloc (Nat.le_refl _) _
  have c0 : W0.cell? ⟨w.heap.size, 0, none⟩ = some (.int .i64 a0) := by rw [← hW0]; simp [go_sem]
  have c1 : W0.cell? ⟨w.heap.size, 0 + 1, none⟩ = some (.int .i64 a1) := by rw [← hW0]; simp [go_sem]
  have c2 : W0.cell? ⟨w.heap.size, 0 + 2, none⟩ = some (.int .i64 a2) := by rw [← hW0]; simp [go_sem]
  have c3 : W0.cell? ⟨w.heap.size, 0 + 3, none⟩ = some (.int .i64 a3) := by rw [← hW0]; simp [go_sem]
  have c4 : W0.cell? ⟨w.heap.size, 0 + 4, none⟩ = some (.int .i64 a4) := by rw [← hW0]; simp [go_sem]
  have HIS := Lib.hid (l06Is_any w.heap.size 0 a0 a1 a2 a3 a4 W0 c0 c1 c2 c3 c4)
  have HRL : Hid (∀ q, Calls Tryd.prog 30 #[.pointer (some ⟨w.heap.size, 0, none⟩)] (W0.drewN q) fun e w' => e = .returned (.string (listS [a0, a1, a2, a3, a4])) ∧ Below (W0.drewN q).heap.size (W0.drewN q) w') := fun q => l08Rule_any w.heap.size 0 a0 a1 a2 a3 a4 (W0.drewN q) h c0 c1 c2 c3 c4
  obtain ⟨L, hL⟩ : ∃ L, listS [a0, a1, a2, a3, a4] = L := ⟨_, rfl⟩
  rw [hL] at HRL HYES
  clear h hL c0 c1 c2 c3 c4
  go_enter Tryd.func10, Tryd.ntmps10
  go_wp2_with fail
  refine HIS.out.mono ?_
  rintro e w' ⟨rfl, q, rfl⟩
  have B1 : Hid (Below w.heap.size w (W0.drewN q)) := below_drewN q B0.out
  have HR2 := Lib.hid (HRL.out q)
  clear HRL HIS hW0
  cases hok : ruleOk (a0, a1, a2, a3, a4)
  · go_wp2
    go_ret2
    rw [hok, HNO.out hok]
    exact ⟨rfl, B1.out⟩
  · go_wp2_with fail
    refine HR2.out.mono ?_
    rintro e W3 ⟨rfl, hb3⟩
    have B3 := Lib.hid (B1.out.trans (hb3.mono B1.out.size))
    clear hb3 HR2 B1
    go_wp2
    go_ret2
    rw [hok, HYES.out hok]
    exact ⟨rfl, B3.out⟩

set_option maxRecDepth 100000 in
theorem tab10_of {L : List (String × DataW Unit)} {w : World} (hp : (L.all fun x => x.2.handleName?.isNone) = true) (hd : ∃ x y, L = [x, y, (p10, Lib.tabData .u64 Lib.pow10Tab)]) (hL : laidMetH Tryd.prog L w) : Tab10 w := by
  rw [MakeChecks.laidMetH_plain _ _ _ hp] at hL
  obtain ⟨x, y, rfl⟩ := hd
  have h := hL.tail.tail
  exact Lib.tabIs_of_head (rest := []) (g := 1) (t := 119) (e := 107) (by kernel_rfl) (by kernel_rfl) Tryd.underlying119 Tryd.underlying107 (by kernel_rfl) (by kernel_rfl) h

set_option maxHeartbeats 1000000 in
theorem walkFnExactRuleText (c : Array Value) (x0 : Int × Int × Int × Int × Int) (w : World) (w0 : rRule.R w c.toList x0) (hL : laidMetH Tryd.prog Rows.fnExactRuleTextRow.laid w) (hsh : w.ShapedOpen Tryd.prog) :
    Calls Tryd.prog 4 #[.agg c] w fun e w' => e = .returned (.bool true) ∧ Below w.heap.size w w' := by
  have ht := tab10_of (by kernel_rfl) ⟨_, _, rfl⟩ hL
  obtain ⟨a0, a1, a2, a3, a4⟩ := x0
  obtain ⟨c1, d1, e1, ⟨rfl, h0⟩, c2, d2, rfl, ⟨rfl, h1⟩, c3, d3, rfl, ⟨rfl, h2⟩, c4, d4, rfl, ⟨rfl, h3⟩, rfl, h4⟩ := w0
  obtain rfl : c = #[.int .i64 a0, .int .i64 a1, .int .i64 a2, .int .i64 a3, .int .i64 a4] := by cases c; simp at e1; rw [e1]
  have hw : ∀ x ∈ [a0, a1, a2, a3, a4], (Lit.int .i64 x).wf = true := by
    intro x hx
    simp only [List.mem_cons, List.not_mem_nil, or_false] at hx
    rcases hx with rfl | rfl | rfl | rfl | rfl <;> assumption
  have HI : Hid (∀ W, Below w.heap.size w W → Calls Tryd.prog 12 #[.agg #[.int .i64 a0, .int .i64 a1, .int .i64 a2, .int .i64 a3, .int .i64 a4]] W fun e w' => e = .returned (.tuple #[.string (ruleS (a0, a1, a2, a3, a4)), .bool (ruleOk (a0, a1, a2, a3, a4))]) ∧ Below W.heap.size W w') := fun W hW => implRuleText_any a0 a1 a2 a3 a4 W hw (ht.below hW)
  have HS : Hid (∀ W, Calls Tryd.prog 10 #[.agg #[.int .i64 a0, .int .i64 a1, .int .i64 a2, .int .i64 a3, .int .i64 a4]] W fun e w' => e = .returned (.tuple #[.string (ruleS (a0, a1, a2, a3, a4)), .bool (ruleOk (a0, a1, a2, a3, a4))]) ∧ Below W.heap.size W w') := fun W => specRuleText_any a0 a1 a2 a3 a4 W hw
  have HTO : Hid (∀ W, Calls Tryd.prog 11 #[.agg #[.int .i64 a0, .int .i64 a1, .int .i64 a2, .int .i64 a3, .int .i64 a4]] W fun e w' => e = .returned (.agg #[.int .i64 a0, .int .i64 a1, .int .i64 a2, .int .i64 a3, .int .i64 a4]) ∧ Below W.heap.size W w') := fun W => toRule_any a0 a1 a2 a3 a4 W
  obtain ⟨T, hT⟩ : ∃ T, ruleS (a0, a1, a2, a3, a4) = T := ⟨_, rfl⟩
  obtain ⟨K, hK⟩ : ∃ T, ruleOk (a0, a1, a2, a3, a4) = T := ⟨_, rfl⟩
  rw [hT, hK] at HI HS
  clear hT hK hL hsh ht hw h0 h1 h2 h3 h4 e1
  obtain ⟨W0, hW0⟩ : ∃ W, w.alloc (.cells #[.int .i64 a0, .int .i64 a1, .int .i64 a2, .int .i64 a3, .int .i64 a4] 26) = W := ⟨_, rfl⟩
  have B0 : Hid (Below w.heap.size w W0) := by rw [← hW0]; exact (Below.refl _ w).alloc (Nat.le_refl _) _
  have HC : Hid (∀ W, Below W0.heap.size W0 W → W.cell? ⟨w.heap.size, 0, none⟩ = some (.int .i64 a0) ∧ W.cell? ⟨w.heap.size, 1, none⟩ = some (.int .i64 a1) ∧ W.cell? ⟨w.heap.size, 2, none⟩ = some (.int .i64 a2) ∧ W.cell? ⟨w.heap.size, 3, none⟩ = some (.int .i64 a3) ∧ W.cell? ⟨w.heap.size, 4, none⟩ = some (.int .i64 a4)) := by
    intro W hW
    have hlt : w.heap.size < W0.heap.size := by rw [← hW0]; simp
    have e : ∀ o, W.cell? ⟨w.heap.size, o, none⟩ = W0.cell? ⟨w.heap.size, o, none⟩ := fun o => hW.cell (p := ⟨w.heap.size, o, none⟩) hlt
    simp only [e, ← hW0]
    simp [go_sem]
  obtain ⟨e0, e1, e2, e3, e4⟩ := HC.out W0 (Below.refl _ _)
  go_enter Tryd.func4, Tryd.ntmps4
  go_wp2_with fail
  refine (HTO.out _).mono ?_
  rintro e W1 ⟨rfl, hb1⟩
  have B1 := Lib.hid hb1
  clear hb1 e0 e1 e2 e3 e4 hW0
  go_wp2_with fail
  refine (HS.out _).mono ?_
  rintro e W2 ⟨rfl, hb2⟩
  have B2 := Lib.hid (B1.out.trans (hb2.mono B1.out.size))
  clear hb2 B1 HS
  obtain ⟨e0, e1, e2, e3, e4⟩ := HC.out W2 B2.out
  go_wp2_with fail
  refine (HTO.out _).mono ?_
  rintro e W3 ⟨rfl, hb3⟩
  have B3 := Lib.hid (B2.out.trans (hb3.mono B2.out.size))
  have BW3 : Hid (Below w.heap.size w W3) := B0.out.trans (B3.out.mono B0.out.size)
  clear hb3 e0 e1 e2 e3 e4 HC HTO B2
  go_wp2_with fail
  refine (HI.out _ BW3.out).mono ?_
  rintro e W4 ⟨rfl, hb4⟩
  have BW4 := Lib.hid (BW3.out.trans (hb4.mono BW3.out.size))
  clear hb4 HI BW3
  cases K
  all_goals
    go_wp2
    go_ret
    exact ⟨rfl, BW4.out⟩
end Go.Proofs.YtmhepomjbaendaaDoor
