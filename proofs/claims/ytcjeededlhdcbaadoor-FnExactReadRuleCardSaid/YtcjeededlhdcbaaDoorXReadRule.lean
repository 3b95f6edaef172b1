
/- The walk of FnExactReadRule. Conditions: the library's tables and its two error values stand. -/
import Derived.Test.YtcjeededlhdcbaaDoorRdRule
import Derived.Test.YtcjeededlhdcbaaDoorLaidW
import Derived.Test.YtcjeededlhdcbaaDoorJobs
namespace Go.Proofs.YtcjeededlhdcbaaDoor
open Go.RowKit Go.Shelf Go.BigFrame
set_option linter.unusedVariables false
set_option linter.unusedSimpArgs false

set_option maxRecDepth 100000 in
set_option maxHeartbeats 2000000 in
theorem walkFnExactReadRule (t : ByteArray) (w : World) (hs : t.size ≤ maxLen) (hL : laidMetH Tryd.prog Rows.fnExactReadRuleRow.laid w) (hsh : w.ShapedOpen Tryd.prog) :
    Calls Tryd.prog 3 #[.string t] w fun e w' => e = .returned (.bool true) ∧ Below w.heap.size w w' := by
  obtain ⟨ht, he⟩ := laid_facts (by kernel_rfl) rfl (by kernel_rfl) (by kernel_rfl) hL
  obtain ⟨m, hm⟩ := Tryd.laysM146.s1_3 w hsh
  have hm : w.cell? ⟨0, 0, none⟩ = some (.int .i64 m) := hm
  have h0 : 0 < w.heap.size := lt_of_cell hm
  by_cases hlong : t.size ≤ 1048576
  · have h1 : ¬ (t.size : Int) > 1048576 := by omega
    have HI : Hid (∀ W, Below w.heap.size w W → Calls Tryd.prog 7 #[.string t] W fun e w' => e = .returned (.tuple #[rlV (rrR t), .bool (rrB t)]) ∧ Below W.heap.size W w') := fun W hW => ReadRule_any t m W hlong ((hW.cell (p := ⟨0, 0, none⟩) h0).trans hm) (ht.below hW) (he.below hW)
    have HS : Hid (Calls Tryd.prog 6 #[.string t] w fun e w' => e = .returned (.tuple #[rlV (rrR t), .bool (rrB t)]) ∧ Below w.heap.size w w') := specReadRule_any t w hlong
    obtain ⟨⟨a0, a1, a2, a3, a4⟩, hr⟩ : ∃ r, rrR t = r := ⟨_, rfl⟩
    obtain ⟨B, hB⟩ : ∃ b, rrB t = b := ⟨_, rfl⟩
    rw [hr, hB] at HI HS
    clear hr hB hL hsh ht he hm hs hlong h0
    unfold rlV at HI HS
    have HE : Hid (∀ W, Calls Tryd.prog 8 #[.agg #[.int .i64 a0, .int .i64 a1, .int .i64 a2, .int .i64 a3, .int .i64 a4], .agg #[.int .i64 a0, .int .i64 a1, .int .i64 a2, .int .i64 a3, .int .i64 a4]] W fun e w' => e = .returned (.bool true) ∧ Below W.heap.size W w') := fun W => by
      have h := eqRule_any a0 a1 a2 a3 a4 a0 a1 a2 a3 a4 W
      refine h.mono ?_
      rintro e w' ⟨h1, h2⟩
      exact ⟨by rw [h1]; simp, h2⟩
    go_enter Tryd.func3, Tryd.ntmps3
    go_wp2_with fail
    refine HS.out.mono ?_
    rintro e W1 ⟨rfl, hb1⟩
    have HB1 := Lib.hid hb1
    clear hb1 HS
    have HB1a : Hid (Below w.heap.size w (W1.alloc (.cells #[.int .i64 a0, .int .i64 a1, .int .i64 a2, .int .i64 a3, .int .i64 a4] 23))) := HB1.out.alloc HB1.out.size _
    have K1 : Hid (Blk (W1.alloc (.cells #[.int .i64 a0, .int .i64 a1, .int .i64 a2, .int .i64 a3, .int .i64 a4] 23)) W1.heap.size 23 [.int .i64 a0, .int .i64 a1, .int .i64 a2, .int .i64 a3, .int .i64 a4]) := Blk.new W1 _ [.int .i64 a0, .int .i64 a1, .int .i64 a2, .int .i64 a3, .int .i64 a4]
    have HI1 := Lib.hid (HI.out _ HB1a.out)
    go_wp2_with fail
    refine HI1.out.mono ?_
    rintro e W2 ⟨rfl, hb2⟩
    have K2 := Lib.hid (K1.out.below hb2 K1.out.lt)
    have HB2 : Hid (Below w.heap.size w W2) := HB1a.out.trans (hb2.mono (by have := HB1.out.size; simp; omega))
    obtain ⟨N1, hN1⟩ : ∃ x, W1.heap.size = x := ⟨_, rfl⟩
    rw [hN1] at K2
    rw [hN1]
    clear hb2 HI1 HI K1 HB1a hN1
    have k0 := K2.out.cell 0 _ rfl
    have k1 := K2.out.cell 1 _ rfl
    have k2 := K2.out.cell 2 _ rfl
    have k3 := K2.out.cell 3 _ rfl
    have k4 := K2.out.cell 4 _ rfl
    have hn := K2.out.lt
    have hne : ¬ N1 = W2.heap.size := by omega
    have HB3 : Hid (Below w.heap.size w (W2.alloc (.cells #[.int .i64 a0, .int .i64 a1, .int .i64 a2, .int .i64 a3, .int .i64 a4] 23))) := HB2.out.alloc HB2.out.size _
    go_wp2_with fail
    refine (HE.out _).mono ?_
    rintro e W4 ⟨rfl, hb4⟩
    have HB4 : Hid (Below w.heap.size w W4) := HB3.out.trans (hb4.mono HB3.out.size)
    clear hb4
    go_wp2
    go_ret
    exact ⟨rfl, HB4.out⟩
  · have h1 : (t.size : Int) > 1048576 := by omega
    go_enter Tryd.func3, Tryd.ntmps3
    go_wp2
    go_ret
    exact ⟨rfl, Below.refl _ _⟩
end Go.Proofs.YtcjeededlhdcbaaDoor
