
/- ColourBy, program and reference, for all arguments. Conditions: at most 2^20 numbers. -/
import Derived.Test.YtmhepomjbaendaaColImpl
import Derived.Test.YtmhepomjbaendaaColSpec
import Derived.Test.YtmhepomjbaendaaCircle
namespace Go.Proofs.Ytmhepomjbaendaa
open Go.RowKit Go.Shelf Go.BigFrame
set_option linter.unusedVariables false
set_option linter.unusedSimpArgs false
attribute [local go_sem] Oper.semAt_some

theorem implColBy_u (n : Int) (v u : Value) (xs order : List Int) (w : World) (hv : Ints w v xs) (hu : Ints w u order) (hn : (Lit.int .i64 n).wf = true) (hl2 : order.length ≤ 1048576) :
    Calls Try.prog 37 #[.int .i64 n, v, u] w fun e w' => (∃ v', e = .returned (.tuple #[v', .bool (colByOk n xs order)]) ∧ OwnI w' w.heap.size v' (colByL n xs order)) ∧ Below w.heap.size w w' := by
  cases h : colByOk n xs order
  · rw [colByL_no h]
    have hca := implAreClashes_any n v xs w hv hn
    cases hc : clashesOk n xs
    · rw [hc] at hca
      have HCA := Lib.hid hca
      clear hca hv hu h hc
      go_enter Try.func37, Try.ntmps37
      go_wp2_with (go_at_call 39; refine HCA.out.mono ?_; rintro e W1 ⟨rfl, hb1⟩)
      go_ret2
      exact ⟨⟨_, rfl, own_nil _ _⟩, hb1⟩
    · have ho : orders n order = false := by unfold colByOk at h; rw [hc, Bool.true_and] at h; exact h
      rw [hc] at hca
      have HCA := Lib.hid hca
      have HIO : Hid (∀ W, Below w.heap.size w W → Calls Try.prog 94 #[u, .int .i64 n] W fun e w' => e = .returned (.bool false) ∧ Below W.heap.size W w') := fun W hW => by
        have := isOrder_any n u order W (hu.below hW (Nat.le_refl _)) hl2
        rw [ho, Bool.and_false] at this
        exact this
      clear hca hv hu h hc ho
      go_enter Try.func37, Try.ntmps37
      go_wp2_with (first | (go_at_call 39; refine HCA.out.mono ?_; rintro e W1 ⟨rfl, hb1⟩; have HB1 := Lib.hid hb1; clear hb1) | (go_at_call 94; refine (HIO.out _ HB1.out).mono ?_; rintro e W2 ⟨rfl, hb2⟩))
      go_ret2
      exact ⟨⟨_, rfl, own_nil _ _⟩, HB1.out.trans (hb2.mono HB1.out.size)⟩
  · have hL := colByL_yes h
    obtain ⟨t, rfl, h1, h2, h3, h4, h5, h6, h7, h8, h9⟩ := colBy_bounds h
    rw [hL, Int.toNat_natCast, h6]
    exact implColBy_yes t v u xs order w hv hu h1 h2 h3 h4 h5 h6 h7 h8 h9

end Go.Proofs.Ytmhepomjbaendaa
