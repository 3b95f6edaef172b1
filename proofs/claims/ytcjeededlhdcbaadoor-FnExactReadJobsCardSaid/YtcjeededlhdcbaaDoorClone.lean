
/- slices.Clone of a slice of integers that is not empty. Conditions: at most 2^20 numbers. -/
import Derived.Test.YtcjeededlhdcbaaDoorAppendFrom
namespace Go.Proofs.YtcjeededlhdcbaaDoor
open Go.RowKit
set_option linter.unusedVariables false
set_option linter.unusedSimpArgs false

theorem sl_nil (p : Addr) (n c : Nat) (W : World) : (binOp .eql 42 (.slice (some p) n c) (.slice none 0 0)).run Tryd.prog W = .ok (.bool false) W := by kernel_rfl

theorem clone_any (v : Value) (xs : List Int) (w : World) (hv : Ints w v xs) (h0 : 0 < xs.length) (hl : xs.length ≤ 1048576) :
    Calls Tryd.prog 44 #[v] w fun e w' => (∃ g c, e = .returned (.slice (some ⟨g, 0, none⟩) xs.length c) ∧ OwnI w' w.heap.size (.slice (some ⟨g, 0, none⟩) xs.length c) xs) ∧ Below w.heap.size w w' := by
  obtain ⟨hm, a, c, rfl, hcap, hc⟩ := hv
  obtain ⟨b, o, ha0, hbs, hcs⟩ := row_at hc
  obtain rfl := ha0 h0
  have hbs := hbs h0
  have ho : OwnI (w.alloc (.cells #[] 2)) w.heap.size (.slice (some ⟨w.heap.size, 0, none⟩) 0 0) [] := OwnI.lit w w.heap.size [] (Nat.le_refl _) (by unfold maxLen; simp)
  have hB : Below w.heap.size w (w.alloc (.cells #[] 2)) := (Below.refl _ w).alloc (Nat.le_refl _) _
  have hcs' : ∀ i (h : i < xs.length), (w.alloc (.cells #[] 2)).cell? ⟨b, o + i, none⟩ = some (.int .i64 xs[i]) := fun i h => (hB.cell (p := ⟨b, o + i, none⟩) hbs).trans (hcs i h)
  have HO := Lib.hid ho
  have HB := Lib.hid hB
  have HCS := Lib.hid hcs'
  clear hc hcs hcs' ho hB ha0
  have hsn := sl_nil
  go_enter Tryd.func44, Tryd.ntmps44
  go_wp2_with (at_builtin; refine append_from rfl _ _ rfl w.heap.size (.slice (some ⟨w.heap.size, 0, none⟩) 0 0) [] xs h0 rfl b o c rfl HCS.out HO.out (by simp) (by simp; omega) ?_; intro g1 c1 w1 ho1 hg1; have hb1 := Below.app (hB := by simp) (HB.out.trans (Below.refl _ _)) HO.out hg1; have Ho1 := Lib.hid ho1; have Hb1 := Lib.hid hb1; clear ho1 hg1 hb1)
  go_ret
  have h1 := Ho1.out
  simp at h1
  exact ⟨⟨g1, c1, rfl, h1⟩, Hb1.out⟩
end Go.Proofs.YtcjeededlhdcbaaDoor
