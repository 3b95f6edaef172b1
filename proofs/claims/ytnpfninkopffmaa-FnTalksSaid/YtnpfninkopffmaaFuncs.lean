
/- slices.IndexFunc and slices.ContainsFunc at a slice of integers: contracts for whatever closure that answers by a plain predicate. Conditions: the closure writes nothing that was there. -/
import Derived.Test.YtnpfninkopffmaaSlices
import Derived.Test.YtnpfninkopffmaaRound
import Derived.Shelf.Abstract
namespace Go.Proofs.Ytnpfninkopffmaa
open Go.RowKit Go.Shelf
set_option linter.unusedVariables false
set_option linter.unusedSimpArgs false

/-- What a closure on integers answers, in w and in every later world. -/
def Tells (w : World) (g : Nat) (cap : Array Value) (xs : List Int) (p : Int → Bool) : Prop :=
  ∀ W, Below w.heap.size w W → ∀ x ∈ xs, Calls Try.prog g (#[.int .i64 x] ++ cap) W fun e W' => e = .returned (.bool (p x)) ∧ Below W.heap.size W W'

theorem indexFunc_any (v : Value) (xs : List Int) (g : Nat) (cap : Array Value) (p : Int → Bool) (w : World) (hv : Ints w v xs) (hf : Tells w g cap xs p)
    (heg : ∀ args w, (callFunc g args).run Try.prog w = .ok (.enter g args) w) :
    Calls Try.prog 108 #[v, .func (.func g) #[] cap] w fun e w' => (∃ i : Int, e = .returned (.int .i64 i) ∧ decide (0 ≤ i) = xs.any p) ∧ Below w.heap.size w w' := by
  obtain ⟨hm, a, c, rfl, hcap, hc⟩ := hv
  unfold maxLen at hm
  have hfh : Hid (Tells w g cap xs p) := hf
  clear hf
  go_enter Try.func108, Try.ntmps108
  go_wp2
  go_loopw [5, 8] (fun _ i wr => ∃ k : Nat, k ≤ xs.length ∧ i = .int .i64 k ∧ Below w.heap.size w wr ∧ (xs.take k).any p = false) (fun _ i _ => xs.length - (intOf i).toNat)
  case atStart => exact ⟨0, Nat.zero_le _, rfl, Below.refl _ _, rfl⟩
  case round =>
    obtain ⟨k, hk, rfl, hb, hr⟩ := hrel
    have Hr := Lib.hid hr
    clear hr
    by_cases hlt : k < xs.length
    · obtain ⟨b, o, rfl, hbs, hc1⟩ := hc k hlt
      have hck : wr.cell? ⟨b, o + k, none⟩ = some (.int .i64 xs[k]) := (hb.cell (p := ⟨b, o + k, none⟩) hbs).trans hc1
      have hcall := hfh.out wr hb xs[k] (List.getElem_mem _)
      obtain ⟨x, hx⟩ : ∃ x, xs[k] = x := ⟨_, rfl⟩
      rw [hx] at hck hcall
      have Hx := Lib.hid hx
      have Hcall := Lib.hid hcall
      clear hx hc hc1 hcall
      go_wp2_with fail
      refine Hcall.out.mono ?_
      rintro e w1 ⟨rfl, hb1⟩
      have hb2 := hb.trans (hb1.mono hb.size)
      cases hp : p x
      · go_wp2
        go_roundw
        case rel =>
          refine ⟨k + 1, by omega, by go_num, hb2, ?_⟩
          rw [List.take_succ_eq_append_getElem hlt, List.any_append, Hr.out, Hx.out]
          simp [hp]
        case measure => simp [intOf]; omega
      · go_wp2
        go_ret
        refine ⟨⟨k, rfl, ?_⟩, hb2⟩
        rw [decide_eq_true (by omega)]
        symm
        rw [List.any_eq_true]
        exact ⟨xs[k], List.getElem_mem _, by rw [Hx.out, hp]⟩
    · clear hc
      go_wp2
      go_ret
      refine ⟨⟨-1, rfl, ?_⟩, hb⟩
      have := Hr.out
      rw [List.take_of_length_le (by omega)] at this
      rw [this]; rfl

theorem containsFunc_any (v : Value) (xs : List Int) (g : Nat) (cap : Array Value) (p : Int → Bool) (w : World) (hv : Ints w v xs) (hf : Tells w g cap xs p)
    (heg : ∀ args w, (callFunc g args).run Try.prog w = .ok (.enter g args) w) :
    Calls Try.prog 62 #[v, .func (.func g) #[] cap] w fun e w' => e = .returned (.bool (xs.any p)) ∧ Below w.heap.size w w' := by
  have hfh : Hid (Tells w g cap xs p) := hf
  clear hf
  go_enter Try.func62, Try.ntmps62
  go_wp2_with fail
  refine (indexFunc_any _ xs g cap p _ hv hfh.out heg).mono ?_
  rintro e w1 ⟨⟨i, rfl, hi⟩, hb⟩
  have Hi := Lib.hid hi
  clear hi
  go_wp2
  go_ret
  exact ⟨ret_bool Hi.out, hb⟩
end Go.Proofs.Ytnpfninkopffmaa
