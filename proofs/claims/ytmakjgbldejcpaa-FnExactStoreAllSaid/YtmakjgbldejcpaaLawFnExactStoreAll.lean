/- The law FnExactStoreAll of the given program returns true for every input, and writes nothing that was there. Conditions: none. -/
import Derived.Test.YtmakjgbldejcpaaRows
import Derived.Test.YtmakjgbldejcpaaXStoreAll
import Derived.Test.YtmakjgbldejcpaaRead
import Derived.WalkKit
import Derived.ProofKit
import Derived.OpenShut
import Derived.ShutString
import Derived.ChangeOld
import Derived.Below
namespace Go.Proofs.Ytmakjgbldejcpaa.fnExactStoreAll
open Go.ChangeShapes Go.WideShapes Go.ChangeAt Go.RowKit Go.Proofs.Ytmakjgbldejcpaa
open Go.ChangeMaps (open_string shut_string)
set_option linter.unusedVariables false

theorem own : ownKnob Try.prog.godebug = none := by kernel_rfl
theorem laidOut : laidOutB Try.prog = true := by kernel_rfl

set_option maxRecDepth 100000 in
theorem o9 : Opens 9 rStr := opens_str Try.underlying9 (by kernel_rfl)
set_option maxRecDepth 100000 in
theorem o2 : Opens 2 rInt := opens_int Try.underlying2 (by kernel_rfl)
set_option maxRecDepth 100000 in
theorem o32 : Opens 32 (rSl rInt) := opens_slice Try.underlying32 (by kernel_rfl) o2 (by decide)
set_option maxRecDepth 100000 in
theorem o138 : Opens 138 rTask := opens_struct Try.underlying138 (by kernel_rfl) (opensF_cons o2 rfl (opensF_cons o2 rfl (opensF_cons o32 rfl (opensF_one o32 rfl))))
set_option maxRecDepth 100000 in
theorem o43 : Opens 43 (rSl rTask) := opens_slice Try.underlying43 (by kernel_rfl) o138 (by decide)
set_option maxRecDepth 100000 in
theorem o45 : Opens 45 rSaved := opens_struct Try.underlying45 (by kernel_rfl) (opensF_cons o9 rfl (opensF_cons o43 rfl (opensF_one o32 rfl)))
set_option maxRecDepth 100000 in
theorem o54 : Opens 54 (rSl rSaved) := opens_slice Try.underlying54 (by kernel_rfl) o45 (by decide)

theorem walk (a0 : Value) (x0 : List _) (w : World) (w0 : SlR rSaved w a0 x0) :
    Calls Try.prog 12 #[a0] w fun e w' => e = .returned (.bool true) ∧ Below w.heap.size w w' :=
  walkFnExactStoreAll a0 x0 w w0

set_option maxRecDepth 100000 in
theorem lifted (os : Os) (started : os.Started) (H : Type) (enc : TypeId × Value → H) :
    ReturnsInHanded {} Try.checked os 12 .any (Rows.fnExactStoreAllSpec.pre6 enc Try.prog Try.f12 Rows.fnExactStoreAllRow.domain false) (Rows.fnExactStoreAllSpec.post enc Try.prog Try.f12 false true false false) := by
  refine returnsInHanded_of_change (C := Try.checked) own started (by kernel_rfl) Try.func12
    (ChangeSpec.witness6 (enc := enc) (C := Try.checked) false ⟨#[], #[.slice none 0 0], []⟩ 8 (by kernel_rfl) (by kernel_rfl) (by kernel_rfl) (by kernel_rfl)) ?_
  intro W base args ds gs before hval0 hW hcnd _
  have hval : ∀ (j : Nat) t v, Try.f12.params[j]? = some t → args[j]? = some v → Value.okWide Try.prog W .any base t v := hval0
  have hW' := hW
  obtain ⟨p, q, hA0, hV, rfl, hfz, hnd⟩ := hW
  have hA : DataW.TrodAll enc Try.prog W 0 (fun _ => true) true Try.f12.params.toList args.toList ds p := hA0
  rw [Try.params12] at hA hval
  obtain ⟨v0, vs0, d0, ds0, p0, q0, hargs, rfl, rfl, h0, r0⟩ := trodAll_cons hA
  obtain ⟨rfl, rfl, rfl⟩ := trodAll_nil r0
  obtain rfl : args = #[v0] := by cases args; simp_all
  obtain ⟨rfl, rfl⟩ := trodVars_none hV
  obtain ⟨a0, len0, cap0, rfl⟩ := okWide_slice Try.underlying54 (hval 0 54 v0 rfl rfl)
  have k0 := h0
  have lt0 : ∀ x ∈ p0, x.block < W.heap.size := by obtain ⟨m, hm⟩ := k0; exact DataW.trod_lt m _ _ _ hm
  obtain ⟨x0, w0⟩ : ∃ x, SlR rSaved W (.slice a0 len0 cap0) x := by
    obtain ⟨fuel, hf⟩ := h0
    obtain ⟨y, v', hv, hy⟩ := o54.2 hf
    obtain rfl : Value.slice a0 len0 cap0 = v' := by simpa [Value.cells] using hv
    exact ⟨y, hy⟩
  clear hA0 hval0
  refine (walk (.slice a0 len0 cap0) x0 W w0).mono fun e W' ⟨he, bel⟩ => ?_
  subst he
  exact ⟨_, rfl, _, _, _, [], _, [], hW', trodAll_mk1 (shut_bool Try.underlying4 _), (trodAll_cons_mk (Below.trod laidOut (by kernel_rfl) (of_decide_eq_true (by kernel_rfl)) k0 bel lt0) trodAll_mk0), rfl, bel.frame _, fun h => by cases h⟩

theorem over : Rows.fnExactStoreAllRow.holds Try.pinned (OpenSpec.ofChange Rows.fnExactStoreAllSpec) :=
  OpenClaim.holds_of_wide 12 Try.f12 rfl rfl rfl rfl rfl rfl rfl ⟨rfl, rfl, rfl, rfl, rfl⟩ rfl rfl rfl rfl rfl (by kernel_rfl) Try.func12 (by kernel_rfl)
    (of_decide_eq_true (by kernel_rfl)) (by unfold Func.isWrapper; first | (rw [if_pos (by decide +kernel)]; kernel_rfl) | (rw [if_neg (by decide +kernel)]; exact ⟨rfl, rfl⟩))
    (fun os started H enc _ => lifted os started H enc)

/-- The statement. -/
theorem proved : Rows.FnExactStoreAllSaid := over
#print axioms proved
end Go.Proofs.Ytmakjgbldejcpaa.fnExactStoreAll
