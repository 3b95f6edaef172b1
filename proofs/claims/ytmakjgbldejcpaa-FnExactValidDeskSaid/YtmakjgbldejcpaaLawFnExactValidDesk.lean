/- The law FnExactValidDesk of the given program returns true for every input, and writes nothing that was there. Conditions: none. -/
import Derived.Test.YtmakjgbldejcpaaRows
import Derived.Test.YtmakjgbldejcpaaXValidDesk
import Derived.Test.YtmakjgbldejcpaaRead
import Derived.WalkKit
import Derived.ProofKit
import Derived.OpenShut
import Derived.ShutString
import Derived.ChangeOld
import Derived.Below
namespace Go.Proofs.Ytmakjgbldejcpaa.fnExactValidDesk
open Go.ChangeShapes Go.WideShapes Go.ChangeAt Go.RowKit Go.Proofs.Ytmakjgbldejcpaa
open Go.ChangeMaps (open_string shut_string)
set_option linter.unusedVariables false

theorem own : ownKnob Try.prog.godebug = none := by kernel_rfl
theorem laidOut : laidOutB Try.prog = true := by kernel_rfl

set_option maxRecDepth 100000 in
theorem o2 : Opens 2 rInt := opens_int Try.underlying2 (by kernel_rfl)
set_option maxRecDepth 100000 in
theorem o135 : Opens 135 rJob := opens_struct Try.underlying135 (by kernel_rfl) (opensF_cons o2 rfl (opensF_cons o2 rfl (opensF_cons o2 rfl (opensF_one o2 rfl))))
set_option maxRecDepth 100000 in
theorem o29 : Opens 29 (rSl rJob) := opens_slice Try.underlying29 (by kernel_rfl) o135 (by decide)
set_option maxRecDepth 100000 in
theorem o31 : Opens 31 rRule := opens_struct Try.underlying31 (by kernel_rfl) (opensF_cons o2 rfl (opensF_cons o2 rfl (opensF_cons o2 rfl (opensF_cons o2 rfl (opensF_one o2 rfl)))))
set_option maxRecDepth 100000 in
theorem o32 : Opens 32 (rSl rInt) := opens_slice Try.underlying32 (by kernel_rfl) o2 (by decide)
set_option maxRecDepth 100000 in
theorem o9 : Opens 9 rStr := opens_str Try.underlying9 (by kernel_rfl)
set_option maxRecDepth 100000 in
theorem o34 : Opens 34 rDesk := opens_struct Try.underlying34 (by kernel_rfl) (opensF_cons o29 rfl (opensF_cons o31 rfl (opensF_cons o32 rfl (opensF_one o9 rfl))))

theorem walk (a0 : Array Value) (x0 : _) (w : World) (w0 : rDesk.R w a0.toList x0) :
    Calls Try.prog 7 #[.agg a0] w fun e w' => e = .returned (.bool true) ∧ Below w.heap.size w w' :=
  walkFnExactValidDesk a0 x0 w w0

set_option maxRecDepth 100000 in
theorem lifted (os : Os) (started : os.Started) (H : Type) (enc : TypeId × Value → H) :
    ReturnsInHanded {} Try.checked os 7 .any (Rows.fnExactValidDeskSpec.pre6 enc Try.prog Try.f7 Rows.fnExactValidDeskRow.domain false) (Rows.fnExactValidDeskSpec.post enc Try.prog Try.f7 false true false false) := by
  refine returnsInHanded_of_change (C := Try.checked) own started (by kernel_rfl) Try.func7
    (ChangeSpec.witness6 (enc := enc) (C := Try.checked) false ⟨#[], #[.agg #[.slice none 0 0, .int .i64 0, .int .i64 0, .int .i64 0, .int .i64 0, .int .i64 0, .slice none 0 0, .string ByteArray.empty]], []⟩ 8 (by kernel_rfl) (by kernel_rfl) (by kernel_rfl) (by kernel_rfl)) ?_
  intro W base args ds gs before hval0 hW hcnd _
  have hval : ∀ (j : Nat) t v, Try.f7.params[j]? = some t → args[j]? = some v → Value.okWide Try.prog W .any base t v := hval0
  have hW' := hW
  obtain ⟨p, q, hA0, hV, rfl, hfz, hnd⟩ := hW
  have hA : DataW.TrodAll enc Try.prog W 0 (fun _ => true) true Try.f7.params.toList args.toList ds p := hA0
  rw [Try.params7] at hA hval
  obtain ⟨v0, vs0, d0, ds0, p0, q0, hargs, rfl, rfl, h0, r0⟩ := trodAll_cons hA
  obtain ⟨rfl, rfl, rfl⟩ := trodAll_nil r0
  obtain rfl : args = #[v0] := by cases args; simp_all
  obtain ⟨rfl, rfl⟩ := trodVars_none hV
  obtain ⟨a0, rfl, hn0⟩ := okWide_struct Try.underlying34 (hval 0 34 v0 rfl rfl)
  have k0 := h0
  have lt0 : ∀ x ∈ p0, x.block < W.heap.size := by obtain ⟨m, hm⟩ := k0; exact DataW.trod_lt m _ _ _ hm
  obtain ⟨x0, w0⟩ : ∃ x, rDesk.R W a0.toList x := by
    obtain ⟨fuel, hf⟩ := h0
    exact o34.2 hf
  clear hA0 hval0
  refine (walk a0 x0 W w0).mono fun e W' ⟨he, bel⟩ => ?_
  subst he
  exact ⟨_, rfl, _, _, _, [], _, [], hW', trodAll_mk1 (shut_bool Try.underlying4 _), (trodAll_cons_mk (Below.trod laidOut (by kernel_rfl) (of_decide_eq_true (by kernel_rfl)) k0 bel lt0) trodAll_mk0), rfl, bel.frame _, fun h => by cases h⟩

theorem over : Rows.fnExactValidDeskRow.holds Try.pinned (OpenSpec.ofChange Rows.fnExactValidDeskSpec) :=
  OpenClaim.holds_of_wide 7 Try.f7 rfl rfl rfl rfl rfl rfl rfl ⟨rfl, rfl, rfl, rfl, rfl⟩ rfl rfl rfl rfl rfl (by kernel_rfl) Try.func7 (by kernel_rfl)
    (of_decide_eq_true (by kernel_rfl)) (by unfold Func.isWrapper; first | (rw [if_pos (by decide +kernel)]; kernel_rfl) | (rw [if_neg (by decide +kernel)]; exact ⟨rfl, rfl⟩))
    (fun os started H enc _ => lifted os started H enc)

/-- The statement. -/
theorem proved : Rows.FnExactValidDeskSaid := over
#print axioms proved
end Go.Proofs.Ytmakjgbldejcpaa.fnExactValidDesk
