/- The law FnStoredOfAll of the given program returns true for every input, and writes nothing that was there. Conditions: none. -/
import Derived.Test.YtmhepomjbaendaaRows
import Derived.Test.YtmhepomjbaendaaXStoredOfAll
import Derived.Test.YtmhepomjbaendaaRead
import Derived.WalkKit
import Derived.ProofKit
import Derived.OpenShut
import Derived.ShutString
import Derived.ChangeOld
import Derived.Below
namespace Go.Proofs.Ytmhepomjbaendaa.fnStoredOfAll
open Go.ChangeShapes Go.WideShapes Go.ChangeAt Go.RowKit Go.Proofs.Ytmhepomjbaendaa
open Go.ChangeMaps (open_string shut_string)
set_option linter.unusedVariables false

theorem own : ownKnob Try.prog.godebug = none := by kernel_rfl
theorem laidOut : laidOutB Try.prog = true := by kernel_rfl

set_option maxRecDepth 100000 in
theorem o9 : Opens 9 rStr := opens_str Try.underlying9 (by kernel_rfl)
set_option maxRecDepth 100000 in
theorem o2 : Opens 2 rInt := opens_int Try.underlying2 (by kernel_rfl)
set_option maxRecDepth 100000 in
theorem o25 : Opens 25 (rSl rInt) := opens_slice Try.underlying25 (by kernel_rfl) o2 (by decide)
set_option maxRecDepth 100000 in
theorem o86 : Opens 86 rTask := opens_struct Try.underlying86 (by kernel_rfl) (opensF_cons o2 rfl (opensF_cons o2 rfl (opensF_cons o25 rfl (opensF_one o25 rfl))))
set_option maxRecDepth 100000 in
theorem o42 : Opens 42 (rSl rTask) := opens_slice Try.underlying42 (by kernel_rfl) o86 (by decide)
set_option maxRecDepth 100000 in
theorem o44 : Opens 44 rSaved := opens_struct Try.underlying44 (by kernel_rfl) (opensF_cons o9 rfl (opensF_cons o42 rfl (opensF_one o25 rfl)))
set_option maxRecDepth 100000 in
theorem o38 : Opens 38 (rSl rSaved) := opens_slice Try.underlying38 (by kernel_rfl) o44 (by decide)

theorem walk (a0 : Value) (x0 : List _) (a1 : Int) (a2 : Int) (w : World) (w0 : SlR rSaved w a0 x0) (w1 : (Lit.int .i64 a1).wf = true) (w2 : (Lit.int .u8 a2).wf = true) :
    Calls Try.prog 4 #[a0, .int .i64 a1, .int .u8 a2] w fun e w' => e = .returned (.bool true) ∧ Below w.heap.size w w' :=
  walkFnStoredOfAll a0 x0 a1 a2 w w0 w1 w2

set_option maxRecDepth 100000 in
theorem lifted (os : Os) (started : os.Started) (H : Type) (enc : TypeId × Value → H) :
    ReturnsInHanded {} Try.checked os 4 .any (Rows.fnStoredOfAllSpec.pre6 enc Try.prog Try.f4 Rows.fnStoredOfAllRow.domain false) (Rows.fnStoredOfAllSpec.post enc Try.prog Try.f4 false true false false) := by
  refine returnsInHanded_of_change (C := Try.checked) own started (by kernel_rfl) Try.func4
    (ChangeSpec.witness6 (enc := enc) (C := Try.checked) false ⟨#[], #[.slice none 0 0, .int .i64 0, .int .u8 0], []⟩ 8 (by kernel_rfl) (by kernel_rfl) (by kernel_rfl) (by kernel_rfl)) ?_
  intro W base args ds gs before hval0 hW hcnd _
  have hval : ∀ (j : Nat) t v, Try.f4.params[j]? = some t → args[j]? = some v → Value.okWide Try.prog W .any base t v := hval0
  have hW' := hW
  obtain ⟨p, q, hA0, hV, rfl, hfz, hnd⟩ := hW
  have hA : DataW.TrodAll enc Try.prog W 0 (fun _ => true) true Try.f4.params.toList args.toList ds p := hA0
  rw [Try.params4] at hA hval
  obtain ⟨v0, vs0, d0, ds0, p0, q0, hargs, rfl, rfl, h0, r0⟩ := trodAll_cons hA
  obtain ⟨v1, vs1, d1, ds1, p1, q1, rfl, rfl, rfl, h1, r1⟩ := trodAll_cons r0
  obtain ⟨v2, vs2, d2, ds2, p2, q2, rfl, rfl, rfl, h2, r2⟩ := trodAll_cons r1
  obtain ⟨rfl, rfl, rfl⟩ := trodAll_nil r2
  obtain rfl : args = #[v0, v1, v2] := by cases args; simp_all
  obtain ⟨rfl, rfl⟩ := trodVars_none hV
  obtain ⟨a0, len0, cap0, rfl⟩ := okWide_slice Try.underlying38 (hval 0 38 v0 rfl rfl)
  have k0 := h0
  have lt0 : ∀ x ∈ p0, x.block < W.heap.size := by obtain ⟨m, hm⟩ := k0; exact DataW.trod_lt m _ _ _ hm
  obtain ⟨x0, w0⟩ : ∃ x, SlR rSaved W (.slice a0 len0 cap0) x := by
    obtain ⟨fuel, hf⟩ := h0
    obtain ⟨y, v', hv, hy⟩ := o38.2 hf
    obtain rfl : Value.slice a0 len0 cap0 = v' := by simpa [Value.cells] using hv
    exact ⟨y, hy⟩
  obtain ⟨a1, rfl, rfl, rfl, w1⟩ := open_int Try.underlying3 (hval 1 3 v1 rfl rfl) h1
  obtain ⟨a2, rfl, rfl, rfl, w2⟩ := open_int Try.underlying5 (hval 2 5 v2 rfl rfl) h2
  clear hA0 hval0
  refine (walk (.slice a0 len0 cap0) x0 a1 a2 W w0 w1 w2).mono fun e W' ⟨he, bel⟩ => ?_
  subst he
  exact ⟨_, rfl, _, _, _, [], _, [], hW', trodAll_mk1 (shut_bool Try.underlying4 _), (trodAll_cons_mk (Below.trod laidOut (by kernel_rfl) (of_decide_eq_true (by kernel_rfl)) k0 bel lt0) (trodAll_cons_mk (shut_int Try.underlying3 w1) (trodAll_cons_mk (shut_int Try.underlying5 w2) trodAll_mk0))), rfl, bel.frame _, fun h => by cases h⟩

theorem over : Rows.fnStoredOfAllRow.holds Try.pinned (OpenSpec.ofChange Rows.fnStoredOfAllSpec) :=
  OpenClaim.holds_of_wide 4 Try.f4 rfl rfl rfl rfl rfl rfl rfl ⟨rfl, rfl, rfl, rfl, rfl⟩ rfl rfl rfl rfl rfl (by kernel_rfl) Try.func4 (by kernel_rfl)
    (of_decide_eq_true (by kernel_rfl)) (by unfold Func.isWrapper; first | (rw [if_pos (by decide +kernel)]; kernel_rfl) | (rw [if_neg (by decide +kernel)]; exact ⟨rfl, rfl⟩))
    (fun os started H enc _ => lifted os started H enc)

/-- The statement. -/
theorem proved : Rows.FnStoredOfAllSaid := over
#print axioms proved
end Go.Proofs.Ytmhepomjbaendaa.fnStoredOfAll
