
/- A map from pairs of integers to bools that a call makes and fills with true: look up and store. Conditions: none. -/
import Derived.Test.YtnpfninkopffmaaSlices
import Derived.Test.YtnpfninkopffmaaRound
namespace Go.Proofs.Ytnpfninkopffmaa
open Go.RowKit
set_option linter.unusedVariables false
set_option linter.unusedSimpArgs false

def keyV (a b : Int) : Value := .agg #[.int .i64 a, .int .i64 b]
theorem eqInt (d : Nat) (a b : Int) (w : World) : (Op.equalIn (d + 1) 2 (.int .i64 a) (.int .i64 b)).run Try.prog w = .ok (a == b) w := by
  simp [Op.equalIn, run_underlying Try.underlying2]
theorem szI (w : World) : (sizeOf 2).run Try.prog w = .ok 1 w := by kernel_rfl
theorem partI0 (a b : Int) (w : World) : (part 2 #[.int .i64 a, .int .i64 b] 0).run Try.prog w = .ok (.int .i64 a) w := by
  kernel_rfl
theorem partI1 (a b : Int) (w : World) : (part 2 #[.int .i64 a, .int .i64 b] 1).run Try.prog w = .ok (.int .i64 b) w := by
  kernel_rfl
theorem checkInt (e : Bool) (d : Nat) (a : Int) (w : World) : (Instr.checkKey e (d + 1) 2 (.int .i64 a)).run Try.prog w = .ok () w := by
  unfold Instr.checkKey
  simp [run_underlying Try.underlying2]
/-- Block m is a map that holds just the pairs ps, each with true. -/
def MapP (W : World) (m : Nat) (ps : List (Int × Int)) : Prop :=
  ∃ es c, W.heap[m]? = some (.map es c) ∧ es.toList.map (·.key) = ps.map (fun p => keyV p.1 p.2) ∧ ∀ e ∈ es.toList, e.val = .bool true

def hasP (ps : List (Int × Int)) (a b : Int) : Bool := ps.any (fun p => p.1 == a && p.2 == b)

theorem run_getMap {W : World} {m : Nat} {es : Array MapEntry} {c : Nat} (h : W.heap[m]? = some (.map es c)) : (getObj m).run Try.prog W = .ok (.map es c) W := by simp [getObj, Sem.run, h]
theorem run_setMap {W : World} {m : Nat} {es : Array MapEntry} {c : Nat} (o : Obj) (h : W.heap[m]? = some (.map es c)) : (setObj m o).run Try.prog W = .ok () (W.putObj m o) := by simp [setObj, Sem.run, h, World.putObj]

theorem findNow_arr (t : TypeId) (n : Nat) (a b : Int) (es : List MapEntry) (i : Nat) : Instr.findNow (.array n t) (keyV a b) es i = none ∨ es = [] := by
  cases es with
  | nil => exact .inr rfl
  | cons e es => left; simp [Instr.findNow, Instr.sameNow]

theorem MapP.lt {W : World} {m : Nat} {ps : List (Int × Int)} (h : MapP W m ps) : m < W.heap.size := by
  obtain ⟨es, c, hh, _⟩ := h
  exact (Array.getElem?_eq_some_iff.1 hh).1
theorem MapP.block {W W' : World} {m : Nat} {ps : List (Int × Int)} (h : MapP W m ps) (hb : W'.heap[m]? = W.heap[m]?) : MapP W' m ps := by
  obtain ⟨es, c, hh, hr⟩ := h
  exact ⟨es, c, hb.trans hh, hr⟩
theorem MapP.new (W : World) : MapP (W.alloc (.map #[] 0)) W.heap.size [] := ⟨#[], 0, World.alloc_heap_new W _, rfl, by simp⟩

theorem ownFrom_mapP {β : Type} (N m : Nat) (hm : m < N) (f : β → List (Int × Int)) : OwnFrom N (fun s W => MapP W m (f s)) :=
  fun s A B row hs hg hr => hs.block (hg.block m hs.lt (fun e => by have := (hr m e.symm).1; omega))
end Go.Proofs.Ytnpfninkopffmaa
