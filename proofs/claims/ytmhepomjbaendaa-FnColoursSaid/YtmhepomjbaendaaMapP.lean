
/- A map from pairs of integers to bools that a call makes and fills with true: look up and store. Conditions: none. -/
import Derived.Test.YtmhepomjbaendaaSlices
import Derived.Test.YtmhepomjbaendaaRound
namespace Go.Proofs.Ytmhepomjbaendaa
open Go.RowKit
set_option linter.unusedVariables false
set_option linter.unusedSimpArgs false

def keyV (a b : Int) : Value := .agg #[.int .i64 a, .int .i64 b]
theorem eqInt (d : Nat) (a b : Int) (w : World) : (Op.equalIn (d + 1) 2 (.int .i64 a) (.int .i64 b)).run Try.prog w = .ok (a == b) w := by
  simp [Op.equalIn, run_underlying Try.underlying2]
theorem szI (w : World) : (sizeOf 2).run Try.prog w = .ok 1 w := by kernel_rfl
theorem partI0 (a b : Int) (w : World) : (part 2 #[.int .i64 a, .int .i64 b] 0).run Try.prog w = .ok (.int .i64 a) w := by
  kernel_rfl
theorem partI1 (a b : Int) (w : World) : (part 2 #[.int .i64 a, .int .i64 b] 1).run Try.prog w = .ok (.int .i64 b) w := by
  kernel_rfl
theorem eqKey (a b c d : Int) (w : World) : (Op.equal 82 (keyV a b) (keyV c d)).run Try.prog w = .ok (a == c && b == d) w := by
  unfold Op.equal Op.maxDepth keyV
  rw [show (10000 : Nat) = 9998 + 1 + 1 from rfl]
  unfold Op.equalIn
  by_cases h1 : a = c
  · by_cases h2 : b = d
    · simp [run_underlying Try.underlying82, partI0, partI1, eqInt, Result.andThen, show List.range' 0 2 = [0, 1] from rfl, h1, h2, szI]
    · simp [run_underlying Try.underlying82, partI0, partI1, eqInt, Result.andThen, show List.range' 0 2 = [0, 1] from rfl, h1, h2, szI]
  · simp [run_underlying Try.underlying82, partI0, partI1, eqInt, Result.andThen, show List.range' 0 2 = [0, 1] from rfl, h1, szI]
theorem checkInt (e : Bool) (d : Nat) (a : Int) (w : World) : (Instr.checkKey e (d + 1) 2 (.int .i64 a)).run Try.prog w = .ok () w := by
  unfold Instr.checkKey
  simp [run_underlying Try.underlying2]
theorem checkK (e : Bool) (a b : Int) (w : World) : (Instr.checkKey e 10000 82 (keyV a b)).run Try.prog w = .ok () w := by
  unfold keyV
  rw [show (10000 : Nat) = 9998 + 1 + 1 from rfl]
  unfold Instr.checkKey
  simp [run_underlying Try.underlying82, partI0, partI1, Result.andThen, show List.range' 0 2 = [0, 1] from rfl, szI, checkInt]
theorem findAsk (a b : Int) (w : World) : ∀ (es : List MapEntry) (ps : List (Int × Int)) (i : Nat), es.map (·.key) = ps.map (fun p => keyV p.1 p.2) → (∀ e ∈ es, e.val = .bool true) →
    ∃ r, (Instr.findAsking 82 (keyV a b) es i).run Try.prog w = .ok r w ∧ ((ps.any (fun p => p.1 == a && p.2 == b)) = false → r = none) ∧ ((ps.any (fun p => p.1 == a && p.2 == b)) = true → ∃ j, r = some (j, .bool true)) := by
  intro es
  induction es with
  | nil => intro ps i h _; cases ps with
    | nil => exact ⟨none, by simp [Instr.findAsking], fun _ => rfl, fun h => by simp at h⟩
    | cons p ps => simp at h
  | cons e es ih =>
    intro ps i h hv
    cases ps with
    | nil => simp at h
    | cons p ps =>
      simp only [List.map_cons, List.cons.injEq] at h
      obtain ⟨h1, h2⟩ := h
      obtain ⟨r, hr, hr1, hr2⟩ := ih ps (i + 1) h2 (fun e he => hv e (List.mem_cons_of_mem _ he))
      cases hc : (p.1 == a && p.2 == b)
      · have hc' : (a == p.1 && b == p.2) = false := by rw [← hc, Bool.eq_iff_iff]; simp; constructor <;> (rintro ⟨h3, h4⟩; exact ⟨h3.symm, h4.symm⟩)
        refine ⟨r, ?_, fun h => hr1 (by simpa [hc] using h), fun h => hr2 (by simpa [hc] using h)⟩
        simp [Instr.findAsking, h1, eqKey, hc', Result.andThen, hr]
      · have hc' : (a == p.1 && b == p.2) = true := by rw [← hc, Bool.eq_iff_iff]; simp; constructor <;> (rintro ⟨h3, h4⟩; exact ⟨h3.symm, h4.symm⟩)
        refine ⟨some (i, e.val), ?_, fun h => by simp [hc] at h, fun _ => ⟨i, by rw [hv e (by simp)]⟩⟩
        simp [Instr.findAsking, h1, eqKey, hc', Result.andThen]

/-- Block m is a map that holds just the pairs ps, each with true. -/
def MapP (W : World) (m : Nat) (ps : List (Int × Int)) : Prop :=
  ∃ es c, W.heap[m]? = some (.map es c) ∧ es.toList.map (·.key) = ps.map (fun p => keyV p.1 p.2) ∧ ∀ e ∈ es.toList, e.val = .bool true

def hasP (ps : List (Int × Int)) (a b : Int) : Bool := ps.any (fun p => p.1 == a && p.2 == b)

theorem run_getMap {W : World} {m : Nat} {es : Array MapEntry} {c : Nat} (h : W.heap[m]? = some (.map es c)) : (getObj m).run Try.prog W = .ok (.map es c) W := by simp [getObj, Sem.run, h]
theorem run_setMap {W : World} {m : Nat} {es : Array MapEntry} {c : Nat} (o : Obj) (h : W.heap[m]? = some (.map es c)) : (setObj m o).run Try.prog W = .ok () (W.putObj m o) := by simp [setObj, Sem.run, h, World.putObj]

theorem findNow_arr (t : TypeId) (n : Nat) (a b : Int) (es : List MapEntry) (i : Nat) : Instr.findNow (.array n t) (keyV a b) es i = none ∨ es = [] := by
  cases es with
  | nil => exact .inr rfl
  | cons e es => left; simp [Instr.findNow, Instr.sameNow]

theorem find_run {W : World} (a b : Int) (es : List MapEntry) (ps : List (Int × Int)) (h : es.map (·.key) = ps.map (fun p => keyV p.1 p.2)) (hv : ∀ e ∈ es, e.val = .bool true) :
    ∃ r, (Instr.findKey 82 (keyV a b) es).run Try.prog W = .ok r W ∧ (hasP ps a b = false → r = none) ∧ (hasP ps a b = true → ∃ j, r = some (j, .bool true)) := by
  obtain ⟨r, hr, h1, h2⟩ := findAsk a b W es ps 0 h hv
  cases es with
  | nil =>
    refine ⟨none, ?_, fun _ => rfl, fun hh => ?_⟩
    · simp [Instr.findKey, run_underlying Try.underlying82, Result.andThen, Instr.findNow]
    · cases ps with
      | nil => simp [hasP] at hh
      | cons p ps => simp at h
  | cons e es =>
    refine ⟨r, ?_, h1, h2⟩
    simp only [Instr.findKey, Sem.run_bind, run_underlying Try.underlying82, Result.andThen_ok]
    have : Instr.findNow (.array 2 2) (keyV a b) (e :: es) 0 = none := by simp [Instr.findNow, Instr.sameNow]
    rw [this]
    exact hr

theorem MapP.look {W : World} {m : Nat} {ps : List (Int × Int)} (h : MapP W m ps) (a b : Int) : (Instr.lookup 80 (.map (some m)) (.agg #[.int .i64 a, .int .i64 b]) false).run Try.prog W = .ok (.bool (hasP ps a b)) W := by
  obtain ⟨es, c, hh, hk, hv⟩ := h
  obtain ⟨r, hr, h1, h2⟩ := find_run (W := W) a b es.toList ps hk hv
  have hz : (zeroValue 4).run Try.prog W = .ok (.bool false) W := by kernel_rfl
  have hr' : (Instr.findKey 82 (.agg #[.int .i64 a, .int .i64 b]) es.toList).run Try.prog W = .ok r W := hr
  have hck := checkK es.isEmpty a b W
  unfold keyV at hck
  cases hp : hasP ps a b
  · obtain rfl := h1 hp
    simp [Instr.lookup, run_underlying Try.underlying80, Result.andThen, run_getMap hh, hck, hr', hz]
  · obtain ⟨j, rfl⟩ := h2 hp
    simp [Instr.lookup, run_underlying Try.underlying80, Result.andThen, run_getMap hh, hck, hr']

theorem MapP.lt {W : World} {m : Nat} {ps : List (Int × Int)} (h : MapP W m ps) : m < W.heap.size := by
  obtain ⟨es, c, hh, _⟩ := h
  exact (Array.getElem?_eq_some_iff.1 hh).1
theorem MapP.block {W W' : World} {m : Nat} {ps : List (Int × Int)} (h : MapP W m ps) (hb : W'.heap[m]? = W.heap[m]?) : MapP W' m ps := by
  obtain ⟨es, c, hh, hr⟩ := h
  exact ⟨es, c, hb.trans hh, hr⟩
theorem MapP.new (W : World) : MapP (W.alloc (.map #[] 0)) W.heap.size [] := ⟨#[], 0, World.alloc_heap_new W _, rfl, by simp⟩

/-- A new pair is stored. -/
theorem MapP.store {W : World} {m : Nat} {ps : List (Int × Int)} (h : MapP W m ps) (a b : Int) (hn : hasP ps a b = false) :
    ∃ o, (Instr.mapUpdate 80 (.map (some m)) (.agg #[.int .i64 a, .int .i64 b]) (.bool true)).run Try.prog W = .ok () (W.putObj m o) ∧ MapP (W.putObj m o) m (ps ++ [(a, b)]) := by
  obtain ⟨es, c, hh, hk, hv⟩ := h
  obtain ⟨r, hr, h1, h2⟩ := find_run (W := W) a b es.toList ps hk hv
  obtain rfl := h1 hn
  have hr' : (Instr.findKey 82 (.agg #[.int .i64 a, .int .i64 b]) es.toList).run Try.prog W = .ok none W := hr
  have hck := checkK false a b W
  unfold keyV at hck
  refine ⟨.map (es.push { key := .agg #[.int .i64 a, .int .i64 b], val := .bool true, born := c }) (c + 1), ?_, _, _, World.putObj_heap_same (Array.getElem?_eq_some_iff.1 hh).1, ?_, ?_⟩
  · simp [Instr.mapUpdate, run_underlying Try.underlying80, Result.andThen, run_getMap hh, hck, hr', run_setMap _ hh]
  · simp [hk, keyV]
  · intro e he
    simp only [Array.toList_push, List.mem_append, List.mem_singleton] at he
    rcases he with h | rfl
    · exact hv e h
    · rfl

theorem ownFrom_mapP {β : Type} (N m : Nat) (hm : m < N) (f : β → List (Int × Int)) : OwnFrom N (fun s W => MapP W m (f s)) :=
  fun s A B row hs hg hr => hs.block (hg.block m hs.lt (fun e => by have := (hr m e.symm).1; omega))
end Go.Proofs.Ytmhepomjbaendaa
