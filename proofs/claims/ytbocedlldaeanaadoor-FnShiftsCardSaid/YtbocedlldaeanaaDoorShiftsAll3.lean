/- The words as texts, and a slice of texts that grows. Conditions: none. With texts that it needs. -/
import Derived.Test.YtbocedlldaeanaaDoorShiftsAll2
import Derived.Test.YtbocedlldaeanaaDoorShiftsAll1
import Derived.Maps.Own
import Derived.Laws.StructEq
namespace Go.Proofs.YtbocedlldaeanaaDoor
open Go.RowKit
set_option linter.unusedVariables false
set_option linter.unusedSimpArgs false

def stV (s : ShS) : Value := .agg #[.int .i64 s.slot, .int .i64 s.worked, .int .i64 s.row, .int .i64 s.pause, .bool s.begun]
def shV (r : ShR) : Value := .agg #[.int .i64 r.slots, .int .i64 r.least, .int .i64 r.most, .int .i64 r.row, .int .i64 r.pause]
/-- A state with small numbers. -/
def ShS.Sm (s : ShS) : Prop := (0 ≤ s.slot ∧ s.slot ≤ 100) ∧ (0 ≤ s.worked ∧ s.worked ≤ 100) ∧ (0 ≤ s.row ∧ s.row ≤ 100) ∧ 0 ≤ s.pause ∧ s.pause ≤ 100

set_option maxRecDepth 100000 in
set_option maxHeartbeats 4000000 in
theorem ruleNext_any (r : ShR) (s : ShS) (k : Bool) (w : World) (hs : s.Sm) :
    Calls Tryd.prog 25 #[shV r, stV s, .bool k] w fun e w' => (∃ s', e = .returned (.tuple #[stV s', .bool (nxB r s k)]) ∧ (nxB r s k = true → s' = nxS r s k)) ∧ Below w.heap.size w w' := by
  obtain ⟨⟨s1, s2⟩, ⟨s3, s4⟩, ⟨s5, s6⟩, s7, s8⟩ := hs
  obtain ⟨N, L, M, R, P⟩ := r
  obtain ⟨a, b, c, d, g⟩ := s
  dsimp only at s1 s2 s3 s4 s5 s6 s7 s8
  have w1 : IntKind.i64.wrap (a + 1) = a + 1 := IntWalk.i64_in _ (by omega)
  have w2 : IntKind.i64.wrap (b + 1) = b + 1 := IntWalk.i64_in _ (by omega)
  have w3 : IntKind.i64.wrap (c + 1) = c + 1 := IntWalk.i64_in _ (by omega)
  have w4 : IntKind.i64.wrap (d + 1) = d + 1 := IntWalk.i64_in _ (by omega)
  clear s1 s2 s3 s4 s5 s6 s7 s8
  have HB : Hid (nxB ⟨N, L, M, R, P⟩ ⟨a, b, c, d, g⟩ k = (!(decide (a = N)) && !(k && ((g && decide (c = 0) && decide (d < P)) || decide (c = R) || decide (b = M))))) := rfl
  have HS : Hid (nxS ⟨N, L, M, R, P⟩ ⟨a, b, c, d, g⟩ k = if k then ⟨a + 1, b + 1, c + 1, 0, true⟩ else ⟨a + 1, b, 0, min (d + 1) P, g⟩) := rfl
  obtain ⟨X, hX⟩ : ∃ X, nxB ⟨N, L, M, R, P⟩ ⟨a, b, c, d, g⟩ k = X := ⟨_, rfl⟩
  obtain ⟨Y, hY⟩ : ∃ Y, nxS ⟨N, L, M, R, P⟩ ⟨a, b, c, d, g⟩ k = Y := ⟨_, rfl⟩
  rw [hX] at HB ⊢
  rw [hY] at HS ⊢
  clear hX hY
  unfold shV stV
  dsimp only
  go_enter Tryd.func25, Tryd.ntmps25
  by_cases h1 : a = N
  · have i1 : (a == N) = true := by simpa using h1
    have HX : Hid (X = false) := by show _ = _; rw [HB.out]; simp [h1]
    clear HB h1
    go_wp2
    refine bodyPost_ret (v := .tuple #[.agg #[.int .i64 a, .int .i64 b, .int .i64 c, .int .i64 d, .bool g], .bool false]) (by simp [results, Tryd.results25, go_sem]) rfl ⟨⟨⟨a, b, c, d, g⟩, by rw [HX.out], fun h => by rw [HX.out] at h; cases h⟩, ?_⟩
    (repeat' first | exact Below.refl _ _ | refine Below.setCell ?_ (by simp) _ | refine Below.alloc ?_ (by first | exact Nat.le_refl _ | (simp; done) | (simp; omega)) _)
  · have i1 : (a == N) = false := by simpa using h1
    cases k
    · have HX : Hid (X = true) := by show _ = _; rw [HB.out]; simp [h1]
      clear HB h1
      by_cases hm : P < d + 1
      · have HM : Hid (min (d + 1) P = P) := by show _ = _; omega
        rw [HM.out] at HS
        go_wp2
        refine bodyPost_ret (v := .tuple #[.agg #[.int .i64 (a + 1), .int .i64 b, .int .i64 0, .int .i64 P, .bool g], .bool true]) (by simp [results, Tryd.results25, go_sem]) rfl ⟨⟨⟨a + 1, b, 0, P, g⟩, by rw [HX.out], fun _ => by rw [HS.out]; rfl⟩, ?_⟩
        (repeat' first | exact Below.refl _ _ | refine Below.setCell ?_ (by simp) _ | refine Below.alloc ?_ (by first | exact Nat.le_refl _ | (simp; done) | (simp; omega)) _)
      · have HM : Hid (min (d + 1) P = d + 1) := by show _ = _; omega
        rw [HM.out] at HS
        go_wp2
        refine bodyPost_ret (v := .tuple #[.agg #[.int .i64 (a + 1), .int .i64 b, .int .i64 0, .int .i64 (d + 1), .bool g], .bool true]) (by simp [results, Tryd.results25, go_sem]) rfl ⟨⟨⟨a + 1, b, 0, d + 1, g⟩, by rw [HX.out], fun _ => by rw [HS.out]; rfl⟩, ?_⟩
        (repeat' first | exact Below.refl _ _ | refine Below.setCell ?_ (by simp) _ | refine Below.alloc ?_ (by first | exact Nat.le_refl _ | (simp; done) | (simp; omega)) _)
    · cases g
      · by_cases h4 : c = R
        · have i4 : (c == R) = true := by simpa using h4
          have HX : Hid (X = false) := by show _ = _; rw [HB.out]; simp [h1, h4]
          clear HB h1 h4
          go_wp2
          refine bodyPost_ret (v := .tuple #[.agg #[.int .i64 (a + 1), .int .i64 b, .int .i64 c, .int .i64 d, .bool false], .bool false]) (by simp [results, Tryd.results25, go_sem]) rfl ⟨⟨⟨a + 1, b, c, d, false⟩, by rw [HX.out], fun h => by rw [HX.out] at h; cases h⟩, ?_⟩
          (repeat' first | exact Below.refl _ _ | refine Below.setCell ?_ (by simp) _ | refine Below.alloc ?_ (by first | exact Nat.le_refl _ | (simp; done) | (simp; omega)) _)
        · have i4 : (c == R) = false := by simpa using h4
          by_cases h5 : b = M
          · have i5 : (b == M) = true := by simpa using h5
            have HX : Hid (X = false) := by show _ = _; rw [HB.out]; simp [h1, h5]
            clear HB h1 h4 h5
            go_wp2
            refine bodyPost_ret (v := .tuple #[.agg #[.int .i64 (a + 1), .int .i64 b, .int .i64 c, .int .i64 d, .bool false], .bool false]) (by simp [results, Tryd.results25, go_sem]) rfl ⟨⟨⟨a + 1, b, c, d, false⟩, by rw [HX.out], fun h => by rw [HX.out] at h; cases h⟩, ?_⟩
            (repeat' first | exact Below.refl _ _ | refine Below.setCell ?_ (by simp) _ | refine Below.alloc ?_ (by first | exact Nat.le_refl _ | (simp; done) | (simp; omega)) _)
          · have i5 : (b == M) = false := by simpa using h5
            have HX : Hid (X = true) := by show _ = _; rw [HB.out]; simp [h1, h4, h5]
            clear HB h1 h4 h5
            go_wp2
            refine bodyPost_ret (v := .tuple #[.agg #[.int .i64 (a + 1), .int .i64 (b + 1), .int .i64 (c + 1), .int .i64 0, .bool true], .bool true]) (by simp [results, Tryd.results25, go_sem]) rfl ⟨⟨⟨a + 1, b + 1, c + 1, 0, true⟩, by rw [HX.out], fun _ => by rw [HS.out]; rfl⟩, ?_⟩
            (repeat' first | exact Below.refl _ _ | refine Below.setCell ?_ (by simp) _ | refine Below.alloc ?_ (by first | exact Nat.le_refl _ | (simp; done) | (simp; omega)) _)
      · by_cases h2 : c = 0
        · subst h2
          by_cases h3 : d < P
          · have HX : Hid (X = false) := by show _ = _; rw [HB.out]; simp [h1, h3]
            clear HB h1
            go_wp2
            refine bodyPost_ret (v := .tuple #[.agg #[.int .i64 (a + 1), .int .i64 b, .int .i64 0, .int .i64 d, .bool true], .bool false]) (by simp [results, Tryd.results25, go_sem]) rfl ⟨⟨⟨a + 1, b, 0, d, true⟩, by rw [HX.out], fun h => by rw [HX.out] at h; cases h⟩, ?_⟩
            (repeat' first | exact Below.refl _ _ | refine Below.setCell ?_ (by simp) _ | refine Below.alloc ?_ (by first | exact Nat.le_refl _ | (simp; done) | (simp; omega)) _)
          · by_cases h4 : 0 = R
            · have i4 : ((0 : Int) == R) = true := by simpa using h4
              have HX : Hid (X = false) := by show _ = _; rw [HB.out]; simp [h1, h4]
              clear HB h1 h4
              go_wp2
              refine bodyPost_ret (v := .tuple #[.agg #[.int .i64 (a + 1), .int .i64 b, .int .i64 0, .int .i64 d, .bool true], .bool false]) (by simp [results, Tryd.results25, go_sem]) rfl ⟨⟨⟨a + 1, b, 0, d, true⟩, by rw [HX.out], fun h => by rw [HX.out] at h; cases h⟩, ?_⟩
              (repeat' first | exact Below.refl _ _ | refine Below.setCell ?_ (by simp) _ | refine Below.alloc ?_ (by first | exact Nat.le_refl _ | (simp; done) | (simp; omega)) _)
            · have i4 : ((0 : Int) == R) = false := by simpa using h4
              by_cases h5 : b = M
              · have i5 : (b == M) = true := by simpa using h5
                have HX : Hid (X = false) := by show _ = _; rw [HB.out]; simp [h1, h5]
                clear HB h1 h4 h5
                go_wp2
                refine bodyPost_ret (v := .tuple #[.agg #[.int .i64 (a + 1), .int .i64 b, .int .i64 0, .int .i64 d, .bool true], .bool false]) (by simp [results, Tryd.results25, go_sem]) rfl ⟨⟨⟨a + 1, b, 0, d, true⟩, by rw [HX.out], fun h => by rw [HX.out] at h; cases h⟩, ?_⟩
                (repeat' first | exact Below.refl _ _ | refine Below.setCell ?_ (by simp) _ | refine Below.alloc ?_ (by first | exact Nat.le_refl _ | (simp; done) | (simp; omega)) _)
              · have i5 : (b == M) = false := by simpa using h5
                have HX : Hid (X = true) := by show _ = _; rw [HB.out]; simp [h1, h4, h5, h3]
                clear HB h1 h4 h5
                go_wp2
                refine bodyPost_ret (v := .tuple #[.agg #[.int .i64 (a + 1), .int .i64 (b + 1), .int .i64 1, .int .i64 0, .bool true], .bool true]) (by simp [results, Tryd.results25, go_sem]) rfl ⟨⟨⟨a + 1, b + 1, 1, 0, true⟩, by rw [HX.out], fun _ => by rw [HS.out]; rfl⟩, ?_⟩
                (repeat' first | exact Below.refl _ _ | refine Below.setCell ?_ (by simp) _ | refine Below.alloc ?_ (by first | exact Nat.le_refl _ | (simp; done) | (simp; omega)) _)
        · have i2 : (c == 0) = false := by simpa using h2
          by_cases h4 : c = R
          · have i4 : (c == R) = true := by simpa using h4
            have HX : Hid (X = false) := by show _ = _; rw [HB.out]; simp [h1, h4]
            clear HB h1 h4
            go_wp2
            refine bodyPost_ret (v := .tuple #[.agg #[.int .i64 (a + 1), .int .i64 b, .int .i64 c, .int .i64 d, .bool true], .bool false]) (by simp [results, Tryd.results25, go_sem]) rfl ⟨⟨⟨a + 1, b, c, d, true⟩, by rw [HX.out], fun h => by rw [HX.out] at h; cases h⟩, ?_⟩
            (repeat' first | exact Below.refl _ _ | refine Below.setCell ?_ (by simp) _ | refine Below.alloc ?_ (by first | exact Nat.le_refl _ | (simp; done) | (simp; omega)) _)
          · have i4 : (c == R) = false := by simpa using h4
            by_cases h5 : b = M
            · have i5 : (b == M) = true := by simpa using h5
              have HX : Hid (X = false) := by show _ = _; rw [HB.out]; simp [h1, h5]
              clear HB h1 h4 h5
              go_wp2
              refine bodyPost_ret (v := .tuple #[.agg #[.int .i64 (a + 1), .int .i64 b, .int .i64 c, .int .i64 d, .bool true], .bool false]) (by simp [results, Tryd.results25, go_sem]) rfl ⟨⟨⟨a + 1, b, c, d, true⟩, by rw [HX.out], fun h => by rw [HX.out] at h; cases h⟩, ?_⟩
              (repeat' first | exact Below.refl _ _ | refine Below.setCell ?_ (by simp) _ | refine Below.alloc ?_ (by first | exact Nat.le_refl _ | (simp; done) | (simp; omega)) _)
            · have i5 : (b == M) = false := by simpa using h5
              have HX : Hid (X = true) := by show _ = _; rw [HB.out]; simp [h1, h4, h5, h2]
              clear HB h1 h4 h5
              go_wp2
              refine bodyPost_ret (v := .tuple #[.agg #[.int .i64 (a + 1), .int .i64 (b + 1), .int .i64 (c + 1), .int .i64 0, .bool true], .bool true]) (by simp [results, Tryd.results25, go_sem]) rfl ⟨⟨⟨a + 1, b + 1, c + 1, 0, true⟩, by rw [HX.out], fun _ => by rw [HS.out]; rfl⟩, ?_⟩
              (repeat' first | exact Below.refl _ _ | refine Below.setCell ?_ (by simp) _ | refine Below.alloc ?_ (by first | exact Nat.le_refl _ | (simp; done) | (simp; omega)) _)
end Go.Proofs.YtbocedlldaeanaaDoor

namespace Go.Proofs.YtbocedlldaeanaaDoor
open Go.RowKit
set_option linter.unusedVariables false
set_option linter.unusedSimpArgs false

/-- What a map knows is right. -/
def KnI (w : World) (b : Nat) (r : ShR) : Prop := ∃ es clock, w.heap[b]? = some (.map es clock) ∧ ∀ x ∈ es.toList, ∃ (s : ShS) (n : Nat), s.slot + (n : Int) = r.slots ∧ x.key = stV s ∧ x.val = .int .i64 (cntS r n s : Nat)

set_option maxRecDepth 100000 in
theorem stateEq (w : World) (s t : ShS) : ∃ B : Bool, (Op.equal 57 (stV s) (stV t)).run Tryd.prog w = .ok B w ∧ (B = true ↔ s = t) := by
  obtain ⟨a, b, c, d, g⟩ := s
  obtain ⟨a', b', c', d', g'⟩ := t
  refine ⟨a == a' && b == b' && c == c' && d == d' && g == g', ?_, ?_⟩
  · unfold Op.equal Op.maxDepth stV
    rw [run_equalIn_struct w _ _ _ _ Tryd.underlying57 (by kernel_rfl)]
    cases h1 : a == a' <;> cases h2 : b == b' <;> cases h3 : c == c' <;> cases h4 : d == d' <;> cases h5 : g == g' <;>
      simp [go_sem, Program.fieldsOf, Tryd.underlying57, Op.eqFields, h1, h2, h3, h4, h5]
  · simp [and_assoc]
theorem stV_inj {s t : ShS} (h : stV s = stV t) : s = t := by
  unfold stV at h
  injection h with h
  have h := congrArg Array.toList h
  simp at h
  exact ShS.same h.1 h.2.1 h.2.2.1 h.2.2.2.1 h.2.2.2.2
theorem chkI (w : World) (e : Bool) (n : Nat) (a : Int) : (Instr.checkKey e (n + 1) 2 (.int .i64 a)).run Tryd.prog w = .ok () w := by
  rw [Instr.checkKey]
  simp [run_underlying Tryd.underlying2]
theorem chkB (w : World) (e : Bool) (n : Nat) (a : Bool) : (Instr.checkKey e (n + 1) 4 (.bool a)).run Tryd.prog w = .ok () w := by
  rw [Instr.checkKey]
  simp [run_underlying Tryd.underlying4]
set_option maxRecDepth 100000 in
theorem stateChk' (w : World) (e : Bool) (n : Nat) (s : ShS) : (Instr.checkKey e (n + 2) 57 (stV s)).run Tryd.prog w = .ok () w := by
  unfold stV
  rw [Instr.checkKey]
  simp [run_underlying Tryd.underlying57, go_sem, chkI, chkB]
theorem stateChk (w : World) (e : Bool) (s : ShS) : (Instr.checkKey e 10000 57 (stV s)).run Tryd.prog w = .ok () w := stateChk' w e 9998 s
theorem stateSame (s : ShS) : Instr.sameBits 10000 (stV s) (stV s) = true := by
  unfold stV
  simp [Instr.sameBits]
theorem stateStays (w : World) (s : ShS) : (Instr.keyThatStays (stV s) (stV s)).run Tryd.prog w = .ok (stV s) w := by
  simp [Instr.keyThatStays, stateSame]
theorem stateFind (w : World) (r : ShR) (s : ShS) (n : Nat) (hn : s.slot + (n : Int) = r.slots) : ∀ (es : List MapEntry) (i : Nat), (∀ x ∈ es, ∃ (s : ShS) (n : Nat), s.slot + (n : Int) = r.slots ∧ x.key = stV s ∧ x.val = .int .i64 (cntS r n s : Nat)) →
    (Instr.findAsking 57 (stV s) es i).run Tryd.prog w = .ok none w ∨
    ∃ j x, (Instr.findAsking 57 (stV s) es i).run Tryd.prog w = .ok (some (i + j, .int .i64 (cntS r n s : Nat))) w ∧ es[j]? = some x ∧ x.key = stV s
  | [], i, _ => .inl (by simp [Instr.findAsking])
  | x :: es, i, h => by
    obtain ⟨t, m, h1, h2, h3⟩ := h x (by simp)
    obtain ⟨B, hB, hiff⟩ := stateEq w s t
    cases B with
    | false =>
      rcases stateFind w r s n hn es (i + 1) (fun y hy => h y (List.mem_cons_of_mem _ hy)) with h4 | ⟨j, y, h4, h5, h6⟩
      · exact .inl (by simp [Instr.findAsking, h2, hB, h4])
      · exact .inr ⟨j + 1, y, by simp [Instr.findAsking, h2, hB, h4, Nat.add_assoc, Nat.add_comm 1 j], by simpa using h5, h6⟩
    | true =>
      obtain rfl := hiff.1 rfl
      have hm : n = m := by omega
      subst hm
      exact .inr ⟨0, x, by simp [Instr.findAsking, h2, hB, h3], rfl, h2⟩
theorem stateFindKey (w : World) (s : ShS) (es : List MapEntry) : (Instr.findKey 57 (stV s) es).run Tryd.prog w = (Instr.findAsking 57 (stV s) es).run Tryd.prog w :=
  run_findKey_eq w (by rw [Tryd.underlying57]) _ _
set_option maxRecDepth 100000 in
theorem zeroInt (w : World) : (zeroValue 2).run Tryd.prog w = .ok (.int .i64 0) w := by
  simp [go_sem]

section
variable {ops : Array Oper} {rest : List Oper} {o : Oper} {a : Act} {Q : Exit → Act → World → Prop} {w : World}
set_option maxRecDepth 100000 in
theorem wpList_lookup_kn (hg : o.guard = none) (m x : Operand) (hop : o.op = Op.lookup 51 m x true) (b : Nat) (r : ShR) (s : ShS) (n : Nat) (hn : s.slot + (n : Int) = r.slots)
    (hm : a.eval m = .map (some b)) (hx : a.eval x = stV s) (hk : KnI w b r)
    (hK1 : wpList Tryd.prog ops Q rest (a.put o.dst (.tuple #[.int .i64 (cntS r n s : Nat), .bool true])) w) (hK2 : wpList Tryd.prog ops Q rest (a.put o.dst (.tuple #[.int .i64 0, .bool false])) w) :
    wpList Tryd.prog ops Q (o :: rest) a w := by
  refine wpList_plain hg fun K' hK' => ?_
  obtain ⟨es, clock, hb, hes⟩ := hk
  unfold Oper.wp
  rcases stateFind w r s n hn es.toList 0 hes with h | ⟨j, y, h, _, _⟩
  · simp [execOp, hop, hm, hx, Instr.lookup, run_underlying Tryd.underlying51, MapKept.run_getObj_map hb, stateChk, stateFindKey, h, zeroInt, Result.andThen]
    exact hK' _ _ hK2
  · simp [execOp, hop, hm, hx, Instr.lookup, run_underlying Tryd.underlying51, MapKept.run_getObj_map hb, stateChk, stateFindKey, h, Result.andThen]
    exact hK' _ _ hK1
set_option maxRecDepth 100000 in
theorem wpList_update_kn (hg : o.guard = none) (m x v : Operand) (hop : o.op = Op.mapUpdate 51 m x v) (b : Nat) (r : ShR) (s : ShS) (n : Nat) (hn : s.slot + (n : Int) = r.slots)
    (hm : a.eval m = .map (some b)) (hx : a.eval x = stV s) (hv : a.eval v = .int .i64 (cntS r n s : Nat)) (hk : KnI w b r)
    (hK : ∀ w', KnI w' b r → GrownL [b] w w' → wpList Tryd.prog ops Q rest (a.put o.dst undef) w') :
    wpList Tryd.prog ops Q (o :: rest) a w := by
  refine wpList_plain hg fun K' hK' => ?_
  obtain ⟨es, clock, hb, hes⟩ := hk
  have hlt : b < w.heap.size := (Array.getElem?_eq_some_iff.1 hb).1
  have HG : ∀ o', GrownL [b] w { w with heap := w.heap.setIfInBounds b o' } := fun o' => ⟨rfl, rfl, rfl, by simp, fun k hk hne => by
    have hne : k ≠ b := by simpa using hne
    simp [Array.getElem?_setIfInBounds, Ne.symm hne]⟩
  have HB : ∀ o', ({ w with heap := w.heap.setIfInBounds b o' } : World).heap[b]? = some o' := fun o' => by simp [hlt]
  unfold Oper.wp
  rcases stateFind w r s n hn es.toList 0 hes with h | ⟨j, y, h, hj, hy⟩
  · simp [execOp, hop, hm, hx, hv, Instr.mapUpdate, run_underlying Tryd.underlying51, MapKept.run_getObj_map hb, stateChk, stateFindKey, h, MapKept.run_setObj_map _ hb, Result.andThen]
    refine hK' _ _ (hK _ ⟨_, _, HB _, fun z hz => ?_⟩ (HG _))
    rw [Array.toList_push, List.mem_append] at hz
    rcases hz with hz | hz
    · exact hes z hz
    · rw [List.mem_singleton] at hz
      subst hz
      exact ⟨s, n, hn, rfl, rfl⟩
  · have hj' : es[j]? = some y := by simpa using hj
    rw [Nat.zero_add] at h
    simp [execOp, hop, hm, hx, hv, Instr.mapUpdate, run_underlying Tryd.underlying51, MapKept.run_getObj_map hb, stateChk, stateFindKey, h, hj', hy, stateStays, MapKept.run_setObj_map _ hb, Result.andThen]
    refine hK' _ _ (hK _ ⟨_, _, HB _, fun z hz => ?_⟩ (HG _))
    rw [Array.toList_modify] at hz
    obtain ⟨i, hi, rfl⟩ := List.mem_iff_getElem.1 hz
    rw [List.getElem_modify]
    split
    · exact ⟨s, n, hn, rfl, rfl⟩
    · exact hes _ (List.getElem_mem _)
end
theorem KnI.grown {w w' : World} {b : Nat} {r : ShR} {L : List Nat} (h : KnI w b r) (hg : GrownL L w w') (hne : b ∉ L) : KnI w' b r := by
  obtain ⟨es, clock, hb, hes⟩ := h
  exact ⟨es, clock, (hg.block b (Array.getElem?_eq_some_iff.1 hb).1 hne).trans hb, hes⟩
theorem KnI.below {w w' : World} {b B : Nat} {r : ShR} (h : KnI w b r) (hb : Below B w w') (hB : b < B) : KnI w' b r := by
  obtain ⟨es, clock, h1, hes⟩ := h
  exact ⟨es, clock, (hb.block b hB).trans h1, hes⟩
theorem KnI.lt {w : World} {b : Nat} {r : ShR} (h : KnI w b r) : b < w.heap.size := by
  obtain ⟨es, clock, h1, hes⟩ := h
  exact (Array.getElem?_eq_some_iff.1 h1).1
theorem KnI.new (w : World) (r : ShR) : KnI (w.alloc (.map #[] 0)) w.heap.size r := ⟨#[], 0, World.alloc_heap_new w _, fun x hx => by simp at hx⟩
theorem KnI.alloc {w : World} {b : Nat} {r : ShR} (h : KnI w b r) (o : Obj) : KnI (w.alloc o) b r := by
  obtain ⟨es, clock, h1, hes⟩ := h
  exact ⟨es, clock, (Below.heap_alloc _ _ _ (Array.getElem?_eq_some_iff.1 h1).1).trans h1, hes⟩
end Go.Proofs.YtbocedlldaeanaaDoor

namespace Go.Proofs.YtbocedlldaeanaaDoor
open Go.RowKit
set_option linter.unusedVariables false
set_option linter.unusedSimpArgs false

/-- A state that is reached. -/
def StI (s : ShS) : Prop := 0 ≤ s.worked ∧ s.worked ≤ s.slot ∧ 0 ≤ s.row ∧ s.row ≤ s.slot ∧ 0 ≤ s.pause ∧ s.pause ≤ s.slot
theorem StI.sm {r : ShR} {s : ShS} {n : Nat} (h : StI s) (hr : r.Ok) (hn : s.slot + (n : Int) = r.slots) : s.Sm := by
  obtain ⟨h1, h2, h3, h4, h5, h6⟩ := h
  obtain ⟨o1, o2, _⟩ := hr
  exact ⟨⟨by omega, by omega⟩, ⟨by omega, by omega⟩, ⟨by omega, by omega⟩, by omega, by omega⟩
theorem StI.nxF {r : ShR} {s : ShS} (h : StI s) (hr : r.Ok) : StI (nxF r s) := by
  obtain ⟨h1, h2, h3, h4, h5, h6⟩ := h
  obtain ⟨o1, o2, o3, o4, o5, o6, o7, o8, o9⟩ := hr
  refine ⟨?_, ?_, ?_, ?_, ?_, ?_⟩ <;> (unfold Go.Proofs.YtbocedlldaeanaaDoor.nxF; dsimp only; omega)
theorem StI.nxW {s : ShS} (h : StI s) : StI (nxW s) := by
  obtain ⟨h1, h2, h3, h4, h5, h6⟩ := h
  refine ⟨?_, ?_, ?_, ?_, ?_, ?_⟩ <;> (unfold Go.Proofs.YtbocedlldaeanaaDoor.nxW; dsimp only; omega)
theorem StI.nxS {r : ShR} {s : ShS} (h : StI s) (hr : r.Ok) (k : Bool) : StI (nxS r s k) := by
  unfold Go.Proofs.YtbocedlldaeanaaDoor.nxS
  cases k
  · exact h.nxF hr
  · exact h.nxW
theorem nxS_slot (r : ShR) (s : ShS) (k : Bool) : (nxS r s k).slot = s.slot + 1 := by cases k <;> rfl

def cV (r : ShR) (b : Nat) : Value := .agg #[.int .i64 r.slots, .int .i64 r.least, .int .i64 r.most, .int .i64 r.row, .int .i64 r.pause, .map (some b)]
/-- What stands behind the first of the two. -/
def cntTo (r : ShR) (n : Nat) (s : ShS) : Nat → Nat
  | 0 => 0
  | 1 => if nxB r s false then cntS r n (nxF r s) else 0
  | _ + 2 => cntS r (n + 1) s
theorem cntTo_one (r : ShR) (n : Nat) (s : ShS) (k : Bool) : cntTo r n s ((if k then 1 else 0) + 1) = cntTo r n s (if k then 1 else 0) + (if nxB r s k then cntS r n (nxS r s k) else 0) := by
  cases k
  · show (if nxB r s false then cntS r n (nxF r s) else 0) = 0 + _
    rw [Nat.zero_add]; rfl
  · show cntS r (n + 1) s = _
    rw [cntS]; rfl
theorem cntTo_le (r : ShR) (n : Nat) (s : ShS) (k : Nat) : cntTo r n s k ≤ 2 ^ (n + 1) := by
  have h1 := cntS_le r n (nxF r s)
  have h2 := cntS_le r (n + 1) s
  have h3 : 2 ^ (n + 1) = 2 * 2 ^ n := by rw [Nat.pow_succ]; omega
  match k with
  | 0 => show 0 ≤ _; omega
  | 1 => show (if nxB r s false then cntS r n (nxF r s) else 0) ≤ _; split <;> omega
  | _ + 2 => exact h2

def CntR (r : ShR) (n b : Nat) (s : ShS) (W0 : World) (vn vk : Value) (wr : World) : Prop :=
  ∃ k : Nat, k ≤ 2 ∧ vk = .int .i64 k ∧ vn = .int .i64 (cntTo r n s k : Nat) ∧ Hid (KnI wr b r) ∧ Hid (GrownL [b] W0 wr)
set_option maxRecDepth 100000 in
set_option maxHeartbeats 4000000 in
theorem count_any (r : ShR) (hr : r.Ok) (b : Nat) : ∀ (n : Nat) (s : ShS) (w : World), s.slot + (n : Int) = r.slots → StI s → KnI w b r →
    Calls Tryd.prog 20 #[cV r b, stV s] w fun e w' => e = .returned (.int .i64 (cntS r n s : Nat)) ∧ KnI w' b r ∧ GrownL [b] w w' := by
  have HR := Lib.hid hr
  clear hr
  intro n
  induction n with
  | zero =>
    intro s w hn hs hk
    have HK := Lib.hid hk
    have hlt := hk.lt
    have HE : Hid (cntS r 0 s = if r.least ≤ s.worked then 1 else 0) := rfl
    obtain ⟨X, hX⟩ : ∃ X, cntS r 0 s = X := ⟨_, rfl⟩
    rw [hX] at HE ⊢
    clear hX hk hs
    obtain ⟨N, L, M, R, P⟩ := r
    obtain ⟨a, bb, c, d, g⟩ := s
    unfold cV stV
    dsimp only at HE hn ⊢
    have i1 : (a == N) = true := by simp; omega
    clear hn
    go_enter Tryd.func20, Tryd.ntmps20
    by_cases h1 : L ≤ bb
    · have i2 : bb ≥ L := h1
      have HX : Hid (X = 1) := by show _ = _; rw [HE.out, if_pos h1]
      go_wp2
      go_ret
      exact ⟨by rw [HX.out]; rfl, (HK.out.alloc _).alloc _, ((GrownL.refl [b] w).alloc _).alloc _⟩
    · have i2 : ¬ bb ≥ L := h1
      have HX : Hid (X = 0) := by show _ = _; rw [HE.out, if_neg h1]
      go_wp2
      go_ret
      exact ⟨by rw [HX.out]; rfl, (HK.out.alloc _).alloc _, ((GrownL.refl [b] w).alloc _).alloc _⟩
  | succ n ih =>
    intro s w hn hs hk
    have HK := Lib.hid hk
    have hlt := hk.lt
    have h24 : n + 1 ≤ 24 := by have h1 := HR.out.2.1; have h2 := hs.1; have h3 := hs.2.1; omega
    have hpow : 2 ^ (n + 1) ≤ 2 ^ 24 := Nat.pow_le_pow_right (by decide) h24
    have HSM := Lib.hid (hs.sm HR.out hn)
    have HNX : Hid (∀ k W, Calls Tryd.prog 25 #[shV r, stV s, .bool k] W fun e w' => (∃ s', e = .returned (.tuple #[stV s', .bool (nxB r s k)]) ∧ (nxB r s k = true → s' = nxS r s k)) ∧ Below W.heap.size W w') := fun k W => ruleNext_any r s k W HSM.out
    have HIH : Hid (∀ k W, KnI W b r → Calls Tryd.prog 20 #[cV r b, stV (nxS r s k)] W fun e w' => e = .returned (.int .i64 (cntS r n (nxS r s k) : Nat)) ∧ KnI w' b r ∧ GrownL [b] W w') := fun k W hW => ih (nxS r s k) W (by rw [nxS_slot]; omega) (hs.nxS HR.out k) hW
    have HN : Hid (s.slot + ((n + 1 : Nat) : Int) = r.slots) := hn
    have HTO := Lib.hid (cntTo_one r n s)
    have HLE : Hid (∀ k, (cntTo r n s k : Int) ≤ 16777216) := fun k => by have := cntTo_le r n s k; omega
    have HLE2 : Hid (∀ k, (cntS r n (nxS r s k) : Int) ≤ 16777216) := fun k => by
      have := cntS_le r n (nxS r s k)
      have : 2 ^ n ≤ 2 ^ (n + 1) := Nat.pow_le_pow_right (by decide) (by omega)
      omega
    have HEND : Hid (cntTo r n s 2 = cntS r (n + 1) s) := rfl
    have hns : ¬ s.slot = r.slots := by omega
    have HST : Hid (stV s = .agg #[.int .i64 s.slot, .int .i64 s.worked, .int .i64 s.row, .int .i64 s.pause, .bool s.begun]) := rfl
    clear ih hs hk h24 hpow hn
    obtain ⟨N, L, M, R, P⟩ := r
    generalize hC : cntS ⟨N, L, M, R, P⟩ (n + 1) s = C at HEND ⊢
    have HC := Lib.hid hC
    clear hC
    show Calls _ _ #[.agg #[.int .i64 N, .int .i64 L, .int .i64 M, .int .i64 R, .int .i64 P, .map (some b)], .agg #[.int .i64 s.slot, .int .i64 s.worked, .int .i64 s.row, .int .i64 s.pause, .bool s.begun]] _ _
    have i1 : (s.slot == N) = false := by simpa using hns
    clear hns
    go_enter Tryd.func20, Tryd.ntmps20
    have KA : Hid (KnI ((w.alloc (.cells #[.int .i64 N, .int .i64 L, .int .i64 M, .int .i64 R, .int .i64 P, .map (some b)] 53)).alloc (.cells #[.int .i64 s.slot, .int .i64 s.worked, .int .i64 s.row, .int .i64 s.pause, .bool s.begun] 57)) b ⟨N, L, M, R, P⟩) := (HK.out.alloc _).alloc _
    go_wp2_with (at_lookup; refine wpList_lookup_kn rfl _ _ rfl b ⟨N, L, M, R, P⟩ s (n + 1) HN.out rfl rfl KA.out ?_ ?_)
    · go_ret
      exact ⟨by rw [← HC.out]; rfl, KA.out, ((GrownL.refl [b] w).alloc _).alloc _⟩
    · obtain ⟨B, hB⟩ : ∃ B, w.heap.size = B := ⟨_, rfl⟩
      obtain ⟨W0, hW0⟩ : ∃ W, ((w.alloc (.cells #[.int .i64 N, .int .i64 L, .int .i64 M, .int .i64 R, .int .i64 P, .map (some b)] 53)).alloc (.cells #[.int .i64 s.slot, .int .i64 s.worked, .int .i64 s.row, .int .i64 s.pause, .bool s.begun] 57)).alloc (.cells #[.bool false, .bool true] 4) = W := ⟨_, rfl⟩
      have K0 : Hid (KnI W0 b ⟨N, L, M, R, P⟩) := by show KnI _ _ _; rw [← hW0]; exact KA.out.alloc _
      have G0 : Hid (GrownL [b] w W0) := by show GrownL _ _ _; rw [← hW0]; exact (((GrownL.refl [b] w).alloc _).alloc _).alloc _
      have C1 : Hid (Blk W0 B 53 [.int .i64 N, .int .i64 L, .int .i64 M, .int .i64 R, .int .i64 P, .map (some b)]) := by
        show Blk _ _ _ _; rw [← hW0, ← hB]; exact ((Blk.new w _ _).alloc _).alloc _
      have C2 : Hid (Blk W0 (B + 1) 57 [.int .i64 s.slot, .int .i64 s.worked, .int .i64 s.row, .int .i64 s.pause, .bool s.begun]) := by
        show Blk _ _ _ _
        have h := (Blk.new (w.alloc (.cells #[.int .i64 N, .int .i64 L, .int .i64 M, .int .i64 R, .int .i64 P, .map (some b)] 53)) 57 [.int .i64 s.slot, .int .i64 s.worked, .int .i64 s.row, .int .i64 s.pause, .bool s.begun]).alloc (.cells #[.bool false, .bool true] 4)
        rw [← hW0, ← hB]
        simpa using h
      have C3 : Hid (Blk W0 (B + 1 + 1) 4 [.bool false, .bool true]) := by
        show Blk _ _ _ _
        have h := Blk.new ((w.alloc (.cells #[.int .i64 N, .int .i64 L, .int .i64 M, .int .i64 R, .int .i64 P, .map (some b)] 53)).alloc (.cells #[.int .i64 s.slot, .int .i64 s.worked, .int .i64 s.row, .int .i64 s.pause, .bool s.begun] 57)) 4 [.bool false, .bool true]
        rw [← hW0, ← hB]
        simpa using h
      have HB : Hid (b < B) := by show _ < _; omega
      rw [hW0]
      try simp only [hB]
      have HR0 : Hid (CntR ⟨N, L, M, R, P⟩ n b s W0 (.int .i64 0) (.int .i64 0) W0) := ⟨0, by omega, rfl, rfl, K0, GrownL.refl _ _⟩
      clear hW0 KA HK K0 hlt
      go_loopw [7, 35] (fun vn vk wr => CntR ⟨N, L, M, R, P⟩ n b s W0 vn vk wr) (fun _ vk _ => 2 - (intOf vk).toNat)
      case atStart => exact HR0.out
      case round =>
        obtain ⟨k, hk, rfl, rfl, HKN, HG⟩ := hrel
        clear HR0
        have B1 := Lib.hid (C1.out.grownL HG.out (by have := HB.out; simp; omega))
        have B2 := Lib.hid (C2.out.grownL HG.out (by have := HB.out; simp; omega))
        have d0 := B1.out.cell 0 _ rfl
        have d1 := B1.out.cell 1 _ rfl
        have d2 := B1.out.cell 2 _ rfl
        have d3 := B1.out.cell 3 _ rfl
        have d4 := B1.out.cell 4 _ rfl
        have d5 := B1.out.cell 5 _ rfl
        have e0 := B2.out.cell 0 _ rfl
        have e1 := B2.out.cell 1 _ rfl
        have e2 := B2.out.cell 2 _ rfl
        have e3 := B2.out.cell 3 _ rfl
        have e4 := B2.out.cell 4 _ rfl
        clear B1 B2
        obtain rfl | rfl | rfl : k = 0 ∨ k = 1 ∨ k = 2 := by omega
        · skip
          have HNXq := Lib.hid (HNX.out false wr)
          have HTOq := Lib.hid (HTO.out false)
          have HIHq := Lib.hid (HIH.out false)
          have l1 := HLE.out 0
          have l2 := HLE2.out false
          unfold stV shV at HNXq
          unfold stV cV at HIHq
          clear HNX HTO HIH HLE HLE2
          simp only [if_pos, if_neg, Bool.false_eq_true, ite_true, ite_false, Nat.zero_add] at HTOq
          obtain ⟨X, hX⟩ : ∃ X, nxB ⟨N, L, M, R, P⟩ s false = X := ⟨_, rfl⟩
          rw [hX] at HNXq HTOq
          clear hX
          have c3 := (C3.out.grownL HG.out (by have := HB.out; simp; omega)).cell 0 (.bool false) rfl
          go_wp2_with fail
          refine HNXq.out.mono ?_
          rintro e W3 ⟨⟨s', rfl, hs'⟩, hb3⟩
          have KN3 := Lib.hid (HKN.out.below hb3 HKN.out.lt)
          have G3 : Hid (GrownL [b] W0 W3) := HG.out.below hb3 HG.out.size
          have B1 := Lib.hid (C1.out.grownL G3.out (by have := HB.out; simp; omega))
          have B2 := Lib.hid (C2.out.grownL G3.out (by have := HB.out; simp; omega))
          clear hb3 HNXq HKN HG c3 d0 d1 d2 d3 d4 d5 e0 e1 e2 e3 e4
          have d0 := B1.out.cell 0 _ rfl
          have d1 := B1.out.cell 1 _ rfl
          have d2 := B1.out.cell 2 _ rfl
          have d3 := B1.out.cell 3 _ rfl
          have d4 := B1.out.cell 4 _ rfl
          have d5 := B1.out.cell 5 _ rfl
          have dl := B1.out.lt
          cases X with
          | false =>
            go_wp2
            go_roundw
            case rel => exact ⟨0 + 1, by omega, by go_num, by rw [HTOq.out]; rfl, KN3.out.alloc _, G3.out.alloc _⟩
            case measure => simp [intOf]
          | true =>
            have hs' := hs' rfl
            subst hs'
            have HW : Hid (IntKind.i64.wrap ((cntTo ⟨N, L, M, R, P⟩ n s 0 : Int) + (cntS ⟨N, L, M, R, P⟩ n (nxS ⟨N, L, M, R, P⟩ s false) : Int)) = (cntTo ⟨N, L, M, R, P⟩ n s (0 + 1) : Int)) := by
              show _ = _
              rw [HTOq.out, IntWalk.i64_in _ (by omega)]
              simp
            have K4 : Hid (KnI (W3.alloc (.cells #[.int .i64 (nxS ⟨N, L, M, R, P⟩ s false).slot, .int .i64 (nxS ⟨N, L, M, R, P⟩ s false).worked, .int .i64 (nxS ⟨N, L, M, R, P⟩ s false).row, .int .i64 (nxS ⟨N, L, M, R, P⟩ s false).pause, .bool (nxS ⟨N, L, M, R, P⟩ s false).begun] 57)) b ⟨N, L, M, R, P⟩) := KN3.out.alloc _
            have G4 : Hid (GrownL [b] W0 (W3.alloc (.cells #[.int .i64 (nxS ⟨N, L, M, R, P⟩ s false).slot, .int .i64 (nxS ⟨N, L, M, R, P⟩ s false).worked, .int .i64 (nxS ⟨N, L, M, R, P⟩ s false).row, .int .i64 (nxS ⟨N, L, M, R, P⟩ s false).pause, .bool (nxS ⟨N, L, M, R, P⟩ s false).begun] 57))) := G3.out.alloc _
            have HC4 := Lib.hid (HIHq.out _ K4.out)
            clear l1 l2 hs' HTOq K4 KN3
            go_wp2_with fail
            refine HC4.out.mono ?_
            rintro e W5 ⟨rfl, hk5, hg5⟩
            have w1 := HW.out
            have KN5 := Lib.hid hk5
            have G5 : Hid (GrownL [b] W0 W5) := G4.out.trans hg5
            clear hk5 hg5 HC4 HIHq G4 G3 HW
            go_wp2
            go_roundw
            case rel => exact ⟨0 + 1, by omega, by go_num, rfl, KN5.out, G5.out⟩
            case measure => simp [intOf]
        · skip
          have HNXq := Lib.hid (HNX.out true wr)
          have HTOq := Lib.hid (HTO.out true)
          have HIHq := Lib.hid (HIH.out true)
          have l1 := HLE.out 1
          have l2 := HLE2.out true
          unfold stV shV at HNXq
          unfold stV cV at HIHq
          clear HNX HTO HIH HLE HLE2
          simp only [if_pos, if_neg, Bool.false_eq_true, ite_true, ite_false, Nat.zero_add] at HTOq
          obtain ⟨X, hX⟩ : ∃ X, nxB ⟨N, L, M, R, P⟩ s true = X := ⟨_, rfl⟩
          rw [hX] at HNXq HTOq
          clear hX
          have c3 := (C3.out.grownL HG.out (by have := HB.out; simp; omega)).cell 1 (.bool true) rfl
          go_wp2_with fail
          refine HNXq.out.mono ?_
          rintro e W3 ⟨⟨s', rfl, hs'⟩, hb3⟩
          have KN3 := Lib.hid (HKN.out.below hb3 HKN.out.lt)
          have G3 : Hid (GrownL [b] W0 W3) := HG.out.below hb3 HG.out.size
          have B1 := Lib.hid (C1.out.grownL G3.out (by have := HB.out; simp; omega))
          have B2 := Lib.hid (C2.out.grownL G3.out (by have := HB.out; simp; omega))
          clear hb3 HNXq HKN HG c3 d0 d1 d2 d3 d4 d5 e0 e1 e2 e3 e4
          have d0 := B1.out.cell 0 _ rfl
          have d1 := B1.out.cell 1 _ rfl
          have d2 := B1.out.cell 2 _ rfl
          have d3 := B1.out.cell 3 _ rfl
          have d4 := B1.out.cell 4 _ rfl
          have d5 := B1.out.cell 5 _ rfl
          have dl := B1.out.lt
          cases X with
          | false =>
            go_wp2
            go_roundw
            case rel => exact ⟨1 + 1, by omega, by go_num, by rw [HTOq.out]; rfl, KN3.out.alloc _, G3.out.alloc _⟩
            case measure => simp [intOf]
          | true =>
            have hs' := hs' rfl
            subst hs'
            have HW : Hid (IntKind.i64.wrap ((cntTo ⟨N, L, M, R, P⟩ n s 1 : Int) + (cntS ⟨N, L, M, R, P⟩ n (nxS ⟨N, L, M, R, P⟩ s true) : Int)) = (cntTo ⟨N, L, M, R, P⟩ n s (1 + 1) : Int)) := by
              show _ = _
              rw [HTOq.out, IntWalk.i64_in _ (by omega)]
              simp
            have K4 : Hid (KnI (W3.alloc (.cells #[.int .i64 (nxS ⟨N, L, M, R, P⟩ s true).slot, .int .i64 (nxS ⟨N, L, M, R, P⟩ s true).worked, .int .i64 (nxS ⟨N, L, M, R, P⟩ s true).row, .int .i64 (nxS ⟨N, L, M, R, P⟩ s true).pause, .bool (nxS ⟨N, L, M, R, P⟩ s true).begun] 57)) b ⟨N, L, M, R, P⟩) := KN3.out.alloc _
            have G4 : Hid (GrownL [b] W0 (W3.alloc (.cells #[.int .i64 (nxS ⟨N, L, M, R, P⟩ s true).slot, .int .i64 (nxS ⟨N, L, M, R, P⟩ s true).worked, .int .i64 (nxS ⟨N, L, M, R, P⟩ s true).row, .int .i64 (nxS ⟨N, L, M, R, P⟩ s true).pause, .bool (nxS ⟨N, L, M, R, P⟩ s true).begun] 57))) := G3.out.alloc _
            have HC4 := Lib.hid (HIHq.out _ K4.out)
            clear l1 l2 hs' HTOq K4 KN3
            go_wp2_with fail
            refine HC4.out.mono ?_
            rintro e W5 ⟨rfl, hk5, hg5⟩
            have w1 := HW.out
            have KN5 := Lib.hid hk5
            have G5 : Hid (GrownL [b] W0 W5) := G4.out.trans hg5
            clear hk5 hg5 HC4 HIHq G4 G3 HW
            go_wp2
            go_roundw
            case rel => exact ⟨1 + 1, by omega, by go_num, rfl, KN5.out, G5.out⟩
            case measure => simp [intOf]
        · clear HNX HTO HIH HLE HLE2
          rw [HEND.out]
          have HEV : Hid (stV s = .agg #[.int .i64 s.slot, .int .i64 s.worked, .int .i64 s.row, .int .i64 s.pause, .bool s.begun]) := rfl
          go_wp2_with (at_mapUpdate; refine wpList_update_kn rfl _ _ _ rfl b ⟨N, L, M, R, P⟩ s (n + 1) HN.out rfl rfl (by rw [HC.out]; rfl) HKN.out ?_; intro w6 hk6 hg6; have HK6 := Lib.hid hk6; have HG6 := Lib.hid hg6; clear hk6 hg6)
          go_ret
          exact ⟨rfl, HK6.out, (G0.out.trans HG.out).trans HG6.out⟩
end Go.Proofs.YtbocedlldaeanaaDoor

namespace Go.Proofs.YtbocedlldaeanaaDoor
open Go.RowKit
set_option linter.unusedVariables false
set_option linter.unusedSimpArgs false

theorem info_str : (Tryd.prog.info? 9).map (fun i => (i.zero, i.size, i.bytes)) = some (some (.string ByteArray.empty), 1, 16) := by kernel_rfl
/-- v is a slice of the call's own (in a block from B on, or nil), and it holds the texts xs. -/
def OwnT (w : World) (B : Nat) (v : Value) (xs : List ByteArray) : Prop := w.ownsRow B 9 1 v xs.length (xs.map Value.string)

theorem OwnT.alloc {w : World} {B : Nat} {v : Value} {xs : List ByteArray} (h : OwnT w B v xs) (o : Obj) : OwnT (w.alloc o) B v xs := World.ownsRow.alloc h o
theorem OwnT.kept {w w' : World} {B : Nat} {v : Value} {xs : List ByteArray} {row : Option Nat} (h : OwnT w B v xs) (hg : w.grownBy w' row) (hne : v.ownBlock = none ∨ v.ownBlock ≠ row) : OwnT w' B v xs := World.ownsRow.kept h hg hne
theorem OwnT.lt {w : World} {B : Nat} {v : Value} {xs : List ByteArray} (h : OwnT w B v xs) : ∀ k, v.ownBlock = some k → B ≤ k ∧ k < w.heap.size := World.ownsRow.lt h
theorem OwnT.below {w w' : World} {B N : Nat} {v : Value} {xs : List ByteArray} (h : OwnT w B v xs) (hb : Below N w w') (hN : w.heap.size ≤ N) : OwnT w' B v xs := by
  refine h.kept (row := none) ⟨hb.os, hb.tape, hb.output, hb.size, fun k hk _ => hb.block k (by omega)⟩ ?_
  cases v.ownBlock <;> simp
theorem OwnT.drewN {w : World} {B : Nat} {v : Value} {xs : List ByteArray} (h : OwnT w B v xs) (q : Nat) : OwnT (w.drewN q) B v xs := h.below (below_drewN q (Below.refl w.heap.size w)) (Nat.le_refl _)
theorem OwnT.mono {w : World} {B B' : Nat} {v : Value} {xs : List ByteArray} (h : OwnT w B v xs) (hB : B' ≤ B) : OwnT w B' v xs := by
  refine ⟨h.1, ?_⟩
  rcases h.2 with h2 | ⟨g, cap, cur, hv, hg, r⟩
  · exact .inl h2
  · exact .inr ⟨g, cap, cur, hv, by omega, r⟩
theorem OwnT.setCell {w : World} {B : Nat} {v : Value} {xs : List ByteArray} (h : OwnT w B v xs) {p : Addr} (u : Value) (hne : v.ownBlock ≠ some p.block) : OwnT (w.setCell p u) B v xs :=
  h.kept (row := some p.block) ⟨rfl, rfl, rfl, by simp [World.setCell], fun k hk hk' => Below.heap_setCell _ _ _ _ (fun e => hk' (by rw [e]))⟩ (.inr hne)

/-- A slice literal. -/
theorem OwnT.lit (w : World) (B : Nat) (xs : List ByteArray) (hB : B ≤ w.heap.size) (hx : xs.length ≤ maxLen) : OwnT (w.alloc (.cells (xs.map Value.string).toArray 9)) B (.slice (some ⟨w.heap.size, 0, none⟩) xs.length xs.length) xs := by
  have := World.ownsRow_lit (e := 9) (size := 1) w (xs.map Value.string).toArray xs.length hB hx (by simp)
  simpa [OwnT] using this

/-- What is known behind an append of at least one element. -/
theorem app_shapeT {W w' : World} {B : Nat} {v v' : Value} {xs ys : List ByteArray} {t : TypeId} (hy : 0 < ys.length) (hown : OwnT W B v xs)
    (h1 : w'.ownsRow B 9 1 v' (xs.length + ys.length) (xs.map Value.string ++ ys.map Value.string)) (h2 : (W.alloc (.cells (ys.map Value.string).toArray t)).grownBy w' v.ownBlock) :
    ∃ g c, v' = .slice (some ⟨g, 0, none⟩) (xs.length + ys.length) c ∧ OwnT w' B (.slice (some ⟨g, 0, none⟩) (xs.length + ys.length) c) (xs ++ ys) ∧ W.grownBy w' v.ownBlock := by
  have hg : W.grownBy w' v.ownBlock := ⟨h2.os, h2.tape, h2.output, Nat.le_trans (by simp) h2.size, fun k hk hne => (h2.block k (by simp; omega) hne).trans (Below.heap_alloc _ _ _ hk)⟩
  have h1' : OwnT w' B v' (xs ++ ys) := by unfold OwnT; simpa using h1
  rcases h1.2 with ⟨_, h0⟩ | ⟨g, cap, cur, rfl, _⟩
  · omega
  · exact ⟨g, cap, rfl, h1', hg⟩

theorem append_t {ops : Array Oper} {rest : List Oper} {o : Oper} {a : Act} {Q : Exit → Act → World → Prop} {W : World} (hgd : o.guard = none) (s x : Operand)
    (ho : o.op = .call { callee := .builtin .append, args := #[s, x], argTypes := #[29, 29] }) (B : Nat) (v : Value) (xs ys : List ByteArray) (hy : 0 < ys.length)
    (hs : a.eval s = v) (c : Nat) (hx : a.eval x = .slice (some ⟨W.heap.size, 0, none⟩) ys.length c) (hown : OwnT W B v xs) (hB : B ≤ W.heap.size) (hsmall : xs.length + ys.length ≤ 1099511627776)
    (hK : ∀ g c w', OwnT w' B (.slice (some ⟨g, 0, none⟩) (xs.length + ys.length) c) (xs ++ ys) → W.grownBy w' v.ownBlock → wpList Tryd.prog ops Q rest (a.put o.dst (.slice (some ⟨g, 0, none⟩) (xs.length + ys.length) c)) w') :
    wpList Tryd.prog ops Q (o :: rest) a (W.alloc (.cells (ys.map Value.string).toArray 9)) := by
  obtain ⟨i0, hi, hz0, hz1, hz2⟩ := info_parts info_str
  refine wpList_append_own _ hgd s x 29 ho B 9 i0 (.string ByteArray.empty) 1 16 Tryd.underlying29 hi hz0 hz1 hz2 rfl (by decide) v xs.length _ hs (World.ownsRow.alloc hown _) ⟨W.heap.size, 0, none⟩ ys.length c (ys.map Value.string) hx (by simp) (cells_lit W _ _) ?_ (by unfold maxLen; omega) (by omega) (by simp; omega) ?_
  · intro u hu; obtain ⟨y, _, rfl⟩ := List.mem_map.1 hu; rfl
  · intro v' w' h1 h2 _
    obtain ⟨g, c', rfl, h3, h4⟩ := app_shapeT hy hown h1 h2
    exact hK g c' w' h3 h4


theorem append_tN {ops : Array Oper} {rest : List Oper} {o : Oper} {a : Act} {Q : Exit → Act → World → Prop} {W : World} (hgd : o.guard = none) (s x : Operand)
    (ho : o.op = .call { callee := .builtin .append, args := #[s, x], argTypes := #[29, 29] }) (B : Nat) (v : Value) (xs ys : List ByteArray) (hy : 0 < ys.length)
    (hs : a.eval s = v) (c : Nat) (hx : a.eval x = .slice (some ⟨W.heap.size, 0, none⟩) ys.length c) (hown : OwnT W B v xs) (hB : B ≤ W.heap.size) (hsmall : xs.length + ys.length ≤ 1099511627776)
    (hK : ∀ g c n w', Hid (n = (xs ++ ys).length) → OwnT w' B (.slice (some ⟨g, 0, none⟩) n c) (xs ++ ys) → W.grownBy w' v.ownBlock → wpList Tryd.prog ops Q rest (a.put o.dst (.slice (some ⟨g, 0, none⟩) n c)) w') :
    wpList Tryd.prog ops Q (o :: rest) a (W.alloc (.cells (ys.map Value.string).toArray 9)) :=
  append_t hgd s x ho B v xs ys hy hs c hx hown hB hsmall fun g c w' h1 h2 => by
    have := hK g c _ w' rfl (by rw [List.length_append]; exact h1) h2
    rwa [List.length_append] at this
end Go.Proofs.YtbocedlldaeanaaDoor

namespace Go.Proofs.YtbocedlldaeanaaDoor
open Go.RowKit
set_option linter.unusedVariables false
set_option linter.unusedSimpArgs false

/-- 'append(s, y, ..)' of texts; the new slice lies in the old block or in a new one. -/
theorem append_tL {ops : Array Oper} {rest : List Oper} {o : Oper} {a : Act} {Q : Exit → Act → World → Prop} {W : World} (hgd : o.guard = none) (s x : Operand)
    (ho : o.op = .call { callee := .builtin .append, args := #[s, x], argTypes := #[29, 29] }) (B : Nat) (v : Value) (xs ys : List ByteArray) (hy : 0 < ys.length)
    (hs : a.eval s = v) (c : Nat) (hx : a.eval x = .slice (some ⟨W.heap.size, 0, none⟩) ys.length c) (hown : OwnT W B v xs) (hB : B ≤ W.heap.size) (hsmall : xs.length + ys.length ≤ 1099511627776)
    (hK : ∀ g c w', OwnT w' B (.slice (some ⟨g, 0, none⟩) (xs.length + ys.length) c) (xs ++ ys) → W.grownBy w' v.ownBlock → (v.ownBlock = some g ∨ W.heap.size ≤ g) → wpList Tryd.prog ops Q rest (a.put o.dst (.slice (some ⟨g, 0, none⟩) (xs.length + ys.length) c)) w') :
    wpList Tryd.prog ops Q (o :: rest) a (W.alloc (.cells (ys.map Value.string).toArray 9)) := by
  obtain ⟨i0, hi, hz0, hz1, hz2⟩ := info_parts info_str
  refine wpList_append_lies _ hgd s x 29 ho B 9 i0 (.string ByteArray.empty) 1 16 Tryd.underlying29 hi hz0 hz1 hz2 rfl (by decide) v xs.length _ hs (World.ownsRow.alloc hown _) ⟨W.heap.size, 0, none⟩ ys.length c (ys.map Value.string) hx (by simp) (cells_lit W _ _) ?_ hy (by unfold maxLen; omega) (by omega) (by simp; omega) (W.heap.size + 1) (by simp) ?_
  · intro u hu; obtain ⟨y, _, rfl⟩ := List.mem_map.1 hu; rfl
  · intro g cap w' h1 h2 h5 _
    obtain ⟨g', c', he, h3, h4⟩ := app_shapeT hy hown h1 h2
    obtain ⟨rfl, rfl⟩ : g = g' ∧ cap = c' := by simpa using he
    exact hK g cap w' h3 h4 (h5.imp id (fun e => by omega))

/-- The words behind a text, as texts. -/
def lsW (r : ShR) (n : Nat) (s : ShS) (t : ByteArray) : List ByteArray := (wsS r n s).map fun u => t ++ ⟨u.toArray⟩
theorem lsW_len (r : ShR) (n : Nat) (s : ShS) (t : ByteArray) : (lsW r n s t).length = cntS r n s := by unfold lsW; rw [List.length_map, wsS_len]
theorem app_nilB (t : ByteArray) : t ++ (⟨#[]⟩ : ByteArray) = t := ByteArray.append_empty
theorem app_consB (t : ByteArray) (c : UInt8) (u : List UInt8) : t ++ (⟨(c :: u).toArray⟩ : ByteArray) = (t ++ (⟨#[c]⟩ : ByteArray)) ++ ⟨u.toArray⟩ := by
  rw [ByteArray.append_assoc]
  congr 1
theorem lsW_zero (r : ShR) (s : ShS) (t : ByteArray) : lsW r 0 s t = if r.least ≤ s.worked then [t] else [] := by
  unfold lsW wsS
  split
  · simp only [List.map_cons, List.map_nil]
    rw [show (([] : List UInt8).toArray) = #[] from rfl, app_nilB]
  · rfl
theorem lsW_succ (r : ShR) (n : Nat) (s : ShS) (t : ByteArray) : lsW r (n + 1) s t = (if nxB r s false then lsW r n (nxF r s) (t ++ ⟨#[46]⟩) else []) ++ (if nxB r s true then lsW r n (nxW s) (t ++ ⟨#[119]⟩) else []) := by
  unfold lsW
  rw [wsS, List.map_append]
  congr 1
  · split
    · rw [List.map_map]; exact List.map_congr_left fun u _ => app_consB t 46 u
    · rfl
  · split
    · rw [List.map_map]; exact List.map_congr_left fun u _ => app_consB t 119 u
    · rfl
/-- As many as there is room for. -/
def fitT (m : Nat) (xs ys : List ByteArray) : List ByteArray := xs ++ ys.take (m - xs.length)
theorem fitT_len {m : Nat} {xs ys : List ByteArray} (h : xs.length ≤ m) : (fitT m xs ys).length ≤ m := by
  unfold fitT
  rw [List.length_append, List.length_take]; omega
theorem fitT_nil (m : Nat) (xs : List ByteArray) : fitT m xs [] = xs := by unfold fitT; simp
theorem fitT_full {m : Nat} {xs : List ByteArray} (ys : List ByteArray) (h : xs.length = m) : fitT m xs ys = xs := by unfold fitT; simp [h]
theorem fitT_app {m : Nat} {xs : List ByteArray} (ys zs : List ByteArray) (h : xs.length ≤ m) : fitT m (fitT m xs ys) zs = fitT m xs (ys ++ zs) := by
  unfold fitT
  rw [List.append_assoc, List.take_append, List.length_append, List.length_take]
  congr 2
  by_cases h1 : m - xs.length ≤ ys.length
  · rw [show m - (xs.length + min (m - xs.length) ys.length) = 0 by omega, show m - xs.length - ys.length = 0 by omega]
  · rw [show m - (xs.length + min (m - xs.length) ys.length) = m - xs.length - ys.length by omega]
theorem fitT_one {m : Nat} {xs : List ByteArray} (t : ByteArray) (h : xs.length < m) : fitT m xs [t] = xs ++ [t] := by
  unfold fitT
  rw [List.take_of_length_le (by simp; omega)]
/-- What stands behind the first of the two. -/
def lsTo (r : ShR) (n : Nat) (s : ShS) (t : ByteArray) (m : Nat) (xs : List ByteArray) : Nat → List ByteArray
  | 0 => xs
  | 1 => fitT m xs (if nxB r s false then lsW r n (nxF r s) (t ++ ⟨#[46]⟩) else [])
  | _ + 2 => fitT m xs (lsW r (n + 1) s t)
def chB (k : Bool) : ByteArray := if k then ⟨#[119]⟩ else ⟨#[46]⟩
theorem lsTo_one (r : ShR) (n : Nat) (s : ShS) (t : ByteArray) {m : Nat} {xs : List ByteArray} (h : xs.length ≤ m) (k : Bool) :
    lsTo r n s t m xs ((if k then 1 else 0) + 1) = (if nxB r s k then fitT m (lsTo r n s t m xs (if k then 1 else 0)) (lsW r n (nxS r s k) (t ++ chB k)) else lsTo r n s t m xs (if k then 1 else 0)) := by
  cases k
  · show fitT m xs (if nxB r s false then lsW r n (nxF r s) (t ++ ⟨#[46]⟩) else []) = (if nxB r s false then fitT m xs (lsW r n (nxF r s) (t ++ ⟨#[46]⟩)) else xs)
    split
    · rfl
    · exact fitT_nil m xs
  · show fitT m xs (lsW r (n + 1) s t) = (if nxB r s true then fitT m (fitT m xs (if nxB r s false then lsW r n (nxF r s) (t ++ ⟨#[46]⟩) else [])) (lsW r n (nxW s) (t ++ ⟨#[119]⟩)) else fitT m xs (if nxB r s false then lsW r n (nxF r s) (t ++ ⟨#[46]⟩) else []))
    rw [lsW_succ]
    generalize (if nxB r s false then lsW r n (nxF r s) (t ++ ⟨#[46]⟩) else []) = A
    by_cases h1 : nxB r s true = true
    · rw [if_pos h1, if_pos h1, fitT_app _ _ h]
    · rw [if_neg h1, if_neg h1, List.append_nil]
theorem lsTo_len (r : ShR) (n : Nat) (s : ShS) (t : ByteArray) {m : Nat} {xs : List ByteArray} (h : xs.length ≤ m) (k : Nat) : (lsTo r n s t m xs k).length ≤ m := by
  match k with
  | 0 => exact h
  | 1 => exact fitT_len h
  | _ + 2 => exact fitT_len h
end Go.Proofs.YtbocedlldaeanaaDoor
