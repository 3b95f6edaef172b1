
/- impl.FreeTime. Conditions: none. -/
import Derived.Test.YtnpfninkopffmaaFreeSpec
import Derived.Test.YtnpfninkopffmaaGrownL
namespace Go.Proofs.Ytnpfninkopffmaa
open Go.RowKit Go.Shelf
set_option linter.unusedVariables false
set_option linter.unusedSimpArgs false
attribute [local go_sem] Oper.semAt_some

theorem boxed_drewF {W : World} {b : Nat} {t : TypeId} {v : Value} (h : Boxed W b t v) (q : Nat) : Boxed (W.drewN q) b t v := h
theorem boxed_blwF {W W' : World} {b N : Nat} {t : TypeId} {v : Value} (h : Boxed W b t v) (hb : Below N W W') (hN : b < N) : Boxed W' b t v := (hb.block b hN).trans h
/-- The mark that a loop over a function leaves. -/
def markD (D : Nat) : Deferred := { target := .collected D, args := #[] }
/-- All marks' blocks are open, and no two are one. -/
structure OpenD (N : Nat) (Ds : List Nat) (W : World) : Prop where
  open_ : ∀ D ∈ Ds, N ≤ D ∧ W.heap[D]? = some (.deferred (some []))
  nodup : Ds.Pairwise fun x y => x ≠ y
theorem OpenD.nil (N : Nat) (W : World) : OpenD N [] W := ⟨fun D h => (by cases h), List.Pairwise.nil⟩
theorem OpenD.grownL {N : Nat} {Ds : List Nat} {gs : List Nat} {A W : World} (h : OpenD N Ds A) (hg : GrownL gs A W) (hn : ∀ D ∈ Ds, D ∉ gs) : OpenD N Ds W :=
  ⟨fun D hD => ⟨(h.open_ D hD).1, (hg.block D (Array.getElem?_eq_some_iff.1 (h.open_ D hD).2).1 (hn D hD)).trans (h.open_ D hD).2⟩, h.nodup⟩
theorem OpenD.cons {N D : Nat} {Ds : List Nat} {A W : World} (h : OpenD N Ds W) (hA : OpenD N Ds A) (hD : A.heap.size ≤ D) (hN : N ≤ D) (hK : W.heap[D]? = some (.deferred (some []))) : OpenD N (D :: Ds) W :=
  ⟨fun x hx => by
    rcases List.mem_cons.1 hx with rfl | hx
    · exact ⟨hN, hK⟩
    · exact h.open_ x hx, List.pairwise_cons.2 ⟨fun x hx e => by
      have := (Array.getElem?_eq_some_iff.1 (hA.open_ x hx).2).1
      omega, h.nodup⟩⟩
/-- A cell's block is no mark's. -/
theorem OpenD.not_boxed {N : Nat} {Ds : List Nat} {W : World} {b : Nat} {t : TypeId} {v : Value} (h : OpenD N Ds W) (hb : Boxed W b t v) : b ∉ Ds := fun hm => by
  have h1 := (h.open_ b hm).2
  rw [show W.heap[b]? = some (.cells #[v] t (0, 0)) from hb] at h1
  cases h1
/-- The end of a function that holds loops over iterators, each run so and so often. -/
theorem bodyM_rets {P : Program} {n : Nat} {fn : Func} {R : Ending → World → Prop} {tmps : Array Value} {v : Value} {N : Nat} (hres : ∀ W, (results fn tmps).run P W = .ok v W) :
    ∀ (Ds : List Nat) (W : World), OpenD N Ds W → (∀ W', Below N W W' → R (.returned v) W') → LeavesInM Fence.wide n P fn tmps R (Ds.map markD) .returning W
  | [], W, _, hR => ⟨v, hres W, hR W (Below.refl _ _)⟩
  | D :: Ds, W, h, hR => by
    obtain ⟨h1, h2⟩ := h.open_ D (List.mem_cons_self ..)
    have hp := List.pairwise_cons.1 h.nodup
    refine ⟨by simp, .inl ⟨D, W.putObj D (.deferred none), rfl, run_takeDeferred h2, ?_⟩⟩
    have hb : Below N W (W.putObj D (.deferred none)) := below_putObj (Below.refl _ _) h1 h2
    refine bodyM_rets hres Ds _ ⟨fun x hx => ⟨(h.open_ x (List.mem_cons_of_mem _ hx)).1, ?_⟩, hp.2⟩ (fun W' hW' => hR W' (hb.trans hW'))
    rw [World.putObj_heap_other (fun e => hp.1 x hx e.symm)]
    exact (h.open_ x (List.mem_cons_of_mem _ hx)).2

/-- The frames of the two loops. -/
def frO (s0 : Value) (f til long : Int) (bl ba : Nat) (n k : Nat) (x : Nat → Value) (bm : Nat) (u : Nat → Value) : Array Value :=
  #[s0, .int .i64 f, .int .i64 til, .int .i64 long, undef, undef, undef, .pointer (some ⟨bl, 0, none⟩), x 8, x 9, undef, x 11, .pointer (some ⟨ba, 0, none⟩), .pointer (some ⟨bm, 0, none⟩), undef, u 15, u 16, x 17, x 18, x 19, x 20, x 21, x 22, x 23, x 24, x 25, x 26, x 27, x 28, x 29, x 30, .bool false, s0, .int .i64 n, .int .i64 k, .bool false, x 36, x 37, x 38, x 39, x 40, x 41, .int .i64 f, u 43, u 44, u 45, u 46, u 47, u 48, u 49, u 50, u 51, u 52, u 53, u 54, u 55, u 56, u 57, u 58, u 59, u 60, u 61, u 62, u 63, u 64, u 65, u 66, u 67, u 68, u 69, u 70, u 71, undef, undef, undef, undef, undef, undef]
def frI (s0 : Value) (f til long : Int) (bl ba : Nat) (n k : Nat) (x : Nat → Value) (bm : Nat) (q : Nat) (u : Nat → Value) : Array Value :=
  #[s0, .int .i64 f, .int .i64 til, .int .i64 long, undef, undef, undef, .pointer (some ⟨bl, 0, none⟩), x 8, x 9, undef, x 11, .pointer (some ⟨ba, 0, none⟩), .pointer (some ⟨bm, 0, none⟩), undef, u 15, u 16, x 17, x 18, x 19, x 20, x 21, x 22, x 23, x 24, x 25, x 26, x 27, x 28, x 29, x 30, .bool false, s0, .int .i64 n, .int .i64 k, .bool false, x 36, x 37, x 38, x 39, x 40, x 41, .int .i64 f, u 43, s0, .int .i64 n, .int .i64 q, u 47, u 48, u 49, u 50, u 51, u 52, u 53, u 54, u 55, u 56, u 57, u 58, u 59, u 60, u 61, u 62, u 63, u 64, u 65, u 66, u 67, u 68, u 69, u 70, u 71, undef, undef, undef, undef, undef, undef]
/-- What is known of the time reached. -/
structure AtOk (xss : List (List Int)) (f long a : Int) : Prop where
  lo : f ≤ a
  hi : a ≤ 10000
  no : ∀ t, f ≤ t → t < a → freeAt xss long t = false
/-- The boxes: how long, the time, whether it has moved. -/
structure FreeB (bl ba bm : Nat) (long a : Int) (mv : Bool) (W : World) : Prop where
  l : Boxed W bl 2 (.int .i64 long)
  a : Boxed W ba 2 (.int .i64 a)
  m : Boxed W bm 4 (.bool mv)
/-- The rounds of the outer loop. -/
def FreeO (xss : List (List Int)) (s0 : Value) (f til long : Int) (bl ba : Nat) (n k : Nat) (x : Nat → Value) (N : Nat) (A : World) (act : Act) (wr : World) : Prop :=
  ∃ (Ds : List Nat) (a : Int) (mv : Bool) (bm : Nat) (u : Nat → Value), act = ⟨frO s0 f til long bl ba n k x bm u, Ds.map markD⟩ ∧ Hid (OpenD N Ds wr) ∧ Hid (GrownL [ba, ba + 1] A wr) ∧ Hid (FreeB bl ba bm long a mv wr) ∧ Hid (bm = ba + 1 ∨ A.heap.size ≤ bm) ∧ Hid (AtOk xss f long a) ∧ Hid (mv = false → freeAt xss long a = true)
def FreeN (xss : List (List Int)) (s0 : Value) (f til long a0 : Int) (bl ba : Nat) (n k : Nat) (x : Nat → Value) (bm : Nat) (N : Nat) (A : World) (act : Act) (wr : World) : Prop :=
  ∃ (Ds : List Nat) (a : Int) (mv : Bool) (q : Nat) (u : Nat → Value), act = ⟨frI s0 f til long bl ba n k x bm q u, Ds.map markD⟩ ∧ q ≤ n ∧ Hid (OpenD N Ds wr) ∧ Hid (GrownL [ba, ba + 1] A wr) ∧ Hid (FreeB bl ba bm long a mv wr) ∧ Hid (AtOk xss f long a) ∧ Hid ((mv = true → a0 < a) ∧ (mv = false → a = a0 ∧ ((xss.take q).all fun xs => freeRow xs long a0 (xs.length / 2)) = true))
theorem FreeN.of {xss : List (List Int)} {s0 : Value} {f til long a0 : Int} {bl ba n k : Nat} {x : Nat → Value} {bm N : Nat} {A : World} {act : Act} {wr : World} (Ds : List Nat) (a : Int) (mv : Bool) (q : Nat)
    (h : act = ⟨frI s0 f til long bl ba n k x bm q (fun i => act.tmps.getD i undef), Ds.map markD⟩) (hq : q ≤ n) (h1 : OpenD N Ds wr) (h2 : GrownL [ba, ba + 1] A wr) (h3 : FreeB bl ba bm long a mv wr) (h4 : AtOk xss f long a) (h5 : (mv = true → a0 < a) ∧ (mv = false → a = a0 ∧ ((xss.take q).all fun xs => freeRow xs long a0 (xs.length / 2)) = true)) :
    FreeN xss s0 f til long a0 bl ba n k x bm N A act wr := ⟨Ds, a, mv, q, _, h, hq, h1, h2, h3, h4, h5⟩
theorem FreeO.of {xss : List (List Int)} {s0 : Value} {f til long : Int} {bl ba n k : Nat} {x : Nat → Value} {N : Nat} {A : World} {act : Act} {wr : World} (Ds : List Nat) (a : Int) (mv : Bool) (bm : Nat)
    (h : act = ⟨frO s0 f til long bl ba n k x bm (fun i => act.tmps.getD i undef), Ds.map markD⟩) (h1 : OpenD N Ds wr) (h2 : GrownL [ba, ba + 1] A wr) (h3 : FreeB bl ba bm long a mv wr) (h4 : bm = ba + 1 ∨ A.heap.size ≤ bm) (h5 : AtOk xss f long a) (h6 : mv = false → freeAt xss long a = true) :
    FreeO xss s0 f til long bl ba n k x N A act wr := ⟨Ds, a, mv, bm, _, h, h1, h2, h3, h4, h5, h6⟩
/-- A jump over a talk that is in the way. -/
theorem AtOk.jump {xss : List (List Int)} {f long a : Int} {xs : List Int} {j : Nat} (h : AtOk xss f long a) (hx : xs ∈ xss) (hj : j < xs.length / 2) (hh : hitB long a (nth xs (2 * j)) (nth xs (2 * j + 1)) = true) (he : nth xs (2 * j + 1) ≤ 10000) :
    AtOk xss f long (nth xs (2 * j + 1)) ∧ a < nth xs (2 * j + 1) := by
  have h1 : a < nth xs (2 * j + 1) := by unfold hitB at hh; simp at hh; exact hh.2
  refine ⟨⟨by have := h.lo; omega, he, fun t t1 t2 => ?_⟩, h1⟩
  by_cases ht : t < a
  · exact h.no t t1 ht
  · exact jump_none hx hj hh (by omega) t2
/-- What is known within a row of talks. -/
structure InRow (xss : List (List Int)) (xs : List Int) (f long a0 a : Int) (mv : Bool) (done : Bool) (js : List Nat) : Prop where
  ok : AtOk xss f long a
  moved : mv = true → a0 < a
  still : mv = false → a = a0 ∧ done = true ∧ ∀ j ∈ js, hitB long a0 (nth xs (2 * j)) (nth xs (2 * j + 1)) = false
theorem ownFrom_ex {β γ : Type} {B : Nat} {g : γ → β → World → Prop} (h : ∀ a, OwnFrom B (g a)) : OwnFrom B (fun s W => ∃ a, g a s W) := fun s W W' row hs hg hr => by
  obtain ⟨a, ha⟩ := hs
  exact ⟨a, h a s W W' row ha hg hr⟩
def ptrB : Value → Nat
  | .pointer (some p) => p.block
  | _ => 0
def freeMu (ba : Nat) (act : Act) (w : World) : Nat :=
  2 * (10000 - (intOf ((w.cell? ⟨ba, 0, none⟩).getD undef)).toNat) + (match (w.cell? ⟨ptrB (act.tmps.getD 13 undef), 0, none⟩).getD undef with | .bool true => 1 | _ => 0)
theorem freeMu_eq {s0 : Value} {f til long a : Int} {bl ba n k bm : Nat} {x u : Nat → Value} {ds : List Deferred} {w : World} {mv : Bool} (h : FreeB bl ba bm long a mv w) (h0 : 0 ≤ a) :
    freeMu ba ⟨frO s0 f til long bl ba n k x bm u, ds⟩ w = 2 * (10000 - a.toNat) + (if mv then 1 else 0) := by
  unfold freeMu
  have e : (frO s0 f til long bl ba n k x bm u).getD 13 undef = .pointer (some ⟨bm, 0, none⟩) := rfl
  show 2 * (10000 - (intOf ((w.cell? ⟨ba, 0, none⟩).getD undef)).toNat) + _ = _
  rw [h.a.cell, e]
  show _ + (match (w.cell? ⟨bm, 0, none⟩).getD undef with | .bool true => 1 | _ => 0) = _
  rw [h.m.cell]
  cases mv <;> rfl

theorem freeMu_act {long a : Int} {bl ba bm : Nat} {act : Act} {w : World} {mv : Bool} (h : FreeB bl ba bm long a mv w) (e : act.tmps.getD 13 undef = .pointer (some ⟨bm, 0, none⟩)) :
    freeMu ba act w = 2 * (10000 - a.toNat) + (if mv then 1 else 0) := by
  unfold freeMu
  rw [h.a.cell, e]
  show _ + (match (w.cell? ⟨bm, 0, none⟩).getD undef with | .bool true => 1 | _ => 0) = _
  rw [h.m.cell]
  cases mv <;> rfl

set_option maxRecDepth 100000 in
set_option maxHeartbeats 4000000 in
theorem implFree_any (v : Value) (xss : List (List Int)) (f til long : Int) (w : World) (hv : MatR w v xss) :
    Calls Try.prog 13 #[v, .int .i64 f, .int .i64 til, .int .i64 long] w fun e w' => e = retF (freeR xss f til long) ∧ Below w.heap.size w w' := by
  have HNO := Lib.hid (freeR_no (xss := xss) (f := f) (til := til) (long := long))
  have HBAD := Lib.hid (fun i hi h => freeR_bad (xss := xss) (f := f) (til := til) (long := long) (i := i) hi h)
  have HMV := Lib.hid hv
  obtain ⟨a, c, rfl, hcap, hc⟩ := hv.at_
  have hm := hv.1
  unfold maxLen at hm
  have HC := Lib.hid hc
  clear hc hv
  obtain ⟨W0, hW0⟩ : ∃ W, w.alloc (.cells #[.int .i64 long] 2) = W := ⟨_, rfl⟩
  have HB0 : Hid (Below w.heap.size w W0 ∧ W0.heap.size = w.heap.size + 1) := by show Below _ _ _ ∧ _; rw [← hW0]; exact ⟨(Below.refl _ w).alloc (Nat.le_refl _) _, by simp⟩
  have hX0 : Boxed W0 w.heap.size 2 (.int .i64 long) := by rw [← hW0]; exact Boxed.new _ _ _
  have hc0 := hX0.cell
  have HX0 := Lib.hid hX0
  have HA : Hid (Calls Try.prog 56 #[.slice (some ⟨W0.heap.size, 0, none⟩) 2 2, .int .i64 0, .int .i64 10000] (W0.alloc (.cells #[.int .i64 f, .int .i64 til] 2)) fun e w' => e = .returned (.bool (win f 0 10000 && win til 0 10000)) ∧ (W0.alloc (.cells #[.int .i64 f, .int .i64 til] 2)) = w') := by
    have := areWithin_any (.slice (some ⟨W0.heap.size, 0, none⟩) 2 2) [f, til] 0 10000 (W0.alloc (.cells #[.int .i64 f, .int .i64 til] 2)) (OwnI.lit W0 W0.heap.size [f, til] (Nat.le_refl _) (by unfold maxLen; simp)).ints
    rw [show ([f, til].all fun n => win n 0 10000) = (win f 0 10000 && win til 0 10000) from by simp [List.all_cons]] at this
    exact this
  have HWI : Hid (∀ W, Calls Try.prog 57 #[.int .i64 long, .int .i64 1, .int .i64 10000] W fun e w' => e = .returned (.bool (win long 1 10000)) ∧ W = w') := fun W => within_any long 1 10000 W
  obtain ⟨W1, hW1⟩ : ∃ W, W0.alloc (.cells #[.int .i64 f, .int .i64 til] 2) = W := ⟨_, rfl⟩
  have HB1 : Hid (Below W0.heap.size W0 W1) := by show Below _ _ _; rw [← hW1]; exact (Below.refl _ W0).alloc (Nat.le_refl _) _
  rw [hW1] at HA
  have hc1 := (boxed_blwF hX0 HB1.out (by have := HB0.out.2; omega)).cell
  obtain ⟨H, hH⟩ : ∃ H, freeHead xss f til long = H := ⟨_, rfl⟩
  obtain ⟨B, hB⟩ : ∃ B, B = !H := ⟨_, rfl⟩
  have HB := Lib.hid hB
  have HH := Lib.hid hH
  clear hB hX0
  refine (callsIn_wide (n := 9)).1 ?_
  refine callsIn_of_wp_marks Try.func13 rfl trivial ?_ rfl
  simp only [Try.ntmps13, List.size_toArray, List.length_cons, List.length_nil, Nat.reduceAdd, Nat.reduceSub, Array.replicate_succ, Array.replicate_zero, List.push_toArray, List.append_toArray, List.nil_append, List.cons_append]
  refine wpIn_wide.2 ?_
  go_upto_region 1 with fail
  go_cut [31] from 17 to 31 (fun v1 wx => v1 = .bool B ∧ Hid (Below W0.heap.size W0 wx))
  case first =>
    unfold freeHead at hH
    by_cases h8 : xss.length ≤ 8
    · have hd8 : decide ((xss.length : Int) > 8) = false := by simp; omega
      rw [decide_eq_true h8] at hH
      cases z1 : (win f 0 10000 && win til 0 10000)
      · have hf : Hid (B = true) := by rw [z1] at hH; show _ = _; rw [HB.out, ← hH]; rfl
        rw [z1] at HA
        go_wp2_with (first | (go_at_call 56; refine HA.out.mono ?_; rintro e w' ⟨rfl, rfl⟩))
        go_meet
        exact ⟨by rw [hf.out], HB1.out⟩
      · rw [z1] at HA
        cases z3 : win long 1 10000
        · have hf : Hid (B = true) := by rw [z1, z3] at hH; show _ = _; rw [HB.out, ← hH]; rfl
          rw [z3] at HWI
          go_wp2_with (first | (go_at_call 56; refine HA.out.mono ?_; rintro e w' ⟨rfl, rfl⟩) | (go_at_call 57; refine (HWI.out _).mono ?_; rintro e w' ⟨rfl, rfl⟩))
          go_meet
          exact ⟨by rw [hf.out], HB1.out⟩
        · have hf : Hid (B = false) := by rw [z1, z3] at hH; show _ = _; rw [HB.out, ← hH]; rfl
          rw [z3] at HWI
          go_wp2_with (first | (go_at_call 56; refine HA.out.mono ?_; rintro e w' ⟨rfl, rfl⟩) | (go_at_call 57; refine (HWI.out _).mono ?_; rintro e w' ⟨rfl, rfl⟩))
          go_meet
          exact ⟨by rw [hf.out], HB1.out⟩
    · have hd8 : decide ((xss.length : Int) > 8) = true := by simp; omega
      have hf : Hid (B = true) := by rw [decide_eq_false h8] at hH; show _ = _; rw [HB.out, ← hH]; rfl
      go_wp2
      go_meet
      exact ⟨by rw [hf.out], Below.refl _ _⟩
  case rest =>
  obtain ⟨rfl, hbc⟩ := hcut
  have HBW : Hid (Below w.heap.size w wc ∧ Boxed wc w.heap.size 2 (.int .i64 long)) := ⟨HB0.out.1.trans (hbc.out.mono (by have := HB0.out.2; omega)), boxed_blwF HX0.out hbc.out (by have := HB0.out.2; omega)⟩
  clear hbc hc0 hc1 HA HWI HB1 HX0 HB0 hW0 hW1
  cases B with
  | true =>
    have hr : Hid (freeR xss f til long = none) := HNO.out (by have := HB.out; have h2 := HH.out; rw [h2]; simpa using this)
    go_wp2
    refine bodyM_rets (v := .tuple #[.int .i64 0, .bool false]) (N := w.heap.size) (fun W => by simp [results, Try.results13, go_sem]) [] wc (OpenD.nil _ _) (fun W' hW' => ⟨by rw [hr.out]; rfl, HBW.out.1.trans hW'⟩)
  | false =>
    have hHt : Hid (freeHead xss f til long = true) := by have := HB.out; have h2 := HH.out; show _ = _; rw [h2]; simpa using this
    clear HNO HB HH hH
    have h8 : xss.length ≤ 8 := by
      have h := hHt.out
      unfold freeHead at h
      simp only [Bool.and_eq_true, decide_eq_true_eq] at h
      exact h.1.1
    have hf : 0 ≤ f ∧ f ≤ 10000 ∧ 0 ≤ til ∧ til ≤ 10000 ∧ 1 ≤ long ∧ long ≤ 10000 := by
      have h := hHt.out
      unfold freeHead at h
      simp only [Bool.and_eq_true] at h
      have h1 := win_true.1 h.1.2.1
      have h2 := win_true.1 h.1.2.2
      have h3 := win_true.1 h.2
      exact ⟨h1.1, h1.2, h2.1, h2.2, h3.1, h3.2⟩
    obtain ⟨f0, f1, g0, g1, l0, l1⟩ := hf
    have hsz : Hid (w.heap.size < wc.heap.size) := HBW.out.2.lt
    go_wp2
    go_loopw [34] (fun vk wr => FreeT xss.length xss wc vk wr) (fun vk _ => xss.length - (intOf vk).toNat)
    case atStart => exact ⟨0, Nat.zero_le _, rfl, rfl, Below.refl _ _⟩
    case round =>
      obtain ⟨k, hk, rfl, HT, HW⟩ := hrel
      have HWW : Hid (Below w.heap.size w wr) := HBW.out.1.trans (HW.out.mono HBW.out.1.size)
      by_cases hkl : k < xss.length
      · obtain ⟨b, o, u, rfl, hbs, hr, hcell⟩ := HC.out k hkl
        have k1 : (k : Int) < (xss.length : Int) := by omega
        have k0 : (0 : Int) ≤ (k : Int) := by omega
        have ck := (HWW.out.cell (p := ⟨b, o + k, none⟩) hbs).trans hcell
        have hri := (hr.below HWW.out (Nat.le_refl _)).ints
        have HCT := Lib.hid (implTalks_any u xss[k] wr hri.1)
        obtain ⟨T, hT⟩ : ∃ T, talksOk xss[k] = T := ⟨_, rfl⟩
        rw [hT] at HCT
        have HTT := Lib.hid hT
        have HNX : Hid (T ≠ false → (xss.take (k + 1)).all talksOk = true) := fun h => by
          rw [List.take_succ_eq_append_getElem hkl, List.all_append, HT.out]; simp [hT]; simpa using h
        clear hcell hr hri hT
        cases T
        · have HR := Lib.hid (HBAD.out k hkl HTT.out)
          go_wp2_with (go_at_call 29; refine HCT.out.mono ?_; rintro e W1 ⟨rfl, hb⟩; have HB1 : Hid (Below w.heap.size w W1) := HWW.out.trans (hb.mono HWW.out.size); clear hb)
          refine bodyM_rets (v := .tuple #[.int .i64 0, .bool false]) (N := w.heap.size) (fun W => by simp [results, Try.results13, go_sem]) [] _ (OpenD.nil _ _) (fun W' hW' => ⟨by rw [HR.out]; rfl, HB1.out.trans hW'⟩)
        · go_wp2_with (go_at_call 29; refine HCT.out.mono ?_; rintro e W1 ⟨rfl, hb⟩; have HB1 : Hid (Below wc.heap.size wc W1) := HW.out.trans (hb.mono HW.out.size); clear hb)
          go_roundw
          case rel => exact ⟨k + 1, by omega, by go_num, HNX.out (by simp), HB1.out⟩
          case measure => simp [intOf]; omega
      · have k1 : ¬ (k : Int) < (xss.length : Int) := by omega
        have HALL : Hid (xss.all talksOk = true) := by
          have := HT.out
          rw [List.take_of_length_le (by omega)] at this
          exact this
        have HOK : Hid (freeOk xss f til long = true) := by
          show _ = _
          unfold freeOk
          rw [show (decide (xss.length ≤ 8) && (win f 0 10000 && win til 0 10000) && win long 1 10000) = true from hHt.out, HALL.out]; rfl
        have hcl := (boxed_blwF HBW.out.2 HW.out hsz.out).cell
        have hlt := hsz.out
        have hws := HW.out.size
        clear HBAD HT
        go_wp2
        obtain ⟨A, hA⟩ : ∃ W, (wr.alloc (.cells #[.int .i64 f] 2)).alloc (.cells #[.bool true] 4) = W := ⟨_, rfl⟩
        rw [hA]
        have HAA : Hid (Below w.heap.size w A ∧ FreeB w.heap.size wr.heap.size (wr.heap.size + 1) long f true A ∧ A.heap.size = wr.heap.size + 2) := by
          show Below _ _ _ ∧ _
          rw [← hA]
          have h1 := (boxed_blwF HBW.out.2 HW.out hsz.out)
          refine ⟨(HWW.out.alloc HWW.out.size _).alloc (by simp; have := HWW.out.size; omega) _, ⟨(h1.alloc _).alloc _, (Boxed.new _ _ _).alloc _, ?_⟩, by simp⟩
          have := Boxed.new (wr.alloc (.cells #[.int .i64 f] 2)) 4 (.bool true)
          simpa using this
        have hba : Hid (w.heap.size < wr.heap.size) := by show _ < _; omega
        clear hA HW HWW
        obtain ⟨ba, hbae⟩ : ∃ ba, wr.heap.size = ba := ⟨_, rfl⟩
        rw [hbae] at HAA hba
        simp only [hbae]
        clear hbae
        refine wp_loop (FreeO xss (.slice a xss.length c) f til long w.heap.size ba xss.length k (fun i => #[undef, undef, undef, undef, undef, undef, undef, undef, u8, u9, undef, u11, undef, undef, undef, undef, undef, u17, u18, u19, u20, u21, u22, u23, u24, u25, u26, u27, u28, u29, u30, undef, undef, undef, undef, undef, u36, u37, u38, u39, u40, u41].getD i undef) w.heap.size A) (freeMu ba) ?hstart ?hround
        case hstart => exact FreeO.of [] f true (ba + 1) rfl (OpenD.nil _ _) (GrownL.refl _ _) HAA.out.2.1 (.inl rfl) ⟨Int.le_refl _, f1, fun t h1 h2 => by omega⟩ (fun h => by cases h)
        case hround =>
          rintro act wo ⟨Ds, at_, mv, bm, u, rfl, HOD, HGO, HBO, HBM, HAT, HMV⟩
          generalize (fun i => #[undef, undef, undef, undef, undef, undef, undef, undef, u8, u9, undef, u11, undef, undef, undef, undef, undef, u17, u18, u19, u20, u21, u22, u23, u24, u25, u26, u27, u28, u29, u30, undef, undef, undef, undef, undef, u36, u37, u38, u39, u40, u41].getD i undef) = x
          have ha0 : 0 ≤ at_ := by have := HAT.out.lo; omega
          have ha1 : at_ ≤ 10000 := HAT.out.hi
          rw [freeMu_eq HBO.out ha0]
          dsimp only [frO]
          have cl := HBO.out.l.cell
          have ca := HBO.out.a.cell
          have cm := HBO.out.m.cell
          have cmf := HBO.out.m.frozen
          have HBW2 : Hid (Below w.heap.size w wo) := HGO.out.toBelow HAA.out.1 (by have := HAA.out.2.2; have := hba.out; omega) (fun i hi => by simp; have := hba.out; omega)
          cases mv with
          | false =>
            have HRES := Lib.hid (free_jump HOK.out HAT.out.lo HAT.out.hi HAT.out.no (HMV.out rfl))
            have tlw : IntKind.i64.wrap (at_ + long) = at_ + long := IntWalk.i64_in _ (by omega)
            by_cases hgt : at_ + long > til
            · have hr : Hid (freeR xss f til long = none) := by have := HRES.out; rw [if_pos hgt] at this; exact this
              clear HRES
              go_wp2
              refine bodyM_rets (v := .tuple #[.int .i64 0, .bool false]) (N := w.heap.size) (fun W => by simp [results, Try.results13, go_sem]) Ds _ HOD.out (fun W' hW' => ⟨by rw [hr.out]; rfl, HBW2.out.trans hW'⟩)
            · have hr : Hid (freeR xss f til long = some at_) := by have := HRES.out; rw [if_neg hgt] at this; exact this
              clear HRES
              go_wp2
              refine bodyM_rets (v := .tuple #[.int .i64 at_, .bool true]) (N := w.heap.size) (fun W => by simp [results, Try.results13, go_sem]) Ds _ HOD.out (fun W' hW' => ⟨by rw [hr.out]; rfl, HBW2.out.trans hW'⟩)
          | true =>
            obtain ⟨W1, hW1⟩ : ∃ W, wo.setCell ⟨bm, 0, none⟩ (.bool false) = W := ⟨_, rfl⟩
            have hne1 : w.heap.size ≠ bm := by have := HBM.out; have := hba.out; have := HAA.out.2.2; omega
            have hne2 : ba ≠ bm := by have := HBM.out; have := HAA.out.2.2; omega
            have HG1 : Hid (GrownL [ba, ba + 1] A W1) := by
              show GrownL _ _ _
              rw [← hW1]
              exact HGO.out.setCell _ _ (by rcases HBM.out with h | h; exact .inl (by simp [h]); exact .inr h)
            have HB1 : Hid (FreeB w.heap.size ba bm long at_ false W1) := by
              show FreeB _ _ _ _ _ _ _
              rw [← hW1]
              exact ⟨HBO.out.l.other hne1 _, HBO.out.a.other hne2 _, HBO.out.m.set _⟩
            have HO1 : Hid (OpenD w.heap.size Ds W1) := by
              show OpenD _ _ _
              rw [← hW1]
              exact ⟨fun D hD => ⟨(HOD.out.open_ D hD).1, kept_setCell (HOD.out.open_ D hD).2⟩, HOD.out.nodup⟩
            go_wp2
            refine wp_loop (FreeN xss (.slice a xss.length c) f til long at_ w.heap.size ba xss.length k x bm w.heap.size A) (fun act _ => xss.length - (intOf (act.tmps.getD 46 undef)).toNat) ?istart ?iround
            case istart => exact FreeN.of Ds at_ false 0 rfl (Nat.zero_le _) HO1.out HG1.out HB1.out HAT.out ⟨fun h => (by cases h), fun _ => ⟨rfl, by simp⟩⟩
            case iround =>
              rintro act wi ⟨Ds2, a2, mv2, q, u2, rfl, hq, HOD2, HG2, HBO2, HAT2, HMV2⟩
              have b0 : 0 ≤ a2 := by have := HAT2.out.lo; omega
              have b1 : a2 ≤ 10000 := HAT2.out.hi
              clear HB1 HG1 HO1 HOD HGO HBO HMV HBW2 cl ca cm cmf hW1
              dsimp only [frI]
              have HBW2 : Hid (Below w.heap.size w wi) := HG2.out.toBelow HAA.out.1 (by have := HAA.out.2.2; have := hba.out; omega) (fun i hi => by simp; have := hba.out; omega)
              by_cases hqn : q < xss.length
              · have q1 : (q : Int) < (xss.length : Int) := by omega
                have q0 : (0 : Int) ≤ (q : Int) := by omega
                obtain ⟨b, o, uu, rfl, hbs, hr, hcell⟩ := HC.out q hqn
                have cq := (HBW2.out.cell (p := ⟨b, o + q, none⟩) hbs).trans hcell
                obtain ⟨⟨hm2, ar, cr, rfl, hcap2, hcr⟩, _⟩ := hr.ints
                have HTK : Hid (talksOk xss[q] = true) := List.all_eq_true.1 HALL.out _ (List.getElem_mem hqn)
                have HMEM : Hid (xss[q] ∈ xss) := List.getElem_mem hqn
                have HTN : Hid ((xss.take (q + 1)).all (fun xs => freeRow xs long at_ (xs.length / 2)) = ((xss.take q).all (fun xs => freeRow xs long at_ (xs.length / 2)) && freeRow xss[q] long at_ (xss[q].length / 2))) := by
                  show _ = _
                  rw [List.take_succ_eq_append_getElem hqn, List.all_append]; simp
                obtain ⟨xs, hxs⟩ : ∃ xs, xss[q] = xs := ⟨_, rfl⟩
                rw [hxs] at HTK HMEM HTN hcap2 hm2 hcell cq
                have hcr' : ∀ (j : Nat) (h : j < xs.length), ∃ b o, ar = some ⟨b, o, none⟩ ∧ b < w.heap.size ∧ w.cell? ⟨b, o + j, none⟩ = some (.int .i64 xs[j]) := by subst hxs; exact hcr
                obtain ⟨br, or, har, hbr, hcs⟩ := row_at hcr'
                have hx := HTK.out
                simp only [talksOk, talksHead, Bool.and_eq_true, decide_eq_true_eq] at hx
                have hx3 := (many_true.1 hx.1.1).2.1
                have hx4 := hx.1.2
                obtain ⟨m, hm⟩ : ∃ m, xs.length = 2 * m := ⟨xs.length / 2, by omega⟩
                have HXM := Lib.hid hm
                have HPAIR : Hid (∀ j, j < m → nth xs (2 * j + 1) ≤ 10000) := fun j hj => by
                  have h1 := (many_true.1 hx.1.1).2.2
                  rw [List.all_eq_true] at h1
                  have h2 := win_true.1 (h1 _ (List.getElem_mem (show 2 * j + 1 < xs.length by omega)))
                  rw [nth_eq (by omega)]; exact h2.2
                have hx5 : xs.length ≤ 64 := by omega
                clear hx hx4 hm hcr hcr' hxs hcell hr
                go_wp2_with (first | (go_at_call 58; refine (chunk_call _ _ _ _ _ (by omega)).mono ?_; rintro e W0 ⟨rfl, hW0⟩))
                have hsz0 : W0.heap.size = wi.heap.size + 2 := hW0.size
                have hs0 : W0.cell? ⟨wi.heap.size, 0, none⟩ = some (.slice ar xs.length cr) := hW0.s
                have hn0 : W0.cell? ⟨wi.heap.size + 1, 0, none⟩ = some (.int .i64 2) := hW0.n
                have hb0 := hW0.below
                have h3 := HBO2.out
                have hBB0 : FreeB w.heap.size ba bm long a2 mv2 W0 := ⟨boxed_blwF h3.l hb0 h3.l.lt, boxed_blwF h3.a hb0 h3.a.lt, boxed_blwF h3.m hb0 h3.m.lt⟩
                have hlw : Hid (w.heap.size < wi.heap.size ∧ ba < wi.heap.size ∧ bm < wi.heap.size) := ⟨h3.l.lt, h3.a.lt, h3.m.lt⟩
                have HBW0 : Hid (Below w.heap.size w W0) := HBW2.out.trans (hb0.mono HBW2.out.size)
                have HG0 : Hid (GrownL [ba, ba + 1] A W0) := HG2.out.below hb0 HG2.out.size
                have HO0 : Hid (OpenD w.heap.size Ds2 W0) := ⟨fun D hD => ⟨(HOD2.out.open_ D hD).1, (hb0.block D (Array.getElem?_eq_some_iff.1 (HOD2.out.open_ D hD).2).1).trans (HOD2.out.open_ D hD).2⟩, HOD2.out.nodup⟩
                obtain ⟨dn, hdn⟩ : ∃ dn, ((xss.take q).all fun xs => freeRow xs long at_ (xs.length / 2)) = dn := ⟨_, rfl⟩
                have HDN := Lib.hid hdn
                have hn1 : w.heap.size ≠ bm := hne1
                have hIN0 : InRow xss xs f long at_ a2 mv2 dn [] := ⟨HAT2.out, HMV2.out.1, fun h => ⟨(HMV2.out.2 h).1, by rw [← hdn]; exact (HMV2.out.2 h).2, fun j hj => by cases hj⟩⟩
                clear hW0 hb0 h3 hdn HMV2 HAT2 HBO2 HG2 HOD2 HBW2
                refine chunk_loop (k := 9) (by omega) (Bs := wi.heap.size) (Bn := wi.heap.size + 1) rfl br or cr 2 m xs.length ar HXM.out (by omega) (by omega) har hs0 hcap2 hn0 rfl
                  (fun pre W => ∃ (am : Int × Bool), FreeB w.heap.size ba bm long am.1 am.2 W ∧ GrownL [ba, bm] W0 W ∧ InRow xss xs f long at_ am.1 am.2 dn (pre.map fun x => x.1))
                  (fun _ _ _ => False)
                  ?hI ?hIx ?h0 ?a1 ?hassign ?hbody ?hdone ?hstop
                case hassign =>
                  intro l y W K hK
                  gi_wp2
                  exact hK
                case hI =>
                  refine ownFrom_ex fun am => OwnFrom.and ?_ (OwnFrom.and (ownFrom_grownL (Nat.le_refl _)) (ownFrom_pure _ _))
                  intro s W W' row hs hg hr
                  exact ⟨ownFrom_boxed _ _ _ (fun (_ : List (Fin m)) => .int .i64 long) s W W' row hs.l hg hr, ownFrom_boxed _ _ _ (fun (_ : List (Fin m)) => .int .i64 am.1) s W W' row hs.a hg hr, ownFrom_boxed _ _ _ (fun (_ : List (Fin m)) => .bool am.2) s W W' row hs.m hg hr⟩
                case hIx => exact fun cd => ownFrom_pure _ _
                case h0 => exact ⟨(a2, mv2), hBB0, GrownL.refl _ _, hIN0⟩
                case hbody =>
                  rintro l pre y W hl hr ⟨⟨a3, mv3⟩, hB, hG, hI⟩
                  have hBw : Below w.heap.size w W := hG.toBelow HBW0.out (by have := hlw.out; omega) (fun i hi => by have := hba.out; have := HBM.out; have := HAA.out.2.2; simp; omega)
                  obtain ⟨e0, e1⟩ := pair_cells hbr hcs hBw (Nat.le_refl _) HXM.out y
                  have hcl := hB.l.cell
                  have hca := hB.a.cell
                  have hcaf := hB.a.frozen
                  have hcm := hB.m.cell
                  have hcmf := hB.m.frozen
                  have hlo := hI.ok.lo
                  have hhi := hI.ok.hi
                  have hym := y.2
                  have hym2 : y.1 < xs.length / 2 := by have := HXM.out; omega
                  have tlw : IntKind.i64.wrap (a3 + long) = a3 + long := IntWalk.i64_in _ (by simp only at hlo hhi; omega)
                  have hE9 := HPAIR.out y.1 hym
                  have HJ := Lib.hid (fun h => hI.ok.jump HMEM.out hym2 h hE9)
                  have HIN := Lib.hid hI
                  have HBB := Lib.hid hB
                  have HGG := Lib.hid hG
                  have hbmba : ba ≠ bm := hne2
                  unfold hitB at HJ
                  have HHB : Hid (hitB long a3 (nth xs (2 * y.1)) (nth xs (2 * y.1 + 1)) = (decide (nth xs (2 * y.1) < a3 + long) && decide (a3 < nth xs (2 * y.1 + 1)))) := rfl
                  obtain ⟨S, hS⟩ : ∃ S, nth xs (2 * y.1) = S := ⟨_, rfl⟩
                  obtain ⟨E, hE⟩ : ∃ E, nth xs (2 * y.1 + 1) = E := ⟨_, rfl⟩
                  have HSE : Hid (nth xs (2 * y.1) = S ∧ nth xs (2 * y.1 + 1) = E) := ⟨hS, hE⟩
                  rw [hS] at e0 HJ HHB
                  rw [hE] at e1 HJ HHB
                  unfold chunkAt
                  clear hr hs0 hn0 hcs hbr har hI hB hG hE9 hS hE hBw
                  by_cases h1 : S < a3 + long
                  · have d1 : decide (S < a3 + long) = true := by simpa using h1
                    by_cases h2 : a3 < E
                    · have d2 : decide (a3 < E) = true := by simpa using h2
                      obtain ⟨hj1, hj2⟩ := HJ.out (by rw [d1, d2]; rfl)
                      have HJ2 := Lib.hid hj1
                      have hj2' : at_ < E := by
                        cases mv3 with
                        | false => have h5 : a3 = at_ := (HIN.out.still rfl).1; omega
                        | true => have h5 : at_ < a3 := HIN.out.moved rfl; omega
                      clear HJ hj1
                      gi_wp2
                      refine round_quiet_lit (by kernel_rfl) (by kernel_rfl) (by kernel_rfl) ?_
                      repeat (gi_big_quiet_step (fail))
                      refine wpQuietIn_nil ?_
                      intro _ hw'
                      obtain ⟨nq, hw''⟩ := hw'
                      subst hw''
                      gi_wp2
                      have hbw := hlw.out
                      refine ⟨(((KeepsFrom.refl _ _).drewN _).setCell _ _).setCell _ _, (((Keep2.refl _ _ _).drewN _).setCell (by show _ ≠ ba; omega) (by show _ ≠ ba; omega) _).setCell (by show _ ≠ bm; omega) (by show _ ≠ bm; omega) _, (E, true), ⟨?_, ?_, ?_⟩, ((HGG.out.drewN _).setCell _ _ (.inl (by simp))).setCell _ _ (.inl (by simp)), ⟨HJ2.out, fun _ => hj2', fun h => by cases h⟩⟩
                      · exact (Boxed.other (boxed_drewF HBB.out.l _) (by have := hba.out; omega) _).other hne1 _
                      · exact (Boxed.set (.int .i64 E) (boxed_drewF HBB.out.a _)).other hne2 _
                      · exact Boxed.set (.bool true) (Boxed.other (boxed_drewF HBB.out.m _) (Ne.symm hne2) _)
                    · have d2 : decide (a3 < E) = false := by simpa using h2
                      have HNH : Hid (hitB long a3 (nth xs (2 * y.1)) (nth xs (2 * y.1 + 1)) = false) := by show _ = _; rw [HSE.out.1, HSE.out.2, HHB.out, d1, d2]; rfl
                      clear HJ
                      gi_wp2
                      refine round_quiet_lit (by kernel_rfl) (by kernel_rfl) (by kernel_rfl) ?_
                      repeat (gi_big_quiet_step (fail))
                      refine wpQuietIn_nil ?_
                      intro _ hw'
                      obtain ⟨nq, hw''⟩ := hw'
                      subst hw''
                      gi_wp2
                      refine ⟨(KeepsFrom.refl _ _).drewN _, (Keep2.refl _ _ _).drewN _, (a3, mv3), ⟨boxed_drewF HBB.out.l _, boxed_drewF HBB.out.a _, boxed_drewF HBB.out.m _⟩, HGG.out.drewN _, ⟨HIN.out.ok, HIN.out.moved, fun h => ⟨(HIN.out.still h).1, (HIN.out.still h).2.1, fun j hj => ?_⟩⟩⟩
                      rw [List.map_append] at hj
                      rcases List.mem_append.1 hj with hj | hj
                      · exact (HIN.out.still h).2.2 j hj
                      · obtain rfl : j = y.1 := by simpa using hj
                        have h5 : a3 = at_ := (HIN.out.still h).1
                        rw [← h5]; exact HNH.out
                  · have d1 : decide (S < a3 + long) = false := by simpa using h1
                    have HNH : Hid (hitB long a3 (nth xs (2 * y.1)) (nth xs (2 * y.1 + 1)) = false) := by show _ = _; rw [HSE.out.1, HSE.out.2, HHB.out, d1]; rfl
                    clear HJ
                    gi_wp2
                    refine round_quiet_lit (by kernel_rfl) (by kernel_rfl) (by kernel_rfl) ?_
                    repeat (gi_big_quiet_step (fail))
                    refine wpQuietIn_nil ?_
                    intro _ hw'
                    obtain ⟨nq, hw''⟩ := hw'
                    subst hw''
                    gi_wp2
                    refine ⟨(KeepsFrom.refl _ _).drewN _, (Keep2.refl _ _ _).drewN _, (a3, mv3), ⟨boxed_drewF HBB.out.l _, boxed_drewF HBB.out.a _, boxed_drewF HBB.out.m _⟩, HGG.out.drewN _, ⟨HIN.out.ok, HIN.out.moved, fun h => ⟨(HIN.out.still h).1, (HIN.out.still h).2.1, fun j hj => ?_⟩⟩⟩
                    rw [List.map_append] at hj
                    rcases List.mem_append.1 hj with hj | hj
                    · exact (HIN.out.still h).2.2 j hj
                    · obtain rfl : j = y.1 := by simpa using hj
                      have h5 : a3 = at_ := (HIN.out.still h).1
                      rw [← h5]; exact HNH.out
                case hdone =>
                  rintro D W hD ⟨⟨a3, mv3⟩, hB, hG, hI⟩ hK
                  have HRES : Hid (OpenD w.heap.size (D :: Ds2) W ∧ GrownL [ba, ba + 1] A W ∧ FreeB w.heap.size ba bm long a3 mv3 W ∧ AtOk xss f long a3 ∧ ((mv3 = true → at_ < a3) ∧ (mv3 = false → a3 = at_ ∧ ((xss.take (q + 1)).all fun xs => freeRow xs long at_ (xs.length / 2)) = true))) := by
                    have hgg : GrownL [ba, ba + 1] A W := by
                      refine ⟨hG.os.trans HG0.out.os, hG.tape.trans HG0.out.tape, hG.output.trans HG0.out.output, Nat.le_trans HG0.out.size hG.size, fun i hi hn => (hG.block i (Nat.lt_of_lt_of_le hi HG0.out.size) ?_).trans (HG0.out.block i hi hn)⟩
                      have := HBM.out
                      simp at hn ⊢
                      omega
                    have hod : OpenD w.heap.size Ds2 W := HO0.out.grownL hG (fun d hd => by
                      have n1 := HO0.out.not_boxed hBB0.a
                      have n2 := HO0.out.not_boxed hBB0.m
                      intro hm
                      rcases List.mem_cons.1 hm with rfl | hm
                      · exact n1 hd
                      · obtain rfl : d = bm := by simpa using hm
                        exact n2 hd)
                    refine ⟨hod.cons HO0.out hD (by have := HBW0.out.size; omega) hK, hgg, hB, hI.ok, hI.moved, fun h => ?_⟩
                    obtain ⟨s1, s2, s3⟩ := hI.still h
                    refine ⟨s1, ?_⟩
                    rw [HTN.out, HDN.out, s2, Bool.true_and]
                    unfold freeRow
                    rw [List.all_eq_true]
                    intro j hj
                    have hj2 := List.mem_range.1 hj
                    have := HXM.out
                    have := s3 j (by rw [List.mem_map]; exact ⟨⟨j, by omega⟩, List.mem_finRange _, rfl⟩)
                    rw [this]; rfl
                  clear hB hG hI hK hBB0 hIN0
                  go_wp2
                  obtain ⟨r1, r2, r3, r4, r5⟩ := HRES.out
                  refine ⟨FreeN.of (D :: Ds2) a3 mv3 (q + 1) rfl (by omega) r1 r2 r3 r4 r5, ?_⟩
                  show xss.length - (intOf (Value.int .i64 ((q : Int) + 1))).toNat < xss.length - (intOf (Value.int .i64 (q : Int))).toNat
                  simp [intOf]; omega
                case hstop => exact fun _ _ _ _ _ _ h _ => h.elim
              · have q1 : ¬ (q : Int) < (xss.length : Int) := by omega
                have cm := HBO2.out.m.cell
                have hst : Hid (mv2 = false → freeAt xss long a2 = true) := fun h => by
                  obtain ⟨s1, s2⟩ := HMV2.out.2 h
                  rw [List.take_of_length_le (by omega)] at s2
                  rw [s1]; exact s2
                have hless : Hid (2 * (10000 - a2.toNat) + (if mv2 then 1 else 0) < 2 * (10000 - at_.toNat) + 1) := by
                  cases mv2 with
                  | false => have := (HMV2.out.2 rfl).1; show 2 * (10000 - a2.toNat) + 0 < 2 * (10000 - at_.toNat) + 1; omega
                  | true => have := HMV2.out.1 rfl; show 2 * (10000 - a2.toNat) + 1 < 2 * (10000 - at_.toNat) + 1; omega
                have HNB : Hid (FreeB w.heap.size ba wi.heap.size long a2 mv2 (wi.alloc (.cells #[.bool mv2] 4))) := ⟨HBO2.out.l.alloc _, HBO2.out.a.alloc _, Boxed.new _ _ _⟩
                have HND : Hid (OpenD w.heap.size Ds2 (wi.alloc (.cells #[.bool mv2] 4))) := ⟨fun D hD => ⟨(HOD2.out.open_ D hD).1, (Below.heap_alloc _ _ _ (Array.getElem?_eq_some_iff.1 (HOD2.out.open_ D hD).2).1).trans (HOD2.out.open_ D hD).2⟩, HOD2.out.nodup⟩
                clear HMV2
                go_wp2
                refine ⟨FreeO.of Ds2 a2 mv2 wi.heap.size rfl HND.out (HG2.out.alloc _) HNB.out (.inr HG2.out.size) HAT2.out hst.out, ?_⟩
                rw [freeMu_act (bm := wi.heap.size) HNB.out rfl]
                exact hless.out
end Go.Proofs.Ytnpfninkopffmaa
