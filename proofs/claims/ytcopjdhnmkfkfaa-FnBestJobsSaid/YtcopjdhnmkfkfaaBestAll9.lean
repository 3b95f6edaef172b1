/- slices.Delete of one number out of a row of the call's own. With texts that it needs. -/
import Derived.Test.YtcopjdhnmkfkfaaBestAll8
import Derived.Laws.EntriesVeiled
import Derived.Deep.LoopGhost
import Derived.Test.YtcopjdhnmkfkfaaBestAll1
import Derived.Deep.QuietTactic
import Derived.BigQuiet
import Derived.Test.YtcopjdhnmkfkfaaBestAll7
import Derived.Shelf.Abstract
import Derived.Test.YtcopjdhnmkfkfaaBestAll4
import Derived.Test.YtcopjdhnmkfkfaaBestAll6
import Derived.Test.YtcopjdhnmkfkfaaShelf
import Derived.Test.YtcopjdhnmkfkfaaBestAll2
import Derived.Laws.IdiomCopy
namespace Go.Proofs.Ytcopjdhnmkfkfaa
open Go.RowKit Go.Shelf Go.BigFrame
set_option linter.unusedVariables false
set_option linter.unusedSimpArgs false
attribute [local go_sem] Oper.semAt_some

theorem permStart {w w2 w4 : World} {n K : Nat} {cap : Array Value} (h2 : OwnI w2 w.heap.size (.slice (some ⟨w.heap.size + 1 + 1, 0, none⟩) 0 n) [])
    (b2 : Below (w.heap.size + 1 + 1) ((w.alloc (.cells #[.int .i64 n] 3)).alloc (.cells #[.func (.func K) #[] cap] 68)) w2)
    (h4 : OwnB w4 w.heap.size (.slice (some ⟨w2.heap.size + 1, 0, none⟩) n n) (List.replicate n false))
    (b4 : Below (w2.heap.size + 1) (w2.alloc (.cells #[.slice (some ⟨w.heap.size + 1 + 1, 0, none⟩) 0 n] 27)) w4) :
    PutE ((w4.alloc (.cells #[.slice (some ⟨w2.heap.size + 1, 0, none⟩) n n] 75)).alloc (.cells #[putF w2.heap.size w.heap.size (w.heap.size + 1) w4.heap.size (w4.heap.size + 1)] 1)) w.heap.size w.heap.size (w.heap.size + 1) w2.heap.size w4.heap.size (w4.heap.size + 1) (w.heap.size + 1 + 1) (w2.heap.size + 1) n [] (.func (.func K) #[] cap) (putF w2.heap.size w.heap.size (w.heap.size + 1) w4.heap.size (w4.heap.size + 1))
      ∧ Below w.heap.size w ((w4.alloc (.cells #[.slice (some ⟨w2.heap.size + 1, 0, none⟩) n n] 75)).alloc (.cells #[putF w2.heap.size w.heap.size (w.heap.size + 1) w4.heap.size (w4.heap.size + 1)] 1))
      ∧ w.heap.size + 1 + 1 < w2.heap.size ∧ w2.heap.size + 1 < w4.heap.size := by
  have l2 : w.heap.size ≤ w.heap.size + 1 + 1 ∧ w.heap.size + 1 + 1 < w2.heap.size := h2.lt _ rfl
  have l4 : w.heap.size ≤ w2.heap.size + 1 ∧ w2.heap.size + 1 < w4.heap.size := h4.lt _ rfl
  have bA : Below w4.heap.size w4 ((w4.alloc (.cells #[.slice (some ⟨w2.heap.size + 1, 0, none⟩) n n] 75)).alloc (.cells #[putF w2.heap.size w.heap.size (w.heap.size + 1) w4.heap.size (w4.heap.size + 1)] 1)) := ((Below.refl _ _).alloc (Nat.le_refl _) _).alloc (by simp) _
  have b0 : Below w.heap.size w ((w.alloc (.cells #[.int .i64 n] 3)).alloc (.cells #[.func (.func K) #[] cap] 68)) := ((Below.refl _ _).alloc (Nat.le_refl _) _).alloc (by simp) _
  have b3 : Below w2.heap.size w2 (w2.alloc (.cells #[.slice (some ⟨w.heap.size + 1 + 1, 0, none⟩) 0 n] 27)) := (Below.refl _ _).alloc (Nat.le_refl _) _
  have e4 : Below w2.heap.size w2 w4 := b3.trans (b4.mono (by omega))
  have eA := e4.trans (bA.mono (by omega))
  have e2 : Below (w.heap.size + 1 + 1) ((w.alloc (.cells #[.int .i64 n] 3)).alloc (.cells #[.func (.func K) #[] cap] 68)) ((w4.alloc (.cells #[.slice (some ⟨w2.heap.size + 1, 0, none⟩) n n] 75)).alloc (.cells #[putF w2.heap.size w.heap.size (w.heap.size + 1) w4.heap.size (w4.heap.size + 1)] 1)) := b2.trans (eA.mono (by omega))
  have n0 : Boxed ((w.alloc (.cells #[.int .i64 n] 3)).alloc (.cells #[.func (.func K) #[] cap] 68)) w.heap.size 3 (.int .i64 n) := (Boxed.new w _ _).alloc _
  have n1 : Boxed ((w.alloc (.cells #[.int .i64 n] 3)).alloc (.cells #[.func (.func K) #[] cap] 68)) (w.heap.size + 1) 68 (.func (.func K) #[] cap) := by
    have := Boxed.new (w.alloc (.cells #[.int .i64 n] 3)) 68 (.func (.func K) #[] cap)
    rwa [World.size_alloc] at this
  have n2 : Boxed (w2.alloc (.cells #[.slice (some ⟨w.heap.size + 1 + 1, 0, none⟩) 0 n] 27)) w2.heap.size 27 (.slice (some ⟨w.heap.size + 1 + 1, 0, none⟩) 0 n) := Boxed.new _ _ _
  have n3 : Boxed ((w4.alloc (.cells #[.slice (some ⟨w2.heap.size + 1, 0, none⟩) n n] 75)).alloc (.cells #[putF w2.heap.size w.heap.size (w.heap.size + 1) w4.heap.size (w4.heap.size + 1)] 1)) w4.heap.size 75 (.slice (some ⟨w2.heap.size + 1, 0, none⟩) n n) := (Boxed.new _ _ _).alloc _
  have n4 : Boxed ((w4.alloc (.cells #[.slice (some ⟨w2.heap.size + 1, 0, none⟩) n n] 75)).alloc (.cells #[putF w2.heap.size w.heap.size (w.heap.size + 1) w4.heap.size (w4.heap.size + 1)] 1)) (w4.heap.size + 1) 1 (putF w2.heap.size w.heap.size (w.heap.size + 1) w4.heap.size (w4.heap.size + 1)) := by
    have := Boxed.new (w4.alloc (.cells #[.slice (some ⟨w2.heap.size + 1, 0, none⟩) n n] 75)) 1 (putF w2.heap.size w.heap.size (w.heap.size + 1) w4.heap.size (w4.heap.size + 1))
    rwa [World.size_alloc] at this
  have k2 : Boxed w4 w2.heap.size 27 (.slice (some ⟨w.heap.size + 1 + 1, 0, none⟩) 0 n) := (b4.block _ (by omega)).trans n2
  refine ⟨⟨(e2.block _ (by omega)).trans n0, (e2.block _ (by omega)).trans n1, boxedP_below k2 bA, h2.below eA (Nat.le_refl _), n3, ?_, n4⟩, b0.trans (e2.mono (by omega)), l2.2, l4.2⟩
  rw [tkL_nil]
  refine ⟨h4.1, ?_⟩
  exact (((h4.alloc _).alloc _)).2
theorem permMade2 {w w2 : World} {n K : Nat} {cap : Array Value} (hown2 : w2.ownsRow w.heap.size 2 1 (.slice (some ⟨((w.alloc (.cells #[.int .i64 n] 3)).alloc (.cells #[.func (.func K) #[] cap] 68)).heap.size, 0, none⟩) 0 n) 0 [])
    (hgrow2 : ((w.alloc (.cells #[.int .i64 n] 3)).alloc (.cells #[.func (.func K) #[] cap] 68)).grownBy w2 none) :
    Hid (OwnI w2 w.heap.size (.slice (some ⟨w.heap.size + 1 + 1, 0, none⟩) 0 n) []) ∧ Hid (Below (w.heap.size + 1 + 1) ((w.alloc (.cells #[.int .i64 n] 3)).alloc (.cells #[.func (.func K) #[] cap] 68)) w2) ∧
      (∀ ob, (w2.alloc ob).cell? ⟨w.heap.size, 0, none⟩ = some (.int .i64 n)) ∧ w.heap.size + 1 + 1 ≤ w2.heap.size := by
  have hb : Below (w.heap.size + 1 + 1) ((w.alloc (.cells #[.int .i64 n] 3)).alloc (.cells #[.func (.func K) #[] cap] 68)) w2 := (Below.refl _ _).grown hgrow2 (by simp) (fun k e => by cases e)
  have h := hown2
  simp only [World.size_alloc] at h
  have hx : Boxed w2 w.heap.size 3 (.int .i64 n) := (hb.block _ (by omega)).trans ((Boxed.new w 3 (.int .i64 n)).alloc _)
  exact ⟨h, hb, fun ob => (hx.alloc ob).cell, by have := hb.size; simpa using this⟩
theorem permMade4 {w w2 w4 : World} {n : Nat} {go : Value} (hown4 : w4.ownsRow w.heap.size 4 1 (.slice (some ⟨(w2.alloc (.cells #[go] 27)).heap.size, 0, none⟩) n n) n (madeCells (Value.bool false).cells (n * 1)).toList)
    (hgrow4 : (w2.alloc (.cells #[go] 27)).grownBy w4 none) :
    Hid (OwnB w4 w.heap.size (.slice (some ⟨w2.heap.size + 1, 0, none⟩) n n) (List.replicate n false)) ∧ Hid (Below (w2.heap.size + 1) (w2.alloc (.cells #[go] 27)) w4) := by
  have h := OwnB.made hown4
  simp only [World.size_alloc] at h
  exact ⟨h, (Below.refl _ _).grown hgrow4 (by simp) (fun k e => by cases e)⟩
set_option maxRecDepth 100000 in
set_option maxHeartbeats 2000000 in
theorem permute_any {σ : Type} (n K : Nat) (cap : Array Value) (D : List Nat) (St : Nat → σ → World → Prop) (step : σ → List Int → σ) (hn : 1 ≤ n) (hn2 : n ≤ 1000000) (w : World)
    (hdo : ∀ P B1, (∀ i ∈ P, w.heap.size ≤ i ∧ i < B1) → DoP σ w.heap.size n K cap D P (St B1) step) (hD : ∀ i ∈ D, i < w.heap.size) (s : σ) (hs : ∀ B1 W', Below w.heap.size w W' → B1 ≤ W'.heap.size → St B1 s W') :
    Calls Try.prog 40 #[.int .i64 n, .func (.func K) #[] cap] w fun e w' => e = .returned (.tuple #[]) ∧ (∃ B1, w.heap.size ≤ B1 ∧ St B1 (permF n step n [] s) w') ∧ GrownL D w w' := by
  have hmf : ∀ (fn : Fn) (first cap : Array Value) (w : World), (Instr.makeFunc fn first cap).run Try.prog w = .ok (.func fn first cap) w := fun _ _ _ _ => rfl
  have heg := enters_of Try.func53 (by kernel_rfl) rfl
  obtain ⟨i0, hi, hz0, hz1, hz2⟩ := info_parts info_i64
  obtain ⟨j0, hj, jz0, jz1, jz2⟩ := info_parts info_bool
  have HDO := Lib.hid hdo
  have HDD := Lib.hid hD
  have HS := Lib.hid hs
  clear hdo hD hs
  go_enter Try.func40, Try.ntmps40
  go_upto_region 3 with (first
    | (at_make; refine wpList_make_own _ rfl _ _ 27 rfl w.heap.size 2 i0 (.int .i64 0) 1 Try.underlying27 hi hz0 hz1 _ _ _ n rfl rfl rfl (by rw [hz2]; omega) (by unfold maxLen; omega) (by simp; omega) ?_; intro w2 hown2 hgrow2; obtain ⟨HO2, HB2, hbn2, hs2⟩ := permMade2 hown2 hgrow2; clear hown2 hgrow2)
    | (at_make; refine wpList_make_full _ rfl _ _ 75 rfl w.heap.size 4 j0 (.bool false) 1 Try.underlying75 hj jz0 jz1 _ _ _ _ n rfl rfl rfl rfl (by rw [jz2]; omega) (by unfold maxLen; omega) (by simp; omega) ?_; intro w4 hown4 hgrow4; obtain ⟨HO4, HB4⟩ := permMade4 hown4 hgrow4; clear hown4 hgrow4))
  obtain ⟨W5, hW5⟩ : ∃ W, w4.alloc (.cells #[.slice (some ⟨w2.heap.size + 1, 0, none⟩) n n] 75) = W := ⟨_, rfl⟩
  have HW5 := Lib.hid hW5
  have HZ5 : Hid (W5.heap.size = w4.heap.size + 1) := by show _ = _; rw [← hW5]; simp
  rw [hW5]
  clear hW5
  go_wp2_with fail
  obtain ⟨hE, hB, l2, l4⟩ := permStart HO2.out HB2.out HO4.out HB4.out (cap := cap) (K := K)
  rw [HW5.out, ← HZ5.out] at hE hB
  have hP : ∀ i ∈ [w.heap.size + 1 + 1, w2.heap.size, w2.heap.size + 1], w.heap.size ≤ i ∧ i < w4.heap.size := fun i hi => by
    simp at hi; omega
  have hd := HDO.out [w.heap.size + 1 + 1, w2.heap.size, w2.heap.size + 1] w4.heap.size hP
  have hS := HS.out w4.heap.size _ hB (by have := HZ5.out; simp; omega)
  have HG : Hid (GrownL D w (W5.alloc (.cells #[putF w2.heap.size w.heap.size (w.heap.size + 1) w4.heap.size W5.heap.size] 1))) := (GrownL.refl D w).below hB (Nat.le_refl _)
  refine (permPut_any n w.heap.size w.heap.size (w.heap.size + 1) w2.heap.size w4.heap.size W5.heap.size (w.heap.size + 1 + 1) (w2.heap.size + 1) K cap D (St w4.heap.size) step hn hn2 hd (Nat.le_refl _) (by omega) (by omega) (by omega) (by omega) (by omega) (by have := HZ5.out; omega) HDD.out n [] (by simp) (PreOk.nil n) _ s hS hE).mono ?_
  rintro e W5 ⟨rfl, HS5, _, HG5⟩
  have HG6 : Hid (GrownL D w W5) := HG.out.transP HG5.out (fun i hi => by
    simp only [List.mem_cons] at hi
    rcases hi with e | e | e | e
    · exact .inr (by omega)
    · exact .inr (by omega)
    · exact .inr (by omega)
    · exact .inl e)
  clear hE hB hd hS HG5 HG
  go_wp2
  go_end0
  exact ⟨rfl, ⟨_, by omega, HS5.out⟩, HG6.out⟩
end Go.Proofs.Ytcopjdhnmkfkfaa

namespace Go.Proofs.Ytcopjdhnmkfkfaa
open Go.RowKit Go.Shelf Go.BigFrame
set_option linter.unusedVariables false
set_option linter.unusedSimpArgs false
attribute [local go_sem] Oper.semAt_some

theorem sl_nil0 (W : World) : (binOp .eql 27 (.slice none 0 0) (.slice none 0 0)).run Try.prog W = .ok (.bool true) W := by kernel_rfl
/-- What the function that is handed over answers. -/
def TellAt (K : Nat) (cap : Array Value) (f : List Int → Option Int) (n g : Nat) (E : List Int) (W : World) : Prop :=
  Calls Try.prog K (#[.slice (some ⟨g, 0, none⟩) n n] ++ cap) W fun e W' => ((f E = none ∧ ∃ x, e = .returned (.tuple #[.int .i64 x, .bool false])) ∨ (∃ x, f E = some x ∧ e = .returned (.tuple #[.int .i64 x, .bool true]))) ∧ Below W.heap.size W W'
/-- What firstLeast's variables hold. -/
structure FirE (W : World) (B1 bt bb bl n : Nat) (Kv : Value) (w0 : World) (v : Value) (x : Int) : Prop where
  tell : Boxed W bt 56 Kv
  best : Boxed W bb 27 v
  least : Boxed W bl 2 (.int .i64 x)
  bel : Below w0.heap.size w0 W
def FirSt (bt bb bl n : Nat) (Kv : Value) (w0 : World) (B1 : Nat) (s : Option (List Int × Int)) (W : World) : Prop :=
  match s with
  | none => FirE W B1 bt bb bl n Kv w0 (.slice none 0 0) 0
  | some b => ∃ g c, FirE W B1 bt bb bl n Kv w0 (.slice (some ⟨g, 0, none⟩) n c) b.2 ∧ OwnI W B1 (.slice (some ⟨g, 0, none⟩) n c) b.1
theorem FirE.grown {W W' : World} {B1 bt bb bl n : Nat} {Kv : Value} {w0 : World} {v : Value} {x : Int} {L : List Nat} (h : FirE W B1 bt bb bl n Kv w0 v x) (hg : GrownL L W W') (h1 : bt ∉ L) (h2 : bb ∉ L) (h3 : bl ∉ L) (h4 : ∀ i ∈ L, w0.heap.size ≤ i) : FirE W' B1 bt bb bl n Kv w0 v x :=
  ⟨hg.boxed h.tell h1, hg.boxed h.best h2, hg.boxed h.least h3, hg.toBelow h.bel h.bel.size (fun i hi e => by have := h4 i e; omega)⟩
theorem FirE.below {W W' : World} {B1 bt bb bl n : Nat} {Kv : Value} {w0 : World} {v : Value} {x : Int} (h : FirE W B1 bt bb bl n Kv w0 v x) (hb : Below W.heap.size W W') : FirE W' B1 bt bb bl n Kv w0 v x :=
  ⟨boxedP_below h.tell hb, boxedP_below h.best hb, boxedP_below h.least hb, h.bel.trans (hb.mono h.bel.size)⟩
/-- A new best one. -/
theorem FirE.put {W W1 : World} {B1 bt bb bl n g c : Nat} {Kv : Value} {w0 : World} {v : Value} {x y : Int} {E : List Int} (h : FirE W B1 bt bb bl n Kv w0 v x) (o1 : bt < bb) (o2 : bb < bl) (o3 : w0.heap.size ≤ bt) (hb : Below W.heap.size W W1) (ho : OwnI W1 W.heap.size (.slice (some ⟨g, 0, none⟩) n c) E) (hB : B1 ≤ W.heap.size) :
    FirE ((W1.setCell ⟨bb, 0, none⟩ (.slice (some ⟨g, 0, none⟩) n c)).setCell ⟨bl, 0, none⟩ (.int .i64 y)) B1 bt bb bl n Kv w0 (.slice (some ⟨g, 0, none⟩) n c) y ∧ OwnI ((W1.setCell ⟨bb, 0, none⟩ (.slice (some ⟨g, 0, none⟩) n c)).setCell ⟨bl, 0, none⟩ (.int .i64 y)) B1 (.slice (some ⟨g, 0, none⟩) n c) E ∧
      GrownL [bb, bl] W ((W1.setCell ⟨bb, 0, none⟩ (.slice (some ⟨g, 0, none⟩) n c)).setCell ⟨bl, 0, none⟩ (.int .i64 y)) := by
  have h1 := h.below hb
  have hl := h.least.lt
  have hg := (ho.lt g rfl).1
  have g1 : GrownL [bb] W1 (W1.setCell ⟨bb, 0, none⟩ (.slice (some ⟨g, 0, none⟩) n c)) := (GrownL.refl _ _).setCell _ _ (.inl (by simp))
  have g2 : GrownL [bl] (W1.setCell ⟨bb, 0, none⟩ (.slice (some ⟨g, 0, none⟩) n c)) ((W1.setCell ⟨bb, 0, none⟩ (.slice (some ⟨g, 0, none⟩) n c)).setCell ⟨bl, 0, none⟩ (.int .i64 y)) := (GrownL.refl _ _).setCell _ _ (.inl (by simp))
  have hG : GrownL [bb, bl] W ((W1.setCell ⟨bb, 0, none⟩ (.slice (some ⟨g, 0, none⟩) n c)).setCell ⟨bl, 0, none⟩ (.int .i64 y)) := (((GrownL.refl _ W).below hb (Nat.le_refl _)).setCell _ _ (.inl (by simp))).setCell _ _ (.inl (by simp))
  refine ⟨⟨hG.boxed h.tell (by simp; omega), g2.boxed (h1.best.set _) (by simp; omega), ?_, hG.toBelow h.bel h.bel.size (fun i hi => by simp; omega)⟩, (g2.own (g1.own (ho.mono hB) (by simp; omega)) (by simp; omega)), hG⟩
  have h2 := g1.boxed h1.least (by simp; omega)
  exact h2.set _
set_option maxRecDepth 100000 in
set_option maxHeartbeats 2000000 in
theorem firDo_any (n K : Nat) (cap : Array Value) (f : List Int → Option Int) (w0 : World) (B B1 bt bb bl g : Nat) (P : List Nat) (s : Option (List Int × Int)) (E : List Int) (W : World) (hn : 1 ≤ n) (hn2 : n ≤ 1000000) (o1 : bt < bb) (o2 : bb < bl) (o3 : w0.heap.size ≤ bt)
    (hB1 : B1 ≤ W.heap.size) (hek : Enters Try.prog K) (hs : FirSt bt bb bl n (.func (.func K) #[] cap) w0 B1 s W) (ho : OwnI W B (.slice (some ⟨g, 0, none⟩) n n) E) (hE : E.length = n) (ht : TellAt K cap f n g E W) :
    Calls Try.prog 41 #[.slice (some ⟨g, 0, none⟩) n n, .pointer (some ⟨bt, 0, none⟩), .pointer (some ⟨bb, 0, none⟩), .pointer (some ⟨bl, 0, none⟩)] W fun e W' => e = .returned (.tuple #[]) ∧ FirSt bt bb bl n (.func (.func K) #[] cap) w0 B1 (flStep f s E) W' ∧ GrownL [bb, bl] W W' := by
  have hsn := sl_nil
  have hsn0 := sl_nil0
  have hek' : ∀ args w, (callFunc K args).run Try.prog w = .ok (.enter K args) w := hek
  have HT : Hid (TellAt K cap f n g E W) := ht
  unfold TellAt at HT
  have HE := Lib.hid hE
  have HCL : Hid (∀ W', Below W.heap.size W W' → Calls Try.prog 42 #[.slice (some ⟨g, 0, none⟩) n n] W' fun e w' => (∃ g' c, e = .returned (.slice (some ⟨g', 0, none⟩) n c) ∧ OwnI w' W'.heap.size (.slice (some ⟨g', 0, none⟩) n c) E) ∧ Below W'.heap.size W' w') := fun W' hb => by
    have h := clone_any (.slice (some ⟨g, 0, none⟩) n n) E W' (ho.ints.below hb (Nat.le_refl _)) (by omega) (by omega)
    rw [hE] at h
    exact h
  cases s with
  | none =>
    have hF : FirE W B1 bt bb bl n (.func (.func K) #[] cap) w0 (.slice none 0 0) 0 := hs
    have HF := Lib.hid hF
    have c1 := hF.tell.cell
    clear hs hF ho ht hE hek
    go_enter Try.func41, Try.ntmps41
    go_wp2_with fail
    refine HT.out.mono ?_
    rintro e W1 ⟨hr, hb1⟩
    have HB1 := Lib.hid hb1
    have h1 := HF.out.below hb1
    have c2 := h1.best.cell
    have c3 := h1.least.cell
    have d2 := h1.best.frozen
    have d3 := h1.least.frozen
    have HF1 := Lib.hid h1
    have HC1 := Lib.hid (HCL.out W1 hb1)
    clear hb1 h1 c1 HCL HT
    rcases hr with ⟨h1, x, rfl⟩ | ⟨x, h1, rfl⟩
    · have H1 := Lib.hid h1
      clear h1
      go_wp2_with fail
      go_end0
      exact ⟨rfl, by rw [flStep_none H1.out]; exact HF1.out, (GrownL.refl _ W).below HB1.out (Nat.le_refl _)⟩
    · have H1 := Lib.hid h1
      clear h1
      go_wp2_with fail
      refine HC1.out.mono ?_
      rintro e W2 ⟨⟨g2, cc2, rfl, ho2⟩, hb2⟩
      have k1 := HF1.out.below hb2
      have c4 := k1.best.cell
      have c5 := k1.least.cell
      have d4 := k1.best.frozen
      have d5 := k1.least.frozen
      have HP := Lib.hid (HF1.out.put (y := x) o1 o2 o3 hb2 ho2 (by have := HB1.out.size; omega))
      clear ho2 hb2 k1 HC1 c2 c3 d2 d3
      go_wp2_with fail
      go_end0
      have e1 : flStep f none E = some (E, x) := by unfold flStep; rw [H1.out]
      rw [e1]
      exact ⟨rfl, ⟨g2, cc2, HP.out.1, HP.out.2.1⟩, ((GrownL.refl _ W).below HB1.out (Nat.le_refl _)).trans HP.out.2.2⟩
  | some b =>
    obtain ⟨gb, cb, hF, hob⟩ := hs
    obtain ⟨bE, bx⟩ := b
    have HF := Lib.hid hF
    have HOB := Lib.hid hob
    have c1 := hF.tell.cell
    clear hF ho ht hE hek hob
    go_enter Try.func41, Try.ntmps41
    go_wp2_with fail
    refine HT.out.mono ?_
    rintro e W1 ⟨hr, hb1⟩
    have HB1 := Lib.hid hb1
    have h1 := HF.out.below hb1
    have c2 := h1.best.cell
    have c3 := h1.least.cell
    have d2 := h1.best.frozen
    have d3 := h1.least.frozen
    have HF1 := Lib.hid h1
    have HO1 := Lib.hid (HOB.out.below hb1 (Nat.le_refl _))
    have HC1 := Lib.hid (HCL.out W1 hb1)
    clear hb1 h1 c1 HCL HT HOB
    rcases hr with ⟨h1, x, rfl⟩ | ⟨x, h1, rfl⟩
    · have H1 := Lib.hid h1
      clear h1
      go_wp2_with fail
      go_end0
      exact ⟨rfl, by rw [flStep_none H1.out]; exact ⟨gb, cb, HF1.out, HO1.out⟩, (GrownL.refl _ W).below HB1.out (Nat.le_refl _)⟩
    · have H1 := Lib.hid h1
      clear h1
      by_cases hlt : x < bx
      · have e1 : Hid (flStep f (some (bE, bx)) E = some (E, x)) := by show _ = _; unfold flStep; rw [H1.out]; exact if_pos hlt
        go_wp2_with fail
        refine HC1.out.mono ?_
        rintro e W2 ⟨⟨g2, cc2, rfl, ho2⟩, hb2⟩
        have k1 := HF1.out.below hb2
        have c4 := k1.best.cell
        have c5 := k1.least.cell
        have d4 := k1.best.frozen
        have d5 := k1.least.frozen
        have HP := Lib.hid (HF1.out.put (y := x) o1 o2 o3 hb2 ho2 (by have := HB1.out.size; omega))
        clear ho2 hb2 k1 HC1 c2 c3 d2 d3
        go_wp2_with fail
        go_end0
        rw [e1.out]
        exact ⟨rfl, ⟨g2, cc2, HP.out.1, HP.out.2.1⟩, ((GrownL.refl _ W).below HB1.out (Nat.le_refl _)).trans HP.out.2.2⟩
      · have e1 : Hid (flStep f (some (bE, bx)) E = some (bE, bx)) := by show _ = _; unfold flStep; rw [H1.out]; exact if_neg hlt
        go_wp2_with fail
        go_end0
        rw [e1.out]
        exact ⟨rfl, ⟨gb, cb, HF1.out, HO1.out⟩, (GrownL.refl _ W).below HB1.out (Nat.le_refl _)⟩
theorem firStart {w : World} {K : Nat} {cap : Array Value} {n B1 : Nat} :
    FirSt w.heap.size (w.heap.size + 1) (w.heap.size + 1 + 1) n (.func (.func K) #[] cap) w B1 none (((w.alloc (.cells #[.func (.func K) #[] cap] 56)).alloc (.cells #[.slice none 0 0] 27)).alloc (.cells #[.int .i64 0] 2)) := by
  refine ⟨((Boxed.new w _ _).alloc _).alloc _, ?_, ?_, (((Below.refl _ w).alloc (Nat.le_refl _) _).alloc (by simp) _).alloc (by simp; omega) _⟩
  · have := (Boxed.new (w.alloc (.cells #[.func (.func K) #[] cap] 56)) 27 (.slice none 0 0)).alloc (.cells #[.int .i64 0] 2)
    rwa [World.size_alloc] at this
  · have := Boxed.new ((w.alloc (.cells #[.func (.func K) #[] cap] 56)).alloc (.cells #[.slice none 0 0] 27)) 2 (.int .i64 0)
    rwa [World.size_alloc, World.size_alloc] at this
set_option maxRecDepth 100000 in
set_option maxHeartbeats 2000000 in
theorem firstLeast_any (n K : Nat) (cap : Array Value) (f : List Int → Option Int) (w : World) (hn : 1 ≤ n) (hn2 : n ≤ 1000000) (hek : Enters Try.prog K)
    (htell : ∀ E W g B, E.Perm (idL n) → Below w.heap.size w W → OwnI W B (.slice (some ⟨g, 0, none⟩) n n) E → TellAt K cap f n g E W) :
    Calls Try.prog 29 #[.int .i64 n, .func (.func K) #[] cap] w fun e w' => ((firstL n f = none ∧ e = .returned (.tuple #[.slice none 0 0, .int .i64 0, .bool false])) ∨
      ∃ b l g c, firstL n f = some (b, l) ∧ e = .returned (.tuple #[.slice (some ⟨g, 0, none⟩) n c, .int .i64 l, .bool true]) ∧ OwnI w' w.heap.size (.slice (some ⟨g, 0, none⟩) n c) b) ∧ Below w.heap.size w w' := by
  have hmf : ∀ (fn : Fn) (first cap : Array Value) (w : World), (Instr.makeFunc fn first cap).run Try.prog w = .ok (.func fn first cap) w := fun _ _ _ _ => rfl
  have heg := enters_of Try.func41 (by kernel_rfl) rfl
  have hsn := sl_nil
  have hsn0 := sl_nil0
  have HT := Lib.hid htell
  have HEK := Lib.hid hek
  clear htell hek
  obtain ⟨W3, hW3⟩ : ∃ W, ((w.alloc (.cells #[.func (.func K) #[] cap] 56)).alloc (.cells #[.slice none 0 0] 27)).alloc (.cells #[.int .i64 0] 2) = W := ⟨_, rfl⟩
  have HS0 : Hid (∀ B1, FirSt w.heap.size (w.heap.size + 1) (w.heap.size + 1 + 1) n (.func (.func K) #[] cap) w B1 none W3) := fun B1 => by rw [← hW3]; exact firStart
  have HZ3 : Hid (W3.heap.size = w.heap.size + 3) := by show _ = _; rw [← hW3]; simp
  have HDO : Hid (∀ P B1, (∀ i ∈ P, W3.heap.size ≤ i ∧ i < B1) → DoP (Option (List Int × Int)) W3.heap.size n 41 #[.pointer (some ⟨w.heap.size, 0, none⟩), .pointer (some ⟨w.heap.size + 1, 0, none⟩), .pointer (some ⟨w.heap.size + 1 + 1, 0, none⟩)] [w.heap.size + 1, w.heap.size + 1 + 1] P (fun s W => FirSt w.heap.size (w.heap.size + 1) (w.heap.size + 1 + 1) n (.func (.func K) #[] cap) w B1 s W ∧ B1 ≤ W.heap.size) (flStep f)) := fun P B1 hP => by
    refine ⟨fun s E W g hE hs ho => ?_, fun s W W' hs hg => ?_, heg⟩
    · have hb : Below w.heap.size w W := by
        obtain ⟨hs, _⟩ := hs
        cases s with
        | none => exact (show FirE _ _ _ _ _ _ _ _ _ _ from hs).bel
        | some b => obtain ⟨_, _, h, _⟩ := hs; exact h.bel
      refine (firDo_any n K cap f w W3.heap.size B1 w.heap.size (w.heap.size + 1) (w.heap.size + 1 + 1) g P s E W hn hn2 (by omega) (by omega) (Nat.le_refl _) hs.2 HEK.out hs.1 ho (by rw [hE.length_eq, idL_length]) (HT.out E W g _ hE hb ho)).mono ?_
      rintro e W' ⟨h1, h2, h3⟩
      exact ⟨h1, ⟨h2, Nat.le_trans hs.2 h3.size⟩, h3⟩
    · obtain ⟨hs, hb⟩ := hs
      have hn : ∀ i, i < W3.heap.size → i ∉ P := fun i hi e => by have := (hP i e).1; omega
      have hz := HZ3.out
      refine ⟨?_, Nat.le_trans hb hg.size⟩
      cases s with
      | none => exact (show FirE _ _ _ _ _ _ _ _ _ _ from hs).grown hg (hn _ (by omega)) (hn _ (by omega)) (hn _ (by omega)) (fun i hi => by have := hP i hi; omega)
      | some b =>
        obtain ⟨g, c, h1, h2⟩ := hs
        exact ⟨g, c, h1.grown hg (hn _ (by omega)) (hn _ (by omega)) (hn _ (by omega)) (fun i hi => by have := hP i hi; omega), hg.own h2 (fun e => by have := hP g e; have := (h2.lt g rfl).1; omega)⟩
  have HPM := Lib.hid (permute_any n 41 _ [w.heap.size + 1, w.heap.size + 1 + 1] _ (flStep f) hn hn2 W3 HDO.out (fun i hi => by have := HZ3.out; simp at hi; omega) none (fun B1 W' hb hB => ⟨by
    have h : FirE _ _ _ _ _ _ _ _ _ _ := HS0.out B1
    exact h.below hb, hB⟩))
  obtain ⟨r, hr⟩ : ∃ r, firstL n f = r := ⟨_, rfl⟩
  have HF : Hid (permF n (flStep f) n [] none = r) := hr
  rw [hr]
  clear hr
  have HW3 := Lib.hid hW3
  clear HDO HT HEK hW3
  go_enter Try.func29, Try.ntmps29
  go_wp2_with fail
  rw [HW3.out]
  refine HPM.out.mono ?_
  rintro e W5 ⟨rfl, ⟨B1, hB1, hS5, _⟩, hg5⟩
  rw [HF.out] at hS5
  have HB5 : Hid (Below w.heap.size w W5) := by
    show Below _ _ _
    cases r with
    | none => exact (show FirE _ _ _ _ _ _ _ _ _ _ from hS5).bel
    | some b => obtain ⟨_, _, h, _⟩ := hS5; exact h.bel
  clear hg5 HPM HF
  cases r with
  | none =>
    have h : FirE _ _ _ _ _ _ _ _ _ _ := hS5
    have c1 := h.best.cell
    have c2 := h.least.cell
    clear hS5 h
    go_wp2
    go_quiet (fail)
    go_wp2
    go_ret3
    exact ⟨rfl, below_drewN _ HB5.out⟩
  | some b =>
    obtain ⟨g, c, h, ho⟩ := hS5
    obtain ⟨bE, bx⟩ := b
    have c1 := h.best.cell
    have c2 := h.least.cell
    have HO := Lib.hid (ho.mono (show w.heap.size ≤ B1 by have := HZ3.out; omega))
    clear h ho
    go_wp2
    go_quiet (fail)
    go_wp2
    go_ret3
    exact ⟨.inr ⟨bE, bx, g, c, rfl, rfl, HO.out.drewN _⟩, below_drewN _ HB5.out⟩
end Go.Proofs.Ytcopjdhnmkfkfaa

namespace Go.Proofs.Ytcopjdhnmkfkfaa
open Go.RowKit Go.Shelf
set_option linter.unusedVariables false
set_option linter.unusedSimpArgs false
attribute [local go_sem] Oper.semAt_some

theorem orders_perm {n : Nat} {E : List Int} (h1 : 1 ≤ n) (h24 : n ≤ 24) (hE : E.Perm (idL n)) : (win (n : Int) 1 24 && orders (n : Int) E) = true := by
  have hl : E.length = n := by rw [hE.length_eq, idL_length]
  rw [Bool.and_eq_true]
  refine ⟨win_true.2 (by omega), orders_yes (by rw [hl]) fun i hi => ?_⟩
  have hin := nthE_in hE (show i < n by omega)
  refine ⟨win_true.2 (by omega), ?_⟩
  rw [List.any_eq_false]
  intro x hx
  obtain ⟨m, hm, rfl⟩ := List.getElem_of_mem hx
  rw [List.length_take] at hm
  rw [List.getElem_take, nth_eq hi]
  have := List.pairwise_iff_getElem.1 (permQ_nodup hE) m i (by omega) hi (by omega)
  simpa using this
theorem ordersJ_any (v vo : Value) (js : List Jb) (E : List Int) (w : World) (hv : Jobs w v js) (ho : Ints w vo E) (hok : jobsOk js = true) (hE : E.Perm (idL js.length)) :
    Calls Try.prog 26 #[v, vo] w fun e w' => e = .returned (.bool true) ∧ Below w.heap.size w w' := by
  have hs := jobs_sm hok
  have hEl : E.length = js.length := by rw [hE.length_eq, idL_length]
  have HA := Lib.hid (areJobs_any v js w hv)
  rw [hok] at HA
  have HO : Hid (∀ W, Below w.heap.size w W → Calls Try.prog 39 #[vo, .int .i64 js.length] W fun e w' => e = .returned (.bool true) ∧ Below W.heap.size W w') := fun W hW => by
    have h := isOrder_any js.length vo E W (ho.below hW (Nat.le_refl _)) (by have := hs.n24; omega)
    rwa [orders_perm hs.n1 hs.n24 hE] at h
  obtain ⟨b, o, c, rfl, hcap, hbw, hV⟩ := jobs_view hv hs.n1
  obtain ⟨_, aE, cE, rfl, _⟩ := ho
  obtain ⟨n, hn⟩ : ∃ n, js.length = n := ⟨_, rfl⟩
  obtain ⟨m, hm⟩ : ∃ n, E.length = n := ⟨_, rfl⟩
  rw [hn] at HA HO ⊢
  rw [hm] at HO ⊢
  clear hv hok hE hs hV hEl hn hm hcap
  go_enter Try.func26, Try.ntmps26
  go_wp2_with fail
  refine HA.out.mono ?_
  rintro e W1 ⟨rfl, hb1⟩
  have HB1 := Lib.hid hb1
  clear hb1 HA
  go_wp2_with fail
  refine (HO.out _ HB1.out).mono ?_
  rintro e W2 ⟨rfl, hb2⟩
  have HB2 : Hid (Below w.heap.size w W2) := HB1.out.trans (hb2.mono HB1.out.size)
  clear hb2
  go_wp2
  go_ret
  exact ⟨rfl, HB2.out⟩
theorem endsE_bounds {js : List Jb} {E : List Int} (hs : SmJ js) (hE : E.Perm (idL js.length)) : ∀ i, i < js.length → 0 ≤ nth (endsE js E) i ∧ nth (endsE js E) i ≤ 1000000 := fun i hi => by
  have hl : E.length = js.length := by rw [hE.length_eq, idL_length]
  have hin : (i : Int) ∈ E := hE.mem_iff.2 (idL_mem.2 (by omega))
  obtain ⟨m, hm, he⟩ := List.getElem_of_mem hin
  have h1 := endsTo_at hE js.length (Nat.le_refl _) m (by omega)
  rw [nth_eq hm, he, Int.toNat_natCast] at h1
  have h2 := atTo_bounds hs hE (m + 1) (by omega)
  have h3 := hs.n24
  have h4 : nth (endsE js E) i = atTo js E (m + 1) := h1
  omega
theorem CostOf_any (v vo : Value) (js : List Jb) (E : List Int) (kind : Int) (w : World) (hv : Jobs w v js) (ho : Ints w vo E) (hok : jobsOk js = true) (hE : E.Perm (idL js.length)) (hk : 0 ≤ kind ∧ kind ≤ 4) :
    Calls Try.prog 9 #[v, vo, .int .i64 kind] w fun e w' => e = .returned (.tuple #[.int .i64 (costE kind js E), .bool true]) ∧ Below w.heap.size w w' := by
  have hs := jobs_sm hok
  have HO := Lib.hid (ordersJ_any v vo js E w hv ho hok hE)
  have HW : Hid (∀ W, Calls Try.prog 22 #[.int .i64 kind, .int .i64 0, .int .i64 4] W fun e w' => e = .returned (.bool true) ∧ W = w') := fun W => by
    have h := within_any kind 0 4 W
    rwa [show win kind 0 4 = true from win_true.2 hk] at h
  have HE : Hid (∀ W, Below w.heap.size w W → Calls Try.prog 28 #[v, vo] W fun e w' => (∃ g, e = .returned (.slice (some ⟨g, 0, none⟩) js.length js.length) ∧ OwnI w' W.heap.size (.slice (some ⟨g, 0, none⟩) js.length js.length) (endsE js E)) ∧ Below W.heap.size W w') := fun W hW => endsOf_any v vo js E W (hv.below hW (Nat.le_refl _)) (ho.below hW (Nat.le_refl _)) hs hE
  have HC : Hid (∀ ve W, Below w.heap.size w W → Ints W ve (endsE js E) → Calls Try.prog 27 #[v, ve, .int .i64 kind] W fun e w' => e = .returned (.int .i64 (costE kind js E)) ∧ Below W.heap.size W w') := fun ve W hW he => costOf_any v ve js (endsE js E) kind W (hv.below hW (Nat.le_refl _)) he hs (endsTo_len js E _) (endsE_bounds hs hE) hk
  clear hv ho hok hE hs hk
  go_enter Try.func9, Try.ntmps9
  go_wp2_with fail
  refine HO.out.mono ?_
  rintro e W1 ⟨rfl, hb1⟩
  have HB1 := Lib.hid hb1
  clear hb1 HO
  go_wp2_with fail
  refine (HW.out _).mono ?_
  rintro e w' ⟨rfl, rfl⟩
  go_wp2_with fail
  refine (HE.out _ HB1.out).mono ?_
  rintro e W2 ⟨⟨g, rfl, ho2⟩, hb2⟩
  have HB2 : Hid (Below w.heap.size w W2) := HB1.out.trans (hb2.mono HB1.out.size)
  have HC2 := Lib.hid (HC.out _ W2 HB2.out ho2.ints)
  clear hb2 ho2 HE HC
  go_wp2_with fail
  refine HC2.out.mono ?_
  rintro e W3 ⟨rfl, hb3⟩
  have HB3 : Hid (Below w.heap.size w W3) := HB2.out.trans (hb3.mono HB2.out.size)
  clear hb3
  go_wp2
  go_ret2
  exact ⟨rfl, HB3.out⟩
theorem EndsOf_any (v vo : Value) (js : List Jb) (E : List Int) (w : World) (hv : Jobs w v js) (ho : Ints w vo E) (hok : jobsOk js = true) (hE : E.Perm (idL js.length)) :
    Calls Try.prog 16 #[v, vo] w fun e w' => (∃ g, e = .returned (.tuple #[.slice (some ⟨g, 0, none⟩) js.length js.length, .bool true]) ∧ OwnI w' w.heap.size (.slice (some ⟨g, 0, none⟩) js.length js.length) (endsE js E)) ∧ Below w.heap.size w w' := by
  have hs := jobs_sm hok
  have HO := Lib.hid (ordersJ_any v vo js E w hv ho hok hE)
  have HE : Hid (∀ W, Below w.heap.size w W → Calls Try.prog 28 #[v, vo] W fun e w' => (∃ g, e = .returned (.slice (some ⟨g, 0, none⟩) js.length js.length) ∧ OwnI w' W.heap.size (.slice (some ⟨g, 0, none⟩) js.length js.length) (endsE js E)) ∧ Below W.heap.size W w') := fun W hW => endsOf_any v vo js E W (hv.below hW (Nat.le_refl _)) (ho.below hW (Nat.le_refl _)) hs hE
  clear hv ho hok hE hs
  go_enter Try.func16, Try.ntmps16
  go_wp2_with fail
  refine HO.out.mono ?_
  rintro e W1 ⟨rfl, hb1⟩
  have HB1 := Lib.hid hb1
  clear hb1 HO
  go_wp2_with fail
  refine (HE.out _ HB1.out).mono ?_
  rintro e W2 ⟨⟨g, rfl, ho2⟩, hb2⟩
  have HB2 : Hid (Below w.heap.size w W2) := HB1.out.trans (hb2.mono HB1.out.size)
  have HO2 := Lib.hid (ho2.mono HB1.out.size)
  clear hb2 ho2 HE
  go_wp2
  go_ret2
  exact ⟨⟨g, rfl, HO2.out⟩, HB2.out⟩
/-- The cost, told to firstLeast. -/
def costF (kind : Int) (js : List Jb) (E : List Int) : Option Int := some (costE kind js E)
theorem costTell_any (b o c : Nat) (js : List Jb) (E : List Int) (kind : Int) (bj bo bk g n : Nat) (W : World) (hv : Jobs W (.slice (some ⟨b, o, none⟩) n c) js) (hn : js.length = n) (hok : jobsOk js = true) (hE : E.Perm (idL n)) (hk : 0 ≤ kind ∧ kind ≤ 4)
    (h1 : Boxed W bj 25 (.slice (some ⟨b, o, none⟩) n c)) (h2 : Boxed W bk 2 (.int .i64 kind)) {B : Nat} (ho : OwnI W B (.slice (some ⟨g, 0, none⟩) n n) E) :
    TellAt 30 #[.pointer (some ⟨bj, 0, none⟩), .pointer (some ⟨bk, 0, none⟩)] (costF kind js) n g E W := by
  have HC := Lib.hid (CostOf_any (.slice (some ⟨b, o, none⟩) n c) (.slice (some ⟨g, 0, none⟩) n n) js E kind W hv ho.ints hok (by rw [hn]; exact hE) hk)
  have c1 := h1.cell
  have c2 := h2.cell
  have HF : Hid (costF kind js E = some (costE kind js E)) := rfl
  clear hv hn hok hE h1 h2 ho hk
  unfold TellAt
  go_enter Try.func30, Try.ntmps30
  go_wp2_with fail
  refine HC.out.mono ?_
  rintro e W3 ⟨rfl, hb3⟩
  have HB3 := Lib.hid hb3
  clear hb3 HC
  go_wp2
  go_ret2
  exact ⟨.inr ⟨_, HF.out, rfl⟩, HB3.out⟩
set_option maxRecDepth 100000 in
theorem BestReleased_any (v : Value) (js : List Jb) (kind : Int) (w : World) (hv : Jobs w v js) (hok : jobsOk js = true) (h6 : js.length ≤ 6) (hk : 0 ≤ kind ∧ kind ≤ 4) :
    Calls Try.prog 10 #[v, .int .i64 kind] w fun e w' => (∃ E l g c, firstL js.length (costF kind js) = some (E, l) ∧ e = .returned (.tuple #[.slice (some ⟨g, 0, none⟩) js.length c, .int .i64 l, .bool true]) ∧ OwnI w' w.heap.size (.slice (some ⟨g, 0, none⟩) js.length c) E) ∧ Below w.heap.size w w' := by
  have hmf : ∀ (fn : Fn) (first cap : Array Value) (w : World), (Instr.makeFunc fn first cap).run Try.prog w = .ok (.func fn first cap) w := fun _ _ _ _ => rfl
  have heg := enters_of Try.func30 (by kernel_rfl) rfl
  have hs := jobs_sm hok
  obtain ⟨b, o, c, rfl, hcap, hbw, hV⟩ := jobs_view hv hs.n1
  obtain ⟨n, hn⟩ : ∃ n, js.length = n := ⟨_, rfl⟩
  obtain ⟨W2, hW2⟩ : ∃ W, (w.alloc (.cells #[.slice (some ⟨b, o, none⟩) n c] 25)).alloc (.cells #[.int .i64 kind] 2) = W := ⟨_, rfl⟩
  have HW2 := Lib.hid hW2
  have hb2 : Below w.heap.size w W2 := by rw [← hW2]; exact ((Below.refl _ _).alloc (Nat.le_refl _) _).alloc (by simp) _
  have HB2 := Lib.hid hb2
  have X1 : Hid (Boxed W2 w.heap.size 25 (.slice (some ⟨b, o, none⟩) n c)) := by show Boxed _ _ _ _; rw [← hW2]; exact (Boxed.new _ _ _).alloc _
  have X2 : Hid (Boxed W2 (w.heap.size + 1) 2 (.int .i64 kind)) := by
    show Boxed _ _ _ _
    have := Boxed.new (w.alloc (.cells #[.slice (some ⟨b, o, none⟩) n c] 25)) 2 (.int .i64 kind)
    rw [World.size_alloc] at this
    rw [← hW2]; exact this
  rw [hn] at hv hcap h6 ⊢
  have HV2 : Hid (∀ W, Below w.heap.size w W → Jobs W (.slice (some ⟨b, o, none⟩) n c) js) := fun W hW => hv.below hW (Nat.le_refl _)
  have HA : Hid (∀ W, Below w.heap.size w W → Calls Try.prog 12 #[.slice (some ⟨b, o, none⟩) n c] W fun e w' => e = .returned (.bool true) ∧ Below W.heap.size W w') := fun W hW => by
    have h := areJobs_any _ js W (HV2.out W hW)
    rwa [hok] at h
  have HW : Hid (∀ W, Calls Try.prog 22 #[.int .i64 kind, .int .i64 0, .int .i64 4] W fun e w' => e = .returned (.bool true) ∧ W = w') := fun W => by
    have h := within_any kind 0 4 W
    rwa [show win kind 0 4 = true from win_true.2 hk] at h
  have hn1 : 1 ≤ n := by have := hs.n1; omega
  have HFI : Hid (∀ W, Below W2.heap.size W2 W → Calls Try.prog 29 #[.int .i64 n, .func (.func 30) #[] #[.pointer (some ⟨w.heap.size, 0, none⟩), .pointer (some ⟨w.heap.size + 1, 0, none⟩)]] W fun e w' => ((firstL n (costF kind js) = none ∧ e = .returned (.tuple #[.slice none 0 0, .int .i64 0, .bool false])) ∨
      ∃ b l g c, firstL n (costF kind js) = some (b, l) ∧ e = .returned (.tuple #[.slice (some ⟨g, 0, none⟩) n c, .int .i64 l, .bool true]) ∧ OwnI w' W.heap.size (.slice (some ⟨g, 0, none⟩) n c) b) ∧ Below W.heap.size W w') := fun W hW => by
    refine firstLeast_any n 30 _ (costF kind js) W hn1 (by omega) heg (fun E W3 g B hE hW3 ho => ?_)
    have hb := hW.trans (hW3.mono hW.size)
    exact costTell_any b o c js E kind w.heap.size 0 (w.heap.size + 1) g n W3 (HV2.out W3 (HB2.out.trans (hb.mono HB2.out.size))) hn hok hE hk (boxedP_below X1.out hb) (boxedP_below X2.out hb) ho
  have HNN : Hid (firstL n (costF kind js) ≠ none) := fun e => by
    have := (firstL_spec (n := n) (f := costF kind js)).1 e (idL n) (List.Perm.refl _)
    cases this
  have g1 : ¬ (6 : Int) < (n : Int) := by omega
  clear hv hok hV hW2 hb2 hn hs h6 hk
  go_enter Try.func10, Try.ntmps10
  go_wp2_with fail
  rw [HW2.out]
  refine (HA.out W2 HB2.out).mono ?_
  rintro e W3 ⟨rfl, hb3⟩
  have HB3 := Lib.hid hb3
  have c1 := (boxedP_below X1.out hb3).cell
  have c2 := (boxedP_below X2.out hb3).cell
  have HFI3 := Lib.hid (HFI.out W3 hb3)
  clear hb3 HA HFI
  go_wp2_with fail
  refine (HW.out _).mono ?_
  rintro e w' ⟨rfl, rfl⟩
  go_wp2_with fail
  refine HFI3.out.mono ?_
  rintro e W4 ⟨hr, hb4⟩
  have HB4 : Hid (Below W2.heap.size W2 W4) := HB3.out.trans (hb4.mono HB3.out.size)
  have HB4w : Hid (Below w.heap.size w W4) := HB2.out.trans (HB4.out.mono HB2.out.size)
  have HB3s : Hid (w.heap.size ≤ W3.heap.size) := by show _ ≤ _; have := HB2.out.size; have := HB3.out.size; omega
  clear hb4 HFI3
  rcases hr with ⟨h1, _⟩ | ⟨E, l, g, c3, h1, rfl, ho⟩
  · exact absurd h1 HNN.out
  · have H1 := Lib.hid h1
    have HO := Lib.hid (ho.mono HB3s.out)
    clear h1 ho
    go_wp2
    go_ret3
    exact ⟨⟨E, l, g, c3, H1.out, rfl, HO.out⟩, HB4w.out⟩
end Go.Proofs.Ytcopjdhnmkfkfaa

namespace Go.Proofs.Ytcopjdhnmkfkfaa
open Go.RowKit
set_option linter.unusedVariables false
set_option linter.unusedSimpArgs false

theorem relTest_any (t d g : Int) (w : World) : Calls Try.prog 37 #[.agg #[.int .i64 t, .int .i64 0, .int .i64 d, .int .i64 g]] w fun e w' => e = .returned (.bool false) ∧ Below w.heap.size w w' := by
  have HB : Hid (Below w.heap.size w (w.alloc (.cells #[.int .i64 t, .int .i64 0, .int .i64 d, .int .i64 g] 37))) := (Below.refl _ w).alloc (Nat.le_refl _) _
  go_enter Try.func37, Try.ntmps37
  go_wp2
  go_ret
  exact ⟨rfl, HB.out⟩
def IdxJR (L : Nat) (w : World) (vk : Value) (wr : World) : Prop := ∃ (k : Nat), vk = .int .i64 k ∧ k ≤ L ∧ Hid (Below w.heap.size w wr)
set_option maxRecDepth 100000 in
set_option maxHeartbeats 1000000 in
theorem relIdx_any (v : Value) (js : List Jb) (w : World) (hv : Jobs w v js) (hs : SmJ js) (hf : ∀ i, i < js.length → rlJ js i = 0) :
    Calls Try.prog 51 #[v, .func (.func 37) #[] #[]] w fun e w' => e = .returned (.int .i64 (-1)) ∧ Below w.heap.size w w' := by
  obtain ⟨b, o, c, rfl, hcap, hbw, hV⟩ := jobs_view hv hs.n1
  have HV : Hid (∀ W, Below w.heap.size w W → JbView W b o js) := hV
  have HF : Hid (∀ i, i < js.length → rlJ js i = 0) := hf
  have h24 := hs.n24
  have heg := enters_of Try.func37 (by kernel_rfl) rfl
  obtain ⟨T, hT⟩ : ∃ T, js.length = T := ⟨_, rfl⟩
  have HT := Lib.hid hT
  rw [hT] at HF h24 hcap ⊢
  clear hv hs hf hV hT
  have HR0 : Hid (IdxJR T w (.int .i64 0) w) := ⟨0, rfl, Nat.zero_le _, Below.refl _ _⟩
  go_enter Try.func51, Try.ntmps51
  go_wp2
  go_loopw [8] (fun vk wr => IdxJR T w vk wr) (fun vk _ => T - (intOf vk).toNat)
  case atStart => exact HR0.out
  case round =>
    obtain ⟨k, rfl, hk, HB⟩ := hrel
    clear HR0
    by_cases hkT : k < T
    · have k0 : (0 : Int) ≤ (k : Int) := by omega
      have k1 : (k : Int) < (T : Int) := by omega
      have hc := HV.out wr HB.out k (by rw [HT.out]; exact hkT)
      have c0 := hc.c0
      have c1 : wr.cell? ⟨b, o + k * 4 + 1, none⟩ = some (.int .i64 0) := by rw [hc.c1, show (jbN js k).2.1 = 0 from HF.out k hkT]
      have c2 := hc.c2
      have c3 := hc.c3
      obtain ⟨x0, h0⟩ : ∃ x, (jbN js k).1 = x := ⟨_, rfl⟩
      obtain ⟨x2, h2⟩ : ∃ x, (jbN js k).2.2.1 = x := ⟨_, rfl⟩
      obtain ⟨x3, h3⟩ : ∃ x, (jbN js k).2.2.2 = x := ⟨_, rfl⟩
      rw [h0] at c0
      rw [h2] at c2
      rw [h3] at c3
      have HTT := Lib.hid (relTest_any x0 x2 x3 wr)
      clear h0 h2 h3 hc
      go_wp2_with fail
      refine HTT.out.mono ?_
      rintro e W2 ⟨rfl, hb2⟩
      have HB2 : Hid (Below w.heap.size w W2) := HB.out.trans (hb2.mono HB.out.size)
      clear hb2 HTT
      go_wp2
      go_roundw
      case rel => exact ⟨k + 1, by go_num, by omega, HB2.out⟩
      case measure => simp [intOf]; omega
    · have k1 : ¬ (k : Int) < (T : Int) := by omega
      clear hkT
      go_wp2
      go_ret
      exact ⟨rfl, HB.out⟩
theorem relHas_any (v : Value) (js : List Jb) (w : World) (hv : Jobs w v js) (hs : SmJ js) (hf : ∀ i, i < js.length → rlJ js i = 0) :
    Calls Try.prog 36 #[v, .func (.func 37) #[] #[]] w fun e w' => e = .returned (.bool false) ∧ Below w.heap.size w w' := by
  have HC := Lib.hid (relIdx_any v js w hv hs hf)
  obtain ⟨b, o, c, rfl, hcap, hbw, hV⟩ := jobs_view hv hs.n1
  obtain ⟨n, hn⟩ : ∃ n, js.length = n := ⟨_, rfl⟩
  rw [hn] at HC ⊢
  clear hv hs hf hV hn hcap
  go_enter Try.func36, Try.ntmps36
  go_wp2_with fail
  refine HC.out.mono ?_
  rintro e W2 ⟨rfl, hb⟩
  have HB := Lib.hid hb
  clear hb
  go_wp2
  go_ret
  exact ⟨rfl, HB.out⟩
theorem atOnce_any (v : Value) (js : List Jb) (w : World) (hv : Jobs w v js) (hok : jobsOk js = true) (hf : ∀ i, i < js.length → rlJ js i = 0) :
    Calls Try.prog 21 #[v] w fun e w' => e = .returned (.bool true) ∧ Below w.heap.size w w' := by
  have hs := jobs_sm hok
  have HA := Lib.hid (areJobs_any v js w hv)
  rw [hok] at HA
  have HH : Hid (∀ W, Below w.heap.size w W → Calls Try.prog 36 #[v, .func (.func 37) #[] #[]] W fun e w' => e = .returned (.bool false) ∧ Below W.heap.size W w') := fun W hW => relHas_any v js W (hv.below hW (Nat.le_refl _)) hs hf
  obtain ⟨b, o, c, rfl, hcap, hbw, hV⟩ := jobs_view hv hs.n1
  obtain ⟨n, hn⟩ : ∃ n, js.length = n := ⟨_, rfl⟩
  rw [hn] at HA HH ⊢
  clear hv hok hs hf hV hn hcap
  go_enter Try.func21, Try.ntmps21
  go_wp2_with fail
  refine HA.out.mono ?_
  rintro e W1 ⟨rfl, hb1⟩
  have HB1 := Lib.hid hb1
  clear hb1 HA
  go_wp2_with fail
  refine (HH.out _ HB1.out).mono ?_
  rintro e W2 ⟨rfl, hb2⟩
  have HB2 : Hid (Below w.heap.size w W2) := HB1.out.trans (hb2.mono HB1.out.size)
  clear hb2
  go_wp2
  go_ret
  exact ⟨rfl, HB2.out⟩
end Go.Proofs.Ytcopjdhnmkfkfaa

namespace Go.Proofs.Ytcopjdhnmkfkfaa
open Go.RowKit Go.Shelf
set_option linter.unusedVariables false
set_option linter.unusedSimpArgs false

/-- What a closure on integers answers, in w and in every later world. -/
def Tells (w : World) (g : Nat) (cap : Array Value) (xs : List Int) (p : Int → Bool) : Prop :=
  ∀ W, Below w.heap.size w W → ∀ x ∈ xs, Calls Try.prog g (#[.int .i64 x] ++ cap) W fun e W' => e = .returned (.bool (p x)) ∧ Below W.heap.size W W'

end Go.Proofs.Ytcopjdhnmkfkfaa

namespace Go.Proofs.Ytcopjdhnmkfkfaa
open Go.RowKit
set_option linter.unusedVariables false
set_option linter.unusedSimpArgs false

def dueK (js : List Jb) (x : Int) : Int := duJ js x.toNat
theorem boxed_blwJ {W W' : World} {b N : Nat} {t : TypeId} {v : Value} (h : Boxed W b t v) (hb : Below N W W') (hl : b < N) : Boxed W' b t v := (hb.block _ hl).trans h
theorem dueKey_any (b o c : Nat) (js : List Jb) (bx : Nat) (x : Int) (W : World) (hb : Boxed W bx 25 (.slice (some ⟨b, o, none⟩) js.length c)) (hv : JbView W b o js) (h0 : 0 ≤ x) (hx : x < js.length) :
    KeyAt 45 #[.pointer (some ⟨bx, 0, none⟩)] (dueK js) x W := by
  obtain ⟨i, rfl⟩ : ∃ i : Nat, x = i := ⟨x.toNat, by omega⟩
  have hi : i < js.length := by omega
  have hE : Hid (dueK js (i : Int) = duJ js i) := by show _ = _; unfold dueK; rw [Int.toNat_natCast]
  have c2 := (hv i hi).c2
  obtain ⟨d, hd⟩ : ∃ d, duJ js i = d := ⟨_, rfl⟩
  rw [show (jbN js i).2.2.1 = d from hd] at c2
  rw [hd] at hE
  have hbc := hb.cell
  clear hb hv hd
  unfold KeyAt
  go_enter Try.func45, Try.ntmps45
  go_wp2
  go_ret
  exact ⟨ret_int hE.out.symm, 0, rfl⟩

set_option maxRecDepth 100000 in
set_option maxHeartbeats 2000000 in
theorem orderDue_any (v : Value) (js : List Jb) (w : World) (hv : Jobs w v js) (h1 : 1 ≤ js.length) (hl : js.length ≤ 24) :
    Calls Try.prog 32 #[v, .int .i64 1] w fun e w' => (∃ g c E, e = .returned (.slice (some ⟨g, 0, none⟩) js.length c) ∧ OwnI w' w.heap.size (.slice (some ⟨g, 0, none⟩) js.length c) E ∧ js.length = E.length ∧ SortsBy (dueK js) js.length E) ∧ Below w.heap.size w w' := by
  obtain ⟨b, o, c, rfl, hcap, hbw, hV⟩ := jobs_view hv (by omega)
  obtain ⟨W0, hW0⟩ : ∃ W, w.alloc (.cells #[.slice (some ⟨b, o, none⟩) js.length c] 25) = W := ⟨_, rfl⟩
  have HB0 : Hid (Below w.heap.size w W0) := by show Below _ _ _; rw [← hW0]; exact (Below.refl _ w).alloc (Nat.le_refl _) _
  have hBX : Boxed W0 w.heap.size 25 (.slice (some ⟨b, o, none⟩) js.length c) := by rw [← hW0]; exact Boxed.new _ _ _
  have HSZ : Hid (W0.heap.size = w.heap.size + 1) := by show _ = _; rw [← hW0]; simp
  have hbc := hBX.cell
  have HS := Lib.hid (sortedBy_any js.length 45 #[.pointer (some ⟨w.heap.size, 0, none⟩)] (dueK js) W0 (by omega) (fun W x h0 hx hW => dueKey_any b o c js w.heap.size x W (boxed_blwJ hBX hW (by have := HSZ.out; omega)) (hV W (HB0.out.trans (hW.mono HB0.out.size))) h0 hx)
      (enters_of Try.func45 (by kernel_rfl) rfl))
  obtain ⟨T, hT⟩ : ∃ T, js.length = T := ⟨_, rfl⟩
  rw [hT] at HS hcap hbc h1 hl hW0 ⊢
  clear hBX hV hv hT
  go_enter Try.func32, Try.ntmps32
  go_wp2_with fail
  refine HS.out.mono ?_
  rintro e W3 ⟨⟨ge, ce, E, rfl, ho, hlE, hsort⟩, hb⟩
  have HR : Hid ((OwnI W3 w.heap.size (.slice (some ⟨ge, 0, none⟩) T ce) E ∧ T = E.length ∧ SortsBy (dueK js) T E) ∧ Below w.heap.size w W3) := ⟨⟨ho.mono HB0.out.size, hlE, hsort⟩, HB0.out.trans (hb.mono HB0.out.size)⟩
  clear ho hb hlE hsort HS HSZ HB0
  go_wp2
  go_ret
  exact ⟨⟨ge, ce, E, rfl, HR.out.1⟩, HR.out.2⟩
end Go.Proofs.Ytcopjdhnmkfkfaa

namespace Go.Proofs.Ytcopjdhnmkfkfaa
open Go.RowKit
set_option linter.unusedVariables false
set_option linter.unusedSimpArgs false

theorem grownBy_trans2 {a b c : World} {g : Nat} (h : a.grownBy b (some g)) (k : b.grownBy c (some g)) : a.grownBy c (some g) :=
  ⟨k.os.trans h.os, k.tape.trans h.tape, k.output.trans h.output, Nat.le_trans h.size k.size, fun i hi hne => (k.block i (Nat.lt_of_lt_of_le hi h.size) hne).trans (h.block i hi hne)⟩
theorem OwnI.setCells {B g n c : Nat} : ∀ (ys : List Int) (k : Nat) (xs : List Int) (w : World), OwnI w B (.slice (some ⟨g, 0, none⟩) n c) xs → n = xs.length → k + ys.length ≤ xs.length →
    ∃ zs, OwnI (w.setCells g k (ys.map (Value.int .i64))) B (.slice (some ⟨g, 0, none⟩) n c) zs ∧ n = zs.length ∧ zs = xs.take k ++ ys ++ xs.drop (k + ys.length) ∧ w.grownBy (w.setCells g k (ys.map (Value.int .i64))) (some g)
  | [], k, xs, w, h, hn, hk => ⟨xs, h, hn, by simp, ⟨rfl, rfl, rfl, Nat.le_refl _, fun _ _ _ => rfl⟩⟩
  | y :: ys, k, xs, w, h, hn, hk => by
    rw [List.length_cons] at hk
    obtain ⟨_, _, h3, h4⟩ := h.store hn k (by omega) y
    obtain ⟨zs, z1, z2, z3, z4⟩ := OwnI.setCells ys (k + 1) (xs.set k y) _ h3 (by rw [List.length_set]; exact hn) (by rw [List.length_set]; omega)
    refine ⟨zs, z1, z2, ?_, grownBy_trans2 h4 z4⟩
    have e1 : (xs.set k y).take (k + 1) = xs.take k ++ [y] := by
      rw [List.set_eq_take_append_cons_drop, if_pos (by omega)]
      rw [List.take_append, List.take_of_length_le (by simp; omega), List.length_take, Nat.min_eq_left (by omega), show k + 1 - k = 1 by omega]
      rfl
    rw [z3, List.length_cons, List.drop_set_of_lt (by omega), e1, show k + 1 + ys.length = k + (ys.length + 1) by omega]
    simp
theorem delete_any (g c i n B : Nat) (xs : List Int) (w : World) (h : OwnI w B (.slice (some ⟨g, 0, none⟩) n c) xs) (hn : n = xs.length) (hi : i < n) :
    Calls Try.prog 33 #[.slice (some ⟨g, 0, none⟩) n c, .int .i64 i, .int .i64 (i + 1 : Nat)] w fun e w' => e = .returned (.slice (some ⟨g, 0, none⟩) (n - 1) c) ∧ OwnI w' B (.slice (some ⟨g, 0, none⟩) (n - 1) c) (xs.eraseIdx i) ∧ w.grownBy w' (some g) := by
  have hcm : n ≤ c ∧ c ≤ 9223372036854775807 := by
    rcases h.2 with ⟨h1, _⟩ | ⟨g', cap, cur, h1, h2, h3, h4, h5, h6, h7⟩
    · cases h1
    · obtain ⟨rfl, rfl⟩ : g = g' ∧ c = cap := by simp at h1; exact ⟨h1.1, h1.2.2⟩
      subst hn
      unfold maxLen at *
      omega
  have h1 := Try.slices_Delete_int_cells g 0 n c i (i + 1) xs w (by omega) hcm.1 hcm.2 (by omega) (by omega)
    (fun j hj => by rw [Nat.zero_add, h.at_ hn j hj, nth_eq hj, List.getD_eq_getElem?_getD, List.getElem?_eq_getElem hj]; rfl)
    (fun j hj => by rw [Nat.zero_add]; exact (h.store hn j (by omega) 0).2.1)
  refine h1.mono ?_
  rintro e w' ⟨rfl, q, rfl⟩
  have ht : xs.take n = xs := by rw [hn, List.take_length]
  rw [ht, show n - (i + 1 - i) = n - 1 by omega, show i + 1 - i = 1 by omega]
  have hl : (xs.take i ++ xs.drop (i + 1) ++ List.replicate 1 (0 : Int)).length = xs.length := by simp; omega
  obtain ⟨zs, z1, z2, z3, z4⟩ := OwnI.setCells (xs.take i ++ xs.drop (i + 1) ++ List.replicate 1 (0 : Int)) 0 xs (w.drewN q) (h.drewN q) hn (by rw [hl]; omega)
  refine ⟨rfl, ?_, ?_⟩
  · have z5 := z1.cut (n - 1) (by omega) z2
    rw [z3] at z5
    have : (xs.take 0 ++ (xs.take i ++ xs.drop (i + 1) ++ List.replicate 1 (0 : Int)) ++ xs.drop (0 + (xs.take i ++ xs.drop (i + 1) ++ List.replicate 1 (0 : Int)).length)).take (n - 1) = xs.eraseIdx i := by
      rw [hl, Nat.zero_add, List.drop_length, List.take_zero, List.nil_append, List.append_nil, List.eraseIdx_eq_take_drop_succ]
      rw [List.take_append_of_le_length (by simp; omega), List.take_of_length_le (by simp; omega)]
    rw [this] at z5
    exact z5
  · exact ⟨z4.os, z4.tape, z4.output, z4.size, z4.block⟩
end Go.Proofs.Ytcopjdhnmkfkfaa
