
/- colourings: the whole function. Conditions: valid clashes. -/
import Derived.Test.YtmhepomjbaendaaColGen
namespace Go.Proofs.Ytmhepomjbaendaa
open Go.RowKit Go.Shelf Go.BigFrame
set_option linter.unusedVariables false
set_option linter.unusedSimpArgs false
attribute [local go_sem] Oper.semAt_some

theorem colStart {w W2 : World} {gs gc t most K : Nat} {cap : Array Value} {xs : List Int} (hrow : OwnI w 0 (.slice (some ⟨gs, 0, none⟩) t t) (mInts (masks t xs)))
    (hb2 : Below (w.heap.size + 3) (((w.alloc (.cells #[.slice (some ⟨gs, 0, none⟩) t t] 25)).alloc (.cells #[.int .i64 most] 2)).alloc (.cells #[.func (.func K) #[] cap] 81)) W2) :
    ColE ((W2.alloc (.cells #[.slice (some ⟨gc, 0, none⟩) t t] 25)).alloc (.cells #[colF w.heap.size (w.heap.size + 1 + 1) W2.heap.size (w.heap.size + 1) (W2.heap.size + 1)] 131)) w.heap.size (w.heap.size + 1 + 1) W2.heap.size (w.heap.size + 1) (W2.heap.size + 1) gs gc t most xs (.func (.func K) #[] cap) (colF w.heap.size (w.heap.size + 1 + 1) W2.heap.size (w.heap.size + 1) (W2.heap.size + 1))
      ∧ Below w.heap.size w ((W2.alloc (.cells #[.slice (some ⟨gc, 0, none⟩) t t] 25)).alloc (.cells #[colF w.heap.size (w.heap.size + 1 + 1) W2.heap.size (w.heap.size + 1) (W2.heap.size + 1)] 131)) := by
  have hs2 := hb2.size
  have hA : Below W2.heap.size W2 ((W2.alloc (.cells #[.slice (some ⟨gc, 0, none⟩) t t] 25)).alloc (.cells #[colF w.heap.size (w.heap.size + 1 + 1) W2.heap.size (w.heap.size + 1) (W2.heap.size + 1)] 131)) := ((Below.refl _ _).alloc (Nat.le_refl _) _).alloc (by simp) _
  have h0 : Below w.heap.size w (((w.alloc (.cells #[.slice (some ⟨gs, 0, none⟩) t t] 25)).alloc (.cells #[.int .i64 most] 2)).alloc (.cells #[.func (.func K) #[] cap] 81)) := (((Below.refl _ _).alloc (Nat.le_refl _) _).alloc (by simp) _).alloc (by simp; omega) _
  simp only [World.size_alloc] at hs2
  have h1 := h0.trans (hb2.mono (by omega))
  have h2 := h1.trans (hA.mono (by omega))
  have b3 : ∀ {b : Nat} {T : TypeId} {v : Value}, Boxed (((w.alloc (.cells #[.slice (some ⟨gs, 0, none⟩) t t] 25)).alloc (.cells #[.int .i64 most] 2)).alloc (.cells #[.func (.func K) #[] cap] 81)) b T v → Boxed ((W2.alloc (.cells #[.slice (some ⟨gc, 0, none⟩) t t] 25)).alloc (.cells #[colF w.heap.size (w.heap.size + 1 + 1) W2.heap.size (w.heap.size + 1) (W2.heap.size + 1)] 131)) b T v := fun h =>
    boxed_below (boxed_below h (by simpa using hb2)) hA
  refine ⟨⟨b3 ?_, hrow.below h2 (Nat.le_refl _), b3 ?_, ?_, b3 ?_, ?_⟩, h2⟩
  · exact ((Boxed.new w _ _).alloc _).alloc _
  · have := Boxed.new ((w.alloc (.cells #[.slice (some ⟨gs, 0, none⟩) t t] 25)).alloc (.cells #[.int .i64 most] 2)) 81 (.func (.func K) #[] cap)
    simp only [World.size_alloc] at this
    exact this
  · exact (Boxed.new W2 _ _).alloc _
  · have := (Boxed.new (w.alloc (.cells #[.slice (some ⟨gs, 0, none⟩) t t] 25)) 2 (.int .i64 most)).alloc (.cells #[.func (.func K) #[] cap] 81)
    simp only [World.size_alloc] at this
    exact this
  · have := Boxed.new (W2.alloc (.cells #[.slice (some ⟨gc, 0, none⟩) t t] 25)) 131 (colF w.heap.size (w.heap.size + 1 + 1) W2.heap.size (w.heap.size + 1) (W2.heap.size + 1))
    simp only [World.size_alloc] at this
    exact this

set_option maxRecDepth 100000 in
set_option maxHeartbeats 2000000 in
theorem colourings_gen {σ : Type} (t most : Nat) (xs : List Int) (gs K : Nat) (cap : Array Value) (D : List Nat) (St : Nat → σ → World → Prop) (step : σ → List Int → σ × Bool) (ht1 : 1 ≤ t) (ht : t ≤ 12) (hmost : most ≤ 1000000) (hw : ∀ k, k < xs.length → 0 ≤ nth xs k ∧ nth xs k < (t : Int)) (w : World)
    (hrow : OwnI w 0 (.slice (some ⟨gs, 0, none⟩) t t) (mInts (masks t xs))) (hdo : ∀ gc, w.heap.size ≤ gc → DoK σ w.heap.size gc t K cap D (St gc) step) (hD : ∀ i ∈ D, i < w.heap.size ∧ i ≠ gs) (s : σ) (hs : ∀ gc, w.heap.size ≤ gc → St gc s w) :
    Calls Try.prog 86 #[.slice (some ⟨gs, 0, none⟩) t t, .int .i64 most, .func (.func K) #[] cap] w fun e w' => e = .returned (.tuple #[]) ∧ (∃ gc, w.heap.size ≤ gc ∧ St gc (runCol xs most step t [] s).1 w') ∧ GrownL D w w' := by
  have hmf : ∀ (fn : Fn) (first cap : Array Value) (w : World), (Instr.makeFunc fn first cap).run Try.prog w = .ok (.func fn first cap) w := fun _ _ _ _ => rfl
  have heg := enters_of Try.func128 (by kernel_rfl) rfl
  have hgs := hrow.lt gs rfl
  have HW := Lib.hid hw
  have HROW := Lib.hid hrow
  have HDO := Lib.hid hdo
  have HDD := Lib.hid hD
  have HS := Lib.hid hs
  have HNN : Hid (∀ W, Calls Try.prog 95 #[.int .i64 t] W fun e w' => (∃ g, e = .returned (.slice (some ⟨g, 0, none⟩) t t) ∧ OwnI w' W.heap.size (.slice (some ⟨g, 0, none⟩) t t) (List.replicate t (-1))) ∧ Below W.heap.size W w') := fun W => none_any t W ht1 (by omega)
  clear hw hrow hdo hD hs
  go_enter Try.func86, Try.ntmps86
  go_wp2_with (go_at_call 95; refine (HNN.out _).mono ?_; rintro e W2 ⟨⟨gc, rfl, hoc⟩, hb2⟩; have HOC := Lib.hid hoc; have HB2 := Lib.hid hb2; clear hoc hb2)
  have hB2 : Below (w.heap.size + 3) (((w.alloc (.cells #[.slice (some ⟨gs, 0, none⟩) t t] 25)).alloc (.cells #[.int .i64 most] 2)).alloc (.cells #[.func (.func K) #[] cap] 81)) W2 := by have := HB2.out; simpa using this
  obtain ⟨hE, hB⟩ := colStart (gc := gc) HROW.out hB2
  have hlt := HOC.out.lt gc rfl
  have hs2 := hB2.size
  simp only [World.size_alloc] at hlt hs2
  have hG : GrownL D w ((W2.alloc (.cells #[.slice (some ⟨gc, 0, none⟩) t t] 25)).alloc (.cells #[colF w.heap.size (w.heap.size + 1 + 1) W2.heap.size (w.heap.size + 1) (W2.heap.size + 1)] 131)) := (GrownL.refl D w).below hB (Nat.le_refl _)
  have hS := (HDO.out gc (by omega)).kept s w _ (HS.out gc (by omega)) ((GrownL.refl [gc] w).below hB (Nat.le_refl _))
  refine (colPut_any t most xs w.heap.size w.heap.size (w.heap.size + 1 + 1) W2.heap.size (w.heap.size + 1) (W2.heap.size + 1) gs gc K cap D (St gc) step ht hmost HW.out (HDO.out gc (by omega)) (fun e => by have := (HDD.out gc e).1; omega) (by omega) (by omega) (by omega) (by omega) (by omega) (by omega) HDD.out t 0 (by omega) _ s (List.replicate t (-1)) hS hE (((HOC.out.mono (by simp; omega)).alloc _).alloc _) (by simp) 0 rfl).mono ?_
  rintro e W5 ⟨rfl, hs5, hg5, _⟩
  have HS5 := Lib.hid hs5
  have HG5 : Hid (GrownL D w W5) := hG.trans2 hg5 (fun i hi => by
    rcases List.mem_cons.1 hi with e | e
    · exact .inr (by omega)
    · exact .inl e)
  clear hs5 hg5 hG hE hB hB2
  go_wp2
  go_end0
  exact ⟨rfl, ⟨gc, by omega, HS5.out⟩, HG5.out⟩
theorem colourings_any {σ : Type} (t most : Nat) (xs : List Int) (gs K : Nat) (cap : Array Value) (D : List Nat) (St : σ → World → Prop) (step : σ → List Int → σ × Bool) (ht1 : 1 ≤ t) (ht : t ≤ 12) (hmost : most ≤ 1000000) (hw : ∀ k, k < xs.length → 0 ≤ nth xs k ∧ nth xs k < (t : Int)) (w : World)
    (hrow : OwnI w 0 (.slice (some ⟨gs, 0, none⟩) t t) (mInts (masks t xs))) (hdo : ∀ gc, w.heap.size ≤ gc → DoK σ w.heap.size gc t K cap D St step) (hD : ∀ i ∈ D, i < w.heap.size ∧ i ≠ gs) (s : σ) (hs : St s w) :
    Calls Try.prog 86 #[.slice (some ⟨gs, 0, none⟩) t t, .int .i64 most, .func (.func K) #[] cap] w fun e w' => e = .returned (.tuple #[]) ∧ St (runCol xs most step t [] s).1 w' ∧ GrownL D w w' :=
  (colourings_gen t most xs gs K cap D (fun _ => St) step ht1 ht hmost hw w hrow hdo hD s (fun _ _ => hs)).mono fun _ _ ⟨h1, ⟨_, _, h2⟩, h3⟩ => ⟨h1, h2, h3⟩
end Go.Proofs.Ytmhepomjbaendaa
