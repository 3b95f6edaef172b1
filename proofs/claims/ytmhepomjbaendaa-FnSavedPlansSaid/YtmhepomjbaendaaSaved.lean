
/- Saved plans: how they read; the laws' szSaved, toSaved, eqSaved. Conditions: at most 2^20 numbers. -/
import Derived.Test.YtmhepomjbaendaaTasksToS
namespace Go.Proofs.Ytmhepomjbaendaa
open Go.RowKit
set_option linter.unusedVariables false
set_option linter.unusedSimpArgs false

abbrev Sv := ByteArray × List Tk × List Int
def rSaved : Rdr Sv := rPair rStr (rPair (rSl rTask) (rSl rInt))
theorem saved_cells {w : World} {cs : List Value} {x : Sv} : rSaved.R w cs x ↔ ∃ vt vs, cs = [.string x.1, vt, vs] ∧ x.1.size ≤ maxLen ∧ TasksR w vt x.2.1 ∧ SlR rInt w vs x.2.2 := by
  constructor
  · rintro ⟨c1, c2, rfl, ⟨rfl, h1⟩, c3, c4, rfl, ⟨vt, rfl, h2⟩, vs, rfl, h3⟩
    exact ⟨vt, vs, rfl, h1, h2, h3⟩
  · rintro ⟨vt, vs, rfl, h1, h2, h3⟩
    exact ⟨_, _, rfl, ⟨rfl, h1⟩, _, _, rfl, ⟨vt, rfl, h2⟩, vs, rfl, h3⟩
def smallSaved (x : Sv) : Prop := x.1.size ≤ 1048576 ∧ smallTasks x.2.1 ∧ x.2.2.length ≤ 1048576
def savedV (s : ByteArray) (vt vs : Value) : Value := .agg #[.string s, vt, vs]

set_option maxRecDepth 100000 in
set_option maxHeartbeats 1000000 in
theorem eqSaved_same (s : ByteArray) (vt vs ut us : Value) (ts : List Tk) (st : List Int) (w : World) (ht : TasksR w vt ts) (hs : Ints w vs st) (ht' : TasksR w ut ts) (hs' : Ints w us st) :
    Calls Try.prog 44 #[savedV s vt vs, savedV s ut us] w fun e w' => e = .returned (.bool true) ∧ Below w.heap.size w w' := by
  have H1 : Hid (∀ W, Below w.heap.size w W → Calls Try.prog 103 #[vt, ut] W fun e w' => e = .returned (.bool true) ∧ Below W.heap.size W w') := fun W hW => eqTaskS_same vt ut ts W (ht.below hW (Nat.le_refl _)) (ht'.below hW (Nat.le_refl _))
  have H2 : Hid (∀ W, Below w.heap.size w W → Calls Try.prog 104 #[vs, us] W fun e w' => e = .returned (.bool true) ∧ Below W.heap.size W w') := fun W hW => by
    have := eqInt64S_any vs us st st W (hs.below hW (Nat.le_refl _)) (hs'.below hW (Nat.le_refl _)); rwa [beq_self_eq_true] at this
  obtain ⟨_, t1, t2, rfl, _⟩ := ht
  obtain ⟨_, s1, s2, rfl, _⟩ := hs
  obtain ⟨_, t3, t4, rfl, _⟩ := ht'
  obtain ⟨_, s3, s4, rfl, _⟩ := hs'
  unfold savedV
  go_enter Try.func44, Try.ntmps44
  go_wp2_with fail
  obtain ⟨W0, hW0⟩ : ∃ W0, ((w.alloc (.cells #[.string s, .slice t1 ts.length t2, .slice s1 st.length s2] 44)).alloc (.cells #[.string s, .slice t3 ts.length t4, .slice s3 st.length s4] 44)) = W0 := ⟨_, rfl⟩
  have hB0 : Below w.heap.size w W0 := by rw [← hW0]; exact ((Below.refl _ w).alloc (Nat.le_refl _) _).alloc (by simp) _
  have k1 : Blk W0 w.heap.size 44 [.string s, .slice t1 ts.length t2, .slice s1 st.length s2] := by rw [← hW0]; exact (Blk.new w _ _).alloc _
  have k2 : Blk W0 (w.heap.size + 1) 44 [.string s, .slice t3 ts.length t4, .slice s3 st.length s4] := by
    rw [← hW0]
    have := Blk.new (w.alloc (.cells #[.string s, .slice t1 ts.length t2, .slice s1 st.length s2] 44)) 44 [.string s, .slice t3 ts.length t4, .slice s3 st.length s4]
    rwa [World.size_alloc] at this
  rw [hW0]
  have HB0 := Lib.hid hB0
  have l1' := k1.lt
  have l2' := k2.lt
  clear hW0 hB0
  refine (H1.out W0 HB0.out).mono ?_
  rintro e W1 ⟨rfl, hb1⟩
  have m1 := k1.below hb1 l1'
  have m2 := k2.below hb1 l2'
  have c1 := m1.cell 2 _ rfl
  have c2 := m2.cell 2 _ rfl
  have HB1 := Lib.hid (HB0.out.trans (hb1.mono HB0.out.size))
  clear hb1 m1 m2 k1 k2
  go_wp2_with fail
  refine (H2.out W1 HB1.out).mono ?_
  rintro e W2 ⟨rfl, hb2⟩
  have HB2 := Lib.hid (HB1.out.trans (hb2.mono HB1.out.size))
  clear hb2
  go_wp2
  go_ret
  exact ⟨rfl, HB2.out⟩
end Go.Proofs.Ytmhepomjbaendaa
