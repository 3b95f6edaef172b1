
/- GreatClique, the program: the closure that calls itself, by a contract of its own. Conditions: valid clashes. -/
import Derived.Test.YtmhepomjbaendaaCliquePlain
import Derived.Test.YtmhepomjbaendaaAppendLies
import Derived.Test.YtmhepomjbaendaaClone
import Derived.Test.YtmhepomjbaendaaFuncs
import Derived.Test.YtmhepomjbaendaaCanHave
import Derived.Test.YtmhepomjbaendaaCircle
import Derived.Deep.LoopGhost
namespace Go.Proofs.Ytmhepomjbaendaa
open Go.RowKit Go.Shelf Go.BigFrame
set_option linter.unusedVariables false
set_option linter.unusedSimpArgs false
attribute [local go_sem] Oper.semAt_some

/-- What the two variables hold: the list, and the best one. -/
structure CliqB (W : World) (B bl bb : Nat) (l best : List Int) (gl : Nat) : Prop where
  list : ∃ c, Boxed W bl 25 (.slice (some ⟨gl, 0, none⟩) l.length c) ∧ OwnI W B (.slice (some ⟨gl, 0, none⟩) l.length c) l
  best : ∃ a c, Boxed W bb 25 (.slice a best.length c) ∧ OwnI W B (.slice a best.length c) best ∧ (Value.slice a best.length c).ownBlock ≠ some gl
/-- What the other variables hold. -/
structure CliqE (W : World) (be bs bp gs : Nat) (t : Nat) (xs : List Int) (F : Value) : Prop where
  exams : Boxed W be 2 (.int .i64 t)
  sets : Boxed W bs 25 (.slice (some ⟨gs, 0, none⟩) t t)
  row : OwnI W 0 (.slice (some ⟨gs, 0, none⟩) t t) (mInts (masks t xs))
  put : Boxed W bp 108 F
theorem CliqE.grown {W W' : World} {be bs bp gs : Nat} {t : Nat} {xs : List Int} {F : Value} {L : List Nat} (h : CliqE W be bs bp gs t xs F) (hg : GrownL L W W') (h1 : be ∉ L) (h2 : bs ∉ L) (h3 : bp ∉ L) (h4 : gs ∉ L) : CliqE W' be bs bp gs t xs F :=
  ⟨hg.boxed h.exams h1, hg.boxed h.sets h2, hg.own h.row h4, hg.boxed h.put h3⟩
/-- The closure in the test. -/
theorem cliqTest_any (k i : Nat) (t : Nat) (xs : List Int) (bs bi gs : Nat) (W : World) (h1 : Boxed W bs 25 (.slice (some ⟨gs, 0, none⟩) t t)) (h2 : Boxed W bi 2 (.int .i64 i)) (h3 : OwnI W 0 (.slice (some ⟨gs, 0, none⟩) t t) (mInts (masks t xs)))
    (ht : t ≤ 12) (hw : ∀ k, k < xs.length → 0 ≤ nth xs k ∧ nth xs k < (t : Int)) (hi : i < t) (hk : k < t) :
    Calls Try.prog 92 #[.int .i64 k, .pointer (some ⟨bs, 0, none⟩), .pointer (some ⟨bi, 0, none⟩)] W fun e W' => e = .returned (.bool (!clashB xs (k : Int) (i : Int))) ∧ W = W' := by
  have hinv := masks_inv ht hw
  have hcell := h3.at_ (by rw [mInts_length, hinv.len]) i (by rw [mInts_length, hinv.len]; exact hi)
  have hbit := masks_bit ht hw i k hi
  have h12 := hinv.lt i
  rw [mInts_nth] at hcell
  obtain ⟨X, hX⟩ : ∃ X, mAt (masks t xs) i = X := ⟨_, rfl⟩
  rw [hX] at hcell hbit h12
  have hb := bit_of X k h12
  have hc1 := h1.cell
  have hc2 := h2.cell
  have i0 : (0 : Int) ≤ (i : Int) := by omega
  have i1 : (i : Int) < (t : Int) := by omega
  have k0 : (0 : Int) ≤ (k : Int) := by omega
  have k2 : (k : Int) ≤ 64 := by omega
  rw [clashB_comm] at hbit
  obtain ⟨cb, hcb⟩ : ∃ cb, clashB xs (k : Int) (i : Int) = cb := ⟨_, rfl⟩
  rw [hcb] at hbit ⊢
  rw [hbit] at hb
  clear hX hcb hbit h1 h2 h3 hinv hw
  cases cb
  · simp only [Bool.false_eq_true, if_false] at hb
    go_enter Try.func92, Try.ntmps92
    go_wp2
    go_ret
    exact ⟨rfl, rfl⟩
  · simp only [if_true] at hb
    go_enter Try.func92, Try.ntmps92
    go_wp2
    go_ret
    exact ⟨rfl, rfl⟩
theorem boxed_below {W W' : World} {b : Nat} {t : TypeId} {v : Value} (h : Boxed W b t v) (hb : Below W.heap.size W W') : Boxed W' b t v := by
  have h0 : W.heap[b]? = some (.cells #[v] t (0, 0)) := h
  exact (hb.block b (Array.getElem?_eq_some_iff.1 h0).1).trans h0
theorem boxed_setFar {W : World} {b b' : Nat} {t : TypeId} {v u : Value} (h : Boxed W b t v) (hne : b ≠ b') : Boxed (W.setCell ⟨b', 0, none⟩ u) b t v :=
  (Below.heap_setCell _ _ _ _ hne).trans h
theorem GrownL.trans2 {gs hs : List Nat} {A B C : World} (h : GrownL gs A B) (k : GrownL hs B C) (hh : ∀ i ∈ hs, i ∈ gs ∨ A.heap.size ≤ i) : GrownL gs A C :=
  ⟨k.os.trans h.os, k.tape.trans h.tape, k.output.trans h.output, Nat.le_trans h.size k.size, fun i hi hn => (k.block i (Nat.lt_of_lt_of_le hi h.size) (fun e => by
    rcases hh i e with h1 | h1
    · exact hn h1
    · omega)).trans (h.block i hi hn)⟩
theorem CliqB.below {W W' : World} {B bl bb : Nat} {l best : List Int} {gl : Nat} (h : CliqB W B bl bb l best gl) (hb : Below W.heap.size W W') : CliqB W' B bl bb l best gl := by
  obtain ⟨c, h1, h2⟩ := h.list
  obtain ⟨a, c', h3, h4, h5⟩ := h.best
  exact ⟨⟨c, boxed_below h1 hb, h2.below hb (Nat.le_refl _)⟩, ⟨a, c', boxed_below h3 hb, h4.below hb (Nat.le_refl _), h5⟩⟩
theorem CliqB.lt {W : World} {B bl bb : Nat} {l best : List Int} {gl : Nat} (h : CliqB W B bl bb l best gl) : B ≤ gl ∧ gl < W.heap.size ∧ bl < W.heap.size ∧ bb < W.heap.size ∧ gl ≠ bl ∧ gl ≠ bb := by
  obtain ⟨c, h1, h2⟩ := h.list
  obtain ⟨a, c', h3, h4, h5⟩ := h.best
  have := h2.lt gl rfl
  exact ⟨this.1, this.2, h1.lt, h3.lt, own_ne h1 h2, own_ne h3 h2⟩
theorem own_neV {w : World} {B N n c : Nat} {v : Value} {a : Option Addr} {xs : List Int} (hb : Boxed w B 25 v) (ho : OwnI w N (.slice a n c) xs) : (Value.slice a n c).ownBlock ≠ some B := by
  rcases ho.nil_or with ⟨h, _⟩ | ⟨g, c', h⟩
  · rw [h]; simp [Value.ownBlock]
  · rw [h] at ho ⊢
    rw [ownBlock_slice]
    intro e
    cases e
    exact own_ne hb ho rfl
theorem CliqB.push {W W2 : World} {B bl bb : Nat} {l best : List Int} {gl g1 c1 : Nat} {x : Int} (h : CliqB W B bl bb l best gl) (ho : OwnI W2 B (.slice (some ⟨g1, 0, none⟩) (l.length + 1) c1) (l ++ [x])) (hg : W.grownBy W2 (some gl)) (hl : (some gl = some g1) ∨ W.heap.size ≤ g1) (hne : bl ≠ bb) :
    CliqB (W2.setCell ⟨bl, 0, none⟩ (.slice (some ⟨g1, 0, none⟩) (l.length + 1) c1)) B bl bb (l ++ [x]) best g1 ∧ Boxed W2 bl 25 (.slice (some ⟨gl, 0, none⟩) l.length (h.list.choose)) := by
  obtain ⟨q1, q2, q3, q4, q5, q6⟩ := h.lt
  have h1 := h.list.choose_spec.1
  obtain ⟨a, c', h3, h4, h5⟩ := h.best
  have hb1 : Boxed W2 bl _ _ := h1.kept hg (by intro e; exact q5 (by injection e with e; exact e.symm))
  have hb3 : Boxed W2 bb _ _ := h3.kept hg (by intro e; exact q6 (by injection e with e; exact e.symm))
  have h4' := h4.kept hg (.inr h5)
  refine ⟨⟨⟨c1, by rw [List.length_append]; exact hb1.set _, ?_⟩, ⟨a, c', boxed_setFar hb3 hne.symm, h4'.setCell _ (own_neV hb1 h4'), ?_⟩⟩, hb1⟩
  · have h6 := ho.setCell (p := ⟨bl, 0, none⟩) (.slice (some ⟨g1, 0, none⟩) (l.length + 1) c1) (own_neV hb1 ho)
    rw [List.length_append]; exact h6
  · rcases hl with hl | hl
    · rw [← hl]; exact h5
    · intro e
      have := (h4.lt g1 e).2
      omega
theorem CliqB.pop {W : World} {B bl bb : Nat} {l best : List Int} {gl c : Nat} {x : Int} (h1 : Boxed W bl 25 (.slice (some ⟨gl, 0, none⟩) (l ++ [x]).length c)) (h2 : OwnI W B (.slice (some ⟨gl, 0, none⟩) (l ++ [x]).length c) (l ++ [x]))
    (hbest : ∃ a c, Boxed W bb 25 (.slice a best.length c) ∧ OwnI W B (.slice a best.length c) best ∧ (Value.slice a best.length c).ownBlock ≠ some gl) (hne : bl ≠ bb) :
    CliqB (W.setCell ⟨bl, 0, none⟩ (.slice (some ⟨gl, 0, none⟩) l.length c)) B bl bb l best gl := by
  obtain ⟨a, c', h3, h4, h5⟩ := hbest
  refine ⟨⟨c, h1.set _, ?_⟩, ⟨a, c', boxed_setFar h3 hne.symm, h4.setCell _ (own_neV h1 h4), h5⟩⟩
  have := h2.cut l.length (by simp) rfl
  rw [List.take_left] at this
  exact this.setCell _ (own_neV h1 this)
theorem CliqB.took {W W1 : World} {B bl bb : Nat} {l best : List Int} {gl g c : Nat} (h : CliqB W B bl bb l best gl) (hb : Below W.heap.size W W1) (ho : OwnI W1 W.heap.size (.slice (some ⟨g, 0, none⟩) l.length c) l) (hne : bl ≠ bb) (hB : B ≤ W.heap.size) :
    CliqB (W1.setCell ⟨bb, 0, none⟩ (.slice (some ⟨g, 0, none⟩) l.length c)) B bl bb l l gl := by
  obtain ⟨q1, q2, q3, q4, q5, q6⟩ := h.lt
  obtain ⟨c2, h1, h2⟩ := (h.below hb).list
  obtain ⟨a, c', h3, h4, h5⟩ := (h.below hb).best
  have := (ho.lt g rfl).1
  have ho' := ho.mono hB
  refine ⟨⟨c2, boxed_setFar h1 hne, h2.setCell _ (own_neV h3 h2)⟩, ⟨_, c, h3.set _, ho'.setCell _ (own_neV h3 ho'), ?_⟩⟩
  rw [ownBlock_slice]
  intro e
  injection e with e
  omega

def cliqF (bl bb be bs bp : Nat) : Value := .func (.func 90) #[] #[.pointer (some ⟨bl, 0, none⟩), .pointer (some ⟨bb, 0, none⟩), .pointer (some ⟨be, 0, none⟩), .pointer (some ⟨bs, 0, none⟩), .pointer (some ⟨bp, 0, none⟩)]

/-- What holds of the other variables, the counter's box and the frame. -/
structure CliqV (W wr : World) (be bs bp gs bb bl bi gl gl' : Nat) (t : Nat) (xs : List Int) (F : Value) (i : Nat) : Prop where
  env : CliqE wr be bs bp gs t xs F
  cnt : Boxed wr bi 2 (.int .i64 i)
  frame : GrownL [bl, bb, gl] W wr
  lies : gl' = gl ∨ W.heap.size ≤ gl'
  ne : bi ≠ gl'
  lo : bb < gl'
  nl : gl' ≠ bl
  np : gl' ≠ bp
theorem cliqPushed {W wr w1 w2 : World} {B be bs bp gs bb bl bi gl gl' g1 c1 : Nat} {t : Nat} {xs : List Int} {F : Value} {i : Nat} {l best : List Int} {x : Int} (o1 : be < gs) (o2 : gs < bs) (o3 : bs < bb) (o4 : bb < bl) (o5 : bl < bp) (o6 : bp < W.heap.size) (hbi : W.heap.size ≤ bi)
    (h : CliqV W wr be bs bp gs bb bl bi gl gl' t xs F i) (hb1 : Below wr.heap.size wr w1) (hB : CliqB w1 B bl bb l best gl') (ho : OwnI w2 B (.slice (some ⟨g1, 0, none⟩) (l.length + 1) c1) (l ++ [x])) (hg : w1.grownBy w2 (some gl')) (hl : (some gl' = some g1) ∨ w1.heap.size ≤ g1) :
    CliqB (w2.setCell ⟨bl, 0, none⟩ (.slice (some ⟨g1, 0, none⟩) (l.length + 1) c1)) B bl bb (l ++ [x]) best g1 ∧ CliqV W (w2.setCell ⟨bl, 0, none⟩ (.slice (some ⟨g1, 0, none⟩) (l.length + 1) c1)) be bs bp gs bb bl bi gl g1 t xs F i ∧ (∃ v, Boxed w2 bl 25 v) ∧ Boxed w2 bi 2 (.int .i64 i) ∧ Boxed w2 bp 108 F := by
  have hp := hB.push ho hg hl (by omega)
  obtain ⟨q1, q2, q3, q4, q5, q6⟩ := hB.lt
  have hg2 : GrownL [gl'] w1 w2 := (GrownL.refl _ w1).grown hg (fun j e => .inl (by cases e; simp))
  have hlo := h.lo
  have hnp := h.np
  have hne := h.ne
  have hbil := h.cnt.lt
  have hs1 := hb1.size
  have hsz := h.frame.size
  have e1 : CliqE w1 be bs bp gs t xs F := ⟨boxed_below h.env.exams hb1, boxed_below h.env.sets hb1, h.env.row.below hb1 (Nat.le_refl _), boxed_below h.env.put hb1⟩
  have e2 : CliqE w2 be bs bp gs t xs F := e1.grown hg2 (by simp; omega) (by simp; omega) (by simp; omega) (by simp; omega)
  have b1 : Boxed w2 bi 2 (.int .i64 i) := hg2.boxed (boxed_below h.cnt hb1) (by simp; omega)
  have hg3 : GrownL [bl] w2 (w2.setCell ⟨bl, 0, none⟩ (.slice (some ⟨g1, 0, none⟩) (l.length + 1) c1)) := (GrownL.refl _ _).setCell _ _ (.inl (by simp))
  have hgl : g1 = gl' ∨ w1.heap.size ≤ g1 := hl.imp (fun e => by injection e with e; exact e.symm) id
  have hlies := h.lies
  have hbpl := h.env.put.lt
  refine ⟨hp.1, ⟨e2.grown hg3 (by simp; omega) (by simp; omega) (by simp; omega) (by simp; omega), boxed_setFar b1 (by omega), ?_, by omega, by omega, by omega, ?_, by omega⟩, ⟨_, hp.2⟩, b1, e2.put⟩
  · refine ((h.frame.below hb1 hsz).grown hg (fun j e => ?_)).setCell _ _ (.inl (by simp))
    cases e
    rcases h.lies with e | e
    · exact .inl (by rw [e]; simp)
    · exact .inr e
  · exact hp.1.lt.2.2.2.2.1
theorem cliqCalled {W W4 W5 : World} {B be bs bp gs bb bl bi gl g1 gl2 : Nat} {t : Nat} {xs : List Int} {F : Value} {i : Nat} {l best : List Int} {x : Int} (o1 : be < gs) (o2 : gs < bs) (o3 : bs < bb) (o4 : bb < bl) (o5 : bl < bp) (o6 : bp < W.heap.size) (hbi : W.heap.size ≤ bi)
    (h : CliqV W W4 be bs bp gs bb bl bi gl g1 t xs F i) (hB : CliqB W5 B bl bb (l ++ [x]) best gl2) (hG : GrownL [bl, bb, g1] W4 W5) (hl : gl2 = g1 ∨ W4.heap.size ≤ gl2) :
    ∃ c5, l.length + 1 ≤ c5 ∧ Boxed W5 bl 25 (.slice (some ⟨gl2, 0, none⟩) (l.length + 1) c5) ∧ Boxed W5 bi 2 (.int .i64 i) ∧ CliqB (W5.setCell ⟨bl, 0, none⟩ (.slice (some ⟨gl2, 0, none⟩) l.length c5)) B bl bb l best gl2 ∧ CliqV W (W5.setCell ⟨bl, 0, none⟩ (.slice (some ⟨gl2, 0, none⟩) l.length c5)) be bs bp gs bb bl bi gl gl2 t xs F i := by
  obtain ⟨q1, q2, q3, q4, q5, q6⟩ := hB.lt
  obtain ⟨c5, h1, h2⟩ := hB.list
  have hc5 : (l ++ [x]).length ≤ c5 := by
    obtain ⟨hm, a, c, hv, hcap, _⟩ := h2.ints
    have : c5 = c := by simp at hv; exact hv.2
    omega
  have e5 := h.env.grown hG (by have := h.lo; simp; omega) (by have := h.lo; simp; omega) (by have := h.np; simp; omega) (by have := h.lo; simp; omega)
  have b5 : Boxed W5 bi 2 (.int .i64 i) := hG.boxed h.cnt (by have := h.ne; simp; omega)
  have hsz := h.frame.size
  have hlies := h.lies
  have hbil := h.cnt.lt
  have hlo := h.lo
  have hnp := h.np
  have hne := h.ne
  have hbpl := h.env.put.lt
  have hg3 : GrownL [bl] W5 (W5.setCell ⟨bl, 0, none⟩ (.slice (some ⟨gl2, 0, none⟩) l.length c5)) := (GrownL.refl _ _).setCell _ _ (.inl (by simp))
  rw [List.length_append] at hc5
  refine ⟨c5, hc5, by rw [List.length_append] at h1; exact h1, b5, CliqB.pop h1 h2 hB.best (by omega), ⟨e5.grown hg3 (by simp; omega) (by simp; omega) (by simp; omega) (by simp; omega), boxed_setFar b5 (by omega), (h.frame.trans2 hG (fun j hj => ?_)).setCell _ _ (.inl (by simp)), by omega, by omega, by omega, q5, by omega⟩⟩
  simp at hj
  rcases hj with rfl | rfl | rfl
  · exact .inl (by simp)
  · exact .inl (by simp)
  · rcases h.lies with e | e
    · exact .inl (by rw [e]; simp)
    · exact .inr e
theorem cliqNext {W W6 : World} {B be bs bp gs bb bl bi gl gl2 : Nat} {t : Nat} {xs : List Int} {F : Value} {i : Nat} {l best : List Int} (o1 : be < gs) (o2 : gs < bs) (o3 : bs < bb) (o4 : bb < bl) (o5 : bl < bp) (o6 : bp < W.heap.size)
    (h : CliqV W W6 be bs bp gs bb bl bi gl gl2 t xs F i) (hB : CliqB W6 B bl bb l best gl2) : CliqB (W6.alloc (.cells #[.int .i64 ((i : Int) + 1)] 2)) B bl bb l best gl2 ∧ CliqV W (W6.alloc (.cells #[.int .i64 ((i : Int) + 1)] 2)) be bs bp gs bb bl W6.heap.size gl gl2 t xs F (i + 1) := by
  have hA : Below W6.heap.size W6 (W6.alloc (.cells #[.int .i64 ((i : Int) + 1)] 2)) := (Below.refl _ _).alloc (Nat.le_refl _) _
  have hN := Boxed.new W6 2 (.int .i64 ((i : Int) + 1))
  have hlt := hB.lt.2.1
  exact ⟨hB.below hA, ⟨⟨boxed_below h.env.exams hA, boxed_below h.env.sets hA, h.env.row.below hA (Nat.le_refl _), boxed_below h.env.put hA⟩, by rw [show ((i + 1 : Nat) : Int) = (i : Int) + 1 from by omega]; exact hN, h.frame.alloc _, h.lies, by omega, h.lo, h.nl, h.np⟩⟩

def CliqRel (t : Nat) (xs : List Int) (B be gs bs bb bl bp : Nat) (F : Value) (l best : List Int) (i0 gl : Nat) (W : World) (k : Nat) (v : Value) (wr : World) : Prop :=
  ∃ (i bi gl' : Nat) (best' : List Int), k = t - i ∧ i0 ≤ i ∧ i ≤ t ∧ v = .pointer (some ⟨bi, 0, none⟩) ∧ W.heap.size ≤ bi ∧ CliqB wr B bl bb l best' gl' ∧ CliqV W wr be bs bp gs bb bl bi gl gl' t xs F i ∧ Hid (deep xs (t - i) i l best' = deep xs (t - i0) i0 l (up best l))

set_option maxHeartbeats 4000000 in
theorem cliqPut_any (t : Nat) (xs : List Int) (B be gs bs bb bl bp : Nat) (ht : t ≤ 12) (hw : ∀ k, k < xs.length → 0 ≤ nth xs k ∧ nth xs k < (t : Int)) (o0 : B ≤ be) (o1 : be < gs) (o2 : gs < bs) (o3 : bs < bb) (o4 : bb < bl) (o5 : bl < bp) : ∀ (d i0 : Nat), i0 + d = t → ∀ (W : World) (l best : List Int) (gl : Nat),
    CliqB W B bl bb l best gl → CliqE W be bs bp gs t xs (cliqF bl bb be bs bp) → bb < gl → gl ≠ bp →
    (∀ x ∈ l, ∃ y : Nat, x = y ∧ y < i0) → l.length ≤ i0 → ∀ p : Int, Hid (p = i0) →
    Calls Try.prog 90 #[.int .i64 p, .pointer (some ⟨bl, 0, none⟩), .pointer (some ⟨bb, 0, none⟩), .pointer (some ⟨be, 0, none⟩), .pointer (some ⟨bs, 0, none⟩), .pointer (some ⟨bp, 0, none⟩)] W fun e W' => e = .returned (.tuple #[]) ∧
      ∃ gl', CliqB W' B bl bb l (deep xs d i0 l (up best l)) gl' ∧ GrownL [bl, bb, gl] W W' ∧ (gl' = gl ∨ W.heap.size ≤ gl') := by
  have heg := enters_of Try.func90 (by kernel_rfl) rfl
  have hmf : ∀ (fn : Fn) (first cap : Array Value) (w : World), (Instr.makeFunc fn first cap).run Try.prog w = .ok (.func fn first cap) w := fun _ _ _ _ => rfl
  have HW := Lib.hid hw
  clear hw
  intro d
  induction d using Nat.strongRecOn with
  | _ d ih =>
    intro i0 hd W l best gl hB hE hg1 hg3 hl hll p hp
    obtain rfl := hp.out
    clear hp
    obtain ⟨cl, hlb, hlo⟩ := hB.list
    obtain ⟨ab, cb, hbb, hbo, hbn⟩ := hB.best
    obtain ⟨q1, q2, q3, q4, q5, q6⟩ := hB.lt
    have q7 : bp < W.heap.size := hE.put.lt
    have hlc := hlb.cell
    have hbc := hbb.cell
    have HB := Lib.hid hB
    have HE := Lib.hid hE
    have HLO := Lib.hid hlo
    have HL := Lib.hid hl
    have HIH := Lib.hid ih
    have hd0 : d = t - i0 := by omega
    have HD := Lib.hid hd0
    clear hB hE hlo hl ih hbo hd0
    by_cases hlen : best.length < l.length
    · have hcl := clone_any (.slice (some ⟨gl, 0, none⟩) l.length cl) l W HLO.out.ints (by omega) (by omega)
      have HCL := Lib.hid hcl
      clear hcl
      go_enter Try.func90, Try.ntmps90
      go_wp2_with (go_at_call 58; refine HCL.out.mono ?_; rintro e W1 ⟨⟨g, c, rfl, ho⟩, hb⟩; have HB1 := Lib.hid hb; have HO1 := Lib.hid ho; have hbc1 := (boxed_below hbb hb).cell; have hbf1 := (boxed_below hbb hb).frozen; clear hb ho)
      have HST : Hid (CliqRel t xs B be gs bs bb bl bp (cliqF bl bb be bs bp) l best i0 gl W (t - i0) (.pointer (some ⟨W1.heap.size, 0, none⟩)) ((W1.setCell ⟨bb, 0, none⟩ (.slice (some ⟨g, 0, none⟩) l.length c)).alloc (.cells #[.int .i64 i0] 2))) := by
        have hs := HB1.out.size
        have hX := (HB.out.took HB1.out HO1.out (by omega) (by omega)).below ((Below.refl _ _).alloc (Nat.le_refl _) (.cells #[.int .i64 i0] 2))
        have hG : GrownL [bl, bb, gl] W ((W1.setCell ⟨bb, 0, none⟩ (.slice (some ⟨g, 0, none⟩) l.length c)).alloc (.cells #[.int .i64 i0] 2)) := (((GrownL.refl _ W).below HB1.out (Nat.le_refl _)).setCell ⟨bb, 0, none⟩ _ (.inl (by simp))).alloc _
        have hN : Boxed ((W1.setCell ⟨bb, 0, none⟩ (.slice (some ⟨g, 0, none⟩) l.length c)).alloc (.cells #[.int .i64 i0] 2)) W1.heap.size 2 (.int .i64 i0) := by have := Boxed.new (W1.setCell ⟨bb, 0, none⟩ (.slice (some ⟨g, 0, none⟩) l.length c)) 2 (.int .i64 i0); rwa [World.size_setCell] at this
        exact ⟨i0, W1.heap.size, gl, l, rfl, Nat.le_refl _, by omega, rfl, hs, hX, ⟨HE.out.grown hG (by simp; omega) (by simp; omega) (by simp; omega) (by simp; omega), hN, hG, .inl rfl, by omega, hg1, q5, hg3⟩, by show _ = _; rw [up_yes hlen]⟩
      clear HCL HO1 hbc1 hbf1 hlen hlc hbc hlb hbb hbn
      go_loopg [7] (t - i0) (fun k v wr => CliqRel t xs B be gs bs bb bl bp (cliqF bl bb be bs bp) l best i0 gl W k v wr)
      case atStart => exact HST.out
      case round =>
        clear HST HB1
        obtain ⟨i, bi, gl', best', rfl, hi1, hi2, rfl, hbW, hB, hV, hdp⟩ := hrel
        obtain ⟨wr', rfl⟩ : ∃ wr' : World, wr' = wr := ⟨_, rfl⟩
        obtain ⟨r1, r2, r3, r4, r5, r6⟩ := hB.lt
        have r7 : bi < wr'.heap.size := hV.cnt.lt
        have r8 : W.heap.size ≤ wr'.heap.size := hV.frame.size
        have ec := hV.env.exams.cell
        have ic := hV.cnt.cell
        have HB2 := Lib.hid hB
        have HV := Lib.hid hV
        clear hB hV
        by_cases hit : i < t
        · have hdeep : deep xs (t - i) i l best' = deep xs (t - (i + 1)) (i + 1) l (if okTo xs l i then deep xs (t - (i + 1)) (i + 1) (l ++ [(i : Int)]) (up best' (l ++ [(i : Int)])) else best') := by
            rw [show t - i = (t - (i + 1)) + 1 from by omega]; rfl
          obtain ⟨c2, hlb2, hlo2⟩ := HB2.out.list
          have hlc2 := hlb2.cell
          have hct := containsFunc_any (.slice (some ⟨gl', 0, none⟩) l.length c2) l 92 #[.pointer (some ⟨bs, 0, none⟩), .pointer (some ⟨bi, 0, none⟩)] (fun k => !clashB xs k (i : Int)) wr' hlo2.ints
            (fun W5 hW5 x hx => by
              obtain ⟨y, rfl, hy⟩ := HL.out x hx
              exact (cliqTest_any y i t xs bs bi gs W5 (boxed_below HV.out.env.sets hW5) (boxed_below HV.out.cnt hW5) (HV.out.env.row.below hW5 (Nat.le_refl _)) ht HW.out hit (by omega)).mono fun e W' ⟨he, hw⟩ => ⟨he, hw ▸ Below.refl _ _⟩)
            (enters_of Try.func92 (by kernel_rfl) rfl)
          have hany : (l.any fun k => !clashB xs k (i : Int)) = !okTo xs l i := by unfold okTo; rw [List.not_all_eq_any_not]
          rw [hany] at hct
          cases hok : okTo xs l i
          · rw [hok] at hct hdeep
            simp only [Bool.not_false, Bool.false_eq_true, if_false] at hct hdeep
            have HDP : Hid (deep xs (t - (i + 1)) (i + 1) l best' = deep xs (t - i0) i0 l (up best l)) := by have h1 := hdp.out; rw [hdeep] at h1; exact h1
            have HCT := Lib.hid hct
            clear hct hdeep hany hok hdp hlo2 hlb2
            go_wp2_with (go_at_call 91; refine HCT.out.mono ?_; rintro e w1 ⟨rfl, hb1⟩; have HB1 := Lib.hid hb1; have ic1 := (boxed_below HV.out.cnt hb1).cell; clear hb1)
            go_roundg (t - (i + 1))
            case measure => omega
            case rel =>
              have hV1 : CliqV W w1 be bs bp gs bb bl bi gl gl' t xs (cliqF bl bb be bs bp) i := ⟨⟨boxed_below HV.out.env.exams HB1.out, boxed_below HV.out.env.sets HB1.out, HV.out.env.row.below HB1.out (Nat.le_refl _), boxed_below HV.out.env.put HB1.out⟩, boxed_below HV.out.cnt HB1.out, HV.out.frame.below HB1.out r8, HV.out.lies, HV.out.ne, HV.out.lo, HV.out.nl, HV.out.np⟩
              have hN := cliqNext o1 o2 o3 o4 o5 q7 hV1 (HB2.out.below HB1.out)
              exact ⟨i + 1, w1.heap.size, gl', best', rfl, by omega, by omega, rfl, by have := HB1.out.size; omega, hN.1, hN.2, HDP.out⟩
          · rw [hok] at hct hdeep
            simp only [Bool.not_true, if_true] at hct hdeep
            have HDP : Hid (deep xs (t - (i + 1)) (i + 1) l (deep xs (t - (i + 1)) (i + 1) (l ++ [(i : Int)]) (up best' (l ++ [(i : Int)]))) = deep xs (t - i0) i0 l (up best l)) := by have h1 := hdp.out; rw [hdeep] at h1; exact h1
            have HCT := Lib.hid hct
            have hBle : B ≤ wr'.heap.size := by omega
            have hne1 : bi ≠ bl := by omega
            have hne2 : bp ≠ bl := by omega
            clear hct hdeep hany hok hdp hlo2 hlb2
            go_wp2_with (first
              | (go_at_call 91; refine HCT.out.mono ?_; rintro e w1 ⟨rfl, hb1⟩; have HB1 := Lib.hid hb1; have hBw := HB2.out.below hb1; have ic1 := (boxed_below HV.out.cnt hb1).cell; obtain ⟨c3, hlb3, hlo3⟩ := hBw.list; have hlc3 := hlb3.cell; have HLO3 := Lib.hid hlo3; have HBW := Lib.hid hBw; have hBle1 : B ≤ w1.heap.size := Nat.le_trans hBle hb1.size; clear hb1 hlb3 hlo3 hBw)
              | (at_builtin; refine append_i64L rfl _ _ rfl B (.slice (some ⟨gl', 0, none⟩) l.length c3) l [(i : Int)] (Nat.zero_lt_succ _) rfl _ rfl HLO3.out hBle1 (by simp; omega) ?_; intro g1 c1 w2 ho1 hgr hlie; obtain ⟨p1, p2, ⟨v3, p3⟩, p4, p5⟩ := cliqPushed o1 o2 o3 o4 o5 q7 hbW HV.out HB1.out HBW.out ho1 hgr hlie; have hc21 := p3.cell; have hf21 := p3.frozen; have hc22 := p4.cell; have hc23 : w2.cell? ⟨bp, 0, none⟩ = some (.func (.func 90) #[] #[.pointer (some ⟨bl, 0, none⟩), .pointer (some ⟨bb, 0, none⟩), .pointer (some ⟨be, 0, none⟩), .pointer (some ⟨bs, 0, none⟩), .pointer (some ⟨bp, 0, none⟩)]) := p5.cell; have P1 := Lib.hid p1; have P2 := Lib.hid p2; clear p1 p2 p3 p4 p5 ho1 hgr hlie)
              | (go_at_call 90; refine (HIH.out (t - (i + 1)) (by omega) (i + 1) (by omega) _ (l ++ [(i : Int)]) best' g1 P1.out P2.out.env P2.out.lo P2.out.np (fun x hx => by rcases List.mem_append.1 hx with h | h; exact (HL.out x h).imp fun y hy => ⟨hy.1, by omega⟩; exact ⟨i, by simpa using h, by omega⟩) (by simp; omega) _ (by show _ = _; omega)).mono ?_; rintro e W5 ⟨rfl, gl2, hB5, hG5, hl5⟩; obtain ⟨c5, hcc, p1, p2, p3, p4⟩ := cliqCalled o1 o2 o3 o4 o5 q7 hbW P2.out hB5 hG5 hl5; have hc51 := p1.cell; have hf51 := p1.frozen; have hc52 := p2.cell; have P3 := Lib.hid p3; have P4 := Lib.hid p4; clear p1 p2 p3 p4 hB5 hG5 hl5))
            go_roundg (t - (i + 1))
            case measure => omega
            case rel =>
              have hN := cliqNext o1 o2 o3 o4 o5 q7 P4.out P3.out
              exact ⟨i + 1, _, gl2, _, rfl, by omega, by omega, rfl, by have := P4.out.frame.size; rw [World.size_setCell] at this; exact this, hN.1, by have := hN.2; rw [World.size_setCell] at this; exact this, HDP.out⟩
        · obtain rfl : i = t := by omega
          have HF : Hid (best' = deep xs d i0 l (up best l)) := by have h1 := hdp.out; rw [Nat.sub_self] at h1; rw [HD.out]; exact h1
          clear hdp
          go_wp2
          go_end0
          exact ⟨rfl, gl', by rw [← HF.out]; exact HB2.out, HV.out.frame, HV.out.lies⟩
    · have HST : Hid (CliqRel t xs B be gs bs bb bl bp (cliqF bl bb be bs bp) l best i0 gl W (t - i0) (.pointer (some ⟨W.heap.size, 0, none⟩)) (W.alloc (.cells #[.int .i64 i0] 2))) := by
        have hX := HB.out.below ((Below.refl _ _).alloc (Nat.le_refl _) (.cells #[.int .i64 i0] 2))
        have hG : GrownL [bl, bb, gl] W (W.alloc (.cells #[.int .i64 i0] 2)) := (GrownL.refl _ W).alloc _
        have hN := Boxed.new W 2 (.int .i64 i0)
        exact ⟨i0, W.heap.size, gl, best, rfl, Nat.le_refl _, by omega, rfl, Nat.le_refl _, hX, ⟨HE.out.grown hG (by simp; omega) (by simp; omega) (by simp; omega) (by simp; omega), hN, hG, .inl rfl, by omega, hg1, q5, hg3⟩, by show _ = _; rw [up_no (by omega)]⟩
      go_enter Try.func90, Try.ntmps90
      go_wp2
      clear hlen hlc hbc hlb hbb hbn
      go_loopg [7] (t - i0) (fun k v wr => CliqRel t xs B be gs bs bb bl bp (cliqF bl bb be bs bp) l best i0 gl W k v wr)
      case atStart => exact HST.out
      case round =>
        clear HST
        obtain ⟨i, bi, gl', best', rfl, hi1, hi2, rfl, hbW, hB, hV, hdp⟩ := hrel
        obtain ⟨wr', rfl⟩ : ∃ wr' : World, wr' = wr := ⟨_, rfl⟩
        obtain ⟨r1, r2, r3, r4, r5, r6⟩ := hB.lt
        have r7 : bi < wr'.heap.size := hV.cnt.lt
        have r8 : W.heap.size ≤ wr'.heap.size := hV.frame.size
        have ec := hV.env.exams.cell
        have ic := hV.cnt.cell
        have HB2 := Lib.hid hB
        have HV := Lib.hid hV
        clear hB hV
        by_cases hit : i < t
        · have hdeep : deep xs (t - i) i l best' = deep xs (t - (i + 1)) (i + 1) l (if okTo xs l i then deep xs (t - (i + 1)) (i + 1) (l ++ [(i : Int)]) (up best' (l ++ [(i : Int)])) else best') := by
            rw [show t - i = (t - (i + 1)) + 1 from by omega]; rfl
          obtain ⟨c2, hlb2, hlo2⟩ := HB2.out.list
          have hlc2 := hlb2.cell
          have hct := containsFunc_any (.slice (some ⟨gl', 0, none⟩) l.length c2) l 92 #[.pointer (some ⟨bs, 0, none⟩), .pointer (some ⟨bi, 0, none⟩)] (fun k => !clashB xs k (i : Int)) wr' hlo2.ints
            (fun W5 hW5 x hx => by
              obtain ⟨y, rfl, hy⟩ := HL.out x hx
              exact (cliqTest_any y i t xs bs bi gs W5 (boxed_below HV.out.env.sets hW5) (boxed_below HV.out.cnt hW5) (HV.out.env.row.below hW5 (Nat.le_refl _)) ht HW.out hit (by omega)).mono fun e W' ⟨he, hw⟩ => ⟨he, hw ▸ Below.refl _ _⟩)
            (enters_of Try.func92 (by kernel_rfl) rfl)
          have hany : (l.any fun k => !clashB xs k (i : Int)) = !okTo xs l i := by unfold okTo; rw [List.not_all_eq_any_not]
          rw [hany] at hct
          cases hok : okTo xs l i
          · rw [hok] at hct hdeep
            simp only [Bool.not_false, Bool.false_eq_true, if_false] at hct hdeep
            have HDP : Hid (deep xs (t - (i + 1)) (i + 1) l best' = deep xs (t - i0) i0 l (up best l)) := by have h1 := hdp.out; rw [hdeep] at h1; exact h1
            have HCT := Lib.hid hct
            clear hct hdeep hany hok hdp hlo2 hlb2
            go_wp2_with (go_at_call 91; refine HCT.out.mono ?_; rintro e w1 ⟨rfl, hb1⟩; have HB1 := Lib.hid hb1; have ic1 := (boxed_below HV.out.cnt hb1).cell; clear hb1)
            go_roundg (t - (i + 1))
            case measure => omega
            case rel =>
              have hV1 : CliqV W w1 be bs bp gs bb bl bi gl gl' t xs (cliqF bl bb be bs bp) i := ⟨⟨boxed_below HV.out.env.exams HB1.out, boxed_below HV.out.env.sets HB1.out, HV.out.env.row.below HB1.out (Nat.le_refl _), boxed_below HV.out.env.put HB1.out⟩, boxed_below HV.out.cnt HB1.out, HV.out.frame.below HB1.out r8, HV.out.lies, HV.out.ne, HV.out.lo, HV.out.nl, HV.out.np⟩
              have hN := cliqNext o1 o2 o3 o4 o5 q7 hV1 (HB2.out.below HB1.out)
              exact ⟨i + 1, w1.heap.size, gl', best', rfl, by omega, by omega, rfl, by have := HB1.out.size; omega, hN.1, hN.2, HDP.out⟩
          · rw [hok] at hct hdeep
            simp only [Bool.not_true, if_true] at hct hdeep
            have HDP : Hid (deep xs (t - (i + 1)) (i + 1) l (deep xs (t - (i + 1)) (i + 1) (l ++ [(i : Int)]) (up best' (l ++ [(i : Int)]))) = deep xs (t - i0) i0 l (up best l)) := by have h1 := hdp.out; rw [hdeep] at h1; exact h1
            have HCT := Lib.hid hct
            have hBle : B ≤ wr'.heap.size := by omega
            have hne1 : bi ≠ bl := by omega
            have hne2 : bp ≠ bl := by omega
            clear hct hdeep hany hok hdp hlo2 hlb2
            go_wp2_with (first
              | (go_at_call 91; refine HCT.out.mono ?_; rintro e w1 ⟨rfl, hb1⟩; have HB1 := Lib.hid hb1; have hBw := HB2.out.below hb1; have ic1 := (boxed_below HV.out.cnt hb1).cell; obtain ⟨c3, hlb3, hlo3⟩ := hBw.list; have hlc3 := hlb3.cell; have HLO3 := Lib.hid hlo3; have HBW := Lib.hid hBw; have hBle1 : B ≤ w1.heap.size := Nat.le_trans hBle hb1.size; clear hb1 hlb3 hlo3 hBw)
              | (at_builtin; refine append_i64L rfl _ _ rfl B (.slice (some ⟨gl', 0, none⟩) l.length c3) l [(i : Int)] (Nat.zero_lt_succ _) rfl _ rfl HLO3.out hBle1 (by simp; omega) ?_; intro g1 c1 w2 ho1 hgr hlie; obtain ⟨p1, p2, ⟨v3, p3⟩, p4, p5⟩ := cliqPushed o1 o2 o3 o4 o5 q7 hbW HV.out HB1.out HBW.out ho1 hgr hlie; have hc21 := p3.cell; have hf21 := p3.frozen; have hc22 := p4.cell; have hc23 : w2.cell? ⟨bp, 0, none⟩ = some (.func (.func 90) #[] #[.pointer (some ⟨bl, 0, none⟩), .pointer (some ⟨bb, 0, none⟩), .pointer (some ⟨be, 0, none⟩), .pointer (some ⟨bs, 0, none⟩), .pointer (some ⟨bp, 0, none⟩)]) := p5.cell; have P1 := Lib.hid p1; have P2 := Lib.hid p2; clear p1 p2 p3 p4 p5 ho1 hgr hlie)
              | (go_at_call 90; refine (HIH.out (t - (i + 1)) (by omega) (i + 1) (by omega) _ (l ++ [(i : Int)]) best' g1 P1.out P2.out.env P2.out.lo P2.out.np (fun x hx => by rcases List.mem_append.1 hx with h | h; exact (HL.out x h).imp fun y hy => ⟨hy.1, by omega⟩; exact ⟨i, by simpa using h, by omega⟩) (by simp; omega) _ (by show _ = _; omega)).mono ?_; rintro e W5 ⟨rfl, gl2, hB5, hG5, hl5⟩; obtain ⟨c5, hcc, p1, p2, p3, p4⟩ := cliqCalled o1 o2 o3 o4 o5 q7 hbW P2.out hB5 hG5 hl5; have hc51 := p1.cell; have hf51 := p1.frozen; have hc52 := p2.cell; have P3 := Lib.hid p3; have P4 := Lib.hid p4; clear p1 p2 p3 p4 hB5 hG5 hl5))
            go_roundg (t - (i + 1))
            case measure => omega
            case rel =>
              have hN := cliqNext o1 o2 o3 o4 o5 q7 P4.out P3.out
              exact ⟨i + 1, _, gl2, _, rfl, by omega, by omega, rfl, by have := P4.out.frame.size; rw [World.size_setCell] at this; exact this, hN.1, by have := hN.2; rw [World.size_setCell] at this; exact this, HDP.out⟩
        · obtain rfl : i = t := by omega
          have HF : Hid (best' = deep xs d i0 l (up best l)) := by have h1 := hdp.out; rw [Nat.sub_self] at h1; rw [HD.out]; exact h1
          clear hdp
          go_wp2
          go_end0
          exact ⟨rfl, gl', by rw [← HF.out]; exact HB2.out, HV.out.frame, HV.out.lies⟩
end Go.Proofs.Ytmhepomjbaendaa
