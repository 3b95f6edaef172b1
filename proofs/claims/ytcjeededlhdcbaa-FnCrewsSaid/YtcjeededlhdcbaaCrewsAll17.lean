/- spec.l03Are, l03Use, CrewUse, IsCrewPlan: their contracts. Conditions: at most a million tasks. With texts that it needs. -/
import Derived.Test.YtcjeededlhdcbaaCrewsAll16
import Derived.Test.YtcjeededlhdcbaaCrewsAll9
import Derived.Deep.QuietTactic
import Derived.BigQuiet
import Derived.Test.YtcjeededlhdcbaaCrewsAll14
import Derived.Test.YtcjeededlhdcbaaCrewsAll6
import Derived.Lib.AppendZeros
import Derived.Test.YtcjeededlhdcbaaCrewsAll10
namespace Go.Proofs.Ytcjeededlhdcbaa
open Go.RowKit Go.Shelf Go.BigFrame
set_option linter.unusedVariables false
set_option linter.unusedSimpArgs false
attribute [local go_sem] Oper.semAt_some

theorem sl_nil0 (W : World) : (binOp .eql 27 (.slice none 0 0) (.slice none 0 0)).run Try.prog W = .ok (.bool true) W := by kernel_rfl
/-- What the function that is handed over answers. -/
def TellAt (K : Nat) (cap : Array Value) (f : List Int → Option Int) (n g : Nat) (E : List Int) (W : World) : Prop :=
  Calls Try.prog K (#[.slice (some ⟨g, 0, none⟩) n n] ++ cap) W fun e W' => ((f E = none ∧ ∃ x, e = .returned (.tuple #[.int .i64 x, .bool false])) ∨ (∃ x, f E = some x ∧ e = .returned (.tuple #[.int .i64 x, .bool true]))) ∧ Below W.heap.size W W'
/-- What firstLeast's variables hold. -/
structure FirE (W : World) (B1 bt bb bl n : Nat) (Kv : Value) (w0 : World) (v : Value) (x : Int) : Prop where
  tell : Boxed W bt 86 Kv
  best : Boxed W bb 27 v
  least : Boxed W bl 2 (.int .i64 x)
  bel : Below w0.heap.size w0 W
def FirSt (bt bb bl n : Nat) (Kv : Value) (w0 : World) (B1 : Nat) (s : Option (List Int × Int)) (W : World) : Prop :=
  match s with
  | none => FirE W B1 bt bb bl n Kv w0 (.slice none 0 0) 0
  | some b => ∃ g c, FirE W B1 bt bb bl n Kv w0 (.slice (some ⟨g, 0, none⟩) n c) b.2 ∧ OwnI W B1 (.slice (some ⟨g, 0, none⟩) n c) b.1
theorem FirE.grown {W W' : World} {B1 bt bb bl n : Nat} {Kv : Value} {w0 : World} {v : Value} {x : Int} {L : List Nat} (h : FirE W B1 bt bb bl n Kv w0 v x) (hg : GrownL L W W') (h1 : bt ∉ L) (h2 : bb ∉ L) (h3 : bl ∉ L) (h4 : ∀ i ∈ L, w0.heap.size ≤ i) : FirE W' B1 bt bb bl n Kv w0 v x :=
  ⟨hg.boxed h.tell h1, hg.boxed h.best h2, hg.boxed h.least h3, hg.toBelow h.bel h.bel.size (fun i hi e => by have := h4 i e; omega)⟩
theorem FirE.below {W W' : World} {B1 bt bb bl n : Nat} {Kv : Value} {w0 : World} {v : Value} {x : Int} (h : FirE W B1 bt bb bl n Kv w0 v x) (hb : Below W.heap.size W W') : FirE W' B1 bt bb bl n Kv w0 v x :=
  ⟨boxedP_below h.tell hb, boxedP_below h.best hb, boxedP_below h.least hb, h.bel.trans (hb.mono h.bel.size)⟩
/-- A new best one. -/
theorem FirE.put {W W1 : World} {B1 bt bb bl n g c : Nat} {Kv : Value} {w0 : World} {v : Value} {x y : Int} {E : List Int} (h : FirE W B1 bt bb bl n Kv w0 v x) (o1 : bt < bb) (o2 : bb < bl) (o3 : w0.heap.size ≤ bt) (hb : Below W.heap.size W W1) (ho : OwnI W1 W.heap.size (.slice (some ⟨g, 0, none⟩) n c) E) (hB : B1 ≤ W.heap.size) :
    FirE ((W1.setCell ⟨bb, 0, none⟩ (.slice (some ⟨g, 0, none⟩) n c)).setCell ⟨bl, 0, none⟩ (.int .i64 y)) B1 bt bb bl n Kv w0 (.slice (some ⟨g, 0, none⟩) n c) y ∧ OwnI ((W1.setCell ⟨bb, 0, none⟩ (.slice (some ⟨g, 0, none⟩) n c)).setCell ⟨bl, 0, none⟩ (.int .i64 y)) B1 (.slice (some ⟨g, 0, none⟩) n c) E ∧
      GrownL [bb, bl] W ((W1.setCell ⟨bb, 0, none⟩ (.slice (some ⟨g, 0, none⟩) n c)).setCell ⟨bl, 0, none⟩ (.int .i64 y)) := by
  have h1 := h.below hb
  have hl := h.least.lt
  have hg := (ho.lt g rfl).1
  have g1 : GrownL [bb] W1 (W1.setCell ⟨bb, 0, none⟩ (.slice (some ⟨g, 0, none⟩) n c)) := (GrownL.refl _ _).setCell _ _ (.inl (by simp))
  have g2 : GrownL [bl] (W1.setCell ⟨bb, 0, none⟩ (.slice (some ⟨g, 0, none⟩) n c)) ((W1.setCell ⟨bb, 0, none⟩ (.slice (some ⟨g, 0, none⟩) n c)).setCell ⟨bl, 0, none⟩ (.int .i64 y)) := (GrownL.refl _ _).setCell _ _ (.inl (by simp))
  have hG : GrownL [bb, bl] W ((W1.setCell ⟨bb, 0, none⟩ (.slice (some ⟨g, 0, none⟩) n c)).setCell ⟨bl, 0, none⟩ (.int .i64 y)) := (((GrownL.refl _ W).below hb (Nat.le_refl _)).setCell _ _ (.inl (by simp))).setCell _ _ (.inl (by simp))
  refine ⟨⟨hG.boxed h.tell (by simp; omega), g2.boxed (h1.best.set _) (by simp; omega), ?_, hG.toBelow h.bel h.bel.size (fun i hi => by simp; omega)⟩, (g2.own (g1.own (ho.mono hB) (by simp; omega)) (by simp; omega)), hG⟩
  have h2 := g1.boxed h1.least (by simp; omega)
  exact h2.set _
set_option maxRecDepth 100000 in
set_option maxHeartbeats 2000000 in
theorem firDo_any (n K : Nat) (cap : Array Value) (f : List Int → Option Int) (w0 : World) (B B1 bt bb bl g : Nat) (P : List Nat) (s : Option (List Int × Int)) (E : List Int) (W : World) (hn : 1 ≤ n) (hn2 : n ≤ 1000000) (o1 : bt < bb) (o2 : bb < bl) (o3 : w0.heap.size ≤ bt)
    (hB1 : B1 ≤ W.heap.size) (hek : Enters Try.prog K) (hs : FirSt bt bb bl n (.func (.func K) #[] cap) w0 B1 s W) (ho : OwnI W B (.slice (some ⟨g, 0, none⟩) n n) E) (hE : E.length = n) (ht : TellAt K cap f n g E W) :
    Calls Try.prog 126 #[.slice (some ⟨g, 0, none⟩) n n, .pointer (some ⟨bt, 0, none⟩), .pointer (some ⟨bb, 0, none⟩), .pointer (some ⟨bl, 0, none⟩)] W fun e W' => e = .returned (.tuple #[]) ∧ FirSt bt bb bl n (.func (.func K) #[] cap) w0 B1 (flStep f s E) W' ∧ GrownL [bb, bl] W W' := by
  have hsn := sl_nil
  have hsn0 := sl_nil0
  have hek' : ∀ args w, (callFunc K args).run Try.prog w = .ok (.enter K args) w := hek
  have HT : Hid (TellAt K cap f n g E W) := ht
  unfold TellAt at HT
  have HE := Lib.hid hE
  have HCL : Hid (∀ W', Below W.heap.size W W' → Calls Try.prog 101 #[.slice (some ⟨g, 0, none⟩) n n] W' fun e w' => (∃ g' c, e = .returned (.slice (some ⟨g', 0, none⟩) n c) ∧ OwnI w' W'.heap.size (.slice (some ⟨g', 0, none⟩) n c) E) ∧ Below W'.heap.size W' w') := fun W' hb => by
    have h := clone_any (.slice (some ⟨g, 0, none⟩) n n) E W' (ho.ints.below hb (Nat.le_refl _)) (by omega) (by omega)
    rw [hE] at h
    exact h
  cases s with
  | none =>
    have hF : FirE W B1 bt bb bl n (.func (.func K) #[] cap) w0 (.slice none 0 0) 0 := hs
    have HF := Lib.hid hF
    have c1 := hF.tell.cell
    clear hs hF ho ht hE hek
    go_enter Try.func126, Try.ntmps126
    go_wp2_with fail
    refine HT.out.mono ?_
    rintro e W1 ⟨hr, hb1⟩
    have HB1 := Lib.hid hb1
    have h1 := HF.out.below hb1
    have c2 := h1.best.cell
    have c3 := h1.least.cell
    have d2 := h1.best.frozen
    have d3 := h1.least.frozen
    have HF1 := Lib.hid h1
    have HC1 := Lib.hid (HCL.out W1 hb1)
    clear hb1 h1 c1 HCL HT
    rcases hr with ⟨h1, x, rfl⟩ | ⟨x, h1, rfl⟩
    · have H1 := Lib.hid h1
      clear h1
      go_wp2_with fail
      go_end0
      exact ⟨rfl, by rw [flStep_none H1.out]; exact HF1.out, (GrownL.refl _ W).below HB1.out (Nat.le_refl _)⟩
    · have H1 := Lib.hid h1
      clear h1
      go_wp2_with fail
      refine HC1.out.mono ?_
      rintro e W2 ⟨⟨g2, cc2, rfl, ho2⟩, hb2⟩
      have k1 := HF1.out.below hb2
      have c4 := k1.best.cell
      have c5 := k1.least.cell
      have d4 := k1.best.frozen
      have d5 := k1.least.frozen
      have HP := Lib.hid (HF1.out.put (y := x) o1 o2 o3 hb2 ho2 (by have := HB1.out.size; omega))
      clear ho2 hb2 k1 HC1 c2 c3 d2 d3
      go_wp2_with fail
      go_end0
      have e1 : flStep f none E = some (E, x) := by unfold flStep; rw [H1.out]
      rw [e1]
      exact ⟨rfl, ⟨g2, cc2, HP.out.1, HP.out.2.1⟩, ((GrownL.refl _ W).below HB1.out (Nat.le_refl _)).trans HP.out.2.2⟩
  | some b =>
    obtain ⟨gb, cb, hF, hob⟩ := hs
    obtain ⟨bE, bx⟩ := b
    have HF := Lib.hid hF
    have HOB := Lib.hid hob
    have c1 := hF.tell.cell
    clear hF ho ht hE hek hob
    go_enter Try.func126, Try.ntmps126
    go_wp2_with fail
    refine HT.out.mono ?_
    rintro e W1 ⟨hr, hb1⟩
    have HB1 := Lib.hid hb1
    have h1 := HF.out.below hb1
    have c2 := h1.best.cell
    have c3 := h1.least.cell
    have d2 := h1.best.frozen
    have d3 := h1.least.frozen
    have HF1 := Lib.hid h1
    have HO1 := Lib.hid (HOB.out.below hb1 (Nat.le_refl _))
    have HC1 := Lib.hid (HCL.out W1 hb1)
    clear hb1 h1 c1 HCL HT HOB
    rcases hr with ⟨h1, x, rfl⟩ | ⟨x, h1, rfl⟩
    · have H1 := Lib.hid h1
      clear h1
      go_wp2_with fail
      go_end0
      exact ⟨rfl, by rw [flStep_none H1.out]; exact ⟨gb, cb, HF1.out, HO1.out⟩, (GrownL.refl _ W).below HB1.out (Nat.le_refl _)⟩
    · have H1 := Lib.hid h1
      clear h1
      by_cases hlt : x < bx
      · have e1 : Hid (flStep f (some (bE, bx)) E = some (E, x)) := by show _ = _; unfold flStep; rw [H1.out]; exact if_pos hlt
        go_wp2_with fail
        refine HC1.out.mono ?_
        rintro e W2 ⟨⟨g2, cc2, rfl, ho2⟩, hb2⟩
        have k1 := HF1.out.below hb2
        have c4 := k1.best.cell
        have c5 := k1.least.cell
        have d4 := k1.best.frozen
        have d5 := k1.least.frozen
        have HP := Lib.hid (HF1.out.put (y := x) o1 o2 o3 hb2 ho2 (by have := HB1.out.size; omega))
        clear ho2 hb2 k1 HC1 c2 c3 d2 d3
        go_wp2_with fail
        go_end0
        rw [e1.out]
        exact ⟨rfl, ⟨g2, cc2, HP.out.1, HP.out.2.1⟩, ((GrownL.refl _ W).below HB1.out (Nat.le_refl _)).trans HP.out.2.2⟩
      · have e1 : Hid (flStep f (some (bE, bx)) E = some (bE, bx)) := by show _ = _; unfold flStep; rw [H1.out]; exact if_neg hlt
        go_wp2_with fail
        go_end0
        rw [e1.out]
        exact ⟨rfl, ⟨gb, cb, HF1.out, HO1.out⟩, (GrownL.refl _ W).below HB1.out (Nat.le_refl _)⟩
theorem firStart {w : World} {K : Nat} {cap : Array Value} {n B1 : Nat} :
    FirSt w.heap.size (w.heap.size + 1) (w.heap.size + 1 + 1) n (.func (.func K) #[] cap) w B1 none (((w.alloc (.cells #[.func (.func K) #[] cap] 86)).alloc (.cells #[.slice none 0 0] 27)).alloc (.cells #[.int .i64 0] 2)) := by
  refine ⟨((Boxed.new w _ _).alloc _).alloc _, ?_, ?_, (((Below.refl _ w).alloc (Nat.le_refl _) _).alloc (by simp) _).alloc (by simp; omega) _⟩
  · have := (Boxed.new (w.alloc (.cells #[.func (.func K) #[] cap] 86)) 27 (.slice none 0 0)).alloc (.cells #[.int .i64 0] 2)
    rwa [World.size_alloc] at this
  · have := Boxed.new ((w.alloc (.cells #[.func (.func K) #[] cap] 86)).alloc (.cells #[.slice none 0 0] 27)) 2 (.int .i64 0)
    rwa [World.size_alloc, World.size_alloc] at this
set_option maxRecDepth 100000 in
set_option maxHeartbeats 2000000 in
theorem firstLeast_any (n K : Nat) (cap : Array Value) (f : List Int → Option Int) (w : World) (hn : 1 ≤ n) (hn2 : n ≤ 1000000) (hek : Enters Try.prog K)
    (htell : ∀ E W g B, E.Perm (idL n) → Below w.heap.size w W → OwnI W B (.slice (some ⟨g, 0, none⟩) n n) E → TellAt K cap f n g E W) :
    Calls Try.prog 63 #[.int .i64 n, .func (.func K) #[] cap] w fun e w' => ((firstL n f = none ∧ e = .returned (.tuple #[.slice none 0 0, .int .i64 0, .bool false])) ∨
      ∃ b l g c, firstL n f = some (b, l) ∧ e = .returned (.tuple #[.slice (some ⟨g, 0, none⟩) n c, .int .i64 l, .bool true]) ∧ OwnI w' w.heap.size (.slice (some ⟨g, 0, none⟩) n c) b) ∧ Below w.heap.size w w' := by
  have hmf : ∀ (fn : Fn) (first cap : Array Value) (w : World), (Instr.makeFunc fn first cap).run Try.prog w = .ok (.func fn first cap) w := fun _ _ _ _ => rfl
  have heg := enters_of Try.func126 (by kernel_rfl) rfl
  have hsn := sl_nil
  have hsn0 := sl_nil0
  have HT := Lib.hid htell
  have HEK := Lib.hid hek
  clear htell hek
  obtain ⟨W3, hW3⟩ : ∃ W, ((w.alloc (.cells #[.func (.func K) #[] cap] 86)).alloc (.cells #[.slice none 0 0] 27)).alloc (.cells #[.int .i64 0] 2) = W := ⟨_, rfl⟩
  have HS0 : Hid (∀ B1, FirSt w.heap.size (w.heap.size + 1) (w.heap.size + 1 + 1) n (.func (.func K) #[] cap) w B1 none W3) := fun B1 => by rw [← hW3]; exact firStart
  have HZ3 : Hid (W3.heap.size = w.heap.size + 3) := by show _ = _; rw [← hW3]; simp
  have HDO : Hid (∀ P B1, (∀ i ∈ P, W3.heap.size ≤ i ∧ i < B1) → DoP (Option (List Int × Int)) W3.heap.size n 126 #[.pointer (some ⟨w.heap.size, 0, none⟩), .pointer (some ⟨w.heap.size + 1, 0, none⟩), .pointer (some ⟨w.heap.size + 1 + 1, 0, none⟩)] [w.heap.size + 1, w.heap.size + 1 + 1] P (fun s W => FirSt w.heap.size (w.heap.size + 1) (w.heap.size + 1 + 1) n (.func (.func K) #[] cap) w B1 s W ∧ B1 ≤ W.heap.size) (flStep f)) := fun P B1 hP => by
    refine ⟨fun s E W g hE hs ho => ?_, fun s W W' hs hg => ?_, heg⟩
    · have hb : Below w.heap.size w W := by
        obtain ⟨hs, _⟩ := hs
        cases s with
        | none => exact (show FirE _ _ _ _ _ _ _ _ _ _ from hs).bel
        | some b => obtain ⟨_, _, h, _⟩ := hs; exact h.bel
      refine (firDo_any n K cap f w W3.heap.size B1 w.heap.size (w.heap.size + 1) (w.heap.size + 1 + 1) g P s E W hn hn2 (by omega) (by omega) (Nat.le_refl _) hs.2 HEK.out hs.1 ho (by rw [hE.length_eq, idL_length]) (HT.out E W g _ hE hb ho)).mono ?_
      rintro e W' ⟨h1, h2, h3⟩
      exact ⟨h1, ⟨h2, Nat.le_trans hs.2 h3.size⟩, h3⟩
    · obtain ⟨hs, hb⟩ := hs
      have hn : ∀ i, i < W3.heap.size → i ∉ P := fun i hi e => by have := (hP i e).1; omega
      have hz := HZ3.out
      refine ⟨?_, Nat.le_trans hb hg.size⟩
      cases s with
      | none => exact (show FirE _ _ _ _ _ _ _ _ _ _ from hs).grown hg (hn _ (by omega)) (hn _ (by omega)) (hn _ (by omega)) (fun i hi => by have := hP i hi; omega)
      | some b =>
        obtain ⟨g, c, h1, h2⟩ := hs
        exact ⟨g, c, h1.grown hg (hn _ (by omega)) (hn _ (by omega)) (hn _ (by omega)) (fun i hi => by have := hP i hi; omega), hg.own h2 (fun e => by have := hP g e; have := (h2.lt g rfl).1; omega)⟩
  have HPM := Lib.hid (permute_any n 126 _ [w.heap.size + 1, w.heap.size + 1 + 1] _ (flStep f) hn hn2 W3 HDO.out (fun i hi => by have := HZ3.out; simp at hi; omega) none (fun B1 W' hb hB => ⟨by
    have h : FirE _ _ _ _ _ _ _ _ _ _ := HS0.out B1
    exact h.below hb, hB⟩))
  obtain ⟨r, hr⟩ : ∃ r, firstL n f = r := ⟨_, rfl⟩
  have HF : Hid (permF n (flStep f) n [] none = r) := hr
  rw [hr]
  clear hr
  have HW3 := Lib.hid hW3
  clear HDO HT HEK hW3
  go_enter Try.func63, Try.ntmps63
  go_wp2_with fail
  rw [HW3.out]
  refine HPM.out.mono ?_
  rintro e W5 ⟨rfl, ⟨B1, hB1, hS5, _⟩, hg5⟩
  rw [HF.out] at hS5
  have HB5 : Hid (Below w.heap.size w W5) := by
    show Below _ _ _
    cases r with
    | none => exact (show FirE _ _ _ _ _ _ _ _ _ _ from hS5).bel
    | some b => obtain ⟨_, _, h, _⟩ := hS5; exact h.bel
  clear hg5 HPM HF
  cases r with
  | none =>
    have h : FirE _ _ _ _ _ _ _ _ _ _ := hS5
    have c1 := h.best.cell
    have c2 := h.least.cell
    clear hS5 h
    go_wp2
    go_quiet (fail)
    go_wp2
    go_ret3
    exact ⟨rfl, below_drewN _ HB5.out⟩
  | some b =>
    obtain ⟨g, c, h, ho⟩ := hS5
    obtain ⟨bE, bx⟩ := b
    have c1 := h.best.cell
    have c2 := h.least.cell
    have HO := Lib.hid (ho.mono (show w.heap.size ≤ B1 by have := HZ3.out; omega))
    clear h ho
    go_wp2
    go_quiet (fail)
    go_wp2
    go_ret3
    exact ⟨.inr ⟨bE, bx, g, c, rfl, rfl, HO.out.drewN _⟩, below_drewN _ HB5.out⟩
end Go.Proofs.Ytcjeededlhdcbaa

namespace Go.Proofs.Ytcjeededlhdcbaa
open Go.RowKit Go.Shelf
set_option linter.unusedVariables false
set_option linter.unusedSimpArgs false
attribute [local go_sem] Oper.semAt_some

/-- The end of the plan of an order. -/
noncomputable def endOfL (ts : List Tk) (crew : Int) (E : List Int) : Option Int := (takeL ts crew E).map fun out => endTo ts out ts.length
theorem endOfL_none {ts : List Tk} {crew : Int} {E : List Int} (h : takeL ts crew E = none) : endOfL ts crew E = none := by unfold endOfL; rw [h]; rfl
theorem endOfL_some {ts : List Tk} {crew : Int} {E out : List Int} (h : takeL ts crew E = some out) : endOfL ts crew E = some (endTo ts out ts.length) := by unfold endOfL; rw [h]; rfl
set_option maxRecDepth 100000 in
theorem besTell_any (b o c : Nat) (ts : List Tk) (E : List Int) (crew : Int) (bl bc g n : Nat) (W : World) (ht : TasksR W (.slice (some ⟨b, o, none⟩) n c) ts) (hn : ts.length = n) (hsm : SmTs ts) (hcr : 0 ≤ crew ∧ crew ≤ 20) (hneed : ∀ i, i < ts.length → needN ts i ≤ crew) (hE : E.Perm (idL n))
    (h1 : Boxed W bl 25 (.slice (some ⟨b, o, none⟩) n c)) (h2 : Boxed W bc 2 (.int .i64 crew)) {B : Nat} (ho : OwnI W B (.slice (some ⟨g, 0, none⟩) n n) E) :
    TellAt 64 #[.pointer (some ⟨bl, 0, none⟩), .pointer (some ⟨bc, 0, none⟩)] (endOfL ts crew) n g E W := by
  have HP := Lib.hid (orderPlan_any (.slice (some ⟨b, o, none⟩) n c) (.slice (some ⟨g, 0, none⟩) n n) ts E crew W ht ho.ints (by rw [hn]; exact hE) hsm hcr hneed)
  have c1 := h1.cell
  have c2 := h2.cell
  rw [hn] at HP
  have HNN := Lib.hid hn
  clear ht hn hsm hneed hE h1 h2 ho hcr
  unfold TellAt
  go_enter Try.func64, Try.ntmps64
  go_wp2_with fail
  refine HP.out.mono ?_
  rintro e W3 ⟨hr, hb3⟩
  have HB3 := Lib.hid hb3
  clear hb3 HP
  rcases hr with ⟨h1, rfl⟩ | ⟨out, g', h1, h2, rfl, h3⟩
  · have H1 := Lib.hid (endOfL_none h1)
    clear h1
    go_wp2
    go_ret2
    exact ⟨.inl ⟨H1.out, _, rfl⟩, HB3.out⟩
  · have H1 := Lib.hid (endOfL_some h1)
    rw [HNN.out] at H1
    clear h1 h2 h3
    go_wp2
    go_ret2
    exact ⟨.inr ⟨_, H1.out, rfl⟩, HB3.out⟩
set_option maxRecDepth 100000 in
theorem BestPlan_any (vt : Value) (ts : List Tk) (crew : Int) (w : World) (ht : TasksR w vt ts) (hok : tasksOk ts = true) (h7 : ts.length ≤ 7) (hcr : 0 ≤ crew ∧ crew ≤ 20) (hneed : ∀ i, i < ts.length → needN ts i ≤ crew) :
    Calls Try.prog 12 #[vt, .int .i64 crew] w fun e w' => ((firstL ts.length (endOfL ts crew) = none ∧ e = .returned (.tuple #[.slice none 0 0, .int .i64 0, .bool false])) ∨
      ∃ E l out g, firstL ts.length (endOfL ts crew) = some (E, l) ∧ takeL ts crew E = some out ∧ SmSt out ts.length ∧ e = .returned (.tuple #[.slice (some ⟨g, 0, none⟩) ts.length ts.length, .int .i64 (endTo ts out ts.length), .bool true]) ∧ OwnI w' w.heap.size (.slice (some ⟨g, 0, none⟩) ts.length ts.length) out) ∧ Below w.heap.size w w' := by
  have hmf : ∀ (fn : Fn) (first cap : Array Value) (w : World), (Instr.makeFunc fn first cap).run Try.prog w = .ok (.func fn first cap) w := fun _ _ _ _ => rfl
  have heg := enters_of Try.func64 (by kernel_rfl) rfl
  have hsm := tasks_sm hok
  obtain ⟨b, o, c, VB, VL, rfl, hcap, hbw, hsrc⟩ := ht.src hsm.n1
  obtain ⟨n, hn⟩ : ∃ n, ts.length = n := ⟨_, rfl⟩
  have HN := Lib.hid hn
  obtain ⟨W2, hW2⟩ : ∃ W, (w.alloc (.cells #[.slice (some ⟨b, o, none⟩) n c] 25)).alloc (.cells #[.int .i64 crew] 2) = W := ⟨_, rfl⟩
  have HW2 := Lib.hid hW2
  have hb2 : Below w.heap.size w W2 := by rw [← hW2]; exact ((Below.refl _ _).alloc (Nat.le_refl _) _).alloc (by simp) _
  have HB2 := Lib.hid hb2
  have X1 : Hid (Boxed W2 w.heap.size 25 (.slice (some ⟨b, o, none⟩) n c)) := by show Boxed _ _ _ _; rw [← hW2]; exact (Boxed.new _ _ _).alloc _
  have X2 : Hid (Boxed W2 (w.heap.size + 1) 2 (.int .i64 crew)) := by
    show Boxed _ _ _ _
    have := Boxed.new (w.alloc (.cells #[.slice (some ⟨b, o, none⟩) n c] 25)) 2 (.int .i64 crew)
    rw [World.size_alloc] at this
    rw [← hW2]; exact this
  rw [hn] at ht hcap ⊢
  have HT : Hid (∀ W, Below w.heap.size w W → TasksR W (.slice (some ⟨b, o, none⟩) n c) ts) := fun W hW => ht.below hW (Nat.le_refl _)
  have HF : Hid (∀ W, Below w.heap.size w W → Calls Try.prog 53 #[.slice (some ⟨b, o, none⟩) n c, .int .i64 crew] W fun e w' => e = .returned (.bool true) ∧ Below W.heap.size W w') := fun W hW => fitsCrew_any _ ts crew W (HT.out W hW) hok hcr hneed
  have HP : Hid (∀ vo E W, Below w.heap.size w W → Ints W vo E → E.Perm (idL n) → Calls Try.prog 55 #[.slice (some ⟨b, o, none⟩) n c, vo, .int .i64 crew] W fun e w' => ((takeL ts crew E = none ∧ e = .returned (.tuple #[.slice none 0 0, .int .i64 0, .bool false])) ∨
      ∃ out g, takeL ts crew E = some out ∧ SmSt out n ∧ e = .returned (.tuple #[.slice (some ⟨g, 0, none⟩) n n, .int .i64 (endTo ts out n), .bool true]) ∧ OwnI w' W.heap.size (.slice (some ⟨g, 0, none⟩) n n) out) ∧ Below W.heap.size W w') := fun vo E W hW ho hE => by
    have h := orderPlan_any (.slice (some ⟨b, o, none⟩) n c) vo ts E crew W (HT.out W hW) ho (by rw [hn]; exact hE) hsm hcr hneed
    rw [hn] at h
    exact h
  have hn1 : 1 ≤ n := by have := hsm.n1; omega
  have hn7 : n ≤ 7 := by omega
  have HFI : Hid (∀ W, Below W2.heap.size W2 W → Calls Try.prog 63 #[.int .i64 n, .func (.func 64) #[] #[.pointer (some ⟨w.heap.size, 0, none⟩), .pointer (some ⟨w.heap.size + 1, 0, none⟩)]] W fun e w' => ((firstL n (endOfL ts crew) = none ∧ e = .returned (.tuple #[.slice none 0 0, .int .i64 0, .bool false])) ∨
      ∃ b l g c, firstL n (endOfL ts crew) = some (b, l) ∧ e = .returned (.tuple #[.slice (some ⟨g, 0, none⟩) n c, .int .i64 l, .bool true]) ∧ OwnI w' W.heap.size (.slice (some ⟨g, 0, none⟩) n c) b) ∧ Below W.heap.size W w') := fun W hW => by
    refine firstLeast_any n 64 _ (endOfL ts crew) W hn1 (by omega) heg (fun E W3 g B hE hW3 ho => ?_)
    have hb := hW.trans (hW3.mono hW.size)
    exact besTell_any b o c ts E crew w.heap.size (w.heap.size + 1) g n W3 (HT.out W3 (HB2.out.trans (hb.mono HB2.out.size))) hn hsm hcr hneed hE (boxedP_below X1.out hb) (boxedP_below X2.out hb) ho
  have g1 : ¬ (7 : Int) < (n : Int) := by omega
  clear ht hok hneed hsrc hW2 hb2 hn hsm h7
  obtain ⟨r, hr⟩ : ∃ r, firstL n (endOfL ts crew) = r := ⟨_, rfl⟩
  have HR : Hid (firstL n (endOfL ts crew) = r) := hr
  rw [hr] at HFI ⊢
  clear hr
  go_enter Try.func12, Try.ntmps12
  go_wp2_with fail
  rw [HW2.out]
  refine (HF.out W2 HB2.out).mono ?_
  rintro e W3 ⟨rfl, hb3⟩
  have HB3 := Lib.hid hb3
  have c1 := (boxedP_below X1.out hb3).cell
  have HFI3 := Lib.hid (HFI.out W3 hb3)
  clear hb3 HF HFI
  go_wp2_with fail
  refine HFI3.out.mono ?_
  rintro e W4 ⟨hr, hb4⟩
  have HB4 : Hid (Below W2.heap.size W2 W4) := HB3.out.trans (hb4.mono HB3.out.size)
  have HB4w : Hid (Below w.heap.size w W4) := HB2.out.trans (HB4.out.mono HB2.out.size)
  have c1 := (boxedP_below X1.out HB4.out).cell
  have c2 := (boxedP_below X2.out HB4.out).cell
  clear hb4 HFI3 HB3
  rcases hr with ⟨h1, rfl⟩ | ⟨E, l, g, c3, h1, rfl, ho⟩
  · have H1 := Lib.hid h1
    clear h1
    go_wp2
    go_ret3
    exact ⟨.inl ⟨H1.out, rfl⟩, HB4w.out⟩
  · have hsp := (firstL_spec (n := n) (f := endOfL ts crew)).2 E l (by rw [HR.out]; exact h1)
    have HSP := Lib.hid hsp
    have H1 := Lib.hid h1
    have HP4 := Lib.hid (HP.out (.slice (some ⟨g, 0, none⟩) n c3) E W4 HB4w.out ho.ints hsp.1)
    clear h1 hsp ho HP
    go_wp2_with fail
    refine HP4.out.mono ?_
    rintro e W5 ⟨hr, hb5⟩
    have HB5 : Hid (Below w.heap.size w W5) := HB4w.out.trans (hb5.mono HB4w.out.size)
    clear hb5 HP4
    rcases hr with ⟨h2, _⟩ | ⟨out, g', h2, h3, rfl, h4⟩
    · exfalso
      have h5 := HSP.out.2.1
      rw [endOfL_none h2] at h5
      cases h5
    · have H2 := Lib.hid h2
      have H3 := Lib.hid h3
      have H4 := Lib.hid h4
      clear h2 h3 h4
      go_wp2
      go_ret3
      exact ⟨.inr ⟨E, l, out, g', H1.out, H2.out, H3.out, rfl, H4.out.mono HB4w.out.size⟩, HB5.out⟩
end Go.Proofs.Ytcjeededlhdcbaa

namespace Go.Proofs.Ytcjeededlhdcbaa
open Go.RowKit
set_option linter.unusedVariables false
set_option linter.unusedSimpArgs false

/-- append(s, t...), t perhaps empty, s not nil: at the operation. -/
theorem wp_append_any {o : Oper} {a : Act} {K : Act → World → Prop} {Q : Exit → Act → World → Prop} {W : World} (s x : Operand)
    (ho : o.op = .call { callee := .builtin .append, args := #[s, x], argTypes := #[27, 27] }) (B g n c : Nat) (xs ys : List Int) (hn : n = xs.length)
    (hs : a.eval s = .slice (some ⟨g, 0, none⟩) n c) (b off m c2 : Nat) (hm : m = ys.length) (hx : a.eval x = .slice (some ⟨b, off, none⟩) m c2) (hcells : ∀ i (h : i < ys.length), W.cell? ⟨b, off + i, none⟩ = some (.int .i64 ys[i])) (hown : OwnI W B (.slice (some ⟨g, 0, none⟩) n c) xs) (hB : B ≤ W.heap.size) (hsmall : xs.length + ys.length ≤ 1099511627776)
    (hK : ∀ g' c' w', OwnI w' B (.slice (some ⟨g', 0, none⟩) (xs.length + ys.length) c') (xs ++ ys) → W.grownBy w' (some g) → K (a.put o.dst (.slice (some ⟨g', 0, none⟩) (xs.length + ys.length) c')) w') :
    o.wp Try.prog a W K Q := by
  subst hn hm
  obtain ⟨i0, hi, hz0, hz1, hz2⟩ := info_parts info_i64
  obtain ⟨v', w', hr, h2, h3, h4, h5⟩ := run_append_own_at (P := Try.prog) W B 27 o.type 2 i0 (.int .i64 0) 1 8 Try.underlying27 hi hz0 hz1 hz2 rfl (by decide) _ xs.length _ hown ⟨b, off, none⟩ ys.length c2 (ys.map (Value.int .i64)) (by simp) (by
    intro j u hj
    rw [List.getElem?_map] at hj
    cases h : ys[j]? with
    | none => rw [h] at hj; cases hj
    | some y =>
      rw [h] at hj
      obtain ⟨h1, h2⟩ := List.getElem?_eq_some_iff.1 h
      have hadd : (⟨b, off, none⟩ : Addr).add j = ⟨b, off + j, none⟩ := by unfold Addr.add; split <;> simp_all
      rw [hadd, hcells j h1, h2]
      simpa using hj) (by intro u hu; obtain ⟨y, _, rfl⟩ := List.mem_map.1 hu; rfl) (by unfold maxLen; omega) (by omega) hB
  unfold Oper.wp execOp
  simp only [ho, resolve, invoke, builtin, Sem.run_bind, Sem.run_pure, Result.andThen_ok, List.map_toArray, List.map_cons, List.map_nil, hs, hx, hr]
  have h1' : OwnI w' B v' (xs ++ ys) := by unfold OwnI; simpa using h2
  rcases h2.2 with ⟨h6, _⟩ | ⟨g', cap, cur, rfl, _⟩
  · have := (h4.1 h6).1; cases this
  · exact hK g' cap w' h1' h3
theorem wpList_append_any {ops : Array Oper} {rest : List Oper} {o : Oper} {a : Act} {Q : Exit → Act → World → Prop} {W : World} (hgd : o.guard = none) (s x : Operand)
    (ho : o.op = .call { callee := .builtin .append, args := #[s, x], argTypes := #[27, 27] }) (B g n c : Nat) (xs ys : List Int) (hn : n = xs.length)
    (hs : a.eval s = .slice (some ⟨g, 0, none⟩) n c) (b off m c2 : Nat) (hm : m = ys.length) (hx : a.eval x = .slice (some ⟨b, off, none⟩) m c2) (hcells : ∀ i (h : i < ys.length), W.cell? ⟨b, off + i, none⟩ = some (.int .i64 ys[i])) (hown : OwnI W B (.slice (some ⟨g, 0, none⟩) n c) xs) (hB : B ≤ W.heap.size) (hsmall : xs.length + ys.length ≤ 1099511627776)
    (hK : ∀ g' c' w', OwnI w' B (.slice (some ⟨g', 0, none⟩) (xs.length + ys.length) c') (xs ++ ys) → W.grownBy w' (some g) → wpList Try.prog ops Q rest (a.put o.dst (.slice (some ⟨g', 0, none⟩) (xs.length + ys.length) c')) w') :
    wpList Try.prog ops Q (o :: rest) a W :=
  wpList_plain hgd fun _ hk => wp_append_any s x ho B g n c xs ys hn hs b off m c2 hm hx hcells hown hB hsmall fun g' c' w' h1 h2 => hk _ _ (hK g' c' w' h1 h2)
theorem step_append_any {ops : Array Oper} {o : Oper} {a : Act} {K : Act → World → Prop} {Q : Exit → Act → World → Prop} {E : Prop} {W : World} (hgd : o.guard = none) (s x : Operand)
    (ho : o.op = .call { callee := .builtin .append, args := #[s, x], argTypes := #[27, 27] }) (B g n c : Nat) (xs ys : List Int) (hn : n = xs.length)
    (hs : a.eval s = .slice (some ⟨g, 0, none⟩) n c) (b off m c2 : Nat) (hm : m = ys.length) (hx : a.eval x = .slice (some ⟨b, off, none⟩) m c2) (hcells : ∀ i (h : i < ys.length), W.cell? ⟨b, off + i, none⟩ = some (.int .i64 ys[i])) (hown : OwnI W B (.slice (some ⟨g, 0, none⟩) n c) xs) (hB : B ≤ W.heap.size) (hsmall : xs.length + ys.length ≤ 1099511627776)
    (hK : ∀ g' c' w', OwnI w' B (.slice (some ⟨g', 0, none⟩) (xs.length + ys.length) c') (xs ++ ys) → W.grownBy w' (some g) → K (a.put o.dst (.slice (some ⟨g', 0, none⟩) (xs.length + ys.length) c')) w') :
    if Region.wanted o (yielded ops a.tmps) = true then Oper.wp Try.prog o a W K Q else E := by
  have hw : Region.wanted o (yielded ops a.tmps) = true := by simp [Region.wanted, hgd]
  rw [if_pos hw]
  exact wp_append_any s x ho B g n c xs ys hn hs b off m c2 hm hx hcells hown hB hsmall hK


end Go.Proofs.Ytcjeededlhdcbaa

namespace Go.Proofs.Ytcjeededlhdcbaa
open Go.RowKit
set_option linter.unusedVariables false
set_option linter.unusedSimpArgs false

set_option maxRecDepth 100000 in
set_option maxHeartbeats 1000000 in
theorem specAre_any (v : Value) (xs : List Tk) (w : World) (hv : TasksR w v xs) (hxs : xs.length ≤ 1000000) : Calls Try.prog 120 #[v] w fun e w' => e = .returned (.bool (tasksOk xs)) ∧ ∃ q, w' = w.drewN q := by
  have HV := Lib.hid hv
  have hl := hv.1
  unfold maxLen at hl
  obtain ⟨a, c, rfl, hcap, _⟩ := hv.at_
  clear hv
  go_enter Try.func120, Try.ntmps120
  go_wp2
  go_loopw [6] (fun vi wr => ∃ i : Nat, i ≤ xs.length ∧ vi = .int .i64 i ∧ Hid (∃ q, wr = w.drewN q) ∧ Hid (∀ j (hj : j < xs.length), j < i → taskOk j xs[j] = true)) (fun vi _ => xs.length - (intOf vi).toNat)
  case atStart => exact ⟨0, Nat.zero_le _, rfl, ⟨0, rfl⟩, fun j hj h => by omega⟩
  case round =>
    obtain ⟨i, hi, rfl, hq, hok⟩ := hrel
    obtain ⟨wr', rfl⟩ : ∃ wr' : World, wr' = wr := ⟨_, rfl⟩
    by_cases hlt : i < xs.length
    · have hVr : TasksR wr' (.slice a xs.length c) xs := by obtain ⟨q, rfl⟩ := hq.out; exact HV.out.below (below_drewN q (Below.refl _ _)) (Nat.le_refl _)
      obtain ⟨a3, c3, hsl3, _, hc⟩ := hVr.at_
      obtain ⟨rfl, rfl⟩ : a = a3 ∧ c = c3 := by simpa using hsl3
      obtain ⟨b, o, vb, vl, rfl, hbs, h1, h2, y0, y1, e0, e1, e2, e3⟩ := hc i hlt
      have hcall := l03Task_any i b (o + i * 4) xs[i] vb vl wr' (by omega) e0 e1 e2 e3 h1.ints.1 h2.ints.1
      have HBAD : Hid (taskOk i xs[i] = false → tasksOk xs = false) := fun h => tasksOk_bad hlt h
      obtain ⟨ok, hokk⟩ : ∃ ok, taskOk (i : Int) xs[i] = ok := ⟨_, rfl⟩
      rw [hokk] at hcall HBAD
      have HC := Lib.hid hcall
      have HOKK := Lib.hid hokk
      have HWQ : Hid (∀ q, ∃ q', wr'.drewN q = w.drewN q') := fun q => by obtain ⟨q0, rfl⟩ := hq.out; exact ⟨q0 + q, by simp⟩
      have k0 : (0 : Int) ≤ (i : Int) := by omega
      have k1 : (i : Int) < (xs.length : Int) := by omega
      clear hcall hokk hc hsl3 h1 h2 y0 y1 e0 e1 e2 e3 hVr hq
      cases ok
      · have HF := Lib.hid (HBAD.out rfl)
        go_wp2_with (go_at_call 154; refine HC.out.mono ?_; rintro e w' ⟨rfl, q, rfl⟩)
        go_ret
        exact ⟨ret_bool HF.out.symm, HWQ.out _⟩
      · go_wp2_with (go_at_call 154; refine HC.out.mono ?_; rintro e w' ⟨rfl, q, rfl⟩)
        go_roundw
        case rel =>
          refine ⟨i + 1, by omega, by go_num, HWQ.out _, fun j hj h => ?_⟩
          rcases Nat.lt_succ_iff_lt_or_eq.1 h with h | rfl
          · exact hok.out j hj h
          · exact HOKK.out
        case measure => simp [intOf]; omega
    · have HE := Lib.hid (tasksOk_end (xs := xs) (fun j hj => hok.out j hj (by omega)))
      have HQ := Lib.hid hq.out
      clear hok hq
      by_cases h1 : 1 ≤ xs.length
      · by_cases h2 : xs.length ≤ 16
        · go_wp2
          go_ret
          exact ⟨ret_bool (by rw [HE.out]; simp [h1]; omega), HQ.out⟩
        · go_wp2
          go_ret
          exact ⟨ret_bool (by rw [HE.out]; simp [h1]; omega), HQ.out⟩
      · have hd : decide ((1 : Int) ≤ (xs.length : Int)) = false := by simp; omega
        go_wp2
        go_ret
        exact ⟨ret_bool (by rw [HE.out]; simp [h1]), HQ.out⟩


def SUseO (ts : List Tk) (st : List Int) (E T g N : Nat) (w : World) (vk : Value) (wr : World) : Prop :=
  ∃ (k : Nat), k ≤ T ∧ vk = .int .i64 k ∧ Hid (OwnI wr N (.slice (some ⟨g, 0, none⟩) E E) (useL ts st E k)) ∧ Hid (Below N w wr)
def SUseK (ts : List Tk) (st : List Int) (E g N k : Nat) (W1 : World) (va : Value) (wr : World) : Prop :=
  ∃ (a : Int), va = .int .i64 a ∧ nth st k ≤ a ∧ a ≤ nth st k + timeN ts k ∧ Hid (OwnI wr N (.slice (some ⟨g, 0, none⟩) E E) (useM ts st E k a)) ∧ Hid (GrownL [g] W1 wr)

def StR (st : List Int) (T : Nat) (w : World) (vk : Value) (wr : World) : Prop :=
  ∃ k : Nat, k ≤ T ∧ vk = .int .i64 k ∧ Hid (∀ j, j < k → win (nth st j) 0 100000 = true) ∧ Hid (Below w.heap.size w wr)
theorem quiet_drewU {P : Program} {f : FuncId} {args : Array Value} {w : World} {n : Nat} {v : Value}
    (h : Calls P f args (w.drewN n) fun e w' => e = .returned v ∧ ∃ q, w' = (w.drewN n).drewN q) : Calls P f args (w.drewN n) fun e w'' => e = .returned v ∧ ∃ m, w'' = w.drewN m :=
  h.mono fun _ _ ⟨he, q, hq⟩ => ⟨he, n + q, by rw [hq]; simp⟩
def SPlanR (ts : List Tk) (st : List Int) (T : Nat) (w : World) (vk : Value) (wr : World) : Prop :=
  ∃ k : Nat, k ≤ T ∧ vk = .int .i64 k ∧ Hid ((List.range k).all (fun i => decide (leastN ts st i ≤ nth st i)) = true) ∧ Hid (Below w.heap.size w wr)
def UsR (ts : List Tk) (st : List Int) (crew : Int) (E T : Nat) (w : World) (vk : Value) (wr : World) : Prop :=
  ∃ k : Nat, k ≤ E ∧ vk = .int .i64 k ∧ Hid (∀ j, j < k → useN ts st (j : Nat) T ≤ crew) ∧ Hid (Below w.heap.size w wr)
end Go.Proofs.Ytcjeededlhdcbaa
