
/- impl.taken: a plan in front of a text. Conditions: at most 2^20 bytes. -/
import Derived.Test.YtmhepomjbaendaaTkOwn
import Derived.Test.YtmhepomjbaendaaStoreBoth
import Derived.Deep.RegionLaw
namespace Go.Proofs.Ytmhepomjbaendaa
open Go.RowKit Go.Shelf Go.BigFrame
set_option linter.unusedVariables false
set_option linter.unusedSimpArgs false

/-- A plan whose slices are the call's own. -/
def OwnSv (w : World) (lo : Nat) (vt vs : Value) (x : Sv) : Prop := ∃ raw mid, OwnV 86 4 w lo vt x.2.1.length raw ∧ (∀ k, vt.ownBlock = some k → k < mid) ∧ TksOwn w lo mid raw x.2.1 ∧ OwnI w mid vs x.2.2 ∧ lo ≤ mid
theorem nilV (T size : Nat) (w : World) (B : Nat) : OwnV T size w B (.slice none 0 0) 0 [] := ⟨by simp, .inl ⟨rfl, rfl⟩⟩
theorem nilI (w : World) (B : Nat) : OwnI w B (.slice none 0 0) [] := ⟨by simp, .inl ⟨rfl, rfl⟩⟩
theorem OwnSv.nil (w : World) (lo : Nat) : OwnSv w lo (.slice none 0 0) (.slice none 0 0) (ByteArray.empty, [], []) := ⟨[], lo, nilV _ _ _ _, (fun k hk => by cases hk), TksOwn.nil (Nat.le_refl _), nilI _ _, Nat.le_refl _⟩
/-- The cells of a plan. -/
def svC (nm : ByteArray) (vt vs : Value) : List Value := [.string nm, vt, vs]

theorem ownsRow_kept {w w' : World} {N T size n : Nat} {v : Value} {raw : List Value} {row : Option Nat} {lo hi : Nat} (h : OwnV T size w lo v n raw) (hb : ∀ j, v.ownBlock = some j → j < hi) (hg : w.grownBy w' row) (hr : ∀ k, row = some k → k < lo ∨ hi ≤ k) : OwnV T size w' lo v n raw := by
  refine h.kept hg ?_
  cases hv : v.ownBlock with
  | none => exact .inl rfl
  | some j =>
    refine .inr (fun e => ?_)
    have h1 := (h.lt j hv).1
    have h2 := hb j hv
    rcases hr j e.symm with h3 | h3 <;> omega
/-- What stands while a task is read: the result's cell R, the plan S with its rows below X. -/
structure EnvG (w : World) (R S X : Nat) (nm : ByteArray) (vt vs : Value) (k : Nat) (raw : List Value) (ts : List Tk) (W : World) : Prop where
  r : Blk W R 44 (svC ByteArray.empty (.slice none 0 0) (.slice none 0 0))
  s : Blk W S 44 (svC nm vt vs)
  v : OwnV 86 4 W (S + 1) vt k raw
  vb : ∀ j, vt.ownBlock = some j → j < X
  t : TksOwn W (S + 1) X raw ts
  b : Below R w W
  rs : R + 1 < S
  sx : S < X
  x : X ≤ W.heap.size
abbrev Env (w : World) (R S X : Nat) (nm : ByteArray) (vt : Value) (k : Nat) (raw : List Value) (ts : List Tk) (W : World) : Prop := EnvG w R S X nm vt (.slice none 0 0) k raw ts W
theorem EnvG.kept {w : World} {R S X : Nat} {nm : ByteArray} {vt vs : Value} {k : Nat} {raw : List Value} {ts : List Tk} {W W' : World} {row : Option Nat} (h : EnvG w R S X nm vt vs k raw ts W) (hg : W.grownBy W' row) (hr : ∀ j, row = some j → j = R + 1 ∨ X ≤ j) : EnvG w R S X nm vt vs k raw ts W' where
  r := h.r.grown hg (fun e => by have h1 := h.rs; have h2 := h.sx; rcases hr R e.symm with h | h <;> omega)
  s := h.s.grown hg (fun e => by have h1 := h.rs; have h2 := h.sx; rcases hr S e.symm with h | h <;> omega)
  v := ownsRow_kept (N := 0) h.v h.vb hg (fun j e => by have h1 := h.rs; rcases hr j e with h | h <;> omega)
  vb := h.vb
  t := h.t.kept hg (fun j e => by have h1 := h.rs; rcases hr j e with h | h <;> omega)
  b := h.b.grown hg (by have h1 := h.rs; have h2 := h.sx; have h3 := h.x; omega) (fun j e => by have h1 := h.rs; have h2 := h.sx; rcases hr j e with h | h <;> omega)
  rs := h.rs
  sx := h.sx
  x := Nat.le_trans h.x hg.size
theorem EnvG.setVs {w : World} {R S X : Nat} {nm : ByteArray} {vt vs : Value} {k : Nat} {raw : List Value} {ts : List Tk} {W : World} (h : EnvG w R S X nm vt vs k raw ts W) (u : Value) : EnvG w R S X nm vt u k raw ts (W.setCell ⟨S, 2, none⟩ u) where
  r := h.r.far ⟨S, 2, none⟩ _ (by have := h.rs; show R ≠ S; omega)
  s := h.s.set 2 u
  v := ownsRow_kept (N := 0) h.v h.vb (grown_set W ⟨S, 2, none⟩ u) (fun j e => by cases e; exact .inl (by show S < S + 1; omega))
  vb := h.vb
  t := h.t.kept (grown_set W ⟨S, 2, none⟩ u) (fun j e => by cases e; exact .inl (by show S < S + 1; omega))
  b := h.b.setCell (p := ⟨S, 2, none⟩) (by have := h.rs; show R ≤ S; omega) _
  rs := h.rs
  sx := h.sx
  x := by have h1 := h.x; simpa [World.setCell] using h1
theorem EnvG.up {w : World} {R S X X' : Nat} {nm : ByteArray} {vt vs : Value} {k : Nat} {raw : List Value} {ts : List Tk} {W : World} (h : EnvG w R S X nm vt vs k raw ts W) (h1 : X ≤ X') (h2 : X' ≤ W.heap.size) : EnvG w R S X' nm vt vs k raw ts W where
  r := h.r
  s := h.s
  v := h.v
  vb := fun j hj => by have := h.vb j hj; omega
  t := h.t.hi h1
  b := h.b
  rs := h.rs
  sx := by have := h.sx; omega
  x := h2
theorem owns_kept {W W' : World} {X T : Nat} {vb vl : Value} {bs ls : List Int} (h : OwnI W (X + 1) vb bs ∧ OwnI W (X + 1) vl ls ∧ (vb.ownBlock = none ∨ vb.ownBlock ≠ vl.ownBlock)) (hg : W.grownBy W' (some T)) (hT : T ≤ X) : OwnI W' (X + 1) vb bs ∧ OwnI W' (X + 1) vl ls ∧ (vb.ownBlock = none ∨ vb.ownBlock ≠ vl.ownBlock) := by
  have key : ∀ {v : Value} {xs : List Int}, OwnI W (X + 1) v xs → OwnI W' (X + 1) v xs := fun {v xs} h => by
    refine h.kept hg ?_
    cases hv : v.ownBlock with
    | none => exact .inl rfl
    | some j =>
      refine .inr (fun e => ?_)
      have := (h.lt j hv).1
      cases e
      omega
  exact ⟨key h.1, key h.2.1, h.2.2⟩
theorem EnvG.app {w : World} {R S X : Nat} {nm : ByteArray} {vt v5 : Value} {k : Nat} {raw cs : List Value} {ts : List Tk} {x : Tk} {W w5 : World} (h : Env w R S X nm vt k raw ts W) (hx : TkOwn W X W.heap.size cs x) (ho : OwnV 86 4 w5 (S + 1) v5 (k + 1) (raw ++ cs)) (hg : W.grownBy w5 vt.ownBlock) :
    Env w R S w5.heap.size nm v5 (k + 1) (raw ++ cs) (ts ++ [x]) (w5.setCell ⟨S, 1, none⟩ v5) := by
  have h1 := h.rs
  have h2 := h.sx
  have h3 := h.x
  have h4 := hg.size
  have hsz : (w5.setCell ⟨S, 1, none⟩ v5).heap.size = w5.heap.size := by simp [World.setCell]
  have hS := grown_set w5 ⟨S, 1, none⟩ v5
  have ht5 : TksOwn w5 (S + 1) w5.heap.size (raw ++ cs) (ts ++ [x]) :=
    .snoc (h.t.keptV h.v (by decide) hg) ((hx.keptV h.v (by decide) hg).hi h4) (by omega)
  exact {
    r := (h.r.grown hg (fun e => by have := (h.v.lt _ e.symm).1; omega)).far ⟨S, 1, none⟩ _ (by show R ≠ S; omega)
    s := (h.s.grown hg (fun e => by have := (h.v.lt _ e.symm).1; omega)).set 1 v5
    v := ownsRow_kept (N := 0) (hi := w5.heap.size) ho (fun j hj => (ho.lt j hj).2) hS (fun j e => by cases e; exact .inl (by show S < S + 1; omega))
    vb := fun j hj => (ho.lt j hj).2
    t := ht5.kept hS (fun j e => by cases e; exact .inl (by show S < S + 1; omega))
    b := (h.b.grown hg (by omega) (fun j e => by have := (h.v.lt _ e).1; omega)).setCell (p := ⟨S, 1, none⟩) (by show R ≤ S; omega) _
    rs := h1
    sx := by omega
    x := by omega }
theorem app_out {W : World} {X T : Nat} {vb : Value} {bs : List Int} (h : OwnI W (X + 1) vb bs) : ∀ j, vb.ownBlock = some j → j = T ∨ X ≤ j := fun j e => .inr (by have := (h.lt j e).1; omega)
theorem owns_app1 {W W' : World} {X g n c : Nat} {vb vl : Value} {bs bs' ls : List Int} (h : OwnI W (X + 1) vb bs ∧ OwnI W (X + 1) vl ls ∧ (vb.ownBlock = none ∨ vb.ownBlock ≠ vl.ownBlock)) (ho : OwnI W' (X + 1) (.slice (some ⟨g, 0, none⟩) n c) bs') (hg : W.grownBy W' vb.ownBlock) (hl : vb.ownBlock = some g ∨ g = W.heap.size + 1) :
    OwnI W' (X + 1) (.slice (some ⟨g, 0, none⟩) n c) bs' ∧ OwnI W' (X + 1) vl ls ∧ ((Value.slice (some ⟨g, 0, none⟩) n c).ownBlock = none ∨ (Value.slice (some ⟨g, 0, none⟩) n c).ownBlock ≠ vl.ownBlock) := by
  have hne : vl.ownBlock = none ∨ vl.ownBlock ≠ vb.ownBlock := by
    rcases h.2.2 with h1 | h1
    · rw [h1]
      cases vl.ownBlock with
      | none => exact .inl rfl
      | some j => exact .inr (by simp)
    · exact .inr (Ne.symm h1)
  refine ⟨ho, h.2.1.kept hg hne, .inr ?_⟩
  show some g ≠ vl.ownBlock
  intro e
  rcases hl with h1 | h1
  · rcases h.2.2 with h2 | h2
    · rw [h2] at h1; cases h1
    · exact h2 (h1.trans e)
  · have := (h.2.1.lt g e.symm).2
    omega
theorem owns_app2 {W W' : World} {X g n c : Nat} {vb vl : Value} {bs ls ls' : List Int} (h : OwnI W (X + 1) vb bs ∧ OwnI W (X + 1) vl ls ∧ (vb.ownBlock = none ∨ vb.ownBlock ≠ vl.ownBlock)) (ho : OwnI W' (X + 1) (.slice (some ⟨g, 0, none⟩) n c) ls') (hg : W.grownBy W' vl.ownBlock) (hl : vl.ownBlock = some g ∨ g = W.heap.size + 1) :
    OwnI W' (X + 1) vb bs ∧ OwnI W' (X + 1) (.slice (some ⟨g, 0, none⟩) n c) ls' ∧ (vb.ownBlock = none ∨ vb.ownBlock ≠ (Value.slice (some ⟨g, 0, none⟩) n c).ownBlock) := by
  refine ⟨h.1.kept hg h.2.2, ho, ?_⟩
  cases hv : vb.ownBlock with
  | none => exact .inl rfl
  | some j =>
    refine .inr ?_
    show some j ≠ some g
    intro e
    cases e
    rcases hl with h1 | h1
    · rcases h.2.2 with h2 | h2
      · rw [h2] at hv; cases hv
      · exact h2 (hv.trans h1.symm)
    · have := (h.1.lt g hv).2
      omega
theorem cut_shareT {P G : Prop} (main : P) (cont : Hid P → G) : G := cont (Lib.hid main)
theorem app_ne {W : World} {X b : Nat} {vb : Value} {bs : List Int} (h : OwnI W (X + 1) vb bs) (hb : b ≤ X) : some b ≠ vb.ownBlock := fun e => by
  have := (h.lt b e.symm).1
  omega
theorem OwnV.form {T size n : Nat} {w : World} {B : Nat} {v : Value} {raw : List Value} (h : OwnV T size w B v n raw) : ∃ a l c, v = .slice a l c := by
  rcases h.2 with ⟨h1, _⟩ | ⟨g, cap, cur, h1, _⟩
  · exact ⟨_, _, _, h1⟩
  · exact ⟨_, _, _, h1⟩
theorem OwnI.form {w : World} {B : Nat} {v : Value} {xs : List Int} (h : OwnI w B v xs) : ∃ a l c, v = .slice a l c := by
  rcases h.2 with ⟨h1, _⟩ | ⟨g, cap, cur, h1, _⟩
  · exact ⟨_, _, _, h1⟩
  · exact ⟨_, _, _, h1⟩
theorem grown_set3 (W : World) (R : Nat) (a b c : Value) : W.grownBy (((W.setCell ⟨R, 0, none⟩ a).setCell ⟨R, 1, none⟩ b).setCell ⟨R, 2, none⟩ c) (some R) :=
  grownBy_trans (grownBy_trans (grown_set W ⟨R, 0, none⟩ a) (grown_set _ ⟨R, 1, none⟩ b)) (grown_set _ ⟨R, 2, none⟩ c)
theorem EnvG.fin {w : World} {R S X : Nat} {nm : ByteArray} {vt vs : Value} {k : Nat} {raw : List Value} {ts : List Tk} {st : List Int} {W W' : World} (h : EnvG w R S X nm vt vs k raw ts W) (hk : ts.length = k) (ho : OwnI W X vs st) (hg : W.grownBy W' (some R)) : OwnSv W' R vt vs (nm, ts, st) := by
  have h1 := h.rs
  have h2 := h.sx
  refine ⟨raw, X, ?_, h.vb, ?_, ?_, by omega⟩
  · show OwnV _ _ _ _ _ ts.length _
    rw [hk]
    exact OwnV.mono (ownsRow_kept (N := 0) h.v h.vb hg (fun j e => by cases e; exact .inl (by omega))) (by omega)
  · exact TksOwn.lo (h.t.kept hg (fun j e => by cases e; exact .inl (by omega))) (by omega)
  · refine ho.kept hg (.inr ?_)
    intro e
    have := (ho.lt R e).1
    omega
theorem ownT_ne {W : World} {X b : Nat} {vs : Value} {xs : List Int} (h : OwnI W X vs xs) (hb : b < X) : vs.ownBlock ≠ some b := fun e => by
  have := (h.lt b e).1
  omega
theorem ownT_ne' {W : World} {X b : Nat} {vs : Value} {xs : List Int} (h : OwnI W X vs xs) (hb : b < X) : some b ≠ vs.ownBlock := fun e => ownT_ne h hb e.symm
theorem below3 {R : Nat} {w W : World} (h : Below R w W) (a b c : Value) : Below R w (((W.setCell ⟨R, 0, none⟩ a).setCell ⟨R, 1, none⟩ b).setCell ⟨R, 2, none⟩ c) :=
  ((h.setCell (p := ⟨R, 0, none⟩) (Nat.le_refl _) _).setCell (p := ⟨R, 1, none⟩) (Nat.le_refl _) _).setCell (p := ⟨R, 2, none⟩) (Nat.le_refl _) _
theorem grown_alloc (W : World) (o : Obj) (row : Option Nat) : W.grownBy (W.alloc o) row := ⟨rfl, rfl, rfl, by simp, fun k hk _ => Below.heap_alloc _ _ _ hk⟩
theorem grown_drew (W : World) (row : Option Nat) : W.grownBy W.drew row := ⟨rfl, rfl, rfl, Nat.le_refl _, fun k hk _ => rfl⟩

set_option maxRecDepth 100000 in
set_option maxHeartbeats 4000000 in
theorem taken_any (s : ByteArray) (w : World) (hs : s.size ≤ 1048576) :
    Calls Try.prog 73 #[.string s] w fun e w' => (∃ vt vs, e = .returned (.tuple #[savedV (gotX s).1 vt vs, .int .i64 (gotN s)]) ∧ OwnSv w' w.heap.size vt vs (gotX s)) ∧ Below w.heap.size w w' := by
  obtain ⟨A, hA⟩ : ∃ A, w.heap.size = A := ⟨_, rfl⟩
  have HTK : Hid (∀ (st : St) (n : Nat) W, Blk W (A + 1) 123 (tkC s st) → st.1 ≤ s.size → n ≤ 300 → Calls Try.prog 120 #[.pointer (some ⟨A + 1, 0, none⟩), .int .i64 n] W fun e w' => e = .returned (.string (tkS s n st)) ∧ Blk w' (A + 1) 123 (tkC s (nx s n st)) ∧ W.grownBy w' (some (A + 1))) := fun st n W hk h1 h2 => take_any (A + 1) s st n W hk h1 hs h2
  have HBY : Hid (∀ (st : St) W, Blk W (A + 1) 123 (tkC s st) → st.1 ≤ s.size → Calls Try.prog 121 #[.pointer (some ⟨A + 1, 0, none⟩)] W fun e w' => e = .returned (.int .i64 (byV s st)) ∧ Blk w' (A + 1) 123 (tkC s (nx s 1 st)) ∧ W.grownBy w' (some (A + 1))) := fun st W hk h1 => byte_any (A + 1) s st W hk h1 hs
  have HTW : Hid (∀ (st : St) W, Blk W (A + 1) 123 (tkC s st) → st.1 ≤ s.size → Calls Try.prog 122 #[.pointer (some ⟨A + 1, 0, none⟩)] W fun e w' => e = .returned (.int .i64 (twV s st)) ∧ Blk w' (A + 1) 123 (tkC s (nx s 2 st)) ∧ W.grownBy w' (some (A + 1))) := fun st W hk h1 => two_any (A + 1) s st W hk h1 hs
  subst hA
  obtain ⟨R, hR⟩ : ∃ R, w.heap.size = R := ⟨_, rfl⟩
  have hmk : (tkS s 4 (0, false)).toList ≠ [80, 76, 78, 49] → gotB s = false := fun h => by
    cases hg : gotB s with
    | false => rfl
    | true => exact absurd (got_mark hg) h
  have HNO : Hid (gotB s = false → gotX s = (ByteArray.empty, [], []) ∧ gotN s = 0) := got_no
  have HYES : Hid (gotB s = true → gotX s = (nmS s, planT s, planS s) ∧ gotN s = (st7 s).1) := got_yes
  have HNM := Lib.hid (nmL_cast s)
  have HCN := Lib.hid (cnt_cast s)
  have HMK := Lib.hid hmk
  rw [hR] at HTK HBY HTW
  have HR := Lib.hid hR
  have KT0 : Hid (Blk ((w.alloc (.cells #[.string ⟨#[]⟩, .slice none 0 0, .slice none 0 0] 44)).alloc (.cells #[.string s, .int .i64 0, .bool false] 123)) (R + 1) 123 (tkC s (0, false))) := by
    have := Blk.new (w.alloc (.cells #[.string ⟨#[]⟩, .slice none 0 0, .slice none 0 0] 44)) 123 (tkC s (0, false))
    rw [show (w.alloc (.cells #[.string ⟨#[]⟩, .slice none 0 0, .slice none 0 0] 44)).heap.size = R + 1 by rw [← hR]; simp] at this
    exact this
  have KR0 : Hid (Blk ((w.alloc (.cells #[.string ⟨#[]⟩, .slice none 0 0, .slice none 0 0] 44)).alloc (.cells #[.string s, .int .i64 0, .bool false] 123)) R 44 (svC ByteArray.empty (.slice none 0 0) (.slice none 0 0))) := by
    have := (Blk.new w 44 (svC ByteArray.empty (.slice none 0 0) (.slice none 0 0))).alloc (.cells #[.string s, .int .i64 0, .bool false] 123)
    rw [hR] at this
    exact this
  have B0 : Hid (Below R w ((w.alloc (.cells #[.string ⟨#[]⟩, .slice none 0 0, .slice none 0 0] 44)).alloc (.cells #[.string s, .int .i64 0, .bool false] 123))) := by
    rw [← hR]; exact ((Below.refl _ w).alloc (Nat.le_refl _) _).alloc (by simp) _
  have HTK0 := Lib.hid (HTK.out (0, false) 4 _ KT0.out (Nat.zero_le _) (by omega))
  clear hmk
  go_enter Try.func73, Try.ntmps73
  rw [hR]
  go_wp2_with fail
  refine HTK0.out.mono ?_
  rintro e W1 ⟨rfl, hkt1, hg1⟩
  have KT1 : Hid (Blk W1 (R + 1) 123 (tkC s (st1 s))) := hkt1
  have KR1 := Lib.hid (KR0.out.grown hg1 (by simp))
  have B1 := Lib.hid (B0.out.grown hg1 (by simp; omega) (fun j e => by cases e; omega))
  obtain ⟨M, hM⟩ : ∃ M, tkS s 4 (0, false) = M := ⟨_, rfl⟩
  rw [hM] at HMK
  rw [hM]
  clear hkt1 hg1 HTK0 KT0 KR0 B0 hM
  cases hmark : (M.toList == [80, 76, 78, 49])
  · have HF := Lib.hid (HNO.out (HMK.out (by simpa using hmark)))
    have r0 := KR1.out.cell 0 _ rfl
    have r1 := KR1.out.cell 1 _ rfl
    have r2 := KR1.out.cell 2 _ rfl
    have q0 := KR1.out.frozen 0
    have q1 := KR1.out.frozen 1
    have q2 := KR1.out.frozen 2
    clear HTK HBY HTW HNO HYES HMK HNM HCN
    go_wp2
    refine bodyPost_ret (v := .tuple #[.agg #[.string ⟨#[]⟩, .slice none 0 0, .slice none 0 0], .int .i64 0]) (by simp [results, Try.results73, go_sem, r0, r1, r2]) rfl ⟨⟨.slice none 0 0, .slice none 0 0, ?_, ?_⟩, below3 B1.out _ _ _⟩
    · rw [HF.out.1, HF.out.2]; rfl
    · rw [HF.out.1]; exact OwnSv.nil _ _
  · clear HMK
    have HB1 := Lib.hid (HBY.out (st1 s) W1 KT1.out (st1_le s))
    rw [HNM.out.1] at HB1
    go_wp2_with fail
    refine HB1.out.mono ?_
    rintro e W2 ⟨rfl, hkt2, hg2⟩
    have KT2 : Hid (Blk W2 (R + 1) 123 (tkC s (st2 s))) := hkt2
    have KR2 := Lib.hid (KR1.out.grown hg2 (by simp))
    have sz1 : R + 1 < W1.heap.size := KT1.out.lt
    have B2 := Lib.hid (B1.out.grown hg2 (by omega) (fun j e => by cases e; omega))
    have HT2 := Lib.hid (HTK.out (st2 s) (nmL s) W2 KT2.out (st2_le s) (by have := HNM.out.2; omega))
    have sz2 : R + 1 < W2.heap.size := KT2.out.lt
    clear hkt2 hg2 HB1 KT1 KR1 B1 sz1
    go_wp2_with fail
    refine HT2.out.mono ?_
    rintro e W3 ⟨rfl, hkt3, hg3⟩
    have sz3 : R + 1 < W3.heap.size := by have := hg3.size; omega
    obtain ⟨S, hS⟩ : ∃ S, W3.heap.size = S := ⟨_, rfl⟩
    have KR3 := Lib.hid (KR2.out.grown hg3 (by simp))
    have B3 := Lib.hid (B2.out.grown hg3 (by omega) (fun j e => by cases e; omega))
    have KT3 : Hid (Blk W3 (R + 1) 123 (tkC s (st3 s))) := hkt3
    have hnm : tkS s (nmL s) (st2 s) = nmS s := rfl
    have KT4 : Hid (Blk (W3.alloc (.cells #[.string (nmS s), .slice none 0 0, .slice none 0 0] 44)) (R + 1) 123 (tkC s (st3 s))) := KT3.out.alloc _
    have E4 : Hid (Env w R S (S + 1) (nmS s) (.slice none 0 0) 0 [] [] (W3.alloc (.cells #[.string (nmS s), .slice none 0 0, .slice none 0 0] 44))) := {
      r := KR3.out.alloc _
      s := by rw [← hS]; exact Blk.new W3 _ (svC (nmS s) (.slice none 0 0) (.slice none 0 0))
      v := nilV _ _ _ _
      vb := fun j hj => by cases hj
      t := TksOwn.nil (Nat.le_refl _)
      b := B3.out.alloc (by omega) _
      rs := by omega
      sx := by omega
      x := by simp; omega }
    have HB4 := Lib.hid (HBY.out (st3 s) _ KT4.out (st3_le s))
    rw [HCN.out.1] at HB4
    rw [hnm]
    have HS := Lib.hid hS
    clear hkt3 hg3 HT2 KT2 KR2 B2 sz2 KR3 B3 KT3 hnm
    go_wp2_with fail
    refine HB4.out.mono ?_
    rintro e W5 ⟨rfl, hkt5, hg5⟩
    have KT5 : Hid (Blk W5 (R + 1) 123 (tkC s (tsk s (st4 s) 0).2)) := hkt5
    have E5 := Lib.hid (E4.out.kept hg5 (fun j e => by cases e; exact .inl rfl))
    have hcn := HCN.out.2
    obtain ⟨n, hn⟩ : ∃ n, cnt s = n := ⟨_, rfl⟩
    rw [hn]
    have HN := Lib.hid hn
    rw [hn] at hcn
    clear hkt5 hg5 HB4 KT4 E4 hn sz3 hS
    go_wp2
    go_loopw [25] (fun vi wr => ∃ (k X : Nat) (vt : Value) (raw : List Value), k ≤ n ∧ vi = .int .i64 k ∧ Hid (Blk wr (R + 1) 123 (tkC s (tsk s (st4 s) k).2)) ∧ Hid (Env w R S X (nmS s) vt k raw (tsk s (st4 s) k).1 wr)) (fun vi _ => n - (intOf vi).toNat)
    case atStart => exact ⟨0, S + 1, .slice none 0 0, [], Nat.zero_le _, rfl, KT5.out, E5.out⟩
    case round =>
      obtain ⟨k, X0, vt, raw, hk, rfl, KT, E⟩ := hrel
      by_cases hkn : k < n
      · have i1 : (k : Int) < (n : Int) := by omega
        obtain ⟨st, hst⟩ : ∃ st, (tsk s (st4 s) k).2 = st := ⟨_, rfl⟩
        obtain ⟨ts, hts⟩ : ∃ ts, (tsk s (st4 s) k).1 = ts := ⟨_, rfl⟩
        have hle : st.1 ≤ s.size := by rw [← hst]; exact tsk_le (st4_le s) k
        have HSTEP : Hid (tsk s (st4 s) (k + 1) = (ts ++ [(byV s st, byV s (nx s 1 st), (prs s (nx s 1 (nx s 1 (nx s 1 st))) (byV s (nx s 1 (nx s 1 st))).toNat).1)], (prs s (nx s 1 (nx s 1 (nx s 1 st))) (byV s (nx s 1 (nx s 1 st))).toNat).2)) := by
          show (_, _) = _
          rw [hst, hts]
        rw [hst] at KT
        rw [hts] at E
        have HLN : Hid (ts.length = k) := by show _ = _; rw [← hts]; exact tsk_len s _ k
        have HB1 := Lib.hid (HBY.out st wr KT.out hle)
        obtain ⟨y0, hy0⟩ : ∃ y, byV s st = y := ⟨_, rfl⟩
        obtain ⟨st1', hst1⟩ : ∃ y, nx s 1 st = y := ⟨_, rfl⟩
        have hle1 : st1'.1 ≤ s.size := by rw [← hst1]; exact nx_le hle
        obtain ⟨y1, hy1⟩ : ∃ y, byV s st1' = y := ⟨_, rfl⟩
        obtain ⟨st2', hst2⟩ : ∃ y, nx s 1 st1' = y := ⟨_, rfl⟩
        have hle2 : st2'.1 ≤ s.size := by rw [← hst2]; exact nx_le hle1
        have hm := byV_win s st2'
        obtain ⟨m, hm2⟩ : ∃ m : Nat, byV s st2' = m := ⟨(byV s st2').toNat, by omega⟩
        obtain ⟨st3', hst3⟩ : ∃ y, nx s 1 st2' = y := ⟨_, rfl⟩
        have hle3 : st3'.1 ≤ s.size := by rw [← hst3]; exact nx_le hle2
        rw [hy0, hst1, hy1, hst2, hst3, hm2, Int.toNat_natCast] at HSTEP
        have hW0 := byV_win s st
        have hW1 := byV_win s st1'
        rw [hy0] at hW0
        rw [hy1] at hW1
        have HW := Lib.hid (And.intro hW0 hW1)
        have hmb : m ≤ 255 := by omega
        rw [hy0, hst1] at HB1
        have HB2 : Hid (∀ W, Blk W (R + 1) 123 (tkC s st1') → Calls Try.prog 121 #[.pointer (some ⟨R + 1, 0, none⟩)] W fun e w' => e = .returned (.int .i64 y1) ∧ Blk w' (R + 1) 123 (tkC s st2') ∧ W.grownBy w' (some (R + 1))) := fun W hW => by
          have := HBY.out st1' W hW hle1
          rwa [hy1, hst2] at this
        have HB3 : Hid (∀ W, Blk W (R + 1) 123 (tkC s st2') → Calls Try.prog 121 #[.pointer (some ⟨R + 1, 0, none⟩)] W fun e w' => e = .returned (.int .i64 m) ∧ Blk w' (R + 1) 123 (tkC s st3') ∧ W.grownBy w' (some (R + 1))) := fun W hW => by
          have := HBY.out st2' W hW hle2
          rwa [hm2, hst3] at this
        clear hst hts hy0 hst1 hy1 hst2 hst3 hm hm2 hW0 hW1 hle hle1 hle2 KT5 E5
        go_wp2_with fail
        refine HB1.out.mono ?_
        rintro e W6 ⟨rfl, hkt6, hg6⟩
        have KT6 := Lib.hid hkt6
        have E6 := Lib.hid (E.out.kept hg6 (fun j e => by cases e; exact .inl rfl))
        clear hkt6 hg6 HB1 KT E
        go_wp2_with fail
        refine (HB2.out _ KT6.out).mono ?_
        rintro e W7 ⟨rfl, hkt7, hg7⟩
        have KT7 := Lib.hid hkt7
        have E7 := Lib.hid (E6.out.kept hg7 (fun j e => by cases e; exact .inl rfl))
        obtain ⟨X, hX⟩ : ∃ X, W7.heap.size = X := ⟨_, rfl⟩
        have hx0 : X0 ≤ X := by rw [← hX]; exact E7.out.x
        have hrx : R + 1 < X := by have := E7.out.rs; have := E7.out.sx; omega
        have KT8 : Hid (Blk (W7.alloc (.cells #[.int .i64 y0, .int .i64 y1, .slice none 0 0, .slice none 0 0] 86)) (R + 1) 123 (tkC s st2')) := KT7.out.alloc _
        have E8 : Hid (Env w R S X (nmS s) vt k raw ts (W7.alloc (.cells #[.int .i64 y0, .int .i64 y1, .slice none 0 0, .slice none 0 0] 86))) :=
          (E7.out.up hx0 (by omega)).kept (grown_alloc W7 _ none) (fun j e => by cases e)
        have KX8 : Hid (Blk (W7.alloc (.cells #[.int .i64 y0, .int .i64 y1, .slice none 0 0, .slice none 0 0] 86)) X 86 [.int .i64 y0, .int .i64 y1, .slice none 0 0, .slice none 0 0]) := by
          rw [← hX]; exact Blk.new W7 _ _
        clear hkt7 hg7 KT6 E6 KT7 E7 HB2
        go_wp2_with fail
        refine (HB3.out _ KT8.out).mono ?_
        rintro e W9 ⟨rfl, hkt9, hg9⟩
        have KT9 : Hid (Blk W9 (R + 1) 123 (tkC s (prs s st3' 0).2)) := hkt9
        have E9 := Lib.hid (E8.out.kept hg9 (fun j e => by cases e; exact .inl rfl))
        have KX9 := Lib.hid (KX8.out.grown hg9 (by simp; omega))
        clear hkt9 hg9 KT8 E8 KX8 HB3 hX
        go_wp2
        go_loopw [34] (fun vi wi => ∃ (j : Nat) (vb vl : Value), j ≤ m ∧ vi = .int .i64 j ∧ Hid (Blk wi (R + 1) 123 (tkC s (prs s st3' j).2)) ∧ Hid (Env w R S X (nmS s) vt k raw ts wi) ∧ Hid (Blk wi X 86 [.int .i64 y0, .int .i64 y1, vb, vl]) ∧ Hid (OwnI wi (X + 1) vb (prs s st3' j).1.1 ∧ OwnI wi (X + 1) vl (prs s st3' j).1.2 ∧ (vb.ownBlock = none ∨ vb.ownBlock ≠ vl.ownBlock))) (fun vi _ => m - (intOf vi).toNat)
        case atStart => exact ⟨0, .slice none 0 0, .slice none 0 0, Nat.zero_le _, rfl, KT9.out, E9.out, KX9.out, ⟨nilI _ _, nilI _ _, .inl rfl⟩⟩
        case round =>
          obtain ⟨j, vb, vl, hj, rfl, KT, E, KX, HO⟩ := hrel
          have hxl : X + 1 ≤ wr.heap.size := KX.out.lt
          by_cases hjm : j < m
          · have j1 : (j : Int) < (m : Int) := by omega
            obtain ⟨bs, hbs⟩ : ∃ z, (prs s st3' j).1.1 = z := ⟨_, rfl⟩
            obtain ⟨ls, hls⟩ : ∃ z, (prs s st3' j).1.2 = z := ⟨_, rfl⟩
            obtain ⟨sj, hsj⟩ : ∃ z, (prs s st3' j).2 = z := ⟨_, rfl⟩
            have hlj : sj.1 ≤ s.size := by rw [← hsj]; exact prs_le hle3 j
            have HST : Hid (prs s st3' (j + 1) = ((bs ++ [byV s sj], ls ++ [byV s (nx s 1 sj) - 100]), nx s 1 (nx s 1 sj))) := by
              show ((_, _), _) = _
              rw [hbs, hls, hsj]
            have hbl : bs.length = j ∧ ls.length = j := by rw [← hbs, ← hls]; exact prs_len s st3' j
            rw [hbs, hls] at HO
            rw [hsj] at KT
            obtain ⟨x0, hx0'⟩ : ∃ z, byV s sj = z := ⟨_, rfl⟩
            obtain ⟨sk, hsk⟩ : ∃ z, nx s 1 sj = z := ⟨_, rfl⟩
            have hlk : sk.1 ≤ s.size := by rw [← hsk]; exact nx_le hlj
            have hw1 := byV_win s sk
            obtain ⟨x1, hx1'⟩ : ∃ z, byV s sk = z := ⟨_, rfl⟩
            obtain ⟨sl, hsl⟩ : ∃ z, nx s 1 sk = z := ⟨_, rfl⟩
            rw [hx1'] at hw1
            rw [hx0', hsk, hx1', hsl] at HST
            have HBA : Hid (∀ W, Blk W (R + 1) 123 (tkC s sj) → Calls Try.prog 121 #[.pointer (some ⟨R + 1, 0, none⟩)] W fun e w' => e = .returned (.int .i64 x0) ∧ Blk w' (R + 1) 123 (tkC s sk) ∧ W.grownBy w' (some (R + 1))) := fun W hW => by
              have := HBY.out sj W hW hlj
              rwa [hx0', hsk] at this
            have HBB : Hid (∀ W, Blk W (R + 1) 123 (tkC s sk) → Calls Try.prog 121 #[.pointer (some ⟨R + 1, 0, none⟩)] W fun e w' => e = .returned (.int .i64 x1) ∧ Blk w' (R + 1) 123 (tkC s sl) ∧ W.grownBy w' (some (R + 1))) := fun W hW => by
              have := HBY.out sk W hW hlk
              rwa [hx1', hsl] at this
            have HBL := Lib.hid hbl
            have hwrap : IntKind.i64.wrap (x1 - 100) = x1 - 100 := IntWalk.i64_in _ (by omega)
            have HZ : Hid (bs.length + [x0].length ≤ 1099511627776 ∧ ls.length + [x1 - 100].length ≤ 1099511627776) := by
              show _ ∧ _
              simp only [List.length_singleton]; omega
            have KTd : Hid (Blk wr.drew (R + 1) 123 (tkC s sj)) := KT.out
            have c2 := KX.out.cell 2 vb rfl
            clear hbs hls hsj hlj hx0' hsk hlk hx1' hsl hbl
            go_wp2
            refine cut_shareT (P := ?P2) ?main2 ?cont2
            case cont2 =>
              intro key
              go_region_law (first
                | (refine step_append_i64N (by rfl) _ _ (by rfl) (X + 1) vb bs [x0] (by simp) (by rfl) 1 (by rfl) HO1.out.1 hxl1 HZ.out.1 ?_; intro g3 c3 n3 w3 hn3 ho3 hg3 hl3; have KT3 := Lib.hid (KT1.out.grown hg3 (app_ne HO1.out.1 (by omega))); have KX3 := Lib.hid (KX1.out.grown hg3 (app_ne HO1.out.1 (by omega))); have E3 := Lib.hid (E1.out.kept hg3 (app_out HO1.out.1)); have HO3 := Lib.hid (owns_app1 HO1.out ho3 hg3 hl3); have c2 := KX3.out.cell 2 vb rfl; have f2 := KX3.out.frozen 2)
                | (go_simp; go_at_call 121; refine (HBA.out _ KTd.out).mono ?_; rintro e W1 ⟨rfl, hkt1, hg1⟩; have hg1' := grownBy_trans (grown_drew wr (some (R + 1))) hg1; have KT1 := Lib.hid hkt1; have E1 := Lib.hid (E.out.kept hg1' (fun j e => by cases e; exact .inl rfl)); have KX1 := Lib.hid (KX.out.grown hg1' (fun e => by have := Option.some.inj e; omega)); have HO1 := Lib.hid (owns_kept HO.out hg1' (by omega)); have c2 := KX1.out.cell 2 vb rfl; have hxl1 : X + 1 ≤ W1.heap.size := KX1.out.lt; have hxl2 : X < W1.heap.size := KX1.out.lt; have hxl3 : ¬ X = W1.heap.size := (by omega); clear hkt1 hg1 hg1'))
              all_goals
                generalize W1.heap.size = H1
                clear c2 f2 hg3 ho3 hl3
                revert H1 w3 g3 c3 n3
                exact key.out
            intro g3 c3 n3 w3 HN3 KT3 KX3 E3 HO3 H1
            obtain ⟨vb', hvb⟩ : ∃ v, Value.slice (some ⟨g3, 0, none⟩) n3 c3 = v := ⟨_, rfl⟩
            rw [hvb] at HO3
            rw [hvb]
            obtain ⟨W4, hW4⟩ : ∃ W, w3.setCell ⟨X, 2, none⟩ vb' = W := ⟨_, rfl⟩
            have KT4 : Hid (Blk W4 (R + 1) 123 (tkC s sk)) := by rw [← hW4]; exact KT3.out.far ⟨X, 2, none⟩ _ (by show R + 1 ≠ X; omega)
            have KX4 : Hid (Blk W4 X 86 [.int .i64 y0, .int .i64 y1, vb', vl]) := by rw [← hW4]; exact KX3.out.set 2 vb'
            have E4 : Hid (Env w R S X (nmS s) vt k raw ts W4) := by rw [← hW4]; exact E3.out.kept (grown_set w3 ⟨X, 2, none⟩ vb') (fun j e => by cases e; exact .inr (Nat.le_refl _))
            have HO4 : Hid (OwnI W4 (X + 1) vb' (bs ++ [x0]) ∧ OwnI W4 (X + 1) vl ls ∧ (vb'.ownBlock = none ∨ vb'.ownBlock ≠ vl.ownBlock)) := by rw [← hW4]; exact owns_kept HO3.out (grown_set w3 ⟨X, 2, none⟩ vb') (Nat.le_refl _)
            have hxl4 : X + 1 ≤ W4.heap.size := KX4.out.lt
            have KTe : Hid (Blk W4.drew (R + 1) 123 (tkC s sk)) := KT4.out
            rw [hW4]
            clear c2 KT E KX HO HN3 KT3 KX3 E3 HO3 hvb hW4 KTd HBA
            have c2 := KX4.out.cell 3 vl rfl
            go_wp2
            refine cut_shareT (P := ?P3) ?main3 ?cont3
            case cont3 =>
              intro key
              go_region_law (first
                | (refine step_append_i64N (by rfl) _ _ (by rfl) (X + 1) vl ls [x1 - 100] (by simp) (by rfl) 1 (by rfl) HO1.out.2.1 hxl1 HZ.out.2 ?_; intro g3 c3 n3 w3 hn3 ho3 hg3 hl3; have KT3 := Lib.hid (KT1.out.grown hg3 (app_ne HO1.out.2.1 (by omega))); have KX3 := Lib.hid (KX1.out.grown hg3 (app_ne HO1.out.2.1 (by omega))); have E3 := Lib.hid (E1.out.kept hg3 (app_out HO1.out.2.1)); have HO3 := Lib.hid (owns_app2 HO1.out ho3 hg3 hl3); have c2 := KX3.out.cell 3 vl rfl; have f2 := KX3.out.frozen 3)
                | (go_simp; go_at_call 121; refine (HBB.out _ KTe.out).mono ?_; rintro e W1 ⟨rfl, hkt1, hg1⟩; have hg1' := grownBy_trans (grown_drew W4 (some (R + 1))) hg1; have KT1 := Lib.hid hkt1; have E1 := Lib.hid (E4.out.kept hg1' (fun j e => by cases e; exact .inl rfl)); have KX1 := Lib.hid (KX4.out.grown hg1' (fun e => by have := Option.some.inj e; omega)); have HO1 := Lib.hid (owns_kept HO4.out hg1' (by omega)); have c2 := KX1.out.cell 3 vl rfl; have hxl1 : X + 1 ≤ W1.heap.size := KX1.out.lt; have hxl2 : X < W1.heap.size := KX1.out.lt; have hxl3 : ¬ X = W1.heap.size := (by omega); clear hkt1 hg1 hg1'))
              all_goals
                generalize W1.heap.size = H1
                clear c2 f2 hg3 ho3 hl3
                revert H1 w3 g3 c3 n3
                exact key.out
            intro g5 c5 n5 w5 HN5 KT5 KX5 E5 HO5 H2
            obtain ⟨vl', hvl⟩ : ∃ v, Value.slice (some ⟨g5, 0, none⟩) n5 c5 = v := ⟨_, rfl⟩
            rw [hvl] at HO5
            rw [hvl]
            obtain ⟨W6, hW6⟩ : ∃ W, w5.setCell ⟨X, 3, none⟩ vl' = W := ⟨_, rfl⟩
            have KT6 : Hid (Blk W6 (R + 1) 123 (tkC s (prs s st3' (j + 1)).2)) := by rw [← hW6, HST.out]; exact KT5.out.far ⟨X, 3, none⟩ _ (by show R + 1 ≠ X; omega)
            have KX6 : Hid (Blk W6 X 86 [.int .i64 y0, .int .i64 y1, vb', vl']) := by rw [← hW6]; exact KX5.out.set 3 vl'
            have E6 : Hid (Env w R S X (nmS s) vt k raw ts W6) := by rw [← hW6]; exact E5.out.kept (grown_set w5 ⟨X, 3, none⟩ vl') (fun j e => by cases e; exact .inr (Nat.le_refl _))
            have HO6 : Hid (OwnI W6 (X + 1) vb' (prs s st3' (j + 1)).1.1 ∧ OwnI W6 (X + 1) vl' (prs s st3' (j + 1)).1.2 ∧ (vb'.ownBlock = none ∨ vb'.ownBlock ≠ vl'.ownBlock)) := by rw [← hW6, HST.out]; exact owns_kept HO5.out (grown_set w5 ⟨X, 3, none⟩ vl') (Nat.le_refl _)
            rw [hW6]
            clear c2 KT4 E4 KX4 HO4 HN5 KT5 KX5 E5 HO5 hvl hW6 KTe HBB
            go_wp2
            go_roundw
            case rel => exact ⟨j + 1, vb', vl', by omega, by go_num, KT6.out, E6.out, KX6.out, HO6.out⟩
            case measure => simp [intOf]; omega
          · obtain rfl : j = m := by omega
            have hkb : k ≤ 1000000 := by omega
            have s1 := E.out.s.cell 1 vt rfl
            have x0 := KX.out.cell 0 _ rfl
            have x1 := KX.out.cell 1 _ rfl
            have x2 := KX.out.cell 2 _ rfl
            have x3 := KX.out.cell 3 _ rfl
            have HONE : Hid (∀ u ∈ [Value.int .i64 y0, .int .i64 y1, vb, vl], u.oneCell' = true) := by
              intro u hu
              simp only [List.mem_cons, List.not_mem_nil, or_false] at hu
              rcases hu with rfl | rfl | rfl | rfl
              · rfl
              · rfl
              · exact HO.out.1.one
              · exact HO.out.2.1.one
            have HSB : Hid (S + 1 ≤ wr.heap.size) := by have := E.out.sx; have := E.out.x; show _ ≤ _; omega
            have HTK1 : Hid (TkOwn wr X wr.heap.size [.int .i64 y0, .int .i64 y1, vb, vl] (y0, y1, (prs s st3' j).1)) := ⟨vb, vl, rfl, ⟨HO.out.1.mono (by omega), fun q hq => (HO.out.1.lt q hq).2⟩, ⟨HO.out.2.1.mono (by omega), fun q hq => (HO.out.2.1.lt q hq).2⟩, HO.out.2.2⟩
            clear HBY HTW HTK
            have hne1 : some (R + 1) ≠ vt.ownBlock := fun e => by have h1 := (E.out.v.lt _ e.symm).1; have := E.out.rs; omega
            have hneS : some S ≠ vt.ownBlock := fun e => by have h1 := (E.out.v.lt _ e.symm).1; omega
            have HNE := Lib.hid (And.intro hne1 hneS)
            have HRS := Lib.hid E.out.rs
            clear hne1 hneS
            go_wp2_with (at_builtin; refine append_tk rfl _ _ rfl (S + 1) vt k raw [.int .i64 y0, .int .i64 y1, vb, vl] rfl 1 rfl E.out.v rfl HONE.out HSB.out hkb ?_; intro g5 c5 n5 w5 hn5 ho5 hg5; have KT5 := Lib.hid (KT.out.grown hg5 HNE.out.1); have KS5 := Lib.hid (E.out.s.grown hg5 HNE.out.2); have E5 := Lib.hid (E.out.app HTK1.out ho5 hg5); have s1' := KS5.out.cell 1 vt rfl; have f1' := KS5.out.frozen 1; have HN5 := Lib.hid hn5; clear ho5 hg5 hn5)
            go_roundw
            case rel =>
              refine ⟨k + 1, w5.heap.size, .slice (some ⟨g5, 0, none⟩) n5 c5, raw ++ [.int .i64 y0, .int .i64 y1, vb, vl], by omega, by go_num, ?_, ?_⟩
              · show Blk _ _ _ _
                rw [HSTEP.out]
                exact KT5.out.far ⟨S, 1, none⟩ _ (by show R + 1 ≠ S; have := HRS.out; omega)
              · show Env _ _ _ _ _ _ _ _ _ _
                rw [HSTEP.out]
                exact E5.out
            case measure => simp [intOf]; omega
      · have hkn2 : k = n := by omega
        have KTn : Hid (Blk wr (R + 1) 123 (tkC s (sts s (st5 s) 0).2)) := by
          show Blk _ _ _ (tkC s (tsk s (st4 s) (cnt s)).2)
          rw [HN.out, ← hkn2]
          exact KT.out
        have En : Hid (EnvG w R S X0 (nmS s) vt (.slice none 0 0) n raw (planT s) wr) := by
          show EnvG _ _ _ _ _ _ _ _ _ (tsk s (st4 s) (cnt s)).1 _
          rw [HN.out, ← hkn2]
          exact E.out
        have HRX : Hid (R + 1 < X0) := by have := E.out.rs; have := E.out.sx; show _ < _; omega
        have i2 : ¬ (k : Int) < (n : Int) := by omega
        clear KT E KT5 E5 HBY HTK hkn2 hkn
        go_wp2
        go_loopw [60] (fun vi wi => ∃ (j : Nat) (vs : Value), j ≤ n ∧ vi = .int .i64 j ∧ Hid (Blk wi (R + 1) 123 (tkC s (sts s (st5 s) j).2)) ∧ Hid (EnvG w R S X0 (nmS s) vt vs n raw (planT s) wi) ∧ Hid (OwnI wi X0 vs (sts s (st5 s) j).1)) (fun vi _ => n - (intOf vi).toNat)
        case atStart => exact ⟨0, .slice none 0 0, Nat.zero_le _, rfl, KTn.out, En.out, nilI _ _⟩
        case round =>
          obtain ⟨j, vs, hj, rfl, KT, E, HO⟩ := hrel
          by_cases hjn : j < n
          · have j1 : (j : Int) < (n : Int) := by omega
            obtain ⟨xs, hxs⟩ : ∃ z, (sts s (st5 s) j).1 = z := ⟨_, rfl⟩
            obtain ⟨sj, hsj⟩ : ∃ z, (sts s (st5 s) j).2 = z := ⟨_, rfl⟩
            have hlj : sj.1 ≤ s.size := by rw [← hsj]; exact sts_le (st5_le s) j
            have HST : Hid (sts s (st5 s) (j + 1) = (xs ++ [twV s sj], nx s 2 sj)) := by
              show (_, _) = _
              rw [hxs, hsj]
            have hxl : xs.length = j := by rw [← hxs]; exact sts_len s _ j
            rw [hxs] at HO
            rw [hsj] at KT
            obtain ⟨x0, hx0'⟩ : ∃ z, twV s sj = z := ⟨_, rfl⟩
            obtain ⟨sk, hsk⟩ : ∃ z, nx s 2 sj = z := ⟨_, rfl⟩
            rw [hx0', hsk] at HST
            have HT1 : Hid (∀ W, Blk W (R + 1) 123 (tkC s sj) → Calls Try.prog 122 #[.pointer (some ⟨R + 1, 0, none⟩)] W fun e w' => e = .returned (.int .i64 x0) ∧ Blk w' (R + 1) 123 (tkC s sk) ∧ W.grownBy w' (some (R + 1))) := fun W hW => by
              have := HTW.out sj W hW hlj
              rwa [hx0', hsk] at this
            have HZ : Hid (xs.length + [x0].length ≤ 1099511627776) := by
              show _ ≤ _
              simp only [List.length_singleton]; omega
            have KTd : Hid (Blk wr.drew (R + 1) 123 (tkC s sj)) := KT.out
            have c2 := E.out.s.cell 2 vs rfl
            clear hxs hsj hlj hx0' hsk hxl
            go_wp2
            refine cut_shareT (P := ?P8) ?main8 ?cont8
            case cont8 =>
              intro key
              go_region_law (first
                | (refine step_append_i64N (by rfl) _ _ (by rfl) X0 vs xs [x0] (by simp) (by rfl) 1 (by rfl) HO1.out hxl1 HZ.out ?_; intro g3 c3 n3 w3 hn3 ho3 hg3 hl3; have KT3 := Lib.hid (KT1.out.grown hg3 (ownT_ne' HO1.out HRX.out)); have E3 := Lib.hid (E1.out.kept hg3 (fun j e => .inr (HO1.out.lt j e).1)); have HO3 := Lib.hid ho3; have c2 := E3.out.s.cell 2 vs rfl; have f2 := E3.out.s.frozen 2)
                | (go_simp; go_at_call 122; refine (HT1.out _ KTd.out).mono ?_; rintro e W1 ⟨rfl, hkt1, hg1⟩; have hg1' := grownBy_trans (grown_drew wr (some (R + 1))) hg1; have KT1 := Lib.hid hkt1; have E1 := Lib.hid (E.out.kept hg1' (fun j e => by cases e; exact .inl rfl)); have HO1 := Lib.hid (HO.out.kept hg1' (.inr (ownT_ne HO.out HRX.out))); have c2 := E1.out.s.cell 2 vs rfl; have hxl1 : X0 ≤ W1.heap.size := E1.out.x; have hxl2 : S < W1.heap.size := E1.out.s.lt; have hxl3 : ¬ S = W1.heap.size := (by omega); clear hkt1 hg1 hg1'))
              all_goals
                generalize W1.heap.size = H1
                clear c2 f2 hg3 ho3 hl3
                revert H1 w3 g3 c3 n3
                exact key.out
            intro g3 c3 n3 w3 HN3 KT3 E3 HO3 H1
            obtain ⟨vs', hvs⟩ : ∃ v, Value.slice (some ⟨g3, 0, none⟩) n3 c3 = v := ⟨_, rfl⟩
            rw [hvs] at HO3
            rw [hvs]
            obtain ⟨W4, hW4⟩ : ∃ W, w3.setCell ⟨S, 2, none⟩ vs' = W := ⟨_, rfl⟩
            have KT4 : Hid (Blk W4 (R + 1) 123 (tkC s (sts s (st5 s) (j + 1)).2)) := by rw [← hW4, HST.out]; exact KT3.out.far ⟨S, 2, none⟩ _ (by have := E3.out.rs; show R + 1 ≠ S; omega)
            have E4 : Hid (EnvG w R S X0 (nmS s) vt vs' n raw (planT s) W4) := by rw [← hW4]; exact E3.out.setVs vs'
            have HO4 : Hid (OwnI W4 X0 vs' (sts s (st5 s) (j + 1)).1) := by
              rw [← hW4, HST.out]
              exact HO3.out.kept (grown_set w3 ⟨S, 2, none⟩ vs') (.inr (ownT_ne HO3.out E3.out.sx))
            rw [hW4]
            clear c2 KT E HO HN3 KT3 E3 HO3 hvs hW4 KTd HT1
            go_wp2
            go_roundw
            case rel => exact ⟨j + 1, vs', by omega, by go_num, KT4.out, E4.out, HO4.out⟩
            case measure => simp [intOf]; omega
          · have hjn2 : j = n := by omega
            have i3 : ¬ (j : Int) < (n : Int) := by omega
            have KT6 : Hid (Blk wr (R + 1) 123 (tkC s (st6 s))) := by
              show Blk _ _ _ (tkC s (sts s (st5 s) (cnt s)).2)
              rw [HN.out, ← hjn2]
              exact KT.out
            have HO6 : Hid (OwnI wr X0 vs (planS s)) := by
              show OwnI _ _ _ (sts s (st5 s) (cnt s)).1
              rw [HN.out, ← hjn2]
              exact HO.out
            have HTL : Hid ((planT s).length = n) := by
              show (tsk s (st4 s) (cnt s)).1.length = n
              rw [HN.out]; exact tsk_len s _ n
            have HT7 := Lib.hid (HTW.out (st6 s) wr KT6.out (st6_le s))
            clear HTW KT HO hjn2 hjn KTn En
            go_wp2_with fail
            refine HT7.out.mono ?_
            rintro e W7 ⟨rfl, hkt7, hg7⟩
            have KT7 : Hid (Blk W7 (R + 1) 123 (tkC s (st7 s))) := hkt7
            have E7 := Lib.hid (E.out.kept hg7 (fun j e => by cases e; exact .inl rfl))
            have HO7 := Lib.hid (HO6.out.kept hg7 (.inr (ownT_ne HO6.out HRX.out)))
            clear hkt7 hg7 HT7 KT6 HO6 E
            have r0 := E7.out.r.cell 0 _ rfl
            have r1 := E7.out.r.cell 1 _ rfl
            have r2 := E7.out.r.cell 2 _ rfl
            have q0 := E7.out.r.frozen 0
            have q1 := E7.out.r.frozen 1
            have q2 := E7.out.r.frozen 2
            have t1 := KT7.out.cell 1 _ rfl
            have t2 := KT7.out.cell 2 _ rfl
            have B7 := Lib.hid E7.out.b
            obtain ⟨at_, hat⟩ : ∃ z, (st7 s).1 = z := ⟨_, rfl⟩
            have hatl : at_ ≤ s.size := by rw [← hat]; exact st7_le s
            have HAT := Lib.hid hat
            rw [hat] at t1
            clear hat
            cases hsh : (st7 s).2
            · rw [hsh] at t2
              have HSH := Lib.hid hsh
              have s0 := E7.out.s.cell 0 _ rfl
              have s1 := E7.out.s.cell 1 _ rfl
              have s2 := E7.out.s.cell 2 _ rfl
              have HTR : Hid (TasksR W7 vt (planT s)) := E7.out.t.reads (by rw [HTL.out]; exact E7.out.v) (by have := HTL.out; unfold maxLen; omega) (fun i hi => by
                obtain ⟨w1, w2, w3, w4, _⟩ := tsk_mem s (st4 s) (cnt s) _ (List.getElem_mem hi)
                exact ⟨wf_i64_iff.2 ⟨by omega, by omega⟩, wf_i64_iff.2 ⟨by omega, by omega⟩, fun n hn => wf_i64_iff.2 ⟨by have := w3 n hn; omega, by have := w3 n hn; omega⟩, fun n hn => wf_i64_iff.2 ⟨by have := w4 n hn; omega, by have := w4 n hn; omega⟩⟩)
              have HST := Lib.hid (implStore_u (nmS s) vt vs (planT s) (planS s) W7 (by have := nmS_size s hs; unfold maxLen; omega) HTR.out HO7.out.ints (fun x hx => by
                obtain ⟨_, _, _, _, h⟩ := tsk_mem s (st4 s) (cnt s) x hx
                omega))
              have HBAD : Hid (savedOk (nmS s, planT s, planS s) = false → gotB s = false) := got_bad
              have HNE : Hid (storeS (nmS s, planT s, planS s) ≠ s.extract 0 at_ → gotB s = false) := by
                rw [← HAT.out]; exact got_ne
              have HALL : Hid (savedOk (nmS s, planT s, planS s) = true → storeS (nmS s, planT s, planS s) = s.extract 0 at_ → gotB s = true) := by
                rw [← HAT.out]; exact fun h1 h2 => got_all HSH.out h1 h2
              have HSR : Hid (savedOk (nmS s, planT s, planS s) = true → storeR (nmS s, planT s, planS s) = storeS (nmS s, planT s, planS s)) := storeR_yes
              obtain ⟨K, hK⟩ : ∃ K, savedOk (nmS s, planT s, planS s) = K := ⟨_, rfl⟩
              rw [hK] at HST HBAD HALL HSR
              obtain ⟨Q, hQ⟩ : ∃ K, storeR (nmS s, planT s, planS s) = K := ⟨_, rfl⟩
              rw [hQ] at HST HSR
              unfold savedV at HST
              clear hsh hK hQ HTR
              go_wp2_with fail
              refine HST.out.mono ?_
              rintro e W8 ⟨rfl, hb8⟩
              have E8 := Lib.hid (E7.out.kept (grown_below none hb8 (Nat.le_refl _)) (fun j e => by cases e))
              have KT8 := Lib.hid (KT7.out.below hb8 KT7.out.lt)
              have HO8 := Lib.hid (HO7.out.below hb8 (Nat.le_refl _))
              clear hb8 HST r0 r1 r2 q0 q1 q2 t1 t2 s0 s1 s2 B7 E7 KT7 HO7
              have r0 := E8.out.r.cell 0 _ rfl
              have r1 := E8.out.r.cell 1 _ rfl
              have r2 := E8.out.r.cell 2 _ rfl
              have q0 := E8.out.r.frozen 0
              have q1 := E8.out.r.frozen 1
              have q2 := E8.out.r.frozen 2
              have t1 := KT8.out.cell 1 _ rfl
              rw [HAT.out] at t1
              have B8 := Lib.hid E8.out.b
              have hai : (at_ : Int) ≤ (s.size : Int) := by omega
              cases K
              · have HF := Lib.hid (HNO.out (HBAD.out rfl))
                clear HBAD HNE HALL HSR HNO HYES
                go_wp2
                refine bodyPost_ret (v := .tuple #[.agg #[.string ⟨#[]⟩, .slice none 0 0, .slice none 0 0], .int .i64 0]) (by simp [results, Try.results73, go_sem, r0, r1, r2]) rfl ⟨⟨.slice none 0 0, .slice none 0 0, ?_, ?_⟩, below3 B8.out _ _ _⟩
                · rw [HF.out.1, HF.out.2]; rfl
                · rw [HF.out.1]; exact OwnSv.nil _ _
              · have HQS := Lib.hid (HSR.out rfl)
                by_cases heq : Q = s.extract 0 at_
                · have HF := Lib.hid (HYES.out (HALL.out rfl (by rw [← HQS.out]; exact heq)))
                  have hel : (Q.toList == (s.extract 0 at_).toList) = true := by rw [heq]; simp
                  have s0 := E8.out.s.cell 0 _ rfl
                  have s1 := E8.out.s.cell 1 _ rfl
                  have s2 := E8.out.s.cell 2 _ rfl
                  clear HBAD HNE HALL HSR HNO HYES heq
                  obtain ⟨ta, tl, tc, rfl⟩ := E8.out.v.form
                  obtain ⟨sa, sl, sc, rfl⟩ := HO8.out.form
                  go_wp2
                  go_region
                  all_goals
                    go_wp2
                    refine bodyPost_ret (v := .tuple #[.agg #[.string (nmS s), .slice ta tl tc, .slice sa sl sc], .int .i64 at_]) (by simp [results, Try.results73, go_sem, r0, r1, r2]) rfl ⟨⟨.slice ta tl tc, .slice sa sl sc, ?_, ?_⟩, (below3 B8.out _ _ _).drew⟩
                    · rw [HF.out.1, HF.out.2, HAT.out]; rfl
                    · rw [HF.out.1]
                      exact E8.out.fin HTL.out HO8.out (grownBy_trans (grown_set3 W8 R _ _ _) (grown_drew _ _))
                · have HF := Lib.hid (HNO.out (HNE.out (by rw [← HQS.out]; exact heq)))
                  have hel : (Q.toList == (s.extract 0 at_).toList) = false := by
                    rw [beq_eq_false_iff_ne]
                    intro e
                    rw [Lib.toList_data, Lib.toList_data] at e
                    exact heq (bytes_eq e)
                  clear HBAD HNE HALL HSR HNO HYES heq
                  go_wp2
                  refine bodyPost_ret (v := .tuple #[.agg #[.string ⟨#[]⟩, .slice none 0 0, .slice none 0 0], .int .i64 0]) (by simp [results, Try.results73, go_sem, r0, r1, r2]) rfl ⟨⟨.slice none 0 0, .slice none 0 0, ?_, ?_⟩, below3 B8.out _ _ _⟩
                  · rw [HF.out.1, HF.out.2]; rfl
                  · rw [HF.out.1]; exact OwnSv.nil _ _
            · rw [hsh] at t2
              have HF := Lib.hid (HNO.out (got_short hsh))
              clear hsh HNO HYES
              go_wp2
              refine bodyPost_ret (v := .tuple #[.agg #[.string ⟨#[]⟩, .slice none 0 0, .slice none 0 0], .int .i64 0]) (by simp [results, Try.results73, go_sem, r0, r1, r2]) rfl ⟨⟨.slice none 0 0, .slice none 0 0, ?_, ?_⟩, below3 B7.out _ _ _⟩
              · rw [HF.out.1, HF.out.2]; rfl
              · rw [HF.out.1]; exact OwnSv.nil _ _
end Go.Proofs.Ytmhepomjbaendaa
