/- impl: BestFlow. Conditions: valid times of at most 7 jobs. With texts that it needs. -/
import Derived.Test.YtckdfahbhagoaaaFlowsAll5
import Derived.Test.YtckdfahbhagoaaaFlowsAll9
import Derived.Test.YtckdfahbhagoaaaFlowsAll6
import Derived.Deep.DeepAppendRoom
import Derived.Laws.EntriesVeiled
import Derived.Deep.LoopGhost
import Derived.Test.YtckdfahbhagoaaaFlowsAll4
import Derived.Deep.QuietTactic
import Derived.BigQuiet
import Derived.Test.YtckdfahbhagoaaaFlowsAll7
namespace Go.Proofs.Ytckdfahbhagoaaa
open Go.RowKit Go.Shelf Go.BigFrame
set_option linter.unusedVariables false
set_option linter.unusedSimpArgs false
attribute [local go_sem] Oper.semAt_some

theorem boxedP_below {W W' : World} {b : Nat} {t : TypeId} {v : Value} (h : Boxed W b t v) (hb : Below W.heap.size W W') : Boxed W' b t v := by
  have h0 : W.heap[b]? = some (.cells #[v] t (0, 0)) := h
  exact (hb.block b (Array.getElem?_eq_some_iff.1 h0).1).trans h0
theorem tkL_unset (E : List Int) (n p : Nat) (h : E.contains (p : Int) = false) : (tkL (E ++ [(p : Int)]) n).set p false = tkL E n := by
  apply List.ext_getElem
  · simp [tkL]
  · intro i h1 h2
    rw [List.getElem_set, tkL_at h2]
    split
    · rename_i e; subst e; exact h.symm
    · rename_i e
      rw [tkL_at]
      have : ¬ ((i : Int) = (p : Int)) := by omega
      simp [this]
theorem GrownL.monoP {gs hs : List Nat} {A W : World} (h : GrownL gs A W) (hh : ∀ i ∈ gs, i ∈ hs) : GrownL hs A W :=
  ⟨h.os, h.tape, h.output, h.size, fun i hi hn => h.block i hi (fun e => hn (hh i e))⟩
theorem GrownL.transP {gs hs : List Nat} {A B C : World} (h : GrownL gs A B) (k : GrownL hs B C) (hh : ∀ i ∈ hs, i ∈ gs ∨ A.heap.size ≤ i) : GrownL gs A C :=
  ⟨k.os.trans h.os, k.tape.trans h.tape, k.output.trans h.output, Nat.le_trans h.size k.size, fun i hi hn => (k.block i (Nat.lt_of_lt_of_le hi h.size) (fun e => by
    rcases hh i e with h1 | h1
    · exact hn h1
    · omega)).trans (h.block i hi hn)⟩
theorem GrownL.ownBP {gs : List Nat} {A W : World} (h : GrownL gs A W) {N g n c : Nat} {ys : List Bool} (ho : OwnB A N (.slice (some ⟨g, 0, none⟩) n c) ys) (hn : g ∉ gs) : OwnB W N (.slice (some ⟨g, 0, none⟩) n c) ys := by
  refine ⟨ho.1, ?_⟩
  rcases ho.2 with h1 | ⟨g', cap, cur, h1, h2, h3, r⟩
  · exact .inl h1
  · refine .inr ⟨g', cap, cur, h1, h2, ?_, r⟩
    obtain ⟨rfl⟩ : g = g' := by simp at h1; exact h1.1
    exact (h.block g (Array.getElem?_eq_some_iff.1 h3).1 hn).trans h3
/-- 'append(s, y)' to a row that has room: block and capacity stay. -/
theorem append_i64S {ops : Array Oper} {rest : List Oper} {o : Oper} {a : Act} {Q : Exit → Act → World → Prop} {W : World} (hgd : o.guard = none) (s x : Operand)
    (ho : o.op = .call { callee := .builtin .append, args := #[s, x], argTypes := #[25, 25] }) (B g n cap : Nat) (xs : List Int) (y : Int)
    (hs : a.eval s = .slice (some ⟨g, 0, none⟩) n cap) (c H : Nat) (hx : a.eval x = .slice (some ⟨H, 0, none⟩) 1 c) (hH : W.heap.size = H) (hn : n = xs.length) (hown : OwnI W B (.slice (some ⟨g, 0, none⟩) n cap) xs) (hroom : n + 1 ≤ cap)
    (hK : ∀ w', OwnI w' B (.slice (some ⟨g, 0, none⟩) (n + 1) cap) (xs ++ [y]) → W.grownBy w' (some g) → wpList Try.prog ops Q rest (a.put o.dst (.slice (some ⟨g, 0, none⟩) (n + 1) cap)) w') :
    wpList Try.prog ops Q (o :: rest) a (W.alloc (.cells #[.int .i64 y] 2)) := by
  subst hn
  subst hH
  obtain ⟨i0, hi, hz0, hz1, hz2⟩ := info_parts info_i64
  refine wpList_append_own_spare _ hgd s x 25 ho B 2 i0 1 Try.underlying25 hi hz1 g xs.length cap _ hs (World.ownsRow.alloc hown _) ⟨W.heap.size, 0, none⟩ 1 c [.int .i64 y] hx rfl (cells_lit W [.int .i64 y] _) ?_ hroom ?_
  · intro u hu; rw [List.mem_singleton] at hu; subst hu; rfl
  · intro w' h1 h2
    refine hK w' (by unfold OwnI; simpa using h1) ⟨h2.os, h2.tape, h2.output, Nat.le_trans (by simp) h2.size, fun k hk hne => (h2.block k (by simp; omega) hne).trans (Below.heap_alloc _ _ _ hk)⟩
/-- What the function that is handed over does. -/
structure DoP (σ : Type) (B n K : Nat) (cap : Array Value) (D P : List Nat) (St : σ → World → Prop) (step : σ → List Int → σ) : Prop where
  call : ∀ s E W g, E.Perm (idL n) → St s W → OwnI W B (.slice (some ⟨g, 0, none⟩) n n) E → Calls Try.prog K (#[.slice (some ⟨g, 0, none⟩) n n] ++ cap) W fun e W' => e = .returned (.tuple #[]) ∧ St (step s E) W' ∧ GrownL D W W'
  kept : ∀ s W W', St s W → GrownL P W W' → St s W'
  enters : Enters Try.prog K
/-- What permute's variables hold. -/
structure PutE (W : World) (B bn bd bo bu bp go gu n : Nat) (p : List Int) (Kv F : Value) : Prop where
  nv : Boxed W bn 3 (.int .i64 n)
  dov : Boxed W bd 67 Kv
  ord : Boxed W bo 25 (.slice (some ⟨go, 0, none⟩) p.length n)
  row : OwnI W B (.slice (some ⟨go, 0, none⟩) p.length n) p
  used : Boxed W bu 75 (.slice (some ⟨gu, 0, none⟩) n n)
  urow : OwnB W B (.slice (some ⟨gu, 0, none⟩) n n) (tkL p n)
  put : Boxed W bp 1 F
theorem PutE.grown {W W' : World} {B bn bd bo bu bp go gu n : Nat} {p : List Int} {Kv F : Value} {L : List Nat} (h : PutE W B bn bd bo bu bp go gu n p Kv F) (hg : GrownL L W W') (h1 : bn ∉ L) (h2 : bd ∉ L) (h3 : bo ∉ L) (h4 : go ∉ L) (h5 : bu ∉ L) (h6 : gu ∉ L) (h7 : bp ∉ L) : PutE W' B bn bd bo bu bp go gu n p Kv F :=
  ⟨hg.boxed h.nv h1, hg.boxed h.dov h2, hg.boxed h.ord h3, hg.own h.row h4, hg.boxed h.used h5, hg.ownBP h.urow h6, hg.boxed h.put h7⟩
def putF (bo bn bd bu bp : Nat) : Value := .func (.func 52) #[] #[.pointer (some ⟨bo, 0, none⟩), .pointer (some ⟨bn, 0, none⟩), .pointer (some ⟨bd, 0, none⟩), .pointer (some ⟨bu, 0, none⟩), .pointer (some ⟨bp, 0, none⟩)]

/-- One number more. -/
theorem PutE.push {wr w2 : World} {B bn bd bo bu bp go gu n m : Nat} {p : List Int} {Kv F : Value} (h : PutE wr B bn bd bo bu bp go gu n p Kv F) (o1 : bn < bd) (o2 : bd < go) (o3 : go < bo) (o4 : bo < gu) (o5 : gu < bu) (o6 : bu < bp) (hm : m < n)
    (ho : OwnI w2 B (.slice (some ⟨go, 0, none⟩) (p.length + 1) n) (p ++ [(m : Int)])) (hg : (wr.setCell ⟨gu, m, none⟩ (.bool true)).grownBy w2 (some go)) :
    w2.cell? ⟨bo, 0, none⟩ = some (.slice (some ⟨go, 0, none⟩) p.length n) ∧ w2.frozen? ⟨bo, 0, none⟩ = false ∧ w2.cell? ⟨bp, 0, none⟩ = some F ∧
      PutE (w2.setCell ⟨bo, 0, none⟩ (.slice (some ⟨go, 0, none⟩) (p.length + 1) n)) B bn bd bo bu bp go gu n (p ++ [(m : Int)]) Kv F ∧ GrownL [go, bo, gu] wr (w2.setCell ⟨bo, 0, none⟩ (.slice (some ⟨go, 0, none⟩) (p.length + 1) n)) := by
  obtain ⟨_, _, s3, _⟩ := h.urow.store (tkL_len p n).symm m (by rw [tkL_len]; exact hm) true
  rw [tkL_set _ _ _ hm] at s3
  have g1 : GrownL [go, gu] wr w2 := ((GrownL.refl _ wr).setCell ⟨gu, m, none⟩ (.bool true) (.inl (by simp))).grown hg (fun j e => .inl (by cases e; simp))
  have gA : GrownL [go] (wr.setCell ⟨gu, m, none⟩ (.bool true)) w2 := (GrownL.refl _ _).grown hg (fun j e => .inl (by cases e; simp))
  have s4 := gA.ownBP s3 (by simp; omega)
  have hb : GrownL [bo] w2 (w2.setCell ⟨bo, 0, none⟩ (.slice (some ⟨go, 0, none⟩) (p.length + 1) n)) := (GrownL.refl _ _).setCell _ _ (.inl (by simp))
  have b1 := g1.boxed h.ord (by simp; omega)
  have b2 := g1.boxed h.put (by simp; omega)
  refine ⟨b1.cell, b1.frozen, b2.cell, ⟨hb.boxed (g1.boxed h.nv (by simp; omega)) (by simp; omega), hb.boxed (g1.boxed h.dov (by simp; omega)) (by simp; omega), ?_, ?_, hb.boxed (g1.boxed h.used (by simp; omega)) (by simp; omega), hb.ownBP s4 (by simp; omega), hb.boxed b2 (by simp; omega)⟩, ?_⟩
  · rw [List.length_append]; exact b1.set _
  · rw [List.length_append]; exact hb.own ho (by simp; omega)
  · exact (g1.monoP (by simp)).setCell _ _ (.inl (by simp))
/-- .. and one less. -/
theorem PutE.pop {W5 : World} {B bn bd bo bu bp go gu n m : Nat} {p : List Int} {Kv F : Value} (h : PutE W5 B bn bd bo bu bp go gu n (p ++ [(m : Int)]) Kv F) (o1 : bn < bd) (o2 : bd < go) (o3 : go < bo) (o4 : bo < gu) (o5 : gu < bu) (o6 : bu < bp) (hm : m < n) (hc : p.contains (m : Int) = false) :
    W5.cell? ⟨bo, 0, none⟩ = some (.slice (some ⟨go, 0, none⟩) (p.length + 1) n) ∧ W5.frozen? ⟨bo, 0, none⟩ = false ∧ W5.cell? ⟨bu, 0, none⟩ = some (.slice (some ⟨gu, 0, none⟩) n n) ∧ (∃ b, W5.cell? ⟨gu, m, none⟩ = some (.bool b)) ∧ W5.frozen? ⟨gu, m, none⟩ = false ∧
      PutE ((W5.setCell ⟨bo, 0, none⟩ (.slice (some ⟨go, 0, none⟩) p.length n)).setCell ⟨gu, m, none⟩ (.bool false)) B bn bd bo bu bp go gu n p Kv F ∧ GrownL [go, bo, gu] W5 ((W5.setCell ⟨bo, 0, none⟩ (.slice (some ⟨go, 0, none⟩) p.length n)).setCell ⟨gu, m, none⟩ (.bool false)) := by
  have hb : GrownL [bo] W5 (W5.setCell ⟨bo, 0, none⟩ (.slice (some ⟨go, 0, none⟩) p.length n)) := (GrownL.refl _ _).setCell _ _ (.inl (by simp))
  have u1 := hb.ownBP h.urow (by simp; omega)
  obtain ⟨_, _, s3, _⟩ := u1.store (tkL_len _ n).symm m (by rw [tkL_len]; exact hm) false
  rw [tkL_unset _ _ _ hc] at s3
  obtain ⟨q1, q2, _, _⟩ := h.urow.store (tkL_len _ n).symm m (by rw [tkL_len]; exact hm) false
  have hu : GrownL [gu] (W5.setCell ⟨bo, 0, none⟩ (.slice (some ⟨go, 0, none⟩) p.length n)) ((W5.setCell ⟨bo, 0, none⟩ (.slice (some ⟨go, 0, none⟩) p.length n)).setCell ⟨gu, m, none⟩ (.bool false)) := (GrownL.refl _ _).setCell _ _ (.inl (by simp))
  have b1 := h.ord
  have r1 := h.row
  rw [List.length_append] at b1 r1
  have r2 := r1.cut p.length (by simp) (by simp)
  rw [List.take_left] at r2
  refine ⟨b1.cell, b1.frozen, h.used.cell, ⟨_, q1⟩, q2, ⟨hu.boxed (hb.boxed h.nv (by simp; omega)) (by simp; omega), hu.boxed (hb.boxed h.dov (by simp; omega)) (by simp; omega), hu.boxed (b1.set _) (by simp; omega), hu.own (hb.own r2 (by simp; omega)) (by simp; omega), hu.boxed (hb.boxed h.used (by simp; omega)) (by simp; omega), s3, hu.boxed (hb.boxed h.put (by simp; omega)) (by simp; omega)⟩, ?_⟩
  exact ((GrownL.refl _ _).setCell _ _ (.inl (by simp))).setCell _ _ (.inl (by simp))
/-- What a round knows. -/
def PutR {σ : Type} (B bn bd bo bu bp go gu n : Nat) (Kv : Value) (D : List Nat) (St : σ → World → Prop) (step : σ → List Int → σ) (d : Nat) (p : List Int) (s : σ) (W : World) (v : Value) (wr : World) : Prop :=
  ∃ m : Nat, m ≤ n ∧ v = .int .i64 m ∧ Hid (St (permTo (permF n step d) p s m) wr) ∧ Hid (PutE wr B bn bd bo bu bp go gu n p Kv (putF bo bn bd bu bp)) ∧ Hid (GrownL (go :: bo :: gu :: D) W wr)
set_option maxRecDepth 100000 in
set_option maxHeartbeats 4000000 in
theorem permPut_any {σ : Type} (n B bn bd bo bu bp go gu K : Nat) (cap : Array Value) (D : List Nat) (St : σ → World → Prop) (step : σ → List Int → σ) (hn : 1 ≤ n) (hn2 : n ≤ 1000000) (hdo : DoP σ B n K cap D [go, bo, gu] St step)
    (o0 : B ≤ bn) (o1 : bn < bd) (o2 : bd < go) (o3 : go < bo) (o4 : bo < gu) (o5 : gu < bu) (o6 : bu < bp) (hD : ∀ i ∈ D, i < bn) : ∀ (d : Nat) (p : List Int), p.length + d = n → PreOk n p → ∀ (W : World) (s : σ),
    St s W → PutE W B bn bd bo bu bp go gu n p (.func (.func K) #[] cap) (putF bo bn bd bu bp) →
    Calls Try.prog 52 #[.pointer (some ⟨bo, 0, none⟩), .pointer (some ⟨bn, 0, none⟩), .pointer (some ⟨bd, 0, none⟩), .pointer (some ⟨bu, 0, none⟩), .pointer (some ⟨bp, 0, none⟩)] W fun e W' => e = .returned (.tuple #[]) ∧ Hid (St (permF n step d p s) W') ∧ Hid (PutE W' B bn bd bo bu bp go gu n p (.func (.func K) #[] cap) (putF bo bn bd bu bp)) ∧ Hid (GrownL (go :: bo :: gu :: D) W W') := by
  have heg := enters_of Try.func52 (by kernel_rfl) rfl
  have hek : ∀ args w, (callFunc K args).run Try.prog w = .ok (.enter K args) w := hdo.enters
  have HDO := Lib.hid hdo
  have HDD := Lib.hid hD
  clear hdo hD
  intro d
  induction d with
  | zero =>
    intro p hp hpre W s hs hE
    have hpn : p.length = n := hp
    have c1 : W.cell? ⟨bo, 0, none⟩ = some (.slice (some ⟨go, 0, none⟩) n n) := by have := hE.ord.cell; rwa [hpn] at this
    have c2 := hE.nv.cell
    have c3 : W.cell? ⟨bd, 0, none⟩ = some (.func (.func K) #[] cap) := hE.dov.cell
    have hrow := hE.row
    rw [hpn] at hrow
    have HC := Lib.hid (HDO.out.call s p W go (hpre.perm hpn) hs hrow)
    have HE := Lib.hid hE
    clear hs hE hrow hpn hp
    go_enter Try.func52, Try.ntmps52
    go_wp2_with fail
    refine HC.out.mono ?_
    rintro e W' ⟨rfl, hs', hg'⟩
    have HS := Lib.hid hs'
    have HG := Lib.hid hg'
    clear hs' hg'
    go_wp2_with fail
    ((try simp only [Exit.inBlock, Exit.then]); refine bodyPost_ret (results_none rfl _ _ _) rfl ?_)
    have hnd : ∀ i, bn ≤ i → i ∉ D := fun i hi e => by have := HDD.out i e; omega
    exact ⟨rfl, HS.out, HE.out.grown HG.out (hnd _ (by omega)) (hnd _ (by omega)) (hnd _ (by omega)) (hnd _ (by omega)) (hnd _ (by omega)) (hnd _ (by omega)) (hnd _ (by omega)), HG.out.monoP (by simp_all)⟩
  | succ d ih =>
    intro p hp hpre W s hs hE
    obtain ⟨L, hL⟩ : ∃ L, p.length = L := ⟨_, rfl⟩
    have HL := Lib.hid hL
    have hLn : L < n := by omega
    have l0 : (0 : Int) ≤ (L : Int) := by omega
    have hne : ((L : Int) == (n : Int)) = false := by simp; omega
    have c1 := hE.ord.cell
    rw [hL] at c1
    have c2 := hE.nv.cell
    have HPR := Lib.hid hpre
    have HR0 : Hid (PutR B bn bd bo bu bp go gu n (.func (.func K) #[] cap) D St step d p s W (.int .i64 0) W) := ⟨0, Nat.zero_le _, rfl, hs, hE, GrownL.refl _ _⟩
    have HIH := Lib.hid ih
    have HLD : Hid (L + (d + 1) = n) := by show _ = _; omega
    clear hs hE hp hpre ih hL
    go_enter Try.func52, Try.ntmps52
    go_wp2_with fail
    go_loopw [14] (fun v wr => PutR B bn bd bo bu bp go gu n (.func (.func K) #[] cap) D St step d p s W v wr) (fun v _ => n - (intOf v).toNat)
    case atStart => exact HR0.out
    case round =>
      obtain ⟨m, hm, rfl, HS, HE, HG⟩ := hrel
      clear HR0 c1 c2 hne
      by_cases hmn : m < n
      · have m0 : (0 : Int) ≤ (m : Int) := by omega
        have m1 : (m : Int) < (n : Int) := by omega
        have u1 := HE.out.used.cell
        obtain ⟨s1, s2, _, _⟩ := HE.out.urow.store (tkL_len p n).symm m (by rw [tkL_len]; exact hmn) true
        rw [tkL_at] at s1
        have hnext := permTo_succ (permF n step d) p s m
        cases hc : p.contains (m : Int)
        · rw [hc] at s1 hnext
          rw [if_neg (by simp)] at hnext
          have HNX := Lib.hid hnext
          have HC := Lib.hid hc
          have c1 := HE.out.ord.cell
          rw [HL.out] at c1
          have HO : Hid (OwnI (wr.setCell ⟨gu, m, none⟩ (.bool true)) B (.slice (some ⟨go, 0, none⟩) L n) p) := by
            have h1 := HE.out.row
            rw [HL.out] at h1
            exact ((GrownL.refl [gu] wr).setCell ⟨gu, m, none⟩ (.bool true) (.inl (by simp))).own h1 (by simp; omega)
          have HPU : Hid (∀ w2, OwnI w2 B (.slice (some ⟨go, 0, none⟩) (L + 1) n) (p ++ [(m : Int)]) → (wr.setCell ⟨gu, m, none⟩ (.bool true)).grownBy w2 (some go) → _) := fun w2 h1 h2 => by
            have := HE.out.push (w2 := w2) (m := m) o1 o2 o3 o4 o5 o6 hmn (by rw [HL.out]; exact h1) h2
            rw [HL.out] at this
            exact this
          clear hnext hc
          go_wp2_with (first
            | (at_builtin; refine append_i64S rfl _ _ rfl B go L n p (m : Int) rfl _ wr.heap.size rfl (by simp) HL.out.symm HO.out hLn ?_; intro w2 ho2 hg2; obtain ⟨d1, d2, d3, d4, d5⟩ := HPU.out w2 ho2 hg2; unfold putF at d3; have HE4 := Lib.hid d4; have HG4 := Lib.hid d5; clear ho2 hg2 d4 d5)
            | (go_at_call 52; refine (HIH.out (p ++ [(m : Int)]) (by rw [List.length_append, HL.out]; have := HLD.out; simp; omega) (HPR.out.push hmn HC.out) _ _ (HDO.out.kept _ _ _ HS.out HG4.out) HE4.out).mono ?_; rintro e W5 ⟨rfl, HS5, HE5, HG5⟩; obtain ⟨f1, f2, f3, ⟨bx, f4⟩, f5, f6, f7⟩ := HE5.out.pop o1 o2 o3 o4 o5 o6 hmn HC.out; rw [HL.out] at f1 f6 f7; have HE6 := Lib.hid f6; have HG6 := Lib.hid f7; clear f6 f7))
          go_roundw
          case rel =>
            refine ⟨m + 1, by omega, by go_num, ?_, HE6.out, ?_⟩
            · show St _ _
              rw [HNX.out]
              exact HDO.out.kept _ _ _ HS5.out HG6.out
            · exact ((HG.out.trans (HG4.out.monoP (by simp_all))).trans HG5.out).trans (HG6.out.monoP (by simp_all))
          case measure => simp [intOf]; omega
        · rw [hc] at s1 hnext
          rw [if_pos rfl] at hnext
          have HNX := Lib.hid hnext
          clear hnext hc
          go_wp2_with fail
          go_roundw
          case rel => exact ⟨m + 1, by omega, by go_num, by show St _ _; rw [HNX.out]; exact HS.out, HE.out, HG.out⟩
          case measure => simp [intOf]; omega
      · obtain rfl : m = n := by omega
        go_wp2_with fail
        go_end0
        exact ⟨rfl, HS.out, HE.out, HG.out⟩
end Go.Proofs.Ytckdfahbhagoaaa

namespace Go.Proofs.Ytckdfahbhagoaaa
open Go.RowKit Go.Shelf Go.BigFrame
set_option linter.unusedVariables false
set_option linter.unusedSimpArgs false
attribute [local go_sem] Oper.semAt_some

theorem permStart {w w2 w4 : World} {n K : Nat} {cap : Array Value} (h2 : OwnI w2 w.heap.size (.slice (some ⟨w.heap.size + 1 + 1, 0, none⟩) 0 n) [])
    (b2 : Below (w.heap.size + 1 + 1) ((w.alloc (.cells #[.int .i64 n] 3)).alloc (.cells #[.func (.func K) #[] cap] 67)) w2)
    (h4 : OwnB w4 w.heap.size (.slice (some ⟨w2.heap.size + 1, 0, none⟩) n n) (List.replicate n false))
    (b4 : Below (w2.heap.size + 1) (w2.alloc (.cells #[.slice (some ⟨w.heap.size + 1 + 1, 0, none⟩) 0 n] 25)) w4) :
    PutE ((w4.alloc (.cells #[.slice (some ⟨w2.heap.size + 1, 0, none⟩) n n] 75)).alloc (.cells #[putF w2.heap.size w.heap.size (w.heap.size + 1) w4.heap.size (w4.heap.size + 1)] 1)) w.heap.size w.heap.size (w.heap.size + 1) w2.heap.size w4.heap.size (w4.heap.size + 1) (w.heap.size + 1 + 1) (w2.heap.size + 1) n [] (.func (.func K) #[] cap) (putF w2.heap.size w.heap.size (w.heap.size + 1) w4.heap.size (w4.heap.size + 1))
      ∧ Below w.heap.size w ((w4.alloc (.cells #[.slice (some ⟨w2.heap.size + 1, 0, none⟩) n n] 75)).alloc (.cells #[putF w2.heap.size w.heap.size (w.heap.size + 1) w4.heap.size (w4.heap.size + 1)] 1))
      ∧ w.heap.size + 1 + 1 < w2.heap.size ∧ w2.heap.size + 1 < w4.heap.size := by
  have l2 : w.heap.size ≤ w.heap.size + 1 + 1 ∧ w.heap.size + 1 + 1 < w2.heap.size := h2.lt _ rfl
  have l4 : w.heap.size ≤ w2.heap.size + 1 ∧ w2.heap.size + 1 < w4.heap.size := h4.lt _ rfl
  have bA : Below w4.heap.size w4 ((w4.alloc (.cells #[.slice (some ⟨w2.heap.size + 1, 0, none⟩) n n] 75)).alloc (.cells #[putF w2.heap.size w.heap.size (w.heap.size + 1) w4.heap.size (w4.heap.size + 1)] 1)) := ((Below.refl _ _).alloc (Nat.le_refl _) _).alloc (by simp) _
  have b0 : Below w.heap.size w ((w.alloc (.cells #[.int .i64 n] 3)).alloc (.cells #[.func (.func K) #[] cap] 67)) := ((Below.refl _ _).alloc (Nat.le_refl _) _).alloc (by simp) _
  have b3 : Below w2.heap.size w2 (w2.alloc (.cells #[.slice (some ⟨w.heap.size + 1 + 1, 0, none⟩) 0 n] 25)) := (Below.refl _ _).alloc (Nat.le_refl _) _
  have e4 : Below w2.heap.size w2 w4 := b3.trans (b4.mono (by omega))
  have eA := e4.trans (bA.mono (by omega))
  have e2 : Below (w.heap.size + 1 + 1) ((w.alloc (.cells #[.int .i64 n] 3)).alloc (.cells #[.func (.func K) #[] cap] 67)) ((w4.alloc (.cells #[.slice (some ⟨w2.heap.size + 1, 0, none⟩) n n] 75)).alloc (.cells #[putF w2.heap.size w.heap.size (w.heap.size + 1) w4.heap.size (w4.heap.size + 1)] 1)) := b2.trans (eA.mono (by omega))
  have n0 : Boxed ((w.alloc (.cells #[.int .i64 n] 3)).alloc (.cells #[.func (.func K) #[] cap] 67)) w.heap.size 3 (.int .i64 n) := (Boxed.new w _ _).alloc _
  have n1 : Boxed ((w.alloc (.cells #[.int .i64 n] 3)).alloc (.cells #[.func (.func K) #[] cap] 67)) (w.heap.size + 1) 67 (.func (.func K) #[] cap) := by
    have := Boxed.new (w.alloc (.cells #[.int .i64 n] 3)) 67 (.func (.func K) #[] cap)
    rwa [World.size_alloc] at this
  have n2 : Boxed (w2.alloc (.cells #[.slice (some ⟨w.heap.size + 1 + 1, 0, none⟩) 0 n] 25)) w2.heap.size 25 (.slice (some ⟨w.heap.size + 1 + 1, 0, none⟩) 0 n) := Boxed.new _ _ _
  have n3 : Boxed ((w4.alloc (.cells #[.slice (some ⟨w2.heap.size + 1, 0, none⟩) n n] 75)).alloc (.cells #[putF w2.heap.size w.heap.size (w.heap.size + 1) w4.heap.size (w4.heap.size + 1)] 1)) w4.heap.size 75 (.slice (some ⟨w2.heap.size + 1, 0, none⟩) n n) := (Boxed.new _ _ _).alloc _
  have n4 : Boxed ((w4.alloc (.cells #[.slice (some ⟨w2.heap.size + 1, 0, none⟩) n n] 75)).alloc (.cells #[putF w2.heap.size w.heap.size (w.heap.size + 1) w4.heap.size (w4.heap.size + 1)] 1)) (w4.heap.size + 1) 1 (putF w2.heap.size w.heap.size (w.heap.size + 1) w4.heap.size (w4.heap.size + 1)) := by
    have := Boxed.new (w4.alloc (.cells #[.slice (some ⟨w2.heap.size + 1, 0, none⟩) n n] 75)) 1 (putF w2.heap.size w.heap.size (w.heap.size + 1) w4.heap.size (w4.heap.size + 1))
    rwa [World.size_alloc] at this
  have k2 : Boxed w4 w2.heap.size 25 (.slice (some ⟨w.heap.size + 1 + 1, 0, none⟩) 0 n) := (b4.block _ (by omega)).trans n2
  refine ⟨⟨(e2.block _ (by omega)).trans n0, (e2.block _ (by omega)).trans n1, boxedP_below k2 bA, h2.below eA (Nat.le_refl _), n3, ?_, n4⟩, b0.trans (e2.mono (by omega)), l2.2, l4.2⟩
  rw [tkL_nil]
  refine ⟨h4.1, ?_⟩
  exact (((h4.alloc _).alloc _)).2
theorem permMade2 {w w2 : World} {n K : Nat} {cap : Array Value} (hown2 : w2.ownsRow w.heap.size 2 1 (.slice (some ⟨((w.alloc (.cells #[.int .i64 n] 3)).alloc (.cells #[.func (.func K) #[] cap] 67)).heap.size, 0, none⟩) 0 n) 0 [])
    (hgrow2 : ((w.alloc (.cells #[.int .i64 n] 3)).alloc (.cells #[.func (.func K) #[] cap] 67)).grownBy w2 none) :
    Hid (OwnI w2 w.heap.size (.slice (some ⟨w.heap.size + 1 + 1, 0, none⟩) 0 n) []) ∧ Hid (Below (w.heap.size + 1 + 1) ((w.alloc (.cells #[.int .i64 n] 3)).alloc (.cells #[.func (.func K) #[] cap] 67)) w2) ∧
      (∀ ob, (w2.alloc ob).cell? ⟨w.heap.size, 0, none⟩ = some (.int .i64 n)) ∧ w.heap.size + 1 + 1 ≤ w2.heap.size := by
  have hb : Below (w.heap.size + 1 + 1) ((w.alloc (.cells #[.int .i64 n] 3)).alloc (.cells #[.func (.func K) #[] cap] 67)) w2 := (Below.refl _ _).grown hgrow2 (by simp) (fun k e => by cases e)
  have h := hown2
  simp only [World.size_alloc] at h
  have hx : Boxed w2 w.heap.size 3 (.int .i64 n) := (hb.block _ (by omega)).trans ((Boxed.new w 3 (.int .i64 n)).alloc _)
  exact ⟨h, hb, fun ob => (hx.alloc ob).cell, by have := hb.size; simpa using this⟩
theorem permMade4 {w w2 w4 : World} {n : Nat} {go : Value} (hown4 : w4.ownsRow w.heap.size 4 1 (.slice (some ⟨(w2.alloc (.cells #[go] 25)).heap.size, 0, none⟩) n n) n (madeCells (Value.bool false).cells (n * 1)).toList)
    (hgrow4 : (w2.alloc (.cells #[go] 25)).grownBy w4 none) :
    Hid (OwnB w4 w.heap.size (.slice (some ⟨w2.heap.size + 1, 0, none⟩) n n) (List.replicate n false)) ∧ Hid (Below (w2.heap.size + 1) (w2.alloc (.cells #[go] 25)) w4) := by
  have h := OwnB.made hown4
  simp only [World.size_alloc] at h
  exact ⟨h, (Below.refl _ _).grown hgrow4 (by simp) (fun k e => by cases e)⟩
set_option maxRecDepth 100000 in
set_option maxHeartbeats 2000000 in
theorem permute_any {σ : Type} (n K : Nat) (cap : Array Value) (D : List Nat) (St : Nat → σ → World → Prop) (step : σ → List Int → σ) (hn : 1 ≤ n) (hn2 : n ≤ 1000000) (w : World)
    (hdo : ∀ P B1, (∀ i ∈ P, w.heap.size ≤ i ∧ i < B1) → DoP σ w.heap.size n K cap D P (St B1) step) (hD : ∀ i ∈ D, i < w.heap.size) (s : σ) (hs : ∀ B1 W', Below w.heap.size w W' → B1 ≤ W'.heap.size → St B1 s W') :
    Calls Try.prog 39 #[.int .i64 n, .func (.func K) #[] cap] w fun e w' => e = .returned (.tuple #[]) ∧ (∃ B1, w.heap.size ≤ B1 ∧ St B1 (permF n step n [] s) w') ∧ GrownL D w w' := by
  have hmf : ∀ (fn : Fn) (first cap : Array Value) (w : World), (Instr.makeFunc fn first cap).run Try.prog w = .ok (.func fn first cap) w := fun _ _ _ _ => rfl
  have heg := enters_of Try.func52 (by kernel_rfl) rfl
  obtain ⟨i0, hi, hz0, hz1, hz2⟩ := info_parts info_i64
  obtain ⟨j0, hj, jz0, jz1, jz2⟩ := info_parts info_bool
  have HDO := Lib.hid hdo
  have HDD := Lib.hid hD
  have HS := Lib.hid hs
  clear hdo hD hs
  go_enter Try.func39, Try.ntmps39
  go_upto_region 3 with (first
    | (at_make; refine wpList_make_own _ rfl _ _ 25 rfl w.heap.size 2 i0 (.int .i64 0) 1 Try.underlying25 hi hz0 hz1 _ _ _ n rfl rfl rfl (by rw [hz2]; omega) (by unfold maxLen; omega) (by simp; omega) ?_; intro w2 hown2 hgrow2; obtain ⟨HO2, HB2, hbn2, hs2⟩ := permMade2 hown2 hgrow2; clear hown2 hgrow2)
    | (at_make; refine wpList_make_full _ rfl _ _ 75 rfl w.heap.size 4 j0 (.bool false) 1 Try.underlying75 hj jz0 jz1 _ _ _ _ n rfl rfl rfl rfl (by rw [jz2]; omega) (by unfold maxLen; omega) (by simp; omega) ?_; intro w4 hown4 hgrow4; obtain ⟨HO4, HB4⟩ := permMade4 hown4 hgrow4; clear hown4 hgrow4))
  obtain ⟨W5, hW5⟩ : ∃ W, w4.alloc (.cells #[.slice (some ⟨w2.heap.size + 1, 0, none⟩) n n] 75) = W := ⟨_, rfl⟩
  have HW5 := Lib.hid hW5
  have HZ5 : Hid (W5.heap.size = w4.heap.size + 1) := by show _ = _; rw [← hW5]; simp
  rw [hW5]
  clear hW5
  go_wp2_with fail
  obtain ⟨hE, hB, l2, l4⟩ := permStart HO2.out HB2.out HO4.out HB4.out (cap := cap) (K := K)
  rw [HW5.out, ← HZ5.out] at hE hB
  have hP : ∀ i ∈ [w.heap.size + 1 + 1, w2.heap.size, w2.heap.size + 1], w.heap.size ≤ i ∧ i < w4.heap.size := fun i hi => by
    simp at hi; omega
  have hd := HDO.out [w.heap.size + 1 + 1, w2.heap.size, w2.heap.size + 1] w4.heap.size hP
  have hS := HS.out w4.heap.size _ hB (by have := HZ5.out; simp; omega)
  have HG : Hid (GrownL D w (W5.alloc (.cells #[putF w2.heap.size w.heap.size (w.heap.size + 1) w4.heap.size W5.heap.size] 1))) := (GrownL.refl D w).below hB (Nat.le_refl _)
  refine (permPut_any n w.heap.size w.heap.size (w.heap.size + 1) w2.heap.size w4.heap.size W5.heap.size (w.heap.size + 1 + 1) (w2.heap.size + 1) K cap D (St w4.heap.size) step hn hn2 hd (Nat.le_refl _) (by omega) (by omega) (by omega) (by omega) (by omega) (by have := HZ5.out; omega) HDD.out n [] (by simp) (PreOk.nil n) _ s hS hE).mono ?_
  rintro e W5 ⟨rfl, HS5, _, HG5⟩
  have HG6 : Hid (GrownL D w W5) := HG.out.transP HG5.out (fun i hi => by
    simp only [List.mem_cons] at hi
    rcases hi with e | e | e | e
    · exact .inr (by omega)
    · exact .inr (by omega)
    · exact .inr (by omega)
    · exact .inl e)
  clear hE hB hd hS HG5 HG
  go_wp2
  go_end0
  exact ⟨rfl, ⟨_, by omega, HS5.out⟩, HG6.out⟩
end Go.Proofs.Ytckdfahbhagoaaa

namespace Go.Proofs.Ytckdfahbhagoaaa
open Go.RowKit Go.Shelf Go.BigFrame
set_option linter.unusedVariables false
set_option linter.unusedSimpArgs false
attribute [local go_sem] Oper.semAt_some

theorem sl_nil0 (W : World) : (binOp .eql 25 (.slice none 0 0) (.slice none 0 0)).run Try.prog W = .ok (.bool true) W := by kernel_rfl
/-- What the function that is handed over answers. -/
def TellAt (K : Nat) (cap : Array Value) (f : List Int → Option Int) (n g : Nat) (E : List Int) (W : World) : Prop :=
  Calls Try.prog K (#[.slice (some ⟨g, 0, none⟩) n n] ++ cap) W fun e W' => ((f E = none ∧ ∃ x, e = .returned (.tuple #[.int .i64 x, .bool false])) ∨ (∃ x, f E = some x ∧ e = .returned (.tuple #[.int .i64 x, .bool true]))) ∧ Below W.heap.size W W'
/-- What firstLeast's variables hold. -/
structure FirE (W : World) (B1 bt bb bl n : Nat) (Kv : Value) (w0 : World) (v : Value) (x : Int) : Prop where
  tell : Boxed W bt 50 Kv
  best : Boxed W bb 25 v
  least : Boxed W bl 2 (.int .i64 x)
  bel : Below w0.heap.size w0 W
def FirSt (bt bb bl n : Nat) (Kv : Value) (w0 : World) (B1 : Nat) (s : Option (List Int × Int)) (W : World) : Prop :=
  match s with
  | none => FirE W B1 bt bb bl n Kv w0 (.slice none 0 0) 0
  | some b => ∃ g c, FirE W B1 bt bb bl n Kv w0 (.slice (some ⟨g, 0, none⟩) n c) b.2 ∧ OwnI W B1 (.slice (some ⟨g, 0, none⟩) n c) b.1
theorem FirE.grown {W W' : World} {B1 bt bb bl n : Nat} {Kv : Value} {w0 : World} {v : Value} {x : Int} {L : List Nat} (h : FirE W B1 bt bb bl n Kv w0 v x) (hg : GrownL L W W') (h1 : bt ∉ L) (h2 : bb ∉ L) (h3 : bl ∉ L) (h4 : ∀ i ∈ L, w0.heap.size ≤ i) : FirE W' B1 bt bb bl n Kv w0 v x :=
  ⟨hg.boxed h.tell h1, hg.boxed h.best h2, hg.boxed h.least h3, hg.toBelow h.bel h.bel.size (fun i hi e => by have := h4 i e; omega)⟩
theorem FirE.below {W W' : World} {B1 bt bb bl n : Nat} {Kv : Value} {w0 : World} {v : Value} {x : Int} (h : FirE W B1 bt bb bl n Kv w0 v x) (hb : Below W.heap.size W W') : FirE W' B1 bt bb bl n Kv w0 v x :=
  ⟨boxedP_below h.tell hb, boxedP_below h.best hb, boxedP_below h.least hb, h.bel.trans (hb.mono h.bel.size)⟩
/-- A new best one. -/
theorem FirE.put {W W1 : World} {B1 bt bb bl n g c : Nat} {Kv : Value} {w0 : World} {v : Value} {x y : Int} {E : List Int} (h : FirE W B1 bt bb bl n Kv w0 v x) (o1 : bt < bb) (o2 : bb < bl) (o3 : w0.heap.size ≤ bt) (hb : Below W.heap.size W W1) (ho : OwnI W1 W.heap.size (.slice (some ⟨g, 0, none⟩) n c) E) (hB : B1 ≤ W.heap.size) :
    FirE ((W1.setCell ⟨bb, 0, none⟩ (.slice (some ⟨g, 0, none⟩) n c)).setCell ⟨bl, 0, none⟩ (.int .i64 y)) B1 bt bb bl n Kv w0 (.slice (some ⟨g, 0, none⟩) n c) y ∧ OwnI ((W1.setCell ⟨bb, 0, none⟩ (.slice (some ⟨g, 0, none⟩) n c)).setCell ⟨bl, 0, none⟩ (.int .i64 y)) B1 (.slice (some ⟨g, 0, none⟩) n c) E ∧
      GrownL [bb, bl] W ((W1.setCell ⟨bb, 0, none⟩ (.slice (some ⟨g, 0, none⟩) n c)).setCell ⟨bl, 0, none⟩ (.int .i64 y)) := by
  have h1 := h.below hb
  have hl := h.least.lt
  have hg := (ho.lt g rfl).1
  have g1 : GrownL [bb] W1 (W1.setCell ⟨bb, 0, none⟩ (.slice (some ⟨g, 0, none⟩) n c)) := (GrownL.refl _ _).setCell _ _ (.inl (by simp))
  have g2 : GrownL [bl] (W1.setCell ⟨bb, 0, none⟩ (.slice (some ⟨g, 0, none⟩) n c)) ((W1.setCell ⟨bb, 0, none⟩ (.slice (some ⟨g, 0, none⟩) n c)).setCell ⟨bl, 0, none⟩ (.int .i64 y)) := (GrownL.refl _ _).setCell _ _ (.inl (by simp))
  have hG : GrownL [bb, bl] W ((W1.setCell ⟨bb, 0, none⟩ (.slice (some ⟨g, 0, none⟩) n c)).setCell ⟨bl, 0, none⟩ (.int .i64 y)) := (((GrownL.refl _ W).below hb (Nat.le_refl _)).setCell _ _ (.inl (by simp))).setCell _ _ (.inl (by simp))
  refine ⟨⟨hG.boxed h.tell (by simp; omega), g2.boxed (h1.best.set _) (by simp; omega), ?_, hG.toBelow h.bel h.bel.size (fun i hi => by simp; omega)⟩, (g2.own (g1.own (ho.mono hB) (by simp; omega)) (by simp; omega)), hG⟩
  have h2 := g1.boxed h1.least (by simp; omega)
  exact h2.set _
set_option maxRecDepth 100000 in
set_option maxHeartbeats 2000000 in
theorem firDo_any (n K : Nat) (cap : Array Value) (f : List Int → Option Int) (w0 : World) (B B1 bt bb bl g : Nat) (P : List Nat) (s : Option (List Int × Int)) (E : List Int) (W : World) (hn : 1 ≤ n) (hn2 : n ≤ 1000000) (o1 : bt < bb) (o2 : bb < bl) (o3 : w0.heap.size ≤ bt)
    (hB1 : B1 ≤ W.heap.size) (hek : Enters Try.prog K) (hs : FirSt bt bb bl n (.func (.func K) #[] cap) w0 B1 s W) (ho : OwnI W B (.slice (some ⟨g, 0, none⟩) n n) E) (hE : E.length = n) (ht : TellAt K cap f n g E W) :
    Calls Try.prog 40 #[.slice (some ⟨g, 0, none⟩) n n, .pointer (some ⟨bt, 0, none⟩), .pointer (some ⟨bb, 0, none⟩), .pointer (some ⟨bl, 0, none⟩)] W fun e W' => e = .returned (.tuple #[]) ∧ FirSt bt bb bl n (.func (.func K) #[] cap) w0 B1 (flStep f s E) W' ∧ GrownL [bb, bl] W W' := by
  have hsn := sl_nil
  have hsn0 := sl_nil0
  have hek' : ∀ args w, (callFunc K args).run Try.prog w = .ok (.enter K args) w := hek
  have HT : Hid (TellAt K cap f n g E W) := ht
  unfold TellAt at HT
  have HE := Lib.hid hE
  have HCL : Hid (∀ W', Below W.heap.size W W' → Calls Try.prog 41 #[.slice (some ⟨g, 0, none⟩) n n] W' fun e w' => (∃ g' c, e = .returned (.slice (some ⟨g', 0, none⟩) n c) ∧ OwnI w' W'.heap.size (.slice (some ⟨g', 0, none⟩) n c) E) ∧ Below W'.heap.size W' w') := fun W' hb => by
    have h := clone_any (.slice (some ⟨g, 0, none⟩) n n) E W' (ho.ints.below hb (Nat.le_refl _)) (by omega) (by omega)
    rw [hE] at h
    exact h
  cases s with
  | none =>
    have hF : FirE W B1 bt bb bl n (.func (.func K) #[] cap) w0 (.slice none 0 0) 0 := hs
    have HF := Lib.hid hF
    have c1 := hF.tell.cell
    clear hs hF ho ht hE hek
    go_enter Try.func40, Try.ntmps40
    go_wp2_with fail
    refine HT.out.mono ?_
    rintro e W1 ⟨hr, hb1⟩
    have HB1 := Lib.hid hb1
    have h1 := HF.out.below hb1
    have c2 := h1.best.cell
    have c3 := h1.least.cell
    have d2 := h1.best.frozen
    have d3 := h1.least.frozen
    have HF1 := Lib.hid h1
    have HC1 := Lib.hid (HCL.out W1 hb1)
    clear hb1 h1 c1 HCL HT
    rcases hr with ⟨h1, x, rfl⟩ | ⟨x, h1, rfl⟩
    · have H1 := Lib.hid h1
      clear h1
      go_wp2_with fail
      go_end0
      exact ⟨rfl, by rw [flStep_none H1.out]; exact HF1.out, (GrownL.refl _ W).below HB1.out (Nat.le_refl _)⟩
    · have H1 := Lib.hid h1
      clear h1
      go_wp2_with fail
      refine HC1.out.mono ?_
      rintro e W2 ⟨⟨g2, cc2, rfl, ho2⟩, hb2⟩
      have k1 := HF1.out.below hb2
      have c4 := k1.best.cell
      have c5 := k1.least.cell
      have d4 := k1.best.frozen
      have d5 := k1.least.frozen
      have HP := Lib.hid (HF1.out.put (y := x) o1 o2 o3 hb2 ho2 (by have := HB1.out.size; omega))
      clear ho2 hb2 k1 HC1 c2 c3 d2 d3
      go_wp2_with fail
      go_end0
      have e1 : flStep f none E = some (E, x) := by unfold flStep; rw [H1.out]
      rw [e1]
      exact ⟨rfl, ⟨g2, cc2, HP.out.1, HP.out.2.1⟩, ((GrownL.refl _ W).below HB1.out (Nat.le_refl _)).trans HP.out.2.2⟩
  | some b =>
    obtain ⟨gb, cb, hF, hob⟩ := hs
    obtain ⟨bE, bx⟩ := b
    have HF := Lib.hid hF
    have HOB := Lib.hid hob
    have c1 := hF.tell.cell
    clear hF ho ht hE hek hob
    go_enter Try.func40, Try.ntmps40
    go_wp2_with fail
    refine HT.out.mono ?_
    rintro e W1 ⟨hr, hb1⟩
    have HB1 := Lib.hid hb1
    have h1 := HF.out.below hb1
    have c2 := h1.best.cell
    have c3 := h1.least.cell
    have d2 := h1.best.frozen
    have d3 := h1.least.frozen
    have HF1 := Lib.hid h1
    have HO1 := Lib.hid (HOB.out.below hb1 (Nat.le_refl _))
    have HC1 := Lib.hid (HCL.out W1 hb1)
    clear hb1 h1 c1 HCL HT HOB
    rcases hr with ⟨h1, x, rfl⟩ | ⟨x, h1, rfl⟩
    · have H1 := Lib.hid h1
      clear h1
      go_wp2_with fail
      go_end0
      exact ⟨rfl, by rw [flStep_none H1.out]; exact ⟨gb, cb, HF1.out, HO1.out⟩, (GrownL.refl _ W).below HB1.out (Nat.le_refl _)⟩
    · have H1 := Lib.hid h1
      clear h1
      by_cases hlt : x < bx
      · have e1 : Hid (flStep f (some (bE, bx)) E = some (E, x)) := by show _ = _; unfold flStep; rw [H1.out]; exact if_pos hlt
        go_wp2_with fail
        refine HC1.out.mono ?_
        rintro e W2 ⟨⟨g2, cc2, rfl, ho2⟩, hb2⟩
        have k1 := HF1.out.below hb2
        have c4 := k1.best.cell
        have c5 := k1.least.cell
        have d4 := k1.best.frozen
        have d5 := k1.least.frozen
        have HP := Lib.hid (HF1.out.put (y := x) o1 o2 o3 hb2 ho2 (by have := HB1.out.size; omega))
        clear ho2 hb2 k1 HC1 c2 c3 d2 d3
        go_wp2_with fail
        go_end0
        rw [e1.out]
        exact ⟨rfl, ⟨g2, cc2, HP.out.1, HP.out.2.1⟩, ((GrownL.refl _ W).below HB1.out (Nat.le_refl _)).trans HP.out.2.2⟩
      · have e1 : Hid (flStep f (some (bE, bx)) E = some (bE, bx)) := by show _ = _; unfold flStep; rw [H1.out]; exact if_neg hlt
        go_wp2_with fail
        go_end0
        rw [e1.out]
        exact ⟨rfl, ⟨gb, cb, HF1.out, HO1.out⟩, (GrownL.refl _ W).below HB1.out (Nat.le_refl _)⟩
theorem firStart {w : World} {K : Nat} {cap : Array Value} {n B1 : Nat} :
    FirSt w.heap.size (w.heap.size + 1) (w.heap.size + 1 + 1) n (.func (.func K) #[] cap) w B1 none (((w.alloc (.cells #[.func (.func K) #[] cap] 50)).alloc (.cells #[.slice none 0 0] 25)).alloc (.cells #[.int .i64 0] 2)) := by
  refine ⟨((Boxed.new w _ _).alloc _).alloc _, ?_, ?_, (((Below.refl _ w).alloc (Nat.le_refl _) _).alloc (by simp) _).alloc (by simp; omega) _⟩
  · have := (Boxed.new (w.alloc (.cells #[.func (.func K) #[] cap] 50)) 25 (.slice none 0 0)).alloc (.cells #[.int .i64 0] 2)
    rwa [World.size_alloc] at this
  · have := Boxed.new ((w.alloc (.cells #[.func (.func K) #[] cap] 50)).alloc (.cells #[.slice none 0 0] 25)) 2 (.int .i64 0)
    rwa [World.size_alloc, World.size_alloc] at this
set_option maxRecDepth 100000 in
set_option maxHeartbeats 2000000 in
theorem firstLeast_any (n K : Nat) (cap : Array Value) (f : List Int → Option Int) (w : World) (hn : 1 ≤ n) (hn2 : n ≤ 1000000) (hek : Enters Try.prog K)
    (htell : ∀ E W g B, E.Perm (idL n) → Below w.heap.size w W → OwnI W B (.slice (some ⟨g, 0, none⟩) n n) E → TellAt K cap f n g E W) :
    Calls Try.prog 24 #[.int .i64 n, .func (.func K) #[] cap] w fun e w' => ((firstL n f = none ∧ e = .returned (.tuple #[.slice none 0 0, .int .i64 0, .bool false])) ∨
      ∃ b l g c, firstL n f = some (b, l) ∧ e = .returned (.tuple #[.slice (some ⟨g, 0, none⟩) n c, .int .i64 l, .bool true]) ∧ OwnI w' w.heap.size (.slice (some ⟨g, 0, none⟩) n c) b) ∧ Below w.heap.size w w' := by
  have hmf : ∀ (fn : Fn) (first cap : Array Value) (w : World), (Instr.makeFunc fn first cap).run Try.prog w = .ok (.func fn first cap) w := fun _ _ _ _ => rfl
  have heg := enters_of Try.func40 (by kernel_rfl) rfl
  have hsn := sl_nil
  have hsn0 := sl_nil0
  have HT := Lib.hid htell
  have HEK := Lib.hid hek
  clear htell hek
  obtain ⟨W3, hW3⟩ : ∃ W, ((w.alloc (.cells #[.func (.func K) #[] cap] 50)).alloc (.cells #[.slice none 0 0] 25)).alloc (.cells #[.int .i64 0] 2) = W := ⟨_, rfl⟩
  have HS0 : Hid (∀ B1, FirSt w.heap.size (w.heap.size + 1) (w.heap.size + 1 + 1) n (.func (.func K) #[] cap) w B1 none W3) := fun B1 => by rw [← hW3]; exact firStart
  have HZ3 : Hid (W3.heap.size = w.heap.size + 3) := by show _ = _; rw [← hW3]; simp
  have HDO : Hid (∀ P B1, (∀ i ∈ P, W3.heap.size ≤ i ∧ i < B1) → DoP (Option (List Int × Int)) W3.heap.size n 40 #[.pointer (some ⟨w.heap.size, 0, none⟩), .pointer (some ⟨w.heap.size + 1, 0, none⟩), .pointer (some ⟨w.heap.size + 1 + 1, 0, none⟩)] [w.heap.size + 1, w.heap.size + 1 + 1] P (fun s W => FirSt w.heap.size (w.heap.size + 1) (w.heap.size + 1 + 1) n (.func (.func K) #[] cap) w B1 s W ∧ B1 ≤ W.heap.size) (flStep f)) := fun P B1 hP => by
    refine ⟨fun s E W g hE hs ho => ?_, fun s W W' hs hg => ?_, heg⟩
    · have hb : Below w.heap.size w W := by
        obtain ⟨hs, _⟩ := hs
        cases s with
        | none => exact (show FirE _ _ _ _ _ _ _ _ _ _ from hs).bel
        | some b => obtain ⟨_, _, h, _⟩ := hs; exact h.bel
      refine (firDo_any n K cap f w W3.heap.size B1 w.heap.size (w.heap.size + 1) (w.heap.size + 1 + 1) g P s E W hn hn2 (by omega) (by omega) (Nat.le_refl _) hs.2 HEK.out hs.1 ho (by rw [hE.length_eq, idL_length]) (HT.out E W g _ hE hb ho)).mono ?_
      rintro e W' ⟨h1, h2, h3⟩
      exact ⟨h1, ⟨h2, Nat.le_trans hs.2 h3.size⟩, h3⟩
    · obtain ⟨hs, hb⟩ := hs
      have hn : ∀ i, i < W3.heap.size → i ∉ P := fun i hi e => by have := (hP i e).1; omega
      have hz := HZ3.out
      refine ⟨?_, Nat.le_trans hb hg.size⟩
      cases s with
      | none => exact (show FirE _ _ _ _ _ _ _ _ _ _ from hs).grown hg (hn _ (by omega)) (hn _ (by omega)) (hn _ (by omega)) (fun i hi => by have := hP i hi; omega)
      | some b =>
        obtain ⟨g, c, h1, h2⟩ := hs
        exact ⟨g, c, h1.grown hg (hn _ (by omega)) (hn _ (by omega)) (hn _ (by omega)) (fun i hi => by have := hP i hi; omega), hg.own h2 (fun e => by have := hP g e; have := (h2.lt g rfl).1; omega)⟩
  have HPM := Lib.hid (permute_any n 40 _ [w.heap.size + 1, w.heap.size + 1 + 1] _ (flStep f) hn hn2 W3 HDO.out (fun i hi => by have := HZ3.out; simp at hi; omega) none (fun B1 W' hb hB => ⟨by
    have h : FirE _ _ _ _ _ _ _ _ _ _ := HS0.out B1
    exact h.below hb, hB⟩))
  obtain ⟨r, hr⟩ : ∃ r, firstL n f = r := ⟨_, rfl⟩
  have HF : Hid (permF n (flStep f) n [] none = r) := hr
  rw [hr]
  clear hr
  have HW3 := Lib.hid hW3
  clear HDO HT HEK hW3
  go_enter Try.func24, Try.ntmps24
  go_wp2_with fail
  rw [HW3.out]
  refine HPM.out.mono ?_
  rintro e W5 ⟨rfl, ⟨B1, hB1, hS5, _⟩, hg5⟩
  rw [HF.out] at hS5
  have HB5 : Hid (Below w.heap.size w W5) := by
    show Below _ _ _
    cases r with
    | none => exact (show FirE _ _ _ _ _ _ _ _ _ _ from hS5).bel
    | some b => obtain ⟨_, _, h, _⟩ := hS5; exact h.bel
  clear hg5 HPM HF
  cases r with
  | none =>
    have h : FirE _ _ _ _ _ _ _ _ _ _ := hS5
    have c1 := h.best.cell
    have c2 := h.least.cell
    clear hS5 h
    go_wp2
    go_quiet (fail)
    go_wp2
    go_ret3
    exact ⟨rfl, below_drewN _ HB5.out⟩
  | some b =>
    obtain ⟨g, c, h, ho⟩ := hS5
    obtain ⟨bE, bx⟩ := b
    have c1 := h.best.cell
    have c2 := h.least.cell
    have HO := Lib.hid (ho.mono (show w.heap.size ≤ B1 by have := HZ3.out; omega))
    clear h ho
    go_wp2
    go_quiet (fail)
    go_wp2
    go_ret3
    exact ⟨.inr ⟨bE, bx, g, c, rfl, rfl, HO.out.drewN _⟩, below_drewN _ HB5.out⟩
end Go.Proofs.Ytckdfahbhagoaaa

namespace Go.Proofs.Ytckdfahbhagoaaa
open Go.RowKit
set_option linter.unusedVariables false
set_option linter.unusedSimpArgs false

theorem own_shw {W : World} {B g n c : Nat} {E : List Int} (h : OwnI W B (.slice (some ⟨g, 0, none⟩) n c) E) (hn : n = E.length) : ShW W g 0 n c E := by
  refine ⟨hn, ?_, fun i hi => ?_, (h.lt g rfl).2⟩
  · subst hn
    obtain ⟨_, a, c', e, hcap, _⟩ := h.ints
    cases e
    exact hcap
  · rw [Nat.zero_add]; exact h.at_ hn i (by omega)
def flowF (ts : List Int) (M : Nat) (E : List Int) : Option Int := some (fL ts M E)
set_option maxRecDepth 100000 in
set_option maxHeartbeats 400000 in
theorem flowTell_any (b o T c M n q g : Nat) (ts E : List Int) (W : World) (hv : ShW W b o T c ts) (hok : ShopOk ts M n) (hE : E.Perm (idL n)) (hx : BoxS W q b o T c n M) {B : Nat} (ho : OwnI W B (.slice (some ⟨g, 0, none⟩) n n) E) :
    TellAt 25 #[.pointer (some ⟨q, 0, none⟩)] (flowF ts M) n g E W := by
  have hl : n = E.length := by rw [hE.length_eq, idL_length]
  have HC : Hid (Calls Try.prog 22 #[shV b o T c n M, .slice (some ⟨g, 0, none⟩) n n] W fun e w' => (∃ gO, e = .returned (.tuple #[.slice (some ⟨gO, 0, none⟩) T T, .int .i64 (fL ts M E)])) ∧ Below W.heap.size W w') := (shFlow_any b o T c M n g 0 n n ts E W hv hok (own_shw ho hl) (ordOkF_perm hE) hok.n24).mono (fun _ _ h => ⟨⟨h.1.choose, h.1.choose_spec.1⟩, h.2⟩)
  have x0 := hx.c0
  have x1 := hx.c1
  have x2 := hx.c2
  have HF : Hid (flowF ts M E = some (fL ts M E)) := rfl
  unfold shV at HC
  clear hv hok hE hx ho hl
  unfold TellAt
  go_enter Try.func25, Try.ntmps25
  go_wp2_with fail
  refine HC.out.mono ?_
  rintro e W3 ⟨⟨gO, rfl⟩, hb3⟩
  have HB3 := Lib.hid hb3
  clear hb3 HC
  go_wp2
  go_ret2
  exact ⟨.inr ⟨_, HF.out, rfl⟩, HB3.out⟩
set_option maxRecDepth 100000 in
set_option maxHeartbeats 400000 in
theorem BestFlow_any (b o T c M n : Nat) (ts : List Int) (w : World) (hv : ShW w b o T c ts) (hok : ShopOk ts M n) (h7 : n ≤ 7) :
    Calls Try.prog 10 #[.slice (some ⟨b, o, none⟩) T c, .int .i64 M] w fun e w' => (∃ E l g c', firstL n (flowF ts M) = some (E, l) ∧ e = .returned (.tuple #[.slice (some ⟨g, 0, none⟩) n c', .int .i64 l, .bool true]) ∧ OwnI w' w.heap.size (.slice (some ⟨g, 0, none⟩) n c') E) ∧ Below w.heap.size w w' := by
  have hmf : ∀ (fn : Fn) (first cap : Array Value) (w : World), (Instr.makeFunc fn first cap).run Try.prog w = .ok (.func fn first cap) w := fun _ _ _ _ => rfl
  have heg := enters_of Try.func25 (by kernel_rfl) rfl
  have hn1 := hok.n1
  have hT : T ≤ 1000 := by have := hok.big; have h2 := hok.len; have h3 := hv.len; omega
  have HAS := Lib.hid (asShop_any b o T c ts M n w (hv.ints hT) hok)
  have HFI : Hid (∀ q W, q < W.heap.size → Below w.heap.size w W → BoxS W q b o T c n M → Calls Try.prog 24 #[.int .i64 n, .func (.func 25) #[] #[.pointer (some ⟨q, 0, none⟩)]] W fun e w' => ((firstL n (flowF ts M) = none ∧ e = .returned (.tuple #[.slice none 0 0, .int .i64 0, .bool false])) ∨
      ∃ b l g c, firstL n (flowF ts M) = some (b, l) ∧ e = .returned (.tuple #[.slice (some ⟨g, 0, none⟩) n c, .int .i64 l, .bool true]) ∧ OwnI w' W.heap.size (.slice (some ⟨g, 0, none⟩) n c) b) ∧ Below W.heap.size W w') := fun q W hq hW hx => by
    refine firstLeast_any n 25 _ (flowF ts M) W hn1 (by omega) heg (fun E W3 g B hE hW3 ho => ?_)
    exact flowTell_any b o T c M n q g ts E W3 (hv.below (hW.trans (hW3.mono hW.size))) hok hE (hx.below hW3 hq) ho
  have HNN : Hid (firstL n (flowF ts M) ≠ none) := fun e => by
    have := (firstL_spec (n := n) (f := flowF ts M)).1 e (idL n) (List.Perm.refl _)
    cases this
  have g1 : ¬ (7 : Int) < (n : Int) := by omega
  have g2 : decide ((7 : Int) < (n : Int)) = false := decide_eq_false g1
  unfold shV at HAS
  clear hv hok hT heg
  go_enter Try.func10, Try.ntmps10
  go_wp2_with fail
  refine HAS.out.mono ?_
  rintro e W2 ⟨rfl, hb2⟩
  have HB2 := Lib.hid hb2
  clear hb2 HAS
  have HX : Hid (BoxS (W2.alloc (.cells #[.slice (some ⟨b, o, none⟩) T c, .int .i64 n, .int .i64 M] 43)) W2.heap.size b o T c n M) := BoxS.new W2 b o T c n M
  have HB3 : Hid (Below w.heap.size w (W2.alloc (.cells #[.slice (some ⟨b, o, none⟩) T c, .int .i64 n, .int .i64 M] 43))) := HB2.out.alloc HB2.out.size _
  have HF := Lib.hid (HFI.out W2.heap.size _ (by simp) HB3.out HX.out)
  go_wp2_with fail
  refine HF.out.mono ?_
  rintro e W4 ⟨h, hb4⟩
  have HB4 : Hid (Below w.heap.size w W4) := HB3.out.trans (hb4.mono HB3.out.size)
  rcases h with ⟨h1, _⟩ | ⟨E, l, g, c', h1, rfl, ho⟩
  · exact absurd h1 HNN.out
  · have HO : Hid (firstL n (flowF ts M) = some (E, l) ∧ OwnI W4 w.heap.size (.slice (some ⟨g, 0, none⟩) n c') E) := ⟨h1, ho.mono HB3.out.size⟩
    clear h1 ho hb4 HF
    go_wp2
    go_ret3
    exact ⟨⟨E, l, g, c', HO.out.1, rfl, HO.out.2⟩, HB4.out⟩
end Go.Proofs.Ytckdfahbhagoaaa
