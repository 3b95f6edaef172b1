/- The laws' own marks on a result that is a slice of bools. Conditions: lengths at most 2^26. With texts that it needs. -/
import Derived.Test.YthkakieomoobmaaTablesAll4
import Derived.Test.YthkakieomoobmaaTablesAll1
namespace Go.Proofs.Ythkakieomoobmaa
open Go.RowKit Go.BigFrame
set_option linter.unusedVariables false
set_option linter.unusedSimpArgs false
attribute [local go_sem] Oper.semAt_some

/-- What is found among the first k tables. -/
def FdW (e p : Nat) (kp : Nat → Option Int) (k A : Nat) (y : Int) (vf vb : Value) (W : World) : Prop :=
  (match fstT kp k with
    | none => vf = .slice none 0 0
    | some j => ∃ g c, vf = .slice (some ⟨g, 0, none⟩) e c ∧ OwnI W A (.slice (some ⟨g, 0, none⟩) e c) (tabL e p j)) ∧
  (match bstT kp k with
    | none => vb = .slice none 0 0 ∧ y = 0
    | some b => (∃ g c, vb = .slice (some ⟨g, 0, none⟩) e c ∧ OwnI W A (.slice (some ⟨g, 0, none⟩) e c) (tabL e p b.1)) ∧ y = b.2)
theorem FdW.keep {e p : Nat} {kp : Nat → Option Int} {k A : Nat} {y : Int} {vf vb : Value} {W W' : World} (h : FdW e p kp k A y vf vb W) (hk : ∀ g c ts, OwnI W A (.slice (some ⟨g, 0, none⟩) e c) ts → OwnI W' A (.slice (some ⟨g, 0, none⟩) e c) ts) : FdW e p kp k A y vf vb W' := by
  obtain ⟨h1, h2⟩ := h
  unfold FdW
  constructor
  · cases e1 : fstT kp k with
    | none => rw [e1] at h1; exact h1
    | some j => rw [e1] at h1; obtain ⟨g, c, h3, h4⟩ := h1; exact ⟨g, c, h3, hk _ _ _ h4⟩
  · cases e1 : bstT kp k with
    | none => rw [e1] at h2; exact h2
    | some b => rw [e1] at h2; obtain ⟨⟨g, c, h3, h4⟩, h5⟩ := h2; exact ⟨⟨g, c, h3, hk _ _ _ h4⟩, h5⟩
theorem FdW.below {e p : Nat} {kp : Nat → Option Int} {k A : Nat} {y : Int} {vf vb : Value} {W W' : World} (h : FdW e p kp k A y vf vb W) (hb : Below W.heap.size W W') : FdW e p kp k A y vf vb W' := h.keep fun g c ts ho => ho.below hb (Nat.le_refl _)
theorem FdW.far {e p : Nat} {kp : Nat → Option Int} {k A : Nat} {y : Int} {vf vb : Value} {W : World} (h : FdW e p kp k A y vf vb W) {B j : Nat} (v : Value) (hB : B < A) : FdW e p kp k A y vf vb (W.setCell ⟨B, j, none⟩ v) := h.keep fun g c ts ho => ho.setCell _ (by
  have := (ho.lt g rfl).1
  rw [ownBlock_slice]; intro e2; have e3 : g = B := (by cases e2; rfl); omega)
theorem FdW.skip {e p : Nat} {kp : Nat → Option Int} {k A : Nat} {y : Int} {vf vb : Value} {W : World} (h : FdW e p kp k A y vf vb W) (hx : kp k = none) : FdW e p kp (k + 1) A y vf vb W := by
  have e1 : fstT kp (k + 1) = fstT kp k := by
    rw [fstT, hx]
    cases fstT kp k <;> rfl
  have e2 : bstT kp (k + 1) = bstT kp k := by rw [bstT, hx]
  unfold FdW
  rw [e1, e2]
  exact h
theorem FdW.new0 {e p : Nat} {kp : Nat → Option Int} {k A g c : Nat} {x : Int} {W : World} (hn : cntT kp k = 0) (hx : kp k = some x) (ho : OwnI W A (.slice (some ⟨g, 0, none⟩) e c) (tabL e p k)) : FdW e p kp (k + 1) A x (.slice (some ⟨g, 0, none⟩) e c) (.slice (some ⟨g, 0, none⟩) e c) W := by
  have e1 : fstT kp (k + 1) = some k := by rw [fstT, (fst_cnt kp k).2 hn, hx]; rfl
  have e2 : bstT kp (k + 1) = some (k, x) := by rw [bstT, hx, (bst_cnt kp k).2 hn]
  unfold FdW
  rw [e1, e2]
  exact ⟨⟨g, c, rfl, ho⟩, ⟨g, c, rfl, ho⟩, rfl⟩
theorem fst_keep {kp : Nat → Option Int} {k : Nat} (hn : cntT kp k ≠ 0) : fstT kp (k + 1) = fstT kp k := by
  cases e : fstT kp k with
  | none => exact absurd ((fst_cnt kp k).1 e) hn
  | some j => rw [fstT, e]
theorem FdW.newB {e p : Nat} {kp : Nat → Option Int} {k A g c : Nat} {x y : Int} {vf vb : Value} {W : World} (h : FdW e p kp k A y vf vb W) (hn : cntT kp k ≠ 0) (hx : kp k = some x) (hxy : x < y) (ho : OwnI W A (.slice (some ⟨g, 0, none⟩) e c) (tabL e p k)) : FdW e p kp (k + 1) A x vf (.slice (some ⟨g, 0, none⟩) e c) W := by
  obtain ⟨h1, h2⟩ := h
  have e2 : bstT kp (k + 1) = some (k, x) := by
    cases e : bstT kp k with
    | none => exact absurd ((bst_cnt kp k).1 e) hn
    | some b =>
      rw [e] at h2
      rw [bstT, hx, e]
      have h3 : y = b.2 := h2.2
      show (if x < b.2 then _ else _) = _
      rw [if_pos (by omega)]
  unfold FdW
  rw [fst_keep hn, e2]
  exact ⟨h1, ⟨g, c, rfl, ho⟩, rfl⟩
theorem FdW.newK {e p : Nat} {kp : Nat → Option Int} {k A : Nat} {x y : Int} {vf vb : Value} {W : World} (h : FdW e p kp k A y vf vb W) (hn : cntT kp k ≠ 0) (hx : kp k = some x) (hxy : ¬ x < y) : FdW e p kp (k + 1) A y vf vb W := by
  have h0 := h
  obtain ⟨h1, h2⟩ := h
  have e2 : bstT kp (k + 1) = bstT kp k := by
    cases e : bstT kp k with
    | none => exact absurd ((bst_cnt kp k).1 e) hn
    | some b =>
      rw [e] at h2
      rw [bstT, hx, e]
      have h3 : y = b.2 := h2.2
      show (if x < b.2 then _ else _) = _
      rw [if_neg (by omega)]
  unfold FdW
  rw [fst_keep hn, e2]
  exact h0
theorem FdW.isSl {e p : Nat} {kp : Nat → Option Int} {k A : Nat} {y : Int} {vf vb : Value} {W : World} (h : FdW e p kp k A y vf vb W) : (∃ a n c, vf = .slice a n c) ∧ (∃ a n c, vb = .slice a n c) := by
  obtain ⟨h1, h2⟩ := h
  constructor
  · cases e1 : fstT kp k with
    | none => rw [e1] at h1; exact ⟨_, _, _, h1⟩
    | some j => rw [e1] at h1; obtain ⟨g, c, h3, h4⟩ := h1; exact ⟨_, _, _, h3⟩
  · cases e1 : bstT kp k with
    | none => rw [e1] at h2; exact ⟨_, _, _, h2.1⟩
    | some b => rw [e1] at h2; obtain ⟨⟨g, c, h3, h4⟩, h5⟩ := h2; exact ⟨_, _, _, h3⟩
theorem FdW.mono {e p : Nat} {kp : Nat → Option Int} {k A A' : Nat} {y : Int} {vf vb : Value} {W : World} (h : FdW e p kp k A y vf vb W) (hA : A' ≤ A) : FdW e p kp k A' y vf vb W := by
  obtain ⟨h1, h2⟩ := h
  unfold FdW
  constructor
  · cases e1 : fstT kp k with
    | none => rw [e1] at h1; exact h1
    | some j => rw [e1] at h1; obtain ⟨g, c, h3, h4⟩ := h1; exact ⟨g, c, h3, h4.mono hA⟩
  · cases e1 : bstT kp k with
    | none => rw [e1] at h2; exact h2
    | some b => rw [e1] at h2; obtain ⟨⟨g, c, h3, h4⟩, h5⟩ := h2; exact ⟨⟨g, c, h3, h4.mono hA⟩, h5⟩
/-- The digits that are laid from place i on. -/
def dgL (e p k i : Nat) : List Int := (List.range e).map fun t => if i < t then ((dgT e p k t : Nat) : Int) else 0
theorem dgL_len (e p k i : Nat) : (dgL e p k i).length = e := by unfold dgL; simp
theorem dgL_at {e p k i t : Nat} (h : t < e) : nth (dgL e p k i) t = if i < t then ((dgT e p k t : Nat) : Int) else 0 := by
  rw [nth_eq (by rw [dgL_len]; exact h)]
  unfold dgL
  simp
theorem dgL_start (e p k : Nat) : List.replicate e 0 = dgL e p k (e - 1) := by
  refine nth_extI (by rw [dgL_len, List.length_replicate]) fun i hi => ?_
  rw [List.length_replicate] at hi
  rw [dgL_at hi, if_neg (by omega), nth_eq (by rw [List.length_replicate]; exact hi), List.getElem_replicate]
theorem dgL_set {e p k i : Nat} (hi : 0 < i) (hie : i < e) : (dgL e p k i).set i ((k / p ^ (e - 1 - i) % p : Nat) : Int) = dgL e p k (i - 1) := by
  refine nth_extI (by rw [List.length_set, dgL_len, dgL_len]) fun t ht => ?_
  rw [List.length_set, dgL_len] at ht
  rw [nth_setI (by rw [dgL_len]; exact hie) (by rw [dgL_len]; exact ht), dgL_at ht, dgL_at ht]
  by_cases h1 : i = t
  · subst h1
    rw [if_pos rfl, if_pos (by omega)]
    unfold dgT
    rw [if_neg (by omega)]
  · rw [if_neg h1]
    by_cases h2 : i < t
    · rw [if_pos h2, if_pos (by omega)]
    · rw [if_neg h2, if_neg (by omega)]
theorem dgL_end (e p k : Nat) : dgL e p k 0 = tabL e p k := by
  refine nth_extI (by rw [dgL_len, tabL_len]) fun t ht => ?_
  rw [dgL_len] at ht
  rw [dgL_at ht, tabL_at ht]
  by_cases h : 0 < t
  · rw [if_pos h]
  · rw [if_neg h, show t = 0 by omega]; rfl
theorem quo_next {e p k i : Nat} (hi : 0 < i) (hie : i < e) : k / p ^ (e - 1 - i) / p = k / p ^ (e - 1 - (i - 1)) := by
  rw [Nat.div_div_eq_div_mul, ← Nat.pow_succ, show (e - 1 - i).succ = e - 1 - (i - 1) by omega]
/-- How many tables there are, so far. -/
def LkP (e p : Nat) (w : World) (va vi : Value) (wr : World) : Prop := ∃ i : Nat, 1 ≤ i ∧ i ≤ e ∧ vi = .int .i64 i ∧ va = .int .i64 (p ^ (i - 1) : Nat) ∧ wr = w
/-- What a round of the great loop knows. -/
def LkB (e p N : Nat) (kp : Nat → Option Int) (B6 B8 A A2 : Nat) (w : World) (vk : Value) (wr : World) : Prop :=
  ∃ (k : Nat) (y : Int) (vf vb : Value), k ≤ N ∧ vk = .int .i64 k ∧ Hid (Blk wr B6 61 [.int .i64 0, .int .i64 0, .slice none 0 0, .slice none 0 0]) ∧ Hid (Blk wr B8 61 [.int .i64 (cntT kp k : Nat), .int .i64 y, vf, vb]) ∧ Hid (FdW e p kp k A2 y vf vb wr) ∧ Hid (Below A w wr)
/-- .. of the digits .. -/
def LkD (e p k gt A2 : Nat) (W3 : World) (vx vi : Value) (wr : World) : Prop :=
  ∃ i : Nat, i < e ∧ vi = .int .i64 i ∧ vx = .int .i64 (k / p ^ (e - 1 - i) : Nat) ∧ Hid (OwnI wr A2 (.slice (some ⟨gt, 0, none⟩) e e) (dgL e p k i)) ∧ Hid (GrownL [gt] W3 wr)
/-- .. and of the sum. -/
def LkU (p : Int) (ts : List Int) (rs : List Ru4) (W4 : World) (vs vi : Value) (wr : World) : Prop :=
  ∃ i : Nat, i ≤ rs.length ∧ vi = .int .i64 i ∧ vs = .int .i64 (suTo p ts rs i) ∧ 0 ≤ suTo p ts rs i ∧ suTo p ts rs i ≤ 3000 * i ∧ Hid (Below W4.heap.size W4 wr)
set_option maxRecDepth 100000 in
set_option maxHeartbeats 4000000 in
theorem l05Look_any (e p : Nat) (gr L cr : Nat) (rs : List Ru4) (w : World) (hL : L = rs.length) (hL2 : L ≤ 32) (hrs : RulN w gr rs) (hr : ∀ r ∈ rs, RlOk (e : Int) (p : Int) r) (he : 1 ≤ e ∧ e ≤ 12) (hp : 1 ≤ p ∧ p ≤ 60) (hN : p ^ (e - 1) ≤ 4096) :
    Calls Try.prog 28 #[.int .i64 (e : Int), .slice (some ⟨gr, 0, none⟩) L cr, .int .i64 (p : Int)] w fun x w' => (∃ (y : Int) (vf vb : Value), x = .returned (.tuple #[.agg #[.int .i64 (cntT (kpT e p rs) (p ^ (e - 1)) : Nat), .int .i64 y, vf, vb], .bool true]) ∧ FdW e p (kpT e p rs) (p ^ (e - 1)) w.heap.size y vf vb w') ∧ Below w.heap.size w w' := by
  obtain ⟨N, hN2⟩ : ∃ N, p ^ (e - 1) = N := ⟨_, rfl⟩
  rw [hN2] at hN ⊢
  have HN := Lib.hid hN2
  have HPW : Hid (∀ i, i ≤ e → 1 ≤ i → p ^ (i - 1) ≤ 4096) := fun i h1 h2 => by
    have h3 : p ^ (i - 1) ≤ p ^ (e - 1) := Nat.pow_le_pow_right (by omega) (by omega)
    omega
  obtain ⟨i0, hi, hz0, hz1, hz2⟩ := info_parts info_i64
  obtain ⟨A, hA⟩ : ∃ A, w.heap.size = A := ⟨_, rfl⟩
  obtain ⟨W2, hW2⟩ : ∃ W, (w.alloc (.cells #[.int .i64 0, .int .i64 0, .slice none 0 0, .slice none 0 0] 61)).alloc (.cells #[.int .i64 0, .int .i64 0, .slice none 0 0, .slice none 0 0] 61) = W := ⟨_, rfl⟩
  have HB2 : Hid (Below A w W2) := by show Below _ _ _; rw [← hW2, ← hA]; exact ((Below.refl _ w).alloc (Nat.le_refl _) _).alloc (by simp) _
  have HZ2 : Hid (W2.heap.size = A + 2) := by show _ = _; rw [← hW2, ← hA]; simp
  have HK6 : Hid (Blk W2 A 61 [.int .i64 0, .int .i64 0, .slice none 0 0, .slice none 0 0]) := by show Blk _ _ _ _; rw [← hW2, ← hA]; exact (Blk.new w _ _).alloc _
  have HK8 : Hid (Blk W2 (A + 1) 61 [.int .i64 0, .int .i64 0, .slice none 0 0, .slice none 0 0]) := by
    show Blk _ _ _ _
    have h := Blk.new (w.alloc (.cells #[.int .i64 0, .int .i64 0, .slice none 0 0, .slice none 0 0] 61)) 61 [.int .i64 0, .int .i64 0, .slice none 0 0, .slice none 0 0]
    rw [World.size_alloc, hA] at h
    rw [← hW2]
    exact h
  have HP0 : Hid (LkP e p W2 (.int .i64 1) (.int .i64 1) W2) := ⟨1, Nat.le_refl _, he.1, rfl, rfl, rfl⟩
  have HB0 : Hid (LkB e p N (kpT e p rs) A (A + 1) A (A + 2) w (.int .i64 0) W2) := ⟨0, 0, .slice none 0 0, .slice none 0 0, Nat.zero_le _, rfl, HK6, HK8, ⟨rfl, rfl, rfl⟩, HB2⟩
  have HW2 := Lib.hid hW2
  have HA := Lib.hid hA
  have HRS := Lib.hid hrs
  have HR := Lib.hid hr
  have HL := Lib.hid hL
  rw [hA]
  clear hrs hr hL hN2 hW2 hA HK6 HK8 HB2
  go_enter Try.func28, Try.ntmps28
  go_wp2_with fail
  rw [HW2.out, HA.out]
  go_loopw [9, 10] (fun va vi wr => LkP e p W2 va vi wr) (fun _ vi _ => e - (intOf vi).toNat)
  case atStart => exact HP0.out
  case round =>
    obtain ⟨i, hi1, hie, rfl, rfl, rfl⟩ := hrel
    clear HP0
    by_cases hil : i < e
    · have k1 : (i : Int) < (e : Int) := by omega
      have h40 := HPW.out (i + 1) (by omega) (by omega)
      have h41 : p ^ (i + 1 - 1) = p ^ (i - 1) * p := by rw [← Nat.pow_succ, show (i - 1).succ = i + 1 - 1 by omega]
      rw [h41] at h40
      obtain ⟨P, hP⟩ : ∃ P, p ^ (i - 1) = P := ⟨_, rfl⟩
      rw [hP] at h40 h41 ⊢
      have w1 : IntKind.i64.wrap ((P : Int) * (p : Int)) = (P : Int) * (p : Int) := by
        have : (P : Int) * (p : Int) = ((P * p : Nat) : Int) := by simp
        rw [this]; exact IntWalk.i64_in _ (by omega)
      have w2 : ¬ ((P : Int) * (p : Int) > 4096) := by
        have : (P : Int) * (p : Int) = ((P * p : Nat) : Int) := by simp
        rw [this]; omega
      have w3 : IntKind.i64.wrap ((i : Int) + 1) = (i : Int) + 1 := IntWalk.i64_in _ (by omega)
      have H41 := Lib.hid h41
      clear hP h41 h40
      go_wp2
      go_roundw
      case rel => exact ⟨i + 1, by omega, by omega, by go_num, by rw [H41.out]; simp, rfl⟩
      case measure => simp [intOf]; omega
    · have hie2 : i = e := by omega
      subst hie2
      have k1 : ¬ ((i : Int) < (i : Int)) := Int.lt_irrefl _
      rw [HN.out]
      clear HPW hil
      go_wp2_with fail
      go_loopw [11] (fun vk wr => LkB i p N (kpT i p rs) A (A + 1) A (A + 2) w vk wr) (fun vk _ => N - (intOf vk).toNat)
      case atStart => exact HB0.out
      case round =>
        obtain ⟨k, y, vf, vb, hk, rfl, HK6, HK8, HF, HB⟩ := hrel
        clear HB0
        by_cases hkN : k < N
        · have q1 : (k : Int) < (N : Int) := by omega
          have HKN := Lib.hid hkN
          clear hkN hk
          have hA2 : A + 2 ≤ wr.heap.size := HK8.out.lt
          go_wp2_with (at_make; refine wpList_make_full _ rfl _ _ 29 rfl (A + 2) 2 i0 (.int .i64 0) 1 Try.underlying29 hi hz0 hz1 _ _ _ _ i rfl rfl rfl rfl (by rw [hz2]; omega) (by unfold maxLen; omega) hA2 ?_; intro w2 hown2 hgrow2; have HO2 := Lib.hid (tabMade hown2); have HBM := Lib.hid ((Below.refl wr.heap.size wr).grown hgrow2 (Nat.le_refl _) (fun k e => by cases e)); clear hown2 hgrow2)
          have HK62 := Lib.hid (HK6.out.below HBM.out HK6.out.lt)
          have HK82 := Lib.hid (HK8.out.below HBM.out HK8.out.lt)
          have HF2 := Lib.hid (HF.out.below HBM.out)
          have HBW2 : Hid (Below A w w2) := HB.out.trans (HBM.out.mono (by omega))
          obtain ⟨gt, hgt⟩ : ∃ g, wr.heap.size = g := ⟨_, rfl⟩
          have HFK : Hid (∀ wi, GrownL [gt] w2 wi → FdW i p (kpT i p rs) k (A + 2) y vf vb wi) := fun wi hg => HF.out.keep fun g c ts ho => hg.own (ho.below HBM.out (Nat.le_refl _)) (by have := (ho.lt g rfl).2; simp; omega)
          rw [hgt] at HO2 hA2 ⊢
          have HD0 : Hid (LkD i p k gt (A + 2) w2 (.int .i64 (k : Int)) (.int .i64 ((i : Int) - 1)) w2) := ⟨i - 1, by omega, by (congr 1; omega), by (rw [Nat.sub_self, Nat.pow_zero, Nat.div_one]), by show OwnI _ _ _ _; rw [← dgL_start]; exact HO2.out, GrownL.refl _ _⟩
          have w1 : IntKind.i64.wrap ((i : Int) - 1) = (i : Int) - 1 := IntWalk.i64_in _ (by omega)
          clear hgt HK6 HK8 HF HB HBM HO2
          go_wp2_with fail
          go_loopw [13, 14] (fun vx vi wi => LkD i p k gt (A + 2) w2 vx vi wi) (fun _ vi _ => (intOf vi).toNat)
          case atStart => exact HD0.out
          case round =>
            obtain ⟨j, hj, rfl, rfl, HOj, HGj⟩ := hrel
            clear HD0
            by_cases hj0 : j = 0
            · subst hj0
              have HT : Hid (OwnI wr (A + 2) (.slice (some ⟨gt, 0, none⟩) i i) (tabL i p k)) := by
                have h1 := HOj.out
                rw [dgL_end] at h1
                exact h1
              have hgA : gt ∉ [gt] ∨ True := .inr trivial
              have HK63 : Hid (Blk wr A 61 [.int .i64 0, .int .i64 0, .slice none 0 0, .slice none 0 0]) := (HGj.out.block A HK62.out.lt (by simp; omega)).trans HK62.out
              have HK83 : Hid (Blk wr (A + 1) 61 [.int .i64 (cntT (kpT i p rs) k : Nat), .int .i64 y, vf, vb]) := (HGj.out.block (A + 1) HK82.out.lt (by simp; omega)).trans HK82.out
              have HF3 := Lib.hid (HFK.out wr HGj.out)
              have HB3 : Hid (Below A w wr) := HGj.out.toBelow HBW2.out (by have := HK82.out.lt; omega) (fun x hx => by simp; omega)
              have htl := tabL_len i p k
              have HRB : Hid (RulN wr gr rs) := HRS.out.below (by rw [← HA.out] at HB3; exact HB3.out) (by have := HRS.out.1; have := HA.out; omega)
              have HTB := Lib.hid (tmB_of (p := (p : Int)) (n := i) (tabL_bounds (e := i) (k := k) (by omega)) htl.symm (by omega))
              have HNT := Lib.hid (NumN.of_own HT.out htl.symm)
              have HKE := Lib.hid (l05Keeps_any (p : Int) gr L cr gt i i (tabL i p k) rs wr HL.out (by omega) HRB.out HNT.out (by omega) HTB.out (fun r hx => (HR.out r hx).rlB rfl (by omega)) (by omega))
              clear htl HOj HGj HFK HK62 HK82 HF2 HBW2 hgA
              go_wp2_with fail
              refine HKE.out.mono ?_
              rintro en W4 ⟨rfl, hb4⟩
              have HK64 := Lib.hid (HK63.out.below hb4 HK63.out.lt)
              have HK84 := Lib.hid (HK83.out.below hb4 HK83.out.lt)
              have HF4 := Lib.hid (HF3.out.below hb4)
              have HT4 := Lib.hid (HT.out.below hb4 (Nat.le_refl _))
              have HB4 : Hid (Below A w W4) := HB3.out.trans (hb4.mono (by have := HK83.out.lt; omega))
              have HNT4 := Lib.hid (HNT.out.below hb4 HNT.out.1)
              have HRB4 := Lib.hid (HRB.out.below hb4 HRB.out.1)
              clear hb4 HKE HK63 HK83 HF3 HT HB3 HNT HRB
              cases hok : okTo (p : Int) (tabL i p k) rs rs.length
              · have hkp : kpT i p rs k = none := by unfold kpT waL; rw [hok]; simp
                have hct : cntT (kpT i p rs) (k + 1) = cntT (kpT i p rs) k := by rw [cntT, hkp]; simp
                have HF5 := Lib.hid (HF4.out.skip hkp)
                have HCT := Lib.hid hct
                clear hok hkp hct HF4
                go_wp2_with fail
                go_roundw
                case rel => exact ⟨k + 1, y, vf, vb, HKN.out, by go_num, HK64, by show Blk _ _ _ _; rw [HCT.out]; exact HK84.out, HF5, HB4⟩
                case measure => have := HKN.out; simp [intOf]; omega
              · obtain ⟨x, hxx⟩ : ∃ x, suTo (p : Int) (tabL i p k) rs rs.length = x := ⟨_, rfl⟩
                have hkp : kpT i p rs k = some x := by unfold kpT waL; rw [hok, if_pos rfl, hxx]
                have HKP := Lib.hid hkp
                have HXX := Lib.hid hxx
                have HU0 : Hid (LkU (p : Int) (tabL i p k) rs W4 (.int .i64 0) (.int .i64 0) W4) := ⟨0, Nat.zero_le _, rfl, rfl, by simp [suTo], by simp [suTo], Below.refl _ _⟩
                clear hok hkp hxx
                go_wp2_with fail
                go_loopw [15, 59] (fun vs vi wi => LkU (p : Int) (tabL i p k) rs W4 vs vi wi) (fun _ vi _ => rs.length - (intOf vi).toNat)
                case atStart => exact HU0.out
                case round =>
                  obtain ⟨m, hm, rfl, rfl, hu0, hu1, HBU⟩ := hrel
                  clear HU0
                  by_cases hml : m < rs.length
                  · have m0 : (0 : Int) ≤ (m : Int) := Int.natCast_nonneg m
                    have m1 : (m : Int) < (L : Int) := by have := HL.out; omega
                    obtain ⟨c0, c1, c2, -⟩ := (HRB4.out.below HBU.out HRB4.out.1).2 m hml
                    obtain ⟨a, b, ea, eb, hla, hlb, hl0, hl1⟩ := (HR.out _ (rlN_mem hml)).rlB (n := i) rfl (by omega)
                    have hss := suTo_succ (p : Int) (tabL i p k) rs m
                    have hw2 := wtL_two (p := (p : Int)) (ts := tabL i p k) (r := rlN rs m) (by omega) ⟨hl0, hl1⟩
                    obtain ⟨l, hl⟩ : ∃ l, (rlN rs m).2.2.1 = l := ⟨_, rfl⟩
                    obtain ⟨mo, hmo⟩ : ∃ z, (rlN rs m).2.2.2 = z := ⟨_, rfl⟩
                    have hrk : rlN rs m = ((a : Int), (b : Int), l, mo) := by rw [← ea, ← eb, ← hl, ← hmo]
                    rw [hrk] at c0 c1 c2 hss hw2
                    rw [hl] at hl0 hl1
                    dsimp only at c0 c1 c2
                    have HCW := Lib.hid (l05Wait_any a b l mo (p : Int) gr (m * 4) gt i i (tabL i p k) wr ⟨c0, c1, c2⟩ (HNT4.out.below HBU.out HNT4.out.1) (by omega) hla hlb HTB.out ⟨hl0, hl1⟩ (by omega))
                    obtain ⟨z, hz⟩ : ∃ z, wtL (p : Int) (tabL i p k) ((a : Int), (b : Int), l, mo) = z := ⟨_, rfl⟩
                    rw [hz] at hss hw2 HCW
                    obtain ⟨sm, hsm⟩ : ∃ z, suTo (p : Int) (tabL i p k) rs m = z := ⟨_, rfl⟩
                    rw [hsm] at hss hu0 hu1 ⊢
                    have HSS := Lib.hid hss
                    have HML := Lib.hid hml
                    have w3 : IntKind.i64.wrap (sm + z) = sm + z := IntWalk.i64_in _ (by omega)
                    clear hml ea eb hl hmo hrk hss hz hsm c0 c1 c2 hm
                    go_wp2_with fail
                    refine HCW.out.mono ?_
                    rintro en W5 ⟨rfl, hb5⟩
                    have HB5 : Hid (Below W4.heap.size W4 W5) := HBU.out.trans (hb5.mono HBU.out.size)
                    clear hb5 HCW
                    go_wp2_with fail
                    go_roundw
                    case rel => exact ⟨m + 1, HML.out, by go_num, by rw [HSS.out], by rw [HSS.out]; omega, by rw [HSS.out]; omega, HB5⟩
                    case measure => have := HML.out; simp [intOf]; omega
                  · have hml2 : m = rs.length := Nat.le_antisymm hm (Nat.le_of_not_lt hml)
                    have m1 : ¬ ((m : Int) < (L : Int)) := by have := HL.out; omega
                    subst hml2
                    rw [HXX.out]
                    have HK65 := Lib.hid (HK64.out.below HBU.out HK64.out.lt)
                    have HK85 := Lib.hid (HK84.out.below HBU.out HK84.out.lt)
                    have HF5 := Lib.hid (HF4.out.below HBU.out)
                    have HT5 := Lib.hid (HT4.out.below HBU.out (Nat.le_refl _))
                    have HB5 : Hid (Below A w wr) := HB4.out.trans (HBU.out.mono (by have := HK84.out.lt; omega))
                    have hle := cntT_le (kpT i p rs) k
                    have hct : cntT (kpT i p rs) (k + 1) = cntT (kpT i p rs) k + 1 := by rw [cntT, HKP.out]; simp
                    obtain ⟨n, hn⟩ : ∃ n, cntT (kpT i p rs) k = n := ⟨_, rfl⟩
                    rw [hn] at hle hct HK85
                    have HCN := Lib.hid hn
                    have HCT := Lib.hid hct
                    have c0 := HK85.out.cell 0 _ rfl
                    have c1 := HK85.out.cell 1 _ rfl
                    have c2 := HK85.out.cell 2 _ rfl
                    have c3 := HK85.out.cell 3 _ rfl
                    have f0 := HK85.out.frozen 0
                    have f1 := HK85.out.frozen 1
                    have f2 := HK85.out.frozen 2
                    have f3 := HK85.out.frozen 3
                    have w3 : IntKind.i64.wrap ((n : Int) + 1) = (n : Int) + 1 := IntWalk.i64_in _ (by have := HKN.out; omega)
                    have hAlt : A < A + 2 := by omega
                    have hne : A ≠ A + 1 := by omega
                    clear hn hct hle HK64 HK84 HF4 HT4 HB4 HBU HNT4 HRB4 hm
                    by_cases hn0 : n = 0
                    · have q2 : ((n : Int) == 0) = true := by rw [beq_iff_eq]; omega
                      have HN0 : Hid (cntT (kpT i p rs) k = 0) := by show _ = _; rw [HCN.out]; exact hn0
                      have HK8F := Lib.hid ((((HK85.out.set 2 (.slice (some ⟨gt, 0, none⟩) i i)).set 3 (.slice (some ⟨gt, 0, none⟩) i i)).set 1 (.int .i64 x)).set 0 (.int .i64 ((n : Int) + 1)))
                      have HK6F := Lib.hid ((((HK65.out.far ⟨A + 1, 2, none⟩ (.slice (some ⟨gt, 0, none⟩) i i) hne).far ⟨A + 1, 3, none⟩ (.slice (some ⟨gt, 0, none⟩) i i) hne).far ⟨A + 1, 1, none⟩ (.int .i64 x) hne).far ⟨A + 1, 0, none⟩ (.int .i64 ((n : Int) + 1)) hne)
                      have HFF := Lib.hid (((((FdW.new0 HN0.out HKP.out HT5.out).far (B := A + 1) (j := 2) (.slice (some ⟨gt, 0, none⟩) i i) (by omega)).far (B := A + 1) (j := 3) (.slice (some ⟨gt, 0, none⟩) i i) (by omega)).far (B := A + 1) (j := 1) (.int .i64 x) (by omega)).far (B := A + 1) (j := 0) (.int .i64 ((n : Int) + 1)) (by omega))
                      have HBF := Lib.hid ((((HB5.out.setCell (p := ⟨A + 1, 2, none⟩) (by show A ≤ A + 1; omega) (.slice (some ⟨gt, 0, none⟩) i i)).setCell (p := ⟨A + 1, 3, none⟩) (by show A ≤ A + 1; omega) (.slice (some ⟨gt, 0, none⟩) i i)).setCell (p := ⟨A + 1, 1, none⟩) (by show A ≤ A + 1; omega) (.int .i64 x)).setCell (p := ⟨A + 1, 0, none⟩) (by show A ≤ A + 1; omega) (.int .i64 ((n : Int) + 1)))
                      clear hn0 HK65 HK85 HF5 HT5 HB5
                      go_wp2_with fail
                      go_roundw
                      case rel => exact ⟨k + 1, x, _, _, HKN.out, by go_num, HK6F, by show Blk _ _ _ _; rw [HCT.out]; exact HK8F.out, HFF, HBF⟩
                      case measure => have := HKN.out; simp [intOf]; omega
                    · have q2 : ((n : Int) == 0) = false := by rw [beq_eq_false_iff_ne]; omega
                      have HN0 : Hid (cntT (kpT i p rs) k ≠ 0) := by show _ ≠ _; rw [HCN.out]; exact hn0
                      by_cases hxy : x < y
                      · have HK8F := Lib.hid (((HK85.out.set 3 (.slice (some ⟨gt, 0, none⟩) i i)).set 1 (.int .i64 x)).set 0 (.int .i64 ((n : Int) + 1)))
                        have HK6F := Lib.hid (((HK65.out.far ⟨A + 1, 3, none⟩ (.slice (some ⟨gt, 0, none⟩) i i) hne).far ⟨A + 1, 1, none⟩ (.int .i64 x) hne).far ⟨A + 1, 0, none⟩ (.int .i64 ((n : Int) + 1)) hne)
                        have HFF := Lib.hid ((((HF5.out.newB HN0.out HKP.out hxy HT5.out).far (B := A + 1) (j := 3) (.slice (some ⟨gt, 0, none⟩) i i) (by omega)).far (B := A + 1) (j := 1) (.int .i64 x) (by omega)).far (B := A + 1) (j := 0) (.int .i64 ((n : Int) + 1)) (by omega))
                        have HBF := Lib.hid (((HB5.out.setCell (p := ⟨A + 1, 3, none⟩) (by show A ≤ A + 1; omega) (.slice (some ⟨gt, 0, none⟩) i i)).setCell (p := ⟨A + 1, 1, none⟩) (by show A ≤ A + 1; omega) (.int .i64 x)).setCell (p := ⟨A + 1, 0, none⟩) (by show A ≤ A + 1; omega) (.int .i64 ((n : Int) + 1)))
                        clear hn0 HK65 HK85 HF5 HT5 HB5
                        go_wp2_with fail
                        go_roundw
                        case rel => exact ⟨k + 1, x, _, _, HKN.out, by go_num, HK6F, by show Blk _ _ _ _; rw [HCT.out]; exact HK8F.out, HFF, HBF⟩
                        case measure => have := HKN.out; simp [intOf]; omega
                      · have HK8F := Lib.hid (HK85.out.set 0 (.int .i64 ((n : Int) + 1)))
                        have HK6F := Lib.hid (HK65.out.far ⟨A + 1, 0, none⟩ (.int .i64 ((n : Int) + 1)) hne)
                        have HFF := Lib.hid ((HF5.out.newK HN0.out HKP.out hxy).far (B := A + 1) (j := 0) (.int .i64 ((n : Int) + 1)) (by omega))
                        have HBF := Lib.hid (HB5.out.setCell (p := ⟨A + 1, 0, none⟩) (by show A ≤ A + 1; omega) (.int .i64 ((n : Int) + 1)))
                        clear hn0 HK65 HK85 HF5 HT5 HB5
                        go_wp2_with fail
                        go_roundw
                        case rel => exact ⟨k + 1, y, _, _, HKN.out, by go_num, HK6F, by show Blk _ _ _ _; rw [HCT.out]; exact HK8F.out, HFF, HBF⟩
                        case measure => have := HKN.out; simp [intOf]; omega
            · have hjp : 0 < j := Nat.pos_of_ne_zero hj0
              have j0 : (0 : Int) < (j : Int) := by omega
              have j1 : (0 : Int) ≤ (j : Int) := by omega
              have j2 : (j : Int) < (i : Int) := by omega
              have w3 : IntKind.i64.wrap ((j : Int) - 1) = (j : Int) - 1 := IntWalk.i64_in _ (by omega)
              have hq := quo_next (e := i) (p := p) (k := k) hjp hj
              have hds := dgL_set (e := i) (p := p) (k := k) hjp hj
              have hle : k / p ^ (i - 1 - j) ≤ k := Nat.div_le_self _ _
              obtain ⟨X, hX⟩ : ∃ X, k / p ^ (i - 1 - j) = X := ⟨_, rfl⟩
              rw [hX] at hq hds hle ⊢
              obtain ⟨c1, f1, s1, g1⟩ := HOj.out.store (dgL_len i p k j).symm j (by rw [dgL_len]; exact hj) ((X % p : Nat) : Int)
              rw [hds] at s1
              rw [← nth_eq, dgL_at hj, if_neg (Nat.lt_irrefl _)] at c1
              have r1 : (X : Int).tmod (p : Int) = ((X % p : Nat) : Int) := by rw [Int.tmod_eq_emod_of_nonneg (by omega)]; rfl
              have r2 : (X : Int).tdiv (p : Int) = ((X / p : Nat) : Int) := by rw [Int.tdiv_eq_ediv_of_nonneg (by omega)]; rfl
              have hml : X % p < p := Nat.mod_lt _ (by omega)
              have hdl : X / p ≤ X := Nat.div_le_self _ _
              obtain ⟨D, hD⟩ : ∃ D, X % p = D := ⟨_, rfl⟩
              obtain ⟨Y, hY⟩ : ∃ Y, X / p = Y := ⟨_, rfl⟩
              rw [hD] at r1 s1 g1 hml
              rw [hY] at r2 hdl hq
              have hpz : ¬ ((p : Int) = 0) := by omega
              have hkb := HKN.out
              have w4 : IntKind.i64.wrap (Y : Int) = (Y : Int) := IntWalk.i64_in _ (by omega)
              have w5 : IntKind.i64.wrap (D : Int) = (D : Int) := IntWalk.i64_in _ (by omega)
              have HS1 := Lib.hid s1
              have HG1 : Hid (GrownL [gt] w2 (wr.setCell ⟨gt, j, none⟩ (.int .i64 (D : Int)))) := HGj.out.setCell _ _ (.inl (by simp))
              have HQ := Lib.hid hq
              have HJ := Lib.hid (And.intro hj hjp)
              clear hX hD hY hds s1 g1 hq hj hj0 hjp HOj HGj hml hdl hle hkb
              go_wp2_with fail
              go_roundw
              case rel => exact ⟨j - 1, by have := HJ.out.1; omega, by have := HJ.out.2; (congr 1; omega), by rw [HQ.out], HS1.out, HG1.out⟩
              case measure => have := HJ.out.2; simp [intOf]; omega
        · have hk2 : k = N := by omega
          subst hk2
          have q1 : ¬ ((k : Int) < (k : Int)) := Int.lt_irrefl _
          obtain ⟨⟨af, nf, cf, rfl⟩, ⟨ab, nb, cb, rfl⟩⟩ := HF.out.isSl
          have HFF := Lib.hid (((((HF.out.far (B := A) (j := 0) (.int .i64 (cntT (kpT i p rs) k : Nat)) (by omega)).far (B := A) (j := 1) (.int .i64 y) (by omega)).far (B := A) (j := 2) (.slice af nf cf) (by omega)).far (B := A) (j := 3) (.slice ab nb cb) (by omega)).mono (show A ≤ A + 2 by omega))
          have HBF := Lib.hid ((((HB.out.setCell (p := ⟨A, 0, none⟩) (Nat.le_refl _) (.int .i64 (cntT (kpT i p rs) k : Nat))).setCell (p := ⟨A, 1, none⟩) (Nat.le_refl _) (.int .i64 y)).setCell (p := ⟨A, 2, none⟩) (Nat.le_refl _) (.slice af nf cf)).setCell (p := ⟨A, 3, none⟩) (Nat.le_refl _) (.slice ab nb cb))
          have c0 := HK8.out.cell 0 _ rfl
          have c1 := HK8.out.cell 1 _ rfl
          have c2 := HK8.out.cell 2 _ rfl
          have c3 := HK8.out.cell 3 _ rfl
          have d0 := HK6.out.cell 0 _ rfl
          have d1 := HK6.out.cell 1 _ rfl
          have d2 := HK6.out.cell 2 _ rfl
          have d3 := HK6.out.cell 3 _ rfl
          have f0 := HK6.out.frozen 0
          have f1 := HK6.out.frozen 1
          have f2 := HK6.out.frozen 2
          have f3 := HK6.out.frozen 3
          go_wp2_with fail
          exact bodyPost_ret (v := .tuple #[.agg #[.int .i64 (cntT (kpT i p rs) k : Nat), .int .i64 y, .slice af nf cf, .slice ab nb cb], .bool true]) (by simp [results, Try.results28, go_sem, d0, d1, d2, d3]) rfl ⟨⟨y, _, _, rfl, HFF.out⟩, HBF.out⟩
end Go.Proofs.Ythkakieomoobmaa

namespace Go.Proofs.Ythkakieomoobmaa
open Go.RowKit Go.BigFrame
set_option linter.unusedVariables false
set_option linter.unusedSimpArgs false
attribute [local go_sem] Oper.semAt_some

set_option maxRecDepth 100000 in
set_option maxHeartbeats 1000000 in
theorem specCount_any (e p : Nat) (gr L cr : Nat) (rs : List Ru4) (w : World) (hL : L = rs.length) (hL2 : L ≤ 32) (hrs : RulN w gr rs) (hr : ∀ r ∈ rs, RlOk (e : Int) (p : Int) r) (he : 1 ≤ e ∧ e ≤ 12) (hp : 1 ≤ p ∧ p ≤ 60) (hN : p ^ (e - 1) ≤ 4096) :
    Calls Try.prog 8 #[.int .i64 (e : Int), .slice (some ⟨gr, 0, none⟩) L cr, .int .i64 (p : Int)] w fun x w' => x = .returned (.tuple #[.int .i64 (cntT (kpT e p rs) (p ^ (e - 1)) : Nat), .bool true]) ∧ Below w.heap.size w w' := by
  have HA := Lib.hid (l05Rules_yes (e : Int) (p : Int) gr L cr rs w hL hL2 hrs hr (by omega) (by omega))
  have HK : Hid (∀ W, Below w.heap.size w W → _) := Lib.hid (fun W (hb : Below w.heap.size w W) => l05Look_any e p gr L cr rs W hL hL2 (hrs.below hb hrs.1) hr he hp hN)
  obtain ⟨n, hn⟩ : ∃ n, cntT (kpT e p rs) (p ^ (e - 1)) = n := ⟨_, rfl⟩
  rw [hn] at HK ⊢
  clear hrs hr hL hn
  go_enter Try.func8, Try.ntmps8
  go_wp2_with fail
  refine HA.out.mono ?_
  rintro x W1 ⟨rfl, hb1⟩
  have HB1 := Lib.hid hb1
  have HK1 := Lib.hid (HK.out W1 hb1)
  clear hb1 HK HA
  go_wp2_with fail
  refine HK1.out.mono ?_
  rintro x W2 ⟨⟨y, vf, vb, rfl, hf⟩, hb2⟩
  obtain ⟨⟨af, nf, cf, rfl⟩, ⟨ab, nb, cb, rfl⟩⟩ := hf.isSl
  have HB2 : Hid (Below w.heap.size w (W2.alloc (.cells #[.int .i64 (n : Int), .int .i64 y, .slice af nf cf, .slice ab nb cb] 61))) := by
    have h1 := HB1.out.trans (hb2.mono HB1.out.size)
    exact h1.alloc h1.size _
  clear hf hb2 HK1
  go_wp2
  go_ret2
  exact ⟨rfl, HB2.out⟩
set_option maxRecDepth 100000 in
set_option maxHeartbeats 1000000 in
theorem specFirst_any (e p : Nat) (gr L cr : Nat) (rs : List Ru4) (w : World) (hL : L = rs.length) (hL2 : L ≤ 32) (hrs : RulN w gr rs) (hr : ∀ r ∈ rs, RlOk (e : Int) (p : Int) r) (he : 1 ≤ e ∧ e ≤ 12) (hp : 1 ≤ p ∧ p ≤ 60) (hN : p ^ (e - 1) ≤ 4096) (j : Nat) (hj : fstT (kpT e p rs) (p ^ (e - 1)) = some j) :
    Calls Try.prog 14 #[.int .i64 (e : Int), .slice (some ⟨gr, 0, none⟩) L cr, .int .i64 (p : Int)] w fun x w' => (∃ g c, x = .returned (.tuple #[.slice (some ⟨g, 0, none⟩) e c, .bool true]) ∧ OwnI w' w.heap.size (.slice (some ⟨g, 0, none⟩) e c) (tabL e p j)) ∧ Below w.heap.size w w' := by
  have HA := Lib.hid (l05Rules_yes (e : Int) (p : Int) gr L cr rs w hL hL2 hrs hr (by omega) (by omega))
  have HK : Hid (∀ W, Below w.heap.size w W → _) := Lib.hid (fun W (hb : Below w.heap.size w W) => l05Look_any e p gr L cr rs W hL hL2 (hrs.below hb hrs.1) hr he hp hN)
  have hnz : cntT (kpT e p rs) (p ^ (e - 1)) ≠ 0 := fun h => by rw [(fst_cnt _ _).2 h] at hj; cases hj
  have HJ := Lib.hid hj
  obtain ⟨n, hn⟩ : ∃ n, cntT (kpT e p rs) (p ^ (e - 1)) = n := ⟨_, rfl⟩
  rw [hn] at HK hnz
  have q1 : ((n : Int) == 0) = false := by rw [beq_eq_false_iff_ne]; omega
  clear hrs hr hL hn hj hnz
  go_enter Try.func14, Try.ntmps14
  go_wp2_with fail
  refine HA.out.mono ?_
  rintro x W1 ⟨rfl, hb1⟩
  have HB1 := Lib.hid hb1
  have HK1 := Lib.hid (HK.out W1 hb1)
  clear hb1 HK HA
  go_wp2_with fail
  refine HK1.out.mono ?_
  rintro x W2 ⟨⟨y, vf, vb, rfl, hf⟩, hb2⟩
  obtain ⟨-, ⟨ab, nb, cb, rfl⟩⟩ := hf.isSl
  obtain ⟨h1, -⟩ := hf
  rw [HJ.out] at h1
  obtain ⟨g, c, rfl, ho⟩ := h1
  have HB2 : Hid (Below w.heap.size w (W2.alloc (.cells #[.int .i64 (n : Int), .int .i64 y, .slice (some ⟨g, 0, none⟩) e c, .slice ab nb cb] 61))) := by
    have h1 := HB1.out.trans (hb2.mono HB1.out.size)
    exact h1.alloc h1.size _
  have HO := Lib.hid ((ho.mono HB1.out.size).alloc (.cells #[.int .i64 (n : Int), .int .i64 y, .slice (some ⟨g, 0, none⟩) e c, .slice ab nb cb] 61))
  clear ho hb2 HK1
  go_wp2
  go_ret2
  exact ⟨⟨g, c, rfl, HO.out⟩, HB2.out⟩
set_option maxRecDepth 100000 in
set_option maxHeartbeats 1000000 in
theorem specBest_any (e p : Nat) (gr L cr : Nat) (rs : List Ru4) (w : World) (hL : L = rs.length) (hL2 : L ≤ 32) (hrs : RulN w gr rs) (hr : ∀ r ∈ rs, RlOk (e : Int) (p : Int) r) (he : 1 ≤ e ∧ e ≤ 12) (hp : 1 ≤ p ∧ p ≤ 60) (hN : p ^ (e - 1) ≤ 4096) (j : Nat) (z : Int) (hj : bstT (kpT e p rs) (p ^ (e - 1)) = some (j, z)) :
    Calls Try.prog 15 #[.int .i64 (e : Int), .slice (some ⟨gr, 0, none⟩) L cr, .int .i64 (p : Int)] w fun x w' => (∃ g c, x = .returned (.tuple #[.slice (some ⟨g, 0, none⟩) e c, .int .i64 z, .bool true]) ∧ OwnI w' w.heap.size (.slice (some ⟨g, 0, none⟩) e c) (tabL e p j)) ∧ Below w.heap.size w w' := by
  have HA := Lib.hid (l05Rules_yes (e : Int) (p : Int) gr L cr rs w hL hL2 hrs hr (by omega) (by omega))
  have HK : Hid (∀ W, Below w.heap.size w W → _) := Lib.hid (fun W (hb : Below w.heap.size w W) => l05Look_any e p gr L cr rs W hL hL2 (hrs.below hb hrs.1) hr he hp hN)
  have hnz : cntT (kpT e p rs) (p ^ (e - 1)) ≠ 0 := fun h => by rw [(bst_cnt _ _).2 h] at hj; cases hj
  have HJ := Lib.hid hj
  obtain ⟨n, hn⟩ : ∃ n, cntT (kpT e p rs) (p ^ (e - 1)) = n := ⟨_, rfl⟩
  rw [hn] at HK hnz
  have q1 : ((n : Int) == 0) = false := by rw [beq_eq_false_iff_ne]; omega
  clear hrs hr hL hn hj hnz
  go_enter Try.func15, Try.ntmps15
  go_wp2_with fail
  refine HA.out.mono ?_
  rintro x W1 ⟨rfl, hb1⟩
  have HB1 := Lib.hid hb1
  have HK1 := Lib.hid (HK.out W1 hb1)
  clear hb1 HK HA
  go_wp2_with fail
  refine HK1.out.mono ?_
  rintro x W2 ⟨⟨y, vf, vb, rfl, hf⟩, hb2⟩
  obtain ⟨⟨af, nf, cf, rfl⟩, -⟩ := hf.isSl
  obtain ⟨-, h1⟩ := hf
  rw [HJ.out] at h1
  obtain ⟨⟨g, c, rfl, ho⟩, rfl⟩ := h1
  have HB2 : Hid (Below w.heap.size w (W2.alloc (.cells #[.int .i64 (n : Int), .int .i64 y, .slice af nf cf, .slice (some ⟨g, 0, none⟩) e c] 61))) := by
    have h1 := HB1.out.trans (hb2.mono HB1.out.size)
    exact h1.alloc h1.size _
  have HO := Lib.hid ((ho.mono HB1.out.size).alloc (.cells #[.int .i64 (n : Int), .int .i64 y, .slice af nf cf, .slice (some ⟨g, 0, none⟩) e c] 61))
  clear ho hb2 HK1
  go_wp2
  go_quiet (fail)
  go_wp2
  go_ret3
  exact ⟨⟨g, c, rfl, HO.out.drewN _⟩, below_drewN _ HB2.out⟩
end Go.Proofs.Ythkakieomoobmaa

namespace Go.Proofs.Ythkakieomoobmaa
open Go.RowKit Go.BigFrame
set_option linter.unusedVariables false
set_option linter.unusedSimpArgs false

theorem areWorkers_yes (n : Int) (w : World) (h : 1 ≤ n ∧ n ≤ 8) : Calls Try.prog 32 #[.int .i64 n] w fun e w' => e = .returned (.bool true) ∧ w = w' := by
  go_enter Try.func32, Try.ntmps32
  go_wp2_with (go_at_call 35; refine (within_yes _ _ _ _ h.1 h.2).mono ?_; rintro e w' ⟨rfl, rfl⟩)
  go_ret
  exact ⟨rfl, rfl⟩
def TsR (n : Int) (A : Nat) (w : World) (vo vk : Value) (wr : World) : Prop :=
  ∃ k g c : Nat, k ≤ 2 ∧ vk = .int .i64 k ∧ vo = .slice (some ⟨g, 0, none⟩) k c ∧ Hid (OwnI wr A (.slice (some ⟨g, 0, none⟩) k c) (List.replicate k n)) ∧ Hid (Below A w wr)
set_option maxRecDepth 100000 in
set_option maxHeartbeats 1000000 in
theorem tablesShared_any (e p : Nat) (gr L cr gm cm : Nat) (wk : Int) (rs : List Ru4) (w : World) (hm : ∀ k, k < 2 → w.cell? ⟨gm, k, none⟩ = some (.slice (some ⟨gr, 0, none⟩) L cr)) (hL : L = rs.length) (hL2 : L ≤ 32) (hrs : RulN w gr rs) (hr : ∀ r ∈ rs, RlOk (e : Int) (p : Int) r) (he : 1 ≤ e ∧ e ≤ 12) (hp : 1 ≤ p ∧ p ≤ 60) (hN : p ^ (e - 1) ≤ 4096) (hwk : 1 ≤ wk ∧ wk ≤ 8) :
    Calls Try.prog 11 #[.int .i64 (e : Int), .slice (some ⟨gm, 0, none⟩) 2 cm, .int .i64 (p : Int), .int .i64 wk] w fun x w' => (∃ g c, x = .returned (.tuple #[.slice (some ⟨g, 0, none⟩) 2 c, .bool true]) ∧ OwnI w' w.heap.size (.slice (some ⟨g, 0, none⟩) 2 c) [(cntT (kpT e p rs) (p ^ (e - 1)) : Int), (cntT (kpT e p rs) (p ^ (e - 1)) : Int)]) ∧ Below w.heap.size w w' := by
  have HK : Hid (∀ W, Below w.heap.size w W → _) := Lib.hid (fun W (hb : Below w.heap.size w W) => countTables_any e p gr L cr rs W hL hL2 (hrs.below hb hrs.1) hr he hp hN)
  obtain ⟨n, hn⟩ : ∃ n : Int, (cntT (kpT e p rs) (p ^ (e - 1)) : Int) = n := ⟨_, rfl⟩
  rw [hn] at HK ⊢
  have HM := Lib.hid hm
  have hgm : gm < w.heap.size := lt_of_cell (hm 0 (by decide))
  obtain ⟨A, hA⟩ : ∃ A, w.heap.size = A := ⟨_, rfl⟩
  have HR0 : Hid (TsR n A w (.slice (some ⟨w.heap.size, 0, none⟩) 0 0) (.int .i64 0) (w.alloc (.cells #[] 2))) := ⟨0, _, 0, Nat.zero_le _, rfl, rfl, OwnI.lit w A [] (by omega) (Nat.zero_le _), (Below.refl _ w).alloc (by omega) _⟩
  rw [hA] at HK hgm ⊢
  have HA := Lib.hid hA
  clear hrs hr hL hn hm hA
  go_enter Try.func11, Try.ntmps11
  go_wp2_with (go_at_call 32; refine (areWorkers_yes _ _ hwk).mono ?_; rintro e w' ⟨rfl, rfl⟩)
  go_loopw [10, 26] (fun vo vk wr => TsR n A w vo vk wr) (fun _ vk _ => 2 - (intOf vk).toNat)
  case atStart => exact HR0.out
  case round =>
    obtain ⟨k, g, c, hk, rfl, rfl, HO, HB⟩ := hrel
    clear HR0
    have hws : A ≤ wr.heap.size := by have := HB.out.size; have := HA.out; omega
    by_cases hk2 : k < 2
    · have k0 : (0 : Int) ≤ (k : Int) := Int.natCast_nonneg k
      have k1 : (k : Int) < 2 := by omega
      have cm1 := (HB.out.cell (p := ⟨gm, k, none⟩) hgm).trans (HM.out k hk2)
      have HC := Lib.hid (HK.out wr HB.out)
      have HK2 := Lib.hid hk2
      clear hk2 hk
      go_wp2_with fail
      refine HC.out.mono ?_
      rintro x W2 ⟨rfl, hb2⟩
      have HO2 := Lib.hid (HO.out.below hb2 (Nat.le_refl _))
      have HB2 : Hid (Below A w W2) := HB.out.trans (hb2.mono hws)
      have hw2 : A ≤ W2.heap.size := by have := hb2.size; omega
      clear hb2 HC HO HB cm1
      obtain ⟨ys, hys⟩ : ∃ ys, List.replicate k n = ys := ⟨_, rfl⟩
      have HLN : Hid (ys.length = k) := by show _ = _; rw [← hys, List.length_replicate]
      have HNX : Hid (List.replicate (k + 1) n = ys ++ [n]) := by show _ = _; rw [← hys, List.replicate_succ']
      rw [hys] at HO2
      clear hys
      go_wp2_with (at_builtin; refine append_i64 rfl _ _ rfl A (.slice (some ⟨g, 0, none⟩) k c) ys [n] (by simp) rfl _ rfl HO2.out hw2 (by rw [HLN.out]; have := HK2.out; simp; omega) ?_; intro g1 c1 w3 ho3 hg3; have hb3 := Below.app HB2.out HO2.out hg3 hw2; have HO3 := Lib.hid ho3; have HB3 := Lib.hid hb3; clear ho3 hg3 hb3)
      go_roundw
      case rel => exact ⟨k + 1, g1, c1, HK2.out, by go_num, (by rw [HLN.out]), (by show OwnI _ _ _ _; rw [HNX.out]; have := HO3.out; rw [HLN.out] at this; exact this), HB3⟩
      case measure => have := HK2.out; simp [intOf]; omega
    · have hk3 : k = 2 := by omega
      subst hk3
      go_wp2
      go_ret2
      exact ⟨⟨g, c, rfl, HO.out⟩, HB.out⟩
end Go.Proofs.Ythkakieomoobmaa

namespace Go.Proofs.Ythkakieomoobmaa
open Go.RowKit
set_option linter.unusedVariables false
set_option linter.unusedSimpArgs false

theorem info_bool : (Try.prog.info? 4).map (fun i => (i.zero, i.size, i.bytes)) = some (some (.bool false), 1, 1) := by kernel_rfl

/-- v is a slice of the call's own (in a block from B on), and it holds the bools xs. -/
def OwnB (w : World) (B : Nat) (v : Value) (xs : List Bool) : Prop := w.ownsRow B 4 1 v xs.length (xs.map Value.bool)

theorem OwnB.store {w : World} {N g n c : Nat} {xs : List Bool} (h : OwnB w N (.slice (some ⟨g, 0, none⟩) n c) xs) (hn : n = xs.length) (j : Nat) (hj : j < xs.length) (y : Bool) :
    w.cell? ⟨g, j, none⟩ = some (.bool xs[j]) ∧ w.frozen? ⟨g, j, none⟩ = false ∧ OwnB (w.setCell ⟨g, j, none⟩ (.bool y)) N (.slice (some ⟨g, 0, none⟩) n c) (xs.set j y) ∧ w.grownBy (w.setCell ⟨g, j, none⟩ (.bool y)) (some g) := by
  subst hn
  have h' : w.ownsRow N 4 1 (.slice (some ⟨g, 0, none⟩) xs.length c) xs.length (xs.map Value.bool) := h
  obtain ⟨h1, h2⟩ := h'.stored j (.bool y)
  refine ⟨?_, h'.frozenAt j, ?_, h2⟩
  · rw [h'.cellAt j (by omega), List.getElem?_map, List.getElem?_eq_getElem hj]; rfl
  · unfold OwnB
    rw [List.length_set, List.map_set]; exact h1
theorem OwnB.alloc {w : World} {B : Nat} {v : Value} {xs : List Bool} (h : OwnB w B v xs) (o : Obj) : OwnB (w.alloc o) B v xs := World.ownsRow.alloc h o
theorem OwnB.kept {w w' : World} {B : Nat} {v : Value} {xs : List Bool} {row : Option Nat} (h : OwnB w B v xs) (hg : w.grownBy w' row) (hne : v.ownBlock = none ∨ v.ownBlock ≠ row) : OwnB w' B v xs := World.ownsRow.kept h hg hne
theorem OwnB.lt {w : World} {B : Nat} {v : Value} {xs : List Bool} (h : OwnB w B v xs) : ∀ k, v.ownBlock = some k → B ≤ k ∧ k < w.heap.size := World.ownsRow.lt h
theorem OwnB.below {w w' : World} {B N : Nat} {v : Value} {xs : List Bool} (h : OwnB w B v xs) (hb : Below N w w') (hN : w.heap.size ≤ N) : OwnB w' B v xs := by
  refine h.kept (row := none) ⟨hb.os, hb.tape, hb.output, hb.size, fun k hk _ => hb.block k (by omega)⟩ ?_
  cases v.ownBlock <;> simp
theorem OwnB.drewN {w : World} {B : Nat} {v : Value} {xs : List Bool} (h : OwnB w B v xs) (q : Nat) : OwnB (w.drewN q) B v xs := h.below (below_drewN q (Below.refl w.heap.size w)) (Nat.le_refl _)

abbrev Bools (w : World) (v : Value) (xs : List Bool) : Prop := Sl Value.bool w v xs
theorem OwnB.bools {w : World} {base : Nat} {v : Value} {xs : List Bool} (h : OwnB w base v xs) : Bools w v xs := by
  have h' : w.ownsRow base 4 1 v xs.length (xs.map Value.bool) := h
  rcases h'.2 with ⟨rfl, h0⟩ | ⟨g, cap, cur, rfl, hg, hh, hc, hm, hcs, ht⟩
  · exact ⟨by omega, none, 0, by rw [h0], by omega, fun i hi => by omega⟩
  · refine ⟨by omega, _, cap, rfl, by omega, fun i hi => ⟨g, 0, rfl, (Array.getElem?_eq_some_iff.1 hh).1, ?_⟩⟩
    have := h'.cellAt (g := g) (cap := cap) i (by omega)
    rw [Nat.zero_add, this]
    simp [hi]

/-- What make([]bool, n) leaves. -/
theorem OwnB.made {w : World} {base g : Nat} {n : Nat} (h : w.ownsRow base 4 1 (.slice (some ⟨g, 0, none⟩) n n) n (madeCells (Value.bool false).cells (n * 1)).toList) : OwnB w base (.slice (some ⟨g, 0, none⟩) n n) (List.replicate n false) := by
  have e : (madeCells (Value.bool false).cells (n * 1)).toList = (List.replicate n false).map Value.bool := by
    rw [Nat.mul_one]; exact (toList_madeCells_one _ _).trans (by simp)
  rw [e] at h
  unfold OwnB
  rwa [List.length_replicate]

def isAllB (ys : List Int) : Bool := (List.range ys.length).all fun i => win (nth ys i) 0 ((ys.length : Int) - 1) && !((ys.take i).any (· == nth ys i))
/-- What has been seen of the numbers from 0 on. -/
def seenAt (ys : List Int) (k : Nat) : List Bool := (List.range ys.length).map fun (v : Nat) => (ys.take k).any (· == (v : Int))
theorem seenAt_length (ys : List Int) (k : Nat) : (seenAt ys k).length = ys.length := by simp [seenAt]
theorem seenAt_get (ys : List Int) (k i : Nat) (h : i < (seenAt ys k).length) : (seenAt ys k)[i] = (ys.take k).any (· == (i : Int)) := by simp [seenAt]
theorem seenAt_zero (ys : List Int) : seenAt ys 0 = List.replicate ys.length false := by
  apply List.ext_getElem
  · simp [seenAt]
  · intro i h1 h2; simp [seenAt]
theorem seenAt_set (ys : List Int) (k p : Nat) (hk : k < ys.length) (hp : nth ys k = p) : (seenAt ys k).set p true = seenAt ys (k + 1) := by
  apply List.ext_getElem
  · simp [seenAt]
  · intro i h1 h2
    rw [List.getElem_set, seenAt_get _ _ _ h2, List.take_succ_eq_append_getElem hk, List.any_append]
    rw [nth_eq hk] at hp
    split
    · rename_i e; subst e; simp [hp]
    · rename_i e
      rw [seenAt_get]
      have : ((p : Int) == (i : Int)) = false := by simp; omega
      simp [hp, this]

end Go.Proofs.Ythkakieomoobmaa

namespace Go.Proofs.Ythkakieomoobmaa
open Go.RowKit
set_option linter.unusedVariables false
set_option linter.unusedSimpArgs false

def marksB (k : Int) (n : Nat) : List Bool := (List.range n).map fun (i : Nat) => (k + (i : Int)) % 3 == 0
theorem marksB_length (k : Int) (n : Nat) : (marksB k n).length = n := by simp [marksB]
theorem marksB_get (k : Int) (n i : Nat) (h : i < (marksB k n).length) : (marksB k n)[i] = ((k + i) % 3 == 0) := by simp [marksB]
def markToB (k : Int) (xs : List Bool) (j : Nat) : List Bool := marksB k j ++ xs.drop j
theorem markToB_length (k : Int) (xs : List Bool) (j : Nat) (h : j ≤ xs.length) : (markToB k xs j).length = xs.length := by simp [markToB, marksB_length]; omega
theorem markToB_set (k : Int) (xs : List Bool) (j : Nat) (h : j < xs.length) : (markToB k xs j).set j ((k + j) % 3 == 0) = markToB k xs (j + 1) := by
  unfold markToB
  apply List.ext_getElem
  · simp [marksB_length]; omega
  · intro i h1 h2
    have h1' : i < xs.length := by simp [marksB_length] at h1; omega
    rw [List.getElem_set]
    split
    · rename_i e; subst e
      rw [List.getElem_append_left (by rw [marksB_length]; omega), marksB_get]
    · rename_i e
      by_cases h3 : i < j
      · rw [List.getElem_append_left (by rw [marksB_length]; omega), List.getElem_append_left (by rw [marksB_length]; omega), marksB_get, marksB_get]
      · rw [List.getElem_append_right (by rw [marksB_length]; omega), List.getElem_append_right (by rw [marksB_length]; omega)]
        simp only [marksB_length, List.getElem_drop]
        congr 1; omega

theorem OwnB.nil_or {w : World} {N : Nat} {v : Value} {xs : List Bool} (h : OwnB w N v xs) : (v = .slice none 0 0 ∧ xs = []) ∨ ∃ g c, v = .slice (some ⟨g, 0, none⟩) xs.length c := by
  rcases h.2 with ⟨h1, h2⟩ | ⟨g, cap, cur, h1, _⟩
  · exact .inl ⟨h1, List.eq_nil_of_length_eq_zero h2⟩
  · exact .inr ⟨g, cap, h1⟩
theorem ownB_nil (w : World) (N : Nat) : OwnB w N (.slice none 0 0) [] := World.ownsRow_nil w N _ _

/-- A slice of bools of the call's own whose block lies below hi. -/
structure Own2B (w : World) (lo hi : Nat) (v : Value) (xs : List Bool) : Prop where
  own : OwnB w lo v xs
  hi : ∀ k, v.ownBlock = some k → k < hi
theorem Own2B.of {w : World} {lo : Nat} {v : Value} {xs : List Bool} (h : OwnB w lo v xs) : Own2B w lo w.heap.size v xs := ⟨h, fun k hk => (h.lt k hk).2⟩
theorem Own2B.below {w w' : World} {lo hi : Nat} {v : Value} {xs : List Bool} (h : Own2B w lo hi v xs) (hb : Below w.heap.size w w') : Own2B w' lo hi v xs := ⟨h.own.below hb (Nat.le_refl _), h.hi⟩
theorem Own2B.grown {w w' : World} {lo hi lo' hi' : Nat} {v u : Value} {xs : List Bool} {ys : List Int} (h : Own2B w lo hi v xs) (k : Own2 w lo' hi' u ys) (hg : w.grownBy w' u.ownBlock) (hd : hi ≤ lo' ∨ hi' ≤ lo) : Own2B w' lo hi v xs := by
  refine ⟨h.own.kept hg ?_, h.hi⟩
  cases hv : v.ownBlock with
  | none => exact .inl rfl
  | some j =>
    refine .inr (fun e => ?_)
    have h1 := h.own.lt j hv
    have h2 := h.hi j hv
    have h3 := k.own.lt j e.symm
    have h4 := k.hi j e.symm
    omega
theorem Own2B.grownB {w w' : World} {lo hi lo' hi' : Nat} {v u : Value} {xs ys : List Bool} (h : Own2B w lo hi v xs) (k : Own2B w lo' hi' u ys) (hg : w.grownBy w' u.ownBlock) (hd : hi ≤ lo' ∨ hi' ≤ lo) : Own2B w' lo hi v xs := by
  refine ⟨h.own.kept hg ?_, h.hi⟩
  cases hv : v.ownBlock with
  | none => exact .inl rfl
  | some j =>
    refine .inr (fun e => ?_)
    have h1 := h.own.lt j hv
    have h2 := h.hi j hv
    have h3 := k.own.lt j e.symm
    have h4 := k.hi j e.symm
    omega
theorem Own2B.marked {w w' : World} {lo hi : Nat} {v : Value} {xs ys : List Bool} (h : Own2B w lo hi v xs) (k : OwnB w' lo v ys) : Own2B w' lo hi v ys := ⟨k, h.hi⟩
theorem Own2B.ints {w : World} {lo hi : Nat} {v : Value} {xs : List Bool} (h : Own2B w lo hi v xs) : Bools w v xs := h.own.bools
theorem Below.markedB {B : Nat} {w W W' : World} {lo hi : Nat} {v : Value} {xs : List Bool} (h : Below B w W) (k : Own2B W lo hi v xs) (hg : W.grownBy W' v.ownBlock) (hlo : B ≤ lo) (hB : B ≤ W.heap.size) : Below B w W' :=
  h.grown hg hB (fun j e => by have := (k.own.lt j e).1; omega)
end Go.Proofs.Ythkakieomoobmaa
