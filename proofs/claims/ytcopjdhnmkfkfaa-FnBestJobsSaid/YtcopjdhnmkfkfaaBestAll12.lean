/- The law on best jobs: what its calls give, at drawn jobs. Conditions: 1 to 6 jobs. With texts that it needs. -/
import Derived.Test.YtcopjdhnmkfkfaaBestAll11
import Derived.Test.YtcopjdhnmkfkfaaBestAll6
import Derived.Test.YtcopjdhnmkfkfaaBestAll9
import Derived.Deep.CutRange
import Derived.Deep.OwnRows
import Derived.Test.YtcopjdhnmkfkfaaBestAll8
import Derived.Test.YtcopjdhnmkfkfaaBestAll10
namespace Go.Proofs.Ytcopjdhnmkfkfaa
open Go.RowKit
set_option linter.unusedVariables false
set_option linter.unusedSimpArgs false

theorem append_i64H {ops : Array Oper} {rest : List Oper} {o : Oper} {a : Act} {Q : Exit → Act → World → Prop} {W : World} (hgd : o.guard = none) (s x : Operand)
    (ho : o.op = .call { callee := .builtin .append, args := #[s, x], argTypes := #[27, 27] }) (B : Nat) (v : Value) (xs ys : List Int) (hy : 0 < ys.length)
    (hs : a.eval s = v) (c H : Nat) (hx : a.eval x = .slice (some ⟨H, 0, none⟩) ys.length c) (hH : W.heap.size = H) (hown : OwnI W B v xs) (hB : B ≤ W.heap.size) (hsmall : xs.length + ys.length ≤ 1099511627776)
    (hK : ∀ g c w', OwnI w' B (.slice (some ⟨g, 0, none⟩) (xs.length + ys.length) c) (xs ++ ys) → W.grownBy w' v.ownBlock → (v.ownBlock = some g ∨ W.heap.size ≤ g) → wpList Try.prog ops Q rest (a.put o.dst (.slice (some ⟨g, 0, none⟩) (xs.length + ys.length) c)) w') :
    wpList Try.prog ops Q (o :: rest) a (W.alloc (.cells (ys.map (Value.int .i64)).toArray 2)) := by
  subst hH
  exact append_i64L hgd s x ho B v xs ys hy hs c hx hown hB hsmall hK
structure PcM (w wr : World) (g c : Nat) (xs : List Int) : Prop where
  own : OwnI wr w.heap.size (.slice (some ⟨g, 0, none⟩) xs.length c) xs
  bel : Below w.heap.size w wr
theorem PcM.push {w W4 w5 : World} {g c g1 c1 : Nat} {xs : List Int} {y : Int} (h : PcM w W4 g c xs) (ho : OwnI w5 w.heap.size (.slice (some ⟨g1, 0, none⟩) (xs.length + 1) c1) (xs ++ [y])) (hg : W4.grownBy w5 (some g)) : PcM w w5 g1 c1 (xs ++ [y]) := by
  have h1 := h.own.lt g rfl
  exact ⟨by rw [List.length_append]; exact ho, h.bel.grown hg h.bel.size (fun j e => by cases e; exact h1.1)⟩
def PcR (js : List Jb) (T : Nat) (w : World) (vs vl vf vk : Value) (wr : World) : Prop :=
  ∃ (k g c : Nat), vk = .int .i64 k ∧ k ≤ T ∧ vs = .int .i64 (totT js k) ∧ vl = .int .i64 (latR js k) ∧ vf = .slice (some ⟨g, 0, none⟩) k c ∧ Hid (PcM w wr g c ((js.map (·.1)).take k))
structure PcK (w wr : World) (T gL cL gE gP : Nat) (S : PieS) : Prop where
  l : OwnI wr w.heap.size (.slice (some ⟨gL, 0, none⟩) T cL) S.left
  e : OwnI wr w.heap.size (.slice (some ⟨gE, 0, none⟩) T T) S.ends
  p : OwnI wr w.heap.size (.slice (some ⟨gP, 0, none⟩) T T) S.pieces
  le : gL ≠ gE
  lp : gL ≠ gP
  ep : gE ≠ gP
  bel : Below w.heap.size w wr
theorem ob_ne {a b T c : Nat} (h : a ≠ b) : (Value.slice (some ⟨a, 0, none⟩) T c).ownBlock ≠ some b := by rw [ownBlock_slice]; intro e; injection e with e; exact h e
section
variable {w wr : World} {T gL cL gE gP : Nat} {S : PieS}
theorem PcK.drewN (h : PcK w wr T gL cL gE gP S) (q : Nat) : PcK w (wr.drewN q) T gL cL gE gP S := ⟨h.l.drewN q, h.e.drewN q, h.p.drewN q, h.le, h.lp, h.ep, below_drewN q h.bel⟩
theorem PcK.alloc (h : PcK w wr T gL cL gE gP S) (o : Obj) : PcK w (wr.alloc o) T gL cL gE gP S := ⟨h.l.alloc o, h.e.alloc o, h.p.alloc o, h.le, h.lp, h.ep, h.bel.alloc h.bel.size o⟩
theorem PcK.putL (h : PcK w wr T gL cL gE gP S) (hT : T = S.left.length) (j : Nat) (hj : j < T) (y : Int) : PcK w (wr.setCell ⟨gL, j, none⟩ (.int .i64 y)) T gL cL gE gP ⟨S.left.set j y, S.ends, S.pieces, S.last⟩ := by
  obtain ⟨_, _, s3, s4⟩ := h.l.store hT j (by omega) y
  exact ⟨s3, h.e.kept s4 (.inr (ob_ne h.le.symm)), h.p.kept s4 (.inr (ob_ne h.lp.symm)), h.le, h.lp, h.ep, h.bel.grown s4 h.bel.size (fun k e => by cases e; exact (h.l.lt gL rfl).1)⟩
theorem PcK.putE (h : PcK w wr T gL cL gE gP S) (hT : T = S.ends.length) (j : Nat) (hj : j < T) (y : Int) : PcK w (wr.setCell ⟨gE, j, none⟩ (.int .i64 y)) T gL cL gE gP ⟨S.left, S.ends.set j y, S.pieces, S.last⟩ := by
  obtain ⟨_, _, s3, s4⟩ := h.e.store hT j (by omega) y
  exact ⟨h.l.kept s4 (.inr (ob_ne h.le)), s3, h.p.kept s4 (.inr (ob_ne h.ep.symm)), h.le, h.lp, h.ep, h.bel.grown s4 h.bel.size (fun k e => by cases e; exact (h.e.lt gE rfl).1)⟩
theorem PcK.putP (h : PcK w wr T gL cL gE gP S) (hT : T = S.pieces.length) (j : Nat) (hj : j < T) (y : Int) : PcK w (wr.setCell ⟨gP, j, none⟩ (.int .i64 y)) T gL cL gE gP ⟨S.left, S.ends, S.pieces.set j y, S.last⟩ := by
  obtain ⟨_, _, s3, s4⟩ := h.p.store hT j (by omega) y
  exact ⟨h.l.kept s4 (.inr (ob_ne h.lp)), h.e.kept s4 (.inr (ob_ne h.ep)), s3, h.le, h.lp, h.ep, h.bel.grown s4 h.bel.size (fun k e => by cases e; exact (h.p.lt gP rfl).1)⟩
theorem PcK.last (h : PcK w wr T gL cL gE gP S) (S' : PieS) (h1 : S'.left = S.left) (h2 : S'.ends = S.ends) (h3 : S'.pieces = S.pieces) : PcK w wr T gL cL gE gP S' := ⟨by rw [h1]; exact h.l, by rw [h2]; exact h.e, by rw [h3]; exact h.p, h.le, h.lp, h.ep, h.bel⟩
end
theorem made0_eq (n : Nat) : madeCells #[Value.int .i64 0] n = ((List.replicate n (0 : Int)).map (Value.int .i64)).toArray := by
  apply Array.ext'
  exact (toList_madeCells_one _ _).trans (by simp)
def PcS (js : List Jb) (rule : Int) (T gL cL gE gP : Nat) (w : World) (vs vl va : Value) (wr : World) : Prop :=
  ∃ (t : Nat) (S : PieS), va = .int .i64 t ∧ vs = .int .i64 (sumA S.left T) ∧ vl = .int .i64 S.last ∧ Hid (S = pieTo js rule t) ∧ Hid (∀ t' : Nat, t' < t → 0 < sumA (pieTo js rule t').left T) ∧ Hid (PcK w wr T gL cL gE gP S)
theorem PcS.drew {js : List Jb} {rule : Int} {T gL cL gE gP : Nat} {w wr : World} {vs vl va : Value} (h : PcS js rule T gL cL gE gP w vs vl va wr) : PcS js rule T gL cL gE gP w vs vl va wr.drew := by
  obtain ⟨t, S, a, b, c, d, e, f⟩ := h
  exact ⟨t, S, a, b, c, d, e, f.out.drewN 1⟩
def PcB (js : List Jb) (rule : Int) (T gL cL gE gP t : Nat) (S : PieS) (w : World) (vb vk : Value) (wr : World) : Prop :=
  ∃ k : Nat, vk = .int .i64 k ∧ k ≤ T ∧ vb = .int .i64 (pkTo js rule S.left t k) ∧ Hid (PcK w wr T gL cL gE gP S)
theorem totT_le {js : List Jb} (hs : SmJ js) : ∀ k, k ≤ js.length → 0 ≤ totT js k ∧ totT js k ≤ 10000 * (k : Int)
  | 0, _ => ⟨Int.le_refl _, Int.le_refl _⟩
  | k + 1, h => by
    have h1 := totT_le hs k (by omega)
    have h2 := hs.time k (by omega)
    rw [totT_succ]
    omega
theorem latR_le {js : List Jb} (hs : SmJ js) : ∀ k, k ≤ js.length → 0 ≤ latR js k ∧ latR js k ≤ 10000
  | 0, _ => ⟨Int.le_refl _, by show (0 : Int) ≤ 10000; decide⟩
  | k + 1, h => by
    have h1 := latR_le hs k (by omega)
    have h2 := hs.rel k (by omega)
    unfold latR
    omega
set_option maxRecDepth 100000 in
set_option maxHeartbeats 4000000 in
theorem PieceEnds_any (v : Value) (js : List Jb) (rule : Int) (w : World) (hv : Jobs w v js) (hok : jobsOk js = true) (hr : 0 ≤ rule ∧ rule ≤ 1) :
    Calls Try.prog 15 #[v, .int .i64 rule] w fun e w' => ((10000 < latR js js.length + totT js js.length ∧ e = .returned (.tuple #[.slice none 0 0, .slice none 0 0, .bool false])) ∨
      (latR js js.length + totT js js.length ≤ 10000 ∧ ∃ t gE gP, (∀ i, i < js.length → nth (pieTo js rule t).left i = 0) ∧ e = .returned (.tuple #[.slice (some ⟨gE, 0, none⟩) js.length js.length, .slice (some ⟨gP, 0, none⟩) js.length js.length, .bool true]) ∧
        OwnI w' w.heap.size (.slice (some ⟨gE, 0, none⟩) js.length js.length) (pieTo js rule t).ends ∧ OwnI w' w.heap.size (.slice (some ⟨gP, 0, none⟩) js.length js.length) (pieTo js rule t).pieces)) ∧ Below w.heap.size w w' := by
  have hs := jobs_sm hok
  have HAJ : Hid (Calls Try.prog 12 #[v] w fun e w' => e = .returned (.bool true) ∧ Below w.heap.size w w') := by
    have h := areJobs_any v js w hv
    rwa [hok] at h
  have HWI : Hid (∀ W, Calls Try.prog 22 #[.int .i64 rule, .int .i64 0, .int .i64 1] W fun e w' => e = .returned (.bool true) ∧ W = w') := fun W => by
    have h := within_any rule 0 1 W
    rwa [show win rule 0 1 = true from win_true.2 hr] at h
  obtain ⟨b, o, c, rfl, hcap, hbw, hV⟩ := jobs_view hv hs.n1
  have HV : Hid (∀ W, Below w.heap.size w W → JbView W b o js) := hV
  have HSM := Lib.hid hs
  have HTT : Hid (∀ k, k ≤ js.length → 0 ≤ totT js k ∧ totT js k ≤ 10000 * (k : Int)) := fun k hk => totT_le hs k hk
  have HLT : Hid (∀ k, k ≤ js.length → 0 ≤ latR js k ∧ latR js k ≤ 10000) := fun k hk => latR_le hs k hk
  have HPI : Hid (∀ t : Nat, PieI js t (pieTo js rule t)) := fun t => pieI_to ⟨fun i hi => (hs.time i hi).1, fun i hi => (hs.rel i hi).1⟩ rule t
  have HAT : Hid (∀ t : Nat, (∀ t', t' < t → 0 < sumA (pieTo js rule t').left js.length) → sumA (pieTo js rule t).left js.length ≤ totT js js.length ∧ (t : Int) + sumA (pieTo js rule t).left js.length ≤ latR js js.length + totT js js.length) := fun t h => sumA_to ⟨fun i hi => (hs.time i hi).1, fun i hi => (hs.rel i hi).1⟩ rule t h
  have hn1 := hs.n1
  have hn24 := hs.n24
  obtain ⟨T, hT⟩ : ∃ T, js.length = T := ⟨_, rfl⟩
  have HT := Lib.hid hT
  rw [hT] at hcap HAJ HTT HLT HAT hn1 hn24 ⊢
  clear hv hok hs hV hT
  have HR0 : Hid (∀ W1, Below w.heap.size w W1 → PcR js T w (.int .i64 0) (.int .i64 0) (.slice (some ⟨W1.heap.size, 0, none⟩) 0 0) (.int .i64 0) (W1.alloc (.cells #[] 2))) := fun W1 h1 =>
    ⟨0, W1.heap.size, 0, rfl, Nat.zero_le _, rfl, rfl, rfl, ⟨by rw [List.take_zero]; exact (OwnI.lit W1 W1.heap.size [] (Nat.le_refl _) (by unfold maxLen; simp)).mono h1.size, h1.alloc h1.size _⟩⟩
  go_enter Try.func15, Try.ntmps15
  go_wp2_with fail
  refine HAJ.out.mono ?_
  rintro e W1 ⟨rfl, hb1⟩
  have HB1 := Lib.hid hb1
  clear hb1 HAJ
  go_wp2_with fail
  refine (HWI.out _).mono ?_
  rintro e w' ⟨rfl, rfl⟩
  go_wp2_with fail
  go_loopw [7, 8, 9, 30] (fun vs vl vf vk wr => PcR js T w vs vl vf vk wr) (fun _ _ _ vk _ => T - (intOf vk).toNat)
  case atStart => exact HR0.out _ HB1.out
  case round =>
    obtain ⟨k, g, c9, rfl, hkT, rfl, rfl, rfl, HM⟩ := hrel
    clear HR0
    by_cases hk2 : k < T
    · have k0 : (0 : Int) ≤ (k : Int) := by omega
      have k1 : (k : Int) < (T : Int) := by omega
      have hJ := HV.out _ HM.out.bel k (by rw [HT.out]; omega)
      have c0 := hJ.c0
      have c1 := hJ.c1
      have c2 := hJ.c2
      have c3 := hJ.c3
      have ht1 := HTT.out k hkT
      have htm := HSM.out.time k (by rw [HT.out]; omega)
      obtain ⟨x0, hx0⟩ : ∃ x, (jbN js k).1 = x := ⟨_, rfl⟩
      obtain ⟨x1, hx1⟩ : ∃ x, (jbN js k).2.1 = x := ⟨_, rfl⟩
      obtain ⟨x2, hx2⟩ : ∃ x, (jbN js k).2.2.1 = x := ⟨_, rfl⟩
      obtain ⟨x3, hx3⟩ : ∃ x, (jbN js k).2.2.2 = x := ⟨_, rfl⟩
      rw [hx0] at c0
      rw [hx1] at c1
      rw [hx2] at c2
      rw [hx3] at c3
      rw [show tmJ js k = x0 from hx0] at htm
      have HTS : Hid (totT js (k + 1) = totT js k + x0) := by show _ = _; rw [totT_succ, show tmJ js k = x0 from hx0]
      have HLS : Hid (latR js (k + 1) = max (latR js k) x1) := by show max (latR js k) (rlJ js k) = _; rw [show rlJ js k = x1 from hx1]
      have HTK : Hid ((js.map (·.1)).take k ++ [x0] = (js.map (·.1)).take (k + 1)) := by
        show _ = _
        have hl : k < (js.map (·.1)).length := by rw [List.length_map, HT.out]; omega
        rw [List.take_succ_eq_append_getElem hl]
        congr 2
        rw [← nth_eq hl, nth_map1 (by rw [HT.out]; omega)]
        exact hx0.symm
      have HKL : Hid (((js.map (·.1)).take k).length = k) := by show _ = _; rw [List.length_take, List.length_map, HT.out]; omega
      obtain ⟨A, hA⟩ : ∃ A, totT js k = A := ⟨_, rfl⟩
      obtain ⟨B, hB⟩ : ∃ B, latR js k = B := ⟨_, rfl⟩
      rw [hA] at HTS ht1 ⊢
      rw [hB] at HLS ⊢
      have w1 : IntKind.i64.wrap (A + x0) = A + x0 := IntWalk.i64_in _ (by omega)
      have HMP : Hid (∀ o1 : Obj, PcM w (wr.alloc o1) g c9 ((js.map (·.1)).take k)) := fun o1 => ⟨HM.out.own.alloc _, HM.out.bel.alloc HM.out.bel.size _⟩
      have HOW : Hid (∀ o1 : Obj, OwnI (wr.alloc o1) w.heap.size (.slice (some ⟨g, 0, none⟩) k c9) ((js.map (·.1)).take k)) := fun o1 => by
        have h := (HMP.out o1).own
        rwa [HKL.out] at h
      have hw4 : w.heap.size ≤ wr.heap.size := HM.out.bel.size
      clear hJ hx0 hx1 hx2 hx3 hA hB
      go_wp2_with (first
        | (at_builtin; refine append_i64H rfl _ _ rfl w.heap.size (.slice (some ⟨g, 0, none⟩) k c9) ((js.map (·.1)).take k) [x0] (Nat.zero_lt_succ _) rfl _ _ rfl (by simp) (HOW.out _) (Nat.le_trans hw4 (by simp)) (by rw [HKL.out]; simp only [List.length_singleton]; omega) ?_; intro g1 cc1 w5 ho5 hg5 hl5; have HM5 := Lib.hid ((HMP.out _).push ho5 hg5); rw [HTK.out] at HM5; simp only [HKL.out, List.length_singleton]; clear ho5 hg5 hl5))
      go_roundw
      case rel => exact ⟨k + 1, g1, cc1, by go_num, by omega, by rw [HTS.out], by first | (rw [HLS.out]; done) | (rw [HLS.out]; exact val_int (by first | omega | (split <;> omega))), rfl, HM5.out⟩
      case measure => simp [intOf]; omega
    · obtain rfl : k = T := by omega
      have ht1 := HTT.out k (Nat.le_refl _)
      have hl1 := HLT.out k (Nat.le_refl _)
      obtain ⟨A, hA⟩ : ∃ A, totT js k = A := ⟨_, rfl⟩
      obtain ⟨B, hB⟩ : ∃ B, latR js k = B := ⟨_, rfl⟩
      have HA := Lib.hid hA
      have HB := Lib.hid hB
      rw [hA] at ht1 HAT ⊢
      rw [hB] at hl1 HAT ⊢
      have w1 : IntKind.i64.wrap (B + A) = B + A := IntWalk.i64_in _ (by omega)
      clear hA hB
      by_cases hbig : 10000 < B + A
      · have HBL := Lib.hid HM.out.bel
        go_wp2
        go_ret3
        exact ⟨.inl ⟨by rw [HA.out, HB.out]; exact hbig, rfl⟩, HBL.out⟩
      · have hb10 : B + A ≤ 10000 := by omega
        have hgl := HM.out.own.lt g rfl
        have HKL : Hid ((js.map (·.1)).take k = js.map (·.1)) := by show _ = _; rw [List.take_of_length_le (by rw [List.length_map, HT.out]; exact Nat.le_refl _)]
        have HRA : Hid (∀ W0, Below wr.heap.size wr W0 → PcS js rule k g c9 W0.heap.size (W0.heap.size + 1) w (.int .i64 A) (.int .i64 (-1)) (.int .i64 0) ((W0.alloc (.cells (madeCells #[.int .i64 0] k) 2)).alloc (.cells (madeCells #[.int .i64 0] k) 2)) ∧
            PcS js rule k g c9 (W0.heap.size + 1) W0.heap.size w (.int .i64 A) (.int .i64 (-1)) (.int .i64 0) ((W0.alloc (.cells (madeCells #[.int .i64 0] k) 2)).alloc (.cells (madeCells #[.int .i64 0] k) 2))) := fun W0 hb0 => by
          have q0 := hb0.size
          have qw := HM.out.bel.size
          have e1 := HM.out.own
          rw [HKL.out, List.length_map, HT.out] at e1
          have hb1 : Below w.heap.size w W0 := HM.out.bel.trans (hb0.mono qw)
          rw [made0_eq]
          have o4 := OwnI.lit W0 w.heap.size (List.replicate k 0) (Nat.le_trans qw q0) (by unfold maxLen; simp; omega)
          have o5 := OwnI.lit (W0.alloc (.cells ((List.replicate k (0 : Int)).map (Value.int .i64)).toArray 2)) w.heap.size (List.replicate k 0) (by simp; omega) (by unfold maxLen; simp; omega)
          rw [List.length_replicate] at o4 o5
          rw [show (W0.alloc (.cells ((List.replicate k (0 : Int)).map (Value.int .i64)).toArray 2)).heap.size = W0.heap.size + 1 by simp] at o5
          have hb5 : Below w.heap.size w ((W0.alloc (.cells ((List.replicate k (0 : Int)).map (Value.int .i64)).toArray 2)).alloc (.cells ((List.replicate k (0 : Int)).map (Value.int .i64)).toArray 2)) := (hb1.alloc hb1.size _).alloc (hb1.alloc hb1.size _).size _
          have e5 := ((e1.below hb0 (Nat.le_refl _)).alloc (.cells ((List.replicate k (0 : Int)).map (Value.int .i64)).toArray 2)).alloc (.cells ((List.replicate k (0 : Int)).map (Value.int .i64)).toArray 2)
          have o45 := o4.alloc (.cells ((List.replicate k (0 : Int)).map (Value.int .i64)).toArray 2)
          have hz1 : (pieTo js rule 0).ends = List.replicate k 0 := by rw [← HT.out]; rfl
          have hz2 : (pieTo js rule 0).pieces = List.replicate k 0 := by rw [← HT.out]; rfl
          have hs0 : Value.int .i64 A = .int .i64 (sumA (pieTo js rule 0).left k) := by rw [← HA.out, ← HT.out]; rw [sumA_start]
          exact ⟨⟨0, pieTo js rule 0, rfl, hs0, rfl, rfl, fun t' h => absurd h (Nat.not_lt_zero _), e5, by rw [hz1]; exact o45, by rw [hz2]; exact o5, by omega, by omega, by omega, hb5⟩,
            ⟨0, pieTo js rule 0, rfl, hs0, rfl, rfl, fun t' h => absurd h (Nat.not_lt_zero _), e5, by rw [hz1]; exact o5, by rw [hz2]; exact o45, by omega, by omega, by omega, hb5⟩⟩
        have hmk := run_make_row' (P := Try.prog) 27 2 (.int .i64 0) 8 Try.underlying27 (by kernel_rfl) rfl .i64 .i64 k (by omega) (by omega)
        clear hgl
        go_upto_region 14 with fail
        go_cut [12, 13] from 52 to 57 (fun s12 s13 wx => ∃ gE gP : Nat, s12 = .slice (some ⟨gE, 0, none⟩) k k ∧ s13 = .slice (some ⟨gP, 0, none⟩) k k ∧ Hid (PcS js rule k g c9 gE gP w (.int .i64 A) (.int .i64 (-1)) (.int .i64 0) wx))
        case first =>
          go_region
          all_goals (go_wp2_with fail; go_meet)
          all_goals first
            | exact ⟨_, _, rfl, rfl, ((HRA.out wr (Below.refl _ _)).1).drew⟩
            | exact ⟨_, _, rfl, rfl, ((HRA.out wr (Below.refl _ _)).2).drew⟩
        case rest =>
          obtain ⟨gE, gP, rfl, rfl, HR1⟩ := hcut
          clear HRA hmk HM HKL HTT HLT HWI HB1 ht1 hbig w1
          go_wp2_with fail
          go_loopw [7, 14, 15] (fun vs vl va wr => PcS js rule k g c9 gE gP w vs vl va wr) (fun vs _ va _ => (intOf vs + max 0 (B - intOf va)).toNat)
          case atStart => exact HR1.out
          case round =>
            obtain ⟨t, S, rfl, rfl, rfl, HSE, HPV, HK⟩ := hrel
            clear HR1
            have hat := HAT.out t HPV.out
            have hpi := HPI.out t
            rw [← HSE.out] at hat hpi
            have hsn := sumA_nn hpi
            rw [HT.out] at hsn
            have HPT := Lib.hid hpi
            obtain ⟨Y, hY⟩ : ∃ Y, sumA S.left k = Y := ⟨_, rfl⟩
            have HY := Lib.hid hY
            rw [hY] at hat hsn ⊢
            obtain ⟨Z, hZ⟩ : ∃ Z, S.last = Z := ⟨_, rfl⟩
            have HZ := Lib.hid hZ
            rw [hZ]
            have t0 : (0 : Int) ≤ (t : Int) := by omega
            have t1 : (t : Int) ≤ 10000 := by omega
            clear hpi hY hZ
            by_cases hpos : 0 < Y
            · have HI0 : Hid (PcB js rule k g c9 gE gP t S w (.int .i64 (-1)) (.int .i64 0) wr) := ⟨0, rfl, Nat.zero_le _, rfl, HK.out⟩
              go_wp2_with fail
              clear HK
              go_loopw [16, 64] (fun vb vk wi => PcB js rule k g c9 gE gP t S w vb vk wi) (fun _ vk _ => k - (intOf vk).toNat)
              case atStart => exact HI0.out
              case round =>
                obtain ⟨i, rfl, hik, rfl, HKI⟩ := hrel
                clear HI0
                by_cases hi2 : i < k
                · have k0 : (0 : Int) ≤ (i : Int) := by omega
                  have k1 : (i : Int) < (k : Int) := by omega
                  have hJ := HV.out _ HKI.out.bel i (by rw [HT.out]; omega)
                  have c0 := hJ.c0
                  have c1 := hJ.c1
                  have c2 := hJ.c2
                  have c3 := hJ.c3
                  have hll : k = S.left.length := by rw [HPT.out.ll, HT.out]
                  have cl := HKI.out.l.at_ hll i (by omega)
                  have hgw : g < wr.heap.size := (HKI.out.l.lt g rfl).2
                  have hbw2 : b < wr.heap.size := Nat.lt_of_lt_of_le hbw HKI.out.bel.size
                  have HPK : Hid (pkTo js rule S.left t (i + 1) = if (rlJ js i ≤ t ∧ nth S.left i ≠ 0) ∧ (pkTo js rule S.left t i < 0 ∨ keyQ js rule S.left i < keyQ js rule S.left (pkTo js rule S.left t i).toNat) then (i : Int) else pkTo js rule S.left t i) := rfl
                  have hsp := pkTo_spec js rule S.left t i
                  obtain ⟨P, hP⟩ : ∃ P, pkTo js rule S.left t i = P := ⟨_, rfl⟩
                  rw [hP] at HPK hsp ⊢
                  obtain ⟨L, hL⟩ : ∃ x, nth S.left i = x := ⟨_, rfl⟩
                  have HL := Lib.hid hL
                  obtain ⟨x0, hx0⟩ : ∃ x, (jbN js i).1 = x := ⟨_, rfl⟩
                  obtain ⟨x1, hx1⟩ : ∃ x, (jbN js i).2.1 = x := ⟨_, rfl⟩
                  obtain ⟨x2, hx2⟩ : ∃ x, (jbN js i).2.2.1 = x := ⟨_, rfl⟩
                  obtain ⟨x3, hx3⟩ : ∃ x, (jbN js i).2.2.2 = x := ⟨_, rfl⟩
                  rw [hx0] at c0
                  rw [hx1] at c1
                  rw [hx2] at c2
                  rw [hx3] at c3
                  rw [hL] at cl HPK
                  rw [show rlJ js i = x1 from hx1] at HPK
                  have HDU : Hid (duJ js i = x2) := hx2
                  clear hJ hP hL hx0 hx1 hx2 hx3 hll
                  by_cases hr1 : (t : Int) < x1
                  · have HP1 : Hid (pkTo js rule S.left t (i + 1) = P) := by show _ = _; rw [HPK.out, if_neg (by omega)]
                    clear hsp HPK
                    go_wp2
                    go_roundw
                    case rel => exact ⟨i + 1, by go_num, by omega, by rw [HP1.out], HKI.out.alloc _⟩
                    case measure => simp [intOf]; omega
                  · by_cases hl0 : L = 0
                    · have HP1 : Hid (pkTo js rule S.left t (i + 1) = P) := by show _ = _; rw [HPK.out, if_neg (fun h => h.1.2 hl0)]
                      clear hsp HPK
                      go_wp2
                      go_roundw
                      case rel => exact ⟨i + 1, by go_num, by omega, by rw [HP1.out], HKI.out.alloc _⟩
                      case measure => simp [intOf]; omega
                    · rcases hsp with ⟨hPm, -⟩ | ⟨bb, hb1, hb2, -, -⟩
                      · subst hPm
                        have HP1 : Hid (pkTo js rule S.left t (i + 1) = i) := by show _ = _; rw [HPK.out, if_pos ⟨⟨by omega, hl0⟩, .inl (by omega)⟩]
                        clear HPK
                        go_wp2
                        go_quiet (fail)
                        go_wp2
                        go_roundw
                        case rel => exact ⟨i + 1, by go_num, by omega, by rw [HP1.out], (HKI.out.alloc _).drewN _⟩
                        case measure => simp [intOf]; omega
                      · subst hb2
                        rw [Int.toNat_natCast] at HPK
                        have b0 : (0 : Int) ≤ (bb : Int) := by omega
                        have b1 : (bb : Int) < (k : Int) := by omega
                        have bd : decide ((bb : Int) < 0) = false := decide_eq_false (by omega)
                        have hll : k = S.left.length := by rw [HPT.out.ll, HT.out]
                        have cb := HKI.out.l.at_ hll bb (by omega)
                        have jb := (HV.out _ HKI.out.bel bb (by rw [HT.out]; omega)).c2
                        obtain ⟨M, hM⟩ : ∃ x, nth S.left bb = x := ⟨_, rfl⟩
                        obtain ⟨D, hD⟩ : ∃ x, (jbN js bb).2.2.1 = x := ⟨_, rfl⟩
                        have HM2 := Lib.hid hM
                        have HD2 : Hid (duJ js bb = D) := hD
                        rw [hM] at cb
                        rw [hD] at jb
                        clear hM hD hll
                        rcases (show rule = 0 ∨ rule = 1 by omega) with rfl | rfl
                        · by_cases hlt : L < M
                          · have HP1 : Hid (pkTo js 0 S.left t (i + 1) = i) := by
                              show _ = _; rw [HPK.out, if_pos ⟨⟨by omega, hl0⟩, .inr (by unfold keyQ; rw [if_pos rfl, if_pos rfl, HL.out, HM2.out]; exact hlt)⟩]
                            clear HPK
                            go_wp2
                            go_quiet (fail)
                            go_wp2
                            go_roundw
                            case rel => exact ⟨i + 1, by go_num, by omega, by rw [HP1.out], (HKI.out.alloc _).drewN _⟩
                            case measure => simp [intOf]; omega
                          · have HP1 : Hid (pkTo js 0 S.left t (i + 1) = bb) := by
                              show _ = _; rw [HPK.out, if_neg (fun h => h.2.elim (fun q => by omega) (fun q => by unfold keyQ at q; rw [if_pos rfl, if_pos rfl, HL.out, HM2.out] at q; exact hlt q))]
                            have hld : decide (L < M) = false := decide_eq_false hlt
                            clear HPK
                            go_wp2
                            go_quiet (fail)
                            go_wp2
                            go_roundw
                            case rel => exact ⟨i + 1, by go_num, by omega, by rw [HP1.out], (HKI.out.alloc _).drewN _⟩
                            case measure => simp [intOf]; omega
                        · by_cases hlt : x2 < D
                          · have HP1 : Hid (pkTo js 1 S.left t (i + 1) = i) := by
                              show _ = _; rw [HPK.out, if_pos ⟨⟨by omega, hl0⟩, .inr (by unfold keyQ; rw [if_neg (by decide), if_neg (by decide), HDU.out, HD2.out]; exact hlt)⟩]
                            clear HPK
                            go_wp2
                            go_quiet (fail)
                            go_wp2
                            go_roundw
                            case rel => exact ⟨i + 1, by go_num, by omega, by rw [HP1.out], (HKI.out.alloc _).drewN _⟩
                            case measure => simp [intOf]; omega
                          · have HP1 : Hid (pkTo js 1 S.left t (i + 1) = bb) := by
                              show _ = _; rw [HPK.out, if_neg (fun h => h.2.elim (fun q => by omega) (fun q => by unfold keyQ at q; rw [if_neg (by decide), if_neg (by decide), HDU.out, HD2.out] at q; exact hlt q))]
                            have hld : decide (x2 < D) = false := decide_eq_false hlt
                            clear HPK
                            go_wp2
                            go_quiet (fail)
                            go_wp2
                            go_roundw
                            case rel => exact ⟨i + 1, by go_num, by omega, by rw [HP1.out], (HKI.out.alloc _).drewN _⟩
                            case measure => simp [intOf]; omega
                · obtain rfl : k = i := by omega
                  have HPV1 : Hid (∀ t' : Nat, t' < t + 1 → 0 < sumA (pieTo js rule t').left k) := fun t' ht => by
                    by_cases e : t' = t
                    · subst e; rw [← HSE.out, HY.out]; exact hpos
                    · exact HPV.out t' (by omega)
                  have hno := sumA_none (rule := rule) HPT.out (by rw [HT.out, HY.out]; exact hpos)
                  have hst := sumA_step (rule := rule) HPT.out
                  rcases pieStep_cases (js := js) (rule := rule) (t := t) (s := S) with ⟨h1, -, h3⟩ | ⟨bb, hb1, h2, h3, -, h5⟩
                  · have htB : (t : Int) < B := by
                      by_cases e : B ≤ t
                      · exact absurd h1 (hno (by rw [HT.out, HB.out]; exact e))
                      · omega
                    have HS1 : Hid ((⟨S.left, S.ends, S.pieces, -1⟩ : PieS) = pieTo js rule (t + 1)) := by
                      show _ = pieStep js rule t (pieTo js rule t)
                      rw [← HSE.out, h3]
                    have hP : pkTo js rule S.left t k = -1 := by rw [← HT.out]; exact h1
                    rw [hP]
                    clear hP h1 h3 hno hst HPV HSE
                    go_wp2
                    go_roundw
                    case rel => exact ⟨t + 1, ⟨S.left, S.ends, S.pieces, -1⟩, by go_num, by rw [HY.out], rfl, HS1.out, HPV1.out, HKI.out.last _ rfl rfl rfl⟩
                    case measure => simp [intOf]; omega
                  · have hb1k : bb < k := by rw [← HT.out]; exact hb1
                    have b0 : (0 : Int) ≤ (bb : Int) := by omega
                    have b1 : (bb : Int) < (k : Int) := by omega
                    have hll : k = S.left.length := by rw [HPT.out.ll, HT.out]
                    have hle : k = S.ends.length := by rw [HPT.out.le, HT.out]
                    have hlp : k = S.pieces.length := by rw [HPT.out.lp, HT.out]
                    have cl := HKI.out.l.at_ hll bb (by omega)
                    have ce := HKI.out.e.at_ hle bb (by omega)
                    have cp := HKI.out.p.at_ hlp bb (by omega)
                    have fl := (HKI.out.l.store hll bb (by omega) 0).2.1
                    have fe := (HKI.out.e.store hle bb (by omega) 0).2.1
                    have fp := (HKI.out.p.store hlp bb (by omega) 0).2.1
                    have n1 := HKI.out.le
                    have n2 := HKI.out.lp
                    have n3 := HKI.out.ep
                    have n4 := HKI.out.le.symm
                    have n5 := HKI.out.lp.symm
                    have n6 := HKI.out.ep.symm
                    have htm := HSM.out.time bb hb1
                    have hlb := HPT.out.left bb hb1
                    have hpb := HPT.out.pieces bb hb1
                    obtain ⟨L, hL⟩ : ∃ x, nth S.left bb = x := ⟨_, rfl⟩
                    obtain ⟨Pc, hPc⟩ : ∃ x, nth S.pieces bb = x := ⟨_, rfl⟩
                    obtain ⟨E0, hE0⟩ : ∃ x, nth S.ends bb = x := ⟨_, rfl⟩
                    obtain ⟨tm, htm0⟩ : ∃ x, tmJ js bb = x := ⟨_, rfl⟩
                    rw [htm0] at htm hlb
                    rw [hL] at cl hlb
                    rw [hPc] at cp hpb
                    rw [hE0] at ce
                    have hl0 : L ≠ 0 := by rw [← hL]; exact h3.2
                    have HS1 : Hid ((⟨S.left.set bb (L - 1), S.ends.set bb (t + 1), S.pieces.set bb (Pc + if (bb : Int) = Z then 0 else 1), bb⟩ : PieS) = pieTo js rule (t + 1)) := by
                      show _ = pieStep js rule t (pieTo js rule t)
                      rw [← HSE.out, h5, hL, hPc, HZ.out]
                    have HSU : Hid (sumA (S.left.set bb (L - 1)) k = Y - 1) := by
                      have h := hst.2 bb h2
                      rw [h5, hL, HT.out, HY.out] at h
                      exact h
                    have hP : pkTo js rule S.left t k = bb := by rw [← HT.out]; exact h2
                    rw [hP]
                    have HPS : Hid (S.pieces.set bb Pc = S.pieces) := by
                      show _ = _
                      rw [← hPc, nth_eq (by omega), List.set_getElem_self]
                    have HKE : Hid (∀ X1 X2 : Int, X1 = L - 1 → X2 = t + 1 → PcK w ((wr.setCell ⟨g, bb, none⟩ (.int .i64 X1)).setCell ⟨gE, bb, none⟩ (.int .i64 X2)) k g c9 gE gP ⟨S.left.set bb (L - 1), S.ends.set bb (t + 1), S.pieces, bb⟩) := fun X1 X2 e1 e2 => by
                      subst e1 e2
                      exact ((HKI.out.putL hll bb hb1k (L - 1)).putE hle bb hb1k (t + 1)).last _ rfl rfl rfl
                    have HKP : Hid (∀ X1 X2 X3 : Int, X1 = L - 1 → X2 = t + 1 → X3 = Pc + 1 → PcK w (((wr.setCell ⟨gP, bb, none⟩ (.int .i64 X3)).setCell ⟨g, bb, none⟩ (.int .i64 X1)).setCell ⟨gE, bb, none⟩ (.int .i64 X2)) k g c9 gE gP ⟨S.left.set bb (L - 1), S.ends.set bb (t + 1), S.pieces.set bb (Pc + 1), bb⟩) := fun X1 X2 X3 e1 e2 e3 => by
                      subst e1 e2 e3
                      exact (((HKI.out.putP hlp bb hb1k (Pc + 1)).putL hll bb hb1k (L - 1)).putE hle bb hb1k (t + 1)).last _ rfl rfl rfl
                    have w2 : IntKind.i64.wrap (Pc + 1) = Pc + 1 := IntWalk.i64_in _ (by omega)
                    have w3 : IntKind.i64.wrap (L - 1) = L - 1 := IntWalk.i64_in _ (by omega)
                    have w4 : IntKind.i64.wrap (Y - 1) = Y - 1 := IntWalk.i64_in _ (by omega)
                    have w5 : IntKind.i64.wrap ((t : Int) + 1) = (t : Int) + 1 := IntWalk.i64_in _ (by omega)
                    clear hP h2 h3 h5 hno hst HPV HSE hll hle hlp hL hPc hE0 htm0 hb1
                    by_cases hz : (bb : Int) = Z
                    · rw [if_pos hz, Int.add_zero, HPS.out] at HS1
                      subst hz
                      go_wp2
                      go_roundw
                      case rel => exact ⟨t + 1, ⟨S.left.set bb (L - 1), S.ends.set bb (t + 1), S.pieces, bb⟩, by go_num, by rw [HSU.out], rfl, HS1.out, HPV1.out, HKE.out _ _ rfl rfl⟩
                      case measure => simp [intOf]; omega
                    · rw [if_neg hz] at HS1
                      go_wp2
                      go_roundw
                      case rel => exact ⟨t + 1, ⟨S.left.set bb (L - 1), S.ends.set bb (t + 1), S.pieces.set bb (Pc + 1), bb⟩, by go_num, by rw [HSU.out], rfl, HS1.out, HPV1.out, HKP.out _ _ _ rfl rfl rfl⟩
                      case measure => simp [intOf]; omega
            · have HZ0 : Hid (∀ i, i < k → nth (pieTo js rule t).left i = 0) := fun i hi => by
                have h := sumA_zero HPT.out (by rw [HT.out, HY.out]; exact hpos) i (by rw [HT.out]; exact hi)
                rwa [HSE.out] at h
              have HKF : Hid (OwnI wr w.heap.size (.slice (some ⟨gE, 0, none⟩) k k) (pieTo js rule t).ends ∧ OwnI wr w.heap.size (.slice (some ⟨gP, 0, none⟩) k k) (pieTo js rule t).pieces ∧ Below w.heap.size w wr) := by
                have h := HK.out
                rw [HSE.out] at h
                exact ⟨h.e, h.p, h.bel⟩
              clear HK
              go_wp2
              go_ret3
              exact ⟨.inr ⟨by rw [HA.out, HB.out]; exact hb10, t, HZ0.out, gE, gP, rfl, HKF.out.1, HKF.out.2.1⟩, HKF.out.2.2⟩
end Go.Proofs.Ytcopjdhnmkfkfaa

namespace Go.Proofs.Ytcopjdhnmkfkfaa
open Go.RowKit
set_option linter.unusedVariables false
set_option linter.unusedSimpArgs false

theorem jbN_out {js : List Jb} {i : Nat} (h : ¬ i < js.length) : jbN js i = (0, 0, 0, 0) := by
  unfold jbN; rw [List.getD_eq_getElem?_getD, List.getElem?_eq_none (by omega)]; rfl
theorem drJ_at {js : List Jb} (h : ∀ x ∈ js, DrJ x) {i : Nat} (hi : i < js.length) : DrJ (jbN js i) := by rw [jbN_eq hi]; exact h _ (List.getElem_mem hi)
theorem drJ_ok {js : List Jb} (h : ∀ x ∈ js, DrJ x) (h1 : 1 ≤ js.length) (h2 : js.length ≤ 24) : jobsOk js = true := by
  unfold jobsOk
  simp only [Bool.and_eq_true, decide_eq_true_eq, List.all_eq_true]
  refine ⟨⟨fun x hx => ?_, h1⟩, h2⟩
  obtain ⟨⟨a1, a2⟩, ⟨b1, b2⟩, ⟨c1, c2⟩, d1, d2⟩ := h x hx
  unfold jobOk
  simp only [Bool.and_eq_true]
  exact ⟨⟨⟨win_true.2 ⟨by omega, by omega⟩, win_true.2 ⟨by omega, by omega⟩⟩, win_true.2 ⟨by omega, by omega⟩⟩, win_true.2 ⟨by omega, by omega⟩⟩
theorem drJ_free {js : List Jb} {T : Nat} (h : ∀ x ∈ js, DrJ x) (hl : js.length = T) (hf : ∀ i, i < T → rlJ js i = 0) : FreeJ js := by
  refine ⟨fun i => ?_, fun i => ?_⟩
  · by_cases hi : i < js.length
    · have := (drJ_at h hi).1; unfold tmJ; omega
    · unfold tmJ; rw [jbN_out hi]; exact Int.le_refl _
  · by_cases hi : i < js.length
    · exact hf i (by omega)
    · unfold rlJ; rw [jbN_out hi]
theorem drJ_due {js : List Jb} (h : ∀ x ∈ js, DrJ x) (i : Nat) : 0 ≤ duJ js i := by
  by_cases hi : i < js.length
  · exact (drJ_at h hi).2.2.1.1
  · unfold duJ; rw [jbN_out hi]; exact Int.le_refl _
theorem first_cost {js : List Jb} {kind l : Int} {b : List Int} (h : firstL js.length (costF kind js) = some (b, l)) : b.Perm (idL js.length) ∧ costE kind js b = l ∧ ∀ E : List Int, E.Perm (idL js.length) → l ≤ costE kind js E := by
  obtain ⟨h1, h2, h3⟩ := firstL_spec.2 b l h
  exact ⟨h1, by injection h2, fun E hE => h3 E hE _ rfl⟩
theorem few_eq {js : List Jb} {O b : List Int} {l : Int} (hf : FreeJ js) (hd : ∀ i, 0 ≤ duJ js i) (h1 : 1 ≤ js.length) (hO : SortsBy (dueK js) js.length O) (h : firstL js.length (costF 4 js) = some (b, l)) : (mhTo js O js.length).taken = l := by
  obtain ⟨a1, a2, a3⟩ := first_cost h
  have h2 := few_low hf hd h1 hO.1 (sortsBy_le hO) a1
  obtain ⟨E, hE, h3⟩ := few_high hf hd h1 hO.1 (sortsBy_le hO)
  have h4 := a3 E hE
  omega
/-- Jobs that are kept: on time, each once. -/
structure OutOk (js : List Jb) (T : Nat) (late : Int) (out : List Int) : Prop where
  cnt : (out.length : Int) + late = T
  mem : ∀ k, k < out.length → ∃ i : Nat, nth out k = i ∧ i < T
  pre : ∀ k, k < out.length → sumT js (out.take (k + 1)) = sumT js (out.take k) + tmJ js (nth out k).toNat ∧ sumT js (out.take (k + 1)) ≤ duJ js (nth out k).toNat ∧ 0 ≤ sumT js (out.take k) ∧ sumT js (out.take k) ≤ 240000
  has : ∀ k, k < out.length → (out.take k).any (· == nth out k) = false
theorem sumT_app (js : List Jb) : ∀ (l k : List Int), sumT js (l ++ k) = sumT js l + sumT js k
  | [], k => by simp [sumT]
  | x :: l, k => by rw [List.cons_append, sumT_cons, sumT_cons, sumT_app js l k]; omega
theorem outOk {js : List Jb} {O : List Int} (hs : SmJ js) (hf : FreeJ js) (hd : ∀ i, 0 ≤ duJ js i) (hO : SortsBy (dueK js) js.length O) : OutOk js js.length (mhTo js O js.length).taken (mhTo js O js.length).out := by
  have h1 := mhI_to hf hd hO.1 (sortsBy_le hO) js.length (Nat.le_refl _)
  have hl : O.length = js.length := by rw [hO.1.length_eq, idL_length]
  have hsub : (mhTo js O js.length).out.Sublist O := h1.sub.trans (List.take_sublist _ _)
  have hm : ∀ x ∈ (mhTo js O js.length).out, 0 ≤ x ∧ x < (js.length : Int) := fun x hx => idL_mem.1 (hO.1.mem_iff.1 (hsub.subset hx))
  have hnd : (mhTo js O js.length).out.Pairwise (fun x y => x ≠ y) := by
    have h2 : (idL js.length).Nodup := by unfold idL; exact List.Pairwise.map _ (fun a b hab e => hab (by omega)) List.nodup_range
    have h3 : O.Nodup := hO.1.nodup_iff.2 h2
    exact List.Pairwise.sublist hsub h3
  refine ⟨?_, fun k hk => ?_, fun k hk => ?_, fun k hk => ?_⟩
  · have h2 := h1.cnt
    rw [List.length_take, hl, Nat.min_self] at h2
    exact h2
  · have h2 := hm _ (List.getElem_mem hk)
    exact ⟨((mhTo js O js.length).out[k]).toNat, by rw [nth_eq hk]; omega, by omega⟩
  · have h2 := h1.pre k hk
    have h3 : sumT js ((mhTo js O js.length).out.take (k + 1)) = sumT js ((mhTo js O js.length).out.take k) + tmJ js (nth (mhTo js O js.length).out k).toNat := by
      rw [List.take_succ_eq_append_getElem hk, sumT_app, ← nth_eq hk, sumT_cons, sumT_nil]; omega
    have h4 := sumT_le hs ((mhTo js O js.length).out.take k) (fun x hx => hm x (List.mem_of_mem_take hx))
    have h5 := h1.cnt
    have h6 := h1.tk
    have h7 := hs.n24
    rw [List.length_take, hl, Nat.min_self] at h5
    have h8 : ((mhTo js O js.length).out.take k).length ≤ 24 := by rw [List.length_take]; omega
    exact ⟨h3, h2, h4.1, by omega⟩
  · rw [List.any_eq_false]
    intro x hx
    obtain ⟨i, hi, rfl⟩ := List.getElem_of_mem hx
    rw [List.length_take] at hi
    have h2 := List.pairwise_iff_getElem.1 hnd i k (by omega) hk (by omega)
    rw [List.getElem_take, nth_eq hk]
    simpa using h2
/-- What the calls of the law give, at drawn jobs that are all released at 0. -/
structure BjE (js : List Jb) (T : Nat) (kd l lo late : Int) (b ord : List Int) (v : Value) (w : World) : Prop where
  bo : ∀ W, Below w.heap.size w W → Calls Try.prog 8 #[v, .int .i64 kd] W fun e w' => (∃ g c, e = .returned (.tuple #[.slice (some ⟨g, 0, none⟩) T c, .int .i64 l, .bool true]) ∧ OwnI w' W.heap.size (.slice (some ⟨g, 0, none⟩) T c) b) ∧ Below W.heap.size W w'
  cb : ∀ vo W, Below w.heap.size w W → Ints W vo b → Calls Try.prog 9 #[v, vo, .int .i64 kd] W fun e w' => e = .returned (.tuple #[.int .i64 l, .bool true]) ∧ Below W.heap.size W w'
  co : ∀ vo W, Below w.heap.size w W → Ints W vo ord → Calls Try.prog 9 #[v, vo, .int .i64 kd] W fun e w' => e = .returned (.tuple #[.int .i64 lo, .bool true]) ∧ Below W.heap.size W w'
  br : ∀ W, Below w.heap.size w W → Calls Try.prog 10 #[v, .int .i64 kd] W fun e w' => (∃ g c, e = .returned (.tuple #[.slice (some ⟨g, 0, none⟩) T c, .int .i64 l, .bool true]) ∧ OwnI w' W.heap.size (.slice (some ⟨g, 0, none⟩) T c) b) ∧ Below W.heap.size W w'
  aj : ∀ W, Below w.heap.size w W → Calls Try.prog 12 #[v] W fun e w' => e = .returned (.bool true) ∧ Below W.heap.size W w'
  fl : ∀ W, Below w.heap.size w W → Calls Try.prog 13 #[v] W fun e w' => (∃ g m c, e = .returned (.tuple #[.slice (some ⟨g, 0, none⟩) m c, .int .i64 late, .bool true]) ∧ ∃ out, OwnI w' W.heap.size (.slice (some ⟨g, 0, none⟩) m c) out ∧ m = out.length ∧ OutOk js T late out) ∧ Below W.heap.size W w'
  b4 : ∀ W, Below w.heap.size w W → Calls Try.prog 8 #[v, .int .i64 4] W fun e w' => (∃ g c, e = .returned (.tuple #[.slice (some ⟨g, 0, none⟩) T c, .int .i64 late, .bool true])) ∧ Below W.heap.size W w'
  le : l ≤ lo
theorem bjE (js : List Jb) (T : Nat) (kd : Int) (ord : List Int) (v : Value) (w : World) (hd : JobsD w v T true js) (h1 : 1 ≤ T) (h6 : T ≤ 6) (hk : 0 ≤ kd ∧ kd ≤ 4) (ho : ord.Perm (idL T)) : ∃ l lo late b, BjE js T kd l lo late b ord v w := by
  obtain ⟨hj, rfl, hdr, hfr⟩ := hd
  have hok := drJ_ok hdr h1 (by omega)
  have hs := jobs_sm hok
  have hf := drJ_free hdr rfl (hfr rfl)
  have hdue := drJ_due hdr
  have hex : ∀ kind : Int, ∃ b l, firstL js.length (costF kind js) = some (b, l) := fun kind => by
    cases h : firstL js.length (costF kind js) with
    | none => have := firstL_spec.1 h (idL js.length) (List.Perm.refl _); cases this
    | some p => exact ⟨p.1, p.2, rfl⟩
  obtain ⟨b, l, hb⟩ := hex kd
  obtain ⟨b4, late, hb4⟩ := hex 4
  obtain ⟨p1, p2, p3⟩ := first_cost hb
  have hfew : ∀ O, SortsBy (dueK js) js.length O → (mhTo js O js.length).taken = late := fun O hO => few_eq hf hdue h1 hO hb4
  refine ⟨l, costE kd js ord, late, b, fun W hW => ?_, fun vo W hW hi => ?_, fun vo W hW hi => ?_, fun W hW => ?_, fun W hW => ?_, fun W hW => ?_, fun W hW => ?_, p3 ord ho⟩
  · refine (BestOrder_any v js kd W (hj.below hW (Nat.le_refl _)) hok hf (by omega) hk).mono ?_
    rintro e w' ⟨⟨b', l', g, c, k1, k2, k3⟩, k5⟩
    rw [hb] at k1; injection k1 with k1; injection k1 with k1 k4; subst k1 k4
    exact ⟨⟨g, c, k2, k3⟩, k5⟩
  · have h := CostOf_any v vo js b kd W (hj.below hW (Nat.le_refl _)) hi hok p1 hk
    rwa [p2] at h
  · exact CostOf_any v vo js ord kd W (hj.below hW (Nat.le_refl _)) hi hok ho hk
  · refine (BestReleased_any v js kd W (hj.below hW (Nat.le_refl _)) hok h6 hk).mono ?_
    rintro e w' ⟨⟨b', l', g, c, k1, k2, k3⟩, k5⟩
    rw [hb] at k1; injection k1 with k1; injection k1 with k1 k4; subst k1 k4
    exact ⟨⟨g, c, k2, k3⟩, k5⟩
  · have h := areJobs_any v js W (hj.below hW (Nat.le_refl _))
    rwa [hok] at h
  · refine (FewestLate_any v js W (hj.below hW (Nat.le_refl _)) hok hf hdue).mono ?_
    rintro e w' ⟨⟨O, g, c, k1, k2, k3⟩, k5⟩
    have h := outOk hs hf hdue k1
    rw [hfew O k1] at h k2
    exact ⟨⟨g, _, c, k2, _, k3, rfl, h⟩, k5⟩
  · refine (BestOrder_any v js 4 W (hj.below hW (Nat.le_refl _)) hok hf (by omega) (by omega)).mono ?_
    rintro e w' ⟨⟨b', l', g, c, k1, k2, k3⟩, k5⟩
    rw [hb4] at k1; injection k1 with k1; injection k1 with k1 k4; subst k1 k4
    exact ⟨⟨g, c, k2⟩, k5⟩
/-! The jobs that may be released later. -/
def mostP (js : List Jb) (ends : List Int) : Nat → Int
  | 0 => nth ends 0 - duJ js 0
  | i + 1 => max (mostP js ends i) (nth ends i - duJ js i)
def sumE (ends : List Int) : Nat → Int
  | 0 => 0
  | i + 1 => sumE ends i + nth ends i
theorem sumE_succ (ends : List Int) (n : Nat) : sumE ends (n + 1) = sumE ends n + nth ends n := rfl
theorem sumE_P (ends : List Int) : ∀ n, sumE ends n = sumP (fun i => nth ends i) (fun _ => true) n
  | 0 => rfl
  | n + 1 => by unfold sumE; rw [sumE_P ends n, sumP_succ, if_pos rfl]
theorem sumE_up {ends : List Int} : ∀ n k, k ≤ n → (∀ i, i < n → 0 ≤ nth ends i) → 0 ≤ sumE ends k ∧ sumE ends k ≤ sumE ends n
  | 0, k, hk, h => by
    obtain rfl : k = 0 := by omega
    exact ⟨Int.le_refl _, Int.le_refl _⟩
  | n + 1, k, hk, h => by
    have hn := h n (by omega)
    have h1 := sumE_up n n (Nat.le_refl _) (fun i hi => h i (by omega))
    by_cases e : k = n + 1
    · subst e; rw [sumE_succ]; omega
    · have h2 := sumE_up n k (by omega) (fun i hi => h i (by omega))
      rw [sumE_succ]; omega
/-- Pieces by due times. -/
structure Pie1 (js : List Jb) (T : Nat) (least : Int) (ends pieces : List Int) : Prop where
  le : ends.length = T
  lp : pieces.length = T
  at_ : ∀ i, i < T → rlJ js i + tmJ js i ≤ nth ends i ∧ 1 ≤ nth pieces i ∧ nth ends i - duJ js i ≤ least ∧ nth ends i ≤ 1000000000000
  mo : ∀ i, i ≤ T → -10000 ≤ mostP js ends i ∧ mostP js ends i ≤ least
/-- Pieces by what is left. -/
structure Pie0 (js : List Jb) (T : Nat) (whole : Int) (ends pieces : List Int) : Prop where
  le : ends.length = T
  lp : pieces.length = T
  at_ : ∀ i, i < T → rlJ js i + tmJ js i ≤ nth ends i ∧ 1 ≤ nth pieces i
  su : ∀ i, i ≤ T → 0 ≤ sumE ends i ∧ sumE ends i ≤ whole
structure SjE (js : List Jb) (T : Nat) (least som : Int) (ord endsO : List Int) (v : Value) (w : World) : Prop where
  br : ∀ W, Below w.heap.size w W → Calls Try.prog 10 #[v, .int .i64 2] W fun e w' => (∃ g c, e = .returned (.tuple #[.slice (some ⟨g, 0, none⟩) T c, .int .i64 least, .bool true])) ∧ Below W.heap.size W w'
  co : ∀ vo W, Below w.heap.size w W → Ints W vo ord → Calls Try.prog 9 #[v, vo, .int .i64 2] W fun e w' => e = .returned (.tuple #[.int .i64 som, .bool true]) ∧ Below W.heap.size W w'
  p1 : ∀ W, Below w.heap.size w W → Calls Try.prog 15 #[v, .int .i64 1] W fun e w' => (∃ gE gP, e = .returned (.tuple #[.slice (some ⟨gE, 0, none⟩) T T, .slice (some ⟨gP, 0, none⟩) T T, .bool true]) ∧ ∃ ends pieces, OwnI w' W.heap.size (.slice (some ⟨gE, 0, none⟩) T T) ends ∧ OwnI w' W.heap.size (.slice (some ⟨gP, 0, none⟩) T T) pieces ∧ Pie1 js T least ends pieces) ∧ Below W.heap.size W w'
  p0 : ∀ W, Below w.heap.size w W → Calls Try.prog 15 #[v, .int .i64 0] W fun e w' => (∃ gE gP, e = .returned (.tuple #[.slice (some ⟨gE, 0, none⟩) T T, .slice (some ⟨gP, 0, none⟩) T T, .bool true]) ∧ ∃ ends pieces, OwnI w' W.heap.size (.slice (some ⟨gE, 0, none⟩) T T) ends ∧ OwnI w' W.heap.size (.slice (some ⟨gP, 0, none⟩) T T) pieces ∧ Pie0 js T (sumE endsO T) ends pieces) ∧ Below W.heap.size W w'
  eo : ∀ vo W, Below w.heap.size w W → Ints W vo ord → Calls Try.prog 16 #[v, vo] W fun e w' => (∃ g, e = .returned (.tuple #[.slice (some ⟨g, 0, none⟩) T T, .bool true]) ∧ OwnI w' W.heap.size (.slice (some ⟨g, 0, none⟩) T T) endsO) ∧ Below W.heap.size W w'
  le : least ≤ som
  lb : -1000000 ≤ least ∧ least ≤ 1000000000000
  lo : endsO.length = T
  wo : ∀ i, i ≤ T → 0 ≤ sumE endsO i ∧ sumE endsO i ≤ 1000000000000
  nn : ∀ i, i < T → 0 ≤ nth endsO i ∧ nth endsO i ≤ 1000000
theorem sumE_bound {ends : List Int} {M : Int} : ∀ n, (∀ i, i < n → 0 ≤ nth ends i ∧ nth ends i ≤ M) → 0 ≤ sumE ends n ∧ sumE ends n ≤ M * (n : Int)
  | 0, _ => by unfold sumE; simp
  | n + 1, h => by
    have h1 := sumE_bound n (fun i hi => h i (by omega))
    have h2 := h n (by omega)
    unfold sumE
    have e : M * ((n + 1 : Nat) : Int) = M * (n : Int) + M := by rw [Int.natCast_add, Int.mul_add]; simp
    omega
theorem sjE (js : List Jb) (T : Nat) (ord : List Int) (v : Value) (w : World) (hd : JobsD w v T false js) (h1 : 1 ≤ T) (h6 : T ≤ 6) (ho : ord.Perm (idL T)) : ∃ least som endsO, SjE js T least som ord endsO v w := by
  obtain ⟨hj, rfl, hdr, _⟩ := hd
  have hok := drJ_ok hdr h1 (by omega)
  have hs := jobs_sm hok
  have hg : GoodJ js := ⟨fun i hi => (hs.time i hi).1, fun i hi => (hs.rel i hi).1⟩
  have hex : ∃ b l, firstL js.length (costF 2 js) = some (b, l) := by
    cases h : firstL js.length (costF 2 js) with
    | none => have := firstL_spec.1 h (idL js.length) (List.Perm.refl _); cases this
    | some p => exact ⟨p.1, p.2, rfl⟩
  obtain ⟨b, l, hb⟩ := hex
  obtain ⟨p1, p2, p3⟩ := first_cost hb
  have hlb : -1000000 ≤ l ∧ l ≤ 1000000000000 := by
    have h := costTo_bounds (kind := 2) hs (endsE_bounds hs p1) (js.length - 1) (by omega)
    rw [← p2]
    unfold costE
    omega
  have hbig : latR js js.length + totT js js.length ≤ 10000 := by
    have a1 : ∀ k, k ≤ js.length → latR js k ≤ 11 := fun k => by
      induction k with
      | zero => intro _; show (0 : Int) ≤ 11; decide
      | succ k ih => intro hk; have h2 := (drJ_at hdr (show k < js.length by omega)).2.1; have h3 := ih (by omega); unfold latR rlJ; omega
    have a2 : ∀ k, k ≤ js.length → totT js k ≤ 9 * (k : Int) := fun k => by
      induction k with
      | zero => intro _; show (0 : Int) ≤ _; simp
      | succ k ih => intro hk; have h2 := (drJ_at hdr (show k < js.length by omega)).1; have h3 := ih (by omega); rw [totT_succ]; unfold tmJ; omega
    have := a1 _ (Nat.le_refl _); have := a2 _ (Nat.le_refl _); omega
  have hpie : ∀ rule (t : Nat), (∀ i, i < js.length → nth (pieTo js rule t).left i = 0) → ∀ i, i < js.length → rlJ js i + tmJ js i ≤ nth (pieTo js rule t).ends i ∧ 1 ≤ nth (pieTo js rule t).pieces i := fun rule t hz i hi => by
    have h := (pieI_to hg rule t).run i hi (by rw [hz i hi]; have := hg.time i hi; omega)
    rw [hz i hi] at h
    exact ⟨by omega, h.2⟩
  have heb := endsE_bounds hs ho
  have hel : (endsE js ord).length = js.length := endsTo_len js ord js.length
  refine ⟨l, costE 2 js ord, endsE js ord, fun W hW => ?_, fun vo W hW hi => ?_, fun W hW => ?_, fun W hW => ?_, fun vo W hW hi => ?_, p3 ord ho, hlb, hel, fun i hi => ?_, heb⟩
  · refine (BestReleased_any v js 2 W (hj.below hW (Nat.le_refl _)) hok h6 (by omega)).mono ?_
    rintro e w' ⟨⟨b', l', g, c, k1, k2, k3⟩, k5⟩
    rw [hb] at k1; injection k1 with k1; injection k1 with k1 k4; subst k1 k4
    exact ⟨⟨g, c, k2⟩, k5⟩
  · exact CostOf_any v vo js ord 2 W (hj.below hW (Nat.le_refl _)) hi hok ho (by omega)
  · refine (PieceEnds_any v js 1 W (hj.below hW (Nat.le_refl _)) hok (by omega)).mono ?_
    rintro e w' ⟨h, k5⟩
    rcases h with ⟨k1, _⟩ | ⟨_, t, gE, gP, hz, k2, k3, k4⟩
    · omega
    · have hI := pieI_to hg 1 t
      have hd : ∀ i, i < js.length → nth (pieTo js 1 t).ends i - duJ js i ≤ l := fun i hi => by
        have h := edf_le (E := b) hg p1 hi (hz i hi)
        rwa [p2] at h
      refine ⟨⟨gE, gP, k2, _, _, k3, k4, hI.le, hI.lp, fun i hi => ?_, fun i hi => ?_⟩, k5⟩
      · have h2 := hpie 1 t hz i hi
        have h3 := hd i hi
        have h4 := (drJ_at hdr hi).2.2.1
        refine ⟨h2.1, h2.2, h3, ?_⟩
        have h5 : duJ js i ≤ 39 := h4.2
        have h6 : l ≤ 60000000000 := by
          have h := costTo_bounds (kind := 2) hs (endsE_bounds hs p1) (js.length - 1) (by omega)
          rw [← p2]
          unfold costE
          omega
        omega
      · have hlow : ∀ i, i < js.length → -10000 ≤ nth (pieTo js 1 t).ends i - duJ js i := fun i hi => by
          have h4 := (drJ_at hdr hi).2.2.1
          have h5 : duJ js i ≤ 39 := h4.2
          have h6 := (hI.ends i hi).1
          omega
        have key : ∀ i, i ≤ js.length → -10000 ≤ mostP js (pieTo js 1 t).ends i ∧ mostP js (pieTo js 1 t).ends i ≤ l := fun i => by
          induction i with
          | zero => intro _; exact ⟨hlow 0 (by omega), hd 0 (by omega)⟩
          | succ i ih => intro hi; have h7 := ih (by omega); have h8 := hlow i (by omega); have h9 := hd i (by omega); unfold mostP; omega
        exact key i hi
  · refine (PieceEnds_any v js 0 W (hj.below hW (Nat.le_refl _)) hok (by omega)).mono ?_
    rintro e w' ⟨h, k5⟩
    rcases h with ⟨k1, _⟩ | ⟨_, t, gE, gP, hz, k2, k3, k4⟩
    · omega
    · have hI := pieI_to hg 0 t
      refine ⟨⟨gE, gP, k2, _, _, k3, k4, hI.le, hI.lp, fun i hi => hpie 0 t hz i hi, fun i hi => ?_⟩, k5⟩
      have h2 := sumE_up js.length i hi (fun i hi => (hI.ends i hi).1)
      have h3 := srpt_le hg ho hz
      rw [← sumE_P, ← sumE_P] at h3
      exact ⟨h2.1, by omega⟩
  · exact EndsOf_any v vo js ord W (hj.below hW (Nat.le_refl _)) hi hok ho
  · have h2 := sumE_bound i (fun k hk => heb k (by omega))
    omega
end Go.Proofs.Ytcopjdhnmkfkfaa
