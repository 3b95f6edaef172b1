/- A block known whole: what its cells hold through stores, new blocks and contracts. Conditions: none. With texts that it needs. -/
import Derived.Test.YtckdfahbhagoaaaFlowsAll5
import Derived.Deep.OwnRows
import Derived.Deep.RegionHeld3
import Derived.Test.YtckdfahbhagoaaaFlowsAll1
import Derived.Test.YtckdfahbhagoaaaFlowsAll2
import Derived.Deep.Slices
import Derived.ChangeArms
namespace Go.Proofs.Ytckdfahbhagoaaa
open Go.RowKit
set_option linter.unusedVariables false
set_option linter.unusedSimpArgs false

theorem ix_inj {a b M j m : Nat} (hj : j < M) (hm : m < M) (h : a * M + j = b * M + m) : a = b ∧ j = m := by
  rcases Nat.lt_trichotomy a b with e | e | e
  · have := ix_lt e hj; omega
  · subst e; exact ⟨rfl, by omega⟩
  · have := ix_lt e hm; omega
def atF (ts : List Int) (M : Nat) (E : List Int) (k : Nat) : Nat → Int
  | 0 => 0
  | m + 1 => fC ts M E (k + 1) m
theorem fC_at (ts : List Int) (M : Nat) (E : List Int) (k m : Nat) : fC ts M E (k + 1) m = max (atF ts M E k m) (fC ts M E k m) + tF ts M (nth E k).toNat m := by
  cases m with
  | zero => rfl
  | succ m => rfl
/-- An order of distinct jobs. -/
structure OrdOkF (n : Nat) (E : List Int) : Prop where
  el : ∀ k, k < E.length → ∃ i : Nat, nth E k = i ∧ i < n
  ne : ∀ p q, p < q → q < E.length → nth E p ≠ nth E q
/-- Rows of ends and of free times: k jobs are done, and the next one on m machines. -/
structure FlM (ts : List Int) (M : Nat) (E : List Int) (T k m : Nat) (w : World) (gO gF : Nat) (outs frees : List Int) (wr : World) : Prop where
  o : OwnI wr w.heap.size (.slice (some ⟨gO, 0, none⟩) T T) outs
  f : OwnI wr w.heap.size (.slice (some ⟨gF, 0, none⟩) M M) frees
  ol : T = outs.length
  fl : M = frees.length
  fv : ∀ j, j < M → nth frees j = if j < m then fC ts M E (k + 1) j else fC ts M E k j
  ov : ∀ a, a < k → ∀ j, j < M → nth outs ((nth E a).toNat * M + j) = fC ts M E (a + 1) j
  ow : ∀ j, j < m → nth outs ((nth E k).toNat * M + j) = fC ts M E (k + 1) j
  ne : gO ≠ gF
  bel : Below w.heap.size w wr
section
variable {ts : List Int} {M : Nat} {E : List Int} {T k m : Nat} {w : World} {gO gF : Nat} {outs frees : List Int} {wr : World}
theorem FlM.below (h : FlM ts M E T k m w gO gF outs frees wr) {W : World} (hb : Below wr.heap.size wr W) : FlM ts M E T k m w gO gF outs frees W :=
  ⟨h.o.below hb (Nat.le_refl _), h.f.below hb (Nat.le_refl _), h.ol, h.fl, h.fv, h.ov, h.ow, h.ne, h.bel.trans (hb.mono h.bel.size)⟩
theorem FlM.next (h : FlM ts M E T k M w gO gF outs frees wr) : FlM ts M E T (k + 1) 0 w gO gF outs frees wr :=
  ⟨h.o, h.f, h.ol, h.fl, fun j hj => by rw [h.fv j hj, if_pos hj, if_neg (Nat.not_lt_zero _)], fun a ha j hj => by
    by_cases e : a = k
    · subst e; exact h.ow j hj
    · exact h.ov a (by omega) j hj, fun j hj => absurd hj (Nat.not_lt_zero _), h.ne, h.bel⟩
theorem FlM.put (h : FlM ts M E T k m w gO gF outs frees wr) {n : Nat} (hE : OrdOkF n E) (hT : T = n * M) (hk : k < E.length) (hm : m < M) {i : Nat} (hi : nth E k = i) {X : Int} (hX : X = fC ts M E (k + 1) m) :
    FlM ts M E T k (m + 1) w gO gF (outs.set (i * M + m) X) (frees.set m X) ((wr.setCell ⟨gF, m, none⟩ (.int .i64 X)).setCell ⟨gO, i * M + m, none⟩ (.int .i64 X)) := by
  obtain ⟨i', hi', hin⟩ := hE.el k hk
  obtain rfl : i = i' := by omega
  have hix : i * M + m < outs.length := by rw [← h.ol, hT]; exact ix_lt hin hm
  obtain ⟨_, _, s3, s4⟩ := h.f.store h.fl m (by rw [← h.fl]; exact hm) X
  have ho1 := h.o.kept s4 (.inr (by rw [ownBlock_slice]; intro e; injection e with e; exact h.ne e))
  obtain ⟨_, _, t3, t4⟩ := ho1.store h.ol (i * M + m) hix X
  have hf2 := s3.kept t4 (.inr (by rw [ownBlock_slice]; intro e; injection e with e; exact h.ne e.symm))
  have hset : ∀ (l : List Int) (a b : Nat) (v : Int), a < l.length → nth (l.set b v) a = if b = a then v else nth l a := fun l a b v ha => by
    rw [nth_eq (by rw [List.length_set]; exact ha), List.getElem_set]
    split
    · rfl
    · rw [nth_eq ha]
  refine ⟨t3, hf2, by rw [List.length_set]; exact h.ol, by rw [List.length_set]; exact h.fl, fun j hj => ?_, fun a ha j hj => ?_, fun j hj => ?_, h.ne, (h.bel.grown s4 h.bel.size (fun q e => by cases e; exact (h.f.lt gF rfl).1)).grown t4 (Nat.le_trans h.bel.size s4.size) (fun q e => by cases e; exact (h.o.lt gO rfl).1)⟩
  · rw [hset _ _ _ _ (by rw [← h.fl]; exact hj)]
    by_cases e : m = j
    · subst e; rw [if_pos rfl, if_pos (by omega), hX]
    · rw [if_neg e, h.fv j hj]
      by_cases e2 : j < m
      · rw [if_pos e2, if_pos (by omega)]
      · rw [if_neg e2, if_neg (by omega)]
  · obtain ⟨i2, hi2, hi2n⟩ := hE.el a (by omega)
    have hlt : (nth E a).toNat * M + j < outs.length := by rw [hi2, Int.toNat_natCast, ← h.ol, hT]; exact ix_lt hi2n hj
    rw [hset _ _ _ _ hlt, if_neg (fun e => ?_)]
    · exact h.ov a ha j hj
    · rw [hi2, Int.toNat_natCast] at e
      have e3 := (ix_inj hm hj e).1
      exact hE.ne a k ha hk (by rw [hi2, hi, e3])
  · rw [hi, Int.toNat_natCast]
    have hlt : i * M + j < outs.length := by rw [← h.ol, hT]; exact ix_lt hin (by omega)
    rw [hset _ _ _ _ hlt]
    by_cases e : m = j
    · subst e; rw [if_pos rfl, hX]
    · rw [if_neg (by omega)]
      have := h.ow j (by omega)
      rw [hi, Int.toNat_natCast] at this
      exact this
end
def FlO (ts : List Int) (M : Nat) (E : List Int) (T L gO gF : Nat) (w : World) (vk : Value) (wr : World) : Prop :=
  ∃ (k : Nat) (outs frees : List Int), vk = .int .i64 k ∧ k ≤ L ∧ Hid (FlM ts M E T k 0 w gO gF outs frees wr)
def FlN (ts : List Int) (M : Nat) (E : List Int) (T k gO gF : Nat) (w : World) (va vm : Value) (wr : World) : Prop :=
  ∃ (m : Nat) (outs frees : List Int), vm = .int .i64 m ∧ m ≤ M ∧ va = .int .i64 (atF ts M E k m) ∧ Hid (FlM ts M E T k m w gO gF outs frees wr)
theorem made1_eq (n : Nat) : madeCells #[Value.int .i64 0] n = ((List.replicate n (0 : Int)).map (Value.int .i64)).toArray := by
  apply Array.ext'
  exact (toList_madeCells_one _ _).trans (by simp)
theorem nth_rep0 {n i : Nat} : nth (List.replicate n (0 : Int)) i = 0 := by
  unfold nth
  rw [List.getD_eq_getElem?_getD, List.getElem?_replicate]
  split <;> rfl
theorem flStart (ts : List Int) (M : Nat) (E : List Int) (T : Nat) (w W1 : World) (hb : Below w.heap.size w W1) (hT : T ≤ 1000) (hM : M ≤ 8) :
    FlM ts M E T 0 0 w W1.heap.size (W1.heap.size + 1) (List.replicate T 0) (List.replicate M 0) ((W1.alloc (.cells (madeCells #[.int .i64 0] T) 2)).alloc (.cells (madeCells #[.int .i64 0] M) 2)) := by
  have hs := hb.size
  rw [made1_eq, made1_eq]
  have o4 := OwnI.lit W1 w.heap.size (List.replicate T 0) hs (by unfold maxLen; simp; omega)
  have o5 := OwnI.lit (W1.alloc (.cells ((List.replicate T (0 : Int)).map (Value.int .i64)).toArray 2)) w.heap.size (List.replicate M 0) (by simp; omega) (by unfold maxLen; simp; omega)
  rw [List.length_replicate] at o4 o5
  rw [show (W1.alloc (.cells ((List.replicate T (0 : Int)).map (Value.int .i64)).toArray 2)).heap.size = W1.heap.size + 1 by simp] at o5
  exact ⟨o4.alloc _, o5, by simp, by simp, fun j hj => by rw [nth_rep0, if_neg (Nat.not_lt_zero _)]; rfl, fun a ha => absurd ha (Nat.not_lt_zero _), fun j hj => absurd hj (Nat.not_lt_zero _), by omega, (hb.alloc hs _).alloc (hb.alloc hs _).size _⟩
/-- Ends of a flow, job by job. -/
def EndsF (ts : List Int) (M : Nat) (E : List Int) (outs : List Int) : Prop := ∀ k, k < E.length → ∀ m, m < M → nth outs ((nth E k).toNat * M + m) = fC ts M E (k + 1) m
set_option maxRecDepth 100000 in
set_option maxHeartbeats 2000000 in
theorem shFlow_any (b o T c M n bo oo L co : Nat) (ts E : List Int) (w : World) (hv : ShW w b o T c ts) (hok : ShopOk ts M n) (hE : ShW w bo oo L co E) (hord : OrdOkF n E) (hL : L ≤ 24) :
    Calls Try.prog 22 #[shV b o T c n M, .slice (some ⟨bo, oo, none⟩) L co] w fun e w' => (∃ gO, e = .returned (.tuple #[.slice (some ⟨gO, 0, none⟩) T T, .int .i64 (fL ts M E)]) ∧ ∃ outs, OwnI w' w.heap.size (.slice (some ⟨gO, 0, none⟩) T T) outs ∧ EndsF ts M E outs) ∧ Below w.heap.size w w' := by
  have HAT : Hid (∀ j m W, j < n → m < M → Below w.heap.size w W → Calls Try.prog 31 #[shV b o T c n M, .int .i64 j, .int .i64 m] W fun e w' => e = .returned (.int .i64 (tF ts M j m)) ∧ Below W.heap.size W w') := fun j m W hj hm hW => shAt_any b o T c M n j m ts W (hv.below hW) hok hj hm
  have hTM : T = n * M := by rw [hv.len, hok.len]
  have hbig := hok.big
  rw [← hTM] at hbig
  have hm8 := hok.m8
  have hm1 := hok.m1
  have hn24 := hok.n24
  have hTF := hok.tmF hord.el
  have HBD : Hid (∀ k, k ≤ L → ∀ m, m < M → 0 ≤ fC ts M E k m ∧ fC ts M E k m ≤ 10000 * ((k : Int) + m)) := fun k hk m hm => fC_bounds hTF k (by rw [← hE.len]; exact hk) m hm
  have HTM : Hid (∀ j m, j < n → m < M → 1 ≤ tF ts M j m ∧ tF ts M j m ≤ 10000) := fun j m hj hm => hok.at_ hj hm
  have HEC : Hid (∀ W, Below w.heap.size w W → ShW W bo oo L co E) := fun W hW => hE.below hW
  have HOR := Lib.hid hord
  have HLE : Hid (L = E.length) := hE.len
  have hLc := hE.cap
  have HT := Lib.hid hTM
  obtain ⟨W1, hW1⟩ : ∃ W, w.alloc (.cells #[.slice (some ⟨b, o, none⟩) T c, .int .i64 n, .int .i64 M] 43) = W := ⟨_, rfl⟩
  have HB1 : Hid (Below w.heap.size w W1) := by show Below _ _ _; rw [← hW1]; exact (Below.refl _ w).alloc (Nat.le_refl _) _
  have HX1 : Hid (BoxS W1 w.heap.size b o T c n M) := by show BoxS _ _ _ _ _ _ _ _; rw [← hW1]; exact BoxS.new w b o T c n M
  have hsz : W1.heap.size = w.heap.size + 1 := by rw [← hW1]; simp
  have HSZ := Lib.hid hsz
  have HW := Lib.hid hW1
  have hF0 := flStart ts M E T W1 W1 (Below.refl _ _) (by omega) hm8
  rw [hsz] at hF0
  have HF0 := Lib.hid hF0
  have x0 := HX1.out.c0
  have x1 := HX1.out.c1
  have x2 := HX1.out.c2
  have hmk1 := run_make_row' (P := Try.prog) 25 2 (.int .i64 0) 8 Try.underlying25 (by kernel_rfl) rfl .i64 .i64 T (by omega) (by omega)
  have hmk2 := run_make_row' (P := Try.prog) 25 2 (.int .i64 0) 8 Try.underlying25 (by kernel_rfl) rfl .i64 .i64 M (by omega) (by omega)
  clear hv hok hE hord hTM hTF hsz hF0
  rw [← hW1] at HF0
  obtain ⟨gO, hgO⟩ : ∃ g, w.heap.size + 1 = g := ⟨_, rfl⟩
  obtain ⟨gF, hgF⟩ : ∃ g, gO + 1 = g := ⟨_, rfl⟩
  rw [hgO, hgF] at HF0
  obtain ⟨W2, hW2⟩ : ∃ W, ((w.alloc (.cells #[.slice (some ⟨b, o, none⟩) T c, .int .i64 n, .int .i64 M] 43)).alloc (.cells (madeCells #[.int .i64 0] T) 2)).alloc (.cells (madeCells #[.int .i64 0] M) 2) = W := ⟨_, rfl⟩
  rw [hW2] at HF0
  rw [hW1] at HF0
  have HGO := Lib.hid hgO
  have HGF := Lib.hid hgF
  have HW2 := Lib.hid hW2
  clear hgO hgF hW2 hW1
  unfold shV
  go_enter Try.func22, Try.ntmps22
  go_wp2_with fail
  rw [HW2.out]
  simp only [HGO.out, HGF.out]
  have HR0 : Hid (FlO ts M E T L gO gF W1 (.int .i64 0) W2) := ⟨0, _, _, rfl, Nat.zero_le _, HF0.out⟩
  clear HF0 hmk1 hmk2 x0 x1 x2 HW2
  go_loopw [21] (fun vk wr => FlO ts M E T L gO gF W1 vk wr) (fun vk _ => L - (intOf vk).toNat)
  case atStart => exact HR0.out
  case round =>
    obtain ⟨k, outs0, frees0, rfl, hkL, HM⟩ := hrel
    clear HR0
    have HBw : Hid (Below w.heap.size w wr) := HB1.out.trans (HM.out.bel.mono HB1.out.size)
    have hX := HX1.out.below HM.out.bel (by rw [HSZ.out]; omega)
    have x2 := hX.c2
    by_cases hk2 : k < L
    · have k0 : (0 : Int) ≤ (k : Int) := by omega
      have k1 : (k : Int) < (L : Int) := by omega
      have hkE : k < E.length := by rw [← HLE.out]; exact hk2
      obtain ⟨i, hi, hin⟩ := HOR.out.el k hkE
      have ce := (HEC.out wr HBw.out).cell k hk2
      rw [hi] at ce
      have HI := Lib.hid hi
      have HI0 : Hid (FlN ts M E T k gO gF W1 (.int .i64 0) (.int .i64 0) wr) := ⟨0, _, _, rfl, Nat.zero_le _, rfl, HM.out⟩
      clear hi hX HM
      go_wp2_with fail
      clear x2
      go_loopw [10, 27] (fun va vm wr => FlN ts M E T k gO gF W1 va vm wr) (fun _ vm _ => M - (intOf vm).toNat)
      case atStart => exact HI0.out
      case round =>
        obtain ⟨m, outs, frees, rfl, hmM, rfl, HN⟩ := hrel
        clear HI0 HBw
        have HBw : Hid (Below w.heap.size w wr) := HB1.out.trans (HN.out.bel.mono HB1.out.size)
        have hX := HX1.out.below HN.out.bel (by rw [HSZ.out]; omega)
        have x0 := hX.c0
        have x1 := hX.c1
        have x2 := hX.c2
        by_cases hm2 : m < M
        · have m0 : (0 : Int) ≤ (m : Int) := by omega
          have m1 : (m : Int) < (M : Int) := by omega
          have hat := fC_at ts M E k m
          rw [HI.out, Int.toNat_natCast] at hat
          have hF := HBD.out k hkL m hm2
          have hXb := HBD.out (k + 1) (by omega) m hm2
          have htm := HTM.out i m hin hm2
          have hix := ix_lt hin hm2
          rw [← HT.out] at hix
          have cf := HN.out.f.at_ HN.out.fl m (by rw [← HN.out.fl]; exact hm2)
          rw [HN.out.fv m hm2, if_neg (Nat.lt_irrefl _)] at cf
          have hp : ((i : Int) * (M : Int)) = ((i * M : Nat) : Int) := (Int.natCast_mul i M).symm
          obtain ⟨p, hpe⟩ : ∃ p, i * M = p := ⟨_, rfl⟩
          obtain ⟨q, hq⟩ : ∃ q, p + m = q := ⟨_, rfl⟩
          have HQ : Hid (i * M + m = q) := by show _ = _; rw [hpe, hq]
          rw [hpe] at hp hix
          rw [hq] at hix
          have w1 : IntKind.i64.wrap ((i : Int) * (M : Int)) = (p : Int) := by rw [hp]; exact IntWalk.i64_in _ (by omega)
          have w2 : IntKind.i64.wrap ((p : Int) + (m : Int)) = (q : Int) := by rw [← Int.natCast_add, hq]; exact IntWalk.i64_in _ (by omega)
          have q0 : (0 : Int) ≤ (q : Int) := by omega
          have q1 : (q : Int) < (T : Int) := by omega
          have HPUT : Hid (∀ W, FlM ts M E T k m W1 gO gF outs frees W → FlN ts M E T k gO gF W1 (.int .i64 (fC ts M E (k + 1) m)) (.int .i64 ((m + 1 : Nat) : Int)) ((W.setCell ⟨gF, m, none⟩ (.int .i64 (fC ts M E (k + 1) m))).setCell ⟨gO, q, none⟩ (.int .i64 (fC ts M E (k + 1) m)))) := fun W hW => by
            have h := hW.put HOR.out HT.out hkE hm2 HI.out rfl
            rw [HQ.out] at h
            exact ⟨m + 1, _, _, rfl, by omega, rfl, h⟩
          have HC3 : Hid (∀ W, FlM ts M E T k m W1 gO gF outs frees W → W.cell? ⟨gF, m, none⟩ = some (.int .i64 (fC ts M E k m)) ∧ W.frozen? ⟨gF, m, none⟩ = false ∧ (W.frozen? ⟨gO, q, none⟩ = false ∧ ∃ u, W.cell? ⟨gO, q, none⟩ = some u) ∧ W.cell? ⟨w.heap.size, 2, none⟩ = some (.int .i64 M)) := fun W hW => by
            have e1 := hW.f.at_ hW.fl m (by rw [← hW.fl]; exact hm2)
            rw [hW.fv m hm2, if_neg (Nat.lt_irrefl _)] at e1
            have e2 := hW.o.store hW.ol q (by rw [← hW.ol]; omega) 0
            exact ⟨e1, (hW.f.store hW.fl m (by rw [← hW.fl]; exact hm2) 0).2.1, ⟨e2.2.1, _, e2.1⟩, (HX1.out.below hW.bel (by rw [HSZ.out]; omega)).c2⟩
          have hnf : ¬ w.heap.size = gF := by have h1 := HGO.out; have h2 := HGF.out; omega
          have hno : ¬ gF = gO := by have h2 := HGF.out; omega
          have hno2 : ¬ gO = gF := by have h2 := HGF.out; omega
          have HA : Hid (∀ q, Calls Try.prog 31 #[shV b o T c n M, .int .i64 i, .int .i64 m] (wr.drewN q) fun e w' => e = .returned (.int .i64 (tF ts M i m)) ∧ FlM ts M E T k m W1 gO gF outs frees w') := fun q => by
            have hq := below_drewN q (Below.refl wr.heap.size wr)
            refine (HAT.out i m (wr.drewN q) hin hm2 (HBw.out.trans (hq.mono HBw.out.size))).mono ?_
            rintro e w' ⟨h1, h2⟩
            exact ⟨h1, HN.out.below (hq.trans h2)⟩
          have HSA : Hid (∀ W, FlM ts M E T k m W1 gO gF outs frees W → W.cell? ⟨gF, m, none⟩ = some (.int .i64 (fC ts M E k m)) ∧ W.cell? ⟨w.heap.size, 0, none⟩ = some (.slice (some ⟨b, o, none⟩) T c) ∧ W.cell? ⟨w.heap.size, 1, none⟩ = some (.int .i64 n) ∧ W.cell? ⟨w.heap.size, 2, none⟩ = some (.int .i64 M)) := fun W hW => by
            have hX2 := HX1.out.below hW.bel (by rw [HSZ.out]; omega)
            exact ⟨(HC3.out W hW).1, hX2.c0, hX2.c1, hX2.c2⟩
          obtain ⟨A0, hA0⟩ : ∃ x, atF ts M E k m = x := ⟨_, rfl⟩
          obtain ⟨F0, hF0⟩ : ∃ x, fC ts M E k m = x := ⟨_, rfl⟩
          obtain ⟨X, hX0⟩ : ∃ x, fC ts M E (k + 1) m = x := ⟨_, rfl⟩
          obtain ⟨t, ht⟩ : ∃ x, tF ts M i m = x := ⟨_, rfl⟩
          rw [hA0, hF0, hX0, ht] at hat
          rw [hF0] at hF cf HC3 HSA
          rw [hX0] at hXb HPUT
          rw [ht] at htm HA
          rw [hA0]
          unfold shV at HA
          clear hX hp hpe hq hA0 hF0 hX0 ht hix
          by_cases hmx : A0 < F0
          · obtain rfl : X = F0 + t := by omega
            have w3 : IntKind.i64.wrap (F0 + t) = F0 + t := IntWalk.i64_in _ (by omega)
            clear hat HBD HTM HEC HAT
            go_wp2_with fail
            go_region_held3 (fun w' => w'.cell? ⟨gF, m, none⟩ = some (.int .i64 F0) ∧ w'.cell? ⟨w.heap.size, 0, none⟩ = some (.slice (some ⟨b, o, none⟩) T c) ∧ w'.cell? ⟨w.heap.size, 1, none⟩ = some (.int .i64 n) ∧ w'.cell? ⟨w.heap.size, 2, none⟩ = some (.int .i64 M)) (first | go_keep | exact HSA.out _ H3.out | exact ⟨hx0, hx1⟩)
              (first | (go_at_call 31; refine (HA.out _).mono ?_; rintro e W3 ⟨rfl, hw3⟩; have H3 := Lib.hid hw3; obtain ⟨hcf, hff, ⟨hfo, u0, hcu⟩, hx2⟩ := HC3.out W3 H3.out; have hx0 := (HSA.out W3 H3.out).2.1; have hx1 := (HSA.out W3 H3.out).2.2.1; clear hw3))
            all_goals
              have HR : Hid (FlN ts M E T k gO gF W1 (.int .i64 (F0 + t)) (.int .i64 ((m + 1 : Nat) : Int)) ((W3.setCell ⟨gF, m, none⟩ (.int .i64 (F0 + t))).setCell ⟨gO, q, none⟩ (.int .i64 (F0 + t)))) := HPUT.out W3 H3.out
              clear H3
              go_wp2
              go_roundw
              case rel =>
                obtain ⟨m', o', f', e1, e2, e3, e4⟩ := HR.out
                exact ⟨m', o', f', by rw [← e1]; go_num, e2, e3, e4⟩
              case measure => simp [intOf]; omega
          · obtain rfl : X = A0 + t := by omega
            have w3 : IntKind.i64.wrap (A0 + t) = A0 + t := IntWalk.i64_in _ (by omega)
            clear hat HBD HTM HEC HAT
            go_wp2_with fail
            go_region_held3 (fun w' => w'.cell? ⟨gF, m, none⟩ = some (.int .i64 F0) ∧ w'.cell? ⟨w.heap.size, 0, none⟩ = some (.slice (some ⟨b, o, none⟩) T c) ∧ w'.cell? ⟨w.heap.size, 1, none⟩ = some (.int .i64 n) ∧ w'.cell? ⟨w.heap.size, 2, none⟩ = some (.int .i64 M)) (first | go_keep | exact HSA.out _ H3.out | exact ⟨hx0, hx1⟩)
              (first | (go_at_call 31; refine (HA.out _).mono ?_; rintro e W3 ⟨rfl, hw3⟩; have H3 := Lib.hid hw3; obtain ⟨hcf, hff, ⟨hfo, u0, hcu⟩, hx2⟩ := HC3.out W3 H3.out; have hx0 := (HSA.out W3 H3.out).2.1; have hx1 := (HSA.out W3 H3.out).2.2.1; clear hw3))
            all_goals
              have HR : Hid (FlN ts M E T k gO gF W1 (.int .i64 (A0 + t)) (.int .i64 ((m + 1 : Nat) : Int)) ((W3.setCell ⟨gF, m, none⟩ (.int .i64 (A0 + t))).setCell ⟨gO, q, none⟩ (.int .i64 (A0 + t)))) := HPUT.out W3 H3.out
              clear H3
              go_wp2
              go_roundw
              case rel =>
                obtain ⟨m', o', f', e1, e2, e3, e4⟩ := HR.out
                exact ⟨m', o', f', by rw [← e1]; go_num, e2, by first | exact e3 | (rw [show IntKind.i64.wrap (A0 + t) = A0 + t from IntWalk.i64_in _ (by omega)]; exact e3) | (rw [show (if A0 < F0 then F0 else A0) = A0 from if_neg (by omega)]; exact e3) | (rw [show (if A0 < F0 then F0 else A0) = A0 from if_neg (by omega), show IntKind.i64.wrap (A0 + t) = A0 + t from IntWalk.i64_in _ (by omega)]; exact e3), e4⟩
              case measure => simp [intOf]; omega
        · obtain rfl : M = m := by omega
          have HO : Hid (FlO ts M E T L gO gF W1 (.int .i64 ((k + 1 : Nat) : Int)) wr) := ⟨k + 1, _, _, rfl, by omega, HN.out.next⟩
          clear hX HN
          go_wp2
          go_roundw
          case rel =>
            obtain ⟨k', o', f', e1, e2, e3⟩ := HO.out
            exact ⟨k', o', f', by rw [← e1]; go_num, e2, e3⟩
          case measure => simp [intOf]; omega
    · obtain rfl : L = k := by omega
      have M0 : (0 : Int) ≤ ((M : Int) - 1) := by omega
      obtain ⟨M1, hM1⟩ : ∃ M1, M - 1 = M1 := ⟨_, rfl⟩
      have w4 : IntKind.i64.wrap ((M : Int) - 1) = (M1 : Int) := by rw [show ((M : Int) - 1) = (M1 : Int) by omega]; exact IntWalk.i64_in _ (by omega)
      have m3 : (0 : Int) ≤ (M1 : Int) := by omega
      have m4 : (M1 : Int) < (M : Int) := by omega
      have cf := HM.out.f.at_ HM.out.fl M1 (by rw [← HM.out.fl]; omega)
      rw [HM.out.fv M1 (by omega), if_neg (Nat.not_lt_zero _)] at cf
      have HFL : Hid (fC ts M E L M1 = fL ts M E) := by show _ = _; unfold fL; rw [← HLE.out, hM1]
      have HF : Hid (OwnI wr w.heap.size (.slice (some ⟨gO, 0, none⟩) T T) outs0 ∧ EndsF ts M E outs0) := ⟨HM.out.o.mono (by rw [HSZ.out]; omega), fun k hk m hm => HM.out.ov k (by rw [HLE.out]; exact hk) m hm⟩
      rw [HFL.out] at cf
      clear HM hM1 hX
      go_wp2
      go_quiet (fail)
      go_wp2
      go_ret2
      exact ⟨⟨gO, rfl, outs0, HF.out.1.drewN _, HF.out.2⟩, below_drewN _ HBw.out⟩
end Go.Proofs.Ytckdfahbhagoaaa

namespace Go.Proofs.Ytckdfahbhagoaaa
open Go.RowKit
set_option linter.unusedVariables false
set_option linter.unusedSimpArgs false

theorem info_bool : (Try.prog.info? 4).map (fun i => (i.zero, i.size, i.bytes)) = some (some (.bool false), 1, 1) := by kernel_rfl

/-- v is a slice of the call's own (in a block from B on), and it holds the bools xs. -/
def OwnB (w : World) (B : Nat) (v : Value) (xs : List Bool) : Prop := w.ownsRow B 4 1 v xs.length (xs.map Value.bool)

theorem OwnB.store {w : World} {N g n c : Nat} {xs : List Bool} (h : OwnB w N (.slice (some ⟨g, 0, none⟩) n c) xs) (hn : n = xs.length) (j : Nat) (hj : j < xs.length) (y : Bool) :
    w.cell? ⟨g, j, none⟩ = some (.bool xs[j]) ∧ w.frozen? ⟨g, j, none⟩ = false ∧ OwnB (w.setCell ⟨g, j, none⟩ (.bool y)) N (.slice (some ⟨g, 0, none⟩) n c) (xs.set j y) ∧ w.grownBy (w.setCell ⟨g, j, none⟩ (.bool y)) (some g) := by
  subst hn
  have h' : w.ownsRow N 4 1 (.slice (some ⟨g, 0, none⟩) xs.length c) xs.length (xs.map Value.bool) := h
  obtain ⟨h1, h2⟩ := h'.stored j (.bool y)
  refine ⟨?_, h'.frozenAt j, ?_, h2⟩
  · rw [h'.cellAt j (by omega), List.getElem?_map, List.getElem?_eq_getElem hj]; rfl
  · unfold OwnB
    rw [List.length_set, List.map_set]; exact h1
theorem OwnB.alloc {w : World} {B : Nat} {v : Value} {xs : List Bool} (h : OwnB w B v xs) (o : Obj) : OwnB (w.alloc o) B v xs := World.ownsRow.alloc h o
theorem OwnB.kept {w w' : World} {B : Nat} {v : Value} {xs : List Bool} {row : Option Nat} (h : OwnB w B v xs) (hg : w.grownBy w' row) (hne : v.ownBlock = none ∨ v.ownBlock ≠ row) : OwnB w' B v xs := World.ownsRow.kept h hg hne
theorem OwnB.lt {w : World} {B : Nat} {v : Value} {xs : List Bool} (h : OwnB w B v xs) : ∀ k, v.ownBlock = some k → B ≤ k ∧ k < w.heap.size := World.ownsRow.lt h
theorem OwnB.below {w w' : World} {B N : Nat} {v : Value} {xs : List Bool} (h : OwnB w B v xs) (hb : Below N w w') (hN : w.heap.size ≤ N) : OwnB w' B v xs := by
  refine h.kept (row := none) ⟨hb.os, hb.tape, hb.output, hb.size, fun k hk _ => hb.block k (by omega)⟩ ?_
  cases v.ownBlock <;> simp
theorem OwnB.drewN {w : World} {B : Nat} {v : Value} {xs : List Bool} (h : OwnB w B v xs) (q : Nat) : OwnB (w.drewN q) B v xs := h.below (below_drewN q (Below.refl w.heap.size w)) (Nat.le_refl _)

abbrev Bools (w : World) (v : Value) (xs : List Bool) : Prop := Sl Value.bool w v xs
theorem OwnB.bools {w : World} {base : Nat} {v : Value} {xs : List Bool} (h : OwnB w base v xs) : Bools w v xs := by
  have h' : w.ownsRow base 4 1 v xs.length (xs.map Value.bool) := h
  rcases h'.2 with ⟨rfl, h0⟩ | ⟨g, cap, cur, rfl, hg, hh, hc, hm, hcs, ht⟩
  · exact ⟨by omega, none, 0, by rw [h0], by omega, fun i hi => by omega⟩
  · refine ⟨by omega, _, cap, rfl, by omega, fun i hi => ⟨g, 0, rfl, (Array.getElem?_eq_some_iff.1 hh).1, ?_⟩⟩
    have := h'.cellAt (g := g) (cap := cap) i (by omega)
    rw [Nat.zero_add, this]
    simp [hi]

/-- What make([]bool, n) leaves. -/
theorem OwnB.made {w : World} {base g : Nat} {n : Nat} (h : w.ownsRow base 4 1 (.slice (some ⟨g, 0, none⟩) n n) n (madeCells (Value.bool false).cells (n * 1)).toList) : OwnB w base (.slice (some ⟨g, 0, none⟩) n n) (List.replicate n false) := by
  have e : (madeCells (Value.bool false).cells (n * 1)).toList = (List.replicate n false).map Value.bool := by
    rw [Nat.mul_one]; exact (toList_madeCells_one _ _).trans (by simp)
  rw [e] at h
  unfold OwnB
  rwa [List.length_replicate]

def isAllB (ys : List Int) : Bool := (List.range ys.length).all fun i => win (nth ys i) 0 ((ys.length : Int) - 1) && !((ys.take i).any (· == nth ys i))
/-- What has been seen of the numbers from 0 on. -/
def seenAt (ys : List Int) (k : Nat) : List Bool := (List.range ys.length).map fun (v : Nat) => (ys.take k).any (· == (v : Int))
theorem seenAt_length (ys : List Int) (k : Nat) : (seenAt ys k).length = ys.length := by simp [seenAt]
theorem seenAt_get (ys : List Int) (k i : Nat) (h : i < (seenAt ys k).length) : (seenAt ys k)[i] = (ys.take k).any (· == (i : Int)) := by simp [seenAt]
theorem seenAt_zero (ys : List Int) : seenAt ys 0 = List.replicate ys.length false := by
  apply List.ext_getElem
  · simp [seenAt]
  · intro i h1 h2; simp [seenAt]
theorem seenAt_set (ys : List Int) (k p : Nat) (hk : k < ys.length) (hp : nth ys k = p) : (seenAt ys k).set p true = seenAt ys (k + 1) := by
  apply List.ext_getElem
  · simp [seenAt]
  · intro i h1 h2
    rw [List.getElem_set, seenAt_get _ _ _ h2, List.take_succ_eq_append_getElem hk, List.any_append]
    rw [nth_eq hk] at hp
    split
    · rename_i e; subst e; simp [hp]
    · rename_i e
      rw [seenAt_get]
      have : ((p : Int) == (i : Int)) = false := by simp; omega
      simp [hp, this]

set_option maxHeartbeats 1000000 in
theorem isAll_any (v : Value) (ys : List Int) (w : World) (hv : Ints w v ys) (hl : ys.length ≤ 1048576) :
    Calls Try.prog 49 #[v] w fun e w' => e = .returned (.bool (isAllB ys)) ∧ Below w.heap.size w w' := by
  obtain ⟨hm, a, c, rfl, hcap, hc⟩ := hv
  obtain ⟨i0, hi, hz0, hz1, hz2⟩ := info_parts info_bool
  go_enter Try.func49, Try.ntmps49
  go_wp2_with (at_make; refine wpList_make_full _ rfl _ _ 75 rfl w.heap.size 4 i0 (.bool false) 1 Try.underlying75 hi hz0 hz1 _ _ _ _ ys.length rfl rfl rfl rfl (by rw [hz2]; omega) (by unfold maxLen at *; omega) (Nat.le_refl _) ?_; intro w1 hown1 hgrow1)
  have hb1 : Below w.heap.size w w1 := (Below.refl _ _).grown hgrow1 (Nat.le_refl _) (fun k e => by cases e)
  have ho1 := OwnB.made hown1
  rw [← seenAt_zero] at ho1
  clear hown1 hgrow1 hi hz0 hz1 hz2
  have Ho1 := Lib.hid ho1
  clear ho1
  unfold maxLen at hm
  go_wp2
  go_loopw [5, 11] (fun _ i wr => ∃ k : Nat, k ≤ ys.length ∧ i = .int .i64 k ∧ Below w.heap.size w wr ∧ OwnB wr w.heap.size (.slice (some ⟨w.heap.size, 0, none⟩) ys.length ys.length) (seenAt ys k) ∧
      ∀ i, i < k → win (nth ys i) 0 ((ys.length : Int) - 1) = true ∧ (ys.take i).any (· == nth ys i) = false) (fun _ i _ => ys.length - (intOf i).toNat)
  case atStart => exact ⟨0, Nat.zero_le _, rfl, hb1, Ho1.out, fun i hi => by omega⟩
  case round =>
    obtain ⟨k, hk, rfl, hb, ho, hr⟩ := hrel
    have Hr := Lib.hid hr
    clear hr hb1
    by_cases hlt : k < ys.length
    · obtain ⟨b, o, rfl, hbs, hc1⟩ := hc k hlt
      have hck : wr.cell? ⟨b, o + k, none⟩ = some (.int .i64 (nth ys k)) := by rw [nth_eq hlt]; exact (hb.cell (p := ⟨b, o + k, none⟩) hbs).trans hc1
      obtain ⟨p, hp⟩ : ∃ p, nth ys k = p := ⟨_, rfl⟩
      rw [hp] at hck
      have Hp := Lib.hid hp
      clear hc hc1 hp
      have bad : ∀ (h : (win (nth ys k) 0 ((ys.length : Int) - 1) && !((ys.take k).any (· == nth ys k))) = false), isAllB ys = false := fun h => by
        unfold isAllB; rw [List.all_eq_false]; exact ⟨k, by simpa using hlt, by rw [h]; simp⟩
      have Bad := Lib.hid bad
      clear bad
      cases hw : win p 0 ((ys.length : Int) - 1)
      · clear ho
        go_wp2_with (go_at_call 48; refine (within_any _ _ _ _).mono ?_; rintro e w' ⟨rfl, rfl⟩)
        go_ret
        exact ⟨ret_bool (Bad.out (by rw [Hp.out, hw]; rfl)).symm, hb⟩
      · obtain ⟨hp1, hp2⟩ := win_true.1 hw
        obtain ⟨q, rfl⟩ : ∃ q : Nat, p = q := ⟨p.toNat, by omega⟩
        have hql : q < ys.length := by omega
        obtain ⟨s1, s2, s3, s4⟩ := ho.store (seenAt_length _ _).symm q (by rw [seenAt_length]; exact hql) true
        rw [seenAt_get] at s1
        rw [seenAt_set ys k q hlt Hp.out] at s3
        have hb2 := hb.grown s4 hb.size (fun j e => by cases e; exact Nat.le_refl _)
        have S3 := Lib.hid s3
        have HB2 := Lib.hid hb2
        obtain ⟨sn, hsn⟩ : ∃ sn, (ys.take k).any (· == (q : Int)) = sn := ⟨_, rfl⟩
        rw [hsn] at s1
        have Hsn := Lib.hid hsn
        clear ho s3 s4 hb2 hsn
        cases sn
        · go_wp2_with (go_at_call 48; refine (within_any _ _ _ _).mono ?_; rintro e w' ⟨rfl, rfl⟩)
          go_roundw
          case rel =>
            refine ⟨k + 1, by omega, by go_num, HB2.out, S3.out, fun i hi => ?_⟩
            rcases Nat.lt_succ_iff_lt_or_eq.1 hi with h | rfl
            · exact Hr.out i h
            · rw [Hp.out]; exact ⟨hw, Hsn.out⟩
          case measure => simp [intOf]; omega
        · go_wp2_with (go_at_call 48; refine (within_any _ _ _ _).mono ?_; rintro e w' ⟨rfl, rfl⟩)
          go_ret
          exact ⟨ret_bool (Bad.out (by rw [Hp.out, Hsn.out]; simp)).symm, hb⟩
    · clear hc ho
      go_wp2
      go_ret
      refine ⟨ret_bool ?_, hb⟩
      symm
      unfold isAllB
      rw [List.all_eq_true]
      intro i hi
      have := Hr.out i (by have := List.mem_range.1 hi; omega)
      rw [this.1, this.2]; rfl
end Go.Proofs.Ytckdfahbhagoaaa

namespace Go.Proofs.Ytckdfahbhagoaaa
open Go.RowKit Go.BigFrame
set_option linter.unusedVariables false
set_option linter.unusedSimpArgs false
attribute [local go_sem] Oper.semAt_some

/-- A list that has all numbers from 0 to n - 1, each once. -/
def orders (n : Int) (xs : List Int) : Bool := decide ((xs.length : Int) = n) && isAllB xs
/-- The first k numbers are different ones from 0 to n - 1. -/
def ordPre (n : Int) (xs : List Int) (k : Nat) : Prop := ∀ i, i < k → win (nth xs i) 0 (n - 1) = true ∧ (xs.take i).any (· == nth xs i) = false
theorem orders_yes {n : Int} {xs : List Int} (hl : (xs.length : Int) = n) (h : ordPre n xs xs.length) : orders n xs = true := by
  unfold orders isAllB
  rw [hl, decide_eq_true rfl, Bool.true_and, List.all_eq_true]
  intro i hi
  obtain ⟨h1, h2⟩ := h i (List.mem_range.1 hi)
  rw [h1, h2]; rfl
theorem orders_no {n : Int} {xs : List Int} {k : Nat} (hk : k < xs.length) (h : win (nth xs k) 0 (n - 1) = false ∨ (xs.take k).any (· == nth xs k) = true) : orders n xs = false := by
  unfold orders isAllB
  by_cases hl : (xs.length : Int) = n
  · rw [hl, decide_eq_true rfl, Bool.true_and, List.all_eq_false]
    refine ⟨k, List.mem_range.2 hk, ?_⟩
    rcases h with h | h <;> rw [h] <;> simp
  · rw [decide_eq_false hl, Bool.false_and]
theorem orders_pre {n : Int} {xs : List Int} (h : orders n xs = true) : (xs.length : Int) = n ∧ ordPre n xs xs.length := by
  unfold orders isAllB at h
  rw [Bool.and_eq_true, decide_eq_true_eq, List.all_eq_true] at h
  refine ⟨h.1, fun i hi => ?_⟩
  have := h.2 i (List.mem_range.2 hi)
  rw [h.1, Bool.and_eq_true] at this
  exact ⟨this.1, by simpa using this.2⟩

theorem isOrder_any (n : Int) (v : Value) (xs : List Int) (w : World) (hv : Ints w v xs) (hl : xs.length ≤ 1048576) :
    Calls Try.prog 37 #[v, .int .i64 n] w fun e w' => e = .returned (.bool (win n 1 24 && orders n xs)) ∧ Below w.heap.size w w' := by
  have hall := isAll_any v xs w hv hl
  have HALL := Lib.hid hall
  obtain ⟨_, a, c, rfl, _, _⟩ := hv
  clear hall
  cases hw : win n 1 24
  · go_enter Try.func37, Try.ntmps37
    go_wp2_with (first | (go_at_call 48; refine (within_any _ _ _ _).mono ?_; rintro e w' ⟨rfl, rfl⟩))
    go_ret
    exact ⟨rfl, Below.refl _ _⟩
  · by_cases hne : (xs.length : Int) = n
    · have HE := Lib.hid hne
      have hd : ((xs.length : Int) != n) = false := by simpa using hne
      clear hne
      go_enter Try.func37, Try.ntmps37
      go_wp2_with (first | (go_at_call 48; refine (within_any _ _ _ _).mono ?_; rintro e w' ⟨rfl, rfl⟩) | (go_at_call 49; refine HALL.out.mono ?_; rintro e w' ⟨rfl, hb⟩))
      go_ret
      exact ⟨ret_bool (by unfold orders; rw [HE.out]; simp), hb⟩
    · have HE := Lib.hid hne
      have hd : ((xs.length : Int) != n) = true := by simpa using hne
      clear hne
      go_enter Try.func37, Try.ntmps37
      go_wp2_with (first | (go_at_call 48; refine (within_any _ _ _ _).mono ?_; rintro e w' ⟨rfl, rfl⟩))
      go_ret
      exact ⟨ret_bool (by unfold orders; rw [decide_eq_false HE.out]; rfl), Below.refl _ _⟩
end Go.Proofs.Ytckdfahbhagoaaa

namespace Go.Proofs.Ytckdfahbhagoaaa
open Go.RowKit Go.ChangeShapes Go.WideShapes Go.Deep
set_option linter.unusedVariables false
set_option linter.unusedSimpArgs false

/-- How a list of cells reads as a datum. -/
structure Rdr (α : Type) where
  size : Nat
  R : World → List Value → α → Prop
  len : ∀ {w : World} {cs : List Value} {x : α}, R w cs x → cs.length = size
  below : ∀ {w w' : World} {cs : List Value} {x : α} {B : Nat}, R w cs x → Below B w w' → w.heap.size ≤ B → R w' cs x

def rInt : Rdr Int := ⟨1, fun _ cs n => cs = [.int .i64 n] ∧ (Lit.int .i64 n).wf = true, fun h => by rw [h.1]; rfl, fun h _ _ => h⟩
def rBool : Rdr Bool := ⟨1, fun _ cs b => cs = [.bool b], fun h => by rw [h]; rfl, fun h _ _ => h⟩
def rStr : Rdr ByteArray := ⟨1, fun _ cs s => cs = [.string s] ∧ s.size ≤ maxLen, fun h => by rw [h.1]; rfl, fun h _ _ => h⟩
def rPair {α β : Type} (r : Rdr α) (s : Rdr β) : Rdr (α × β) := ⟨r.size + s.size, fun w cs x => ∃ c1 c2, cs = c1 ++ c2 ∧ r.R w c1 x.1 ∧ s.R w c2 x.2,
  fun h => by obtain ⟨c1, c2, rfl, h1, h2⟩ := h; rw [List.length_append, r.len h1, s.len h2],
  fun h hb hB => by obtain ⟨c1, c2, rfl, h1, h2⟩ := h; exact ⟨c1, c2, rfl, r.below h1 hb hB, s.below h2 hb hB⟩⟩

/-- The slice value v reads as the list xs. -/
def SlR {α : Type} (r : Rdr α) (w : World) (v : Value) (xs : List α) : Prop :=
  xs.length ≤ maxLen ∧ ∃ a c, v = .slice a xs.length c ∧ xs.length ≤ c ∧ ∀ i (h : i < xs.length), ∃ b o cs, a = some ⟨b, o, none⟩ ∧ b < w.heap.size ∧ r.R w cs xs[i] ∧ ∀ j (hj : j < cs.length), w.cell? ⟨b, o + (i * r.size + j), none⟩ = some cs[j]
theorem SlR.below {α : Type} {r : Rdr α} {w w' : World} {v : Value} {xs : List α} {B : Nat} (h : SlR r w v xs) (hb : Below B w w') (hB : w.heap.size ≤ B) : SlR r w' v xs := by
  obtain ⟨hm, a, c, hv, hcap, hc⟩ := h
  refine ⟨hm, a, c, hv, hcap, fun i hi => ?_⟩
  obtain ⟨b, o, cs, ha, hbs, hr, hcell⟩ := hc i hi
  exact ⟨b, o, cs, ha, by have := hb.size; omega, r.below hr hb hB, fun j hj => (hb.cell (p := ⟨b, o + (i * r.size + j), none⟩) (by show b < B; omega)).trans (hcell j hj)⟩
def rSl {α : Type} (r : Rdr α) : Rdr (List α) := ⟨1, fun w cs xs => ∃ v, cs = [v] ∧ SlR r w v xs, fun h => by obtain ⟨v, rfl, _⟩ := h; rfl, fun h hb hB => by obtain ⟨v, rfl, h⟩ := h; exact ⟨v, rfl, h.below hb hB⟩⟩

theorem SlR.ints {w : World} {v : Value} {xs : List Int} (h : SlR rInt w v xs) : Ints w v xs ∧ ∀ n ∈ xs, (Lit.int .i64 n).wf = true := by
  obtain ⟨hm, a, c, hv, hcap, hc⟩ := h
  refine ⟨⟨hm, a, c, hv, hcap, fun i hi => ?_⟩, fun n hn => ?_⟩
  · obtain ⟨b, o, cs, ha, hbs, ⟨rfl, _⟩, hcell⟩ := hc i hi
    have := hcell 0 (by simp)
    exact ⟨b, o, ha, hbs, by simpa [rInt] using this⟩
  · obtain ⟨i, hi, rfl⟩ := List.mem_iff_getElem.1 hn
    obtain ⟨b, o, cs, ha, hbs, ⟨rfl, hw⟩, hcell⟩ := hc i hi
    exact hw
theorem SlR.of_ints {w : World} {v : Value} {xs : List Int} (h : Ints w v xs) (hw : ∀ n ∈ xs, (Lit.int .i64 n).wf = true) : SlR rInt w v xs := by
  obtain ⟨hm, a, c, hv, hcap, hc⟩ := h
  refine ⟨hm, a, c, hv, hcap, fun i hi => ?_⟩
  obtain ⟨b, o, ha, hbs, hcell⟩ := hc i hi
  refine ⟨b, o, [.int .i64 xs[i]], ha, hbs, ⟨rfl, hw _ (List.getElem_mem _)⟩, fun j hj => ?_⟩
  obtain rfl : j = 0 := by simpa using hj
  simpa [rInt] using hcell

/-! An argument that came in. -/
/-- Whatever reads as a datum of type t reads by r. -/
def Opens {α : Type} (t : TypeId) (r : Rdr α) : Prop := Try.prog.cellsOf t = r.size ∧ ∀ {H : Type} {enc : TypeId × Value → H} {w : World} {base : Nat} {sp : Nat → Bool} {held : Bool} {fuel : Nat} {cs : List Value} {x : DataW H × List MemPlace},
  DataW.trod enc Try.prog w base sp held fuel t cs = some x → ∃ y : α, r.R w cs y
theorem opens_int {t : TypeId} (ht : Try.prog.underlying t = some (.int .i64)) (hc : Try.prog.cellsOf t = 1) : Opens t rInt := ⟨hc, fun h => by
  obtain ⟨n, h1, _, h2⟩ := DataW.trod_int ht h
  exact ⟨n, h1, h2⟩⟩
theorem opens_bool {t : TypeId} (ht : Try.prog.underlying t = some .bool) (hc : Try.prog.cellsOf t = 1) : Opens t rBool := ⟨hc, fun h => by
  obtain ⟨n, h1, _⟩ := DataW.trod_bool ht h
  exact ⟨n, h1⟩⟩
theorem opens_str {t : TypeId} (ht : Try.prog.underlying t = some .string) (hc : Try.prog.cellsOf t = 1) : Opens t rStr := ⟨hc, fun h => by
  obtain ⟨n, h1, _, h2⟩ := DataW.trod_string ht h
  exact ⟨n, h1, h2⟩⟩
theorem spot_none {w : World} {x : Addr} {v : Value} (h : w.cell? x = some v) : x.spot = none := by
  unfold World.cell? at h
  cases hs : x.spot with
  | none => rfl
  | some s => rw [hs] at h; split at h <;> simp at h
theorem list_of {α : Type} (n : Nat) (p : Nat → α → Prop) (h : ∀ i, i < n → ∃ y, p i y) : ∃ xs : List α, xs.length = n ∧ ∀ i (hi : i < xs.length), p i xs[i] := by
  induction n with
  | zero => exact ⟨[], rfl, fun i hi => by simp at hi⟩
  | succ n ih =>
    obtain ⟨xs, hl, hx⟩ := ih (fun i hi => h i (by omega))
    obtain ⟨y, hy⟩ := h n (by omega)
    refine ⟨xs ++ [y], by simp [hl], fun i hi => ?_⟩
    by_cases hlt : i < xs.length
    · rw [List.getElem_append_left hlt]; exact hx i hlt
    · have : i = n := by simp at hi; omega
      subst this
      rw [List.getElem_append_right (by omega)]
      simpa [hl] using hy
theorem opens_slice {α : Type} {t e : TypeId} {r : Rdr α} (ht : Try.prog.underlying t = some (.slice e)) (hc : Try.prog.cellsOf t = 1) (he : Opens e r) (hr : 0 < r.size) : Opens t (rSl r) := ⟨hc, fun {H enc w base sp held fuel cs x} h => by
  rcases DataW.trod_slice ht h with ⟨rfl, _⟩ | ⟨a, len, cap, elems, rest, n, _, rfl, _, _, hl, hm, hel, hi, _⟩
  · exact ⟨[], _, rfl, Nat.zero_le _, none, 0, rfl, Nat.le_refl _, fun i hi => by simp at hi⟩
  · rw [he.1] at hi
    have key : ∀ i, i < len → ∃ y : α, ∃ cs' : List Value, (∀ j, j < cs'.length → w.cell? ((a.add (i * r.size)).add j) = cs'[j]?) ∧ r.R w cs' y := by
      intro i hil
      have h1 := hi i hil
      rw [List.getElem?_eq_getElem (by omega)] at h1
      cases hcs : w.cells? base (a.add (i * r.size)) r.size with
      | none => rw [hcs] at h1; cases h1
      | some cs' =>
        rw [hcs] at h1
        obtain ⟨y, hy⟩ := he.2 h1
        obtain ⟨_, hcl, hat⟩ := World.cells?_some hcs
        refine ⟨y, cs', fun j hj => ?_, hy⟩
        exact hat j (by omega)
    obtain ⟨xs, hxl, hxs⟩ := list_of len (fun (i : Nat) (y : α) => ∃ cs' : List Value, (∀ j, j < cs'.length → w.cell? ((a.add (i * r.size)).add j) = cs'[j]?) ∧ r.R w cs' y) key
    subst hxl
    refine ⟨xs, _, rfl, by omega, some a, cap, rfl, by omega, fun i hil => ?_⟩
    obtain ⟨cs', h1, h2⟩ := hxs i hil
    have h0 := (h1 0 (by rw [r.len h2]; exact hr)).trans (List.getElem?_eq_getElem (by rw [r.len h2]; exact hr))
    obtain ⟨cz, z1, z2⟩ := hxs 0 (by omega)
    have z0 := (z1 0 (by rw [r.len z2]; exact hr)).trans (List.getElem?_eq_getElem (by rw [r.len z2]; exact hr))
    have hz : (a.add (0 * r.size)).add 0 = a := by rw [Nat.zero_mul]; simp [Addr.add]
    rw [hz] at z0
    have hsp := spot_none z0
    obtain ⟨b, o, s⟩ := a
    obtain rfl : s = none := hsp
    have hadd : ∀ j, ((⟨b, o, none⟩ : Addr).add (i * r.size)).add j = ⟨b, o + (i * r.size + j), none⟩ := fun j => by
      simp only [Addr.add]
      split <;> split <;> simp_all <;> omega
    refine ⟨b, o, cs', rfl, ?_, h2, fun j hj => by rw [← hadd]; exact (h1 j hj).trans (List.getElem?_eq_getElem hj)⟩
    rw [hadd] at h0
    exact lt_of_cell h0⟩

/-- The fields from a place on. -/
def OpensF {α : Type} (fs : List Field) (off : Nat) (r : Rdr α) : Prop := ∀ {H : Type} {enc : TypeId × Value → H} {w : World} {base : Nat} {sp : Nat → Bool} {held : Bool} {n : Nat} {cs : List Value},
  (∀ (i : Nat) (f : Field), fs[i]? = some f → ∃ x, DataW.trod enc Try.prog w base sp held n f.type ((cs.drop f.offset).take (Try.prog.cellsOf f.type)) = some x) → ∃ y : α, r.R w ((cs.drop off).take r.size) y
theorem opensF_one {α : Type} {f : Field} {off : Nat} {r : Rdr α} (h : Opens f.type r) (ho : f.offset = off) : OpensF [f] off r := by
  intro H enc w base sp held n cs hf
  obtain ⟨x, hx⟩ := hf 0 f rfl
  obtain ⟨y, hy⟩ := h.2 hx
  rw [h.1, ho] at hy
  exact ⟨y, hy⟩
theorem opensF_cons {α β : Type} {f : Field} {fs : List Field} {off : Nat} {r : Rdr α} {s : Rdr β} (h : Opens f.type r) (ho : f.offset = off) (hs : OpensF fs (off + r.size) s) : OpensF (f :: fs) off (rPair r s) := by
  intro H enc w base sp held n cs hf
  obtain ⟨x, hx⟩ := hf 0 f rfl
  obtain ⟨y, hy⟩ := h.2 hx
  rw [h.1, ho] at hy
  obtain ⟨z, hz⟩ := hs (fun i g hg => hf (i + 1) g hg)
  refine ⟨(y, z), _, _, ?_, hy, hz⟩
  show (cs.drop off).take (r.size + s.size) = _
  rw [List.take_add, List.drop_drop]
theorem opens_struct {α : Type} {t : TypeId} {fs : Array Field} {r : Rdr α} (ht : Try.prog.underlying t = some (.struct fs)) (hc : Try.prog.cellsOf t = r.size) (hf : OpensF fs.toList 0 r) : Opens t r := ⟨hc, fun h => by
  obtain ⟨xs, n, _, _, hl, hxl, hat⟩ := DataW.trod_struct ht h
  obtain ⟨y, hy⟩ := hf (cs := _) (fun i f hif => ⟨_, (hat i f (by simpa using hif)).trans (List.getElem?_eq_getElem (by
    have := (List.getElem?_eq_some_iff.1 hif).1
    rw [hxl]; simpa using this))⟩)
  rw [List.drop_zero, List.take_of_length_le (by omega)] at hy
  exact ⟨y, hy⟩⟩
end Go.Proofs.Ytckdfahbhagoaaa

namespace Go.Proofs.Ytckdfahbhagoaaa
open Go.RowKit
set_option linter.unusedVariables false
set_option linter.unusedSimpArgs false

/-- Block b holds the cells cs, none of them frozen. -/
def Blk (W : World) (b : Nat) (t : TypeId) (cs : List Value) : Prop := W.heap[b]? = some (.cells cs.toArray t (0, 0))
theorem Blk.lt {W : World} {b : Nat} {t : TypeId} {cs : List Value} (h : Blk W b t cs) : b < W.heap.size := (Array.getElem?_eq_some_iff.1 h).1
theorem Blk.cell {W : World} {b : Nat} {t : TypeId} {cs : List Value} (h : Blk W b t cs) (j : Nat) (v : Value) (hj : cs[j]? = some v) : W.cell? ⟨b, j, none⟩ = some v := by
  unfold World.cell?
  rw [show W.heap[b]? = _ from h]
  simpa using hj
theorem Blk.frozen {W : World} {b : Nat} {t : TypeId} {cs : List Value} (h : Blk W b t cs) (j : Nat) : W.frozen? ⟨b, j, none⟩ = false := by
  simp [World.frozen?, show W.heap[b]? = _ from h]
theorem Blk.new (W : World) (t : TypeId) (cs : List Value) : Blk (W.alloc (.cells cs.toArray t)) W.heap.size t cs := World.alloc_heap_new W _
theorem Blk.alloc {W : World} {b : Nat} {t : TypeId} {cs : List Value} (h : Blk W b t cs) (o : Obj) : Blk (W.alloc o) b t cs := (Below.heap_alloc _ _ _ h.lt).trans h
theorem Blk.below {W W' : World} {b B : Nat} {t : TypeId} {cs : List Value} (h : Blk W b t cs) (hb : Below B W W') (hB : b < B) : Blk W' b t cs := (hb.block b hB).trans h
theorem Blk.grown {W W' : World} {b : Nat} {t : TypeId} {cs : List Value} {row : Option Nat} (h : Blk W b t cs) (hg : W.grownBy W' row) (hne : some b ≠ row) : Blk W' b t cs := (hg.block b h.lt hne).trans h
theorem Blk.grownL {W W' : World} {b : Nat} {t : TypeId} {cs : List Value} {L : List Nat} (h : Blk W b t cs) (hg : GrownL L W W') (hne : b ∉ L) : Blk W' b t cs := (hg.block b h.lt hne).trans h
theorem Blk.drewN {W : World} {b : Nat} {t : TypeId} {cs : List Value} (h : Blk W b t cs) (q : Nat) : Blk (W.drewN q) b t cs := h
theorem Blk.far {W : World} {b : Nat} {t : TypeId} {cs : List Value} (h : Blk W b t cs) (p : Addr) (v : Value) (hne : b ≠ p.block) : Blk (W.setCell p v) b t cs := (Below.heap_setCell _ _ _ _ hne).trans h
theorem Blk.set {W : World} {b : Nat} {t : TypeId} {cs : List Value} (h : Blk W b t cs) (j : Nat) (v : Value) : Blk (W.setCell ⟨b, j, none⟩ v) b t (cs.set j v) := by
  obtain ⟨hlt, hk⟩ := Array.getElem?_eq_some_iff.1 h
  show (W.heap.modify b _)[b]? = _
  rw [Array.getElem?_eq_getElem (by rw [Array.size_modify]; exact hlt), Array.getElem_modify_self, hk]
  simp
theorem Boxed.blk {W : World} {b : Nat} {t : TypeId} {v : Value} (h : Boxed W b t v) : Blk W b t [v] := h

/-- A row of the call's own, of whatever elements: n elements of type T, size cells each. -/
def OwnV (T size : Nat) (w : World) (N : Nat) (v : Value) (n : Nat) (raw : List Value) : Prop := w.ownsRow N T size v n raw
theorem OwnV.kept {T size n : Nat} {w w' : World} {B : Nat} {v : Value} {xs : List Value} {row : Option Nat} (h : OwnV T size w B v n xs) (hg : w.grownBy w' row) (hne : v.ownBlock = none ∨ v.ownBlock ≠ row) : OwnV T size w' B v n xs := World.ownsRow.kept h hg hne
theorem OwnV.lt {T size n : Nat} {w : World} {B : Nat} {v : Value} {xs : List Value} (h : OwnV T size w B v n xs) : ∀ k, v.ownBlock = some k → B ≤ k ∧ k < w.heap.size := World.ownsRow.lt h
theorem OwnV.below {T size n : Nat} {w w' : World} {B N : Nat} {v : Value} {xs : List Value} (h : OwnV T size w B v n xs) (hb : Below N w w') (hN : w.heap.size ≤ N) : OwnV T size w' B v n xs := by
  refine h.kept (row := none) ⟨hb.os, hb.tape, hb.output, hb.size, fun k hk _ => hb.block k (by omega)⟩ ?_
  cases v.ownBlock <;> simp
theorem OwnV.length {T size n : Nat} {w : World} {B : Nat} {v : Value} {xs : List Value} (h : OwnV T size w B v n xs) : xs.length = n * size := h.1
theorem OwnV.store {T size n c g : Nat} {w : World} {N : Nat} {xs : List Value} (h : OwnV T size w N (.slice (some ⟨g, 0, none⟩) n c) n xs) (j : Nat) (hj : j < xs.length) (y : Value) :
    w.cell? ⟨g, j, none⟩ = some xs[j] ∧ w.frozen? ⟨g, j, none⟩ = false ∧ OwnV T size (w.setCell ⟨g, j, none⟩ y) N (.slice (some ⟨g, 0, none⟩) n c) n (xs.set j y) ∧ w.grownBy (w.setCell ⟨g, j, none⟩ y) (some g) := by
  have h' : w.ownsRow N T size (.slice (some ⟨g, 0, none⟩) n c) n xs := h
  obtain ⟨h1, h2⟩ := h'.stored j y
  refine ⟨?_, h'.frozenAt j, h1, h2⟩
  rw [h'.cellAt j (by rw [← h.length]; exact hj), List.getElem?_eq_getElem hj]

/-- It reads so in every world that keeps the blocks from N on. -/
def Agree (N : Nat) (w W : World) : Prop := w.heap.size ≤ W.heap.size ∧ ∀ b, N ≤ b → b < w.heap.size → W.heap[b]? = w.heap[b]?
theorem Agree.refl (N : Nat) (w : World) : Agree N w w := ⟨Nat.le_refl _, fun _ _ _ => rfl⟩
theorem Agree.trans {N : Nat} {a b c : World} (h : Agree N a b) (k : Agree N b c) : Agree N a c := ⟨Nat.le_trans h.1 k.1, fun i h1 h2 => (k.2 i h1 (by have := h.1; omega)).trans (h.2 i h1 h2)⟩
theorem Agree.mono {N N' : Nat} {a b : World} (h : Agree N a b) (hN : N ≤ N') : Agree N' a b := ⟨h.1, fun i h1 h2 => h.2 i (by omega) h2⟩
theorem Agree.below {N B : Nat} {a b : World} (h : Below B a b) (hB : a.heap.size ≤ B) : Agree N a b := ⟨h.size, fun i _ h2 => h.block i (by omega)⟩
theorem Agree.setCell {N : Nat} (a : World) (p : Addr) (v : Value) (hp : p.block < N) : Agree N a (a.setCell p v) := ⟨by simp, fun i h1 _ => Below.heap_setCell _ _ _ _ (by omega)⟩
theorem Agree.grown {N : Nat} {a b : World} {row : Option Nat} (h : a.grownBy b row) (hr : ∀ k, row = some k → k < N) : Agree N a b := ⟨h.size, fun i h1 h2 => h.block i h2 (fun e => by have := hr i e.symm; omega)⟩
def FreshR {α : Type} (r : Rdr α) (N : Nat) (w : World) (cs : List Value) (x : α) : Prop := ∀ W, Agree N w W → r.R W cs x
theorem FreshR.now {α : Type} {r : Rdr α} {N : Nat} {w : World} {cs : List Value} {x : α} (h : FreshR r N w cs x) : r.R w cs x := h w (Agree.refl _ _)
theorem FreshR.later {α : Type} {r : Rdr α} {N : Nat} {w w' : World} {cs : List Value} {x : α} (h : FreshR r N w cs x) (ha : Agree N w w') : FreshR r N w' cs x := fun W hW => h W (ha.trans hW)
theorem FreshR.mono {α : Type} {r : Rdr α} {N N' : Nat} {w : World} {cs : List Value} {x : α} (h : FreshR r N w cs x) (hN : N' ≤ N) : FreshR r N' w cs x := fun W hW => h W (hW.mono hN)
theorem FreshR.pair {α β : Type} {r : Rdr α} {s : Rdr β} {N : Nat} {w : World} {c1 c2 : List Value} {x : α} {y : β} (h : FreshR r N w c1 x) (k : FreshR s N w c2 y) : FreshR (rPair r s) N w (c1 ++ c2) (x, y) := fun W hW => ⟨c1, c2, rfl, h W hW, k W hW⟩
theorem FreshR.int (N : Nat) (w : World) (n : Int) (h : (Lit.int .i64 n).wf = true) : FreshR rInt N w [.int .i64 n] n := fun _ _ => ⟨rfl, h⟩
theorem FreshR.str (N : Nat) (w : World) (s : ByteArray) (h : s.size ≤ maxLen) : FreshR rStr N w [.string s] s := fun _ _ => ⟨rfl, h⟩
theorem ownsRow_agree {w W : World} {N e size n : Nat} {v : Value} {xs : List Value} (h : w.ownsRow N e size v n xs) (ha : Agree N w W) : W.ownsRow N e size v n xs := by
  refine ⟨h.1, ?_⟩
  rcases h.2 with h1 | ⟨g, cap, cur, hv, hg, hh, r⟩
  · exact .inl h1
  · exact .inr ⟨g, cap, cur, hv, hg, (ha.2 g hg (Array.getElem?_eq_some_iff.1 hh).1).trans hh, r⟩
theorem OwnI.fresh {w : World} {N : Nat} {v : Value} {xs : List Int} (h : OwnI w N v xs) (hw : ∀ n ∈ xs, (Lit.int .i64 n).wf = true) : FreshR (rSl rInt) N w [v] xs :=
  fun W hW => ⟨v, rfl, SlR.of_ints (OwnI.ints (ownsRow_agree h hW)) hw⟩
/-- The first k elements of a row that is being filled read as the first k of xs. -/
def FillR {α : Type} (r : Rdr α) (N : Nat) (w : World) (raw : List Value) (xs : List α) (k : Nat) : Prop := ∀ i (h : i < xs.length), i < k → ∃ cs, FreshR r N w cs xs[i] ∧ ∀ j (hj : j < cs.length), raw[i * r.size + j]? = some cs[j]
theorem FillR.later {α : Type} {r : Rdr α} {N : Nat} {w w' : World} {raw : List Value} {xs : List α} {k : Nat} (h : FillR r N w raw xs k) (ha : Agree N w w') : FillR r N w' raw xs k := fun i hi hk => by
  obtain ⟨cs, h1, h2⟩ := h i hi hk
  exact ⟨cs, h1.later ha, h2⟩
theorem FillR.done {α : Type} {r : Rdr α} {T : Nat} {w : World} {g : Nat} {raw : List Value} {xs : List α} (ho : OwnV T r.size w g (.slice (some ⟨g, 0, none⟩) xs.length xs.length) xs.length raw) (hf : FillR r (g + 1) w raw xs xs.length) (hm : xs.length ≤ maxLen) : FreshR (rSl r) g w [.slice (some ⟨g, 0, none⟩) xs.length xs.length] xs := by
  intro W hW
  have ho' : OwnV T r.size W g (.slice (some ⟨g, 0, none⟩) xs.length xs.length) xs.length raw := ownsRow_agree ho hW
  refine ⟨_, rfl, hm, _, _, rfl, Nat.le_refl _, fun i hi => ?_⟩
  obtain ⟨cs, h1, h2⟩ := hf i hi hi
  refine ⟨g, 0, cs, rfl, (ho'.lt g rfl).2, h1 W (hW.mono (by omega)), fun j hj => ?_⟩
  obtain ⟨h4, h5⟩ := List.getElem?_eq_some_iff.1 (h2 j hj)
  rw [Nat.zero_add, (ho'.store _ h4 (.bool true)).1, h5]
/-- One more element, of four cells. -/
theorem FillR.put4 {α : Type} {r : Rdr α} {N : Nat} {w : World} {raw : List Value} {xs : List α} {k : Nat} (h : FillR r N w raw xs k) (h4 : r.size = 4) (c0 c1 c2 c3 : Value) (hk : k < xs.length) (hl : raw.length = xs.length * 4) (hx : FreshR r N w [c0, c1, c2, c3] xs[k]) :
    FillR r N w ((((raw.set (k * 4) c0).set (k * 4 + 1) c1).set (k * 4 + 2) c2).set (k * 4 + 3) c3) xs (k + 1) := by
  intro i hi hik
  by_cases he : i = k
  · subst he
    refine ⟨_, hx, fun j hj => ?_⟩
    rw [h4]
    have hj4 : j < 4 := by simpa using hj
    match j, hj4 with
    | 0, _ => simp [List.getElem?_set]; omega
    | 1, _ => simp [List.getElem?_set]; omega
    | 2, _ => simp [List.getElem?_set]; omega
    | 3, _ => simp [List.getElem?_set]; omega
  · obtain ⟨cs, h1, h2⟩ := h i hi (by omega)
    refine ⟨cs, h1, fun j hj => ?_⟩
    have h3 := h2 j hj
    have hj4 : j < 4 := by have := r.len h1.now; omega
    rw [h4] at h3 ⊢
    rw [List.getElem?_set_ne (by omega), List.getElem?_set_ne (by omega), List.getElem?_set_ne (by omega), List.getElem?_set_ne (by omega)]
    exact h3
end Go.Proofs.Ytckdfahbhagoaaa
