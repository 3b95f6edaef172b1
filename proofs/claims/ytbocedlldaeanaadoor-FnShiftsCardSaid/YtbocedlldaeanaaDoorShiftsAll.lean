/- The walk of FnShifts. Conditions: none of weight. With texts that it needs. -/
import Derived.Test.YtbocedlldaeanaaDoorShiftsAll8
import Derived.Test.YtbocedlldaeanaaDoorShiftsAll9
import Derived.Test.YtbocedlldaeanaaDoorShiftsAll10
import Derived.Test.YtbocedlldaeanaaDoorRows
import Derived.Deep.RegionHeld3
namespace Go.Proofs.YtbocedlldaeanaaDoor
open Go.RowKit Go.Shelf
set_option linter.unusedVariables false
set_option linter.unusedSimpArgs false

def nthB (l : List ByteArray) (k : Nat) : ByteArray := l.getD k ⟨#[]⟩
theorem nthB_eq {l : List ByteArray} {k : Nat} (h : k < l.length) : nthB l k = l[k] := by unfold nthB; rw [List.getD_eq_getElem?_getD, List.getElem?_eq_getElem h]; rfl
/-- A slice's block that holds the first n of some texts. -/
def TxN (w : World) (g : Nat) (l : List ByteArray) (n : Nat) : Prop := g < w.heap.size ∧ ∀ k, k < n → w.cell? ⟨g, k, none⟩ = some (.string (nthB l k))
theorem TxN.below {w w' : World} {g N n : Nat} {l : List ByteArray} (h : TxN w g l n) (hb : Below N w w') (hN : g < N) : TxN w' g l n :=
  ⟨Nat.lt_of_lt_of_le h.1 hb.size, fun k hk => (hb.cell (p := ⟨g, k, none⟩) hN).trans (h.2 k hk)⟩
theorem TxW.first {w : World} {g m n : Nat} {l : List ByteArray} (h : TxW w g (l.take m)) (hn : n = (l.take m).length) : TxN w g l n :=
  ⟨h.1, fun k hk => by
    subst hn
    rw [h.2 k hk, List.getElem_take, nthB_eq (by rw [List.length_take] at hk; omega)]⟩
/-- What the first loop knows. -/
def ShA (r : ShR) (B5 gl gp nl np A : Nat) (w : World) (vi : Value) (wr : World) : Prop :=
  ∃ i : Nat, i ≤ nl ∧ vi = .int .i64 i ∧ Blk wr B5 25 [.int .i64 r.slots, .int .i64 r.least, .int .i64 r.most, .int .i64 r.row, .int .i64 r.pause] ∧ TxN wr gl (lwA r) nl ∧ TxN wr gp (lwA r) np ∧ Below A w wr
theorem cut_shareS {P G : Prop} (main : P) (cont : Hid P → G) : G := cont (Lib.hid main)
set_option maxRecDepth 100000 in
set_option maxHeartbeats 16000000 in
theorem walkFnShifts (v : Value) (xs : List Int) (u : Value) (ys : List Int) (w : World) (h0 : SlR rByte w v xs) (h1 : SlR rByte w u ys) (hL : laidMetH Tryd.prog Rows.fnShiftsRow.laid w) (hsh : w.ShapedOpen Tryd.prog) :
    Calls Tryd.prog 3 #[v, u] w fun e w' => e = .returned (.bool true) ∧ Below w.heap.size w w' := by
  obtain ⟨hv, hwfv⟩ := h0.byts
  obtain ⟨hu, hwfu⟩ := h1.byts
  have HLO := Lib.hid (r8Long_any v u xs ys w hv hu)
  have HRU := Lib.hid (R8Rule_any v xs w hv hwfv)
  have HAT : Hid (∀ (i n : Int) W, Below w.heap.size w W → 0 ≤ i → i ≤ 1000 → 1 ≤ n → n ≤ 1000 → Calls Tryd.prog 8 #[u, .int .i64 i, .int .i64 n] W fun e w' => (∃ x, e = .returned (.int .i64 x) ∧ 0 ≤ x ∧ x < n) ∧ W = w') := fun i n W hW a b c d => r8At_any u ys i n W (hu.below hW (Nat.le_refl _)) hwfu a (by omega) c (by omega)
  have HBE : Hid (∀ (k : Nat) W, Below w.heap.size w W → k ≤ 200 → Calls Tryd.prog 14 #[u, .int .i64 (k : Int), .int .i64 4] W fun e w' => (∃ g c, e = .returned (.slice (some ⟨g, 0, none⟩) k c) ∧ ∃ zs, OwnI w' W.heap.size (.slice (some ⟨g, 0, none⟩) k c) zs ∧ k = zs.length ∧ ∀ x ∈ zs, 0 ≤ x ∧ x < 4) ∧ Below W.heap.size W w') := fun k W hW a => R8Below_any u ys k W (hu.below hW (Nat.le_refl _)) hwfu a
  obtain ⟨A, hA⟩ : ∃ A, w.heap.size = A := ⟨_, rfl⟩
  have HA := Lib.hid hA
  rw [hA] at HAT HBE HRU ⊢
  obtain ⟨LO, hLO⟩ : ∃ b, (decide (48 < xs.length) || decide (48 < ys.length)) = b := ⟨_, rfl⟩
  rw [hLO] at HLO
  clear hL hsh h0 h1 hv hu hwfv hwfu hA hLO
  go_enter Tryd.func3, Tryd.ntmps3
  go_wp2_with fail
  refine HLO.out.mono ?_
  rintro e w0 ⟨rfl, rfl⟩
  clear HLO
  cases LO with
  | true =>
    clear HRU HAT HBE
    go_wp2
    go_ret
    exact ⟨rfl, by rw [← HA.out]; exact Below.refl _ _⟩
  | false =>
    go_wp2_with fail
    refine HRU.out.mono ?_
    rintro e W1 ⟨⟨r, rfl, hok, h8⟩, hb1⟩
    have HOK := Lib.hid hok
    have HCS : Hid (∀ W, _) := Lib.hid (fun W => CountShifts_any r hok W)
    have HFS : Hid (∀ (m : Nat) (_ : m ≤ 64) W, _) := Lib.hid (fun m hm W => FirstShifts_any r hok m hm W)
    have HCH : Hid (∀ (g : Nat) (p : Int), 1 ≤ p ∧ p ≤ 8 → ∀ W, _ → _) := Lib.hid (fun (g : Nat) (p : Int) hp W hk => CountsShared_one r hok g p hp W hk)
    have HVR : Hid (∀ W, Calls Tryd.prog 10 #[shV r] W fun e w' => e = .returned (.bool true) ∧ Below W.heap.size W w') := fun W => by
      have h := validRule_any r.slots r.least r.most r.row r.pause W
      rw [ruleOk_of hok] at h
      exact h
    have HS8 : Hid (1 ≤ r.slots ∧ r.slots ≤ 8) := ⟨hok.1, h8⟩
    have HIS : Hid (∀ i, i < cntS r r.slots.toNat s0 → isSh r (nthB (lwA r) i) = true ∧ (nthB (lwA r) i).size ≤ 8) := fun i hi => by
      rw [← lwA_len] at hi
      rw [nthB_eq hi]
      have h1 := lwA_is hok hi
      exact ⟨h1.1, by rw [h1.2]; omega⟩
    have HRS : Hid (∀ i, i + 1 < cntS r r.slots.toNat s0 → (Op.bytesLess (nthB (lwA r) (i + 1)).toList (nthB (lwA r) i).toList || (nthB (lwA r) (i + 1)).toList == (nthB (lwA r) i).toList) = false) := fun i hi => by
      rw [← lwA_len] at hi
      rw [nthB_eq hi, nthB_eq (by omega)]
      exact lwA_rise r i hi
    have HNT : Hid (∀ i, i < cntS r r.slots.toNat s0 → nxT r (nthB (lwA r) i) = if i + 1 < cntS r r.slots.toNat s0 then (nthB (lwA r) (i + 1), true) else (⟨#[]⟩, false)) := fun i hi => by
      rw [← lwA_len] at hi ⊢
      rw [nthB_eq hi, lwA_next r i hi hok]
      by_cases h2 : i + 1 < (lwA r).length
      · rw [if_pos h2, List.getElem?_eq_getElem h2, nthB_eq h2]
      · rw [if_neg h2, List.getElem?_eq_none (by omega)]
    have HISW : Hid (∀ (t : ByteArray) (_ : t.size ≤ 1048576) W, _) := Lib.hid (fun t ht W => IsShift_any r hok t ht W)
    have HNXW : Hid (∀ (t : ByteArray) (_ : isSh r t = true) W, _) := Lib.hid (fun t ht W => NextShift_any r hok t ht W)
    have HGRW : Hid (∀ (gn cn n : Nat) (ns : List Int) (W : World) (_ : n = r.slots.toNat) (_ : Ints W (.slice (some ⟨gn, 0, none⟩) n cn) ns) (_ : ns.length = n) (_ : ∀ x ∈ ns, 0 ≤ x ∧ x ≤ 3), _) := Lib.hid (fun gn cn n ns W a b c d => GreedyCover_any r hok gn cn n ns W a b c d)
    have HRSW : Hid (∀ (t : ByteArray) (_ : t.size ≤ 1048576) W, _) := Lib.hid (fun t ht W => r8Shift_any r t ht W)
    have HFW : Hid (∀ m, fitT m [] (lsW r r.slots.toNat s0 ⟨#[]⟩) = (lwA r).take m) := fit_lwA r
    have HCT : Hid (cntS r r.slots.toNat s0 ≤ 256) := by
      show _ ≤ _
      have h1 := cntS_le r r.slots.toNat s0
      have h2 : 2 ^ r.slots.toNat ≤ 2 ^ 8 := Nat.pow_le_pow_right (by decide) (by omega)
      omega
    have HLEN : Hid (∀ m, (fitT m [] (lsW r r.slots.toNat s0 ⟨#[]⟩)).length = min m (cntS r r.slots.toNat s0)) := fun m => by
      unfold fitT
      rw [List.nil_append, List.length_take, lsW_len]
      simp
    have B1 := Lib.hid hb1
    obtain ⟨C, hC⟩ : ∃ C, cntS r r.slots.toNat s0 = C := ⟨_, rfl⟩
    rw [hC] at HCS HCH HCT HLEN HIS HRS HNT
    have HC := Lib.hid hC
    clear hok h8 hb1 HRU hC
    obtain ⟨N, L, M, R, P⟩ := r
    unfold shV at HCS HFS HVR HISW HNXW HGRW HRSW ⊢
    dsimp only at HCS HFS HCH HVR HS8 HISW HNXW HGRW HRSW ⊢
    obtain ⟨W2, hW2⟩ : ∃ W, W1.alloc (.cells #[.int .i64 N, .int .i64 L, .int .i64 M, .int .i64 R, .int .i64 P] 25) = W := ⟨_, rfl⟩
    obtain ⟨B5, hB5⟩ : ∃ b, W1.heap.size = b := ⟨_, rfl⟩
    have hAB : A ≤ B5 := by have h1 := B1.out.size; have := HA.out; omega
    have B2 : Hid (Below A w W2) := by show Below _ _ _; rw [← hW2]; exact B1.out.alloc (by omega) _
    have K2 : Hid (Blk W2 B5 25 [.int .i64 N, .int .i64 L, .int .i64 M, .int .i64 R, .int .i64 P]) := by show Blk _ _ _ _; rw [← hW2, ← hB5]; exact Blk.new W1 _ _
    have HW2 := Lib.hid hW2
    have HB5 := Lib.hid hB5
    have HC2 := Lib.hid (HCS.out W2)
    clear hW2 hB5 B1 HCS
    go_wp2_with fail
    rw [HW2.out, HB5.out]
    refine HC2.out.mono ?_
    rintro e W3 ⟨rfl, hb3⟩
    have hs2 := K2.out.lt
    have B3 : Hid (Below A w W3) := B2.out.trans (hb3.mono (by omega))
    have K3 := Lib.hid (K2.out.below hb3 K2.out.lt)
    have c0 := K3.out.cell 0 _ rfl
    have c1 := K3.out.cell 1 _ rfl
    have c2 := K3.out.cell 2 _ rfl
    have c3 := K3.out.cell 3 _ rfl
    have c4 := K3.out.cell 4 _ rfl
    have HF3 := HFS.out 64 (by omega) W3
    have e64 : ((64 : Nat) : Int) = 64 := rfl
    rw [e64] at HF3
    have HF3 := Lib.hid HF3
    clear hb3 HC2 B2 K2 e64 HW2 HB5
    go_wp2_with fail
    refine HF3.out.mono ?_
    rintro e W4 ⟨⟨gl, cl, nl, rfl, hnl, ho4⟩, hb4⟩
    have hs3 := K3.out.lt
    have B4 : Hid (Below A w W4) := B3.out.trans (hb4.mono (by omega))
    have K4 := Lib.hid (K3.out.below hb4 K3.out.lt)
    have T4 := Lib.hid (ho4.txw hnl)
    have HNL := Lib.hid hnl
    have hgl := ho4.lt gl rfl
    clear hb4 HF3 B3 K3 c0 c1 c2 c3 c4 ho4 hnl
    have c0 := K4.out.cell 0 _ rfl
    have c1 := K4.out.cell 1 _ rfl
    have c2 := K4.out.cell 2 _ rfl
    have c3 := K4.out.cell 3 _ rfl
    have c4 := K4.out.cell 4 _ rfl
    have HA4 := Lib.hid (HAT.out 40 20 W4.drew B4.out.drew (by omega) (by omega) (by omega) (by omega))
    go_wp2
    go_region_held3 (fun w' => w'.cell? ⟨B5, 0, none⟩ = some (.int .i64 N) ∧ w'.cell? ⟨B5, 1, none⟩ = some (.int .i64 L) ∧ w'.cell? ⟨B5, 2, none⟩ = some (.int .i64 M) ∧ w'.cell? ⟨B5, 3, none⟩ = some (.int .i64 R) ∧ w'.cell? ⟨B5, 4, none⟩ = some (.int .i64 P)) (first | go_keep)
      (first
        | (go_at_call 8; refine HA4.out.mono ?_; rintro e w5 ⟨⟨x, rfl, x0, x1⟩, rfl⟩; obtain ⟨X, hX⟩ : ∃ X : Nat, x = X := ⟨x.toNat, by omega⟩; subst hX; have HF5 := Lib.hid (HFS.out X (by omega) W4.drew))
        | (go_at_call 7; refine HF5.out.mono ?_; rintro e W6 ⟨⟨gp, cp, np, rfl, hnp, ho6⟩, hb6⟩; have KB6 := Lib.hid ((K4.out.drewN 1).below hb6 K4.out.lt); obtain ⟨d0, d1, d2, d3, d4⟩ : W6.cell? ⟨B5, 0, none⟩ = some (.int .i64 N) ∧ W6.cell? ⟨B5, 1, none⟩ = some (.int .i64 L) ∧ W6.cell? ⟨B5, 2, none⟩ = some (.int .i64 M) ∧ W6.cell? ⟨B5, 3, none⟩ = some (.int .i64 R) ∧ W6.cell? ⟨B5, 4, none⟩ = some (.int .i64 P) := ⟨KB6.out.cell 0 _ rfl, KB6.out.cell 1 _ rfl, KB6.out.cell 2 _ rfl, KB6.out.cell 3 _ rfl, KB6.out.cell 4 _ rfl⟩; have HP6 := Lib.hid (And.intro hnp (And.intro ho6 hb6)); clear hnp ho6 hb6))
    obtain ⟨hnp, ho6, hb6⟩ := HP6.out
    have hb6 : Below W4.heap.size W4.drew W6 := hb6
    have hs4 := K4.out.lt
    have B6 : Hid (Below A w W6) := B4.out.drew.trans (hb6.mono (by omega))
    have T6 := Lib.hid (TxW.below (w := W4.drew) T4.out hb6 T4.out.1)
    have P6 := Lib.hid (ho6.txw hnp)
    have HNP := Lib.hid hnp
    have hs46 : W4.heap.size ≤ W6.heap.size := hb6.size
    clear hnp ho6 hb6 HP6 HF5 HA4 T4 K4 B4 HFS c0 c1 c2 c3 c4
    have HNEW : Hid (Blk (W6.drew.alloc (.cells #[.int .i64 N, .int .i64 L, .int .i64 M, .int .i64 R, .int .i64 P] 25)) W6.heap.size 25 [.int .i64 N, .int .i64 L, .int .i64 M, .int .i64 R, .int .i64 P]) := Blk.new W6.drew _ _
    have KB7 : Hid (Blk (W6.drew.alloc (.cells #[.int .i64 N, .int .i64 L, .int .i64 M, .int .i64 R, .int .i64 P] 25)) B5 25 [.int .i64 N, .int .i64 L, .int .i64 M, .int .i64 R, .int .i64 P]) := (KB6.out.drewN 1).alloc _
    have BB7 : Hid (Below A w (W6.drew.alloc (.cells #[.int .i64 N, .int .i64 L, .int .i64 M, .int .i64 R, .int .i64 P] 25))) := B6.out.drew.alloc (by show A ≤ W6.heap.size; omega) _
    go_wp2
    refine cut_shareS (P := ?P1) ?main1 ?cont1
    case cont1 =>
      intro key
      go_region_held3 (fun w' => w'.cell? ⟨B5, 0, none⟩ = some (.int .i64 N) ∧ w'.cell? ⟨B5, 1, none⟩ = some (.int .i64 L) ∧ w'.cell? ⟨B5, 2, none⟩ = some (.int .i64 M) ∧ w'.cell? ⟨B5, 3, none⟩ = some (.int .i64 R) ∧ w'.cell? ⟨B5, 4, none⟩ = some (.int .i64 P)) (first | go_keep)
        (first
          | (go_at_call 8; refine (HAT.out 41 8 _ (by first | exact B6.out.drew | exact BB7.out) (by omega) (by omega) (by omega) (by omega)).mono ?_; rintro e w7 ⟨⟨y, rfl, y0, y1⟩, rfl⟩; have wy : IntKind.i64.wrap (1 + y) = 1 + y := IntWalk.i64_in _ (by omega))
          | (go_at_call 9; refine (HCH.out _ (1 + y) (by omega) _ HNEW.out).mono ?_; rintro e W8 ⟨⟨gc, cc, rfl, ho8⟩, hb8⟩; have KB8 := Lib.hid (KB7.out.below hb8 KB7.out.lt); obtain ⟨e0, e1, e2, e3, e4⟩ : W8.cell? ⟨B5, 0, none⟩ = some (.int .i64 N) ∧ W8.cell? ⟨B5, 1, none⟩ = some (.int .i64 L) ∧ W8.cell? ⟨B5, 2, none⟩ = some (.int .i64 M) ∧ W8.cell? ⟨B5, 3, none⟩ = some (.int .i64 R) ∧ W8.cell? ⟨B5, 4, none⟩ = some (.int .i64 P) := ⟨KB8.out.cell 0 _ rfl, KB8.out.cell 1 _ rfl, KB8.out.cell 2 _ rfl, KB8.out.cell 3 _ rfl, KB8.out.cell 4 _ rfl⟩; have HP8 := Lib.hid (And.intro ho8 hb8); clear ho8 hb8))
      all_goals
        clear wy y0 y1 e0 e1 e2 e3 e4
        revert W8
        revert gc cc y
        exact key.out
    intro y gc cc W8 KB8 HP8 hH
    clear hH
    obtain ⟨ho8, hb8⟩ := HP8.out
    have hs6 : W6.heap.size < (W6.drew.alloc (.cells #[.int .i64 N, .int .i64 L, .int .i64 M, .int .i64 R, .int .i64 P] 25)).heap.size := by
      show W6.heap.size < _; simp
    have B8 : Hid (Below A w W8) := BB7.out.trans (hb8.mono (by omega))
    have T8 : Hid (TxW W8 gl (fitT 64 [] (lsW ⟨N, L, M, R, P⟩ (ShR.slots ⟨N, L, M, R, P⟩).toNat s0 ⟨#[]⟩))) := by
      have h1 : TxW W6.drew gl _ := T6.out
      exact (h1.alloc _).below hb8 (by have := T6.out.1; simp; omega)
    have cc8 := ho8.at_ rfl 0 (by simp)
    have cc8 : W8.cell? ⟨gc, 0, none⟩ = some (.int .i64 C) := cc8
    have c0 := KB8.out.cell 0 _ rfl
    have c1 := KB8.out.cell 1 _ rfl
    have c2 := KB8.out.cell 2 _ rfl
    have c3 := KB8.out.cell 3 _ rfl
    have c4 := KB8.out.cell 4 _ rfl
    have P8 : Hid (∃ X, X < 20 ∧ np = min X C ∧ TxW W8 gp (fitT X [] (lsW ⟨N, L, M, R, P⟩ (ShR.slots ⟨N, L, M, R, P⟩).toNat s0 ⟨#[]⟩))) := by
      have h1 : TxW W6.drew gp _ := P6.out
      exact ⟨X, by omega, by rw [HNP.out, HLEN.out], (h1.alloc _).below hb8 (by have := P6.out.1; simp; omega)⟩
    have HV8 := Lib.hid (HVR.out W8)
    have hCn : ¬ ((C : Int) < 0) := by omega
    have HNC : Hid (nl = min 64 C) := by show _ = _; rw [HNL.out, HLEN.out]
    have HA8 : Hid (A ≤ W8.heap.size) := by show _ ≤ _; have := B8.out.size; have := HA.out; omega
    clear ho8 hb8 hs6 HP8 BB7 KB7 HNEW HCH B6 T6 P6 KB6 HVR HNP
    go_wp2_with fail
    refine HV8.out.mono ?_
    rintro e W9 ⟨rfl, hb9⟩
    have KB9 := Lib.hid (KB8.out.below hb9 KB8.out.lt)
    have B9 : Hid (Below A w W9) := B8.out.trans (hb9.mono HA8.out)
    have T9 := Lib.hid (T8.out.below hb9 T8.out.1)
    have P9 : Hid (∃ X, X < 20 ∧ np = min X C ∧ TxW W9 gp (fitT X [] (lsW ⟨N, L, M, R, P⟩ (ShR.slots ⟨N, L, M, R, P⟩).toNat s0 ⟨#[]⟩))) := by
      obtain ⟨X, h1, h2, h3⟩ := P8.out
      exact ⟨X, h1, h2, h3.below hb9 h3.1⟩
    have cc9 := (hb9.cell (p := ⟨gc, 0, none⟩) (lt_of_cell cc8)).trans cc8
    have hmin : min 64 (C : Int) = (nl : Int) := by have := HNC.out; omega
    clear hb9 KB8 B8 T8 P8 HV8 HA8 cc8 c0 c1 c2 c3 c4
    go_wp2
    clear hmin
    have NL9 : Hid (TxN W9 gl (lwA ⟨N, L, M, R, P⟩) nl) := by
      have h1 := T9.out
      rw [HFW.out] at h1
      exact TxW.first h1 (by rw [← HFW.out]; exact HNL.out)
    have NP9 : Hid (TxN W9 gp (lwA ⟨N, L, M, R, P⟩) np ∧ np ≤ C) := by
      obtain ⟨X, h1, h2, h3⟩ := P9.out
      rw [HFW.out] at h3
      exact ⟨TxW.first h3 (by rw [← HFW.out, HLEN.out]; exact h2), by omega⟩
    have hnlC : nl ≤ C := by have := HNC.out; omega
    have hnpC : np ≤ C := NP9.out.2
    have hnp : np ≤ nl := by
      obtain ⟨X, h1, h2, h3⟩ := P9.out
      have := HNC.out
      omega
    have HR0 : Hid (ShA ⟨N, L, M, R, P⟩ B5 gl gp nl np A w (.int .i64 0) W9) := ⟨0, Nat.zero_le _, rfl, KB9.out, NL9.out, NP9.out.1, B9.out⟩
    clear NL9 NP9 KB9 T9 P9 B9 HLEN HFW
    go_loopw [14] (fun vi wr => ShA ⟨N, L, M, R, P⟩ B5 gl gp nl np A w vi wr) (fun vi _ => nl - (intOf vi).toNat)
    case atStart => exact HR0.out
    case round =>
      obtain ⟨i, hi, rfl, hkb, hnl, hnpx, hbl⟩ := hrel
      have KB := Lib.hid hkb
      have NL := Lib.hid hnl
      have NP := Lib.hid hnpx
      have BL := Lib.hid hbl
      clear hkb hnl hnpx hbl HR0
      by_cases hlt : i < nl
      · have i0 : (0 : Int) ≤ (i : Int) := by omega
        have i1 : (i : Int) < (nl : Int) := by omega
        have c0 := KB.out.cell 0 _ rfl
        have c1 := KB.out.cell 1 _ rfl
        have c2 := KB.out.cell 2 _ rfl
        have c3 := KB.out.cell 3 _ rfl
        have c4 := KB.out.cell 4 _ rfl
        have ct := NL.out.2 i hlt
        have HI1 := Lib.hid (HIS.out i (by omega))
        obtain ⟨t, ht⟩ : ∃ t, nthB (lwA ⟨N, L, M, R, P⟩) i = t := ⟨_, rfl⟩
        have HT := Lib.hid ht
        rw [ht] at ct HI1
        clear ht
        have HIC : Hid (∀ W, _) := Lib.hid (fun W => HISW.out t (by have := HI1.out.2; omega) W)
        rw [HI1.out.1] at HIC
        go_wp2
        go_region_held3 (fun w' => w'.cell? ⟨B5, 0, none⟩ = some (.int .i64 N) ∧ w'.cell? ⟨B5, 1, none⟩ = some (.int .i64 L) ∧ w'.cell? ⟨B5, 2, none⟩ = some (.int .i64 M) ∧ w'.cell? ⟨B5, 3, none⟩ = some (.int .i64 R) ∧ w'.cell? ⟨B5, 4, none⟩ = some (.int .i64 P) ∧ w'.cell? ⟨gl, i, none⟩ = some (.string t)) (first | go_keep)
          ((go_at_call 11; refine (HIC.out wr.drew).mono ?_; rintro e W10 ⟨rfl, hb10⟩; have KB10 := Lib.hid ((KB.out.drewN 1).below hb10 KB.out.lt); obtain ⟨d0, d1, d2, d3, d4⟩ : W10.cell? ⟨B5, 0, none⟩ = some (.int .i64 N) ∧ W10.cell? ⟨B5, 1, none⟩ = some (.int .i64 L) ∧ W10.cell? ⟨B5, 2, none⟩ = some (.int .i64 M) ∧ W10.cell? ⟨B5, 3, none⟩ = some (.int .i64 R) ∧ W10.cell? ⟨B5, 4, none⟩ = some (.int .i64 P) := ⟨KB10.out.cell 0 _ rfl, KB10.out.cell 1 _ rfl, KB10.out.cell 2 _ rfl, KB10.out.cell 3 _ rfl, KB10.out.cell 4 _ rfl⟩; have NL10 := Lib.hid (TxN.below (w := wr.drew) NL.out hb10 NL.out.1); have NP10 := Lib.hid (TxN.below (w := wr.drew) NP.out hb10 NP.out.1); have ct10 := NL10.out.2 i hlt; rw [HT.out] at ct10; have HB10 := Lib.hid hb10; clear hb10))
        -- ROUND1
        have BL10 : Hid (Below A w W10) := BL.out.drew.trans (HB10.out.mono (by have := BL.out.size; have := HA.out; show A ≤ wr.heap.size; omega))
        have BLA : Hid (A ≤ W10.heap.size) := by show _ ≤ _; have := BL10.out.size; have := HA.out; omega
        have w1 : IntKind.i64.wrap ((i : Int) + 1) = (i : Int) + 1 := IntWalk.i64_in _ (by have := HCT.out; omega)
        clear c0 c1 c2 c3 c4 ct HIC HISW HB10 KB NL NP BL
        go_upto_region 14 with fail
        go_cut [159] from 106 to 195 (fun s159 wx => s159 = .bool false ∧ wx = W10.drew)
        case first =>
          by_cases hz : i = 0
          · have g1 : ¬ ((i : Int) > 0) := by omega
            have g1' : decide ((0 : Int) < (i : Int)) = false := decide_eq_false (by omega)
            have g1a : decide (0 < i) = false := decide_eq_false (by omega)
            have g1b : decide ((i : Int) > 0) = false := decide_eq_false (by omega)
            clear hz
            by_cases hp : i < np
            · skip
              have cp : W10.cell? ⟨gp, i, none⟩ = some (.string t) := by rw [NP10.out.2 i hp, HT.out]
              have g2 : (i : Int) < (np : Int) := by omega
              refine wp_region_held_drew (S := fun w' => w'.cell? ⟨gl, i, none⟩ = some (.string t) ∧ w'.cell? ⟨gp, i, none⟩ = some (.string t)) (by kernel_rfl) ?_ (fun hHeld => ?_)
              · (try dsimp only); go_keep
              refine wpAnyH_take (i := 0) (v := ?vq10) rfl (by kernel_rfl) (by kernel_rfl) (by kernel_rfl) (fun _ _ _ h => h) (Or.inl ⟨by kernel_rfl, ?yq10⟩) (by assumption) ?rq10
              case yq10 => (intro w hSw; (try dsimp only at hSw); go_split_ands; go_simp <;> (try with_reducible rfl))
              simp (config := {maxSteps := 2000000}) only [Act.put, List.setIfInBounds_toArray, List.set_cons_zero, List.set_cons_succ]
              refine wpAnyH_take (i := 1) (v := ?vq11) rfl (by kernel_rfl) (by kernel_rfl) (by kernel_rfl) (fun _ _ _ h => h) (Or.inl ⟨by kernel_rfl, ?yq11⟩) (by assumption) ?rq11
              case yq11 => (intro w hSw; (try dsimp only at hSw); go_split_ands; go_simp <;> (try with_reducible rfl))
              simp (config := {maxSteps := 2000000}) only [Act.put, List.setIfInBounds_toArray, List.set_cons_zero, List.set_cons_succ]
              refine wpAnyH_take (i := 2) (v := ?vq12) rfl (by kernel_rfl) (by kernel_rfl) (by kernel_rfl) (fun _ _ _ h => h) (Or.inl ⟨by kernel_rfl, ?yq12⟩) (by assumption) ?rq12
              case yq12 => (intro w hSw; (try dsimp only at hSw); go_split_ands; go_simp <;> (try with_reducible rfl))
              simp (config := {maxSteps := 2000000}) only [Act.put, List.setIfInBounds_toArray, List.set_cons_zero, List.set_cons_succ]
              refine wpAnyH_take (i := 3) (v := ?vq13) rfl (by kernel_rfl) (by kernel_rfl) (by kernel_rfl) (fun _ _ _ h => h) (Or.inl ⟨by kernel_rfl, ?yq13⟩) (by assumption) ?rq13
              case yq13 => (intro w hSw; (try dsimp only at hSw); go_split_ands; go_simp <;> (try with_reducible rfl))
              simp (config := {maxSteps := 2000000}) only [Act.put, List.setIfInBounds_toArray, List.set_cons_zero, List.set_cons_succ]
              refine wpAnyH_take (i := 4) (v := ?vq14) rfl (by kernel_rfl) (by kernel_rfl) (by kernel_rfl) (fun _ _ _ h => h) (Or.inl ⟨by kernel_rfl, ?yq14⟩) (by assumption) ?rq14
              case yq14 => (intro w hSw; (try dsimp only at hSw); go_split_ands; go_simp <;> (try with_reducible rfl))
              simp (config := {maxSteps := 2000000}) only [Act.put, List.setIfInBounds_toArray, List.set_cons_zero, List.set_cons_succ]
              refine wpAnyH_take (i := 5) (v := ?vq15) rfl (by kernel_rfl) (by kernel_rfl) (by kernel_rfl) (fun _ _ _ h => h) (Or.inl ⟨by kernel_rfl, ?yq15⟩) (by assumption) ?rq15
              case yq15 => (intro w hSw; (try dsimp only at hSw); go_split_ands; go_simp <;> (try with_reducible rfl))
              simp (config := {maxSteps := 2000000}) only [Act.put, List.setIfInBounds_toArray, List.set_cons_zero, List.set_cons_succ]
              refine wpAnyH_take (i := 6) (v := ?vq16) rfl (by kernel_rfl) (by kernel_rfl) (by kernel_rfl) (fun _ _ _ h => h) (Or.inl ⟨by kernel_rfl, ?yq16⟩) (by assumption) ?rq16
              case yq16 => (intro w hSw; (try dsimp only at hSw); go_split_ands; go_simp <;> (try with_reducible rfl))
              simp (config := {maxSteps := 2000000}) only [Act.put, List.setIfInBounds_toArray, List.set_cons_zero, List.set_cons_succ]
              refine wpAnyH_take (i := 7) (v := ?vq17) rfl (by kernel_rfl) (by kernel_rfl) (by kernel_rfl) (fun _ _ _ h => h) (Or.inl ⟨by kernel_rfl, ?yq17⟩) (by assumption) ?rq17
              case yq17 => (intro w hSw; (try dsimp only at hSw); go_split_ands; go_simp <;> (try with_reducible rfl))
              simp (config := {maxSteps := 2000000}) only [Act.put, List.setIfInBounds_toArray, List.set_cons_zero, List.set_cons_succ]
              refine wpAnyH_take (i := 8) (v := ?vq18) rfl (by kernel_rfl) (by kernel_rfl) (by kernel_rfl) (fun _ _ _ h => h) (Or.inl ⟨by kernel_rfl, ?yq18⟩) (by assumption) ?rq18
              case yq18 => (intro w hSw; (try dsimp only at hSw); go_split_ands; go_simp <;> (try with_reducible rfl))
              simp (config := {maxSteps := 2000000}) only [Act.put, List.setIfInBounds_toArray, List.set_cons_zero, List.set_cons_succ]
              refine wpAnyH_take (i := 9) (v := ?vq19) rfl (by kernel_rfl) (by kernel_rfl) (by kernel_rfl) (fun _ _ _ h => h) (Or.inl ⟨by kernel_rfl, ?yq19⟩) (by assumption) ?rq19
              case yq19 => (intro w hSw; (try dsimp only at hSw); go_split_ands; go_simp <;> (try with_reducible rfl))
              simp (config := {maxSteps := 2000000}) only [Act.put, List.setIfInBounds_toArray, List.set_cons_zero, List.set_cons_succ]
              refine wpAnyH_take (i := 10) (v := undef) rfl (by kernel_rfl) (by kernel_rfl) (by kernel_rfl) (fun _ _ _ h => h) (Or.inr ⟨by kernel_rfl, rfl⟩) (by assumption) ?_
              simp (config := {maxSteps := 2000000}) only [Act.put, List.setIfInBounds_toArray, List.set_cons_zero, List.set_cons_succ]
              refine wpAnyH_take (i := 11) (v := undef) rfl (by kernel_rfl) (by kernel_rfl) (by kernel_rfl) (fun _ _ _ h => h) (Or.inr ⟨by kernel_rfl, rfl⟩) (by assumption) ?_
              simp (config := {maxSteps := 2000000}) only [Act.put, List.setIfInBounds_toArray, List.set_cons_zero, List.set_cons_succ]
              refine wpAnyH_take (i := 12) (v := undef) rfl (by kernel_rfl) (by kernel_rfl) (by kernel_rfl) (fun _ _ _ h => h) (Or.inr ⟨by kernel_rfl, rfl⟩) (by assumption) ?_
              simp (config := {maxSteps := 2000000}) only [Act.put, List.setIfInBounds_toArray, List.set_cons_zero, List.set_cons_succ]
              refine wpAnyH_take (i := 13) (v := undef) rfl (by kernel_rfl) (by kernel_rfl) (by kernel_rfl) (fun _ _ _ h => h) (Or.inr ⟨by kernel_rfl, rfl⟩) (by assumption) ?_
              simp (config := {maxSteps := 2000000}) only [Act.put, List.setIfInBounds_toArray, List.set_cons_zero, List.set_cons_succ]
              refine wpAnyH_take (i := 14) (v := undef) rfl (by kernel_rfl) (by kernel_rfl) (by kernel_rfl) (fun _ _ _ h => h) (Or.inr ⟨by kernel_rfl, rfl⟩) (by assumption) ?_
              simp (config := {maxSteps := 2000000}) only [Act.put, List.setIfInBounds_toArray, List.set_cons_zero, List.set_cons_succ]
              refine wpAnyH_take (i := 15) (v := undef) rfl (by kernel_rfl) (by kernel_rfl) (by kernel_rfl) (fun _ _ _ h => h) (Or.inr ⟨by kernel_rfl, rfl⟩) (by assumption) ?_
              simp (config := {maxSteps := 2000000}) only [Act.put, List.setIfInBounds_toArray, List.set_cons_zero, List.set_cons_succ]
              refine wpAnyH_take (i := 16) (v := undef) rfl (by kernel_rfl) (by kernel_rfl) (by kernel_rfl) (fun _ _ _ h => h) (Or.inr ⟨by kernel_rfl, rfl⟩) (by assumption) ?_
              simp (config := {maxSteps := 2000000}) only [Act.put, List.setIfInBounds_toArray, List.set_cons_zero, List.set_cons_succ]
              refine wpAnyH_take (i := 17) (v := undef) rfl (by kernel_rfl) (by kernel_rfl) (by kernel_rfl) (fun _ _ _ h => h) (Or.inr ⟨by kernel_rfl, rfl⟩) (by assumption) ?_
              simp (config := {maxSteps := 2000000}) only [Act.put, List.setIfInBounds_toArray, List.set_cons_zero, List.set_cons_succ]
              refine wpAnyH_take (i := 18) (v := undef) rfl (by kernel_rfl) (by kernel_rfl) (by kernel_rfl) (fun _ _ _ h => h) (Or.inr ⟨by kernel_rfl, rfl⟩) (by assumption) ?_
              simp (config := {maxSteps := 2000000}) only [Act.put, List.setIfInBounds_toArray, List.set_cons_zero, List.set_cons_succ]
              refine wpAnyH_take (i := 19) (v := undef) rfl (by kernel_rfl) (by kernel_rfl) (by kernel_rfl) (fun _ _ _ h => h) (Or.inr ⟨by kernel_rfl, rfl⟩) (by assumption) ?_
              simp (config := {maxSteps := 2000000}) only [Act.put, List.setIfInBounds_toArray, List.set_cons_zero, List.set_cons_succ]
              refine wpAnyH_take (i := 20) (v := ?vq120) rfl (by kernel_rfl) (by kernel_rfl) (by kernel_rfl) (fun _ _ _ h => h) (Or.inl ⟨by kernel_rfl, ?yq120⟩) (by assumption) ?rq120
              case yq120 => (intro w hSw; (try dsimp only at hSw); go_split_ands; go_simp <;> (try with_reducible rfl))
              simp (config := {maxSteps := 2000000}) only [Act.put, List.setIfInBounds_toArray, List.set_cons_zero, List.set_cons_succ]
              refine wpAnyH_take (i := 21) (v := ?vq121) rfl (by kernel_rfl) (by kernel_rfl) (by kernel_rfl) (fun _ _ _ h => h) (Or.inl ⟨by kernel_rfl, ?yq121⟩) (by assumption) ?rq121
              case yq121 => (intro w hSw; (try dsimp only at hSw); go_split_ands; go_simp <;> (try with_reducible rfl))
              simp (config := {maxSteps := 2000000}) only [Act.put, List.setIfInBounds_toArray, List.set_cons_zero, List.set_cons_succ]
              refine wpAnyH_take (i := 22) (v := ?vq122) rfl (by kernel_rfl) (by kernel_rfl) (by kernel_rfl) (fun _ _ _ h => h) (Or.inl ⟨by kernel_rfl, ?yq122⟩) (by assumption) ?rq122
              case yq122 => (intro w hSw; (try dsimp only at hSw); go_split_ands; go_simp <;> (try with_reducible rfl))
              simp (config := {maxSteps := 2000000}) only [Act.put, List.setIfInBounds_toArray, List.set_cons_zero, List.set_cons_succ]
              refine wpAnyH_take (i := 23) (v := ?vq123) rfl (by kernel_rfl) (by kernel_rfl) (by kernel_rfl) (fun _ _ _ h => h) (Or.inl ⟨by kernel_rfl, ?yq123⟩) (by assumption) ?rq123
              case yq123 => (intro w hSw; (try dsimp only at hSw); go_split_ands; go_simp <;> (try with_reducible rfl))
              simp (config := {maxSteps := 2000000}) only [Act.put, List.setIfInBounds_toArray, List.set_cons_zero, List.set_cons_succ]
              refine wpAnyH_take (i := 24) (v := ?vq124) rfl (by kernel_rfl) (by kernel_rfl) (by kernel_rfl) (fun _ _ _ h => h) (Or.inl ⟨by kernel_rfl, ?yq124⟩) (by assumption) ?rq124
              case yq124 => (intro w hSw; (try dsimp only at hSw); go_split_ands; go_simp <;> (try with_reducible rfl))
              simp (config := {maxSteps := 2000000}) only [Act.put, List.setIfInBounds_toArray, List.set_cons_zero, List.set_cons_succ]
              refine wpAnyH_take (i := 25) (v := ?vq125) rfl (by kernel_rfl) (by kernel_rfl) (by kernel_rfl) (fun _ _ _ h => h) (Or.inl ⟨by kernel_rfl, ?yq125⟩) (by assumption) ?rq125
              case yq125 => (intro w hSw; (try dsimp only at hSw); go_split_ands; go_simp <;> (try with_reducible rfl))
              simp (config := {maxSteps := 2000000}) only [Act.put, List.setIfInBounds_toArray, List.set_cons_zero, List.set_cons_succ]
              refine wpAnyH_take (i := 26) (v := ?vq126) rfl (by kernel_rfl) (by kernel_rfl) (by kernel_rfl) (fun _ _ _ h => h) (Or.inl ⟨by kernel_rfl, ?yq126⟩) (by assumption) ?rq126
              case yq126 => (intro w hSw; (try dsimp only at hSw); go_split_ands; go_simp <;> (try with_reducible rfl))
              simp (config := {maxSteps := 2000000}) only [Act.put, List.setIfInBounds_toArray, List.set_cons_zero, List.set_cons_succ]
              refine wpAnyH_take (i := 27) (v := ?vq127) rfl (by kernel_rfl) (by kernel_rfl) (by kernel_rfl) (fun _ _ _ h => h) (Or.inl ⟨by kernel_rfl, ?yq127⟩) (by assumption) ?rq127
              case yq127 => (intro w hSw; (try dsimp only at hSw); go_split_ands; go_simp <;> (try with_reducible rfl))
              simp (config := {maxSteps := 2000000}) only [Act.put, List.setIfInBounds_toArray, List.set_cons_zero, List.set_cons_succ]
              refine wpAnyH_take (i := 28) (v := ?vq128) rfl (by kernel_rfl) (by kernel_rfl) (by kernel_rfl) (fun _ _ _ h => h) (Or.inl ⟨by kernel_rfl, ?yq128⟩) (by assumption) ?rq128
              case yq128 => (intro w hSw; (try dsimp only at hSw); go_split_ands; go_simp <;> (try with_reducible rfl))
              simp (config := {maxSteps := 2000000}) only [Act.put, List.setIfInBounds_toArray, List.set_cons_zero, List.set_cons_succ]
              refine wpAnyH_take (i := 29) (v := ?vq129) rfl (by kernel_rfl) (by kernel_rfl) (by kernel_rfl) (fun _ _ _ h => h) (Or.inl ⟨by kernel_rfl, ?yq129⟩) (by assumption) ?rq129
              case yq129 => (intro w hSw; (try dsimp only at hSw); go_split_ands; go_simp <;> (try with_reducible rfl))
              simp (config := {maxSteps := 2000000}) only [Act.put, List.setIfInBounds_toArray, List.set_cons_zero, List.set_cons_succ]
              refine wpAnyH_take (i := 30) (v := ?vq130) rfl (by kernel_rfl) (by kernel_rfl) (by kernel_rfl) (fun _ _ _ h => h) (Or.inl ⟨by kernel_rfl, ?yq130⟩) (by assumption) ?rq130
              case yq130 => (intro w hSw; (try dsimp only at hSw); go_split_ands; go_simp <;> (try with_reducible rfl))
              simp (config := {maxSteps := 2000000}) only [Act.put, List.setIfInBounds_toArray, List.set_cons_zero, List.set_cons_succ]
              refine wpAnyH_take (i := 31) (v := ?vq131) rfl (by kernel_rfl) (by kernel_rfl) (by kernel_rfl) (fun _ _ _ h => h) (Or.inl ⟨by kernel_rfl, ?yq131⟩) (by assumption) ?rq131
              case yq131 => (intro w hSw; (try dsimp only at hSw); go_split_ands; go_simp <;> (try with_reducible rfl))
              simp (config := {maxSteps := 2000000}) only [Act.put, List.setIfInBounds_toArray, List.set_cons_zero, List.set_cons_succ]
              refine wpAnyH_take (i := 32) (v := ?vq132) rfl (by kernel_rfl) (by kernel_rfl) (by kernel_rfl) (fun _ _ _ h => h) (Or.inl ⟨by kernel_rfl, ?yq132⟩) (by assumption) ?rq132
              case yq132 => (intro w hSw; (try dsimp only at hSw); go_split_ands; go_simp <;> (try with_reducible rfl))
              simp (config := {maxSteps := 2000000}) only [Act.put, List.setIfInBounds_toArray, List.set_cons_zero, List.set_cons_succ]
              refine wpAnyH_take (i := 33) (v := ?vq133) rfl (by kernel_rfl) (by kernel_rfl) (by kernel_rfl) (fun _ _ _ h => h) (Or.inl ⟨by kernel_rfl, ?yq133⟩) (by assumption) ?rq133
              case yq133 => (intro w hSw; (try dsimp only at hSw); go_split_ands; go_simp <;> (try with_reducible rfl))
              simp (config := {maxSteps := 2000000}) only [Act.put, List.setIfInBounds_toArray, List.set_cons_zero, List.set_cons_succ]
              refine wpAnyH_take (i := 34) (v := ?vq134) rfl (by kernel_rfl) (by kernel_rfl) (by kernel_rfl) (fun _ _ _ h => h) (Or.inl ⟨by kernel_rfl, ?yq134⟩) (by assumption) ?rq134
              case yq134 => (intro w hSw; (try dsimp only at hSw); go_split_ands; go_simp <;> (try with_reducible rfl))
              simp (config := {maxSteps := 2000000}) only [Act.put, List.setIfInBounds_toArray, List.set_cons_zero, List.set_cons_succ]
              refine wpAnyH_take (i := 35) (v := ?vq135) rfl (by kernel_rfl) (by kernel_rfl) (by kernel_rfl) (fun _ _ _ h => h) (Or.inl ⟨by kernel_rfl, ?yq135⟩) (by assumption) ?rq135
              case yq135 => (intro w hSw; (try dsimp only at hSw); go_split_ands; go_simp <;> (try with_reducible rfl))
              simp (config := {maxSteps := 2000000}) only [Act.put, List.setIfInBounds_toArray, List.set_cons_zero, List.set_cons_succ]
              refine wpAnyH_take (i := 36) (v := ?vq136) rfl (by kernel_rfl) (by kernel_rfl) (by kernel_rfl) (fun _ _ _ h => h) (Or.inl ⟨by kernel_rfl, ?yq136⟩) (by assumption) ?rq136
              case yq136 => (intro w hSw; (try dsimp only at hSw); go_split_ands; go_simp <;> (try with_reducible rfl))
              simp (config := {maxSteps := 2000000}) only [Act.put, List.setIfInBounds_toArray, List.set_cons_zero, List.set_cons_succ]
              refine wpAnyH_take (i := 37) (v := ?vq137) rfl (by kernel_rfl) (by kernel_rfl) (by kernel_rfl) (fun _ _ _ h => h) (Or.inl ⟨by kernel_rfl, ?yq137⟩) (by assumption) ?rq137
              case yq137 => (intro w hSw; (try dsimp only at hSw); go_split_ands; go_simp <;> (try with_reducible rfl))
              simp (config := {maxSteps := 2000000}) only [Act.put, List.setIfInBounds_toArray, List.set_cons_zero, List.set_cons_succ]
              refine wpAnyH_take (i := 38) (v := ?vq138) rfl (by kernel_rfl) (by kernel_rfl) (by kernel_rfl) (fun _ _ _ h => h) (Or.inl ⟨by kernel_rfl, ?yq138⟩) (by assumption) ?rq138
              case yq138 => (intro w hSw; (try dsimp only at hSw); go_split_ands; go_simp <;> (try with_reducible rfl))
              simp (config := {maxSteps := 2000000}) only [Act.put, List.setIfInBounds_toArray, List.set_cons_zero, List.set_cons_succ]
              refine wpAnyH_done (by kernel_rfl) ?_ _
              go_wp2
              go_meet
              exact ⟨rfl, rfl⟩
            · skip
              have g2 : ¬ ((i : Int) < (np : Int)) := by omega
              have g2' : decide ((i : Int) < (np : Int)) = false := decide_eq_false (by omega)
              have g2a : decide (i < np) = false := decide_eq_false (by omega)
              refine wp_region_held_drew (S := fun w' => w'.cell? ⟨gl, i, none⟩ = some (.string t)) (by kernel_rfl) ?_ (fun hHeld => ?_)
              · (try dsimp only); go_keep
              refine wpAnyH_take (i := 0) (v := ?vq20) rfl (by kernel_rfl) (by kernel_rfl) (by kernel_rfl) (fun _ _ _ h => h) (Or.inl ⟨by kernel_rfl, ?yq20⟩) (by assumption) ?rq20
              case yq20 => (intro w hSw; (try dsimp only at hSw); go_split_ands; go_simp <;> (try with_reducible rfl))
              simp (config := {maxSteps := 2000000}) only [Act.put, List.setIfInBounds_toArray, List.set_cons_zero, List.set_cons_succ]
              refine wpAnyH_take (i := 1) (v := ?vq21) rfl (by kernel_rfl) (by kernel_rfl) (by kernel_rfl) (fun _ _ _ h => h) (Or.inl ⟨by kernel_rfl, ?yq21⟩) (by assumption) ?rq21
              case yq21 => (intro w hSw; (try dsimp only at hSw); go_split_ands; go_simp <;> (try with_reducible rfl))
              simp (config := {maxSteps := 2000000}) only [Act.put, List.setIfInBounds_toArray, List.set_cons_zero, List.set_cons_succ]
              refine wpAnyH_take (i := 2) (v := ?vq22) rfl (by kernel_rfl) (by kernel_rfl) (by kernel_rfl) (fun _ _ _ h => h) (Or.inl ⟨by kernel_rfl, ?yq22⟩) (by assumption) ?rq22
              case yq22 => (intro w hSw; (try dsimp only at hSw); go_split_ands; go_simp <;> (try with_reducible rfl))
              simp (config := {maxSteps := 2000000}) only [Act.put, List.setIfInBounds_toArray, List.set_cons_zero, List.set_cons_succ]
              refine wpAnyH_take (i := 3) (v := ?vq23) rfl (by kernel_rfl) (by kernel_rfl) (by kernel_rfl) (fun _ _ _ h => h) (Or.inl ⟨by kernel_rfl, ?yq23⟩) (by assumption) ?rq23
              case yq23 => (intro w hSw; (try dsimp only at hSw); go_split_ands; go_simp <;> (try with_reducible rfl))
              simp (config := {maxSteps := 2000000}) only [Act.put, List.setIfInBounds_toArray, List.set_cons_zero, List.set_cons_succ]
              refine wpAnyH_take (i := 4) (v := ?vq24) rfl (by kernel_rfl) (by kernel_rfl) (by kernel_rfl) (fun _ _ _ h => h) (Or.inl ⟨by kernel_rfl, ?yq24⟩) (by assumption) ?rq24
              case yq24 => (intro w hSw; (try dsimp only at hSw); go_split_ands; go_simp <;> (try with_reducible rfl))
              simp (config := {maxSteps := 2000000}) only [Act.put, List.setIfInBounds_toArray, List.set_cons_zero, List.set_cons_succ]
              refine wpAnyH_take (i := 5) (v := ?vq25) rfl (by kernel_rfl) (by kernel_rfl) (by kernel_rfl) (fun _ _ _ h => h) (Or.inl ⟨by kernel_rfl, ?yq25⟩) (by assumption) ?rq25
              case yq25 => (intro w hSw; (try dsimp only at hSw); go_split_ands; go_simp <;> (try with_reducible rfl))
              simp (config := {maxSteps := 2000000}) only [Act.put, List.setIfInBounds_toArray, List.set_cons_zero, List.set_cons_succ]
              refine wpAnyH_take (i := 6) (v := ?vq26) rfl (by kernel_rfl) (by kernel_rfl) (by kernel_rfl) (fun _ _ _ h => h) (Or.inl ⟨by kernel_rfl, ?yq26⟩) (by assumption) ?rq26
              case yq26 => (intro w hSw; (try dsimp only at hSw); go_split_ands; go_simp <;> (try with_reducible rfl))
              simp (config := {maxSteps := 2000000}) only [Act.put, List.setIfInBounds_toArray, List.set_cons_zero, List.set_cons_succ]
              refine wpAnyH_take (i := 7) (v := ?vq27) rfl (by kernel_rfl) (by kernel_rfl) (by kernel_rfl) (fun _ _ _ h => h) (Or.inl ⟨by kernel_rfl, ?yq27⟩) (by assumption) ?rq27
              case yq27 => (intro w hSw; (try dsimp only at hSw); go_split_ands; go_simp <;> (try with_reducible rfl))
              simp (config := {maxSteps := 2000000}) only [Act.put, List.setIfInBounds_toArray, List.set_cons_zero, List.set_cons_succ]
              refine wpAnyH_take (i := 8) (v := ?vq28) rfl (by kernel_rfl) (by kernel_rfl) (by kernel_rfl) (fun _ _ _ h => h) (Or.inl ⟨by kernel_rfl, ?yq28⟩) (by assumption) ?rq28
              case yq28 => (intro w hSw; (try dsimp only at hSw); go_split_ands; go_simp <;> (try with_reducible rfl))
              simp (config := {maxSteps := 2000000}) only [Act.put, List.setIfInBounds_toArray, List.set_cons_zero, List.set_cons_succ]
              refine wpAnyH_take (i := 9) (v := ?vq29) rfl (by kernel_rfl) (by kernel_rfl) (by kernel_rfl) (fun _ _ _ h => h) (Or.inl ⟨by kernel_rfl, ?yq29⟩) (by assumption) ?rq29
              case yq29 => (intro w hSw; (try dsimp only at hSw); go_split_ands; go_simp <;> (try with_reducible rfl))
              simp (config := {maxSteps := 2000000}) only [Act.put, List.setIfInBounds_toArray, List.set_cons_zero, List.set_cons_succ]
              refine wpAnyH_take (i := 10) (v := undef) rfl (by kernel_rfl) (by kernel_rfl) (by kernel_rfl) (fun _ _ _ h => h) (Or.inr ⟨by kernel_rfl, rfl⟩) (by assumption) ?_
              simp (config := {maxSteps := 2000000}) only [Act.put, List.setIfInBounds_toArray, List.set_cons_zero, List.set_cons_succ]
              refine wpAnyH_take (i := 11) (v := undef) rfl (by kernel_rfl) (by kernel_rfl) (by kernel_rfl) (fun _ _ _ h => h) (Or.inr ⟨by kernel_rfl, rfl⟩) (by assumption) ?_
              simp (config := {maxSteps := 2000000}) only [Act.put, List.setIfInBounds_toArray, List.set_cons_zero, List.set_cons_succ]
              refine wpAnyH_take (i := 12) (v := undef) rfl (by kernel_rfl) (by kernel_rfl) (by kernel_rfl) (fun _ _ _ h => h) (Or.inr ⟨by kernel_rfl, rfl⟩) (by assumption) ?_
              simp (config := {maxSteps := 2000000}) only [Act.put, List.setIfInBounds_toArray, List.set_cons_zero, List.set_cons_succ]
              refine wpAnyH_take (i := 13) (v := undef) rfl (by kernel_rfl) (by kernel_rfl) (by kernel_rfl) (fun _ _ _ h => h) (Or.inr ⟨by kernel_rfl, rfl⟩) (by assumption) ?_
              simp (config := {maxSteps := 2000000}) only [Act.put, List.setIfInBounds_toArray, List.set_cons_zero, List.set_cons_succ]
              refine wpAnyH_take (i := 14) (v := undef) rfl (by kernel_rfl) (by kernel_rfl) (by kernel_rfl) (fun _ _ _ h => h) (Or.inr ⟨by kernel_rfl, rfl⟩) (by assumption) ?_
              simp (config := {maxSteps := 2000000}) only [Act.put, List.setIfInBounds_toArray, List.set_cons_zero, List.set_cons_succ]
              refine wpAnyH_take (i := 15) (v := undef) rfl (by kernel_rfl) (by kernel_rfl) (by kernel_rfl) (fun _ _ _ h => h) (Or.inr ⟨by kernel_rfl, rfl⟩) (by assumption) ?_
              simp (config := {maxSteps := 2000000}) only [Act.put, List.setIfInBounds_toArray, List.set_cons_zero, List.set_cons_succ]
              refine wpAnyH_take (i := 16) (v := undef) rfl (by kernel_rfl) (by kernel_rfl) (by kernel_rfl) (fun _ _ _ h => h) (Or.inr ⟨by kernel_rfl, rfl⟩) (by assumption) ?_
              simp (config := {maxSteps := 2000000}) only [Act.put, List.setIfInBounds_toArray, List.set_cons_zero, List.set_cons_succ]
              refine wpAnyH_take (i := 17) (v := undef) rfl (by kernel_rfl) (by kernel_rfl) (by kernel_rfl) (fun _ _ _ h => h) (Or.inr ⟨by kernel_rfl, rfl⟩) (by assumption) ?_
              simp (config := {maxSteps := 2000000}) only [Act.put, List.setIfInBounds_toArray, List.set_cons_zero, List.set_cons_succ]
              refine wpAnyH_take (i := 18) (v := undef) rfl (by kernel_rfl) (by kernel_rfl) (by kernel_rfl) (fun _ _ _ h => h) (Or.inr ⟨by kernel_rfl, rfl⟩) (by assumption) ?_
              simp (config := {maxSteps := 2000000}) only [Act.put, List.setIfInBounds_toArray, List.set_cons_zero, List.set_cons_succ]
              refine wpAnyH_take (i := 19) (v := undef) rfl (by kernel_rfl) (by kernel_rfl) (by kernel_rfl) (fun _ _ _ h => h) (Or.inr ⟨by kernel_rfl, rfl⟩) (by assumption) ?_
              simp (config := {maxSteps := 2000000}) only [Act.put, List.setIfInBounds_toArray, List.set_cons_zero, List.set_cons_succ]
              refine wpAnyH_take (i := 20) (v := ?vq220) rfl (by kernel_rfl) (by kernel_rfl) (by kernel_rfl) (fun _ _ _ h => h) (Or.inl ⟨by kernel_rfl, ?yq220⟩) (by assumption) ?rq220
              case yq220 => (intro w hSw; (try dsimp only at hSw); go_split_ands; go_simp <;> (try with_reducible rfl))
              simp (config := {maxSteps := 2000000}) only [Act.put, List.setIfInBounds_toArray, List.set_cons_zero, List.set_cons_succ]
              refine wpAnyH_take (i := 21) (v := ?vq221) rfl (by kernel_rfl) (by kernel_rfl) (by kernel_rfl) (fun _ _ _ h => h) (Or.inl ⟨by kernel_rfl, ?yq221⟩) (by assumption) ?rq221
              case yq221 => (intro w hSw; (try dsimp only at hSw); go_split_ands; go_simp <;> (try with_reducible rfl))
              simp (config := {maxSteps := 2000000}) only [Act.put, List.setIfInBounds_toArray, List.set_cons_zero, List.set_cons_succ]
              refine wpAnyH_take (i := 22) (v := ?vq222) rfl (by kernel_rfl) (by kernel_rfl) (by kernel_rfl) (fun _ _ _ h => h) (Or.inl ⟨by kernel_rfl, ?yq222⟩) (by assumption) ?rq222
              case yq222 => (intro w hSw; (try dsimp only at hSw); go_split_ands; go_simp <;> (try with_reducible rfl))
              simp (config := {maxSteps := 2000000}) only [Act.put, List.setIfInBounds_toArray, List.set_cons_zero, List.set_cons_succ]
              refine wpAnyH_take (i := 23) (v := ?vq223) rfl (by kernel_rfl) (by kernel_rfl) (by kernel_rfl) (fun _ _ _ h => h) (Or.inl ⟨by kernel_rfl, ?yq223⟩) (by assumption) ?rq223
              case yq223 => (intro w hSw; (try dsimp only at hSw); go_split_ands; go_simp <;> (try with_reducible rfl))
              simp (config := {maxSteps := 2000000}) only [Act.put, List.setIfInBounds_toArray, List.set_cons_zero, List.set_cons_succ]
              refine wpAnyH_take (i := 24) (v := ?vq224) rfl (by kernel_rfl) (by kernel_rfl) (by kernel_rfl) (fun _ _ _ h => h) (Or.inl ⟨by kernel_rfl, ?yq224⟩) (by assumption) ?rq224
              case yq224 => (intro w hSw; (try dsimp only at hSw); go_split_ands; go_simp <;> (try with_reducible rfl))
              simp (config := {maxSteps := 2000000}) only [Act.put, List.setIfInBounds_toArray, List.set_cons_zero, List.set_cons_succ]
              refine wpAnyH_take (i := 25) (v := ?vq225) rfl (by kernel_rfl) (by kernel_rfl) (by kernel_rfl) (fun _ _ _ h => h) (Or.inl ⟨by kernel_rfl, ?yq225⟩) (by assumption) ?rq225
              case yq225 => (intro w hSw; (try dsimp only at hSw); go_split_ands; go_simp <;> (try with_reducible rfl))
              simp (config := {maxSteps := 2000000}) only [Act.put, List.setIfInBounds_toArray, List.set_cons_zero, List.set_cons_succ]
              refine wpAnyH_take (i := 26) (v := ?vq226) rfl (by kernel_rfl) (by kernel_rfl) (by kernel_rfl) (fun _ _ _ h => h) (Or.inl ⟨by kernel_rfl, ?yq226⟩) (by assumption) ?rq226
              case yq226 => (intro w hSw; (try dsimp only at hSw); go_split_ands; go_simp <;> (try with_reducible rfl))
              simp (config := {maxSteps := 2000000}) only [Act.put, List.setIfInBounds_toArray, List.set_cons_zero, List.set_cons_succ]
              refine wpAnyH_take (i := 27) (v := ?vq227) rfl (by kernel_rfl) (by kernel_rfl) (by kernel_rfl) (fun _ _ _ h => h) (Or.inl ⟨by kernel_rfl, ?yq227⟩) (by assumption) ?rq227
              case yq227 => (intro w hSw; (try dsimp only at hSw); go_split_ands; go_simp <;> (try with_reducible rfl))
              simp (config := {maxSteps := 2000000}) only [Act.put, List.setIfInBounds_toArray, List.set_cons_zero, List.set_cons_succ]
              refine wpAnyH_take (i := 28) (v := undef) rfl (by kernel_rfl) (by kernel_rfl) (by kernel_rfl) (fun _ _ _ h => h) (Or.inr ⟨by kernel_rfl, rfl⟩) (by assumption) ?_
              simp (config := {maxSteps := 2000000}) only [Act.put, List.setIfInBounds_toArray, List.set_cons_zero, List.set_cons_succ]
              refine wpAnyH_take (i := 29) (v := undef) rfl (by kernel_rfl) (by kernel_rfl) (by kernel_rfl) (fun _ _ _ h => h) (Or.inr ⟨by kernel_rfl, rfl⟩) (by assumption) ?_
              simp (config := {maxSteps := 2000000}) only [Act.put, List.setIfInBounds_toArray, List.set_cons_zero, List.set_cons_succ]
              refine wpAnyH_take (i := 30) (v := undef) rfl (by kernel_rfl) (by kernel_rfl) (by kernel_rfl) (fun _ _ _ h => h) (Or.inr ⟨by kernel_rfl, rfl⟩) (by assumption) ?_
              simp (config := {maxSteps := 2000000}) only [Act.put, List.setIfInBounds_toArray, List.set_cons_zero, List.set_cons_succ]
              refine wpAnyH_take (i := 31) (v := undef) rfl (by kernel_rfl) (by kernel_rfl) (by kernel_rfl) (fun _ _ _ h => h) (Or.inr ⟨by kernel_rfl, rfl⟩) (by assumption) ?_
              simp (config := {maxSteps := 2000000}) only [Act.put, List.setIfInBounds_toArray, List.set_cons_zero, List.set_cons_succ]
              refine wpAnyH_take (i := 32) (v := undef) rfl (by kernel_rfl) (by kernel_rfl) (by kernel_rfl) (fun _ _ _ h => h) (Or.inr ⟨by kernel_rfl, rfl⟩) (by assumption) ?_
              simp (config := {maxSteps := 2000000}) only [Act.put, List.setIfInBounds_toArray, List.set_cons_zero, List.set_cons_succ]
              refine wpAnyH_take (i := 33) (v := undef) rfl (by kernel_rfl) (by kernel_rfl) (by kernel_rfl) (fun _ _ _ h => h) (Or.inr ⟨by kernel_rfl, rfl⟩) (by assumption) ?_
              simp (config := {maxSteps := 2000000}) only [Act.put, List.setIfInBounds_toArray, List.set_cons_zero, List.set_cons_succ]
              refine wpAnyH_take (i := 34) (v := undef) rfl (by kernel_rfl) (by kernel_rfl) (by kernel_rfl) (fun _ _ _ h => h) (Or.inr ⟨by kernel_rfl, rfl⟩) (by assumption) ?_
              simp (config := {maxSteps := 2000000}) only [Act.put, List.setIfInBounds_toArray, List.set_cons_zero, List.set_cons_succ]
              refine wpAnyH_take (i := 35) (v := undef) rfl (by kernel_rfl) (by kernel_rfl) (by kernel_rfl) (fun _ _ _ h => h) (Or.inr ⟨by kernel_rfl, rfl⟩) (by assumption) ?_
              simp (config := {maxSteps := 2000000}) only [Act.put, List.setIfInBounds_toArray, List.set_cons_zero, List.set_cons_succ]
              refine wpAnyH_take (i := 36) (v := undef) rfl (by kernel_rfl) (by kernel_rfl) (by kernel_rfl) (fun _ _ _ h => h) (Or.inr ⟨by kernel_rfl, rfl⟩) (by assumption) ?_
              simp (config := {maxSteps := 2000000}) only [Act.put, List.setIfInBounds_toArray, List.set_cons_zero, List.set_cons_succ]
              refine wpAnyH_take (i := 37) (v := ?vq237) rfl (by kernel_rfl) (by kernel_rfl) (by kernel_rfl) (fun _ _ _ h => h) (Or.inl ⟨by kernel_rfl, ?yq237⟩) (by assumption) ?rq237
              case yq237 => (intro w hSw; (try dsimp only at hSw); go_split_ands; go_simp <;> (try with_reducible rfl))
              simp (config := {maxSteps := 2000000}) only [Act.put, List.setIfInBounds_toArray, List.set_cons_zero, List.set_cons_succ]
              refine wpAnyH_take (i := 38) (v := ?vq238) rfl (by kernel_rfl) (by kernel_rfl) (by kernel_rfl) (fun _ _ _ h => h) (Or.inl ⟨by kernel_rfl, ?yq238⟩) (by assumption) ?rq238
              case yq238 => (intro w hSw; (try dsimp only at hSw); go_split_ands; go_simp <;> (try with_reducible rfl))
              simp (config := {maxSteps := 2000000}) only [Act.put, List.setIfInBounds_toArray, List.set_cons_zero, List.set_cons_succ]
              refine wpAnyH_done (by kernel_rfl) ?_ _
              go_wp2
              go_meet
              exact ⟨rfl, rfl⟩
          · have g1 : (i : Int) > 0 := by omega
            have g1n : 0 < i := by omega
            have g1' : decide ((0 : Int) < (i : Int)) = true := decide_eq_true (by omega)
            have g1a : decide (0 < i) = true := decide_eq_true g1n
            have g1b : decide ((i : Int) > 0) = true := decide_eq_true (by omega)
            obtain ⟨k, hk⟩ : ∃ k, i = k + 1 := ⟨i - 1, by omega⟩
            have hc := HRS.out k (by omega)
            have ck := NL10.out.2 k (by omega)
            rw [← hk, HT.out] at hc
            obtain ⟨t', ht'⟩ : ∃ t, nthB (lwA ⟨N, L, M, R, P⟩) k = t := ⟨_, rfl⟩
            rw [ht'] at hc ck
            rw [Bool.or_eq_false_iff] at hc
            obtain ⟨hc1, hc2⟩ := hc
            have g3 : IntKind.i64.wrap ((i : Int) - 1) = (k : Int) := by rw [IntWalk.i64_in _ (by have := HCT.out; omega)]; omega
            have g4 : (0 : Int) ≤ (k : Int) := by omega
            have g5 : (k : Int) < (nl : Int) := by omega
            have HK := Lib.hid hk
            clear ht' hk hz
            by_cases hp : i < np
            · skip
              have cp : W10.cell? ⟨gp, i, none⟩ = some (.string t) := by rw [NP10.out.2 i hp, HT.out]
              have g2 : (i : Int) < (np : Int) := by omega
              refine wp_region_held_drew (S := fun w' => w'.cell? ⟨gl, i, none⟩ = some (.string t) ∧ w'.cell? ⟨gl, k, none⟩ = some (.string t') ∧ w'.cell? ⟨gp, i, none⟩ = some (.string t)) (by kernel_rfl) ?_ (fun hHeld => ?_)
              · (try dsimp only); go_keep
              refine wpAnyH_take (i := 0) (v := ?vq30) rfl (by kernel_rfl) (by kernel_rfl) (by kernel_rfl) (fun _ _ _ h => h) (Or.inl ⟨by kernel_rfl, ?yq30⟩) (by assumption) ?rq30
              case yq30 => (intro w hSw; (try dsimp only at hSw); go_split_ands; go_simp <;> (try with_reducible rfl))
              simp (config := {maxSteps := 2000000}) only [Act.put, List.setIfInBounds_toArray, List.set_cons_zero, List.set_cons_succ]
              refine wpAnyH_take (i := 1) (v := ?vq31) rfl (by kernel_rfl) (by kernel_rfl) (by kernel_rfl) (fun _ _ _ h => h) (Or.inl ⟨by kernel_rfl, ?yq31⟩) (by assumption) ?rq31
              case yq31 => (intro w hSw; (try dsimp only at hSw); go_split_ands; go_simp <;> (try with_reducible rfl))
              simp (config := {maxSteps := 2000000}) only [Act.put, List.setIfInBounds_toArray, List.set_cons_zero, List.set_cons_succ]
              refine wpAnyH_take (i := 2) (v := ?vq32) rfl (by kernel_rfl) (by kernel_rfl) (by kernel_rfl) (fun _ _ _ h => h) (Or.inl ⟨by kernel_rfl, ?yq32⟩) (by assumption) ?rq32
              case yq32 => (intro w hSw; (try dsimp only at hSw); go_split_ands; go_simp <;> (try with_reducible rfl))
              simp (config := {maxSteps := 2000000}) only [Act.put, List.setIfInBounds_toArray, List.set_cons_zero, List.set_cons_succ]
              refine wpAnyH_take (i := 3) (v := ?vq33) rfl (by kernel_rfl) (by kernel_rfl) (by kernel_rfl) (fun _ _ _ h => h) (Or.inl ⟨by kernel_rfl, ?yq33⟩) (by assumption) ?rq33
              case yq33 => (intro w hSw; (try dsimp only at hSw); go_split_ands; go_simp <;> (try with_reducible rfl))
              simp (config := {maxSteps := 2000000}) only [Act.put, List.setIfInBounds_toArray, List.set_cons_zero, List.set_cons_succ]
              refine wpAnyH_take (i := 4) (v := ?vq34) rfl (by kernel_rfl) (by kernel_rfl) (by kernel_rfl) (fun _ _ _ h => h) (Or.inl ⟨by kernel_rfl, ?yq34⟩) (by assumption) ?rq34
              case yq34 => (intro w hSw; (try dsimp only at hSw); go_split_ands; go_simp <;> (try with_reducible rfl))
              simp (config := {maxSteps := 2000000}) only [Act.put, List.setIfInBounds_toArray, List.set_cons_zero, List.set_cons_succ]
              refine wpAnyH_take (i := 5) (v := ?vq35) rfl (by kernel_rfl) (by kernel_rfl) (by kernel_rfl) (fun _ _ _ h => h) (Or.inl ⟨by kernel_rfl, ?yq35⟩) (by assumption) ?rq35
              case yq35 => (intro w hSw; (try dsimp only at hSw); go_split_ands; go_simp <;> (try with_reducible rfl))
              simp (config := {maxSteps := 2000000}) only [Act.put, List.setIfInBounds_toArray, List.set_cons_zero, List.set_cons_succ]
              refine wpAnyH_take (i := 6) (v := ?vq36) rfl (by kernel_rfl) (by kernel_rfl) (by kernel_rfl) (fun _ _ _ h => h) (Or.inl ⟨by kernel_rfl, ?yq36⟩) (by assumption) ?rq36
              case yq36 => (intro w hSw; (try dsimp only at hSw); go_split_ands; go_simp <;> (try with_reducible rfl))
              simp (config := {maxSteps := 2000000}) only [Act.put, List.setIfInBounds_toArray, List.set_cons_zero, List.set_cons_succ]
              refine wpAnyH_take (i := 7) (v := ?vq37) rfl (by kernel_rfl) (by kernel_rfl) (by kernel_rfl) (fun _ _ _ h => h) (Or.inl ⟨by kernel_rfl, ?yq37⟩) (by assumption) ?rq37
              case yq37 => (intro w hSw; (try dsimp only at hSw); go_split_ands; go_simp <;> (try with_reducible rfl))
              simp (config := {maxSteps := 2000000}) only [Act.put, List.setIfInBounds_toArray, List.set_cons_zero, List.set_cons_succ]
              refine wpAnyH_take (i := 8) (v := ?vq38) rfl (by kernel_rfl) (by kernel_rfl) (by kernel_rfl) (fun _ _ _ h => h) (Or.inl ⟨by kernel_rfl, ?yq38⟩) (by assumption) ?rq38
              case yq38 => (intro w hSw; (try dsimp only at hSw); go_split_ands; go_simp <;> (try with_reducible rfl))
              simp (config := {maxSteps := 2000000}) only [Act.put, List.setIfInBounds_toArray, List.set_cons_zero, List.set_cons_succ]
              refine wpAnyH_take (i := 9) (v := ?vq39) rfl (by kernel_rfl) (by kernel_rfl) (by kernel_rfl) (fun _ _ _ h => h) (Or.inl ⟨by kernel_rfl, ?yq39⟩) (by assumption) ?rq39
              case yq39 => (intro w hSw; (try dsimp only at hSw); go_split_ands; go_simp <;> (try with_reducible rfl))
              simp (config := {maxSteps := 2000000}) only [Act.put, List.setIfInBounds_toArray, List.set_cons_zero, List.set_cons_succ]
              refine wpAnyH_take (i := 10) (v := ?vq310) rfl (by kernel_rfl) (by kernel_rfl) (by kernel_rfl) (fun _ _ _ h => h) (Or.inl ⟨by kernel_rfl, ?yq310⟩) (by assumption) ?rq310
              case yq310 => (intro w hSw; (try dsimp only at hSw); go_split_ands; go_simp <;> (try with_reducible rfl))
              simp (config := {maxSteps := 2000000}) only [Act.put, List.setIfInBounds_toArray, List.set_cons_zero, List.set_cons_succ]
              refine wpAnyH_take (i := 11) (v := ?vq311) rfl (by kernel_rfl) (by kernel_rfl) (by kernel_rfl) (fun _ _ _ h => h) (Or.inl ⟨by kernel_rfl, ?yq311⟩) (by assumption) ?rq311
              case yq311 => (intro w hSw; (try dsimp only at hSw); go_split_ands; go_simp <;> (try with_reducible rfl))
              simp (config := {maxSteps := 2000000}) only [Act.put, List.setIfInBounds_toArray, List.set_cons_zero, List.set_cons_succ]
              refine wpAnyH_take (i := 12) (v := ?vq312) rfl (by kernel_rfl) (by kernel_rfl) (by kernel_rfl) (fun _ _ _ h => h) (Or.inl ⟨by kernel_rfl, ?yq312⟩) (by assumption) ?rq312
              case yq312 => (intro w hSw; (try dsimp only at hSw); go_split_ands; go_simp <;> (try with_reducible rfl))
              simp (config := {maxSteps := 2000000}) only [Act.put, List.setIfInBounds_toArray, List.set_cons_zero, List.set_cons_succ]
              refine wpAnyH_take (i := 13) (v := ?vq313) rfl (by kernel_rfl) (by kernel_rfl) (by kernel_rfl) (fun _ _ _ h => h) (Or.inl ⟨by kernel_rfl, ?yq313⟩) (by assumption) ?rq313
              case yq313 => (intro w hSw; (try dsimp only at hSw); go_split_ands; go_simp <;> (try with_reducible rfl))
              simp (config := {maxSteps := 2000000}) only [Act.put, List.setIfInBounds_toArray, List.set_cons_zero, List.set_cons_succ]
              refine wpAnyH_take (i := 14) (v := ?vq314) rfl (by kernel_rfl) (by kernel_rfl) (by kernel_rfl) (fun _ _ _ h => h) (Or.inl ⟨by kernel_rfl, ?yq314⟩) (by assumption) ?rq314
              case yq314 => (intro w hSw; (try dsimp only at hSw); go_split_ands; go_simp <;> (try with_reducible rfl))
              simp (config := {maxSteps := 2000000}) only [Act.put, List.setIfInBounds_toArray, List.set_cons_zero, List.set_cons_succ]
              refine wpAnyH_take (i := 15) (v := ?vq315) rfl (by kernel_rfl) (by kernel_rfl) (by kernel_rfl) (fun _ _ _ h => h) (Or.inl ⟨by kernel_rfl, ?yq315⟩) (by assumption) ?rq315
              case yq315 => (intro w hSw; (try dsimp only at hSw); go_split_ands; go_simp <;> (try with_reducible rfl))
              simp (config := {maxSteps := 2000000}) only [Act.put, List.setIfInBounds_toArray, List.set_cons_zero, List.set_cons_succ]
              refine wpAnyH_take (i := 16) (v := ?vq316) rfl (by kernel_rfl) (by kernel_rfl) (by kernel_rfl) (fun _ _ _ h => h) (Or.inl ⟨by kernel_rfl, ?yq316⟩) (by assumption) ?rq316
              case yq316 => (intro w hSw; (try dsimp only at hSw); go_split_ands; go_simp <;> (try with_reducible rfl))
              simp (config := {maxSteps := 2000000}) only [Act.put, List.setIfInBounds_toArray, List.set_cons_zero, List.set_cons_succ]
              refine wpAnyH_take (i := 17) (v := ?vq317) rfl (by kernel_rfl) (by kernel_rfl) (by kernel_rfl) (fun _ _ _ h => h) (Or.inl ⟨by kernel_rfl, ?yq317⟩) (by assumption) ?rq317
              case yq317 => (intro w hSw; (try dsimp only at hSw); go_split_ands; go_simp <;> (try with_reducible rfl))
              simp (config := {maxSteps := 2000000}) only [Act.put, List.setIfInBounds_toArray, List.set_cons_zero, List.set_cons_succ]
              refine wpAnyH_take (i := 18) (v := ?vq318) rfl (by kernel_rfl) (by kernel_rfl) (by kernel_rfl) (fun _ _ _ h => h) (Or.inl ⟨by kernel_rfl, ?yq318⟩) (by assumption) ?rq318
              case yq318 => (intro w hSw; (try dsimp only at hSw); go_split_ands; go_simp <;> (try with_reducible rfl))
              simp (config := {maxSteps := 2000000}) only [Act.put, List.setIfInBounds_toArray, List.set_cons_zero, List.set_cons_succ]
              refine wpAnyH_take (i := 19) (v := .bool false) rfl (by kernel_rfl) (by kernel_rfl) (by kernel_rfl) (fun _ _ _ h => h) (Or.inl ⟨by kernel_rfl, ?yq319⟩) (by assumption) ?rq319
              case yq319 => (intro w hSw; (try dsimp only at hSw); go_split_ands; go_simp)
              simp (config := {maxSteps := 2000000}) only [Act.put, List.setIfInBounds_toArray, List.set_cons_zero, List.set_cons_succ]
              refine wpAnyH_take (i := 20) (v := ?vq320) rfl (by kernel_rfl) (by kernel_rfl) (by kernel_rfl) (fun _ _ _ h => h) (Or.inl ⟨by kernel_rfl, ?yq320⟩) (by assumption) ?rq320
              case yq320 => (intro w hSw; (try dsimp only at hSw); go_split_ands; go_simp <;> (try with_reducible rfl))
              simp (config := {maxSteps := 2000000}) only [Act.put, List.setIfInBounds_toArray, List.set_cons_zero, List.set_cons_succ]
              refine wpAnyH_take (i := 21) (v := ?vq321) rfl (by kernel_rfl) (by kernel_rfl) (by kernel_rfl) (fun _ _ _ h => h) (Or.inl ⟨by kernel_rfl, ?yq321⟩) (by assumption) ?rq321
              case yq321 => (intro w hSw; (try dsimp only at hSw); go_split_ands; go_simp <;> (try with_reducible rfl))
              simp (config := {maxSteps := 2000000}) only [Act.put, List.setIfInBounds_toArray, List.set_cons_zero, List.set_cons_succ]
              refine wpAnyH_take (i := 22) (v := ?vq322) rfl (by kernel_rfl) (by kernel_rfl) (by kernel_rfl) (fun _ _ _ h => h) (Or.inl ⟨by kernel_rfl, ?yq322⟩) (by assumption) ?rq322
              case yq322 => (intro w hSw; (try dsimp only at hSw); go_split_ands; go_simp <;> (try with_reducible rfl))
              simp (config := {maxSteps := 2000000}) only [Act.put, List.setIfInBounds_toArray, List.set_cons_zero, List.set_cons_succ]
              refine wpAnyH_take (i := 23) (v := ?vq323) rfl (by kernel_rfl) (by kernel_rfl) (by kernel_rfl) (fun _ _ _ h => h) (Or.inl ⟨by kernel_rfl, ?yq323⟩) (by assumption) ?rq323
              case yq323 => (intro w hSw; (try dsimp only at hSw); go_split_ands; go_simp <;> (try with_reducible rfl))
              simp (config := {maxSteps := 2000000}) only [Act.put, List.setIfInBounds_toArray, List.set_cons_zero, List.set_cons_succ]
              refine wpAnyH_take (i := 24) (v := ?vq324) rfl (by kernel_rfl) (by kernel_rfl) (by kernel_rfl) (fun _ _ _ h => h) (Or.inl ⟨by kernel_rfl, ?yq324⟩) (by assumption) ?rq324
              case yq324 => (intro w hSw; (try dsimp only at hSw); go_split_ands; go_simp <;> (try with_reducible rfl))
              simp (config := {maxSteps := 2000000}) only [Act.put, List.setIfInBounds_toArray, List.set_cons_zero, List.set_cons_succ]
              refine wpAnyH_take (i := 25) (v := ?vq325) rfl (by kernel_rfl) (by kernel_rfl) (by kernel_rfl) (fun _ _ _ h => h) (Or.inl ⟨by kernel_rfl, ?yq325⟩) (by assumption) ?rq325
              case yq325 => (intro w hSw; (try dsimp only at hSw); go_split_ands; go_simp <;> (try with_reducible rfl))
              simp (config := {maxSteps := 2000000}) only [Act.put, List.setIfInBounds_toArray, List.set_cons_zero, List.set_cons_succ]
              refine wpAnyH_take (i := 26) (v := ?vq326) rfl (by kernel_rfl) (by kernel_rfl) (by kernel_rfl) (fun _ _ _ h => h) (Or.inl ⟨by kernel_rfl, ?yq326⟩) (by assumption) ?rq326
              case yq326 => (intro w hSw; (try dsimp only at hSw); go_split_ands; go_simp <;> (try with_reducible rfl))
              simp (config := {maxSteps := 2000000}) only [Act.put, List.setIfInBounds_toArray, List.set_cons_zero, List.set_cons_succ]
              refine wpAnyH_take (i := 27) (v := ?vq327) rfl (by kernel_rfl) (by kernel_rfl) (by kernel_rfl) (fun _ _ _ h => h) (Or.inl ⟨by kernel_rfl, ?yq327⟩) (by assumption) ?rq327
              case yq327 => (intro w hSw; (try dsimp only at hSw); go_split_ands; go_simp <;> (try with_reducible rfl))
              simp (config := {maxSteps := 2000000}) only [Act.put, List.setIfInBounds_toArray, List.set_cons_zero, List.set_cons_succ]
              refine wpAnyH_take (i := 28) (v := ?vq328) rfl (by kernel_rfl) (by kernel_rfl) (by kernel_rfl) (fun _ _ _ h => h) (Or.inl ⟨by kernel_rfl, ?yq328⟩) (by assumption) ?rq328
              case yq328 => (intro w hSw; (try dsimp only at hSw); go_split_ands; go_simp <;> (try with_reducible rfl))
              simp (config := {maxSteps := 2000000}) only [Act.put, List.setIfInBounds_toArray, List.set_cons_zero, List.set_cons_succ]
              refine wpAnyH_take (i := 29) (v := ?vq329) rfl (by kernel_rfl) (by kernel_rfl) (by kernel_rfl) (fun _ _ _ h => h) (Or.inl ⟨by kernel_rfl, ?yq329⟩) (by assumption) ?rq329
              case yq329 => (intro w hSw; (try dsimp only at hSw); go_split_ands; go_simp <;> (try with_reducible rfl))
              simp (config := {maxSteps := 2000000}) only [Act.put, List.setIfInBounds_toArray, List.set_cons_zero, List.set_cons_succ]
              refine wpAnyH_take (i := 30) (v := ?vq330) rfl (by kernel_rfl) (by kernel_rfl) (by kernel_rfl) (fun _ _ _ h => h) (Or.inl ⟨by kernel_rfl, ?yq330⟩) (by assumption) ?rq330
              case yq330 => (intro w hSw; (try dsimp only at hSw); go_split_ands; go_simp <;> (try with_reducible rfl))
              simp (config := {maxSteps := 2000000}) only [Act.put, List.setIfInBounds_toArray, List.set_cons_zero, List.set_cons_succ]
              refine wpAnyH_take (i := 31) (v := ?vq331) rfl (by kernel_rfl) (by kernel_rfl) (by kernel_rfl) (fun _ _ _ h => h) (Or.inl ⟨by kernel_rfl, ?yq331⟩) (by assumption) ?rq331
              case yq331 => (intro w hSw; (try dsimp only at hSw); go_split_ands; go_simp <;> (try with_reducible rfl))
              simp (config := {maxSteps := 2000000}) only [Act.put, List.setIfInBounds_toArray, List.set_cons_zero, List.set_cons_succ]
              refine wpAnyH_take (i := 32) (v := ?vq332) rfl (by kernel_rfl) (by kernel_rfl) (by kernel_rfl) (fun _ _ _ h => h) (Or.inl ⟨by kernel_rfl, ?yq332⟩) (by assumption) ?rq332
              case yq332 => (intro w hSw; (try dsimp only at hSw); go_split_ands; go_simp <;> (try with_reducible rfl))
              simp (config := {maxSteps := 2000000}) only [Act.put, List.setIfInBounds_toArray, List.set_cons_zero, List.set_cons_succ]
              refine wpAnyH_take (i := 33) (v := ?vq333) rfl (by kernel_rfl) (by kernel_rfl) (by kernel_rfl) (fun _ _ _ h => h) (Or.inl ⟨by kernel_rfl, ?yq333⟩) (by assumption) ?rq333
              case yq333 => (intro w hSw; (try dsimp only at hSw); go_split_ands; go_simp <;> (try with_reducible rfl))
              simp (config := {maxSteps := 2000000}) only [Act.put, List.setIfInBounds_toArray, List.set_cons_zero, List.set_cons_succ]
              refine wpAnyH_take (i := 34) (v := ?vq334) rfl (by kernel_rfl) (by kernel_rfl) (by kernel_rfl) (fun _ _ _ h => h) (Or.inl ⟨by kernel_rfl, ?yq334⟩) (by assumption) ?rq334
              case yq334 => (intro w hSw; (try dsimp only at hSw); go_split_ands; go_simp <;> (try with_reducible rfl))
              simp (config := {maxSteps := 2000000}) only [Act.put, List.setIfInBounds_toArray, List.set_cons_zero, List.set_cons_succ]
              refine wpAnyH_take (i := 35) (v := ?vq335) rfl (by kernel_rfl) (by kernel_rfl) (by kernel_rfl) (fun _ _ _ h => h) (Or.inl ⟨by kernel_rfl, ?yq335⟩) (by assumption) ?rq335
              case yq335 => (intro w hSw; (try dsimp only at hSw); go_split_ands; go_simp <;> (try with_reducible rfl))
              simp (config := {maxSteps := 2000000}) only [Act.put, List.setIfInBounds_toArray, List.set_cons_zero, List.set_cons_succ]
              refine wpAnyH_take (i := 36) (v := ?vq336) rfl (by kernel_rfl) (by kernel_rfl) (by kernel_rfl) (fun _ _ _ h => h) (Or.inl ⟨by kernel_rfl, ?yq336⟩) (by assumption) ?rq336
              case yq336 => (intro w hSw; (try dsimp only at hSw); go_split_ands; go_simp <;> (try with_reducible rfl))
              simp (config := {maxSteps := 2000000}) only [Act.put, List.setIfInBounds_toArray, List.set_cons_zero, List.set_cons_succ]
              refine wpAnyH_take (i := 37) (v := ?vq337) rfl (by kernel_rfl) (by kernel_rfl) (by kernel_rfl) (fun _ _ _ h => h) (Or.inl ⟨by kernel_rfl, ?yq337⟩) (by assumption) ?rq337
              case yq337 => (intro w hSw; (try dsimp only at hSw); go_split_ands; go_simp <;> (try with_reducible rfl))
              simp (config := {maxSteps := 2000000}) only [Act.put, List.setIfInBounds_toArray, List.set_cons_zero, List.set_cons_succ]
              refine wpAnyH_take (i := 38) (v := ?vq338) rfl (by kernel_rfl) (by kernel_rfl) (by kernel_rfl) (fun _ _ _ h => h) (Or.inl ⟨by kernel_rfl, ?yq338⟩) (by assumption) ?rq338
              case yq338 => (intro w hSw; (try dsimp only at hSw); go_split_ands; go_simp <;> (try with_reducible rfl))
              simp (config := {maxSteps := 2000000}) only [Act.put, List.setIfInBounds_toArray, List.set_cons_zero, List.set_cons_succ]
              try simp (config := {maxSteps := 4000000}) only [List.getElem_toArray, List.getElem_cons_succ, List.getElem_cons_zero]
              try simp (config := {maxSteps := 4000000}) only [Act.put, List.setIfInBounds_toArray, List.set_cons_zero, List.set_cons_succ]
              refine wpAnyH_done (by kernel_rfl) ?_ _
              go_wp2
              go_meet
              exact ⟨rfl, rfl⟩
            · skip
              have g2 : ¬ ((i : Int) < (np : Int)) := by omega
              have g2' : decide ((i : Int) < (np : Int)) = false := decide_eq_false (by omega)
              have g2a : decide (i < np) = false := decide_eq_false (by omega)
              refine wp_region_held_drew (S := fun w' => w'.cell? ⟨gl, i, none⟩ = some (.string t) ∧ w'.cell? ⟨gl, k, none⟩ = some (.string t')) (by kernel_rfl) ?_ (fun hHeld => ?_)
              · (try dsimp only); go_keep
              refine wpAnyH_take (i := 0) (v := ?vq40) rfl (by kernel_rfl) (by kernel_rfl) (by kernel_rfl) (fun _ _ _ h => h) (Or.inl ⟨by kernel_rfl, ?yq40⟩) (by assumption) ?rq40
              case yq40 => (intro w hSw; (try dsimp only at hSw); go_split_ands; go_simp <;> (try with_reducible rfl))
              simp (config := {maxSteps := 2000000}) only [Act.put, List.setIfInBounds_toArray, List.set_cons_zero, List.set_cons_succ]
              refine wpAnyH_take (i := 1) (v := ?vq41) rfl (by kernel_rfl) (by kernel_rfl) (by kernel_rfl) (fun _ _ _ h => h) (Or.inl ⟨by kernel_rfl, ?yq41⟩) (by assumption) ?rq41
              case yq41 => (intro w hSw; (try dsimp only at hSw); go_split_ands; go_simp <;> (try with_reducible rfl))
              simp (config := {maxSteps := 2000000}) only [Act.put, List.setIfInBounds_toArray, List.set_cons_zero, List.set_cons_succ]
              refine wpAnyH_take (i := 2) (v := ?vq42) rfl (by kernel_rfl) (by kernel_rfl) (by kernel_rfl) (fun _ _ _ h => h) (Or.inl ⟨by kernel_rfl, ?yq42⟩) (by assumption) ?rq42
              case yq42 => (intro w hSw; (try dsimp only at hSw); go_split_ands; go_simp <;> (try with_reducible rfl))
              simp (config := {maxSteps := 2000000}) only [Act.put, List.setIfInBounds_toArray, List.set_cons_zero, List.set_cons_succ]
              refine wpAnyH_take (i := 3) (v := ?vq43) rfl (by kernel_rfl) (by kernel_rfl) (by kernel_rfl) (fun _ _ _ h => h) (Or.inl ⟨by kernel_rfl, ?yq43⟩) (by assumption) ?rq43
              case yq43 => (intro w hSw; (try dsimp only at hSw); go_split_ands; go_simp <;> (try with_reducible rfl))
              simp (config := {maxSteps := 2000000}) only [Act.put, List.setIfInBounds_toArray, List.set_cons_zero, List.set_cons_succ]
              refine wpAnyH_take (i := 4) (v := ?vq44) rfl (by kernel_rfl) (by kernel_rfl) (by kernel_rfl) (fun _ _ _ h => h) (Or.inl ⟨by kernel_rfl, ?yq44⟩) (by assumption) ?rq44
              case yq44 => (intro w hSw; (try dsimp only at hSw); go_split_ands; go_simp <;> (try with_reducible rfl))
              simp (config := {maxSteps := 2000000}) only [Act.put, List.setIfInBounds_toArray, List.set_cons_zero, List.set_cons_succ]
              refine wpAnyH_take (i := 5) (v := ?vq45) rfl (by kernel_rfl) (by kernel_rfl) (by kernel_rfl) (fun _ _ _ h => h) (Or.inl ⟨by kernel_rfl, ?yq45⟩) (by assumption) ?rq45
              case yq45 => (intro w hSw; (try dsimp only at hSw); go_split_ands; go_simp <;> (try with_reducible rfl))
              simp (config := {maxSteps := 2000000}) only [Act.put, List.setIfInBounds_toArray, List.set_cons_zero, List.set_cons_succ]
              refine wpAnyH_take (i := 6) (v := ?vq46) rfl (by kernel_rfl) (by kernel_rfl) (by kernel_rfl) (fun _ _ _ h => h) (Or.inl ⟨by kernel_rfl, ?yq46⟩) (by assumption) ?rq46
              case yq46 => (intro w hSw; (try dsimp only at hSw); go_split_ands; go_simp <;> (try with_reducible rfl))
              simp (config := {maxSteps := 2000000}) only [Act.put, List.setIfInBounds_toArray, List.set_cons_zero, List.set_cons_succ]
              refine wpAnyH_take (i := 7) (v := ?vq47) rfl (by kernel_rfl) (by kernel_rfl) (by kernel_rfl) (fun _ _ _ h => h) (Or.inl ⟨by kernel_rfl, ?yq47⟩) (by assumption) ?rq47
              case yq47 => (intro w hSw; (try dsimp only at hSw); go_split_ands; go_simp <;> (try with_reducible rfl))
              simp (config := {maxSteps := 2000000}) only [Act.put, List.setIfInBounds_toArray, List.set_cons_zero, List.set_cons_succ]
              refine wpAnyH_take (i := 8) (v := ?vq48) rfl (by kernel_rfl) (by kernel_rfl) (by kernel_rfl) (fun _ _ _ h => h) (Or.inl ⟨by kernel_rfl, ?yq48⟩) (by assumption) ?rq48
              case yq48 => (intro w hSw; (try dsimp only at hSw); go_split_ands; go_simp <;> (try with_reducible rfl))
              simp (config := {maxSteps := 2000000}) only [Act.put, List.setIfInBounds_toArray, List.set_cons_zero, List.set_cons_succ]
              refine wpAnyH_take (i := 9) (v := ?vq49) rfl (by kernel_rfl) (by kernel_rfl) (by kernel_rfl) (fun _ _ _ h => h) (Or.inl ⟨by kernel_rfl, ?yq49⟩) (by assumption) ?rq49
              case yq49 => (intro w hSw; (try dsimp only at hSw); go_split_ands; go_simp <;> (try with_reducible rfl))
              simp (config := {maxSteps := 2000000}) only [Act.put, List.setIfInBounds_toArray, List.set_cons_zero, List.set_cons_succ]
              refine wpAnyH_take (i := 10) (v := ?vq410) rfl (by kernel_rfl) (by kernel_rfl) (by kernel_rfl) (fun _ _ _ h => h) (Or.inl ⟨by kernel_rfl, ?yq410⟩) (by assumption) ?rq410
              case yq410 => (intro w hSw; (try dsimp only at hSw); go_split_ands; go_simp <;> (try with_reducible rfl))
              simp (config := {maxSteps := 2000000}) only [Act.put, List.setIfInBounds_toArray, List.set_cons_zero, List.set_cons_succ]
              refine wpAnyH_take (i := 11) (v := ?vq411) rfl (by kernel_rfl) (by kernel_rfl) (by kernel_rfl) (fun _ _ _ h => h) (Or.inl ⟨by kernel_rfl, ?yq411⟩) (by assumption) ?rq411
              case yq411 => (intro w hSw; (try dsimp only at hSw); go_split_ands; go_simp <;> (try with_reducible rfl))
              simp (config := {maxSteps := 2000000}) only [Act.put, List.setIfInBounds_toArray, List.set_cons_zero, List.set_cons_succ]
              refine wpAnyH_take (i := 12) (v := ?vq412) rfl (by kernel_rfl) (by kernel_rfl) (by kernel_rfl) (fun _ _ _ h => h) (Or.inl ⟨by kernel_rfl, ?yq412⟩) (by assumption) ?rq412
              case yq412 => (intro w hSw; (try dsimp only at hSw); go_split_ands; go_simp <;> (try with_reducible rfl))
              simp (config := {maxSteps := 2000000}) only [Act.put, List.setIfInBounds_toArray, List.set_cons_zero, List.set_cons_succ]
              refine wpAnyH_take (i := 13) (v := ?vq413) rfl (by kernel_rfl) (by kernel_rfl) (by kernel_rfl) (fun _ _ _ h => h) (Or.inl ⟨by kernel_rfl, ?yq413⟩) (by assumption) ?rq413
              case yq413 => (intro w hSw; (try dsimp only at hSw); go_split_ands; go_simp <;> (try with_reducible rfl))
              simp (config := {maxSteps := 2000000}) only [Act.put, List.setIfInBounds_toArray, List.set_cons_zero, List.set_cons_succ]
              refine wpAnyH_take (i := 14) (v := ?vq414) rfl (by kernel_rfl) (by kernel_rfl) (by kernel_rfl) (fun _ _ _ h => h) (Or.inl ⟨by kernel_rfl, ?yq414⟩) (by assumption) ?rq414
              case yq414 => (intro w hSw; (try dsimp only at hSw); go_split_ands; go_simp <;> (try with_reducible rfl))
              simp (config := {maxSteps := 2000000}) only [Act.put, List.setIfInBounds_toArray, List.set_cons_zero, List.set_cons_succ]
              refine wpAnyH_take (i := 15) (v := ?vq415) rfl (by kernel_rfl) (by kernel_rfl) (by kernel_rfl) (fun _ _ _ h => h) (Or.inl ⟨by kernel_rfl, ?yq415⟩) (by assumption) ?rq415
              case yq415 => (intro w hSw; (try dsimp only at hSw); go_split_ands; go_simp <;> (try with_reducible rfl))
              simp (config := {maxSteps := 2000000}) only [Act.put, List.setIfInBounds_toArray, List.set_cons_zero, List.set_cons_succ]
              refine wpAnyH_take (i := 16) (v := ?vq416) rfl (by kernel_rfl) (by kernel_rfl) (by kernel_rfl) (fun _ _ _ h => h) (Or.inl ⟨by kernel_rfl, ?yq416⟩) (by assumption) ?rq416
              case yq416 => (intro w hSw; (try dsimp only at hSw); go_split_ands; go_simp <;> (try with_reducible rfl))
              simp (config := {maxSteps := 2000000}) only [Act.put, List.setIfInBounds_toArray, List.set_cons_zero, List.set_cons_succ]
              refine wpAnyH_take (i := 17) (v := ?vq417) rfl (by kernel_rfl) (by kernel_rfl) (by kernel_rfl) (fun _ _ _ h => h) (Or.inl ⟨by kernel_rfl, ?yq417⟩) (by assumption) ?rq417
              case yq417 => (intro w hSw; (try dsimp only at hSw); go_split_ands; go_simp <;> (try with_reducible rfl))
              simp (config := {maxSteps := 2000000}) only [Act.put, List.setIfInBounds_toArray, List.set_cons_zero, List.set_cons_succ]
              refine wpAnyH_take (i := 18) (v := ?vq418) rfl (by kernel_rfl) (by kernel_rfl) (by kernel_rfl) (fun _ _ _ h => h) (Or.inl ⟨by kernel_rfl, ?yq418⟩) (by assumption) ?rq418
              case yq418 => (intro w hSw; (try dsimp only at hSw); go_split_ands; go_simp <;> (try with_reducible rfl))
              simp (config := {maxSteps := 2000000}) only [Act.put, List.setIfInBounds_toArray, List.set_cons_zero, List.set_cons_succ]
              refine wpAnyH_take (i := 19) (v := .bool false) rfl (by kernel_rfl) (by kernel_rfl) (by kernel_rfl) (fun _ _ _ h => h) (Or.inl ⟨by kernel_rfl, ?yq419⟩) (by assumption) ?rq419
              case yq419 => (intro w hSw; (try dsimp only at hSw); go_split_ands; go_simp)
              simp (config := {maxSteps := 2000000}) only [Act.put, List.setIfInBounds_toArray, List.set_cons_zero, List.set_cons_succ]
              refine wpAnyH_take (i := 20) (v := ?vq420) rfl (by kernel_rfl) (by kernel_rfl) (by kernel_rfl) (fun _ _ _ h => h) (Or.inl ⟨by kernel_rfl, ?yq420⟩) (by assumption) ?rq420
              case yq420 => (intro w hSw; (try dsimp only at hSw); go_split_ands; go_simp <;> (try with_reducible rfl))
              simp (config := {maxSteps := 2000000}) only [Act.put, List.setIfInBounds_toArray, List.set_cons_zero, List.set_cons_succ]
              refine wpAnyH_take (i := 21) (v := ?vq421) rfl (by kernel_rfl) (by kernel_rfl) (by kernel_rfl) (fun _ _ _ h => h) (Or.inl ⟨by kernel_rfl, ?yq421⟩) (by assumption) ?rq421
              case yq421 => (intro w hSw; (try dsimp only at hSw); go_split_ands; go_simp <;> (try with_reducible rfl))
              simp (config := {maxSteps := 2000000}) only [Act.put, List.setIfInBounds_toArray, List.set_cons_zero, List.set_cons_succ]
              refine wpAnyH_take (i := 22) (v := ?vq422) rfl (by kernel_rfl) (by kernel_rfl) (by kernel_rfl) (fun _ _ _ h => h) (Or.inl ⟨by kernel_rfl, ?yq422⟩) (by assumption) ?rq422
              case yq422 => (intro w hSw; (try dsimp only at hSw); go_split_ands; go_simp <;> (try with_reducible rfl))
              simp (config := {maxSteps := 2000000}) only [Act.put, List.setIfInBounds_toArray, List.set_cons_zero, List.set_cons_succ]
              refine wpAnyH_take (i := 23) (v := ?vq423) rfl (by kernel_rfl) (by kernel_rfl) (by kernel_rfl) (fun _ _ _ h => h) (Or.inl ⟨by kernel_rfl, ?yq423⟩) (by assumption) ?rq423
              case yq423 => (intro w hSw; (try dsimp only at hSw); go_split_ands; go_simp <;> (try with_reducible rfl))
              simp (config := {maxSteps := 2000000}) only [Act.put, List.setIfInBounds_toArray, List.set_cons_zero, List.set_cons_succ]
              refine wpAnyH_take (i := 24) (v := ?vq424) rfl (by kernel_rfl) (by kernel_rfl) (by kernel_rfl) (fun _ _ _ h => h) (Or.inl ⟨by kernel_rfl, ?yq424⟩) (by assumption) ?rq424
              case yq424 => (intro w hSw; (try dsimp only at hSw); go_split_ands; go_simp <;> (try with_reducible rfl))
              simp (config := {maxSteps := 2000000}) only [Act.put, List.setIfInBounds_toArray, List.set_cons_zero, List.set_cons_succ]
              refine wpAnyH_take (i := 25) (v := ?vq425) rfl (by kernel_rfl) (by kernel_rfl) (by kernel_rfl) (fun _ _ _ h => h) (Or.inl ⟨by kernel_rfl, ?yq425⟩) (by assumption) ?rq425
              case yq425 => (intro w hSw; (try dsimp only at hSw); go_split_ands; go_simp <;> (try with_reducible rfl))
              simp (config := {maxSteps := 2000000}) only [Act.put, List.setIfInBounds_toArray, List.set_cons_zero, List.set_cons_succ]
              refine wpAnyH_take (i := 26) (v := ?vq426) rfl (by kernel_rfl) (by kernel_rfl) (by kernel_rfl) (fun _ _ _ h => h) (Or.inl ⟨by kernel_rfl, ?yq426⟩) (by assumption) ?rq426
              case yq426 => (intro w hSw; (try dsimp only at hSw); go_split_ands; go_simp <;> (try with_reducible rfl))
              simp (config := {maxSteps := 2000000}) only [Act.put, List.setIfInBounds_toArray, List.set_cons_zero, List.set_cons_succ]
              refine wpAnyH_take (i := 27) (v := ?vq427) rfl (by kernel_rfl) (by kernel_rfl) (by kernel_rfl) (fun _ _ _ h => h) (Or.inl ⟨by kernel_rfl, ?yq427⟩) (by assumption) ?rq427
              case yq427 => (intro w hSw; (try dsimp only at hSw); go_split_ands; go_simp <;> (try with_reducible rfl))
              simp (config := {maxSteps := 2000000}) only [Act.put, List.setIfInBounds_toArray, List.set_cons_zero, List.set_cons_succ]
              refine wpAnyH_take (i := 28) (v := undef) rfl (by kernel_rfl) (by kernel_rfl) (by kernel_rfl) (fun _ _ _ h => h) (Or.inr ⟨by kernel_rfl, rfl⟩) (by assumption) ?_
              simp (config := {maxSteps := 2000000}) only [Act.put, List.setIfInBounds_toArray, List.set_cons_zero, List.set_cons_succ]
              refine wpAnyH_take (i := 29) (v := undef) rfl (by kernel_rfl) (by kernel_rfl) (by kernel_rfl) (fun _ _ _ h => h) (Or.inr ⟨by kernel_rfl, rfl⟩) (by assumption) ?_
              simp (config := {maxSteps := 2000000}) only [Act.put, List.setIfInBounds_toArray, List.set_cons_zero, List.set_cons_succ]
              refine wpAnyH_take (i := 30) (v := undef) rfl (by kernel_rfl) (by kernel_rfl) (by kernel_rfl) (fun _ _ _ h => h) (Or.inr ⟨by kernel_rfl, rfl⟩) (by assumption) ?_
              simp (config := {maxSteps := 2000000}) only [Act.put, List.setIfInBounds_toArray, List.set_cons_zero, List.set_cons_succ]
              refine wpAnyH_take (i := 31) (v := undef) rfl (by kernel_rfl) (by kernel_rfl) (by kernel_rfl) (fun _ _ _ h => h) (Or.inr ⟨by kernel_rfl, rfl⟩) (by assumption) ?_
              simp (config := {maxSteps := 2000000}) only [Act.put, List.setIfInBounds_toArray, List.set_cons_zero, List.set_cons_succ]
              refine wpAnyH_take (i := 32) (v := undef) rfl (by kernel_rfl) (by kernel_rfl) (by kernel_rfl) (fun _ _ _ h => h) (Or.inr ⟨by kernel_rfl, rfl⟩) (by assumption) ?_
              simp (config := {maxSteps := 2000000}) only [Act.put, List.setIfInBounds_toArray, List.set_cons_zero, List.set_cons_succ]
              refine wpAnyH_take (i := 33) (v := undef) rfl (by kernel_rfl) (by kernel_rfl) (by kernel_rfl) (fun _ _ _ h => h) (Or.inr ⟨by kernel_rfl, rfl⟩) (by assumption) ?_
              simp (config := {maxSteps := 2000000}) only [Act.put, List.setIfInBounds_toArray, List.set_cons_zero, List.set_cons_succ]
              refine wpAnyH_take (i := 34) (v := undef) rfl (by kernel_rfl) (by kernel_rfl) (by kernel_rfl) (fun _ _ _ h => h) (Or.inr ⟨by kernel_rfl, rfl⟩) (by assumption) ?_
              simp (config := {maxSteps := 2000000}) only [Act.put, List.setIfInBounds_toArray, List.set_cons_zero, List.set_cons_succ]
              refine wpAnyH_take (i := 35) (v := undef) rfl (by kernel_rfl) (by kernel_rfl) (by kernel_rfl) (fun _ _ _ h => h) (Or.inr ⟨by kernel_rfl, rfl⟩) (by assumption) ?_
              simp (config := {maxSteps := 2000000}) only [Act.put, List.setIfInBounds_toArray, List.set_cons_zero, List.set_cons_succ]
              refine wpAnyH_take (i := 36) (v := undef) rfl (by kernel_rfl) (by kernel_rfl) (by kernel_rfl) (fun _ _ _ h => h) (Or.inr ⟨by kernel_rfl, rfl⟩) (by assumption) ?_
              simp (config := {maxSteps := 2000000}) only [Act.put, List.setIfInBounds_toArray, List.set_cons_zero, List.set_cons_succ]
              refine wpAnyH_take (i := 37) (v := ?vq437) rfl (by kernel_rfl) (by kernel_rfl) (by kernel_rfl) (fun _ _ _ h => h) (Or.inl ⟨by kernel_rfl, ?yq437⟩) (by assumption) ?rq437
              case yq437 => (intro w hSw; (try dsimp only at hSw); go_split_ands; go_simp <;> (try with_reducible rfl))
              simp (config := {maxSteps := 2000000}) only [Act.put, List.setIfInBounds_toArray, List.set_cons_zero, List.set_cons_succ]
              refine wpAnyH_take (i := 38) (v := ?vq438) rfl (by kernel_rfl) (by kernel_rfl) (by kernel_rfl) (fun _ _ _ h => h) (Or.inl ⟨by kernel_rfl, ?yq438⟩) (by assumption) ?rq438
              case yq438 => (intro w hSw; (try dsimp only at hSw); go_split_ands; go_simp <;> (try with_reducible rfl))
              simp (config := {maxSteps := 2000000}) only [Act.put, List.setIfInBounds_toArray, List.set_cons_zero, List.set_cons_succ]
              refine wpAnyH_done (by kernel_rfl) ?_ _
              go_wp2
              go_meet
              exact ⟨rfl, rfl⟩
        case rest =>
          obtain ⟨rfl, rfl⟩ := hcut
          by_cases hq : i + 1 < nl
          · skip
            as_aux_lemma =>
              have HNX1 : Hid (nxT ⟨N, L, M, R, P⟩ t = (nthB (lwA ⟨N, L, M, R, P⟩) (i + 1), true)) := by
                show _ = _
                rw [← HT.out, HNT.out i (by omega), if_pos (by omega)]
              obtain ⟨t2, ht2⟩ : ∃ t, nthB (lwA ⟨N, L, M, R, P⟩) (i + 1) = t := ⟨_, rfl⟩
              rw [ht2] at HNX1
              have HT2 := Lib.hid ht2
              clear ht2
              have HNC1 : Hid (∀ W, _) := Lib.hid (fun W => HNXW.out t HI1.out.1 W)
              rw [HNX1.out] at HNC1
              dsimp only at HNC1
              clear HNX1
              go_wp2
              go_region_held3 (fun w' => w'.cell? ⟨B5, 0, none⟩ = some (.int .i64 N) ∧ w'.cell? ⟨B5, 1, none⟩ = some (.int .i64 L) ∧ w'.cell? ⟨B5, 2, none⟩ = some (.int .i64 M) ∧ w'.cell? ⟨B5, 3, none⟩ = some (.int .i64 R) ∧ w'.cell? ⟨B5, 4, none⟩ = some (.int .i64 P) ∧ w'.cell? ⟨gl, i, none⟩ = some (.string t)) (first | go_keep)
                ((go_at_call 12; refine (HNC1.out _).mono ?_; rintro e W11 ⟨rfl, hb11⟩; have hb11' : Below W10.heap.size W10 W11 := ⟨hb11.os, hb11.tape, hb11.output, hb11.size, hb11.block⟩; have KB11 := Lib.hid (KB10.out.below hb11' KB10.out.lt); obtain ⟨e0, e1, e2, e3, e4⟩ : W11.cell? ⟨B5, 0, none⟩ = some (.int .i64 N) ∧ W11.cell? ⟨B5, 1, none⟩ = some (.int .i64 L) ∧ W11.cell? ⟨B5, 2, none⟩ = some (.int .i64 M) ∧ W11.cell? ⟨B5, 3, none⟩ = some (.int .i64 R) ∧ W11.cell? ⟨B5, 4, none⟩ = some (.int .i64 P) := ⟨KB11.out.cell 0 _ rfl, KB11.out.cell 1 _ rfl, KB11.out.cell 2 _ rfl, KB11.out.cell 3 _ rfl, KB11.out.cell 4 _ rfl⟩; have NL11 := Lib.hid (NL10.out.below hb11' NL10.out.1); have NP11 := Lib.hid (NP10.out.below hb11' NP10.out.1); have cu11 := NL11.out.2 i hlt; rw [HT.out] at cu11; have BL11 : Hid (Below A w W11) := BL10.out.trans (hb11'.mono BLA.out); clear hb11 hb11'))
              clear e0 e1 e2 e3 e4 cu11 d0 d1 d2 d3 d4 ct10
              have ct11 := NL11.out.2 (i + 1) hq
              rw [HT2.out] at ct11
              have k1 : ((i : Int) + 1) < (nl : Int) := by omega
              have k2 : (0 : Int) ≤ (i : Int) + 1 := by omega
              have k3 : (((i : Int) + 1) == (C : Int)) = false := by simp; omega
              have k4 : ((i : Int) + 1).toNat = i + 1 := by omega
              go_wp2
              go_roundw
              case rel => exact ⟨i + 1, by omega, by go_num, KB11.out, NL11.out, NP11.out, BL11.out⟩
              case measure => simp [intOf]; omega
          · by_cases hq2 : nl = C
            · skip
              as_aux_lemma =>
                have HQ2 := Lib.hid hq2
                clear hq2
                have HNX1 : Hid (nxT ⟨N, L, M, R, P⟩ t = ((⟨#[]⟩ : ByteArray), false)) := by
                  show _ = _
                  rw [← HT.out, HNT.out i (by omega), if_neg (by have := HQ2.out; omega)]
                have HNC1 : Hid (∀ W, _) := Lib.hid (fun W => HNXW.out t HI1.out.1 W)
                rw [HNX1.out] at HNC1
                dsimp only at HNC1
                clear HNX1
                go_wp2
                go_region_held3 (fun w' => w'.cell? ⟨B5, 0, none⟩ = some (.int .i64 N) ∧ w'.cell? ⟨B5, 1, none⟩ = some (.int .i64 L) ∧ w'.cell? ⟨B5, 2, none⟩ = some (.int .i64 M) ∧ w'.cell? ⟨B5, 3, none⟩ = some (.int .i64 R) ∧ w'.cell? ⟨B5, 4, none⟩ = some (.int .i64 P) ∧ w'.cell? ⟨gl, i, none⟩ = some (.string t)) (first | go_keep)
                  ((go_at_call 12; refine (HNC1.out _).mono ?_; rintro e W11 ⟨rfl, hb11⟩; have hb11' : Below W10.heap.size W10 W11 := ⟨hb11.os, hb11.tape, hb11.output, hb11.size, hb11.block⟩; have KB11 := Lib.hid (KB10.out.below hb11' KB10.out.lt); obtain ⟨e0, e1, e2, e3, e4⟩ : W11.cell? ⟨B5, 0, none⟩ = some (.int .i64 N) ∧ W11.cell? ⟨B5, 1, none⟩ = some (.int .i64 L) ∧ W11.cell? ⟨B5, 2, none⟩ = some (.int .i64 M) ∧ W11.cell? ⟨B5, 3, none⟩ = some (.int .i64 R) ∧ W11.cell? ⟨B5, 4, none⟩ = some (.int .i64 P) := ⟨KB11.out.cell 0 _ rfl, KB11.out.cell 1 _ rfl, KB11.out.cell 2 _ rfl, KB11.out.cell 3 _ rfl, KB11.out.cell 4 _ rfl⟩; have NL11 := Lib.hid (NL10.out.below hb11' NL10.out.1); have NP11 := Lib.hid (NP10.out.below hb11' NP10.out.1); have cu11 := NL11.out.2 i hlt; rw [HT.out] at cu11; have BL11 : Hid (Below A w W11) := BL10.out.trans (hb11'.mono BLA.out); clear hb11 hb11'))
                clear e0 e1 e2 e3 e4 cu11 d0 d1 d2 d3 d4 ct10
                have k1 : ¬ (((i : Int) + 1) < (nl : Int)) := by omega
                have k3 : (((i : Int) + 1) == (C : Int)) = true := by have := HQ2.out; simp; omega
                go_wp2
                go_roundw
                case rel => exact ⟨i + 1, by omega, by go_num, KB11.out, NL11.out, NP11.out, BL11.out⟩
                case measure => simp [intOf]; omega
            · skip
              as_aux_lemma =>
                have HNX1 : Hid (nxT ⟨N, L, M, R, P⟩ t = (nthB (lwA ⟨N, L, M, R, P⟩) (i + 1), true)) := by
                  show _ = _
                  rw [← HT.out, HNT.out i (by omega), if_pos (by omega)]
                obtain ⟨t2, ht2⟩ : ∃ t, nthB (lwA ⟨N, L, M, R, P⟩) (i + 1) = t := ⟨_, rfl⟩
                rw [ht2] at HNX1
                clear ht2
                have HNC1 : Hid (∀ W, _) := Lib.hid (fun W => HNXW.out t HI1.out.1 W)
                rw [HNX1.out] at HNC1
                dsimp only at HNC1
                clear HNX1
                go_wp2
                go_region_held3 (fun w' => w'.cell? ⟨B5, 0, none⟩ = some (.int .i64 N) ∧ w'.cell? ⟨B5, 1, none⟩ = some (.int .i64 L) ∧ w'.cell? ⟨B5, 2, none⟩ = some (.int .i64 M) ∧ w'.cell? ⟨B5, 3, none⟩ = some (.int .i64 R) ∧ w'.cell? ⟨B5, 4, none⟩ = some (.int .i64 P) ∧ w'.cell? ⟨gl, i, none⟩ = some (.string t)) (first | go_keep)
                  ((go_at_call 12; refine (HNC1.out _).mono ?_; rintro e W11 ⟨rfl, hb11⟩; have hb11' : Below W10.heap.size W10 W11 := ⟨hb11.os, hb11.tape, hb11.output, hb11.size, hb11.block⟩; have KB11 := Lib.hid (KB10.out.below hb11' KB10.out.lt); obtain ⟨e0, e1, e2, e3, e4⟩ : W11.cell? ⟨B5, 0, none⟩ = some (.int .i64 N) ∧ W11.cell? ⟨B5, 1, none⟩ = some (.int .i64 L) ∧ W11.cell? ⟨B5, 2, none⟩ = some (.int .i64 M) ∧ W11.cell? ⟨B5, 3, none⟩ = some (.int .i64 R) ∧ W11.cell? ⟨B5, 4, none⟩ = some (.int .i64 P) := ⟨KB11.out.cell 0 _ rfl, KB11.out.cell 1 _ rfl, KB11.out.cell 2 _ rfl, KB11.out.cell 3 _ rfl, KB11.out.cell 4 _ rfl⟩; have NL11 := Lib.hid (NL10.out.below hb11' NL10.out.1); have NP11 := Lib.hid (NP10.out.below hb11' NP10.out.1); have cu11 := NL11.out.2 i hlt; rw [HT.out] at cu11; have BL11 : Hid (Below A w W11) := BL10.out.trans (hb11'.mono BLA.out); clear hb11 hb11'))
                clear e0 e1 e2 e3 e4 cu11 d0 d1 d2 d3 d4 ct10
                have k1 : ¬ (((i : Int) + 1) < (nl : Int)) := by omega
                have k3 : (((i : Int) + 1) == (C : Int)) = false := by simp; omega
                go_wp2
                go_roundw
                case rel => exact ⟨i + 1, by omega, by go_num, KB11.out, NL11.out, NP11.out, BL11.out⟩
                case measure => simp [intOf]; omega
        -- ROUND1 END
      · as_aux_lemma =>
        have hge : ¬ ((i : Int) < (nl : Int)) := by omega
        have hnn := HS8.out
        obtain ⟨n1, n8⟩ := hnn
        obtain ⟨n, rfl⟩ : ∃ n : Nat, N = n := ⟨N.toNat, by omega⟩
        have hn8 : n ≤ 8 := by omega
        have hn1 : 1 ≤ n := by omega
        obtain ⟨Q, hQ⟩ : ∃ Q, 2 ^ n = Q := ⟨_, rfl⟩
        have hQ8 : Q ≤ 256 := pow8 hn8 hQ
        have hWQ : wrap64 ((2 : Int) ^ n) = (Q : Int) := shlQ hn8 hQ
        have HQ := Lib.hid hQ
        have HX0 : Hid (ShX ⟨n, L, M, R, P⟩ n Q B5 A w (.int .i64 0) (.int .i64 0) wr) := ⟨0, Nat.zero_le _, rfl, rfl, KB.out, BL.out⟩
        have HGE := Lib.hid hge
        have HIS2 : Hid (∀ x W, Calls Tryd.prog 11 #[.agg #[.int .i64 n, .int .i64 L, .int .i64 M, .int .i64 R, .int .i64 P], .string (txB n x n)] W fun e w' => e = .returned (.tuple #[.bool (okB ⟨n, L, M, R, P⟩ n x), .bool true]) ∧ Below W.heap.size W w') := fun x W => by
          have h := HISW.out (txB n x n) (by rw [txB_size (Nat.le_refl _)]; omega) W
          rw [okB_is x rfl] at h
          exact h
        have HRS2 : Hid (∀ x W, Calls Tryd.prog 13 #[.agg #[.int .i64 n, .int .i64 L, .int .i64 M, .int .i64 R, .int .i64 P], .string (txB n x n)] W fun e w' => e = .returned (.bool (okB ⟨n, L, M, R, P⟩ n x)) ∧ Below W.heap.size W w') := fun x W => by
          have h := HRSW.out (txB n x n) (by rw [txB_size (Nat.le_refl _)]; omega) W
          rw [okB_r8 x HOK.out rfl] at h
          exact h
        have HCF : Hid (numB ⟨n, L, M, R, P⟩ n Q = C) := by
          show _ = _
          rw [← HQ.out, numB_full]
          exact HC.out
        clear HIS HRS HNT HNXW HAT KB NL NP BL n1 n8 hnlC hnpC hnp HNC cc9 hi hlt hQ HISW HRSW HC HF3 HNL d0 d1 d2 d3 d4 hb6
        go_wp2_with fail
        go_loopw [19, 20] (fun va vx wr => ShX ⟨n, L, M, R, P⟩ n Q B5 A w va vx wr) (fun _ vx _ => Q - (intOf vx).toNat)
        case atStart => exact HX0.out
        case round =>
          obtain ⟨x, hx, rfl, rfl, hkb, hbl⟩ := hrel
          clear HX0
          have c0 := hkb.cell 0 _ rfl
          have c1 := hkb.cell 1 _ rfl
          have c2 := hkb.cell 2 _ rfl
          have c3 := hkb.cell 3 _ rfl
          have c4 := hkb.cell 4 _ rfl
          have KB := Lib.hid hkb
          have BL := Lib.hid hbl
          clear hkb hbl
          by_cases hxq : x < Q
          · have x0 : (0 : Int) ≤ (x : Int) := Int.natCast_nonneg x
            have x1 : (x : Int) < (Q : Int) := Int.ofNat_lt.2 hxq
            have HBI : Hid (∀ k : Nat, bits .and .i64 ((x : Int) / 2 ^ k) 1 = if x / 2 ^ k % 2 = 1 then 1 else 0) := fun k => bitW (n := n) (by rw [HQ.out]; exact hxq) hn8
            have HY0 : Hid (ShY n x wr (.string ⟨#[]⟩) (.int .i64 0) wr) := ⟨0, Nat.zero_le _, rfl, by rw [txB_zero], rfl⟩
            have HXQ := Lib.hid hxq
            clear hxq
            go_wp2_with fail
            go_loopw [21, 22] (fun vt vk wi => ShY n x wr vt vk wi) (fun _ vk _ => n - (intOf vk).toNat)
            case atStart => exact HY0.out
            case round =>
              obtain ⟨k, hk, rfl, rfl, rfl⟩ := hrel
              clear HY0
              by_cases hkn : k < n
              · have k0 : (0 : Int) ≤ (k : Int) := Int.natCast_nonneg k
                have k1 : (k : Int) < (n : Int) := Int.ofNat_lt.2 hkn
                have hbi := HBI.out k
                have hst := txB_step (x := x) hkn
                have hsz := txB_size (n := n) (x := x) (Nat.le_of_lt hkn)
                have HST := Lib.hid hst
                have hbig : ¬ 9223372036854775807 < (txB n x k).size + 1 := by clear hWQ hQ8; omega
                have w1 : IntKind.i64.wrap ((k : Int) + 1) = (k : Int) + 1 := IntWalk.i64_in _ (by clear hWQ hQ8; omega)
                have HKN := Lib.hid hkn
                clear hst hsz hkn
                by_cases hb : x / 2 ^ k % 2 = 1
                · rw [if_pos hb] at hbi HST
                  clear hb
                  go_wp2
                  go_roundw
                  case rel => exact ⟨k + 1, HKN.out, by go_num, by rw [HST.out], rfl⟩
                  case measure => have := HKN.out; simp [intOf]; omega
                · rw [if_neg hb] at hbi HST
                  clear hb
                  go_wp2
                  go_roundw
                  case rel => exact ⟨k + 1, HKN.out, by go_num, by rw [HST.out], rfl⟩
                  case measure => have := HKN.out; simp [intOf]; omega
              · have hkn2 : k = n := Nat.le_antisymm hk (Nat.le_of_not_lt hkn)
                subst hkn2
                have k1 : ¬ ((k : Int) < (k : Int)) := Int.lt_irrefl _
                have HIX := Lib.hid (HIS2.out x)
                have HRX := Lib.hid (HRS2.out x)
                have hns := numB_succ ⟨k, L, M, R, P⟩ k x
                have HNX := Lib.hid hns
                have hnle := numB_le ⟨k, L, M, R, P⟩ k x
                have w1 : IntKind.i64.wrap ((x : Int) + 1) = (x : Int) + 1 := IntWalk.i64_in _ (by have := HXQ.out; clear hWQ; omega)
                have w2 : IntKind.i64.wrap (((numB ⟨k, L, M, R, P⟩ k x : Nat) : Int) + 1) = ((numB ⟨k, L, M, R, P⟩ k x : Nat) : Int) + 1 := IntWalk.i64_in _ (by have := HXQ.out; clear hWQ; omega)
                obtain ⟨T, hT⟩ : ∃ T, txB k x k = T := ⟨_, rfl⟩
                rw [hT] at HIX HRX ⊢
                obtain ⟨mm, hmm⟩ : ∃ m, numB ⟨k, L, M, R, P⟩ k x = m := ⟨_, rfl⟩
                rw [hmm] at HNX w2 ⊢
                clear hns hnle hT hmm hkn HBI hk
                cases hb : okB ⟨k, L, M, R, P⟩ k x
                all_goals
                  rw [hb] at HIX HRX HNX
                  clear hb
                  go_wp2_with fail
                  refine (HIX.out _).mono ?_
                  rintro e W1 ⟨rfl, hb1⟩
                  have KB1 := Lib.hid (KB.out.below hb1 KB.out.lt)
                  have BL1 : Hid (Below A w W1) := BL.out.trans (hb1.mono (by have := BL.out.size; have := HA.out; clear hWQ; omega))
                  have HS1 : Hid (A ≤ W1.heap.size) := by show _ ≤ _; have := BL1.out.size; have := HA.out; clear hWQ; omega
                  have d0 := KB1.out.cell 0 _ rfl
                  have d1 := KB1.out.cell 1 _ rfl
                  have d2 := KB1.out.cell 2 _ rfl
                  have d3 := KB1.out.cell 3 _ rfl
                  have d4 := KB1.out.cell 4 _ rfl
                  clear c0 c1 c2 c3 c4 hb1 KB BL HIX
                  go_wp2_with fail
                  refine (HRX.out _).mono ?_
                  rintro e W2 ⟨rfl, hb2⟩
                  have KB2 := Lib.hid (KB1.out.below hb2 KB1.out.lt)
                  have BL2 : Hid (Below A w W2) := BL1.out.trans (hb2.mono HS1.out)
                  clear d0 d1 d2 d3 d4 hb2 KB1 BL1 HRX
                  go_wp2
                  go_roundw
                  case rel => exact ⟨x + 1, HXQ.out, by go_num, by rw [HNX.out]; simp, KB2.out, BL2.out⟩
                  case measure => have := HXQ.out; simp [intOf]; clear hWQ; omega
          · have hxq2 : x = Q := Nat.le_antisymm hx (Nat.le_of_not_lt hxq)
            subst hxq2
            have x1 : ¬ ((x : Int) < (x : Int)) := Int.lt_irrefl _
            rw [HCF.out]
            have HLA : Hid (A ≤ wr.heap.size) := by show _ ≤ _; have := BL.out.size; have := HA.out; clear hWQ; omega
            clear HCF HIS2 HRS2 hx hxq
            go_wp2_with fail
            refine (HBE.out n wr BL.out (Nat.le_trans hn8 (by decide))).mono ?_
            rintro e W1 ⟨⟨gn, cn, rfl, zs, hoz, hnz, hz4⟩, hb1⟩
            have KB1 := Lib.hid (KB.out.below hb1 KB.out.lt)
            have BL1 : Hid (Below A w W1) := BL.out.trans (hb1.mono HLA.out)
            have HL1 : Hid (A ≤ W1.heap.size) := by show _ ≤ _; have := BL1.out.size; have := HA.out; clear hWQ; omega
            have HGC := Lib.hid (HGRW.out gn cn n zs W1 (by show n = ((n : Nat) : Int).toNat; exact (Int.toNat_natCast n).symm) hoz.ints hnz.symm (fun x hx => by have := hz4 x hx; clear hWQ; omega))
            have NZ1 := Lib.hid (IntN.of_own hoz hnz)
            have HNZ := Lib.hid hnz
            have HZ4 := Lib.hid hz4
            have d0 := KB1.out.cell 0 _ rfl
            have d1 := KB1.out.cell 1 _ rfl
            have d2 := KB1.out.cell 2 _ rfl
            have d3 := KB1.out.cell 3 _ rfl
            have d4 := KB1.out.cell 4 _ rfl
            clear c0 c1 c2 c3 c4 hb1 KB BL HBE HGRW hoz hnz hz4 hWQ HQ HLA
            go_wp2_with fail
            refine HGC.out.mono ?_
            rintro e W2 ⟨hgr, hb2⟩
            have KB2 := Lib.hid (KB1.out.below hb2 KB1.out.lt)
            have BL2 : Hid (Below A w W2) := BL1.out.trans (hb2.mono HL1.out)
            have HL2 : Hid (A ≤ W2.heap.size) := by show _ ≤ _; have := BL2.out.size; have := HA.out; omega
            have NZ2 := Lib.hid (NZ1.out.below hb2 NZ1.out.1)
            clear d0 d1 d2 d3 d4 hb2 KB1 BL1 HGC NZ1 HL1
            rcases hgr with rfl | ⟨tk, gS, cS, gC, cC, m, rfl, hm, hoS, hoC, htk, hc72, hns⟩
            · go_wp2
              go_ret
              exact ⟨rfl, BL2.out⟩
            · have e0 := KB2.out.cell 0 _ rfl
              have HM := Lib.hid hm
              have HTK := Lib.hid htk
              have HC72 := Lib.hid hc72
              have HNS := Lib.hid hns
              have hm64 : m ≤ 64 := by
                have h1 := filS_len (allS ⟨n, L, M, R, P⟩) tk
                have h2 := allS_len ⟨n, L, M, R, P⟩
                omega
              by_cases hm0 : m = 0
              · have HZ := Lib.hid (needs_none htk hc72 hns HZ4.out HNZ.out hm hm0)
                subst hm0
                have HZ0 : Hid (ShZ n A w W2 (.int .i64 0) W2) := ⟨0, Nat.zero_le _, rfl, rfl⟩
                clear hm hoS hoC htk hc72 hns
                go_wp2_with fail
                go_loopw [29] (fun vk wi => ShZ n A w W2 vk wi) (fun vk _ => n - (intOf vk).toNat)
                case atStart => exact HZ0.out
                case round =>
                  obtain ⟨k, hk, rfl, rfl⟩ := hrel
                  clear HZ0
                  by_cases hkn : k < n
                  · have k0 : (0 : Int) ≤ (k : Int) := Int.natCast_nonneg k
                    have k1 : (k : Int) < (n : Int) := Int.ofNat_lt.2 hkn
                    have cz := NZ2.out.2 k hkn
                    rw [HZ.out k hkn] at cz
                    have w1 : IntKind.i64.wrap ((k : Int) + 1) = (k : Int) + 1 := IntWalk.i64_in _ (by omega)
                    have HKN := Lib.hid hkn
                    clear hkn
                    go_wp2
                    go_roundw
                    case rel => exact ⟨k + 1, HKN.out, by go_num, rfl⟩
                    case measure => have := HKN.out; simp [intOf]; omega
                  · have k1 : ¬ ((k : Int) < (n : Int)) := by omega
                    clear hkn hk
                    go_wp2
                    go_ret
                    exact ⟨rfl, BL2.out⟩
              · have hm1 : 1 ≤ m := Nat.pos_of_ne_zero hm0
                have hmB : ((m : Int) == 0) = false := by simp; omega
                have HCV := Lib.hid (CoverOf_any gS cS gC cC m n (filS (allS ⟨n, L, M, R, P⟩) tk) (filC (allS ⟨n, L, M, R, P⟩) tk) W2 (hoS.txw hm) hm hm1 hm64 hoC.ints (fil_len _ _).symm hn1 (by omega)
                  (fun k hk => by have h := allS_mem (filS_mem _ _ _ (List.getElem_mem hk)); exact ⟨h.1, h.2.1⟩) (fun c hc => by have h := hc72 c (filC_mem _ _ c hc).1; omega))
                have HGE2 := Lib.hid (covers (n := n) hc72 hns)
                obtain ⟨cv, hcv⟩ : ∃ cv, cvN (filS (allS ⟨n, L, M, R, P⟩) tk) (filC (allS ⟨n, L, M, R, P⟩) tk) n (filS (allS ⟨n, L, M, R, P⟩) tk).length 0 = cv := ⟨_, rfl⟩
                have hcl : n = cv.length := by rw [← hcv, cvN_len]
                have HCL := Lib.hid hcl
                rw [hcv] at HCV HGE2
                clear hm hoS hoC htk hc72 hns hcv hcl hm64
                go_wp2_with fail
                refine HCV.out.mono ?_
                rintro e W3 ⟨⟨g3, c3, rfl, ho3⟩, hb3⟩
                have KB3 := Lib.hid (KB2.out.below hb3 KB2.out.lt)
                have BL3 : Hid (Below A w W3) := BL2.out.trans (hb3.mono HL2.out)
                have NZ3 := Lib.hid (NZ2.out.below hb3 NZ2.out.1)
                have NC3 := Lib.hid (IntN.of_own ho3 HCL.out)
                have f0 := KB3.out.cell 0 _ rfl
                have HV0 : Hid (ShV n gn g3 A zs cv w (.int .i64 0) W3) := ⟨0, Nat.zero_le _, rfl, NZ3.out, NC3.out, BL3.out⟩
                clear e0 hb3 KB2 BL2 NZ2 HCV ho3 HL2 KB3 NZ3 NC3 BL3
                go_wp2_with fail
                go_loopw [32] (fun vk wi => ShV n gn g3 A zs cv w vk wi) (fun vk _ => n - (intOf vk).toNat)
                case atStart => exact HV0.out
                case round =>
                  obtain ⟨k, hk, rfl, hnz, hnc, hbl⟩ := hrel
                  clear HV0
                  have BV := Lib.hid hbl
                  by_cases hkn : k < n
                  · have k0 : (0 : Int) ≤ (k : Int) := Int.natCast_nonneg k
                    have k1 : (k : Int) < (n : Int) := Int.ofNat_lt.2 hkn
                    have cz := hnz.2 k hkn
                    have cc := hnc.2 k hkn
                    have hge := HGE2.out k hkn
                    obtain ⟨a, ha⟩ : ∃ a, nth zs k = a := ⟨_, rfl⟩
                    obtain ⟨b, hb⟩ : ∃ b, nth cv k = b := ⟨_, rfl⟩
                    rw [ha] at cz hge
                    rw [hb] at cc hge
                    have hlt : ¬ (b < a) := by omega
                    have w1 : IntKind.i64.wrap ((k : Int) + 1) = (k : Int) + 1 := IntWalk.i64_in _ (by omega)
                    have NZ := Lib.hid hnz
                    have NC := Lib.hid hnc
                    have HKN := Lib.hid hkn
                    clear hkn ha hb hge hnz hnc hbl
                    go_wp2
                    go_region_held3 (fun w' => w'.cell? ⟨g3, k, none⟩ = some (.int .i64 b) ∧ w'.cell? ⟨gn, k, none⟩ = some (.int .i64 a)) (first | go_keep) (fail)
                    go_wp2
                    go_roundw
                    case rel => exact ⟨k + 1, HKN.out, by go_num, NZ.out.below (Below.refl _ _).drew NZ.out.1, NC.out.below (Below.refl _ _).drew NC.out.1, BV.out.drew⟩
                    case measure => have := HKN.out; simp [intOf]; omega
                  · have k1 : ¬ ((k : Int) < (n : Int)) := by omega
                    clear hkn hk hnz hnc hbl
                    go_wp2
                    go_ret
                    exact ⟨rfl, BV.out⟩
end Go.Proofs.YtbocedlldaeanaaDoor
