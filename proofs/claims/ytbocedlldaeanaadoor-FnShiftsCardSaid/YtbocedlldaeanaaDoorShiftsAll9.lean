/- Bits of small numbers in a walk. Conditions: below 2^12. With texts that it needs. -/
import Derived.Test.YtbocedlldaeanaaDoorShiftsAll6
import Derived.Deep.RegionHeld3
import Derived.Test.YtbocedlldaeanaaDoorShiftsAll8
import Derived.Test.YtbocedlldaeanaaDoorShiftsAll1
import Derived.Laws.BitsLemmas
namespace Go.Proofs.YtbocedlldaeanaaDoor
open Go.RowKit Go.Shelf
set_option linter.unusedVariables false
set_option linter.unusedSimpArgs false

/-- The shift behind a shift, and whether there is one. -/
def nxT (r : ShR) (t : ByteArray) : ByteArray × Bool := match nextW r t.size s0 t.data.toList with
  | some u => (⟨u.toArray⟩, true)
  | none => (⟨#[]⟩, false)
/-- The first word with a free slot worked. -/
theorem try_first (r : ShR) (m : Nat) (S : ShS) (t : ByteArray) (i : Nat) : fitT 1 [] (lsW r m (nxW S) (t.extract 0 i ++ ⟨#[119]⟩)) = match (wsS r m (nxW S)).head? with
    | none => []
    | some u => [⟨(t.data.toList.take i ++ 119 :: u).toArray⟩] := by
  unfold fitT lsW
  rw [List.nil_append]
  cases wsS r m (nxW S) with
  | nil => rfl
  | cons u l =>
    show [(t.extract 0 i ++ (⟨#[119]⟩ : ByteArray)) ++ (⟨u.toArray⟩ : ByteArray)] = [_]
    congr 1
    apply ByteArray.ext
    rw [ByteArray.data_append, ByteArray.data_append]
    apply Array.toList_inj.1
    simp [ByteArray.data_extract]
theorem cell_far0 {w : World} {b c i j : Nat} {u v : Value} (h : ¬ b = c) (hc : w.cell? ⟨b, j, none⟩ = some v) : (w.setCell ⟨c, i, none⟩ u).cell? ⟨b, j, none⟩ = some v := (World.cell?_of_block (w := w) (Below.heap_setCell _ _ _ _ h)).trans hc
theorem OwnSt.grownL {w w' : World} {B g n c : Nat} {l : List ShS} {gs : List Nat} (h : OwnSt w B (.slice (some ⟨g, 0, none⟩) n c) n l) (hg : GrownL gs w w') (hn : g ∉ gs) : OwnSt w' B (.slice (some ⟨g, 0, none⟩) n c) n l := by
  have hlt := (h.lt g rfl).2
  refine ⟨h.1, ?_⟩
  rcases h.2 with h2 | ⟨g', cap, cur, hv, h3, h4, h5⟩
  · exact .inl h2
  · obtain ⟨rfl, rfl⟩ : g = g' ∧ c = cap := by simpa using hv
    exact .inr ⟨g, c, cur, hv, h3, (hg.block g hlt hn).trans h4, h5⟩
theorem OwnSt.drewN {w : World} {B n : Nat} {v : Value} {l : List ShS} (h : OwnSt w B v n l) (q : Nat) : OwnSt (w.drewN q) B v n l := h
theorem OwnT.one {w : World} {B g c : Nat} {x : ByteArray} (h : OwnT w B (.slice (some ⟨g, 0, none⟩) 1 c) [x]) : w.cell? ⟨g, 0, none⟩ = some (.string x) := by
  have := World.ownsRow.cellAt (g := g) (cap := c) h 0 (by decide)
  simpa using this
/-- What a round knows. -/
def NxR (r : ShR) (t : ByteArray) (A B2 B8 b : Nat) (gs cs : Nat) (w : World) (vi : Value) (wr : World) : Prop :=
  ∃ k : Nat, k ≤ t.size ∧ vi = .int .i64 ((k : Int) - 1) ∧ scanS r t.size s0 t.data.toList t.size = scanS r t.size s0 t.data.toList k ∧
    Blk wr B2 25 [.int .i64 r.slots, .int .i64 r.least, .int .i64 r.most, .int .i64 r.row, .int .i64 r.pause] ∧ Blk wr B8 53 [.int .i64 r.slots, .int .i64 r.least, .int .i64 r.most, .int .i64 r.row, .int .i64 r.pause, .map (some b)] ∧
    KnI wr b r ∧ OwnSt wr A (.slice (some ⟨gs, 0, none⟩) (t.size + 1) cs) (t.size + 1) (stL r s0 t.data.toList) ∧ Below A w wr
set_option maxRecDepth 100000 in
set_option maxHeartbeats 1000000 in
theorem NextShift_any (r : ShR) (hr : r.Ok) (t : ByteArray) (hsh : isSh r t = true) (w : World) : Calls Tryd.prog 12 #[shV r, .string t] w fun e w' => e = .returned (.tuple #[.string (nxT r t).1, .bool (nxT r t).2]) ∧ Below w.heap.size w w' := by
  have hshd : ((decide ((t.size : Int) = r.slots) && t.data.toList.all isDW) && isT r s0 t.data.toList) = true := hsh
  have hsz : (t.size : Int) = r.slots := by
    rw [Bool.and_eq_true, Bool.and_eq_true] at hshd
    exact of_decide_eq_true hshd.1.1
  have ht24 : t.size ≤ 24 := by have := hr.2.1; omega
  have HLEN : Hid (t.data.toList.length = t.size) := by show _ = _; simp
  have HVR : Hid (∀ W, Calls Tryd.prog 10 #[shV r] W fun e w' => e = .returned (.bool true) ∧ Below W.heap.size W w') := fun W => by
    have h := validRule_any r.slots r.least r.most r.row r.pause W
    rw [ruleOk_of hr] at h
    exact h
  have HAS : Hid (∀ W, Calls Tryd.prog 19 #[shV r] W fun e w' => (∃ b, e = .returned (cV r b) ∧ KnI w' b r ∧ W.heap.size ≤ b) ∧ Below W.heap.size W w') := fun W => asShifts_any r W
  have HST : Hid (∀ W, Calls Tryd.prog 24 #[shV r, .string t] W fun e w' => (∃ g c, e = .returned (.tuple #[.slice (some ⟨g, 0, none⟩) (t.size + 1) c, .bool true]) ∧ OwnSt w' W.heap.size (.slice (some ⟨g, 0, none⟩) (t.size + 1) c) (t.size + 1) (stL r s0 t.data.toList)) ∧ Below W.heap.size W w') := fun W => (states_any r hr t W (by omega)).mono (by
    rintro e w' ⟨⟨v, h1, h3⟩, h2⟩
    obtain ⟨g, c, rfl, h4⟩ := h3 hsh
    rw [hsh] at h1
    exact ⟨⟨g, c, h1, h4⟩, h2⟩)
  have HNX : Hid (∀ k W, k < t.size → Calls Tryd.prog 25 #[shV r, stV (stAt r s0 t.data.toList k), .bool true] W fun e w' => (∃ s', e = .returned (.tuple #[stV s', .bool (nxB r (stAt r s0 t.data.toList k) true)]) ∧ (nxB r (stAt r s0 t.data.toList k) true = true → s' = nxW (stAt r s0 t.data.toList k))) ∧ Below W.heap.size W w') := fun k W hk => ruleNext_any r _ true W ((stAt_sti r hr s0 t.data.toList k s0_sti).sm (n := t.size - k) hr (by rw [stAt_slot r s0 _ k (by rw [HLEN.out]; omega)]; show (0 : Int) + k + _ = _; omega))
  have HLS : Hid (∀ k b B g c W, k < t.size → KnI W b r → OwnT W B (.slice (some ⟨g, 0, none⟩) 0 c) [] → b ≠ g → B ≤ W.heap.size → Calls Tryd.prog 22 #[cV r b, .slice (some ⟨g, 0, none⟩) 0 c, .string (t.extract 0 k ++ ⟨#[119]⟩), stV (nxW (stAt r s0 t.data.toList k)), .int .i64 1] W fun e w' => ∃ g' c' n', e = .returned (.slice (some ⟨g', 0, none⟩) n' c') ∧ OwnT w' B (.slice (some ⟨g', 0, none⟩) n' c') (fitT 1 [] (lsW r (t.size - k - 1) (nxW (stAt r s0 t.data.toList k)) (t.extract 0 k ++ ⟨#[119]⟩))) ∧ n' = (fitT 1 [] (lsW r (t.size - k - 1) (nxW (stAt r s0 t.data.toList k)) (t.extract 0 k ++ ⟨#[119]⟩))).length ∧ KnI w' b r ∧ GrownL [b, g] W w' ∧ (g' = g ∨ W.heap.size ≤ g')) := fun k b B g c W hk h1 h2 h3 h4 => by
    have hn : (nxW (stAt r s0 t.data.toList k)).slot + ((t.size - k - 1 : Nat) : Int) = r.slots := by
      rw [nxW_slot, stAt_slot r s0 _ k (by rw [HLEN.out]; omega)]
      show (0 : Int) + k + 1 + _ = _
      omega
    have hti := (stAt_sti r hr s0 t.data.toList k s0_sti).nxW
    have hsz2 : (t.extract 0 k ++ (⟨#[119]⟩ : ByteArray)).size + (t.size - k - 1) ≤ 100 := by
      rw [ByteArray.size_append, ByteArray.size_extract]
      have : (⟨#[119]⟩ : ByteArray).size = 1 := rfl
      omega
    have h := list_any r hr b B 1 (by omega) (t.size - k - 1) (nxW (stAt r s0 t.data.toList k)) (t.extract 0 k ++ ⟨#[119]⟩) W g c 0 [] hn hti h1 h2 rfl h3 h4 (Nat.zero_le _) hsz2
    have e1 : ((1 : Nat) : Int) = 1 := rfl
    rw [e1] at h
    exact h
  have HSC : Hid (scanS r t.size s0 t.data.toList t.size = nextW r t.size s0 t.data.toList) := scanS_next r t.size s0 t.data.toList HLEN.out
  clear hshd hsh hr
  obtain ⟨N, L, M, R, P⟩ := r
  have HNT : Hid (nxT ⟨N, L, M, R, P⟩ t = match nextW ⟨N, L, M, R, P⟩ t.size s0 t.data.toList with | some u => (⟨u.toArray⟩, true) | none => (⟨#[]⟩, false)) := rfl
  obtain ⟨⟨TX, TB⟩, hT⟩ : ∃ T, nxT ⟨N, L, M, R, P⟩ t = T := ⟨_, rfl⟩
  rw [hT] at HNT ⊢
  clear hT
  unfold shV at HVR HAS HST HNX ⊢
  unfold cV at HAS
  dsimp only at HVR HAS HST HNX hsz ⊢
  have HV1 := Lib.hid (HVR.out (w.alloc (.cells #[.int .i64 N, .int .i64 L, .int .i64 M, .int .i64 R, .int .i64 P] 25)))
  have B0 : Hid (Below w.heap.size w (w.alloc (.cells #[.int .i64 N, .int .i64 L, .int .i64 M, .int .i64 R, .int .i64 P] 25))) := (Below.refl _ w).alloc (Nat.le_refl _) _
  have KR0 : Hid (Blk (w.alloc (.cells #[.int .i64 N, .int .i64 L, .int .i64 M, .int .i64 R, .int .i64 P] 25)) w.heap.size 25 [.int .i64 N, .int .i64 L, .int .i64 M, .int .i64 R, .int .i64 P]) := Blk.new w _ _
  have HSZ := Lib.hid hsz
  clear hsz
  go_enter Tryd.func12, Tryd.ntmps12
  go_wp2_with fail
  refine HV1.out.mono ?_
  rintro e W1 ⟨rfl, hb1⟩
  have B1 : Hid (Below w.heap.size w W1) := B0.out.trans (hb1.mono (by simp))
  have KR1 := Lib.hid (KR0.out.below hb1 (by simp))
  have c0 := KR1.out.cell 0 _ rfl
  have c1 := KR1.out.cell 1 _ rfl
  have c2 := KR1.out.cell 2 _ rfl
  have c3 := KR1.out.cell 3 _ rfl
  have c4 := KR1.out.cell 4 _ rfl
  have HS1 := Lib.hid (HST.out W1)
  clear hb1 HV1 HVR HST B0 KR0
  go_wp2_with fail
  refine HS1.out.mono ?_
  rintro e W2 ⟨⟨gs, cs, rfl, ho2⟩, hb2⟩
  have B2 : Hid (Below w.heap.size w W2) := B1.out.trans (hb2.mono B1.out.size)
  have KR2 := Lib.hid (KR1.out.below hb2 KR1.out.lt)
  have O2 := Lib.hid ho2
  have hs12 := B1.out.size
  clear hb2 HS1 KR1 c0 c1 c2 c3 c4 ho2
  have c0 := KR2.out.cell 0 _ rfl
  have c1 := KR2.out.cell 1 _ rfl
  have c2 := KR2.out.cell 2 _ rfl
  have c3 := KR2.out.cell 3 _ rfl
  have c4 := KR2.out.cell 4 _ rfl
  have HA2 := Lib.hid (HAS.out W2)
  clear HAS
  go_wp2_with fail
  refine HA2.out.mono ?_
  rintro e W3 ⟨⟨b, rfl, hk3, hb3⟩, hbl3⟩
  obtain ⟨W4, hW4⟩ : ∃ W, W3.alloc (.cells #[.int .i64 N, .int .i64 L, .int .i64 M, .int .i64 R, .int .i64 P, .map (some b)] 53) = W := ⟨_, rfl⟩
  have B4 : Hid (Below w.heap.size w W4) := by
    show Below _ _ _; rw [← hW4]
    have h3 := B2.out.trans (hbl3.mono B2.out.size)
    exact h3.alloc h3.size _
  have KR4 : Hid (Blk W4 w.heap.size 25 [.int .i64 N, .int .i64 L, .int .i64 M, .int .i64 R, .int .i64 P]) := by show Blk _ _ _ _; rw [← hW4]; exact (KR2.out.below hbl3 KR2.out.lt).alloc _
  have O4 : Hid (OwnSt W4 W1.heap.size (.slice (some ⟨gs, 0, none⟩) (t.size + 1) cs) (t.size + 1) (stL ⟨N, L, M, R, P⟩ s0 t.data.toList)) := by
    show OwnSt _ _ _ _ _; rw [← hW4]; exact (O2.out.below hbl3 (Nat.le_refl _)).alloc _
  have K4 : Hid (KnI W4 b ⟨N, L, M, R, P⟩) := by show KnI _ _ _; rw [← hW4]; exact hk3.alloc _
  have KC4 : Hid (Blk W4 W3.heap.size 53 [.int .i64 N, .int .i64 L, .int .i64 M, .int .i64 R, .int .i64 P, .map (some b)]) := by show Blk _ _ _ _; rw [← hW4]; exact Blk.new W3 _ _
  have hbb : w.heap.size < b ∧ w.heap.size < W3.heap.size ∧ b < W3.heap.size ∧ gs < b := by
    have h0 := (O2.out.lt gs rfl).2; have h1 := KR2.out.lt; have h2 := hbl3.size; have h3 := hk3.lt
    omega
  have HW4 := Lib.hid hW4
  clear hW4 hk3 hbl3 HA2 c0 c1 c2 c3 c4 B1 B2 KR2 O2
  have htl : IntKind.i64.wrap ((t.size : Int) - 1) = (t.size : Int) - 1 := IntWalk.i64_in _ (by omega)
  have htz : (t.size : Int) ≤ 9223372036854775807 := by omega
  go_wp2
  rw [HW4.out]
  have HR0 : Hid (NxR ⟨N, L, M, R, P⟩ t w.heap.size w.heap.size W3.heap.size b gs cs w (.int .i64 ((t.size : Int) - 1)) W4) := by
    show NxR _ _ _ _ _ _ _ _ _ _ _
    refine ⟨t.size, Nat.le_refl _, rfl, rfl, KR4.out, KC4.out, K4.out, ?_, B4.out⟩
    refine ⟨O4.out.1, ?_⟩
    rcases O4.out.2 with h2 | ⟨g', cap, cur, hv, h3, h4⟩
    · exact .inl h2
    · exact .inr ⟨g', cap, cur, hv, by omega, h4⟩
  clear KR4 KC4 K4 O4 B4 HW4
  go_loopw [9] (fun vi wr => NxR ⟨N, L, M, R, P⟩ t w.heap.size w.heap.size W3.heap.size b gs cs w vi wr) (fun vi _ => (intOf vi + 1).toNat)
  case atStart => exact HR0.out
  case round =>
    obtain ⟨k, hk, rfl, hscan, hkr, hkc, hkn, how, hbl⟩ := hrel
    have HSCK := Lib.hid hscan
    have KR := Lib.hid hkr
    have KC := Lib.hid hkc
    have KN := Lib.hid hkn
    have HO := Lib.hid how
    have HBL := Lib.hid hbl
    clear hscan hkr hkc hkn how hbl HR0
    by_cases hk0 : 1 ≤ k
    · obtain ⟨i, rfl⟩ : ∃ i, k = i + 1 := ⟨k - 1, by omega⟩
      have hiv : (((i + 1 : Nat) : Int) - 1) = (i : Int) := by omega
      have i1 : (i : Int) ≥ 0 := by omega
      have i2 : (0 : Int) ≤ (i : Int) := by omega
      have i3 : (i : Int) < (t.size : Int) := by omega
      have hit : i < t.size := by omega
      rw [hiv]
      have HTRY : Hid (scanS ⟨N, L, M, R, P⟩ t.size s0 t.data.toList (i + 1) = match tryS ⟨N, L, M, R, P⟩ t.size s0 t.data.toList i with | some u => some u | none => scanS ⟨N, L, M, R, P⟩ t.size s0 t.data.toList i) := rfl
      have hgd : t.data.toList.getD i 0 = t[i] := by
        rw [List.getD_eq_getElem?_getD, List.getElem?_eq_getElem (by rw [HLEN.out]; exact hit)]
        simp
        rfl
      have hwi : IntKind.i64.wrap ((i : Int) - 1) = (i : Int) - 1 := IntWalk.i64_in _ (by omega)
      by_cases h119 : t[i].toNat = 119
      · have q1 : ((t[i].toNat : Int) == 119) = true := by rw [beq_iff_eq]; omega
        have HNONE : Hid (scanS ⟨N, L, M, R, P⟩ t.size s0 t.data.toList (i + 1) = scanS ⟨N, L, M, R, P⟩ t.size s0 t.data.toList i) := by
          show _ = _
          rw [HTRY.out]
          have : tryS ⟨N, L, M, R, P⟩ t.size s0 t.data.toList i = none := by
            unfold tryS
            rw [hgd, if_pos (UInt8.toNat_inj.1 (by rw [h119]; rfl))]
          rw [this]
        clear hgd h119 HTRY hiv
        go_wp2
        go_roundw
        case rel => exact ⟨i, by omega, rfl, by rw [HSCK.out, HNONE.out], KR.out, KC.out, KN.out, HO.out, HBL.out⟩
        case measure => simp [intOf]
      · have q1 : ((t[i].toNat : Int) == 119) = false := by rw [beq_eq_false_iff_ne]; omega
        have h119' : t.data.toList.getD i 0 ≠ 119 := by rw [hgd]; intro e; exact h119 (by rw [e]; rfl)
        have hil : i < (stL ⟨N, L, M, R, P⟩ s0 t.data.toList).length := by rw [stL_length, HLEN.out]; omega
        have HSI : Hid ((stL ⟨N, L, M, R, P⟩ s0 t.data.toList)[i] = stAt ⟨N, L, M, R, P⟩ s0 t.data.toList i) := by
          show _ = _
          have h := stL_at ⟨N, L, M, R, P⟩ s0 t.data.toList i (by rw [HLEN.out]; omega)
          rw [List.getElem?_eq_getElem hil] at h
          exact Option.some.inj h
        have HN1 : Hid (∀ W, _) := Lib.hid (fun W => HNX.out i W hit)
        have e0 := HO.out.cell i 0 hil (by decide)
        have e1 := HO.out.cell i 1 hil (by decide)
        have e2 := HO.out.cell i 2 hil (by decide)
        have e3 := HO.out.cell i 3 hil (by decide)
        have e4 := HO.out.cell i 4 hil (by decide)
        rw [HSI.out] at e0 e1 e2 e3 e4
        have HTR : Hid (tryS ⟨N, L, M, R, P⟩ t.size s0 t.data.toList i = if nxB ⟨N, L, M, R, P⟩ (stAt ⟨N, L, M, R, P⟩ s0 t.data.toList i) true then ((wsS ⟨N, L, M, R, P⟩ (t.size - i - 1) (nxW (stAt ⟨N, L, M, R, P⟩ s0 t.data.toList i))).head?).map (fun u => t.data.toList.take i ++ 119 :: u) else none) := by
          show _ = _
          unfold tryS
          rw [if_neg h119']
        have HLS1 := Lib.hid (fun b B g c W => HLS.out i b B g c W hit)
        obtain ⟨S, hS⟩ : ∃ S, stAt ⟨N, L, M, R, P⟩ s0 t.data.toList i = S := ⟨_, rfl⟩
        rw [hS] at HN1 e0 e1 e2 e3 e4 HTR HLS1
        unfold stV at HN1
        unfold stV cV at HLS1
        dsimp only at HLS1
        obtain ⟨oo, hoo⟩ : ∃ o, i * 5 = o := ⟨_, rfl⟩
        rw [hoo] at e0 e1 e2 e3 e4
        replace e0 : wr.cell? ⟨gs, oo, none⟩ = some (.int .i64 S.slot) := e0
        replace e1 : wr.cell? ⟨gs, oo + 1, none⟩ = some (.int .i64 S.worked) := e1
        replace e2 : wr.cell? ⟨gs, oo + 2, none⟩ = some (.int .i64 S.row) := e2
        replace e3 : wr.cell? ⟨gs, oo + 3, none⟩ = some (.int .i64 S.pause) := e3
        replace e4 : wr.cell? ⟨gs, oo + 4, none⟩ = some (.bool S.begun) := e4
        have c0 := KR.out.cell 0 _ rfl
        have c1 := KR.out.cell 1 _ rfl
        have c2 := KR.out.cell 2 _ rfl
        have c3 := KR.out.cell 3 _ rfl
        have c4 := KR.out.cell 4 _ rfl
        have i5 : (i : Int) < ((t.size + 1 : Nat) : Int) := by omega
        have i6 : (i : Int) < (t.size : Int) + 1 := by omega
        have hgsl : gs < wr.heap.size := (HO.out.lt gs rfl).2
        clear hgd h119 h119' hiv hS HNX HLS HSI hil
        go_wp2
        refine wp_region_held_drew (S := fun w' => w'.cell? ⟨w.heap.size, 0, none⟩ = some (.int .i64 N) ∧ w'.cell? ⟨w.heap.size, 1, none⟩ = some (.int .i64 L) ∧ w'.cell? ⟨w.heap.size, 2, none⟩ = some (.int .i64 M) ∧ w'.cell? ⟨w.heap.size, 3, none⟩ = some (.int .i64 R) ∧ w'.cell? ⟨w.heap.size, 4, none⟩ = some (.int .i64 P) ∧ w'.cell? ⟨gs, oo, none⟩ = some (.int .i64 S.slot) ∧ w'.cell? ⟨gs, oo + 1, none⟩ = some (.int .i64 S.worked) ∧ w'.cell? ⟨gs, oo + 2, none⟩ = some (.int .i64 S.row) ∧ w'.cell? ⟨gs, oo + 3, none⟩ = some (.int .i64 S.pause) ∧ w'.cell? ⟨gs, oo + 4, none⟩ = some (.bool S.begun)) (by kernel_rfl) ?_ (fun hHeld => ?_)
        · (try dsimp only); go_keep
        refine wpAnyH_take (i := 0) (v := ?va0) rfl (by kernel_rfl) (by kernel_rfl) (by kernel_rfl) (fun _ _ _ h => h) (Or.inl ⟨by rfl, ?ya0⟩) (by assumption) ?ra0
        case ya0 => (intro w hSw; (try dsimp only at hSw); go_split_ands; go_simp <;> (try with_reducible rfl))
        try simp only [Act.put, List.setIfInBounds_toArray, List.set_cons_zero, List.set_cons_succ]
        refine wpAnyH_take (i := 1) (v := ?va1) rfl (by kernel_rfl) (by kernel_rfl) (by kernel_rfl) (fun _ _ _ h => h) (Or.inl ⟨by rfl, ?ya1⟩) (by assumption) ?ra1
        case ya1 => (intro w hSw; (try dsimp only at hSw); go_split_ands; go_simp <;> (try with_reducible rfl))
        try simp only [Act.put, List.setIfInBounds_toArray, List.set_cons_zero, List.set_cons_succ]
        refine wpAnyH_take (i := 2) (v := ?va2) rfl (by kernel_rfl) (by kernel_rfl) (by kernel_rfl) (fun _ _ _ h => h) (Or.inl ⟨by rfl, ?ya2⟩) (by assumption) ?ra2
        case ya2 => (intro w hSw; (try dsimp only at hSw); go_split_ands; go_simp <;> (try with_reducible rfl))
        try simp only [Act.put, List.setIfInBounds_toArray, List.set_cons_zero, List.set_cons_succ]
        refine wpAnyH_take (i := 3) (v := ?va3) rfl (by kernel_rfl) (by kernel_rfl) (by kernel_rfl) (fun _ _ _ h => h) (Or.inl ⟨by rfl, ?ya3⟩) (by assumption) ?ra3
        case ya3 => (intro w hSw; (try dsimp only at hSw); go_split_ands; go_simp <;> (try with_reducible rfl))
        try simp only [Act.put, List.setIfInBounds_toArray, List.set_cons_zero, List.set_cons_succ]
        refine wpAnyH_take (i := 4) (v := ?va4) rfl (by kernel_rfl) (by kernel_rfl) (by kernel_rfl) (fun _ _ _ h => h) (Or.inl ⟨by rfl, ?ya4⟩) (by assumption) ?ra4
        case ya4 => (intro w hSw; (try dsimp only at hSw); go_split_ands; go_simp <;> (try with_reducible rfl))
        try simp only [Act.put, List.setIfInBounds_toArray, List.set_cons_zero, List.set_cons_succ]
        refine wpAnyH_ready (rs := [5, 9]) (by kernel_rfl) (by simp) ?_
        refine AllReadyH.cons rfl (fun K hK => ?_) (AllReadyH.cons rfl (fun K hK => ?_) AllReadyH.nil)
        · go_simp
          (go_at_call 25; refine (HN1.out (wr.drewN 1)).mono ?_; rintro e W5 ⟨⟨s', rfl, hs'⟩, hb5⟩; have HB5 := Lib.hid hb5; have HS' := Lib.hid hs'; clear hb5 hs')
          have KR5 := Lib.hid ((KR.out.drewN 1).below HB5.out KR.out.lt)
          have HO5 := Lib.hid ((HO.out.below (below_drewN 1 (Below.refl wr.heap.size wr)) (Nat.le_refl _)).below HB5.out (Nat.le_refl _))
          have x0 : W5.cell? ⟨gs, oo, none⟩ = some (.int .i64 S.slot) := (HB5.out.cell hgsl).trans e0
          have x1 : W5.cell? ⟨gs, oo + 1, none⟩ = some (.int .i64 S.worked) := (HB5.out.cell hgsl).trans e1
          have x2 : W5.cell? ⟨gs, oo + 2, none⟩ = some (.int .i64 S.row) := (HB5.out.cell hgsl).trans e2
          have x3 : W5.cell? ⟨gs, oo + 3, none⟩ = some (.int .i64 S.pause) := (HB5.out.cell hgsl).trans e3
          have x4 : W5.cell? ⟨gs, oo + 4, none⟩ = some (.bool S.begun) := (HB5.out.cell hgsl).trans e4
          refine hK.out _ _ ?_ (fun hHeld => ?_)
          · (try dsimp only); exact ⟨KR5.out.cell 0 _ rfl, KR5.out.cell 1 _ rfl, KR5.out.cell 2 _ rfl, KR5.out.cell 3 _ rfl, KR5.out.cell 4 _ rfl, x0, x1, x2, x3, x4⟩
          clear hK K
          try simp only [Act.put, List.setIfInBounds_toArray, List.set_cons_zero, List.set_cons_succ]
          refine wpAnyH_take (i := 6) (v := ?vb6) rfl (by kernel_rfl) (by kernel_rfl) (by kernel_rfl) (fun _ _ _ h => h) (Or.inl ⟨by rfl, ?yb6⟩) (by assumption) ?rb6
          case yb6 => (intro w hSw; (try dsimp only at hSw); go_split_ands; go_simp <;> (try with_reducible rfl))
          try simp only [Act.put, List.setIfInBounds_toArray, List.set_cons_zero, List.set_cons_succ]
          refine wpAnyH_take (i := 7) (v := ?vb7) rfl (by kernel_rfl) (by kernel_rfl) (by kernel_rfl) (fun _ _ _ h => h) (Or.inl ⟨by rfl, ?yb7⟩) (by assumption) ?rb7
          case yb7 => (intro w hSw; (try dsimp only at hSw); go_split_ands; go_simp <;> (try with_reducible rfl))
          try simp only [Act.put, List.setIfInBounds_toArray, List.set_cons_zero, List.set_cons_succ]
          refine wpAnyH_take (i := 8) (v := ?vb8) rfl (by kernel_rfl) (by kernel_rfl) (by kernel_rfl) (fun _ _ _ h => h) (Or.inl ⟨by rfl, ?yb8⟩) (by assumption) ?rb8
          case yb8 => (intro w hSw; (try dsimp only at hSw); go_split_ands; go_simp <;> (try with_reducible rfl))
          try simp only [Act.put, List.setIfInBounds_toArray, List.set_cons_zero, List.set_cons_succ]
          have KC5 := Lib.hid ((KC.out.drewN 1).below HB5.out KC.out.lt)
          have KN5 := Lib.hid ((KN.out.drewN 1).below HB5.out KN.out.lt)
          have HBL5 : Hid (Below w.heap.size w W5) := (below_drewN 1 HBL.out).trans (HB5.out.mono HBL.out.size)
          have hgs5 := (HO5.out.lt gs rfl).2
          have hw5 := KR5.out.lt
          have hneg : ¬ gs = W5.heap.size := by omega
          have hnew : ¬ w.heap.size = W5.heap.size := by omega
          refine wpAnyH_ready (rs := [9]) (by kernel_rfl) (by simp) ?_
          refine AllReadyH.cons rfl (fun K hK => ?_) AllReadyH.nil
          go_simp
          refine hK.out _ _ ?_ (fun hHeld => ?_)
          · (try dsimp only); go_keep
          clear hK K
          try simp only [Act.put, List.setIfInBounds_toArray, List.set_cons_zero, List.set_cons_succ]
          refine wpAnyH_ready (rs := [10]) (by kernel_rfl) (by simp) ?_
          refine AllReadyH.cons rfl (fun K hK => ?_) AllReadyH.nil
          go_simp
          refine hK.out _ _ ?_ (fun hHeld => ?_)
          · (try dsimp only); go_keep
          clear hK K
          try simp only [Act.put, List.setIfInBounds_toArray, List.set_cons_zero, List.set_cons_succ]
          refine wpAnyH_take (i := 11) (v := ?vb11) rfl (by kernel_rfl) (by kernel_rfl) (by kernel_rfl) (fun _ _ _ h => h) (Or.inl ⟨by rfl, ?yb11⟩) (by assumption) ?rb11
          case yb11 => (intro w hSw; (try dsimp only at hSw); go_split_ands; go_simp <;> (try with_reducible rfl))
          try simp only [Act.put, List.setIfInBounds_toArray, List.set_cons_zero, List.set_cons_succ]
          refine wpAnyH_done (by kernel_rfl) ?_ _
          obtain ⟨q, hq⟩ : ∃ q, W5.heap.size = q := ⟨_, rfl⟩
          have KR6 : Hid (Blk (W5.alloc (.cells #[.int .i64 s'.slot, .int .i64 s'.worked, .int .i64 s'.row, .int .i64 s'.pause, .bool s'.begun] 57)) w.heap.size 25 [.int .i64 N, .int .i64 L, .int .i64 M, .int .i64 R, .int .i64 P]) := KR5.out.alloc _
          have KC6 : Hid (Blk (W5.alloc (.cells #[.int .i64 s'.slot, .int .i64 s'.worked, .int .i64 s'.row, .int .i64 s'.pause, .bool s'.begun] 57)) W3.heap.size 53 [.int .i64 N, .int .i64 L, .int .i64 M, .int .i64 R, .int .i64 P, .map (some b)]) := KC5.out.alloc _
          have KN6 : Hid (KnI (W5.alloc (.cells #[.int .i64 s'.slot, .int .i64 s'.worked, .int .i64 s'.row, .int .i64 s'.pause, .bool s'.begun] 57)) b ⟨N, L, M, R, P⟩) := KN5.out.alloc _
          have HO6 : Hid (OwnSt (W5.alloc (.cells #[.int .i64 s'.slot, .int .i64 s'.worked, .int .i64 s'.row, .int .i64 s'.pause, .bool s'.begun] 57)) w.heap.size (.slice (some ⟨gs, 0, none⟩) (t.size + 1) cs) (t.size + 1) (stL ⟨N, L, M, R, P⟩ s0 t.data.toList)) := HO5.out.alloc _
          have HBL6 : Hid (Below w.heap.size w (W5.alloc (.cells #[.int .i64 s'.slot, .int .i64 s'.worked, .int .i64 s'.row, .int .i64 s'.pause, .bool s'.begun] 57))) := HBL5.out.alloc HBL5.out.size _
          have KQ6 : Hid (Blk (W5.alloc (.cells #[.int .i64 s'.slot, .int .i64 s'.worked, .int .i64 s'.row, .int .i64 s'.pause, .bool s'.begun] 57)) q 57 [.int .i64 s'.slot, .int .i64 s'.worked, .int .i64 s'.row, .int .i64 s'.pause, .bool s'.begun]) := by
            show Blk _ _ _ _; rw [← hq]; exact Blk.new W5 _ _
          have hqd : q ≠ b ∧ q ≠ W3.heap.size ∧ q ≠ w.heap.size ∧ q ≠ gs := by
            have h1 := KN5.out.lt; have h2 := KC5.out.lt; have h3 := KR5.out.lt
            omega
          generalize (W5.alloc (.cells #[.int .i64 s'.slot, .int .i64 s'.worked, .int .i64 s'.row, .int .i64 s'.pause, .bool s'.begun] 57)) = W6 at KR6 KC6 KN6 HO6 HBL6 KQ6 ⊢
          rw [hq]
          clear hq KR5 KC5 KN5 HO5 HBL5 HB5 hgs5 hw5 hneg hnew hgsl
          clear e0 e1 e2 e3 e4 c0 c1 c2 c3 c4 x0 x1 x2 x3 x4 KR KC KN HO HBL HN1 hoo
          cases hnx : nxB ⟨N, L, M, R, P⟩ S true with
          | false =>
            have HNONE : Hid (scanS ⟨N, L, M, R, P⟩ t.size s0 t.data.toList (i + 1) = scanS ⟨N, L, M, R, P⟩ t.size s0 t.data.toList i) := by
              show _ = _
              rw [HTRY.out, HTR.out, hnx]
              rfl
            clear HTRY HTR hnx
            go_wp2
            go_roundw
            case rel => exact ⟨i, by omega, rfl, by rw [HSCK.out, HNONE.out], KR6.out, KC6.out, KN6.out, HO6.out, HBL6.out⟩
            case measure => simp [intOf]
          | true =>
            have hs'' := HS'.out hnx
            subst hs''
            have HTR2 : Hid (tryS ⟨N, L, M, R, P⟩ t.size s0 t.data.toList i = ((wsS ⟨N, L, M, R, P⟩ (t.size - i - 1) (nxW S)).head?).map (fun u => t.data.toList.take i ++ 119 :: u)) := by
              show _ = _
              rw [HTR.out, hnx, if_pos rfl]
            have d0 := KC6.out.cell 0 _ rfl
            have d1 := KC6.out.cell 1 _ rfl
            have d2 := KC6.out.cell 2 _ rfl
            have d3 := KC6.out.cell 3 _ rfl
            have d4 := KC6.out.cell 4 _ rfl
            have d5 := KC6.out.cell 5 _ rfl
            have f0 := KQ6.out.cell 0 _ rfl
            have f1 := KQ6.out.cell 1 _ rfl
            have f2 := KQ6.out.cell 2 _ rfl
            have f3 := KQ6.out.cell 3 _ rfl
            have f4 := KQ6.out.cell 4 _ rfl
            have hql := KQ6.out.lt
            have hbl6 := KN6.out.lt
            have hcl6 := KC6.out.lt
            have hwl6 := KR6.out.lt
            have hgl6 := (HO6.out.lt gs rfl).2
            have HLS6 := Lib.hid (HLS1.out b w.heap.size W6.heap.size 0 ((W6.drewN 1).alloc (.cells #[] 9)) ((KN6.out.drewN 1).alloc _) (OwnT.lit (W6.drewN 1) w.heap.size [] HBL6.out.size (by unfold maxLen; simp)) (by omega) (by have := HBL6.out.size; simp; omega))
            have HTF := Lib.hid (try_first ⟨N, L, M, R, P⟩ (t.size - i - 1) S t i)
            obtain ⟨F, hF⟩ : ∃ F, fitT 1 [] (lsW ⟨N, L, M, R, P⟩ (t.size - i - 1) (nxW S) (t.extract 0 i ++ ⟨#[119]⟩)) = F := ⟨_, rfl⟩
            rw [hF] at HTF HLS6
            have HXC : Hid (∀ W, GrownL [b, W6.heap.size] ((W6.drewN 1).alloc (.cells #[] 9)) W → (W.cell? ⟨W3.heap.size, 0, none⟩ = some (.int .i64 N) ∧ W.cell? ⟨W3.heap.size, 1, none⟩ = some (.int .i64 L) ∧ W.cell? ⟨W3.heap.size, 2, none⟩ = some (.int .i64 M) ∧ W.cell? ⟨W3.heap.size, 3, none⟩ = some (.int .i64 R) ∧ W.cell? ⟨W3.heap.size, 4, none⟩ = some (.int .i64 P) ∧ W.cell? ⟨W3.heap.size, 5, none⟩ = some (.map (some b)) ∧ W.cell? ⟨q, 0, none⟩ = some (.int .i64 (nxW S).slot) ∧ W.cell? ⟨q, 1, none⟩ = some (.int .i64 (nxW S).worked) ∧ W.cell? ⟨q, 2, none⟩ = some (.int .i64 (nxW S).row) ∧ W.cell? ⟨q, 3, none⟩ = some (.int .i64 (nxW S).pause) ∧ W.cell? ⟨q, 4, none⟩ = some (.bool (nxW S).begun))) := fun W hW => by
              have h1 := ((KC6.out.drewN 1).alloc (.cells #[] 9)).grownL hW (by simp; omega)
              have h2 := ((KQ6.out.drewN 1).alloc (.cells #[] 9)).grownL hW (by simp; omega)
              exact ⟨h1.cell 0 _ rfl, h1.cell 1 _ rfl, h1.cell 2 _ rfl, h1.cell 3 _ rfl, h1.cell 4 _ rfl, h1.cell 5 _ rfl, h2.cell 0 _ rfl, h2.cell 1 _ rfl, h2.cell 2 _ rfl, h2.cell 3 _ rfl, h2.cell 4 _ rfl⟩
            have hta : i ≤ t.size := by omega
            have htb : ¬ 9223372036854775807 < i + 1 := by omega
            have hneq : ¬ q = W6.heap.size := by omega
            have hne3 : ¬ W3.heap.size = W6.heap.size := by omega
            clear HTR hnx HLS1 hF HS'
            go_wp2
            go_region_held3 (fun w' => w'.cell? ⟨W3.heap.size, 0, none⟩ = some (.int .i64 N) ∧ w'.cell? ⟨W3.heap.size, 1, none⟩ = some (.int .i64 L) ∧ w'.cell? ⟨W3.heap.size, 2, none⟩ = some (.int .i64 M) ∧ w'.cell? ⟨W3.heap.size, 3, none⟩ = some (.int .i64 R) ∧ w'.cell? ⟨W3.heap.size, 4, none⟩ = some (.int .i64 P) ∧ w'.cell? ⟨W3.heap.size, 5, none⟩ = some (.map (some b)) ∧ w'.cell? ⟨q, 0, none⟩ = some (.int .i64 (nxW S).slot) ∧ w'.cell? ⟨q, 1, none⟩ = some (.int .i64 (nxW S).worked) ∧ w'.cell? ⟨q, 2, none⟩ = some (.int .i64 (nxW S).row) ∧ w'.cell? ⟨q, 3, none⟩ = some (.int .i64 (nxW S).pause) ∧ w'.cell? ⟨q, 4, none⟩ = some (.bool (nxW S).begun)) (first | go_keep)
              ((go_at_call 22; refine HLS6.out.mono ?_; rintro e W8 ⟨g9, c9, n9, rfl, ho9, hn9, hk9, hg9, hl9⟩; obtain ⟨z0, z1, z2, z3, z4, z5, z6, z7, z8, z9, z10⟩ := HXC.out W8 hg9; have HA9 := Lib.hid (And.intro ho9 (And.intro hn9 (And.intro hk9 (And.intro hg9 hl9)))); clear ho9 hn9 hk9 hg9 hl9))
            have HG9 := HA9.out.2.2.2.1
            have HR8 : Hid (Blk W8 w.heap.size 25 [.int .i64 N, .int .i64 L, .int .i64 M, .int .i64 R, .int .i64 P] ∧ Blk W8 W3.heap.size 53 [.int .i64 N, .int .i64 L, .int .i64 M, .int .i64 R, .int .i64 P, .map (some b)] ∧ OwnSt W8 w.heap.size (.slice (some ⟨gs, 0, none⟩) (t.size + 1) cs) (t.size + 1) (stL ⟨N, L, M, R, P⟩ s0 t.data.toList) ∧ Below w.heap.size w W8) := by
              refine ⟨((KR6.out.drewN 1).alloc _).grownL HG9 (by simp; omega), ((KC6.out.drewN 1).alloc _).grownL HG9 (by simp; omega), ((HO6.out.drewN 1).alloc _).grownL HG9 (by simp; omega), HG9.toBelow ((below_drewN 1 HBL6.out).alloc (by have := HBL6.out.size; exact this) _) (by have := HBL6.out.size; simp; omega) (by intro j hj; have := HBL6.out.size; simp; omega)⟩
            clear HG9 KR6 KC6 HO6 HBL6 KQ6 KN6 d0 d1 d2 d3 d4 d5 f0 f1 f2 f3 f4 z0 z1 z2 z3 z4 z5 z6 z7 z8 z9 z10 HXC HLS6
            cases hh : (wsS ⟨N, L, M, R, P⟩ (t.size - i - 1) (nxW S)).head? with
            | none =>
              have hF : F = [] := by have := HTF.out; rw [hh] at this; exact this
              have hn0 : n9 = 0 := by rw [HA9.out.2.1, hF]; rfl
              subst hn0
              have HNONE : Hid (scanS ⟨N, L, M, R, P⟩ t.size s0 t.data.toList (i + 1) = scanS ⟨N, L, M, R, P⟩ t.size s0 t.data.toList i) := by
                show _ = _
                rw [HTRY.out, HTR2.out, hh]
                rfl
              clear HTRY HTR2 hh HTF hF
              go_wp2
              go_roundw
              case rel => exact ⟨i, by omega, rfl, by rw [HSCK.out, HNONE.out], HR8.out.1, HR8.out.2.1, HA9.out.2.2.1, HR8.out.2.2.1, HR8.out.2.2.2⟩
              case measure => simp [intOf]
            | some u =>
              have hF : F = [⟨(t.data.toList.take i ++ 119 :: u).toArray⟩] := by have := HTF.out; rw [hh] at this; exact this
              have hn1 : n9 = 1 := by rw [HA9.out.2.1, hF]; rfl
              subst hn1
              have ho1 := HA9.out.1
              rw [hF] at ho1
              have hcell := ho1.one
              have HFIN : Hid ((TX, TB) = ((⟨(t.data.toList.take i ++ 119 :: u).toArray⟩ : ByteArray), true)) := by
                show _ = _
                rw [HNT.out, ← HSC.out, HSCK.out, HTRY.out, HTR2.out, hh]
                rfl
              clear HTRY HTR2 hh HTF hF ho1
              go_wp2
              go_ret2
              obtain ⟨h1, h2⟩ := Prod.mk.inj HFIN.out
              exact ⟨by rw [h1, h2]; rfl, HR8.out.2.2.2⟩
        · go_simp
          have hnewg : ¬ gs = wr.heap.size := by omega
          have hneww : ¬ w.heap.size = wr.heap.size := by have := KR.out.lt; omega
          refine hK.out _ _ ?_ (fun hHeld => ?_)
          · (try dsimp only); go_keep
          clear hK K
          try simp only [Act.put, List.setIfInBounds_toArray, List.set_cons_zero, List.set_cons_succ]
          refine wpAnyH_ready (rs := [5]) (by kernel_rfl) (by simp) ?_
          refine AllReadyH.cons rfl (fun K hK => ?_) AllReadyH.nil
          go_simp
          (go_at_call 25; refine (HN1.out ((wr.drewN 1).alloc (.cells #[.int .i64 0, .int .i64 0, .int .i64 0, .int .i64 0, .bool false] 57))).mono ?_; rintro e W5 ⟨⟨s', rfl, hs'⟩, hb5⟩; have HB5 : Hid (Below (wr.heap.size + 1) ((wr.drewN 1).alloc (.cells #[.int .i64 0, .int .i64 0, .int .i64 0, .int .i64 0, .bool false] 57)) W5) := hb5.mono (by simp); have HS' := Lib.hid hs'; clear hb5 hs')
          have KR5 := Lib.hid (((KR.out.drewN 1).alloc (.cells #[.int .i64 0, .int .i64 0, .int .i64 0, .int .i64 0, .bool false] 57)).below HB5.out (by have := KR.out.lt; omega))
          have KC5 := Lib.hid (((KC.out.drewN 1).alloc (.cells #[.int .i64 0, .int .i64 0, .int .i64 0, .int .i64 0, .bool false] 57)).below HB5.out (by have := KC.out.lt; omega))
          have KN5 := Lib.hid (((KN.out.drewN 1).alloc (.cells #[.int .i64 0, .int .i64 0, .int .i64 0, .int .i64 0, .bool false] 57)).below HB5.out (by have := KN.out.lt; omega))
          have HO5 := Lib.hid (((HO.out.drewN 1).alloc (.cells #[.int .i64 0, .int .i64 0, .int .i64 0, .int .i64 0, .bool false] 57)).below HB5.out (by simp))
          have KQ5 : Hid (Blk W5 wr.heap.size 57 [.int .i64 0, .int .i64 0, .int .i64 0, .int .i64 0, .bool false]) := (Blk.new (wr.drewN 1) 57 [.int .i64 0, .int .i64 0, .int .i64 0, .int .i64 0, .bool false]).below HB5.out (by show wr.heap.size < _; omega)
          have HBL5 : Hid (Below w.heap.size w W5) := ((below_drewN 1 HBL.out).alloc HBL.out.size _).trans (HB5.out.mono (by have := HBL.out.size; omega))
          have hce : ∀ j v, wr.cell? ⟨gs, j, none⟩ = some v → W5.cell? ⟨gs, j, none⟩ = some v := fun j v h => by
            have h1 := (HB5.out.cell (p := ⟨gs, j, none⟩) (by show gs < _; omega))
            exact h1.trans ((World.cell?_of_block (w := wr.drewN 1) (Below.heap_alloc _ _ _ hgsl)).trans h)
          have x0 := hce _ _ e0
          have x1 := hce _ _ e1
          have x2 := hce _ _ e2
          have x3 := hce _ _ e3
          have x4 := hce _ _ e4
          have y0 := KQ5.out.cell 0 _ rfl
          have y1 := KQ5.out.cell 1 _ rfl
          have y2 := KQ5.out.cell 2 _ rfl
          have y3 := KQ5.out.cell 3 _ rfl
          have y4 := KQ5.out.cell 4 _ rfl
          have v0 := KQ5.out.frozen 0
          have v1 := KQ5.out.frozen 1
          have v2 := KQ5.out.frozen 2
          have v3 := KQ5.out.frozen 3
          have v4 := KQ5.out.frozen 4
          have HKS : Hid (Blk (((((W5.setCell ⟨wr.heap.size, 0, none⟩ (.int .i64 s'.slot)).setCell ⟨wr.heap.size, 1, none⟩ (.int .i64 s'.worked)).setCell ⟨wr.heap.size, 2, none⟩ (.int .i64 s'.row)).setCell ⟨wr.heap.size, 3, none⟩ (.int .i64 s'.pause)).setCell ⟨wr.heap.size, 4, none⟩ (.bool s'.begun)) w.heap.size 25 [.int .i64 N, .int .i64 L, .int .i64 M, .int .i64 R, .int .i64 P]) := ((((KR5.out.far _ _ hneww).far _ _ hneww).far _ _ hneww).far _ _ hneww).far _ _ hneww
          have hcs : ∀ j v, W5.cell? ⟨gs, j, none⟩ = some v → (((((W5.setCell ⟨wr.heap.size, 0, none⟩ (.int .i64 s'.slot)).setCell ⟨wr.heap.size, 1, none⟩ (.int .i64 s'.worked)).setCell ⟨wr.heap.size, 2, none⟩ (.int .i64 s'.row)).setCell ⟨wr.heap.size, 3, none⟩ (.int .i64 s'.pause)).setCell ⟨wr.heap.size, 4, none⟩ (.bool s'.begun)).cell? ⟨gs, j, none⟩ = some v := fun j v h => cell_far0 hnewg (cell_far0 hnewg (cell_far0 hnewg (cell_far0 hnewg (cell_far0 hnewg (h)))))
          have HCS := Lib.hid hcs
          clear hce hcs
          refine hK.out _ _ ?_ (fun hHeld => ?_)
          · (try dsimp only); exact ⟨KR5.out.cell 0 _ rfl, KR5.out.cell 1 _ rfl, KR5.out.cell 2 _ rfl, KR5.out.cell 3 _ rfl, KR5.out.cell 4 _ rfl, x0, x1, x2, x3, x4⟩
          clear hK K
          try simp only [Act.put, List.setIfInBounds_toArray, List.set_cons_zero, List.set_cons_succ]
          refine wpAnyH_take (i := 6) (v := ?vc6) rfl (by kernel_rfl) (by kernel_rfl) (by kernel_rfl) (fun _ _ _ h => h) (Or.inl ⟨by rfl, ?yc6⟩) (by assumption) ?rc6
          case yc6 => (intro w hSw; (try dsimp only at hSw); go_split_ands; go_simp <;> (try with_reducible rfl))
          try simp only [Act.put, List.setIfInBounds_toArray, List.set_cons_zero, List.set_cons_succ]
          refine wpAnyH_take (i := 7) (v := ?vc7) rfl (by kernel_rfl) (by kernel_rfl) (by kernel_rfl) (fun _ _ _ h => h) (Or.inl ⟨by rfl, ?yc7⟩) (by assumption) ?rc7
          case yc7 => (intro w hSw; (try dsimp only at hSw); go_split_ands; go_simp <;> (try with_reducible rfl))
          try simp only [Act.put, List.setIfInBounds_toArray, List.set_cons_zero, List.set_cons_succ]
          refine wpAnyH_take (i := 8) (v := ?vc8) rfl (by kernel_rfl) (by kernel_rfl) (by kernel_rfl) (fun _ _ _ h => h) (Or.inl ⟨by rfl, ?yc8⟩) (by assumption) ?rc8
          case yc8 => (intro w hSw; (try dsimp only at hSw); go_split_ands; go_simp <;> (try with_reducible rfl))
          try simp only [Act.put, List.setIfInBounds_toArray, List.set_cons_zero, List.set_cons_succ]
          refine wpAnyH_ready (rs := [10]) (by kernel_rfl) (by simp) ?_
          refine AllReadyH.cons rfl (fun K hK => ?_) AllReadyH.nil
          go_simp
          refine hK.out _ _ ?_ (fun hHeld => ?_)
          · (try dsimp only); exact ⟨HKS.out.cell 0 _ rfl, HKS.out.cell 1 _ rfl, HKS.out.cell 2 _ rfl, HKS.out.cell 3 _ rfl, HKS.out.cell 4 _ rfl, HCS.out _ _ x0, HCS.out _ _ x1, HCS.out _ _ x2, HCS.out _ _ x3, HCS.out _ _ x4⟩
          clear hK K
          try simp only [Act.put, List.setIfInBounds_toArray, List.set_cons_zero, List.set_cons_succ]
          refine wpAnyH_take (i := 11) (v := ?vc11) rfl (by kernel_rfl) (by kernel_rfl) (by kernel_rfl) (fun _ _ _ h => h) (Or.inl ⟨by rfl, ?yc11⟩) (by assumption) ?rc11
          case yc11 => (intro w hSw; (try dsimp only at hSw); go_split_ands; go_simp <;> (try with_reducible rfl))
          try simp only [Act.put, List.setIfInBounds_toArray, List.set_cons_zero, List.set_cons_succ]
          refine wpAnyH_done (by kernel_rfl) ?_ _
          have hqd : wr.heap.size ≠ b ∧ wr.heap.size ≠ W3.heap.size ∧ wr.heap.size ≠ w.heap.size ∧ wr.heap.size ≠ gs := by
            have h1 := KN.out.lt; have h2 := KC.out.lt
            omega
          have KR6 : Hid (Blk (((((W5.setCell ⟨wr.heap.size, 0, none⟩ (.int .i64 s'.slot)).setCell ⟨wr.heap.size, 1, none⟩ (.int .i64 s'.worked)).setCell ⟨wr.heap.size, 2, none⟩ (.int .i64 s'.row)).setCell ⟨wr.heap.size, 3, none⟩ (.int .i64 s'.pause)).setCell ⟨wr.heap.size, 4, none⟩ (.bool s'.begun)) w.heap.size 25 [.int .i64 N, .int .i64 L, .int .i64 M, .int .i64 R, .int .i64 P]) := ((((KR5.out.far _ _ hneww).far _ _ hneww).far _ _ hneww).far _ _ hneww).far _ _ hneww
          have KC6 : Hid (Blk (((((W5.setCell ⟨wr.heap.size, 0, none⟩ (.int .i64 s'.slot)).setCell ⟨wr.heap.size, 1, none⟩ (.int .i64 s'.worked)).setCell ⟨wr.heap.size, 2, none⟩ (.int .i64 s'.row)).setCell ⟨wr.heap.size, 3, none⟩ (.int .i64 s'.pause)).setCell ⟨wr.heap.size, 4, none⟩ (.bool s'.begun)) W3.heap.size 53 [.int .i64 N, .int .i64 L, .int .i64 M, .int .i64 R, .int .i64 P, .map (some b)]) := ((((KC5.out.far _ _ (Ne.symm hqd.2.1)).far _ _ (Ne.symm hqd.2.1)).far _ _ (Ne.symm hqd.2.1)).far _ _ (Ne.symm hqd.2.1)).far _ _ (Ne.symm hqd.2.1)
          have KN6 : Hid (KnI (((((W5.setCell ⟨wr.heap.size, 0, none⟩ (.int .i64 s'.slot)).setCell ⟨wr.heap.size, 1, none⟩ (.int .i64 s'.worked)).setCell ⟨wr.heap.size, 2, none⟩ (.int .i64 s'.row)).setCell ⟨wr.heap.size, 3, none⟩ (.int .i64 s'.pause)).setCell ⟨wr.heap.size, 4, none⟩ (.bool s'.begun)) b ⟨N, L, M, R, P⟩) := by
            have hg : GrownL [wr.heap.size] W5 (((((W5.setCell ⟨wr.heap.size, 0, none⟩ (.int .i64 s'.slot)).setCell ⟨wr.heap.size, 1, none⟩ (.int .i64 s'.worked)).setCell ⟨wr.heap.size, 2, none⟩ (.int .i64 s'.row)).setCell ⟨wr.heap.size, 3, none⟩ (.int .i64 s'.pause)).setCell ⟨wr.heap.size, 4, none⟩ (.bool s'.begun)) := (((((GrownL.refl _ W5).setCell _ _ (.inl (by simp))).setCell _ _ (.inl (by simp))).setCell _ _ (.inl (by simp))).setCell _ _ (.inl (by simp))).setCell _ _ (.inl (by simp))
            exact KN5.out.grown hg (by simp; omega)
          have hne6 : (Value.slice (some ⟨gs, 0, none⟩) (t.size + 1) cs).ownBlock ≠ some wr.heap.size := by
            show some gs ≠ some wr.heap.size
            intro e; injection e with e; omega
          have HO6 : Hid (OwnSt (((((W5.setCell ⟨wr.heap.size, 0, none⟩ (.int .i64 s'.slot)).setCell ⟨wr.heap.size, 1, none⟩ (.int .i64 s'.worked)).setCell ⟨wr.heap.size, 2, none⟩ (.int .i64 s'.row)).setCell ⟨wr.heap.size, 3, none⟩ (.int .i64 s'.pause)).setCell ⟨wr.heap.size, 4, none⟩ (.bool s'.begun)) w.heap.size (.slice (some ⟨gs, 0, none⟩) (t.size + 1) cs) (t.size + 1) (stL ⟨N, L, M, R, P⟩ s0 t.data.toList)) :=
            ((((HO5.out.kept (grown_set5 _ _ _) (.inr hne6)).kept (grown_set5 _ _ _) (.inr hne6)).kept (grown_set5 _ _ _) (.inr hne6)).kept (grown_set5 _ _ _) (.inr hne6)).kept (grown_set5 _ _ _) (.inr hne6)
          have hszw := HBL.out.size
          have HBL6 : Hid (Below w.heap.size w (((((W5.setCell ⟨wr.heap.size, 0, none⟩ (.int .i64 s'.slot)).setCell ⟨wr.heap.size, 1, none⟩ (.int .i64 s'.worked)).setCell ⟨wr.heap.size, 2, none⟩ (.int .i64 s'.row)).setCell ⟨wr.heap.size, 3, none⟩ (.int .i64 s'.pause)).setCell ⟨wr.heap.size, 4, none⟩ (.bool s'.begun))) := ((((HBL5.out.setCell hszw _).setCell hszw _).setCell hszw _).setCell hszw _).setCell hszw _
          have KQ6 : Hid (Blk (((((W5.setCell ⟨wr.heap.size, 0, none⟩ (.int .i64 s'.slot)).setCell ⟨wr.heap.size, 1, none⟩ (.int .i64 s'.worked)).setCell ⟨wr.heap.size, 2, none⟩ (.int .i64 s'.row)).setCell ⟨wr.heap.size, 3, none⟩ (.int .i64 s'.pause)).setCell ⟨wr.heap.size, 4, none⟩ (.bool s'.begun)) wr.heap.size 57 [.int .i64 s'.slot, .int .i64 s'.worked, .int .i64 s'.row, .int .i64 s'.pause, .bool s'.begun]) := ((((KQ5.out.set 0 _).set 1 _).set 2 _).set 3 _).set 4 _
          generalize (((((W5.setCell ⟨wr.heap.size, 0, none⟩ (.int .i64 s'.slot)).setCell ⟨wr.heap.size, 1, none⟩ (.int .i64 s'.worked)).setCell ⟨wr.heap.size, 2, none⟩ (.int .i64 s'.row)).setCell ⟨wr.heap.size, 3, none⟩ (.int .i64 s'.pause)).setCell ⟨wr.heap.size, 4, none⟩ (.bool s'.begun)) = W6 at KR6 KC6 KN6 HO6 HBL6 KQ6 ⊢
          obtain ⟨q, hq⟩ : ∃ q, wr.heap.size = q := ⟨_, rfl⟩
          rw [hq] at KQ6 hqd ⊢
          clear hq KR5 KC5 KN5 HO5 HBL5 HB5 KQ5 hgsl hnewg hneww hne6 hszw y0 y1 y2 y3 y4 v0 v1 v2 v3 v4
          clear e0 e1 e2 e3 e4 c0 c1 c2 c3 c4 x0 x1 x2 x3 x4 KR KC KN HO HBL HN1 hoo
          cases hnx : nxB ⟨N, L, M, R, P⟩ S true with
          | false =>
            have HNONE : Hid (scanS ⟨N, L, M, R, P⟩ t.size s0 t.data.toList (i + 1) = scanS ⟨N, L, M, R, P⟩ t.size s0 t.data.toList i) := by
              show _ = _
              rw [HTRY.out, HTR.out, hnx]
              rfl
            clear HTRY HTR hnx
            go_wp2
            go_roundw
            case rel => exact ⟨i, by omega, rfl, by rw [HSCK.out, HNONE.out], KR6.out, KC6.out, KN6.out, HO6.out, HBL6.out⟩
            case measure => simp [intOf]
          | true =>
            have hs'' := HS'.out hnx
            subst hs''
            have HTR2 : Hid (tryS ⟨N, L, M, R, P⟩ t.size s0 t.data.toList i = ((wsS ⟨N, L, M, R, P⟩ (t.size - i - 1) (nxW S)).head?).map (fun u => t.data.toList.take i ++ 119 :: u)) := by
              show _ = _
              rw [HTR.out, hnx, if_pos rfl]
            have d0 := KC6.out.cell 0 _ rfl
            have d1 := KC6.out.cell 1 _ rfl
            have d2 := KC6.out.cell 2 _ rfl
            have d3 := KC6.out.cell 3 _ rfl
            have d4 := KC6.out.cell 4 _ rfl
            have d5 := KC6.out.cell 5 _ rfl
            have f0 := KQ6.out.cell 0 _ rfl
            have f1 := KQ6.out.cell 1 _ rfl
            have f2 := KQ6.out.cell 2 _ rfl
            have f3 := KQ6.out.cell 3 _ rfl
            have f4 := KQ6.out.cell 4 _ rfl
            have hql := KQ6.out.lt
            have hbl6 := KN6.out.lt
            have hcl6 := KC6.out.lt
            have hwl6 := KR6.out.lt
            have hgl6 := (HO6.out.lt gs rfl).2
            have HLS6 := Lib.hid (HLS1.out b w.heap.size W6.heap.size 0 ((W6.drewN 1).alloc (.cells #[] 9)) ((KN6.out.drewN 1).alloc _) (OwnT.lit (W6.drewN 1) w.heap.size [] HBL6.out.size (by unfold maxLen; simp)) (by omega) (by have := HBL6.out.size; simp; omega))
            have HTF := Lib.hid (try_first ⟨N, L, M, R, P⟩ (t.size - i - 1) S t i)
            obtain ⟨F, hF⟩ : ∃ F, fitT 1 [] (lsW ⟨N, L, M, R, P⟩ (t.size - i - 1) (nxW S) (t.extract 0 i ++ ⟨#[119]⟩)) = F := ⟨_, rfl⟩
            rw [hF] at HTF HLS6
            have HXC : Hid (∀ W, GrownL [b, W6.heap.size] ((W6.drewN 1).alloc (.cells #[] 9)) W → (W.cell? ⟨W3.heap.size, 0, none⟩ = some (.int .i64 N) ∧ W.cell? ⟨W3.heap.size, 1, none⟩ = some (.int .i64 L) ∧ W.cell? ⟨W3.heap.size, 2, none⟩ = some (.int .i64 M) ∧ W.cell? ⟨W3.heap.size, 3, none⟩ = some (.int .i64 R) ∧ W.cell? ⟨W3.heap.size, 4, none⟩ = some (.int .i64 P) ∧ W.cell? ⟨W3.heap.size, 5, none⟩ = some (.map (some b)) ∧ W.cell? ⟨q, 0, none⟩ = some (.int .i64 (nxW S).slot) ∧ W.cell? ⟨q, 1, none⟩ = some (.int .i64 (nxW S).worked) ∧ W.cell? ⟨q, 2, none⟩ = some (.int .i64 (nxW S).row) ∧ W.cell? ⟨q, 3, none⟩ = some (.int .i64 (nxW S).pause) ∧ W.cell? ⟨q, 4, none⟩ = some (.bool (nxW S).begun))) := fun W hW => by
              have h1 := ((KC6.out.drewN 1).alloc (.cells #[] 9)).grownL hW (by simp; omega)
              have h2 := ((KQ6.out.drewN 1).alloc (.cells #[] 9)).grownL hW (by simp; omega)
              exact ⟨h1.cell 0 _ rfl, h1.cell 1 _ rfl, h1.cell 2 _ rfl, h1.cell 3 _ rfl, h1.cell 4 _ rfl, h1.cell 5 _ rfl, h2.cell 0 _ rfl, h2.cell 1 _ rfl, h2.cell 2 _ rfl, h2.cell 3 _ rfl, h2.cell 4 _ rfl⟩
            have hta : i ≤ t.size := by omega
            have htb : ¬ 9223372036854775807 < i + 1 := by omega
            have hneq : ¬ q = W6.heap.size := by omega
            have hne3 : ¬ W3.heap.size = W6.heap.size := by omega
            clear HTR hnx HLS1 hF HS'
            go_wp2
            go_region_held3 (fun w' => w'.cell? ⟨W3.heap.size, 0, none⟩ = some (.int .i64 N) ∧ w'.cell? ⟨W3.heap.size, 1, none⟩ = some (.int .i64 L) ∧ w'.cell? ⟨W3.heap.size, 2, none⟩ = some (.int .i64 M) ∧ w'.cell? ⟨W3.heap.size, 3, none⟩ = some (.int .i64 R) ∧ w'.cell? ⟨W3.heap.size, 4, none⟩ = some (.int .i64 P) ∧ w'.cell? ⟨W3.heap.size, 5, none⟩ = some (.map (some b)) ∧ w'.cell? ⟨q, 0, none⟩ = some (.int .i64 (nxW S).slot) ∧ w'.cell? ⟨q, 1, none⟩ = some (.int .i64 (nxW S).worked) ∧ w'.cell? ⟨q, 2, none⟩ = some (.int .i64 (nxW S).row) ∧ w'.cell? ⟨q, 3, none⟩ = some (.int .i64 (nxW S).pause) ∧ w'.cell? ⟨q, 4, none⟩ = some (.bool (nxW S).begun)) (first | go_keep)
              ((go_at_call 22; refine HLS6.out.mono ?_; rintro e W8 ⟨g9, c9, n9, rfl, ho9, hn9, hk9, hg9, hl9⟩; obtain ⟨z0, z1, z2, z3, z4, z5, z6, z7, z8, z9, z10⟩ := HXC.out W8 hg9; have HA9 := Lib.hid (And.intro ho9 (And.intro hn9 (And.intro hk9 (And.intro hg9 hl9)))); clear ho9 hn9 hk9 hg9 hl9))
            have HG9 := HA9.out.2.2.2.1
            have HR8 : Hid (Blk W8 w.heap.size 25 [.int .i64 N, .int .i64 L, .int .i64 M, .int .i64 R, .int .i64 P] ∧ Blk W8 W3.heap.size 53 [.int .i64 N, .int .i64 L, .int .i64 M, .int .i64 R, .int .i64 P, .map (some b)] ∧ OwnSt W8 w.heap.size (.slice (some ⟨gs, 0, none⟩) (t.size + 1) cs) (t.size + 1) (stL ⟨N, L, M, R, P⟩ s0 t.data.toList) ∧ Below w.heap.size w W8) := by
              refine ⟨((KR6.out.drewN 1).alloc _).grownL HG9 (by simp; omega), ((KC6.out.drewN 1).alloc _).grownL HG9 (by simp; omega), ((HO6.out.drewN 1).alloc _).grownL HG9 (by simp; omega), HG9.toBelow ((below_drewN 1 HBL6.out).alloc (by have := HBL6.out.size; exact this) _) (by have := HBL6.out.size; simp; omega) (by intro j hj; have := HBL6.out.size; simp; omega)⟩
            clear HG9 KR6 KC6 HO6 HBL6 KQ6 KN6 d0 d1 d2 d3 d4 d5 f0 f1 f2 f3 f4 z0 z1 z2 z3 z4 z5 z6 z7 z8 z9 z10 HXC HLS6
            cases hh : (wsS ⟨N, L, M, R, P⟩ (t.size - i - 1) (nxW S)).head? with
            | none =>
              have hF : F = [] := by have := HTF.out; rw [hh] at this; exact this
              have hn0 : n9 = 0 := by rw [HA9.out.2.1, hF]; rfl
              subst hn0
              have HNONE : Hid (scanS ⟨N, L, M, R, P⟩ t.size s0 t.data.toList (i + 1) = scanS ⟨N, L, M, R, P⟩ t.size s0 t.data.toList i) := by
                show _ = _
                rw [HTRY.out, HTR2.out, hh]
                rfl
              clear HTRY HTR2 hh HTF hF
              go_wp2
              go_roundw
              case rel => exact ⟨i, by omega, rfl, by rw [HSCK.out, HNONE.out], HR8.out.1, HR8.out.2.1, HA9.out.2.2.1, HR8.out.2.2.1, HR8.out.2.2.2⟩
              case measure => simp [intOf]
            | some u =>
              have hF : F = [⟨(t.data.toList.take i ++ 119 :: u).toArray⟩] := by have := HTF.out; rw [hh] at this; exact this
              have hn1 : n9 = 1 := by rw [HA9.out.2.1, hF]; rfl
              subst hn1
              have ho1 := HA9.out.1
              rw [hF] at ho1
              have hcell := ho1.one
              have HFIN : Hid ((TX, TB) = ((⟨(t.data.toList.take i ++ 119 :: u).toArray⟩ : ByteArray), true)) := by
                show _ = _
                rw [HNT.out, ← HSC.out, HSCK.out, HTRY.out, HTR2.out, hh]
                rfl
              clear HTRY HTR2 hh HTF hF ho1
              go_wp2
              go_ret2
              obtain ⟨h1, h2⟩ := Prod.mk.inj HFIN.out
              exact ⟨by rw [h1, h2]; rfl, HR8.out.2.2.2⟩
    · obtain rfl : k = 0 := by omega
      have i1 : ¬ (((0 : Nat) : Int) - 1 ≥ 0) := by omega
      have HFIN : Hid ((TX, TB) = ((⟨#[]⟩ : ByteArray), false)) := by
        show _ = _
        rw [HNT.out, ← HSC.out, HSCK.out]
        rfl
      have i2 : ¬ (0 : Int) ≤ -1 := by omega
      clear HSCK
      go_wp2
      go_ret2
      obtain ⟨h1, h2⟩ := Prod.mk.inj HFIN.out
      exact ⟨by rw [h1, h2]; rfl, HBL.out⟩
end Go.Proofs.YtbocedlldaeanaaDoor

namespace Go.Proofs.YtbocedlldaeanaaDoor
open Go.RowKit Go.Shelf
set_option linter.unusedVariables false
set_option linter.unusedSimpArgs false

/-- All shifts of a rule. -/
def lwA (r : ShR) : List ByteArray := lsW r r.slots.toNat s0 ⟨#[]⟩
theorem lwA_len (r : ShR) : (lwA r).length = cntS r r.slots.toNat s0 := lsW_len r _ s0 _
theorem lwA_get (r : ShR) (i : Nat) : (lwA r)[i]? = ((wsS r r.slots.toNat s0)[i]?).map fun u => (⟨u.toArray⟩ : ByteArray) := by
  unfold lwA lsW
  rw [List.getElem?_map]
  cases (wsS r r.slots.toNat s0)[i]? with
  | none => rfl
  | some u => exact congrArg some ByteArray.empty_append
theorem lwA_at (r : ShR) (i : Nat) (h : i < (lwA r).length) : ∃ u, (wsS r r.slots.toNat s0)[i]? = some u ∧ (lwA r)[i] = ⟨u.toArray⟩ := by
  have h1 := lwA_get r i
  rw [List.getElem?_eq_getElem h] at h1
  cases hu : (wsS r r.slots.toNat s0)[i]? with
  | none => rw [hu] at h1; cases h1
  | some u => rw [hu] at h1; exact ⟨u, rfl, Option.some.inj h1⟩
theorem lwA_is {r : ShR} (hr : r.Ok) {i : Nat} (h : i < (lwA r).length) : isSh r (lwA r)[i] = true ∧ (lwA r)[i].size = r.slots.toNat := by
  obtain ⟨u, hu, e⟩ := lwA_at r i h
  obtain ⟨h1, h2, h3⟩ := (mem_wsS r _ s0 u).1 (List.mem_of_getElem? hu)
  have hs : (⟨u.toArray⟩ : ByteArray).size = r.slots.toNat := by show (u.toArray).size = _; simpa using h1
  refine ⟨?_, by rw [e]; exact hs⟩
  rw [e]
  unfold isSh
  have hd : (⟨u.toArray⟩ : ByteArray).data.toList = u := by simp
  rw [hd, h2, h3, hs, decide_eq_true (by have := hr.1; omega)]
  rfl
theorem lwA_next (r : ShR) (i : Nat) (h : i < (lwA r).length) (hr : r.Ok) : nxT r (lwA r)[i] = match (lwA r)[i + 1]? with
    | some t => (t, true)
    | none => (⟨#[]⟩, false) := by
  obtain ⟨u, hu, e⟩ := lwA_at r i h
  have hs := (lwA_is hr h).2
  unfold nxT
  rw [hs, lwA_get, ← nextW_ws r _ s0 i u hu, e]
  have hd : (⟨u.toArray⟩ : ByteArray).data.toList = u := by simp
  rw [hd]
  cases nextW r r.slots.toNat s0 u <;> rfl
theorem bl_of_lt : ∀ a b : List UInt8, ltT a b → Op.bytesLess b a = false ∧ b ≠ a
  | [], [], h => absurd h id
  | [], b :: t, _ => ⟨rfl, by simp⟩
  | a :: s, [], h => absurd h id
  | a :: s, b :: t, h => by
    rcases h with h | ⟨rfl, h⟩
    · have h1 : ¬ b < a := UInt8.lt_asymm h
      have h2 : b ≠ a := fun e => by subst e; exact h1 h
      refine ⟨?_, fun e => h2 (List.cons.inj e).1⟩
      unfold Op.bytesLess
      rw [decide_eq_false h1, beq_eq_false_iff_ne.2 h2]
      rfl
    · obtain ⟨h1, h2⟩ := bl_of_lt s t h
      refine ⟨?_, fun e => h2 (List.cons.inj e).2⟩
      unfold Op.bytesLess
      rw [decide_eq_false (UInt8.lt_irrefl a), h1]
      simp
theorem lwA_rise (r : ShR) (i : Nat) (h : i + 1 < (lwA r).length) : (Op.bytesLess (lwA r)[i + 1].toList (lwA r)[i].toList || (lwA r)[i + 1].toList == (lwA r)[i].toList) = false := by
  obtain ⟨u, hu, e⟩ := lwA_at r i (by omega)
  obtain ⟨u', hu', e'⟩ := lwA_at r (i + 1) h
  have hp := wsS_rise r r.slots.toNat s0
  obtain ⟨hi, hx⟩ := List.getElem?_eq_some_iff.1 hu
  obtain ⟨hi', hx'⟩ := List.getElem?_eq_some_iff.1 hu'
  have hlt := List.pairwise_iff_getElem.1 hp i (i + 1) hi hi' (by omega)
  rw [hx, hx'] at hlt
  obtain ⟨h1, h2⟩ := bl_of_lt u u' hlt
  rw [e, e', ByteArray.toList_eq, ByteArray.toList_eq]
  have hd : ∀ l : List UInt8, (⟨l.toArray⟩ : ByteArray).data.toList = l := fun l => by simp
  rw [hd, hd, h1, beq_eq_false_iff_ne.2 h2]
  rfl
theorem fit_lwA (r : ShR) (m : Nat) : fitT m [] (lsW r r.slots.toNat s0 ⟨#[]⟩) = (lwA r).take m := by
  unfold fitT lwA
  rw [List.nil_append]
  rfl
end Go.Proofs.YtbocedlldaeanaaDoor

namespace Go.Proofs.YtbocedlldaeanaaDoor
open Go.RowKit
set_option linter.unusedVariables false
set_option linter.unusedSimpArgs false

theorem bitJ_of (x k : Nat) (hx : x < 2 ^ 12) : bits .and .i64 ((x : Int) / 2 ^ k) 1 = if x.testBit k then 1 else 0 := by
  have h1 : (x : Int) / 2 ^ k = ((x / 2 ^ k : Nat) : Int) := by simp
  have h2 : x / 2 ^ k < 2 ^ 12 := Nat.lt_of_le_of_lt (Nat.div_le_self _ _) hx
  rw [h1, show (1 : Int) = ((1 : Nat) : Int) from rfl, (bits_nat .i64 12 (by decide) (fun m h0 h1 => IntWalk.i64_in m (by omega)) (x / 2 ^ k) 1 h2 (by decide)).1]
  rw [Nat.testBit_eq_decide_div_mod_eq, Nat.and_one_is_mod]
  by_cases h : x / 2 ^ k % 2 = 1
  · rw [h]; simp
  · have : x / 2 ^ k % 2 = 0 := by omega
    rw [this]; simp
theorem bitsJ_or (x p : Nat) (hx : x < 2 ^ 12) (hp : p < 2 ^ 12) : bits .or .i64 (x : Int) (p : Int) = ((x ||| p : Nat) : Int) :=
  (bits_nat .i64 12 (by decide) (fun m h0 h1 => IntWalk.i64_in m (by omega)) x p hx hp).2
end Go.Proofs.YtbocedlldaeanaaDoor
