
/- impl.RecoverAll. Conditions: at most 2^20 bytes. -/
import Derived.Test.YtmhepomjbaendaaLoad
namespace Go.Proofs.Ytmhepomjbaendaa
open Go.RowKit Go.Shelf Go.BigFrame
set_option linter.unusedVariables false
set_option linter.unusedSimpArgs false

def dropB (s : ByteArray) (a : Nat) : ByteArray := s.extract a s.size
theorem dropB_size (s : ByteArray) (a : Nat) : (dropB s a).size = s.size - a := by
  unfold dropB
  rw [Go.Lib.size_eq, ext_data, List.length_take, List.length_drop, ← Go.Lib.size_eq]; omega
def rvAt (s : ByteArray) : Nat → Nat
  | 0 => 0
  | k + 1 => rvAt s k + gotN (dropB s (rvAt s k))
def rvX (s : ByteArray) : Nat → List Sv
  | 0 => []
  | k + 1 => rvX s k ++ [gotX (dropB s (rvAt s k))]
theorem rvX_len (s : ByteArray) : ∀ k, (rvX s k).length = k
  | 0 => rfl
  | k + 1 => by show (rvX s k ++ [_]).length = _; rw [List.length_append, rvX_len s k]; rfl
theorem rvAt_le (s : ByteArray) : ∀ k, rvAt s k ≤ s.size
  | 0 => Nat.zero_le _
  | k + 1 => by
    have h1 := rvAt_le s k
    have h2 := got_le (dropB s (rvAt s k))
    rw [dropB_size] at h2
    show rvAt s k + _ ≤ _
    omega
def rvGo (s : ByteArray) : Nat → Nat → Nat
  | 0, k => k
  | f + 1, k => if gotN (dropB s (rvAt s k)) = 0 then k else rvGo s f (k + 1)
theorem rvGo_eq {s : ByteArray} {k : Nat} : ∀ {f j : Nat}, j ≤ k → k ≤ j + f → (∀ i, j ≤ i → i < k → gotN (dropB s (rvAt s i)) ≠ 0) → (k = j + f ∨ gotN (dropB s (rvAt s k)) = 0) → rvGo s f j = k
  | 0, j, h1, h2, _, _ => by show j = k; omega
  | f + 1, j, h1, h2, hg, he => by
    rcases Nat.lt_or_eq_of_le h1 with h | h
    · show (if gotN (dropB s (rvAt s j)) = 0 then j else rvGo s f (j + 1)) = k
      rw [if_neg (hg j (Nat.le_refl _) h)]
      exact rvGo_eq (by omega) (by omega) (fun i h3 h4 => hg i (by omega) h4) (he.elim (fun x => .inl (by omega)) .inr)
    · subst h
      rcases he with he | he
      · omega
      · show (if gotN (dropB s (rvAt s j)) = 0 then j else rvGo s f (j + 1)) = j
        rw [if_pos he]
def rvK (s : ByteArray) : Nat := rvGo s 8 0
def rvL (s : ByteArray) : List Sv := rvX s (rvK s)
def rvN (s : ByteArray) : Nat := rvAt s (rvK s)
theorem rv_done {s : ByteArray} {k : Nat} (hk : k ≤ 8) (hg : ∀ i, i < k → gotN (dropB s (rvAt s i)) ≠ 0) (he : k = 8 ∨ gotN (dropB s (rvAt s k)) = 0) : rvL s = rvX s k ∧ rvN s = rvAt s k := by
  have : rvK s = k := rvGo_eq (Nat.zero_le _) (by omega) (fun i _ h => hg i h) (he.elim (fun h => .inl (by omega)) .inr)
  unfold rvL rvN
  rw [this]
  exact ⟨rfl, rfl⟩

theorem OwnV.keptV {T size n B T' size' n' B' : Nat} {w w' : World} {v u : Value} {raw raw' : List Value} (h : OwnV T size w B v n raw) (hu : OwnV T' size' w B' u n' raw') (ht : T ≠ T') (hg : w.grownBy w' u.ownBlock) : OwnV T size w' B v n raw := by
  refine h.kept hg ?_
  cases hv : v.ownBlock with
  | none => exact .inl rfl
  | some j =>
    refine .inr (fun e => ?_)
    obtain ⟨c1, f1, e1⟩ := h.typed j hv
    obtain ⟨c2, f2, e2⟩ := hu.typed j e.symm
    rw [e1] at e2
    injection e2 with e2
    injection e2 with _ e3
    exact ht e3
theorem OwnI.keptV {T size n B N : Nat} {w w' : World} {v u : Value} {xs : List Int} {raw : List Value} (h : OwnI w N v xs) (hu : OwnV T size w B u n raw) (ht : T ≠ 2) (hg : w.grownBy w' u.ownBlock) : OwnI w' N v xs :=
  OwnV.keptV (T := 2) (size := 1) (n := xs.length) h hu (fun e => ht e.symm) hg
theorem OwnSv.keptV {T size n B : Nat} {w w' : World} {lo : Nat} {vt vs u : Value} {x : Sv} {raw : List Value} (h : OwnSv w lo vt vs x) (hu : OwnV T size w B u n raw) (h1 : T ≠ 2) (h2 : T ≠ 86) (hg : w.grownBy w' u.ownBlock) : OwnSv w' lo vt vs x := by
  obtain ⟨raw, mid, a1, a2, a3, a4, a5⟩ := h
  exact ⟨raw, mid, a1.keptV hu (fun e => h2 e.symm) hg, a2, a3.keptV hu h1 hg, a4.keptV hu h1 hg, a5⟩
/-- The cells of plans that stand. -/
def SvsOk (w : World) (lo : Nat) (raw : List Value) (xs : List Sv) : Prop := raw.length = xs.length * 3 ∧ ∀ i (h : i < xs.length), ∃ vt vs, OwnSv w lo vt vs xs[i] ∧ SvW xs[i] ∧ raw[i * 3]? = some (.string xs[i].1) ∧ raw[i * 3 + 1]? = some vt ∧ raw[i * 3 + 2]? = some vs
theorem SvsOk.below {w W : World} {lo : Nat} {raw : List Value} {xs : List Sv} (h : SvsOk w lo raw xs) (hb : Below w.heap.size w W) : SvsOk W lo raw xs := ⟨h.1, fun i hi => by
  obtain ⟨vt, vs, a, b⟩ := h.2 i hi
  exact ⟨vt, vs, a.below hb, b⟩⟩
theorem SvsOk.keptV {T size n B : Nat} {w w' : World} {lo : Nat} {u : Value} {rw raw : List Value} {xs : List Sv} (h : SvsOk w lo raw xs) (hu : OwnV T size w B u n rw) (h1 : T ≠ 2) (h2 : T ≠ 86) (hg : w.grownBy w' u.ownBlock) : SvsOk w' lo raw xs := ⟨h.1, fun i hi => by
  obtain ⟨vt, vs, a, b⟩ := h.2 i hi
  exact ⟨vt, vs, a.keptV hu h1 h2 hg, b⟩⟩
theorem SvsOk.snoc {w : World} {lo : Nat} {raw : List Value} {xs : List Sv} {vt vs : Value} {x : Sv} (h : SvsOk w lo raw xs) (hx : OwnSv w lo vt vs x) (hw : SvW x) : SvsOk w lo (raw ++ [.string x.1, vt, vs]) (xs ++ [x]) := by
  refine ⟨by rw [List.length_append, List.length_append, h.1]; simp; omega, fun i hi => ?_⟩
  rw [List.length_append, List.length_singleton] at hi
  by_cases hl : i < xs.length
  · obtain ⟨a, b, c, d, e1, e2, e3⟩ := h.2 i hl
    have h1 := h.1
    refine ⟨a, b, ?_, ?_, ?_, ?_, ?_⟩
    · rw [List.getElem_append_left hl]; exact c
    · rw [List.getElem_append_left hl]; exact d
    · rw [List.getElem_append_left hl, List.getElem?_append_left (by omega)]; exact e1
    · rw [List.getElem?_append_left (by omega)]; exact e2
    · rw [List.getElem?_append_left (by omega)]; exact e3
  · obtain rfl : i = xs.length := by omega
    have h1 := h.1
    have hx2 : (xs ++ [x])[xs.length]'(by simp) = x := by rw [List.getElem_append_right (Nat.le_refl _)]; simp
    refine ⟨vt, vs, ?_, ?_, ?_, ?_, ?_⟩
    · rw [hx2]; exact hx
    · rw [hx2]; exact hw
    · rw [hx2, List.getElem?_append_right (by omega), show xs.length * 3 - raw.length = 0 by omega]; rfl
    · rw [List.getElem?_append_right (by omega), show xs.length * 3 + 1 - raw.length = 1 by omega]; rfl
    · rw [List.getElem?_append_right (by omega), show xs.length * 3 + 2 - raw.length = 2 by omega]; rfl
theorem SvsOk.reads {w : World} {lo N : Nat} {v : Value} {raw : List Value} {xs : List Sv} (h : SvsOk w lo raw xs) (hv : OwnV 44 3 w N v xs.length raw) (hm : xs.length ≤ maxLen) : SavedsR w v xs := by
  by_cases h0 : 1 ≤ xs.length
  · rcases hv.2 with ⟨_, h1⟩ | ⟨g, cap, cur, rfl, hg, hb, hc⟩
    · omega
    refine ⟨hm, _, cap, rfl, hc.1, fun i hi => ?_⟩
    obtain ⟨vt, vs, o1, o2, p0, p1, p2⟩ := h.2 i hi
    obtain ⟨q1, q2⟩ := o1.reads o2
    refine ⟨g, 0, _, rfl, (hv.lt g rfl).2, saved_cells.2 ⟨vt, vs, rfl, by have := o2.1; unfold maxLen; omega, q1, q2⟩, fun j hj => ?_⟩
    have hl := h.1
    have hj3 : j < 3 := hj
    have hv' : OwnV 44 3 w N (.slice (some ⟨g, 0, none⟩) xs.length cap) xs.length raw := hv
    have h5 := (hv'.store (i * 3 + j) (by omega) (.bool true)).1
    rw [Nat.zero_add]
    show w.cell? ⟨g, i * 3 + j, none⟩ = _
    rw [h5]
    have hj4 : j = 0 ∨ j = 1 ∨ j = 2 := by omega
    rcases hj4 with rfl | rfl | rfl
    · rw [List.getElem?_eq_getElem (by omega)] at p0; exact p0
    · rw [List.getElem?_eq_getElem (by omega)] at p1; exact p1
    · rw [List.getElem?_eq_getElem (by omega)] at p2; exact p2
  · obtain rfl : xs = [] := List.eq_nil_of_length_eq_zero (by omega)
    rcases hv.2 with ⟨h2, _⟩ | ⟨g, cap, cur, h2, _⟩
    · exact ⟨hm, _, _, h2, Nat.le_refl _, fun i hi => absurd hi (Nat.not_lt_zero _)⟩
    · exact ⟨hm, _, _, h2, Nat.zero_le _, fun i hi => absurd hi (Nat.not_lt_zero _)⟩
/-- out = append(out, x). -/
theorem append_sv {ops : Array Oper} {rest : List Oper} {o : Oper} {a : Act} {Q : Exit → Act → World → Prop} {W : World} (hgd : o.guard = none) (s x : Operand)
    (ho : o.op = .call { callee := .builtin .append, args := #[s, x], argTypes := #[38, 38] }) (B : Nat) (v : Value) (n : Nat) (raw cs : List Value)
    (hs : a.eval s = v) (c : Nat) (hx : a.eval x = .slice (some ⟨W.heap.size, 0, none⟩) 1 c) (hown : OwnV 44 3 W B v n raw) (hc : cs.length = 3) (h1 : ∀ u ∈ cs, u.oneCell' = true) (hB : B ≤ W.heap.size) (hsmall : n ≤ 1000000)
    (hK : ∀ g c n' w', Hid (n' = n + 1) → OwnV 44 3 w' B (.slice (some ⟨g, 0, none⟩) n' c) (n + 1) (raw ++ cs) → W.grownBy w' v.ownBlock → wpList Try.prog ops Q rest (a.put o.dst (.slice (some ⟨g, 0, none⟩) n' c)) w') :
    wpList Try.prog ops Q (o :: rest) a (W.alloc (.cells cs.toArray 44)) := by
  obtain ⟨i0, hi, hz0, hz1, hz2⟩ := info_parts info_saved
  refine wpList_append_own _ hgd s x 38 ho B 44 i0 (.agg #[.string { data := #[] }, .slice none 0 0, .slice none 0 0]) 3 64 Try.underlying38 hi hz0 hz1 hz2 rfl (by decide) v n raw hs (World.ownsRow.alloc hown _) ⟨W.heap.size, 0, none⟩ 1 c cs hx (by omega) (cells_lit W _ _) h1 (by unfold maxLen; omega) (by omega) (by simp; omega) ?_
  intro v' w' h2 h3 _
  have h3' : W.grownBy w' v.ownBlock := ⟨h3.os, h3.tape, h3.output, Nat.le_trans (by simp) h3.size, fun k hk hne => (h3.block k (by simp; omega) hne).trans (Below.heap_alloc _ _ _ hk)⟩
  rcases h2.2 with ⟨_, h0⟩ | ⟨g, cap, cur, rfl, _⟩
  · omega
  · exact hK g cap _ w' rfl h2 h3'

def lenOf : Value → Nat
  | .slice _ n _ => n
  | _ => 0
set_option maxRecDepth 100000 in
set_option maxHeartbeats 2000000 in
theorem implRecover_any (s : ByteArray) (w : World) (hs : s.size ≤ 1048576) :
    Calls Try.prog 27 #[.string s] w fun e w' => (∃ v, e = .returned (.tuple #[v, .int .i64 (rvN s), .bool true]) ∧ SavedsR w' v (rvL s)) ∧ Below w.heap.size w w' := by
  obtain ⟨A, hA⟩ : ∃ A, w.heap.size = A := ⟨_, rfl⟩
  have HSZ : Hid (∀ W, Below A w W → A ≤ W.heap.size) := fun W h => by rw [← hA]; exact h.size
  have HTA : Hid (∀ k W, Calls Try.prog 73 #[.string (s.extract (rvAt s k) s.size)] W fun e w' => (∃ vt vs, e = .returned (.tuple #[savedV (gotX (dropB s (rvAt s k))).1 vt vs, .int .i64 (gotN (dropB s (rvAt s k)))]) ∧ OwnSv w' W.heap.size vt vs (gotX (dropB s (rvAt s k)))) ∧ Below W.heap.size W w') := fun k W => taken_any (dropB s (rvAt s k)) W (by rw [dropB_size]; omega)
  have HWX : Hid (∀ k, SvW (gotX (dropB s (rvAt s k)))) := fun k => gotX_w (by rw [dropB_size]; omega)
  have HDN : Hid (∀ k, k ≤ 8 → (∀ i, i < k → gotN (dropB s (rvAt s i)) ≠ 0) → (k = 8 ∨ gotN (dropB s (rvAt s k)) = 0) → rvL s = rvX s k ∧ rvN s = rvAt s k) := fun k h1 h2 h3 => rv_done h1 h2 h3
  have HLE : Hid (∀ k, rvAt s k ≤ s.size) := rvAt_le s
  have HLN : Hid (∀ k, (rvX s k).length = k) := rvX_len s
  have HSU : Hid (∀ k, rvAt s (k + 1) = rvAt s k + gotN (dropB s (rvAt s k)) ∧ rvX s (k + 1) = rvX s k ++ [gotX (dropB s (rvAt s k))]) := fun k => ⟨rfl, rfl⟩
  have HA := Lib.hid hA
  clear hA
  go_enter Try.func27, Try.ntmps27
  go_wp2
  go_loopw [5, 6] (fun vo va wr => ∃ (k n g c : Nat) (raw : List Value), k ≤ 8 ∧ Hid (n = k) ∧ vo = .slice (some ⟨g, 0, none⟩) n c ∧ va = .int .i64 (rvAt s k) ∧ Hid (∀ i, i < k → gotN (dropB s (rvAt s i)) ≠ 0) ∧ Hid (OwnV 44 3 wr A (.slice (some ⟨g, 0, none⟩) n c) k raw) ∧ Hid (SvsOk wr A raw (rvX s k)) ∧ Hid (Below A w wr)) (fun vo _ _ => 8 - lenOf vo)
  case atStart =>
    refine ⟨0, 0, w.heap.size, 0, [], Nat.zero_le _, rfl, rfl, rfl, fun i h => by omega, ?_, ⟨rfl, fun i h => absurd h (Nat.not_lt_zero _)⟩, ?_⟩
    · show OwnV _ _ _ _ _ _ _
      have := World.ownsRow_lit (e := 44) (size := 3) (base := A) w #[] 0 (by rw [HA.out]; exact Nat.le_refl _) (by unfold maxLen; simp) (by simp)
      simpa [OwnV] using this
    · show Below _ _ _
      rw [← HA.out]; exact (Below.refl _ w).alloc (Nat.le_refl _) _
  case round =>
    obtain ⟨k, n, g, c, raw, hk, HN, rfl, rfl, HG, HO, HV, HB⟩ := hrel
    have hA1 : A ≤ wr.heap.size := HSZ.out _ HB.out
    have hnk := HN.out
    by_cases hk8 : k < 8
    · have i1 : (n : Int) < 8 := by omega
      have HT1 := Lib.hid (HTA.out k wr)
      have HW1 := Lib.hid (HWX.out k)
      have hle := HLE.out k
      have HS1 := Lib.hid (HSU.out k)
      have HL1 := Lib.hid (HLN.out k)
      have HEND : Hid (gotN (dropB s (rvAt s k)) = 0 → rvL s = rvX s k ∧ rvN s = rvAt s k) := fun h => HDN.out k hk HG.out (.inr h)
      have HGO : Hid (gotN (dropB s (rvAt s k)) ≠ 0 → ∀ i, i < k + 1 → gotN (dropB s (rvAt s i)) ≠ 0) := fun h i hi => by
        rcases Nat.lt_succ_iff_lt_or_eq.1 hi with h2 | rfl
        · exact HG.out i h2
        · exact h
      have hsum : rvAt s k + gotN (dropB s (rvAt s k)) ≤ s.size := HLE.out (k + 1)
      obtain ⟨a, ha⟩ : ∃ a, rvAt s k = a := ⟨_, rfl⟩
      have HAA := Lib.hid ha
      rw [ha] at HT1 HW1 hle HS1 HEND HGO hsum
      rw [ha]
      obtain ⟨G, hG⟩ : ∃ G, gotN (dropB s a) = G := ⟨_, rfl⟩
      rw [hG] at HT1 HS1 HEND HGO hsum
      obtain ⟨x, hx⟩ : ∃ x, gotX (dropB s a) = x := ⟨_, rfl⟩
      rw [hx] at HT1 HW1 HS1
      have a0 : (0 : Int) ≤ (a : Int) := by omega
      have a1 : (a : Int) ≤ (s.size : Int) := by omega
      clear ha hG hx HTA HWX HDN HLE HLN HSU HG hnk
      go_wp2_with fail
      refine HT1.out.mono ?_
      rintro e W1 ⟨⟨vt, vs, rfl, ho⟩, hb⟩
      have B1 := Lib.hid (HB.out.trans (hb.mono hA1))
      have HO1 := Lib.hid (HO.out.below hb (Nat.le_refl _))
      have HV1 := Lib.hid (HV.out.below hb)
      have HX1 := Lib.hid (OwnSv.lo ho hA1)
      have hA2 : A ≤ W1.heap.size := HSZ.out _ B1.out
      unfold savedV
      obtain ⟨ta, tl, tc, rfl⟩ := (show ∃ a l c, vt = .slice a l c from by obtain ⟨raw, mid, h1, _⟩ := ho; exact h1.form)
      obtain ⟨sa, sl, sc, rfl⟩ := (show ∃ a l c, vs = .slice a l c from by obtain ⟨raw, mid, _, _, _, h1, _⟩ := ho; exact h1.form)
      clear ho hb HT1 HB HO HV
      obtain ⟨x0, x1, x2⟩ := x
      have al1 : Below W1.heap.size W1 (W1.alloc (.cells #[.string x0, .slice ta tl tc, .slice sa sl sc] 44)) := (Below.refl _ W1).alloc (Nat.le_refl _) _
      have B2 : Hid (Below A w (W1.alloc (.cells #[.string x0, .slice ta tl tc, .slice sa sl sc] 44))) := B1.out.alloc hA2 _
      have HO2 := Lib.hid (HO1.out.below al1 (Nat.le_refl _))
      have HV2 := Lib.hid (HV1.out.below al1)
      have HX2 := Lib.hid (HX1.out.below al1)
      clear al1 B1 HO1 HV1 HX1
      by_cases hG0 : G = 0
      · have HF := Lib.hid (HEND.out hG0)
        have b1 : ((G : Int) == 0) = true := by rw [hG0]; rfl
        have i2 : (G : Int) = 0 := by omega
        have HR : Hid (SavedsR (W1.alloc (.cells #[.string x0, .slice ta tl tc, .slice sa sl sc] 44)) (.slice (some ⟨g, 0, none⟩) n c) (rvX s k)) := HV2.out.reads (by rw [HL1.out]; exact HO2.out) (by rw [HL1.out]; unfold maxLen; omega)
        have HAT : Hid ((a : Int) = (rvN s : Int)) := by show _ = _; rw [HF.out.2]
        clear HEND HGO HV2 HX2 HO2
        go_wp2
        go_ret3
        rw [HF.out.1, ← HAT.out, HA.out]
        exact ⟨⟨_, rfl, HR.out⟩, B2.out⟩
      · have HG2 := Lib.hid (HGO.out hG0)
        have b1 : ((G : Int) == 0) = false := by simp; exact hG0
        have i2 : ¬ (G : Int) = 0 := by omega
        have i3 : (a : Int) + (G : Int) ≤ (s.size : Int) := by omega
        have HONE : Hid (∀ u ∈ [Value.string x0, .slice ta tl tc, .slice sa sl sc], u.oneCell' = true) := by
          intro u hu
          simp only [List.mem_cons, List.not_mem_nil, or_false] at hu
          rcases hu with rfl | rfl | rfl <;> rfl
        have hA3 : A ≤ (W1.alloc (.cells #[.string x0, .slice ta tl tc, .slice sa sl sc] 44)).heap.size := HSZ.out _ B2.out
        have hkb : k ≤ 1000000 := by omega
        clear HEND HGO
        obtain ⟨W2, hW2⟩ : ∃ W, W1.alloc (.cells #[.string x0, .slice ta tl tc, .slice sa sl sc] 44) = W := ⟨_, rfl⟩
        have KB : Blk W2 W1.heap.size 44 [.string x0, .slice ta tl tc, .slice sa sl sc] := by rw [← hW2]; exact Blk.new W1 _ _
        have x0' := KB.cell 0 _ rfl
        have x1' := KB.cell 1 _ rfl
        have x2' := KB.cell 2 _ rfl
        rw [hW2] at B2 HO2 HV2 HX2 hA3
        have al3 : Below W2.heap.size W2 (W2.alloc (.cells #[.string x0, .slice ta tl tc, .slice sa sl sc] 44)) := (Below.refl _ W2).alloc (Nat.le_refl _) _
        have HA3 := Lib.hid hA3
        clear KB al3 hA3
        go_wp2_with (at_builtin; refine append_sv rfl _ _ rfl A (.slice (some ⟨g, 0, none⟩) n c) k raw [.string x0, .slice ta tl tc, .slice sa sl sc] rfl 1 rfl HO2.out rfl HONE.out HA3.out hkb ?_; intro g5 c5 n5 w5 hn5 ho5 hg5; have B5 : Hid (Below A w w5) := B2.out.grown hg5 HA3.out (fun j e => (HO2.out.lt j e).1); have HV5 : Hid (SvsOk w5 A (raw ++ [.string x0, .slice ta tl tc, .slice sa sl sc]) (rvX s k ++ [(x0, x1, x2)])) := (HV2.out.keptV HO2.out (by decide) (by decide) hg5).snoc (HX2.out.keptV HO2.out (by decide) (by decide) hg5) HW1.out; have HO5 := Lib.hid ho5; have HN5 := hn5; clear ho5 hg5)
        go_roundw
        case rel => exact ⟨k + 1, n5, g5, c5, _, by omega, by have := HN5.out; have := HN.out; show n5 = k + 1; omega, rfl, by rw [HS1.out.1]; go_num, HG2.out, HO5.out, by rw [HS1.out.2]; exact HV5.out, B5.out⟩
        case measure =>
          have := HN5.out
          have := HN.out
          show 8 - n5 < 8 - n
          omega
    · have i1 : ¬ (n : Int) < 8 := by omega
      have hk8' : k = 8 := by omega
      have HF := Lib.hid (HDN.out k hk HG.out (.inl hk8'))
      have HR : Hid (SavedsR wr (.slice (some ⟨g, 0, none⟩) n c) (rvX s k)) := HV.out.reads (by rw [HLN.out]; exact HO.out) (by rw [HLN.out]; unfold maxLen; omega)
      have HAT : Hid ((rvAt s k : Int) = (rvN s : Int)) := by show _ = _; rw [HF.out.2]
      clear HTA HWX HDN HLE HLN HSU HG HO HV hk8' hnk
      go_wp2
      go_ret3
      rw [HF.out.1, ← HAT.out, HA.out]
      exact ⟨⟨_, rfl, HR.out⟩, HB.out⟩
end Go.Proofs.Ytmhepomjbaendaa
