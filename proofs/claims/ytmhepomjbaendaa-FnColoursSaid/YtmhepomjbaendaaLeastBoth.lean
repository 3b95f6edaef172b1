
/- LeastColours, program and reference, for all arguments. Conditions: none. -/
import Derived.Test.YtmhepomjbaendaaLeastSpec
import Derived.Test.YtmhepomjbaendaaColRun
import Derived.Test.YtmhepomjbaendaaCliqueBoth
import Derived.Test.YtmhepomjbaendaaClone
namespace Go.Proofs.Ytmhepomjbaendaa
open Go.RowKit Go.Shelf Go.BigFrame
set_option linter.unusedVariables false
set_option linter.unusedSimpArgs false
attribute [local go_sem] Oper.semAt_some

def lstR (n : Int) (xs : List Int) : List Int := if clashesOk n xs then lstL xs n.toNat else []
def lstN (n : Int) (xs : List Int) : Int := if clashesOk n xs then lstM xs n.toNat else 0
theorem lst_no {n : Int} {xs : List Int} (h : clashesOk n xs = false) : lstR n xs = [] ∧ lstN n xs = 0 := by unfold lstR lstN; rw [h]; exact ⟨rfl, rfl⟩
theorem lst_yes {n : Int} {xs : List Int} (h : clashesOk n xs = true) : lstR n xs = lstL xs n.toNat ∧ lstN n xs = lstM xs n.toNat := by unfold lstR lstN; rw [h]; exact ⟨rfl, rfl⟩
theorem lstL_len {xs : List Int} {t : Nat} : (lstL xs t).length ≤ t := by
  unfold lstL
  cases h : firC xs (lstM xs t) t [] with
  | none => simp
  | some L => have := firC_length t [] L h; simp at this; simp [this]
theorem lstR_small (n : Int) (xs : List Int) : (lstR n xs).length ≤ 12 := by
  unfold lstR
  split
  · rename_i h
    obtain ⟨t, rfl, h1, h2, _⟩ := clash_bounds h
    have := lstL_len (xs := xs) (t := t)
    rw [Int.toNat_natCast]; omega
  · simp

set_option maxHeartbeats 2000000 in
theorem l07Least_any (t : Nat) (v : Value) (xs : List Int) (w : World) (hv : Ints w v xs) (ht1 : 1 ≤ t) (ht : t ≤ 12) (hev : xs.length % 2 = 0) (hl : xs.length ≤ 1000) :
    Calls Try.prog 89 #[.int .i64 t, v] w fun e w' => (∃ g c, e = .returned (.tuple #[.slice (some ⟨g, 0, none⟩) t c, .int .i64 (lstM xs t)]) ∧ OwnI w' w.heap.size (.slice (some ⟨g, 0, none⟩) t c) (lstL xs t)) ∧ Below w.heap.size w w' := by
  have HC : Hid (∀ W q, Below w.heap.size w W → q ≤ t → Calls Try.prog 129 #[.int .i64 t, v, .slice (some ⟨W.heap.size, 0, none⟩) 0 0, .int .i64 q] (W.alloc (.cells #[] 2)) fun e W' => LcP w.heap.size t (firC xs q t []) e W' ∧ Below (W.alloc (.cells #[] 2)).heap.size (W.alloc (.cells #[] 2)) W') := fun W q hW hq =>
    l07Colour_any t q w.heap.size v xs ht (by omega) hev hl t 0 (by omega) _ [] W.heap.size 0 Seg.nil ((hv.below hW (Nat.le_refl _)).below ((Below.refl _ _).alloc (Nat.le_refl _) _) (Nat.le_refl _)) ((OwnI.lit W W.heap.size [] (Nat.le_refl _) (Nat.zero_le _)).mono hW.size) rfl (by have := hW.size; simp; omega)
  have HEND : Hid (∀ q, (∀ p, 1 ≤ p → p < q → firC xs p t [] = none) → q ≤ t) := fun q h => lst_end h ht1
  have HM : Hid (∀ q L, 1 ≤ q → q ≤ t → firC xs q t [] = some L → (∀ p, 1 ≤ p → p < q → firC xs p t [] = none) → lstM xs t = q ∧ lstL xs t = L) := fun q L h1 h2 h3 h4 => ⟨lstM_at h1 h2 h3 h4, lstL_at h1 h2 h3 h4⟩
  clear hv
  go_enter Try.func89, Try.ntmps89
  go_wp2
  go_loopw [6] (fun vi wr => ∃ q : Nat, 1 ≤ q ∧ vi = .int .i64 q ∧ Hid (∀ p, 1 ≤ p → p < q → firC xs p t [] = none) ∧ Below w.heap.size w wr) (fun vi _ => t + 1 - (intOf vi).toNat)
  case atStart => exact ⟨1, Nat.le_refl _, rfl, fun p h1 h2 => by omega, Below.refl _ _⟩
  case round =>
    obtain ⟨q, h1, rfl, hno, hB⟩ := hrel
    obtain ⟨wr', rfl⟩ : ∃ wr' : World, wr' = wr := ⟨_, rfl⟩
    have hqt := HEND.out q hno.out
    have hc := HC.out wr' q hB hqt
    have HM2 := Lib.hid (HM.out q)
    have HB := Lib.hid hB
    obtain ⟨R, hR⟩ : ∃ R, firC xs q t [] = R := ⟨_, rfl⟩
    rw [hR] at hc HM2
    have HC2 := Lib.hid hc
    have HBA : Hid (Below w.heap.size w (wr'.alloc (.cells #[] 2))) := hB.alloc hB.size _
    clear hc hB
    cases R with
    | none =>
      have HNO : Hid (∀ p, 1 ≤ p → p < q + 1 → firC xs p t [] = none) := fun p p1 p2 => by
        rcases Nat.lt_succ_iff_lt_or_eq.1 p2 with h | rfl
        · exact hno.out p p1 h
        · exact hR
      clear hR hno
      go_wp2_with (go_at_call 129; refine HC2.out.mono ?_; rintro e w5 ⟨h5, hb5⟩; obtain rfl := h5.no; have HB5 := Lib.hid (HBA.out.trans (hb5.mono HBA.out.size)); clear hb5 h5)
      go_roundw
      case rel => exact ⟨q + 1, by omega, by go_num, HNO.out, HB5.out⟩
      case measure => simp [intOf]; omega
    | some L =>
      have HFIN := Lib.hid (HM2.out L h1 hqt rfl hno.out)
      clear hR hno
      go_wp2_with (go_at_call 129; refine HC2.out.mono ?_; rintro e w5 ⟨h5, hb5⟩; obtain ⟨g5, c5, rfl, ho5⟩ := h5.so; have HB5 := Lib.hid (HBA.out.trans (hb5.mono HBA.out.size)); have HO5 := Lib.hid ho5; clear hb5 h5 ho5)
      go_ret2
      exact ⟨⟨g5, c5, by rw [HFIN.out.1]; rfl, by rw [HFIN.out.2]; exact HO5.out⟩, HB5.out⟩

theorem specLeast_u (n : Int) (v : Value) (xs : List Int) (w : World) (hv : Ints w v xs) (hn : (Lit.int .i64 n).wf = true) :
    Calls Try.prog 33 #[.int .i64 n, v] w fun e w' => (∃ v', e = .returned (.tuple #[v', .int .i64 (lstN n xs), .bool (clashesOk n xs)]) ∧ OwnI w' w.heap.size v' (lstR n xs)) ∧ Below w.heap.size w w' := by
  have hca := specClashes_any n v xs w hv hn
  cases h : clashesOk n xs
  · rw [(lst_no h).1, (lst_no h).2]
    rw [h] at hca
    have HCA := Lib.hid hca
    clear hca hv h
    go_enter Try.func33, Try.ntmps33
    go_wp2_with (go_at_call 88; refine HCA.out.mono ?_; rintro e W1 ⟨rfl, hb1⟩)
    go_ret3
    exact ⟨⟨_, rfl, own_nil _ _⟩, hb1⟩
  · rw [(lst_yes h).1, (lst_yes h).2]
    rw [h] at hca
    obtain ⟨t, rfl, h1, h2, h3, h4, h5⟩ := clash_bounds h
    rw [Int.toNat_natCast]
    have HCA := Lib.hid hca
    have HL : Hid (∀ W, Below w.heap.size w W → Calls Try.prog 89 #[.int .i64 t, v] W fun e w' => (∃ g c, e = .returned (.tuple #[.slice (some ⟨g, 0, none⟩) t c, .int .i64 (lstM xs t)]) ∧ OwnI w' W.heap.size (.slice (some ⟨g, 0, none⟩) t c) (lstL xs t)) ∧ Below W.heap.size W w') := fun W hW => l07Least_any t v xs W (hv.below hW (Nat.le_refl _)) h1 h2 h4 (by omega)
    clear hca hv h h5
    go_enter Try.func33, Try.ntmps33
    go_wp2_with (first | (go_at_call 88; refine HCA.out.mono ?_; rintro e W1 ⟨rfl, hb1⟩) | (go_at_call 89; refine (HL.out _ hb1).mono ?_; rintro e W2 ⟨⟨g, c, rfl, ho2⟩, hb2⟩))
    go_ret3
    exact ⟨⟨_, rfl, ho2.mono hb1.size⟩, hb1.trans (hb2.mono hb1.size)⟩

/-! The program. -/
def LeastSt (B0 bo t gc : Nat) (s : Option (List Int)) (W : World) : Prop := match s with
  | none => Boxed W bo 25 (.slice none 0 0)
  | some L => ∃ g c, g ≠ gc ∧ Boxed W bo 25 (.slice (some ⟨g, 0, none⟩) t c) ∧ OwnI W B0 (.slice (some ⟨g, 0, none⟩) t c) L
theorem LeastSt.boxed {B0 bo t gc : Nat} {s : Option (List Int)} {W : World} (h : LeastSt B0 bo t gc s W) : ∃ v, Boxed W bo 25 v := by
  cases s with
  | none => exact ⟨_, h⟩
  | some L => obtain ⟨g, c, _, h, _⟩ := h; exact ⟨_, h⟩
theorem leastDo_any (b t : Nat) (u v : Value) (cs : List Int) (W : World) (hb : Boxed W b 25 u) (hv : Ints W v cs) (h0 : 0 < cs.length) (hl : cs.length ≤ 12) :
    Calls Try.prog 87 #[v, .pointer (some ⟨b, 0, none⟩)] W fun e W' => e = .returned (.bool false) ∧ ∃ W1 g c, W' = W1.setCell ⟨b, 0, none⟩ (.slice (some ⟨g, 0, none⟩) cs.length c) ∧ OwnI W1 W.heap.size (.slice (some ⟨g, 0, none⟩) cs.length c) cs ∧ Below W.heap.size W W1 := by
  have hcl := clone_any v cs W hv h0 (by omega)
  have HCL := Lib.hid hcl
  have HBX := Lib.hid hb
  clear hcl hv hb
  go_enter Try.func87, Try.ntmps87
  go_wp2_with (go_at_call 58; refine HCL.out.mono ?_; rintro e W1 ⟨⟨g, c, rfl, ho⟩, hb⟩; have HB1 := Lib.hid hb; have HO1 := Lib.hid ho; have hbc1 := (boxed_below HBX.out hb).cell; have hbf1 := (boxed_below HBX.out hb).frozen; clear hb ho)
  go_ret
  exact ⟨rfl, W1, g, c, rfl, HO1.out, HB1.out⟩
theorem leastDoK (N B0 t bo : Nat) (hb : bo < N) (hB0 : B0 ≤ bo) (ht1 : 1 ≤ t) (ht : t ≤ 12) : ∀ gc, N ≤ gc → DoK (Option (List Int)) N gc t 87 #[.pointer (some ⟨bo, 0, none⟩)] [bo] (LeastSt B0 bo t gc) lstStep := fun gc hg => by
  refine ⟨fun s cs W hcl hs ho => ?_, fun s W W' hs hg' => ?_, enters_of Try.func87 (by kernel_rfl) rfl⟩
  · obtain ⟨u, hu⟩ := hs.boxed
    refine (leastDo_any bo t u _ cs W hu ho.ints (by omega) (by omega)).mono ?_
    rintro e W' ⟨rfl, W1, g, c, rfl, ho1, hb1⟩
    have hlt := ho1.lt g rfl
    have hgc := ho.lt gc rfl
    have hbo := hu.lt
    rw [hcl] at ho1 ⊢
    refine ⟨rfl, ⟨g, c, by omega, ?_, ?_⟩, ((GrownL.refl [bo] W).below hb1 (Nat.le_refl _)).setCell _ _ (.inl (by simp))⟩
    · exact (boxed_below hu hb1).set _
    · exact ((GrownL.refl [bo] W1).setCell ⟨bo, 0, none⟩ (.slice (some ⟨g, 0, none⟩) t c) (.inl (by simp))).own (ho1.mono (by omega)) (by simp; omega)
  · cases s with
    | none => exact hg'.boxed hs (by simp; omega)
    | some L =>
      obtain ⟨g, c, h1, h2, h3⟩ := hs
      exact ⟨g, c, h1, hg'.boxed h2 (by simp; omega), hg'.own h3 (by simpa using h1)⟩

set_option maxHeartbeats 4000000 in
theorem implLeast_yes (t : Nat) (v : Value) (xs : List Int) (w : World) (hv : Ints w v xs) (ht1 : 1 ≤ t) (ht : t ≤ 12) (hl : xs.length ≤ 64) (hev : xs.length % 2 = 0) (hw : ∀ k, k < xs.length → 0 ≤ nth xs k ∧ nth xs k < (t : Int)) (hc1 : clashesOk (t : Int) xs = true) :
    Calls Try.prog 32 #[.int .i64 t, v] w fun e w' => (∃ g c, e = .returned (.tuple #[.slice (some ⟨g, 0, none⟩) t c, .int .i64 (lstM xs t), .bool true]) ∧ OwnI w' w.heap.size (.slice (some ⟨g, 0, none⟩) t c) (lstL xs t)) ∧ Below w.heap.size w w' := by
  have hmf : ∀ (fn : Fn) (first cap : Array Value) (w : World), (Instr.makeFunc fn first cap).run Try.prog w = .ok (.func fn first cap) w := fun _ _ _ _ => rfl
  have hca := implAreClashes_any (t : Int) v xs w hv (wf_i64_iff.2 ⟨by omega, by omega⟩)
  rw [hc1] at hca
  have HCA := Lib.hid hca
  have HCS : Hid (∀ W, Below w.heap.size w W → Calls Try.prog 85 #[.int .i64 t, v] W fun e w' => (∃ g, e = .returned (.slice (some ⟨g, 0, none⟩) t t) ∧ OwnI w' W.heap.size (.slice (some ⟨g, 0, none⟩) t t) (mInts (masks t xs))) ∧ Below W.heap.size W w') := fun W hW =>
    clashSets_any t v xs W (hv.below hW (Nat.le_refl _)) ht1 (by omega) hl hev hw
  have HW := Lib.hid hw
  have HEND : Hid (∀ q, (∀ p, 1 ≤ p → p < q → firC xs p t [] = none) → q ≤ t) := fun q h => lst_end h ht1
  have HM : Hid (∀ q L, 1 ≤ q → q ≤ t → firC xs q t [] = some L → (∀ p, 1 ≤ p → p < q → firC xs p t [] = none) → lstM xs t = q ∧ lstL xs t = L) := fun q L h1 h2 h3 h4 => ⟨lstM_at h1 h2 h3 h4, lstL_at h1 h2 h3 h4⟩
  clear hca hw hc1 hv
  go_enter Try.func32, Try.ntmps32
  go_wp2_with (first
    | (go_at_call 39; refine HCA.out.mono ?_; rintro e W1 ⟨rfl, hb1⟩; have HB1 := Lib.hid hb1; clear hb1)
    | (go_at_call 85; refine (HCS.out _ HB1.out).mono ?_; rintro e W2 ⟨⟨gs, rfl, hos⟩, hb2⟩; have hgs := hos.lt gs rfl; have HB2 := Lib.hid (HB1.out.trans (hb2.mono HB1.out.size)); have HOS := Lib.hid (hos.mono (B' := 0) (Nat.zero_le _)); clear hb2 hos))
  go_loopw [8] (fun vi wr => ∃ q : Nat, 1 ≤ q ∧ vi = .int .i64 q ∧ Hid (∀ p, 1 ≤ p → p < q → firC xs p t [] = none) ∧ Below W2.heap.size W2 wr) (fun vi _ => t + 1 - (intOf vi).toNat)
  case atStart => exact ⟨1, Nat.le_refl _, rfl, fun p h1 h2 => by omega, Below.refl _ _⟩
  case round =>
    obtain ⟨q, h1, rfl, hno, hB⟩ := hrel
    obtain ⟨wr', rfl⟩ : ∃ wr' : World, wr' = wr := ⟨_, rfl⟩
    have hqt := HEND.out q hno.out
    have HM2 := Lib.hid (HM.out q)
    have hsz := hB.size
    have HB := Lib.hid hB
    have HB3 := Lib.hid (HB2.out.trans (hB.mono HB2.out.size))
    have HROW : Hid (OwnI (wr'.alloc (.cells #[.slice none 0 0] 25)) 0 (.slice (some ⟨gs, 0, none⟩) t t) (mInts (masks t xs))) := (HOS.out.below hB (Nat.le_refl _)).alloc _
    have HBX : Hid (Boxed (wr'.alloc (.cells #[.slice none 0 0] 25)) wr'.heap.size 25 (.slice none 0 0)) := Boxed.new wr' _ _
    have HG2 : Hid (∀ W, GrownL [wr'.heap.size] (wr'.alloc (.cells #[.slice none 0 0] 25)) W → Below w.heap.size w W) := fun W hg =>
      hg.toBelow (HB3.out.alloc HB3.out.size _) (by have := HB3.out.size; simp; omega) (fun i hi => by have := HB3.out.size; simp; omega)
    have HG4 : Hid (∀ W, GrownL [wr'.heap.size] (wr'.alloc (.cells #[.slice none 0 0] 25)) W → Below W2.heap.size W2 W) := fun W hg =>
      hg.toBelow (HB.out.alloc HB.out.size _) (by have := HB.out.size; simp; omega) (fun i hi => by have := HB.out.size; simp; omega)
    have HSZ3 := Lib.hid HB3.out.size
    clear hB
    go_wp2_with fail
    refine (colourings_gen t q xs gs 87 #[.pointer (some ⟨wr'.heap.size, 0, none⟩)] [wr'.heap.size] (LeastSt w.heap.size wr'.heap.size t) lstStep ht1 ht (by omega) HW.out _ HROW.out (leastDoK _ _ _ _ HBX.out.lt HSZ3.out ht1 ht) (fun i hi => by simp at hi; subst hi; exact ⟨HBX.out.lt, by omega⟩) none (fun gc hgc => HBX.out)).mono ?_
    rintro e W3 ⟨rfl, ⟨gc, hgc, hs3⟩, hg3⟩
    rw [runCol_fir] at hs3
    have HBE := Lib.hid (HG2.out _ hg3)
    have HBF := Lib.hid (HG4.out _ hg3)
    clear hg3 hgc
    cases hR : firC xs q t [] with
    | none =>
      rw [hR] at hs3
      have hbc := (show Boxed W3 wr'.heap.size 25 (.slice none 0 0) from hs3).cell
      have HNO : Hid (∀ p, 1 ≤ p → p < q + 1 → firC xs p t [] = none) := fun p p1 p2 => by
        rcases Nat.lt_succ_iff_lt_or_eq.1 p2 with h | rfl
        · exact hno.out p p1 h
        · exact hR
      clear hR hs3 hno
      go_wp2_with fail
      go_roundw
      case rel => exact ⟨q + 1, by omega, by go_num, HNO.out, HBF.out⟩
      case measure => simp [intOf]; omega
    | some L =>
      rw [hR] at hs3
      obtain ⟨g, c, _, hbx, ho⟩ := (show ∃ g c, g ≠ gc ∧ Boxed W3 wr'.heap.size 25 (.slice (some ⟨g, 0, none⟩) t c) ∧ OwnI W3 w.heap.size (.slice (some ⟨g, 0, none⟩) t c) L from hs3)
      have hbc := hbx.cell
      have HFIN := Lib.hid (HM2.out L h1 hqt hR hno.out)
      have HO := Lib.hid ho
      clear hR hs3 hno hbx ho
      go_wp2_with fail
      go_ret3
      exact ⟨⟨g, c, by rw [HFIN.out.1]; rfl, by rw [HFIN.out.2]; exact HO.out⟩, HBE.out⟩

theorem implLeast_u (n : Int) (v : Value) (xs : List Int) (w : World) (hv : Ints w v xs) (hn : (Lit.int .i64 n).wf = true) :
    Calls Try.prog 32 #[.int .i64 n, v] w fun e w' => (∃ v', e = .returned (.tuple #[v', .int .i64 (lstN n xs), .bool (clashesOk n xs)]) ∧ OwnI w' w.heap.size v' (lstR n xs)) ∧ Below w.heap.size w w' := by
  cases h : clashesOk n xs
  · rw [(lst_no h).1, (lst_no h).2]
    have hca := implAreClashes_any n v xs w hv hn
    rw [h] at hca
    have HCA := Lib.hid hca
    clear hca hv h
    go_enter Try.func32, Try.ntmps32
    go_wp2_with (go_at_call 39; refine HCA.out.mono ?_; rintro e W1 ⟨rfl, hb1⟩)
    go_ret3
    exact ⟨⟨_, rfl, own_nil _ _⟩, hb1⟩
  · rw [(lst_yes h).1, (lst_yes h).2]
    obtain ⟨t, rfl, h1, h2, h3, h4, h5⟩ := clash_bounds h
    rw [Int.toNat_natCast]
    exact (implLeast_yes t v xs w hv h1 h2 h3 h4 h5 h).mono fun e w' ⟨⟨g, c, he, ho⟩, hb⟩ => ⟨⟨_, he, ho⟩, hb⟩
end Go.Proofs.Ytmhepomjbaendaa
