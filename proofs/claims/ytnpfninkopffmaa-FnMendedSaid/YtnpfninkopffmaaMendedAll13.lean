/- impl.MendPlan: the copy of the tasks, the key. Conditions: none. With texts that it needs. -/
import Derived.Test.YtnpfninkopffmaaMendedAll12
import Derived.Test.YtnpfninkopffmaaMendedAll3
import Derived.Test.YtnpfninkopffmaaMendedAll10
import Derived.Test.YtnpfninkopffmaaMendedAll2
import Derived.Test.YtnpfninkopffmaaMendedAll8
import Derived.Test.YtnpfninkopffmaaMendedAll6
import Derived.Test.YtnpfninkopffmaaMendedAll5
namespace Go.Proofs.Ytnpfninkopffmaa
open Go.RowKit
set_option linter.unusedVariables false
set_option linter.unusedSimpArgs false

def lenV : Value → Nat
  | .slice _ n _ => n
  | _ => 0
def tkL (E : List Int) (n : Nat) : List Bool := (List.range n).map fun i : Nat => E.contains (i : Int)
theorem tkL_len (E : List Int) (n : Nat) : (tkL E n).length = n := by simp [tkL]
theorem tkL_at {E : List Int} {n i : Nat} (h : i < (tkL E n).length) : (tkL E n)[i] = E.contains (i : Int) := by simp [tkL]
theorem tkL_nil (n : Nat) : tkL [] n = List.replicate n false := by
  apply List.ext_getElem
  · simp [tkL]
  · intro i h1 h2; simp [tkL]
theorem tkL_set (E : List Int) (n p : Nat) (h : p < n) : (tkL E n).set p true = tkL (E ++ [(p : Int)]) n := by
  apply List.ext_getElem
  · simp [tkL]
  · intro i h1 h2
    rw [List.getElem_set, tkL_at h2]
    split
    · rename_i e; subst e; simp
    · rename_i e
      rw [tkL_at]
      have : ¬ ((i : Int) = (p : Int)) := by omega
      simp [this]
def frTo (ts : List Tk) (E : List Int) (i : Nat) : Nat → Bool
  | 0 => !(E.contains (i : Int))
  | q + 1 => frTo ts E i q && E.contains (nth (befN ts i) q)
theorem frTo_take (ts : List Tk) (E : List Int) (i : Nat) : ∀ q, q ≤ (befN ts i).length → frTo ts E i q = (!(E.contains (i : Int)) && ((befN ts i).take q).all fun b => E.contains b)
  | 0, _ => by simp [frTo]
  | q + 1, h => by
    unfold frTo
    rw [frTo_take ts E i q (by omega), List.take_succ_eq_append_getElem (by omega), List.all_append, nth_eq (by omega)]
    simp [Bool.and_assoc]
theorem frTo_free (ts : List Tk) (E : List Int) (i : Nat) : frTo ts E i (befN ts i).length = freeB ts E i := by
  rw [frTo_take ts E i _ (Nat.le_refl _), List.take_length]; rfl
/-- What the rounds know. -/
structure RulQ (T : Nat) (ts : List Tk) (key : Int → Int) (gt N4 k : Nat) (W3 wr : World) (v : Value) : Prop where
  own : OwnI wr N4 v (ruleTo ts key k)
  told : OwnB wr W3.heap.size (.slice (some ⟨gt, 0, none⟩) T T) (tkL (ruleTo ts key k) T)
  bel : Below W3.heap.size W3 wr
  sz : N4 ≤ wr.heap.size
def RulR (T : Nat) (ts : List Tk) (key : Int → Int) (gt N4 : Nat) (W3 : World) (vo : Value) (wr : World) : Prop :=
  ∃ (g c k l : Nat), vo = .slice (some ⟨g, 0, none⟩) l c ∧ k ≤ T ∧ l = k ∧ Hid (RulQ T ts key gt N4 k W3 wr (.slice (some ⟨g, 0, none⟩) l c))
def RulP (T : Nat) (ts : List Tk) (key : Int → Int) (E : List Int) (V : World) (vb vl vi : Value) (wr : World) : Prop :=
  ∃ (j m : Nat) (P lv : Int), vb = .int .i64 P ∧ vl = .int .i64 lv ∧ vi = .int .i64 j ∧ j ≤ T ∧ Hid (P = pickK (freeB ts E) key j) ∧ Hid (0 ≤ P → lv = key P) ∧ wr = V.drewN m
def RulF (ts : List Tk) (E : List Int) (i L : Nat) (W : World) (vf vq : Value) (wr : World) : Prop :=
  ∃ (q m : Nat) (B : Bool), vf = .bool B ∧ vq = .int .i64 q ∧ q ≤ L ∧ Hid (B = frTo ts E i q) ∧ wr = W.drewN m
theorem keyR_0 (ts : List Tk) (j : Nat) : keyR ts 0 j = nth (lateN ts (endN ts)) j := by unfold keyR; rw [if_neg (by omega), if_neg (by omega), if_neg (by omega), Int.toNat_natCast]
theorem keyR_1 (ts : List Tk) (j : Nat) : keyR ts 1 j = -timeN ts j := by unfold keyR; rw [if_pos rfl, Int.toNat_natCast]
theorem keyR_2 (ts : List Tk) (j : Nat) : keyR ts 2 j = nth (slackN ts) j := by unfold keyR; rw [if_neg (by omega), if_pos rfl, Int.toNat_natCast]
theorem keyR_3 (ts : List Tk) (j : Nat) : keyR ts 3 j = -timeN ts j * needN ts j := by unfold keyR; rw [if_neg (by omega), if_neg (by omega), if_pos rfl, Int.toNat_natCast]
set_option maxRecDepth 100000 in
set_option maxHeartbeats 4000000 in
theorem specRule_any (vt : Value) (ts : List Tk) (kind : Int) (w : World) (ht : TasksR w vt ts) (hsm : SmTs ts) (hkd : kind = 0 ∨ kind = 1 ∨ kind = 2 ∨ kind = 3) :
    Calls Try.prog 87 #[vt, .int .i64 kind] w fun x w' => (∃ g c, x = .returned (.slice (some ⟨g, 0, none⟩) ts.length c) ∧ OwnI w' w.heap.size (.slice (some ⟨g, 0, none⟩) ts.length c) (ruleN ts kind)) ∧ Below w.heap.size w w' := by
  have HC1 := Lib.hid (specEarly_any vt ts w ht hsm)
  have HC2 : Hid (∀ vs W, Below w.heap.size w W → Ints W vs (earlyN ts) → Calls Try.prog 88 #[vt, vs] W fun e w' => e = .returned (.int .i64 (endN ts)) ∧ Below W.heap.size W w') := fun vs W hW hs => specEnd_any vt vs ts (earlyN ts) W (ht.below hW (Nat.le_refl _)) hs hsm (earlyTo_sm hsm _ (Nat.le_refl _))
  have HC3 : Hid (∀ W, Below w.heap.size w W → Calls Try.prog 118 #[vt, .int .i64 (endN ts)] W fun x w' => (∃ g, x = .returned (.slice (some ⟨g, 0, none⟩) ts.length ts.length) ∧ OwnI w' W.heap.size (.slice (some ⟨g, 0, none⟩) ts.length ts.length) (lateN ts (endN ts))) ∧ Below W.heap.size W w') := fun W hW => specLate_any vt ts (endN ts) W (ht.below hW (Nat.le_refl _)) hsm (by have := endN_bounds hsm; omega)
  have HC4 : Hid (∀ W, Below w.heap.size w W → Calls Try.prog 119 #[vt] W fun x w' => (∃ g c, x = .returned (.slice (some ⟨g, 0, none⟩) ts.length c) ∧ OwnI w' W.heap.size (.slice (some ⟨g, 0, none⟩) ts.length c) (slackN ts)) ∧ Below W.heap.size W w') := fun W hW => specSlack_any vt ts W (ht.below hW (Nat.le_refl _)) hsm
  have HLN : Hid ((lateN ts (endN ts)).length = ts.length ∧ (slackN ts).length = ts.length) := ⟨lateTo_len _ _ _, slackN_len _⟩
  have HRN : Hid (ruleN ts kind = ruleTo ts (keyR ts kind) ts.length) := rfl
  have HRI : Hid (∀ k, k ≤ ts.length → RuleI ts (ruleTo ts (keyR ts kind) k) k) := fun k hk => ruleTo_ok hsm k hk
  have HRS : Hid (∀ k, ruleTo ts (keyR ts kind) (k + 1) = ruleTo ts (keyR ts kind) k ++ [pickK (freeB ts (ruleTo ts (keyR ts kind) k)) (keyR ts kind) ts.length]) := fun k => rfl
  have HRL : Hid (∀ k, (ruleTo ts (keyR ts kind) k).length = k) := ruleTo_len ts _
  have HKD : Hid (kind = 0 ∨ kind = 1 ∨ kind = 2 ∨ kind = 3) := hkd
  have HSM := Lib.hid hsm
  have h16 := hsm.n16
  have hn1 := hsm.n1
  obtain ⟨b, o, c, AB, CB, AL, CL, rfl, hcap, hbw, hV⟩ := ht.view hsm.n1
  have HV := Lib.hid hV
  obtain ⟨T, hT⟩ : ∃ T, ts.length = T := ⟨_, rfl⟩
  have HT : Hid (ts.length = T) := hT
  rw [hT] at HC1 HLN h16 hn1 hcap HRN ⊢
  simp only [hT] at HC2 HC3 HC4 HRI HRS
  obtain ⟨i1, ji, jz0, jz1, jz2⟩ := info_parts info_bool
  clear ht hsm hT hV hkd
  go_enter Try.func87, Try.ntmps87
  go_wp2_with fail
  refine HC1.out.mono ?_
  rintro x W1 ⟨⟨ge, rfl, ho1⟩, hb1⟩
  have HB1 := Lib.hid hb1
  have HO1 := Lib.hid ho1
  clear ho1 hb1 HC1
  have HD2 := Lib.hid (HC2.out _ W1 HB1.out HO1.out.ints)
  clear HC2
  go_wp2_with fail
  refine HD2.out.mono ?_
  rintro x W2 ⟨rfl, hb2⟩
  have HB2 : Hid (Below w.heap.size w W2) := HB1.out.trans (hb2.mono HB1.out.size)
  clear hb2 HD2 HO1
  have HD3 := Lib.hid (HC3.out W2 HB2.out)
  clear HC3
  go_wp2_with fail
  refine HD3.out.mono ?_
  rintro x W2b ⟨⟨gl, rfl, ho3⟩, hb3⟩
  have HB2b : Hid (Below w.heap.size w W2b) := HB2.out.trans (hb3.mono HB2.out.size)
  have HL2 := Lib.hid ho3
  clear ho3 hb3 HD3
  have HD4 := Lib.hid (HC4.out W2b HB2b.out)
  clear HC4
  go_wp2_with fail
  refine HD4.out.mono ?_
  rintro x W3 ⟨⟨gs, cs, rfl, ho4⟩, hb4⟩
  have HB3 : Hid (Below w.heap.size w W3) := HB2b.out.trans (hb4.mono HB2b.out.size)
  have HL3 := Lib.hid (HL2.out.below hb4 (Nat.le_refl _))
  have HS3 := Lib.hid ho4
  clear ho4 hb4 HD4 HL2
  have HEC : Hid (∀ W, Below W3.heap.size W3 W → ∀ k, k < T → W.cell? ⟨gl, k, none⟩ = some (.int .i64 (nth (lateN ts (endN ts)) k)) ∧ W.cell? ⟨gs, k, none⟩ = some (.int .i64 (nth (slackN ts) k)) ∧ W.cell? ⟨b, o + k * 4, none⟩ = some (.int .i64 (timeN ts k)) ∧ W.cell? ⟨b, o + k * 4 + 1, none⟩ = some (.int .i64 (needN ts k))) := fun W hW k hk => by
    have hC := HV.out W (HB3.out.trans (hW.mono HB3.out.size)) k (by rw [HT.out]; exact hk)
    exact ⟨(HL3.out.below hW (Nat.le_refl _)).at_ HLN.out.1.symm k (by rw [HLN.out.1]; exact hk), (HS3.out.below hW (Nat.le_refl _)).at_ HLN.out.2.symm k (by rw [HLN.out.2]; exact hk), hC.time, hC.need⟩
  clear HL3 HS3
  go_wp2_with (at_make; refine wpList_make_full _ rfl _ _ 91 rfl W3.heap.size 4 i1 (.bool false) 1 Try.underlying91 ji jz0 jz1 _ _ _ _ T rfl rfl rfl rfl (by rw [jz2]; omega) (by unfold maxLen; omega) (Nat.le_refl _) ?_; intro W4 hown4 hgrow4; have HA4 := Lib.hid (And.intro hown4 hgrow4); clear hown4 hgrow4)
  obtain ⟨gt, hgt⟩ : ∃ g, W3.heap.size = g := ⟨_, rfl⟩
  obtain ⟨N4, hN4⟩ : ∃ g, W4.heap.size = g := ⟨_, rfl⟩
  have HGT : Hid (W3.heap.size = gt) := hgt
  have HR0 : Hid (RulR T ts (keyR ts kind) gt N4 W3 (.slice (some ⟨N4, 0, none⟩) 0 0) (W4.alloc (.cells #[] 2))) := by
    obtain ⟨ho, hg⟩ := HA4.out
    have hb : Below W3.heap.size W3 W4 := (Below.refl _ W3).grown hg (Nat.le_refl _) (fun k e => by cases e)
    have hl := OwnI.lit W4 N4 [] (by omega) (Nat.zero_le _)
    rw [hN4] at hl
    refine ⟨N4, 0, 0, 0, rfl, Nat.zero_le _, rfl, hl, ?_, hb.alloc hb.size _, by simp; omega⟩
    have h1 := OwnB.made ho
    rw [hgt] at h1 ⊢
    show OwnB _ _ _ (tkL [] T)
    rw [tkL_nil]
    exact h1.alloc _
  have HGN : Hid (gt < N4) := by
    have h1 := (OwnB.made HA4.out.1).lt _ rfl
    show _ < _; omega
  clear HA4 ji jz0 jz1 jz2
  go_wp2
  simp only [hgt, hN4]
  clear hgt hN4
  go_loopw [9] (fun vo wr => RulR T ts (keyR ts kind) gt N4 W3 vo wr) (fun vo _ => T - lenV vo)
  case atStart => exact HR0.out
  case round =>
    obtain ⟨g, cg, k, l, rfl, hk, rfl, HQ⟩ := hrel
    clear HR0
    by_cases hkT : l < T
    · have k1 : (l : Int) < (T : Int) := by omega
      have HTC : Hid (∀ j, j < T → wr.cell? ⟨gt, j, none⟩ = some (.bool ((ruleTo ts (keyR ts kind) l).contains (j : Int)))) := fun j hj => by
        have h := (HQ.out.told.store (tkL_len _ _).symm j (by rw [tkL_len]; exact hj) true).1
        rw [tkL_at] at h
        exact h
      have HCC := Lib.hid (HEC.out wr HQ.out.bel)
      have HVC := Lib.hid (HV.out wr (HB3.out.trans (HQ.out.bel.mono HB3.out.size)))
      have HRP := Lib.hid ((HRI.out l hk).pick (key := keyR ts kind) HSM.out (by rw [HT.out]; exact hkT))
      have HRX := Lib.hid (HRS.out l)
      have HEL := Lib.hid (HRL.out l)
      rw [HT.out] at HRP
      obtain ⟨E, hE⟩ : ∃ E, ruleTo ts (keyR ts kind) l = E := ⟨_, rfl⟩
      have HEE : Hid (ruleTo ts (keyR ts kind) l = E) := hE
      rw [hE] at HTC HRP HRX HEL
      have HP0 : Hid (RulP T ts (keyR ts kind) E wr (.int .i64 (-1)) (.int .i64 0) (.int .i64 0) wr) := ⟨0, 0, -1, 0, rfl, rfl, rfl, Nat.zero_le _, rfl, fun h => by omega, rfl⟩
      clear hE
      go_wp2
      go_loopw [10, 11, 36] (fun vb vl vi wi => RulP T ts (keyR ts kind) E wr vb vl vi wi) (fun _ _ vi _ => T - (intOf vi).toNat)
      case atStart => exact HP0.out
      case round =>
        obtain ⟨j, m, P, lv, rfl, rfl, rfl, hj, HP, HLV, rfl⟩ := hrel
        clear HP0
        by_cases hjT : j < T
        · have j1 : (j : Int) < (T : Int) := by omega
          have j0 : (0 : Int) ≤ (j : Int) := by omega
          have ct := HTC.out j hjT
          have hC := HVC.out j (by rw [HT.out]; exact hjT)
          have e2 := hC.bef
          obtain ⟨L, hL⟩ : ∃ L, (befN ts j).length = L := ⟨_, rfl⟩
          have HLB : Hid ((befN ts j).length = L) := hL
          have hL16 : L ≤ 16 := by rw [← hL]; exact HSM.out.blen j (by rw [HT.out]; exact hjT)
          rw [show (tkN ts j).2.2.1.length = L from hL] at e2
          have HBF : Hid (∀ q, q < L → ∃ b' o', AB j = some ⟨b', o', none⟩ ∧ wr.cell? ⟨b', o' + q, none⟩ = some (.int .i64 (nth (befN ts j) q))) := fun q hq => hC.befAt q (by show q < (befN ts j).length; rw [hL]; exact hq)
          have HBE : Hid (∀ q, q < L → 0 ≤ nth (befN ts j) q ∧ nth (befN ts j) q < (j : Int)) := fun q hq => HSM.out.bef j (by rw [HT.out]; exact hjT) q (by rw [hL]; exact hq)
          obtain ⟨aB, haB⟩ : ∃ x, AB j = x := ⟨_, rfl⟩
          obtain ⟨cB, hcB⟩ : ∃ x, CB j = x := ⟨_, rfl⟩
          rw [haB] at HBF
          rw [haB, hcB] at e2
          have HF0 : Hid (frTo ts E j 0 = !(E.contains (j : Int))) := rfl
          have HFS : Hid (∀ q, frTo ts E j (q + 1) = (frTo ts E j q && E.contains (nth (befN ts j) q))) := fun q => rfl
          have HFF : Hid (frTo ts E j L = freeB ts E j) := by show _ = _; rw [← hL]; exact frTo_free ts E j
          obtain ⟨B0, hB0⟩ : ∃ x, E.contains (j : Int) = x := ⟨_, rfl⟩
          rw [hB0] at ct HF0
          have HR1 : Hid (RulF ts E j L wr (.bool (!B0)) (.int .i64 0) (wr.drewN m)) := ⟨0, m, !B0, rfl, rfl, Nat.zero_le _, HF0.out.symm, rfl⟩
          clear hC hL haB hcB hB0
          go_wp2
          go_loopw [13, 50] (fun vf vq wi => RulF ts E j L wr vf vq wi) (fun _ vq _ => L - (intOf vq).toNat)
          case atStart => exact HR1.out
          case round =>
            obtain ⟨q, m2, B, rfl, rfl, hq, HB, rfl⟩ := hrel
            clear HR1
            by_cases hqL : q < L
            · have q1 : (q : Int) < (L : Int) := by omega
              have q0 : (0 : Int) ≤ (q : Int) := by omega
              obtain ⟨b2, o2, haB, cb⟩ := HBF.out q hqL
              subst haB
              have hbe := HBE.out q hqL
              obtain ⟨p, hp⟩ : ∃ p : Nat, nth (befN ts j) q = p := ⟨(nth (befN ts j) q).toNat, by omega⟩
              have HFN := Lib.hid (HFS.out q)
              rw [hp] at cb hbe HFN
              rw [← HB.out] at HFN
              have cp := HTC.out p (by omega)
              have p0 : (0 : Int) ≤ (p : Int) := by omega
              have p1 : (p : Int) < (T : Int) := by omega
              obtain ⟨Bp, hBp⟩ : ∃ x, E.contains (p : Int) = x := ⟨_, rfl⟩
              rw [hBp] at cp HFN
              clear hp hBp
              cases B
              · have HFN2 : Hid (false = frTo ts E j (q + 1)) := by show _ = _; rw [HFN.out]; rfl
                go_wp2
                go_roundw
                case rel => exact ⟨q + 1, m2, false, rfl, by go_num, by omega, HFN2.out, rfl⟩
                case measure => simp [intOf]; omega
              · have HFN2 : Hid (Bp = frTo ts E j (q + 1)) := by show _ = _; rw [HFN.out]; rfl
                go_wp2
                go_roundw
                case rel => exact ⟨q + 1, m2, Bp, rfl, by go_num, by omega, HFN2.out, rfl⟩
                case measure => simp [intOf]; omega
            · have q1 : ¬ (q : Int) < (L : Int) := by omega
              have HFB : Hid (B = freeB ts E j) := by show _ = _; rw [HB.out, show q = L by omega]; exact HFF.out
              have HPN : Hid (pickK (freeB ts E) (keyR ts kind) (j + 1) = if B = true ∧ (P < 0 ∨ keyR ts kind j < keyR ts kind P) then (j : Int) else P) := by show _ = _; rw [HP.out, HFB.out]; rfl
              have hPb : P < (j : Int) + 1 ∧ -1 ≤ P := by
                rw [HP.out]
                rcases pickK_spec (freeB ts E) (keyR ts kind) j with ⟨h, _⟩ | ⟨h1, h2, _⟩ <;> omega
              clear HB hqL HFB HP
              cases B
              · have HPN2 : Hid (P = pickK (freeB ts E) (keyR ts kind) (j + 1)) := by show _ = _; rw [HPN.out, if_neg (fun h => by cases h.1)]
                go_wp2
                go_roundw
                case rel => exact ⟨j + 1, m2, P, lv, rfl, rfl, by go_num, by omega, HPN2.out, HLV.out, rfl⟩
                case measure => simp [intOf]; omega
              · obtain ⟨cl, cs', ctm, cnd⟩ := HCC.out j hjT
                have htj := HSM.out.time j (by rw [HT.out]; exact hjT)
                have hnj := HSM.out.need j (by rw [HT.out]; exact hjT)
                rcases HKD.out with rfl | rfl | rfl | rfl
                · have HKX := Lib.hid (keyR_0 ts j)
                  obtain ⟨lj, hlj⟩ : ∃ x, nth (lateN ts (endN ts)) j = x := ⟨_, rfl⟩
                  obtain ⟨sj, hsj⟩ : ∃ x, nth (slackN ts) j = x := ⟨_, rfl⟩
                  obtain ⟨tj, htj'⟩ : ∃ x, timeN ts j = x := ⟨_, rfl⟩
                  obtain ⟨nj, hnj'⟩ : ∃ x, needN ts j = x := ⟨_, rfl⟩
                  rw [hlj] at cl
                  rw [hsj] at cs'
                  rw [htj'] at ctm htj
                  rw [hnj'] at cnd hnj
                  rw [hlj] at HKX
                  have w9 : (0 : Int) ≤ tj := by omega
                  clear hlj hsj htj' hnj'
                  by_cases hP0 : P < 0
                  · have hd : decide (P < 0) = true := by simpa using hP0
                    have HPN2 : Hid ((j : Int) = pickK (freeB ts E) (keyR ts 0) (j + 1)) := by show _ = _; rw [HPN.out, if_pos ⟨rfl, .inl hP0⟩]
                    clear HPN
                    go_wp2
                    go_roundw
                    case rel => exact ⟨j + 1, _, j, _, rfl, rfl, by go_num, by omega, HPN2.out, fun _ => HKX.out.symm, rfl⟩
                    case measure => simp [intOf]; omega
                  · have hd : decide (P < 0) = false := by simpa using hP0
                    have HLP := Lib.hid (HLV.out (by omega))
                    by_cases hx : lj < lv
                    · have hd2 : decide (lj < lv) = true := by simpa using hx
                      have HPN2 : Hid ((j : Int) = pickK (freeB ts E) (keyR ts 0) (j + 1)) := by show _ = _; rw [HPN.out, if_pos ⟨rfl, .inr (by rw [HKX.out, ← HLP.out]; exact hx)⟩]
                      clear HPN HLP
                      go_wp2
                      go_roundw
                      case rel => exact ⟨j + 1, _, j, _, rfl, rfl, by go_num, by omega, HPN2.out, fun _ => HKX.out.symm, rfl⟩
                      case measure => simp [intOf]; omega
                    · have hd2 : decide (lj < lv) = false := by simpa using hx
                      have HPN2 : Hid (P = pickK (freeB ts E) (keyR ts 0) (j + 1)) := by show _ = _; rw [HPN.out, if_neg (fun h => by rcases h.2 with h | h; exact hP0 h; rw [HKX.out, ← HLP.out] at h; exact hx h)]
                      clear HPN HLP
                      go_wp2
                      go_roundw
                      case rel => exact ⟨j + 1, _, P, lv, rfl, rfl, by go_num, by omega, HPN2.out, HLV.out, rfl⟩
                      case measure => simp [intOf]; omega
                · have HKX := Lib.hid (keyR_1 ts j)
                  obtain ⟨lj, hlj⟩ : ∃ x, nth (lateN ts (endN ts)) j = x := ⟨_, rfl⟩
                  obtain ⟨sj, hsj⟩ : ∃ x, nth (slackN ts) j = x := ⟨_, rfl⟩
                  obtain ⟨tj, htj'⟩ : ∃ x, timeN ts j = x := ⟨_, rfl⟩
                  obtain ⟨nj, hnj'⟩ : ∃ x, needN ts j = x := ⟨_, rfl⟩
                  rw [hlj] at cl
                  rw [hsj] at cs'
                  rw [htj'] at ctm htj
                  rw [hnj'] at cnd hnj
                  rw [htj'] at HKX
                  have w9 : IntKind.i64.wrap (-tj) = -tj := IntWalk.i64_in _ (by omega)
                  clear hlj hsj htj' hnj'
                  by_cases hP0 : P < 0
                  · have hd : decide (P < 0) = true := by simpa using hP0
                    have HPN2 : Hid ((j : Int) = pickK (freeB ts E) (keyR ts 1) (j + 1)) := by show _ = _; rw [HPN.out, if_pos ⟨rfl, .inl hP0⟩]
                    clear HPN
                    go_wp2
                    go_roundw
                    case rel => exact ⟨j + 1, _, j, _, rfl, rfl, by go_num, by omega, HPN2.out, fun _ => HKX.out.symm, rfl⟩
                    case measure => simp [intOf]; omega
                  · have hd : decide (P < 0) = false := by simpa using hP0
                    have HLP := Lib.hid (HLV.out (by omega))
                    by_cases hx : -tj < lv
                    · have hd2 : decide (-tj < lv) = true := by simpa using hx
                      have HPN2 : Hid ((j : Int) = pickK (freeB ts E) (keyR ts 1) (j + 1)) := by show _ = _; rw [HPN.out, if_pos ⟨rfl, .inr (by rw [HKX.out, ← HLP.out]; exact hx)⟩]
                      clear HPN HLP
                      go_wp2
                      go_roundw
                      case rel => exact ⟨j + 1, _, j, _, rfl, rfl, by go_num, by omega, HPN2.out, fun _ => HKX.out.symm, rfl⟩
                      case measure => simp [intOf]; omega
                    · have hd2 : decide (-tj < lv) = false := by simpa using hx
                      have HPN2 : Hid (P = pickK (freeB ts E) (keyR ts 1) (j + 1)) := by show _ = _; rw [HPN.out, if_neg (fun h => by rcases h.2 with h | h; exact hP0 h; rw [HKX.out, ← HLP.out] at h; exact hx h)]
                      clear HPN HLP
                      go_wp2
                      go_roundw
                      case rel => exact ⟨j + 1, _, P, lv, rfl, rfl, by go_num, by omega, HPN2.out, HLV.out, rfl⟩
                      case measure => simp [intOf]; omega
                · have HKX := Lib.hid (keyR_2 ts j)
                  obtain ⟨lj, hlj⟩ : ∃ x, nth (lateN ts (endN ts)) j = x := ⟨_, rfl⟩
                  obtain ⟨sj, hsj⟩ : ∃ x, nth (slackN ts) j = x := ⟨_, rfl⟩
                  obtain ⟨tj, htj'⟩ : ∃ x, timeN ts j = x := ⟨_, rfl⟩
                  obtain ⟨nj, hnj'⟩ : ∃ x, needN ts j = x := ⟨_, rfl⟩
                  rw [hlj] at cl
                  rw [hsj] at cs'
                  rw [htj'] at ctm htj
                  rw [hnj'] at cnd hnj
                  rw [hsj] at HKX
                  have w9 : (0 : Int) ≤ tj := by omega
                  clear hlj hsj htj' hnj'
                  by_cases hP0 : P < 0
                  · have hd : decide (P < 0) = true := by simpa using hP0
                    have HPN2 : Hid ((j : Int) = pickK (freeB ts E) (keyR ts 2) (j + 1)) := by show _ = _; rw [HPN.out, if_pos ⟨rfl, .inl hP0⟩]
                    clear HPN
                    go_wp2
                    go_roundw
                    case rel => exact ⟨j + 1, _, j, _, rfl, rfl, by go_num, by omega, HPN2.out, fun _ => HKX.out.symm, rfl⟩
                    case measure => simp [intOf]; omega
                  · have hd : decide (P < 0) = false := by simpa using hP0
                    have HLP := Lib.hid (HLV.out (by omega))
                    by_cases hx : sj < lv
                    · have hd2 : decide (sj < lv) = true := by simpa using hx
                      have HPN2 : Hid ((j : Int) = pickK (freeB ts E) (keyR ts 2) (j + 1)) := by show _ = _; rw [HPN.out, if_pos ⟨rfl, .inr (by rw [HKX.out, ← HLP.out]; exact hx)⟩]
                      clear HPN HLP
                      go_wp2
                      go_roundw
                      case rel => exact ⟨j + 1, _, j, _, rfl, rfl, by go_num, by omega, HPN2.out, fun _ => HKX.out.symm, rfl⟩
                      case measure => simp [intOf]; omega
                    · have hd2 : decide (sj < lv) = false := by simpa using hx
                      have HPN2 : Hid (P = pickK (freeB ts E) (keyR ts 2) (j + 1)) := by show _ = _; rw [HPN.out, if_neg (fun h => by rcases h.2 with h | h; exact hP0 h; rw [HKX.out, ← HLP.out] at h; exact hx h)]
                      clear HPN HLP
                      go_wp2
                      go_roundw
                      case rel => exact ⟨j + 1, _, P, lv, rfl, rfl, by go_num, by omega, HPN2.out, HLV.out, rfl⟩
                      case measure => simp [intOf]; omega
                · have HKX := Lib.hid (keyR_3 ts j)
                  obtain ⟨lj, hlj⟩ : ∃ x, nth (lateN ts (endN ts)) j = x := ⟨_, rfl⟩
                  obtain ⟨sj, hsj⟩ : ∃ x, nth (slackN ts) j = x := ⟨_, rfl⟩
                  obtain ⟨tj, htj'⟩ : ∃ x, timeN ts j = x := ⟨_, rfl⟩
                  obtain ⟨nj, hnj'⟩ : ∃ x, needN ts j = x := ⟨_, rfl⟩
                  rw [hlj] at cl
                  rw [hsj] at cs'
                  rw [htj'] at ctm htj
                  rw [hnj'] at cnd hnj
                  rw [htj', hnj'] at HKX
                  have w9 : IntKind.i64.wrap (-tj) = -tj := IntWalk.i64_in _ (by omega)
                  have hmul : 0 ≤ tj * nj ∧ tj * nj ≤ 2000 := ⟨Int.mul_nonneg htj.1 hnj.1, by have h1 := Int.mul_le_mul_of_nonneg_right htj.2 hnj.1; have h2 := Int.mul_le_mul_of_nonneg_left hnj.2 (show (0 : Int) ≤ 100 by omega); omega⟩
                  have w10 : IntKind.i64.wrap (-tj * nj) = -tj * nj := by rw [Int.neg_mul]; exact IntWalk.i64_in _ (by omega)
                  clear hmul
                  clear hlj hsj htj' hnj'
                  by_cases hP0 : P < 0
                  · have hd : decide (P < 0) = true := by simpa using hP0
                    have HPN2 : Hid ((j : Int) = pickK (freeB ts E) (keyR ts 3) (j + 1)) := by show _ = _; rw [HPN.out, if_pos ⟨rfl, .inl hP0⟩]
                    clear HPN
                    go_wp2
                    go_quiet (fail)
                    go_wp2
                    go_roundw
                    case rel => exact ⟨j + 1, _, j, _, rfl, rfl, by go_num, by omega, HPN2.out, fun _ => HKX.out.symm, rfl⟩
                    case measure => simp [intOf]; omega
                  · have hd : decide (P < 0) = false := by simpa using hP0
                    have HLP := Lib.hid (HLV.out (by omega))
                    by_cases hx : -tj * nj < lv
                    · have hd2 : decide (-tj * nj < lv) = true := by simpa using hx
                      have HPN2 : Hid ((j : Int) = pickK (freeB ts E) (keyR ts 3) (j + 1)) := by show _ = _; rw [HPN.out, if_pos ⟨rfl, .inr (by rw [HKX.out, ← HLP.out]; exact hx)⟩]
                      clear HPN HLP
                      go_wp2
                      go_quiet (fail)
                      go_wp2
                      go_roundw
                      case rel => exact ⟨j + 1, _, j, _, rfl, rfl, by go_num, by omega, HPN2.out, fun _ => HKX.out.symm, rfl⟩
                      case measure => simp [intOf]; omega
                    · have hd2 : decide (-tj * nj < lv) = false := by simpa using hx
                      have HPN2 : Hid (P = pickK (freeB ts E) (keyR ts 3) (j + 1)) := by show _ = _; rw [HPN.out, if_neg (fun h => by rcases h.2 with h | h; exact hP0 h; rw [HKX.out, ← HLP.out] at h; exact hx h)]
                      clear HPN HLP
                      go_wp2
                      go_quiet (fail)
                      go_wp2
                      go_roundw
                      case rel => exact ⟨j + 1, _, P, lv, rfl, rfl, by go_num, by omega, HPN2.out, HLV.out, rfl⟩
                      case measure => simp [intOf]; omega
        · have j1 : ¬ (j : Int) < (T : Int) := by omega
          have HPP := Lib.hid (HRP.out)
          have HPE : Hid (P = pickK (freeB ts E) (keyR ts kind) T) := by have := HP.out; rw [show j = T by omega] at this; exact this
          rw [← HPE.out] at HPP HRX
          obtain ⟨hp0, hp1, _⟩ := HPP.out
          obtain ⟨p, rfl⟩ : ∃ p : Nat, P = p := ⟨P.toNat, by omega⟩
          have hpT : p < T := by omega
          have HQ2 : Hid (RulQ T ts (keyR ts kind) gt N4 l W3 (wr.drewN m) (.slice (some ⟨g, 0, none⟩) l cg)) := ⟨HQ.out.own.drewN m, HQ.out.told.drewN m, below_drewN m HQ.out.bel, HQ.out.sz⟩
          obtain ⟨V, hV⟩ : ∃ V, wr.drewN m = V := ⟨_, rfl⟩
          rw [hV] at HQ2 ⊢
          clear hV HQ HTC HCC HVC HRP HPP HP HLV
          obtain ⟨s1, s2, s3, s4⟩ := HQ2.out.told.store (tkL_len _ _).symm p (by rw [tkL_len]; exact hpT) true
          rw [tkL_at] at s1
          have hgN := HQ2.out.own.lt g rfl
          have hown : OwnI (V.setCell ⟨gt, p, none⟩ (.bool true)) N4 (.slice (some ⟨g, 0, none⟩) l cg) (ruleTo ts (keyR ts kind) l) := HQ2.out.own.kept s4 (.inr (by rw [ownBlock_slice]; intro e; injection e with e; have := HGN.out; omega))
          have HOW := Lib.hid hown
          have HTD : Hid (OwnB (V.setCell ⟨gt, p, none⟩ (.bool true)) W3.heap.size (.slice (some ⟨gt, 0, none⟩) T T) (tkL (ruleTo ts (keyR ts kind) (l + 1)) T)) := by
            show OwnB _ _ _ _
            rw [HRX.out, ← HEE.out, ← tkL_set _ _ _ hpT]
            exact s3
          have HBL : Hid (Below W3.heap.size W3 (V.setCell ⟨gt, p, none⟩ (.bool true))) := HQ2.out.bel.grown s4 HQ2.out.bel.size (fun j e => by cases e; have := HGT.out; omega)
          have HSZ : Hid (N4 ≤ (V.setCell ⟨gt, p, none⟩ (.bool true)).heap.size) := by show _ ≤ _; rw [World.size_setCell]; exact HQ2.out.sz
          obtain ⟨X, hX⟩ : ∃ X, ruleTo ts (keyR ts kind) l = X := ⟨_, rfl⟩
          rw [hX] at s1 HOW
          have HXL : Hid (X.length = l) := by show _ = _; rw [← hX]; exact HRL.out l
          have HXE : Hid (ruleTo ts (keyR ts kind) (l + 1) = X ++ [(p : Int)]) := by show _ = _; rw [HRX.out, ← HEE.out, hX]
          have hX64 : X.length + 1 ≤ 64 := by have := HXL.out; omega
          clear s3 s4 hown hX
          go_upto_region 32 with fail
          obtain ⟨Y, hY⟩ : ∃ Y, V.setCell ⟨gt, p, none⟩ (.bool true) = Y := ⟨_, rfl⟩
          rw [hY] at HOW HTD HBL HSZ ⊢
          clear hY
          go_wp2_with (at_builtin; refine append_i64 rfl _ _ rfl N4 (.slice (some ⟨g, 0, none⟩) l cg) X [(p : Int)] (by simp) rfl _ rfl HOW.out HSZ.out (by simp; omega) ?_; intro g1 c1 w1 ho1 hg1; have HA1 := Lib.hid (And.intro ho1 hg1); clear ho1 hg1)
          go_roundw
          case rel =>
            obtain ⟨ho1, hg1⟩ := HA1.out
            refine ⟨g1, c1, l + 1, _, rfl, by omega, by have := HXL.out; simp; omega, ?_⟩
            refine ⟨by rw [HXE.out]; exact ho1, HTD.out.kept hg1 (.inr (by rw [ownBlock_slice, ownBlock_slice]; intro e; injection e with e; have := HGN.out; omega)), HBL.out.grown hg1 HBL.out.size (fun j e => by rw [ownBlock_slice] at e; injection e with e; have := HGN.out; have := HGT.out; omega), Nat.le_trans HSZ.out hg1.size⟩
          case measure => have := HXL.out; simp [lenV]; omega
    · have k1 : ¬ (l : Int) < (T : Int) := by omega
      obtain rfl : l = T := by omega
      have HFIN : Hid (OwnI wr w.heap.size (.slice (some ⟨g, 0, none⟩) l cg) (ruleN ts kind) ∧ Below w.heap.size w wr) := by
        refine ⟨?_, HB3.out.trans (HQ.out.bel.mono HB3.out.size)⟩
        rw [HRN.out]
        exact HQ.out.own.mono (by have := HGN.out; have := HGT.out; have := HB3.out.size; omega)
      clear HQ
      go_wp2
      go_ret
      exact ⟨⟨g, cg, rfl, HFIN.out.1⟩, HFIN.out.2⟩
end Go.Proofs.Ytnpfninkopffmaa

namespace Go.Proofs.Ytnpfninkopffmaa
open Go.RowKit
set_option linter.unusedVariables false
set_option linter.unusedSimpArgs false

/-- The crew's times at block bc, the task at block bt. -/
structure FitK (bc bt N : Nat) (crew time need : Int) (w wr : World) (vU : Value) (U : List Int) : Prop where
  own : OwnI wr N vU U
  apart : vU.ownBlock ≠ some bt
  lt : bt < wr.heap.size
  used : wr.cell? ⟨bc, 0, none⟩ = some vU
  crew : wr.cell? ⟨bc, 1, none⟩ = some (.int .i64 crew)
  froz : wr.frozen? ⟨bc, 0, none⟩ = false
  time : wr.cell? ⟨bt, 0, none⟩ = some (.int .i64 time)
  need : wr.cell? ⟨bt, 1, none⟩ = some (.int .i64 need)
  frm : Frm bc N w wr
theorem FitK.bcne {bc bt N : Nat} {crew time need : Int} {w wr : World} {vU : Value} {U : List Int} (h : FitK bc bt N crew time need w wr vU U) (hbc : bc < N) : some bc ≠ vU.ownBlock := fun e => by have := (h.own.lt bc e.symm).1; omega
theorem FitK.grow {bc bt N : Nat} {crew time need : Int} {w wr w' : World} {vU : Value} {U U' : List Int} (h : FitK bc bt N crew time need w wr vU U) (hbc : bc < N) (hN : N ≤ wr.heap.size) (hg : wr.grownBy w' vU.ownBlock) :
    w'.cell? ⟨bc, 0, none⟩ = some vU ∧ w'.cell? ⟨bc, 1, none⟩ = some (.int .i64 crew) ∧ w'.frozen? ⟨bc, 0, none⟩ = false ∧ w'.cell? ⟨bt, 0, none⟩ = some (.int .i64 time) ∧ w'.cell? ⟨bt, 1, none⟩ = some (.int .i64 need) ∧ Frm bc N w w' := by
  have h1 := h.bcne hbc
  have h2 : some bt ≠ vU.ownBlock := fun e => h.apart e.symm
  exact ⟨(hg.cell_far ⟨bc, 0, none⟩ (by show bc < _; omega) h1).trans h.used, (hg.cell_far ⟨bc, 1, none⟩ (by show bc < _; omega) h1).trans h.crew, (hg.frozen_far ⟨bc, 0, none⟩ (by show bc < _; omega) h1).trans h.froz,
    (hg.cell_far ⟨bt, 0, none⟩ h.lt h2).trans h.time, (hg.cell_far ⟨bt, 1, none⟩ h.lt h2).trans h.need, h.frm.grown hg (fun j e => (h.own.lt j e).1) hN⟩
theorem FitK.drewN {bc bt N : Nat} {crew time need : Int} {w wr : World} {vU : Value} {U : List Int} (h : FitK bc bt N crew time need w wr vU U) (q : Nat) : FitK bc bt N crew time need w (wr.drewN q) vU U :=
  ⟨h.own.drewN q, h.apart, h.lt, h.used, h.crew, h.froz, h.time, h.need, h.frm.drewN q⟩
theorem nth_setF {l : List Int} {m i : Nat} (v : Int) (hm : m < l.length) : nth (l.set m v) i = if m = i then v else nth l i := by
  unfold nth
  rw [List.getD_eq_getElem?_getD, List.getElem?_set, List.getD_eq_getElem?_getD]
  split
  · rename_i e'; subst e'; simp [hm]
  · rfl
/-- One place more. -/
theorem FitK.app {bc bt N : Nat} {crew time need : Int} {w wr w' : World} {vU : Value} {U : List Int} {g c : Nat} (h : FitK bc bt N crew time need w wr vU U) (hbc : bc < N) (hbt : bt ≠ bc) (hN : N ≤ wr.heap.size)
    (ho : OwnI w' N (.slice (some ⟨g, 0, none⟩) (U.length + 1) c) (U ++ [0])) (hg : wr.grownBy w' vU.ownBlock) (hl : vU.ownBlock = some g ∨ wr.heap.size ≤ g) :
    FitK bc bt N crew time need w (w'.setCell ⟨bc, 0, none⟩ (.slice (some ⟨g, 0, none⟩) (U.length + 1) c)) (.slice (some ⟨g, 0, none⟩) (U.length + 1) c) (U ++ [0]) := by
  obtain ⟨a1, a2, a3, a4, a5, a6⟩ := h.grow (U' := U) hbc hN hg
  have hgN := (ho.lt g rfl).1
  have hb : ∀ v, w'.grownBy (w'.setCell ⟨bc, 0, none⟩ v) (some bc) := fun v => ⟨rfl, rfl, rfl, by rw [World.size_setCell]; exact Nat.le_refl _, fun i hi hn => Below.heap_setCell _ _ _ _ (fun e => hn (by rw [e]))⟩
  refine ⟨ho.kept (hb _) (.inr (by rw [ownBlock_slice]; intro e; injection e with e; omega)), ?_, ?_, ?_, ?_, ?_, ?_, ?_, a6.setB _⟩
  · rw [ownBlock_slice]; intro e; injection e with e
    rcases hl with hl | hl
    · exact h.apart (by rw [hl, e])
    · have := h.lt; omega
  · rw [World.size_setCell]; have := hg.size; have := h.lt; omega
  · exact World.cell?_setCell_same _ _ _ (by rw [a1])
  · rw [World.cell?_setCell_other _ _ _ _ (by intro e; cases e)]; exact a2
  · simpa using a3
  · rw [World.cell?_setCell_far _ _ _ _ (by show bc ≠ bt; omega)]; exact a4
  · rw [World.cell?_setCell_far _ _ _ _ (by show bc ≠ bt; omega)]; exact a5
/-- One place is changed. -/
theorem FitK.put {bc bt N : Nat} {crew time need : Int} {w wr : World} {U : List Int} {g c : Nat} (h : FitK bc bt N crew time need w wr (.slice (some ⟨g, 0, none⟩) U.length c) U) (hbc : bc < N) (hN : N ≤ wr.heap.size) (k : Nat) (hk : k < U.length) (y : Int) :
    FitK bc bt N crew time need w (wr.setCell ⟨g, k, none⟩ (.int .i64 y)) (.slice (some ⟨g, 0, none⟩) U.length c) (U.set k y) := by
  obtain ⟨b1, b2, b3, b4⟩ := h.own.store rfl k hk y
  obtain ⟨a1, a2, a3, a4, a5, a6⟩ := h.grow (U' := U) hbc hN b4
  exact ⟨b3, h.apart, by rw [World.size_setCell]; exact h.lt, a1, a2, a3, a4, a5, a6⟩

/-- What one loop knows: the place a, all before it gone. -/
def FitR (bc bt N : Nat) (crew time need a0 : Int) (U0 : List Int) (M : Nat) (w : World) (va : Value) (wr : World) : Prop :=
  ∃ (a : Int) (vU : Value) (U : List Int), va = .int .i64 a ∧ a0 ≤ a ∧ a ≤ M ∧ Hid (noneW (nth U0) crew need time a0 a) ∧ Hid (FitK bc bt N crew time need w wr vU U) ∧ Hid (∀ k, nth U k = nth U0 k) ∧ U.length ≤ M + time.toNat
def FitL (bc bt N : Nat) (crew time need : Int) (U0 : List Int) (M : Nat) (w wr : World) : Prop :=
  ∃ (vU : Value) (U : List Int), Hid (FitK bc bt N crew time need w wr vU U) ∧ Hid (∀ k, nth U k = nth U0 k) ∧ U.length ≤ M + time.toNat
/-- How long the times are that lie at bc. -/
def usedLen (bc : Nat) (w : World) : Nat := match w.cell? ⟨bc, 0, none⟩ with | some (.slice _ n _) => n | _ => 0
theorem FitK.len {bc bt N : Nat} {crew time need : Int} {w wr : World} {vU : Value} {U : List Int} (h : FitK bc bt N crew time need w wr vU U) : usedLen bc wr = U.length := by
  unfold usedLen; rw [h.used]
  rcases h.own.nil_or with ⟨rfl, rfl⟩ | ⟨g, c, rfl⟩ <;> rfl
theorem FitK.shape {bc bt N : Nat} {crew time need : Int} {w wr : World} {vU : Value} {U : List Int} (h : FitK bc bt N crew time need w wr vU U) : ∃ (a : Option Addr) (c : Nat), vU = .slice a U.length c := by
  rcases h.own.nil_or with ⟨rfl, rfl⟩ | ⟨g, c, rfl⟩
  · exact ⟨none, 0, rfl⟩
  · exact ⟨_, _, rfl⟩
/-- The busy search: the place k, the last busy b. -/
def FitS (U0 : List Int) (crew need a time : Int) (W : World) (vb vk : Value) (wr : World) : Prop :=
  ∃ (k : Nat) (b : Int) (q : Nat), vb = .int .i64 b ∧ vk = .int .i64 k ∧ a ≤ k ∧ (k : Int) ≤ a + time ∧ Hid (LastB (nth U0) crew need a k b) ∧ wr = W.drewN q
/-- The need is added up to k. -/
def FitT (bc bt N : Nat) (crew time need a : Int) (U0 : List Int) (ax : Option Addr) (l cx : Nat) (w : World) (vk : Value) (wr : World) : Prop :=
  ∃ (k : Nat) (U : List Int), vk = .int .i64 k ∧ a ≤ k ∧ (k : Int) ≤ a + time ∧ Hid (FitK bc bt N crew time need w wr (.slice ax l cx) U) ∧ Hid (U.length = l) ∧ Hid (∀ j : Nat, nth U j = nth U0 j + if a ≤ j ∧ j < k then need else 0)
theorem noneW.bound {U0 : List Int} {crew need time a0 a : Int} {M : Nat} (h : noneW (nth U0) crew need time a0 a) (hM : U0.length ≤ M) (ha : a0 ≤ M) (hn : need ≤ crew) : a ≤ M := by
  by_cases hc : a ≤ M
  · exact hc
  · obtain ⟨k, k1, k2, k3⟩ := h M ha (by omega)
    rw [nth_over (by omega)] at k3; omega

set_option maxRecDepth 100000 in
set_option maxHeartbeats 4000000 in
theorem fit_any (bc N : Nat) (vU vb vl : Value) (U0 : List Int) (crew time need a0 : Int) (w : World) (hown : OwnI w N vU U0) (hbc : bc < N) (hN : N ≤ w.heap.size) (hu : w.cell? ⟨bc, 0, none⟩ = some vU) (hcr : w.cell? ⟨bc, 1, none⟩ = some (.int .i64 crew)) (hf : w.frozen? ⟨bc, 0, none⟩ = false)
    (ht : 0 ≤ time ∧ time ≤ 100000) (hn : 0 ≤ need ∧ need ≤ crew) (hc : crew ≤ 100000) (ha : 0 ≤ a0 ∧ a0 ≤ 1000000) (hU : U0.length ≤ 1000000) (hUn : ∀ k, 0 ≤ nth U0 k ∧ nth U0 k ≤ 100000) :
    Calls Try.prog 81 #[.pointer (some ⟨bc, 0, none⟩), .agg #[.int .i64 time, .int .i64 need, vb, vl], .int .i64 a0] w fun e w' => ∃ (s : Int) (vU' : Value) (U' : List Int), e = .returned (.int .i64 s) ∧ Fit (nth U0) crew need time a0 s ∧ s ≤ max U0.length a0.toNat ∧
      OwnI w' N vU' U' ∧ (∀ k : Nat, nth U' k = nth U0 k + if s ≤ k ∧ (k : Int) < s + time then need else 0) ∧ U'.length ≤ max U0.length a0.toNat + time.toNat ∧ w'.cell? ⟨bc, 0, none⟩ = some vU' ∧ w'.cell? ⟨bc, 1, none⟩ = some (.int .i64 crew) ∧ w'.frozen? ⟨bc, 0, none⟩ = false ∧ Frm bc N w w' := by
  obtain ⟨M, hM⟩ : ∃ M, max U0.length a0.toNat = M := ⟨_, rfl⟩
  rw [hM]
  have hM1 : U0.length ≤ M := by omega
  have hM2 : a0 ≤ M := by omega
  have hM3 : M ≤ 1000000 := by omega
  clear hM
  obtain ⟨W1, hW1⟩ : ∃ W, w.alloc (.cells #[.int .i64 time, .int .i64 need, vb, vl] 56) = W := ⟨_, rfl⟩
  have HK : Hid (FitK bc w.heap.size N crew time need w W1 vU U0) := by
    show FitK _ _ _ _ _ _ _ _ _ _
    rw [← hW1]
    refine ⟨hown.alloc _, fun e => by have := (hown.lt _ e).2; omega, by simp, ?_, ?_, ?_, by simp, by simp, (Frm.refl _ _ _).alloc hN _⟩
    · exact (World.cell?_alloc_lt _ _ _ (by show bc < _; omega)).trans hu
    · exact (World.cell?_alloc_lt _ _ _ (by show bc < _; omega)).trans hcr
    · exact (World.grownBy.frozen_far (⟨rfl, rfl, rfl, by simp, fun i hi _ => Below.heap_alloc _ _ _ hi⟩ : w.grownBy (w.alloc _) none) ⟨bc, 0, none⟩ (by show bc < _; omega) (by intro e; cases e)).trans hf
  have HR0 : Hid (FitR bc w.heap.size N crew time need a0 U0 M w (.int .i64 a0) W1) := ⟨a0, vU, U0, rfl, Int.le_refl _, hM2, noneW.start _ _ _ _ _, HK.out, fun _ => rfl, by omega⟩
  obtain ⟨bt, hbt⟩ : ∃ bt, w.heap.size = bt := ⟨_, rfl⟩
  rw [hbt] at HR0
  have HBT : Hid (w.heap.size = bt ∧ N ≤ bt ∧ bc < N) := ⟨hbt, by omega, hbc⟩
  have HUN : Hid (∀ k, 0 ≤ nth U0 k ∧ nth U0 k ≤ 100000) := hUn
  have HUL : Hid (U0.length ≤ M) := hM1
  clear hown hu hcr hf HK hUn hU hM1
  go_enter Try.func81, Try.ntmps81
  go_wp2_with fail
  clear hW1
  go_loopw [2] (fun va wr => FitR bc bt N crew time need a0 U0 M w va wr) (fun va _ => M + 1 - (intOf va).toNat)
  case atStart => exact HR0.out
  case round =>
    obtain ⟨a, vU1, U, rfl, ha1, ha2, HNW, HK, HE, hl⟩ := hrel
    clear HR0
    have HL0 : Hid (FitL bc bt N crew time need U0 M w wr) := ⟨vU1, U, HK, HE, hl⟩
    clear HK HE hl
    go_wp2
    go_loopw [] (fun wi => FitL bc bt N crew time need U0 M w wi) (fun wi => M + time.toNat - usedLen bc wi)
    case atStart => exact HL0.out
    case round =>
      obtain ⟨vU2, U2, HK, HE, hl⟩ := hrel
      clear HL0
      obtain ⟨ax, cx, rfl⟩ := HK.out.shape
      obtain ⟨l, hl'⟩ : ∃ l, U2.length = l := ⟨_, rfl⟩
      have HLL : Hid (U2.length = l) := hl'
      have c0 := HK.out.used
      have c1 := HK.out.time
      have hsz := HK.out.frm.size
      have HNW1 : Hid (N ≤ wr.heap.size) := by have := HBT.out; show _ ≤ _; omega
      rw [hl'] at c0 hl HK
      have w1 : IntKind.i64.wrap (a + time) = a + time := IntWalk.i64_in _ (by omega)
      clear hl' hsz
      by_cases hlt : (l : Int) < a + time
      · go_wp2
        go_quiet (fail)
        have HX2 : Hid (FitK bc bt N crew time need w (wr.drewN nq) (.slice ax l cx) U2) := HK.out.drewN nq
        have HNW2 : Hid (N ≤ (wr.drewN nq).heap.size) := HNW1.out
        have HLM : Hid (usedLen bc wr = l) := by have := HK.out.len; have := HLL.out; show _ = _; omega
        obtain ⟨W2, hW2⟩ : ∃ W, wr.drewN nq = W := ⟨_, rfl⟩
        rw [hW2] at HX2 HNW2 ⊢
        clear HK hW2 c0 c1 HNW1
        have c0 := HX2.out.used
        go_wp2_with (at_builtin; refine append_i64L rfl _ _ rfl N (.slice ax l cx) U2 [0] (by simp) rfl _ rfl HX2.out.own HNW2.out (by have := HLL.out; simp; omega) ?_; intro g1 c1 w3 ho3 hg3 hlie; have HA3 := Lib.hid (And.intro ho3 (And.intro hg3 hlie)); obtain ⟨d1, _, d2, _, _, _⟩ := HX2.out.grow (U' := []) HBT.out.2.2 HNW2.out hg3; clear ho3 hg3 hlie)
        have HX3 : Hid (FitK bc bt N crew time need w (w3.setCell ⟨bc, 0, none⟩ (.slice (some ⟨g1, 0, none⟩) (U2.length + 1) c1)) (.slice (some ⟨g1, 0, none⟩) (U2.length + 1) c1) (U2 ++ [0])) := HX2.out.app HBT.out.2.2 (by have := HBT.out; omega) HNW2.out HA3.out.1 HA3.out.2.1 HA3.out.2.2
        go_roundw
        case rel => exact ⟨_, _, HX3, fun k => by rw [nth_zeros]; exact HE.out k, by have := HLL.out; simp; omega⟩
        case measure =>
          have e1 := HX3.out.len
          have e2 := HLM.out
          have e3 := HLL.out
          simp only [List.length_append, List.length_cons, List.length_nil] at e1 ⊢
          first
            | omega
            | (rw [e1]; omega)
      · go_wp2
        go_quiet (fail)
        go_wp2
        have HX2 : Hid (FitK bc bt N crew time need w (wr.drewN nq) (.slice ax l cx) U2) := HK.out.drewN nq
        obtain ⟨W2, hW2⟩ : ∃ W, wr.drewN nq = W := ⟨_, rfl⟩
        rw [hW2] at HX2 ⊢
        have HLB : Hid (a + time ≤ (l : Int)) := by show _ ≤ _; omega
        clear HK hW2 c0 c1 HNW1 hlt
        have c0 := HX2.out.used
        have c1 := HX2.out.time
        have c2 := HX2.out.need
        have c3 := HX2.out.crew
        have HS0 : Hid (FitS U0 crew need a time W2 (.int .i64 (-1)) (.int .i64 a) W2) := ⟨a.toNat, -1, 0, rfl, by go_num, by omega, by omega, by rw [Int.toNat_of_nonneg (by omega)]; exact LastB.start _ _ _ _, rfl⟩
        go_loopw [7, 8] (fun vb vk wi => FitS U0 crew need a time W2 vb vk wi) (fun _ vk _ => (a + time - intOf vk).toNat)
        case atStart => exact HS0.out
        case round =>
          obtain ⟨k, b, q, rfl, rfl, hka, hkt, HLS, rfl⟩ := hrel
          clear HS0
          by_cases hlt : (k : Int) < a + time
          · have hkl : k < U2.length := by have := HLL.out; have := HLB.out; omega
            obtain ⟨g, hg⟩ : ∃ g, ax = some ⟨g, 0, none⟩ := by
              rcases HX2.out.own.nil_or with ⟨h1, h2⟩ | ⟨g, c, h1⟩
              · rw [h2] at hkl; simp at hkl
              · injection h1 with h1 _ _; exact ⟨g, h1⟩
            subst hg
            have c4 := HX2.out.own.at_ HLL.out.symm k hkl
            rw [HE.out k] at c4
            have hu := HUN.out k
            obtain ⟨u, hu'⟩ : ∃ u, nth U0 k = u := ⟨_, rfl⟩
            have HUE : Hid (nth U0 k = u) := hu'
            rw [hu'] at c4 hu
            have k0 : (0 : Int) ≤ (k : Int) := by omega
            have k1 : (k : Int) < (l : Int) := by have := HLB.out; omega
            have w2 : IntKind.i64.wrap (u + need) = u + need := IntWalk.i64_in _ (by omega)
            have HLN := Lib.hid (HLS.out.next hka (by omega))
            clear hu' hkl
            by_cases hb : crew < u + need
            · have HB : Hid (crew < nth U0 k + need) := by show _ < _; rw [HUE.out]; exact hb
              go_wp2
              go_quiet (fail)
              go_wp2
              go_roundw
              case rel =>
                have := HLN.out
                rw [if_pos HB.out] at this
                exact ⟨k + 1, k, _, rfl, by go_num, by omega, by omega, by show LastB _ _ _ _ _ _; simpa using this, rfl⟩
              case measure => simp [intOf]; omega
            · have HB : Hid (¬ crew < nth U0 k + need) := by show ¬ _; rw [HUE.out]; exact hb
              go_wp2
              go_quiet (fail)
              go_wp2
              go_roundw
              case rel =>
                have := HLN.out
                rw [if_neg (by have := HB.out; omega)] at this
                exact ⟨k + 1, b, _, rfl, by go_num, by omega, by omega, by show LastB _ _ _ _ _ _; simpa using this, rfl⟩
              case measure => simp [intOf]; omega
          · have HLA : Hid (LastB (nth U0) crew need a (a + time) b) := by
              have := HLS.out
              rw [show (k : Int) = a + time by omega] at this
              exact this
            rcases HLA.out with ⟨rfl, hfree⟩ | ⟨hb1, hb2, hb3⟩
            · have HFR : Hid (Fit (nth U0) crew need time a0 a) := ⟨ha1, fun j j1 j2 => hfree j j1 j2, HNW.out⟩
              clear HLA hfree HLS
              have HX4 : Hid (FitK bc bt N crew time need w (W2.drewN q) (.slice ax l cx) U2) := HX2.out.drewN q
              obtain ⟨W4, hW4⟩ : ∃ W, W2.drewN q = W := ⟨_, rfl⟩
              rw [hW4] at HX4 ⊢
              clear hW4 HX2 c0 c1 c2 c3
              have HT0 : Hid (FitT bc bt N crew time need a U0 ax l cx w (.int .i64 a) W4) := ⟨a.toNat, U2, by go_num, by omega, by omega, HX4.out, HLL.out, fun j => by rw [HE.out j, if_neg (by omega)]; omega⟩
              have c1 := HX4.out.time
              have hlt' : ¬ (k : Int) < a + time := hlt
              go_wp2
              clear HX4 c1
              go_loopw [9] (fun vk wi => FitT bc bt N crew time need a U0 ax l cx w vk wi) (fun vk _ => (a + time - intOf vk).toNat)
              case atStart => exact HT0.out
              case round =>
                obtain ⟨k3, U3, rfl, hka3, hkt3, HX, HL3, HU3⟩ := hrel
                clear HT0
                have c1 := HX.out.time
                by_cases hlt3 : (k3 : Int) < a + time
                · have hkl : k3 < U3.length := by have := HL3.out; have := HLB.out; omega
                  obtain ⟨g, hg⟩ : ∃ g, ax = some ⟨g, 0, none⟩ := by
                    rcases HX.out.own.nil_or with ⟨h1, h2⟩ | ⟨g, c, h1⟩
                    · rw [h2] at hkl; simp at hkl
                    · injection h1 with h1 _ _; exact ⟨g, h1⟩
                  subst hg
                  have hv : nth U3 k3 = nth U0 k3 := by rw [HU3.out k3, if_neg (by omega)]; omega
                  have hu := HUN.out k3
                  obtain ⟨u, hu'⟩ : ∃ u, nth U0 k3 = u := ⟨_, rfl⟩
                  have HUE : Hid (nth U0 k3 = u) := hu'
                  have c0 := HX.out.used
                  have c2 := HX.out.need
                  have c4 := HX.out.own.at_ HL3.out.symm k3 hkl
                  have fp := (HX.out.own.store HL3.out.symm k3 hkl (u + need)).2.1
                  rw [hv, hu'] at c4
                  rw [hu'] at hu
                  have HPUT : Hid (FitK bc bt N crew time need w (wr.setCell ⟨g, k3, none⟩ (.int .i64 (u + need))) (.slice (some ⟨g, 0, none⟩) l cx) (U3.set k3 (u + need))) := by
                    have h := HX.out
                    rw [← HL3.out] at h
                    have h2 := h.put HBT.out.2.2 (by have := HX.out.frm.size; have := HBT.out; omega) k3 hkl (u + need)
                    rw [HL3.out] at h2
                    exact h2
                  have k0 : (0 : Int) ≤ (k3 : Int) := by omega
                  have k1 : (k3 : Int) < (l : Int) := by have := HLB.out; omega
                  have w2 : IntKind.i64.wrap (u + need) = u + need := IntWalk.i64_in _ (by omega)
                  have HKL : Hid (k3 < U3.length) := hkl
                  clear hu' hv hkl
                  go_wp2
                  go_region
                  go_wp2
                  go_roundw
                  case rel => exact ⟨k3 + 1, _, by go_num, by omega, by omega, HPUT.out.drewN _, by show _ = _; rw [List.length_set]; exact HL3.out, fun j => by
                    by_cases e : j = k3
                    · subst e
                      rw [nth_setF _ HKL.out, if_pos rfl, if_pos (by omega), HUE.out]
                    · rw [nth_setF _ HKL.out, if_neg (fun x => e x.symm), HU3.out j]
                      by_cases hq : a ≤ (j : Int) ∧ j < k3
                      · rw [if_pos hq, if_pos (by omega)]
                      · rw [if_neg hq, if_neg (by omega)]⟩
                  case measure => simp [intOf]; omega
                · go_wp2
                  go_ret
                  exact ⟨a, rfl, HFR.out, ha2, _, U3, HX.out.own, fun j => by
                    rw [HU3.out j]
                    by_cases hq : a ≤ (j : Int) ∧ j < k3
                    · rw [if_pos hq, if_pos (by omega)]
                    · rw [if_neg hq, if_neg (by omega)], by have := HL3.out; omega, HX.out.used, HX.out.crew, HX.out.froz, HX.out.frm⟩
            · have HB : Hid (a ≤ b ∧ b < a + time ∧ crew < nth U0 b.toNat + need) := ⟨hb1, hb2, hb3⟩
              have HNX : Hid (noneW (nth U0) crew need time a0 (b + 1)) := by
                have := HNW.out.jump (b := b.toNat) (by omega) (by omega) HB.out.2.2
                rw [Int.toNat_of_nonneg (by omega)] at this; exact this
              have hbM := HNX.out.bound HUL.out hM2 hn.2
              clear HLA hb3
              go_wp2
              go_roundw
              case rel => exact ⟨b + 1, _, U2, by go_num, by omega, hbM, HNX.out, HX2.out.drewN _, HE.out, by have := HLL.out; omega⟩
              case measure => simp [intOf]; omega
end Go.Proofs.Ytnpfninkopffmaa

namespace Go.Proofs.Ytnpfninkopffmaa
open Go.RowKit
set_option linter.unusedVariables false
set_option linter.unusedSimpArgs false

theorem sl_nilT (p : Addr) (n c : Nat) (W : World) : (binOp .eql 48 (.slice (some p) n c) (.slice none 0 0)).run Try.prog W = .ok (.bool false) W := by kernel_rfl
theorem cloneTk_any (b o c : Nat) (ts : List Tk) (VB VL : Nat → Value) (w : World) (hs : ∀ i, i < ts.length → TkSrc w b o ts VB VL i) (hb : b < w.heap.size) (h0 : 0 < ts.length) (hl : ts.length ≤ 1048576) :
    Calls Try.prog 79 #[.slice (some ⟨b, o, none⟩) ts.length c] w fun e w' => (∃ g c', e = .returned (.slice (some ⟨g, 0, none⟩) ts.length c') ∧ OwnV 56 4 w' w.heap.size (.slice (some ⟨g, 0, none⟩) ts.length c') ts.length (rawT ts VB VL)) ∧ Below w.heap.size w w' := by
  have hB : Below w.heap.size w (w.alloc (.cells #[] 56)) := (Below.refl _ w).alloc (Nat.le_refl _) _
  have ho : OwnV 56 4 (w.alloc (.cells #[] 56)) w.heap.size (.slice (some ⟨w.heap.size, 0, none⟩) 0 0) 0 [] := World.ownsRow_lit (e := 56) (size := 4) w #[] 0 (Nat.le_refl _) (by unfold maxLen; omega) (by simp)
  have hcs : ∀ i, i < ts.length → ∀ j, j < 4 → (w.alloc (.cells #[] 56)).cell? ⟨b, o + (i * 4 + j), none⟩ = some (cellT ts VB VL i j) := fun i hi j hj => (hB.cell (p := ⟨b, o + (i * 4 + j), none⟩) hb).trans ((hs i hi).cell hj)
  have hone : ∀ i, i < ts.length → (VB i).oneCell' = true ∧ (VL i).oneCell' = true := fun i hi => ⟨(hs i hi).bef.one, (hs i hi).lag.one⟩
  have HO := Lib.hid ho
  have HB := Lib.hid hB
  have HCS : Hid (∀ i, i < ts.length → ∀ j, j < 4 → (w.alloc (.cells #[] 56)).cell? ⟨b, o + (i * 4 + j), none⟩ = some (cellT ts VB VL i j)) := hcs
  have HON : Hid (∀ i, i < ts.length → (VB i).oneCell' = true ∧ (VL i).oneCell' = true) := hone
  clear hs hcs hone ho hB
  have hsn := sl_nilT
  go_enter Try.func79, Try.ntmps79
  go_wp2_with (at_builtin; refine append_tks rfl _ _ rfl w.heap.size (.slice (some ⟨w.heap.size, 0, none⟩) 0 0) ts VB VL h0 hl rfl b o c rfl HCS.out HON.out HO.out (by simp) ?_; intro g1 c1 w1 ho1 hg1; have hb1 : Below w.heap.size w w1 := ⟨hg1.os.trans HB.out.os, hg1.tape.trans HB.out.tape, hg1.output.trans HB.out.output, Nat.le_trans HB.out.size hg1.size, fun i hi => (hg1.block i (by simp; omega) (by rw [ownBlock_slice]; intro e; injection e with e; omega)).trans (HB.out.block i hi)⟩; have Ho1 := Lib.hid ho1; have Hb1 := Lib.hid hb1; clear ho1 hg1 hb1)
  go_ret
  exact ⟨⟨g1, c1, rfl, Ho1.out⟩, Hb1.out⟩
theorem mendKey_any (a : Option Addr) (c : Nat) (st : List Int) (bx : Nat) (x : Int) (W : World) (hb : Boxed W bx 29 (.slice a st.length c)) (hv : Ints W (.slice a st.length c) st) (hl : st.length ≤ 64) (h0 : 0 ≤ x) (hx : x < st.length) :
    KeyAt 80 #[.pointer (some ⟨bx, 0, none⟩)] (keyOf st) x W := by
  obtain ⟨i, rfl⟩ : ∃ i : Nat, x = i := ⟨x.toNat, by omega⟩
  obtain ⟨hm, a', c', he, hcap, hc⟩ := hv
  injection he with e1 e2 e3
  subst e1 e3
  obtain ⟨b, o, ha0, hbs, hcs⟩ := row_at hc
  obtain rfl := ha0 (by omega)
  have e1 := hcs i (by omega)
  rw [← nth_eq] at e1
  have hE : Hid (keyOf st (i : Int) = nth st i) := by show _ = _; unfold keyOf; rw [Int.toNat_natCast]
  have hbc := hb.cell
  clear hc hcs ha0 hb
  unfold KeyAt
  go_enter Try.func80, Try.ntmps80
  go_wp2
  go_ret
  exact ⟨ret_int hE.out.symm, 0, rfl⟩
/-- The longer tasks are small too. -/
theorem longT_sm {ts : List Tk} {i : Nat} {x : Int} (h : SmTs ts) (hi : i < ts.length) (hx : 0 ≤ x) (hl : timeN ts i + x ≤ 100) : SmTs (longT ts i x) := by
  have hl2 := longT_len ts i x
  have ht : ∀ j, j < ts.length → timeN ts j ≤ timeN (longT ts i x) j ∧ timeN (longT ts i x) j ≤ 100 ∧ needN (longT ts i x) j = needN ts j ∧ befN (longT ts i x) j = befN ts j ∧ lagN (longT ts i x) j = lagN ts j := fun j hj => by
    have h1 := h.time j hj
    unfold timeN needN befN lagN at *
    rw [longT_at x hi]
    split
    · rename_i e; subst e; exact ⟨by show _ ≤ _ + _; omega, hl, rfl, rfl, rfl⟩
    · exact ⟨Int.le_refl _, h1.2, rfl, rfl, rfl⟩
  refine ⟨by rw [hl2]; exact h.n1, by rw [hl2]; exact h.n16, fun j hj => ?_, fun j hj => ?_, fun j hj => ?_, fun j hj => ?_, fun j hj k hk => ?_, fun j hj k hk => ?_⟩
  all_goals rw [hl2] at hj
  all_goals obtain ⟨t1, t2, t3, t4, t5⟩ := ht j hj
  · have := h.time j hj; omega
  · rw [t3]; exact h.need j hj
  · rw [t4, t5]; exact h.len j hj
  · rw [t4]; exact h.blen j hj
  · rw [t4] at hk ⊢; exact h.bef j hj k hk
  · rw [t4] at hk; rw [t5]; exact h.lag j hj k hk
theorem GrownL.frm {b N : Nat} {gs : List Nat} {A W W' : World} (h : GrownL gs A W) (hf : Frm b N W W') (hN : A.heap.size ≤ N) (hb : b ∈ gs) : GrownL gs A W' :=
  ⟨hf.os.trans h.os, hf.tape.trans h.tape, hf.output.trans h.output, Nat.le_trans h.size hf.size, fun i hi hn => (hf.block i (by omega) (fun e => hn (by rw [e]; exact hb))).trans (h.block i hi hn)⟩
end Go.Proofs.Ytnpfninkopffmaa
