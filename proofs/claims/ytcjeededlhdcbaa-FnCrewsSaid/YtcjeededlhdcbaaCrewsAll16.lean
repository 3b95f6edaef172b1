/- impl.permute: the whole function. Conditions: at least one number, at most 2^20. With texts that it needs. -/
import Derived.Test.YtcjeededlhdcbaaCrewsAll15
import Derived.Test.YtcjeededlhdcbaaCrewsAll14
import Derived.Test.YtcjeededlhdcbaaCrewsAll9
import Derived.Deep.DeepAppendRoom
import Derived.Laws.EntriesVeiled
import Derived.Deep.LoopGhost
namespace Go.Proofs.Ytcjeededlhdcbaa
open Go.RowKit
set_option linter.unusedVariables false
set_option linter.unusedSimpArgs false

def lenV : Value → Nat
  | .slice _ n _ => n
  | _ => 0
def tkL (E : List Int) (n : Nat) : List Bool := (List.range n).map fun i : Nat => E.contains (i : Int)
theorem tkL_len (E : List Int) (n : Nat) : (tkL E n).length = n := by simp [tkL]
theorem tkL_at {E : List Int} {n i : Nat} (h : i < (tkL E n).length) : (tkL E n)[i] = E.contains (i : Int) := by simp [tkL]
theorem tkL_nil (n : Nat) : tkL [] n = List.replicate n false := by
  apply List.ext_getElem
  · simp [tkL]
  · intro i h1 h2; simp [tkL]
theorem tkL_set (E : List Int) (n p : Nat) (h : p < n) : (tkL E n).set p true = tkL (E ++ [(p : Int)]) n := by
  apply List.ext_getElem
  · simp [tkL]
  · intro i h1 h2
    rw [List.getElem_set, tkL_at h2]
    split
    · rename_i e; subst e; simp
    · rename_i e
      rw [tkL_at]
      have : ¬ ((i : Int) = (p : Int)) := by omega
      simp [this]
def frTo (ts : List Tk) (E : List Int) (i : Nat) : Nat → Bool
  | 0 => !(E.contains (i : Int))
  | q + 1 => frTo ts E i q && E.contains (nth (befN ts i) q)
theorem frTo_take (ts : List Tk) (E : List Int) (i : Nat) : ∀ q, q ≤ (befN ts i).length → frTo ts E i q = (!(E.contains (i : Int)) && ((befN ts i).take q).all fun b => E.contains b)
  | 0, _ => by simp [frTo]
  | q + 1, h => by
    unfold frTo
    rw [frTo_take ts E i q (by omega), List.take_succ_eq_append_getElem (by omega), List.all_append, nth_eq (by omega)]
    simp [Bool.and_assoc]
theorem frTo_free (ts : List Tk) (E : List Int) (i : Nat) : frTo ts E i (befN ts i).length = freeB ts E i := by
  rw [frTo_take ts E i _ (Nat.le_refl _), List.take_length]; rfl
/-- What the rounds know. -/
structure RulQ (T : Nat) (ts : List Tk) (key : Int → Int) (gt N4 k : Nat) (W3 wr : World) (v : Value) : Prop where
  own : OwnI wr N4 v (ruleTo ts key k)
  told : OwnB wr W3.heap.size (.slice (some ⟨gt, 0, none⟩) T T) (tkL (ruleTo ts key k) T)
  bel : Below W3.heap.size W3 wr
  sz : N4 ≤ wr.heap.size
def RulR (T : Nat) (ts : List Tk) (key : Int → Int) (gt N4 : Nat) (W3 : World) (vo : Value) (wr : World) : Prop :=
  ∃ (g c k l : Nat), vo = .slice (some ⟨g, 0, none⟩) l c ∧ k ≤ T ∧ l = k ∧ Hid (RulQ T ts key gt N4 k W3 wr (.slice (some ⟨g, 0, none⟩) l c))
def RulP (T : Nat) (ts : List Tk) (key : Int → Int) (E : List Int) (V : World) (vb vl vi : Value) (wr : World) : Prop :=
  ∃ (j m : Nat) (P lv : Int), vb = .int .i64 P ∧ vl = .int .i64 lv ∧ vi = .int .i64 j ∧ j ≤ T ∧ Hid (P = pickK (freeB ts E) key j) ∧ Hid (0 ≤ P → lv = key P) ∧ wr = V.drewN m
def RulF (ts : List Tk) (E : List Int) (i L : Nat) (W : World) (vf vq : Value) (wr : World) : Prop :=
  ∃ (q m : Nat) (B : Bool), vf = .bool B ∧ vq = .int .i64 q ∧ q ≤ L ∧ Hid (B = frTo ts E i q) ∧ wr = W.drewN m
theorem keyR_0 (ts : List Tk) (j : Nat) : keyR ts 0 j = nth (lateN ts (endN ts)) j := by unfold keyR; rw [if_neg (by omega), if_neg (by omega), if_neg (by omega), Int.toNat_natCast]
theorem keyR_1 (ts : List Tk) (j : Nat) : keyR ts 1 j = -timeN ts j := by unfold keyR; rw [if_pos rfl, Int.toNat_natCast]
theorem keyR_2 (ts : List Tk) (j : Nat) : keyR ts 2 j = nth (slackN ts) j := by unfold keyR; rw [if_neg (by omega), if_pos rfl, Int.toNat_natCast]
theorem keyR_3 (ts : List Tk) (j : Nat) : keyR ts 3 j = -timeN ts j * needN ts j := by unfold keyR; rw [if_neg (by omega), if_neg (by omega), if_pos rfl, Int.toNat_natCast]
set_option maxRecDepth 100000 in
set_option maxHeartbeats 4000000 in
theorem specRule_any (vt : Value) (ts : List Tk) (kind : Int) (w : World) (ht : TasksR w vt ts) (hsm : SmTs ts) (hkd : kind = 0 ∨ kind = 1 ∨ kind = 2 ∨ kind = 3) :
    Calls Try.prog 60 #[vt, .int .i64 kind] w fun x w' => (∃ g c, x = .returned (.slice (some ⟨g, 0, none⟩) ts.length c) ∧ OwnI w' w.heap.size (.slice (some ⟨g, 0, none⟩) ts.length c) (ruleN ts kind)) ∧ Below w.heap.size w w' := by
  have HC1 := Lib.hid (specEarly_any vt ts w ht hsm)
  have HC2 : Hid (∀ vs W, Below w.heap.size w W → Ints W vs (earlyN ts) → Calls Try.prog 61 #[vt, vs] W fun e w' => e = .returned (.int .i64 (endN ts)) ∧ Below W.heap.size W w') := fun vs W hW hs => specEnd_any vt vs ts (earlyN ts) W (ht.below hW (Nat.le_refl _)) hs hsm (earlyTo_sm hsm _ (Nat.le_refl _))
  have HC3 : Hid (∀ W, Below w.heap.size w W → Calls Try.prog 122 #[vt, .int .i64 (endN ts)] W fun x w' => (∃ g, x = .returned (.slice (some ⟨g, 0, none⟩) ts.length ts.length) ∧ OwnI w' W.heap.size (.slice (some ⟨g, 0, none⟩) ts.length ts.length) (lateN ts (endN ts))) ∧ Below W.heap.size W w') := fun W hW => specLate_any vt ts (endN ts) W (ht.below hW (Nat.le_refl _)) hsm (by have := endN_bounds hsm; omega)
  have HC4 : Hid (∀ W, Below w.heap.size w W → Calls Try.prog 123 #[vt] W fun x w' => (∃ g c, x = .returned (.slice (some ⟨g, 0, none⟩) ts.length c) ∧ OwnI w' W.heap.size (.slice (some ⟨g, 0, none⟩) ts.length c) (slackN ts)) ∧ Below W.heap.size W w') := fun W hW => specSlack_any vt ts W (ht.below hW (Nat.le_refl _)) hsm
  have HLN : Hid ((lateN ts (endN ts)).length = ts.length ∧ (slackN ts).length = ts.length) := ⟨lateTo_len _ _ _, slackN_len _⟩
  have HRN : Hid (ruleN ts kind = ruleTo ts (keyR ts kind) ts.length) := rfl
  have HRI : Hid (∀ k, k ≤ ts.length → RuleI ts (ruleTo ts (keyR ts kind) k) k) := fun k hk => ruleTo_ok hsm k hk
  have HRS : Hid (∀ k, ruleTo ts (keyR ts kind) (k + 1) = ruleTo ts (keyR ts kind) k ++ [pickK (freeB ts (ruleTo ts (keyR ts kind) k)) (keyR ts kind) ts.length]) := fun k => rfl
  have HRL : Hid (∀ k, (ruleTo ts (keyR ts kind) k).length = k) := ruleTo_len ts _
  have HKD : Hid (kind = 0 ∨ kind = 1 ∨ kind = 2 ∨ kind = 3) := hkd
  have HSM := Lib.hid hsm
  have h16 := hsm.n16
  have hn1 := hsm.n1
  obtain ⟨b, o, c, AB, CB, AL, CL, rfl, hcap, hbw, hV⟩ := ht.view hsm.n1
  have HV := Lib.hid hV
  obtain ⟨T, hT⟩ : ∃ T, ts.length = T := ⟨_, rfl⟩
  have HT : Hid (ts.length = T) := hT
  rw [hT] at HC1 HLN h16 hn1 hcap HRN ⊢
  simp only [hT] at HC2 HC3 HC4 HRI HRS
  obtain ⟨i1, ji, jz0, jz1, jz2⟩ := info_parts info_bool
  clear ht hsm hT hV hkd
  go_enter Try.func60, Try.ntmps60
  go_wp2_with fail
  refine HC1.out.mono ?_
  rintro x W1 ⟨⟨ge, rfl, ho1⟩, hb1⟩
  have HB1 := Lib.hid hb1
  have HO1 := Lib.hid ho1
  clear ho1 hb1 HC1
  have HD2 := Lib.hid (HC2.out _ W1 HB1.out HO1.out.ints)
  clear HC2
  go_wp2_with fail
  refine HD2.out.mono ?_
  rintro x W2 ⟨rfl, hb2⟩
  have HB2 : Hid (Below w.heap.size w W2) := HB1.out.trans (hb2.mono HB1.out.size)
  clear hb2 HD2 HO1
  have HD3 := Lib.hid (HC3.out W2 HB2.out)
  clear HC3
  go_wp2_with fail
  refine HD3.out.mono ?_
  rintro x W2b ⟨⟨gl, rfl, ho3⟩, hb3⟩
  have HB2b : Hid (Below w.heap.size w W2b) := HB2.out.trans (hb3.mono HB2.out.size)
  have HL2 := Lib.hid ho3
  clear ho3 hb3 HD3
  have HD4 := Lib.hid (HC4.out W2b HB2b.out)
  clear HC4
  go_wp2_with fail
  refine HD4.out.mono ?_
  rintro x W3 ⟨⟨gs, cs, rfl, ho4⟩, hb4⟩
  have HB3 : Hid (Below w.heap.size w W3) := HB2b.out.trans (hb4.mono HB2b.out.size)
  have HL3 := Lib.hid (HL2.out.below hb4 (Nat.le_refl _))
  have HS3 := Lib.hid ho4
  clear ho4 hb4 HD4 HL2
  have HEC : Hid (∀ W, Below W3.heap.size W3 W → ∀ k, k < T → W.cell? ⟨gl, k, none⟩ = some (.int .i64 (nth (lateN ts (endN ts)) k)) ∧ W.cell? ⟨gs, k, none⟩ = some (.int .i64 (nth (slackN ts) k)) ∧ W.cell? ⟨b, o + k * 4, none⟩ = some (.int .i64 (timeN ts k)) ∧ W.cell? ⟨b, o + k * 4 + 1, none⟩ = some (.int .i64 (needN ts k))) := fun W hW k hk => by
    have hC := HV.out W (HB3.out.trans (hW.mono HB3.out.size)) k (by rw [HT.out]; exact hk)
    exact ⟨(HL3.out.below hW (Nat.le_refl _)).at_ HLN.out.1.symm k (by rw [HLN.out.1]; exact hk), (HS3.out.below hW (Nat.le_refl _)).at_ HLN.out.2.symm k (by rw [HLN.out.2]; exact hk), hC.time, hC.need⟩
  clear HL3 HS3
  go_wp2_with (at_make; refine wpList_make_full _ rfl _ _ 73 rfl W3.heap.size 4 i1 (.bool false) 1 Try.underlying73 ji jz0 jz1 _ _ _ _ T rfl rfl rfl rfl (by rw [jz2]; omega) (by unfold maxLen; omega) (Nat.le_refl _) ?_; intro W4 hown4 hgrow4; have HA4 := Lib.hid (And.intro hown4 hgrow4); clear hown4 hgrow4)
  obtain ⟨gt, hgt⟩ : ∃ g, W3.heap.size = g := ⟨_, rfl⟩
  obtain ⟨N4, hN4⟩ : ∃ g, W4.heap.size = g := ⟨_, rfl⟩
  have HGT : Hid (W3.heap.size = gt) := hgt
  have HR0 : Hid (RulR T ts (keyR ts kind) gt N4 W3 (.slice (some ⟨N4, 0, none⟩) 0 0) (W4.alloc (.cells #[] 2))) := by
    obtain ⟨ho, hg⟩ := HA4.out
    have hb : Below W3.heap.size W3 W4 := (Below.refl _ W3).grown hg (Nat.le_refl _) (fun k e => by cases e)
    have hl := OwnI.lit W4 N4 [] (by omega) (Nat.zero_le _)
    rw [hN4] at hl
    refine ⟨N4, 0, 0, 0, rfl, Nat.zero_le _, rfl, hl, ?_, hb.alloc hb.size _, by simp; omega⟩
    have h1 := OwnB.made ho
    rw [hgt] at h1 ⊢
    show OwnB _ _ _ (tkL [] T)
    rw [tkL_nil]
    exact h1.alloc _
  have HGN : Hid (gt < N4) := by
    have h1 := (OwnB.made HA4.out.1).lt _ rfl
    show _ < _; omega
  clear HA4 ji jz0 jz1 jz2
  go_wp2
  simp only [hgt, hN4]
  clear hgt hN4
  go_loopw [9] (fun vo wr => RulR T ts (keyR ts kind) gt N4 W3 vo wr) (fun vo _ => T - lenV vo)
  case atStart => exact HR0.out
  case round =>
    obtain ⟨g, cg, k, l, rfl, hk, rfl, HQ⟩ := hrel
    clear HR0
    by_cases hkT : l < T
    · have k1 : (l : Int) < (T : Int) := by omega
      have HTC : Hid (∀ j, j < T → wr.cell? ⟨gt, j, none⟩ = some (.bool ((ruleTo ts (keyR ts kind) l).contains (j : Int)))) := fun j hj => by
        have h := (HQ.out.told.store (tkL_len _ _).symm j (by rw [tkL_len]; exact hj) true).1
        rw [tkL_at] at h
        exact h
      have HCC := Lib.hid (HEC.out wr HQ.out.bel)
      have HVC := Lib.hid (HV.out wr (HB3.out.trans (HQ.out.bel.mono HB3.out.size)))
      have HRP := Lib.hid ((HRI.out l hk).pick (key := keyR ts kind) HSM.out (by rw [HT.out]; exact hkT))
      have HRX := Lib.hid (HRS.out l)
      have HEL := Lib.hid (HRL.out l)
      rw [HT.out] at HRP
      obtain ⟨E, hE⟩ : ∃ E, ruleTo ts (keyR ts kind) l = E := ⟨_, rfl⟩
      have HEE : Hid (ruleTo ts (keyR ts kind) l = E) := hE
      rw [hE] at HTC HRP HRX HEL
      have HP0 : Hid (RulP T ts (keyR ts kind) E wr (.int .i64 (-1)) (.int .i64 0) (.int .i64 0) wr) := ⟨0, 0, -1, 0, rfl, rfl, rfl, Nat.zero_le _, rfl, fun h => by omega, rfl⟩
      clear hE
      go_wp2
      go_loopw [10, 11, 36] (fun vb vl vi wi => RulP T ts (keyR ts kind) E wr vb vl vi wi) (fun _ _ vi _ => T - (intOf vi).toNat)
      case atStart => exact HP0.out
      case round =>
        obtain ⟨j, m, P, lv, rfl, rfl, rfl, hj, HP, HLV, rfl⟩ := hrel
        clear HP0
        by_cases hjT : j < T
        · have j1 : (j : Int) < (T : Int) := by omega
          have j0 : (0 : Int) ≤ (j : Int) := by omega
          have ct := HTC.out j hjT
          have hC := HVC.out j (by rw [HT.out]; exact hjT)
          have e2 := hC.bef
          obtain ⟨L, hL⟩ : ∃ L, (befN ts j).length = L := ⟨_, rfl⟩
          have HLB : Hid ((befN ts j).length = L) := hL
          have hL16 : L ≤ 16 := by rw [← hL]; exact HSM.out.blen j (by rw [HT.out]; exact hjT)
          rw [show (tkN ts j).2.2.1.length = L from hL] at e2
          have HBF : Hid (∀ q, q < L → ∃ b' o', AB j = some ⟨b', o', none⟩ ∧ wr.cell? ⟨b', o' + q, none⟩ = some (.int .i64 (nth (befN ts j) q))) := fun q hq => hC.befAt q (by show q < (befN ts j).length; rw [hL]; exact hq)
          have HBE : Hid (∀ q, q < L → 0 ≤ nth (befN ts j) q ∧ nth (befN ts j) q < (j : Int)) := fun q hq => HSM.out.bef j (by rw [HT.out]; exact hjT) q (by rw [hL]; exact hq)
          obtain ⟨aB, haB⟩ : ∃ x, AB j = x := ⟨_, rfl⟩
          obtain ⟨cB, hcB⟩ : ∃ x, CB j = x := ⟨_, rfl⟩
          rw [haB] at HBF
          rw [haB, hcB] at e2
          have HF0 : Hid (frTo ts E j 0 = !(E.contains (j : Int))) := rfl
          have HFS : Hid (∀ q, frTo ts E j (q + 1) = (frTo ts E j q && E.contains (nth (befN ts j) q))) := fun q => rfl
          have HFF : Hid (frTo ts E j L = freeB ts E j) := by show _ = _; rw [← hL]; exact frTo_free ts E j
          obtain ⟨B0, hB0⟩ : ∃ x, E.contains (j : Int) = x := ⟨_, rfl⟩
          rw [hB0] at ct HF0
          have HR1 : Hid (RulF ts E j L wr (.bool (!B0)) (.int .i64 0) (wr.drewN m)) := ⟨0, m, !B0, rfl, rfl, Nat.zero_le _, HF0.out.symm, rfl⟩
          clear hC hL haB hcB hB0
          go_wp2
          go_loopw [13, 50] (fun vf vq wi => RulF ts E j L wr vf vq wi) (fun _ vq _ => L - (intOf vq).toNat)
          case atStart => exact HR1.out
          case round =>
            obtain ⟨q, m2, B, rfl, rfl, hq, HB, rfl⟩ := hrel
            clear HR1
            by_cases hqL : q < L
            · have q1 : (q : Int) < (L : Int) := by omega
              have q0 : (0 : Int) ≤ (q : Int) := by omega
              obtain ⟨b2, o2, haB, cb⟩ := HBF.out q hqL
              subst haB
              have hbe := HBE.out q hqL
              obtain ⟨p, hp⟩ : ∃ p : Nat, nth (befN ts j) q = p := ⟨(nth (befN ts j) q).toNat, by omega⟩
              have HFN := Lib.hid (HFS.out q)
              rw [hp] at cb hbe HFN
              rw [← HB.out] at HFN
              have cp := HTC.out p (by omega)
              have p0 : (0 : Int) ≤ (p : Int) := by omega
              have p1 : (p : Int) < (T : Int) := by omega
              obtain ⟨Bp, hBp⟩ : ∃ x, E.contains (p : Int) = x := ⟨_, rfl⟩
              rw [hBp] at cp HFN
              clear hp hBp
              cases B
              · have HFN2 : Hid (false = frTo ts E j (q + 1)) := by show _ = _; rw [HFN.out]; rfl
                go_wp2
                go_roundw
                case rel => exact ⟨q + 1, m2, false, rfl, by go_num, by omega, HFN2.out, rfl⟩
                case measure => simp [intOf]; omega
              · have HFN2 : Hid (Bp = frTo ts E j (q + 1)) := by show _ = _; rw [HFN.out]; rfl
                go_wp2
                go_roundw
                case rel => exact ⟨q + 1, m2, Bp, rfl, by go_num, by omega, HFN2.out, rfl⟩
                case measure => simp [intOf]; omega
            · have q1 : ¬ (q : Int) < (L : Int) := by omega
              have HFB : Hid (B = freeB ts E j) := by show _ = _; rw [HB.out, show q = L by omega]; exact HFF.out
              have HPN : Hid (pickK (freeB ts E) (keyR ts kind) (j + 1) = if B = true ∧ (P < 0 ∨ keyR ts kind j < keyR ts kind P) then (j : Int) else P) := by show _ = _; rw [HP.out, HFB.out]; rfl
              have hPb : P < (j : Int) + 1 ∧ -1 ≤ P := by
                rw [HP.out]
                rcases pickK_spec (freeB ts E) (keyR ts kind) j with ⟨h, _⟩ | ⟨h1, h2, _⟩ <;> omega
              clear HB hqL HFB HP
              cases B
              · have HPN2 : Hid (P = pickK (freeB ts E) (keyR ts kind) (j + 1)) := by show _ = _; rw [HPN.out, if_neg (fun h => by cases h.1)]
                go_wp2
                go_roundw
                case rel => exact ⟨j + 1, m2, P, lv, rfl, rfl, by go_num, by omega, HPN2.out, HLV.out, rfl⟩
                case measure => simp [intOf]; omega
              · obtain ⟨cl, cs', ctm, cnd⟩ := HCC.out j hjT
                have htj := HSM.out.time j (by rw [HT.out]; exact hjT)
                have hnj := HSM.out.need j (by rw [HT.out]; exact hjT)
                rcases HKD.out with rfl | rfl | rfl | rfl
                · have HKX := Lib.hid (keyR_0 ts j)
                  obtain ⟨lj, hlj⟩ : ∃ x, nth (lateN ts (endN ts)) j = x := ⟨_, rfl⟩
                  obtain ⟨sj, hsj⟩ : ∃ x, nth (slackN ts) j = x := ⟨_, rfl⟩
                  obtain ⟨tj, htj'⟩ : ∃ x, timeN ts j = x := ⟨_, rfl⟩
                  obtain ⟨nj, hnj'⟩ : ∃ x, needN ts j = x := ⟨_, rfl⟩
                  rw [hlj] at cl
                  rw [hsj] at cs'
                  rw [htj'] at ctm htj
                  rw [hnj'] at cnd hnj
                  rw [hlj] at HKX
                  have w9 : (0 : Int) ≤ tj := by omega
                  clear hlj hsj htj' hnj'
                  by_cases hP0 : P < 0
                  · have hd : decide (P < 0) = true := by simpa using hP0
                    have HPN2 : Hid ((j : Int) = pickK (freeB ts E) (keyR ts 0) (j + 1)) := by show _ = _; rw [HPN.out, if_pos ⟨rfl, .inl hP0⟩]
                    clear HPN
                    go_wp2
                    go_roundw
                    case rel => exact ⟨j + 1, _, j, _, rfl, rfl, by go_num, by omega, HPN2.out, fun _ => HKX.out.symm, rfl⟩
                    case measure => simp [intOf]; omega
                  · have hd : decide (P < 0) = false := by simpa using hP0
                    have HLP := Lib.hid (HLV.out (by omega))
                    by_cases hx : lj < lv
                    · have hd2 : decide (lj < lv) = true := by simpa using hx
                      have HPN2 : Hid ((j : Int) = pickK (freeB ts E) (keyR ts 0) (j + 1)) := by show _ = _; rw [HPN.out, if_pos ⟨rfl, .inr (by rw [HKX.out, ← HLP.out]; exact hx)⟩]
                      clear HPN HLP
                      go_wp2
                      go_roundw
                      case rel => exact ⟨j + 1, _, j, _, rfl, rfl, by go_num, by omega, HPN2.out, fun _ => HKX.out.symm, rfl⟩
                      case measure => simp [intOf]; omega
                    · have hd2 : decide (lj < lv) = false := by simpa using hx
                      have HPN2 : Hid (P = pickK (freeB ts E) (keyR ts 0) (j + 1)) := by show _ = _; rw [HPN.out, if_neg (fun h => by rcases h.2 with h | h; exact hP0 h; rw [HKX.out, ← HLP.out] at h; exact hx h)]
                      clear HPN HLP
                      go_wp2
                      go_roundw
                      case rel => exact ⟨j + 1, _, P, lv, rfl, rfl, by go_num, by omega, HPN2.out, HLV.out, rfl⟩
                      case measure => simp [intOf]; omega
                · have HKX := Lib.hid (keyR_1 ts j)
                  obtain ⟨lj, hlj⟩ : ∃ x, nth (lateN ts (endN ts)) j = x := ⟨_, rfl⟩
                  obtain ⟨sj, hsj⟩ : ∃ x, nth (slackN ts) j = x := ⟨_, rfl⟩
                  obtain ⟨tj, htj'⟩ : ∃ x, timeN ts j = x := ⟨_, rfl⟩
                  obtain ⟨nj, hnj'⟩ : ∃ x, needN ts j = x := ⟨_, rfl⟩
                  rw [hlj] at cl
                  rw [hsj] at cs'
                  rw [htj'] at ctm htj
                  rw [hnj'] at cnd hnj
                  rw [htj'] at HKX
                  have w9 : IntKind.i64.wrap (-tj) = -tj := IntWalk.i64_in _ (by omega)
                  clear hlj hsj htj' hnj'
                  by_cases hP0 : P < 0
                  · have hd : decide (P < 0) = true := by simpa using hP0
                    have HPN2 : Hid ((j : Int) = pickK (freeB ts E) (keyR ts 1) (j + 1)) := by show _ = _; rw [HPN.out, if_pos ⟨rfl, .inl hP0⟩]
                    clear HPN
                    go_wp2
                    go_roundw
                    case rel => exact ⟨j + 1, _, j, _, rfl, rfl, by go_num, by omega, HPN2.out, fun _ => HKX.out.symm, rfl⟩
                    case measure => simp [intOf]; omega
                  · have hd : decide (P < 0) = false := by simpa using hP0
                    have HLP := Lib.hid (HLV.out (by omega))
                    by_cases hx : -tj < lv
                    · have hd2 : decide (-tj < lv) = true := by simpa using hx
                      have HPN2 : Hid ((j : Int) = pickK (freeB ts E) (keyR ts 1) (j + 1)) := by show _ = _; rw [HPN.out, if_pos ⟨rfl, .inr (by rw [HKX.out, ← HLP.out]; exact hx)⟩]
                      clear HPN HLP
                      go_wp2
                      go_roundw
                      case rel => exact ⟨j + 1, _, j, _, rfl, rfl, by go_num, by omega, HPN2.out, fun _ => HKX.out.symm, rfl⟩
                      case measure => simp [intOf]; omega
                    · have hd2 : decide (-tj < lv) = false := by simpa using hx
                      have HPN2 : Hid (P = pickK (freeB ts E) (keyR ts 1) (j + 1)) := by show _ = _; rw [HPN.out, if_neg (fun h => by rcases h.2 with h | h; exact hP0 h; rw [HKX.out, ← HLP.out] at h; exact hx h)]
                      clear HPN HLP
                      go_wp2
                      go_roundw
                      case rel => exact ⟨j + 1, _, P, lv, rfl, rfl, by go_num, by omega, HPN2.out, HLV.out, rfl⟩
                      case measure => simp [intOf]; omega
                · have HKX := Lib.hid (keyR_2 ts j)
                  obtain ⟨lj, hlj⟩ : ∃ x, nth (lateN ts (endN ts)) j = x := ⟨_, rfl⟩
                  obtain ⟨sj, hsj⟩ : ∃ x, nth (slackN ts) j = x := ⟨_, rfl⟩
                  obtain ⟨tj, htj'⟩ : ∃ x, timeN ts j = x := ⟨_, rfl⟩
                  obtain ⟨nj, hnj'⟩ : ∃ x, needN ts j = x := ⟨_, rfl⟩
                  rw [hlj] at cl
                  rw [hsj] at cs'
                  rw [htj'] at ctm htj
                  rw [hnj'] at cnd hnj
                  rw [hsj] at HKX
                  have w9 : (0 : Int) ≤ tj := by omega
                  clear hlj hsj htj' hnj'
                  by_cases hP0 : P < 0
                  · have hd : decide (P < 0) = true := by simpa using hP0
                    have HPN2 : Hid ((j : Int) = pickK (freeB ts E) (keyR ts 2) (j + 1)) := by show _ = _; rw [HPN.out, if_pos ⟨rfl, .inl hP0⟩]
                    clear HPN
                    go_wp2
                    go_roundw
                    case rel => exact ⟨j + 1, _, j, _, rfl, rfl, by go_num, by omega, HPN2.out, fun _ => HKX.out.symm, rfl⟩
                    case measure => simp [intOf]; omega
                  · have hd : decide (P < 0) = false := by simpa using hP0
                    have HLP := Lib.hid (HLV.out (by omega))
                    by_cases hx : sj < lv
                    · have hd2 : decide (sj < lv) = true := by simpa using hx
                      have HPN2 : Hid ((j : Int) = pickK (freeB ts E) (keyR ts 2) (j + 1)) := by show _ = _; rw [HPN.out, if_pos ⟨rfl, .inr (by rw [HKX.out, ← HLP.out]; exact hx)⟩]
                      clear HPN HLP
                      go_wp2
                      go_roundw
                      case rel => exact ⟨j + 1, _, j, _, rfl, rfl, by go_num, by omega, HPN2.out, fun _ => HKX.out.symm, rfl⟩
                      case measure => simp [intOf]; omega
                    · have hd2 : decide (sj < lv) = false := by simpa using hx
                      have HPN2 : Hid (P = pickK (freeB ts E) (keyR ts 2) (j + 1)) := by show _ = _; rw [HPN.out, if_neg (fun h => by rcases h.2 with h | h; exact hP0 h; rw [HKX.out, ← HLP.out] at h; exact hx h)]
                      clear HPN HLP
                      go_wp2
                      go_roundw
                      case rel => exact ⟨j + 1, _, P, lv, rfl, rfl, by go_num, by omega, HPN2.out, HLV.out, rfl⟩
                      case measure => simp [intOf]; omega
                · have HKX := Lib.hid (keyR_3 ts j)
                  obtain ⟨lj, hlj⟩ : ∃ x, nth (lateN ts (endN ts)) j = x := ⟨_, rfl⟩
                  obtain ⟨sj, hsj⟩ : ∃ x, nth (slackN ts) j = x := ⟨_, rfl⟩
                  obtain ⟨tj, htj'⟩ : ∃ x, timeN ts j = x := ⟨_, rfl⟩
                  obtain ⟨nj, hnj'⟩ : ∃ x, needN ts j = x := ⟨_, rfl⟩
                  rw [hlj] at cl
                  rw [hsj] at cs'
                  rw [htj'] at ctm htj
                  rw [hnj'] at cnd hnj
                  rw [htj', hnj'] at HKX
                  have w9 : IntKind.i64.wrap (-tj) = -tj := IntWalk.i64_in _ (by omega)
                  have hmul : 0 ≤ tj * nj ∧ tj * nj ≤ 2000 := ⟨Int.mul_nonneg htj.1 hnj.1, by have h1 := Int.mul_le_mul_of_nonneg_right htj.2 hnj.1; have h2 := Int.mul_le_mul_of_nonneg_left hnj.2 (show (0 : Int) ≤ 100 by omega); omega⟩
                  have w10 : IntKind.i64.wrap (-tj * nj) = -tj * nj := by rw [Int.neg_mul]; exact IntWalk.i64_in _ (by omega)
                  clear hmul
                  clear hlj hsj htj' hnj'
                  by_cases hP0 : P < 0
                  · have hd : decide (P < 0) = true := by simpa using hP0
                    have HPN2 : Hid ((j : Int) = pickK (freeB ts E) (keyR ts 3) (j + 1)) := by show _ = _; rw [HPN.out, if_pos ⟨rfl, .inl hP0⟩]
                    clear HPN
                    go_wp2
                    go_quiet (fail)
                    go_wp2
                    go_roundw
                    case rel => exact ⟨j + 1, _, j, _, rfl, rfl, by go_num, by omega, HPN2.out, fun _ => HKX.out.symm, rfl⟩
                    case measure => simp [intOf]; omega
                  · have hd : decide (P < 0) = false := by simpa using hP0
                    have HLP := Lib.hid (HLV.out (by omega))
                    by_cases hx : -tj * nj < lv
                    · have hd2 : decide (-tj * nj < lv) = true := by simpa using hx
                      have HPN2 : Hid ((j : Int) = pickK (freeB ts E) (keyR ts 3) (j + 1)) := by show _ = _; rw [HPN.out, if_pos ⟨rfl, .inr (by rw [HKX.out, ← HLP.out]; exact hx)⟩]
                      clear HPN HLP
                      go_wp2
                      go_quiet (fail)
                      go_wp2
                      go_roundw
                      case rel => exact ⟨j + 1, _, j, _, rfl, rfl, by go_num, by omega, HPN2.out, fun _ => HKX.out.symm, rfl⟩
                      case measure => simp [intOf]; omega
                    · have hd2 : decide (-tj * nj < lv) = false := by simpa using hx
                      have HPN2 : Hid (P = pickK (freeB ts E) (keyR ts 3) (j + 1)) := by show _ = _; rw [HPN.out, if_neg (fun h => by rcases h.2 with h | h; exact hP0 h; rw [HKX.out, ← HLP.out] at h; exact hx h)]
                      clear HPN HLP
                      go_wp2
                      go_quiet (fail)
                      go_wp2
                      go_roundw
                      case rel => exact ⟨j + 1, _, P, lv, rfl, rfl, by go_num, by omega, HPN2.out, HLV.out, rfl⟩
                      case measure => simp [intOf]; omega
        · have j1 : ¬ (j : Int) < (T : Int) := by omega
          have HPP := Lib.hid (HRP.out)
          have HPE : Hid (P = pickK (freeB ts E) (keyR ts kind) T) := by have := HP.out; rw [show j = T by omega] at this; exact this
          rw [← HPE.out] at HPP HRX
          obtain ⟨hp0, hp1, _⟩ := HPP.out
          obtain ⟨p, rfl⟩ : ∃ p : Nat, P = p := ⟨P.toNat, by omega⟩
          have hpT : p < T := by omega
          have HQ2 : Hid (RulQ T ts (keyR ts kind) gt N4 l W3 (wr.drewN m) (.slice (some ⟨g, 0, none⟩) l cg)) := ⟨HQ.out.own.drewN m, HQ.out.told.drewN m, below_drewN m HQ.out.bel, HQ.out.sz⟩
          obtain ⟨V, hV⟩ : ∃ V, wr.drewN m = V := ⟨_, rfl⟩
          rw [hV] at HQ2 ⊢
          clear hV HQ HTC HCC HVC HRP HPP HP HLV
          obtain ⟨s1, s2, s3, s4⟩ := HQ2.out.told.store (tkL_len _ _).symm p (by rw [tkL_len]; exact hpT) true
          rw [tkL_at] at s1
          have hgN := HQ2.out.own.lt g rfl
          have hown : OwnI (V.setCell ⟨gt, p, none⟩ (.bool true)) N4 (.slice (some ⟨g, 0, none⟩) l cg) (ruleTo ts (keyR ts kind) l) := HQ2.out.own.kept s4 (.inr (by rw [ownBlock_slice]; intro e; injection e with e; have := HGN.out; omega))
          have HOW := Lib.hid hown
          have HTD : Hid (OwnB (V.setCell ⟨gt, p, none⟩ (.bool true)) W3.heap.size (.slice (some ⟨gt, 0, none⟩) T T) (tkL (ruleTo ts (keyR ts kind) (l + 1)) T)) := by
            show OwnB _ _ _ _
            rw [HRX.out, ← HEE.out, ← tkL_set _ _ _ hpT]
            exact s3
          have HBL : Hid (Below W3.heap.size W3 (V.setCell ⟨gt, p, none⟩ (.bool true))) := HQ2.out.bel.grown s4 HQ2.out.bel.size (fun j e => by cases e; have := HGT.out; omega)
          have HSZ : Hid (N4 ≤ (V.setCell ⟨gt, p, none⟩ (.bool true)).heap.size) := by show _ ≤ _; rw [World.size_setCell]; exact HQ2.out.sz
          obtain ⟨X, hX⟩ : ∃ X, ruleTo ts (keyR ts kind) l = X := ⟨_, rfl⟩
          rw [hX] at s1 HOW
          have HXL : Hid (X.length = l) := by show _ = _; rw [← hX]; exact HRL.out l
          have HXE : Hid (ruleTo ts (keyR ts kind) (l + 1) = X ++ [(p : Int)]) := by show _ = _; rw [HRX.out, ← HEE.out, hX]
          have hX64 : X.length + 1 ≤ 64 := by have := HXL.out; omega
          clear s3 s4 hown hX
          go_upto_region 32 with fail
          obtain ⟨Y, hY⟩ : ∃ Y, V.setCell ⟨gt, p, none⟩ (.bool true) = Y := ⟨_, rfl⟩
          rw [hY] at HOW HTD HBL HSZ ⊢
          clear hY
          go_wp2_with (at_builtin; refine append_i64 rfl _ _ rfl N4 (.slice (some ⟨g, 0, none⟩) l cg) X [(p : Int)] (by simp) rfl _ rfl HOW.out HSZ.out (by simp; omega) ?_; intro g1 c1 w1 ho1 hg1; have HA1 := Lib.hid (And.intro ho1 hg1); clear ho1 hg1)
          go_roundw
          case rel =>
            obtain ⟨ho1, hg1⟩ := HA1.out
            refine ⟨g1, c1, l + 1, _, rfl, by omega, by have := HXL.out; simp; omega, ?_⟩
            refine ⟨by rw [HXE.out]; exact ho1, HTD.out.kept hg1 (.inr (by rw [ownBlock_slice, ownBlock_slice]; intro e; injection e with e; have := HGN.out; omega)), HBL.out.grown hg1 HBL.out.size (fun j e => by rw [ownBlock_slice] at e; injection e with e; have := HGN.out; have := HGT.out; omega), Nat.le_trans HSZ.out hg1.size⟩
          case measure => have := HXL.out; simp [lenV]; omega
    · have k1 : ¬ (l : Int) < (T : Int) := by omega
      obtain rfl : l = T := by omega
      have HFIN : Hid (OwnI wr w.heap.size (.slice (some ⟨g, 0, none⟩) l cg) (ruleN ts kind) ∧ Below w.heap.size w wr) := by
        refine ⟨?_, HB3.out.trans (HQ.out.bel.mono HB3.out.size)⟩
        rw [HRN.out]
        exact HQ.out.own.mono (by have := HGN.out; have := HGT.out; have := HB3.out.size; omega)
      clear HQ
      go_wp2
      go_ret
      exact ⟨⟨g, cg, rfl, HFIN.out.1⟩, HFIN.out.2⟩
end Go.Proofs.Ytcjeededlhdcbaa

namespace Go.Proofs.Ytcjeededlhdcbaa
open Go.RowKit Go.Shelf Go.BigFrame
set_option linter.unusedVariables false
set_option linter.unusedSimpArgs false
attribute [local go_sem] Oper.semAt_some

theorem boxedP_below {W W' : World} {b : Nat} {t : TypeId} {v : Value} (h : Boxed W b t v) (hb : Below W.heap.size W W') : Boxed W' b t v := by
  have h0 : W.heap[b]? = some (.cells #[v] t (0, 0)) := h
  exact (hb.block b (Array.getElem?_eq_some_iff.1 h0).1).trans h0
theorem tkL_unset (E : List Int) (n p : Nat) (h : E.contains (p : Int) = false) : (tkL (E ++ [(p : Int)]) n).set p false = tkL E n := by
  apply List.ext_getElem
  · simp [tkL]
  · intro i h1 h2
    rw [List.getElem_set, tkL_at h2]
    split
    · rename_i e; subst e; exact h.symm
    · rename_i e
      rw [tkL_at]
      have : ¬ ((i : Int) = (p : Int)) := by omega
      simp [this]
theorem GrownL.monoP {gs hs : List Nat} {A W : World} (h : GrownL gs A W) (hh : ∀ i ∈ gs, i ∈ hs) : GrownL hs A W :=
  ⟨h.os, h.tape, h.output, h.size, fun i hi hn => h.block i hi (fun e => hn (hh i e))⟩
theorem GrownL.transP {gs hs : List Nat} {A B C : World} (h : GrownL gs A B) (k : GrownL hs B C) (hh : ∀ i ∈ hs, i ∈ gs ∨ A.heap.size ≤ i) : GrownL gs A C :=
  ⟨k.os.trans h.os, k.tape.trans h.tape, k.output.trans h.output, Nat.le_trans h.size k.size, fun i hi hn => (k.block i (Nat.lt_of_lt_of_le hi h.size) (fun e => by
    rcases hh i e with h1 | h1
    · exact hn h1
    · omega)).trans (h.block i hi hn)⟩
theorem GrownL.ownBP {gs : List Nat} {A W : World} (h : GrownL gs A W) {N g n c : Nat} {ys : List Bool} (ho : OwnB A N (.slice (some ⟨g, 0, none⟩) n c) ys) (hn : g ∉ gs) : OwnB W N (.slice (some ⟨g, 0, none⟩) n c) ys := by
  refine ⟨ho.1, ?_⟩
  rcases ho.2 with h1 | ⟨g', cap, cur, h1, h2, h3, r⟩
  · exact .inl h1
  · refine .inr ⟨g', cap, cur, h1, h2, ?_, r⟩
    obtain ⟨rfl⟩ : g = g' := by simp at h1; exact h1.1
    exact (h.block g (Array.getElem?_eq_some_iff.1 h3).1 hn).trans h3
/-- 'append(s, y)' to a row that has room: block and capacity stay. -/
theorem append_i64S {ops : Array Oper} {rest : List Oper} {o : Oper} {a : Act} {Q : Exit → Act → World → Prop} {W : World} (hgd : o.guard = none) (s x : Operand)
    (ho : o.op = .call { callee := .builtin .append, args := #[s, x], argTypes := #[27, 27] }) (B g n cap : Nat) (xs : List Int) (y : Int)
    (hs : a.eval s = .slice (some ⟨g, 0, none⟩) n cap) (c H : Nat) (hx : a.eval x = .slice (some ⟨H, 0, none⟩) 1 c) (hH : W.heap.size = H) (hn : n = xs.length) (hown : OwnI W B (.slice (some ⟨g, 0, none⟩) n cap) xs) (hroom : n + 1 ≤ cap)
    (hK : ∀ w', OwnI w' B (.slice (some ⟨g, 0, none⟩) (n + 1) cap) (xs ++ [y]) → W.grownBy w' (some g) → wpList Try.prog ops Q rest (a.put o.dst (.slice (some ⟨g, 0, none⟩) (n + 1) cap)) w') :
    wpList Try.prog ops Q (o :: rest) a (W.alloc (.cells #[.int .i64 y] 2)) := by
  subst hn
  subst hH
  obtain ⟨i0, hi, hz0, hz1, hz2⟩ := info_parts info_i64
  refine wpList_append_own_spare _ hgd s x 27 ho B 2 i0 1 Try.underlying27 hi hz1 g xs.length cap _ hs (World.ownsRow.alloc hown _) ⟨W.heap.size, 0, none⟩ 1 c [.int .i64 y] hx rfl (cells_lit W [.int .i64 y] _) ?_ hroom ?_
  · intro u hu; rw [List.mem_singleton] at hu; subst hu; rfl
  · intro w' h1 h2
    refine hK w' (by unfold OwnI; simpa using h1) ⟨h2.os, h2.tape, h2.output, Nat.le_trans (by simp) h2.size, fun k hk hne => (h2.block k (by simp; omega) hne).trans (Below.heap_alloc _ _ _ hk)⟩
/-- What the function that is handed over does. -/
structure DoP (σ : Type) (B n K : Nat) (cap : Array Value) (D P : List Nat) (St : σ → World → Prop) (step : σ → List Int → σ) : Prop where
  call : ∀ s E W g, E.Perm (idL n) → St s W → OwnI W B (.slice (some ⟨g, 0, none⟩) n n) E → Calls Try.prog K (#[.slice (some ⟨g, 0, none⟩) n n] ++ cap) W fun e W' => e = .returned (.tuple #[]) ∧ St (step s E) W' ∧ GrownL D W W'
  kept : ∀ s W W', St s W → GrownL P W W' → St s W'
  enters : Enters Try.prog K
/-- What permute's variables hold. -/
structure PutE (W : World) (B bn bd bo bu bp go gu n : Nat) (p : List Int) (Kv F : Value) : Prop where
  nv : Boxed W bn 3 (.int .i64 n)
  dov : Boxed W bd 136 Kv
  ord : Boxed W bo 27 (.slice (some ⟨go, 0, none⟩) p.length n)
  row : OwnI W B (.slice (some ⟨go, 0, none⟩) p.length n) p
  used : Boxed W bu 73 (.slice (some ⟨gu, 0, none⟩) n n)
  urow : OwnB W B (.slice (some ⟨gu, 0, none⟩) n n) (tkL p n)
  put : Boxed W bp 1 F
theorem PutE.grown {W W' : World} {B bn bd bo bu bp go gu n : Nat} {p : List Int} {Kv F : Value} {L : List Nat} (h : PutE W B bn bd bo bu bp go gu n p Kv F) (hg : GrownL L W W') (h1 : bn ∉ L) (h2 : bd ∉ L) (h3 : bo ∉ L) (h4 : go ∉ L) (h5 : bu ∉ L) (h6 : gu ∉ L) (h7 : bp ∉ L) : PutE W' B bn bd bo bu bp go gu n p Kv F :=
  ⟨hg.boxed h.nv h1, hg.boxed h.dov h2, hg.boxed h.ord h3, hg.own h.row h4, hg.boxed h.used h5, hg.ownBP h.urow h6, hg.boxed h.put h7⟩
def putF (bo bn bd bu bp : Nat) : Value := .func (.func 156) #[] #[.pointer (some ⟨bo, 0, none⟩), .pointer (some ⟨bn, 0, none⟩), .pointer (some ⟨bd, 0, none⟩), .pointer (some ⟨bu, 0, none⟩), .pointer (some ⟨bp, 0, none⟩)]

/-- One number more. -/
theorem PutE.push {wr w2 : World} {B bn bd bo bu bp go gu n m : Nat} {p : List Int} {Kv F : Value} (h : PutE wr B bn bd bo bu bp go gu n p Kv F) (o1 : bn < bd) (o2 : bd < go) (o3 : go < bo) (o4 : bo < gu) (o5 : gu < bu) (o6 : bu < bp) (hm : m < n)
    (ho : OwnI w2 B (.slice (some ⟨go, 0, none⟩) (p.length + 1) n) (p ++ [(m : Int)])) (hg : (wr.setCell ⟨gu, m, none⟩ (.bool true)).grownBy w2 (some go)) :
    w2.cell? ⟨bo, 0, none⟩ = some (.slice (some ⟨go, 0, none⟩) p.length n) ∧ w2.frozen? ⟨bo, 0, none⟩ = false ∧ w2.cell? ⟨bp, 0, none⟩ = some F ∧
      PutE (w2.setCell ⟨bo, 0, none⟩ (.slice (some ⟨go, 0, none⟩) (p.length + 1) n)) B bn bd bo bu bp go gu n (p ++ [(m : Int)]) Kv F ∧ GrownL [go, bo, gu] wr (w2.setCell ⟨bo, 0, none⟩ (.slice (some ⟨go, 0, none⟩) (p.length + 1) n)) := by
  obtain ⟨_, _, s3, _⟩ := h.urow.store (tkL_len p n).symm m (by rw [tkL_len]; exact hm) true
  rw [tkL_set _ _ _ hm] at s3
  have g1 : GrownL [go, gu] wr w2 := ((GrownL.refl _ wr).setCell ⟨gu, m, none⟩ (.bool true) (.inl (by simp))).grown hg (fun j e => .inl (by cases e; simp))
  have gA : GrownL [go] (wr.setCell ⟨gu, m, none⟩ (.bool true)) w2 := (GrownL.refl _ _).grown hg (fun j e => .inl (by cases e; simp))
  have s4 := gA.ownBP s3 (by simp; omega)
  have hb : GrownL [bo] w2 (w2.setCell ⟨bo, 0, none⟩ (.slice (some ⟨go, 0, none⟩) (p.length + 1) n)) := (GrownL.refl _ _).setCell _ _ (.inl (by simp))
  have b1 := g1.boxed h.ord (by simp; omega)
  have b2 := g1.boxed h.put (by simp; omega)
  refine ⟨b1.cell, b1.frozen, b2.cell, ⟨hb.boxed (g1.boxed h.nv (by simp; omega)) (by simp; omega), hb.boxed (g1.boxed h.dov (by simp; omega)) (by simp; omega), ?_, ?_, hb.boxed (g1.boxed h.used (by simp; omega)) (by simp; omega), hb.ownBP s4 (by simp; omega), hb.boxed b2 (by simp; omega)⟩, ?_⟩
  · rw [List.length_append]; exact b1.set _
  · rw [List.length_append]; exact hb.own ho (by simp; omega)
  · exact (g1.monoP (by simp)).setCell _ _ (.inl (by simp))
/-- .. and one less. -/
theorem PutE.pop {W5 : World} {B bn bd bo bu bp go gu n m : Nat} {p : List Int} {Kv F : Value} (h : PutE W5 B bn bd bo bu bp go gu n (p ++ [(m : Int)]) Kv F) (o1 : bn < bd) (o2 : bd < go) (o3 : go < bo) (o4 : bo < gu) (o5 : gu < bu) (o6 : bu < bp) (hm : m < n) (hc : p.contains (m : Int) = false) :
    W5.cell? ⟨bo, 0, none⟩ = some (.slice (some ⟨go, 0, none⟩) (p.length + 1) n) ∧ W5.frozen? ⟨bo, 0, none⟩ = false ∧ W5.cell? ⟨bu, 0, none⟩ = some (.slice (some ⟨gu, 0, none⟩) n n) ∧ (∃ b, W5.cell? ⟨gu, m, none⟩ = some (.bool b)) ∧ W5.frozen? ⟨gu, m, none⟩ = false ∧
      PutE ((W5.setCell ⟨bo, 0, none⟩ (.slice (some ⟨go, 0, none⟩) p.length n)).setCell ⟨gu, m, none⟩ (.bool false)) B bn bd bo bu bp go gu n p Kv F ∧ GrownL [go, bo, gu] W5 ((W5.setCell ⟨bo, 0, none⟩ (.slice (some ⟨go, 0, none⟩) p.length n)).setCell ⟨gu, m, none⟩ (.bool false)) := by
  have hb : GrownL [bo] W5 (W5.setCell ⟨bo, 0, none⟩ (.slice (some ⟨go, 0, none⟩) p.length n)) := (GrownL.refl _ _).setCell _ _ (.inl (by simp))
  have u1 := hb.ownBP h.urow (by simp; omega)
  obtain ⟨_, _, s3, _⟩ := u1.store (tkL_len _ n).symm m (by rw [tkL_len]; exact hm) false
  rw [tkL_unset _ _ _ hc] at s3
  obtain ⟨q1, q2, _, _⟩ := h.urow.store (tkL_len _ n).symm m (by rw [tkL_len]; exact hm) false
  have hu : GrownL [gu] (W5.setCell ⟨bo, 0, none⟩ (.slice (some ⟨go, 0, none⟩) p.length n)) ((W5.setCell ⟨bo, 0, none⟩ (.slice (some ⟨go, 0, none⟩) p.length n)).setCell ⟨gu, m, none⟩ (.bool false)) := (GrownL.refl _ _).setCell _ _ (.inl (by simp))
  have b1 := h.ord
  have r1 := h.row
  rw [List.length_append] at b1 r1
  have r2 := r1.cut p.length (by simp) (by simp)
  rw [List.take_left] at r2
  refine ⟨b1.cell, b1.frozen, h.used.cell, ⟨_, q1⟩, q2, ⟨hu.boxed (hb.boxed h.nv (by simp; omega)) (by simp; omega), hu.boxed (hb.boxed h.dov (by simp; omega)) (by simp; omega), hu.boxed (b1.set _) (by simp; omega), hu.own (hb.own r2 (by simp; omega)) (by simp; omega), hu.boxed (hb.boxed h.used (by simp; omega)) (by simp; omega), s3, hu.boxed (hb.boxed h.put (by simp; omega)) (by simp; omega)⟩, ?_⟩
  exact ((GrownL.refl _ _).setCell _ _ (.inl (by simp))).setCell _ _ (.inl (by simp))
/-- What a round knows. -/
def PutR {σ : Type} (B bn bd bo bu bp go gu n : Nat) (Kv : Value) (D : List Nat) (St : σ → World → Prop) (step : σ → List Int → σ) (d : Nat) (p : List Int) (s : σ) (W : World) (v : Value) (wr : World) : Prop :=
  ∃ m : Nat, m ≤ n ∧ v = .int .i64 m ∧ Hid (St (permTo (permF n step d) p s m) wr) ∧ Hid (PutE wr B bn bd bo bu bp go gu n p Kv (putF bo bn bd bu bp)) ∧ Hid (GrownL (go :: bo :: gu :: D) W wr)
set_option maxRecDepth 100000 in
set_option maxHeartbeats 4000000 in
theorem permPut_any {σ : Type} (n B bn bd bo bu bp go gu K : Nat) (cap : Array Value) (D : List Nat) (St : σ → World → Prop) (step : σ → List Int → σ) (hn : 1 ≤ n) (hn2 : n ≤ 1000000) (hdo : DoP σ B n K cap D [go, bo, gu] St step)
    (o0 : B ≤ bn) (o1 : bn < bd) (o2 : bd < go) (o3 : go < bo) (o4 : bo < gu) (o5 : gu < bu) (o6 : bu < bp) (hD : ∀ i ∈ D, i < bn) : ∀ (d : Nat) (p : List Int), p.length + d = n → PreOk n p → ∀ (W : World) (s : σ),
    St s W → PutE W B bn bd bo bu bp go gu n p (.func (.func K) #[] cap) (putF bo bn bd bu bp) →
    Calls Try.prog 156 #[.pointer (some ⟨bo, 0, none⟩), .pointer (some ⟨bn, 0, none⟩), .pointer (some ⟨bd, 0, none⟩), .pointer (some ⟨bu, 0, none⟩), .pointer (some ⟨bp, 0, none⟩)] W fun e W' => e = .returned (.tuple #[]) ∧ Hid (St (permF n step d p s) W') ∧ Hid (PutE W' B bn bd bo bu bp go gu n p (.func (.func K) #[] cap) (putF bo bn bd bu bp)) ∧ Hid (GrownL (go :: bo :: gu :: D) W W') := by
  have heg := enters_of Try.func156 (by kernel_rfl) rfl
  have hek : ∀ args w, (callFunc K args).run Try.prog w = .ok (.enter K args) w := hdo.enters
  have HDO := Lib.hid hdo
  have HDD := Lib.hid hD
  clear hdo hD
  intro d
  induction d with
  | zero =>
    intro p hp hpre W s hs hE
    have hpn : p.length = n := hp
    have c1 : W.cell? ⟨bo, 0, none⟩ = some (.slice (some ⟨go, 0, none⟩) n n) := by have := hE.ord.cell; rwa [hpn] at this
    have c2 := hE.nv.cell
    have c3 : W.cell? ⟨bd, 0, none⟩ = some (.func (.func K) #[] cap) := hE.dov.cell
    have hrow := hE.row
    rw [hpn] at hrow
    have HC := Lib.hid (HDO.out.call s p W go (hpre.perm hpn) hs hrow)
    have HE := Lib.hid hE
    clear hs hE hrow hpn hp
    go_enter Try.func156, Try.ntmps156
    go_wp2_with fail
    refine HC.out.mono ?_
    rintro e W' ⟨rfl, hs', hg'⟩
    have HS := Lib.hid hs'
    have HG := Lib.hid hg'
    clear hs' hg'
    go_wp2_with fail
    ((try simp only [Exit.inBlock, Exit.then]); refine bodyPost_ret (results_none rfl _ _ _) rfl ?_)
    have hnd : ∀ i, bn ≤ i → i ∉ D := fun i hi e => by have := HDD.out i e; omega
    exact ⟨rfl, HS.out, HE.out.grown HG.out (hnd _ (by omega)) (hnd _ (by omega)) (hnd _ (by omega)) (hnd _ (by omega)) (hnd _ (by omega)) (hnd _ (by omega)) (hnd _ (by omega)), HG.out.monoP (by simp_all)⟩
  | succ d ih =>
    intro p hp hpre W s hs hE
    obtain ⟨L, hL⟩ : ∃ L, p.length = L := ⟨_, rfl⟩
    have HL := Lib.hid hL
    have hLn : L < n := by omega
    have l0 : (0 : Int) ≤ (L : Int) := by omega
    have hne : ((L : Int) == (n : Int)) = false := by simp; omega
    have c1 := hE.ord.cell
    rw [hL] at c1
    have c2 := hE.nv.cell
    have HPR := Lib.hid hpre
    have HR0 : Hid (PutR B bn bd bo bu bp go gu n (.func (.func K) #[] cap) D St step d p s W (.int .i64 0) W) := ⟨0, Nat.zero_le _, rfl, hs, hE, GrownL.refl _ _⟩
    have HIH := Lib.hid ih
    have HLD : Hid (L + (d + 1) = n) := by show _ = _; omega
    clear hs hE hp hpre ih hL
    go_enter Try.func156, Try.ntmps156
    go_wp2_with fail
    go_loopw [14] (fun v wr => PutR B bn bd bo bu bp go gu n (.func (.func K) #[] cap) D St step d p s W v wr) (fun v _ => n - (intOf v).toNat)
    case atStart => exact HR0.out
    case round =>
      obtain ⟨m, hm, rfl, HS, HE, HG⟩ := hrel
      clear HR0 c1 c2 hne
      by_cases hmn : m < n
      · have m0 : (0 : Int) ≤ (m : Int) := by omega
        have m1 : (m : Int) < (n : Int) := by omega
        have u1 := HE.out.used.cell
        obtain ⟨s1, s2, _, _⟩ := HE.out.urow.store (tkL_len p n).symm m (by rw [tkL_len]; exact hmn) true
        rw [tkL_at] at s1
        have hnext := permTo_succ (permF n step d) p s m
        cases hc : p.contains (m : Int)
        · rw [hc] at s1 hnext
          rw [if_neg (by simp)] at hnext
          have HNX := Lib.hid hnext
          have HC := Lib.hid hc
          have c1 := HE.out.ord.cell
          rw [HL.out] at c1
          have HO : Hid (OwnI (wr.setCell ⟨gu, m, none⟩ (.bool true)) B (.slice (some ⟨go, 0, none⟩) L n) p) := by
            have h1 := HE.out.row
            rw [HL.out] at h1
            exact ((GrownL.refl [gu] wr).setCell ⟨gu, m, none⟩ (.bool true) (.inl (by simp))).own h1 (by simp; omega)
          have HPU : Hid (∀ w2, OwnI w2 B (.slice (some ⟨go, 0, none⟩) (L + 1) n) (p ++ [(m : Int)]) → (wr.setCell ⟨gu, m, none⟩ (.bool true)).grownBy w2 (some go) → _) := fun w2 h1 h2 => by
            have := HE.out.push (w2 := w2) (m := m) o1 o2 o3 o4 o5 o6 hmn (by rw [HL.out]; exact h1) h2
            rw [HL.out] at this
            exact this
          clear hnext hc
          go_wp2_with (first
            | (at_builtin; refine append_i64S rfl _ _ rfl B go L n p (m : Int) rfl _ wr.heap.size rfl (by simp) HL.out.symm HO.out hLn ?_; intro w2 ho2 hg2; obtain ⟨d1, d2, d3, d4, d5⟩ := HPU.out w2 ho2 hg2; unfold putF at d3; have HE4 := Lib.hid d4; have HG4 := Lib.hid d5; clear ho2 hg2 d4 d5)
            | (go_at_call 156; refine (HIH.out (p ++ [(m : Int)]) (by rw [List.length_append, HL.out]; have := HLD.out; simp; omega) (HPR.out.push hmn HC.out) _ _ (HDO.out.kept _ _ _ HS.out HG4.out) HE4.out).mono ?_; rintro e W5 ⟨rfl, HS5, HE5, HG5⟩; obtain ⟨f1, f2, f3, ⟨bx, f4⟩, f5, f6, f7⟩ := HE5.out.pop o1 o2 o3 o4 o5 o6 hmn HC.out; rw [HL.out] at f1 f6 f7; have HE6 := Lib.hid f6; have HG6 := Lib.hid f7; clear f6 f7))
          go_roundw
          case rel =>
            refine ⟨m + 1, by omega, by go_num, ?_, HE6.out, ?_⟩
            · show St _ _
              rw [HNX.out]
              exact HDO.out.kept _ _ _ HS5.out HG6.out
            · exact ((HG.out.trans (HG4.out.monoP (by simp_all))).trans HG5.out).trans (HG6.out.monoP (by simp_all))
          case measure => simp [intOf]; omega
        · rw [hc] at s1 hnext
          rw [if_pos rfl] at hnext
          have HNX := Lib.hid hnext
          clear hnext hc
          go_wp2_with fail
          go_roundw
          case rel => exact ⟨m + 1, by omega, by go_num, by show St _ _; rw [HNX.out]; exact HS.out, HE.out, HG.out⟩
          case measure => simp [intOf]; omega
      · obtain rfl : m = n := by omega
        go_wp2_with fail
        go_end0
        exact ⟨rfl, HS.out, HE.out, HG.out⟩
end Go.Proofs.Ytcjeededlhdcbaa

namespace Go.Proofs.Ytcjeededlhdcbaa
open Go.RowKit Go.Shelf Go.BigFrame
set_option linter.unusedVariables false
set_option linter.unusedSimpArgs false
attribute [local go_sem] Oper.semAt_some

theorem permStart {w w2 w4 : World} {n K : Nat} {cap : Array Value} (h2 : OwnI w2 w.heap.size (.slice (some ⟨w.heap.size + 1 + 1, 0, none⟩) 0 n) [])
    (b2 : Below (w.heap.size + 1 + 1) ((w.alloc (.cells #[.int .i64 n] 3)).alloc (.cells #[.func (.func K) #[] cap] 136)) w2)
    (h4 : OwnB w4 w.heap.size (.slice (some ⟨w2.heap.size + 1, 0, none⟩) n n) (List.replicate n false))
    (b4 : Below (w2.heap.size + 1) (w2.alloc (.cells #[.slice (some ⟨w.heap.size + 1 + 1, 0, none⟩) 0 n] 27)) w4) :
    PutE ((w4.alloc (.cells #[.slice (some ⟨w2.heap.size + 1, 0, none⟩) n n] 73)).alloc (.cells #[putF w2.heap.size w.heap.size (w.heap.size + 1) w4.heap.size (w4.heap.size + 1)] 1)) w.heap.size w.heap.size (w.heap.size + 1) w2.heap.size w4.heap.size (w4.heap.size + 1) (w.heap.size + 1 + 1) (w2.heap.size + 1) n [] (.func (.func K) #[] cap) (putF w2.heap.size w.heap.size (w.heap.size + 1) w4.heap.size (w4.heap.size + 1))
      ∧ Below w.heap.size w ((w4.alloc (.cells #[.slice (some ⟨w2.heap.size + 1, 0, none⟩) n n] 73)).alloc (.cells #[putF w2.heap.size w.heap.size (w.heap.size + 1) w4.heap.size (w4.heap.size + 1)] 1))
      ∧ w.heap.size + 1 + 1 < w2.heap.size ∧ w2.heap.size + 1 < w4.heap.size := by
  have l2 : w.heap.size ≤ w.heap.size + 1 + 1 ∧ w.heap.size + 1 + 1 < w2.heap.size := h2.lt _ rfl
  have l4 : w.heap.size ≤ w2.heap.size + 1 ∧ w2.heap.size + 1 < w4.heap.size := h4.lt _ rfl
  have bA : Below w4.heap.size w4 ((w4.alloc (.cells #[.slice (some ⟨w2.heap.size + 1, 0, none⟩) n n] 73)).alloc (.cells #[putF w2.heap.size w.heap.size (w.heap.size + 1) w4.heap.size (w4.heap.size + 1)] 1)) := ((Below.refl _ _).alloc (Nat.le_refl _) _).alloc (by simp) _
  have b0 : Below w.heap.size w ((w.alloc (.cells #[.int .i64 n] 3)).alloc (.cells #[.func (.func K) #[] cap] 136)) := ((Below.refl _ _).alloc (Nat.le_refl _) _).alloc (by simp) _
  have b3 : Below w2.heap.size w2 (w2.alloc (.cells #[.slice (some ⟨w.heap.size + 1 + 1, 0, none⟩) 0 n] 27)) := (Below.refl _ _).alloc (Nat.le_refl _) _
  have e4 : Below w2.heap.size w2 w4 := b3.trans (b4.mono (by omega))
  have eA := e4.trans (bA.mono (by omega))
  have e2 : Below (w.heap.size + 1 + 1) ((w.alloc (.cells #[.int .i64 n] 3)).alloc (.cells #[.func (.func K) #[] cap] 136)) ((w4.alloc (.cells #[.slice (some ⟨w2.heap.size + 1, 0, none⟩) n n] 73)).alloc (.cells #[putF w2.heap.size w.heap.size (w.heap.size + 1) w4.heap.size (w4.heap.size + 1)] 1)) := b2.trans (eA.mono (by omega))
  have n0 : Boxed ((w.alloc (.cells #[.int .i64 n] 3)).alloc (.cells #[.func (.func K) #[] cap] 136)) w.heap.size 3 (.int .i64 n) := (Boxed.new w _ _).alloc _
  have n1 : Boxed ((w.alloc (.cells #[.int .i64 n] 3)).alloc (.cells #[.func (.func K) #[] cap] 136)) (w.heap.size + 1) 136 (.func (.func K) #[] cap) := by
    have := Boxed.new (w.alloc (.cells #[.int .i64 n] 3)) 136 (.func (.func K) #[] cap)
    rwa [World.size_alloc] at this
  have n2 : Boxed (w2.alloc (.cells #[.slice (some ⟨w.heap.size + 1 + 1, 0, none⟩) 0 n] 27)) w2.heap.size 27 (.slice (some ⟨w.heap.size + 1 + 1, 0, none⟩) 0 n) := Boxed.new _ _ _
  have n3 : Boxed ((w4.alloc (.cells #[.slice (some ⟨w2.heap.size + 1, 0, none⟩) n n] 73)).alloc (.cells #[putF w2.heap.size w.heap.size (w.heap.size + 1) w4.heap.size (w4.heap.size + 1)] 1)) w4.heap.size 73 (.slice (some ⟨w2.heap.size + 1, 0, none⟩) n n) := (Boxed.new _ _ _).alloc _
  have n4 : Boxed ((w4.alloc (.cells #[.slice (some ⟨w2.heap.size + 1, 0, none⟩) n n] 73)).alloc (.cells #[putF w2.heap.size w.heap.size (w.heap.size + 1) w4.heap.size (w4.heap.size + 1)] 1)) (w4.heap.size + 1) 1 (putF w2.heap.size w.heap.size (w.heap.size + 1) w4.heap.size (w4.heap.size + 1)) := by
    have := Boxed.new (w4.alloc (.cells #[.slice (some ⟨w2.heap.size + 1, 0, none⟩) n n] 73)) 1 (putF w2.heap.size w.heap.size (w.heap.size + 1) w4.heap.size (w4.heap.size + 1))
    rwa [World.size_alloc] at this
  have k2 : Boxed w4 w2.heap.size 27 (.slice (some ⟨w.heap.size + 1 + 1, 0, none⟩) 0 n) := (b4.block _ (by omega)).trans n2
  refine ⟨⟨(e2.block _ (by omega)).trans n0, (e2.block _ (by omega)).trans n1, boxedP_below k2 bA, h2.below eA (Nat.le_refl _), n3, ?_, n4⟩, b0.trans (e2.mono (by omega)), l2.2, l4.2⟩
  rw [tkL_nil]
  refine ⟨h4.1, ?_⟩
  exact (((h4.alloc _).alloc _)).2
theorem permMade2 {w w2 : World} {n K : Nat} {cap : Array Value} (hown2 : w2.ownsRow w.heap.size 2 1 (.slice (some ⟨((w.alloc (.cells #[.int .i64 n] 3)).alloc (.cells #[.func (.func K) #[] cap] 136)).heap.size, 0, none⟩) 0 n) 0 [])
    (hgrow2 : ((w.alloc (.cells #[.int .i64 n] 3)).alloc (.cells #[.func (.func K) #[] cap] 136)).grownBy w2 none) :
    Hid (OwnI w2 w.heap.size (.slice (some ⟨w.heap.size + 1 + 1, 0, none⟩) 0 n) []) ∧ Hid (Below (w.heap.size + 1 + 1) ((w.alloc (.cells #[.int .i64 n] 3)).alloc (.cells #[.func (.func K) #[] cap] 136)) w2) ∧
      (∀ ob, (w2.alloc ob).cell? ⟨w.heap.size, 0, none⟩ = some (.int .i64 n)) ∧ w.heap.size + 1 + 1 ≤ w2.heap.size := by
  have hb : Below (w.heap.size + 1 + 1) ((w.alloc (.cells #[.int .i64 n] 3)).alloc (.cells #[.func (.func K) #[] cap] 136)) w2 := (Below.refl _ _).grown hgrow2 (by simp) (fun k e => by cases e)
  have h := hown2
  simp only [World.size_alloc] at h
  have hx : Boxed w2 w.heap.size 3 (.int .i64 n) := (hb.block _ (by omega)).trans ((Boxed.new w 3 (.int .i64 n)).alloc _)
  exact ⟨h, hb, fun ob => (hx.alloc ob).cell, by have := hb.size; simpa using this⟩
theorem permMade4 {w w2 w4 : World} {n : Nat} {go : Value} (hown4 : w4.ownsRow w.heap.size 4 1 (.slice (some ⟨(w2.alloc (.cells #[go] 27)).heap.size, 0, none⟩) n n) n (madeCells (Value.bool false).cells (n * 1)).toList)
    (hgrow4 : (w2.alloc (.cells #[go] 27)).grownBy w4 none) :
    Hid (OwnB w4 w.heap.size (.slice (some ⟨w2.heap.size + 1, 0, none⟩) n n) (List.replicate n false)) ∧ Hid (Below (w2.heap.size + 1) (w2.alloc (.cells #[go] 27)) w4) := by
  have h := OwnB.made hown4
  simp only [World.size_alloc] at h
  exact ⟨h, (Below.refl _ _).grown hgrow4 (by simp) (fun k e => by cases e)⟩
set_option maxRecDepth 100000 in
set_option maxHeartbeats 2000000 in
theorem permute_any {σ : Type} (n K : Nat) (cap : Array Value) (D : List Nat) (St : Nat → σ → World → Prop) (step : σ → List Int → σ) (hn : 1 ≤ n) (hn2 : n ≤ 1000000) (w : World)
    (hdo : ∀ P B1, (∀ i ∈ P, w.heap.size ≤ i ∧ i < B1) → DoP σ w.heap.size n K cap D P (St B1) step) (hD : ∀ i ∈ D, i < w.heap.size) (s : σ) (hs : ∀ B1 W', Below w.heap.size w W' → B1 ≤ W'.heap.size → St B1 s W') :
    Calls Try.prog 125 #[.int .i64 n, .func (.func K) #[] cap] w fun e w' => e = .returned (.tuple #[]) ∧ (∃ B1, w.heap.size ≤ B1 ∧ St B1 (permF n step n [] s) w') ∧ GrownL D w w' := by
  have hmf : ∀ (fn : Fn) (first cap : Array Value) (w : World), (Instr.makeFunc fn first cap).run Try.prog w = .ok (.func fn first cap) w := fun _ _ _ _ => rfl
  have heg := enters_of Try.func156 (by kernel_rfl) rfl
  obtain ⟨i0, hi, hz0, hz1, hz2⟩ := info_parts info_i64
  obtain ⟨j0, hj, jz0, jz1, jz2⟩ := info_parts info_bool
  have HDO := Lib.hid hdo
  have HDD := Lib.hid hD
  have HS := Lib.hid hs
  clear hdo hD hs
  go_enter Try.func125, Try.ntmps125
  go_upto_region 3 with (first
    | (at_make; refine wpList_make_own _ rfl _ _ 27 rfl w.heap.size 2 i0 (.int .i64 0) 1 Try.underlying27 hi hz0 hz1 _ _ _ n rfl rfl rfl (by rw [hz2]; omega) (by unfold maxLen; omega) (by simp; omega) ?_; intro w2 hown2 hgrow2; obtain ⟨HO2, HB2, hbn2, hs2⟩ := permMade2 hown2 hgrow2; clear hown2 hgrow2)
    | (at_make; refine wpList_make_full _ rfl _ _ 73 rfl w.heap.size 4 j0 (.bool false) 1 Try.underlying73 hj jz0 jz1 _ _ _ _ n rfl rfl rfl rfl (by rw [jz2]; omega) (by unfold maxLen; omega) (by simp; omega) ?_; intro w4 hown4 hgrow4; obtain ⟨HO4, HB4⟩ := permMade4 hown4 hgrow4; clear hown4 hgrow4))
  obtain ⟨W5, hW5⟩ : ∃ W, w4.alloc (.cells #[.slice (some ⟨w2.heap.size + 1, 0, none⟩) n n] 73) = W := ⟨_, rfl⟩
  have HW5 := Lib.hid hW5
  have HZ5 : Hid (W5.heap.size = w4.heap.size + 1) := by show _ = _; rw [← hW5]; simp
  rw [hW5]
  clear hW5
  go_wp2_with fail
  obtain ⟨hE, hB, l2, l4⟩ := permStart HO2.out HB2.out HO4.out HB4.out (cap := cap) (K := K)
  rw [HW5.out, ← HZ5.out] at hE hB
  have hP : ∀ i ∈ [w.heap.size + 1 + 1, w2.heap.size, w2.heap.size + 1], w.heap.size ≤ i ∧ i < w4.heap.size := fun i hi => by
    simp at hi; omega
  have hd := HDO.out [w.heap.size + 1 + 1, w2.heap.size, w2.heap.size + 1] w4.heap.size hP
  have hS := HS.out w4.heap.size _ hB (by have := HZ5.out; simp; omega)
  have HG : Hid (GrownL D w (W5.alloc (.cells #[putF w2.heap.size w.heap.size (w.heap.size + 1) w4.heap.size W5.heap.size] 1))) := (GrownL.refl D w).below hB (Nat.le_refl _)
  refine (permPut_any n w.heap.size w.heap.size (w.heap.size + 1) w2.heap.size w4.heap.size W5.heap.size (w.heap.size + 1 + 1) (w2.heap.size + 1) K cap D (St w4.heap.size) step hn hn2 hd (Nat.le_refl _) (by omega) (by omega) (by omega) (by omega) (by omega) (by have := HZ5.out; omega) HDD.out n [] (by simp) (PreOk.nil n) _ s hS hE).mono ?_
  rintro e W5 ⟨rfl, HS5, _, HG5⟩
  have HG6 : Hid (GrownL D w W5) := HG.out.transP HG5.out (fun i hi => by
    simp only [List.mem_cons] at hi
    rcases hi with e | e | e | e
    · exact .inr (by omega)
    · exact .inr (by omega)
    · exact .inr (by omega)
    · exact .inl e)
  clear hE hB hd hS HG5 HG
  go_wp2
  go_end0
  exact ⟨rfl, ⟨_, by omega, HS5.out⟩, HG6.out⟩
end Go.Proofs.Ytcjeededlhdcbaa
