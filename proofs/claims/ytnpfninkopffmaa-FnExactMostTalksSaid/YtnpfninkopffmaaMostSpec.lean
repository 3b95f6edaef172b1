
/- spec.MostTalks. Conditions: none. -/
import Derived.Test.YtnpfninkopffmaaMostImpl
namespace Go.Proofs.Ytnpfninkopffmaa
open Go.RowKit Go.Shelf
set_option linter.unusedVariables false
set_option linter.unusedSimpArgs false

def lenV : Value → Nat
  | .slice _ n _ => n
  | _ => 0
/-- One test of freedom. -/
def freeK (xs : List Int) (i : Nat) (k : Int) : Bool := !(decide ((i : Int) = k) || meetB xs i k.toNat)
theorem freeS_eq (xs out : List Int) (i : Nat) : freeS xs out i = out.all (freeK xs i) := rfl
theorem take_all {α : Type} (p : α → Bool) (l : List α) (k : Nat) (h : k < l.length) : (l.take (k + 1)).all p = ((l.take k).all p && p l[k]) := by
  rw [List.take_succ_eq_append_getElem h, List.all_append]; simp
/-- The rounds of spec.MostTalks. -/
def HeardO (N n : Nat) (xs : List Int) (w : World) (vo : Value) (wr : World) : Prop :=
  ∃ (g c l : Nat) (out : List Int), vo = .slice (some ⟨g, 0, none⟩) l c ∧ l ≤ n ∧ Hid (l = out.length) ∧ Hid (OwnI wr N (.slice (some ⟨g, 0, none⟩) l c) out) ∧ Hid (Below N w wr) ∧ Hid (∀ x ∈ out, 0 ≤ x ∧ x < (n : Int)) ∧ Hid (heardN xs n (n - l) out = heardL xs ∧ cntF xs n out ≤ n - l)
def HeardI (n : Nat) (xs out : List Int) (w : World) (vb vi : Value) (wr : World) : Prop :=
  ∃ (i : Nat) (P : Int), vb = .int .i64 P ∧ vi = .int .i64 i ∧ i ≤ n ∧ Hid (P = pickK (freeS xs out) (endOf xs) i) ∧ Hid (Below w.heap.size w wr)
def HeardF (xs out : List Int) (i : Nat) (w : World) (vf vk : Value) (wr : World) : Prop :=
  ∃ (k : Nat) (F : Bool), vf = .bool F ∧ vk = .int .i64 k ∧ k ≤ out.length ∧ Hid (F = (out.take k).all (freeK xs i)) ∧ Hid (Below w.heap.size w wr)

set_option maxRecDepth 100000 in
set_option maxHeartbeats 4000000 in
theorem specMost_any (v : Value) (xs : List Int) (w : World) (hv : Ints w v xs) (hwf : ∀ n ∈ xs, (Lit.int .i64 n).wf = true) :
    Calls Try.prog 15 #[v] w fun e w' => (∃ u, e = .returned (.tuple #[u, .bool (talksOk xs)]) ∧ OwnI w' w.heap.size u (mostR xs)) ∧ Below w.heap.size w w' := by
  obtain ⟨hm, a, c, hvv, hcap, hcz⟩ := id hv
  subst hvv
  have HV := Lib.hid hv
  have HT := Lib.hid (specTalks_any (.slice a xs.length c) xs w hv hwf)
  obtain ⟨bt, ot, hat, hbt, hct⟩ := row_at hcz
  have HCT : Hid (∀ j, j < xs.length → w.cell? ⟨bt, ot + j, none⟩ = some (.int .i64 (nth xs j))) := fun j hj => by rw [nth_eq hj]; exact hct j hj
  clear hcz hv hct hwf
  go_enter Try.func15, Try.ntmps15
  go_wp2_with fail
  refine HT.out.mono ?_
  rintro e W1 ⟨rfl, hb⟩
  have HB1 := Lib.hid hb
  clear hb HT
  cases hok : talksOk xs
  · have HN : Hid (OwnI W1 w.heap.size (.slice none 0 0) (mostR xs)) := by show OwnI _ _ _ _; unfold mostR; rw [hok]; exact ⟨rfl, .inl ⟨rfl, rfl⟩⟩
    go_wp2
    go_ret2
    exact ⟨⟨_, by rw [hok]; rfl, HN.out⟩, HB1.out⟩
  · have h2 : 2 ≤ xs.length ∧ xs.length ≤ 64 := by
      have h := hok
      simp only [talksOk, talksHead, Bool.and_eq_true] at h
      have := many_true.1 h.1.1
      omega
    obtain rfl := hat (by omega)
    have hbt := hbt (by omega)
    obtain ⟨n, hn⟩ : ∃ n, xs.length / 2 = n := ⟨_, rfl⟩
    have hnI : (xs.length : Int) / 2 = (n : Int) := by omega
    have hnI2 : (xs.length : Int).tdiv 2 = (n : Int) := by rw [Int.tdiv_eq_ediv_of_nonneg (by omega)]; exact hnI
    have hn32 : n ≤ 32 := by omega
    have hLen : xs.length ≤ 64 := h2.2
    have HLEN : Hid (2 * n ≤ xs.length ∧ xs.length / 2 = n) := by show _ ∧ _; omega
    have HHL : Hid (heardN xs n n [] = heardL xs) := by show _ = _; unfold heardL; rw [hn]
    clear h2 hn
    obtain ⟨W2, hW2⟩ : ∃ W, W1.alloc (.cells #[] 2) = W := ⟨_, rfl⟩
    have HR0 : Hid (HeardO w.heap.size n xs w (.slice (some ⟨W1.heap.size, 0, none⟩) 0 0) W2) := by
      show HeardO _ _ _ _ _ _
      rw [← hW2]
      exact ⟨W1.heap.size, 0, 0, [], rfl, Nat.zero_le _, rfl, OwnI.lit W1 w.heap.size [] HB1.out.size (Nat.zero_le _), HB1.out.trans ((Below.refl _ W1).alloc HB1.out.size _), (fun x hx => by cases hx), HHL.out, cntF_nil _ _⟩
    clear HB1 HHL
    go_wp2
    go_loopw [5] (fun vo wr => HeardO w.heap.size n xs w vo wr) (fun vo _ => n - lenV vo)
    case atStart => exact HR0.out
    case round =>
      obtain ⟨g, cg, l, out, rfl, hln, HL, HO, HB, HM, HF⟩ := hrel
      clear HR0 hW2
      have hl1 : l ≤ out.length := by have := HL.out; omega
      have hl2 : out.length ≤ l := by have := HL.out; omega
      obtain ⟨Wo, hWo⟩ : ∃ W : World, W = wr := ⟨_, rfl⟩
      subst hWo
      go_wp2
      go_loopw [6, 7] (fun vb vi wi => HeardI n xs out Wo vb vi wi) (fun _ vi _ => n - (intOf vi).toNat)
      case atStart => exact ⟨0, -1, rfl, rfl, Nat.zero_le _, rfl, Below.refl _ _⟩
      case round =>
        obtain ⟨i, P, rfl, rfl, hin, HP, HBi⟩ := hrel
        by_cases hi : i < n
        · have i1 : (i : Int) < (n : Int) := by omega
          obtain ⟨Wi, hWi⟩ : ∃ W : World, W = wr := ⟨_, rfl⟩
          subst hWi
          go_wp2
          go_loopw [8, 24] (fun vf vk wk => HeardF xs out i Wi vf vk wk) (fun _ vk _ => out.length - (intOf vk).toNat)
          case atStart => exact ⟨0, true, rfl, rfl, Nat.zero_le _, rfl, Below.refl _ _⟩
          case round =>
            obtain ⟨k, F, rfl, rfl, hk, HFF, HBk⟩ := hrel
            have hBB : Hid (Below Wo.heap.size Wo wr ∧ Below w.heap.size w wr) := by
              have h1 := HBi.out.trans (HBk.out.mono HBi.out.size)
              exact ⟨h1, HB.out.trans (h1.mono HB.out.size)⟩
            by_cases hkl : k < l
            · have k1 : (k : Int) < (l : Int) := by omega
              have k0 : (0 : Int) ≤ (k : Int) := by omega
              have ck := (HO.out.below hBB.out.1 (Nat.le_refl _)).at_ HL.out k (by omega)
              obtain ⟨y, hy⟩ : ∃ y, nth out k = y := ⟨_, rfl⟩
              rw [hy] at ck
              have hyM : 0 ≤ y ∧ y < (n : Int) := HM.out y (by rw [← hy]; exact nth_mem (by omega))
              have HFS : Hid ((out.take (k + 1)).all (freeK xs i) = (F && freeK xs i y)) := by
                show _ = _
                rw [take_all _ _ _ (by omega), ← HFF.out, ← nth_eq, hy]
              have HC := Lib.hid (l07Meet_any (.slice (some ⟨bt, ot, none⟩) xs.length c) xs i y.toNat wr (HV.out.below hBB.out.2 (Nat.le_refl _)) (by have := HLEN.out; omega) (by have := HLEN.out; omega) hLen i y (by show _ = _; rfl) (by show _ = _; omega))
              clear hy
              by_cases hey : (i : Int) = y
              · have hd : ((i : Int) == y) = true := by simpa using hey
                have HFQ : Hid (freeK xs i y = false) := by show _ = _; unfold freeK; rw [decide_eq_true hey]; rfl
                have HEY := Lib.hid hey
                clear hey HC
                go_wp2
                go_roundw
                case rel => exact ⟨k + 1, false, rfl, by go_num, by omega, by show _ = _; rw [HFS.out, HFQ.out, Bool.and_false], HBk.out⟩
                case measure => simp [intOf]; omega
              · have hd : ((i : Int) == y) = false := by simpa using hey
                have HFQ : Hid (freeK xs i y = !(meetB xs i y.toNat)) := by show _ = _; unfold freeK; rw [decide_eq_false hey]; rfl
                clear hey
                cases hmt : meetB xs i y.toNat
                · rw [hmt] at HC HFQ
                  go_wp2_with (go_at_call 59; refine HC.out.mono ?_; rintro e w' ⟨rfl, qq, rfl⟩)
                  go_roundw
                  case rel => exact ⟨k + 1, F, rfl, by go_num, by omega, by show _ = _; rw [HFS.out, HFQ.out]; simp, below_drewN _ HBk.out⟩
                  case measure => simp [intOf]; omega
                · rw [hmt] at HC HFQ
                  go_wp2_with (go_at_call 59; refine HC.out.mono ?_; rintro e w' ⟨rfl, qq, rfl⟩)
                  go_roundw
                  case rel => exact ⟨k + 1, false, rfl, by go_num, by omega, by show _ = _; rw [HFS.out, HFQ.out]; simp, below_drewN _ HBk.out⟩
                  case measure => simp [intOf]; omega
            · have k1 : ¬ (k : Int) < (l : Int) := by omega
              have HFR : Hid (F = freeS xs out i) := by show _ = _; rw [freeS_eq, HFF.out, List.take_of_length_le (by omega)]
              have HBW : Hid (Below Wo.heap.size Wo wr) := hBB.out.1
              have HPN : Hid (pickK (freeS xs out) (endOf xs) (i + 1) = if F = true ∧ (P < 0 ∨ endOf xs i < endOf xs P) then (i : Int) else P) := by show _ = _; rw [HFR.out, HP.out]; rfl
              have hPb : P < (i : Int) + 1 ∧ -1 ≤ P := by
                rw [HP.out]
                rcases pickK_spec (freeS xs out) (endOf xs) i with ⟨h, _⟩ | ⟨h1, h2, _⟩ <;> omega
              cases F
              · have HPN2 : Hid (P = pickK (freeS xs out) (endOf xs) (i + 1)) := by show _ = _; rw [HPN.out, if_neg (by simp)]
                clear HPN HP
                go_wp2
                go_quiet (fail)
                go_wp2
                go_roundw
                case rel => exact ⟨i + 1, P, rfl, by go_num, by omega, HPN2.out, below_drewN _ HBW.out⟩
                case measure => simp [intOf]; omega
              · by_cases hP0 : P < 0
                · have hd : decide (P < 0) = true := by simpa using hP0
                  have HPN2 : Hid ((i : Int) = pickK (freeS xs out) (endOf xs) (i + 1)) := by show _ = _; rw [HPN.out, if_pos ⟨rfl, .inl hP0⟩]
                  clear HPN HP
                  go_wp2
                  go_quiet (fail)
                  go_wp2
                  go_roundw
                  case rel => exact ⟨i + 1, i, rfl, by go_num, by omega, HPN2.out, below_drewN _ HBW.out⟩
                  case measure => simp [intOf]; omega
                · have hd : decide (P < 0) = false := by simpa using hP0
                  obtain ⟨p, rfl⟩ : ∃ p : Nat, P = p := ⟨P.toNat, by omega⟩
                  have hlen := HLEN.out
                  obtain ⟨I, hI⟩ : ∃ I, 2 * i + 1 = I := ⟨_, rfl⟩
                  obtain ⟨J, hJ⟩ : ∃ J, 2 * p + 1 = J := ⟨_, rfl⟩
                  have cI := hBB.out.2.cell (p := ⟨bt, ot + I, none⟩) hbt |>.trans (HCT.out I (by omega))
                  have cJ := hBB.out.2.cell (p := ⟨bt, ot + J, none⟩) hbt |>.trans (HCT.out J (by omega))
                  have hPN := HPN.out
                  rw [show endOf xs (i : Int) = nth xs (2 * i + 1) from by unfold endOf; rw [Int.toNat_natCast], show endOf xs (p : Int) = nth xs (2 * p + 1) from by unfold endOf; rw [Int.toNat_natCast], hI, hJ] at hPN
                  have HPN := Lib.hid hPN
                  obtain ⟨A, hA⟩ : ∃ A, nth xs I = A := ⟨_, rfl⟩
                  obtain ⟨B, hB⟩ : ∃ B, nth xs J = B := ⟨_, rfl⟩
                  rw [hA] at cI HPN
                  rw [hB] at cJ HPN
                  have II : 2 * (i : Int) + 1 = (I : Int) := by omega
                  have JJ : 2 * (p : Int) + 1 = (J : Int) := by omega
                  have wI : IntKind.i64.wrap (2 * (i : Int) + 1) = (I : Int) := by rw [II]; exact IntWalk.i64_in _ (by omega)
                  have wJ : IntKind.i64.wrap (2 * (p : Int) + 1) = (J : Int) := by rw [JJ]; exact IntWalk.i64_in _ (by omega)
                  have I0 : (0 : Int) ≤ (I : Int) := by omega
                  have J0 : (0 : Int) ≤ (J : Int) := by omega
                  have I1 : (I : Int) < (xs.length : Int) := by omega
                  have J1 : (J : Int) < (xs.length : Int) := by omega
                  have HPE := Lib.hid hPb
                  clear hI hJ hlen hA hB hPN hPb HP hP0
                  by_cases hAB : A < B
                  · have hd2 : decide (A < B) = true := by simpa using hAB
                    have HPN2 : Hid ((i : Int) = pickK (freeS xs out) (endOf xs) (i + 1)) := by show _ = _; rw [HPN.out, if_pos ⟨rfl, .inr hAB⟩]
                    clear HPN
                    go_wp2
                    go_quiet (fail)
                    go_wp2
                    go_roundw
                    case rel => exact ⟨i + 1, i, rfl, by go_num, by omega, HPN2.out, below_drewN _ HBW.out⟩
                    case measure => simp [intOf]; omega
                  · have hd2 : decide (A < B) = false := by simpa using hAB
                    have HPN2 : Hid ((p : Int) = pickK (freeS xs out) (endOf xs) (i + 1)) := by show _ = _; rw [HPN.out, if_neg (fun h => by rcases h.2 with h | h; omega; exact hAB h)]
                    clear HPN
                    go_wp2
                    go_quiet (fail)
                    go_wp2
                    go_roundw
                    case rel => exact ⟨i + 1, p, rfl, by go_num, by omega, HPN2.out, below_drewN _ HBW.out⟩
                    case measure => simp [intOf]; omega
        · have i1 : ¬ (i : Int) < (n : Int) := by omega
          have HPn : Hid (P = pickK (freeS xs out) (endOf xs) n) := by show _ = _; rw [HP.out]; congr 1; omega
          have hB2 : Hid (Below w.heap.size w wr) := HB.out.trans (HBi.out.mono HB.out.size)
          have HO2 := Lib.hid (HO.out.below HBi.out (Nat.le_refl _))
          clear HP HBi HO HB
          by_cases hP0 : P < 0
          · have HFIN : Hid (OwnI wr w.heap.size (.slice (some ⟨g, 0, none⟩) l cg) (mostR xs)) := by
              have h := HF.out.1
              rw [heardN_stop _ (by rw [← HPn.out]; exact hP0)] at h
              show OwnI _ _ _ _
              unfold mostR
              rw [hok, if_pos rfl, ← h]
              exact HO2.out
            clear HF HO2
            go_wp2
            go_ret2
            exact ⟨⟨_, rfl, HFIN.out⟩, hB2.out⟩
          · have HNX : Hid (0 ≤ P ∧ P < (n : Int) ∧ l + 1 ≤ n ∧ heardN xs n (n - (l + 1)) (out ++ [P]) = heardL xs ∧ cntF xs n (out ++ [P]) ≤ n - (l + 1)) := by
              rcases pickK_spec (freeS xs out) (endOf xs) n with ⟨h, _⟩ | ⟨h1, h2, h3, _⟩
              · have := HPn.out; omega
              · rw [← HPn.out] at h1 h2 h3
                have hc := cntF_less h1 h2 h3
                have hf := HF.out
                obtain ⟨k, hk⟩ : ∃ k, n - l = k + 1 := ⟨n - l - 1, by omega⟩
                rw [hk] at hf
                unfold heardN at hf
                rw [← HPn.out, if_neg hP0] at hf
                rw [show n - (l + 1) = k by omega]
                exact ⟨h1, h2, by omega, hf.1, by omega⟩
            have hP1 : P < (n : Int) ∧ l + 1 ≤ n ∧ 0 ≤ P := ⟨HNX.out.2.1, HNX.out.2.2.1, HNX.out.1⟩
            go_wp2_with (at_builtin; refine append_i64 rfl _ _ rfl w.heap.size (.slice (some ⟨g, 0, none⟩) l cg) out [P] (by simp) rfl _ rfl HO2.out hB2.out.size (by simp; omega) ?_; intro g1 c1 w1 ho1 hg1; have HA1 := Lib.hid (And.intro ho1 hg1); clear ho1 hg1)
            go_roundw
            case rel =>
              obtain ⟨ho1, hg1⟩ := HA1.out
              refine ⟨g1, c1, out.length + 1, out ++ [P], rfl, by omega, by show _ = _; simp, ho1, Below.app hB2.out HO2.out hg1 hB2.out.size, fun x hx => ?_, ?_⟩
              · rcases List.mem_append.1 hx with hx | hx
                · exact HM.out x hx
                · obtain rfl : x = P := by simpa using hx
                  exact ⟨hP1.2.2, hP1.1⟩
              · have := HNX.out.2.2.2
                rw [HL.out] at this
                exact this
            case measure => simp [lenV]; omega
end Go.Proofs.Ytnpfninkopffmaa
