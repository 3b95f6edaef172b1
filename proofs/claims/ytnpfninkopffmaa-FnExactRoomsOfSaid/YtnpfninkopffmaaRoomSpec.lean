
/- spec.RoomsOf. Conditions: none. -/
import Derived.Test.YtnpfninkopffmaaRoomImpl
namespace Go.Proofs.Ytnpfninkopffmaa
open Go.RowKit Go.Shelf
set_option linter.unusedVariables false
set_option linter.unusedSimpArgs false

theorem maxOf_any (a b : Int) (w : World) : Calls Try.prog 65 #[.int .i64 a, .int .i64 b] w fun e w' => e = .returned (.int .i64 (if a < b then b else a)) ∧ w = w' := by
  obtain ⟨M, hM⟩ : ∃ M, (if a < b then b else a) = M := ⟨_, rfl⟩
  rw [hM]
  have HM := Lib.hid hM
  clear hM
  by_cases h : a > b
  · have hm : Hid (M = a) := by have := HM.out; rw [if_neg (by omega)] at this; exact this.symm
    go_enter Try.func65, Try.ntmps65
    go_wp2
    go_ret
    exact ⟨ret_int hm.out.symm, rfl⟩
  · have hm : Hid (M = b) := by have := HM.out; show _ = _; split at this <;> omega
    go_enter Try.func65, Try.ntmps65
    go_wp2
    go_ret
    exact ⟨ret_int hm.out.symm, rfl⟩

def bitV : Value → Nat
  | .bool true => 1
  | _ => 0
def RoomA (N n : Nat) (w : World) (vo vi : Value) (wr : World) : Prop :=
  ∃ (g c i l : Nat), vo = .slice (some ⟨g, 0, none⟩) l c ∧ vi = .int .i64 i ∧ i ≤ n ∧ Hid (l = i) ∧ Hid (OwnI wr N (.slice (some ⟨g, 0, none⟩) l c) (noneL i)) ∧ Hid (Below N w wr)
def RoomO (N n g c : Nat) (xs : List Int) (w : World) (vc vt : Value) (wr : World) : Prop :=
  ∃ (t : Nat) (m : Int), vc = .int .i64 m ∧ vt = .int .i64 t ∧ t ≤ n ∧ Hid (OwnI wr N (.slice (some ⟨g, 0, none⟩) n c) (roomsTo xs n t)) ∧ Hid (CountOk n (roomsTo xs n t) m) ∧ Hid (Below N w wr)
def RoomI (n : Nat) (xs out : List Int) (w : World) (vb vi : Value) (wr : World) : Prop :=
  ∃ (i : Nat) (P : Int), vb = .int .i64 P ∧ vi = .int .i64 i ∧ i ≤ n ∧ Hid (P = pickK (fun k => decide (nth out k < 0)) (begOf xs) i) ∧ Hid (Below w.heap.size w wr)
def RoomG (n i : Nat) (R : Int) (xs out : List Int) (w : World) (vr vg : Value) (wr : World) : Prop :=
  ∃ (r : Nat) (B : Bool), vr = .int .i64 r ∧ vg = .bool B ∧ r ≤ n ∧ Hid ((B = true → roomF xs out n i (n - r) r = R) ∧ (B = false → R = r)) ∧ Hid (Below w.heap.size w wr)
def RoomK (n i r : Nat) (xs out : List Int) (w : World) (vg vk : Value) (wr : World) : Prop :=
  ∃ (k : Nat) (B : Bool), vg = .bool B ∧ vk = .int .i64 k ∧ k ≤ n ∧ Hid (B = (idL k).any fun k => (nth out k.toNat == (r : Int)) && meetB xs i k.toNat) ∧ Hid (Below w.heap.size w wr)

set_option maxRecDepth 100000 in
set_option maxHeartbeats 4000000 in
theorem specRooms_any (v : Value) (xs : List Int) (w : World) (hv : Ints w v xs) (hwf : ∀ n ∈ xs, (Lit.int .i64 n).wf = true) :
    Calls Try.prog 21 #[v] w fun e w' => (∃ u, e = .returned (.tuple #[u, .int .i64 (roomsC xs), .bool (talksOk xs)]) ∧ OwnI w' w.heap.size u (roomsR xs)) ∧ Below w.heap.size w w' := by
  obtain ⟨hm, a, c, hvv, hcap, hcz⟩ := id hv
  subst hvv
  have HV := Lib.hid hv
  have HT := Lib.hid (specTalks_any (.slice a xs.length c) xs w hv hwf)
  obtain ⟨bt, ot, hat, hbt, hct⟩ := row_at hcz
  have HCT : Hid (∀ j, j < xs.length → w.cell? ⟨bt, ot + j, none⟩ = some (.int .i64 (nth xs j))) := fun j hj => by rw [nth_eq hj]; exact hct j hj
  clear hcz hv hct hwf
  go_enter Try.func21, Try.ntmps21
  go_wp2_with fail
  refine HT.out.mono ?_
  rintro e W1 ⟨rfl, hb⟩
  have HB1 := Lib.hid hb
  clear hb HT
  cases hok : talksOk xs
  · have HN : Hid (OwnI W1 w.heap.size (.slice none 0 0) (roomsR xs) ∧ roomsC xs = 0) := by
      show OwnI _ _ _ _ ∧ _
      unfold roomsR roomsC; rw [hok]; exact ⟨⟨rfl, .inl ⟨rfl, rfl⟩⟩, rfl⟩
    go_wp2
    go_ret3
    exact ⟨⟨_, by rw [hok, HN.out.2]; rfl, HN.out.1⟩, HB1.out⟩
  · have h2 : 2 ≤ xs.length ∧ xs.length ≤ 64 := by
      have h := hok
      simp only [talksOk, talksHead, Bool.and_eq_true] at h
      have := many_true.1 h.1.1
      omega
    obtain rfl := hat (by omega)
    have hbt := hbt (by omega)
    obtain ⟨n, hn⟩ : ∃ n, xs.length / 2 = n := ⟨_, rfl⟩
    have hnI : (xs.length : Int) / 2 = (n : Int) := by omega
    have hnI2 : (xs.length : Int).tdiv 2 = (n : Int) := by rw [Int.tdiv_eq_ediv_of_nonneg (by omega)]; exact hnI
    have hn32 : n ≤ 32 := by omega
    have hn1 : 1 ≤ n := by omega
    have hLen : xs.length ≤ 64 := h2.2
    have HLEN : Hid (2 * n ≤ xs.length ∧ xs.length / 2 = n) := by show _ ∧ _; omega
    clear h2 hn
    obtain ⟨W2, hW2⟩ : ∃ W, W1.alloc (.cells #[] 2) = W := ⟨_, rfl⟩
    have HR0 : Hid (RoomA w.heap.size n w (.slice (some ⟨W1.heap.size, 0, none⟩) 0 0) (.int .i64 0) W2) := by
      show RoomA _ _ _ _ _ _
      rw [← hW2]
      exact ⟨W1.heap.size, 0, 0, 0, rfl, rfl, Nat.zero_le _, rfl, OwnI.lit W1 w.heap.size [] HB1.out.size (Nat.zero_le _), HB1.out.trans ((Below.refl _ W1).alloc HB1.out.size _)⟩
    clear HB1
    go_wp2
    go_loopw [6, 7] (fun vo vi wr => RoomA w.heap.size n w vo vi wr) (fun _ vi _ => n - (intOf vi).toNat)
    case atStart => exact HR0.out
    case round =>
      obtain ⟨g, cg, i, l, rfl, rfl, hin, HL, HO, HB⟩ := hrel
      clear HR0 hW2
      by_cases hi : i < n
      · have i1 : (i : Int) < (n : Int) := by omega
        have hl64 : (noneL i).length + 1 ≤ 64 := by unfold noneL; simp; omega
        go_wp2_with (at_builtin; refine append_i64 rfl _ _ rfl w.heap.size (.slice (some ⟨g, 0, none⟩) l cg) (noneL i) [-1] (by simp) rfl _ rfl HO.out HB.out.size (by simp; omega) ?_; intro g1 c1 w1 ho1 hg1; have HA1 := Lib.hid (And.intro ho1 hg1); clear ho1 hg1)
        go_roundw
        case rel =>
          obtain ⟨ho1, hg1⟩ := HA1.out
          refine ⟨g1, c1, i + 1, _, rfl, by go_num, by omega, by show _ = _; unfold noneL; simp, ?_, Below.app HB.out HO.out hg1 HB.out.size⟩
          have e : noneL (i + 1) = noneL i ++ [-1] := by unfold noneL; rw [List.replicate_succ']
          rw [e]
          exact ho1
        case measure => simp [intOf]; omega
      · have i1 : ¬ (i : Int) < (n : Int) := by omega
        have hli : Hid (l = n) := by have := HL.out; show _ = _; omega
        obtain rfl : i = n := by omega
        obtain rfl : l = i := hli.out
        have HR0 : Hid (RoomO w.heap.size l g cg xs w (.int .i64 0) (.int .i64 0) wr) := ⟨0, 0, rfl, rfl, Nat.zero_le _, HO.out, CountOk.zero _, HB.out⟩
        have HOK := Lib.hid (rooms_ok xs l)
        clear HO HB HL hli hi i1 hin
        go_wp2
        go_loopw [8, 9] (fun vc vt wr => RoomO w.heap.size l g cg xs w vc vt wr) (fun _ vt _ => l - (intOf vt).toNat)
        case atStart => exact HR0.out
        case round =>
          obtain ⟨t, m, rfl, rfl, htn, HO, HC, HB⟩ := hrel
          clear HR0
          by_cases ht : t < l
          · have t1 : (t : Int) < (l : Int) := by omega
            have HRK := HOK.out t htn
            obtain ⟨Wt, hWt⟩ : ∃ W : World, W = wr := ⟨_, rfl⟩
            subst hWt
            have HPK := Lib.hid (rooms_pick (xs := xs) ht)
            obtain ⟨x, suf, hx1, hx2, hx3, hx4, hx5⟩ := sortsL_at (key := begOf xs) ht
            have HFR : Hid (nth (roomsTo xs l t) x.toNat < 0) := by
              have h6 := HRK.free x.toNat (by omega)
              rw [show ((x.toNat : Nat) : Int) = x by omega] at h6
              refine h6.2 ?_
              have := sortsL_new (key := begOf xs) ht
              rwa [hx3] at this
            have hNX := roomsTo_succ (xs := xs) ht
            rw [hx3] at HPK hNX
            obtain ⟨p, rfl⟩ : ∃ p : Nat, x = p := ⟨x.toNat, by omega⟩
            have hpl : p < l := by omega
            unfold roomStep at hNX
            rw [Int.toNat_natCast] at hNX HFR
            obtain ⟨out, hout⟩ : ∃ out, roomsTo xs l t = out := ⟨_, rfl⟩
            rw [hout] at HO HRK HC HPK HFR hNX
            obtain ⟨R, hR⟩ : ∃ R, roomAt xs out l p = R := ⟨_, rfl⟩
            rw [hR] at hNX
            have HR : Hid (roomF xs out l p (l - 0) ((0 : Nat) : Int) = R) := by show _ = _; rw [← hR]; rfl
            have HNX := Lib.hid hNX
            have HRB : Hid (0 ≤ R ∧ R ≤ t) := by rw [← hR]; exact roomAt_bounds HRK.hi (by omega)
            have HRK := Lib.hid HRK
            have HOC : Hid (∀ W, Below Wt.heap.size Wt W → ∀ k, k < l → W.cell? ⟨g, k, none⟩ = some (.int .i64 (nth out k))) := fun W hW k hk => (HO.out.below hW (Nat.le_refl _)).at_ HRK.out.len.symm k (by rw [HRK.out.len]; exact hk)
            clear hx1 hx2 hx3 hx4 hx5 hout hR hNX
            go_wp2
            go_loopw [10, 11] (fun vb vi wi => RoomI l xs out Wt vb vi wi) (fun _ vi _ => l - (intOf vi).toNat)
            case atStart => exact ⟨0, -1, rfl, rfl, Nat.zero_le _, rfl, Below.refl _ _⟩
            case round =>
              obtain ⟨i, P, rfl, rfl, hin, HP, HBi⟩ := hrel
              by_cases hi : i < l
              · have i1 : (i : Int) < (l : Int) := by omega
                have i0 : (0 : Int) ≤ (i : Int) := by omega
                have co := HOC.out wr HBi.out i hi
                have hBB : Hid (Below w.heap.size w wr) := HB.out.trans (HBi.out.mono HB.out.size)
                have hPb : P < (i : Int) + 1 ∧ -1 ≤ P := by
                  rw [HP.out]
                  rcases pickK_spec (fun k => decide (nth out k < 0)) (begOf xs) i with ⟨h, _⟩ | ⟨h1, h2, _⟩ <;> omega
                have hPN : pickK (fun k => decide (nth out k < 0)) (begOf xs) (i + 1) = if decide (nth out i < 0) = true ∧ (P < 0 ∨ begOf xs i < begOf xs P) then (i : Int) else P := by rw [HP.out]; rfl
                obtain ⟨F, hF⟩ : ∃ F, nth out i = F := ⟨_, rfl⟩
                rw [hF] at co hPN
                have HPN := Lib.hid hPN
                clear hF hPN
                by_cases hF0 : F < 0
                · have hdF : decide (F < 0) = true := by simpa using hF0
                  by_cases hP0 : P < 0
                  · have hd : decide (P < 0) = true := by simpa using hP0
                    have HPN2 : Hid ((i : Int) = pickK (fun k => decide (nth out k < 0)) (begOf xs) (i + 1)) := by show _ = _; rw [HPN.out, if_pos ⟨hdF, .inl hP0⟩]
                    clear HPN HP
                    go_wp2
                    go_quiet (fail)
                    go_wp2
                    go_roundw
                    case rel => exact ⟨i + 1, i, rfl, by go_num, by omega, HPN2.out, below_drewN _ HBi.out⟩
                    case measure => simp [intOf]; omega
                  · have hd : decide (P < 0) = false := by simpa using hP0
                    obtain ⟨q, rfl⟩ : ∃ q : Nat, P = q := ⟨P.toNat, by omega⟩
                    have hlen := HLEN.out
                    obtain ⟨I, hI⟩ : ∃ I, 2 * i = I := ⟨_, rfl⟩
                    obtain ⟨J, hJ⟩ : ∃ J, 2 * q = J := ⟨_, rfl⟩
                    have cI := hBB.out.cell (p := ⟨bt, ot + I, none⟩) hbt |>.trans (HCT.out I (by omega))
                    have cJ := hBB.out.cell (p := ⟨bt, ot + J, none⟩) hbt |>.trans (HCT.out J (by omega))
                    have hPN := HPN.out
                    rw [show begOf xs (i : Int) = nth xs (2 * i) from by unfold begOf; rw [Int.toNat_natCast], show begOf xs (q : Int) = nth xs (2 * q) from by unfold begOf; rw [Int.toNat_natCast], hI, hJ] at hPN
                    have HPN := Lib.hid hPN
                    obtain ⟨A, hA⟩ : ∃ A, nth xs I = A := ⟨_, rfl⟩
                    obtain ⟨B, hB⟩ : ∃ B, nth xs J = B := ⟨_, rfl⟩
                    rw [hA] at cI HPN
                    rw [hB] at cJ HPN
                    have II : 2 * (i : Int) = (I : Int) := by omega
                    have JJ : 2 * (q : Int) = (J : Int) := by omega
                    have I0 : (0 : Int) ≤ (I : Int) := by omega
                    have J0 : (0 : Int) ≤ (J : Int) := by omega
                    have I1 : (I : Int) < (xs.length : Int) := by omega
                    have J1 : (J : Int) < (xs.length : Int) := by omega
                    have wI : IntKind.i64.wrap (I : Int) = (I : Int) := IntWalk.i64_in _ (by omega)
                    have wJ : IntKind.i64.wrap (J : Int) = (J : Int) := IntWalk.i64_in _ (by omega)
                    clear hI hJ hlen hA hB hPN hPb HP hP0
                    by_cases hAB : A < B
                    · have hd2 : decide (A < B) = true := by simpa using hAB
                      have HPN2 : Hid ((i : Int) = pickK (fun k => decide (nth out k < 0)) (begOf xs) (i + 1)) := by show _ = _; rw [HPN.out, if_pos ⟨hdF, .inr hAB⟩]
                      clear HPN
                      go_wp2
                      go_quiet (fail)
                      go_wp2
                      go_roundw
                      case rel => exact ⟨i + 1, i, rfl, by go_num, by omega, HPN2.out, below_drewN _ HBi.out⟩
                      case measure => simp [intOf]; omega
                    · have hd2 : decide (A < B) = false := by simpa using hAB
                      have HPN2 : Hid ((q : Int) = pickK (fun k => decide (nth out k < 0)) (begOf xs) (i + 1)) := by show _ = _; rw [HPN.out, if_neg (fun h => by rcases h.2 with h | h; omega; exact hAB h)]
                      clear HPN
                      go_wp2
                      go_quiet (fail)
                      go_wp2
                      go_roundw
                      case rel => exact ⟨i + 1, q, rfl, by go_num, by omega, HPN2.out, below_drewN _ HBi.out⟩
                      case measure => simp [intOf]; omega
                · have hdF : decide (F < 0) = false := by simpa using hF0
                  have HPN2 : Hid (P = pickK (fun k => decide (nth out k < 0)) (begOf xs) (i + 1)) := by show _ = _; rw [HPN.out, if_neg (by rw [hdF]; simp)]
                  clear HPN HP
                  go_wp2
                  go_quiet (fail)
                  go_wp2
                  go_roundw
                  case rel => exact ⟨i + 1, P, rfl, by go_num, by omega, HPN2.out, below_drewN _ HBi.out⟩
                  case measure => simp [intOf]; omega
              · have i1 : ¬ (i : Int) < (l : Int) := by omega
                have HPp : P = (p : Int) := by
                  have h := HP.out
                  rw [show i = l by omega, HPK.out] at h
                  exact h
                subst HPp
                obtain ⟨Wi, hWi⟩ : ∃ W : World, W = wr := ⟨_, rfl⟩
                subst hWi
                clear HP HPK
                go_wp2
                go_loopw [12, 13] (fun vr vg wi => RoomG l p R xs out Wi vr vg wi) (fun vr vg _ => 2 * (l - (intOf vr).toNat) + bitV vg)
                case atStart => exact ⟨0, true, rfl, rfl, Nat.zero_le _, ⟨fun _ => HR.out, fun h => by cases h⟩, Below.refl _ _⟩
                case round =>
                  obtain ⟨r, G, rfl, rfl, hrl, HG, HBg⟩ := hrel
                  have HBt : Hid (Below Wt.heap.size Wt wr) := HBi.out.trans (HBg.out.mono HBi.out.size)
                  cases G
                  · have HRr : Hid (R = (r : Int)) := HG.out.2 rfl
                    have c0 := HOC.out wr HBt.out p hpl
                    have HOw := Lib.hid (HO.out.below HBt.out (Nat.le_refl _))
                    have hlen := HRK.out.len
                    have fi := (HOw.out.store hlen.symm p (by rw [hlen]; exact hpl) (r : Int)).2.1
                    have HST := Lib.hid (HOw.out.store hlen.symm p (by rw [hlen]; exact hpl) (r : Int)).2.2
                    have p0 : (0 : Int) ≤ (p : Int) := by omega
                    have p1 : (p : Int) < (l : Int) := by omega
                    have rw1 : IntKind.i64.wrap ((r : Int) + 1) = (r : Int) + 1 := IntWalk.i64_in _ (by omega)
                    have HCN : Hid (CountOk l (out.set p R) (if m < (r : Int) + 1 then (r : Int) + 1 else m)) := by
                      have h := HC.out.next HRK.out.len hpl HFR.out (r := R) HRB.out.1
                      rw [HRr.out] at h ⊢; exact h
                    have HMX := Lib.hid (maxOf_any m ((r : Int) + 1) (wr.setCell ⟨g, p, none⟩ (.int .i64 (r : Int))))
                    obtain ⟨M, hM⟩ : ∃ M, (if m < (r : Int) + 1 then (r : Int) + 1 else m) = M := ⟨_, rfl⟩
                    rw [hM] at HCN HMX
                    have HBw : Hid (Below w.heap.size w wr) := HB.out.trans (HBt.out.mono HB.out.size)
                    clear hM hlen HG HOC HC
                    go_wp2_with fail
                    refine HMX.out.mono ?_
                    rintro e W9 ⟨rfl, rfl⟩
                    go_wp2
                    go_roundw
                    case rel =>
                      have e : roomsTo xs l (t + 1) = out.set p R := HNX.out
                      refine ⟨t + 1, M, rfl, by go_num, by omega, ?_, ?_, ?_⟩
                      · show OwnI _ _ _ _
                        rw [e, HRr.out]; exact HST.out.1
                      · show CountOk _ _ _
                        rw [e]; exact HCN.out
                      · exact HBw.out.setCell (HOw.out.lt g rfl).1 _
                    case measure => simp [intOf]; omega
                  · have HRF : Hid (roomF xs out l p (l - r) r = R) := HG.out.1 rfl
                    obtain ⟨Wg, hWg⟩ : ∃ W : World, W = wr := ⟨_, rfl⟩
                    subst hWg
                    clear HG
                    go_wp2
                    go_loopw [13, 14] (fun vg vk wi => RoomK l p r xs out Wg vg vk wi) (fun _ vk _ => l - (intOf vk).toNat)
                    case atStart => exact ⟨0, false, rfl, rfl, Nat.zero_le _, rfl, Below.refl _ _⟩
                    case round =>
                      obtain ⟨k, B, rfl, rfl, hkl, HK, HBk⟩ := hrel
                      have HBt2 : Hid (Below Wt.heap.size Wt wr) := HBt.out.trans (HBk.out.mono HBt.out.size)
                      by_cases hk : k < l
                      · have k1 : (k : Int) < (l : Int) := by omega
                        have k0 : (0 : Int) ≤ (k : Int) := by omega
                        have co := HOC.out wr HBt2.out k hk
                        have HKN : Hid (((idL (k + 1)).any fun k => (nth out k.toNat == (r : Int)) && meetB xs p k.toNat) = (B || ((nth out k == (r : Int)) && meetB xs p k))) := by
                          show _ = _
                          rw [idL_succ, List.any_append, ← HK.out]; simp
                        have HC2 := Lib.hid (l07Meet_any (.slice (some ⟨bt, ot, none⟩) xs.length c) xs p k wr (HV.out.below (HB.out.trans (HBt2.out.mono HB.out.size)) (Nat.le_refl _)) (by have := HLEN.out; omega) (by have := HLEN.out; omega) hLen p k (by show _ = _; rfl) (by show _ = _; rfl))
                        obtain ⟨F, hF⟩ : ∃ F, nth out k = F := ⟨_, rfl⟩
                        rw [hF] at co HKN
                        clear hF
                        by_cases he : F = (r : Int)
                        · have hd : (F == (r : Int)) = true := by simpa using he
                          have HHE := Lib.hid he
                          cases hmt : meetB xs p k
                          · rw [hmt] at HC2 HKN
                            rw [hd] at HKN
                            clear he
                            go_wp2_with (go_at_call 59; refine HC2.out.mono ?_; rintro e w' ⟨rfl, qq, rfl⟩)
                            go_roundw
                            case rel => exact ⟨k + 1, B, rfl, by go_num, by omega, by show _ = _; rw [HKN.out]; simp, below_drewN _ HBk.out⟩
                            case measure => simp [intOf]; omega
                          · rw [hmt] at HC2 HKN
                            rw [hd] at HKN
                            clear he
                            go_wp2_with (go_at_call 59; refine HC2.out.mono ?_; rintro e w' ⟨rfl, qq, rfl⟩)
                            go_roundw
                            case rel => exact ⟨k + 1, true, rfl, by go_num, by omega, by show _ = _; rw [HKN.out]; simp, below_drewN _ HBk.out⟩
                            case measure => simp [intOf]; omega
                        · have hd : (F == (r : Int)) = false := by simpa using he
                          rw [hd] at HKN
                          clear HC2 he
                          go_wp2
                          go_roundw
                          case rel => exact ⟨k + 1, B, rfl, by go_num, by omega, by show _ = _; rw [HKN.out]; simp, HBk.out⟩
                          case measure => simp [intOf]; omega
                      · have k1 : ¬ (k : Int) < (l : Int) := by omega
                        have HCL : Hid (clashR xs out l p (r : Int) = B) := by
                          show _ = _
                          rw [HK.out, show k = l by omega]; rfl
                        have HBW : Hid (Below Wi.heap.size Wi wr) := HBg.out.trans (HBk.out.mono HBg.out.size)
                        cases B
                        · have HRR : Hid (R = (r : Int)) := by show _ = _; rw [← HRF.out, roomF_stop _ HCL.out]
                          clear HK HCL
                          go_wp2
                          go_roundw
                          case rel => exact ⟨r, false, rfl, rfl, hrl, ⟨fun h => (by cases h), fun _ => HRR.out⟩, HBW.out⟩
                          case measure => simp [intOf, bitV]
                        · have HNX2 := Lib.hid (roomF_next (xs := xs) (out := out) (i := p) (fun k hk => by have := HRK.out.hi k hk; omega) hrl HCL.out)
                          have hr1 : r + 1 ≤ l := HNX2.out.1
                          have rw1 : IntKind.i64.wrap ((r : Int) + 1) = (r : Int) + 1 := IntWalk.i64_in _ (by omega)
                          clear HK HCL
                          go_wp2
                          go_roundw
                          case rel => exact ⟨r + 1, true, by go_num, rfl, hr1, ⟨fun _ => by rw [← HNX2.out.2]; exact HRF.out, fun h => by cases h⟩, HBW.out⟩
                          case measure => simp [intOf, bitV]; omega
          · have t1 : ¬ (t : Int) < (l : Int) := by omega
            obtain rfl : t = l := by omega
            have HFIN : Hid (OwnI wr w.heap.size (.slice (some ⟨g, 0, none⟩) t cg) (roomsR xs) ∧ roomsC xs = m ∧ Below w.heap.size w wr) := by
              show OwnI _ _ _ _ ∧ _
              unfold roomsR roomsC
              rw [hok, if_pos rfl, if_pos rfl, HLEN.out.2]
              exact ⟨HO.out, (HC.out.done hn1 (rooms_all xs t)).symm, HB.out⟩
            clear HO HC HB HOK
            go_wp2
            go_ret3
            exact ⟨⟨_, by rw [HFIN.out.2.1]; rfl, HFIN.out.1⟩, HFIN.out.2.2⟩
end Go.Proofs.Ytnpfninkopffmaa
