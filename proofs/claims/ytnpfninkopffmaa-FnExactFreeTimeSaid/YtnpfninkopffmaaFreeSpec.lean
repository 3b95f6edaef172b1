
/- spec.FreeTime. Conditions: none. -/
import Derived.Test.YtnpfninkopffmaaFreeP
import Derived.Test.YtnpfninkopffmaaMat
import Derived.Deep.CutRange
namespace Go.Proofs.Ytnpfninkopffmaa
open Go.RowKit
set_option linter.unusedVariables false
set_option linter.unusedSimpArgs false

/-- What FreeTime returns. -/
def retF (r : Option Int) : Ending := .returned (.tuple #[.int .i64 (r.getD 0), .bool r.isSome])
def freeHead (xss : List (List Int)) (f til long : Int) : Bool := decide (xss.length ≤ 8) && (win f 0 10000 && win til 0 10000) && win long 1 10000
theorem freeR_no {xss : List (List Int)} {f til long : Int} (h : freeHead xss f til long = false) : freeR xss f til long = none := by
  unfold freeR freeOk
  rw [show (decide (xss.length ≤ 8) && (win f 0 10000 && win til 0 10000) && win long 1 10000) = false from h]; rfl
theorem freeR_bad {xss : List (List Int)} {f til long : Int} {i : Nat} (hi : i < xss.length) (h : talksOk xss[i] = false) : freeR xss f til long = none := by
  have : xss.all talksOk = false := List.all_eq_false.2 ⟨_, List.getElem_mem hi, by rw [h]; exact Bool.false_ne_true⟩
  unfold freeR freeOk
  rw [this, Bool.and_false]; rfl
/-- The rounds of the tests. -/
def FreeT (n : Nat) (xss : List (List Int)) (w : World) (vk : Value) (wr : World) : Prop :=
  ∃ k : Nat, k ≤ n ∧ vk = .int .i64 k ∧ Hid ((xss.take k).all talksOk = true) ∧ Hid (Below w.heap.size w wr)
def FreeS (xss : List (List Int)) (f til long : Int) (w : World) (vt : Value) (wr : World) : Prop :=
  ∃ (t : Int) (k : Nat), vt = .int .i64 t ∧ 0 ≤ t ∧ t ≤ 10001 ∧ Hid (freeF xss long til k t = freeF xss long til 20001 f ∧ til - t + 1 ≤ k) ∧ Hid (Below w.heap.size w wr)
def FreeI (n : Nat) (xss : List (List Int)) (t long : Int) (w : World) (vf vi : Value) (wr : World) : Prop :=
  ∃ (i : Nat) (F : Bool), i ≤ n ∧ vf = .bool F ∧ vi = .int .i64 i ∧ Hid (F = (xss.take i).all fun xs => freeRow xs long t (xs.length / 2)) ∧ Hid (Below w.heap.size w wr)
def FreeJ (xs : List Int) (t long : Int) (F0 : Bool) (m : Nat) (w : World) (vf vj : Value) (wr : World) : Prop :=
  ∃ (j q : Nat) (F : Bool), j ≤ m ∧ q = 2 * j ∧ vf = .bool F ∧ vj = .int .i64 q ∧ Hid (F = (F0 && freeRow xs long t j)) ∧ Hid (Below w.heap.size w wr)

set_option maxRecDepth 100000 in
set_option maxHeartbeats 4000000 in
theorem specFree_any (v : Value) (xss : List (List Int)) (f til long : Int) (w : World) (hv : MatR w v xss) :
    Calls Try.prog 11 #[v, .int .i64 f, .int .i64 til, .int .i64 long] w fun e w' => e = retF (freeR xss f til long) ∧ Below w.heap.size w w' := by
  have HNO := Lib.hid (freeR_no (xss := xss) (f := f) (til := til) (long := long))
  have HBAD := Lib.hid (fun i hi h => freeR_bad (xss := xss) (f := f) (til := til) (long := long) (i := i) hi h)
  obtain ⟨a, c, rfl, hcap, hc⟩ := hv.at_
  have hm := hv.1
  unfold maxLen at hm
  have HC := Lib.hid hc
  clear hc hv
  have H1 : Hid (∀ n lo hi W, Calls Try.prog 54 #[.int .i64 n, .int .i64 lo, .int .i64 hi] W fun e w' => e = .returned (.bool (win n lo hi)) ∧ W = w') := fun n lo hi W => l00In_any n lo hi W
  obtain ⟨H, hH⟩ : ∃ H, freeHead xss f til long = H := ⟨_, rfl⟩
  obtain ⟨B, hB⟩ : ∃ B, B = !H := ⟨_, rfl⟩
  have HB := Lib.hid hB
  have HH := Lib.hid hH
  clear hB
  go_enter Try.func11, Try.ntmps11
  go_upto_region 1 with fail
  go_cut [32] from 15 to 32 (fun v1 wx => v1 = .bool B ∧ wx = w)
  case first =>
    unfold freeHead at hH
    by_cases h8 : xss.length ≤ 8
    · have hd8 : decide ((xss.length : Int) > 8) = false := by simp; omega
      rw [decide_eq_true h8] at hH
      cases z1 : win f 0 10000
      · have hf : Hid (B = true) := by rw [z1] at hH; show _ = _; rw [HB.out, ← hH]; rfl
        go_wp2_with (go_at_call 54; refine (H1.out _ _ _ _).mono ?_; rintro e w' ⟨rfl, rfl⟩; try rw [z1])
        go_meet
        exact ⟨by rw [hf.out], rfl⟩
      · cases z2 : win til 0 10000
        · have hf : Hid (B = true) := by rw [z1, z2] at hH; show _ = _; rw [HB.out, ← hH]; rfl
          go_wp2_with (go_at_call 54; refine (H1.out _ _ _ _).mono ?_; rintro e w' ⟨rfl, rfl⟩; first | rw [z1] | rw [z2])
          go_meet
          exact ⟨by rw [hf.out], rfl⟩
        · cases z3 : win long 1 10000
          · have hf : Hid (B = true) := by rw [z1, z2, z3] at hH; show _ = _; rw [HB.out, ← hH]; rfl
            go_wp2_with (go_at_call 54; refine (H1.out _ _ _ _).mono ?_; rintro e w' ⟨rfl, rfl⟩; first | rw [z1] | rw [z2] | rw [z3])
            go_meet
            exact ⟨by rw [hf.out], rfl⟩
          · have hf : Hid (B = false) := by rw [z1, z2, z3] at hH; show _ = _; rw [HB.out, ← hH]; rfl
            go_wp2_with (go_at_call 54; refine (H1.out _ _ _ _).mono ?_; rintro e w' ⟨rfl, rfl⟩; first | rw [z1] | rw [z2] | rw [z3])
            go_meet
            exact ⟨by rw [hf.out], rfl⟩
    · have hd8 : decide ((xss.length : Int) > 8) = true := by simp; omega
      have hf : Hid (B = true) := by rw [decide_eq_false h8] at hH; show _ = _; rw [HB.out, ← hH]; rfl
      go_wp2
      go_meet
      exact ⟨by rw [hf.out], rfl⟩
  case rest =>
  obtain ⟨rfl, rfl⟩ := hcut
  cases B with
  | true =>
    have hr : Hid (freeR xss f til long = none) := HNO.out (by have := HB.out; have h2 := HH.out; rw [h2]; simpa using this)
    go_wp2
    go_ret2
    exact ⟨by rw [hr.out]; rfl, Below.refl _ _⟩
  | false =>
    have hHt : Hid (freeHead xss f til long = true) := by have := HB.out; have h2 := HH.out; show _ = _; rw [h2]; simpa using this
    clear HNO HB HH H1 hH
    have h8 : xss.length ≤ 8 := by
      have h := hHt.out
      unfold freeHead at h
      simp only [Bool.and_eq_true, decide_eq_true_eq] at h
      exact h.1.1
    have hf : 0 ≤ f ∧ f ≤ 10000 ∧ 0 ≤ til ∧ til ≤ 10000 ∧ 1 ≤ long ∧ long ≤ 10000 := by
      have h := hHt.out
      unfold freeHead at h
      simp only [Bool.and_eq_true] at h
      have h1 := win_true.1 h.1.2.1
      have h2 := win_true.1 h.1.2.2
      have h3 := win_true.1 h.2
      exact ⟨h1.1, h1.2, h2.1, h2.2, h3.1, h3.2⟩
    obtain ⟨f0, f1, g0, g1, l0, l1⟩ := hf
    go_wp2
    go_loopw [35] (fun vk wr => FreeT xss.length xss wc vk wr) (fun vk _ => xss.length - (intOf vk).toNat)
    case atStart => exact ⟨0, Nat.zero_le _, rfl, rfl, Below.refl _ _⟩
    case round =>
      obtain ⟨k, hk, rfl, HT, HW⟩ := hrel
      by_cases hkl : k < xss.length
      · obtain ⟨b, o, u, rfl, hbs, hr, hcell⟩ := HC.out k hkl
        have k1 : (k : Int) < (xss.length : Int) := by omega
        have k0 : (0 : Int) ≤ (k : Int) := by omega
        have ck := (HW.out.cell (p := ⟨b, o + k, none⟩) hbs).trans hcell
        have hri := (hr.below HW.out (Nat.le_refl _)).ints
        have HCT := Lib.hid (specTalks_any u xss[k] wr hri.1 hri.2)
        obtain ⟨T, hT⟩ : ∃ T, talksOk xss[k] = T := ⟨_, rfl⟩
        rw [hT] at HCT
        have HTT := Lib.hid hT
        have HNX : Hid (T ≠ false → (xss.take (k + 1)).all talksOk = true) := fun h => by
          rw [List.take_succ_eq_append_getElem hkl, List.all_append, HT.out]; simp [hT]; simpa using h
        clear hcell hr hri hT
        cases T
        · have HR := Lib.hid (HBAD.out k hkl HTT.out)
          go_wp2_with (go_at_call 55; refine HCT.out.mono ?_; rintro e W1 ⟨rfl, hb⟩; have HB1 : Hid (Below wc.heap.size wc W1) := HW.out.trans (hb.mono HW.out.size); clear hb)
          go_ret2
          exact ⟨by rw [HR.out]; rfl, HB1.out⟩
        · go_wp2_with (go_at_call 55; refine HCT.out.mono ?_; rintro e W1 ⟨rfl, hb⟩; have HB1 : Hid (Below wc.heap.size wc W1) := HW.out.trans (hb.mono HW.out.size); clear hb)
          go_roundw
          case rel => exact ⟨k + 1, by omega, by go_num, HNX.out (by simp), HB1.out⟩
          case measure => simp [intOf]; omega
      · have k1 : ¬ (k : Int) < (xss.length : Int) := by omega
        have HALL : Hid (xss.all talksOk = true) := by
          have := HT.out
          rw [List.take_of_length_le (by omega)] at this
          exact this
        have HOK : Hid (freeR xss f til long = freeF xss long til 20001 f) := by
          show _ = _
          unfold freeR freeOk
          rw [show (decide (xss.length ≤ 8) && (win f 0 10000 && win til 0 10000) && win long 1 10000) = true from hHt.out, HALL.out]; rfl
        have HST : Hid (FreeS xss f til long wc (.int .i64 f) wr) := ⟨f, 20001, rfl, f0, by omega, ⟨rfl, by omega⟩, HW.out⟩
        clear HBAD HT HW
        go_wp2
        go_loopw [11] (fun vt wr => FreeS xss f til long wc vt wr) (fun vt _ => (til + 1 - intOf vt).toNat)
        case atStart => exact HST.out
        case round =>
          obtain ⟨t, kk, rfl, t0, t9, HF, HW⟩ := hrel
          clear HST
          have tlw : IntKind.i64.wrap (t + long) = t + long := IntWalk.i64_in _ (by omega)
          by_cases htl : t + long ≤ til
          · obtain ⟨Wt, hWt⟩ : ∃ W : World, W = wr := ⟨_, rfl⟩
            subst hWt
            go_wp2
            go_loopw [12, 55] (fun vf vi wi => FreeI xss.length xss t long Wt vf vi wi) (fun _ vi _ => xss.length - (intOf vi).toNat)
            case atStart => exact ⟨0, true, Nat.zero_le _, rfl, rfl, rfl, Below.refl _ _⟩
            case round =>
              obtain ⟨i, F, hi, rfl, rfl, HFF, HWi⟩ := hrel
              by_cases hil : i < xss.length
              · have i1 : (i : Int) < (xss.length : Int) := by omega
                have i0 : (0 : Int) ≤ (i : Int) := by omega
                obtain ⟨Wi, hWi⟩ : ∃ W : World, W = wr := ⟨_, rfl⟩
                subst hWi
                go_wp2
                obtain ⟨b, o, u, rfl, hbs, hr, hcell⟩ := HC.out i hil
                obtain ⟨⟨hm2, a2, c2, rfl, hcap2, hc2⟩, _⟩ := hr.ints
                have HX : Hid (talksOk xss[i] = true) := List.all_eq_true.1 HALL.out _ (List.getElem_mem hil)
                have HNX : Hid ((xss.take (i + 1)).all (fun xs => freeRow xs long t (xs.length / 2)) = (F && freeRow xss[i] long t (xss[i].length / 2))) := by
                  show _ = _
                  rw [List.take_succ_eq_append_getElem hil, List.all_append, ← HFF.out]; simp
                obtain ⟨xs, hxs⟩ : ∃ xs, xss[i] = xs := ⟨_, rfl⟩
                rw [hxs] at HX HNX hcap2 hm2 hcell
                have hc2' : ∀ (j : Nat) (h : j < xs.length), ∃ b o, a2 = some ⟨b, o, none⟩ ∧ b < wc.heap.size ∧ wc.cell? ⟨b, o + j, none⟩ = some (.int .i64 xs[j]) := by subst hxs; exact hc2
                have hx := HX.out
                simp only [talksOk, talksHead, Bool.and_eq_true, decide_eq_true_eq] at hx
                have hx2 := (many_true.1 hx.1.1).1
                have hx3 := (many_true.1 hx.1.1).2.1
                have hx4 := hx.1.2
                obtain ⟨m, hm⟩ : ∃ m, xs.length = 2 * m := ⟨xs.length / 2, by omega⟩
                have hm1 : m ≤ 32 := by omega
                have hm0 : 1 ≤ m := by omega
                obtain ⟨b2, o2, ha2, hb2, hcs2⟩ := row_at hc2'
                obtain rfl := ha2 (by omega)
                have hb2 := hb2 (by omega)
                have HBW : Hid (∀ W, Below Wi.heap.size Wi W → Below wc.heap.size wc W) := fun W hW => by
                  have h1 := HWi.out.trans (hW.mono HWi.out.size)
                  exact HW.out.trans (h1.mono HW.out.size)
                have HCS : Hid (∀ W, Below Wi.heap.size Wi W → W.cell? ⟨b, o + i, none⟩ = some (.slice (some ⟨b2, o2, none⟩) xs.length c2) ∧ ∀ j, j < xs.length → W.cell? ⟨b2, o2 + j, none⟩ = some (.int .i64 (nth xs j))) := fun W hW =>
                  ⟨((HBW.out W hW).cell (p := ⟨b, o + i, none⟩) hbs).trans hcell, fun j hj => by rw [nth_eq hj]; exact ((HBW.out W hW).cell (p := ⟨b2, o2 + j, none⟩) hb2).trans (hcs2 j hj)⟩
                have HXM := Lib.hid hm
                clear hx hc2 hc2' hxs hcs2 hcell hr hx2 hx3 hx4 hm ha2
                go_loopw [12, 14] (fun vf vj wj => FreeJ xs t long F m Wi vf vj wj) (fun _ vj _ => 2 * m - (intOf vj).toNat)
                case atStart => exact ⟨0, 0, F, Nat.zero_le _, rfl, rfl, rfl, by show _ = _; simp [freeRow], Below.refl _ _⟩
                case round =>
                  obtain ⟨j, q, G, hj, hq, rfl, rfl, HG, HWj⟩ := hrel
                  obtain ⟨cb, cj⟩ := HCS.out wr HWj.out
                  have hxm := HXM.out
                  have hq2 := Lib.hid hq
                  by_cases hjm : j < m
                  · have j1 : (q : Int) < (xs.length : Int) := by omega
                    have j0 : (0 : Int) ≤ (q : Int) := by omega
                    have cA := cj q (by omega)
                    have cB := cj (q + 1) (by omega)
                    have hqb : q + 2 ≤ 1000 := by omega
                    have qw : IntKind.i64.wrap ((q : Int) + 1) = (q : Int) + 1 := IntWalk.i64_in _ (by omega)
                    have j2 : (0 : Int) ≤ (q : Int) + 1 := by omega
                    have j3 : (q : Int) + 1 < (xs.length : Int) := by omega
                    have n1 : ((q : Int) + 1).toNat = q + 1 := by omega
                    have HGN : Hid ((F && freeRow xs long t (j + 1)) = (G && !(hitB long t (nth xs q) (nth xs (q + 1))))) := by
                      show _ = _
                      rw [freeRow_succ, ← Bool.and_assoc, ← HG.out, hq2.out]
                    obtain ⟨A, hA⟩ : ∃ A, nth xs q = A := ⟨_, rfl⟩
                    obtain ⟨E, hE⟩ : ∃ E, nth xs (q + 1) = E := ⟨_, rfl⟩
                    rw [hA] at cA HGN
                    rw [hE] at cB HGN
                    unfold hitB at HGN
                    clear hA hE hxm hq cj
                    by_cases hlt : A < t + long
                    · have d1 : decide (A < t + long) = true := by simpa using hlt
                      by_cases hlt2 : t < E
                      · have d2 : decide (t < E) = true := by simpa using hlt2
                        rw [d1, d2] at HGN
                        go_wp2
                        go_roundw
                        case rel => exact ⟨j + 1, q + 2, false, by omega, by have := hq2.out; omega, rfl, by go_num, by show _ = _; rw [HGN.out]; simp, HWj.out⟩
                        case measure => have := hq2.out; simp [intOf]; omega
                      · have d2 : decide (t < E) = false := by simpa using hlt2
                        rw [d1, d2] at HGN
                        go_wp2
                        go_roundw
                        case rel => exact ⟨j + 1, q + 2, G, by omega, by have := hq2.out; omega, rfl, by go_num, by show _ = _; rw [HGN.out]; simp, HWj.out⟩
                        case measure => have := hq2.out; simp [intOf]; omega
                    · have d1 : decide (A < t + long) = false := by simpa using hlt
                      rw [d1] at HGN
                      go_wp2
                      go_roundw
                      case rel => exact ⟨j + 1, q + 2, G, by omega, by have := hq2.out; omega, rfl, by go_num, by show _ = _; rw [HGN.out]; simp, HWj.out⟩
                      case measure => have := hq2.out; simp [intOf]; omega
                  · have j1 : ¬ (q : Int) < (xs.length : Int) := by omega
                    have HGE : Hid (G = (xss.take (i + 1)).all fun xs => freeRow xs long t (xs.length / 2)) := by
                      show _ = _
                      rw [HNX.out, HG.out, show xs.length / 2 = j by omega]
                    have HWE : Hid (Below Wt.heap.size Wt wr) := HWi.out.trans (HWj.out.mono HWi.out.size)
                    clear HG cj hxm hq
                    go_wp2
                    go_roundw
                    case rel => exact ⟨i + 1, G, by omega, rfl, by go_num, HGE.out, HWE.out⟩
                    case measure => simp [intOf]; omega
              · have i1 : ¬ (i : Int) < (xss.length : Int) := by omega
                have HFA : Hid (F = freeAt xss long t) := by
                  show _ = _
                  rw [HFF.out, List.take_of_length_le (by omega)]; rfl
                have HWE : Hid (Below wc.heap.size wc wr) := HW.out.trans (HWi.out.mono HW.out.size)
                have hkk := HF.out
                obtain ⟨k', hk'⟩ : ∃ k', kk = k' + 1 := ⟨kk - 1, by omega⟩
                have HKK := Lib.hid hk'
                clear HFF hkk hk'
                cases F
                · have HN : Hid (freeF xss long til k' (t + 1) = freeF xss long til 20001 f ∧ til - (t + 1) + 1 ≤ k') := by
                    have h := HF.out
                    rw [HKK.out, freeF_next _ htl HFA.out.symm] at h
                    exact ⟨h.1, by omega⟩
                  go_wp2
                  go_roundw
                  case rel => exact ⟨t + 1, k', by go_num, by omega, by omega, HN.out, HWE.out⟩
                  case measure => simp [intOf]; omega
                · have HN : Hid (freeR xss f til long = some t) := by
                    have h := HF.out.1
                    rw [HKK.out, freeF_hit _ htl HFA.out.symm] at h
                    show _ = _
                    rw [HOK.out, ← h]
                  go_wp2
                  go_ret2
                  exact ⟨by rw [HN.out]; rfl, HWE.out⟩
          · have HN : Hid (freeR xss f til long = none) := by
              have h := HF.out.1
              rw [freeF_end _ htl] at h
              show _ = _
              rw [HOK.out, ← h]
            go_wp2
            go_ret2
            exact ⟨by rw [HN.out]; rfl, HW.out⟩
end Go.Proofs.Ytnpfninkopffmaa
