/- The walk of FnFlowsOf. Conditions: none. With texts that it needs. -/
import Derived.Test.YtckdfahbhagoaaaFlowsAll11
import Derived.Test.YtckdfahbhagoaaaFlowsAll5
import Derived.Deep.QuietTactic
import Derived.BigQuiet
namespace Go.Proofs.Ytckdfahbhagoaaa
open Go.RowKit Go.Shelf Go.BigFrame
set_option linter.unusedVariables false
set_option linter.unusedSimpArgs false

theorem below_thenF {a b c : World} (h : Below a.heap.size a b) (k : Below b.heap.size b c) : Below a.heap.size a c := h.trans (k.mono h.size)
theorem ShW.at0 {w : World} {b T c : Nat} {ts : List Int} (h : ShW w b 0 T c ts) {i : Nat} (hi : i < T) : w.cell? ⟨b, i, none⟩ = some (.int .i64 (nth ts i)) := by
  have := h.cell i hi
  rwa [Nat.zero_add] at this
theorem flow_ready {ts : List Int} {M n : Nat} {ord : List Int} (h : TmF ts M n ord) {k m : Nat} (hk : k < ord.length) (hm : m < M) :
    fC ts M ord (k + 1) m - tF ts M (nth ord k).toNat m = max (atF ts M ord k m) (fC ts M ord k m) ∧ (0 ≤ atF ts M ord k m ∧ 0 ≤ fC ts M ord k m) ∧ (0 ≤ fC ts M ord (k + 1) m ∧ fC ts M ord (k + 1) m ≤ 10000 * ((k : Int) + 1 + m)) ∧ 0 ≤ tF ts M (nth ord k).toNat m ∧ tF ts M (nth ord k).toNat m ≤ 10000 := by
  have e := fC_at ts M ord k m
  have b1 := fC_bounds h (k + 1) (by omega) m hm
  have b2 := fC_bounds h k (by omega) m hm
  have b3 := h.at_ hk hm
  refine ⟨by rw [e]; omega, ⟨?_, b2.1⟩, ⟨b1.1, by have := b1.2; push_cast at this; exact this⟩, b3⟩
  cases m with
  | zero => exact Int.le_refl _
  | succ m => exact (fC_bounds h (k + 1) (by omega) m (by omega)).1
def gsF (S0 : Int) (ts : List Int) (M : Nat) (ord : List Int) (k : Nat) : Int := S0 + nwS ts M ord (k - 1)
theorem gsF_1 (S0 : Int) (ts : List Int) (M : Nat) (ord : List Int) : gsF S0 ts M ord 1 = S0 := Int.add_zero S0
theorem gsF_succ {S0 : Int} {ts : List Int} {M : Nat} {ord : List Int} {k u j : Nat} (hk : 1 ≤ k) (hu : nth ord (k - 1) = u) (hj : nth ord k = j) : gsF S0 ts M ord (k + 1) = gsF S0 ts M ord k + gapF ts M u j := by
  obtain ⟨q, rfl⟩ : ∃ q, k = q + 1 := ⟨k - 1, by omega⟩
  have h : nwS ts M ord (q + 1) = nwS ts M ord q + gapF ts M (nth ord q).toNat (nth ord (q + 1)).toNat := rfl
  rw [show q + 1 - 1 = q by omega] at hu
  rw [hu, hj, Int.toNat_natCast, Int.toNat_natCast] at h
  show S0 + nwS ts M ord (q + 1) = S0 + nwS ts M ord q + _
  omega
def FlK (n : Nat) (w : World) (vk : Value) (wr : World) : Prop := ∃ k : Nat, vk = .int .i64 k ∧ k ≤ n ∧ Hid (Below w.heap.size w wr)
def FlS (f : Nat → Int) (n a : Nat) (w : World) (vs vk : Value) (wr : World) : Prop := ∃ k : Nat, vk = .int .i64 k ∧ a ≤ k ∧ k ≤ n ∧ vs = .int .i64 (f k) ∧ Hid (Below w.heap.size w wr)
set_option maxRecDepth 100000 in
set_option maxHeartbeats 4000000 in
theorem walkFnFlowsOf (a0 : Option Addr) (len0 cap0 : Nat) (z0 : List Int) (a1 : Option Addr) (len1 cap1 : Nat) (z1 : List Int) (w : World)
    (w0 : (a0 = none ∧ len0 = 0 ∧ cap0 = 0 ∧ z0 = []) ∨
      ∃ x, a0 = some x ∧ len0 ≤ cap0 ∧ cap0 ≤ maxLen ∧ z0.length = cap0 ∧ (∀ i, i < z0.length → w.cell? (x.add i) = some (.int .u8 (z0.getD i 0))) ∧ ∀ n ∈ z0, (Lit.int .u8 n).wf = true)
    (w1 : (a1 = none ∧ len1 = 0 ∧ cap1 = 0 ∧ z1 = []) ∨
      ∃ x, a1 = some x ∧ len1 ≤ cap1 ∧ cap1 ≤ maxLen ∧ z1.length = cap1 ∧ (∀ i, i < z1.length → w.cell? (x.add i) = some (.int .u8 (z1.getD i 0))) ∧ ∀ n ∈ z1, (Lit.int .u8 n).wf = true) :
    Calls Try.prog 3 #[.slice a0 len0 cap0, .slice a1 len1 cap1] w fun e w' => e = .returned (.bool true) ∧ Below w.heap.size w w' := by
  obtain ⟨hv0, hwf0, hlen0⟩ := bytes_of_row w0
  obtain ⟨hv1, hwf1, hlen1⟩ := bytes_of_row w1
  generalize z0.take len0 = xs at *
  generalize z1.take len1 = ys at *
  subst hlen0 hlen1
  clear w0 w1
  have Hwf0 := Lib.hid hwf0
  have Hwf1 := Lib.hid hwf1
  clear hwf0 hwf1
  cases hlong : (decide (48 < xs.length) || decide (48 < ys.length))
  · have HAT : Hid (∀ (i n : Int) W, Below w.heap.size w W → 0 ≤ i → i ≤ 100 → 1 ≤ n → n ≤ 100 → Calls Try.prog 5 #[.slice a1 ys.length cap1, .int .i64 i, .int .i64 n] W fun e w' => (∃ x, e = .returned (.int .i64 x) ∧ 0 ≤ x ∧ x < n) ∧ W = w') := fun i n W hW h1 h2 h3 h4 => r8At_any _ ys i n W (hv1.below hW (Nat.le_refl _)) Hwf1.out h1 (by omega) h3 (by omega)
    have HT1 : Hid (∀ (t : Nat), t ≤ 200 → Calls Try.prog 6 #[.slice a0 xs.length cap0, .int .i64 t] w fun e w' => (∃ g c, e = .returned (.slice (some ⟨g, 0, none⟩) t c) ∧ ∃ ts, ShW w' g 0 t c ts ∧ DrF ts t) ∧ Below w.heap.size w w') := fun t ht => (R8Times_any _ xs t w hv0 Hwf0.out ht).mono (by
      rintro e w' ⟨⟨g, c, h1, ts, h2, h3, h4⟩, h5⟩
      exact ⟨⟨g, c, h1, ts, own_shw h2 h3, h3, h4⟩, h5⟩)
    have HT2 : Hid (∀ (t : Nat) W, t ≤ 200 → Below w.heap.size w W → Calls Try.prog 6 #[.slice a1 ys.length cap1, .int .i64 t] W fun e w' => (∃ g c, e = .returned (.slice (some ⟨g, 0, none⟩) t c) ∧ ∃ ts, ShW w' g 0 t c ts ∧ DrF ts t) ∧ Below W.heap.size W w') := fun t W ht hW => (R8Times_any _ ys t W (hv1.below hW (Nat.le_refl _)) Hwf1.out ht).mono (by
      rintro e w' ⟨⟨g, c, h1, ts, h2, h3, h4⟩, h5⟩
      exact ⟨⟨g, c, h1, ts, own_shw h2 h3, h3, h4⟩, h5⟩)
    have HOD : Hid (∀ (n : Nat) W, 1 ≤ n → n ≤ 7 → Below w.heap.size w W → Calls Try.prog 7 #[.slice a1 ys.length cap1, .int .i64 n] W fun e w' => (∃ g c, e = .returned (.slice (some ⟨g, 0, none⟩) n c) ∧ ∃ zs, ShW w' g 0 n c zs ∧ zs.Perm (idL n)) ∧ Below W.heap.size W w') := fun n W h1 hn hW => (R8Order_any _ ys n W (hv1.below hW (Nat.le_refl _)) Hwf1.out h1 (by omega)).mono (by
      rintro e w' ⟨⟨g, c, k1, ts, k2, k3⟩, k5⟩
      exact ⟨⟨g, c, k1, ts, own_shw k2 (by rw [k3.length_eq, idL_length]), k3⟩, k5⟩)
    have HLG := Lib.hid (r8Long_any _ _ xs ys _ hv0 hv1)
    rw [hlong] at HLG
    clear hlong hv0 hv1
    go_enter Try.func3, Try.ntmps3
    go_wp2_with fail
    refine HLG.out.mono ?_
    rintro e w' ⟨rfl, rfl⟩
    go_wp2_with fail
    refine (HAT.out _ _ w (Below.refl _ _) (by omega) (by omega) (by omega) (by omega)).mono ?_
    rintro e w' ⟨⟨x0, rfl, hx0a, hx0b⟩, rfl⟩
    obtain ⟨n, hn⟩ : ∃ t : Nat, 1 + x0 = (t : Int) := ⟨(1 + x0).toNat, by omega⟩
    have h1 : 1 ≤ n := by omega
    have h5 : n ≤ 5 := by omega
    have wn : IntKind.i64.wrap (1 + x0) = (n : Int) := by rw [hn]; exact IntWalk.i64_in _ (by omega)
    clear hn hx0a hx0b
    go_wp2_with fail
    refine (HAT.out _ _ w (Below.refl _ _) (by omega) (by omega) (by omega) (by omega)).mono ?_
    rintro e w' ⟨⟨x1, rfl, hx1a, hx1b⟩, rfl⟩
    obtain ⟨M, hM⟩ : ∃ t : Nat, 1 + x1 = (t : Int) := ⟨(1 + x1).toNat, by omega⟩
    have m1 : 1 ≤ M := by omega
    have m3 : M ≤ 3 := by omega
    have wm : IntKind.i64.wrap (1 + x1) = (M : Int) := by rw [hM]; exact IntWalk.i64_in _ (by omega)
    clear hM hx1a hx1b
    have HTT : Hid (n * M ≤ 15 ∧ n * n ≤ 25) := ⟨Nat.le_trans (Nat.mul_le_mul h5 m3) (by decide), Nat.le_trans (Nat.mul_le_mul h5 h5) (by decide)⟩
    obtain ⟨T, hT⟩ : ∃ T, n * M = T := ⟨_, rfl⟩
    have HT : Hid (T = n * M) := hT.symm
    rw [hT] at HTT
    have wT : IntKind.i64.wrap ((n : Int) * (M : Int)) = (T : Int) := by rw [← Int.natCast_mul, hT]; exact IntWalk.i64_in _ (by have := HTT.out; omega)
    clear hT HLG
    have HC := Lib.hid (HT1.out T (by have := HTT.out; omega))
    go_wp2_with fail
    refine HC.out.mono ?_
    rintro e W1 ⟨⟨g0, c0, rfl, ts, hts, hdf⟩, hb1⟩
    have HB1 := Lib.hid hb1
    have HDF := Lib.hid hdf
    clear HT1 HC wn wm hb1 hdf
    have HC := Lib.hid (HOD.out n W1 h1 (by omega) HB1.out)
    go_wp2_with fail
    refine HC.out.mono ?_
    rintro e W2 ⟨⟨go, co, rfl, ord, hord, hop⟩, hb2⟩
    have HW2 : Hid (Below w.heap.size w W2) := below_thenF HB1.out hb2
    have HTS : Hid (∀ W, Below W2.heap.size W2 W → ShW W g0 0 T c0 ts) := fun W hW => (hts.below hb2).below hW
    have HOS : Hid (∀ W, Below W2.heap.size W2 W → ShW W go 0 n co ord) := fun W hW => hord.below hW
    have HOP := Lib.hid hop
    obtain ⟨bst, ins, last, least, bound, rule, rush, block, hE⟩ := flE ts ord M n g0 T c0 W2 (hts.below hb2) HDF.out HT.out h1 h5 m1 m3 hop
    have HE := Lib.hid hE
    clear hop hb2 hE HOD HC HB1 hts hord
    have HC := Lib.hid (HE.out.fe go co W2 (Below.refl _ _) (HOS.out _ (Below.refl _ _)))
    go_wp2_with fail
    refine HC.out.mono ?_
    rintro e W3 ⟨⟨gO, rfl, outs, hoo, hef⟩, hb3⟩
    have HB3 := Lib.hid hb3
    have HEF := Lib.hid hef
    have HOO : Hid (∀ W, Below W3.heap.size W3 W → ShW W gO 0 T T outs) := fun W hW => by
      refine (own_shw hoo ?_).below hW
      obtain ⟨_, a, c2, e, _⟩ := hoo.ints
      cases e
      rfl
    clear hb3 hoo hef HC
    have HC := Lib.hid (HE.out.fl go co W3 HB3.out (HOS.out _ HB3.out))
    go_wp2_with fail
    refine HC.out.mono ?_
    rintro e W4 ⟨rfl, hb4⟩
    have HB4 : Hid (Below W2.heap.size W2 W4) := below_thenF HB3.out hb4
    have HK4 := Lib.hid hb4
    clear hb4 HC
    have HC := Lib.hid (HE.out.bf W4 HB4.out)
    go_wp2_with fail
    refine HC.out.mono ?_
    rintro e W5 ⟨⟨gb, cb, rfl, hob⟩, hb5⟩
    have HB5 : Hid (Below W2.heap.size W2 W5) := below_thenF HB4.out hb5
    have HK5 : Hid (Below W3.heap.size W3 W5) := below_thenF HK4.out hb5
    have HC2 := Lib.hid (HE.out.fb gb cb W5 HB5.out hob)
    clear hb5 HC hob HB4 HK4
    go_wp2_with fail
    refine HC2.out.mono ?_
    rintro e W6 ⟨rfl, hb6⟩
    have HB6 : Hid (Below W2.heap.size W2 W6) := below_thenF HB5.out hb6
    have HK6 : Hid (Below W3.heap.size W3 W6) := below_thenF HK5.out hb6
    have HC := Lib.hid (HE.out.bd W6 HB6.out)
    clear hb6 HC2 HB5 HK5
    go_wp2_with fail
    refine HC.out.mono ?_
    rintro e W7 ⟨rfl, hb7⟩
    have HB7 : Hid (Below W2.heap.size W2 W7) := below_thenF HB6.out hb7
    have HK7 : Hid (Below W3.heap.size W3 W7) := below_thenF HK6.out hb7
    clear hb7 HC HB6 HK6
    have HC := Lib.hid (HE.out.io W7 HB7.out)
    go_wp2_with fail
    refine HC.out.mono ?_
    rintro e W8 ⟨⟨gi, ci, rfl, hoi⟩, hb8⟩
    have HB8 : Hid (Below W2.heap.size W2 W8) := below_thenF HB7.out hb8
    have HK8 : Hid (Below W3.heap.size W3 W8) := below_thenF HK7.out hb8
    have HC2 := Lib.hid (HE.out.fi gi ci W8 HB8.out hoi)
    clear hb8 HC hoi HB7 HK7
    go_wp2_with fail
    refine HC2.out.mono ?_
    rintro e W9 ⟨rfl, hb9⟩
    have HB9 : Hid (Below W2.heap.size W2 W9) := below_thenF HB8.out hb9
    have HK9 : Hid (Below W3.heap.size W3 W9) := below_thenF HK8.out hb9
    clear hb9 HC2 HB8 HK8
    have HC := Lib.hid (HE.out.ng W9 HB9.out)
    go_wp2_with fail
    refine HC.out.mono ?_
    rintro e W10 ⟨⟨gG, z, cG, rfl, hz, gaps, hog, hgf⟩, hb10⟩
    have HB10 : Hid (Below W2.heap.size W2 W10) := below_thenF HB9.out hb10
    have HK10 : Hid (Below W3.heap.size W3 W10) := below_thenF HK9.out hb10
    have HGS : Hid (∀ W, Below W10.heap.size W10 W → ShW W gG 0 z cG gaps) := fun W hW => hog.below hW
    have HGF := Lib.hid hgf
    have HZ : Hid (z = n * n) := hz
    have wz : IntKind.i64.wrap ((n : Int) * (n : Int)) = (z : Int) := by rw [← Int.natCast_mul, ← hz]; exact IntWalk.i64_in _ (by have := HTT.out; omega)
    clear hb10 hog hgf hz HC HB9 HK9
    have HC := Lib.hid (HE.out.nw go co W10 HB10.out (HOS.out _ HB10.out))
    go_wp2_with fail
    refine HC.out.mono ?_
    rintro e W11 ⟨rfl, hb11⟩
    have HB11 : Hid (Below W2.heap.size W2 W11) := below_thenF HB10.out hb11
    have HK11 : Hid (Below W3.heap.size W3 W11) := below_thenF HK10.out hb11
    have HG11 := Lib.hid hb11
    clear hb11 HC HB10 HK10
    have HC := Lib.hid (HE.out.bl go co W11 HB11.out (HOS.out _ HB11.out))
    go_wp2_with fail
    refine HC.out.mono ?_
    rintro e W12 ⟨rfl, hb12⟩
    have HB12 : Hid (Below W2.heap.size W2 W12) := below_thenF HB11.out hb12
    have HK12 : Hid (Below W3.heap.size W3 W12) := below_thenF HK11.out hb12
    have HG12 : Hid (Below W10.heap.size W10 W12) := below_thenF HG11.out hb12
    clear hb12 HC HB11 HK11 HG11
    have l1 := HE.out.l1
    have l2 := HE.out.l2
    have l3 := HE.out.l3
    have l4 := HE.out.l4
    have l5 := HE.out.l5
    have d1 : ¬ least < bound := by omega
    have d2 : ¬ rule < least := by omega
    have d3 : ¬ last < least := by omega
    have d4 : ¬ rush < block := by omega
    have d5 : ¬ block < last := by omega
    go_wp2_with fail
    clear d1 d2 d3 d4 d5 l1 l2 l3 l4 l5
    have hok := HDF.out.ok HT.out h1 h5 m1 m3
    have hTm := hok.tmF (ordOkF_perm HOP.out).el
    have hol : ord.length = n := by rw [HOP.out.length_eq, idL_length]
    have HCO : Hid (∀ W, Below W12.heap.size W12 W → ∀ k, k < n → ∃ i : Nat, i < n ∧ nth ord k = i ∧ W.cell? ⟨go, k, none⟩ = some (.int .i64 i)) := fun W hW k hk => by
      obtain ⟨i, hi, hin⟩ := (ordOkF_perm HOP.out).el k (by omega)
      exact ⟨i, hin, hi, by rw [← hi]; exact (HOS.out W (below_thenF HB12.out hW)).at0 hk⟩
    have HCT : Hid (∀ W, Below W12.heap.size W12 W → ∀ i m, i < n → m < M → W.cell? ⟨g0, i * M + m, none⟩ = some (.int .i64 (tF ts M i m))) := fun W hW i m hi hm => (HTS.out W (below_thenF HB12.out hW)).at0 (by rw [HT.out]; exact ix_lt hi hm)
    have HCE : Hid (∀ W, Below W12.heap.size W12 W → ∀ k i m, k < n → nth ord k = (i : Nat) → i < n → m < M → W.cell? ⟨gO, i * M + m, none⟩ = some (.int .i64 (fC ts M ord (k + 1) m))) := fun W hW k i m hk hi hin hm => by
      have h := (HOO.out W (below_thenF HK12.out hW)).at0 (i := i * M + m) (by rw [HT.out]; exact ix_lt hin hm)
      have h2 := HEF.out k (by omega) m hm
      rw [hi, Int.toNat_natCast] at h2
      rwa [h2] at h
    have HCG : Hid (∀ W, Below W12.heap.size W12 W → ∀ i j, i < n → j < n → W.cell? ⟨gG, i * n + j, none⟩ = some (.int .i64 (gapG ts M i j))) := fun W hW i j hi hj => by
      have hlt : i * n + j < z := by rw [HZ.out]; exact ix_lt hi hj
      have hS := HGS.out W (below_thenF HG12.out hW)
      have h := hS.at0 hlt
      rwa [HGF.out i j hj (by rw [← hS.len]; exact hlt)] at h
    have HIX : Hid (∀ i m, i < n → m < M → i * M + m < T) := fun i m hi hm => by rw [HT.out]; exact ix_lt hi hm
    have HIZ : Hid (∀ i j, i < n → j < n → i * n + j < z) := fun i m hi hm => by rw [HZ.out]; exact ix_lt hi hm
    have HFR : Hid (∀ k m, k < n → m < M → fC ts M ord (k + 1) m - tF ts M (nth ord k).toNat m = max (atF ts M ord k m) (fC ts M ord k m) ∧ (0 ≤ atF ts M ord k m ∧ 0 ≤ fC ts M ord k m) ∧ (0 ≤ fC ts M ord (k + 1) m ∧ fC ts M ord (k + 1) m ≤ 10000 * ((k : Int) + 1 + m)) ∧ 0 ≤ tF ts M (nth ord k).toNat m ∧ tF ts M (nth ord k).toNat m ≤ 10000) := fun k m hk hm => flow_ready hTm (by omega) hm
    have HGB : Hid (∀ i j, i < n → j < n → 0 ≤ gapF ts M i j ∧ gapF ts M i j ≤ 80000) := fun i j hi hj => gapF_bounds hok hi hj
    have HNE : Hid (∀ p q, p < q → q < n → nth ord p ≠ nth ord q) := fun p q hpq hq => (ordOkF_perm HOP.out).ne p q hpq (by omega)
    have HLV : Hid (last = fC ts M ord n (M - 1) ∧ rush = sF (tF ts M (nth ord (n - 1)).toNat) M + nwS ts M ord (n - 1)) := ⟨HE.out.ev, HE.out.rv⟩
    have HSB : Hid (∀ i m, i < n → m ≤ M → 0 ≤ sF (tF ts M i) m ∧ sF (tF ts M i) m ≤ 10000 * (m : Int)) := fun i m hi hm => sF_bound m (fun q hq => by have := hok.at_ hi (show q < M by omega); omega)
    have HWB : Hid (∀ k, k < n → 0 ≤ nwS ts M ord k ∧ nwS ts M ord k ≤ 80000 * (k : Int)) := fun k hk => nwS_bounds hok (ordOkF_perm HOP.out) k (by omega)
    have HFS := Lib.hid HE.out.fs
    have HB12w : Hid (Below w.heap.size w W12) := below_thenF HW2.out HB12.out
    have HTH : Hid (n * M ≤ 15 ∧ n * n ≤ 25 ∧ T = n * M ∧ z = n * n) := ⟨by have := HTT.out; have := HT.out; omega, HTT.out.2, HT.out, HZ.out⟩
    clear hok hTm hol HE HGF HGS HEF HOO HOS HTS HK12 HG12 HW2 HTT HT HZ HOP wT wz
    go_loopw [31] (fun vk wr => FlK n W12 vk wr) (fun vk _ => n - (intOf vk).toNat)
    case atStart => exact ⟨0, rfl, Nat.zero_le _, Below.refl _ _⟩
    case round =>
      obtain ⟨k, rfl, hkn, HBk⟩ := hrel
      by_cases hk2 : k < n
      · have k0 : (0 : Int) ≤ (k : Int) := by omega
        have k1 : (k : Int) < (n : Int) := by omega
        obtain ⟨WK, hWK⟩ : ∃ W, W = wr := ⟨_, rfl⟩
        subst hWK
        go_wp2_with fail
        go_loopw [32] (fun vk wr => FlK M WK vk wr) (fun vk _ => M - (intOf vk).toNat)
        case atStart => exact ⟨0, rfl, Nat.zero_le _, Below.refl _ _⟩
        case round =>
          obtain ⟨m, rfl, hmM, HBm⟩ := hrel
          obtain ⟨WB, hWB⟩ : ∃ W, W = wr := ⟨_, rfl⟩
          subst hWB
          have HBr : Hid (Below W12.heap.size W12 WB) := below_thenF HBk.out HBm.out
          by_cases hm2 : m < M
          · have mm0 : (0 : Int) ≤ (m : Int) := by omega
            have mm1 : (m : Int) < (M : Int) := by omega
            obtain ⟨i, hin, hoi, co_⟩ := HCO.out WB HBr.out k hk2
            have hix := HIX.out i m hin hm2
            have ct := HCT.out WB HBr.out i m hin hm2
            have ce := HCE.out WB HBr.out k i m hk2 hoi hin hm2
            have fr := HFR.out k m hk2 hm2
            rw [hoi, Int.toNat_natCast] at fr
            have HC1 : Hid (∀ m', m' < M → WB.cell? ⟨gO, i * M + m', none⟩ = some (.int .i64 (fC ts M ord (k + 1) m'))) := fun m' h => HCE.out WB HBr.out k i m' hk2 hoi hin h
            have HTB := Lib.hid HTH.out
            have hpT : i * M + m < 16 := by have := HTH.out; omega
            have hTp : T ≤ 15 := by have := HTH.out; omega
            obtain ⟨p, hp⟩ : ∃ p, i * M = p := ⟨_, rfl⟩
            obtain ⟨x, hx⟩ : ∃ x, p + m = x := ⟨_, rfl⟩
            rw [hp, hx] at hix hpT ct ce
            rw [hp] at HC1
            have wp : IntKind.i64.wrap ((i : Int) * (M : Int)) = (p : Int) := by rw [← Int.natCast_mul, hp]; exact IntWalk.i64_in _ (by omega)
            have wx : IntKind.i64.wrap ((p : Int) + (m : Int)) = (x : Int) := by rw [← Int.natCast_add, hx]; exact IntWalk.i64_in _ (by omega)
            have wm : IntKind.i64.wrap ((m : Int) + 1) = (m : Int) + 1 := IntWalk.i64_in _ (by omega)
            have x0 : (0 : Int) ≤ (x : Int) := by omega
            have x1 : (x : Int) < (T : Int) := by omega
            obtain ⟨A0, hA0⟩ : ∃ A, atF ts M ord k m = A := ⟨_, rfl⟩
            obtain ⟨F0, hF0⟩ : ∃ F, fC ts M ord k m = F := ⟨_, rfl⟩
            obtain ⟨E0, hE0⟩ : ∃ E, fC ts M ord (k + 1) m = E := ⟨_, rfl⟩
            obtain ⟨t0, ht0⟩ : ∃ t, tF ts M i m = t := ⟨_, rfl⟩
            rw [hA0, hF0, hE0, ht0] at fr
            rw [hE0] at ce
            rw [ht0] at ct
            obtain ⟨fr1, fr2, fr3, fr4⟩ := fr
            have HE0 := Lib.hid (And.intro hA0 hF0)
            have HX := Lib.hid hx
            have HOI := Lib.hid hoi
            have HE1 := Lib.hid hp
            have HIN := Lib.hid hin
            clear hp hx hA0 hF0 hE0 ht0 hoi
            by_cases hm0 : m = 0
            · by_cases hk0 : k = 0
              ·
                have gm : ¬ (0 : Int) < (m : Int) := by omega
                have hA : A0 = 0 := by rw [← HE0.out.1, hm0]; rfl
                have gk : ¬ (0 : Int) < (k : Int) := by omega
                have hF : F0 = 0 := by rw [← HE0.out.2, hk0]; rfl
                have ws : IntKind.i64.wrap (E0 - t0) = 0 := by rw [fr1, hA, hF]; rfl
                clear hA hF
                clear fr1 fr2 fr3 fr4 HE0 HC1 hix hpT hm0 hk0
                go_wp2
                go_quiet (fail)
                go_wp2
                go_roundw
                case rel => exact ⟨m + 1, by go_num, by omega, (below_drewN _ HBm.out)⟩
                case measure => simp [intOf]; omega
              ·
                have gm : ¬ (0 : Int) < (m : Int) := by omega
                have hA : A0 = 0 := by rw [← HE0.out.1, hm0]; rfl
                have gk : (0 : Int) < (k : Int) := by omega
                obtain ⟨j, hjn, hoj, cj⟩ := HCO.out WB HBr.out (k - 1) (by omega)
                have cf := HCE.out WB HBr.out (k - 1) j m (by omega) hoj hjn hm2
                rw [show k - 1 + 1 = k by omega, HE0.out.2] at cf
                have hjx := HIX.out j m hjn hm2
                obtain ⟨q, hq⟩ : ∃ q, j * M = q := ⟨_, rfl⟩
                obtain ⟨v, hv⟩ : ∃ v, q + m = v := ⟨_, rfl⟩
                rw [hq, hv] at hjx cf
                obtain ⟨k', hk'⟩ : ∃ k', k - 1 = k' := ⟨_, rfl⟩
                rw [hk'] at cj
                have wk : IntKind.i64.wrap ((k : Int) - 1) = (k' : Int) := by rw [show ((k : Int) - 1) = (k' : Int) by omega]; exact IntWalk.i64_in _ (by omega)
                have kk0 : (0 : Int) ≤ (k' : Int) := by omega
                have kk1 : (k' : Int) < (n : Int) := by omega
                have wq : IntKind.i64.wrap ((j : Int) * (M : Int)) = (q : Int) := by rw [← Int.natCast_mul, hq]; exact IntWalk.i64_in _ (by omega)
                have wv : IntKind.i64.wrap ((q : Int) + (m : Int)) = (v : Int) := by rw [← Int.natCast_add, hv]; exact IntWalk.i64_in _ (by omega)
                have v0 : (0 : Int) ≤ (v : Int) := by omega
                have v1 : (v : Int) < (T : Int) := by omega
                clear hq hv hk' hoj hjn hjx
                have ws : IntKind.i64.wrap (E0 - t0) = F0 := by rw [fr1, hA]; rw [show max (0 : Int) F0 = F0 by omega]; exact IntWalk.i64_in _ (by omega)
                have hmx : max (0 : Int) F0 = F0 := by omega
                clear hA
                clear fr1 fr2 fr3 fr4 HE0 HC1 hix hpT hm0 hk0
                go_wp2
                go_quiet (fail)
                go_wp2
                go_roundw
                case rel => exact ⟨m + 1, by go_num, by omega, (below_drewN _ HBm.out)⟩
                case measure => simp [intOf]; omega
            · by_cases hk0 : k = 0
              ·
                have gm : (0 : Int) < (m : Int) := by omega
                have c1 := HC1.out (m - 1) (by omega)
                have hA : fC ts M ord (k + 1) (m - 1) = A0 := by rw [← HE0.out.1]; obtain ⟨m', rfl⟩ : ∃ m', m = m' + 1 := ⟨m - 1, by omega⟩; rfl
                rw [hA] at c1
                obtain ⟨y, hy⟩ : ∃ y, p + (m - 1) = y := ⟨_, rfl⟩
                rw [hy] at c1
                have hyx : y + 1 = x := by have := HX.out; omega
                have wy : IntKind.i64.wrap ((x : Int) - 1) = (y : Int) := by rw [show ((x : Int) - 1) = (y : Int) by omega]; exact IntWalk.i64_in _ (by omega)
                have y0 : (0 : Int) ≤ (y : Int) := by omega
                have y1 : (y : Int) < (T : Int) := by omega
                clear hy hA hyx
                have gk : ¬ (0 : Int) < (k : Int) := by omega
                have hF : F0 = 0 := by rw [← HE0.out.2, hk0]; rfl
                have ws : IntKind.i64.wrap (E0 - t0) = A0 := by rw [fr1, hF]; rw [show max A0 (0 : Int) = A0 by omega]; exact IntWalk.i64_in _ (by omega)
                clear hF
                clear fr1 fr2 fr3 fr4 HE0 HC1 hix hpT hm0 hk0
                go_wp2
                go_quiet (fail)
                go_wp2
                go_roundw
                case rel => exact ⟨m + 1, by go_num, by omega, (below_drewN _ HBm.out)⟩
                case measure => simp [intOf]; omega
              ·
                have gm : (0 : Int) < (m : Int) := by omega
                have c1 := HC1.out (m - 1) (by omega)
                have hA : fC ts M ord (k + 1) (m - 1) = A0 := by rw [← HE0.out.1]; obtain ⟨m', rfl⟩ : ∃ m', m = m' + 1 := ⟨m - 1, by omega⟩; rfl
                rw [hA] at c1
                obtain ⟨y, hy⟩ : ∃ y, p + (m - 1) = y := ⟨_, rfl⟩
                rw [hy] at c1
                have hyx : y + 1 = x := by have := HX.out; omega
                have wy : IntKind.i64.wrap ((x : Int) - 1) = (y : Int) := by rw [show ((x : Int) - 1) = (y : Int) by omega]; exact IntWalk.i64_in _ (by omega)
                have y0 : (0 : Int) ≤ (y : Int) := by omega
                have y1 : (y : Int) < (T : Int) := by omega
                clear hy hA hyx
                have gk : (0 : Int) < (k : Int) := by omega
                obtain ⟨j, hjn, hoj, cj⟩ := HCO.out WB HBr.out (k - 1) (by omega)
                have cf := HCE.out WB HBr.out (k - 1) j m (by omega) hoj hjn hm2
                rw [show k - 1 + 1 = k by omega, HE0.out.2] at cf
                have hjx := HIX.out j m hjn hm2
                obtain ⟨q, hq⟩ : ∃ q, j * M = q := ⟨_, rfl⟩
                obtain ⟨v, hv⟩ : ∃ v, q + m = v := ⟨_, rfl⟩
                rw [hq, hv] at hjx cf
                obtain ⟨k', hk'⟩ : ∃ k', k - 1 = k' := ⟨_, rfl⟩
                rw [hk'] at cj
                have wk : IntKind.i64.wrap ((k : Int) - 1) = (k' : Int) := by rw [show ((k : Int) - 1) = (k' : Int) by omega]; exact IntWalk.i64_in _ (by omega)
                have kk0 : (0 : Int) ≤ (k' : Int) := by omega
                have kk1 : (k' : Int) < (n : Int) := by omega
                have wq : IntKind.i64.wrap ((j : Int) * (M : Int)) = (q : Int) := by rw [← Int.natCast_mul, hq]; exact IntWalk.i64_in _ (by omega)
                have wv : IntKind.i64.wrap ((q : Int) + (m : Int)) = (v : Int) := by rw [← Int.natCast_add, hv]; exact IntWalk.i64_in _ (by omega)
                have v0 : (0 : Int) ≤ (v : Int) := by omega
                have v1 : (v : Int) < (T : Int) := by omega
                clear hq hv hk' hoj hjn hjx
                obtain ⟨s, hmx⟩ : ∃ s, max A0 F0 = s := ⟨_, rfl⟩
                have ws : IntKind.i64.wrap (E0 - t0) = s := by rw [fr1, hmx]; exact IntWalk.i64_in _ (by omega)
                clear fr1 fr2 fr3 fr4 HE0 HC1 hix hpT hm0 hk0
                go_wp2
                go_quiet (fail)
                go_wp2
                go_roundw
                case rel => exact ⟨m + 1, by go_num, by omega, (below_drewN _ HBm.out)⟩
                case measure => simp [intOf]; omega
          · have mm1 : ¬ (m : Int) < (M : Int) := by omega
            clear HBm hmM
            go_wp2
            go_roundw
            case rel => exact ⟨k + 1, by go_num, by omega, HBr.out⟩
            case measure => simp [intOf]; omega
      · have k1 : ¬ (k : Int) < (n : Int) := by omega
        obtain ⟨WB, hWB⟩ : ∃ W, W = wr := ⟨_, rfl⟩
        subst hWB
        obtain ⟨i, hin, hoi, co_⟩ := HCO.out WB HBk.out (n - 1) (by omega)
        have cl := HCE.out WB HBk.out (n - 1) i (M - 1) (by omega) hoi hin (by omega)
        rw [show n - 1 + 1 = n by omega, ← HLV.out.1] at cl
        have HRV : Hid (rush = sF (tF ts M i) M + nwS ts M ord (n - 1)) := by
          have h := HLV.out.2
          rw [hoi, Int.toNat_natCast] at h
          exact h
        have hix := HIX.out i (M - 1) hin (by omega)
        have hTp : T ≤ 15 := by have := HTH.out; omega
        obtain ⟨k', hk'⟩ : ∃ k', n - 1 = k' := ⟨_, rfl⟩
        obtain ⟨p, hp⟩ : ∃ p, i * M = p := ⟨_, rfl⟩
        obtain ⟨x, hx⟩ : ∃ x, p + (M - 1) = x := ⟨_, rfl⟩
        obtain ⟨pm, hpm⟩ : ∃ x, p + M = x := ⟨_, rfl⟩
        rw [hp, hx] at hix cl
        rw [hk'] at co_ HRV hoi
        have wk : IntKind.i64.wrap ((n : Int) - 1) = (k' : Int) := by rw [show ((n : Int) - 1) = (k' : Int) by omega]; exact IntWalk.i64_in _ (by omega)
        have kk0 : (0 : Int) ≤ (k' : Int) := by omega
        have kk1 : (k' : Int) < (n : Int) := by omega
        have wp : IntKind.i64.wrap ((i : Int) * (M : Int)) = (p : Int) := by rw [← Int.natCast_mul, hp]; exact IntWalk.i64_in _ (by omega)
        have wpm : IntKind.i64.wrap ((p : Int) + (M : Int)) = (pm : Int) := by rw [← Int.natCast_add, hpm]; exact IntWalk.i64_in _ (by omega)
        have wx : IntKind.i64.wrap ((pm : Int) - 1) = (x : Int) := by rw [show ((pm : Int) - 1) = (x : Int) by omega]; exact IntWalk.i64_in _ (by omega)
        have x0 : (0 : Int) ≤ (x : Int) := by omega
        have x1 : (x : Int) < (T : Int) := by omega
        have HKN : Hid (k' + 1 = n ∧ i * M = p) := ⟨by omega, hp⟩
        have HCI : Hid (∀ W, Below WB.heap.size WB W → W.cell? ⟨go, k', none⟩ = some (.int .i64 i)) := fun W hW => (hW.cell (p := ⟨go, k', none⟩) (lt_of_cell co_)).trans co_
        have HIN := Lib.hid hin
        clear hkn hk2 hp hx hpm hk' hoi hix hin HCE HFR HLV
        go_wp2_with fail
        clear cl wpm wx x0 x1 co_ k1
        go_loopw [35, 36] (fun vs vk wr => FlS (sF (tF ts M i)) M 0 WB vs vk wr) (fun _ vk _ => M - (intOf vk).toNat)
        case atStart => exact ⟨0, rfl, Nat.le_refl _, Nat.zero_le _, rfl, Below.refl _ _⟩
        case round =>
          obtain ⟨m, rfl, _, hmM, rfl, HBm⟩ := hrel
          by_cases hm2 : m < M
          · have mm0 : (0 : Int) ≤ (m : Int) := by omega
            have mm1 : (m : Int) < (M : Int) := by omega
            have ci := HCI.out wr HBm.out
            have ct := HCT.out wr (below_thenF HBk.out HBm.out) i m HIN.out hm2
            have hix := HIX.out i m HIN.out hm2
            obtain ⟨x, hx⟩ : ∃ x, p + m = x := ⟨_, rfl⟩
            rw [HKN.out.2, hx] at hix ct
            have wx : IntKind.i64.wrap ((p : Int) + (m : Int)) = (x : Int) := by rw [← Int.natCast_add, hx]; exact IntWalk.i64_in _ (by omega)
            have x0 : (0 : Int) ≤ (x : Int) := by omega
            have x1 : (x : Int) < (T : Int) := by omega
            have wm : IntKind.i64.wrap ((m : Int) + 1) = (m : Int) + 1 := IntWalk.i64_in _ (by omega)
            have hb1 := HSB.out i (m + 1) HIN.out (by omega)
            have HSS : Hid (sF (tF ts M i) (m + 1) = sF (tF ts M i) m + tF ts M i m) := rfl
            rw [HSS.out] at hb1
            obtain ⟨S, hS⟩ : ∃ s, sF (tF ts M i) m = s := ⟨_, rfl⟩
            obtain ⟨t, ht⟩ : ∃ s, tF ts M i m = s := ⟨_, rfl⟩
            rw [hS, ht] at HSS hb1
            rw [ht] at ct
            rw [hS]
            have ws : IntKind.i64.wrap (S + t) = S + t := IntWalk.i64_in _ (by omega)
            clear hx hix hb1 hS ht hm2
            go_wp2
            go_roundw
            case rel => exact ⟨m + 1, by go_num, Nat.zero_le _, by omega, by rw [HSS.out], HBm.out⟩
            case measure => simp [intOf]; omega
          · obtain rfl : m = M := by omega
            have mm1 : ¬ (m : Int) < (m : Int) := by omega
            have hS0 := HSB.out i m HIN.out (Nat.le_refl _)
            have HBn : Hid (Below W12.heap.size W12 wr) := below_thenF HBk.out HBm.out
            obtain ⟨S0, hS0e⟩ : ∃ s, sF (tF ts m i) m = s := ⟨_, rfl⟩
            rw [hS0e] at HRV hS0
            rw [hS0e]
            clear hS0e HBm HCI HCT HSB HIX hmM wp wk HIN
            obtain ⟨WC, hWC⟩ : ∃ W, W = wr := ⟨_, rfl⟩
            subst hWC
            go_wp2_with fail
            go_loopw [35, 37] (fun vs vk wr => FlS (gsF S0 ts m ord) n 1 WC vs vk wr) (fun _ vk _ => n - (intOf vk).toNat)
            case atStart => exact ⟨1, rfl, Nat.le_refl _, h1, by rw [gsF_1], Below.refl _ _⟩
            case round =>
              obtain ⟨k, rfl, hk1, hkn, rfl, HBm⟩ := hrel
              have HBr : Hid (Below W12.heap.size W12 wr) := below_thenF HBn.out HBm.out
              by_cases hk2 : k < n
              · have k0 : (0 : Int) ≤ (k : Int) := by omega
                have k1 : (k : Int) < (n : Int) := by omega
                obtain ⟨u, hun, hou, cu⟩ := HCO.out wr HBr.out (k - 1) (by omega)
                obtain ⟨j, hjn, hoj, cj⟩ := HCO.out wr HBr.out k hk2
                have cg := HCG.out wr HBr.out u j hun hjn
                have hne : u ≠ j := fun e => HNE.out (k - 1) k (by omega) hk2 (by rw [hou, hoj, e])
                have hzx := HIZ.out u j hun hjn
                have hzp : z ≤ 25 := by have := HTH.out; omega
                have hgb := HGB.out u j hun hjn
                have hgG : gapG ts m u j = gapF ts m u j := by unfold gapG; rw [if_neg hne]
                have hwb := HWB.out k hk2
                have HSS : Hid (gsF S0 ts m ord (k + 1) = gsF S0 ts m ord k + gapF ts m u j) := gsF_succ (by omega) hou hoj
                have hgs : gsF S0 ts m ord (k + 1) = S0 + nwS ts m ord k := rfl
                rw [HSS.out] at hgs
                rw [hgG] at cg
                obtain ⟨q, hq⟩ : ∃ q, u * n = q := ⟨_, rfl⟩
                obtain ⟨v, hv⟩ : ∃ v, q + j = v := ⟨_, rfl⟩
                rw [hq, hv] at cg hzx
                obtain ⟨k'', hk''⟩ : ∃ k'', k - 1 = k'' := ⟨_, rfl⟩
                rw [hk''] at cu
                have wk : IntKind.i64.wrap ((k : Int) - 1) = (k'' : Int) := by rw [show ((k : Int) - 1) = (k'' : Int) by omega]; exact IntWalk.i64_in _ (by omega)
                have wkp : IntKind.i64.wrap ((k : Int) + 1) = (k : Int) + 1 := IntWalk.i64_in _ (by omega)
                have kk0 : (0 : Int) ≤ (k'' : Int) := by omega
                have kk1 : (k'' : Int) < (n : Int) := by omega
                have wq : IntKind.i64.wrap ((u : Int) * (n : Int)) = (q : Int) := by rw [← Int.natCast_mul, hq]; exact IntWalk.i64_in _ (by omega)
                have wv : IntKind.i64.wrap ((q : Int) + (j : Int)) = (v : Int) := by rw [← Int.natCast_add, hv]; exact IntWalk.i64_in _ (by omega)
                have v0 : (0 : Int) ≤ (v : Int) := by omega
                have v1 : (v : Int) < (z : Int) := by omega
                obtain ⟨G, hG⟩ : ∃ s, gsF S0 ts m ord k = s := ⟨_, rfl⟩
                obtain ⟨t, ht⟩ : ∃ s, gapF ts m u j = s := ⟨_, rfl⟩
                rw [hG, ht] at HSS hgs
                rw [ht] at cg hgb
                rw [hG]
                have ws : IntKind.i64.wrap (G + t) = G + t := IntWalk.i64_in _ (by rw [hgs]; omega)
                clear hq hv hk'' hou hoj hun hjn hne hzx hgb hgG hwb hgs hG ht hk2
                go_wp2
                go_quiet (fail)
                go_wp2
                go_roundw
                case rel => exact ⟨k + 1, by go_num, by omega, by omega, by rw [HSS.out], (below_drewN _ HBm.out)⟩
                case measure => simp [intOf]; omega
              · obtain rfl : k = n := by omega
                have k1 : ¬ (k : Int) < (k : Int) := by omega
                have HRS : Hid (gsF S0 ts m ord k = rush) := by
                  show _ = _
                  rw [HRV.out, ← HKN.out.1]
                  rfl
                rw [HRS.out]
                obtain ⟨T2, hT2⟩ : ∃ t, k * 2 = t := ⟨_, rfl⟩
                have wP : IntKind.i64.wrap (2 * (k : Int)) = (T2 : Int) := by rw [show 2 * (k : Int) = (T2 : Int) by omega]; exact IntWalk.i64_in _ (by omega)
                have HBw : Hid (Below w.heap.size w wr) := below_thenF HB12w.out HBr.out
                have HB2 : Hid (Below W2.heap.size W2 wr) := below_thenF HB12.out HBr.out
                have HC := Lib.hid (HT2.out T2 wr (by omega) HBw.out)
                have HTT2 : Hid (T2 = k * 2) := hT2.symm
                clear hT2 HRV HRS hkn hk1 hk2 HCO HCG HNE HIZ HGB HWB HTH HBm HBn HT2 HB12 HB12w
                go_wp2_with fail
                refine HC.out.mono ?_
                rintro e V1 ⟨⟨g2, c2, rfl, ps, hps, hdp⟩, hb1⟩
                have HX1 : Hid (Below W2.heap.size W2 V1) := below_thenF HB2.out hb1
                have HY1 : Hid (Below w.heap.size w V1) := below_thenF HBw.out hb1
                obtain ⟨exact_, hP⟩ := flP ps k g2 T2 c2 V1 hps hdp HTT2.out h1 h5
                have HP := Lib.hid hP
                clear hps hdp hb1 hP HC HB2 HBw
                have HC := Lib.hid (HP.out.tw V1 (Below.refl _ _))
                go_wp2_with fail
                refine HC.out.mono ?_
                rintro e V2 ⟨⟨gt, ct, rfl, hsh⟩, hb2⟩
                have HX2 : Hid (Below W2.heap.size W2 V2) := below_thenF HX1.out hb2
                have HY2 : Hid (Below w.heap.size w V2) := below_thenF HY1.out hb2
                have HZ2 := Lib.hid hb2
                have HC2 := Lib.hid (HP.out.fl gt ct V2 hb2 hsh)
                clear hsh hb2 HC HX1 HY1
                go_wp2_with fail
                refine HC2.out.mono ?_
                rintro e V3 ⟨rfl, hb3⟩
                have HX3 : Hid (Below W2.heap.size W2 V3) := below_thenF HX2.out hb3
                have HY3 : Hid (Below w.heap.size w V3) := below_thenF HY2.out hb3
                have HC := Lib.hid (HP.out.bf V3 (below_thenF HZ2.out hb3))
                clear hb3 HC2 HX2 HY2 HZ2
                go_wp2_with fail
                refine HC.out.mono ?_
                rintro e V4 ⟨⟨gq, cq, rfl⟩, hb4⟩
                have HX4 : Hid (Below W2.heap.size W2 V4) := below_thenF HX3.out hb4
                have HY4 : Hid (Below w.heap.size w V4) := below_thenF HY3.out hb4
                clear hb4 HC HX3 HY3 HP
                have HX5 : Hid (Below W2.heap.size W2 (V4.alloc (.cells #[.slice (some ⟨g0, 0, none⟩) T c0] 25)) ∧ Below w.heap.size w (V4.alloc (.cells #[.slice (some ⟨g0, 0, none⟩) T c0] 25)) ∧ (V4.alloc (.cells #[.slice (some ⟨g0, 0, none⟩) T c0] 25)).cell? ⟨V4.heap.size, 0, none⟩ = some (.slice (some ⟨g0, 0, none⟩) T c0)) :=
                  ⟨HX4.out.alloc HX4.out.size _, HY4.out.alloc HY4.out.size _, by simp [go_sem]⟩
                clear HX4 HY4
                go_wp2_with fail
                refine (HAT.out _ _ _ HX5.out.2.1 (by omega) (by omega) (by omega) (by omega)).mono ?_
                rintro e w' ⟨⟨x2, rfl, hxa, hxb⟩, rfl⟩
                have w8 : IntKind.i64.wrap (1 + x2) = 1 + x2 := IntWalk.i64_in _ (by omega)
                have HC := Lib.hid (HFS.out V4.heap.size 1 (1 + x2) _ HX5.out.1 (Nat.le_refl _) HX5.out.2.2 (by omega))
                clear HFS HAT hxa hxb
                go_wp2_with fail
                refine HC.out.mono ?_
                rintro e V6 ⟨⟨gs, cs, rfl, csh⟩, hb6⟩
                have HF : Hid (Below w.heap.size w V6) := below_thenF HX5.out.2.1 hb6
                clear hb6 HC HX5
                go_wp2
                go_ret
                exact ⟨rfl, HF.out⟩
  · have HLG := Lib.hid (r8Long_any _ _ xs ys _ hv0 hv1)
    rw [hlong] at HLG
    clear hlong hv0 hv1
    go_enter Try.func3, Try.ntmps3
    go_wp2_with fail
    refine HLG.out.mono ?_
    rintro e w' ⟨rfl, rfl⟩
    go_wp2
    go_ret
    exact ⟨rfl, Below.refl _ _⟩
end Go.Proofs.Ytckdfahbhagoaaa
