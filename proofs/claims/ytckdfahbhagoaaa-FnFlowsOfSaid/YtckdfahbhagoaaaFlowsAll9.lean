/- Which numbers stand in a list, as bools: plain law. Conditions: none. With texts that it needs. -/
import Derived.Test.YtckdfahbhagoaaaFlowsAll7
import Derived.Test.YtckdfahbhagoaaaFlowsAll4
import Derived.Test.YtckdfahbhagoaaaFlowsAll8
import Derived.Test.YtckdfahbhagoaaaFlowsAll6
import Derived.Test.YtckdfahbhagoaaaFlowsAll2
import Derived.Laws.CopyOwn
import Derived.Laws.Externs
import Derived.Lib.Overlaps
import Derived.Lib.AppendZerosOnto
import Derived.Deep.RegionLaw
import Derived.Test.YtckdfahbhagoaaaFlowsAll1
namespace Go.Proofs.Ytckdfahbhagoaaa
open Go.RowKit
set_option linter.unusedVariables false
set_option linter.unusedSimpArgs false

/-- The least of the first ones, -1 of none. -/
def mnTo (f : Nat → Int) : Nat → Int
  | 0 => -1
  | i + 1 => if mnTo f i < 0 ∨ f i < mnTo f i then f i else mnTo f i
theorem mnTo_spec {f : Nat → Int} : ∀ n, (∀ i, i < n → 0 ≤ f i) → (n = 0 ∧ mnTo f n = -1) ∨ (0 ≤ mnTo f n ∧ ∀ i, i < n → mnTo f n ≤ f i)
  | 0, _ => .inl ⟨rfl, rfl⟩
  | n + 1, h => by
    have hn := h n (by omega)
    refine .inr ?_
    unfold mnTo
    rcases mnTo_spec n (fun i hi => h i (by omega)) with ⟨h1, h2⟩ | ⟨h1, h2⟩
    · subst h1
      rw [h2, if_pos (.inl (by omega))]
      refine ⟨hn, fun i hi => ?_⟩
      obtain rfl : i = 0 := by omega
      exact Int.le_refl _
    · by_cases hc : mnTo f n < 0 ∨ f n < mnTo f n
      · rw [if_pos hc]
        refine ⟨hn, fun i hi => ?_⟩
        by_cases e : i = n
        · subst e; exact Int.le_refl _
        · have := h2 i (by omega)
          rcases hc with hc | hc <;> omega
      · rw [if_neg hc]
        refine ⟨h1, fun i hi => ?_⟩
        by_cases e : i = n
        · subst e; omega
        · exact h2 i (by omega)
def hdF (ts : List Int) (M m i : Nat) : Int := sF (tF ts M i) m
def tlF (ts : List Int) (M m i : Nat) : Int := sF (fun j => tF ts M i (m + 1 + j)) (M - (m + 1))
def onF (ts : List Int) (M n m : Nat) : Int := sF (fun i => tF ts M i m) n
def bdTo (ts : List Int) (M n : Nat) : Nat → Int
  | 0 => 0
  | m + 1 => max (bdTo ts M n m) (onF ts M n m + mnTo (hdF ts M m) n + mnTo (tlF ts M m) n)
theorem bdTo_le {ts : List Int} {M n : Nat} {E : List Int} (hok : ShopOk ts M n) (hE : E.Perm (idL n)) : ∀ k, k ≤ M → bdTo ts M n k ≤ fL ts M E
  | 0, _ => by
    have hT := hok.tmF (ordOkF_perm hE).el
    have h1 := hok.m1
    exact (fC_bounds hT E.length (Nat.le_refl _) (M - 1) (by omega)).1
  | m + 1, hm => by
    have ih := bdTo_le hok hE m (by omega)
    have hT := hok.tmF (ordOkF_perm hE).el
    have hn1 := hok.n1
    have hh : ∀ i, i < n → 0 ≤ hdF ts M m i := fun i hi => sF_nn _ (fun q hq => by have := hok.at_ hi (show q < M by omega); omega)
    have ht : ∀ i, i < n → 0 ≤ tlF ts M m i := fun i hi => sF_nn _ (fun q hq => by have := hok.at_ hi (show m + 1 + q < M by omega); omega)
    have h1 : mnTo (hdF ts M m) n ≥ 0 ∧ ∀ i, i < n → mnTo (hdF ts M m) n ≤ hdF ts M m i := by
      rcases mnTo_spec n hh with ⟨h, _⟩ | ⟨h, k⟩
      · omega
      · exact ⟨h, k⟩
    have h2 : mnTo (tlF ts M m) n ≥ 0 ∧ ∀ i, i < n → mnTo (tlF ts M m) n ≤ tlF ts M m i := by
      rcases mnTo_spec n ht with ⟨h, _⟩ | ⟨h, k⟩
      · omega
      · exact ⟨h, k⟩
    have h3 := fL_bound hE hT hn1 (show m < M by omega) (b := mnTo (hdF ts M m) n) (d := mnTo (tlF ts M m) n) h1.2 (fun i hi => by
      have h := h2.2 i hi
      have e : tlF ts M m i = sF (fun j => tF ts M i (m + 1 + j)) (M - 1 - m) := by show sF _ (M - (m + 1)) = _; rw [show M - (m + 1) = M - 1 - m by omega]
      rwa [e] at h)
    have h4 : onF ts M n m = sF (fun i => tF ts M i m) n := rfl
    unfold bdTo
    omega
def FbO (ts : List Int) (M n : Nat) (w : World) (vb vm : Value) (wr : World) : Prop :=
  ∃ m : Nat, vm = .int .i64 m ∧ m ≤ M ∧ vb = .int .i64 (bdTo ts M n m) ∧ Hid (Below w.heap.size w wr)
def FbN (ts : List Int) (M n m : Nat) (w : World) (vh vt vi : Value) (wr : World) : Prop :=
  ∃ i : Nat, vi = .int .i64 i ∧ i ≤ n ∧ vh = .int .i64 (mnTo (hdF ts M m) i) ∧ vt = .int .i64 (mnTo (tlF ts M m) i) ∧ Hid (Below w.heap.size w wr)
theorem mnTo_bound {f : Nat → Int} {B : Int} (hB : 0 ≤ B) : ∀ n, (∀ i, i < n → 0 ≤ f i ∧ f i ≤ B) → -1 ≤ mnTo f n ∧ mnTo f n ≤ B
  | 0, _ => by show (-1 : Int) ≤ -1 ∧ (-1 : Int) ≤ B; omega
  | n + 1, h => by
    have h1 := mnTo_bound hB n (fun i hi => h i (by omega))
    have h2 := h n (by omega)
    unfold mnTo
    split <;> omega
set_option maxRecDepth 100000 in
set_option maxHeartbeats 2000000 in
theorem FlowBound_any (b o T c M n : Nat) (ts : List Int) (w : World) (hv : ShW w b o T c ts) (hok : ShopOk ts M n) :
    Calls Try.prog 11 #[.slice (some ⟨b, o, none⟩) T c, .int .i64 M] w fun e w' => e = .returned (.tuple #[.int .i64 (bdTo ts M n M), .bool true]) ∧ Below w.heap.size w w' := by
  have hm1 := hok.m1
  have hm8 := hok.m8
  have hn24 := hok.n24
  have hTM : T = n * M := by rw [hv.len, hok.len]
  have hbig := hok.big
  rw [← hTM] at hbig
  have hcap := hv.cap
  have HAS := Lib.hid (asShop_any b o T c ts M n w (hv.ints (by omega)) hok)
  have HON : Hid (∀ m W, m < M → Below w.heap.size w W → Calls Try.prog 27 #[shV b o T c n M, .int .i64 m] W fun e w' => e = .returned (.int .i64 (onF ts M n m)) ∧ Below W.heap.size W w') := fun m W hm hW => shOn_any b o T c M n m ts W (hv.below hW) hok hm
  have HS1 : Hid (∀ i m c' W, i < n → m < M → M ≤ c' → Below w.heap.size w W → Calls Try.prog 26 #[.slice (some ⟨b, o + i * M, none⟩) m c'] W fun e w' => e = .returned (.int .i64 (hdF ts M m i)) ∧ W = w') := fun i m c' W hi hm hc hW => by
    have hv2 := hv.below hW
    refine sumOf2_any b (o + i * M) m c' (tF ts M i) W ⟨fun j hj => ?_, fun j hj => ?_, by omega, by omega⟩
    · have h := hv2.cell (i * M + j) (by rw [hTM]; exact ix_lt hi (by omega))
      rw [← Nat.add_assoc] at h
      exact h
    · have := hok.at_ hi (show j < M by omega); omega
  have HS2 : Hid (∀ i m o' c' W, i < n → m < M → (M - (m + 1) = 0 ∨ o' = o + i * M + (m + 1)) → M - (m + 1) ≤ c' → Below w.heap.size w W → Calls Try.prog 26 #[.slice (some ⟨b, o', none⟩) (M - (m + 1)) c'] W fun e w' => e = .returned (.int .i64 (tlF ts M m i)) ∧ W = w') := fun i m o' c' W hi hm ho hc hW => by
    have hv2 := hv.below hW
    refine sumOf2_any b o' (M - (m + 1)) c' (fun j => tF ts M i (m + 1 + j)) W ⟨fun j hj => ?_, fun j hj => ?_, by omega, hc⟩
    · rcases ho with ho | ho
      · omega
      · have h := hv2.cell (i * M + (m + 1 + j)) (by rw [hTM]; exact ix_lt hi (by omega))
        rw [ho, show o + i * M + (m + 1) + j = o + (i * M + (m + 1 + j)) by omega]
        exact h
    · have := hok.at_ hi (show m + 1 + j < M by omega); omega
  have HHB : Hid (∀ m i, m ≤ M → i < n → 0 ≤ hdF ts M m i ∧ hdF ts M m i ≤ 80000) := fun m i hm hi => by
    have h := sF_bound (f := tF ts M i) m (fun q hq => by have := hok.at_ hi (show q < M by omega); omega)
    show 0 ≤ sF (tF ts M i) m ∧ sF (tF ts M i) m ≤ _; omega
  have HTB : Hid (∀ m i, m < M → i < n → 0 ≤ tlF ts M m i ∧ tlF ts M m i ≤ 80000) := fun m i hm hi => by
    have h := sF_bound (f := fun j => tF ts M i (m + 1 + j)) (M - (m + 1)) (fun q hq => by have := hok.at_ hi (show m + 1 + q < M by omega); omega)
    show 0 ≤ sF (fun j => tF ts M i (m + 1 + j)) (M - (m + 1)) ∧ sF (fun j => tF ts M i (m + 1 + j)) (M - (m + 1)) ≤ _; omega
  have HOB : Hid (∀ m, m < M → 0 ≤ onF ts M n m ∧ onF ts M n m ≤ 240000) := fun m hm => by
    have h := sF_bound (f := fun i => tF ts M i m) n (fun q hq => by have := hok.at_ hq hm; omega)
    show 0 ≤ sF (fun i => tF ts M i m) n ∧ sF (fun i => tF ts M i m) n ≤ _; omega
  have HIX : Hid (∀ i, i < n → i * M + M ≤ T ∧ ((i : Int) * (M : Int)) = ((i * M : Nat) : Int) ∧ (((i : Int) + 1) * (M : Int)) = ((i * M + M : Nat) : Int)) := fun i hi => by
    have hle : (i + 1) * M ≤ n * M := Nat.mul_le_mul_right M hi
    rw [Nat.add_mul, Nat.one_mul, ← hTM] at hle
    refine ⟨hle, (Int.natCast_mul i M).symm, ?_⟩
    rw [Int.natCast_add, Int.natCast_mul, Int.add_mul, Int.one_mul]
  unfold shV at HAS
  clear hv hok hTM
  go_enter Try.func11, Try.ntmps11
  go_wp2_with fail
  refine HAS.out.mono ?_
  rintro e W2 ⟨rfl, hb2⟩
  have HB2 := Lib.hid hb2
  clear hb2 HAS
  obtain ⟨q, hq⟩ : ∃ q, W2.heap.size = q := ⟨_, rfl⟩
  go_upto_region 4 with fail
  obtain ⟨W3, hW3⟩ : ∃ W, W2.alloc (.cells #[.slice (some ⟨b, o, none⟩) T c, .int .i64 n, .int .i64 M] 43) = W := ⟨_, rfl⟩
  have HB3 : Hid (Below w.heap.size w W3) := by show Below _ _ _; rw [← hW3]; exact HB2.out.alloc HB2.out.size _
  have HX3 : Hid (BoxS W3 q b o T c n M) := by show BoxS _ _ _ _ _ _ _ _; rw [← hW3, ← hq]; exact BoxS.new W2 b o T c n M
  have HQ3 : Hid (q < W3.heap.size) := by show _ < _; rw [← hW3]; simp; omega
  rw [hW3]
  clear hW3 hq
  have x2 := HX3.out.c2
  have HR0 : Hid (FbO ts M n W3 (.int .i64 0) (.int .i64 0) W3) := ⟨0, rfl, Nat.zero_le _, rfl, Below.refl _ _⟩
  go_wp2
  clear x2
  go_loopw [8, 26] (fun vb vm wr => FbO ts M n W3 vb vm wr) (fun _ vm _ => M - (intOf vm).toNat)
  case atStart => exact HR0.out
  case round =>
    obtain ⟨m, rfl, hmM, rfl, HB⟩ := hrel
    clear HR0
    have HBw : Hid (Below w.heap.size w wr) := HB3.out.trans (HB.out.mono HB3.out.size)
    have hX := HX3.out.below HB.out HQ3.out
    have x1 := hX.c1
    by_cases hm2 : m < M
    · have m0 : (0 : Int) ≤ (m : Int) := by omega
      have m1 : (m : Int) < (M : Int) := by omega
      have HN0 : Hid (FbN ts M n m W3 (.int .i64 (-1)) (.int .i64 (-1)) (.int .i64 0) wr) := ⟨0, rfl, Nat.zero_le _, rfl, rfl, HB.out⟩
      obtain ⟨BD, hBD⟩ : ∃ x, bdTo ts M n m = x := ⟨_, rfl⟩
      have HBD := Lib.hid hBD
      rw [hBD]
      clear hX HB HBw hBD
      go_wp2_with fail
      clear x1
      go_loopw [10, 11, 31] (fun vh vt vi wr => FbN ts M n m W3 vh vt vi wr) (fun _ _ vi _ => n - (intOf vi).toNat)
      case atStart => exact HN0.out
      case round =>
        obtain ⟨i, rfl, hin, rfl, rfl, HB⟩ := hrel
        clear HN0
        have HBw : Hid (Below w.heap.size w wr) := HB3.out.trans (HB.out.mono HB3.out.size)
        have hX := HX3.out.below HB.out HQ3.out
        have x0 := hX.c0
        have x1 := hX.c1
        have x2 := hX.c2
        by_cases hi2 : i < n
        · have i0 : (0 : Int) ≤ (i : Int) := by omega
          have i1 : (i : Int) < (n : Int) := by omega
          obtain ⟨hle, hp, hp2⟩ := HIX.out i hi2
          have hh := HHB.out m i hmM hi2
          have ht := HTB.out m i hm2 hi2
          have HH : Hid (mnTo (hdF ts M m) (i + 1) = if mnTo (hdF ts M m) i < 0 ∨ hdF ts M m i < mnTo (hdF ts M m) i then hdF ts M m i else mnTo (hdF ts M m) i) := rfl
          have HTT : Hid (mnTo (tlF ts M m) (i + 1) = if mnTo (tlF ts M m) i < 0 ∨ tlF ts M m i < mnTo (tlF ts M m) i then tlF ts M m i else mnTo (tlF ts M m) i) := rfl
          have HC1 := Lib.hid (HS1.out i m (c - i * M) wr hi2 hm2 (by omega) HBw.out)
          have HC2 : Hid (∀ o' c', (M - (m + 1) = 0 ∨ o' = o + i * M + (m + 1)) → M - (m + 1) ≤ c' → Calls Try.prog 26 #[.slice (some ⟨b, o', none⟩) (M - (m + 1)) c'] wr fun e w' => e = .returned (.int .i64 (tlF ts M m i)) ∧ wr = w') := fun o' c' h1 h2 => HS2.out i m o' c' wr hi2 hm2 h1 h2 HBw.out
          obtain ⟨p, hpe⟩ : ∃ p, i * M = p := ⟨_, rfl⟩
          rw [hpe] at hle hp hp2 HC1 HC2
          have w1 : IntKind.i64.wrap ((i : Int) * (M : Int)) = (p : Int) := by rw [hp]; exact IntWalk.i64_in _ (by omega)
          have w2 : IntKind.i64.wrap (((i : Int) + 1) * (M : Int)) = ((p + M : Nat) : Int) := by rw [hp2]; exact IntWalk.i64_in _ (by omega)
          have w3 : IntKind.i64.wrap ((i : Int) + 1) = (i : Int) + 1 := IntWalk.i64_in _ (by omega)
          have w4 : IntKind.i64.wrap ((m : Int) + 1) = (m : Int) + 1 := IntWalk.i64_in _ (by omega)
          have hpm : p + M - p = M := by omega
          have HSG : Hid ((i = 0 ∧ mnTo (hdF ts M m) i = -1 ∧ mnTo (tlF ts M m) i = -1) ∨ (0 ≤ mnTo (hdF ts M m) i ∧ 0 ≤ mnTo (tlF ts M m) i)) := by
            show _ ∨ _
            rcases mnTo_spec (f := hdF ts M m) i (fun j hj => (HHB.out m j hmM (by omega)).1) with ⟨e1, e2⟩ | ⟨e1, _⟩
            · rcases mnTo_spec (f := tlF ts M m) i (fun j hj => (HTB.out m j hm2 (by omega)).1) with ⟨e3, e4⟩ | ⟨e3, e4⟩
              · exact .inl ⟨e1, e2, e4⟩
              · subst e1; exact .inl ⟨rfl, rfl, rfl⟩
            · rcases mnTo_spec (f := tlF ts M m) i (fun j hj => (HTB.out m j hm2 (by omega)).1) with ⟨e3, e4⟩ | ⟨e3, e4⟩
              · subst e3; exact .inl ⟨rfl, rfl, rfl⟩
              · exact .inr ⟨e1, e3⟩
          obtain ⟨H0, hH0⟩ : ∃ x, mnTo (hdF ts M m) i = x := ⟨_, rfl⟩
          obtain ⟨T0, hT0⟩ : ∃ x, mnTo (tlF ts M m) i = x := ⟨_, rfl⟩
          obtain ⟨h, hhe⟩ : ∃ x, hdF ts M m i = x := ⟨_, rfl⟩
          obtain ⟨t, hte⟩ : ∃ x, tlF ts M m i = x := ⟨_, rfl⟩
          rw [hH0, hhe] at HH
          rw [hT0, hte] at HTT
          rw [hH0, hT0] at HSG
          rw [hhe] at hh HC1
          rw [hte] at ht HC2
          rw [hH0, hT0]
          clear hX hp hp2 hpe hH0 hT0 hhe hte
          go_wp2_with fail
          refine HC1.out.mono ?_
          rintro e w' ⟨rfl, rfl⟩
          rcases HSG.out with ⟨g1, g2, g3⟩ | ⟨g1, g2⟩
          · subst g2 g3
            have HP1 : Hid (mnTo (hdF ts M m) (i + 1) = h) := by show _ = _; rw [HH.out]; first | rw [if_pos (by omega)] | rw [if_neg (by omega)]
            have HP2 : Hid (mnTo (tlF ts M m) (i + 1) = t) := by show _ = _; rw [HTT.out]; first | rw [if_pos (by omega)] | rw [if_neg (by omega)]
            clear HH HTT
            by_cases hcz : c - p = m + 1
            all_goals
              go_wp2_with fail
              refine (HC2.out _ _ (by omega) (by omega)).mono ?_
              rintro e w' ⟨rfl, rfl⟩
              go_wp2
              go_roundw
              case rel => exact ⟨i + 1, by go_num, by omega, by rw [HP1.out], by rw [HP2.out], HB.out⟩
              case measure => simp [intOf]; omega
          · have g3 : ¬ H0 < 0 := by omega
            have g4 : ¬ T0 < 0 := by omega
            by_cases hh1 : h < H0
            · by_cases ht1 : t < T0
              · skip
                have HP1 : Hid (mnTo (hdF ts M m) (i + 1) = h) := by show _ = _; rw [HH.out]; first | rw [if_pos (by omega)] | rw [if_neg (by omega)]
                have HP2 : Hid (mnTo (tlF ts M m) (i + 1) = t) := by show _ = _; rw [HTT.out]; first | rw [if_pos (by omega)] | rw [if_neg (by omega)]
                clear HH HTT
                by_cases hcz : c - p = m + 1
                all_goals
                  go_wp2_with fail
                  refine (HC2.out _ _ (by omega) (by omega)).mono ?_
                  rintro e w' ⟨rfl, rfl⟩
                  go_wp2
                  go_roundw
                  case rel => exact ⟨i + 1, by go_num, by omega, by rw [HP1.out], by rw [HP2.out], HB.out⟩
                  case measure => simp [intOf]; omega
              · skip
                have HP1 : Hid (mnTo (hdF ts M m) (i + 1) = h) := by show _ = _; rw [HH.out]; first | rw [if_pos (by omega)] | rw [if_neg (by omega)]
                have HP2 : Hid (mnTo (tlF ts M m) (i + 1) = T0) := by show _ = _; rw [HTT.out]; first | rw [if_pos (by omega)] | rw [if_neg (by omega)]
                clear HH HTT
                by_cases hcz : c - p = m + 1
                all_goals
                  go_wp2_with fail
                  refine (HC2.out _ _ (by omega) (by omega)).mono ?_
                  rintro e w' ⟨rfl, rfl⟩
                  go_wp2
                  go_roundw
                  case rel => exact ⟨i + 1, by go_num, by omega, by rw [HP1.out], by rw [HP2.out], HB.out⟩
                  case measure => simp [intOf]; omega
            · by_cases ht1 : t < T0
              · skip
                have HP1 : Hid (mnTo (hdF ts M m) (i + 1) = H0) := by show _ = _; rw [HH.out]; first | rw [if_pos (by omega)] | rw [if_neg (by omega)]
                have HP2 : Hid (mnTo (tlF ts M m) (i + 1) = t) := by show _ = _; rw [HTT.out]; first | rw [if_pos (by omega)] | rw [if_neg (by omega)]
                clear HH HTT
                by_cases hcz : c - p = m + 1
                all_goals
                  go_wp2_with fail
                  refine (HC2.out _ _ (by omega) (by omega)).mono ?_
                  rintro e w' ⟨rfl, rfl⟩
                  go_wp2
                  go_roundw
                  case rel => exact ⟨i + 1, by go_num, by omega, by rw [HP1.out], by rw [HP2.out], HB.out⟩
                  case measure => simp [intOf]; omega
              · skip
                have HP1 : Hid (mnTo (hdF ts M m) (i + 1) = H0) := by show _ = _; rw [HH.out]; first | rw [if_pos (by omega)] | rw [if_neg (by omega)]
                have HP2 : Hid (mnTo (tlF ts M m) (i + 1) = T0) := by show _ = _; rw [HTT.out]; first | rw [if_pos (by omega)] | rw [if_neg (by omega)]
                clear HH HTT
                by_cases hcz : c - p = m + 1
                all_goals
                  go_wp2_with fail
                  refine (HC2.out _ _ (by omega) (by omega)).mono ?_
                  rintro e w' ⟨rfl, rfl⟩
                  go_wp2
                  go_roundw
                  case rel => exact ⟨i + 1, by go_num, by omega, by rw [HP1.out], by rw [HP2.out], HB.out⟩
                  case measure => simp [intOf]; omega
        · obtain rfl : n = i := by omega
          have HMX : Hid (bdTo ts M n (m + 1) = max BD (onF ts M n m + mnTo (hdF ts M m) n + mnTo (tlF ts M m) n)) := by
            show max (bdTo ts M n m) _ = _
            rw [HBD.out]
          have hob := HOB.out m hm2
          have hb1 := mnTo_bound (f := hdF ts M m) (B := 80000) (by omega) n (fun i hi => HHB.out m i hmM hi)
          have hb2 := mnTo_bound (f := tlF ts M m) (B := 80000) (by omega) n (fun i hi => HTB.out m i hm2 hi)
          have HC := Lib.hid (HON.out m wr hm2 HBw.out)
          obtain ⟨H0, hH0⟩ : ∃ x, mnTo (hdF ts M m) n = x := ⟨_, rfl⟩
          obtain ⟨T0, hT0⟩ : ∃ x, mnTo (tlF ts M m) n = x := ⟨_, rfl⟩
          obtain ⟨O0, hO0⟩ : ∃ x, onF ts M n m = x := ⟨_, rfl⟩
          rw [hH0] at hb1 HMX
          rw [hT0] at hb2 HMX
          rw [hO0] at hob HMX HC
          rw [hH0, hT0]
          have w5 : IntKind.i64.wrap (O0 + H0) = O0 + H0 := IntWalk.i64_in _ (by omega)
          have w6 : IntKind.i64.wrap (O0 + H0 + T0) = O0 + H0 + T0 := IntWalk.i64_in _ (by omega)
          unfold shV at HC
          clear hX hH0 hT0 hO0
          go_wp2_with fail
          refine HC.out.mono ?_
          rintro e W5 ⟨rfl, hb5⟩
          have HB5 : Hid (Below W3.heap.size W3 W5) := HB.out.trans (hb5.mono HB.out.size)
          clear hb5 HC
          go_wp2
          go_roundw
          case rel => exact ⟨m + 1, by go_num, by omega, by first | (rw [HMX.out]; done) | (rw [HMX.out]; exact val_int (by first | omega | (split <;> omega))), HB5.out⟩
          case measure => simp [intOf]; omega
    · obtain rfl : M = m := by omega
      go_wp2
      go_ret2
      exact ⟨rfl, HBw.out⟩
end Go.Proofs.Ytckdfahbhagoaaa

namespace Go.Proofs.Ytckdfahbhagoaaa
open Go.RowKit
set_option linter.unusedVariables false
set_option linter.unusedSimpArgs false

theorem grown_setRow (w : World) (g : Nat) (cs : Array Value) : w.grownBy (w.setRow g cs) (some g) := ⟨rfl, rfl, rfl, by simp [World.setRow], fun k hk hne => setRow_other w g k cs (fun e => hne (by rw [e]))⟩
/-- 'copy' into a row that is known whole: that row alone is another one. -/
theorem wpList_copyG {w : World} {ops : Array Oper} {rest : List Oper} {o : Oper} {a : Act} {Q : Exit → Act → World → Prop} (hgd : o.guard = none) (d s : Operand)
    (ho : o.op = .call { callee := .builtin .copy, args := #[d, s], argTypes := #[25, 25] }) (g off dLen dCap : Nat) (ad : Addr) (sLen sCap : Nat) (hd : a.eval d = .slice (some ⟨g, off, none⟩) dLen dCap) (hs : a.eval s = .slice (some ad) sLen sCap)
    (cur : List Value) (hg : w.heap[g]? = some (.cells cur.toArray 2 (0, 0))) (cs : List Value) (hn : cs.length = Nat.min sLen dLen)
    (hsrc : ∀ j v, cs[j]? = some v → w.cell? (ad.add j) = some v) (hfit : off + cs.length ≤ cur.length) (h1 : ∀ v ∈ cs, v.oneCell' = true)
    (h : ∀ w', Hid (w'.heap[g]? = some (.cells (splice cur off cs).toArray 2 (0, 0))) → w.grownBy w' (some g) → wpList Try.prog ops Q rest (a.put o.dst (goInt cs.length)) w') : wpList Try.prog ops Q (o :: rest) a w := by
  obtain ⟨i0, hi, hz0, hz1, hz2⟩ := info_parts info_i64
  refine wpList_copy_own hgd d s 25 25 ho 2 Try.underlying25 (by rw [hi]; simp [hz1]) g off dLen dCap ad sLen sCap hd hs cur.toArray 2 hg cs hn hsrc (by simpa using hfit) h1 ?_
  exact h _ (show _ = _ by simpa [splice] using setRow_heap w g _ _ _ _ hg) (grown_setRow w g _)
theorem step_copyG {ops : Array Oper} {o : Oper} {a : Act} {w : World} {K : Act → World → Prop} {Q : Exit → Act → World → Prop} {E : Prop} (hgd : o.guard = none) (d s : Operand)
    (ho : o.op = .call { callee := .builtin .copy, args := #[d, s], argTypes := #[25, 25] }) (g off dLen dCap : Nat) (ad : Addr) (sLen sCap : Nat) (hd : a.eval d = .slice (some ⟨g, off, none⟩) dLen dCap) (hs : a.eval s = .slice (some ad) sLen sCap)
    (cur : List Value) (hg : w.heap[g]? = some (.cells cur.toArray 2 (0, 0))) (cs : List Value) (hn : cs.length = Nat.min sLen dLen)
    (hsrc : ∀ j v, cs[j]? = some v → w.cell? (ad.add j) = some v) (hfit : off + cs.length ≤ cur.length) (h1 : ∀ v ∈ cs, v.oneCell' = true)
    (h : ∀ w', Hid (w'.heap[g]? = some (.cells (splice cur off cs).toArray 2 (0, 0))) → w.grownBy w' (some g) → K (a.put o.dst (goInt cs.length)) w') :
    if Region.wanted o (yielded ops a.tmps) = true then Oper.wp Try.prog o a w K Q else E := by
  have hw : Region.wanted o (yielded ops a.tmps) = true := by simp [Region.wanted, hgd]
  rw [if_pos hw]
  obtain ⟨i0, hi, hz0, hz1, hz2⟩ := info_parts info_i64
  have hrun := run_copy_row (P := Try.prog) w 25 25 o.type 2 g off dLen dCap ad sLen sCap cur.toArray 2 cs Try.underlying25 (by rw [hi]; simp [hz1]) hg hn hsrc (by simpa using hfit) h1
  unfold Oper.wp
  simp [execOp, ho, resolve, invoke, builtin, hd, hs, hrun, Result.andThen]
  exact h _ (show _ = _ by simpa [splice] using setRow_heap w g _ _ _ _ hg) (by simpa using grown_setRow w g _)
theorem ints_one (l : List Int) : ∀ v ∈ l.map (Value.int .i64), v.oneCell' = true := fun v hv => by
  obtain ⟨x, _, rfl⟩ := List.mem_map.1 hv; rfl
theorem addr_add (g o j : Nat) : (⟨g, o, none⟩ : Addr).add j = ⟨g, o + j, none⟩ := by unfold Addr.add; split <;> simp_all
/-- What is put in, cell by cell. -/
theorem splice_ins {xs : List Int} {x : Int} {i : Nat} {cur : List Value} (hi : i < xs.length) (hc : xs.length + 1 ≤ cur.length) (ht : cur.take i = (xs.take i).map (Value.int .i64)) :
    ((splice (splice cur i [.int .i64 x]) (i + 1) ((xs.drop i).map (Value.int .i64))).take (xs.length + 1) = (insAt xs i x).map (Value.int .i64)) ∧
    ((splice (splice cur (i + 1) ((xs.drop i).map (Value.int .i64))) i [.int .i64 x]).take (xs.length + 1) = (insAt xs i x).map (Value.int .i64)) := by
  have hl : (cur.take i).length = i := by rw [List.length_take]; omega
  have e1 : splice cur i [Value.int .i64 x] = (xs.take i).map (Value.int .i64) ++ (.int .i64 x :: cur.drop (i + 1)) := by
    unfold splice; rw [ht]; rfl
  have hti : ((xs.take i).map (Value.int .i64)).length = i := by rw [List.length_map, List.length_take]; omega
  have hdr : ((xs.drop i).map (Value.int .i64)).length = xs.length - i := by rw [List.length_map, List.length_drop]
  have hins : (insAt xs i x).map (Value.int .i64) = (xs.take i).map (Value.int .i64) ++ (.int .i64 x :: (xs.drop i).map (Value.int .i64)) := by unfold insAt; simp
  refine ⟨?_, ?_⟩
  · rw [e1]
    unfold splice
    have t1 : ((xs.take i).map (Value.int .i64) ++ (Value.int .i64 x :: cur.drop (i + 1))).take (i + 1) = (xs.take i).map (Value.int .i64) ++ [.int .i64 x] := by
      rw [List.take_append, hti, List.take_of_length_le (by omega), show i + 1 - i = 1 by omega]; rfl
    rw [t1, hins, ← List.append_assoc]
    rw [List.take_append_of_le_length (by simp; omega)]
    rw [List.take_of_length_le (by simp; omega)]
    simp
  · have e2 : splice cur (i + 1) ((xs.drop i).map (Value.int .i64)) = cur.take (i + 1) ++ ((xs.drop i).map (Value.int .i64) ++ cur.drop (i + 1 + (xs.length - i))) := by unfold splice; rw [hdr]
    have t2 : (cur.take (i + 1)).length = i + 1 := by rw [List.length_take]; omega
    have t3 : (splice cur (i + 1) ((xs.drop i).map (Value.int .i64))).take i = (xs.take i).map (Value.int .i64) := by
      rw [e2, List.take_append_of_le_length (by omega), List.take_take, Nat.min_eq_left (by omega), ht]
    have t4 : (splice cur (i + 1) ((xs.drop i).map (Value.int .i64))).drop (i + 1) = (xs.drop i).map (Value.int .i64) ++ cur.drop (i + 1 + (xs.length - i)) := by
      rw [e2, List.drop_append, t2, Nat.sub_self, List.drop_zero, List.drop_of_length_le (by omega), List.nil_append]
    have e3 : splice (splice cur (i + 1) ((xs.drop i).map (Value.int .i64))) i [Value.int .i64 x] = (xs.take i).map (Value.int .i64) ++ (.int .i64 x :: ((xs.drop i).map (Value.int .i64) ++ cur.drop (i + 1 + (xs.length - i)))) := by
      rw [← t3, ← t4]; rfl
    rw [e3, hins]
    have : (xs.take i).map (Value.int .i64) ++ (Value.int .i64 x :: ((xs.drop i).map (Value.int .i64) ++ cur.drop (i + 1 + (xs.length - i)))) = ((xs.take i).map (Value.int .i64) ++ (.int .i64 x :: (xs.drop i).map (Value.int .i64))) ++ cur.drop (i + 1 + (xs.length - i)) := by simp
    rw [this, List.take_append_of_le_length (by simp; omega), List.take_of_length_le (by simp; omega)]
/-- A row whose first cells are known is a row of the call's own. -/
theorem own_of_row {w : World} {B g n c : Nat} {cur : List Value} {xs : List Int} (hg : w.heap[g]? = some (.cells cur.toArray 2 (0, 0))) (hB : B ≤ g) (hn : n = xs.length) (hnc : n ≤ c) (hc : c ≤ maxLen) (hl : cur.length = c) (ht : cur.take n = xs.map (Value.int .i64)) : OwnI w B (.slice (some ⟨g, 0, none⟩) n c) xs := by
  subst hn
  exact ⟨by simp, .inr ⟨g, c, cur.toArray, rfl, hB, hg, hnc, hc, by simp [hl], by simpa using ht⟩⟩
theorem own_row {w : World} {B g n c : Nat} {xs : List Int} (h : OwnI w B (.slice (some ⟨g, 0, none⟩) n c) xs) (hn : n = xs.length) : ∃ cur : List Value, w.heap[g]? = some (.cells cur.toArray 2 (0, 0)) ∧ B ≤ g ∧ n ≤ c ∧ c ≤ maxLen ∧ cur.length = c ∧ cur.take n = xs.map (Value.int .i64) := by
  subst hn
  rcases h.2 with ⟨h1, _⟩ | ⟨g', cap, cur, h1, h2, h3, h4, h5, h6, h7⟩
  · cases h1
  · obtain ⟨rfl, rfl⟩ : g = g' ∧ c = cap := by simpa using h1
    exact ⟨cur.toList, by simpa using h3, h2, h4, h5, by simpa using h6, by simpa using h7⟩
set_option maxRecDepth 100000 in
set_option maxHeartbeats 400000 in
theorem insert_end (g n c vb B : Nat) (xs : List Int) (x : Int) (w : World) (ho : OwnI w B (.slice (some ⟨g, 0, none⟩) n c) xs) (hn : n = xs.length) (hv : w.cell? ⟨vb, 0, none⟩ = some (.int .i64 x)) (hB : B ≤ w.heap.size) (hs : n ≤ 1000) :
    Calls Try.prog 43 #[.slice (some ⟨g, 0, none⟩) n c, .int .i64 n, .slice (some ⟨vb, 0, none⟩) 1 1] w fun e w' => ∃ g' c', e = .returned (.slice (some ⟨g', 0, none⟩) (n + 1) c') ∧ OwnI w' B (.slice (some ⟨g', 0, none⟩) (n + 1) c') (insAt xs n x) ∧ w.grownBy w' (some g) := by
  have hnc : n ≤ c := by obtain ⟨_, _, _, h, _⟩ := own_row ho hn; exact h
  have HO := Lib.hid ho
  have HN := Lib.hid hn
  have HCB : Hid (∀ i (h : i < [x].length), w.cell? ⟨vb, 0 + i, none⟩ = some (.int .i64 [x][i])) := fun i h => by
    obtain rfl : i = 0 := by simpa using h
    exact hv
  have HKK : Hid (∀ g8 c8 w8, OwnI w8 B (.slice (some ⟨g8, 0, none⟩) (xs.length + [x].length) c8) (xs ++ [x]) → OwnI w8 B (.slice (some ⟨g8, 0, none⟩) (n + 1) c8) (insAt xs n x)) := fun g8 c8 w8 h => by
    have e : insAt xs n x = xs ++ [x] := by unfold insAt; rw [hn, List.take_length, List.drop_length]
    rw [e, hn]
    exact h
  have HLN : Hid (xs.length + [x].length = n + 1) := by show _ = _; rw [← hn]; rfl
  clear ho hn hv
  by_cases hcz : c = n
  all_goals
    go_enter Try.func43, Try.ntmps43
    go_wp2_with (at_builtin; refine wpList_append_any rfl _ _ rfl B g n c xs [x] HN.out rfl vb 0 1 1 rfl rfl HCB.out HO.out hB (by rw [HLN.out]; omega) ?_; intro g8 c8 w8 ho8 hg8; have HK8 := Lib.hid (And.intro (HKK.out g8 c8 w8 ho8) hg8); simp only [HLN.out]; clear ho8 hg8)
    go_ret
    exact ⟨g8, c8, rfl, HK8.out.1, HK8.out.2⟩
set_option maxRecDepth 100000 in
set_option maxHeartbeats 400000 in
theorem insert_grow (g n c vb B i : Nat) (xs : List Int) (x : Int) (w : World) (ho : OwnI w B (.slice (some ⟨g, 0, none⟩) n c) xs) (hn : n = xs.length) (hv : w.cell? ⟨vb, 0, none⟩ = some (.int .i64 x)) (hB : B ≤ w.heap.size) (hs : n ≤ 1000) (hi : i < n) (hc : c < n + 1) :
    Calls Try.prog 43 #[.slice (some ⟨g, 0, none⟩) n c, .int .i64 i, .slice (some ⟨vb, 0, none⟩) 1 1] w fun e w' => ∃ g' c', e = .returned (.slice (some ⟨g', 0, none⟩) (n + 1) c') ∧ OwnI w' B (.slice (some ⟨g', 0, none⟩) (n + 1) c') (insAt xs i x) ∧ w.grownBy w' (some g) := by
  obtain ⟨cur0, _, _, hnc, _, _, _⟩ := own_row ho hn
  obtain ⟨i0, hii, hz0, hz1, hz2⟩ := info_parts info_i64
  obtain ⟨k, hk⟩ : ∃ k, n + 1 - i = k := ⟨_, rfl⟩
  have hik : i + k = n + 1 := by omega
  have hat := ho.at_ hn
  have hgl := (ho.lt g rfl).2
  have hold : (Builtin.firstCells i0.size i (.slice (some ⟨g, 0, none⟩) i c)).run Try.prog w.drew = .ok ((xs.take i).map (Value.int .i64)).toArray w.drew := by
    refine run_firstCells_some (w := w.drew) i0.size i ⟨g, 0, none⟩ i c ((xs.take i).map (Value.int .i64)) (by rw [hz1]; simp; omega) (fun j v hj => ?_)
    rw [addr_add, Nat.zero_add]
    rw [List.getElem?_map] at hj
    have hj2 : j < i := by
      rcases Nat.lt_or_ge j i with h | h
      · exact h
      · rw [List.getElem?_eq_none (by rw [List.length_take]; omega)] at hj; cases hj
    rw [List.getElem?_eq_getElem (by rw [List.length_take]; omega), List.getElem_take] at hj
    have h := hat j (by omega)
    rw [nth_eq (by omega)] at h
    show w.cell? _ = _
    rw [h]; simpa using hj
  have hr : ∀ ty, (Builtin.append_ #[25, 3] ty #[.slice (some ⟨g, 0, none⟩) i c, .int .i64 (k : Nat)]).run Try.prog w = _ := fun ty => Lib.run_append_grow_zeros (P := Try.prog) (ty := ty) w 25 3 2 i0 (.int .i64 0) .i64 .i64 Try.underlying25 Try.underlying3 hii hz0 (some ⟨g, 0, none⟩) i c _ hold k (by omega) (by rw [hz1]; omega) (by omega) (by omega) (by rw [hz2]; omega) (by rw [hz2]; exact growslice_fits (by omega) (by omega))
  have hgc := grownCap_ge w (i + k) c 2
  have hgm := grownCap_le_maxLen w (i + k) c 2 (by unfold maxLen; omega)
  rw [hik] at hr hgc hgm
  obtain ⟨C, hC⟩ : ∃ C, grownCap w (n + 1) c 2 = C := ⟨_, rfl⟩
  rw [hC] at hr hgc hgm
  obtain ⟨G, hG⟩ : ∃ G, w.heap.size = G := ⟨_, rfl⟩
  have hCUR : ∃ CUR : List Value, ((xs.take i).map (Value.int .i64)).toArray ++ Builtin.zeroCells (Value.int .i64 0).cells k ++ Builtin.zeroCells (Value.int .i64 0).cells (C - (n + 1)) = CUR.toArray ∧ CUR.length = C ∧ CUR.take i = (xs.take i).map (Value.int .i64) := by
    refine ⟨_, (Array.toArray_toList).symm, ?_, ?_⟩
    · simp [size_zeroCells, Value.cells]; omega
    · rw [Array.toList_append, Array.toList_append, List.append_assoc]
      show (((xs.take i).map (Value.int .i64)) ++ _).take i = _
      rw [List.take_append_of_le_length (by rw [List.length_map, List.length_take]; omega), List.take_of_length_le (by rw [List.length_map, List.length_take]; omega)]
  obtain ⟨CUR, hCU, hCl, hCt⟩ := hCUR
  obtain ⟨w1, hW1⟩ : ∃ W, w.drew.alloc (.cells CUR.toArray 2) = W := ⟨_, rfl⟩
  rw [hCU, hW1, hG] at hr
  have hg1 : w1.heap[G]? = some (.cells CUR.toArray 2 (0, 0)) := by rw [← hW1, ← hG]; exact World.alloc_heap_new w.drew _
  have hb1 : Below G w w1 := by rw [← hW1, ← hG]; exact (below_drewN 1 (Below.refl _ w)).alloc (Nat.le_refl _) _
  have hvl : vb < G := by rw [← hG]; exact lt_of_cell hv
  have hgl2 : g < G := by rw [← hG]; exact hgl
  have hx2 := (splice_ins (x := x) (cur := CUR) (by omega) (by omega) hCt).1
  have HR := Lib.hid hr
  have HG1 := Lib.hid hg1
  have HS1 : Hid (∀ j v, [Value.int .i64 x][j]? = some v → w1.cell? ((⟨vb, 0, none⟩ : Addr).add j) = some v) := fun j v hj => by
    have hj0 : j = 0 := by
      rcases Nat.eq_zero_or_pos j with h | h
      · exact h
      · rw [List.getElem?_eq_none (by simp; omega)] at hj; cases hj
    subst hj0
    rw [addr_add]
    have h : w1.cell? ⟨vb, 0, none⟩ = w.cell? ⟨vb, 0, none⟩ := hb1.cell (p := ⟨vb, 0, none⟩) hvl
    show w1.cell? ⟨vb, 0, none⟩ = _
    rw [h, hv]; simpa using hj
  have HS2 : Hid (∀ W, w1.grownBy W (some G) → ∀ j v, ((xs.drop i).map (Value.int .i64))[j]? = some v → W.cell? ((⟨g, i, none⟩ : Addr).add j) = some v) := fun W hW j v hj => by
    rw [addr_add]
    rw [List.getElem?_map] at hj
    have hjl : j < xs.length - i := by
      rcases Nat.lt_or_ge j (xs.length - i) with h | h
      · exact h
      · rw [List.getElem?_eq_none (by rw [List.length_drop]; exact h)] at hj; cases hj
    rw [List.getElem?_eq_getElem (by rw [List.length_drop]; exact hjl), List.getElem_drop] at hj
    have h1 : w1.cell? ⟨g, i + j, none⟩ = w.cell? ⟨g, i + j, none⟩ := hb1.cell (p := ⟨g, i + j, none⟩) hgl2
    have h2 : W.cell? ⟨g, i + j, none⟩ = w1.cell? ⟨g, i + j, none⟩ := World.cell?_of_block (hW.block g (Nat.lt_of_lt_of_le hgl hb1.size) (by simp; omega))
    rw [h2, h1]
    have h := hat (i + j) (by omega)
    rw [h, nth_eq (by omega)]; simpa using hj
  have HFIN : Hid (∀ W, W.heap[G]? = some (.cells (splice (splice CUR i [.int .i64 x]) (i + 1) ((xs.drop i).map (Value.int .i64))).toArray 2 (0, 0)) → w1.grownBy W (some G) → OwnI W B (.slice (some ⟨G, 0, none⟩) (n + 1) C) (insAt xs i x) ∧ w.grownBy W (some g)) := fun W h1 h2 => by
    refine ⟨own_of_row h1 (by rw [← hG]; exact hB) (by rw [insAt_length xs (by omega)]; omega) hgc hgm ?_ (by rw [hn]; exact hx2), ?_⟩
    · rw [length_splice _ _ _ (by rw [length_splice _ _ _ (by simp; omega)]; simp; omega), length_splice _ _ _ (by simp; omega), hCl]
    · refine ⟨h2.os.trans hb1.os, h2.tape.trans hb1.tape, h2.output.trans hb1.output, Nat.le_trans hb1.size h2.size, fun q hq hne => ?_⟩
      rw [hG] at hq
      rw [h2.block q (Nat.lt_of_lt_of_le (by omega) hb1.size) (by simp; omega), hb1.block q hq]
  have HDL : Hid (((xs.drop i).map (Value.int .i64)).length = n - i) := by show _ = _; rw [List.length_map, List.length_drop, hn]
  have HL1 : Hid (CUR.length = C) := hCl
  have HL2 : Hid ((splice CUR i [.int .i64 x]).length = C) := by show _ = _; rw [length_splice _ _ _ (by simp; omega), hCl]
  have HMN : Hid ([Value.int .i64 x].length = Nat.min 1 k) := by show 1 = min 1 k; omega
  have HFT : Hid (i + [Value.int .i64 x].length ≤ CUR.length) := by show i + 1 ≤ CUR.length; omega
  have HON : Hid (∀ v ∈ [Value.int .i64 x], v.oneCell' = true) := fun v hv => by rw [List.mem_singleton] at hv; subst hv; rfl
  have HMN2 : Hid (((xs.drop i).map (Value.int .i64)).length = Nat.min (n - i) (n + 1 - (i + 1))) := by show _ = min (n - i) (n + 1 - (i + 1)); rw [HDL.out]; omega
  have HFT2 : Hid (i + 1 + ((xs.drop i).map (Value.int .i64)).length ≤ (splice CUR i [.int .i64 x]).length) := by show _ ≤ _; rw [HDL.out, HL2.out]; omega
  have wk : IntKind.i64.wrap ((n : Int) + 1 - (i : Int)) = (k : Int) := by rw [show ((n : Int) + 1 - (i : Int)) = (k : Int) by omega]; exact IntWalk.i64_in _ (by omega)
  have hin : ¬ (i : Int) = (n : Int) := by omega
  have hinb : ((i : Int) == (n : Int)) = false := beq_eq_false_iff_ne.2 hin
  have hci : ¬ c - i = 0 := by omega
  have hci2 : ¬ c = i := by omega
  have hCi : ¬ C - i = 0 := by omega
  have hCi2 : ¬ C = i := by omega
  have hCj : ¬ C - (i + 1) = 0 := by omega
  have hCj2 : ¬ C = i + 1 := by omega
  have hcn : (c : Int) < (n : Int) + 1 := by omega
  have hgc2 : n + 1 ≤ C := hgc
  obtain ⟨j, hj⟩ : ∃ j, i + 1 = j := ⟨_, rfl⟩
  have wi : IntKind.i64.wrap ((i : Int) + 1) = (j : Int) := by rw [show ((i : Int) + 1) = (j : Int) by omega]; exact IntWalk.i64_in _ (by omega)
  have hjn : (j : Int) ≤ (n : Int) + 1 := by omega
  have hj0 : (0 : Int) ≤ (j : Int) := by omega
  have hCj3 : ¬ C = j := by omega
  have hile : i ≤ n := by omega
  have hjle : j ≤ n + 1 := by omega
  rw [hj] at HMN2 HFT2 HFIN
  clear ho hn hv hat hold hr hg1 hb1 hCU hW1 hCl hCt hx2 hC hgl hgl2 hvl hii hz0 hz1 hz2 hG hj
  go_enter Try.func43, Try.ntmps43
  go_wp2_with (first
    | (at_builtin; refine Lib.wpList_append_run _ rfl _ _ _ _ rfl _ _ rfl rfl _ _ (HR.out _) ?_)
    | (refine wpList_copyG rfl _ _ rfl G i k (C - i) ⟨vb, 0, none⟩ 1 1 rfl rfl CUR HG1.out [.int .i64 x] HMN.out HS1.out HFT.out HON.out ?_; intro w2 hg2 hgr2; have HG2 := Lib.hid hgr2; clear hgr2))
  simp only [goInt, List.length_singleton]
  have HG2D : Hid (w1.grownBy w2.drew (some G)) := ⟨HG2.out.os, HG2.out.tape, HG2.out.output, HG2.out.size, HG2.out.block⟩
  have HH2D : Hid (w2.drew.heap[G]? = some (.cells (splice CUR i [.int .i64 x]).toArray 2 (0, 0))) := hg2.out
  have HS2D := Lib.hid (HS2.out w2.drew HG2D.out)
  go_wp2_with fail
  go_region_law (first | (refine step_copyG rfl _ _ rfl G j (n + 1 - j) (C - j) ⟨g, i, none⟩ (n - i) (c - i) (by simp [Act.eval, Act.put]) (by simp [Act.eval, Act.put]) (splice CUR i [.int .i64 x]) HH2D.out ((xs.drop i).map (Value.int .i64)) HMN2.out HS2D.out HFT2.out (ints_one _) ?_; intro w3 hg3 hgr3; have HG3 := Lib.hid hgr3; clear hgr3))
  go_wp2
  go_ret
  exact ⟨G, C, rfl, (HFIN.out w3 hg3.out ⟨HG3.out.os.trans HG2D.out.os, HG3.out.tape.trans HG2D.out.tape, HG3.out.output.trans HG2D.out.output, Nat.le_trans HG2D.out.size HG3.out.size, fun q hq hne => (HG3.out.block q (Nat.lt_of_lt_of_le hq HG2D.out.size) hne).trans (HG2D.out.block q hq hne)⟩)⟩

set_option maxRecDepth 100000 in
set_option maxHeartbeats 400000 in
theorem insert_room (g n c vb B i : Nat) (xs : List Int) (x : Int) (w : World) (ho : OwnI w B (.slice (some ⟨g, 0, none⟩) n c) xs) (hn : n = xs.length) (hv : w.heap[vb]? = some (.cells #[.int .i64 x] 2 (0, 0))) (hvg : vb ≠ g) (hB : B ≤ w.heap.size) (hs : n ≤ 1000) (hi : i < n) (hc : n + 1 ≤ c) :
    Calls Try.prog 43 #[.slice (some ⟨g, 0, none⟩) n c, .int .i64 i, .slice (some ⟨vb, 0, none⟩) 1 1] w fun e w' => ∃ g' c', e = .returned (.slice (some ⟨g', 0, none⟩) (n + 1) c') ∧ OwnI w' B (.slice (some ⟨g', 0, none⟩) (n + 1) c') (insAt xs i x) ∧ w.grownBy w' (some g) := by
  obtain ⟨CUR, hgc, hBg, hnc, hcm, hCl, hct⟩ := own_row ho hn
  obtain ⟨i0, hii, hz0, hz1, hz2⟩ := info_parts info_i64
  have hat := ho.at_ hn
  have hti : CUR.take i = (xs.take i).map (Value.int .i64) := by
    have h := congrArg (List.take i) hct
    rw [List.take_take, Nat.min_eq_left (by omega), ← List.map_take] at h
    exact h
  have hx2 := (splice_ins (x := x) (cur := CUR) (i := i) (by omega) (by omega) hti).2
  have hcell : ∀ (W : World) (b k : Nat), W.cell? ⟨b, k, none⟩ = match W.heap[b]? with | some (.cells c _ _) => c[k]? | _ => none := fun W b k => rfl
  have hov : ∀ j lb cb, (callFunc 53 #[.slice (some ⟨vb, 0, none⟩) 1 1, .slice (some ⟨g, j, none⟩) lb cb]).run Try.prog w = .ok (.value (.bool false)) w := fun j lb cb => by
    rw [run_callFunc_extern Try.func53 (by kernel_rfl) (by kernel_rfl) (by kernel_rfl) (e := Extern.SlicesOverlaps.overlaps #[25, 25] #[4]) (by kernel_rfl),
      Lib.run_overlaps_apart w 25 4 2 Try.underlying25 1 (fun w => by kernel_rfl) ⟨vb, 0, none⟩ ⟨g, j, none⟩ 1 1 lb cb hvg 2 2 1 c (by simp [World.shape?, hv]) (by simp [World.shape?, hgc, hCl]) (by omega) (by simp [World.frozen?, hv]) (by simp [World.frozen?, hv])]
    rfl
  have HG1 : Hid (w.drew.heap[g]? = some (.cells CUR.toArray 2 (0, 0))) := hgc
  have HOV := Lib.hid hov
  have HS1 : Hid (∀ j v, ((xs.drop i).map (Value.int .i64))[j]? = some v → w.drew.cell? ((⟨g, i, none⟩ : Addr).add j) = some v) := fun j v hj => by
    rw [addr_add]
    rw [List.getElem?_map] at hj
    have hjl : j < xs.length - i := by
      rcases Nat.lt_or_ge j (xs.length - i) with h | h
      · exact h
      · rw [List.getElem?_eq_none (by rw [List.length_drop]; exact h)] at hj; cases hj
    rw [List.getElem?_eq_getElem (by rw [List.length_drop]; exact hjl), List.getElem_drop] at hj
    have h := hat (i + j) (by omega)
    show w.cell? _ = _
    rw [h, nth_eq (by omega)]; simpa using hj
  have HS2 : Hid (∀ W, w.grownBy W (some g) → ∀ j v, [Value.int .i64 x][j]? = some v → W.cell? ((⟨vb, 0, none⟩ : Addr).add j) = some v) := fun W hW j v hj => by
    have hj0 : j = 0 := by
      rcases Nat.eq_zero_or_pos j with h | h
      · exact h
      · rw [List.getElem?_eq_none (by simp; omega)] at hj; cases hj
    subst hj0
    rw [addr_add]
    have hl : vb < w.heap.size := by
      rcases Nat.lt_or_ge vb w.heap.size with h | h
      · exact h
      · rw [Array.getElem?_eq_none (by omega)] at hv; cases hv
    have h2 : W.cell? ⟨vb, 0 + 0, none⟩ = w.cell? ⟨vb, 0 + 0, none⟩ := World.cell?_of_block (hW.block vb hl (by simp; omega))
    rw [h2, hcell, hv]
    simpa using hj
  have HFIN : Hid (∀ W, W.heap[g]? = some (.cells (splice (splice CUR (i + 1) ((xs.drop i).map (Value.int .i64))) i [.int .i64 x]).toArray 2 (0, 0)) → OwnI W B (.slice (some ⟨g, 0, none⟩) (n + 1) c) (insAt xs i x)) := fun W h1 => by
    refine own_of_row h1 hBg (by rw [insAt_length xs (by omega)]; omega) hc hcm ?_ (by rw [hn]; exact hx2)
    rw [length_splice _ _ _ (by rw [length_splice _ _ _ (by simp; omega)]; simp; omega), length_splice _ _ _ (by simp; omega), hCl]
  have HDL : Hid (((xs.drop i).map (Value.int .i64)).length = n - i) := by show _ = _; rw [List.length_map, List.length_drop, hn]
  have HL2 : Hid ((splice CUR (i + 1) ((xs.drop i).map (Value.int .i64))).length = c) := by show _ = _; rw [length_splice _ _ _ (by simp; omega), hCl]
  have HMN : Hid (((xs.drop i).map (Value.int .i64)).length = Nat.min (n + 1 - i) (n + 1 - (i + 1))) := by show _ = min (n + 1 - i) (n + 1 - (i + 1)); rw [HDL.out]; omega
  have HMN2 : Hid ([Value.int .i64 x].length = Nat.min 1 (n + 1 - i)) := by show 1 = min 1 (n + 1 - i); omega
  have HFT : Hid (i + 1 + ((xs.drop i).map (Value.int .i64)).length ≤ CUR.length) := by show _ ≤ _; rw [HDL.out, hCl]; omega
  have HFT2 : Hid (i + [Value.int .i64 x].length ≤ (splice CUR (i + 1) ((xs.drop i).map (Value.int .i64))).length) := by show i + 1 ≤ _; rw [HL2.out]; omega
  have HON : Hid (∀ v ∈ [Value.int .i64 x], v.oneCell' = true) := fun v hv => by rw [List.mem_singleton] at hv; subst hv; rfl
  have hin : ¬ (i : Int) = (n : Int) := by omega
  have hinb : ((i : Int) == (n : Int)) = false := beq_eq_false_iff_ne.2 hin
  have hci : ¬ c - i = 0 := by omega
  have hci2 : ¬ c = i := by omega
  have hcn : ¬ (c : Int) < (n : Int) + 1 := by omega
  have wn : IntKind.i64.wrap ((n : Int) + 1) = (n : Int) + 1 := IntWalk.i64_in _ (by omega)
  have wn2 : ((n : Int) + 1).toNat = n + 1 := by omega
  have wn0 : (0 : Int) ≤ (n : Int) + 1 := by omega
  have hcn2 : (n : Int) + 1 ≤ (c : Int) := by omega
  have hgc2 : n + 1 ≤ c := hc
  obtain ⟨j, hj⟩ : ∃ j, i + 1 = j := ⟨_, rfl⟩
  have wi : IntKind.i64.wrap ((i : Int) + 1) = (j : Int) := by rw [show ((i : Int) + 1) = (j : Int) by omega]; exact IntWalk.i64_in _ (by omega)
  have hjn : (j : Int) ≤ (n : Int) + 1 := by omega
  have hj0 : (0 : Int) ≤ (j : Int) := by omega
  have hcj3 : ¬ c = j := by omega
  have hile : i ≤ n := by omega
  have hile1 : (i : Int) ≤ (n : Int) + 1 := by omega
  have hjle : j ≤ n + 1 := by omega
  rw [hj] at HMN HFT HFT2 HL2 HFIN
  clear ho hn hv hat hx2 hCl hii hz0 hz1 hz2 hj hti hct hcell hov hgc
  go_enter Try.func43, Try.ntmps43
  go_wp2_with (simp only [HOV.out])
  go_region_law (first | (refine step_copyG rfl _ _ rfl g j (n + 1 - j) (c - j) ⟨g, i, none⟩ (n + 1 - i) (c - i) (by simp [Act.eval, Act.put]) (by simp [Act.eval, Act.put]) CUR HG1.out ((xs.drop i).map (Value.int .i64)) HMN.out HS1.out HFT.out (ints_one _) ?_; intro w3 hg3 hgr3; have HG3 := Lib.hid hgr3; clear hgr3))
  have HGW : Hid (w.grownBy w3 (some g)) := ⟨HG3.out.os, HG3.out.tape, HG3.out.output, HG3.out.size, HG3.out.block⟩
  have HS3 := Lib.hid (HS2.out w3 HGW.out)
  go_wp2_with (refine wpList_copyG rfl _ _ rfl g i (n + 1 - i) (c - i) ⟨vb, 0, none⟩ 1 1 rfl rfl _ hg3.out [.int .i64 x] HMN2.out HS3.out HFT2.out HON.out ?_; intro w4 hg4 hgr4; have HG4 := Lib.hid hgr4; clear hgr4)
  go_ret
  exact ⟨g, c, rfl, HFIN.out w4 hg4.out, HG4.out.os.trans HGW.out.os, HG4.out.tape.trans HGW.out.tape, HG4.out.output.trans HGW.out.output, Nat.le_trans HGW.out.size HG4.out.size, fun q hq hne => (HG4.out.block q (Nat.lt_of_lt_of_le hq HGW.out.size) hne).trans (HGW.out.block q hq hne)⟩
/-- slices.Insert of one number at any place of a row of the call's own. -/
theorem insert_any (g n c vb B i : Nat) (xs : List Int) (x : Int) (w : World) (ho : OwnI w B (.slice (some ⟨g, 0, none⟩) n c) xs) (hn : n = xs.length) (hv : w.heap[vb]? = some (.cells #[.int .i64 x] 2 (0, 0))) (hvg : vb ≠ g) (hB : B ≤ w.heap.size) (hs : n ≤ 1000) (hi : i ≤ n) :
    Calls Try.prog 43 #[.slice (some ⟨g, 0, none⟩) n c, .int .i64 i, .slice (some ⟨vb, 0, none⟩) 1 1] w fun e w' => ∃ g' c', e = .returned (.slice (some ⟨g', 0, none⟩) (n + 1) c') ∧ OwnI w' B (.slice (some ⟨g', 0, none⟩) (n + 1) c') (insAt xs i x) ∧ w.grownBy w' (some g) := by
  have hvc : w.cell? ⟨vb, 0, none⟩ = some (.int .i64 x) := by simp [World.cell?, hv]
  rcases Nat.lt_or_ge i n with h | h
  · rcases Nat.lt_or_ge c (n + 1) with h2 | h2
    · exact insert_grow g n c vb B i xs x w ho hn hvc hB hs h h2
    · exact insert_room g n c vb B i xs x w ho hn hv hvg hB hs h h2
  · obtain rfl : i = n := Nat.le_antisymm hi h
    exact insert_end g i c vb B xs x w ho hn hvc hB hs
end Go.Proofs.Ytckdfahbhagoaaa

namespace Go.Proofs.Ytckdfahbhagoaaa
open Go.RowKit
set_option linter.unusedVariables false
set_option linter.unusedSimpArgs false

def tkL (E : List Int) (n : Nat) : List Bool := (List.range n).map fun i : Nat => E.contains (i : Int)
theorem tkL_len (E : List Int) (n : Nat) : (tkL E n).length = n := by simp [tkL]
theorem tkL_at {E : List Int} {n i : Nat} (h : i < (tkL E n).length) : (tkL E n)[i] = E.contains (i : Int) := by simp [tkL]
theorem tkL_nil (n : Nat) : tkL [] n = List.replicate n false := by
  apply List.ext_getElem
  · simp [tkL]
  · intro i h1 h2; simp [tkL]
theorem tkL_set (E : List Int) (n p : Nat) (h : p < n) : (tkL E n).set p true = tkL (E ++ [(p : Int)]) n := by
  apply List.ext_getElem
  · simp [tkL]
  · intro i h1 h2
    rw [List.getElem_set, tkL_at h2]
    split
    · rename_i e; subst e; simp
    · rename_i e
      rw [tkL_at]
      have : ¬ ((i : Int) = (p : Int)) := by omega
      simp [this]
end Go.Proofs.Ytckdfahbhagoaaa
