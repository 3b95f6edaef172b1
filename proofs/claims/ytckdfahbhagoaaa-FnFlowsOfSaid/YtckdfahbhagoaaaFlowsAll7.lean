/- impl: NoWaitGaps. Conditions: valid times. With texts that it needs. -/
import Derived.Test.YtckdfahbhagoaaaFlowsAll6
import Derived.Deep.RegionHeld3
namespace Go.Proofs.Ytckdfahbhagoaaa
open Go.RowKit
set_option linter.unusedVariables false
set_option linter.unusedSimpArgs false

theorem ordOkF_perm {n : Nat} {E : List Int} (hE : E.Perm (idL n)) : OrdOkF n E := by
  have hl : E.length = n := by rw [hE.length_eq, idL_length]
  refine ⟨fun k hk => ?_, fun p q hpq hq h => ?_⟩
  · have h1 : E[k] ∈ idL n := hE.mem_iff.1 (List.getElem_mem hk)
    unfold idL at h1
    obtain ⟨i, hi, he⟩ := List.mem_map.1 h1
    exact ⟨i, by rw [nth_eq hk, ← he], List.mem_range.1 hi⟩
  · have := perm_nodup hE (by omega) (by omega) h
    omega
theorem ordF_orders {n : Nat} {E : List Int} (hE : E.Perm (idL n)) (h1 : 1 ≤ n) (h2 : n ≤ 24) : (win (n : Int) 1 24 && orders (n : Int) E) = true := by
  have hl : E.length = n := by rw [hE.length_eq, idL_length]
  have ho := ordOkF_perm hE
  rw [Bool.and_eq_true]
  refine ⟨win_true.2 (by omega), orders_yes (by rw [hl]) fun i hi => ?_⟩
  obtain ⟨x, hx, hxn⟩ := ho.el i hi
  refine ⟨win_true.2 (by omega), ?_⟩
  rw [List.any_eq_false]
  intro y hy
  obtain ⟨p, hp, rfl⟩ := List.getElem_of_mem hy
  rw [List.length_take] at hp
  have := ho.ne p i (by omega) hi
  rw [List.getElem_take, ← nth_eq]
  simpa using this
set_option maxRecDepth 100000 in
set_option maxHeartbeats 400000 in
theorem ordered_any (b o T c M n bo oo L co : Nat) (ts E : List Int) (w : World) (hv : ShW w b o T c ts) (hok : ShopOk ts M n) (hE : ShW w bo oo L co E) (hp : E.Perm (idL n)) :
    Calls Try.prog 21 #[.slice (some ⟨b, o, none⟩) T c, .int .i64 M, .slice (some ⟨bo, oo, none⟩) L co] w fun e w' => e = .returned (.tuple #[shV b o T c n M, .bool true]) ∧ Below w.heap.size w w' := by
  have hTM : T = n * M := by rw [hv.len, hok.len]
  have hbig := hok.big
  have hn24 := hok.n24
  have hL : L = n := by rw [hE.len, hp.length_eq, idL_length]
  have HAS : Hid (∀ W, Below w.heap.size w W → Calls Try.prog 23 #[.slice (some ⟨b, o, none⟩) T c, .int .i64 M] W fun e w' => e = .returned (.tuple #[shV b o T c n M, .bool true]) ∧ Below W.heap.size W w') := fun W hW => asShop_any b o T c ts M n W ((hv.below hW).ints (by omega)) hok
  have HIO : Hid (∀ W, Below w.heap.size w W → Calls Try.prog 37 #[.slice (some ⟨bo, oo, none⟩) L co, .int .i64 n] W fun e w' => e = .returned (.bool true) ∧ Below W.heap.size W w') := fun W hW => by
    have h := isOrder_any n _ E W ((hE.below hW).ints (by omega)) (by have := hE.len; omega)
    rwa [ordF_orders hp hok.n1 hok.n24] at h
  clear hv hok hE hp hTM hbig hL
  obtain ⟨W1, hW1⟩ : ∃ W, w.alloc (.cells #[.slice none 0 0, .int .i64 0, .int .i64 0] 43) = W := ⟨_, rfl⟩
  have HB1 : Hid (Below w.heap.size w W1) := by show Below _ _ _; rw [← hW1]; exact (Below.refl _ w).alloc (Nat.le_refl _) _
  have HK1 : Hid (Blk W1 w.heap.size 43 [.slice none 0 0, .int .i64 0, .int .i64 0]) := by show Blk _ _ _ _; rw [← hW1]; exact Blk.new w _ _
  have hsz : W1.heap.size = w.heap.size + 1 := by rw [← hW1]; simp
  have HSZ := Lib.hid hsz
  have HW := Lib.hid hW1
  clear hsz hW1
  go_enter Try.func21, Try.ntmps21
  go_wp2_with fail
  rw [HW.out]
  refine (HAS.out W1 HB1.out).mono ?_
  rintro e W2 ⟨rfl, hb2⟩
  have HB2 : Hid (Below w.heap.size w W2) := HB1.out.trans (hb2.mono HB1.out.size)
  have HK2 : Hid (Blk W2 w.heap.size 43 [.slice none 0 0, .int .i64 0, .int .i64 0]) := HK1.out.below hb2 (by rw [HSZ.out]; omega)
  obtain ⟨q, hq⟩ : ∃ q, W2.heap.size = q := ⟨_, rfl⟩
  have hqw : w.heap.size < q := by rw [← hq]; exact HK2.out.lt
  unfold shV
  clear hb2
  go_upto_region 2 with fail
  obtain ⟨W3, hW3⟩ : ∃ W, W2.alloc (.cells #[.slice (some ⟨b, o, none⟩) T c, .int .i64 n, .int .i64 M] 43) = W := ⟨_, rfl⟩
  have HB3 : Hid (Below w.heap.size w W3) := by show Below _ _ _; rw [← hW3]; exact HB2.out.alloc HB2.out.size _
  have HK3 : Hid (Blk W3 w.heap.size 43 [.slice none 0 0, .int .i64 0, .int .i64 0]) := by show Blk _ _ _ _; rw [← hW3]; exact HK2.out.alloc _
  have HX3 : Hid (BoxS W3 q b o T c n M) := by show BoxS _ _ _ _ _ _ _ _; rw [← hW3, ← hq]; exact BoxS.new W2 b o T c n M
  have hq3 : q < W3.heap.size := by rw [← hW3]; simp; omega
  rw [hW3]
  have HIO3 : Hid (∀ k, Calls Try.prog 37 #[.slice (some ⟨bo, oo, none⟩) L co, .int .i64 n] (W3.drewN k) fun e w' => e = .returned (.bool true) ∧ Below w.heap.size w w' ∧ Blk w' w.heap.size 43 [.slice none 0 0, .int .i64 0, .int .i64 0] ∧ BoxS w' q b o T c n M) := fun k => by
    have hk := below_drewN k (Below.refl W3.heap.size W3)
    refine (HIO.out (W3.drewN k) (HB3.out.trans (hk.mono HB3.out.size))).mono ?_
    rintro e w' ⟨h1, h2⟩
    have h3 : Below W3.heap.size W3 w' := hk.trans h2
    exact ⟨h1, HB3.out.trans (h3.mono HB3.out.size), HK3.out.below h3 (by omega), HX3.out.below h3 hq3⟩
  have x0 := HX3.out.c0
  have x1 := HX3.out.c1
  have x2 := HX3.out.c2
  have hne : ¬ q = w.heap.size := by omega
  have hne2 : ¬ w.heap.size = q := by omega
  clear hW3 hq HIO HAS
  go_region_held3 (fun w' => w'.cell? ⟨q, 0, none⟩ = some (.slice (some ⟨b, o, none⟩) T c) ∧ w'.cell? ⟨q, 1, none⟩ = some (.int .i64 n) ∧ w'.cell? ⟨q, 2, none⟩ = some (.int .i64 M)) (first | go_keep | exact ⟨y0, y1, y2⟩)
    (first | (go_at_call 37; refine (HIO3.out _).mono ?_; rintro e W4 ⟨rfl, hb4, hk4, hx4⟩; have HB4 := Lib.hid hb4; have HK4 := Lib.hid hk4; have y0 := hx4.c0; have y1 := hx4.c1; have y2 := hx4.c2; have z0 := hk4.cell 0 _ rfl; have z1 := hk4.cell 1 _ rfl; have z2 := hk4.cell 2 _ rfl; have g0 := hk4.frozen 0; have g1 := hk4.frozen 1; have g2 := hk4.frozen 2; clear hb4 hk4 hx4))
  go_wp2
  have HK5 : Hid (Blk (((W4.setCell ⟨w.heap.size, 0, none⟩ (.slice (some ⟨b, o, none⟩) T c)).setCell ⟨w.heap.size, 1, none⟩ (.int .i64 n)).setCell ⟨w.heap.size, 2, none⟩ (.int .i64 M)) w.heap.size 43 [.slice (some ⟨b, o, none⟩) T c, .int .i64 n, .int .i64 M]) := ((HK4.out.set 0 _).set 1 _).set 2 _
  have HB5 : Hid (Below w.heap.size w (((W4.setCell ⟨w.heap.size, 0, none⟩ (.slice (some ⟨b, o, none⟩) T c)).setCell ⟨w.heap.size, 1, none⟩ (.int .i64 n)).setCell ⟨w.heap.size, 2, none⟩ (.int .i64 M))) := by
    exact ((HB4.out.setCell (p := ⟨w.heap.size, 0, none⟩) (Nat.le_refl _) _).setCell (p := ⟨w.heap.size, 1, none⟩) (Nat.le_refl _) _).setCell (p := ⟨w.heap.size, 2, none⟩) (Nat.le_refl _) _
  obtain ⟨W5, hW5⟩ : ∃ W, ((W4.setCell ⟨w.heap.size, 0, none⟩ (.slice (some ⟨b, o, none⟩) T c)).setCell ⟨w.heap.size, 1, none⟩ (.int .i64 n)).setCell ⟨w.heap.size, 2, none⟩ (.int .i64 M) = W := ⟨_, rfl⟩
  rw [hW5] at HK5 HB5 ⊢
  have r0 := HK5.out.cell 0 _ rfl
  have r1 := HK5.out.cell 1 _ rfl
  have r2 := HK5.out.cell 2 _ rfl
  exact bodyPost_ret (v := .tuple #[shV b o T c n M, .bool true]) (by simp [results, Try.results21, go_sem, shV, r0, r1, r2]) rfl ⟨rfl, HB5.out⟩
set_option maxRecDepth 100000 in
set_option maxHeartbeats 400000 in
theorem FlowLast_any (b o T c M n bo oo L co : Nat) (ts E : List Int) (w : World) (hv : ShW w b o T c ts) (hok : ShopOk ts M n) (hE : ShW w bo oo L co E) (hp : E.Perm (idL n)) :
    Calls Try.prog 9 #[.slice (some ⟨b, o, none⟩) T c, .int .i64 M, .slice (some ⟨bo, oo, none⟩) L co] w fun e w' => e = .returned (.tuple #[.int .i64 (fL ts M E), .bool true]) ∧ Below w.heap.size w w' := by
  have HL24 : Hid (L ≤ 24) := by show _ ≤ _; rw [hE.len, hp.length_eq, idL_length]; exact hok.n24
  have HOD := Lib.hid (ordered_any b o T c M n bo oo L co ts E w hv hok hE hp)
  have HFL : Hid (∀ W, Below w.heap.size w W → Calls Try.prog 22 #[shV b o T c n M, .slice (some ⟨bo, oo, none⟩) L co] W fun e w' => (∃ gO, e = .returned (.tuple #[.slice (some ⟨gO, 0, none⟩) T T, .int .i64 (fL ts M E)])) ∧ Below W.heap.size W w') := fun W hW => (shFlow_any b o T c M n bo oo L co ts E W (hv.below hW) hok (hE.below hW) (ordOkF_perm hp) HL24.out).mono (fun _ _ h => ⟨⟨h.1.choose, h.1.choose_spec.1⟩, h.2⟩)
  unfold shV at HOD HFL
  clear hv hok hE hp
  go_enter Try.func9, Try.ntmps9
  go_wp2_with fail
  refine HOD.out.mono ?_
  rintro e W2 ⟨rfl, hb2⟩
  have HB2 := Lib.hid hb2
  have HF := Lib.hid (HFL.out _ (hb2.alloc hb2.size (.cells #[.slice (some ⟨b, o, none⟩) T c, .int .i64 n, .int .i64 M] 43)))
  clear hb2 HOD
  go_wp2_with fail
  refine HF.out.mono ?_
  rintro e W3 ⟨⟨gO, rfl⟩, hb3⟩
  have HB3 : Hid (Below w.heap.size w W3) := (HB2.out.alloc HB2.out.size _).trans (hb3.mono (HB2.out.alloc HB2.out.size _).size)
  clear hb3 HF
  go_wp2
  go_ret2
  exact ⟨rfl, HB3.out⟩
set_option maxRecDepth 100000 in
set_option maxHeartbeats 400000 in
theorem FlowEnds_any (b o T c M n bo oo L co : Nat) (ts E : List Int) (w : World) (hv : ShW w b o T c ts) (hok : ShopOk ts M n) (hE : ShW w bo oo L co E) (hp : E.Perm (idL n)) :
    Calls Try.prog 8 #[.slice (some ⟨b, o, none⟩) T c, .int .i64 M, .slice (some ⟨bo, oo, none⟩) L co] w fun e w' => (∃ gO, e = .returned (.tuple #[.slice (some ⟨gO, 0, none⟩) T T, .bool true]) ∧ ∃ outs, OwnI w' w.heap.size (.slice (some ⟨gO, 0, none⟩) T T) outs ∧ EndsF ts M E outs) ∧ Below w.heap.size w w' := by
  have HL24 : Hid (L ≤ 24) := by show _ ≤ _; rw [hE.len, hp.length_eq, idL_length]; exact hok.n24
  have HOD := Lib.hid (ordered_any b o T c M n bo oo L co ts E w hv hok hE hp)
  have HFL : Hid (∀ W, Below w.heap.size w W → Calls Try.prog 22 #[shV b o T c n M, .slice (some ⟨bo, oo, none⟩) L co] W fun e w' => (∃ gO, e = .returned (.tuple #[.slice (some ⟨gO, 0, none⟩) T T, .int .i64 (fL ts M E)]) ∧ ∃ outs, OwnI w' W.heap.size (.slice (some ⟨gO, 0, none⟩) T T) outs ∧ EndsF ts M E outs) ∧ Below W.heap.size W w') := fun W hW => shFlow_any b o T c M n bo oo L co ts E W (hv.below hW) hok (hE.below hW) (ordOkF_perm hp) HL24.out
  unfold shV at HOD HFL
  clear hv hok hE hp
  go_enter Try.func8, Try.ntmps8
  go_wp2_with fail
  refine HOD.out.mono ?_
  rintro e W2 ⟨rfl, hb2⟩
  have HB2 := Lib.hid hb2
  have HF := Lib.hid (HFL.out _ (hb2.alloc hb2.size (.cells #[.slice (some ⟨b, o, none⟩) T c, .int .i64 n, .int .i64 M] 43)))
  clear hb2 HOD
  go_wp2_with fail
  refine HF.out.mono ?_
  rintro e W3 ⟨⟨gO, rfl, outs, ho, he⟩, hb3⟩
  have HB3 : Hid (Below w.heap.size w W3) := (HB2.out.alloc HB2.out.size _).trans (hb3.mono (HB2.out.alloc HB2.out.size _).size)
  have HO : Hid (OwnI W3 w.heap.size (.slice (some ⟨gO, 0, none⟩) T T) outs ∧ EndsF ts M E outs) := ⟨ho.mono (HB2.out.alloc HB2.out.size _).size, he⟩
  clear hb3 HF ho he
  go_wp2
  go_ret2
  exact ⟨⟨gO, rfl, outs, HO.out⟩, HB3.out⟩
end Go.Proofs.Ytckdfahbhagoaaa

namespace Go.Proofs.Ytckdfahbhagoaaa
open Go.RowKit
set_option linter.unusedVariables false
set_option linter.unusedSimpArgs false

theorem gMax_le {f : Nat → Int} {B : Int} (hB : 0 ≤ B) : ∀ n, (∀ m, m < n → f m ≤ B) → gMax f n ≤ B
  | 0, _ => hB
  | n + 1, h => by
    have h1 := gMax_le hB n (fun m hm => h m (by omega))
    have h2 := h n (by omega)
    unfold gMax
    split <;> omega
theorem gapF_bounds {ts : List Int} {M n i k : Nat} (hok : ShopOk ts M n) (hi : i < n) (hk : k < n) : 0 ≤ gapF ts M i k ∧ gapF ts M i k ≤ 80000 := by
  have hb : ∀ j m, j < n → m ≤ M → 0 ≤ sF (tF ts M j) m ∧ sF (tF ts M j) m ≤ 10000 * (m : Int) := fun j m hj hm => sF_bound m (fun q hq => by have := hok.at_ hj (show q < M by omega); omega)
  have h8 := hok.m8
  have h1 := hok.m1
  refine ⟨?_, gMax_le (by omega) M (fun m hm => ?_)⟩
  · have h2 := gMax_ge (f := fun m => sF (tF ts M i) (m + 1) - sF (tF ts M k) m) M 0 (by omega)
    have h3 := (hb i 1 hi h1).1
    have h4 : sF (tF ts M k) 0 = 0 := rfl
    have h5 : sF (tF ts M i) (0 + 1) - sF (tF ts M k) 0 ≤ gapF ts M i k := h2
    rw [Nat.zero_add] at h5
    omega
  · have h2 := hb i (m + 1) hi (by omega)
    have h3 := hb k m hk (by omega)
    show sF (tF ts M i) (m + 1) - sF (tF ts M k) m ≤ _
    omega
theorem nwS_bounds {ts : List Int} {M n : Nat} {E : List Int} (hok : ShopOk ts M n) (hE : OrdOkF n E) : ∀ k, k < E.length → 0 ≤ nwS ts M E k ∧ nwS ts M E k ≤ 80000 * (k : Int)
  | 0, _ => by show (0 : Int) ≤ 0 ∧ (0 : Int) ≤ _; omega
  | k + 1, hk => by
    have h1 := nwS_bounds hok hE k (by omega)
    obtain ⟨i, hi, hin⟩ := hE.el k (by omega)
    obtain ⟨j, hj, hjn⟩ := hE.el (k + 1) hk
    have h2 := gapF_bounds hok hin hjn
    show 0 ≤ nwS ts M E k + gapF ts M (nth E k).toNat (nth E (k + 1)).toNat ∧ nwS ts M E k + gapF ts M (nth E k).toNat (nth E (k + 1)).toNat ≤ _
    rw [hi, hj, Int.toNat_natCast, Int.toNat_natCast]
    omega
theorem bC_bounds {ts : List Int} {M n : Nat} {E : List Int} (hok : ShopOk ts M n) (hE : OrdOkF n E) {k : Nat} (hk : k ≤ E.length) {m : Nat} (hm : m < M) : 0 ≤ bC ts M E k m ∧ bC ts M E k m ≤ 80000 * (k : Int) := by
  have hT := hok.tmF hE.el
  have h1 := bC_ge hT k hk m hm
  have h2 := (fC_bounds hT k hk m hm).1
  refine ⟨by omega, ?_⟩
  cases k with
  | zero => show (0 : Int) ≤ _; omega
  | succ k =>
    have h3 := nw_ge hT hok.m1 k (by omega) m hm
    have h4 := nwS_bounds hok hE k (by omega)
    obtain ⟨i, hi, hin⟩ := hE.el k (by omega)
    have h5 := sF_bound (f := tF ts M (nth E k).toNat) (m + 1) (fun q hq => by rw [hi, Int.toNat_natCast]; have := hok.at_ hin (show q < M by omega); omega)
    have h8 := hok.m8
    omega
def nwL (ts : List Int) (M : Nat) (E : List Int) : Int := ofF ts M (nth E (E.length - 1)).toNat + nwS ts M E (E.length - 1)
def NwR (ts : List Int) (M : Nat) (E : List Int) (L1 : Nat) (X : Int) (w : World) (vs vk : Value) (wr : World) : Prop :=
  ∃ k : Nat, k ≤ L1 ∧ vk = .int .i64 k ∧ vs = .int .i64 (X + nwS ts M E k) ∧ Hid (Below w.heap.size w wr)
set_option maxRecDepth 100000 in
set_option maxHeartbeats 1000000 in
theorem NoWaitLast_any (b o T c M n bo oo L co : Nat) (ts E : List Int) (w : World) (hv : ShW w b o T c ts) (hok : ShopOk ts M n) (hE : ShW w bo oo L co E) (hp : E.Perm (idL n)) :
    Calls Try.prog 14 #[.slice (some ⟨b, o, none⟩) T c, .int .i64 M, .slice (some ⟨bo, oo, none⟩) L co] w fun e w' => e = .returned (.tuple #[.int .i64 (nwL ts M E), .bool true]) ∧ Below w.heap.size w w' := by
  have hL : L = n := by rw [hE.len, hp.length_eq, idL_length]
  have HL1 : Hid (1 ≤ L ∧ L ≤ 24) := by show _ ∧ _; rw [hL]; exact ⟨hok.n1, hok.n24⟩
  have HLE : Hid (L = E.length) := hE.len
  have hord := ordOkF_perm hp
  have HOR := Lib.hid hord
  have HNB : Hid (∀ k, k < L → 0 ≤ nwS ts M E k ∧ nwS ts M E k ≤ 80000 * (k : Int)) := fun k hk => nwS_bounds hok hord k (by rw [← HLE.out]; exact hk)
  have HOB : Hid (∀ i, i < n → 0 ≤ ofF ts M i ∧ ofF ts M i ≤ 80000) := fun i hi => by
    have h := sF_bound (f := tF ts M i) M (fun q hq => by have := hok.at_ hi hq; omega)
    have := hok.m8
    unfold ofF; omega
  have HGB : Hid (∀ i k, i < n → k < n → 0 ≤ gapF ts M i k ∧ gapF ts M i k ≤ 80000) := fun i k hi hk => gapF_bounds hok hi hk
  have HOD := Lib.hid (ordered_any b o T c M n bo oo L co ts E w hv hok hE hp)
  have HOF : Hid (∀ i W, i < n → Below w.heap.size w W → Calls Try.prog 30 #[shV b o T c n M, .int .i64 i] W fun e w' => e = .returned (.int .i64 (ofF ts M i)) ∧ Below W.heap.size W w') := fun i W hi hW => shOf_any b o T c M n i ts W (hv.below hW) hok hi
  have HGA : Hid (∀ i k W, i < n → k < n → Below w.heap.size w W → Calls Try.prog 29 #[shV b o T c n M, .int .i64 i, .int .i64 k] W fun e w' => e = .returned (.int .i64 (gapG ts M i k)) ∧ Below W.heap.size W w') := fun i k W hi hk hW => shGap_any b o T c M n i k ts W (hv.below hW) hok hi hk
  have HEC : Hid (∀ W, Below w.heap.size w W → ∀ k, k < L → W.cell? ⟨bo, oo + k, none⟩ = some (.int .i64 (nth E k))) := fun W hW k hk => (hE.below hW).cell k hk
  have hcap := hE.cap
  have hL1 := HL1.out.1
  have hL24 := HL1.out.2
  obtain ⟨e1, he1, he1n⟩ := hord.el (L - 1) (by rw [← hE.len]; omega)
  have HE1 := Lib.hid he1
  clear hv hok hE hp hL hord he1
  unfold shV at HOD
  go_enter Try.func14, Try.ntmps14
  go_wp2_with fail
  refine HOD.out.mono ?_
  rintro e W2 ⟨rfl, hb2⟩
  have HB2 := Lib.hid hb2
  clear hb2 HOD
  obtain ⟨q, hq⟩ : ∃ q, W2.heap.size = q := ⟨_, rfl⟩
  have HQ := Lib.hid hq
  go_upto_region 4 with fail
  obtain ⟨W3, hW3⟩ : ∃ W, W2.alloc (.cells #[.slice (some ⟨b, o, none⟩) T c, .int .i64 n, .int .i64 M] 43) = W := ⟨_, rfl⟩
  have HB3 : Hid (Below w.heap.size w W3) := by show Below _ _ _; rw [← hW3]; exact HB2.out.alloc HB2.out.size _
  have HX3 : Hid (BoxS W3 q b o T c n M) := by show BoxS _ _ _ _ _ _ _ _; rw [← hW3, ← hq]; exact BoxS.new W2 b o T c n M
  have HQ3 : Hid (q < W3.heap.size) := by show _ < _; rw [← hW3]; simp; omega
  rw [hW3]
  clear hW3 hq
  have x0 := HX3.out.c0
  have x1 := HX3.out.c1
  have x2 := HX3.out.c2
  have ce := HEC.out W3 HB3.out (L - 1) (by omega)
  rw [HE1.out] at ce
  obtain ⟨L1, hLL⟩ : ∃ L1, L - 1 = L1 := ⟨_, rfl⟩
  have HLL := Lib.hid hLL
  have hlw : IntKind.i64.wrap ((L : Int) - 1) = (L1 : Int) := by rw [show ((L : Int) - 1) = (L1 : Int) by omega]; exact IntWalk.i64_in _ (by omega)
  have l0 : (0 : Int) ≤ (L1 : Int) := by omega
  have l1 : (L1 : Int) < (L : Int) := by omega
  rw [hLL] at ce
  have HOF3 : Hid (∀ k, Calls Try.prog 30 #[shV b o T c n M, .int .i64 e1] (W3.drewN k) fun e w' => e = .returned (.int .i64 (ofF ts M e1)) ∧ Below W3.heap.size W3 w') := fun k => by
    have hk := below_drewN k (Below.refl W3.heap.size W3)
    refine (HOF.out e1 (W3.drewN k) he1n (HB3.out.trans (hk.mono HB3.out.size))).mono ?_
    rintro e w' ⟨h1, h2⟩
    exact ⟨h1, hk.trans h2⟩
  unfold shV at HOF3
  have HSA : Hid (∀ W, Below W3.heap.size W3 W → (W.cell? ⟨q, 0, none⟩ = some (.slice (some ⟨b, o, none⟩) T c) ∧ W.cell? ⟨q, 1, none⟩ = some (.int .i64 n) ∧ W.cell? ⟨q, 2, none⟩ = some (.int .i64 M)) ∧ W.cell? ⟨bo, oo + L1, none⟩ = some (.int .i64 e1)) := fun W hW => by
    have h := HX3.out.below hW HQ3.out
    have h2 := HEC.out W (HB3.out.trans (hW.mono HB3.out.size)) (L - 1) (by omega)
    rw [HE1.out, HLL.out] at h2
    exact ⟨⟨h.c0, h.c1, h.c2⟩, h2⟩
  clear hLL
  go_region_held3 (fun w' => w'.cell? ⟨q, 0, none⟩ = some (.slice (some ⟨b, o, none⟩) T c) ∧ w'.cell? ⟨q, 1, none⟩ = some (.int .i64 n) ∧ w'.cell? ⟨q, 2, none⟩ = some (.int .i64 M) ∧ w'.cell? ⟨bo, oo + L1, none⟩ = some (.int .i64 e1)) (first | go_keep)
    (first | (go_at_call 30; refine (HOF3.out _).mono ?_; rintro e W4 ⟨rfl, hb4⟩; have HB4 := Lib.hid hb4; have y0 := (HSA.out W4 hb4).1.1; have y1 := (HSA.out W4 hb4).1.2.1; have y2 := (HSA.out W4 hb4).1.2.2; have y3 := (HSA.out W4 hb4).2; clear hb4))
  have HB4w : Hid (Below w.heap.size w W4) := HB3.out.trans (HB4.out.mono HB3.out.size)
  have HNL : Hid (nwL ts M E = ofF ts M e1 + nwS ts M E L1) := by
    show _ = _
    unfold nwL
    rw [← HLE.out, HLL.out, ← HLL.out, HE1.out, Int.toNat_natCast]
  by_cases hco : co = 1
  · have hL1e : L = 1 := by omega
    have HZ : Hid (L1 = 0) := by show _ = _; rw [← HLL.out]; omega
    have HR0 : Hid (NwR ts M E L1 (ofF ts M e1) W3 (.int .i64 (ofF ts M e1)) (.int .i64 0) W4) := ⟨0, Nat.zero_le _, rfl, by show _ = Value.int .i64 (ofF ts M e1 + 0); rw [Int.add_zero], HB4.out⟩
    go_wp2
    go_loopw [10, 33] (fun vs vk wr => vs = .int .i64 (ofF ts M e1) ∧ vk = .int .i64 0 ∧ Hid (wr = W4)) (fun _ _ _ => 0)
    case atStart => exact ⟨rfl, rfl, rfl⟩
    case round =>
      obtain ⟨rfl, rfl, HW⟩ := hrel
      have HN0 : Hid (nwL ts M E = ofF ts M e1) := by
        show _ = _
        rw [HNL.out, HZ.out]
        show _ + 0 = _
        rw [Int.add_zero]
      have HBF : Hid (Below w.heap.size w wr) := by rw [HW.out]; exact HB4w.out
      go_wp2
      go_ret2
      exact ⟨by rw [HN0.out]; rfl, HBF.out⟩
  · have hco1 : ¬ co - 1 = 0 := by omega
    have hco2 : ¬ (co : Int) - 1 = 0 := by omega
    have HR0 : Hid (NwR ts M E L1 (ofF ts M e1) W3 (.int .i64 (ofF ts M e1)) (.int .i64 0) W4) := ⟨0, Nat.zero_le _, rfl, by show _ = Value.int .i64 (ofF ts M e1 + 0); rw [Int.add_zero], HB4.out⟩
    have HLc : Hid (L1 ≤ co - 1) := by show _ ≤ _; omega
    have hXb := HOB.out e1 he1n
    obtain ⟨X, hX⟩ : ∃ X, ofF ts M e1 = X := ⟨_, rfl⟩
    rw [hX] at HR0 HNL hXb ⊢
    go_wp2
    rw [HLL.out]
    clear hX x0 x1 x2 ce y0 y1 y2 y3
    go_loopw [10, 33] (fun vs vk wr => NwR ts M E L1 X W3 vs vk wr) (fun _ vk _ => L1 - (intOf vk).toNat)
    case atStart => exact HR0.out
    case round =>
      obtain ⟨k, hk, rfl, rfl, HB⟩ := hrel
      clear HR0
      have HBw : Hid (Below w.heap.size w wr) := HB3.out.trans (HB.out.mono HB3.out.size)
      by_cases hk2 : k < L1
      · have k0 : (0 : Int) ≤ (k : Int) := by omega
        have k1 : (k : Int) < (L1 : Int) := by omega
        have k2 : (k : Int) < (L : Int) := by omega
        obtain ⟨i, hi, hin⟩ := HOR.out.el k (by rw [← HLE.out]; omega)
        obtain ⟨j, hj, hjn⟩ := HOR.out.el (k + 1) (by rw [← HLE.out]; omega)
        have hij : i ≠ j := fun e => HOR.out.ne k (k + 1) (by omega) (by rw [← HLE.out]; omega) (by rw [hi, hj, e])
        have ci := HEC.out wr HBw.out k (by omega)
        have cj := HEC.out wr HBw.out (k + 1) (by omega)
        rw [hi] at ci
        rw [hj, show oo + (k + 1) = oo + 1 + k by omega] at cj
        have hX3 := HX3.out.below HB.out HQ3.out
        have x0 := hX3.c0
        have x1 := hX3.c1
        have x2 := hX3.c2
        have hnb := HNB.out k (by omega)
        have hgb := HGB.out i j hin hjn
        have HST : Hid (nwS ts M E (k + 1) = nwS ts M E k + gapF ts M i j) := by
          show nwS ts M E k + gapF ts M (nth E k).toNat (nth E (k + 1)).toNat = _
          rw [hi, hj, Int.toNat_natCast, Int.toNat_natCast]
        have HGC : Hid (∀ q', Calls Try.prog 29 #[shV b o T c n M, .int .i64 i, .int .i64 j] (wr.drewN q') fun e w' => e = .returned (.int .i64 (gapF ts M i j)) ∧ Below W3.heap.size W3 w') := fun q' => by
          have hk := below_drewN q' (Below.refl wr.heap.size wr)
          refine (HGA.out i j (wr.drewN q') hin hjn (HBw.out.trans (hk.mono HBw.out.size))).mono ?_
          rintro e w' ⟨h1, h2⟩
          have e2 : gapG ts M i j = gapF ts M i j := by unfold gapG; rw [if_neg hij]
          exact ⟨by rw [← e2]; exact h1, HB.out.trans ((hk.trans h2).mono HB.out.size)⟩
        unfold shV at HGC
        have HSB : Hid (∀ W, Below W3.heap.size W3 W → (W.cell? ⟨q, 0, none⟩ = some (.slice (some ⟨b, o, none⟩) T c) ∧ W.cell? ⟨q, 1, none⟩ = some (.int .i64 n) ∧ W.cell? ⟨q, 2, none⟩ = some (.int .i64 M)) ∧ W.cell? ⟨bo, oo + k, none⟩ = some (.int .i64 i)) := fun W hW => by
          have h2 := HEC.out W (HB3.out.trans (hW.mono HB3.out.size)) k (by omega)
          rw [hi] at h2
          exact ⟨(HSA.out W hW).1, h2⟩
        obtain ⟨S, hS⟩ : ∃ S, nwS ts M E k = S := ⟨_, rfl⟩
        obtain ⟨G, hG⟩ : ∃ G, gapF ts M i j = G := ⟨_, rfl⟩
        rw [hS] at hnb HST ⊢
        rw [hG] at hgb HST HGC
        have w1 : IntKind.i64.wrap (X + S + G) = X + S + G := IntWalk.i64_in _ (by omega)
        clear hi hj hX3 hS hG hij
        go_wp2_with fail
        go_region_held3 (fun w' => w'.cell? ⟨q, 0, none⟩ = some (.slice (some ⟨b, o, none⟩) T c) ∧ w'.cell? ⟨q, 1, none⟩ = some (.int .i64 n) ∧ w'.cell? ⟨q, 2, none⟩ = some (.int .i64 M) ∧ w'.cell? ⟨bo, oo + k, none⟩ = some (.int .i64 i)) (first | go_keep)
          (first | (go_at_call 29; refine (HGC.out _).mono ?_; rintro e W5 ⟨rfl, hb5⟩; have HB5 := Lib.hid hb5; have y0 := (HSB.out W5 hb5).1.1; have y1 := (HSB.out W5 hb5).1.2.1; have y2 := (HSB.out W5 hb5).1.2.2; have y3 := (HSB.out W5 hb5).2; clear hb5))
        go_wp2
        go_roundw
        case rel => exact ⟨k + 1, by omega, by go_num, by rw [HST.out, ← Int.add_assoc], HB5.out⟩
        case measure => simp [intOf]; omega
      · obtain rfl : L1 = k := by omega
        go_wp2
        go_ret2
        exact ⟨by rw [HNL.out]; rfl, HBw.out⟩
end Go.Proofs.Ytckdfahbhagoaaa

namespace Go.Proofs.Ytckdfahbhagoaaa
open Go.RowKit
set_option linter.unusedVariables false
set_option linter.unusedSimpArgs false

/-- When the job leaves the machine before. -/
def pvB (ts : List Int) (M : Nat) (E : List Int) (k : Nat) : Nat → Int
  | 0 => bC ts M E k 0
  | m + 1 => bC ts M E (k + 1) m
theorem bC_at (ts : List Int) (M : Nat) (E : List Int) (k m : Nat) : bC ts M E (k + 1) m = if m + 1 < M then max (pvB ts M E k m + tF ts M (nth E k).toNat m) (bC ts M E k (m + 1)) else pvB ts M E k m + tF ts M (nth E k).toNat m := by
  cases m with
  | zero => rfl
  | succ m => rfl
structure BkM (ts : List Int) (M : Nat) (E : List Int) (k m : Nat) (w : World) (gL : Nat) (left : List Int) (wr : World) : Prop where
  f : OwnI wr w.heap.size (.slice (some ⟨gL, 0, none⟩) M M) left
  fl : M = left.length
  fv : ∀ j, j < M → nth left j = if j < m then bC ts M E (k + 1) j else bC ts M E k j
  bel : Below w.heap.size w wr
section
variable {ts : List Int} {M : Nat} {E : List Int} {k m : Nat} {w : World} {gL : Nat} {left : List Int} {wr : World}
theorem BkM.below (h : BkM ts M E k m w gL left wr) {W : World} (hb : Below wr.heap.size wr W) : BkM ts M E k m w gL left W :=
  ⟨h.f.below hb (Nat.le_refl _), h.fl, h.fv, h.bel.trans (hb.mono h.bel.size)⟩
theorem BkM.next (h : BkM ts M E k M w gL left wr) : BkM ts M E (k + 1) 0 w gL left wr :=
  ⟨h.f, h.fl, fun j hj => by rw [h.fv j hj, if_pos hj, if_neg (Nat.not_lt_zero _)], h.bel⟩
theorem BkM.put (h : BkM ts M E k m w gL left wr) (hm : m < M) {X : Int} (hX : X = bC ts M E (k + 1) m) : BkM ts M E k (m + 1) w gL (left.set m X) (wr.setCell ⟨gL, m, none⟩ (.int .i64 X)) := by
  obtain ⟨_, _, s3, s4⟩ := h.f.store h.fl m (by rw [← h.fl]; exact hm) X
  refine ⟨s3, by rw [List.length_set]; exact h.fl, fun j hj => ?_, h.bel.grown s4 h.bel.size (fun q e => by cases e; exact (h.f.lt gL rfl).1)⟩
  rw [nth_eq (by rw [List.length_set, ← h.fl]; exact hj), List.getElem_set]
  by_cases e : m = j
  · subst e; rw [if_pos rfl, if_pos (by omega), hX]
  · rw [if_neg e, ← nth_eq, h.fv j hj]
    by_cases e2 : j < m
    · rw [if_pos e2, if_pos (by omega)]
    · rw [if_neg e2, if_neg (by omega)]
end
def BkO (ts : List Int) (M : Nat) (E : List Int) (L gL : Nat) (w : World) (vk : Value) (wr : World) : Prop :=
  ∃ (k : Nat) (left : List Int), vk = .int .i64 k ∧ k ≤ L ∧ Hid (BkM ts M E k 0 w gL left wr)
def BkN (ts : List Int) (M : Nat) (E : List Int) (k gL : Nat) (w : World) (va vm : Value) (wr : World) : Prop :=
  ∃ (m : Nat) (left : List Int), vm = .int .i64 m ∧ m ≤ M ∧ (va = .int .i64 (pvB ts M E k m)) ∧ Hid (BkM ts M E k m w gL left wr)
theorem bkStart (ts : List Int) (M : Nat) (E : List Int) (w W1 : World) (hb : Below w.heap.size w W1) (hM : M ≤ 8) : BkM ts M E 0 0 w W1.heap.size (List.replicate M 0) (W1.alloc (.cells (madeCells #[.int .i64 0] M) 2)) := by
  have hs := hb.size
  rw [made1_eq]
  have o4 := OwnI.lit W1 w.heap.size (List.replicate M 0) hs (by unfold maxLen; simp; omega)
  rw [List.length_replicate] at o4
  exact ⟨o4, by simp, fun j hj => by rw [nth_rep0, if_neg (Nat.not_lt_zero _)]; rfl, hb.alloc hs _⟩
set_option maxRecDepth 100000 in
set_option maxHeartbeats 1000000 in
theorem BlockLast_any (b o T c M n bo oo L co : Nat) (ts E : List Int) (w : World) (hv : ShW w b o T c ts) (hok : ShopOk ts M n) (hE : ShW w bo oo L co E) (hp : E.Perm (idL n)) :
    Calls Try.prog 15 #[.slice (some ⟨b, o, none⟩) T c, .int .i64 M, .slice (some ⟨bo, oo, none⟩) L co] w fun e w' => e = .returned (.tuple #[.int .i64 (bC ts M E L (M - 1)), .bool true]) ∧ Below w.heap.size w w' := by
  have hm1 := hok.m1
  have hm8 := hok.m8
  have hL24 : L ≤ 24 := by rw [hE.len, hp.length_eq, idL_length]; exact hok.n24
  have HLE : Hid (L = E.length) := hE.len
  have hord := ordOkF_perm hp
  have HOR := Lib.hid hord
  have HBB : Hid (∀ k m, k ≤ L → m < M → 0 ≤ bC ts M E k m ∧ bC ts M E k m ≤ 80000 * (k : Int)) := fun k m hk hm => bC_bounds hok hord (by rw [← HLE.out]; exact hk) hm
  have HTM : Hid (∀ j m, j < n → m < M → 1 ≤ tF ts M j m ∧ tF ts M j m ≤ 10000) := fun j m hj hm => hok.at_ hj hm
  have HOD := Lib.hid (ordered_any b o T c M n bo oo L co ts E w hv hok hE hp)
  have HAT : Hid (∀ j m W, j < n → m < M → Below w.heap.size w W → Calls Try.prog 31 #[shV b o T c n M, .int .i64 j, .int .i64 m] W fun e w' => e = .returned (.int .i64 (tF ts M j m)) ∧ Below W.heap.size W w') := fun j m W hj hm hW => shAt_any b o T c M n j m ts W (hv.below hW) hok hj hm
  have HEC : Hid (∀ W, Below w.heap.size w W → ∀ k, k < L → W.cell? ⟨bo, oo + k, none⟩ = some (.int .i64 (nth E k))) := fun W hW k hk => (hE.below hW).cell k hk
  have hcap := hE.cap
  have hmk2 := run_make_row' (P := Try.prog) 25 2 (.int .i64 0) 8 Try.underlying25 (by kernel_rfl) rfl .i64 .i64 M (by omega) (by omega)
  clear hv hok hE hp hord
  unfold shV at HOD
  go_enter Try.func15, Try.ntmps15
  go_wp2_with fail
  refine HOD.out.mono ?_
  rintro e W2 ⟨rfl, hb2⟩
  have HB2 := Lib.hid hb2
  clear hb2 HOD
  obtain ⟨q, hq⟩ : ∃ q, W2.heap.size = q := ⟨_, rfl⟩
  have HQ := Lib.hid hq
  go_upto_region 4 with fail
  obtain ⟨W3, hW3⟩ : ∃ W, W2.alloc (.cells #[.slice (some ⟨b, o, none⟩) T c, .int .i64 n, .int .i64 M] 43) = W := ⟨_, rfl⟩
  have HB3 : Hid (Below w.heap.size w W3) := by show Below _ _ _; rw [← hW3]; exact HB2.out.alloc HB2.out.size _
  have HX3 : Hid (BoxS W3 q b o T c n M) := by show BoxS _ _ _ _ _ _ _ _; rw [← hW3, ← hq]; exact BoxS.new W2 b o T c n M
  have HQ3 : Hid (q < W3.heap.size) := by show _ < _; rw [← hW3]; simp; omega
  rw [hW3]
  clear hW3 hq
  have x2 := HX3.out.c2
  have hS := bkStart ts M E W3 W3 (Below.refl _ _) hm8
  obtain ⟨gL, hgL⟩ : ∃ g, W3.heap.size = g := ⟨_, rfl⟩
  have HGL := Lib.hid hgL
  obtain ⟨W4, hW4⟩ : ∃ W, W3.alloc (.cells (madeCells #[.int .i64 0] M) 2) = W := ⟨_, rfl⟩
  rw [hgL, hW4] at hS
  have HR0 : Hid (BkO ts M E L gL W3 (.int .i64 0) W4) := ⟨0, _, rfl, Nat.zero_le _, hS⟩
  have HW4 := Lib.hid hW4
  clear hS hW4 hgL
  go_wp2
  simp only [HW4.out, HGL.out]
  clear x2 hmk2 HW4
  go_loopw [29] (fun vk wr => BkO ts M E L gL W3 vk wr) (fun vk _ => L - (intOf vk).toNat)
  case atStart => exact HR0.out
  case round =>
    obtain ⟨k, left0, rfl, hkL, HM⟩ := hrel
    clear HR0
    have HBw : Hid (Below w.heap.size w wr) := HB3.out.trans (HM.out.bel.mono HB3.out.size)
    have hX := HX3.out.below HM.out.bel HQ3.out
    have x2 := hX.c2
    by_cases hk2 : k < L
    · have k0 : (0 : Int) ≤ (k : Int) := by omega
      have k1 : (k : Int) < (L : Int) := by omega
      have hM0 : (0 : Int) < (M : Int) := by omega
      obtain ⟨i, hi, hin⟩ := HOR.out.el k (by rw [← HLE.out]; exact hk2)
      have ce := HEC.out wr HBw.out k hk2
      rw [hi] at ce
      have HI := Lib.hid hi
      have c0 := HM.out.f.at_ HM.out.fl 0 (by rw [← HM.out.fl]; exact hm1)
      rw [HM.out.fv 0 hm1, if_neg (Nat.not_lt_zero _)] at c0
      have HI0 : Hid (BkN ts M E k gL W3 (.int .i64 (bC ts M E k 0)) (.int .i64 0) wr) := ⟨0, _, rfl, Nat.zero_le _, rfl, HM.out⟩
      clear hi hX HM
      go_wp2_with fail
      clear x2 c0
      go_loopw [13, 38] (fun va vm wr => BkN ts M E k gL W3 va vm wr) (fun _ vm _ => M - (intOf vm).toNat)
      case atStart => exact HI0.out
      case round =>
        obtain ⟨m, left, rfl, hmM, rfl, HN⟩ := hrel
        clear HI0 HBw
        have HBw : Hid (Below w.heap.size w wr) := HB3.out.trans (HN.out.bel.mono HB3.out.size)
        have hX := HX3.out.below HN.out.bel HQ3.out
        have x0 := hX.c0
        have x1 := hX.c1
        have x2 := hX.c2
        by_cases hm2 : m < M
        · have m0 : (0 : Int) ≤ (m : Int) := by omega
          have m1 : (m : Int) < (M : Int) := by omega
          have hat := bC_at ts M E k m
          rw [HI.out, Int.toNat_natCast] at hat
          have hXb := HBB.out (k + 1) m (by omega) hm2
          have htm := HTM.out i m hin hm2
          have HPV : Hid (0 ≤ pvB ts M E k m ∧ pvB ts M E k m ≤ 3000000) := by
            show _ ∧ _
            cases m with
            | zero => have h := HBB.out k 0 hkL hm2; show 0 ≤ bC ts M E k 0 ∧ bC ts M E k 0 ≤ _; omega
            | succ m => have h := HBB.out (k + 1) m (by omega) (by omega); show 0 ≤ bC ts M E (k + 1) m ∧ bC ts M E (k + 1) m ≤ _; omega
          have hpv := HPV.out
          have HPUT : Hid (∀ W, BkM ts M E k m W3 gL left W → BkN ts M E k gL W3 (.int .i64 (bC ts M E (k + 1) m)) (.int .i64 ((m + 1 : Nat) : Int)) (W.setCell ⟨gL, m, none⟩ (.int .i64 (bC ts M E (k + 1) m)))) := fun W hW => ⟨m + 1, _, rfl, by omega, rfl, hW.put hm2 rfl⟩
          have HA := Lib.hid (HAT.out i m wr hin hm2 HBw.out)
          have HC : Hid (∀ W, BkM ts M E k m W3 gL left W → W.frozen? ⟨gL, m, none⟩ = false ∧ (∃ u, W.cell? ⟨gL, m, none⟩ = some u) ∧ W.cell? ⟨q, 2, none⟩ = some (.int .i64 M) ∧ (m + 1 < M → W.cell? ⟨gL, m + 1, none⟩ = some (.int .i64 (bC ts M E k (m + 1))))) := fun W hW => by
            have e2 := hW.f.store hW.fl m (by rw [← hW.fl]; exact hm2) 0
            refine ⟨e2.2.1, ⟨_, e2.1⟩, (HX3.out.below hW.bel HQ3.out).c2, fun h => ?_⟩
            have e3 := hW.f.at_ hW.fl (m + 1) (by rw [← hW.fl]; exact h)
            rwa [hW.fv (m + 1) h, if_neg (by omega)] at e3
          have HF2 : Hid (m + 1 < M → 0 ≤ bC ts M E k (m + 1) ∧ bC ts M E k (m + 1) ≤ 3000000) := fun h => by have h2 := HBB.out k (m + 1) hkL h; omega
          obtain ⟨P, hP⟩ : ∃ x, pvB ts M E k m = x := ⟨_, rfl⟩
          obtain ⟨F, hF⟩ : ∃ x, bC ts M E k (m + 1) = x := ⟨_, rfl⟩
          obtain ⟨X, hX0⟩ : ∃ x, bC ts M E (k + 1) m = x := ⟨_, rfl⟩
          obtain ⟨t, ht⟩ : ∃ x, tF ts M i m = x := ⟨_, rfl⟩
          rw [hP, hF, hX0, ht] at hat
          rw [hX0] at hXb HPUT
          rw [ht] at htm HA
          rw [hP] at hpv ⊢
          rw [hF] at HC HF2
          unfold shV at HA
          have w1 : IntKind.i64.wrap (P + t) = P + t := IntWalk.i64_in _ (by omega)
          have w2 : IntKind.i64.wrap ((m : Int) + 1) = (m : Int) + 1 := IntWalk.i64_in _ (by omega)
          clear hX hP hF hX0 ht HPV
          go_wp2_with fail
          refine HA.out.mono ?_
          rintro e W5 ⟨rfl, hb5⟩
          have H5 : Hid (BkM ts M E k m W3 gL left W5) := HN.out.below hb5
          obtain ⟨f5, ⟨u5, c5⟩, y2, c6⟩ := HC.out W5 H5.out
          have H6 := HPUT.out W5 H5.out
          have HP5 := Lib.hid H6
          clear hb5 HA HC HPUT HN H6
          by_cases hlast : m + 1 < M
          · have c7 := c6 hlast
            have hf2 := HF2.out hlast
            have m3 : (0 : Int) ≤ (m : Int) + 1 := by omega
            have m4 : (m : Int) + 1 < (M : Int) := by omega
            rw [if_pos hlast] at hat
            clear c6 HF2
            by_cases hmx : P + t < F
            · obtain rfl : X = F := by omega
              clear hat
              go_wp2
              go_roundw
              case rel =>
                obtain ⟨m', l', e1, e2, e3, e4⟩ := HP5.out
                exact ⟨m', l', by rw [← e1]; go_num, e2, e3, e4⟩
              case measure => simp [intOf]; omega
            · obtain rfl : X = P + t := by omega
              clear hat
              go_wp2
              go_roundw
              case rel =>
                obtain ⟨m', l', e1, e2, e3, e4⟩ := HP5.out
                exact ⟨m', l', by rw [← e1]; go_num, e2, e3, e4⟩
              case measure => simp [intOf]; omega
          · have m4 : ¬ (m : Int) + 1 < (M : Int) := by omega
            rw [if_neg hlast] at hat
            subst hat
            clear c6 HF2
            go_wp2
            go_roundw
            case rel =>
              obtain ⟨m', l', e1, e2, e3, e4⟩ := HP5.out
              exact ⟨m', l', by rw [← e1]; go_num, e2, e3, e4⟩
            case measure => simp [intOf]; omega
        · obtain rfl : M = m := by omega
          have HO : Hid (BkO ts M E L gL W3 (.int .i64 ((k + 1 : Nat) : Int)) wr) := ⟨k + 1, _, rfl, by omega, HN.out.next⟩
          clear hX HN
          go_wp2
          go_roundw
          case rel =>
            obtain ⟨k', o', e1, e2, e3⟩ := HO.out
            exact ⟨k', o', by rw [← e1]; go_num, e2, e3⟩
          case measure => simp [intOf]; omega
    · obtain rfl : L = k := by omega
      have M0 : (0 : Int) ≤ ((M : Int) - 1) := by omega
      obtain ⟨M1, hM1⟩ : ∃ M1, M - 1 = M1 := ⟨_, rfl⟩
      have w4 : IntKind.i64.wrap ((M : Int) - 1) = (M1 : Int) := by rw [show ((M : Int) - 1) = (M1 : Int) by omega]; exact IntWalk.i64_in _ (by omega)
      have m3 : (0 : Int) ≤ (M1 : Int) := by omega
      have m4 : (M1 : Int) < (M : Int) := by omega
      have cf := HM.out.f.at_ HM.out.fl M1 (by rw [← HM.out.fl]; omega)
      rw [HM.out.fv M1 (by omega), if_neg (Nat.not_lt_zero _)] at cf
      have HMM := Lib.hid hM1
      clear HM hM1 hX
      go_wp2
      go_ret2
      exact ⟨by rw [HMM.out]; rfl, HBw.out⟩
end Go.Proofs.Ytckdfahbhagoaaa

namespace Go.Proofs.Ytckdfahbhagoaaa
open Go.RowKit
set_option linter.unusedVariables false
set_option linter.unusedSimpArgs false

/-- Gaps, row by row, as far as they are told. -/
def GapsF (ts : List Int) (M n : Nat) (out : List Int) : Prop := ∀ a b, b < n → a * n + b < out.length → nth out (a * n + b) = gapG ts M a b
theorem nth_app1 {l r : List Int} {k : Nat} (h : k < l.length) : nth (l ++ r) k = nth l k := by
  rw [nth_eq (by rw [List.length_append]; omega), nth_eq h, List.getElem_append_left h]
theorem nth_appAt {l : List Int} {x : Int} : nth (l ++ [x]) l.length = x := by
  rw [nth_eq (by simp), List.getElem_append_right (Nat.le_refl _)]; simp
theorem GapsF.snoc {ts : List Int} {M n : Nat} {out : List Int} (h : GapsF ts M n out) {i k : Nat} (hk : k < n) (hl : out.length = i * n + k) : GapsF ts M n (out ++ [gapG ts M i k]) := fun a b hb hab => by
  rw [List.length_append, List.length_singleton] at hab
  by_cases e : a * n + b < out.length
  · rw [nth_app1 e]; exact h a b hb e
  · have e2 : a * n + b = i * n + k := by omega
    obtain ⟨rfl, rfl⟩ := ix_inj hb hk e2
    rw [← hl]
    exact nth_appAt
structure GpM (ts : List Int) (M n z : Nat) (w wr : World) (g c : Nat) (out : List Int) : Prop where
  own : OwnI wr w.heap.size (.slice (some ⟨g, 0, none⟩) z c) out
  len : z = out.length
  gp : GapsF ts M n out
  bel : Below w.heap.size w wr
def GpO (ts : List Int) (M n : Nat) (w : World) (vo vi : Value) (wr : World) : Prop :=
  ∃ (i z g c : Nat) (out : List Int), vi = .int .i64 i ∧ i ≤ n ∧ vo = .slice (some ⟨g, 0, none⟩) z c ∧ Hid (z = i * n) ∧ Hid (GpM ts M n z w wr g c out)
def GpN (ts : List Int) (M n i : Nat) (w : World) (vo vk : Value) (wr : World) : Prop :=
  ∃ (k z g c : Nat) (out : List Int), vk = .int .i64 k ∧ k ≤ n ∧ vo = .slice (some ⟨g, 0, none⟩) z c ∧ Hid (z = i * n + k) ∧ Hid (GpM ts M n z w wr g c out)
set_option maxRecDepth 100000 in
set_option maxHeartbeats 1000000 in
theorem NoWaitGaps_any (b o T c M n : Nat) (ts : List Int) (w : World) (hv : ShW w b o T c ts) (hok : ShopOk ts M n) :
    Calls Try.prog 13 #[.slice (some ⟨b, o, none⟩) T c, .int .i64 M] w fun e w' => (∃ g z c', e = .returned (.tuple #[.slice (some ⟨g, 0, none⟩) z c', .bool true]) ∧ z = n * n ∧ ∃ out, OwnI w' w.heap.size (.slice (some ⟨g, 0, none⟩) z c') out ∧ GapsF ts M n out) ∧ Below w.heap.size w w' := by
  have hn24 := hok.n24
  have hnn : n * n ≤ 576 := Nat.le_trans (Nat.mul_le_mul hn24 hn24) (by decide)
  have hT : T ≤ 1000 := by have := hok.big; have h2 := hok.len; have h3 := hv.len; omega
  have HAS := Lib.hid (asShop_any b o T c ts M n w (hv.ints hT) hok)
  have HGA : Hid (∀ i k W, i < n → k < n → Below w.heap.size w W → Calls Try.prog 29 #[shV b o T c n M, .int .i64 i, .int .i64 k] W fun e w' => e = .returned (.int .i64 (gapG ts M i k)) ∧ Below W.heap.size W w') := fun i k W hi hk hW => shGap_any b o T c M n i k ts W (hv.below hW) hok hi hk
  unfold shV at HAS
  clear hv hok hT
  go_enter Try.func13, Try.ntmps13
  go_wp2_with fail
  refine HAS.out.mono ?_
  rintro e W2 ⟨rfl, hb2⟩
  have HB2 := Lib.hid hb2
  clear hb2 HAS
  obtain ⟨q, hq⟩ : ∃ q, W2.heap.size = q := ⟨_, rfl⟩
  go_upto_region 4 with fail
  obtain ⟨W3, hW3⟩ : ∃ W, W2.alloc (.cells #[.slice (some ⟨b, o, none⟩) T c, .int .i64 n, .int .i64 M] 43) = W := ⟨_, rfl⟩
  have HB3 : Hid (Below w.heap.size w W3) := by show Below _ _ _; rw [← hW3]; exact HB2.out.alloc HB2.out.size _
  have HX3 : Hid (BoxS W3 q b o T c n M) := by show BoxS _ _ _ _ _ _ _ _; rw [← hW3, ← hq]; exact BoxS.new W2 b o T c n M
  have HQ3 : Hid (q < W3.heap.size) := by show _ < _; rw [← hW3]; simp; omega
  rw [hW3]
  clear hW3 hq
  obtain ⟨g0, hg0⟩ : ∃ g, W3.heap.size = g := ⟨_, rfl⟩
  have HG0 := Lib.hid hg0
  obtain ⟨W4, hW4⟩ : ∃ W, W3.alloc (.cells #[] 2) = W := ⟨_, rfl⟩
  have HM0 : Hid (GpM ts M n 0 W3 W4 g0 0 []) := by
    show GpM _ _ _ _ _ _ _ _ _
    rw [← hW4, ← hg0]
    exact ⟨OwnI.lit W3 W3.heap.size [] (Nat.le_refl _) (by unfold maxLen; simp), rfl, fun a b _ h => absurd h (Nat.not_lt_zero _), (Below.refl _ _).alloc (Nat.le_refl _) _⟩
  have HW4 := Lib.hid hW4
  have x1 := (HX3.out.below HM0.out.bel HQ3.out).c1
  rw [← HW4.out] at x1
  clear hW4 hg0
  have HR0 : Hid (GpO ts M n W3 (.slice (some ⟨g0, 0, none⟩) 0 0) (.int .i64 0) W4) := ⟨0, 0, g0, 0, [], rfl, Nat.zero_le _, rfl, by show 0 = 0 * n; rw [Nat.zero_mul], HM0.out⟩
  go_wp2
  simp only [HW4.out, HG0.out]
  clear x1 HM0 HW4
  go_loopw [8, 22] (fun vo vi wr => GpO ts M n W3 vo vi wr) (fun _ vi _ => n - (intOf vi).toNat)
  case atStart => exact HR0.out
  case round =>
    obtain ⟨i, z, g, c2, out, rfl, hin, rfl, HZ, HM⟩ := hrel
    clear HR0
    have hX := HX3.out.below HM.out.bel HQ3.out
    have x1 := hX.c1
    have HBw : Hid (Below w.heap.size w wr) := HB3.out.trans (HM.out.bel.mono HB3.out.size)
    by_cases hi2 : i < n
    · have i0 : (0 : Int) ≤ (i : Int) := by omega
      have i1 : (i : Int) < (n : Int) := by omega
      have HN0 : Hid (GpN ts M n i W3 (.slice (some ⟨g, 0, none⟩) z c2) (.int .i64 0) wr) := ⟨0, z, g, c2, out, rfl, Nat.zero_le _, rfl, HZ.out, HM.out⟩
      have HII : Hid (i * n + n ≤ n * n) := by show _ ≤ _; have h := Nat.mul_le_mul_right n (show i + 1 ≤ n from hi2); rw [Nat.add_mul, Nat.one_mul] at h; exact h
      clear hX HM HZ HBw
      go_wp2_with fail
      clear x1
      go_loopw [8, 27] (fun vo vk wr => GpN ts M n i W3 vo vk wr) (fun _ vk _ => n - (intOf vk).toNat)
      case atStart => exact HN0.out
      case round =>
        obtain ⟨k, z1, g1, c1, out1, rfl, hkn, rfl, HZ, HM⟩ := hrel
        clear HN0
        have HBw : Hid (Below w.heap.size w wr) := HB3.out.trans (HM.out.bel.mono HB3.out.size)
        have hX := HX3.out.below HM.out.bel HQ3.out
        have x0 := hX.c0
        have x1 := hX.c1
        have x2 := hX.c2
        by_cases hk2 : k < n
        · have k0 : (0 : Int) ≤ (k : Int) := by omega
          have k1 : (k : Int) < (n : Int) := by omega
          have HG := Lib.hid (HGA.out i k wr hi2 hk2 HBw.out)
          unfold shV at HG
          have HZB : Hid (z1 + 1 ≤ 1000) := by show _ ≤ _; have h1 := HZ.out; have h2 := HII.out; omega
          have HSN : Hid (GapsF ts M n (out1 ++ [gapG ts M i k])) := HM.out.gp.snoc hk2 (by rw [← HM.out.len, HZ.out])
          have HBD : Hid (∀ W, Below wr.heap.size wr W → GpM ts M n z1 W3 W g1 c1 out1) := fun W hW => ⟨HM.out.own.below hW (Nat.le_refl _), HM.out.len, HM.out.gp, HM.out.bel.trans (hW.mono HM.out.bel.size)⟩
          obtain ⟨G, hG⟩ : ∃ G, gapG ts M i k = G := ⟨_, rfl⟩
          rw [hG] at HG HSN
          clear hX hG HM
          go_wp2_with fail
          refine HG.out.mono ?_
          rintro e W5 ⟨rfl, hb5⟩
          have HM5 : Hid (GpM ts M n z1 W3 W5 g1 c1 out1) := HBD.out W5 hb5
          have hs5 : W3.heap.size ≤ W5.heap.size := HM5.out.bel.size
          have HLN : Hid (out1.length = z1) := HM5.out.len.symm
          clear hb5 HG HBD
          go_wp2_with (at_builtin; refine append_i64L rfl _ _ rfl W3.heap.size (.slice (some ⟨g1, 0, none⟩) z1 c1) out1 [G] (Nat.zero_lt_succ _) rfl _ rfl HM5.out.own hs5 (by have := HZB.out; rw [HLN.out]; simp only [List.length_singleton]; omega) ?_; intro g6 c6 w6 ho6 hg6 hl6; have HM6 : Hid (GpM ts M n (z1 + 1) W3 w6 g6 c6 (out1 ++ [G])) := ⟨by rw [HLN.out] at ho6; exact ho6, by rw [List.length_append, HLN.out]; rfl, HSN.out, HM5.out.bel.grown hg6 hs5 (fun j e => (HM5.out.own.lt j e).1)⟩; simp only [HLN.out, List.length_singleton]; clear ho6 hg6 hl6)
          go_roundw
          case rel => exact ⟨k + 1, z1 + 1, g6, c6, out1 ++ [G], by go_num, by omega, rfl, by show _ = _; rw [HZ.out, Nat.add_assoc], HM6.out⟩
          case measure => simp [intOf]; omega
        · obtain rfl : n = k := by omega
          have HO : Hid (z1 = (i + 1) * n) := by show _ = _; rw [HZ.out, Nat.add_mul, Nat.one_mul]
          clear hX HBw
          go_wp2
          go_roundw
          case rel => exact ⟨i + 1, z1, g1, c1, out1, by go_num, by omega, rfl, HO.out, HM.out⟩
          case measure => simp [intOf]; omega
    · obtain rfl : n = i := by omega
      have HF : Hid (z = n * n ∧ OwnI wr w.heap.size (.slice (some ⟨g, 0, none⟩) z c2) out ∧ GapsF ts M n out) := ⟨HZ.out, HM.out.own.mono HB3.out.size, HM.out.gp⟩
      clear hX HM HZ
      go_wp2
      go_ret2
      exact ⟨⟨g, z, c2, rfl, HF.out.1, out, HF.out.2⟩, HBw.out⟩
end Go.Proofs.Ytckdfahbhagoaaa
