/- PhasesOf, TogetherOf: the walks. Conditions: periods from 2 to 9, at most 12 times. With texts that it needs. -/
import Derived.Test.YthkakieomoobmaaTablesAll4
import Derived.Test.YthkakieomoobmaaTablesAll5
import Derived.Test.YthkakieomoobmaaTablesAll1
import Derived.Laws.FloatArith
import Derived.Laws.Externs
import Derived.Deep.LoopGhost
import Derived.Lib.Hide
namespace Go.Proofs.Ythkakieomoobmaa
open Go.RowKit
set_option linter.unusedVariables false
set_option linter.unusedSimpArgs false

def ringR : List Ru4 := [(0, 1, 1, 2), (1, 0, 2, 3)]
theorem ringR_ok : ∀ r ∈ ringR, RlOk 12 4 r := by
  intro r hr
  unfold ringR at hr
  simp only [List.mem_cons, List.not_mem_nil, or_false] at hr
  rcases hr with rfl | rfl <;> (unfold RlOk; decide)
/-- What the loop knows. -/
def RgR (A gu : Nat) (w : World) (vl vh vs va vk : Value) (wr : World) : Prop :=
  ∃ k : Nat, k ≤ 2 ∧ vk = .int .i64 k ∧ vl = .int .i64 ([0, 1, 3].getD k 0) ∧ vh = .int .i64 ([0, 2, 5].getD k 0) ∧ vs = .int .i64 ([-1, 0, 0].getD k 0) ∧ va = .int .i64 ([-1, 1, 0].getD k 0) ∧ Hid (OwnB wr A (.slice (some ⟨gu, 0, none⟩) 2 2) [decide (0 < k), decide (1 < k)]) ∧ Hid (Below A w wr)
set_option maxRecDepth 100000 in
set_option maxHeartbeats 2000000 in
theorem ringGap_any (gr cr gg cg ga ca : Nat) (w : World) (hrs : RulN w gr ringR) (hgi : Ints w (.slice (some ⟨gg, 0, none⟩) 2 cg) [0, 1]) (hg : NumN w gg [0, 1] 2) (ha : ∀ k, k < 2 → w.cell? ⟨ga, k, none⟩ = some (.bool true)) :
    Calls Try.prog 21 #[.slice (some ⟨gr, 0, none⟩) 2 cr, .int .i64 4, .slice (some ⟨gg, 0, none⟩) 2 cg, .slice (some ⟨ga, 0, none⟩) 2 ca] w fun x w' => x = .returned (.tuple #[.int .i64 4, .int .i64 4, .bool true]) ∧ Below w.heap.size w w' := by
  obtain ⟨j0, hj, jz0, jz1, jz2⟩ := info_parts info_bool
  have HAR := Lib.hid (areRules_yes 12 4 gr 2 cr ringR w rfl (by decide) hrs ringR_ok (by decide) (by decide))
  have HAM : Hid (∀ W, Below w.heap.size w W → Calls Try.prog 42 #[.slice (some ⟨gg, 0, none⟩) 2 cg, .int .i64 1, .int .i64 32, .int .i64 0, .int .i64 1] W fun e w' => e = .returned (.bool true) ∧ W = w') := fun W hb => by
    have h := areMany_any (.slice (some ⟨gg, 0, none⟩) 2 cg) [0, 1] 1 32 0 1 W (hgi.below hb (Nat.le_refl _))
    rw [show many [0, 1] 1 32 0 1 = true by decide] at h
    exact h
  have HRS := Lib.hid hrs
  have HG := Lib.hid hg
  have HAL := Lib.hid ha
  obtain ⟨A, hA⟩ : ∃ A, w.heap.size = A := ⟨_, rfl⟩
  rw [hA] at HAR HAM ⊢
  have HA := Lib.hid hA
  clear hrs hgi hg ha hA
  go_enter Try.func21, Try.ntmps21
  go_wp2_with (first
    | (go_at_call 12; refine HAR.out.mono ?_; rintro e W1 ⟨rfl, hb1⟩; have HB1 := Lib.hid hb1; have HAM1 := Lib.hid (HAM.out _ hb1); clear hb1)
    | (go_at_call 42; refine HAM1.out.mono ?_; rintro e w' ⟨rfl, rfl⟩)
    | (at_make; refine wpList_make_full _ rfl _ _ 52 rfl A 4 j0 (.bool false) 1 Try.underlying52 hj jz0 jz1 _ _ _ _ 2 rfl rfl rfl rfl (by rw [jz2]; omega) (by unfold maxLen; omega) (by have := HB1.out.size; have := HA.out; omega) ?_; intro w4 hown4 hgrow4; have HO4 := Lib.hid (OwnB.made hown4); have HBM := Lib.hid ((Below.refl W1.heap.size W1).grown hgrow4 (Nat.le_refl _) (fun k e => by cases e)); clear hown4 hgrow4))
  obtain ⟨gu, hgu⟩ : ∃ g, W1.heap.size = g := ⟨_, rfl⟩
  have hgA : A ≤ gu := by have := HB1.out.size; have := HA.out; omega
  have HB4 : Hid (Below A w w4) := HB1.out.trans (HBM.out.mono (by omega))
  rw [hgu] at HO4 ⊢
  have HR0 : Hid (RgR A gu w (.int .i64 0) (.int .i64 0) (.int .i64 (-1)) (.int .i64 (-1)) (.int .i64 0) w4) := ⟨0, by decide, rfl, rfl, rfl, rfl, rfl, HO4.out, HB4⟩
  clear hgu hj jz0 jz1 jz2 HAR HAM HAM1 HB1 HBM HO4 HB4
  go_loopw [12, 13, 14, 15, 47] (fun vl vh vs va vk wr => RgR A gu w vl vh vs va vk wr) (fun _ _ _ _ vk _ => 2 - (intOf vk).toNat)
  case atStart => exact HR0.out
  case round =>
    obtain ⟨k, hk, rfl, rfl, rfl, rfl, rfl, HO, HB⟩ := hrel
    clear HR0
    have hsz : A ≤ wr.heap.size := by have := HB.out.size; have := HA.out; omega
    have HRS2 := Lib.hid (HRS.out.below HB.out (by have := HRS.out.1; have := HA.out; omega))
    have HG2 := Lib.hid (HG.out.below HB.out (by have := HG.out.1; have := HA.out; omega))
    have HAL2 : Hid (∀ k, k < 2 → wr.cell? ⟨ga, k, none⟩ = some (.bool true)) := fun k hk => (HB.out.cell (p := ⟨ga, k, none⟩) (by have h1 : ga < w.heap.size := lt_of_cell (HAL.out k hk); have := HA.out; show ga < A; omega)).trans (HAL.out k hk)
    by_cases hk2 : k < 2
    · have hcase : k = 0 ∨ k = 1 := by omega
      rcases hcase with rfl | rfl
      all_goals (try simp only [List.getD_cons_succ, List.getD_cons_zero])
      · have c0 := (HRS2.out.2 0 (by decide)).1
        have c1 := (HRS2.out.2 0 (by decide)).2.1
        have c2 := (HRS2.out.2 0 (by decide)).2.2.1
        have c3 := (HRS2.out.2 0 (by decide)).2.2.2
        have e0 : wr.cell? ⟨gr, 0 * 4, none⟩ = some (.int .i64 0) := c0
        have e1 : wr.cell? ⟨gr, 0 * 4 + 1, none⟩ = some (.int .i64 1) := c1
        have e2 : wr.cell? ⟨gr, 0 * 4 + 2, none⟩ = some (.int .i64 1) := c2
        have e3 : wr.cell? ⟨gr, 0 * 4 + 3, none⟩ = some (.int .i64 2) := c3
        have cg1 : wr.cell? ⟨gg, 0, none⟩ = some (.int .i64 0) := HG2.out.2 0 (by decide)
        have ca1 : wr.cell? ⟨ga, 0, none⟩ = some (.bool true) := HAL2.out 0 (by decide)
        simp only [Nat.zero_mul, Nat.one_mul, Nat.zero_add, Nat.reduceAdd] at e0 e1 e2 e3
        clear c0 c1 c2 c3
        obtain ⟨W2, hW2⟩ : ∃ W', wr.alloc (.cells #[.int .i64 0, .int .i64 1, .int .i64 1, .int .i64 2] 43) = W' := ⟨_, rfl⟩
        obtain ⟨B, hB⟩ : ∃ B, wr.heap.size = B := ⟨_, rfl⟩
        have hb0 : Below wr.heap.size wr W2 := by rw [← hW2]; exact (Below.refl _ _).alloc (Nat.le_refl _) _
        have ca2 := (hb0.cell (p := ⟨ga, _, none⟩) (lt_of_cell ca1)).trans ca1
        have HB2 : Hid (Below A w W2) := by show Below _ _ _; rw [← hW2]; exact HB.out.alloc hsz _
        have KB : Hid (Blk W2 B 43 [.int .i64 0, .int .i64 1, .int .i64 1, .int .i64 2]) := by show Blk _ _ _ _; rw [← hW2, ← hB]; exact Blk.new wr _ _
        have HO2 : Hid (OwnB W2 A (.slice (some ⟨gu, 0, none⟩) 2 2) [decide (0 < 0), decide (1 < 0)]) := by show OwnB _ _ _ _; rw [← hW2]; exact HO.out.alloc _
        have d0 := KB.out.cell 0 _ rfl
        have d1 := KB.out.cell 1 _ rfl
        have d2 := KB.out.cell 2 _ rfl
        have d3 := KB.out.cell 3 _ rfl
        obtain ⟨u1, u2, u3, -⟩ := (HO2.out.drewN 1).store rfl 0 (by decide) true
        have u1 : W2.drew.cell? ⟨gu, 0, none⟩ = some (.bool false) := u1
        have u4 : Hid (OwnB (W2.drew.setCell ⟨gu, 0, none⟩ (.bool true)) A (.slice (some ⟨gu, 0, none⟩) 2 2) [decide (0 < 0 + 1), decide (1 < 0 + 1)]) := u3
        have u5 : W2.drew.frozen? ⟨gu, 0, none⟩ = false := u2
        have HB3 : Hid (Below A w (W2.drew.setCell ⟨gu, 0, none⟩ (.bool true))) := HB2.out.drew.setCell (by show A ≤ gu; omega) _
        have HW2 := Lib.hid hW2
        have H1 := Lib.hid hB
        clear hW2 hB HB HO hb0 u2 u3 HRS2 HG2 HAL2
        go_upto_region 10 with fail
        rw [HW2.out, H1.out]
        go_region_held3 (fun w' => w'.cell? ⟨B, 0, none⟩ = some (.int .i64 0) ∧ w'.cell? ⟨B, 1, none⟩ = some (.int .i64 1) ∧ w'.cell? ⟨B, 2, none⟩ = some (.int .i64 1) ∧ w'.cell? ⟨B, 3, none⟩ = some (.int .i64 2)) (first | go_keep) (fail)
        go_wp2
        go_roundw
        case rel => exact ⟨0 + 1, by decide, rfl, rfl, rfl, rfl, rfl, u4, HB3⟩
        case measure => decide
      · have c0 := (HRS2.out.2 1 (by decide)).1
        have c1 := (HRS2.out.2 1 (by decide)).2.1
        have c2 := (HRS2.out.2 1 (by decide)).2.2.1
        have c3 := (HRS2.out.2 1 (by decide)).2.2.2
        have e0 : wr.cell? ⟨gr, 1 * 4, none⟩ = some (.int .i64 1) := c0
        have e1 : wr.cell? ⟨gr, 1 * 4 + 1, none⟩ = some (.int .i64 0) := c1
        have e2 : wr.cell? ⟨gr, 1 * 4 + 2, none⟩ = some (.int .i64 2) := c2
        have e3 : wr.cell? ⟨gr, 1 * 4 + 3, none⟩ = some (.int .i64 3) := c3
        have cg1 : wr.cell? ⟨gg, 1, none⟩ = some (.int .i64 1) := HG2.out.2 1 (by decide)
        have ca1 : wr.cell? ⟨ga, 1, none⟩ = some (.bool true) := HAL2.out 1 (by decide)
        simp only [Nat.zero_mul, Nat.one_mul, Nat.zero_add, Nat.reduceAdd] at e0 e1 e2 e3
        clear c0 c1 c2 c3
        obtain ⟨W2, hW2⟩ : ∃ W', wr.alloc (.cells #[.int .i64 1, .int .i64 0, .int .i64 2, .int .i64 3] 43) = W' := ⟨_, rfl⟩
        obtain ⟨B, hB⟩ : ∃ B, wr.heap.size = B := ⟨_, rfl⟩
        have hb0 : Below wr.heap.size wr W2 := by rw [← hW2]; exact (Below.refl _ _).alloc (Nat.le_refl _) _
        have ca2 := (hb0.cell (p := ⟨ga, _, none⟩) (lt_of_cell ca1)).trans ca1
        have HB2 : Hid (Below A w W2) := by show Below _ _ _; rw [← hW2]; exact HB.out.alloc hsz _
        have KB : Hid (Blk W2 B 43 [.int .i64 1, .int .i64 0, .int .i64 2, .int .i64 3]) := by show Blk _ _ _ _; rw [← hW2, ← hB]; exact Blk.new wr _ _
        have HO2 : Hid (OwnB W2 A (.slice (some ⟨gu, 0, none⟩) 2 2) [decide (0 < 1), decide (1 < 1)]) := by show OwnB _ _ _ _; rw [← hW2]; exact HO.out.alloc _
        have d0 := KB.out.cell 0 _ rfl
        have d1 := KB.out.cell 1 _ rfl
        have d2 := KB.out.cell 2 _ rfl
        have d3 := KB.out.cell 3 _ rfl
        obtain ⟨u1, u2, u3, -⟩ := (HO2.out.drewN 1).store rfl 1 (by decide) true
        have u1 : W2.drew.cell? ⟨gu, 1, none⟩ = some (.bool false) := u1
        have u4 : Hid (OwnB (W2.drew.setCell ⟨gu, 1, none⟩ (.bool true)) A (.slice (some ⟨gu, 0, none⟩) 2 2) [decide (0 < 1 + 1), decide (1 < 1 + 1)]) := u3
        have u5 : W2.drew.frozen? ⟨gu, 1, none⟩ = false := u2
        have HB3 : Hid (Below A w (W2.drew.setCell ⟨gu, 1, none⟩ (.bool true))) := HB2.out.drew.setCell (by show A ≤ gu; omega) _
        have HW2 := Lib.hid hW2
        have H0 := Lib.hid hB
        clear hW2 hB HB HO hb0 u2 u3 HRS2 HG2 HAL2
        go_upto_region 10 with fail
        rw [HW2.out, H0.out]
        go_region_held3 (fun w' => w'.cell? ⟨B, 0, none⟩ = some (.int .i64 1) ∧ w'.cell? ⟨B, 1, none⟩ = some (.int .i64 0) ∧ w'.cell? ⟨B, 2, none⟩ = some (.int .i64 2) ∧ w'.cell? ⟨B, 3, none⟩ = some (.int .i64 3)) (first | go_keep) (fail)
        go_wp2
        go_roundw
        case rel => exact ⟨1 + 1, by decide, rfl, rfl, rfl, rfl, rfl, u4, HB3⟩
        case measure => decide
    · obtain rfl : k = 2 := by omega
      have HF1 : Hid (∀ W', Calls Try.prog 39 #[.int .i64 (-3), .int .i64 4] W' fun e w' => e = .returned (.int .i64 1) ∧ W' = w') := fun W' => floorMod_any (-3) 4 W' (by decide) (by decide)
      have HF2 : Hid (∀ W', Calls Try.prog 39 #[.int .i64 5, .int .i64 4] W' fun e w' => e = .returned (.int .i64 1) ∧ W' = w') := fun W' => floorMod_any 5 4 W' (by decide) (by decide)
      clear HRS2 HG2 HAL2 hk hk2 HO
      (try simp only [List.getD_cons_succ, List.getD_cons_zero])
      go_wp2_with fail
      refine (HF1.out _).mono ?_
      rintro e w' ⟨rfl, rfl⟩
      go_wp2_with fail
      refine (HF2.out _).mono ?_
      rintro e w' ⟨rfl, rfl⟩
      go_wp2
      go_ret3
      exact ⟨rfl, HB.out⟩
end Go.Proofs.Ythkakieomoobmaa

namespace Go.Proofs.Ythkakieomoobmaa
open Go.RowKit
set_option linter.unusedVariables false
set_option linter.unusedSimpArgs false

def dAdd (x y : Nat) : Option Nat := floatBits .add .f64 x y
def dSub (x y : Nat) : Option Nat := floatBits .sub .f64 x y
def dMul (x y : Nat) : Option Nat := floatBits .mul .f64 x y
def dQuo (x y : Nat) : Option Nat := floatBits .quo .f64 x y
def dLt (x y : Nat) : Bool := FloatKind.f64.format.order x y == some .lt
def dGe (x y : Nat) : Bool := FloatKind.f64.format.order x y == some .gt || FloatKind.f64.format.order x y == some .eq
def dGt (x y : Nat) : Bool := FloatKind.f64.format.order x y == some .gt
abbrev c1 : Nat := 4607182418800017408
abbrev cHalf : Nat := 4602678819172646912
abbrev cQuart : Nat := 4598175219545276416
abbrev c2 : Nat := 4611686018427387904
/-- fraction -/
def frO (x : Nat) : Option Nat :=
  (floatToIntVal .f64 x .i64).bind fun n => (dSub x (floatOfInt .f64 n)).bind fun f => if dLt f 0 then dAdd f c1 else some f
/-- The loop of sine: as many rounds as are told. -/
def siL (u : Nat) : Nat → Nat → Nat → Option Nat
  | 0, _, _ => none
  | m + 1, k, p => if dGe k c1 then
      (dMul u p).bind fun a => (dMul c2 k).bind fun b => (dAdd b c1).bind fun d => (dMul b d).bind fun e => (dQuo a e).bind fun q => (dSub c1 q).bind fun p' => (dSub k c1).bind fun k' => siL u m k' p'
    else some p
def dNeg (x : Nat) : Nat := Op.negFloat .f64 x
/-- sine -/
def siO (x : Nat) : Option Nat :=
  (frO x).bind fun f => (if dGe f cHalf then dSub f cHalf else some f).bind fun g => (if dGt g cQuart then dSub cHalf g else some g).bind fun h =>
    (dMul h 4618760256179416344).bind fun z => (dMul z z).bind fun u => (siL u 9 4620693217682128896 c1).bind fun p => (dMul z p).bind fun s => some (if dGe f cHalf then dNeg s else s)
/-- The loop of PhasorOf. -/
def phL : Nat → Nat → Nat → Option (Nat × Nat)
  | 0, _, _ => none
  | m + 1, f, q => if dGe f cQuart then (dSub f cQuart).bind fun f' => phL m f' (q + 1) else some (f, q)
def nar (x : Nat) : Option Nat := floatToFloatBits .f64 x .f32
/-- PhasorOf -/
def phO (x : Nat) : Option (Nat × Nat) :=
  (frO x).bind fun f => (phL 5 f 0).bind fun r => (dSub cQuart r.1).bind fun g => (siO g).bind fun c => (siO r.1).bind fun s =>
    (if r.2 = 1 then (dSub 0 s).bind fun a => some (a, c) else if r.2 = 2 then (dSub 0 c).bind fun a => (dSub 0 s).bind fun b => some (a, b) else if r.2 = 3 then (dSub 0 c).bind fun a => some (s, a) else some (c, s)).bind fun z => (nar z.1).bind fun a => (nar z.2).bind fun b => some (a, b)
/-- The phasor of t over p. -/
def phT (t p : Nat) : Option (Nat × Nat) := (dQuo (floatOfInt .f64 t) (floatOfInt .f64 p)).bind phO
/-! Lengths and sums. -/
def sAdd (x y : Nat) : Option Nat := floatBits .add .f32 x y
def wid (x : Nat) : Option Nat := floatToFloatBits .f32 x .f64
/-- LongOf of both parts -/
def loO (a b : Nat) : Option Nat :=
  (wid a).bind fun x => (wid b).bind fun y => (dMul x x).bind fun xx => (dMul y y).bind fun yy => (dAdd xx yy).bind fun s => (FloatKind.f64.format.sqrt s).bind fun r => nar r
/-- The sums of both parts, from left to right. -/
def suO : List (Nat × Nat) → Nat → Nat → Option (Nat × Nat)
  | [], re, im => some (re, im)
  | z :: zs, re, im => (sAdd re z.1).bind fun a => (sAdd im z.2).bind fun b => suO zs a b
def toO (zs : List (Nat × Nat)) (n : Nat) : Option Nat := (suO zs 0 0).bind fun r => (loO r.1 r.2).bind fun l => floatBits .quo .f32 l (floatOfInt .f32 n)
/-- The phasors of the times of a table. -/
def phA (p : Nat) : List Nat → Option (List (Nat × Nat))
  | [] => some []
  | t :: ts => (phT t p).bind fun z => (phA p ts).bind fun zs => some (z :: zs)
end Go.Proofs.Ythkakieomoobmaa

namespace Go.Proofs.Ythkakieomoobmaa
open Go.RowKit
set_option linter.unusedVariables false
set_option linter.unusedSimpArgs false

theorem arF (op : BinOp) (t : TypeId) (k : FloatKind) (x y r : Nat) (h : floatBits op k x y = some r) : ∀ W, (binOp op t (.float k x) (.float k y)).run Try.prog W = .ok (.float k r) W := fun W => run_float_arith W op t k x y r h
theorem cvFI (x : Nat) (n : Int) (h : floatToIntVal .f64 x .i64 = some n) : ∀ W, (convert 53 2 (.float .f64 x)).run Try.prog W = .ok (.int .i64 n) W := fun W => run_convert_float_int W _ _ .f64 .i64 x n (by kernel_rfl) (by kernel_rfl) h
theorem cvIF (n : Int) : ∀ W, (convert 2 53 (.int .i64 n)).run Try.prog W = .ok (.float .f64 (floatOfInt .f64 n)) W := fun W => run_convert_int_float W _ _ .i64 .f64 n (by kernel_rfl) (by kernel_rfl)
theorem cvDF (x r : Nat) (h : nar x = some r) : ∀ W, (convert 53 44 (.float .f64 x)).run Try.prog W = .ok (.float .f32 r) W := fun W => run_convert_float_float W _ _ .f64 .f32 x r (by kernel_rfl) (by kernel_rfl) h
theorem cvFD (x r : Nat) (h : wid x = some r) : ∀ W, (convert 44 53 (.float .f32 x)).run Try.prog W = .ok (.float .f64 r) W := fun W => run_convert_float_float W _ _ .f32 .f64 x r (by kernel_rfl) (by kernel_rfl) h
set_option maxHeartbeats 1000000 in
theorem fraction_any (x r : Nat) (W : World) (h : frO x = some r) : Calls Try.prog 55 #[.float .f64 x] W fun e w' => e = .returned (.float .f64 r) ∧ W = w' := by
  unfold frO at h
  rw [Option.bind_eq_some_iff] at h
  obtain ⟨n, h1, h⟩ := h
  rw [Option.bind_eq_some_iff] at h
  obtain ⟨f, h2, h⟩ := h
  have q1 := cvFI x n h1
  have q2 := cvIF n
  have q3 := arF .sub 53 .f64 x (floatOfInt .f64 n) f h2
  clear h1 h2
  cases hlt : dLt f 0
  · rw [hlt] at h
    have h3 : f = r := by simpa using h
    subst h3
    unfold dLt at hlt
    clear h
    go_enter Try.func55, Try.ntmps55
    go_wp2
    go_ret
    exact ⟨rfl, rfl⟩
  · rw [hlt] at h
    have h3 : dAdd f c1 = some r := by simpa using h
    have q4 := arF .add 53 .f64 f 4607182418800017408 r h3
    unfold dLt at hlt
    clear h h3
    go_enter Try.func55, Try.ntmps55
    go_wp2
    go_ret
    exact ⟨rfl, rfl⟩
theorem negF (s : Nat) : ∀ W, Sem.run Try.prog (Op.unary UnOp.neg (.float .f64 s)) W = .ok (.float .f64 (dNeg s)) W := fun W => rfl
theorem siL_step {u m k p r : Nat} (h : siL u (m + 1) k p = some r) : (dGe k c1 = false ∧ p = r) ∨ (dGe k c1 = true ∧ ∃ a b d e q p' k', dMul u p = some a ∧ dMul c2 k = some b ∧ dAdd b c1 = some d ∧ dMul b d = some e ∧ dQuo a e = some q ∧ dSub c1 q = some p' ∧ dSub k c1 = some k' ∧ siL u m k' p' = some r) := by
  rw [siL] at h
  cases hg : dGe k c1
  · rw [hg] at h
    exact .inl ⟨rfl, by simpa using h⟩
  · rw [hg, if_pos rfl] at h
    obtain ⟨a, ha, h⟩ := Option.bind_eq_some_iff.1 h
    obtain ⟨b, hb, h⟩ := Option.bind_eq_some_iff.1 h
    obtain ⟨d, hd, h⟩ := Option.bind_eq_some_iff.1 h
    obtain ⟨e, he, h⟩ := Option.bind_eq_some_iff.1 h
    obtain ⟨q, hq, h⟩ := Option.bind_eq_some_iff.1 h
    obtain ⟨p', hp, h⟩ := Option.bind_eq_some_iff.1 h
    obtain ⟨k', hk, h⟩ := Option.bind_eq_some_iff.1 h
    exact .inr ⟨rfl, a, b, d, e, q, p', k', ha, hb, hd, he, hq, hp, hk, h⟩
def SiR (u r : Nat) (W : World) (m : Nat) (vp vk : Value) (wr : World) : Prop := ∃ k p : Nat, vp = .float .f64 p ∧ vk = .float .f64 k ∧ siL u m k p = some r ∧ wr = W
set_option maxRecDepth 100000 in
set_option maxHeartbeats 2000000 in
theorem sine_any (x r : Nat) (W : World) (h : siO x = some r) : Calls Try.prog 56 #[.float .f64 x] W fun e w' => e = .returned (.float .f64 r) ∧ W = w' := by
  unfold siO at h
  obtain ⟨f, hf, h⟩ := Option.bind_eq_some_iff.1 h
  obtain ⟨g, hg, h⟩ := Option.bind_eq_some_iff.1 h
  obtain ⟨y, hy, h⟩ := Option.bind_eq_some_iff.1 h
  obtain ⟨z, hz, h⟩ := Option.bind_eq_some_iff.1 h
  obtain ⟨u, hu, h⟩ := Option.bind_eq_some_iff.1 h
  obtain ⟨p, hp, h⟩ := Option.bind_eq_some_iff.1 h
  obtain ⟨s, hs, h⟩ := Option.bind_eq_some_iff.1 h
  have HFR := Lib.hid (fraction_any x f W hf)
  have q1 := arF .mul 53 .f64 y 4618760256179416344 z hz
  have q2 := arF .mul 53 .f64 z z u hu
  have q3 := arF .mul 53 .f64 z p s hs
  have q9 := negF s
  have HR0 : Hid (SiR u p W 9 (.float .f64 c1) (.float .f64 4620693217682128896) W) := ⟨_, _, rfl, rfl, hp, rfl⟩
  have HH := Lib.hid h
  have HG := Lib.hid hg
  have HY := Lib.hid hy
  clear hf hz hu hp hs h hg hy
  go_enter Try.func56, Try.ntmps56
  go_wp2_with fail
  refine HFR.out.mono ?_
  rintro e w' ⟨rfl, rfl⟩
  cases hge : dGe f cHalf
  · cases hgt : dGt g cQuart
    · have hg := HG.out
      have hh := HH.out
      rw [hge] at hg hh
      clear HG HH HFR
      have hfg : f = g := by simpa using hg
      subst hfg
      have hy := HY.out
      rw [hgt] at hy
      clear HY
      have hgy : f = y := by simpa using hy
      subst hgy
      have hr : s = r := by simpa using hh
      subst hr
      clear hg hh hy
      unfold dGe at hge
      unfold dGt at hgt
      go_wp2_with fail
      go_loopg [7, 8] 9 (fun m vp vk wr => SiR u p W m vp vk wr)
      case atStart => exact HR0.out
      case round =>
        obtain ⟨k, p2, rfl, rfl, hl, rfl⟩ := hrel
        clear HR0
        cases gk with
        | zero => cases hl
        | succ m =>
          rcases siL_step hl with ⟨hk, rfl⟩ | ⟨hk, a1, b1, d1, e1, q1', p', k', ha, hb, hd, he, hq, hp, hk', hl2⟩
          · unfold dGe at hk
            clear hl
            go_wp2
            go_ret
            exact ⟨rfl, rfl⟩
          · unfold dGe at hk
            have t1 := arF .mul 53 .f64 u p2 a1 ha
            have t2 := arF .mul 53 .f64 4611686018427387904 k b1 hb
            have t3 := arF .add 53 .f64 b1 4607182418800017408 d1 hd
            have t4 := arF .mul 53 .f64 b1 d1 e1 he
            have t5 := arF .quo 53 .f64 a1 e1 q1' hq
            have t6 := arF .sub 53 .f64 4607182418800017408 q1' p' hp
            have t7 := arF .sub 53 .f64 k 4607182418800017408 k' hk'
            have HL := Lib.hid hl2
            clear hl hl2 ha hb hd he hq hp hk'
            go_wp2
            go_roundg m
            case measure => omega
            case rel => exact ⟨k', p', rfl, rfl, HL.out, rfl⟩
    · have hg := HG.out
      have hh := HH.out
      rw [hge] at hg hh
      clear HG HH HFR
      have hfg : f = g := by simpa using hg
      subst hfg
      have hy := HY.out
      rw [hgt] at hy
      clear HY
      have q5 := arF .sub 53 .f64 cHalf f y (show dSub cHalf f = some y by simpa using hy)
      have hr : s = r := by simpa using hh
      subst hr
      clear hg hh hy
      unfold dGe at hge
      unfold dGt at hgt
      go_wp2_with fail
      go_loopg [7, 8] 9 (fun m vp vk wr => SiR u p W m vp vk wr)
      case atStart => exact HR0.out
      case round =>
        obtain ⟨k, p2, rfl, rfl, hl, rfl⟩ := hrel
        clear HR0
        cases gk with
        | zero => cases hl
        | succ m =>
          rcases siL_step hl with ⟨hk, rfl⟩ | ⟨hk, a1, b1, d1, e1, q1', p', k', ha, hb, hd, he, hq, hp, hk', hl2⟩
          · unfold dGe at hk
            clear hl
            go_wp2
            go_ret
            exact ⟨rfl, rfl⟩
          · unfold dGe at hk
            have t1 := arF .mul 53 .f64 u p2 a1 ha
            have t2 := arF .mul 53 .f64 4611686018427387904 k b1 hb
            have t3 := arF .add 53 .f64 b1 4607182418800017408 d1 hd
            have t4 := arF .mul 53 .f64 b1 d1 e1 he
            have t5 := arF .quo 53 .f64 a1 e1 q1' hq
            have t6 := arF .sub 53 .f64 4607182418800017408 q1' p' hp
            have t7 := arF .sub 53 .f64 k 4607182418800017408 k' hk'
            have HL := Lib.hid hl2
            clear hl hl2 ha hb hd he hq hp hk'
            go_wp2
            go_roundg m
            case measure => omega
            case rel => exact ⟨k', p', rfl, rfl, HL.out, rfl⟩
  · cases hgt : dGt g cQuart
    · have hg := HG.out
      have hh := HH.out
      rw [hge] at hg hh
      clear HG HH HFR
      have q4 := arF .sub 53 .f64 f cHalf g (show dSub f cHalf = some g by simpa using hg)
      have hy := HY.out
      rw [hgt] at hy
      clear HY
      have hgy : g = y := by simpa using hy
      subst hgy
      have hr : dNeg s = r := by simpa using hh
      subst hr
      clear hg hh hy
      unfold dGe at hge
      unfold dGt at hgt
      go_wp2_with fail
      go_loopg [7, 8] 9 (fun m vp vk wr => SiR u p W m vp vk wr)
      case atStart => exact HR0.out
      case round =>
        obtain ⟨k, p2, rfl, rfl, hl, rfl⟩ := hrel
        clear HR0
        cases gk with
        | zero => cases hl
        | succ m =>
          rcases siL_step hl with ⟨hk, rfl⟩ | ⟨hk, a1, b1, d1, e1, q1', p', k', ha, hb, hd, he, hq, hp, hk', hl2⟩
          · unfold dGe at hk
            clear hl
            go_wp2
            go_ret
            exact ⟨rfl, rfl⟩
          · unfold dGe at hk
            have t1 := arF .mul 53 .f64 u p2 a1 ha
            have t2 := arF .mul 53 .f64 4611686018427387904 k b1 hb
            have t3 := arF .add 53 .f64 b1 4607182418800017408 d1 hd
            have t4 := arF .mul 53 .f64 b1 d1 e1 he
            have t5 := arF .quo 53 .f64 a1 e1 q1' hq
            have t6 := arF .sub 53 .f64 4607182418800017408 q1' p' hp
            have t7 := arF .sub 53 .f64 k 4607182418800017408 k' hk'
            have HL := Lib.hid hl2
            clear hl hl2 ha hb hd he hq hp hk'
            go_wp2
            go_roundg m
            case measure => omega
            case rel => exact ⟨k', p', rfl, rfl, HL.out, rfl⟩
    · have hg := HG.out
      have hh := HH.out
      rw [hge] at hg hh
      clear HG HH HFR
      have q4 := arF .sub 53 .f64 f cHalf g (show dSub f cHalf = some g by simpa using hg)
      have hy := HY.out
      rw [hgt] at hy
      clear HY
      have q5 := arF .sub 53 .f64 cHalf g y (show dSub cHalf g = some y by simpa using hy)
      have hr : dNeg s = r := by simpa using hh
      subst hr
      clear hg hh hy
      unfold dGe at hge
      unfold dGt at hgt
      go_wp2_with fail
      go_loopg [7, 8] 9 (fun m vp vk wr => SiR u p W m vp vk wr)
      case atStart => exact HR0.out
      case round =>
        obtain ⟨k, p2, rfl, rfl, hl, rfl⟩ := hrel
        clear HR0
        cases gk with
        | zero => cases hl
        | succ m =>
          rcases siL_step hl with ⟨hk, rfl⟩ | ⟨hk, a1, b1, d1, e1, q1', p', k', ha, hb, hd, he, hq, hp, hk', hl2⟩
          · unfold dGe at hk
            clear hl
            go_wp2
            go_ret
            exact ⟨rfl, rfl⟩
          · unfold dGe at hk
            have t1 := arF .mul 53 .f64 u p2 a1 ha
            have t2 := arF .mul 53 .f64 4611686018427387904 k b1 hb
            have t3 := arF .add 53 .f64 b1 4607182418800017408 d1 hd
            have t4 := arF .mul 53 .f64 b1 d1 e1 he
            have t5 := arF .quo 53 .f64 a1 e1 q1' hq
            have t6 := arF .sub 53 .f64 4607182418800017408 q1' p' hp
            have t7 := arF .sub 53 .f64 k 4607182418800017408 k' hk'
            have HL := Lib.hid hl2
            clear hl hl2 ha hb hd he hq hp hk'
            go_wp2
            go_roundg m
            case measure => omega
            case rel => exact ⟨k', p', rfl, rfl, HL.out, rfl⟩
theorem isFinite_yes (x : Nat) (W : World) (h : dSub x x = some 0) : Calls Try.prog 52 #[.float .f64 x] W fun e w' => e = .returned (.bool true) ∧ W = w' := by
  have q1 := arF .sub 53 .f64 x x 0 h
  have q2 : (FloatKind.f64.format.order 0 0 == some Ordering.eq) = true := by kernel_rfl
  clear h
  go_enter Try.func52, Try.ntmps52
  go_wp2
  go_ret
  exact ⟨rfl, rfl⟩
end Go.Proofs.Ythkakieomoobmaa

namespace Go.Proofs.Ythkakieomoobmaa
open Go.RowKit
set_option linter.unusedVariables false
set_option linter.unusedSimpArgs false

theorem f64bits_run (x : Nat) : ∀ W, (callFunc 62 #[.float .f64 x]).run Try.prog W = .ok (.value (.int .u64 x)) W := fun W =>
  (run_callFunc_extern (e := Extern.MathFloatBits.float64bits) Try.func62 (by kernel_rfl) (by kernel_rfl) (by kernel_rfl) rfl _ W).trans rfl
theorem f64from_run (x : Int) : ∀ W, (callFunc 61 #[.int .u64 x]).run Try.prog W = .ok (.value (.float .f64 x.toNat)) W := fun W =>
  (run_callFunc_extern (e := Extern.MathFloatBits.float64frombits) Try.func61 (by kernel_rfl) (by kernel_rfl) (by kernel_rfl) rfl _ W).trans rfl
theorem sqrt_run (x r : Nat) (h : FloatKind.f64.format.sqrt x = some r) : ∀ W, (callFunc 59 #[.float .f64 x]).run Try.prog W = .ok (.value (.float .f64 r)) W := fun W =>
  (run_callFunc_extern (e := Extern.MathSqrt.sqrt) Try.func59 (by kernel_rfl) (by kernel_rfl) (by kernel_rfl) rfl _ W).trans (by
    have e : Extern.MathSqrt.sqrt #[.float .f64 x] = (match FloatKind.f64.format.sqrt x with | some r => pure (.float .f64 r) | none => do pure (.float .f64 (← choose (.nanBits .f64 x x)))) := rfl
    rw [e, h]
    rfl)
/-- What stays its own absolute value. -/
def absB (x : Nat) : Bool := bits .andNot .u64 (x : Int) 9223372036854775808 == (x : Int)
theorem abs_any (x : Nat) (W : World) (h : absB x = true) : Calls Try.prog 54 #[.float .f64 x] W fun e w' => e = .returned (.float .f64 x) ∧ W = w' := by
  have q1 := f64bits_run x
  have q2 := f64from_run (x : Int)
  unfold absB at h
  have q3 : bits .andNot .u64 (x : Int) 9223372036854775808 = (x : Int) := beq_iff_eq.1 h
  clear h
  go_enter Try.func54, Try.ntmps54
  go_wp2
  go_ret
  exact ⟨rfl, rfl⟩
theorem sqrt_any (x r : Nat) (W : World) (h : FloatKind.f64.format.sqrt x = some r) : Calls Try.prog 50 #[.float .f64 x] W fun e w' => e = .returned (.float .f64 r) ∧ W = w' := by
  have q1 := sqrt_run x r h
  clear h
  go_enter Try.func50, Try.ntmps50
  go_wp2
  go_ret
  exact ⟨rfl, rfl⟩
end Go.Proofs.Ythkakieomoobmaa

namespace Go.Proofs.Ythkakieomoobmaa
open Go.RowKit
set_option linter.unusedVariables false
set_option linter.unusedSimpArgs false

theorem phL_step {m f q : Nat} {R : Nat × Nat} (h : phL (m + 1) f q = some R) : (dGe f cQuart = false ∧ R = (f, q)) ∨ (dGe f cQuart = true ∧ ∃ f', dSub f cQuart = some f' ∧ phL m f' (q + 1) = some R) := by
  rw [phL] at h
  cases hg : dGe f cQuart
  · rw [hg] at h
    exact .inl ⟨rfl, by have : some (f, q) = some R := by simpa using h
                        exact (Option.some.inj this).symm⟩
  · rw [hg, if_pos rfl] at h
    obtain ⟨a, ha, h⟩ := Option.bind_eq_some_iff.1 h
    exact .inr ⟨rfl, a, ha, h⟩
/-- What x must meet besides. -/
def phK (x : Nat) : Bool := (dSub x x == some 0) && absB x && !dGe x 4841369599423283200
def PhR (R : Nat × Nat) (W : World) (m : Nat) (vf vq : Value) (wr : World) : Prop := ∃ f q : Nat, vf = .float .f64 f ∧ vq = .int .i64 q ∧ q + m = 5 ∧ phL m f q = some R ∧ wr = W
set_option maxRecDepth 100000 in
set_option maxHeartbeats 4000000 in
theorem phasor_any (x a b : Nat) (W : World) (h : phO x = some (a, b)) (hk : phK x = true) : Calls Try.prog 41 #[.float .f64 x] W fun e w' => e = .returned (.complex .f32 a b) ∧ W = w' := by
  unfold phK at hk
  rw [Bool.and_eq_true, Bool.and_eq_true, Bool.not_eq_true'] at hk
  obtain ⟨⟨k1, k2⟩, k3⟩ := hk
  unfold phO at h
  obtain ⟨f, hf, h⟩ := Option.bind_eq_some_iff.1 h
  obtain ⟨R, hR, h⟩ := Option.bind_eq_some_iff.1 h
  obtain ⟨g, hg, h⟩ := Option.bind_eq_some_iff.1 h
  obtain ⟨c, hc, h⟩ := Option.bind_eq_some_iff.1 h
  obtain ⟨s, hs, h⟩ := Option.bind_eq_some_iff.1 h
  obtain ⟨z, hz, h⟩ := Option.bind_eq_some_iff.1 h
  obtain ⟨a', ha, h⟩ := Option.bind_eq_some_iff.1 h
  obtain ⟨b', hb, h⟩ := Option.bind_eq_some_iff.1 h
  obtain ⟨rfl, rfl⟩ : a' = a ∧ b' = b := by have := Option.some.inj h; exact Prod.mk.inj this
  have HFI := Lib.hid (isFinite_yes x W (beq_iff_eq.1 k1))
  have HAB := Lib.hid (abs_any x W k2)
  have HFR := Lib.hid (fraction_any x f W hf)
  have HS1 := Lib.hid (sine_any g c W hc)
  have HS2 := Lib.hid (sine_any R.1 s W hs)
  have hq5 : R.2 ≤ 5 := by
    have key : ∀ m f q, phL m f q = some R → R.2 ≤ q + m := fun m => by
      induction m with
      | zero => intro f q h; cases h
      | succ m ih =>
        intro f q h
        rcases phL_step h with ⟨_, rfl⟩ | ⟨_, f', _, h2⟩
        · show q ≤ _; omega
        · have := ih _ _ h2; omega
    have := key 5 f 0 hR
    omega
  have HR0 : Hid (PhR R W 5 (.float .f64 f) (.int .i64 0) W) := ⟨f, 0, rfl, rfl, rfl, hR, rfl⟩
  obtain ⟨rf, rq⟩ := R
  dsimp only at hg HS2 hz hq5
  have q1 := arF .sub 53 .f64 cQuart rf g hg
  have q2 := cvDF z.1 a' ha
  have q3 := cvDF z.2 b' hb
  have HZ := Lib.hid hz
  unfold dGe at k3
  clear h hf hR hg hc hs ha hb k1 k2 hz
  go_enter Try.func41, Try.ntmps41
  go_wp2_with fail
  refine HFI.out.mono ?_
  rintro e w' ⟨rfl, rfl⟩
  go_wp2_with fail
  refine HAB.out.mono ?_
  rintro e w' ⟨rfl, rfl⟩
  go_wp2_with fail
  refine HFR.out.mono ?_
  rintro e w' ⟨rfl, rfl⟩
  clear HFI HAB HFR
  go_wp2_with fail
  go_loopg [4, 5] 5 (fun m vf vq wr => PhR (rf, rq) W m vf vq wr)
  case atStart => exact HR0.out
  case round =>
    obtain ⟨f2, q, rfl, rfl, hqm, hl, rfl⟩ := hrel
    clear HR0
    cases gk with
    | zero => cases hl
    | succ m =>
      rcases phL_step hl with ⟨hk, hRR⟩ | ⟨hk, f', hf', hl2⟩
      · obtain ⟨rfl, rfl⟩ : rf = f2 ∧ rq = q := Prod.mk.inj hRR
        unfold dGe at hk
        clear hl hRR
        go_wp2_with fail
        refine HS1.out.mono ?_
        rintro e w' ⟨rfl, rfl⟩
        go_wp2_with fail
        refine HS2.out.mono ?_
        rintro e w' ⟨rfl, rfl⟩
        clear HS1 HS2
        by_cases h1 : rq = 1
        · have e1 : ((rq : Int) == 1) = true := by rw [beq_iff_eq]; omega
          have hz := HZ.out
          rw [if_pos h1] at hz
          obtain ⟨a0, ha0, hz⟩ := Option.bind_eq_some_iff.1 hz
          have hz2 : (a0, c) = z := Option.some.inj hz
          rw [← hz2] at q2 q3
          have t1 := arF .sub 53 .f64 0 s a0 ha0
          clear hz hz2 ha0
          dsimp only at q2 q3
          clear HZ
          go_wp2
          go_ret
          exact ⟨rfl, rfl⟩
        · by_cases h2 : rq = 2
          · have e1 : ((rq : Int) == 1) = false := by rw [beq_eq_false_iff_ne]; omega
            have e2 : ((rq : Int) == 2) = true := by rw [beq_iff_eq]; omega
            have hz := HZ.out
            rw [if_neg h1, if_pos h2] at hz
            obtain ⟨a0, ha0, hz⟩ := Option.bind_eq_some_iff.1 hz
            obtain ⟨b0, hb0, hz⟩ := Option.bind_eq_some_iff.1 hz
            have hz2 : (a0, b0) = z := Option.some.inj hz
            rw [← hz2] at q2 q3
            have t1 := arF .sub 53 .f64 0 c a0 ha0
            have t2 := arF .sub 53 .f64 0 s b0 hb0
            clear hz hz2 ha0 hb0
            dsimp only at q2 q3
            clear HZ
            go_wp2
            go_ret
            exact ⟨rfl, rfl⟩
          · by_cases h3 : rq = 3
            · have e1 : ((rq : Int) == 1) = false := by rw [beq_eq_false_iff_ne]; omega
              have e2 : ((rq : Int) == 2) = false := by rw [beq_eq_false_iff_ne]; omega
              have e3 : ((rq : Int) == 3) = true := by rw [beq_iff_eq]; omega
              have hz := HZ.out
              rw [if_neg h1, if_neg h2, if_pos h3] at hz
              obtain ⟨a0, ha0, hz⟩ := Option.bind_eq_some_iff.1 hz
              have hz2 : (s, a0) = z := Option.some.inj hz
              rw [← hz2] at q2 q3
              have t1 := arF .sub 53 .f64 0 c a0 ha0
              clear hz hz2 ha0
              dsimp only at q2 q3
              clear HZ
              go_wp2
              go_ret
              exact ⟨rfl, rfl⟩
            · have e1 : ((rq : Int) == 1) = false := by rw [beq_eq_false_iff_ne]; omega
              have e2 : ((rq : Int) == 2) = false := by rw [beq_eq_false_iff_ne]; omega
              have e3 : ((rq : Int) == 3) = false := by rw [beq_eq_false_iff_ne]; omega
              have hz := HZ.out
              rw [if_neg h1, if_neg h2, if_neg h3] at hz
              have hz2 : (c, s) = z := Option.some.inj hz
              rw [← hz2] at q2 q3
              clear hz hz2
              dsimp only at q2 q3
              clear HZ
              go_wp2
              go_ret
              exact ⟨rfl, rfl⟩
      · unfold dGe at hk
        have t1 := arF .sub 53 .f64 f2 cQuart f' hf'
        have w1 : IntKind.i64.wrap ((q : Int) + 1) = (q : Int) + 1 := IntWalk.i64_in _ (by omega)
        have HL := Lib.hid hl2
        clear hl hl2 hf'
        go_wp2
        go_roundg m
        case measure => omega
        case rel => exact ⟨f', q + 1, rfl, by go_num, by omega, HL.out, rfl⟩
theorem parts_any (a b x y : Nat) (W : World) (hx : wid a = some x) (hy : wid b = some y) : Calls Try.prog 60 #[.complex .f32 a b] W fun e w' => e = .returned (.tuple #[.float .f64 x, .float .f64 y]) ∧ W = w' := by
  have q1 := cvFD a x hx
  have q2 := cvFD b y hy
  clear hx hy
  go_enter Try.func60, Try.ntmps60
  go_wp2
  go_ret2
  exact ⟨rfl, rfl⟩
theorem power_any (a b x y xx yy s : Nat) (W : World) (hx : wid a = some x) (hy : wid b = some y) (h1 : dMul x x = some xx) (h2 : dMul y y = some yy) (h3 : dAdd xx yy = some s) : Calls Try.prog 51 #[.complex .f32 a b] W fun e w' => e = .returned (.float .f64 s) ∧ W = w' := by
  have HP := Lib.hid (parts_any a b x y W hx hy)
  have q1 := arF .mul 53 .f64 x x xx h1
  have q2 := arF .mul 53 .f64 y y yy h2
  have q3 := arF .add 53 .f64 xx yy s h3
  clear hx hy h1 h2 h3
  go_enter Try.func51, Try.ntmps51
  go_wp2_with fail
  refine HP.out.mono ?_
  rintro e w' ⟨rfl, rfl⟩
  go_wp2
  go_ret
  exact ⟨rfl, rfl⟩
theorem long_any (a b r : Nat) (W : World) (h : loO a b = some r) : Calls Try.prog 40 #[.complex .f32 a b] W fun e w' => e = .returned (.float .f32 r) ∧ W = w' := by
  unfold loO at h
  obtain ⟨x, hx, h⟩ := Option.bind_eq_some_iff.1 h
  obtain ⟨y, hy, h⟩ := Option.bind_eq_some_iff.1 h
  obtain ⟨xx, h1, h⟩ := Option.bind_eq_some_iff.1 h
  obtain ⟨yy, h2, h⟩ := Option.bind_eq_some_iff.1 h
  obtain ⟨s, h3, h⟩ := Option.bind_eq_some_iff.1 h
  obtain ⟨q, h4, h⟩ := Option.bind_eq_some_iff.1 h
  have HP := Lib.hid (power_any a b x y xx yy s W hx hy h1 h2 h3)
  have HQ := Lib.hid (sqrt_any s q W h4)
  have q1 := cvDF q r h
  clear hx hy h1 h2 h3 h4 h
  go_enter Try.func40, Try.ntmps40
  go_wp2_with fail
  refine HP.out.mono ?_
  rintro e w' ⟨rfl, rfl⟩
  go_wp2_with fail
  refine HQ.out.mono ?_
  rintro e w' ⟨rfl, rfl⟩
  go_wp2
  go_ret
  exact ⟨rfl, rfl⟩
end Go.Proofs.Ythkakieomoobmaa

namespace Go.Proofs.Ythkakieomoobmaa
open Go.RowKit
set_option linter.unusedVariables false

/-- The phasors as they come out. -/
def tabPh : List (List (Nat × Nat)) := [[], [(1065353216, 0)], [(1065353216, 0), (3212836864, 0)],
  [(1065353216, 0), (3204448256, 1063105495), (3204448256, 3210589143)],
  [(1065353216, 0), (0, 1065353216), (3212836864, 0), (0, 3212836864)],
  [(1065353216, 0), (1050556282, 1064532081), (3209632701, 1058437400), (3209632701, 3205921048), (1050556282, 3212015729)],
  [(1065353216, 0), (1056964608, 1063105495), (3204448256, 1063105495), (3212836864, 0), (3204448256, 3210589143), (1056964608, 3210589143)],
  [(1065353216, 0), (1059036423, 1061692956), (3194215559, 1064932576), (3211175397, 1054746114), (3211175397, 3202229762), (3194215559, 3212416224), (1059036423, 3209176604)],
  [(1065353216, 0), (1060439283, 1060439283), (0, 1065353216), (3207922931, 1060439283), (3212836864, 0), (3207922931, 3207922931), (0, 3212836864), (1060439283, 3207922931)],
  [(1065353216, 0), (1061428093, 1059360187), (1043452116, 1065098332), (3204448256, 1063105495), (3211825074, 1051663684), (3211825074, 3199147332), (3204448256, 3210589143), (1043452116, 3212581980), (1061428093, 3206843835)]]
def phN (p t : Nat) : Nat × Nat := (tabPh.getD p []).getD t (0, 0)
/-- The bound of the law: 1.001. -/
def togOk (zs : List (Nat × Nat)) (n : Nat) : Bool := match toO zs n with
  | some r => match wid r with
    | some d => dLt d 4607186922399644778
    | none => false
  | none => false
theorem ph_2 : ((List.range 2).all fun t => phT t 2 == some (phN 2 t)) = true := by kernel_rfl
theorem ph_3 : ((List.range 3).all fun t => phT t 3 == some (phN 3 t)) = true := by kernel_rfl
theorem ph_4 : ((List.range 4).all fun t => phT t 4 == some (phN 4 t)) = true := by kernel_rfl
theorem ph_5 : ((List.range 5).all fun t => phT t 5 == some (phN 5 t)) = true := by kernel_rfl
theorem ph_6 : ((List.range 6).all fun t => phT t 6 == some (phN 6 t)) = true := by kernel_rfl
theorem ph_7 : ((List.range 7).all fun t => phT t 7 == some (phN 7 t)) = true := by kernel_rfl
theorem ph_8 : ((List.range 8).all fun t => phT t 8 == some (phN 8 t)) = true := by kernel_rfl
theorem ph_9 : ((List.range 9).all fun t => phT t 9 == some (phN 9 t)) = true := by kernel_rfl
set_option maxRecDepth 100000
theorem tog_2_2 : (togOk [phN 2 0] 1 && (List.range 2).all fun a => togOk [phN 2 0, phN 2 a] 2) = true := by kernel_rfl
theorem tog_2_3 : ((List.range 2).all fun a => (List.range 2).all fun b => togOk [phN 2 0, phN 2 a, phN 2 b] 3) = true := by kernel_rfl
theorem tog_2_4 : ((List.range 2).all fun a => (List.range 2).all fun b => (List.range 2).all fun c => togOk [phN 2 0, phN 2 a, phN 2 b, phN 2 c] 4) = true := by kernel_rfl
theorem tog_3_2 : (togOk [phN 3 0] 1 && (List.range 3).all fun a => togOk [phN 3 0, phN 3 a] 2) = true := by kernel_rfl
theorem tog_3_3 : ((List.range 3).all fun a => (List.range 3).all fun b => togOk [phN 3 0, phN 3 a, phN 3 b] 3) = true := by kernel_rfl
theorem tog_3_4 : ((List.range 3).all fun a => (List.range 3).all fun b => (List.range 3).all fun c => togOk [phN 3 0, phN 3 a, phN 3 b, phN 3 c] 4) = true := by kernel_rfl
theorem tog_4_2 : (togOk [phN 4 0] 1 && (List.range 4).all fun a => togOk [phN 4 0, phN 4 a] 2) = true := by kernel_rfl
theorem tog_4_3 : ((List.range 4).all fun a => (List.range 4).all fun b => togOk [phN 4 0, phN 4 a, phN 4 b] 3) = true := by kernel_rfl
theorem tog_4_4 : ((List.range 4).all fun a => (List.range 4).all fun b => (List.range 4).all fun c => togOk [phN 4 0, phN 4 a, phN 4 b, phN 4 c] 4) = true := by kernel_rfl
theorem tog_5_2 : (togOk [phN 5 0] 1 && (List.range 5).all fun a => togOk [phN 5 0, phN 5 a] 2) = true := by kernel_rfl
theorem tog_5_3 : ((List.range 5).all fun a => (List.range 5).all fun b => togOk [phN 5 0, phN 5 a, phN 5 b] 3) = true := by kernel_rfl
theorem tog_5_4 : ((List.range 5).all fun a => (List.range 5).all fun b => (List.range 5).all fun c => togOk [phN 5 0, phN 5 a, phN 5 b, phN 5 c] 4) = true := by kernel_rfl
theorem tog_6_2 : (togOk [phN 6 0] 1 && (List.range 6).all fun a => togOk [phN 6 0, phN 6 a] 2) = true := by kernel_rfl
theorem tog_6_3 : ((List.range 6).all fun a => (List.range 6).all fun b => togOk [phN 6 0, phN 6 a, phN 6 b] 3) = true := by kernel_rfl
theorem tog_6_4 : ((List.range 6).all fun a => (List.range 6).all fun b => (List.range 6).all fun c => togOk [phN 6 0, phN 6 a, phN 6 b, phN 6 c] 4) = true := by kernel_rfl
theorem tog_7_2 : (togOk [phN 7 0] 1 && (List.range 7).all fun a => togOk [phN 7 0, phN 7 a] 2) = true := by kernel_rfl
theorem tog_7_3 : ((List.range 7).all fun a => (List.range 7).all fun b => togOk [phN 7 0, phN 7 a, phN 7 b] 3) = true := by kernel_rfl
theorem tog_7_4 : ((List.range 7).all fun a => (List.range 7).all fun b => (List.range 7).all fun c => togOk [phN 7 0, phN 7 a, phN 7 b, phN 7 c] 4) = true := by kernel_rfl
theorem tog_8_2 : (togOk [phN 8 0] 1 && (List.range 8).all fun a => togOk [phN 8 0, phN 8 a] 2) = true := by kernel_rfl
theorem tog_8_3 : ((List.range 8).all fun a => (List.range 8).all fun b => togOk [phN 8 0, phN 8 a, phN 8 b] 3) = true := by kernel_rfl
theorem tog_8_4 : ((List.range 8).all fun a => (List.range 8).all fun b => (List.range 8).all fun c => togOk [phN 8 0, phN 8 a, phN 8 b, phN 8 c] 4) = true := by kernel_rfl
theorem tog_9_2 : (togOk [phN 9 0] 1 && (List.range 9).all fun a => togOk [phN 9 0, phN 9 a] 2) = true := by kernel_rfl
theorem tog_9_3 : ((List.range 9).all fun a => (List.range 9).all fun b => togOk [phN 9 0, phN 9 a, phN 9 b] 3) = true := by kernel_rfl
theorem tog_9_4 : ((List.range 9).all fun a => (List.range 9).all fun b => (List.range 9).all fun c => togOk [phN 9 0, phN 9 a, phN 9 b, phN 9 c] 4) = true := by kernel_rfl
theorem all_range {n : Nat} {f : Nat → Bool} (h : (List.range n).all f = true) : ∀ i, i < n → f i = true := fun i hi => List.all_eq_true.1 h i (List.mem_range.2 hi)
theorem ph_is {p t : Nat} (h2 : 2 ≤ p) (h9 : p ≤ 9) (ht : t < p) : phT t p = some (phN p t) := by
  have hp : p = 2 ∨ p = 3 ∨ p = 4 ∨ p = 5 ∨ p = 6 ∨ p = 7 ∨ p = 8 ∨ p = 9 := by omega
  rcases hp with rfl | rfl | rfl | rfl | rfl | rfl | rfl | rfl
  · exact beq_iff_eq.1 (all_range ph_2 t ht)
  · exact beq_iff_eq.1 (all_range ph_3 t ht)
  · exact beq_iff_eq.1 (all_range ph_4 t ht)
  · exact beq_iff_eq.1 (all_range ph_5 t ht)
  · exact beq_iff_eq.1 (all_range ph_6 t ht)
  · exact beq_iff_eq.1 (all_range ph_7 t ht)
  · exact beq_iff_eq.1 (all_range ph_8 t ht)
  · exact beq_iff_eq.1 (all_range ph_9 t ht)
theorem tog1 {p : Nat} (h2 : 2 ≤ p) (h9 : p ≤ 9) : togOk [phN p 0] 1 = true := by
  have hp : p = 2 ∨ p = 3 ∨ p = 4 ∨ p = 5 ∨ p = 6 ∨ p = 7 ∨ p = 8 ∨ p = 9 := by omega
  rcases hp with rfl | rfl | rfl | rfl | rfl | rfl | rfl | rfl
  · exact ((Bool.and_eq_true _ _).mp tog_2_2).1
  · exact ((Bool.and_eq_true _ _).mp tog_3_2).1
  · exact ((Bool.and_eq_true _ _).mp tog_4_2).1
  · exact ((Bool.and_eq_true _ _).mp tog_5_2).1
  · exact ((Bool.and_eq_true _ _).mp tog_6_2).1
  · exact ((Bool.and_eq_true _ _).mp tog_7_2).1
  · exact ((Bool.and_eq_true _ _).mp tog_8_2).1
  · exact ((Bool.and_eq_true _ _).mp tog_9_2).1
theorem tog2 {p a : Nat} (h2 : 2 ≤ p) (h9 : p ≤ 9) (ha : a < p) : togOk [phN p 0, phN p a] 2 = true := by
  have hp : p = 2 ∨ p = 3 ∨ p = 4 ∨ p = 5 ∨ p = 6 ∨ p = 7 ∨ p = 8 ∨ p = 9 := by omega
  rcases hp with rfl | rfl | rfl | rfl | rfl | rfl | rfl | rfl
  · exact all_range ((Bool.and_eq_true _ _).mp tog_2_2).2 a ha
  · exact all_range ((Bool.and_eq_true _ _).mp tog_3_2).2 a ha
  · exact all_range ((Bool.and_eq_true _ _).mp tog_4_2).2 a ha
  · exact all_range ((Bool.and_eq_true _ _).mp tog_5_2).2 a ha
  · exact all_range ((Bool.and_eq_true _ _).mp tog_6_2).2 a ha
  · exact all_range ((Bool.and_eq_true _ _).mp tog_7_2).2 a ha
  · exact all_range ((Bool.and_eq_true _ _).mp tog_8_2).2 a ha
  · exact all_range ((Bool.and_eq_true _ _).mp tog_9_2).2 a ha
theorem tog3 {p a b : Nat} (h2 : 2 ≤ p) (h9 : p ≤ 9) (ha : a < p) (hb : b < p) : togOk [phN p 0, phN p a, phN p b] 3 = true := by
  have hp : p = 2 ∨ p = 3 ∨ p = 4 ∨ p = 5 ∨ p = 6 ∨ p = 7 ∨ p = 8 ∨ p = 9 := by omega
  rcases hp with rfl | rfl | rfl | rfl | rfl | rfl | rfl | rfl
  · exact all_range (all_range tog_2_3 a ha) b hb
  · exact all_range (all_range tog_3_3 a ha) b hb
  · exact all_range (all_range tog_4_3 a ha) b hb
  · exact all_range (all_range tog_5_3 a ha) b hb
  · exact all_range (all_range tog_6_3 a ha) b hb
  · exact all_range (all_range tog_7_3 a ha) b hb
  · exact all_range (all_range tog_8_3 a ha) b hb
  · exact all_range (all_range tog_9_3 a ha) b hb
theorem tog4 {p a b c : Nat} (h2 : 2 ≤ p) (h9 : p ≤ 9) (ha : a < p) (hb : b < p) (hc : c < p) : togOk [phN p 0, phN p a, phN p b, phN p c] 4 = true := by
  have hp : p = 2 ∨ p = 3 ∨ p = 4 ∨ p = 5 ∨ p = 6 ∨ p = 7 ∨ p = 8 ∨ p = 9 := by omega
  rcases hp with rfl | rfl | rfl | rfl | rfl | rfl | rfl | rfl
  · exact all_range (all_range (all_range tog_2_4 a ha) b hb) c hc
  · exact all_range (all_range (all_range tog_3_4 a ha) b hb) c hc
  · exact all_range (all_range (all_range tog_4_4 a ha) b hb) c hc
  · exact all_range (all_range (all_range tog_5_4 a ha) b hb) c hc
  · exact all_range (all_range (all_range tog_6_4 a ha) b hb) c hc
  · exact all_range (all_range (all_range tog_7_4 a ha) b hb) c hc
  · exact all_range (all_range (all_range tog_8_4 a ha) b hb) c hc
  · exact all_range (all_range (all_range tog_9_4 a ha) b hb) c hc
end Go.Proofs.Ythkakieomoobmaa

namespace Go.Proofs.Ythkakieomoobmaa
open Go.RowKit
set_option linter.unusedVariables false
set_option linter.unusedSimpArgs false

def pkT (t p : Nat) : Bool := match dQuo (floatOfInt .f64 t) (floatOfInt .f64 p) with
  | some x => phK x
  | none => false
theorem pk_all : ((List.range 10).all fun p => Nat.blt p 2 || (List.range p).all fun t => pkT t p) = true := by kernel_rfl
theorem pk_is {p t : Nat} (h2 : 2 ≤ p) (h9 : p ≤ 9) (ht : t < p) : ∃ x, dQuo (floatOfInt .f64 t) (floatOfInt .f64 p) = some x ∧ phO x = some (phN p t) ∧ phK x = true := by
  have h1 := ph_is h2 h9 ht
  unfold phT at h1
  obtain ⟨x, hx, h1⟩ := Option.bind_eq_some_iff.1 h1
  refine ⟨x, hx, h1, ?_⟩
  have h3 := all_range pk_all p (by omega)
  have hb : Nat.blt p 2 = false := by
    cases hb : Nat.blt p 2
    · rfl
    · have : p < 2 := Nat.blt_eq.mp hb
      omega
  rw [hb, Bool.false_or] at h3
  have h4 := all_range h3 t ht
  unfold pkT at h4
  rw [hx] at h4
  exact h4
/-- A row of complex numbers of the call's own. -/
def OwnC (w : World) (B : Nat) (v : Value) (zs : List (Nat × Nat)) : Prop := w.ownsRow B 69 1 v zs.length (zs.map fun z => Value.complex .f32 z.1 z.2)
theorem OwnC.lt {w : World} {B : Nat} {v : Value} {zs : List (Nat × Nat)} (h : OwnC w B v zs) : ∀ k, v.ownBlock = some k → B ≤ k ∧ k < w.heap.size := World.ownsRow.lt h
theorem OwnC.kept {w w' : World} {B : Nat} {v : Value} {zs : List (Nat × Nat)} {row : Option Nat} (h : OwnC w B v zs) (hg : w.grownBy w' row) (hne : v.ownBlock = none ∨ v.ownBlock ≠ row) : OwnC w' B v zs := World.ownsRow.kept h hg hne
theorem OwnC.below {w w' : World} {B N : Nat} {v : Value} {zs : List (Nat × Nat)} (h : OwnC w B v zs) (hb : Below N w w') (hN : w.heap.size ≤ N) : OwnC w' B v zs :=
  h.kept (row := none) ⟨hb.os, hb.tape, hb.output, hb.size, fun k hk _ => hb.block k (by omega)⟩ (by
    cases v.ownBlock with
    | none => exact .inl rfl
    | some g => exact .inr (by simp))
theorem OwnC.at_ {w : World} {B g n c : Nat} {zs : List (Nat × Nat)} (h : OwnC w B (.slice (some ⟨g, 0, none⟩) n c) zs) (hn : n = zs.length) (k : Nat) (hk : k < zs.length) : w.cell? ⟨g, k, none⟩ = some (.complex .f32 zs[k].1 zs[k].2) := by
  subst hn
  have h' : w.ownsRow B 69 1 (.slice (some ⟨g, 0, none⟩) zs.length c) zs.length (zs.map fun z => Value.complex .f32 z.1 z.2) := h
  rw [h'.cellAt k (by omega), List.getElem?_map, List.getElem?_eq_getElem hk]; rfl
theorem cx_lit (w : World) (B : Nat) (hB : B ≤ w.heap.size) : OwnC (w.alloc (.cells #[] 69)) B (.slice (some ⟨w.heap.size, 0, none⟩) 0 0) [] := by
  have := World.ownsRow_lit (e := 69) (size := 1) w #[] 0 hB (Nat.zero_le _) (by simp)
  simpa [OwnC] using this
theorem info_cx : (Try.prog.info? 69).map (fun i => (i.zero, i.size, i.bytes)) = some (some (.complex .f32 0 0), 1, 8) := by kernel_rfl
/-- 'append(list, z)' in a plain list. -/
theorem append_cx {ops : Array Oper} {rest : List Oper} {o : Oper} {a : Act} {Q : Exit → Act → World → Prop} {W : World} (hgd : o.guard = none) (s x : Operand)
    (ho : o.op = .call { callee := .builtin .append, args := #[s, x], argTypes := #[47, 47] }) (B : Nat) (v : Value) (n : Nat) (zs : List (Nat × Nat)) (z : Nat × Nat) (hn : n = zs.length)
    (hs : a.eval s = v) (c H : Nat) (hx : a.eval x = .slice (some ⟨H, 0, none⟩) 1 c) (hH : W.heap.size = H) (hown : OwnC W B v zs) (hB : B ≤ W.heap.size) (hsmall : n ≤ 1048580)
    (hK : ∀ g c w', OwnC w' B (.slice (some ⟨g, 0, none⟩) (n + 1) c) (zs ++ [z]) → W.grownBy w' v.ownBlock → wpList Try.prog ops Q rest (a.put o.dst (.slice (some ⟨g, 0, none⟩) (n + 1) c)) w') :
    wpList Try.prog ops Q (o :: rest) a (W.alloc (.cells #[.complex .f32 z.1 z.2] 69)) := by
  subst hH
  subst hn
  obtain ⟨i0, hi, hz0, hz1, hz2⟩ := info_parts info_cx
  refine wpList_append_lies _ hgd s x 47 ho B 69 i0 (.complex .f32 0 0) 1 8 Try.underlying47 hi hz0 hz1 hz2 rfl (by decide) v zs.length _ hs (World.ownsRow.alloc hown _) ⟨W.heap.size, 0, none⟩ 1 c [.complex .f32 z.1 z.2] hx rfl (cells_lit W [.complex .f32 z.1 z.2] _) ?_ (by decide) (by unfold maxLen; omega) (by omega) (by simp; omega) (W.heap.size + 1) (by simp) ?_
  · intro u hu
    simp only [List.mem_cons, List.not_mem_nil, or_false] at hu
    subst hu
    rfl
  · intro g cap w' h1 h2 h5 _
    have hg : W.grownBy w' v.ownBlock := ⟨h2.os, h2.tape, h2.output, Nat.le_trans (by show W.heap.size ≤ (W.alloc _).heap.size; simp) h2.size, fun k hk hne => (h2.block k (by show k < (W.alloc _).heap.size; simp; omega) hne).trans (Below.heap_alloc _ _ _ hk)⟩
    refine hK g cap w' ?_ hg
    unfold OwnC
    rw [List.map_append, List.length_append]
    exact h1
/-- The phasors of a list of digits. -/
def phD (p : Nat) (ds : List Nat) : List (Nat × Nat) := ds.map (phN p)
theorem cvI32 (n : Int) : ∀ W, (convert 3 44 (.int .i64 n)).run Try.prog W = .ok (.float .f32 (floatOfInt .f32 n)) W := fun W => run_convert_int_float W _ _ .i64 .f32 n (by kernel_rfl) (by kernel_rfl)
def PsR (p : Nat) (ds : List Nat) (A : Nat) (W : World) (vo vk : Value) (wr : World) : Prop :=
  ∃ k g c : Nat, k ≤ ds.length ∧ vk = .int .i64 k ∧ vo = .slice (some ⟨g, 0, none⟩) k c ∧ Hid (OwnC wr A (.slice (some ⟨g, 0, none⟩) k c) (phD p (ds.take k))) ∧ Hid (Below A W wr)
set_option maxRecDepth 100000 in
set_option maxHeartbeats 2000000 in
theorem phases_any (p : Nat) (ds : List Nat) (ts : List Int) (g n c B : Nat) (W : World) (hts : OwnI W B (.slice (some ⟨g, 0, none⟩) n c) ts) (hn : n = ds.length) (ht : ts = ds.map fun (d : Nat) => (d : Int)) (hn2 : 1 ≤ n ∧ n ≤ 12) (hd : ∀ d ∈ ds, d < p) (hp : 2 ≤ p ∧ p ≤ 9) :
    Calls Try.prog 20 #[.slice (some ⟨g, 0, none⟩) n c, .int .i64 (p : Int)] W fun e w' => (∃ g' c', e = .returned (.tuple #[.slice (some ⟨g', 0, none⟩) n c', .bool true]) ∧ OwnC w' W.heap.size (.slice (some ⟨g', 0, none⟩) n c') (phD p ds)) ∧ Below W.heap.size W w' := by
  have hl : ts.length = ds.length := by rw [ht, List.length_map]
  have hbd : ∀ x ∈ ts, 0 ≤ x ∧ x < (p : Int) := fun x hx => by
    rw [ht] at hx
    obtain ⟨d, hd2, rfl⟩ := List.mem_map.1 hx
    have := hd d hd2
    omega
  have HT := Lib.hid (areTableTimes_yes _ ts (p : Int) W hts.ints (by omega) hbd (by omega))
  have HN := Lib.hid (NumN.of_own hts (by omega))
  have HAT : Hid (∀ k (h : k < ds.length), nth ts k = (ds[k] : Nat)) := fun k h => by rw [nth_eq (by omega)]; simp only [ht, List.getElem_map]
  have HPK : Hid (∀ k (h : k < ds.length), ∃ x, dQuo (floatOfInt .f64 (ds[k] : Nat)) (floatOfInt .f64 p) = some x ∧ phO x = some (phN p ds[k]) ∧ phK x = true) := fun k h => pk_is hp.1 hp.2 (hd _ (List.getElem_mem h))
  have HST : Hid (∀ k (h : k < ds.length), phD p (ds.take (k + 1)) = phD p (ds.take k) ++ [phN p ds[k]]) := fun k h => by unfold phD; rw [List.take_succ_eq_append_getElem h, List.map_append]; rfl
  have HLN : Hid (∀ k, k ≤ ds.length → (phD p (ds.take k)).length = k) := fun k h => by unfold phD; rw [List.length_map, List.length_take]; omega
  have q2 := cvIF (p : Int)
  obtain ⟨A, hA⟩ : ∃ A, W.heap.size = A := ⟨_, rfl⟩
  have HR0 : Hid (PsR p ds A W (.slice (some ⟨W.heap.size, 0, none⟩) 0 0) (.int .i64 0) (W.alloc (.cells #[] 69))) := ⟨0, _, 0, Nat.zero_le _, rfl, rfl, cx_lit W A (by omega), (Below.refl _ W).alloc (by omega) _⟩
  have HA := Lib.hid hA
  rw [hA]
  have HNL := Lib.hid hn
  have HFL : Hid (phD p (ds.take ds.length) = phD p ds) := by show _ = _; rw [List.take_length]
  clear hts hn ht hd hl hbd hA
  go_enter Try.func20, Try.ntmps20
  go_wp2_with fail
  refine HT.out.mono ?_
  rintro e w' ⟨rfl, rfl⟩
  clear HT
  go_wp2_with fail
  go_loopw [6, 16] (fun vo vk wr => PsR p ds A W vo vk wr) (fun _ vk _ => n - (intOf vk).toNat)
  case atStart => exact HR0.out
  case round =>
    obtain ⟨k, g2, c2, hk, rfl, rfl, HO, HB⟩ := hrel
    have hws : A ≤ wr.heap.size := by have := HB.out.size; have := HA.out; omega
    clear HR0
    by_cases hkl : k < ds.length
    · have k0 : (0 : Int) ≤ (k : Int) := Int.natCast_nonneg k
      have k1 : (k : Int) < (n : Int) := by have := HNL.out; omega
      have ck := (HN.out.below (show Below W.heap.size W wr by rw [HA.out]; exact HB.out) HN.out.1).2 k (by have := HNL.out; omega)
      rw [HAT.out k hkl] at ck
      obtain ⟨x, hx1, hx2, hx3⟩ := HPK.out k hkl
      have hst := HST.out k hkl
      have hln := HLN.out k hk
      obtain ⟨d, hdd⟩ : ∃ d, ds[k] = d := ⟨_, rfl⟩
      rw [hdd] at ck hx1 hx2 hst
      obtain ⟨z, hz⟩ : ∃ z, phN p d = z := ⟨_, rfl⟩
      rw [hz] at hx2 hst
      have q1 := cvIF (d : Int)
      have q3 := arF .quo 53 .f64 (floatOfInt .f64 (d : Int)) (floatOfInt .f64 (p : Int)) x hx1
      have HPH := Lib.hid (phasor_any x z.1 z.2 wr hx2 hx3)
      obtain ⟨ys, hys⟩ : ∃ ys, phD p (ds.take k) = ys := ⟨_, rfl⟩
      rw [hys] at HO hst hln
      have HLL : Hid (k = ys.length) := hln.symm
      have HS := Lib.hid hst
      have HKL := Lib.hid hkl
      clear hys hst hln hz hdd hx1 hx2 hx3 hkl hk
      go_wp2_with fail
      refine HPH.out.mono ?_
      rintro e w' ⟨rfl, rfl⟩
      clear HPH
      go_wp2_with (at_builtin; refine append_cx rfl _ _ rfl A (.slice (some ⟨g2, 0, none⟩) k c2) k ys z HLL.out rfl 1 _ rfl rfl HO.out hws (by have := HKL.out; have := HNL.out; omega) ?_; intro g1 c1 w3 ho3 hg3; have hb3 : Below A W w3 := HB.out.grown hg3 hws (fun j e => by rw [ownBlock_slice] at e; injection e with e; have := (HO.out.lt g2 rfl).1; omega); have HO3 := Lib.hid ho3; have HB3 := Lib.hid hb3; clear ho3 hg3 hb3)
      go_roundw
      case rel => exact ⟨k + 1, g1, c1, HKL.out, by go_num, rfl, by show OwnC _ _ _ _; rw [HS.out]; exact HO3.out, HB3⟩
      case measure => have := HKL.out; have := HNL.out; simp [intOf]; omega
    · have k1 : ¬ ((k : Int) < (n : Int)) := by have := HNL.out; omega
      have hke : k = n := by have := HNL.out; omega
      subst hke
      have HO2 : Hid (OwnC wr A (.slice (some ⟨g2, 0, none⟩) k c2) (phD p ds)) := by
        have h1 := HO.out
        have h2 := HFL.out
        rw [← HNL.out] at h2
        rw [h2] at h1
        exact h1
      clear hkl HO
      go_wp2
      go_ret2
      exact ⟨⟨g2, c2, rfl, HO2.out⟩, HB.out⟩
end Go.Proofs.Ythkakieomoobmaa
