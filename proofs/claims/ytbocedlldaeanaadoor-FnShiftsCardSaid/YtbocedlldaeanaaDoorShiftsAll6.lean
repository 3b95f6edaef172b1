/- CoverOf. Conditions: texts of the same length with the letters of shifts, as many counts as texts, within their bounds. With texts that it needs. -/
import Derived.Test.YtbocedlldaeanaaDoorShiftsAll5
import Derived.Test.YtbocedlldaeanaaDoorShiftsAll2
import Derived.Laws.CopyOwn
import Derived.Laws.BitsLemmas
import Derived.Deep.RegionLaw
import Derived.IntWalk
import Derived.Test.YtbocedlldaeanaaDoorShiftsAll1
import Derived.Deep.OwnRows
namespace Go.Proofs.YtbocedlldaeanaaDoor
open Go.RowKit Go.Shelf
set_option linter.unusedVariables false
set_option linter.unusedSimpArgs false
attribute [local go_sem] run_makeMap

theorem ruleOk_of {r : ShR} (h : r.Ok) : ruleOk (r.slots, r.least, r.most, r.row, r.pause) = true := by
  obtain ⟨h1, h2, h3, h4, h5, h6, h7, h8, h9⟩ := h
  unfold ruleOk win
  simp only [Bool.and_eq_true, decide_eq_true_eq]
  omega
set_option maxRecDepth 100000 in
set_option maxHeartbeats 1000000 in
theorem asShifts_any (r : ShR) (w : World) : Calls Tryd.prog 19 #[shV r] w fun e w' => (∃ b, e = .returned (cV r b) ∧ KnI w' b r ∧ w.heap.size ≤ b) ∧ Below w.heap.size w w' := by
  obtain ⟨N, L, M, R, P⟩ := r
  show Calls _ _ #[.agg #[.int .i64 N, .int .i64 L, .int .i64 M, .int .i64 R, .int .i64 P]] _ _
  go_enter Tryd.func19, Tryd.ntmps19
  go_wp2
  have hsz : ((w.alloc (.cells #[.int .i64 N, .int .i64 L, .int .i64 M, .int .i64 R, .int .i64 P] 25)).alloc (.cells #[.int .i64 N, .int .i64 L, .int .i64 M, .int .i64 R, .int .i64 P, .map (some (w.heap.size + 1 + 1))] 53)).heap.size = w.heap.size + 1 + 1 := by simp
  refine bodyPost_ret (v := cV ⟨N, L, M, R, P⟩ (w.heap.size + 1 + 1)) (by simp [results, Tryd.results19, go_sem, cV]) rfl ⟨⟨w.heap.size + 1 + 1, rfl, ?_, by omega⟩, ?_⟩
  · have h := KnI.new ((w.alloc (.cells #[.int .i64 N, .int .i64 L, .int .i64 M, .int .i64 R, .int .i64 P] 25)).alloc (.cells #[.int .i64 N, .int .i64 L, .int .i64 M, .int .i64 R, .int .i64 P, .map (some (w.heap.size + 1 + 1))] 53)) ⟨N, L, M, R, P⟩
    rw [hsz] at h
    exact h
  · exact (((Below.refl _ w).alloc (Nat.le_refl _) _).alloc (by simp) _).alloc (by simp; omega) _
set_option maxRecDepth 100000 in
set_option maxHeartbeats 1000000 in
theorem CountShifts_any (r : ShR) (hr : r.Ok) (w : World) : Calls Tryd.prog 6 #[shV r] w fun e w' => e = .returned (.tuple #[.int .i64 (cntS r r.slots.toNat s0 : Nat), .bool true]) ∧ Below w.heap.size w w' := by
  have HVR : Hid (∀ W, Calls Tryd.prog 10 #[shV r] W fun e w' => e = .returned (.bool true) ∧ Below W.heap.size W w') := fun W => by
    have h := validRule_any r.slots r.least r.most r.row r.pause W
    rw [ruleOk_of hr] at h
    exact h
  have HAS : Hid (∀ W, Calls Tryd.prog 19 #[shV r] W fun e w' => (∃ b, e = .returned (cV r b) ∧ KnI w' b r ∧ W.heap.size ≤ b) ∧ Below W.heap.size W w') := fun W => asShifts_any r W
  have HCT : Hid (∀ b W, KnI W b r → Calls Tryd.prog 20 #[cV r b, stV s0] W fun e w' => e = .returned (.int .i64 (cntS r r.slots.toNat s0 : Nat)) ∧ KnI w' b r ∧ GrownL [b] W w') := fun b W hk => count_any r hr b r.slots.toNat s0 W (by have := hr.1; show (0 : Int) + _ = _; omega) s0_sti hk
  clear hr
  obtain ⟨N, L, M, R, P⟩ := r
  generalize cntS ⟨N, L, M, R, P⟩ (ShR.slots ⟨N, L, M, R, P⟩).toNat s0 = C at HCT ⊢
  unfold shV at HVR HAS ⊢
  unfold cV stV s0 at HCT
  unfold cV at HAS
  dsimp only at HVR HAS HCT ⊢
  have HV1 := Lib.hid (HVR.out (w.alloc (.cells #[.int .i64 N, .int .i64 L, .int .i64 M, .int .i64 R, .int .i64 P] 25)))
  have B0 : Hid (Below w.heap.size w (w.alloc (.cells #[.int .i64 N, .int .i64 L, .int .i64 M, .int .i64 R, .int .i64 P] 25))) := (Below.refl _ w).alloc (Nat.le_refl _) _
  have KR0 : Hid (Blk (w.alloc (.cells #[.int .i64 N, .int .i64 L, .int .i64 M, .int .i64 R, .int .i64 P] 25)) w.heap.size 25 [.int .i64 N, .int .i64 L, .int .i64 M, .int .i64 R, .int .i64 P]) := Blk.new w _ _
  go_enter Tryd.func6, Tryd.ntmps6
  go_wp2_with fail
  refine HV1.out.mono ?_
  rintro e W1 ⟨rfl, hb1⟩
  have B1 : Hid (Below w.heap.size w W1) := B0.out.trans (hb1.mono (by simp))
  have KR1 := Lib.hid (KR0.out.below hb1 (by simp))
  have c0 := KR1.out.cell 0 _ rfl
  have c1 := KR1.out.cell 1 _ rfl
  have c2 := KR1.out.cell 2 _ rfl
  have c3 := KR1.out.cell 3 _ rfl
  have c4 := KR1.out.cell 4 _ rfl
  have HA1 := Lib.hid (HAS.out W1)
  clear hb1 HV1 HVR HAS B0 KR0 KR1
  go_wp2_with fail
  refine HA1.out.mono ?_
  rintro e W2 ⟨⟨b, rfl, hk, hb⟩, hb2⟩
  have B2 : Hid (Below w.heap.size w W2) := B1.out.trans (hb2.mono B1.out.size)
  have HC2 := Lib.hid (HCT.out b W2 hk)
  have hbw : w.heap.size ≤ b := by have := B1.out.size; omega
  clear hk hb2 HA1 HCT c0 c1 c2 c3 c4
  go_wp2_with fail
  refine HC2.out.mono ?_
  rintro e W3 ⟨rfl, _, hg3⟩
  have B3 : Hid (Below w.heap.size w W3) := hg3.toBelow B2.out B2.out.size (by intro i hi; simp; omega)
  clear hg3 HC2
  go_wp2
  go_ret2
  exact ⟨rfl, B3.out⟩
set_option maxRecDepth 100000 in
set_option maxHeartbeats 1000000 in
theorem FirstShifts_any (r : ShR) (hr : r.Ok) (m : Nat) (hm : m ≤ 64) (w : World) : Calls Tryd.prog 7 #[shV r, .int .i64 m] w fun e w' => (∃ g c n, e = .returned (.tuple #[.slice (some ⟨g, 0, none⟩) n c, .bool true]) ∧ n = (fitT m [] (lsW r r.slots.toNat s0 ⟨#[]⟩)).length ∧ OwnT w' w.heap.size (.slice (some ⟨g, 0, none⟩) n c) (fitT m [] (lsW r r.slots.toNat s0 ⟨#[]⟩))) ∧ Below w.heap.size w w' := by
  have HVR : Hid (∀ W, Calls Tryd.prog 10 #[shV r] W fun e w' => e = .returned (.bool true) ∧ Below W.heap.size W w') := fun W => by
    have h := validRule_any r.slots r.least r.most r.row r.pause W
    rw [ruleOk_of hr] at h
    exact h
  have HAS : Hid (∀ W, Calls Tryd.prog 19 #[shV r] W fun e w' => (∃ b, e = .returned (cV r b) ∧ KnI w' b r ∧ W.heap.size ≤ b) ∧ Below W.heap.size W w') := fun W => asShifts_any r W
  have HLS : Hid (∀ b B g c W, KnI W b r → OwnT W B (.slice (some ⟨g, 0, none⟩) 0 c) [] → b ≠ g → B ≤ W.heap.size → Calls Tryd.prog 22 #[cV r b, .slice (some ⟨g, 0, none⟩) 0 c, .string ⟨#[]⟩, stV s0, .int .i64 m] W fun e w' => ∃ g' c' n', e = .returned (.slice (some ⟨g', 0, none⟩) n' c') ∧ OwnT w' B (.slice (some ⟨g', 0, none⟩) n' c') (fitT m [] (lsW r r.slots.toNat s0 ⟨#[]⟩)) ∧ n' = (fitT m [] (lsW r r.slots.toNat s0 ⟨#[]⟩)).length ∧ KnI w' b r ∧ GrownL [b, g] W w' ∧ (g' = g ∨ W.heap.size ≤ g')) := fun b B g c W h1 h2 h3 h4 => list_any r hr b B m hm r.slots.toNat s0 ⟨#[]⟩ W g c 0 [] (by have := hr.1; show (0 : Int) + _ = _; omega) s0_sti h1 h2 rfl h3 h4 (by simp) (by
    have := hr.1; have := hr.2.1; show (⟨#[]⟩ : ByteArray).size + _ ≤ _; have : (⟨#[]⟩ : ByteArray).size = 0 := rfl; omega)
  clear hr
  obtain ⟨N, L, M, R, P⟩ := r
  generalize fitT m [] (lsW ⟨N, L, M, R, P⟩ (ShR.slots ⟨N, L, M, R, P⟩).toNat s0 ⟨#[]⟩) = F at HLS ⊢
  unfold shV at HVR HAS ⊢
  unfold cV stV s0 at HLS
  unfold cV at HAS
  dsimp only at HVR HAS HLS ⊢
  have HV1 := Lib.hid (HVR.out (w.alloc (.cells #[.int .i64 N, .int .i64 L, .int .i64 M, .int .i64 R, .int .i64 P] 25)))
  have B0 : Hid (Below w.heap.size w (w.alloc (.cells #[.int .i64 N, .int .i64 L, .int .i64 M, .int .i64 R, .int .i64 P] 25))) := (Below.refl _ w).alloc (Nat.le_refl _) _
  have KR0 : Hid (Blk (w.alloc (.cells #[.int .i64 N, .int .i64 L, .int .i64 M, .int .i64 R, .int .i64 P] 25)) w.heap.size 25 [.int .i64 N, .int .i64 L, .int .i64 M, .int .i64 R, .int .i64 P]) := Blk.new w _ _
  have HW1 : Hid (∀ W, Calls Tryd.prog 21 #[.int .i64 m, .int .i64 0, .int .i64 64] W fun e w' => e = .returned (.bool true) ∧ W = w') := fun W => by
    have h := within_any m 0 64 W
    have e1 : win m 0 64 = true := by unfold win; simp; omega
    rwa [e1] at h
  go_enter Tryd.func7, Tryd.ntmps7
  go_wp2_with fail
  refine HV1.out.mono ?_
  rintro e W1 ⟨rfl, hb1⟩
  have B1 : Hid (Below w.heap.size w W1) := B0.out.trans (hb1.mono (by simp))
  have KR1 := Lib.hid (KR0.out.below hb1 (by simp))
  have c0 := KR1.out.cell 0 _ rfl
  have c1 := KR1.out.cell 1 _ rfl
  have c2 := KR1.out.cell 2 _ rfl
  have c3 := KR1.out.cell 3 _ rfl
  have c4 := KR1.out.cell 4 _ rfl
  have HA1 := Lib.hid (HAS.out W1)
  clear hb1 HV1 HVR HAS B0 KR0 KR1
  go_wp2_with fail
  refine (HW1.out W1).mono ?_
  rintro e W1' ⟨rfl, hw1⟩
  subst hw1
  go_wp2_with fail
  refine HA1.out.mono ?_
  rintro e W2 ⟨⟨b, rfl, hk, hb⟩, hb2⟩
  have B2 : Hid (Below w.heap.size w W2) := B1.out.trans (hb2.mono B1.out.size)
  have hbw : w.heap.size ≤ b := by have := B1.out.size; omega
  have hbl := hk.lt
  have HC2 := Lib.hid (HLS.out b w.heap.size W2.heap.size 0 (W2.alloc (.cells #[] 9)) (hk.alloc _) (OwnT.lit W2 w.heap.size [] B2.out.size (by unfold maxLen; simp)) (by omega) (by have := B2.out.size; simp; omega))
  have B2' : Hid (Below w.heap.size w (W2.alloc (.cells #[] 9))) := B2.out.alloc B2.out.size _
  have hs2 := B2.out.size
  clear hk hb2 HA1 HLS c0 c1 c2 c3 c4
  go_wp2_with fail
  refine HC2.out.mono ?_
  rintro e W3 ⟨g, c, n, rfl, ho3, hn3, _, hg3, _⟩
  have B3 : Hid (Below w.heap.size w W3) := hg3.toBelow B2'.out (by simp; omega) (by intro i hi; simp; omega)
  have HO3 := Lib.hid (And.intro hn3 ho3)
  clear hg3 HC2 ho3 hn3
  go_wp2
  go_ret2
  exact ⟨⟨g, c, n, rfl, HO3.out.1, HO3.out.2⟩, B3.out⟩
set_option maxRecDepth 100000 in
set_option maxHeartbeats 1000000 in
theorem IsShift_any (r : ShR) (hr : r.Ok) (t : ByteArray) (ht : t.size ≤ 1048576) (w : World) : Calls Tryd.prog 11 #[shV r, .string t] w fun e w' => e = .returned (.tuple #[.bool (isSh r t), .bool true]) ∧ Below w.heap.size w w' := by
  have HVR : Hid (∀ W, Calls Tryd.prog 10 #[shV r] W fun e w' => e = .returned (.bool true) ∧ Below W.heap.size W w') := fun W => by
    have h := validRule_any r.slots r.least r.most r.row r.pause W
    rw [ruleOk_of hr] at h
    exact h
  have HST : Hid (∀ W, Calls Tryd.prog 24 #[shV r, .string t] W fun e w' => (∃ v, e = .returned (.tuple #[v, .bool (isSh r t)])) ∧ Below W.heap.size W w') := fun W => (states_any r hr t W ht).mono (by rintro e w' ⟨⟨v, h1, _⟩, h2⟩; exact ⟨⟨v, h1⟩, h2⟩)
  clear hr
  obtain ⟨N, L, M, R, P⟩ := r
  generalize isSh ⟨N, L, M, R, P⟩ t = X at HST ⊢
  unfold shV at HVR HST ⊢
  dsimp only at HVR HST ⊢
  have HV1 := Lib.hid (HVR.out (w.alloc (.cells #[.int .i64 N, .int .i64 L, .int .i64 M, .int .i64 R, .int .i64 P] 25)))
  have B0 : Hid (Below w.heap.size w (w.alloc (.cells #[.int .i64 N, .int .i64 L, .int .i64 M, .int .i64 R, .int .i64 P] 25))) := (Below.refl _ w).alloc (Nat.le_refl _) _
  have KR0 : Hid (Blk (w.alloc (.cells #[.int .i64 N, .int .i64 L, .int .i64 M, .int .i64 R, .int .i64 P] 25)) w.heap.size 25 [.int .i64 N, .int .i64 L, .int .i64 M, .int .i64 R, .int .i64 P]) := Blk.new w _ _
  go_enter Tryd.func11, Tryd.ntmps11
  go_wp2_with fail
  refine HV1.out.mono ?_
  rintro e W1 ⟨rfl, hb1⟩
  have B1 : Hid (Below w.heap.size w W1) := B0.out.trans (hb1.mono (by simp))
  have KR1 := Lib.hid (KR0.out.below hb1 (by simp))
  have c0 := KR1.out.cell 0 _ rfl
  have c1 := KR1.out.cell 1 _ rfl
  have c2 := KR1.out.cell 2 _ rfl
  have c3 := KR1.out.cell 3 _ rfl
  have c4 := KR1.out.cell 4 _ rfl
  have HA1 := Lib.hid (HST.out W1)
  clear hb1 HV1 HVR HST B0 KR0 KR1
  go_wp2_with fail
  refine HA1.out.mono ?_
  rintro e W2 ⟨⟨v, rfl⟩, hb2⟩
  have B2 : Hid (Below w.heap.size w W2) := B1.out.trans (hb2.mono B1.out.size)
  clear hb2 HA1
  go_wp2
  go_ret2
  exact ⟨rfl, B2.out⟩
end Go.Proofs.YtbocedlldaeanaaDoor

namespace Go.Proofs.YtbocedlldaeanaaDoor
open Go.RowKit Go.Shelf
set_option linter.unusedVariables false
set_option linter.unusedSimpArgs false

theorem r8S_at (r : ShR) (t : ByteArray) (k : Nat) (hk : k < t.size) (w row free : Int) : r8S r w row free (t.data.toList.drop k) = if t[k].toNat ≠ 119 then r8S r w 0 (free + 1) (t.data.toList.drop (k + 1))
    else if w > 0 ∧ free > 0 ∧ free < r.pause then false
    else if row + 1 > r.row then false else r8S r (w + 1) (row + 1) 0 (t.data.toList.drop (k + 1)) := by
  have hl : k < t.data.toList.length := by simpa using hk
  have e : t.data.toList[k] = t[k] := by simp; rfl
  rw [List.drop_eq_getElem_cons hl, r8S, e]
  have h : (t[k] ≠ 119) ↔ (t[k].toNat ≠ 119) := by
    constructor
    · intro h1 h2; exact h1 (UInt8.toNat_inj.1 (by rw [h2]; rfl))
    · intro h1 h2; exact h1 (by rw [h2]; rfl)
  by_cases hc : t[k].toNat ≠ 119
  · rw [if_pos (h.2 hc), if_pos hc]
  · rw [if_neg (fun hh => hc (h.1 hh)), if_neg hc]
def R8R (r : ShR) (t : ByteArray) (X : Bool) (w : World) (vw vr vf vk : Value) (wr : World) : Prop :=
  ∃ (k : Nat) (a b c : Int), k ≤ t.size ∧ vk = .int .i64 k ∧ vw = .int .i64 a ∧ vr = .int .i64 b ∧ vf = .int .i64 c ∧ (0 ≤ a ∧ a ≤ k) ∧ (0 ≤ b ∧ b ≤ k) ∧ (0 ≤ c ∧ c ≤ k) ∧ r8S r a b c (t.data.toList.drop k) = X ∧ wr = w
set_option maxRecDepth 100000 in
set_option maxHeartbeats 1000000 in
theorem r8Shift_any (r : ShR) (t : ByteArray) (ht : t.size ≤ 1048576) (w : World) : Calls Tryd.prog 13 #[shV r, .string t] w fun e w' => e = .returned (.bool (r8S r 0 0 0 t.data.toList)) ∧ Below w.heap.size w w' := by
  have HAT := Lib.hid (r8S_at r t)
  have HEND : Hid (∀ a b c, r8S r a b c (t.data.toList.drop t.size) = (decide (r.least ≤ a) && decide (a ≤ r.most))) := fun a b c => by
    rw [List.drop_eq_nil_of_le (by simp)]
    rfl
  have H0 : Hid (t.data.toList.drop 0 = t.data.toList) := by show _ = _; simp
  obtain ⟨N, L, M, R, P⟩ := r
  obtain ⟨X, hX⟩ : ∃ X, r8S ⟨N, L, M, R, P⟩ 0 0 0 t.data.toList = X := ⟨_, rfl⟩
  rw [hX]
  show Calls _ _ #[.agg #[.int .i64 N, .int .i64 L, .int .i64 M, .int .i64 R, .int .i64 P], .string t] _ _
  obtain ⟨W0, hW0⟩ : ∃ W, w.alloc (.cells #[.int .i64 N, .int .i64 L, .int .i64 M, .int .i64 R, .int .i64 P] 25) = W := ⟨_, rfl⟩
  have B0 : Hid (Below w.heap.size w W0) := by show Below _ _ _; rw [← hW0]; exact (Below.refl _ w).alloc (Nat.le_refl _) _
  have K0 : Hid (Blk W0 w.heap.size 25 [.int .i64 N, .int .i64 L, .int .i64 M, .int .i64 R, .int .i64 P]) := by show Blk _ _ _ _; rw [← hW0]; exact Blk.new w _ _
  have c1 := K0.out.cell 1 _ rfl
  have c2 := K0.out.cell 2 _ rfl
  have c3 := K0.out.cell 3 _ rfl
  have c4 := K0.out.cell 4 _ rfl
  have HR0 : Hid (R8R ⟨N, L, M, R, P⟩ t X W0 (.int .i64 0) (.int .i64 0) (.int .i64 0) (.int .i64 0) W0) := ⟨0, 0, 0, 0, Nat.zero_le _, rfl, rfl, rfl, rfl, by omega, by omega, by omega, by rw [H0.out]; exact hX, rfl⟩
  clear hX K0
  go_enter Tryd.func13, Tryd.ntmps13
  go_wp2
  go_loopw [5, 6, 7, 8] (fun vw vr vf vk wr => R8R ⟨N, L, M, R, P⟩ t X W0 vw vr vf vk wr) (fun _ _ _ vk _ => t.size - (intOf vk).toNat)
  case atStart => exact HR0.out
  case round =>
    obtain ⟨k, a, b, c, hk, rfl, rfl, rfl, rfl, ⟨a0, a1⟩, ⟨b0, b1⟩, ⟨g0, g1⟩, hx, rfl⟩ := hrel
    have HX := Lib.hid hx
    clear hx HR0 hW0
    by_cases hlt : k < t.size
    · have k0 : (0 : Int) ≤ (k : Int) := by omega
      have k1 : (k : Int) < (t.size : Int) := by omega
      have HA := Lib.hid (HAT.out k hlt a b c)
      have w1 : IntKind.i64.wrap (a + 1) = a + 1 := IntWalk.i64_in _ (by omega)
      have w2 : IntKind.i64.wrap (b + 1) = b + 1 := IntWalk.i64_in _ (by omega)
      have w3 : IntKind.i64.wrap (c + 1) = c + 1 := IntWalk.i64_in _ (by omega)
      by_cases h119 : t[k].toNat = 119
      · have q1 : ((t[k].toNat : Int) != 119) = false := by simp; omega
        by_cases hp : a > 0
        · by_cases hf : c > 0
          · by_cases hpa : c < P
            · have HF : Hid (X = false) := by show _ = _; rw [← HX.out, HA.out, if_neg (by omega), if_pos ⟨hp, hf, hpa⟩]
              clear HX HA h119
              go_wp2
              go_ret
              exact ⟨ret_bool HF.out.symm, B0.out⟩
            · by_cases hr : b + 1 > R
              · have HF : Hid (X = false) := by show _ = _; rw [← HX.out, HA.out, if_neg (by omega), if_neg (by omega), if_pos hr]
                clear HX HA h119
                go_wp2
                go_ret
                exact ⟨ret_bool HF.out.symm, B0.out⟩
              · have HN : Hid (r8S ⟨N, L, M, R, P⟩ (a + 1) (b + 1) 0 (t.data.toList.drop (k + 1)) = X) := by show _ = _; rw [← HX.out, HA.out, if_neg (by omega), if_neg (by omega), if_neg hr]
                clear HX HA h119
                go_wp2
                go_roundw
                case rel => exact ⟨k + 1, a + 1, b + 1, 0, by omega, by go_num, rfl, rfl, rfl, by omega, by omega, by omega, HN.out, rfl⟩
                case measure => simp [intOf]; omega
          · by_cases hr : b + 1 > R
            · have HF : Hid (X = false) := by show _ = _; rw [← HX.out, HA.out, if_neg (by omega), if_neg (by omega), if_pos hr]
              clear HX HA h119
              go_wp2
              go_ret
              exact ⟨ret_bool HF.out.symm, B0.out⟩
            · have HN : Hid (r8S ⟨N, L, M, R, P⟩ (a + 1) (b + 1) 0 (t.data.toList.drop (k + 1)) = X) := by show _ = _; rw [← HX.out, HA.out, if_neg (by omega), if_neg (by omega), if_neg hr]
              clear HX HA h119
              go_wp2
              go_roundw
              case rel => exact ⟨k + 1, a + 1, b + 1, 0, by omega, by go_num, rfl, rfl, rfl, by omega, by omega, by omega, HN.out, rfl⟩
              case measure => simp [intOf]; omega
        · by_cases hr : b + 1 > R
          · have HF : Hid (X = false) := by show _ = _; rw [← HX.out, HA.out, if_neg (by omega), if_neg (by omega), if_pos hr]
            clear HX HA h119
            go_wp2
            go_ret
            exact ⟨ret_bool HF.out.symm, B0.out⟩
          · have HN : Hid (r8S ⟨N, L, M, R, P⟩ (a + 1) (b + 1) 0 (t.data.toList.drop (k + 1)) = X) := by show _ = _; rw [← HX.out, HA.out, if_neg (by omega), if_neg (by omega), if_neg hr]
            clear HX HA h119
            go_wp2
            go_roundw
            case rel => exact ⟨k + 1, a + 1, b + 1, 0, by omega, by go_num, rfl, rfl, rfl, by omega, by omega, by omega, HN.out, rfl⟩
            case measure => simp [intOf]; omega
      · have q1 : ((t[k].toNat : Int) != 119) = true := by simp; omega
        have HN : Hid (r8S ⟨N, L, M, R, P⟩ a 0 (c + 1) (t.data.toList.drop (k + 1)) = X) := by show _ = _; rw [← HX.out, HA.out, if_pos h119]
        clear HX HA h119
        go_wp2
        go_roundw
        case rel => exact ⟨k + 1, a, 0, c + 1, by omega, by go_num, rfl, rfl, rfl, by omega, by omega, by omega, HN.out, rfl⟩
        case measure => simp [intOf]; omega
    · obtain rfl : k = t.size := by omega
      have HF : Hid (X = (decide (L ≤ a) && decide (a ≤ M))) := by show _ = _; rw [← HX.out, HEND.out]
      clear HX HAT HEND
      by_cases hl : L ≤ a
      · have i2 : a ≥ L := hl
        go_wp2
        go_ret
        exact ⟨ret_bool (by rw [HF.out, decide_eq_true hl, Bool.true_and]), B0.out⟩
      · have i2 : ¬ a ≥ L := hl
        have HF2 : Hid (X = false) := by show _ = _; rw [HF.out, decide_eq_false hl, Bool.false_and]
        go_wp2
        go_ret
        exact ⟨ret_bool HF2.out.symm, B0.out⟩
theorem areWorkersS_any (p : Int) (h : 1 ≤ p ∧ p ≤ 8) (w : World) : Calls Tryd.prog 23 #[.int .i64 p] w fun e w' => e = .returned (.bool true) ∧ w = w' := by
  have h1 := within_any p 1 8 w
  have e1 : win p 1 8 = true := by unfold win; simp; omega
  rw [e1] at h1
  have HC := Lib.hid h1
  clear h1 e1
  go_enter Tryd.func23, Tryd.ntmps23
  go_wp2_with fail
  refine HC.out.mono ?_
  rintro e w1 ⟨rfl, rfl⟩
  go_wp2
  go_ret
  exact ⟨rfl, rfl⟩
def CsR (r : ShR) (C : Nat) (g B : Nat) (w : World) (vo vk : Value) (wr : World) : Prop :=
  ∃ (k g1 c1 : Nat), k ≤ 1 ∧ vk = .int .i64 k ∧ vo = .slice (some ⟨g1, 0, none⟩) k c1 ∧ OwnI wr B (.slice (some ⟨g1, 0, none⟩) k c1) (List.replicate k (C : Int)) ∧ Below B w wr
set_option maxRecDepth 100000 in
set_option maxHeartbeats 1000000 in
theorem CountsShared_one (r : ShR) (hr : r.Ok) (g : Nat) (p : Int) (hp : 1 ≤ p ∧ p ≤ 8) (w : World) (hk : Blk w g 25 [.int .i64 r.slots, .int .i64 r.least, .int .i64 r.most, .int .i64 r.row, .int .i64 r.pause]) :
    Calls Tryd.prog 9 #[.slice (some ⟨g, 0, none⟩) 1 1, .int .i64 p] w fun e w' => (∃ g1 c1, e = .returned (.tuple #[.slice (some ⟨g1, 0, none⟩) 1 c1, .bool true]) ∧ OwnI w' w.heap.size (.slice (some ⟨g1, 0, none⟩) 1 c1) [((cntS r r.slots.toNat s0 : Nat) : Int)]) ∧ Below w.heap.size w w' := by
  have HWK := Lib.hid (areWorkersS_any p hp w)
  have HCS : Hid (∀ W, Calls Tryd.prog 6 #[shV r] W fun e w' => e = .returned (.tuple #[.int .i64 (cntS r r.slots.toNat s0 : Nat), .bool true]) ∧ Below W.heap.size W w') := fun W => CountShifts_any r hr W
  obtain ⟨C, hC⟩ : ∃ C, cntS r r.slots.toNat s0 = C := ⟨_, rfl⟩
  rw [hC] at HCS ⊢
  have HK := Lib.hid hk
  have hgl := hk.lt
  clear hr hC hk
  obtain ⟨N, L, M, R, P⟩ := r
  unfold shV at HCS
  dsimp only at HCS HK
  obtain ⟨A, hA⟩ : ∃ A, w.heap.size = A := ⟨_, rfl⟩
  have HA := Lib.hid hA
  rw [hA] at hgl ⊢
  clear hA
  have HR0 : Hid (CsR ⟨N, L, M, R, P⟩ C g A w (.slice (some ⟨w.heap.size, 0, none⟩) 0 0) (.int .i64 0) (w.alloc (.cells #[] 2))) := by
    show CsR _ _ _ _ _ _ _ _
    refine ⟨0, w.heap.size, 0, by omega, rfl, rfl, OwnI.lit w A [] (by rw [HA.out]; exact Nat.le_refl _) (by unfold maxLen; simp), (Below.refl _ w).alloc (by rw [HA.out]; exact Nat.le_refl _) _⟩
  go_enter Tryd.func9, Tryd.ntmps9
  go_wp2_with fail
  refine HWK.out.mono ?_
  rintro e w1 ⟨rfl, rfl⟩
  clear HWK
  go_wp2
  go_loopw [6, 27] (fun vo vk wr => CsR ⟨N, L, M, R, P⟩ C g A w vo vk wr) (fun _ vk _ => 1 - (intOf vk).toNat)
  case atStart => exact HR0.out
  case round =>
    obtain ⟨k, g1, c1, hk, rfl, rfl, ho, hb⟩ := hrel
    have HO := Lib.hid ho
    have HB := Lib.hid hb
    clear ho hb HR0
    have KG := Lib.hid (HK.out.below (HB.out) hgl)
    obtain rfl | rfl : k = 0 ∨ k = 1 := by omega
    · have d0 := KG.out.cell 0 _ rfl
      have d1 := KG.out.cell 1 _ rfl
      have d2 := KG.out.cell 2 _ rfl
      have d3 := KG.out.cell 3 _ rfl
      have d4 := KG.out.cell 4 _ rfl
      have HC1 := Lib.hid (HCS.out (wr.alloc (.cells #[.int .i64 N, .int .i64 L, .int .i64 M, .int .i64 R, .int .i64 P] 25)))
      go_wp2_with fail
      refine HC1.out.mono ?_
      rintro e W1 ⟨rfl, hb1⟩
      have HB1 : Hid (Below A w W1) := (HB.out.alloc (by have := HB.out.size; rw [HA.out] at this; exact this) _).trans (hb1.mono (by have := HB.out.size; rw [HA.out] at this; simp; omega))
      have HO1 : Hid (OwnI W1 A (.slice (some ⟨g1, 0, none⟩) 0 c1) []) := (HO.out.alloc _).below hb1 (Nat.le_refl _)
      have hAW : A ≤ W1.heap.size := by have := HB1.out.size; rw [HA.out] at this; exact this
      clear hb1 HC1 HO HB KG d0 d1 d2 d3 d4
      go_wp2_with (at_builtin; refine append_i64L rfl _ _ rfl A (.slice (some ⟨g1, 0, none⟩) 0 c1) [] [(C : Int)] (Nat.zero_lt_succ _) rfl _ rfl HO1.out hAW (by simp) ?_; intro g2 c2 w5 ho1 hg1 hl1; have HA1 := Lib.hid (And.intro ho1 (And.intro hg1 hl1)); simp only [List.length_nil, List.length_singleton, Nat.zero_add] at HA1 ⊢; clear ho1 hg1 hl1)
      go_roundw
      case rel =>
        obtain ⟨ho1, hg1, hl1⟩ := HA1.out
        exact ⟨1, g2, c2, by omega, by go_num, rfl, ho1, Below.app HB1.out HO1.out hg1 hAW⟩
      case measure => simp [intOf]
    · have HF : Hid (Below w.heap.size w wr ∧ OwnI wr A (.slice (some ⟨g1, 0, none⟩) 1 c1) [(C : Int)]) := ⟨by rw [HA.out]; exact HB.out, HO.out⟩
      go_wp2
      go_ret2
      exact ⟨⟨g1, c1, rfl, HF.out.2⟩, HB.out⟩
end Go.Proofs.YtbocedlldaeanaaDoor

namespace Go.Proofs.YtbocedlldaeanaaDoor
open Go.RowKit
set_option linter.unusedVariables false
set_option linter.unusedSimpArgs false

theorem u64_mask (n : Nat) (h : n < 4294967296) : bits .and .u64 (n : Int) 4294967295 = (n : Int) := by
  have h1 := (bits_nat .u64 32 (by decide) (fun m h0 h1 => by rw [show IntKind.u64.wrap m = m % 18446744073709551616 by simp [IntKind.wrap, IntKind.bits, IntKind.signed]]; omega) n 4294967295 (by omega) (by decide)).1
  have h2 : ((4294967295 : Nat) : Int) = 4294967295 := rfl
  rw [h2] at h1
  rw [h1, show (4294967295 : Nat) = 2 ^ 32 - 1 by decide, Nat.and_two_pow_sub_one_eq_mod]
  rw [Nat.mod_eq_of_lt (by omega)]

/-- The first k places are -1. -/
def fillL (n k : Nat) : List Int := List.replicate k (-1) ++ List.replicate (n - k) 0
theorem fillL_length (n k : Nat) (h : k ≤ n) : (fillL n k).length = n := by simp [fillL]; omega
theorem fillL_splice (n k d : Nat) (h : k + d ≤ n) : splice ((fillL n k).map (Value.int .i64)) k ((List.replicate d (-1)).map (Value.int .i64)) = (fillL n (k + d)).map (Value.int .i64) := by
  unfold splice fillL
  rw [List.map_append, List.take_append_of_le_length (by simp), List.drop_append, ← List.map_take, List.take_of_length_le (by simp)]
  simp only [List.length_map, List.length_replicate]
  rw [List.drop_of_length_le (by simp), List.nil_append, show k + d - k = d by omega, ← List.map_drop, List.drop_replicate, ← List.map_append, ← List.map_append, ← List.append_assoc, List.replicate_append_replicate]
  rw [show n - k - d = n - (k + d) by omega]
theorem fillL_get (n k i : Nat) (hk : k ≤ n) (hi : i < k) : ((fillL n k).map (Value.int .i64))[i]? = some (.int .i64 (-1)) := by
  unfold fillL
  rw [List.getElem?_map, List.getElem?_append_left (by simpa using hi), List.getElem?_replicate]
  simp [hi]

/-- A row without spare room is its block. -/
theorem OwnI.full {w : World} {N g n : Nat} {xs : List Int} (h : OwnI w N (.slice (some ⟨g, 0, none⟩) n n) xs) (hl : xs.length = n) : w.heap[g]? = some (.cells (xs.map (Value.int .i64)).toArray 2 (0, 0)) := by
  subst hl
  rcases h.2 with ⟨h1, _⟩ | ⟨g', cap, cur, h1, _, hh, _, _, hcs, ht⟩
  · cases h1
  · simp at h1
    obtain ⟨rfl, rfl⟩ := h1
    rw [hh]
    congr 2
    rw [Nat.mul_one] at hcs ht
    apply Array.ext'
    rw [← ht, List.take_of_length_le (by rw [Array.length_toList, hcs]; exact Nat.le_refl _)]
theorem OwnI.of_block {w : World} {N g : Nat} {xs : List Int} (hh : w.heap[g]? = some (.cells (xs.map (Value.int .i64)).toArray 2 (0, 0))) (hN : N ≤ g) (hm : xs.length ≤ maxLen) : OwnI w N (.slice (some ⟨g, 0, none⟩) xs.length xs.length) xs :=
  ⟨by simp, .inr ⟨g, xs.length, _, rfl, hN, hh, Nat.le_refl _, hm, by simp, by rw [List.take_of_length_le (by simp)]⟩⟩
theorem made_replicate {w : World} {base g : Nat} {n : Nat} (h : w.ownsRow base 2 1 (.slice (some ⟨g, 0, none⟩) n n) n (madeCells (Value.int .i64 0).cells (n * 1)).toList) : OwnI w base (.slice (some ⟨g, 0, none⟩) n n) (List.replicate n 0) := by
  have e : (madeCells (Value.int .i64 0).cells (n * 1)).toList = (List.replicate n 0).map (Value.int .i64) := by
    rw [Nat.mul_one]; exact (toList_madeCells_one _ _).trans (by simp)
  rw [e] at h
  unfold OwnI
  rwa [List.length_replicate]

end Go.Proofs.YtbocedlldaeanaaDoor

namespace Go.Proofs.YtbocedlldaeanaaDoor
open Go.RowKit Go.Shelf
set_option linter.unusedVariables false
set_option linter.unusedSimpArgs false

/-- A slice's block that holds texts from its first cell on. -/
def TxW (w : World) (g : Nat) (ss : List ByteArray) : Prop := g < w.heap.size ∧ ∀ k (h : k < ss.length), w.cell? ⟨g, k, none⟩ = some (.string ss[k])
theorem TxW.below {w w' : World} {g N : Nat} {ss : List ByteArray} (h : TxW w g ss) (hb : Below N w w') (hN : g < N) : TxW w' g ss :=
  ⟨Nat.lt_of_lt_of_le h.1 hb.size, fun k hk => (hb.cell (p := ⟨g, k, none⟩) hN).trans (h.2 k hk)⟩
theorem OwnT.txw {w : World} {B g n c : Nat} {ss : List ByteArray} (h : OwnT w B (.slice (some ⟨g, 0, none⟩) n c) ss) (hn : n = ss.length) : TxW w g ss := by
  subst hn
  refine ⟨(h.lt g rfl).2, fun k hk => ?_⟩
  have h' : w.ownsRow B 9 1 (.slice (some ⟨g, 0, none⟩) ss.length c) ss.length (ss.map Value.string) := h
  rw [h'.cellAt k (by omega), List.getElem?_map, List.getElem?_eq_getElem hk]; rfl
theorem OwnI.made0 (w : World) (B n : Nat) (hB : B ≤ w.heap.size) (hn : n ≤ 1000000) : OwnI (w.alloc (.cells (madeCells #[.int .i64 0] n) 2)) B (.slice (some ⟨w.heap.size, 0, none⟩) n n) (List.replicate n 0) := by
  have e : madeCells #[.int .i64 0] n = ((List.replicate n (0 : Int)).map (Value.int .i64)).toArray := by
    apply Array.toList_inj.1
    exact (toList_madeCells_one _ _).trans (by simp)
  have h := OwnI.of_block (w := w.alloc (.cells (madeCells #[.int .i64 0] n) 2)) (N := B) (g := w.heap.size) (xs := List.replicate n 0) (by rw [e]; exact World.alloc_heap_new w _) hB (by rw [List.length_replicate]; unfold maxLen; omega)
  rwa [List.length_replicate] at h
/-- The row of covers, of the first k texts, and of the next one in the first j slots. -/
def cvN (ss : List ByteArray) (cs : List Int) (n k j : Nat) : List Int := (List.range n).map fun i => if i < j then covL (ss.take (k + 1)) (cs.take (k + 1)) i else covL (ss.take k) (cs.take k) i
theorem cvN_len (ss : List ByteArray) (cs : List Int) (n k j : Nat) : (cvN ss cs n k j).length = n := by unfold cvN; simp
theorem cvN_at {ss : List ByteArray} {cs : List Int} {n k j i : Nat} (hi : i < n) : nth (cvN ss cs n k j) i = if i < j then covL (ss.take (k + 1)) (cs.take (k + 1)) i else covL (ss.take k) (cs.take k) i := by
  rw [nth_eq (by rw [cvN_len]; exact hi)]
  unfold cvN
  rw [List.getElem_map, List.getElem_range]
theorem nth_ext {xs ys : List Int} (hl : xs.length = ys.length) (h : ∀ i, i < xs.length → nth xs i = nth ys i) : xs = ys := by
  refine List.ext_getElem hl fun i h1 h2 => ?_
  have := h i h1
  rwa [nth_eq h1, nth_eq h2] at this
theorem cvN_next (ss : List ByteArray) (cs : List Int) (n k : Nat) : cvN ss cs n k n = cvN ss cs n (k + 1) 0 := by
  refine nth_ext (by rw [cvN_len, cvN_len]) fun i hi => ?_
  rw [cvN_len] at hi
  rw [cvN_at hi, cvN_at hi, if_pos hi, if_neg (by omega)]
theorem cov_step {ss : List ByteArray} {cs : List Int} {k : Nat} (hk : k < ss.length) (hl : cs.length = ss.length) (j : Nat) : covL (ss.take (k + 1)) (cs.take (k + 1)) j = covL (ss.take k) (cs.take k) j + (if isW ss[k] j then nth cs k else 0) := by
  rw [List.take_succ_eq_append_getElem hk, List.take_succ_eq_append_getElem (show k < cs.length by omega), covL_snoc _ _ _ _ _ (by rw [List.length_take, List.length_take]; omega), nth_eq (by omega)]
theorem cvN_set {ss : List ByteArray} {cs : List Int} {n k j : Nat} (hj : j < n) : (cvN ss cs n k j).set j (covL (ss.take (k + 1)) (cs.take (k + 1)) j) = cvN ss cs n k (j + 1) := by
  refine nth_ext (by rw [List.length_set, cvN_len, cvN_len]) fun i hi => ?_
  rw [List.length_set, cvN_len] at hi
  rw [cvN_at hi]
  by_cases hij : i = j
  · subst hij
    rw [nth_eq (by rw [List.length_set, cvN_len]; exact hi), List.getElem_set_self, if_pos (by omega)]
  · rw [nth_eq (by rw [List.length_set, cvN_len]; exact hi), List.getElem_set_ne (by omega), ← nth_eq, cvN_at hi]
    by_cases h1 : i < j
    · rw [if_pos h1, if_pos (by omega)]
    · rw [if_neg h1, if_neg (by omega)]
theorem cvN_same {ss : List ByteArray} {cs : List Int} {n k j : Nat} (h : covL (ss.take (k + 1)) (cs.take (k + 1)) j = covL (ss.take k) (cs.take k) j) : cvN ss cs n k j = cvN ss cs n k (j + 1) := by
  refine nth_ext (by rw [cvN_len, cvN_len]) fun i hi => ?_
  rw [cvN_len] at hi
  rw [cvN_at hi, cvN_at hi]
  by_cases hij : i = j
  · subst hij; rw [if_neg (by omega), if_pos (by omega), h]
  · by_cases h1 : i < j
    · rw [if_pos h1, if_pos (by omega)]
    · rw [if_neg h1, if_neg (by omega)]
theorem cvN_zero (ss : List ByteArray) (cs : List Int) (n : Nat) : cvN ss cs n 0 0 = List.replicate n 0 := by
  refine nth_ext (by rw [cvN_len, List.length_replicate]) fun i hi => ?_
  rw [cvN_len] at hi
  rw [cvN_at hi, if_neg (by omega), nth_eq (by rw [List.length_replicate]; exact hi), List.getElem_replicate]
  simp [covL]
/-- What the outer loop knows. -/
def CvO (ss : List ByteArray) (cs : List Int) (n gR B A : Nat) (w : World) (vk : Value) (wr : World) : Prop :=
  ∃ k : Nat, k ≤ ss.length ∧ vk = .int .i64 k ∧ OwnI wr B (.slice (some ⟨gR, 0, none⟩) n n) (cvN ss cs n k 0) ∧ Below A w wr
def CvJ (ss : List ByteArray) (cs : List Int) (n gR B A k : Nat) (w : World) (vj : Value) (wr : World) : Prop :=
  ∃ j : Nat, j ≤ n ∧ vj = .int .i64 j ∧ OwnI wr B (.slice (some ⟨gR, 0, none⟩) n n) (cvN ss cs n k j) ∧ Below A w wr
set_option maxRecDepth 100000 in
set_option maxHeartbeats 1000000 in
theorem CoverOf_any (gs cs0 gc cc L n : Nat) (ss : List ByteArray) (cs : List Int) (w : World) (hss : TxW w gs ss) (hL : L = ss.length) (h1 : 1 ≤ L) (h64 : L ≤ 64) (hcs : Ints w (.slice (some ⟨gc, 0, none⟩) L cc) cs) (hcl : cs.length = ss.length)
    (hn1 : 1 ≤ n) (hn24 : n ≤ 24) (hsz : ∀ k (h : k < ss.length), ss[k].size = n ∧ ss[k].data.toList.all isDW = true) (hc : ∀ c ∈ cs, 0 ≤ c ∧ c ≤ 1000) :
    Calls Tryd.prog 16 #[.slice (some ⟨gs, 0, none⟩) L cs0, .slice (some ⟨gc, 0, none⟩) L cc] w fun e w' => (∃ g c, e = .returned (.tuple #[.slice (some ⟨g, 0, none⟩) n c, .bool true]) ∧ OwnI w' w.heap.size (.slice (some ⟨g, 0, none⟩) n c) (cvN ss cs n ss.length 0)) ∧ Below w.heap.size w w' := by
  have HAM : Hid (Calls Tryd.prog 27 #[.slice (some ⟨gc, 0, none⟩) L cc, .int .i64 L, .int .i64 L, .int .i64 0, .int .i64 1000] w fun e w' => e = .returned (.bool true) ∧ w = w') := by
    have h := areMany_any (.slice (some ⟨gc, 0, none⟩) L cc) cs L L 0 1000 w hcs
    have e1 : many cs L L 0 1000 = true := by
      rw [many_true]
      refine ⟨by omega, by omega, ?_⟩
      rw [List.all_eq_true]
      intro x hx
      have := hc x hx
      unfold win
      simp; omega
    rw [e1] at h
    exact h
  have HWN : Hid (∀ W, Calls Tryd.prog 21 #[.int .i64 n, .int .i64 1, .int .i64 24] W fun e w' => e = .returned (.bool true) ∧ W = w') := fun W => by
    have h := within_any n 1 24 W
    have e1 : win n 1 24 = true := by unfold win; simp; omega
    rwa [e1] at h
  have HSS := Lib.hid hss
  have HLL := Lib.hid hL
  have HSZ := Lib.hid hsz
  have HCE : Hid (∀ k, k < cs.length → w.cell? ⟨gc, k, none⟩ = some (.int .i64 (nth cs k)) ∧ gc < w.heap.size) := by
    obtain ⟨_, a, c, hv, _, hcells⟩ := hcs
    obtain ⟨hva, _, _⟩ : a = some ⟨gc, 0, none⟩ ∧ L = cs.length ∧ cc = c := by
      injection hv with e1 e2 e3
      exact ⟨e1.symm, e2, e3⟩
    subst hva
    intro k hk
    obtain ⟨b, o, ha, hbs, hcs2⟩ := row_at hcells
    have ha := ha (by omega)
    injection ha with ha
    injection ha with ha1 ha2
    subst ha1 ha2
    have := hcs2 k hk
    rw [Nat.zero_add] at this
    rw [nth_eq hk]
    exact ⟨this, hbs (by omega)⟩
  have c0 := hss.2 0 (by omega)
  have hs0 := (hsz 0 (by omega)).1
  have HWK : Hid (∀ k (h : k < ss.length) W, Calls Tryd.prog 30 #[.string ss[k]] W fun e w' => e = .returned (.bool true) ∧ Below W.heap.size W w') := fun k h W => by
    have h1 := isWork_any ss[k] W (by have := (hsz k h).1; omega)
    rwa [(hsz k h).2] at h1
  have HST : Hid (∀ k (h : k < ss.length) j, covL (ss.take (k + 1)) (cs.take (k + 1)) j = covL (ss.take k) (cs.take k) j + (if isW ss[k] j then nth cs k else 0)) := fun k h j => cov_step h hcl j
  have HBD : Hid (∀ k j, 0 ≤ covL (ss.take k) (cs.take k) j ∧ covL (ss.take k) (cs.take k) j ≤ 64000) := fun k j => by
    have := covL_bound (ss.take k) (cs.take k) j (fun c h => hc c (List.mem_of_mem_take h))
    have h2 : (ss.take k).length ≤ 64 := by rw [List.length_take]; omega
    omega
  have HCL := Lib.hid hcl
  have HCB : Hid (∀ k, k < cs.length → 0 ≤ nth cs k ∧ nth cs k ≤ 1000) := fun k h => by rw [nth_eq h]; exact hc _ (List.getElem_mem h)
  have hmk := run_make_row' (P := Tryd.prog) 33 2 (.int .i64 0) 8 Tryd.underlying33 (by kernel_rfl) rfl .i64 .i64 n (by omega) (by omega)
  obtain ⟨A, hA⟩ : ∃ A, w.heap.size = A := ⟨_, rfl⟩
  have HA := Lib.hid hA
  have HM := Lib.hid (OwnI.made0 w A n (by omega) (by omega))
  have HB0 : Hid (Below A w (w.alloc (.cells (madeCells #[.int .i64 0] n) 2))) := (Below.refl _ w).alloc (by omega) _
  have HCZ : Hid (cvN ss cs n 0 0 = List.replicate n 0) := cvN_zero ss cs n
  have i1 : ¬ (L : Int) < 1 := by omega
  have i2 : ¬ (L : Int) > 64 := by omega
  have i3 : (0 : Int) < (L : Int) := by omega
  generalize hs00 : ss[0]'(by omega) = S0 at c0 hs0
  clear hs00 hss hL hsz hcs hcl hc hA
  go_enter Tryd.func16, Tryd.ntmps16
  go_wp2_with fail
  refine HAM.out.mono ?_
  rintro e w1 ⟨rfl, rfl⟩
  clear HAM
  go_wp2_with fail
  refine (HWN.out w).mono ?_
  rintro e w1 ⟨rfl, rfl⟩
  clear HWN
  obtain ⟨W0, hW0⟩ : ∃ W, w.alloc (.cells (madeCells #[.int .i64 0] n) 2) = W := ⟨_, rfl⟩
  rw [hW0] at HB0 HM
  obtain ⟨gR, hgR⟩ : ∃ g, w.heap.size = g := ⟨_, rfl⟩
  have HGR := Lib.hid hgR
  rw [hgR] at HM
  have HW0 := Lib.hid hW0
  have HR0 : Hid (CvO ss cs n gR A A w (.int .i64 0) W0) := ⟨0, Nat.zero_le _, rfl, by rw [HCZ.out]; exact HM.out, HB0.out⟩
  clear hW0 hgR HM HB0
  go_wp2
  simp only [HW0.out, HGR.out]
  clear hmk c0 HW0
  go_loopw [42] (fun vk wr => CvO ss cs n gR A A w vk wr) (fun vk _ => ss.length - (intOf vk).toNat)
  case atStart => exact HR0.out
  case round =>
    obtain ⟨k, hk, rfl, ho, hb⟩ := hrel
    have HO := Lib.hid ho
    have HB := Lib.hid hb
    clear ho hb HR0
    by_cases hlt : k < ss.length
    · have k0 : (0 : Int) ≤ (k : Int) := by omega
      have k1 : (k : Int) < (L : Int) := by have := HLL.out; omega
      have ck := (HSS.out.below HB.out (by have := HA.out; have := HSS.out.1; omega)).2 k hlt
      have HWK1 := Lib.hid (HWK.out k hlt wr)
      have HST1 := Lib.hid (HST.out k hlt)
      have hsS := (HSZ.out k hlt).1
      have HCK := Lib.hid (HCE.out k (by rw [HCL.out]; exact hlt))
      have HKB := Lib.hid (HCB.out k (by rw [HCL.out]; exact hlt))
      generalize hSS : ss[k] = S at ck HWK1 HST1 hsS
      clear hSS
      have q0 : ((S.size : Int) != (n : Int)) = false := by simp; omega
      go_wp2_with fail
      refine HWK1.out.mono ?_
      rintro e W1 ⟨rfl, hb1⟩
      have HA1 : wr.heap.size ≥ A := by have := HB.out.size; have := HA.out; omega
      have HJ0 : Hid (CvJ ss cs n gR A A k w (.int .i64 0) W1) := ⟨0, Nat.zero_le _, rfl, HO.out.below hb1 (Nat.le_refl _), HB.out.trans (hb1.mono HA1)⟩
      clear hb1 HWK1 ck HO HB
      go_wp2
      go_loopw [59] (fun vj wj => CvJ ss cs n gR A A k w vj wj) (fun vj _ => n - (intOf vj).toNat)
      case atStart => exact HJ0.out
      case round =>
        obtain ⟨j, hj, rfl, ho, hb⟩ := hrel
        have HO := Lib.hid ho
        have HB := Lib.hid hb
        clear ho hb HJ0
        by_cases hjn : j < n
        · have j0 : (0 : Int) ≤ (j : Int) := by omega
          have j1 : (j : Int) < (n : Int) := by omega
          have j2 : (j : Int) < (S.size : Int) := by omega
          have j3 : j < S.size := by omega
          have HW := Lib.hid (isW_at j3)
          have HSJ := Lib.hid (HST1.out j)
          by_cases h119 : S[j].toNat = 119
          · have q1 : ((S[j].toNat : Int) == 119) = true := by rw [beq_iff_eq]; omega
            have hw : isW S j = true := by rw [HW.out]; simp; omega
            obtain ⟨hc1, hf1, ho1, hg1⟩ := HO.out.store (cvN_len ss cs n k j).symm j (by rw [cvN_len]; exact hjn) (covL (ss.take (k + 1)) (cs.take (k + 1)) j)
            rw [← nth_eq, cvN_at hjn, if_neg (Nat.lt_irrefl _)] at hc1
            rw [cvN_set hjn] at ho1
            have HO1 := Lib.hid ho1
            have HB1 : Hid (Below A w (wr.setCell ⟨gR, j, none⟩ (.int .i64 (covL (ss.take (k + 1)) (cs.take (k + 1)) j)))) := HB.out.setCell (by have := HGR.out; have := HA.out; show A ≤ gR; omega) _
            have cc1 := (HB.out.cell (p := ⟨gc, k, none⟩) (by have := HA.out; have := HCK.out.2; show gc < A; omega)).trans HCK.out.1
            have HSUM : Hid (covL (ss.take (k + 1)) (cs.take (k + 1)) j = covL (ss.take k) (cs.take k) j + nth cs k) := by
              show _ = _
              rw [HSJ.out, hw, if_pos rfl]
            have hb1 := HBD.out k j
            have hb2 := HKB.out
            obtain ⟨X, hX⟩ : ∃ X, covL (ss.take k) (cs.take k) j = X := ⟨_, rfl⟩
            obtain ⟨Y, hY⟩ : ∃ Y, nth cs k = Y := ⟨_, rfl⟩
            rw [hX] at hc1 hb1 HSUM
            rw [hY] at cc1 hb2 HSUM
            rw [HSUM.out] at HO1 HB1
            have w1 : IntKind.i64.wrap (X + Y) = X + Y := IntWalk.i64_in _ (by omega)
            clear HSJ HW h119 hw hX hY ho1 hg1 HO HB
            go_wp2
            go_still_tail 10, (by kernel_rfl)
            go_wp2
            exact ⟨⟨j + 1, by omega, by go_num, World.ownsRow.drew HO1.out, HB1.out.drew⟩, by simp [intOf]; omega⟩
          · have q1 : ((S[j].toNat : Int) == 119) = false := by rw [beq_eq_false_iff_ne]; omega
            have hw : isW S j = false := by rw [HW.out]; simp; omega
            have HSM : Hid (cvN ss cs n k j = cvN ss cs n k (j + 1)) := cvN_same (by rw [HSJ.out, hw]; simp)
            rw [HSM.out] at HO
            clear HSJ HW h119 hw
            go_wp2
            go_roundw
            case rel => exact ⟨j + 1, by omega, by go_num, HO.out, HB.out⟩
            case measure => simp [intOf]; omega
        · obtain rfl : j = n := by omega
          have HNX : Hid (cvN ss cs j k j = cvN ss cs j (k + 1) 0) := cvN_next ss cs j k
          rw [HNX.out] at HO
          go_wp2
          go_roundw
          case rel => exact ⟨k + 1, by omega, by go_num, HO.out, HB.out⟩
          case measure => simp [intOf]; omega
    · obtain rfl : k = ss.length := by omega
      have k1 : ¬ (ss.length : Int) < (L : Int) := by have := HLL.out; omega
      have HF : Hid (OwnI wr w.heap.size (.slice (some ⟨gR, 0, none⟩) n n) (cvN ss cs n ss.length 0) ∧ Below w.heap.size w wr) := by
        rw [HA.out]; exact ⟨HO.out, HB.out⟩
      go_wp2
      go_ret2
      exact ⟨⟨gR, n, rfl, HF.out.1⟩, HF.out.2⟩
end Go.Proofs.YtbocedlldaeanaaDoor
