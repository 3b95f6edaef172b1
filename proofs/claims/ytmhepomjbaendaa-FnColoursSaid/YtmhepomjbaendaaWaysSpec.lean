
/- l07Ways: its contract. Conditions: valid clashes, at most 8 exams, at most 4 colours. -/
import Derived.Test.YtmhepomjbaendaaWays
import Derived.Test.YtmhepomjbaendaaConcat
namespace Go.Proofs.Ytmhepomjbaendaa
open Go.RowKit Go.Shelf Go.BigFrame
set_option linter.unusedVariables false
set_option linter.unusedSimpArgs false
attribute [local go_sem] Oper.semAt_some

set_option maxRecDepth 100000 in
set_option maxHeartbeats 4000000 in
theorem l07Ways_any (t most : Nat) (v : Value) (xs : List Int) (ht : t ≤ 8) (h4 : most ≤ 4) (hev : xs.length % 2 = 0) (hl : xs.length ≤ 64) : ∀ (d at' : Nat), at' + d = t → ∀ (W : World) (cs : List Int) (g c : Nat), Ints W v xs → OwnI W 0 (.slice (some ⟨g, 0, none⟩) at' c) cs → cs.length = at' →
    Calls Try.prog 101 #[.int .i64 t, v, .slice (some ⟨g, 0, none⟩) at' c, .int .i64 most] W fun e W' => e = .returned (.int .i64 (ways xs most d cs)) ∧ Below W.heap.size W W' := by
  intro d
  induction d with
  | zero =>
    intro k hk W cs g c hv ho hcl
    obtain rfl : k = t := by omega
    clear hv ho hcl
    go_enter Try.func101, Try.ntmps101
    go_wp2
    go_ret
    exact ⟨rfl, Below.refl _ _⟩
  | succ d ih =>
    intro k hk W cs g c hv ho hcl
    have hne : ((k : Int) == (t : Int)) = false := by simp; omega
    have HV := Lib.hid hv
    have HO := Lib.hid ho
    have HCL := Lib.hid hcl
    have HIH := Lib.hid ih
    have HCALL : Hid (∀ W2 (p q : Int), Below W.heap.size W W2 → Calls Try.prog 93 #[v, .int .i64 p, .int .i64 q] W2 fun e w' => e = .returned (.bool (clashB xs p q)) ∧ W2 = w') := fun W2 p q hb => l07Clash_any v xs p q W2 (hv.below hb (Nat.le_refl _)) hev (by omega)
    have hsm : Hid (∀ m, m ≤ most → waysTo xs most d cs m ≤ 65536) := fun m hm => waysTo_small xs most h4 (by omega) cs hm
    have k0 : (0 : Int) ≤ (k : Int) := by omega
    have k8 : k ≤ 8 := by omega
    clear hv ho hcl ih hev hl
    go_enter Try.func101, Try.ntmps101
    go_wp2
    go_loopw [10, 11] (fun vc vi wr => ∃ m : Nat, m ≤ most ∧ vi = .int .i64 m ∧ vc = .int .i64 (waysTo xs most d cs m) ∧ Below W.heap.size W wr) (fun _ vi _ => most - (intOf vi).toNat)
    case atStart => exact ⟨0, Nat.zero_le _, rfl, rfl, Below.refl _ _⟩
    case round =>
      obtain ⟨m, hm, rfl, rfl, hB⟩ := hrel
      obtain ⟨wr', rfl⟩ : ∃ wr' : World, wr' = wr := ⟨_, rfl⟩
      have HB := Lib.hid hB
      have hsize := hB.size
      have HOW := Lib.hid (HO.out.below hB (Nat.le_refl _))
      have HCELL : Hid (∀ j, j < k → wr'.cell? ⟨g, j, none⟩ = some (.int .i64 (nth cs j))) := fun j hj => HOW.out.at_ HCL.out.symm j (by rw [HCL.out]; exact hj)
      clear hB
      by_cases hlt : m < most
      · go_wp2
        go_loopw [12, 13] (fun vf vk wq => ∃ y : Nat, y ≤ k ∧ vk = .int .i64 y ∧ vf = .bool (!tkTo xs cs k (m : Int) y) ∧ wr' = wq) (fun _ vk _ => k - (intOf vk).toNat)
        case atStart => exact ⟨0, Nat.zero_le _, rfl, rfl, rfl⟩
        case round =>
          obtain ⟨y, hy, rfl, rfl, rfl⟩ := hrel
          by_cases hyk : y < k
          · have hnx := tkTo_succ xs cs k (m : Int) y
            have e1 := HCELL.out y hyk
            obtain ⟨p, hp⟩ : ∃ p, nth cs y = p := ⟨_, rfl⟩
            rw [hp] at e1 hnx
            obtain ⟨q, hq⟩ : ∃ q, tkTo xs cs k (m : Int) y = q := ⟨_, rfl⟩
            rw [hq] at hnx ⊢
            have y0 : (0 : Int) ≤ (y : Int) := by omega
            have y1 : (y : Int) < (k : Int) := by omega
            clear hp hq
            cases c0 : (p == (m : Int))
            · rw [c0, Bool.false_and, Bool.or_false] at hnx
              have HNX := Lib.hid hnx
              clear hnx
              go_wp2
              go_roundw
              case rel => exact ⟨y + 1, by omega, by go_num, by rw [HNX.out], trivial⟩
              case measure => simp [intOf]; omega
            · rw [c0, Bool.true_and] at hnx
              have hcall := HCALL.out wr' (k : Int) (y : Int) HB.out
              cases hcb : clashB xs (k : Int) (y : Int)
              · rw [hcb] at hnx hcall
                rw [Bool.or_false] at hnx
                have HNX := Lib.hid hnx
                have HC1 := Lib.hid hcall
                clear hnx hcall hcb
                go_wp2_with (go_at_call 93; refine HC1.out.mono ?_; rintro x w' ⟨rfl, rfl⟩)
                go_roundw
                case rel => exact ⟨y + 1, by omega, by go_num, by rw [HNX.out], trivial⟩
                case measure => simp [intOf]; omega
              · rw [hcb] at hnx hcall
                rw [Bool.or_true] at hnx
                have HNX := Lib.hid hnx
                have HC1 := Lib.hid hcall
                clear hnx hcall hcb
                go_wp2_with (go_at_call 93; refine HC1.out.mono ?_; rintro x w' ⟨rfl, rfl⟩)
                go_roundw
                case rel => exact ⟨y + 1, by omega, by go_num, by rw [HNX.out]; rfl, trivial⟩
                case measure => simp [intOf]; omega
          · obtain rfl : y = k := by omega
            have hfin := waysTo_succ xs most d cs m
            have hfr : frC xs cs cs.length m = !tkTo xs cs y (m : Int) y := by unfold frC; rw [HCL.out]
            rw [hfr] at hfin
            have hle := hsm.out m hm
            have hle2 := hsm.out (m + 1) hlt
            obtain ⟨q, hq⟩ : ∃ q, tkTo xs cs y (m : Int) y = q := ⟨_, rfl⟩
            rw [hq] at hfin ⊢
            obtain ⟨S, hS⟩ : ∃ S, waysTo xs most d cs m = S := ⟨_, rfl⟩
            rw [hS] at hfin hle ⊢
            cases q
            · simp only [Bool.not_false, if_true] at hfin
              rw [hfin] at hle2
              have HFIN := Lib.hid hfin
              obtain ⟨R, hR⟩ : ∃ R, ways xs most d (cs ++ [(m : Int)]) = R := ⟨_, rfl⟩
              rw [hR] at hle2
              have HIH2 : Hid (∀ W5 g5 c5, Below W.heap.size W W5 → OwnI W5 0 (.slice (some ⟨g5, 0, none⟩) (cs.length + 1) c5) (cs ++ [(m : Int)]) → Calls Try.prog 101 #[.int .i64 t, v, .slice (some ⟨g5, 0, none⟩) (cs.length + 1) c5, .int .i64 most] W5 fun e W' => e = .returned (.int .i64 R) ∧ Below W5.heap.size W5 W') := fun W5 g5 c5 hb ho => by
                have h1 := HIH.out (y + 1) (by omega) W5 (cs ++ [(m : Int)]) g5 c5 (HV.out.below hb (Nat.le_refl _)) (by rw [HCL.out] at ho; exact ho) (by rw [List.length_append, HCL.out]; rfl)
                rw [hR] at h1
                rw [HCL.out]
                exact h1
              have HL0 : Hid (OwnI (wr'.alloc (.cells #[] 2)) wr'.heap.size (.slice (some ⟨wr'.heap.size, 0, none⟩) 0 0) []) := OwnI.lit wr' wr'.heap.size [] (Nat.le_refl _) (Nat.zero_le _)
              have HBA : Hid (Below wr'.heap.size wr' (wr'.alloc (.cells #[] 2))) := (Below.refl _ _).alloc (Nat.le_refl _) _
              have HSRC : Hid (∀ i (h : i < cs.length), (wr'.alloc (.cells #[] 2)).cell? ⟨g, 0 + i, none⟩ = some (.int .i64 cs[i])) := fun i h => by
                rw [Nat.zero_add]
                refine (HBA.out.cell (p := ⟨g, i, none⟩) (HOW.out.lt g rfl).2).trans ?_
                rw [HCELL.out i (by rw [← HCL.out]; exact h), nth_eq h]
              have HRR := Lib.hid hR
              clear hq hS hfin hR hyk hfr
              go_wp2_with (first
                | (at_builtin; refine wpList_append_any rfl _ _ rfl wr'.heap.size wr'.heap.size 0 0 [] cs rfl rfl g 0 y c HCL.out.symm rfl HSRC.out HL0.out (by simp) (by rw [HCL.out]; simp; omega) ?_; intro g3 c3 w3 ho3 hg3; have hb3 := Below.app HBA.out HL0.out hg3 (by simp); have ho3' : OwnI w3 wr'.heap.size (.slice (some ⟨g3, 0, none⟩) cs.length c3) cs := (by simpa using ho3); have hs3 := hb3.size; have HO3 := Lib.hid ho3'; have HB3 := Lib.hid hb3; clear ho3 ho3' hg3 hb3)
                | (at_builtin; refine append_i64 rfl _ _ rfl wr'.heap.size (.slice (some ⟨g3, 0, none⟩) cs.length c3) cs [(m : Int)] (Nat.zero_lt_succ _) rfl _ rfl HO3.out hs3 (by rw [HCL.out]; simp; omega) ?_; intro g4 c4 w4 ho4 hg4; have hb4 := Below.app HB3.out HO3.out hg4 hs3; have HO4 := Lib.hid ho4; have HB4 := Lib.hid hb4; clear ho4 hg4 hb4)
                | (go_at_call 101; refine (HIH2.out _ _ _ (HB.out.trans (HB4.out.mono hsize)) (HO4.out.mono (Nat.zero_le _))).mono ?_; rintro e w5 ⟨rfl, hb5⟩; have HB5 := Lib.hid (HB4.out.trans (hb5.mono HB4.out.size)); clear hb5))
              go_roundw
              case rel => exact ⟨m + 1, by omega, by go_num, by rw [HFIN.out, HRR.out]; go_num, HB.out.trans (HB5.out.mono hsize)⟩
              case measure => simp [intOf]; omega
            · simp only [Bool.not_true, Bool.false_eq_true, if_false] at hfin
              have HFIN := Lib.hid hfin
              clear hq hS hfin hyk hfr
              go_wp2
              go_roundw
              case rel => exact ⟨m + 1, by omega, by go_num, by rw [HFIN.out], HB.out⟩
              case measure => simp [intOf]; omega
      · obtain rfl : m = most := by omega
        have hfin : ways xs m (d + 1) cs = waysTo xs m d cs m := rfl
        have HFIN := Lib.hid hfin
        clear hfin hlt
        go_wp2
        go_ret
        exact ⟨ret_int (by rw [HFIN.out]), HB.out⟩
end Go.Proofs.Ytmhepomjbaendaa
