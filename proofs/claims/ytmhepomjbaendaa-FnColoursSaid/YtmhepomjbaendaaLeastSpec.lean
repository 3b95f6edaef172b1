
/- l07Colour: the first colouring, with colours that nobody has yet alike; LeastColours of the reference. Conditions: valid clashes. -/
import Derived.Test.YtmhepomjbaendaaLeastP
import Derived.Test.YtmhepomjbaendaaConcat
import Derived.Test.YtmhepomjbaendaaRoundsSpec
namespace Go.Proofs.Ytmhepomjbaendaa
open Go.RowKit Go.Shelf Go.BigFrame
set_option linter.unusedVariables false
set_option linter.unusedSimpArgs false
attribute [local go_sem] Oper.semAt_some

def LcP (B t : Nat) (o : Option (List Int)) (e : Ending) (W' : World) : Prop := match o with
  | none => e = .returned (.tuple #[.slice none 0 0, .bool false])
  | some L => ∃ g c, e = .returned (.tuple #[.slice (some ⟨g, 0, none⟩) t c, .bool true]) ∧ OwnI W' B (.slice (some ⟨g, 0, none⟩) t c) L
theorem LcP.no {B t : Nat} {e : Ending} {W : World} (h : LcP B t none e W) : e = .returned (.tuple #[.slice none 0 0, .bool false]) := h
theorem LcP.so {B t : Nat} {e : Ending} {W : World} {L : List Int} (h : LcP B t (some L) e W) : ∃ g c, e = .returned (.tuple #[.slice (some ⟨g, 0, none⟩) t c, .bool true]) ∧ OwnI W B (.slice (some ⟨g, 0, none⟩) t c) L := h

set_option maxRecDepth 100000 in
set_option maxHeartbeats 4000000 in
theorem l07Colour_any (t most B : Nat) (v : Value) (xs : List Int) (ht : t ≤ 12) (h4 : most ≤ 1000) (hev : xs.length % 2 = 0) (hl : xs.length ≤ 1000) : ∀ (d at' : Nat), at' + d = t → ∀ (W : World) (cs : List Int) (g c : Nat), Seg cs → Ints W v xs → OwnI W B (.slice (some ⟨g, 0, none⟩) at' c) cs → cs.length = at' → B ≤ W.heap.size →
    Calls Try.prog 129 #[.int .i64 t, v, .slice (some ⟨g, 0, none⟩) at' c, .int .i64 most] W fun e W' => LcP B t (firC xs most d cs) e W' ∧ Below W.heap.size W W' := by
  intro d
  induction d with
  | zero =>
    intro k hk W cs g c hsg hv ho hcl hBW
    obtain rfl : k = t := by omega
    have HO := Lib.hid ho
    have HF : Hid (firC xs most 0 cs = some cs) := rfl
    clear hv ho hcl hsg
    go_enter Try.func129, Try.ntmps129
    go_wp2
    go_ret2
    exact ⟨by rw [HF.out]; exact ⟨g, c, rfl, HO.out⟩, Below.refl _ _⟩
  | succ d ih =>
    intro k hk W cs g c hsg hv ho hcl hBW
    have hne : ((k : Int) == (t : Int)) = false := by simp; omega
    have HV := Lib.hid hv
    have HO := Lib.hid ho
    have HCL := Lib.hid hcl
    have HIH := Lib.hid ih
    have HSG := Lib.hid hsg
    have HBW := Lib.hid hBW
    have HCALL : Hid (∀ W2 (p q : Int), Below W.heap.size W W2 → Calls Try.prog 93 #[v, .int .i64 p, .int .i64 q] W2 fun e w' => e = .returned (.bool (clashB xs p q)) ∧ W2 = w') := fun W2 p q hb => l07Clash_any v xs p q W2 (hv.below hb (Nat.le_refl _)) hev (by omega)
    have k0 : (0 : Int) ≤ (k : Int) := by omega
    have k8 : k ≤ 12 := by omega
    clear hv ho hcl ih hev hl hsg hBW
    go_enter Try.func129, Try.ntmps129
    go_wp2
    go_loopw [11] (fun vi wr => ∃ m : Nat, m ≤ most ∧ vi = .int .i64 m ∧ Hid (firTo xs most d cs m = none) ∧ Hid (∀ y : Nat, y < m → (y : Int) ∈ cs) ∧ Below W.heap.size W wr) (fun vi _ => most - (intOf vi).toNat)
    case atStart => exact ⟨0, Nat.zero_le _, rfl, rfl, fun y hy => by omega, Below.refl _ _⟩
    case round =>
      obtain ⟨m, hm, rfl, hno, hin, hB⟩ := hrel
      obtain ⟨wr', rfl⟩ : ∃ wr' : World, wr' = wr := ⟨_, rfl⟩
      have HB := Lib.hid hB
      have hsize := hB.size
      have HOW := Lib.hid (HO.out.below hB (Nat.le_refl _))
      have HCELL : Hid (∀ j, j < k → wr'.cell? ⟨g, j, none⟩ = some (.int .i64 (nth cs j))) := fun j hj => HOW.out.at_ HCL.out.symm j (by rw [HCL.out]; exact hj)
      clear hB
      by_cases hlt : m < most
      · go_wp2
        go_loopw [12, 13] (fun vf vk wq => ∃ y : Nat, y ≤ k ∧ vk = .int .i64 y ∧ vf = .bool (!tkTo xs cs k (m : Int) y) ∧ wr' = wq) (fun _ vk _ => k - (intOf vk).toNat)
        case atStart => exact ⟨0, Nat.zero_le _, rfl, rfl, rfl⟩
        case round =>
          obtain ⟨y, hy, rfl, rfl, rfl⟩ := hrel
          by_cases hyk : y < k
          · have hnx := tkTo_succ xs cs k (m : Int) y
            have e1 := HCELL.out y hyk
            obtain ⟨p, hp⟩ : ∃ p, nth cs y = p := ⟨_, rfl⟩
            rw [hp] at e1 hnx
            obtain ⟨q, hq⟩ : ∃ q, tkTo xs cs k (m : Int) y = q := ⟨_, rfl⟩
            rw [hq] at hnx ⊢
            have y0 : (0 : Int) ≤ (y : Int) := by omega
            have y1 : (y : Int) < (k : Int) := by omega
            clear hp hq
            cases c0 : (p == (m : Int))
            · rw [c0, Bool.false_and, Bool.or_false] at hnx
              have HNX := Lib.hid hnx
              clear hnx
              go_wp2
              go_roundw
              case rel => exact ⟨y + 1, by omega, by go_num, by rw [HNX.out], trivial⟩
              case measure => simp [intOf]; omega
            · rw [c0, Bool.true_and] at hnx
              have hcall := HCALL.out wr' (k : Int) (y : Int) HB.out
              cases hcb : clashB xs (k : Int) (y : Int)
              · rw [hcb] at hnx hcall
                rw [Bool.or_false] at hnx
                have HNX := Lib.hid hnx
                have HC1 := Lib.hid hcall
                clear hnx hcall hcb
                go_wp2_with (go_at_call 93; refine HC1.out.mono ?_; rintro x w' ⟨rfl, rfl⟩)
                go_roundw
                case rel => exact ⟨y + 1, by omega, by go_num, by rw [HNX.out], trivial⟩
                case measure => simp [intOf]; omega
              · rw [hcb] at hnx hcall
                rw [Bool.or_true] at hnx
                have HNX := Lib.hid hnx
                have HC1 := Lib.hid hcall
                clear hnx hcall hcb
                go_wp2_with (go_at_call 93; refine HC1.out.mono ?_; rintro x w' ⟨rfl, rfl⟩)
                go_roundw
                case rel => exact ⟨y + 1, by omega, by go_num, by rw [HNX.out]; rfl, trivial⟩
                case measure => simp [intOf]; omega
          · obtain rfl : y = k := by omega
            have hnx := firTo_succ xs most d cs m
            rw [hno.out] at hnx
            have hfr : frC xs cs cs.length m = !tkTo xs cs y (m : Int) y := by unfold frC; rw [HCL.out]
            obtain ⟨q, hq⟩ : ∃ q, tkTo xs cs y (m : Int) y = q := ⟨_, rfl⟩
            rw [hq] at hfr ⊢
            cases q
            · rw [hfr] at hnx
              simp only [Option.isSome_none, Bool.false_eq_true, if_false, Bool.not_false, if_true] at hnx
              have HSEG : Hid (Seg (cs ++ [(m : Int)])) := HSG.out.snoc hin.out
              have HFR := Lib.hid hfr
              have HL0 : Hid (OwnI (wr'.alloc (.cells #[] 2)) wr'.heap.size (.slice (some ⟨wr'.heap.size, 0, none⟩) 0 0) []) := OwnI.lit wr' wr'.heap.size [] (Nat.le_refl _) (Nat.zero_le _)
              have HBA : Hid (Below wr'.heap.size wr' (wr'.alloc (.cells #[] 2))) := (Below.refl _ _).alloc (Nat.le_refl _) _
              have HSRC : Hid (∀ i (h : i < cs.length), (wr'.alloc (.cells #[] 2)).cell? ⟨g, 0 + i, none⟩ = some (.int .i64 cs[i])) := fun i h => by
                rw [Nat.zero_add]
                refine (HBA.out.cell (p := ⟨g, i, none⟩) (HOW.out.lt g rfl).2).trans ?_
                rw [HCELL.out i (by rw [← HCL.out]; exact h), nth_eq h]
              obtain ⟨R, hR⟩ : ∃ R, firC xs most d (cs ++ [(m : Int)]) = R := ⟨_, rfl⟩
              have HIH2 : Hid (∀ W5 g5 c5, Below W.heap.size W W5 → OwnI W5 B (.slice (some ⟨g5, 0, none⟩) (cs.length + 1) c5) (cs ++ [(m : Int)]) → Calls Try.prog 129 #[.int .i64 t, v, .slice (some ⟨g5, 0, none⟩) (cs.length + 1) c5, .int .i64 most] W5 fun e W' => LcP B t R e W' ∧ Below W5.heap.size W5 W') := fun W5 g5 c5 hb ho => by
                have h1 := HIH.out (y + 1) (by omega) W5 (cs ++ [(m : Int)]) g5 c5 HSEG.out (HV.out.below hb (Nat.le_refl _)) (by rw [HCL.out] at ho; exact ho) (by rw [List.length_append, HCL.out]; rfl) (by have := hb.size; have := HBW.out; omega)
                rw [hR] at h1
                rw [HCL.out]
                exact h1
              rw [hR] at hnx
              have HNX := Lib.hid hnx
              have HNO := Lib.hid hno.out
              have HIN := Lib.hid hin.out
              clear hq hfr hnx hR hyk hno hin
              cases R with
              | some L =>
                have HFIN := Lib.hid (firC_some (show m + 1 ≤ most by omega) HNX.out)
                go_wp2_with (first
                  | (at_builtin; refine wpList_append_any rfl _ _ rfl wr'.heap.size wr'.heap.size 0 0 [] cs rfl rfl g 0 y c HCL.out.symm rfl HSRC.out HL0.out (by simp) (by rw [HCL.out]; simp; omega) ?_; intro g3 c3 w3 ho3 hg3; have hb3 := Below.app HBA.out HL0.out hg3 (by simp); have ho3' : OwnI w3 wr'.heap.size (.slice (some ⟨g3, 0, none⟩) cs.length c3) cs := (by simpa using ho3); have hs3 := hb3.size; have HO3 := Lib.hid ho3'; have HB3 := Lib.hid hb3; clear ho3 ho3' hg3 hb3)
                  | (at_builtin; refine append_i64 rfl _ _ rfl wr'.heap.size (.slice (some ⟨g3, 0, none⟩) cs.length c3) cs [(m : Int)] (Nat.zero_lt_succ _) rfl _ rfl HO3.out hs3 (by rw [HCL.out]; simp; omega) ?_; intro g4 c4 w4 ho4 hg4; have hb4 := Below.app HB3.out HO3.out hg4 hs3; have HO4 := Lib.hid ho4; have HB4 := Lib.hid hb4; clear ho4 hg4 hb4)
                  | (go_at_call 129; refine (HIH2.out _ _ _ (HB.out.trans (HB4.out.mono hsize)) (HO4.out.mono (by have := HBW.out; omega))).mono ?_; rintro e w5 ⟨h5, hb5⟩; obtain ⟨g5, c5, rfl, ho5⟩ := h5.so; have HB5 := Lib.hid (HB4.out.trans (hb5.mono HB4.out.size)); have HO5 := Lib.hid ho5; clear hb5 h5 ho5))
                go_ret2
                exact ⟨by rw [HFIN.out]; exact ⟨g5, c5, rfl, HO5.out⟩, HB.out.trans (HB5.out.mono hsize)⟩
              | none =>
                have HHAS : Hid (∀ W5, Below W.heap.size W W5 → Calls Try.prog 134 #[.slice (some ⟨g, 0, none⟩) y c, .int .i64 m] W5 fun e w' => e = .returned (.bool (cs.any (· == (m : Int)))) ∧ W5 = w') := fun W5 hb => l00Has_any _ cs (m : Int) W5 (HO.out.ints.below hb (Nat.le_refl _))
                have hmem : cs.any (· == (m : Int)) = true ↔ (m : Int) ∈ cs := by simp
                cases hh : cs.any (· == (m : Int))
                · rw [hh] at HHAS hmem
                  have hnot : (m : Int) ∉ cs := fun h => by simpa using hmem.2 h
                  have HFIN := Lib.hid (firC_cut HSG.out hlt hnot HNX.out (by rw [HFR.out]; rfl))
                  clear hh hmem hnot
                  go_wp2_with (first
                    | (at_builtin; refine wpList_append_any rfl _ _ rfl wr'.heap.size wr'.heap.size 0 0 [] cs rfl rfl g 0 y c HCL.out.symm rfl HSRC.out HL0.out (by simp) (by rw [HCL.out]; simp; omega) ?_; intro g3 c3 w3 ho3 hg3; have hb3 := Below.app HBA.out HL0.out hg3 (by simp); have ho3' : OwnI w3 wr'.heap.size (.slice (some ⟨g3, 0, none⟩) cs.length c3) cs := (by simpa using ho3); have hs3 := hb3.size; have HO3 := Lib.hid ho3'; have HB3 := Lib.hid hb3; clear ho3 ho3' hg3 hb3)
                    | (at_builtin; refine append_i64 rfl _ _ rfl wr'.heap.size (.slice (some ⟨g3, 0, none⟩) cs.length c3) cs [(m : Int)] (Nat.zero_lt_succ _) rfl _ rfl HO3.out hs3 (by rw [HCL.out]; simp; omega) ?_; intro g4 c4 w4 ho4 hg4; have hb4 := Below.app HB3.out HO3.out hg4 hs3; have HO4 := Lib.hid ho4; have HB4 := Lib.hid hb4; clear ho4 hg4 hb4)
                    | (go_at_call 129; refine (HIH2.out _ _ _ (HB.out.trans (HB4.out.mono hsize)) (HO4.out.mono (by have := HBW.out; omega))).mono ?_; rintro e w5 ⟨h5, hb5⟩; obtain rfl := h5.no; have HB5 := Lib.hid (HB4.out.trans (hb5.mono HB4.out.size)); clear hb5 h5)
                    | (go_at_call 134; refine (HHAS.out _ (HB.out.trans (HB5.out.mono hsize))).mono ?_; rintro x w' ⟨rfl, rfl⟩))
                  go_ret2
                  exact ⟨by rw [HFIN.out]; rfl, HB.out.trans (HB5.out.mono hsize)⟩
                · rw [hh] at HHAS hmem
                  have HMEM := Lib.hid (hmem.1 rfl)
                  clear hh hmem
                  go_wp2_with (first
                    | (at_builtin; refine wpList_append_any rfl _ _ rfl wr'.heap.size wr'.heap.size 0 0 [] cs rfl rfl g 0 y c HCL.out.symm rfl HSRC.out HL0.out (by simp) (by rw [HCL.out]; simp; omega) ?_; intro g3 c3 w3 ho3 hg3; have hb3 := Below.app HBA.out HL0.out hg3 (by simp); have ho3' : OwnI w3 wr'.heap.size (.slice (some ⟨g3, 0, none⟩) cs.length c3) cs := (by simpa using ho3); have hs3 := hb3.size; have HO3 := Lib.hid ho3'; have HB3 := Lib.hid hb3; clear ho3 ho3' hg3 hb3)
                    | (at_builtin; refine append_i64 rfl _ _ rfl wr'.heap.size (.slice (some ⟨g3, 0, none⟩) cs.length c3) cs [(m : Int)] (Nat.zero_lt_succ _) rfl _ rfl HO3.out hs3 (by rw [HCL.out]; simp; omega) ?_; intro g4 c4 w4 ho4 hg4; have hb4 := Below.app HB3.out HO3.out hg4 hs3; have HO4 := Lib.hid ho4; have HB4 := Lib.hid hb4; clear ho4 hg4 hb4)
                    | (go_at_call 129; refine (HIH2.out _ _ _ (HB.out.trans (HB4.out.mono hsize)) (HO4.out.mono (by have := HBW.out; omega))).mono ?_; rintro e w5 ⟨h5, hb5⟩; obtain rfl := h5.no; have HB5 := Lib.hid (HB4.out.trans (hb5.mono HB4.out.size)); clear hb5 h5)
                    | (go_at_call 134; refine (HHAS.out _ (HB.out.trans (HB5.out.mono hsize))).mono ?_; rintro x w' ⟨rfl, rfl⟩))
                  go_roundw
                  case rel => exact ⟨m + 1, by omega, by go_num, HNX.out, fun z hz => by
                    rcases Nat.lt_succ_iff_lt_or_eq.1 hz with h | rfl
                    · exact HIN.out z h
                    · exact HMEM.out, HB.out.trans (HB5.out.mono hsize)⟩
                  case measure => simp [intOf]; omega
            · rw [hfr] at hnx
              simp only [Option.isSome_none, Bool.false_eq_true, if_false, Bool.not_true] at hnx
              have HNX := Lib.hid hnx
              have HMEM := Lib.hid (frC_mem (by rw [hfr]; rfl))
              have HIN := Lib.hid hin.out
              clear hq hnx hyk hfr hno hin
              go_wp2
              go_roundw
              case rel => exact ⟨m + 1, by omega, by go_num, HNX.out, fun z hz => by
                rcases Nat.lt_succ_iff_lt_or_eq.1 hz with h | rfl
                · exact HIN.out z h
                · exact HMEM.out, HB.out⟩
              case measure => simp [intOf]; omega
      · obtain rfl : m = most := by omega
        have hfin : firC xs m (d + 1) cs = firTo xs m d cs m := rfl
        rw [hno.out] at hfin
        have HFIN := Lib.hid hfin
        clear hfin hlt hno hin
        go_wp2
        go_ret2
        exact ⟨by rw [HFIN.out]; rfl, HB.out⟩
end Go.Proofs.Ytmhepomjbaendaa
