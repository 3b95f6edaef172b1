
/- TurnedGames, program and reference. Conditions: at most 2^20 numbers. -/
import Derived.Test.YtmhepomjbaendaaRoundsSpec
import Derived.Test.YtmhepomjbaendaaConcat
import Derived.IntWalk
namespace Go.Proofs.Ytmhepomjbaendaa
open Go.RowKit Go.Shelf Go.BigFrame
set_option linter.unusedVariables false
set_option linter.unusedSimpArgs false
attribute [local go_sem] Oper.semAt_some

def turnOk (n : Int) (xs : List Int) (r : Int) : Bool := roundsOk n xs && win r 0 ((xs.length : Int) / n - 1)
def turnL (n : Int) (xs : List Int) (r : Int) : List Int := if turnOk n xs r then xs.drop (r.toNat * n.toNat) ++ xs.take (r.toNat * n.toNat) else []
theorem turnL_no {n : Int} {xs : List Int} {r : Int} (h : turnOk n xs r = false) : turnL n xs r = [] := by unfold turnL; rw [h]; rfl
theorem turnL_yes {n : Int} {xs : List Int} {r : Int} (h : turnOk n xs r = true) : turnL n xs r = xs.drop (r.toNat * n.toNat) ++ xs.take (r.toNat * n.toNat) := by unfold turnL; rw [h]; rfl
theorem rounds_head {n : Int} {xs : List Int} (h : roundsOk n xs = true) : ∃ t R : Nat, n = t ∧ 2 ≤ t ∧ t ≤ 16 ∧ xs.length = R * t ∧ 1 ≤ R ∧ R ≤ 30 ∧ (xs.length : Int) / (t : Int) = R := by
  unfold roundsOk at h
  rw [Bool.and_eq_true, Bool.and_eq_true] at h
  obtain ⟨t, R, rfl, h1, h2, h3, hlen, hR1, hR2, hdiv, _⟩ := roundsHead_bounds h.1.1
  exact ⟨t, R, rfl, h1, h2, hlen, hR1, hR2, by rw [hlen, Int.natCast_mul]; exact Int.mul_ediv_cancel _ (by omega)⟩
theorem turnL_small (n : Int) (xs : List Int) (r : Int) : (turnL n xs r).length ≤ 1000 := by
  unfold turnL
  split
  · rename_i h
    unfold turnOk at h
    rw [Bool.and_eq_true] at h
    obtain ⟨t, R, _, _, h2, hlen, _, h3, _⟩ := rounds_head h.1
    have := Nat.mul_le_mul h3 h2
    rw [List.length_append, List.length_drop, List.length_take]; omega
  · simp

set_option maxHeartbeats 1000000 in
theorem implTurned_u (n : Int) (v : Value) (xs : List Int) (r : Int) (w : World) (hv : Ints w v xs) (hn : (Lit.int .i64 n).wf = true) (hr : (Lit.int .i64 r).wf = true) (hl : xs.length ≤ 1048576) :
    Calls Try.prog 14 #[.int .i64 n, v, .int .i64 r] w fun e w' => (∃ v', e = .returned (.tuple #[v', .bool (turnOk n xs r)]) ∧ OwnI w' w.heap.size v' (turnL n xs r)) ∧ Below w.heap.size w w' := by
  have hr1 := implRounds_any n v xs w hv hn hl
  cases hok : roundsOk n xs
  · have hb : turnOk n xs r = false := by unfold turnOk; rw [hok]; rfl
    rw [hok] at hr1
    rw [hb, turnL_no hb]
    have Hr := Lib.hid hr1
    clear hr1 hb hok hv
    go_enter Try.func14, Try.ntmps14
    go_wp2_with (go_at_call 18; refine Hr.out.mono ?_; rintro e w' ⟨rfl, hb⟩)
    go_ret2
    exact ⟨⟨_, rfl, own_nil _ _⟩, hb⟩
  · obtain ⟨t, R, rfl, ht1, ht2, hlen, hR1, hR2, hdiv⟩ := rounds_head hok
    have hRt := Nat.mul_le_mul hR2 ht2
    rw [hok] at hr1
    have hOK : turnOk (t : Int) xs r = win r 0 ((R : Int) - 1) := by unfold turnOk; rw [hok, hdiv]; simp
    have Hr := Lib.hid hr1
    have HOK := Lib.hid hOK
    have hne : ¬ (t : Int) = 0 := by omega
    clear hr1 hOK hok
    obtain ⟨hm, a, c, rfl, hcap, hc⟩ := hv
    obtain ⟨b, o, ha0, hbs, hcs⟩ := row_at hc
    have hpos : 0 < xs.length := by rw [hlen]; exact Nat.mul_pos (by omega) (by omega)
    obtain rfl := ha0 hpos
    have hbs := hbs hpos
    have HCS := Lib.hid hcs
    have hl480 : xs.length ≤ 480 := by omega
    clear ha0 hc hcs hm
    cases hw : win r 0 ((R : Int) - 1)
    · rw [hw] at HOK
      rw [HOK.out, turnL_no HOK.out]
      clear hlen
      go_enter Try.func14, Try.ntmps14
      go_wp2_with (first | (go_at_call 18; refine Hr.out.mono ?_; rintro e w' ⟨rfl, hb⟩) | (go_at_call 60; refine (within_any _ _ _ _).mono ?_; rintro e w' ⟨rfl, rfl⟩))
      go_ret2
      exact ⟨⟨_, rfl, own_nil _ _⟩, hb⟩
    · rw [hw] at HOK
      obtain ⟨hr0, hr2⟩ := win_true.1 hw
      obtain ⟨q, rfl⟩ : ∃ q : Nat, r = q := ⟨r.toNat, by omega⟩
      obtain ⟨k, hk⟩ : ∃ k, q * t = k := ⟨_, rfl⟩
      have hk' : (q : Int) * (t : Int) = (k : Int) := by rw [← hk, Int.natCast_mul]
      have hkl : k < xs.length := by rw [← hk, hlen]; exact Nat.mul_lt_mul_of_pos_right (by omega) (by omega)
      have hL := turnL_yes HOK.out
      rw [Int.toNat_natCast, Int.toNat_natCast, hk] at hL
      have HL := Lib.hid hL
      have hwr : IntKind.i64.wrap (k : Int) = k := IntWalk.i64_in _ (by omega)
      have k0 : (0 : Int) ≤ (k : Int) := by omega
      have k1 : (k : Int) ≤ (c : Int) := by omega
      have k2 : (k : Int) ≤ (xs.length : Int) := by omega
      have k3 : ¬ c = k := by omega
      have k4 : c - k ≠ 0 := by omega
      have hdl : (xs.drop k).length = xs.length - k := by simp
      have htl : (xs.take k).length = k := by simp; omega
      have HDL := Lib.hid hdl
      have HTL := Lib.hid htl
      clear hL hk hlen hdl htl
      go_enter Try.func14, Try.ntmps14
      go_wp2_with (first | (go_at_call 18; refine Hr.out.mono ?_; rintro e W1 ⟨rfl, hb1⟩; have HB1 := Lib.hid hb1; clear hb1) | (go_at_call 60; refine (within_any _ _ _ _).mono ?_; rintro e w' ⟨rfl, rfl⟩))
      have hws := HB1.out.size
      have HBA : Hid (Below w.heap.size w (W1.alloc (.cells #[.slice (some ⟨b, o + k, none⟩) (xs.length - k) (c - k), .slice (some ⟨b, o, none⟩) k c] 25)).drew) := (HB1.out.alloc hws _).drew
      have HD : Hid (∀ W, Below w.heap.size w W → ∀ i (h : i < (xs.drop k).length), W.cell? ⟨b, o + k + i, none⟩ = some (.int .i64 (xs.drop k)[i])) := fun W hW i h => by
        rw [hW.cell (p := ⟨b, o + k + i, none⟩) hbs, Nat.add_assoc, HCS.out (k + i) (by rw [HDL.out] at h; omega)]; simp
      have HT : Hid (∀ W, Below w.heap.size w W → ∀ i (h : i < (xs.take k).length), W.cell? ⟨b, o + i, none⟩ = some (.int .i64 (xs.take k)[i])) := fun W hW i h => by
        rw [hW.cell (p := ⟨b, o + i, none⟩) hbs, HCS.out i (by rw [HTL.out] at h; omega)]; simp
      have HCC : Hid (Calls Try.prog 61 #[.slice (some ⟨W1.heap.size, 0, none⟩) 2 2] (W1.alloc (.cells #[.slice (some ⟨b, o + k, none⟩) (xs.length - k) (c - k), .slice (some ⟨b, o, none⟩) k c] 25)).drew fun e w' => (∃ v, e = .returned v ∧ OwnI w' w.heap.size v (xs.drop k ++ xs.take k)) ∧ Below w.heap.size w w') := by
        have h := concat2_any W1.heap.size b (o + k) (c - k) b o c (xs.drop k) (xs.take k) (W1.alloc (.cells #[.slice (some ⟨b, o + k, none⟩) (xs.length - k) (c - k), .slice (some ⟨b, o, none⟩) k c] 25)).drew (by rw [HDL.out]; simp) (by rw [HTL.out]; simp) (by simp; omega) (by simp; omega) (HD.out _ HBA.out) (HT.out _ HBA.out) (by rw [HDL.out]; omega) (by rw [HDL.out]; omega) (by rw [HTL.out]; omega)
        refine h.mono ?_
        rintro e w' ⟨⟨v, rfl, ho⟩, hb⟩
        exact ⟨⟨v, rfl, ho.mono (by simp; omega)⟩, HBA.out.trans (hb.mono (by simp; omega))⟩
      go_region_held3 (fun _ => True) (trivial)
        ((go_at_call 61; refine HCC.out.mono ?_; rintro e w3 ⟨⟨v3, rfl, ho3⟩, hb3⟩; have HO3 := Lib.hid ho3; have HB3 := Lib.hid hb3; clear ho3 hb3))
      go_wp2
      go_ret2
      exact ⟨⟨_, ret_t2 rfl (val_bool HOK.out.symm), by rw [HL.out]; exact HO3.out⟩, HB3.out⟩
end Go.Proofs.Ytmhepomjbaendaa
