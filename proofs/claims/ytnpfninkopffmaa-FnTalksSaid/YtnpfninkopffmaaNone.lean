
/- none(n), by slices.Repeat and bits.Mul: n times -1. Conditions: n at most 2^20. -/
import Derived.Test.YtnpfninkopffmaaAppendStep
import Derived.Laws.CopyOwn
import Derived.Laws.BitsLemmas
import Derived.Deep.RegionLaw
import Derived.IntWalk
namespace Go.Proofs.Ytnpfninkopffmaa
open Go.RowKit
set_option linter.unusedVariables false
set_option linter.unusedSimpArgs false

theorem u64_mask (n : Nat) (h : n < 4294967296) : bits .and .u64 (n : Int) 4294967295 = (n : Int) := by
  have h1 := (bits_nat .u64 32 (by decide) (fun m h0 h1 => by rw [show IntKind.u64.wrap m = m % 18446744073709551616 by simp [IntKind.wrap, IntKind.bits, IntKind.signed]]; omega) n 4294967295 (by omega) (by decide)).1
  have h2 : ((4294967295 : Nat) : Int) = 4294967295 := rfl
  rw [h2] at h1
  rw [h1, show (4294967295 : Nat) = 2 ^ 32 - 1 by decide, Nat.and_two_pow_sub_one_eq_mod]
  rw [Nat.mod_eq_of_lt (by omega)]

set_option maxRecDepth 100000 in
theorem mul1_any (n : Nat) (h : n ≤ 1048576) (w : World) : Calls Try.prog 136 #[.int .u64 1, .int .u64 n] w fun e w' => e = .returned (.tuple #[.int .u64 0, .int .u64 n]) ∧ w = w' := by
  have h1 := u64_mask n (by omega)
  have h0 : (0 : Int) ≤ (n : Int) := by omega
  have h2 : (n : Int) ≤ 1048576 := by omega
  have h3 : (n : Int) / 4294967296 = 0 := by omega
  have k1 : bits .and .u64 1 4294967295 = 1 := by decide +kernel
  have k0 : bits .and .u64 0 4294967295 = 0 := by decide +kernel
  have hw : IntKind.u64.wrap (n : Int) = n := by rw [show IntKind.u64.wrap (n : Int) = (n : Int) % 18446744073709551616 by simp [IntKind.wrap, IntKind.bits, IntKind.signed]]; omega
  go_enter Try.func136, Try.ntmps136
  go_wp2
  go_ret2
  exact ⟨rfl, rfl⟩

/-- The first k places are -1. -/
def fillL (n k : Nat) : List Int := List.replicate k (-1) ++ List.replicate (n - k) 0
theorem fillL_length (n k : Nat) (h : k ≤ n) : (fillL n k).length = n := by simp [fillL]; omega
theorem fillL_splice (n k d : Nat) (h : k + d ≤ n) : splice ((fillL n k).map (Value.int .i64)) k ((List.replicate d (-1)).map (Value.int .i64)) = (fillL n (k + d)).map (Value.int .i64) := by
  unfold splice fillL
  rw [List.map_append, List.take_append_of_le_length (by simp), List.drop_append, ← List.map_take, List.take_of_length_le (by simp)]
  simp only [List.length_map, List.length_replicate]
  rw [List.drop_of_length_le (by simp), List.nil_append, show k + d - k = d by omega, ← List.map_drop, List.drop_replicate, ← List.map_append, ← List.map_append, ← List.append_assoc, List.replicate_append_replicate]
  rw [show n - k - d = n - (k + d) by omega]
theorem fillL_get (n k i : Nat) (hk : k ≤ n) (hi : i < k) : ((fillL n k).map (Value.int .i64))[i]? = some (.int .i64 (-1)) := by
  unfold fillL
  rw [List.getElem?_map, List.getElem?_append_left (by simpa using hi), List.getElem?_replicate]
  simp [hi]

/-- A row without spare room is its block. -/
theorem OwnI.full {w : World} {N g n : Nat} {xs : List Int} (h : OwnI w N (.slice (some ⟨g, 0, none⟩) n n) xs) (hl : xs.length = n) : w.heap[g]? = some (.cells (xs.map (Value.int .i64)).toArray 2 (0, 0)) := by
  subst hl
  rcases h.2 with ⟨h1, _⟩ | ⟨g', cap, cur, h1, _, hh, _, _, hcs, ht⟩
  · cases h1
  · simp at h1
    obtain ⟨rfl, rfl⟩ := h1
    rw [hh]
    congr 2
    rw [Nat.mul_one] at hcs ht
    apply Array.ext'
    rw [← ht, List.take_of_length_le (by rw [Array.length_toList, hcs]; exact Nat.le_refl _)]
theorem OwnI.of_block {w : World} {N g : Nat} {xs : List Int} (hh : w.heap[g]? = some (.cells (xs.map (Value.int .i64)).toArray 2 (0, 0))) (hN : N ≤ g) (hm : xs.length ≤ maxLen) : OwnI w N (.slice (some ⟨g, 0, none⟩) xs.length xs.length) xs :=
  ⟨by simp, .inr ⟨g, xs.length, _, rfl, hN, hh, Nat.le_refl _, hm, by simp, by rw [List.take_of_length_le (by simp)]⟩⟩
theorem made_replicate {w : World} {base g : Nat} {n : Nat} (h : w.ownsRow base 2 1 (.slice (some ⟨g, 0, none⟩) n n) n (madeCells (Value.int .i64 0).cells (n * 1)).toList) : OwnI w base (.slice (some ⟨g, 0, none⟩) n n) (List.replicate n 0) := by
  have e : (madeCells (Value.int .i64 0).cells (n * 1)).toList = (List.replicate n 0).map (Value.int .i64) := by
    rw [Nat.mul_one]; exact (toList_madeCells_one _ _).trans (by simp)
  rw [e] at h
  unfold OwnI
  rwa [List.length_replicate]

set_option maxRecDepth 100000 in
set_option maxHeartbeats 1000000 in
theorem repeat1_any (n b : Nat) (h1 : 1 ≤ n) (h : n ≤ 1048576) (w : World) (hx : w.cell? ⟨b, 0, none⟩ = some (.int .i64 (-1))) :
    Calls Try.prog 110 #[.slice (some ⟨b, 0, none⟩) 1 1, .int .i64 n] w fun e w' => (∃ g, e = .returned (.slice (some ⟨g, 0, none⟩) n n) ∧ OwnI w' w.heap.size (.slice (some ⟨g, 0, none⟩) n n) (List.replicate n (-1))) ∧ Below w.heap.size w w' := by
  obtain ⟨i0, hi, hz0, hz1, hz2⟩ := info_parts info_i64
  have hbw := lt_of_cell hx
  have hn0 : ¬ ((n : Int) < 0) := by omega
  have hn1 : ¬ ((n : Int) > 9223372036854775807) := by omega
  have hw : IntKind.u64.wrap (n : Int) = n := by rw [show IntKind.u64.wrap (n : Int) = (n : Int) % 18446744073709551616 by simp [IntKind.wrap, IntKind.bits, IntKind.signed]]; omega
  have hw2 : IntKind.i64.wrap (n : Int) = n := IntWalk.i64_in _ (by omega)
  have hsz : (Try.prog.info? 2).map (·.size) = some 1 := by kernel_rfl
  have HSZ := Lib.hid hsz
  have HX := Lib.hid hx
  have HN : Hid ([Value.int .i64 (-1)].length = Nat.min 1 n) := by show 1 = min 1 n; omega
  clear hsz
  go_enter Try.func110, Try.ntmps110
  go_wp2_with (first
    | (go_at_call 136; refine (mul1_any n h _).mono ?_; rintro e w' ⟨rfl, rfl⟩)
    | (at_make; refine wpList_make_full _ rfl _ _ 29 rfl w.heap.size 2 i0 (.int .i64 0) 1 Try.underlying29 hi hz0 hz1 _ _ _ _ n rfl rfl rfl rfl (by rw [hz2]; omega) (by unfold maxLen at *; omega) (Nat.le_refl _) ?_; intro w2 hown2 hgrow2; have hb2 : Below w.heap.size w w2 := (Below.refl _ _).grown hgrow2 (Nat.le_refl _) (fun k e => by cases e); have HG2 := Lib.hid (show w2.heap[w.heap.size]? = some (.cells ((fillL n 0).map (Value.int .i64)).toArray 2 (0, 0)) from (by have := (made_replicate hown2).full (by simp); simpa [fillL] using this)); have HB2 := Lib.hid hb2; clear hown2 hgrow2 hb2)
    | (with_reducible refine wpList_copy_splice rfl (.tmp 31) (.tmp 32) 29 29 rfl 2 Try.underlying29 HSZ.out (some ⟨w.heap.size, 0, none⟩) (some ⟨b, 0, none⟩) n n 1 1 rfl rfl w.heap.size 0 ((fillL n 0).map (Value.int .i64)) 2 HG2.out [.int .i64 (-1)] HN.out (fun _ => ⟨rfl, ⟨b, 0, none⟩, rfl, fun j v hj => (by cases j with | zero => (simp at hj; subst hj; rw [show (⟨b, 0, none⟩ : Addr).add 0 = ⟨b, 0, none⟩ by simp [Addr.add]]; exact (HB2.out.cell (p := ⟨b, 0, none⟩) hbw).trans HX.out) | succ j => (simp at hj))⟩) (by simp [fillL_length]; omega) (by simp [Value.oneCell']) w.heap.size w HB2.out (Nat.le_refl _) ?_; intro w3 hh3 hb3))
  have HH3 : Hid (w3.heap[w.heap.size]? = some (.cells ((fillL n 1).map (Value.int .i64)).toArray 2 (0, 0))) := by
    have h3 := hh3.out
    have h4 := fillL_splice n 0 1 (by omega)
    rw [show [Value.int .i64 (-1)] = (List.replicate 1 (-1)).map (Value.int .i64) from rfl, h4] at h3
    exact h3
  have HB3 := Lib.hid hb3
  clear hh3 hb3 HG2 HB2
  go_loopw [8] (fun v wr => ∃ k : Nat, 1 ≤ k ∧ k ≤ n ∧ v = .int .i64 k ∧ Hid (wr.heap[w.heap.size]? = some (.cells ((fillL n k).map (Value.int .i64)).toArray 2 (0, 0))) ∧ Below w.heap.size w wr) (fun v _ => n - (intOf v).toNat)
  case atStart => exact ⟨1, by omega, h1, rfl, HH3.out, HB3.out⟩
  case round =>
    obtain ⟨k, hk1, hkn, rfl, hh, hb⟩ := hrel
    have HB := Lib.hid hb
    clear hb HH3 HB3
    by_cases hlt : k < n
    · obtain ⟨d, hd⟩ : ∃ d, Nat.min k (n - k) = d := ⟨_, rfl⟩
      have hd1 : 1 ≤ d ∧ d ≤ k ∧ k + d ≤ n := by rw [← hd]; simp only [Nat.min_def]; split <;> omega
      obtain ⟨d1, d2, d3⟩ := hd1
      have HD : Hid (((List.replicate d (-1)).map (Value.int .i64)).length = Nat.min k (n - k)) := by show _ = _; rw [hd]; simp
      have HSP := Lib.hid (fillL_splice n k d d3)
      have hdl : ((List.replicate d (-1)).map (Value.int .i64)).length = d := by simp
      have k0 : (0 : Int) ≤ (k : Int) := by omega
      have k1 : (k : Int) ≤ (n : Int) := by omega
      have k2 : ¬ n = k := by omega
      have HFL := Lib.hid (fillL_length n k hkn)
      have HDL := Lib.hid hdl
      have HDD := Lib.hid hd
      clear hd hdl
      obtain ⟨cur, hcur⟩ : ∃ cur, (fillL n k).map (Value.int .i64) = cur := ⟨_, rfl⟩
      obtain ⟨cs, hcs⟩ : ∃ cs, (List.replicate d (-1)).map (Value.int .i64) = cs := ⟨_, rfl⟩
      have HSRC : Hid (∀ j v, cs[j]? = some v → wr.cell? ⟨w.heap.size, j, none⟩ = some v) := fun j v hj => by
        rw [← hcs] at hj
        have hjd : j < d := by
          have := (List.getElem?_eq_some_iff.1 hj).1; simpa using this
        rw [cell_of_row wr w.heap.size j _ _ (0, 0) hh.out, List.getElem?_toArray, fillL_get n k j hkn (by omega)]
        simp [hjd] at hj
        rw [← hj]
      have HCUR := Lib.hid hcur
      have HCS := Lib.hid hcs
      have HHH : Hid (wr.heap[w.heap.size]? = some (.cells cur.toArray 2 (0, 0))) := by have := hh.out; rw [hcur] at this; exact this
      have HLEN : Hid (cs.length = d ∧ cur.length = n) := ⟨by rw [← hcs]; exact HDL.out, by rw [← hcur, List.length_map]; exact HFL.out⟩
      rw [hcs] at HD HSP
      rw [hcur] at HSP
      clear hcur hcs hh
      have hcl : cs.length = d := HLEN.out.1
      have q1 : IntKind.i64.wrap ((k : Int) + (d : Int)) = (k : Int) + (d : Int) := IntWalk.i64_in _ (by omega)
      go_wp2
      go_region_held3 (fun _ => True) (trivial)
        ((refine step_copy_splice (by rfl) (.tmp 41) (.tmp 44) 29 29 (by rfl) 2 Try.underlying29 HSZ.out (some ⟨w.heap.size, k, none⟩) (some ⟨w.heap.size, 0, none⟩) (n - k) (n - k) k n (by rfl) (by rfl) w.heap.size k cur 2 HHH.out cs HD.out (fun _ => ⟨rfl, ⟨w.heap.size, 0, none⟩, rfl, fun j v hj => by have hadd : (⟨w.heap.size, 0, none⟩ : Addr).add j = ⟨w.heap.size, j, none⟩ := (by unfold Addr.add; split <;> simp_all); rw [hadd]; exact HSRC.out j v hj⟩) (by rw [HLEN.out.1, HLEN.out.2]; exact d3) (by rw [← HCS.out]; simp [Value.oneCell']) w.heap.size w ((HB.out).drew) (Nat.le_refl _) ?_; intro w4 hh4 hb4))
      have HH4 : Hid (w4.heap[w.heap.size]? = some (.cells ((fillL n (k + d)).map (Value.int .i64)).toArray 2 (0, 0))) := by
        have h4 := hh4.out; rw [HSP.out] at h4; exact h4
      clear hh4 q1
      go_wp2
      go_roundw
      case rel => exact ⟨k + d, by omega, by omega, by go_num, HH4.out, hb4⟩
      case measure => simp [intOf]; omega
    · obtain rfl : k = n := by omega
      have HO : Hid (OwnI wr w.heap.size (.slice (some ⟨w.heap.size, 0, none⟩) k k) (List.replicate k (-1))) := by
        have h3 := hh.out
        rw [show fillL k k = List.replicate k (-1) by simp [fillL]] at h3
        have h4 := OwnI.of_block h3 (Nat.le_refl _) (by unfold maxLen; simp; omega)
        rw [List.length_replicate] at h4
        exact h4
      clear hh hlt
      go_wp2
      go_ret
      exact ⟨⟨_, rfl, HO.out⟩, HB.out⟩

theorem none_any (n : Nat) (w : World) (h : 1 ≤ n) (h2 : n ≤ 1048576) : Calls Try.prog 66 #[.int .i64 n] w fun e w' => (∃ g, e = .returned (.slice (some ⟨g, 0, none⟩) n n) ∧ OwnI w' w.heap.size (.slice (some ⟨g, 0, none⟩) n n) (List.replicate n (-1))) ∧ Below w.heap.size w w' := by
  have hr := repeat1_any n w.heap.size h h2 (w.alloc (.cells #[.int .i64 (-1)] 2)) (by simp)
  have HR := Lib.hid hr
  clear hr
  go_enter Try.func66, Try.ntmps66
  go_wp2_with (go_at_call 110; refine HR.out.mono ?_; rintro e w' ⟨⟨g, rfl, ho⟩, hb⟩)
  go_ret
  exact ⟨⟨g, rfl, ho.mono (by simp)⟩, ((Below.refl _ w).alloc (Nat.le_refl _) _).trans (hb.mono (by simp))⟩
end Go.Proofs.Ytnpfninkopffmaa
