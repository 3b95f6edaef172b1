/- spec.B10Tasks: tasks that the reference draws. Conditions: at most 7 tasks. With texts that it needs. -/
import Derived.Test.YtcjeededlhdcbaaCrewsAll6
import Derived.Laws.CopyOwn
import Derived.Laws.BitsLemmas
import Derived.Deep.RegionLaw
import Derived.IntWalk
import Derived.Test.YtcjeededlhdcbaaCrewsAll3
import Derived.Test.YtcjeededlhdcbaaCrewsAll9
import Derived.Test.YtcjeededlhdcbaaCrewsAll8
namespace Go.Proofs.Ytcjeededlhdcbaa
open Go.RowKit
set_option linter.unusedVariables false
set_option linter.unusedSimpArgs false

theorem u64_mask (n : Nat) (h : n < 4294967296) : bits .and .u64 (n : Int) 4294967295 = (n : Int) := by
  have h1 := (bits_nat .u64 32 (by decide) (fun m h0 h1 => by rw [show IntKind.u64.wrap m = m % 18446744073709551616 by simp [IntKind.wrap, IntKind.bits, IntKind.signed]]; omega) n 4294967295 (by omega) (by decide)).1
  have h2 : ((4294967295 : Nat) : Int) = 4294967295 := rfl
  rw [h2] at h1
  rw [h1, show (4294967295 : Nat) = 2 ^ 32 - 1 by decide, Nat.and_two_pow_sub_one_eq_mod]
  rw [Nat.mod_eq_of_lt (by omega)]

set_option maxRecDepth 100000 in
theorem mul1_any (n : Nat) (h : n ≤ 1048576) (w : World) : Calls Try.prog 166 #[.int .u64 1, .int .u64 n] w fun e w' => e = .returned (.tuple #[.int .u64 0, .int .u64 n]) ∧ w = w' := by
  have h1 := u64_mask n (by omega)
  have h0 : (0 : Int) ≤ (n : Int) := by omega
  have h2 : (n : Int) ≤ 1048576 := by omega
  have h3 : (n : Int) / 4294967296 = 0 := by omega
  have k1 : bits .and .u64 1 4294967295 = 1 := by decide +kernel
  have k0 : bits .and .u64 0 4294967295 = 0 := by decide +kernel
  have hw : IntKind.u64.wrap (n : Int) = n := by rw [show IntKind.u64.wrap (n : Int) = (n : Int) % 18446744073709551616 by simp [IntKind.wrap, IntKind.bits, IntKind.signed]]; omega
  go_enter Try.func166, Try.ntmps166
  go_wp2
  go_ret2
  exact ⟨rfl, rfl⟩

/-- The first k places are -1. -/
def fillL (n k : Nat) : List Int := List.replicate k (-1) ++ List.replicate (n - k) 0
theorem fillL_length (n k : Nat) (h : k ≤ n) : (fillL n k).length = n := by simp [fillL]; omega
theorem fillL_splice (n k d : Nat) (h : k + d ≤ n) : splice ((fillL n k).map (Value.int .i64)) k ((List.replicate d (-1)).map (Value.int .i64)) = (fillL n (k + d)).map (Value.int .i64) := by
  unfold splice fillL
  rw [List.map_append, List.take_append_of_le_length (by simp), List.drop_append, ← List.map_take, List.take_of_length_le (by simp)]
  simp only [List.length_map, List.length_replicate]
  rw [List.drop_of_length_le (by simp), List.nil_append, show k + d - k = d by omega, ← List.map_drop, List.drop_replicate, ← List.map_append, ← List.map_append, ← List.append_assoc, List.replicate_append_replicate]
  rw [show n - k - d = n - (k + d) by omega]
theorem fillL_get (n k i : Nat) (hk : k ≤ n) (hi : i < k) : ((fillL n k).map (Value.int .i64))[i]? = some (.int .i64 (-1)) := by
  unfold fillL
  rw [List.getElem?_map, List.getElem?_append_left (by simpa using hi), List.getElem?_replicate]
  simp [hi]

/-- A row without spare room is its block. -/
theorem OwnI.full {w : World} {N g n : Nat} {xs : List Int} (h : OwnI w N (.slice (some ⟨g, 0, none⟩) n n) xs) (hl : xs.length = n) : w.heap[g]? = some (.cells (xs.map (Value.int .i64)).toArray 2 (0, 0)) := by
  subst hl
  rcases h.2 with ⟨h1, _⟩ | ⟨g', cap, cur, h1, _, hh, _, _, hcs, ht⟩
  · cases h1
  · simp at h1
    obtain ⟨rfl, rfl⟩ := h1
    rw [hh]
    congr 2
    rw [Nat.mul_one] at hcs ht
    apply Array.ext'
    rw [← ht, List.take_of_length_le (by rw [Array.length_toList, hcs]; exact Nat.le_refl _)]
theorem OwnI.of_block {w : World} {N g : Nat} {xs : List Int} (hh : w.heap[g]? = some (.cells (xs.map (Value.int .i64)).toArray 2 (0, 0))) (hN : N ≤ g) (hm : xs.length ≤ maxLen) : OwnI w N (.slice (some ⟨g, 0, none⟩) xs.length xs.length) xs :=
  ⟨by simp, .inr ⟨g, xs.length, _, rfl, hN, hh, Nat.le_refl _, hm, by simp, by rw [List.take_of_length_le (by simp)]⟩⟩
theorem made_replicate {w : World} {base g : Nat} {n : Nat} (h : w.ownsRow base 2 1 (.slice (some ⟨g, 0, none⟩) n n) n (madeCells (Value.int .i64 0).cells (n * 1)).toList) : OwnI w base (.slice (some ⟨g, 0, none⟩) n n) (List.replicate n 0) := by
  have e : (madeCells (Value.int .i64 0).cells (n * 1)).toList = (List.replicate n 0).map (Value.int .i64) := by
    rw [Nat.mul_one]; exact (toList_madeCells_one _ _).trans (by simp)
  rw [e] at h
  unfold OwnI
  rwa [List.length_replicate]

set_option maxRecDepth 100000 in
set_option maxHeartbeats 1000000 in
theorem repeat1_any (n b : Nat) (h1 : 1 ≤ n) (h : n ≤ 1048576) (w : World) (hx : w.cell? ⟨b, 0, none⟩ = some (.int .i64 (-1))) :
    Calls Try.prog 151 #[.slice (some ⟨b, 0, none⟩) 1 1, .int .i64 n] w fun e w' => (∃ g, e = .returned (.slice (some ⟨g, 0, none⟩) n n) ∧ OwnI w' w.heap.size (.slice (some ⟨g, 0, none⟩) n n) (List.replicate n (-1))) ∧ Below w.heap.size w w' := by
  obtain ⟨i0, hi, hz0, hz1, hz2⟩ := info_parts info_i64
  have hbw := lt_of_cell hx
  have hn0 : ¬ ((n : Int) < 0) := by omega
  have hn1 : ¬ ((n : Int) > 9223372036854775807) := by omega
  have hw : IntKind.u64.wrap (n : Int) = n := by rw [show IntKind.u64.wrap (n : Int) = (n : Int) % 18446744073709551616 by simp [IntKind.wrap, IntKind.bits, IntKind.signed]]; omega
  have hw2 : IntKind.i64.wrap (n : Int) = n := IntWalk.i64_in _ (by omega)
  have hsz : (Try.prog.info? 2).map (·.size) = some 1 := by kernel_rfl
  have HSZ := Lib.hid hsz
  have HX := Lib.hid hx
  have HN : Hid ([Value.int .i64 (-1)].length = Nat.min 1 n) := by show 1 = min 1 n; omega
  clear hsz
  go_enter Try.func151, Try.ntmps151
  go_wp2_with (first
    | (go_at_call 166; refine (mul1_any n h _).mono ?_; rintro e w' ⟨rfl, rfl⟩)
    | (at_make; refine wpList_make_full _ rfl _ _ 27 rfl w.heap.size 2 i0 (.int .i64 0) 1 Try.underlying27 hi hz0 hz1 _ _ _ _ n rfl rfl rfl rfl (by rw [hz2]; omega) (by unfold maxLen at *; omega) (Nat.le_refl _) ?_; intro w2 hown2 hgrow2; have hb2 : Below w.heap.size w w2 := (Below.refl _ _).grown hgrow2 (Nat.le_refl _) (fun k e => by cases e); have HG2 := Lib.hid (show w2.heap[w.heap.size]? = some (.cells ((fillL n 0).map (Value.int .i64)).toArray 2 (0, 0)) from (by have := (made_replicate hown2).full (by simp); simpa [fillL] using this)); have HB2 := Lib.hid hb2; clear hown2 hgrow2 hb2)
    | (with_reducible refine wpList_copy_splice rfl (.tmp 31) (.tmp 32) 27 27 rfl 2 Try.underlying27 HSZ.out (some ⟨w.heap.size, 0, none⟩) (some ⟨b, 0, none⟩) n n 1 1 rfl rfl w.heap.size 0 ((fillL n 0).map (Value.int .i64)) 2 HG2.out [.int .i64 (-1)] HN.out (fun _ => ⟨rfl, ⟨b, 0, none⟩, rfl, fun j v hj => (by cases j with | zero => (simp at hj; subst hj; rw [show (⟨b, 0, none⟩ : Addr).add 0 = ⟨b, 0, none⟩ by simp [Addr.add]]; exact (HB2.out.cell (p := ⟨b, 0, none⟩) hbw).trans HX.out) | succ j => (simp at hj))⟩) (by simp [fillL_length]; omega) (by simp [Value.oneCell']) w.heap.size w HB2.out (Nat.le_refl _) ?_; intro w3 hh3 hb3))
  have HH3 : Hid (w3.heap[w.heap.size]? = some (.cells ((fillL n 1).map (Value.int .i64)).toArray 2 (0, 0))) := by
    have h3 := hh3.out
    have h4 := fillL_splice n 0 1 (by omega)
    rw [show [Value.int .i64 (-1)] = (List.replicate 1 (-1)).map (Value.int .i64) from rfl, h4] at h3
    exact h3
  have HB3 := Lib.hid hb3
  clear hh3 hb3 HG2 HB2
  go_loopw [8] (fun v wr => ∃ k : Nat, 1 ≤ k ∧ k ≤ n ∧ v = .int .i64 k ∧ Hid (wr.heap[w.heap.size]? = some (.cells ((fillL n k).map (Value.int .i64)).toArray 2 (0, 0))) ∧ Below w.heap.size w wr) (fun v _ => n - (intOf v).toNat)
  case atStart => exact ⟨1, by omega, h1, rfl, HH3.out, HB3.out⟩
  case round =>
    obtain ⟨k, hk1, hkn, rfl, hh, hb⟩ := hrel
    have HB := Lib.hid hb
    clear hb HH3 HB3
    by_cases hlt : k < n
    · obtain ⟨d, hd⟩ : ∃ d, Nat.min k (n - k) = d := ⟨_, rfl⟩
      have hd1 : 1 ≤ d ∧ d ≤ k ∧ k + d ≤ n := by rw [← hd]; simp only [Nat.min_def]; split <;> omega
      obtain ⟨d1, d2, d3⟩ := hd1
      have HD : Hid (((List.replicate d (-1)).map (Value.int .i64)).length = Nat.min k (n - k)) := by show _ = _; rw [hd]; simp
      have HSP := Lib.hid (fillL_splice n k d d3)
      have hdl : ((List.replicate d (-1)).map (Value.int .i64)).length = d := by simp
      have k0 : (0 : Int) ≤ (k : Int) := by omega
      have k1 : (k : Int) ≤ (n : Int) := by omega
      have k2 : ¬ n = k := by omega
      have HFL := Lib.hid (fillL_length n k hkn)
      have HDL := Lib.hid hdl
      have HDD := Lib.hid hd
      clear hd hdl
      obtain ⟨cur, hcur⟩ : ∃ cur, (fillL n k).map (Value.int .i64) = cur := ⟨_, rfl⟩
      obtain ⟨cs, hcs⟩ : ∃ cs, (List.replicate d (-1)).map (Value.int .i64) = cs := ⟨_, rfl⟩
      have HSRC : Hid (∀ j v, cs[j]? = some v → wr.cell? ⟨w.heap.size, j, none⟩ = some v) := fun j v hj => by
        rw [← hcs] at hj
        have hjd : j < d := by
          have := (List.getElem?_eq_some_iff.1 hj).1; simpa using this
        rw [cell_of_row wr w.heap.size j _ _ (0, 0) hh.out, List.getElem?_toArray, fillL_get n k j hkn (by omega)]
        simp [hjd] at hj
        rw [← hj]
      have HCUR := Lib.hid hcur
      have HCS := Lib.hid hcs
      have HHH : Hid (wr.heap[w.heap.size]? = some (.cells cur.toArray 2 (0, 0))) := by have := hh.out; rw [hcur] at this; exact this
      have HLEN : Hid (cs.length = d ∧ cur.length = n) := ⟨by rw [← hcs]; exact HDL.out, by rw [← hcur, List.length_map]; exact HFL.out⟩
      rw [hcs] at HD HSP
      rw [hcur] at HSP
      clear hcur hcs hh
      have hcl : cs.length = d := HLEN.out.1
      have q1 : IntKind.i64.wrap ((k : Int) + (d : Int)) = (k : Int) + (d : Int) := IntWalk.i64_in _ (by omega)
      go_wp2
      go_region_held3 (fun _ => True) (trivial)
        ((refine step_copy_splice (by rfl) (.tmp 41) (.tmp 44) 27 27 (by rfl) 2 Try.underlying27 HSZ.out (some ⟨w.heap.size, k, none⟩) (some ⟨w.heap.size, 0, none⟩) (n - k) (n - k) k n (by rfl) (by rfl) w.heap.size k cur 2 HHH.out cs HD.out (fun _ => ⟨rfl, ⟨w.heap.size, 0, none⟩, rfl, fun j v hj => by have hadd : (⟨w.heap.size, 0, none⟩ : Addr).add j = ⟨w.heap.size, j, none⟩ := (by unfold Addr.add; split <;> simp_all); rw [hadd]; exact HSRC.out j v hj⟩) (by rw [HLEN.out.1, HLEN.out.2]; exact d3) (by rw [← HCS.out]; simp [Value.oneCell']) w.heap.size w ((HB.out).drew) (Nat.le_refl _) ?_; intro w4 hh4 hb4))
      have HH4 : Hid (w4.heap[w.heap.size]? = some (.cells ((fillL n (k + d)).map (Value.int .i64)).toArray 2 (0, 0))) := by
        have h4 := hh4.out; rw [HSP.out] at h4; exact h4
      clear hh4 q1
      go_wp2
      go_roundw
      case rel => exact ⟨k + d, by omega, by omega, by go_num, HH4.out, hb4⟩
      case measure => simp [intOf]; omega
    · obtain rfl : k = n := by omega
      have HO : Hid (OwnI wr w.heap.size (.slice (some ⟨w.heap.size, 0, none⟩) k k) (List.replicate k (-1))) := by
        have h3 := hh.out
        rw [show fillL k k = List.replicate k (-1) by simp [fillL]] at h3
        have h4 := OwnI.of_block h3 (Nat.le_refl _) (by unfold maxLen; simp; omega)
        rw [List.length_replicate] at h4
        exact h4
      clear hh hlt
      go_wp2
      go_ret
      exact ⟨⟨_, rfl, HO.out⟩, HB.out⟩

theorem none_any (n : Nat) (w : World) (h : 1 ≤ n) (h2 : n ≤ 1048576) : Calls Try.prog 114 #[.int .i64 n] w fun e w' => (∃ g, e = .returned (.slice (some ⟨g, 0, none⟩) n n) ∧ OwnI w' w.heap.size (.slice (some ⟨g, 0, none⟩) n n) (List.replicate n (-1))) ∧ Below w.heap.size w w' := by
  have hr := repeat1_any n w.heap.size h h2 (w.alloc (.cells #[.int .i64 (-1)] 2)) (by simp)
  have HR := Lib.hid hr
  clear hr
  go_enter Try.func114, Try.ntmps114
  go_wp2_with (go_at_call 151; refine HR.out.mono ?_; rintro e w' ⟨⟨g, rfl, ho⟩, hb⟩)
  go_ret
  exact ⟨⟨g, rfl, ho.mono (by simp)⟩, ((Below.refl _ w).alloc (Nat.le_refl _) _).trans (hb.mono (by simp))⟩
end Go.Proofs.Ytcjeededlhdcbaa

namespace Go.Proofs.Ytcjeededlhdcbaa
open Go.RowKit
set_option linter.unusedVariables false
set_option linter.unusedSimpArgs false

theorem GrownL.rowU {g : Nat} {A W W' : World} (h : GrownL [g] A W) (hg : W.grownBy W' (some g)) : GrownL [g] A W' := h.grown hg fun j e => .inl (by cases e; simp)
def UseO (ts : List Tk) (st : List Int) (E T g N : Nat) (w : World) (vk : Value) (wr : World) : Prop :=
  ∃ (k : Nat), k ≤ T ∧ vk = .int .i64 k ∧ Hid (OwnI wr N (.slice (some ⟨g, 0, none⟩) E E) (useL ts st E k)) ∧ Hid (Below N w wr)
def UseK (ts : List Tk) (st : List Int) (E g N k : Nat) (W1 : World) (va : Value) (wr : World) : Prop :=
  ∃ (a : Int), va = .int .i64 a ∧ nth st k ≤ a ∧ a ≤ nth st k + timeN ts k ∧ Hid (OwnI wr N (.slice (some ⟨g, 0, none⟩) E E) (useM ts st E k a)) ∧ Hid (GrownL [g] W1 wr)

set_option maxRecDepth 100000 in
set_option maxHeartbeats 4000000 in
theorem crewUse_any (vt vs : Value) (ts : List Tk) (st : List Int) (E : Nat) (w : World) (ht : TasksR w vt ts) (hs : Ints w vs st) (hsm : SmTs ts) (hst : SmSt st ts.length) (hst0 : ∀ k, k < ts.length → 0 ≤ nth st k) (hE : endTo ts st ts.length = E) (hE4 : E ≤ 2000000) :
    Calls Try.prog 79 #[vt, vs] w fun e w' => (∃ g, e = .returned (.slice (some ⟨g, 0, none⟩) E E) ∧ OwnI w' w.heap.size (.slice (some ⟨g, 0, none⟩) E E) (useL ts st E ts.length)) ∧ Below w.heap.size w w' := by
  have HL := Lib.hid (lastEnd_any vt vs ts st w ht hs hsm hst)
  rw [hE] at HL
  obtain ⟨b, o, c, AB, CB, AL, CL, rfl, hcap, hbw, hV⟩ := ht.view hsm.n1
  obtain ⟨aS, cS, rfl, scap, hS⟩ := hs.view
  have HV := Lib.hid hV
  have HS := Lib.hid hS
  have HSM := Lib.hid hsm
  have HST := Lib.hid hst
  have HS0 := Lib.hid hst0
  have HEN := Lib.hid hE
  obtain ⟨T, hT⟩ : ∃ T, ts.length = T := ⟨_, rfl⟩
  have HT : Hid (ts.length = T) := hT
  rw [hst.1, hT] at HL ⊢
  rw [hT] at hcap
  have hT16 : T ≤ 16 := by rw [← hT]; exact hsm.n16
  obtain ⟨i0, hi, hz0, hz1, hz2⟩ := info_parts info_i64
  have hEm : E ≤ maxLen := by unfold maxLen; omega
  clear ht hs hV hS hsm hst hst0 hT scap hE
  go_enter Try.func79, Try.ntmps79
  go_wp2_with fail
  refine HL.out.mono ?_
  rintro e W0 ⟨rfl, hb0⟩
  have HB0 := Lib.hid hb0
  clear hb0
  go_wp2_with (at_make; refine wpList_make_full _ rfl _ _ 27 rfl w.heap.size 2 i0 (.int .i64 0) 1 Try.underlying27 hi hz0 hz1 _ _ _ _ E rfl rfl rfl rfl (by rw [hz2]; omega) (by unfold maxLen at *; omega) HB0.out.size ?_; intro w2 hown2 hgrow2; have HA2 := Lib.hid (And.intro hown2 hgrow2); clear hown2 hgrow2)
  obtain ⟨g, hg⟩ : ∃ g, W0.heap.size = g := ⟨_, rfl⟩
  rw [hg] at HA2
  have HR0 : Hid (UseO ts st E T g w.heap.size w (.int .i64 0) w2) := by
    obtain ⟨ho, hgw⟩ := HA2.out
    exact ⟨0, Nat.zero_le _, rfl, by show OwnI _ _ _ _; rw [useL_zero]; exact made_replicate ho, HB0.out.grown hgw HB0.out.size (fun k e => by cases e)⟩
  simp only [hg]
  have hgN : Hid (w.heap.size ≤ g) := by show _ ≤ _; rw [← hg]; exact HB0.out.size
  clear HA2 HB0 hi hz0 hz1 hz2 hg HL
  go_loopw [15] (fun vk wr => UseO ts st E T g w.heap.size w vk wr) (fun vk _ => T - (intOf vk).toNat)
  case atStart => exact HR0.out
  case round =>
    obtain ⟨k, hk, rfl, HO, HB⟩ := hrel
    clear HR0
    by_cases hkT : k < T
    · have k1 : (k : Int) < (T : Int) := by omega
      have k0 : (0 : Int) ≤ (k : Int) := by omega
      have hC := HV.out wr HB.out k (by rw [HT.out]; exact hkT)
      have e0 := hC.time
      have e1 := hC.need
      have e2 := hC.bef
      have e3 := hC.lag
      have hts := HSM.out.time k (by rw [HT.out]; exact hkT)
      have hnd := HSM.out.need k (by rw [HT.out]; exact hkT)
      have hss := HS0.out k (by rw [HT.out]; exact hkT)
      have hse : nth st k + timeN ts k ≤ (E : Int) := by rw [← HEN.out]; exact end_ge _ k (by rw [HT.out]; exact hkT)
      obtain ⟨b3, o3, haS, cs'⟩ := HS.out wr HB.out k (by rw [HST.out.1, HT.out]; exact hkT)
      subst haS
      have HCS : Hid (∀ W, Below w.heap.size w W → W.cell? ⟨b3, o3 + k, none⟩ = some (.int .i64 (nth st k))) := fun W hW => by
        obtain ⟨b4, o4, hb4, c4⟩ := HS.out W hW k (by rw [HST.out.1, HT.out]; exact hkT)
        obtain ⟨rfl, rfl⟩ : b3 = b4 ∧ o3 = o4 := by simpa using hb4
        exact c4
      have HUB : Hid (∀ t, 0 ≤ useN ts st t k ∧ useN ts st t k ≤ 400) := fun t => by
        have h1 := useN_bounds (st := st) (t := t) HSM.out k (by rw [HT.out]; omega)
        omega
      obtain ⟨W1, hW1⟩ : ∃ W, wr.alloc (.cells #[.int .i64 (timeN ts k), .int .i64 (needN ts k), .slice (AB k) (befN ts k).length (CB k), .slice (AL k) (lagN ts k).length (CL k)] 40) = W := ⟨_, rfl⟩
      have HW1 : Hid (W1.cell? ⟨wr.heap.size, 0, none⟩ = some (.int .i64 (timeN ts k)) ∧ W1.cell? ⟨wr.heap.size, 1, none⟩ = some (.int .i64 (needN ts k)) ∧ Below wr.heap.size wr W1 ∧ W1.heap.size = wr.heap.size + 1) := by
        show _ ∧ _ ∧ Below _ _ _ ∧ _
        rw [← hW1]
        exact ⟨by simp, by simp, (Below.refl _ wr).alloc (Nat.le_refl _) _, by simp⟩
      have hgl := (HO.out.lt g rfl).2
      have HK0 : Hid (UseK ts st E g w.heap.size k W1 (.int .i64 (nth st k)) W1) := ⟨nth st k, rfl, Int.le_refl _, by omega, by show OwnI _ _ _ _; rw [useM_start]; exact HO.out.below HW1.out.2.2.1 (Nat.le_refl _), GrownL.refl _ _⟩
      have HBW1 : Hid (Below w.heap.size w W1) := HB.out.trans (HW1.out.2.2.1.mono HB.out.size)
      obtain ⟨bt, hbt⟩ : ∃ bt, wr.heap.size = bt := ⟨_, rfl⟩
      have HBT : Hid (wr.heap.size = bt) := hbt
      rw [hbt] at HW1 hgl
      have hC' := hC
      clear hC HO HB hC'
      have cs1 := HCS.out W1 HBW1.out
      go_wp2
      clear cs1 e0 e1 e2 e3 cs'
      go_loopw [8] (fun va wi => UseK ts st E g w.heap.size k W1 va wi) (fun va _ => (nth st k + timeN ts k - intOf va).toNat)
      case atStart => exact HK0.out
      case round =>
        obtain ⟨a, rfl, ha1, ha2, HO, HG⟩ := hrel
        have HBi : Hid (Below w.heap.size w wr) := HG.out.toBelow HBW1.out HBW1.out.size (fun i hi => by have := hgN.out; simp; omega)
        have cs2 := HCS.out wr HBi.out
        have c0 : wr.cell? ⟨bt, 0, none⟩ = some (.int .i64 (timeN ts k)) := (HG.out.cell (p := ⟨bt, 0, none⟩) (by show bt < _; have := HW1.out.2.2.2; omega) (by show bt ∉ _; simp; omega)).trans HW1.out.1
        have c1 : wr.cell? ⟨bt, 1, none⟩ = some (.int .i64 (needN ts k)) := (HG.out.cell (p := ⟨bt, 1, none⟩) (by show bt < _; have := HW1.out.2.2.2; omega) (by show bt ∉ _; simp; omega)).trans HW1.out.2.1
        have HK0' := HK0
        clear HK0 HK0'
        obtain ⟨s, hs⟩ : ∃ s, nth st k = s := ⟨_, rfl⟩
        obtain ⟨t, ht⟩ : ∃ t, timeN ts k = t := ⟨_, rfl⟩
        obtain ⟨nd, hnd'⟩ : ∃ nd, needN ts k = nd := ⟨_, rfl⟩
        have HV3 : Hid (nth st k = s ∧ timeN ts k = t ∧ needN ts k = nd) := ⟨hs, ht, hnd'⟩
        rw [hs] at ha1 ha2 hse hss cs2
        rw [ht] at ha2 hse hts c0
        rw [hnd'] at hnd c1
        have w1 : IntKind.i64.wrap (s + t) = s + t := IntWalk.i64_in _ (by omega)
        clear hs ht hnd'
        by_cases hlt : a < s + t
        · obtain ⟨p, rfl⟩ : ∃ p : Nat, a = p := ⟨a.toNat, by omega⟩
          have hpE : p < E := by omega
          have cp := HO.out.at_ (useM_len _ _ _ _ _).symm p (by rw [useM_len]; exact hpE)
          have fp := (HO.out.store (useM_len _ _ _ _ _).symm p (by rw [useM_len]; exact hpE) (nth (useM ts st E k p) p + nd)).2.1
          have HST2 := Lib.hid (HO.out.store (useM_len _ _ _ _ _).symm p (by rw [useM_len]; exact hpE) (nth (useM ts st E k p) p + nd)).2.2
          have HMS : Hid ((useM ts st E k p).set p (nth (useM ts st E k p) p + nd) = useM ts st E k ((p : Int) + 1)) := by
            show _ = _
            rw [← HV3.out.2.2]; exact useM_step (by rw [HV3.out.1]; exact ha1) hpE
          have hub : 0 ≤ nth (useM ts st E k p) p ∧ nth (useM ts st E k p) p ≤ 420 := by
            rw [useM_nth hpE]
            have := HUB.out p
            rw [HV3.out.2.2]
            split <;> omega
          obtain ⟨u, hu⟩ : ∃ u, nth (useM ts st E k p) p = u := ⟨_, rfl⟩
          rw [hu] at cp HST2 HMS hub
          have w2 : IntKind.i64.wrap (u + nd) = u + nd := IntWalk.i64_in _ (by omega)
          have p0 : (0 : Int) ≤ (p : Int) := by omega
          have p1 : (p : Int) < (E : Int) := by omega
          clear hu
          go_wp2
          go_quiet (fail)
          go_wp2
          go_region
          go_wp2
          go_roundw
          case rel => exact ⟨(p : Int) + 1, by go_num, by rw [HV3.out.1]; omega, by rw [HV3.out.1, HV3.out.2.1]; omega, by show OwnI _ _ _ _; rw [← HMS.out]; exact HST2.out.1.drewN (nq + 1), (HG.out.rowU HST2.out.2).drewN (nq + 1)⟩
          case measure => rw [HV3.out.1, HV3.out.2.1]; simp [intOf]; omega
        · have HAE : Hid (a = nth st k + timeN ts k) := by show _ = _; rw [HV3.out.1, HV3.out.2.1]; omega
          have HOE : Hid (OwnI wr w.heap.size (.slice (some ⟨g, 0, none⟩) E E) (useL ts st E (k + 1))) := by
            have := HO.out; rw [useM_end HAE.out] at this; exact this
          clear HO HG
          go_wp2
          go_quiet (fail)
          go_wp2
          go_roundw
          case rel => exact ⟨k + 1, by omega, by go_num, HOE.out.drewN _, below_drewN _ HBi.out⟩
          case measure => simp [intOf]; omega
    · have k1 : ¬ (k : Int) < (T : Int) := by omega
      have HE : Hid (k = T) := by show _ = _; omega
      clear hkT
      go_wp2
      go_ret
      exact ⟨⟨g, rfl, by rw [← HE.out]; exact HO.out⟩, HB.out⟩

theorem uses_no {ts : List Tk} {st : List Int} {crew : Int} (h : usesOk ts st = false) : planOk ts st crew = false := by unfold planOk planHd; rw [h]; rfl
set_option maxRecDepth 100000 in
set_option maxHeartbeats 2000000 in
theorem CrewUse_any (vt vs : Value) (ts : List Tk) (st : List Int) (w : World) (ht : TasksR w vt ts) (hs : Ints w vs st) :
    Calls Try.prog 19 #[vt, vs] w fun e w' => (∃ u, e = .returned (.tuple #[u, .bool (usesOk ts st)]) ∧ (usesOk ts st = true → OwnI w' w.heap.size u (useL ts st (endTo ts st ts.length).toNat ts.length))) ∧ Below w.heap.size w w' := by
  have HT := Lib.hid (areTasks_any vt ts w ht)
  have HM : Hid (∀ W, Below w.heap.size w W → Calls Try.prog 77 #[vs, .int .i64 (ts.length : Int), .int .i64 (ts.length : Int), .int .i64 0, .int .i64 100000] W fun e w' => e = .returned (.bool (many st ts.length ts.length 0 100000)) ∧ W = w') := fun W hW => areMany_any vs st ts.length ts.length 0 100000 W (hs.below hW (Nat.le_refl _))
  have HL : Hid (tasksOk ts = true → many st ts.length ts.length 0 100000 = true → ∀ W, Below w.heap.size w W → Calls Try.prog 78 #[vt, vs] W fun e w' => e = .returned (.int .i64 (endTo ts st ts.length)) ∧ Below W.heap.size W w') := fun h1 h2 W hW => lastEnd_any vt vs ts st W (ht.below hW (Nat.le_refl _)) (hs.below hW (Nat.le_refl _)) (uses_sm h1 h2).1 (uses_sm h1 h2).2.1
  have HU : Hid (tasksOk ts = true → many st ts.length ts.length 0 100000 = true → ∀ E : Nat, endTo ts st ts.length = E → E ≤ 400 → ∀ W, Below w.heap.size w W → Calls Try.prog 79 #[vt, vs] W fun e w' => (∃ g, e = .returned (.slice (some ⟨g, 0, none⟩) E E) ∧ OwnI w' W.heap.size (.slice (some ⟨g, 0, none⟩) E E) (useL ts st E ts.length)) ∧ Below W.heap.size W w') := fun h1 h2 E hE hE4 W hW => crewUse_any vt vs ts st E W (ht.below hW (Nat.le_refl _)) (hs.below hW (Nat.le_refl _)) (uses_sm h1 h2).1 (uses_sm h1 h2).2.1 (uses_sm h1 h2).2.2 hE (by omega)
  have HEB : Hid (tasksOk ts = true → many st ts.length ts.length 0 100000 = true → 0 ≤ endTo ts st ts.length) := fun h1 h2 => (endTo_bounds (uses_sm h1 h2).1 (uses_sm h1 h2).2.1 _ (Nat.le_refl _)).1
  have HUO : Hid (usesOk ts st = (tasksOk ts && many st ts.length ts.length 0 100000 && decide (endTo ts st ts.length ≤ 400))) := rfl
  obtain ⟨a, c, rfl, hcap, _⟩ := ht.at_
  obtain ⟨Z, hZ⟩ : ∃ Z, endTo ts st ts.length = Z := ⟨_, rfl⟩
  obtain ⟨U, hU⟩ : ∃ U, usesOk ts st = U := ⟨_, rfl⟩
  obtain ⟨T, hT⟩ : ∃ T, ts.length = T := ⟨_, rfl⟩
  rw [hZ] at HL HU HEB HUO ⊢
  rw [hU] at HUO ⊢
  rw [hT] at HT HM HL HU HEB HUO ⊢
  clear ht hs hZ hU hT hcap
  cases h1 : tasksOk ts
  · have hu : Hid (U = false) := by have := HUO.out; rw [h1] at this; exact this
    rw [h1] at HT
    go_enter Try.func19, Try.ntmps19
    go_wp2_with fail
    refine HT.out.mono ?_
    rintro e W1 ⟨rfl, hb1⟩
    have HB1 := Lib.hid hb1
    clear hb1
    go_wp2
    go_ret2
    exact ⟨⟨.slice none 0 0, by rw [hu.out]; rfl, fun h => by rw [hu.out] at h; cases h⟩, HB1.out⟩
  · rw [h1] at HT
    have HL := Lib.hid (HL.out h1)
    have HU := Lib.hid (HU.out h1)
    have HEB := Lib.hid (HEB.out h1)
    cases h2 : many st T T 0 100000
    · have hu : Hid (U = false) := by have := HUO.out; rw [h1, h2] at this; exact this
      rw [h2] at HM
      go_enter Try.func19, Try.ntmps19
      go_wp2_with fail
      refine HT.out.mono ?_
      rintro e W1 ⟨rfl, hb1⟩
      have HB1 := Lib.hid hb1
      clear hb1
      go_wp2_with fail
      refine (HM.out _ HB1.out).mono ?_
      rintro e w' ⟨rfl, rfl⟩
      go_wp2
      go_ret2
      exact ⟨⟨.slice none 0 0, by rw [hu.out]; rfl, fun h => by rw [hu.out] at h; cases h⟩, HB1.out⟩
    · rw [h2] at HM
      have HL := Lib.hid (HL.out h2)
      have HU := Lib.hid (HU.out h2)
      have hz0 := HEB.out h2
      by_cases h4 : Z ≤ 400
      · have hu : Hid (U = true) := by have := HUO.out; rw [h1, h2, decide_eq_true h4] at this; exact this
        obtain ⟨E, rfl⟩ : ∃ E : Nat, Z = E := ⟨Z.toNat, by omega⟩
        have HU := Lib.hid (HU.out E rfl (by omega))
        rw [Int.toNat_natCast]
        go_enter Try.func19, Try.ntmps19
        go_wp2_with fail
        refine HT.out.mono ?_
        rintro e W1 ⟨rfl, hb1⟩
        have HB1 := Lib.hid hb1
        clear hb1
        go_wp2_with fail
        refine (HM.out _ HB1.out).mono ?_
        rintro e w' ⟨rfl, rfl⟩
        go_wp2_with fail
        refine (HL.out _ HB1.out).mono ?_
        rintro e W2 ⟨rfl, hb2⟩
        have HB2 : Hid (Below w.heap.size w W2) := HB1.out.trans (hb2.mono HB1.out.size)
        clear hb2
        go_wp2_with fail
        refine (HU.out _ HB2.out).mono ?_
        rintro e W3 ⟨⟨g, rfl, ho⟩, hb3⟩
        have H3 := Lib.hid (And.intro (ho.mono HB2.out.size) (HB2.out.trans (hb3.mono HB2.out.size)))
        clear ho hb3
        go_wp2
        go_ret2
        exact ⟨⟨_, by rw [hu.out]; rfl, fun _ => H3.out.1⟩, H3.out.2⟩
      · have hu : Hid (U = false) := by have := HUO.out; rw [h1, h2, decide_eq_false h4] at this; exact this
        have hd : Z > 400 := by omega
        go_enter Try.func19, Try.ntmps19
        go_wp2_with fail
        refine HT.out.mono ?_
        rintro e W1 ⟨rfl, hb1⟩
        have HB1 := Lib.hid hb1
        clear hb1
        go_wp2_with fail
        refine (HM.out _ HB1.out).mono ?_
        rintro e w' ⟨rfl, rfl⟩
        go_wp2_with fail
        refine (HL.out _ HB1.out).mono ?_
        rintro e W2 ⟨rfl, hb2⟩
        have HB2 : Hid (Below w.heap.size w W2) := HB1.out.trans (hb2.mono HB1.out.size)
        clear hb2
        go_wp2
        go_ret2
        exact ⟨⟨.slice none 0 0, by rw [hu.out]; rfl, fun h => by rw [hu.out] at h; cases h⟩, HB2.out⟩

theorem uses_yes {ts : List Tk} {st : List Int} (h : usesOk ts st = true) : SmTs ts ∧ SmSt st ts.length ∧ (∀ k, k < ts.length → 0 ≤ nth st k) ∧ 0 ≤ endTo ts st ts.length ∧ endTo ts st ts.length ≤ 400 := by
  unfold usesOk at h
  rw [Bool.and_eq_true, Bool.and_eq_true] at h
  obtain ⟨a, b, c⟩ := uses_sm h.1.1 h.1.2
  exact ⟨a, b, c, (endTo_bounds a b _ (Nat.le_refl _)).1, of_decide_eq_true h.2⟩
theorem useL_within {ts : List Tk} {st : List Int} {E : Nat} {crew : Int} (ht : SmTs ts) : ((useL ts st E ts.length).all fun n => win n 0 crew) = (List.range E).all fun t => decide (useN ts st t ts.length ≤ crew) := by
  unfold useL
  rw [List.all_map]
  congr 1
  funext t
  have := (useN_bounds (st := st) (t := (t : Int)) ht ts.length (Nat.le_refl _)).1
  show win _ 0 crew = _
  unfold win
  rw [decide_eq_true this, Bool.true_and]
theorem areCrew_any (n : Int) (w : World) : Calls Try.prog 74 #[.int .i64 n] w fun e w' => e = .returned (.bool (win n 0 20)) ∧ w = w' := by
  go_enter Try.func74, Try.ntmps74
  go_wp2_with (go_at_call 54; refine (within_any _ _ _ _).mono ?_; rintro e w' ⟨rfl, rfl⟩)
  go_ret
  exact ⟨rfl, rfl⟩
def PlanR (ts : List Tk) (st : List Int) (T : Nat) (w : World) (vk : Value) (wr : World) : Prop :=
  ∃ k : Nat, k ≤ T ∧ vk = .int .i64 k ∧ Hid ((List.range k).all (fun i => decide (leastN ts st i ≤ nth st i)) = true) ∧ Hid (Below w.heap.size w wr)

set_option maxRecDepth 100000 in
set_option maxHeartbeats 2000000 in
theorem isCrewPlan_any (vt vs : Value) (ts : List Tk) (st : List Int) (crew : Int) (w : World) (ht : TasksR w vt ts) (hs : Ints w vs st) :
    Calls Try.prog 18 #[vt, vs, .int .i64 crew] w fun e w' => e = .returned (.bool (planOk ts st crew)) ∧ Below w.heap.size w w' := by
  have HU := Lib.hid (CrewUse_any vt vs ts st w ht hs)
  have HA : Hid (∀ W, Calls Try.prog 74 #[.int .i64 crew] W fun e w' => e = .returned (.bool (win crew 0 20)) ∧ W = w') := fun W => areCrew_any crew W
  cases hu : usesOk ts st
  · have hp : Hid (planOk ts st crew = false) := uses_no hu
    rw [hu] at HU
    go_enter Try.func18, Try.ntmps18
    go_wp2_with fail
    refine HU.out.mono ?_
    rintro e W1 ⟨⟨u, rfl, _⟩, hb1⟩
    have HB1 := Lib.hid hb1
    clear hb1
    go_wp2
    go_ret
    exact ⟨ret_bool hp.out.symm, HB1.out⟩
  · obtain ⟨hsm, hst, hs0, hz0, hz4⟩ := uses_yes hu
    have HSM := Lib.hid hsm
    have HST := Lib.hid hst
    have HE : Hid (∀ (i : Nat) W, Below w.heap.size w W → i < ts.length → Calls Try.prog 75 #[vt, vs, .int .i64 i] W fun e w' => e = .returned (.int .i64 (leastN ts st i)) ∧ ∃ q, w' = W.drewN q) := fun i W hW hi => earliest_any vt vs ts st i W (ht.below hW (Nat.le_refl _)) (hs.below hW (Nat.le_refl _)) hsm hst hi
    obtain ⟨aS, cS, rfl, scap, hS⟩ := hs.view
    have HS := Lib.hid hS
    have HP : Hid (planOk ts st crew = (win crew 0 20 && (List.range ts.length).all (fun i => decide (leastN ts st i ≤ nth st i)) && (List.range (endTo ts st ts.length).toNat).all (fun t => decide (useN ts st t ts.length ≤ crew)))) := by
      show _ = _; unfold planOk planHd; rw [hu]; rfl
    obtain ⟨E, hE⟩ : ∃ E, (endTo ts st ts.length).toNat = E := ⟨_, rfl⟩
    rw [hu, hE] at HU
    rw [hE] at HP
    have HUL := Lib.hid (useL_within (st := st) (E := E) (crew := crew) hsm)
    have h16 := hsm.n16
    obtain ⟨T, hT⟩ : ∃ T, ts.length = T := ⟨_, rfl⟩
    have hTs : st.length = T := by rw [hst.1]; exact hT
    rw [hTs] at HU HE ⊢
    rw [hT] at HU HE HP HUL h16
    have HTT : Hid (ts.length = T ∧ st.length = T) := ⟨hT, hTs⟩
    clear ht hs hS hsm hst hs0 hz0 hz4 hE scap hT hTs
    cases hc : win crew 0 20
    · have hp : Hid (planOk ts st crew = false) := by have := HP.out; rw [hc] at this; exact this
      rw [hc] at HA
      go_enter Try.func18, Try.ntmps18
      go_wp2_with fail
      refine HU.out.mono ?_
      rintro e W1 ⟨⟨u, rfl, _⟩, hb1⟩
      have HB1 := Lib.hid hb1
      clear hb1
      go_wp2_with (go_at_call 74; refine (HA.out _).mono ?_; rintro e w' ⟨rfl, rfl⟩)
      go_ret
      exact ⟨ret_bool hp.out.symm, HB1.out⟩
    · rw [hc] at HA HP
      go_enter Try.func18, Try.ntmps18
      go_wp2_with fail
      refine HU.out.mono ?_
      rintro e W1 ⟨⟨u, rfl, ho⟩, hb1⟩
      have HB1 := Lib.hid hb1
      have HO1 := Lib.hid (ho trivial).ints
      clear hb1 ho
      go_wp2_with (go_at_call 74; refine (HA.out _).mono ?_; rintro e w' ⟨rfl, rfl⟩)
      go_loopw [26] (fun vk wr => PlanR ts st T W1 vk wr) (fun vk _ => T - (intOf vk).toNat)
      case atStart => exact ⟨0, Nat.zero_le _, rfl, rfl, Below.refl _ _⟩
      case round =>
        obtain ⟨k, hk, rfl, HK, HW⟩ := hrel
        have HWW : Hid (Below w.heap.size w wr) := HB1.out.trans (HW.out.mono HB1.out.size)
        by_cases hkT : k < T
        · have k1 : (k : Int) < (T : Int) := by omega
          have k0 : (0 : Int) ≤ (k : Int) := by omega
          obtain ⟨b3, o3, haS, cs'⟩ := HS.out wr HWW.out k (by rw [HTT.out.2]; exact hkT)
          subst haS
          have HC := Lib.hid (HE.out k wr HWW.out hkT)
          have HKN : Hid ((List.range (k + 1)).all (fun i => decide (leastN ts st i ≤ nth st i)) = decide (leastN ts st k ≤ nth st k)) := by
            show _ = _; rw [List.range_succ, List.all_append, HK.out]; simp
          have HBAD : Hid (¬ leastN ts st k ≤ nth st k → planOk ts st crew = false) := fun h => by
            have h3 : (List.range T).all (fun i => decide (leastN ts st i ≤ nth st i)) = false := List.all_eq_false.2 ⟨k, List.mem_range.2 hkT, by simpa using h⟩
            have := HP.out; rw [h3] at this; exact this
          obtain ⟨s, hs⟩ : ∃ s, nth st k = s := ⟨_, rfl⟩
          obtain ⟨l, hl⟩ : ∃ l, leastN ts st k = l := ⟨_, rfl⟩
          rw [hs] at cs' HKN HBAD
          rw [hl] at HC HKN HBAD
          clear hs hl
          by_cases hlt : s < l
          · have HR := Lib.hid (HBAD.out (by omega))
            go_wp2_with (go_at_call 75; refine HC.out.mono ?_; rintro e w' ⟨rfl, qq, rfl⟩)
            go_ret
            exact ⟨ret_bool HR.out.symm, below_drewN _ HWW.out⟩
          · have HR : Hid ((List.range (k + 1)).all (fun i => decide (leastN ts st i ≤ nth st i)) = true) := by show _ = _; rw [HKN.out]; simp; omega
            go_wp2_with (go_at_call 75; refine HC.out.mono ?_; rintro e w' ⟨rfl, qq, rfl⟩)
            go_roundw
            case rel => exact ⟨k + 1, by omega, by go_num, HR.out, below_drewN _ HW.out⟩
            case measure => simp [intOf]; omega
        · have k1 : ¬ (k : Int) < (T : Int) := by omega
          have HKT : Hid ((List.range T).all (fun i => decide (leastN ts st i ≤ nth st i)) = true) := by have := HK.out; rw [show k = T by omega] at this; exact this
          have HWI := Lib.hid (areWithin_any u _ 0 crew wr (HO1.out.below HW.out (Nat.le_refl _)))
          have HFIN : Hid (planOk ts st crew = (List.range E).all fun t => decide (useN ts st t T ≤ crew)) := by have := HP.out; rw [HKT.out] at this; show _ = _; simpa using this
          rw [HUL.out] at HWI
          clear HK HKT
          go_wp2_with (go_at_call 76; refine HWI.out.mono ?_; rintro e w' ⟨rfl, rfl⟩)
          go_ret
          exact ⟨ret_bool HFIN.out.symm, HWW.out⟩
end Go.Proofs.Ytcjeededlhdcbaa

namespace Go.Proofs.Ytcjeededlhdcbaa
open Go.RowKit
set_option linter.unusedVariables false
set_option linter.unusedSimpArgs false

def Drawn (ts : List Tk) : Prop := ∀ i (h : i < ts.length), DrTk i ts[i]
theorem drTk_ok {i : Nat} {x : Tk} {t : Int} (h : DrTk i x) (h0 : 0 ≤ t) (h1 : t ≤ 100) : taskOk (i : Int) (t, x.2) = true := by
  have h2 := h.ok
  unfold taskOk taskHead at h2 ⊢
  simp only [Bool.and_eq_true] at h2 ⊢
  exact ⟨⟨⟨⟨win_true.2 ⟨h0, h1⟩, h2.1.1.1.2⟩, h2.1.1.2⟩, h2.1.2⟩, h2.2⟩
theorem drawn_ok {ts : List Tk} (h : Drawn ts) (h1 : 1 ≤ ts.length) (h2 : ts.length ≤ 16) : tasksOk ts = true := by
  unfold tasksOk
  simp only [Bool.and_eq_true, List.all_eq_true, List.mem_range, decide_eq_true_eq]
  exact ⟨⟨fun i hi => by rw [tkAt_eq hi]; exact (h i hi).ok, h1⟩, h2⟩
theorem drawn_at {ts : List Tk} (h : Drawn ts) {i : Nat} (hi : i < ts.length) : (0 ≤ timeN ts i ∧ timeN ts i ≤ 6) ∧ (0 ≤ needN ts i ∧ needN ts i ≤ 3) ∧ ∀ k, k < (befN ts i).length → nth (lagN ts i) k ≤ 3 := by
  have h1 := h i hi
  unfold timeN needN befN lagN
  rw [tkN_eq hi]
  obtain ⟨a, b, c1, c2, c3, c4⟩ := h1
  exact ⟨a, b, fun k hk => (c4 k (by omega)).2⟩
theorem longT_ok {ts : List Tk} {task : Nat} {x : Int} (h : Drawn ts) (h1 : 1 ≤ ts.length) (h2 : ts.length ≤ 16) (hk : task < ts.length) (hx : 0 ≤ x ∧ x ≤ 90) : tasksOk (longT ts task x) = true := by
  unfold tasksOk
  simp only [Bool.and_eq_true, List.all_eq_true, List.mem_range, decide_eq_true_eq, longT_len]
  refine ⟨⟨fun i hi => ?_, h1⟩, h2⟩
  have e : tkAt (longT ts task x) i = tkN (longT ts task x) i := rfl
  rw [e, longT_at x hk]
  split
  · rename_i e; subst e
    have ha := (drawn_at h hk).1
    unfold timeN at ha
    rw [tkN_eq hk] at ha ⊢
    exact drTk_ok (h task hk) (by omega) (by omega)
  · rw [tkN_eq hi]; exact (h i hi).ok
theorem planB_drawn {ts : List Tk} {st : List Int} {crew S x : Int} {task : Nat} (h : Drawn ts) (h1 : 1 ≤ ts.length) (h2 : ts.length ≤ 16) (hk : task < ts.length) (hx : 0 ≤ x ∧ x ≤ 90) (hc : 3 ≤ crew) (hS : 0 ≤ S) (hst : ∀ i, i < ts.length → nth st i ≤ S) : PlanB (longT ts task x) st crew S 3 (6 + x) := by
  have hsm := tasks_sm (longT_ok h h1 h2 hk hx)
  have hb : ∀ j, befN (longT ts task x) j = befN ts j ∧ lagN (longT ts task x) j = lagN ts j ∧ needN (longT ts task x) j = needN ts j ∧ timeN (longT ts task x) j ≤ timeN ts j + x := fun j => by
    unfold befN lagN needN timeN
    rw [longT_at x hk]
    split
    · rename_i e; subst e; exact ⟨rfl, rfl, rfl, Int.le_refl _⟩
    · exact ⟨rfl, rfl, rfl, by omega⟩
  refine ⟨hsm, fun i hi => ?_, fun i hi => hst i (by rw [longT_len] at hi; exact hi), fun i hi k hk => ?_, fun i hi => ?_, hS, by omega, by omega⟩
  all_goals rw [longT_len] at hi
  · rw [(hb i).2.2.1]; have := (drawn_at h hi).2.1; omega
  · rw [(hb i).1] at hk
    rw [(hb i).2.1]; exact (drawn_at h hi).2.2 k hk
  · have h3 := (hb i).2.2.2
    have := (drawn_at h hi).1; omega
theorem longT_zero {ts : List Tk} {task : Nat} (hk : task < ts.length) : longT ts task 0 = ts := by
  unfold longT
  apply List.ext_getElem
  · simp
  · intro i h1 h2
    rw [List.getElem_set]
    split
    · rename_i e; subst e; rw [tkN_eq hk]; simp
    · rfl
/-- The plan of a rule. -/
theorem planR_ok {ts : List Tk} {st : List Int} {kind crew : Int} (h : Drawn ts) (h1 : 1 ≤ ts.length) (h2 : ts.length ≤ 16) (hc : 3 ≤ crew ∧ crew ≤ 20) (hp : takeL ts crew (ruleN ts kind) = some st) :
    planOk ts st crew = true ∧ st.length = ts.length ∧ ∀ j, j < ts.length → 0 ≤ nth st j ∧ nth st j ≤ 144 := by
  have hok := drawn_ok h h1 h2
  have hsm := tasks_sm hok
  have hb := planB_drawn (st := zeroS ts.length) (crew := crew) (S := 0) (x := 0) (task := 0) h h1 h2 (by omega) (by omega) hc.1 (Int.le_refl _) (fun i _ => by rw [zeroS_at]; exact Int.le_refl _)
  rw [longT_zero (by omega)] at hb
  obtain ⟨r1, r2⟩ := mendL_all hb (by omega) (ruleN_ok hsm kind).perm hp
  have hB : 0 + (3 + (6 + 0) : Int) * (ts.length : Int) ≤ 144 := by omega
  refine ⟨r1.planOk hok (by omega) (by omega) r2, r1.len, fun j hj => ?_⟩
  have h3 := r1.hi j hj (r2 j hj)
  have h4 := hsm.time j hj
  exact ⟨r2 j hj, by omega⟩
/-- What is mended. -/
theorem mend_ok {ts : List Tk} {st out : List Int} {crew x : Int} {task : Nat} (h : Drawn ts) (h1 : 1 ≤ ts.length) (h2 : ts.length ≤ 16) (hc : 3 ≤ crew ∧ crew ≤ 20) (hk : task < ts.length) (hx : 0 ≤ x ∧ x ≤ 5) (hst : ∀ j, j < ts.length → 0 ≤ nth st j ∧ nth st j ≤ 144)
    (hm : mendOf (longT ts task x) st crew = some out) : planOk (longT ts task x) out crew = true ∧ out.length = ts.length ∧ ∀ j, j < ts.length → 0 ≤ nth out j ∧ nth st j ≤ nth out j := by
  have hok := longT_ok h h1 h2 hk (show 0 ≤ x ∧ x ≤ 90 by omega)
  have hb := planB_drawn (st := st) (crew := crew) (S := 144) (x := x) (task := task) h h1 h2 hk (by omega) hc.1 (by omega) (fun i hi => (hst i hi).2)
  obtain ⟨r1, r2⟩ := mendL_all hb (by omega) (sortsL_ok _ _).1 hm
  rw [longT_len] at r1 r2
  have hB : 144 + (3 + (6 + x) : Int) * (ts.length : Int) ≤ 400 := by
    have hn : (ts.length : Int) ≤ 16 := by omega
    have h3 : (3 + (6 + x)) * (ts.length : Int) ≤ 14 * 16 := Int.le_trans (Int.mul_le_mul_of_nonneg_right (show 3 + (6 + x) ≤ 14 by omega) (by omega)) (Int.mul_le_mul_of_nonneg_left hn (by omega))
    omega
  refine ⟨r1.planOk hok (by omega) hB (by rw [longT_len]; exact r2), by rw [r1.len, longT_len], fun j hj => ⟨r2 j hj, (r1.ok j (by rw [longT_len]; exact hj) (r2 j hj)).1⟩⟩
/-- Without a change nothing changes. -/
theorem useO_with {ts : List Tk} {st out : List Int} {t : Int} {i : Nat} (ht : SmTs ts) (hm : nth out i = -1) (hr : runs ts st t i) (he : ∀ j, j < ts.length → 0 ≤ nth out j → nth out j = nth st j) : ∀ n, n ≤ ts.length → useO ts out t n + (if i < n then needN ts i else 0) ≤ useN ts st t n
  | 0, _ => by rw [if_neg (by omega)]; exact Int.le_refl _
  | n + 1, hn => by
    have h1 := useO_with ht hm hr he n (by omega)
    have h2 := ht.need n (by omega)
    unfold useO useN
    by_cases e : i = n
    · subst e
      rw [if_neg (by unfold runsO; rw [hm]; omega), if_pos hr, if_pos (by omega)]
      rw [if_neg (by omega)] at h1
      omega
    · have h3 : (if i < n + 1 then needN ts i else 0) = if i < n then needN ts i else 0 := by
        by_cases q : i < n
        · rw [if_pos q, if_pos (by omega)]
        · rw [if_neg q, if_neg (by omega)]
      rw [h3]
      by_cases q : runsO ts out t n
      · have h4 := he n (by omega) q.1
        rw [if_pos q, if_pos (show runs ts st t n by unfold runs; unfold runsO at q; omega)]
        omega
      · rw [if_neg q]
        split <;> omega
theorem leastTo_same {ts : List Tk} {st out : List Int} {i : Nat} (ht : SmTs ts) (hi : i < ts.length) (hb : toldB ts out i = true) (he : ∀ j, j < ts.length → 0 ≤ nth out j → nth out j = nth st j) : ∀ k, k ≤ (befN ts i).length → leastTo ts out i k = leastTo ts st i k
  | 0, _ => rfl
  | k + 1, hk => by
    have h1 := leastTo_same ht hi hb he k (by omega)
    have h2 := ht.bef i hi k (by omega)
    unfold leastTo
    rw [h1, he _ (by omega) (toldB_iff.1 hb k (by omega))]
theorem useN_after {ts : List Tk} {st : List Int} {t : Int} (n : Nat) (h : endTo ts st n ≤ t) : ∀ i, i < n → ¬ runs ts st t i := fun i hi q => by
  have := end_ge (ts := ts) (st := st) n i hi
  unfold runs at q
  omega
theorem mendL_same {ts : List Tk} {st : List Int} {crew : Int} (hp : planOk ts st crew = true) : ∀ (E out o : List Int), out.length = ts.length → (∀ j, j < ts.length → 0 ≤ nth out j → nth out j = nth st j) → (∀ y ∈ E, 0 ≤ y ∧ y < (ts.length : Int) ∧ nth out y.toNat = -1) → E.Pairwise (fun x y => x ≠ y) → mendL ts st crew E out = some o →
    ∀ j, j < ts.length → 0 ≤ nth o j → nth o j = nth st j
  | [], out, o, hl, he, _, _, hm => by
    unfold mendL at hm
    injection hm with hm
    subst hm
    exact he
  | i :: E, out, o, hl, he, hE, hd, hm => by
    unfold mendL at hm
    obtain ⟨hi0, hi1, hmi⟩ := hE i List.mem_cons_self
    have hiT : i.toNat < ts.length := by omega
    have hil : i.toNat < out.length := by omega
    split at hm
    · rename_i htb
      unfold planOk planHd at hp
      simp only [Bool.and_eq_true, List.all_eq_true, List.mem_range, decide_eq_true_eq] at hp
      obtain ⟨⟨⟨hu, hc⟩, hs⟩, huse⟩ := hp
      obtain ⟨hsm, hst, hs0, he0, he4⟩ := uses_yes hu
      have hle : leastN ts out i.toNat ≤ nth st i.toNat := by
        have := hs i.toNat hiT
        have h5 : leastN ts out i.toNat = leastN ts st i.toNat := leastTo_same hsm hiT htb he _ (Nat.le_refl _)
        omega
      have hmx : max (nth st i.toNat) (leastN ts out i.toNat) = nth st i.toNat := by omega
      have hfit : Fit (fun t => useO ts out t ts.length) crew (needN ts i.toNat) (timeN ts i.toNat) (max (nth st i.toNat) (leastN ts out i.toNat)) (nth st i.toNat) := by
        rw [hmx]
        refine ⟨Int.le_refl _, fun k k1 k2 => ?_, noneW.start _ _ _ _ _⟩
        have hr : runs ts st (k : Int) i.toNat := ⟨k1, k2⟩
        have h6 := useO_with hsm hmi hr he ts.length (Nat.le_refl _)
        rw [if_pos hiT] at h6
        have h7 : (k : Int) < endTo ts st ts.length := by
          rcases Int.lt_or_le (k : Int) (endTo ts st ts.length) with q | q
          · exact q
          · exact absurd hr (useN_after ts.length q i.toNat hiT)
        have h8 := huse k (by omega)
        show useO ts out (k : Int) ts.length + _ ≤ crew
        omega
      have hms : mendS ts st crew out i.toNat = out.set i.toNat (nth st i.toNat) := by unfold mendS; rw [hfit.eq]
      rw [hms] at hm
      rw [List.pairwise_cons] at hd
      have hp' : planOk ts st crew = true := by
        unfold planOk planHd
        simp only [Bool.and_eq_true, List.all_eq_true, List.mem_range, decide_eq_true_eq]
        exact ⟨⟨⟨hu, hc⟩, hs⟩, huse⟩
      refine mendL_same hp' E _ o (by rw [List.length_set]; exact hl) (fun j hj h0 => ?_) (fun y hy => ?_) hd.2 hm
      · rw [nth_setM _ hil] at h0 ⊢
        split
        · rename_i e; rw [e]
        · rename_i e; rw [if_neg e] at h0; exact he j hj h0
      · obtain ⟨q1, q2, q3⟩ := hE y (List.mem_cons_of_mem _ hy)
        refine ⟨q1, q2, ?_⟩
        rw [nth_setM _ hil, if_neg (fun e => hd.1 y hy (by omega))]
        exact q3
    · cases hm
theorem mend_none {ts : List Tk} {st out : List Int} {crew : Int} {task : Nat} (hk : task < ts.length) (hp : planOk ts st crew = true) (hm : mendOf (longT ts task 0) st crew = some out) (hall : ∀ j, j < ts.length → 0 ≤ nth out j) : diffO st out ts.length = 0 := by
  rw [longT_zero hk] at hm
  have h1 := mendL_same hp _ _ out (by simp [noneL]) (fun j hj h0 => by rw [nth_replicate hj] at h0; omega) (fun y hy => by
    have h := idL_mem.1 ((sortsL_ok (keyOf st) ts.length).1.mem_iff.1 hy)
    exact ⟨h.1, h.2, nth_replicate (by omega)⟩) ((((sortsL_ok (keyOf st) ts.length).1).pairwise_iff (fun h => Ne.symm h)).2 (idL_nodup _)) hm
  have h2 : ∀ n, n ≤ ts.length → diffO st out n = 0 := fun n => by
    induction n with
    | zero => intro _; rfl
    | succ n ih =>
      intro hn
      unfold diffO
      rw [ih (by omega), if_neg (fun q => q.2 (h1 n (by omega) (hall n (by omega))))]; rfl
  exact h2 _ (Nat.le_refl _)
theorem diffO_all {st out : List Int} {n : Nat} (h : 0 ≤ nth out n) : diffO st out (n + 1) = diffO st out n + if nth out n ≠ nth st n then 1 else 0 := by
  conv => lhs; unfold diffO
  by_cases q : nth out n ≠ nth st n
  · rw [if_pos ⟨h, q⟩, if_pos q]
  · rw [if_neg (fun x => q x.2), if_neg q]
end Go.Proofs.Ytcjeededlhdcbaa

namespace Go.Proofs.Ytcjeededlhdcbaa
open Go.RowKit Go.Shelf Go.BigFrame
set_option linter.unusedVariables false
set_option linter.unusedSimpArgs false

theorem drTk_wf {i : Nat} {x : Tk} (h : DrTk i x) (hi : i ≤ 100) : (Lit.int .i64 x.1).wf = true ∧ (Lit.int .i64 x.2.1).wf = true ∧ (∀ n ∈ x.2.2.1, (Lit.int .i64 n).wf = true) ∧ ∀ n ∈ x.2.2.2, (Lit.int .i64 n).wf = true := by
  obtain ⟨a, b, c1, c2, c3, c4⟩ := h
  refine ⟨wf_i64_iff.2 ⟨by omega, by omega⟩, wf_i64_iff.2 ⟨by omega, by omega⟩, fun n hn => ?_, fun n hn => ?_⟩
  · obtain ⟨k, hk, rfl⟩ := List.getElem_of_mem hn
    have := c3 k hk
    rw [nth_eq hk] at this
    exact wf_i64_iff.2 ⟨by omega, by omega⟩
  · obtain ⟨k, hk, rfl⟩ := List.getElem_of_mem hn
    have := c4 k hk
    rw [nth_eq hk] at this
    exact wf_i64_iff.2 ⟨by omega, by omega⟩
theorem b10Tasks_any (v : Value) (bs : List Int) (n : Nat) (w : World) (hv : Byts w v bs) (hb : ∀ n ∈ bs, (Lit.int .u8 n).wf = true) (hn : n ≤ 7) :
    Calls Try.prog 8 #[v, .int .i64 n] w fun e w' => (∃ vt ts, e = .returned vt ∧ TasksR w' vt ts ∧ ts.length = n ∧ Drawn ts) ∧ Below w.heap.size w w' := by
  have HFR := Lib.hid (from_any v bs w hv)
  have HDO : Hid (∀ g W, (∀ W', GrownL [g] W W' → Byts W' v bs) → Src W g v 0 → Calls Try.prog 52 #[.pointer (some ⟨g, 0, none⟩), .int .i64 n] W fun e w' => ∃ vt ts raw X a', e = .returned vt ∧ EnvD W g v a' W.heap.size X vt n raw ts w' ∧ ts.length = n ∧ (∀ i (h : i < ts.length), DrTk i ts[i]) ∧ a' ≤ 0 + 20 * n) := fun g W h1 h2 => drawOk_any v bs g 0 n W h1 hb h2 (by omega) hn
  have HV : Hid (∀ W, Below w.heap.size w W → Byts W v bs) := fun W hW => hv.below hW (Nat.le_refl _)
  clear hv hb
  obtain ⟨A, hA⟩ : ∃ A, w.heap.size = A := ⟨_, rfl⟩
  have HA := Lib.hid hA
  clear hA
  go_enter Try.func8, Try.ntmps8
  go_wp2_with fail
  refine HFR.out.mono ?_
  rintro e W1 ⟨rfl, hs1, hb1, hz1⟩
  rw [HA.out] at hs1 hb1 hz1 ⊢
  have HD1 := Lib.hid (HDO.out A W1 (fun W' hW' => HV.out W' (by rw [HA.out]; exact hW'.toBelow hb1 (by omega) (by simp; omega))) hs1)
  have HB1 : Hid (Below A w W1) := hb1
  have HZ1 : Hid (A ≤ W1.heap.size) := by show _ ≤ _; omega
  clear hs1 hb1 hz1 HDO HV
  go_wp2_with fail
  refine HD1.out.mono ?_
  rintro e W2 ⟨vt, ts, raw, X, a', rfl, hE, hlen, hdr, ha⟩
  have HFIN : Hid (TasksR W2 vt ts ∧ ts.length = n ∧ Drawn ts ∧ Below A w W2) := by
    refine ⟨hE.t.reads (by rw [hlen]; exact hE.v) (by unfold maxLen; omega) (fun i hi => drTk_wf (hdr i hi) (by omega)), hlen, hdr, hE.b.toBelow HB1.out HZ1.out (by simp; omega)⟩
  clear hE hlen hdr ha HD1
  go_wp2
  go_ret
  first
    | exact ⟨⟨vt, ts, rfl, HFIN.out.1, HFIN.out.2.1, HFIN.out.2.2.1⟩, HFIN.out.2.2.2⟩
    | (rw [HA.out]; exact ⟨⟨vt, ts, rfl, HFIN.out.1, HFIN.out.2.1, HFIN.out.2.2.1⟩, HFIN.out.2.2.2⟩)
end Go.Proofs.Ytcjeededlhdcbaa
