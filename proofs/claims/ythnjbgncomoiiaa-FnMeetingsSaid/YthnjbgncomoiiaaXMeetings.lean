/- The walk of FnMeetings. Conditions: none. -/
import Derived.Test.YthnjbgncomoiiaaMeeting
import Derived.Test.YthnjbgncomoiiaaAppend
import Derived.Test.YthnjbgncomoiiaaLawCode
namespace Go.Proofs.Ythnjbgncomoiiaa
open Go.RowKit
set_option linter.unusedVariables false
set_option linter.unusedSimpArgs false

/-- What a meeting that was found keeps. -/
theorem meet_ok {zones : List Int} {op cl lo : Int} (h : meetR2 zones op cl lo = true) : 0 ≤ meetR1 zones op cl lo ∧ meetR1 zones op cl lo ≤ 1439 ∧
    ∀ z ∈ zones, -720 ≤ z ∧ z ≤ 840 ∧ op ≤ (meetR1 zones op cl lo + z) % 1440 ∧ (meetR1 zones op cl lo + z) % 1440 + lo ≤ cl := by
  simp only [meetR2, Bool.and_eq_true] at h
  obtain ⟨h1, h2⟩ := h
  obtain ⟨m, hm⟩ := Option.isSome_iff_exists.1 h2
  have hR : meetR1 zones op cl lo = m := by simp [meetR1, h1, hm]
  have hmem := List.mem_of_find?_eq_some hm
  have hf := List.find?_some hm
  have hb := meetHead_bounds h1
  rw [hR]
  have := List.mem_range.1 hmem
  refine ⟨by omega, by omega, fun z hz => ?_⟩
  have hz2 := hb.2.2.2.2.2.2.2.2 z hz
  simp only [freeMin, Bool.not_eq_true', List.any_eq_false] at hf
  have := hf z hz
  simp only [badAt, Bool.or_eq_true, decide_eq_true_eq] at this
  omega

set_option maxRecDepth 100000 in
set_option maxHeartbeats 4000000 in
theorem walkFnMeetings (a0 : Option Addr) (len0 cap0 : Nat) (z0 : List Int) (a1 : Option Addr) (len1 cap1 : Nat) (z1 : List Int) (w : World)
    (w0 : (a0 = none ∧ len0 = 0 ∧ cap0 = 0 ∧ z0 = []) ∨
      ∃ x, a0 = some x ∧ len0 ≤ cap0 ∧ cap0 ≤ maxLen ∧ z0.length = cap0 ∧ (∀ i, i < z0.length → w.cell? (x.add i) = some (.int .u8 (z0.getD i 0))) ∧ ∀ n ∈ z0, (Lit.int .u8 n).wf = true)
    (w1 : (a1 = none ∧ len1 = 0 ∧ cap1 = 0 ∧ z1 = []) ∨
      ∃ x, a1 = some x ∧ len1 ≤ cap1 ∧ cap1 ≤ maxLen ∧ z1.length = cap1 ∧ (∀ i, i < z1.length → w.cell? (x.add i) = some (.int .u8 (z1.getD i 0))) ∧ ∀ n ∈ z1, (Lit.int .u8 n).wf = true) :
    Calls Try.prog 7 #[.slice a0 len0 cap0, .slice a1 len1 cap1] w fun e w' => e = .returned (.bool true) ∧ Below w.heap.size w w' := by
  obtain ⟨hv0, hwf0, hlen0⟩ := bytes_of_row w0
  obtain ⟨hv1, hwf1, hlen1⟩ := bytes_of_row w1
  generalize z0.take len0 = xs at *
  generalize z1.take len1 = ys at *
  subst hlen0 hlen1
  clear w0 w1
  have Hwf0 := Lib.hid hwf0
  have Hwf1 := Lib.hid hwf1
  clear hwf0 hwf1
  cases hlong : (decide (1048576 < xs.length) || decide (1048576 < ys.length))
  · go_enter Try.func7, Try.ntmps7
    go_wp2_with fail
    refine (b10Long_any _ _ xs ys _ hv0 hv1).mono ?_
    rintro e w' ⟨rfl, rfl⟩
    go_wp2_with fail
    refine (b10At_any _ ys _ _ _ hv1 Hwf1.out (by omega) (by omega) (by omega) (by omega)).mono ?_
    rintro e w' ⟨⟨x0, rfl, hx0a, hx0b⟩, rfl⟩
    go_wp2_with fail
    refine (b10At_any _ ys _ _ _ hv1 Hwf1.out (by omega) (by omega) (by omega) (by omega)).mono ?_
    rintro e w' ⟨⟨x1, rfl, hx1a, hx1b⟩, rfl⟩
    go_wp2_with fail
    refine (b10At_any _ ys _ _ _ hv1 Hwf1.out (by omega) (by omega) (by omega) (by omega)).mono ?_
    rintro e w' ⟨⟨x2, rfl, hx2a, hx2b⟩, rfl⟩
    go_wp2_with fail
    refine (localTime_yes _ _ _ (by omega) (by omega) (by omega) (by omega)).mono ?_
    rintro e w' ⟨rfl, rfl⟩
    obtain ⟨t, ht⟩ : ∃ t, 256 * x0 + x1 - 30000 = t := ⟨_, rfl⟩
    obtain ⟨z, hz⟩ : ∃ z, 30 * (x2 - 24) = z := ⟨_, rfl⟩
    rw [ht, hz]
    have ht1 : -30000 ≤ t := by omega
    have ht2 : t ≤ 40000 := by omega
    have hz1 : -720 ≤ z := by omega
    have hz2 : z ≤ 840 := by omega
    clear ht hz hx0a hx0b hx1a hx1b hx2a hx2b
    obtain ⟨d, hd⟩ : ∃ d, (t + z) / 1440 = d := ⟨_, rfl⟩
    obtain ⟨r, hr⟩ : ∃ r, (t + z) % 1440 = r := ⟨_, rfl⟩
    rw [hd, hr]
    have hr1 : 0 ≤ r := by omega
    have hr2 : r < 1440 := by omega
    have hd1 : -1000 ≤ d := by omega
    have hd2 : d ≤ 1000 := by omega
    have hne : ((1440 * d + r) != (t + z)) = false := by simp; omega
    clear hd hr
    go_wp2_with fail
    have hzs : OwnI (w.alloc (.cells #[.int .i64 z] 2)) w.heap.size (.slice (some ⟨w.heap.size, 0, none⟩) 1 1) [z] := OwnI.lit w w.heap.size [z] (Nat.le_refl _) (by unfold maxLen; simp)
    have hB0 : Below w.heap.size w (w.alloc (.cells #[.int .i64 z] 2)) := (Below.refl _ w).alloc (Nat.le_refl _) _
    go_loopw [10, 11] (fun zv i wr => ∃ (k : Nat) (zs : List Int) (g c : Nat), k ≤ 3 ∧ i = .int .i64 k ∧ zv = .slice (some ⟨g, 0, none⟩) zs.length c ∧ zs.length = k + 1 ∧ OwnI wr w.heap.size (.slice (some ⟨g, 0, none⟩) zs.length c) zs ∧ Below w.heap.size w wr ∧ ∀ x ∈ zs, -720 ≤ x ∧ x ≤ 840) (fun _ i _ => 3 - (intOf i).toNat)
    case atStart => exact ⟨0, [z], w.heap.size, 1, by omega, rfl, rfl, rfl, hzs, hB0, by simpa using ⟨hz1, hz2⟩⟩
    case round =>
      obtain ⟨k, zs, g, c, hk, rfl, rfl, hlen, hown, hB, hzb⟩ := hrel
      have hv0' := hv0.below hB (Nat.le_refl _)
      have hv1' := hv1.below hB (Nat.le_refl _)
      have Hown := Lib.hid hown
      have Hzb := Lib.hid hzb
      have Hlen := Lib.hid hlen
      have hl3 : zs.length ≤ 4 := by omega
      clear hzs hB0 hown hzb hlen
      go_wp2_with fail
      refine (b10At_any _ ys _ _ _ hv1' Hwf1.out (by omega) (by omega) (by omega) (by omega)).mono ?_
      rintro e w' ⟨⟨x3, rfl, hx3a, hx3b⟩, rfl⟩
      by_cases hlt : (k : Int) < x3
      · go_wp2_with fail
        refine (b10At_any _ xs _ _ _ hv0' Hwf0.out (by omega) (by omega) (by omega) (by omega)).mono ?_
        rintro e w' ⟨⟨x4, rfl, hx4a, hx4b⟩, rfl⟩
        go_wp2_with (at_builtin; refine append_i64 rfl _ _ rfl w.heap.size (.slice (some ⟨g, 0, none⟩) zs.length c) zs [60 * (x4 - 12)] (Nat.zero_lt_succ _) rfl _ rfl Hown.out hB.size (by simp; omega) ?_; intro g1 c1 w1 hown1 hg1)
        have hB1 := Below.app hB Hown.out hg1 hB.size
        go_wp2_with fail
        go_roundw
        case rel =>
          refine ⟨k + 1, zs ++ [60 * (x4 - 12)], g1, c1, by omega, by go_num, by simp, by simp; exact Hlen.out, by simpa using hown1, hB1, ?_⟩
          intro y hy
          rcases List.mem_append.1 hy with h | h
          · exact Hzb.out y h
          · obtain rfl : y = 60 * (x4 - 12) := by simpa using h
            omega
        case measure => simp [intOf]; omega
      · go_wp2_with fail
        refine (b10At_any _ ys _ _ _ hv1' Hwf1.out (by omega) (by omega) (by omega) (by omega)).mono ?_
        rintro e w' ⟨⟨x5, rfl, hx5a, hx5b⟩, rfl⟩
        go_wp2_with fail
        refine (b10At_any _ ys _ _ _ hv1' Hwf1.out (by omega) (by omega) (by omega) (by omega)).mono ?_
        rintro e w' ⟨⟨x6, rfl, hx6a, hx6b⟩, rfl⟩
        go_wp2_with fail
        refine (b10At_any _ ys _ _ _ hv1' Hwf1.out (by omega) (by omega) (by omega) (by omega)).mono ?_
        rintro e w' ⟨⟨x7, rfl, hx7a, hx7b⟩, rfl⟩
        go_wp2_with fail
        have hI := OwnI.ints Hown.out
        have hcw : (Lit.int .i64 (60 * x5 + 60 * (1 + x6))).wf = true := wf_i64_iff.2 ⟨by omega, by omega⟩
        have hlw : (Lit.int .i64 (15 * (1 + x7))).wf = true := wf_i64_iff.2 ⟨by omega, by omega⟩
        obtain ⟨op, hop⟩ : ∃ op, 60 * x5 = op := ⟨_, rfl⟩
        rw [hop] at hcw ⊢
        obtain ⟨cl, hcl⟩ : ∃ cl, op + 60 * (1 + x6) = cl := ⟨_, rfl⟩
        rw [hcl] at hcw ⊢
        obtain ⟨lo, hlo⟩ : ∃ lo, 15 * (1 + x7) = lo := ⟨_, rfl⟩
        rw [hlo] at hlw ⊢
        have hlo1 : lo ≤ 1000 := by omega
        have hlo2 : -1000 ≤ lo := by omega
        clear hop hcl hlo hx3a hx3b hx5a hx5b hx6a hx6b hx7a hx7b hlt
        refine (implMeeting_r _ zs op cl lo _ hI hcw).mono ?_
        rintro e W1 ⟨rfl, hb1⟩
        have hI1 := hI.below hb1 (Nat.le_refl _)
        have hB1 := hB.trans (hb1.mono hB.size)
        obtain ⟨R1, hR1⟩ : ∃ R1, meetR1 zs op cl lo = R1 := ⟨_, rfl⟩
        obtain ⟨R2, hR2⟩ : ∃ R2, meetR2 zs op cl lo = R2 := ⟨_, rfl⟩
        rw [hR1, hR2]
        have HR1 := Lib.hid hR1
        have HR2 := Lib.hid hR2
        clear hR1 hR2
        go_wp2_with fail
        refine (specMeeting_r _ zs op cl lo _ hI1 hcw hlw).mono ?_
        rintro e W2 ⟨rfl, hb2⟩
        have hI2 := hI1.below hb2 (Nat.le_refl _)
        have hB2 := hB1.trans (hb2.mono hB1.size)
        rw [HR1.out, HR2.out]
        cases R2
        · go_wp2_with fail
          go_ret
          exact ⟨rfl, hB2⟩
        · have hok := meet_ok HR2.out
          rw [HR1.out] at hok
          obtain ⟨ok1, ok2, ok3⟩ := hok
          have Ok3 := Lib.hid ok3
          obtain ⟨hmI, aI, cI, hvI, hcapI, hcI⟩ := hI2
          obtain ⟨rfl, rfl⟩ : some ⟨g, 0, none⟩ = aI ∧ c = cI := by simpa using hvI
          clear ok3 hb1 hb2 hI hI1 hvI hv0' hv1' hv0 hv1 hB hB1
          go_wp2_with fail
          go_loop [19, 20, 21, 22, 116, 119] (fun _ _ _ _ i _ => ∃ k : Nat, k ≤ zs.length ∧ i = .int .i64 k) (fun _ _ _ _ i _ => zs.length - (intOf i).toNat)
          case atStart => exact ⟨0, Nat.zero_le _, rfl⟩
          case round =>
            obtain ⟨j, hj, rfl⟩ := hrel
            by_cases hltj : j < zs.length
            · obtain ⟨b, o, hbo, hbs, hck⟩ := hcI j hltj
              obtain ⟨rfl, rfl⟩ : g = b ∧ 0 = o := by simpa using hbo
              rw [Nat.zero_add] at hck
              have hq := Ok3.out zs[j] (List.getElem_mem _)
              obtain ⟨q, hqq⟩ : ∃ q, zs[j] = q := ⟨_, rfl⟩
              rw [hqq] at hck hq
              obtain ⟨q1, q2, q3, q4⟩ := hq
              obtain ⟨s, hs⟩ : ∃ s, (R1 + q) % 1440 = s := ⟨_, rfl⟩
              rw [hs] at q3 q4
              have Hs := Lib.hid hs
              clear hcI hbo hqq hs
              go_wp2_with fail
              refine (localTime_yes _ _ _ (by omega) (by omega) q1 q2).mono ?_
              rintro e w' ⟨rfl, rfl⟩
              rw [Hs.out]
              have hs1 : s < 1440 := by have := Hs.out; omega
              have hs2 : 0 ≤ s := by have := Hs.out; omega
              go_wp2_with fail
              go_round
              case rel => exact ⟨j + 1, by omega, by go_num⟩
              case measure => simp [intOf]; omega
            · clear hcI
              go_wp2_with fail
              go_ret
              exact ⟨ret_bool (by simp), hB2⟩
  · go_enter Try.func7, Try.ntmps7
    go_wp2_with fail
    refine (b10Long_any _ _ xs ys _ hv0 hv1).mono ?_
    rintro e w' ⟨rfl, rfl⟩
    go_wp2
    go_ret
    exact ⟨rfl, Below.refl _ _⟩
end Go.Proofs.Ythnjbgncomoiiaa
