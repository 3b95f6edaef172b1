
/- CountBreaks, program and reference. Conditions: at most 2^20 numbers. -/
import Derived.Test.YtmhepomjbaendaaHomes
namespace Go.Proofs.Ytmhepomjbaendaa
open Go.RowKit Go.Shelf Go.BigFrame
set_option linter.unusedVariables false
set_option linter.unusedSimpArgs false
attribute [local go_sem] Oper.semAt_some

/-- How often the same as one round before. -/
def brk (t : Nat) (bs : List Bool) (k : Nat) : Nat := (List.range k).countP fun j => bs.getD (t + j) false == bs.getD j false
theorem brk_succ (t : Nat) (bs : List Bool) (k : Nat) : brk t bs (k + 1) = brk t bs k + if bs.getD (t + k) false == bs.getD k false then 1 else 0 := by
  unfold brk
  rw [List.range_succ, List.countP_append]
  simp [List.countP_cons]
theorem brk_le (t : Nat) (bs : List Bool) (k : Nat) : brk t bs k ≤ k := by
  unfold brk
  exact Nat.le_trans List.countP_le_length (by simp)
def breaks (n : Int) (xs : List Int) : Int := if roundsOk n xs then (brk n.toNat (homesTo n.toNat xs (xs.length / 2)) (xs.length - n.toNat) : Nat) else 0

theorem OwnB.cell {w : World} {N g n c : Nat} {xs : List Bool} (h : OwnB w N (.slice (some ⟨g, 0, none⟩) n c) xs) (hn : n = xs.length) (j : Nat) (hj : j < xs.length) : w.cell? ⟨g, j, none⟩ = some (.bool (xs.getD j false)) := by
  rw [(h.store hn j hj true).1, List.getD_eq_getElem?_getD, List.getElem?_eq_getElem hj]; rfl

theorem OwnB.base {w : World} {B B' : Nat} {v : Value} {xs : List Bool} (h : OwnB w B v xs) (hB : B' ≤ B) : OwnB w B' v xs := by
  obtain ⟨h1, h2⟩ := h
  refine ⟨h1, ?_⟩
  rcases h2 with h2 | ⟨g, cap, cur, e1, e2, e3⟩
  · exact .inl h2
  · exact .inr ⟨g, cap, cur, e1, Nat.le_trans hB e2, e3⟩

set_option maxHeartbeats 1000000 in
theorem specBreaks_any (n : Int) (v : Value) (xs : List Int) (w : World) (hv : Ints w v xs) (hn : (Lit.int .i64 n).wf = true) (hl : xs.length ≤ 1048576) :
    Calls Try.prog 17 #[.int .i64 n, v] w fun e w' => e = .returned (.tuple #[.int .i64 (breaks n xs), .bool (roundsOk n xs)]) ∧ Below w.heap.size w w' := by
  have hr := l07Rounds_any n v xs w hv hn hl
  unfold breaks
  cases hok : roundsOk n xs
  · rw [hok] at hr
    have Hr := Lib.hid hr
    clear hr hv hok
    go_enter Try.func17, Try.ntmps17
    go_wp2_with (go_at_call 63; refine Hr.out.mono ?_; rintro e w' ⟨rfl, hb⟩)
    go_ret2
    exact ⟨rfl, hb⟩
  · rw [hok] at hr
    have hnn : ∃ t : Nat, n = t := by
      unfold roundsOk at hok
      rw [Bool.and_eq_true, Bool.and_eq_true] at hok
      obtain ⟨t, _, h, _⟩ := roundsHead_bounds hok.1.1
      exact ⟨t, h⟩
    obtain ⟨t, rfl⟩ := hnn
    obtain ⟨R, ht, ht2, hev, hlen, hle, hw⟩ := rounds_win hok
    have hH := fun w' (hB : Below w.heap.size w w') => l07Homes_any t R v xs w' (hv.below hB (Nat.le_refl _)) ht ht2 hev hlen hle hw
    have Hr := Lib.hid hr
    have HH := Lib.hid hH
    obtain ⟨bs, hbs⟩ : ∃ bs, homesTo t xs (xs.length / 2) = bs := ⟨_, rfl⟩
    have hbl : bs.length = xs.length := by rw [← hbs, homesTo_length]
    have HBS := Lib.hid hbs
    have HBL := Lib.hid hbl
    obtain ⟨hm, a, c, rfl, hcap, hc⟩ := hv
    rw [Int.toNat_natCast, hbs]
    clear hr hH hc hok hw hlen hbs hbl hm
    go_enter Try.func17, Try.ntmps17
    go_wp2_with (first | (go_at_call 63; refine Hr.out.mono ?_; rintro e W1 ⟨rfl, hb⟩) | (go_at_call 64; refine (HH.out _ hb).mono ?_; rintro e W2 ⟨⟨g, rfl, ho⟩, hb2⟩))
    have hB2 := hb.trans (hb2.mono hb.size)
    rw [HBS.out] at ho
    have Ho := Lib.hid ho
    clear ho hb hb2
    go_loopw [7, 8] (fun k i wr => ∃ j I : Nat, Hid (I = t + j) ∧ j ≤ xs.length - t ∧ i = .int .i64 I ∧ k = .int .i64 (brk t bs j : Nat) ∧ Below w.heap.size w wr ∧ OwnB wr W1.heap.size (.slice (some ⟨g, 0, none⟩) xs.length xs.length) bs) (fun _ i _ => xs.length - (intOf i).toNat)
    case atStart => exact ⟨0, t, rfl, Nat.zero_le _, rfl, rfl, hB2, Ho.out⟩
    case round =>
      obtain ⟨j, I, hI, hj, rfl, rfl, hb, ho⟩ := hrel
      obtain ⟨n, hn'⟩ : ∃ n, brk t bs j = n := ⟨_, rfl⟩
      have hnl : n ≤ j := by rw [← hn']; exact brk_le _ _ _
      have hsucc := brk_succ t bs j
      rw [hn'] at hsucc ⊢
      by_cases hlt : I < xs.length
      · have hjI : I = t + j := hI.out
        have c0 := ho.cell HBL.out.symm I (by rw [HBL.out]; exact hlt)
        have c1 := ho.cell HBL.out.symm j (by rw [HBL.out]; omega)
        obtain ⟨b0, hb0⟩ : ∃ b0, bs.getD I false = b0 := ⟨_, rfl⟩
        obtain ⟨b1, hb1⟩ : ∃ b1, bs.getD j false = b1 := ⟨_, rfl⟩
        rw [← hjI, hb0, hb1] at hsucc
        rw [hb0] at c0
        rw [hb1] at c1
        have hsub : (I : Int) - (t : Int) = (j : Int) := by omega
        have i0 : (0 : Int) ≤ (I : Int) := by omega
        have i1 : (I : Int) < (xs.length : Int) := by omega
        have j0 : (0 : Int) ≤ (j : Int) := by omega
        have j1 : (j : Int) < (xs.length : Int) := by omega
        have hn480 : n ≤ 480 := by omega
        have HS := Lib.hid hsucc
        have Ho' := Lib.hid ho
        clear hsucc hb0 hb1 hn' ho hjI hnl
        cases hq : (b0 == b1)
        · go_wp2
          go_quiet (fail)
          go_wp2
          go_roundw
          case rel => exact ⟨j + 1, I + 1, by have := hI.out; show I + 1 = t + (j + 1); omega, by have := hI.out; omega, by go_num, by rw [HS.out, hq]; rfl, below_drewN _ hb, Ho'.out.drewN _⟩
          case measure => simp [intOf]; omega
        · go_wp2
          go_quiet (fail)
          go_wp2
          go_roundw
          case rel => exact ⟨j + 1, I + 1, by have := hI.out; show I + 1 = t + (j + 1); omega, by have := hI.out; omega, by go_num, by rw [HS.out, hq]; go_num, below_drewN _ hb, Ho'.out.drewN _⟩
          case measure => simp [intOf]; omega
      · have hjl : j = xs.length - t := by have := hI.out; omega
        rw [hjl] at hn'
        have HN := Lib.hid hn'
        have Ho' := Lib.hid ho
        clear hn' hsucc ho hnl
        go_wp2
        go_ret2
        rw [HN.out]
        exact ⟨rfl, hb⟩

theorem implHomes_no (n : Int) (v : Value) (xs : List Int) (w : World) (hv : Ints w v xs) (hn : (Lit.int .i64 n).wf = true) (hl : xs.length ≤ 1048576) (hok : roundsOk n xs = false) :
    Calls Try.prog 15 #[.int .i64 n, v] w fun e w' => e = .returned (.tuple #[.slice none 0 0, .bool false]) ∧ Below w.heap.size w w' := by
  have hr := implRounds_any n v xs w hv hn hl
  rw [hok] at hr
  have Hr := Lib.hid hr
  clear hr hv hok
  go_enter Try.func15, Try.ntmps15
  go_wp2_with (go_at_call 18; refine Hr.out.mono ?_; rintro e w' ⟨rfl, hb⟩)
  go_ret2
  exact ⟨rfl, hb⟩
theorem implHomes_yes (n : Int) (v : Value) (xs : List Int) (w : World) (hv : Ints w v xs) (hn : (Lit.int .i64 n).wf = true) (hl : xs.length ≤ 1048576) (hok : roundsOk n xs = true) :
    Calls Try.prog 15 #[.int .i64 n, v] w fun e w' => (∃ g, e = .returned (.tuple #[.slice (some ⟨g, 0, none⟩) xs.length xs.length, .bool true]) ∧ OwnB w' w.heap.size (.slice (some ⟨g, 0, none⟩) xs.length xs.length) (homesTo n.toNat xs (xs.length / 2))) ∧ Below w.heap.size w w' := by
  have hr := implRounds_any n v xs w hv hn hl
  rw [hok] at hr
  have hnn : ∃ t : Nat, n = t := by
    unfold roundsOk at hok
    rw [Bool.and_eq_true, Bool.and_eq_true] at hok
    obtain ⟨t, _, h, _⟩ := roundsHead_bounds hok.1.1
    exact ⟨t, h⟩
  obtain ⟨t, rfl⟩ := hnn
  obtain ⟨R, ht, ht2, hev, hlen, hle, hw⟩ := rounds_win hok
  rw [Int.toNat_natCast]
  have hH := fun w' (hB : Below w.heap.size w w') => homesOf_any t R v xs w' (hv.below hB (Nat.le_refl _)) ht ht2 hev hlen hle hw
  have Hr := Lib.hid hr
  have HH := Lib.hid hH
  clear hr hH hv hok hw hlen
  go_enter Try.func15, Try.ntmps15
  go_wp2_with (first | (go_at_call 18; refine Hr.out.mono ?_; rintro e W1 ⟨rfl, hb⟩) | (go_at_call 62; refine (HH.out _ hb).mono ?_; rintro e W2 ⟨⟨g, rfl, ho⟩, hb2⟩))
  go_ret2
  exact ⟨⟨g, rfl, ho.base hb.size⟩, hb.trans (hb2.mono hb.size)⟩

set_option maxHeartbeats 1000000 in
theorem implBreaks_any (n : Int) (v : Value) (xs : List Int) (w : World) (hv : Ints w v xs) (hn : (Lit.int .i64 n).wf = true) (hl : xs.length ≤ 1048576) :
    Calls Try.prog 16 #[.int .i64 n, v] w fun e w' => e = .returned (.tuple #[.int .i64 (breaks n xs), .bool (roundsOk n xs)]) ∧ Below w.heap.size w w' := by
  have hr := implHomes_no n v xs w hv hn hl
  unfold breaks
  cases hok : roundsOk n xs
  · have Hr := Lib.hid (hr hok)
    clear hr hv hok
    go_enter Try.func16, Try.ntmps16
    go_wp2_with (go_at_call 15; refine Hr.out.mono ?_; rintro e w' ⟨rfl, hb⟩)
    go_ret2
    exact ⟨rfl, hb⟩
  · have hH := implHomes_yes n v xs w hv hn hl hok
    have hnn : ∃ t : Nat, n = t := by
      unfold roundsOk at hok
      rw [Bool.and_eq_true, Bool.and_eq_true] at hok
      obtain ⟨t, _, h, _⟩ := roundsHead_bounds hok.1.1
      exact ⟨t, h⟩
    obtain ⟨t, rfl⟩ := hnn
    obtain ⟨R, ht, ht2, hev, hlen, hle, hw⟩ := rounds_win hok
    obtain ⟨bs, hbs⟩ : ∃ bs, homesTo t xs (xs.length / 2) = bs := ⟨_, rfl⟩
    have hbl : bs.length = xs.length := by rw [← hbs, homesTo_length]
    have HBS := Lib.hid hbs
    have HBL := Lib.hid hbl
    obtain ⟨hm, a, c, rfl, hcap, hc⟩ := hv
    rw [Int.toNat_natCast] at hH
    rw [Int.toNat_natCast, hbs]
    rw [hbs] at hH
    have HH := Lib.hid hH
    clear hr hH hc hok hw hlen hbs hbl hm
    go_enter Try.func16, Try.ntmps16
    go_wp2_with (go_at_call 15; refine HH.out.mono ?_; rintro e W1 ⟨⟨g, rfl, ho⟩, hB2⟩)
    have Ho := Lib.hid ho
    clear ho
    go_loopw [8, 9] (fun k i wr => ∃ j I : Nat, Hid (I = t + j) ∧ j ≤ xs.length - t ∧ i = .int .i64 I ∧ k = .int .i64 (brk t bs j : Nat) ∧ Below w.heap.size w wr ∧ OwnB wr w.heap.size (.slice (some ⟨g, 0, none⟩) xs.length xs.length) bs) (fun _ i _ => xs.length - (intOf i).toNat)
    case atStart => exact ⟨0, t, rfl, Nat.zero_le _, rfl, rfl, hB2, Ho.out⟩
    case round =>
      obtain ⟨j, I, hI, hj, rfl, rfl, hb, ho⟩ := hrel
      obtain ⟨n, hn'⟩ : ∃ n, brk t bs j = n := ⟨_, rfl⟩
      have hnl : n ≤ j := by rw [← hn']; exact brk_le _ _ _
      have hsucc := brk_succ t bs j
      rw [hn'] at hsucc ⊢
      by_cases hlt : I < xs.length
      · have hjI : I = t + j := hI.out
        have c0 := ho.cell HBL.out.symm I (by rw [HBL.out]; exact hlt)
        have c1 := ho.cell HBL.out.symm j (by rw [HBL.out]; omega)
        obtain ⟨b0, hb0⟩ : ∃ b0, bs.getD I false = b0 := ⟨_, rfl⟩
        obtain ⟨b1, hb1⟩ : ∃ b1, bs.getD j false = b1 := ⟨_, rfl⟩
        rw [← hjI, hb0, hb1] at hsucc
        rw [hb0] at c0
        rw [hb1] at c1
        have hsub : (I : Int) - (t : Int) = (j : Int) := by omega
        have i0 : (0 : Int) ≤ (I : Int) := by omega
        have i1 : (I : Int) < (xs.length : Int) := by omega
        have j0 : (0 : Int) ≤ (j : Int) := by omega
        have j1 : (j : Int) < (xs.length : Int) := by omega
        have hn480 : n ≤ 480 := by omega
        have HS := Lib.hid hsucc
        have Ho' := Lib.hid ho
        clear hsucc hb0 hb1 hn' ho hjI hnl
        cases hq : (b0 == b1)
        · go_wp2
          go_quiet (fail)
          go_wp2
          go_roundw
          case rel => exact ⟨j + 1, I + 1, by have := hI.out; show I + 1 = t + (j + 1); omega, by have := hI.out; omega, by go_num, by rw [HS.out, hq]; rfl, below_drewN _ hb, Ho'.out.drewN _⟩
          case measure => simp [intOf]; omega
        · go_wp2
          go_quiet (fail)
          go_wp2
          go_roundw
          case rel => exact ⟨j + 1, I + 1, by have := hI.out; show I + 1 = t + (j + 1); omega, by have := hI.out; omega, by go_num, by rw [HS.out, hq]; go_num, below_drewN _ hb, Ho'.out.drewN _⟩
          case measure => simp [intOf]; omega
      · have hjl : j = xs.length - t := by have := hI.out; omega
        rw [hjl] at hn'
        have HN := Lib.hid hn'
        have Ho' := Lib.hid ho
        clear hn' hsucc ho hnl
        go_wp2
        go_ret2
        rw [HN.out]
        exact ⟨rfl, hb⟩
end Go.Proofs.Ytmhepomjbaendaa
