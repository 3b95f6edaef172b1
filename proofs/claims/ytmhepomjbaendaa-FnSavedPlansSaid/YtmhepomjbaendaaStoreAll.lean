
/- StoreAll, both sides: one plain result. Conditions: at most 2^20 numbers. -/
import Derived.Test.YtmhepomjbaendaaStoreBoth
import Derived.Test.YtmhepomjbaendaaSavedS
namespace Go.Proofs.Ytmhepomjbaendaa
open Go.RowKit Go.BigFrame
set_option linter.unusedVariables false
set_option linter.unusedSimpArgs false

def joined (xs : List Sv) (i : Nat) : ByteArray := (xs.take i).foldl (fun a x => a ++ storeS x) ⟨#[]⟩
theorem joined_succ (xs : List Sv) (i : Nat) (h : i < xs.length) : joined xs (i + 1) = joined xs i ++ storeS xs[i] := by
  unfold joined; rw [List.take_succ_eq_append_getElem h, List.foldl_append]; rfl
theorem storeS_size {x : Sv} (hok : savedOk x = true) (hsm : ∀ y ∈ x.2.1, y.2.2.1.length ≤ 1048576) : (storeS x).size ≤ 40000000 := by
  obtain ⟨s, ts, st⟩ := x
  obtain ⟨b8, bt1, bt2, bst, btask, bstart⟩ := saved_bounds hok
  show (strOfNums (storeB (s, ts, st))).size ≤ _
  rw [strOfNums_size]
  have hl : (tasksB ts ts.length).length ≤ ts.length * 2097155 := tasksB_len (ts := ts) hsm ts.length (Nat.le_refl _)
  show (bodyB (s, ts, st) ++ [_, _]).length ≤ _
  show (headB s ts.length ++ tasksB ts ts.length ++ startsB st st.length ++ [_, _]).length ≤ _
  simp only [List.length_append, headB_len, startsB_len]
  simp
  omega
def allOk (xs : List Sv) : Bool := decide (xs.length ≤ 8) && xs.all savedOk
def storeAllR (xs : List Sv) : ByteArray := if allOk xs = true then joined xs xs.length else ⟨#[]⟩
theorem storeAllR_yes {xs : List Sv} (h : allOk xs = true) : storeAllR xs = joined xs xs.length := by unfold storeAllR; rw [if_pos h]
theorem storeAllR_no {xs : List Sv} (h : allOk xs = false) : storeAllR xs = ⟨#[]⟩ := by unfold storeAllR; rw [h]; rfl
theorem allOk_bad {xs : List Sv} {i : Nat} (hi : i < xs.length) (h : savedOk xs[i] = false) : allOk xs = false := by
  unfold allOk
  rw [show xs.all savedOk = false from List.all_eq_false.2 ⟨_, List.getElem_mem hi, by rw [h]; simp⟩, Bool.and_false]
theorem allOk_end {xs : List Sv} (h8 : xs.length ≤ 8) (h : ∀ i (hi : i < xs.length), savedOk xs[i] = true) : allOk xs = true := by
  unfold allOk
  rw [show xs.all savedOk = true from List.all_eq_true.2 fun x hx => by obtain ⟨i, hi, rfl⟩ := List.mem_iff_getElem.1 hx; exact h i hi]
  simpa using h8
theorem allOk_long {xs : List Sv} (h8 : ¬ xs.length ≤ 8) : allOk xs = false := by unfold allOk; simp [h8]

set_option maxRecDepth 100000 in
set_option maxHeartbeats 2000000 in
theorem implStoreAll_u (v : Value) (xs : List Sv) (w : World) (hv : SavedsR w v xs) (hsm : smallSaveds xs) :
    Calls Try.prog 25 #[v] w fun e w' => e = .returned (.tuple #[.string (storeAllR xs), .bool (allOk xs)]) ∧ Below w.heap.size w w' := by
  have HV : Hid (∀ W, Below w.heap.size w W → SavedsR W v xs) := fun W hW => hv.below hW (Nat.le_refl _)
  have HSM := Lib.hid hsm
  have hm := hv.1
  unfold maxLen at hm
  obtain ⟨a, c, rfl, hcap, _⟩ := hv.at_
  by_cases h8 : xs.length ≤ 8
  · have HBAD : Hid (∀ i (hi : i < xs.length), savedOk xs[i] = false → allOk xs = false ∧ storeAllR xs = ⟨#[]⟩) := fun i hi h => ⟨allOk_bad hi h, storeAllR_no (allOk_bad hi h)⟩
    have HEND : Hid ((∀ i (hi : i < xs.length), savedOk xs[i] = true) → allOk xs = true ∧ storeAllR xs = joined xs xs.length) := fun h => ⟨allOk_end h8 h, storeAllR_yes (allOk_end h8 h)⟩
    have h8' : ¬ (8 : Int) < (xs.length : Int) := by omega
    clear hv hsm
    go_enter Try.func25, Try.ntmps25
    go_wp2
    go_loopw [4, 14] (fun vs vi wr => ∃ (k : Nat) (J : ByteArray), k ≤ xs.length ∧ vi = .int .i64 k ∧ vs = .string J ∧ Hid (J = joined xs k) ∧ Hid (J.size ≤ k * 40000000) ∧ Hid (Below w.heap.size w wr) ∧ Hid (∀ i (hi : i < xs.length), i < k → savedOk xs[i] = true)) (fun _ vi _ => xs.length - (intOf vi).toNat)
    case atStart => exact ⟨0, _, Nat.zero_le _, rfl, rfl, rfl, Nat.le_refl _, Below.refl _ _, fun i hi h => by omega⟩
    case round =>
      obtain ⟨k, J, hk, rfl, rfl, HJ, HJS, HB, hok⟩ := hrel
      obtain ⟨wr', rfl⟩ : ∃ wr' : World, wr' = wr := ⟨_, rfl⟩
      by_cases hlt : k < xs.length
      · obtain ⟨a3, c3, hsl3, _, hc⟩ := (HV.out wr' HB.out).at_
        obtain ⟨rfl, rfl⟩ : a = a3 ∧ c = c3 := by simpa using hsl3
        obtain ⟨b, o, vt, vs, rfl, hbs, h0, h1, h2, g0, g1, g2⟩ := hc k hlt
        have HBA : Hid (Below wr'.heap.size wr' (wr'.alloc (.cells #[.string xs[k].1, vt, vs] 44))) := (Below.refl _ _).alloc (Nat.le_refl _) _
        have hsmk := HSM.out.2 _ (List.getElem_mem hlt)
        have hcall := implStore_u xs[k].1 vt vs xs[k].2.1 xs[k].2.2 _ h0 (h1.below HBA.out (Nat.le_refl _)) (h2.ints.1.below HBA.out (Nat.le_refl _)) (fun x hx => (hsmk.2.1.2 x hx).1)
        rw [show (xs[k].1, xs[k].2.1, xs[k].2.2) = xs[k] from rfl] at hcall
        unfold savedV at hcall
        have HBAD2 := Lib.hid (HBAD.out k hlt)
        have HNX := Lib.hid (joined_succ xs k hlt)
        have HSY : Hid (savedOk xs[k] = true → storeR xs[k] = storeS xs[k] ∧ (storeS xs[k]).size ≤ 40000000) := fun h => ⟨storeR_yes h, storeS_size h fun y hy => (hsmk.2.1.2 y hy).1⟩
        have HOK : Hid (savedOk xs[k] = true → ∀ i (hi : i < xs.length), i < k + 1 → savedOk xs[i] = true) := fun h i hi h1 => by
          rcases Nat.lt_succ_iff_lt_or_eq.1 h1 with h4 | rfl
          · exact hok.out i hi h4
          · exact h
        obtain ⟨x0, hx0⟩ : ∃ z, xs[k].1 = z := ⟨_, rfl⟩
        obtain ⟨Y, hY⟩ : ∃ z, savedOk xs[k] = z := ⟨_, rfl⟩
        obtain ⟨Z, hZ⟩ : ∃ z, storeR xs[k] = z := ⟨_, rfl⟩
        obtain ⟨S, hS⟩ : ∃ z, storeS xs[k] = z := ⟨_, rfl⟩
        rw [hY, hZ] at hcall
        rw [hY] at HBAD2 HOK HSY
        rw [hZ, hS] at HSY
        rw [hS] at HNX
        rw [hx0] at g0 hcall HBA
        obtain ⟨_, p1, p2, rfl, _⟩ := h1
        obtain ⟨_, q1, q2, rfl, _⟩ := h2.ints.1
        have hk0 : (0 : Int) ≤ (k : Int) := by omega
        have hk1 : (k : Int) < (xs.length : Int) := by omega
        have HCALL := Lib.hid hcall
        clear hcall hc hsl3 h2 hx0 hY hZ hS hok hsmk
        cases Y
        · have HF := Lib.hid (HBAD2.out rfl)
          go_wp2_with (go_at_call 22; refine HCALL.out.mono ?_; rintro e W1 ⟨rfl, hb1⟩; have HB1 : Hid (Below w.heap.size w W1) := HB.out.trans ((HBA.out.trans (hb1.mono HBA.out.size)).mono HB.out.size); clear hb1)
          go_ret2
          exact ⟨by rw [HF.out.1, HF.out.2]; rfl, HB1.out⟩
        · have HF := Lib.hid (HOK.out rfl)
          obtain ⟨rfl, hss⟩ := HSY.out rfl
          have hjs := HJS.out
          have hjz : ¬ 9223372036854775807 < J.size + Z.size := by omega
          have HSZ : Hid ((J ++ Z).size ≤ (k + 1) * 40000000) := by show _ ≤ _; rw [ByteArray.size_append]; omega
          clear hjs
          go_wp2_with (go_at_call 22; refine HCALL.out.mono ?_; rintro e W1 ⟨rfl, hb1⟩; have HB1 : Hid (Below w.heap.size w W1) := HB.out.trans ((HBA.out.trans (hb1.mono HBA.out.size)).mono HB.out.size); clear hb1)
          go_roundw
          case rel => exact ⟨k + 1, _, by omega, by go_num, rfl, by show _ = _; rw [HNX.out, ← HJ.out], HSZ.out, HB1.out, HF.out⟩
          case measure => simp [intOf]; omega
      · have hke : k = xs.length := by omega
        subst hke
        have HF := Lib.hid (HEND.out fun j h1 => hok.out j h1 h1)
        clear hok
        go_wp2
        go_ret2
        exact ⟨by rw [HF.out.1, HF.out.2, ← HJ.out]; rfl, HB.out⟩
  · have h8' : (8 : Int) < (xs.length : Int) := by omega
    have HF : Hid (allOk xs = false ∧ storeAllR xs = ⟨#[]⟩) := ⟨allOk_long h8, storeAllR_no (allOk_long h8)⟩
    clear hv hsm h8
    go_enter Try.func25, Try.ntmps25
    go_wp2
    go_ret2
    exact ⟨by rw [HF.out.1, HF.out.2]; rfl, Below.refl _ _⟩

set_option maxRecDepth 100000 in
set_option maxHeartbeats 2000000 in
theorem specStoreAll_u (v : Value) (xs : List Sv) (w : World) (hv : SavedsR w v xs) (hsm : smallSaveds xs) :
    Calls Try.prog 26 #[v] w fun e w' => e = .returned (.tuple #[.string (storeAllR xs), .bool (allOk xs)]) ∧ Below w.heap.size w w' := by
  have HV : Hid (∀ W, Below w.heap.size w W → SavedsR W v xs) := fun W hW => hv.below hW (Nat.le_refl _)
  have HV0 := Lib.hid hv.at_
  have HSM := Lib.hid hsm
  have hm := hv.1
  unfold maxLen at hm
  obtain ⟨a, c, rfl, hcap, _⟩ := hv.at_
  by_cases h8 : xs.length ≤ 8
  · have HBAD : Hid (∀ i (hi : i < xs.length), savedOk xs[i] = false → allOk xs = false ∧ storeAllR xs = ⟨#[]⟩) := fun i hi h => ⟨allOk_bad hi h, storeAllR_no (allOk_bad hi h)⟩
    have HEND : Hid ((∀ i (hi : i < xs.length), savedOk xs[i] = true) → allOk xs = true ∧ storeAllR xs = joined xs xs.length) := fun h => ⟨allOk_end h8 h, storeAllR_yes (allOk_end h8 h)⟩
    have h8' : ¬ (8 : Int) < (xs.length : Int) := by omega
    clear hv hsm
    go_enter Try.func26, Try.ntmps26
    go_wp2
    go_loopw [4, 11] (fun vs vi wr => ∃ (k : Nat) (J : ByteArray), k ≤ xs.length ∧ vi = .int .i64 k ∧ vs = .string J ∧ Hid (J = joined xs k) ∧ Hid (J.size ≤ k * 40000000) ∧ Hid (Below w.heap.size w wr) ∧ Hid (∀ i (hi : i < xs.length), i < k → savedOk xs[i] = true)) (fun _ vi _ => xs.length - (intOf vi).toNat)
    case atStart => exact ⟨0, _, Nat.zero_le _, rfl, rfl, rfl, Nat.le_refl _, Below.refl _ _, fun i hi h => by omega⟩
    case round =>
      obtain ⟨k, J, hk, rfl, rfl, HJ, HJS, HB, hok⟩ := hrel
      obtain ⟨wr', rfl⟩ : ∃ wr' : World, wr' = wr := ⟨_, rfl⟩
      by_cases hlt : k < xs.length
      · obtain ⟨a3, c3, hsl3, _, hc⟩ := HV0.out
        obtain ⟨rfl, rfl⟩ : a = a3 ∧ c = c3 := by simpa using hsl3
        obtain ⟨b, o, vt, vs, rfl, hbs, h0, h1, h2, g0, g1, g2⟩ := hc k hlt
        have hsmk := HSM.out.2 _ (List.getElem_mem hlt)
        have HC : Hid (∀ W, Below w.heap.size w W → Calls Try.prog 71 #[.pointer (some ⟨b, o + k * 3, none⟩)] W fun e w' => e = .returned (.bool (savedOk xs[k])) ∧ ∃ q, w' = W.drewN q) := fun W hW =>
          l07Saved_any b (o + k * 3) xs[k].1 vt vs xs[k].2.1 xs[k].2.2 W h0 (h1.below hW (Nat.le_refl _)) (h2.ints.1.below hW (Nat.le_refl _)) hsmk.2.1.1 ((hW.cell (p := ⟨b, o + k * 3, none⟩) hbs).trans g0) ((hW.cell (p := ⟨b, o + k * 3 + 1, none⟩) hbs).trans g1) ((hW.cell (p := ⟨b, o + k * 3 + 2, none⟩) hbs).trans g2)
        have HD : Hid (savedOk xs[k] = true → ∀ W, Below w.heap.size w W → Calls Try.prog 72 #[.pointer (some ⟨b, o + k * 3, none⟩)] W fun e w' => e = .returned (.string (storeS xs[k])) ∧ Below W.heap.size W w') := fun h W hW =>
          l07Store_yes b (o + k * 3) xs[k].1 vt vs xs[k].2.1 xs[k].2.2 W (h1.below hW (Nat.le_refl _)) (h2.ints.1.below hW (Nat.le_refl _)) h (fun x hx => (hsmk.2.1.2 x hx).1) (Nat.lt_of_lt_of_le hbs hW.size) ((hW.cell (p := ⟨b, o + k * 3, none⟩) hbs).trans g0) ((hW.cell (p := ⟨b, o + k * 3 + 1, none⟩) hbs).trans g1) ((hW.cell (p := ⟨b, o + k * 3 + 2, none⟩) hbs).trans g2)
        have HBAD2 := Lib.hid (HBAD.out k hlt)
        have HNX := Lib.hid (joined_succ xs k hlt)
        have HSY : Hid (savedOk xs[k] = true → (storeS xs[k]).size ≤ 40000000) := fun h => storeS_size h fun y hy => (hsmk.2.1.2 y hy).1
        have HOK : Hid (savedOk xs[k] = true → ∀ i (hi : i < xs.length), i < k + 1 → savedOk xs[i] = true) := fun h i hi h1 => by
          rcases Nat.lt_succ_iff_lt_or_eq.1 h1 with h4 | rfl
          · exact hok.out i hi h4
          · exact h
        obtain ⟨Y, hY⟩ : ∃ z, savedOk xs[k] = z := ⟨_, rfl⟩
        obtain ⟨S, hS⟩ : ∃ z, storeS xs[k] = z := ⟨_, rfl⟩
        rw [hY] at HC HD HBAD2 HOK HSY
        rw [hS] at HSY HNX HD
        have hk0 : (0 : Int) ≤ (k : Int) := by omega
        have hk1 : (k : Int) < (xs.length : Int) := by omega
        clear hc hsl3 h1 h2 h0 hY hS hok hsmk g0 g1 g2
        cases Y
        · have HF := Lib.hid (HBAD2.out rfl)
          go_wp2_with (go_at_call 71; refine (HC.out _ HB.out).mono ?_; rintro e W1 ⟨rfl, q, rfl⟩)
          go_ret2
          exact ⟨by rw [HF.out.1, HF.out.2]; rfl, below_drewN q HB.out⟩
        · have HF := Lib.hid (HOK.out rfl)
          have hss := HSY.out rfl
          have HD2 := Lib.hid (HD.out rfl)
          have hjs := HJS.out
          have hjz : ¬ 9223372036854775807 < J.size + S.size := by omega
          have HSZ : Hid ((J ++ S).size ≤ (k + 1) * 40000000) := by show _ ≤ _; rw [ByteArray.size_append]; omega
          clear hjs
          go_wp2_with (first
            | (go_at_call 71; refine (HC.out _ HB.out).mono ?_; rintro e W1 ⟨rfl, q, rfl⟩)
            | (go_at_call 72; refine (HD2.out _ (below_drewN q HB.out)).mono ?_; rintro e W1 ⟨rfl, hb1⟩; have HB1 : Hid (Below w.heap.size w W1) := (below_drewN q HB.out).trans (hb1.mono (below_drewN q HB.out).size); clear hb1))
          go_roundw
          case rel => exact ⟨k + 1, _, by omega, by go_num, rfl, by show _ = _; rw [HNX.out, ← HJ.out], HSZ.out, HB1.out, HF.out⟩
          case measure => simp [intOf]; omega
      · have hke : k = xs.length := by omega
        subst hke
        have HF := Lib.hid (HEND.out fun j h1 => hok.out j h1 h1)
        clear hok
        go_wp2
        go_ret2
        exact ⟨by rw [HF.out.1, HF.out.2, ← HJ.out]; rfl, HB.out⟩
  · have h8' : (8 : Int) < (xs.length : Int) := by omega
    have HF : Hid (allOk xs = false ∧ storeAllR xs = ⟨#[]⟩) := ⟨allOk_long h8, storeAllR_no (allOk_long h8)⟩
    clear hv hsm h8
    go_enter Try.func26, Try.ntmps26
    go_wp2
    go_ret2
    exact ⟨by rw [HF.out.1, HF.out.2]; rfl, Below.refl _ _⟩
end Go.Proofs.Ytmhepomjbaendaa
