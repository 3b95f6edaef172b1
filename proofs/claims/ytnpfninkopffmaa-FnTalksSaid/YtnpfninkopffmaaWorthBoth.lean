
/- WorthTalks, program and reference, for all arguments. Conditions: none. -/
import Derived.Test.YtnpfninkopffmaaWorthImpl
namespace Go.Proofs.Ytnpfninkopffmaa
open Go.RowKit Go.BigFrame
set_option linter.unusedVariables false
set_option linter.unusedSimpArgs false
attribute [local go_sem] Oper.semAt_some

def worthOk (xs ws : List Int) : Bool := talksOk xs && decide (xs.length / 2 ≤ 16) && many ws (xs.length / 2 : Nat) (xs.length / 2 : Nat) 0 1000
def worthN (xs : List Int) : Nat := xs.length / 2
def worthR (xs ws : List Int) : Int := if worthOk xs ws then (bestTo xs ws (worthN xs) (2 ^ worthN xs - 1)).2 else 0
def worthL (xs ws : List Int) : List Int := if worthOk xs ws then talksOf (bestTo xs ws (worthN xs) (2 ^ worthN xs - 1)).1 (worthN xs) else []
theorem worth_no {xs ws : List Int} (h : worthOk xs ws = false) : worthR xs ws = 0 ∧ worthL xs ws = [] := by unfold worthR worthL; rw [h]; exact ⟨rfl, rfl⟩
theorem worth_yes {xs ws : List Int} (h : worthOk xs ws = true) : worthR xs ws = (bestTo xs ws (worthN xs) (2 ^ worthN xs - 1)).2 ∧ worthL xs ws = talksOf (bestTo xs ws (worthN xs) (2 ^ worthN xs - 1)).1 (worthN xs) := by unfold worthR worthL; rw [h]; exact ⟨rfl, rfl⟩
theorem worthL_small (xs ws : List Int) : (worthL xs ws).length ≤ 1000 := by
  cases h : worthOk xs ws
  · rw [(worth_no h).2]; simp
  · rw [(worth_yes h).2]
    unfold worthOk at h
    rw [Bool.and_eq_true, Bool.and_eq_true] at h
    have h1 := h.1.2
    have := talksOf_len (bestTo xs ws (worthN xs) (2 ^ worthN xs - 1)).1 (worthN xs)
    have h2 : worthN xs ≤ 16 := by unfold worthN; simpa using h1
    omega
theorem talksOk_head {xs : List Int} (h : talksOk xs = true) : 2 ≤ xs.length ∧ xs.length ≤ 64 ∧ xs.length % 2 = 0 := by
  unfold talksOk talksHead at h
  rw [Bool.and_eq_true, Bool.and_eq_true] at h
  have h1 := h.1.1
  have h2 := h.1.2
  simp only [many_true] at h1
  exact ⟨by omega, by omega, by simpa using h2⟩
theorem worth_bounds {xs ws : List Int} (h : worthOk xs ws = true) : ∃ n, worthN xs = n ∧ talksOk xs = true ∧ 1 ≤ n ∧ n ≤ 16 ∧ xs.length = 2 * n ∧ many ws n n 0 1000 = true ∧ ws.length = n ∧ ∀ k, k < n → 0 ≤ nth ws k ∧ nth ws k ≤ 1000 := by
  unfold worthOk at h
  rw [Bool.and_eq_true, Bool.and_eq_true] at h
  obtain ⟨h1, h2, h3⟩ := talksOk_head h.1.1
  have h4 : xs.length / 2 ≤ 16 := by simpa using h.1.2
  have h5 := h.2
  have h6 := h5
  simp only [many_true, List.all_eq_true] at h6
  obtain ⟨h7, h8, h9⟩ := h6
  have hl : ws.length = xs.length / 2 := by omega
  refine ⟨xs.length / 2, rfl, h.1.1, by omega, h4, by omega, h5, hl, fun k hk => ?_⟩
  have := h9 _ (List.getElem_mem (show k < ws.length by omega))
  rw [nth_eq (by omega)]
  exact win_true.1 this

set_option maxHeartbeats 1000000 in
theorem implWorth_u (v u : Value) (xs ws : List Int) (w : World) (hv : Ints w v xs) (hu : Ints w u ws) :
    Calls Try.prog 27 #[v, u] w fun e w' => (∃ v', e = .returned (.tuple #[v', .int .i64 (worthR xs ws), .bool (worthOk xs ws)]) ∧ OwnI w' w.heap.size v' (worthL xs ws)) ∧ Below w.heap.size w w' := by
  cases h : worthOk xs ws
  · rw [(worth_no h).1, (worth_no h).2]
    have ht := implTalks_any v xs w hv
    have HU : Hid (∀ W, Below w.heap.size w W → Ints W u ws) := fun W hW => hu.below hW (Nat.le_refl _)
    obtain ⟨hm, a, c, rfl, hcap, hc⟩ := hv
    have hdiv : (xs.length : Int) / 2 = ((xs.length / 2 : Nat) : Int) := by omega
    obtain ⟨N, hN⟩ : ∃ N, xs.length / 2 = N := ⟨_, rfl⟩
    unfold worthOk at h
    rw [hN] at hdiv h
    unfold maxLen at hm
    cases h1 : talksOk xs
    · rw [h1] at ht
      have HT := Lib.hid ht
      clear ht hu hc h h1 hN
      go_enter Try.func27, Try.ntmps27
      go_wp2_with (go_at_call 29; refine HT.out.mono ?_; rintro e W1 ⟨rfl, hb1⟩)
      go_ret3
      exact ⟨⟨_, rfl, own_nil _ _⟩, hb1⟩
    · rw [h1] at ht h
      have HT := Lib.hid ht
      by_cases h16 : N ≤ 16
      · have hmf : many ws N N 0 1000 = false := by simpa [h16] using h
        have HAM : Hid (∀ W, Below w.heap.size w W → Calls Try.prog 73 #[u, .int .i64 N, .int .i64 N, .int .i64 0, .int .i64 1000] W fun e w' => e = .returned (.bool false) ∧ W = w') := fun W hW => by
          have := areMany_any u ws (N : Int) (N : Int) 0 1000 W (HU.out W hW)
          rw [hmf] at this
          exact this
        clear ht hu hc h h1 hN hmf
        go_enter Try.func27, Try.ntmps27
        go_wp2_with (first | (go_at_call 29; refine HT.out.mono ?_; rintro e W1 ⟨rfl, hb1⟩) | (go_at_call 73; refine (HAM.out _ hb1).mono ?_; rintro e w' ⟨rfl, rfl⟩))
        go_ret3
        exact ⟨⟨_, rfl, own_nil _ _⟩, hb1⟩
      · clear ht hu hc h h1 hN
        go_enter Try.func27, Try.ntmps27
        go_wp2_with (first | (go_at_call 29; refine HT.out.mono ?_; rintro e W1 ⟨rfl, hb1⟩))
        go_ret3
        exact ⟨⟨_, rfl, own_nil _ _⟩, hb1⟩
  · obtain ⟨n, h1, h2, h3, h4, h5, h6, h7, h8⟩ := worth_bounds h
    rw [(worth_yes h).1, (worth_yes h).2, h1]
    exact implWorth_yes n v u xs ws w hv hu h2 h3 h4 h5 h6 h7 h8

set_option maxHeartbeats 1000000 in
theorem specWorth_u (v u : Value) (xs ws : List Int) (w : World) (hv : Ints w v xs) (hu : Ints w u ws) (hwf : ∀ z ∈ xs, (Lit.int .i64 z).wf = true) (hl : ws.length ≤ 1048576) :
    Calls Try.prog 28 #[v, u] w fun e w' => (∃ v', e = .returned (.tuple #[v', .int .i64 (worthR xs ws), .bool (worthOk xs ws)]) ∧ OwnI w' w.heap.size v' (worthL xs ws)) ∧ Below w.heap.size w w' := by
  cases h : worthOk xs ws
  · rw [(worth_no h).1, (worth_no h).2]
    have ht := specTalks_any v xs w hv hwf
    have HU : Hid (∀ W, Below w.heap.size w W → Ints W u ws) := fun W hW => hu.below hW (Nat.le_refl _)
    obtain ⟨hm, a, c, rfl, hcap, hc⟩ := hv
    obtain ⟨hm', a', c', rfl, hcap', hc'⟩ := hu
    unfold maxLen at hm
    cases h1 : talksOk xs
    · rw [h1] at ht
      have HT := Lib.hid ht
      clear ht hc hc' h h1
      go_enter Try.func28, Try.ntmps28
      go_wp2_with (go_at_call 55; refine HT.out.mono ?_; rintro e W1 ⟨rfl, hb1⟩)
      go_ret3
      exact ⟨⟨_, rfl, own_nil _ _⟩, hb1⟩
    · obtain ⟨k1, k2, k3⟩ := talksOk_head h1
      rw [h1] at ht
      unfold worthOk at h
      rw [h1] at h
      have HT := Lib.hid ht
      by_cases h16 : ws.length ≤ 16
      · by_cases hx : xs.length = 2 * ws.length
        · have hne : ((xs.length : Int) != 2 * (ws.length : Int)) = false := by simp; omega
          have hmf : many ws ws.length ws.length 0 1000 = false := by
            have e1 : xs.length / 2 = ws.length := by omega
            rw [e1] at h
            simpa [h16] using h
          have hall : ∃ k, k < ws.length ∧ win (nth ws k) 0 1000 = false ∧ ∀ j, j < k → win (nth ws j) 0 1000 = true := by
            have h0 : ¬ ∀ k, k < ws.length → win (nth ws k) 0 1000 = true := fun hc => by
              have : many ws ws.length ws.length 0 1000 = true := by
                simp only [many_true, List.all_eq_true]
                refine ⟨by omega, by omega, fun z hz => ?_⟩
                obtain ⟨k, hk, rfl⟩ := List.mem_iff_getElem.1 hz
                have := hc k hk
                rwa [nth_eq hk] at this
              rw [hmf] at this; cases this
            have hex : ∃ k, k < ws.length ∧ win (nth ws k) 0 1000 = false := by
              apply Classical.byContradiction
              intro hno
              exact h0 (fun k hk => by
                cases hw : win (nth ws k) 0 1000
                · exact absurd ⟨k, hk, hw⟩ hno
                · rfl)
            have hleast : ∀ m, (∃ k, k < m ∧ k < ws.length ∧ win (nth ws k) 0 1000 = false) → ∃ k, k < ws.length ∧ win (nth ws k) 0 1000 = false ∧ ∀ j, j < k → win (nth ws j) 0 1000 = true := by
              intro m
              induction m with
              | zero => rintro ⟨k, hk, _⟩; omega
              | succ m ih =>
                rintro ⟨k, hk, hk2, hk3⟩
                by_cases hb : ∃ j, j < m ∧ j < ws.length ∧ win (nth ws j) 0 1000 = false
                · exact ih hb
                · obtain rfl : k = m := by
                    rcases Nat.lt_succ_iff_lt_or_eq.1 hk with h9 | h9
                    · exact absurd ⟨k, h9, hk2, hk3⟩ hb
                    · exact h9
                  refine ⟨k, hk2, hk3, fun j hj => ?_⟩
                  cases hw : win (nth ws j) 0 1000
                  · exact absurd ⟨j, hj, by omega, hw⟩ hb
                  · rfl
            obtain ⟨k, hk, hk2⟩ := hex
            exact hleast (k + 1) ⟨k, by omega, hk, hk2⟩
          obtain ⟨K, hK1, hK2, hK3⟩ := hall
          have HK2 := Lib.hid hK2
          have HK3 := Lib.hid hK3
          clear ht hc hc' h h1 hmf hK2 hK3 hx
          go_enter Try.func28, Try.ntmps28
          go_wp2_with (go_at_call 55; refine HT.out.mono ?_; rintro e W1 ⟨rfl, hb1⟩)
          have HB1 := Lib.hid hb1
          clear hb1
          go_loopw [36] (fun vi wr => ∃ k : Nat, k ≤ K ∧ vi = .int .i64 k ∧ W1 = wr) (fun vi _ => K + 1 - (intOf vi).toNat)
          case atStart => exact ⟨0, Nat.zero_le _, rfl, rfl⟩
          case round =>
            obtain ⟨k, hk, rfl, rfl⟩ := hrel
            have hlt : k < ws.length := by omega
            obtain ⟨_, a2, c2, hsl, _, hcell⟩ := HU.out W1 HB1.out
            obtain ⟨bo, oo, ha2, _, e0⟩ := hcell k hlt
            obtain ⟨rfl, rfl⟩ : a' = a2 ∧ c' = c2 := by simpa using hsl
            subst ha2
            rw [← nth_eq hlt] at e0
            have hin := l00In_any (nth ws k) 0 1000 W1
            have k0 : (0 : Int) ≤ (k : Int) := by omega
            have k1 : (k : Int) < (ws.length : Int) := by omega
            by_cases hkK : k < K
            · rw [HK3.out k hkK] at hin
              have HIN := Lib.hid hin
              clear hcell hsl hin
              go_wp2_with (go_at_call 54; refine HIN.out.mono ?_; rintro e w' ⟨rfl, rfl⟩)
              go_roundw
              case rel => exact ⟨k + 1, by omega, by go_num, trivial⟩
              case measure => simp [intOf]; omega
            · obtain rfl : k = K := by omega
              rw [HK2.out] at hin
              have HIN := Lib.hid hin
              clear hcell hsl hin
              go_wp2_with (go_at_call 54; refine HIN.out.mono ?_; rintro e w' ⟨rfl, rfl⟩)
              go_ret3
              exact ⟨⟨_, rfl, own_nil _ _⟩, HB1.out⟩
        · have hne : ((xs.length : Int) != 2 * (ws.length : Int)) = true := by simp; omega
          clear ht hc hc' h h1 hx
          go_enter Try.func28, Try.ntmps28
          go_wp2_with (go_at_call 55; refine HT.out.mono ?_; rintro e W1 ⟨rfl, hb1⟩)
          go_ret3
          exact ⟨⟨_, rfl, own_nil _ _⟩, hb1⟩
      · clear ht hc hc' h h1
        go_enter Try.func28, Try.ntmps28
        go_wp2_with (go_at_call 55; refine HT.out.mono ?_; rintro e W1 ⟨rfl, hb1⟩)
        go_ret3
        exact ⟨⟨_, rfl, own_nil _ _⟩, hb1⟩
  · obtain ⟨n, h1, h2, h3, h4, h5, h6, h7, h8⟩ := worth_bounds h
    rw [(worth_yes h).1, (worth_yes h).2, h1]
    exact specWorth_yes n v u xs ws w hv hu hwf h2 h3 h4 h5 h7 h8
end Go.Proofs.Ytnpfninkopffmaa
