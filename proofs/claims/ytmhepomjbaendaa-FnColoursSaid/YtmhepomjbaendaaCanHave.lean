
/- canHave: its contract. Conditions: at most 64 colours; the sets are below 2^12. -/
import Derived.Test.YtmhepomjbaendaaClashSets
namespace Go.Proofs.Ytmhepomjbaendaa
open Go.RowKit Go.Shelf Go.BigFrame
set_option linter.unusedVariables false
set_option linter.unusedSimpArgs false
attribute [local go_sem] Oper.semAt_some

theorem bit_of (x k : Nat) (hx : x < 2 ^ 12) : bits .and .i64 ((x : Int) / 2 ^ k) 1 = if x.testBit k then 1 else 0 := by
  have h1 : (x : Int) / 2 ^ k = ((x / 2 ^ k : Nat) : Int) := by simp
  have h2 : x / 2 ^ k < 2 ^ 12 := Nat.lt_of_le_of_lt (Nat.div_le_self _ _) hx
  rw [h1, show (1 : Int) = ((1 : Nat) : Int) from rfl, (bits_nat .i64 12 (by decide) (fun m h0 h1 => IntWalk.i64_in m (by omega)) (x / 2 ^ k) 1 h2 (by decide)).1]
  rw [Nat.testBit_eq_decide_div_mod_eq, Nat.and_one_is_mod]
  by_cases h : x / 2 ^ k % 2 = 1
  · rw [h]; simp
  · have : x / 2 ^ k % 2 = 0 := by omega
    rw [this]; simp

/-- A colour's place that clashes. -/
def takenTo (ms : List Nat) (cs : List Int) (e : Nat) (c : Int) (m : Nat) : Bool := (List.range m).any fun k => nth cs k == c && (mAt ms e).testBit k
def freeB (ms : List Nat) (cs : List Int) (e : Nat) (c : Int) : Bool := !takenTo ms cs e c cs.length
theorem takenTo_succ (ms : List Nat) (cs : List Int) (e : Nat) (c : Int) (m : Nat) : takenTo ms cs e c (m + 1) = (takenTo ms cs e c m || (nth cs m == c && (mAt ms e).testBit m)) := by
  unfold takenTo; rw [List.range_succ, List.any_append]; simp
theorem takenTo_true {ms : List Nat} {cs : List Int} {e : Nat} {c : Int} {m : Nat} (h : takenTo ms cs e c (m + 1) = true) (hm : m < cs.length) : freeB ms cs e c = false := by
  unfold freeB
  have : takenTo ms cs e c cs.length = true := by
    unfold takenTo at h ⊢
    rw [List.any_eq_true] at h ⊢
    obtain ⟨j, hj, h⟩ := h
    exact ⟨j, List.mem_range.2 (by have := List.mem_range.1 hj; omega), h⟩
  rw [this]; rfl

set_option maxHeartbeats 1000000 in
theorem canHave_any (v u : Value) (ms : List Nat) (cs : List Int) (e : Nat) (c : Int) (w : World) (hv : Ints w v (mInts ms)) (hu : Ints w u cs) (he : e < ms.length) (hlt : ∀ i, mAt ms i < 2 ^ 12) (hl : cs.length ≤ 64) (hml : ms.length ≤ 64) :
    Calls Try.prog 96 #[v, u, .int .i64 e, .int .i64 c] w fun x w' => x = .returned (.bool (freeB ms cs e c)) ∧ w = w' := by
  obtain ⟨hm, a, cp, rfl, hcap, hc⟩ := hv
  obtain ⟨hm', a', cp', rfl, hcap', hc'⟩ := hu
  have hle : e < (mInts ms).length := by rw [mInts_length]; exact he
  obtain ⟨b, o, rfl, hbs, hce⟩ := hc e hle
  rw [← nth_eq hle, mInts_nth] at hce
  have HLT := Lib.hid hlt
  have HC' := Lib.hid hc'
  have i0 : (0 : Int) ≤ (e : Int) := by omega
  have i1 : (e : Int) < (ms.length : Int) := by omega
  rw [mInts_length] at hcap ⊢
  obtain ⟨X, hX⟩ : ∃ X, mAt ms e = X := ⟨_, rfl⟩
  have hX12 : X < 2 ^ 12 := by rw [← hX]; exact hlt e
  rw [hX] at hce
  have HX := Lib.hid hX
  clear hc hc' hlt hm hm' hle hX
  go_enter Try.func96, Try.ntmps96
  go_wp2
  go_loopw [9, 10, 13] (fun _ _ i wr => ∃ k : Nat, k ≤ cs.length ∧ i = .int .i64 k ∧ w = wr ∧ Hid (takenTo ms cs e c k = false)) (fun _ _ i _ => cs.length - (intOf i).toNat)
  case atStart => exact ⟨0, Nat.zero_le _, rfl, rfl, rfl⟩
  case round =>
    obtain ⟨k, hk, rfl, rfl, hno⟩ := hrel
    by_cases hkl : k < cs.length
    · obtain ⟨b', o', rfl, hbs', e1⟩ := HC'.out k hkl
      rw [← nth_eq hkl] at e1
      have hnx := takenTo_succ ms cs e c k
      rw [hno.out, Bool.false_or, HX.out] at hnx
      have HT : Hid (takenTo ms cs e c (k + 1) = true → freeB ms cs e c = false) := fun h => takenTo_true h hkl
      obtain ⟨p, hp⟩ : ∃ p, nth cs k = p := ⟨_, rfl⟩
      rw [hp] at e1 hnx
      have hbit := bit_of X k hX12
      have k0 : (0 : Int) ≤ (k : Int) := by omega
      have k1 : (k : Int) < (cs.length : Int) := by omega
      have k2 : (k : Int) ≤ 64 := by omega
      clear hp
      cases c0 : (p == c)
      · rw [c0, Bool.false_and] at hnx
        have HNX := Lib.hid hnx
        clear hnx hbit
        go_wp2
        go_roundw
        case rel => exact ⟨k + 1, by omega, by go_num, trivial, HNX.out⟩
        case measure => simp [intOf]; omega
      · rw [c0, Bool.true_and] at hnx
        cases hb : X.testBit k
        · rw [hb] at hnx hbit
          have HNX := Lib.hid hnx
          simp only [Bool.false_eq_true, if_false] at hbit
          clear hnx hb
          go_wp2
          go_roundw
          case rel => exact ⟨k + 1, by omega, by go_num, trivial, HNX.out⟩
          case measure => simp [intOf]; omega
        · rw [hb] at hnx hbit
          have HNX := Lib.hid hnx
          simp only [if_true] at hbit
          clear hnx hb
          go_wp2
          go_ret
          exact ⟨ret_bool (HT.out HNX.out).symm, rfl⟩
    · obtain rfl : k = cs.length := by omega
      clear hkl
      go_wp2
      go_ret
      exact ⟨ret_bool (by unfold freeB; rw [hno.out]; rfl), rfl⟩
end Go.Proofs.Ytmhepomjbaendaa
