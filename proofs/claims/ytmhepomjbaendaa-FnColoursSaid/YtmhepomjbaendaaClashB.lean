
/- Whether two exams clash: the plain function, the reference's l07Clash. Conditions: an even number of numbers. -/
import Derived.Test.YtmhepomjbaendaaClashes
namespace Go.Proofs.Ytmhepomjbaendaa
open Go.RowKit
set_option linter.unusedVariables false
set_option linter.unusedSimpArgs false

def clashTo (xs : List Int) (a b : Int) (m : Nat) : Bool := (List.range m).any fun j => (nth xs (2 * j) == a && nth xs (2 * j + 1) == b) || (nth xs (2 * j) == b && nth xs (2 * j + 1) == a)
def clashB (xs : List Int) (a b : Int) : Bool := clashTo xs a b (xs.length / 2)
theorem clashTo_succ (xs : List Int) (a b : Int) (m : Nat) : clashTo xs a b (m + 1) = (clashTo xs a b m || ((nth xs (2 * m) == a && nth xs (2 * m + 1) == b) || (nth xs (2 * m) == b && nth xs (2 * m + 1) == a))) := by
  unfold clashTo; rw [List.range_succ, List.any_append]; simp
theorem clashTo_true {xs : List Int} {a b : Int} {m : Nat} (h : clashTo xs a b (m + 1) = true) (hm : m < xs.length / 2) : clashB xs a b = true := by
  unfold clashB
  unfold clashTo at h ⊢
  rw [List.any_eq_true] at h ⊢
  obtain ⟨j, hj, h⟩ := h
  exact ⟨j, List.mem_range.2 (by have := List.mem_range.1 hj; omega), h⟩
theorem clashB_comm (xs : List Int) (a b : Int) : clashB xs a b = clashB xs b a := by
  unfold clashB clashTo
  congr 1
  funext j
  exact Bool.or_comm _ _

set_option maxHeartbeats 2000000 in
theorem l07Clash_any (v : Value) (xs : List Int) (a b : Int) (w : World) (hv : Ints w v xs) (hev : xs.length % 2 = 0) (hl : xs.length ≤ 1048576) :
    Calls Try.prog 93 #[v, .int .i64 a, .int .i64 b] w fun e w' => e = .returned (.bool (clashB xs a b)) ∧ w = w' := by
  obtain ⟨hm, ad, c, rfl, hcap, hc⟩ := hv
  have HC := Lib.hid hc
  have HEV := Lib.hid hev
  clear hc hev hm
  go_enter Try.func93, Try.ntmps93
  go_wp2
  go_loopw [7] (fun i wr => ∃ m I : Nat, Hid (I = 2 * m) ∧ I ≤ xs.length ∧ i = .int .i64 I ∧ w = wr ∧ Hid (clashTo xs a b m = false)) (fun i _ => xs.length - (intOf i).toNat)
  case atStart => exact ⟨0, 0, rfl, Nat.zero_le _, rfl, rfl, rfl⟩
  case round =>
    obtain ⟨m, I, hmI, hI, rfl, rfl, hno⟩ := hrel
    by_cases hlt : I < xs.length
    · have hlt2 : I + 1 < xs.length := by have := hmI.out; have := HEV.out; omega
      obtain ⟨b0, o0, rfl, hbs, e0⟩ := HC.out I hlt
      obtain ⟨b1, o1, hb1, _, e1⟩ := HC.out (I + 1) hlt2
      obtain ⟨rfl, rfl⟩ : b0 = b1 ∧ o0 = o1 := by simpa using hb1
      rw [← nth_eq hlt] at e0
      rw [← nth_eq hlt2] at e1
      have hnx := clashTo_succ xs a b m
      rw [← hmI.out, hno.out, Bool.false_or] at hnx
      obtain ⟨p0, hp0⟩ : ∃ p, nth xs I = p := ⟨_, rfl⟩
      obtain ⟨p1, hp1⟩ : ∃ p, nth xs (I + 1) = p := ⟨_, rfl⟩
      rw [hp0] at e0 hnx
      rw [hp1] at e1 hnx
      have hml : m < xs.length / 2 := by have := hmI.out; omega
      have HT : Hid (clashTo xs a b (m + 1) = true → clashB xs a b = true) := fun h => clashTo_true h hml
      have i0 : (0 : Int) ≤ (I : Int) := by omega
      have i1 : (I : Int) < (xs.length : Int) := by omega
      have i2 : (I : Int) + 1 < (xs.length : Int) := by omega
      clear hp0 hp1 hb1 hml
      cases c0 : (p0 == a) <;> cases c1 : (p1 == b) <;> cases c2 : (p0 == b) <;> cases c3 : (p1 == a)
      all_goals
        rw [c0, c1, c2, c3] at hnx
        have HNX := Lib.hid hnx
        clear hnx
        go_wp2
        first
          | (go_ret
             exact ⟨ret_bool (HT.out HNX.out).symm, rfl⟩)
          | (go_roundw
             case rel => exact ⟨m + 1, I + 2, by have := hmI.out; show I + 2 = 2 * (m + 1); omega, by omega, by go_num, trivial, HNX.out⟩
             case measure => simp [intOf]; omega)
    · have hm : m = xs.length / 2 := by have := hmI.out; have := HEV.out; omega
      have HM := Lib.hid hm
      clear hm
      go_wp2
      go_ret
      exact ⟨ret_bool (by unfold clashB; rw [← HM.out]; exact hno.out.symm), rfl⟩
end Go.Proofs.Ytmhepomjbaendaa
