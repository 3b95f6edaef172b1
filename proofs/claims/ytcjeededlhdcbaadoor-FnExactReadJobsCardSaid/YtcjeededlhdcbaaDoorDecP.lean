
/- Numbers in decimal: the plain law. Conditions: none. -/
import Derived.Lib.ItoaNum
import Derived.Lib.LazyBuf
import Derived.Laws.BytesArg
namespace Go.Proofs.YtcjeededlhdcbaaDoor
set_option linter.unusedVariables false
set_option linter.unusedSimpArgs false

/-- The digits of u, as the numbers of their bytes. -/
def digI (u : Nat) : List Int := (Go.Lib.decDigits u).map fun b => (b.toNat : Int)
theorem dig_byte {u : Nat} (h : u < 10) : ((UInt8.ofNat (48 + u)).toNat : Int) = 48 + (u : Int) := by
  have : (UInt8.ofNat (48 + u)).toNat = 48 + u := by
    rw [UInt8.toNat_ofNat']
    omega
  rw [this]; push_cast; rfl
theorem digI_small {u : Nat} (h : u < 10) : digI u = [48 + (u : Int)] := by
  unfold digI
  rw [Go.Lib.decDigits, dif_pos h]
  simp only [List.map_cons, List.map_nil, dig_byte h]
theorem digI_big {u : Nat} (h : ¬ u < 10) : digI u = digI (u / 10) ++ [48 + ((u % 10 : Nat) : Int)] := by
  unfold digI
  rw [Go.Lib.decDigits, dif_neg h, List.map_append]
  simp only [List.map_cons, List.map_nil, dig_byte (Nat.mod_lt u (show 0 < 10 by decide))]
/-- What is written when the digits out stand and r is left. -/
def decPre (r : Nat) (out : List Int) : List Int := if r = 0 ∧ out ≠ [] then out else digI r ++ out
theorem decPre_step {r : Nat} {out : List Int} (h : out = [] ∨ r ≠ 0) : decPre (r / 10) ((48 + ((r % 10 : Nat) : Int)) :: out) = decPre r out := by
  unfold decPre
  have h1 : ¬ (r = 0 ∧ out ≠ []) := by
    rintro ⟨a, b⟩
    rcases h with h | h
    · exact b h
    · exact h a
  rw [if_neg h1]
  by_cases hr : r < 10
  · rw [if_pos ⟨by omega, by simp⟩, digI_small hr, Nat.mod_eq_of_lt hr]
    rfl
  · rw [if_neg (by rintro ⟨a, _⟩; omega), digI_big hr, List.append_assoc]
    rfl
theorem decPre_done {out : List Int} (h : out ≠ []) : decPre 0 out = out := by unfold decPre; rw [if_pos ⟨rfl, h⟩]
theorem decPre_start (r : Nat) : decPre r [] = digI r := by unfold decPre; rw [if_neg (by rintro ⟨_, h⟩; exact h rfl), List.append_nil]
/-- n in decimal. -/
def decI (n : Int) : List Int := (Go.Lib.itoa n).map fun b => (b.toNat : Int)
def decS (n : Int) : ByteArray := ⟨(Go.Lib.itoa n).toArray⟩
theorem decS_eq (n : Int) : Go.strOfNums (decI n) = decS n := Go.Lib.Lz.strOfNums_map _
theorem decI_pos (r : Nat) : decI (r : Int) = digI r := by
  unfold decI Go.Lib.itoa
  rw [if_neg (by omega)]
  rfl
theorem decI_neg {r : Nat} (h : 0 < r) : decI (-(r : Int)) = 45 :: digI r := by
  unfold decI Go.Lib.itoa
  rw [if_pos (by omega), Int.natAbs_neg, Int.natAbs_natCast]
  rfl
theorem digI_len : ∀ (k u : Nat), u < 10 ^ (k + 1) → (digI u).length ≤ k + 1
  | 0, u, h => by rw [digI_small (by simpa using h)]; simp
  | k + 1, u, h => by
    by_cases hu : u < 10
    · rw [digI_small hu]; simp
    · rw [digI_big hu, List.length_append]
      have := digI_len k (u / 10) (by rw [Nat.pow_succ] at h; omega)
      simp only [List.length_cons, List.length_nil]
      omega
end Go.Proofs.YtcjeededlhdcbaaDoor
