
/- Texts joined by a mark; the text of a list of numbers: the plain law. Conditions: none. -/
import Derived.Test.YtcjeededlhdcbaaDoorDecP
import Derived.Lib.Join
import Derived.Lib.Strings
namespace Go.Proofs.YtcjeededlhdcbaaDoor
set_option linter.unusedVariables false
set_option linter.unusedSimpArgs false

/-- Texts with a mark between them. -/
def jnS (m : UInt8) (l : List ByteArray) : ByteArray := ⟨(Go.Lib.join (l.map (·.data.toList)) [m]).toArray⟩
theorem app_data (a b : ByteArray) : (a ++ b).data.toList = a.data.toList ++ b.data.toList := by
  simp [ByteArray.toList_data_append]
theorem bytes_ext {a b : ByteArray} (h : a.data.toList = b.data.toList) : a = b := by
  cases a; cases b
  simp at h
  rw [h]
theorem jnS_one (m : UInt8) (x : ByteArray) : jnS m [x] = x := by
  refine bytes_ext ?_
  unfold jnS
  rw [List.map_cons, List.map_nil, Go.Lib.join_one]
theorem join_snoc (s : List UInt8) (y x : List UInt8) (l : List (List UInt8)) : Go.Lib.join ((y :: l) ++ [x]) s = Go.Lib.join (y :: l) s ++ (s ++ x) := by
  rw [List.cons_append, Go.Lib.join_cons, Go.Lib.join_cons]
  unfold Go.Lib.joinTail
  simp
theorem jnS_snoc (m : UInt8) {l : List ByteArray} (x : ByteArray) (h : l ≠ []) : jnS m (l ++ [x]) = jnS m l ++ (⟨#[m]⟩ ++ x) := by
  refine bytes_ext ?_
  rw [app_data, app_data]
  unfold jnS
  cases l with
  | nil => exact absurd rfl h
  | cons y l =>
    rw [List.map_append, List.map_cons, List.map_cons, List.map_nil]
    exact join_snoc [m] _ _ _
theorem join_size (s : List UInt8) (B : Nat) : ∀ (l : List (List UInt8)), (∀ x ∈ l, x.length ≤ B) → (Go.Lib.join l s).length ≤ l.length * (B + s.length)
  | [], _ => by simp [Go.Lib.join_nil]
  | [x], h => by
    rw [Go.Lib.join_one]
    have := h x (by simp)
    simp only [List.length_cons, List.length_nil, Nat.zero_add, Nat.one_mul]
    omega
  | x :: y :: l, h => by
    have h1 := join_size s B (y :: l) (fun z hz => h z (by simp at hz ⊢; exact .inr hz))
    have h2 := h x (by simp)
    have h3 : (Go.Lib.join (x :: y :: l) s).length = x.length + s.length + (Go.Lib.join (y :: l) s).length := by
      rw [Go.Lib.join_cons, Go.Lib.join_cons]
      unfold Go.Lib.joinTail
      simp
      omega
    rw [h3, List.length_cons (a := x), Nat.succ_mul]
    omega
theorem decS_data (n : Int) : (decS n).data.toList = Go.Lib.itoa n := rfl
theorem decS_len {n : Int} (h0 : -9223372036854775808 ≤ n) (h1 : n ≤ 9223372036854775807) : (decS n).data.toList.length ≤ 20 := by
  have hl : (decI n).length = (decS n).data.toList.length := by unfold decI; rw [List.length_map, decS_data]
  rw [← hl]
  by_cases h : n < 0
  · obtain ⟨r, rfl⟩ : ∃ r : Nat, n = -(r : Int) := ⟨(-n).toNat, by omega⟩
    rw [decI_neg (by omega), List.length_cons]
    have := digI_len 18 r (by have : r ≤ 9223372036854775808 := by omega
                              exact Nat.lt_of_le_of_lt this (by decide))
    omega
  · obtain ⟨r, rfl⟩ : ∃ r : Nat, n = r := ⟨n.toNat, by omega⟩
    rw [decI_pos]
    have := digI_len 18 r (by have : r ≤ 9223372036854775807 := by omega
                              exact Nat.lt_of_le_of_lt this (by decide))
    omega
/-- The text of a list. -/
def listS (xs : List Int) : ByteArray := if xs = [] then ⟨#[110, 111, 110, 101]⟩ else jnS 44 (xs.map decS)
def txtTo (xs : List Int) (k : Nat) : ByteArray := jnS 44 ((xs.take k).map decS)
theorem txtTo_one {xs : List Int} (h : 0 < xs.length) : txtTo xs 1 = decS xs[0] := by
  unfold txtTo
  rw [List.take_succ_eq_append_getElem h]
  simp [jnS_one]
theorem txtTo_succ {xs : List Int} {k : Nat} (h : k < xs.length) (h1 : 1 ≤ k) : txtTo xs (k + 1) = txtTo xs k ++ (⟨#[44]⟩ ++ decS xs[k]) := by
  unfold txtTo
  rw [List.take_succ_eq_append_getElem h, List.map_append]
  exact jnS_snoc 44 _ (by intro e; have := congrArg List.length e; rw [List.length_map, List.length_take, List.length_nil] at this; omega)
theorem txtTo_full {xs : List Int} (h : xs ≠ []) : txtTo xs xs.length = listS xs := by
  unfold txtTo listS
  rw [if_neg h, List.take_length]
theorem txtTo_len {xs : List Int} (k : Nat) (hw : ∀ x ∈ xs, -9223372036854775808 ≤ x ∧ x ≤ 9223372036854775807) : (txtTo xs k).size ≤ k * 21 := by
  have h1 := join_size [44] 20 (((xs.take k).map decS).map (·.data.toList)) (by
    intro y hy
    simp only [List.map_map, List.mem_map, Function.comp] at hy
    obtain ⟨x, hx, rfl⟩ := hy
    have := hw x (List.mem_of_mem_take hx)
    exact decS_len this.1 this.2)
  have h2 : (txtTo xs k).size = (Go.Lib.join (((xs.take k).map decS).map (·.data.toList)) [44]).length := by
    unfold txtTo jnS
    simp [ByteArray.size]
  rw [h2]
  refine Nat.le_trans h1 ?_
  simp only [List.length_map, List.length_take, List.length_cons, List.length_nil]
  exact Nat.mul_le_mul_right 21 (by omega)
end Go.Proofs.YtcjeededlhdcbaaDoor
