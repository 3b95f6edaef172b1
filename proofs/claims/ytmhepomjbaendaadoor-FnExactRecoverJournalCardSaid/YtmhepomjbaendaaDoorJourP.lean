
/- The journal of lines: the plain law. Conditions: none. -/
import Derived.Test.YtmhepomjbaendaaDoorTxtP
import Derived.Test.YtmhepomjbaendaaDoorBytes
namespace Go.Proofs.YtmhepomjbaendaaDoor
set_option linter.unusedVariables false
set_option linter.unusedSimpArgs false

/-- The check behind the first k lines. -/
def jrC (ls : List ByteArray) (k : Nat) : Int := (ls.take k).foldl chk 0
theorem jrC_zero (ls : List ByteArray) : jrC ls 0 = 0 := rfl
theorem jrC_succ {ls : List ByteArray} {k : Nat} (h : k < ls.length) : jrC ls (k + 1) = chk (jrC ls k) ls[k] := by
  unfold jrC
  rw [List.take_succ_eq_append_getElem h, List.foldl_append]
  rfl
theorem foldl_win : ∀ (ls : List ByteArray) (n : Int), 0 ≤ n → n ≤ 65002 → 0 ≤ ls.foldl chk n ∧ ls.foldl chk n ≤ 65002
  | [], n, h0, h1 => ⟨h0, h1⟩
  | s :: ls, n, h0, h1 => by
    have := chk_win h0 h1 s
    exact foldl_win ls _ this.1 this.2
theorem jrC_win (ls : List ByteArray) (k : Nat) : 0 ≤ jrC ls k ∧ jrC ls k ≤ 65002 := foldl_win _ 0 (by omega) (by omega)
/-- A line of the journal. -/
def jrL (n : Int) (s : ByteArray) : ByteArray := ((decS n ++ ⟨#[32]⟩) ++ s) ++ ⟨#[10]⟩
/-- The journal of the first k lines. -/
def jrTo (ls : List ByteArray) : Nat → ByteArray
  | 0 => ByteArray.empty
  | k + 1 => jrTo ls k ++ jrL (jrC ls (k + 1)) (ls.getD k ByteArray.empty)
theorem jrTo_succ {ls : List ByteArray} {k : Nat} (h : k < ls.length) : jrTo ls (k + 1) = jrTo ls k ++ jrL (jrC ls (k + 1)) ls[k] := by
  show jrTo ls k ++ jrL (jrC ls (k + 1)) (ls.getD k ByteArray.empty) = _
  rw [List.getD_eq_getElem?_getD, List.getElem?_eq_getElem h]; rfl
theorem decS_size {n : Int} (h0 : 0 ≤ n) (h1 : n ≤ 65002) : 1 ≤ (decS n).size ∧ (decS n).size ≤ 20 := by
  have h2 := decS_len (n := n) (by omega) (by omega)
  rw [← Go.Lib.size_eq] at h2
  refine ⟨?_, h2⟩
  obtain ⟨r, rfl⟩ : ∃ r : Nat, n = r := ⟨n.toNat, by omega⟩
  have h3 : (decI (r : Int)).length = (decS r).data.toList.length := by unfold decI; rw [List.length_map, decS_data]
  rw [Go.Lib.size_eq, ← h3, decI_pos]
  unfold digI
  rw [List.length_map]
  unfold Go.Lib.decDigits
  split <;> simp
theorem jrL_size {n : Int} (h0 : 0 ≤ n) (h1 : n ≤ 65002) (s : ByteArray) : s.size + 3 ≤ (jrL n s).size ∧ (jrL n s).size ≤ s.size + 22 := by
  have := decS_size h0 h1
  unfold jrL
  simp only [ByteArray.size_append]
  have h2 : (⟨#[32]⟩ : ByteArray).size = 1 := rfl
  have h3 : (⟨#[10]⟩ : ByteArray).size = 1 := rfl
  omega
theorem jrTo_mono {ls : List ByteArray} {k : Nat} (h : k < ls.length) : (jrTo ls k).size + (ls[k].size + 3) ≤ (jrTo ls (k + 1)).size ∧ (jrTo ls (k + 1)).size ≤ (jrTo ls k).size + (ls[k].size + 22) := by
  rw [jrTo_succ h]
  have h1 := jrC_win ls (k + 1)
  have := jrL_size h1.1 h1.2 ls[k]
  rw [ByteArray.size_append]
  omega
theorem jrTo_le {ls : List ByteArray} : ∀ {k m : Nat}, k ≤ m → m ≤ ls.length → (jrTo ls k).size ≤ (jrTo ls m).size
  | k, 0, h, _ => by obtain rfl : k = 0 := by omega
                     exact Nat.le_refl _
  | k, m + 1, h, hm => by
    rcases Nat.lt_or_ge m k with h1 | h1
    · obtain rfl : k = m + 1 := by omega
      exact Nat.le_refl _
    · have := jrTo_le (ls := ls) h1 (by omega)
      have := jrTo_mono (ls := ls) (k := m) (by omega)
      omega
/-- The lengths of the first k lines, and three more each. -/
def jrN (ls : List ByteArray) : Nat → Nat
  | 0 => 0
  | k + 1 => jrN ls k + ((ls.getD k ByteArray.empty).size + 3)
theorem jrN_succ {ls : List ByteArray} {k : Nat} (h : k < ls.length) : jrN ls (k + 1) = jrN ls k + (ls[k].size + 3) := by
  show jrN ls k + ((ls.getD k ByteArray.empty).size + 3) = _
  rw [List.getD_eq_getElem?_getD, List.getElem?_eq_getElem h]; rfl
theorem jrN_le {ls : List ByteArray} : ∀ {k : Nat}, k ≤ ls.length → jrN ls k ≤ (jrTo ls k).size
  | 0, _ => Nat.le_refl _
  | k + 1, h => by
    have := jrN_le (ls := ls) (k := k) (by omega)
    have := jrTo_mono (ls := ls) (k := k) (by omega)
    rw [jrN_succ (by omega)]
    omega
theorem jrTo_leN {ls : List ByteArray} : ∀ {k : Nat}, k ≤ ls.length → (jrTo ls k).size ≤ jrN ls k + 19 * k
  | 0, _ => Nat.le_refl _
  | k + 1, h => by
    have := jrTo_leN (ls := ls) (k := k) (by omega)
    have := jrTo_mono (ls := ls) (k := k) (by omega)
    rw [jrN_succ (by omega)]
    omega
theorem jrN_mono {ls : List ByteArray} : ∀ {k m : Nat}, k ≤ m → m ≤ ls.length → jrN ls k ≤ jrN ls m
  | k, 0, h, _ => by obtain rfl : k = 0 := by omega
                     exact Nat.le_refl _
  | k, m + 1, h, hm => by
    rcases Nat.lt_or_ge m k with h1 | h1
    · obtain rfl : k = m + 1 := by omega
      exact Nat.le_refl _
    · have := jrN_mono (ls := ls) h1 (by omega)
      show _ ≤ jrN ls m + _
      omega
theorem jrN_ge (ls : List ByteArray) : ∀ k, 3 * k ≤ jrN ls k
  | 0 => Nat.le_refl _
  | k + 1 => by
    have := jrN_ge ls k
    show _ ≤ jrN ls k + (_ + 3)
    omega
def hasNl (s : ByteArray) : Bool := s.data.toList.contains 10
def jrOk (ls : List ByteArray) : Bool := ls.all (fun s => !hasNl s) && decide ((jrTo ls ls.length).size ≤ 16000)
def jrS (ls : List ByteArray) : ByteArray := if jrOk ls then jrTo ls ls.length else ByteArray.empty
theorem jr_nl {ls : List ByteArray} {k : Nat} (h : k < ls.length) (hn : hasNl ls[k] = true) : jrOk ls = false ∧ jrS ls = ByteArray.empty := by
  have : jrOk ls = false := by
    unfold jrOk
    have : (ls.all fun s => !hasNl s) = false := by rw [List.all_eq_false]; exact ⟨ls[k], List.getElem_mem h, by rw [hn]; simp⟩
    rw [this]; rfl
  exact ⟨this, by unfold jrS; rw [this]; rfl⟩
theorem jr_long {ls : List ByteArray} {k : Nat} (h : k ≤ ls.length) (hn : 16000 < (jrTo ls k).size) : jrOk ls = false ∧ jrS ls = ByteArray.empty := by
  have : jrOk ls = false := by
    unfold jrOk
    have := jrTo_le h (Nat.le_refl _)
    rw [Bool.and_eq_false_iff]
    exact .inr (decide_eq_false (by omega))
  exact ⟨this, by unfold jrS; rw [this]; rfl⟩
theorem jr_longN {ls : List ByteArray} {k : Nat} (h : k ≤ ls.length) (hn : 16000 < jrN ls k) : jrOk ls = false ∧ jrS ls = ByteArray.empty := jr_long h (by have := jrN_le h; omega)
theorem jr_done {ls : List ByteArray} (h : ∀ k (hk : k < ls.length), hasNl ls[k] = false) (hn : (jrTo ls ls.length).size ≤ 16000) : jrOk ls = true ∧ jrS ls = jrTo ls ls.length := by
  have : jrOk ls = true := by
    unfold jrOk
    rw [Bool.and_eq_true, List.all_eq_true]
    refine ⟨fun x hx => ?_, decide_eq_true hn⟩
    obtain ⟨k, hk, rfl⟩ := List.mem_iff_getElem.1 hx
    rw [h k hk]; rfl
  exact ⟨this, by unfold jrS; rw [this]; rfl⟩
end Go.Proofs.YtmhepomjbaendaaDoor
