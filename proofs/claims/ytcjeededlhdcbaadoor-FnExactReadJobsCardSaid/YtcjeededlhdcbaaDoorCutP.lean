
/- A text cut at a mark: the plain law. Conditions: none. -/
import Derived.Lib.Split
import Derived.Lib.Bytealg
namespace Go.Proofs.YtcjeededlhdcbaaDoor
set_option linter.unusedVariables false
set_option linter.unusedSimpArgs false

/-- A list of bytes, cut at each m. -/
def cutL (m : UInt8) : List UInt8 → List (List UInt8)
  | [] => [[]]
  | c :: l => if c = m then [] :: cutL m l else match cutL m l with
    | p :: ps => (c :: p) :: ps
    | [] => [[c]]
theorem cutL_ne {m c : UInt8} {l : List UInt8} (h : c ≠ m) : cutL m (c :: l) = match cutL m l with
    | p :: ps => (c :: p) :: ps
    | [] => [[c]] := by
  rw [cutL, if_neg h]
theorem cutL_eq (m : UInt8) (l : List UInt8) : cutL m (m :: l) = [] :: cutL m l := by
  rw [cutL, if_pos rfl]
theorem cutL_none (m : UInt8) : ∀ (a : List UInt8), m ∉ a → cutL m a = [a]
  | [], _ => rfl
  | c :: a, h => by
    have h1 : c ≠ m := fun e => h (by simp [e])
    have h2 : m ∉ a := fun e => h (by simp [e])
    rw [cutL_ne h1, cutL_none m a h2]
theorem cutL_app (m : UInt8) (b : List UInt8) : ∀ (a : List UInt8), m ∉ a → cutL m (a ++ m :: b) = a :: cutL m b
  | [], _ => cutL_eq m b
  | c :: a, h => by
    have h1 : c ≠ m := fun e => h (by simp [e])
    have h2 : m ∉ a := fun e => h (by simp [e])
    rw [List.cons_append, cutL_ne h1, cutL_app m b a h2]
theorem cutL_pos (m : UInt8) (l : List UInt8) : 1 ≤ (cutL m l).length := by
  cases l with
  | nil => simp [cutL]
  | cons c l =>
    by_cases h : c = m
    · subst h; rw [cutL_eq]; simp
    · rw [cutL_ne h]; split <;> simp

theorem occAt_one {l : List UInt8} {m : UInt8} {i : Nat} : Go.Lib.occAt l [m] i = true ↔ l[i]? = some m := by
  unfold Go.Lib.occAt
  cases h : l.drop i with
  | nil =>
    have : l.length ≤ i := by have := congrArg List.length h; simp at this; omega
    simp [List.isPrefixOf, List.getElem?_eq_none this]
  | cons c t =>
    have hc : l[i]? = some c := by
      have := congrArg (fun x => x[0]?) h
      simpa using this
    rw [hc]
    simp only [List.isPrefixOf, Bool.and_true, beq_iff_eq, Option.some.injEq]
    exact eq_comm

theorem split_cut (m : UInt8) : ∀ (n : Nat) (l : List UInt8), l.length ≤ n → Go.Lib.splitK [m] 0 (Go.Lib.count l [m]) l = cutL m l
  | n, l, hn => by
    rcases Go.Lib.index_spec l [m] with ⟨h, hno⟩ | ⟨i, h, hi, hocc, hno⟩
    · rw [Go.Lib.count_miss h, Go.Lib.splitK, cutL_none]
      intro hm
      obtain ⟨j, hj, e⟩ := List.getElem_of_mem hm
      have := hno j (by omega)
      rw [Bool.eq_false_iff] at this
      exact this (occAt_one.2 (by rw [List.getElem?_eq_getElem hj, e]))
    · have hg := occAt_one.1 hocc
      have hlt : i < l.length := by
        rcases Nat.lt_or_ge i l.length with h1 | h1
        · exact h1
        · rw [List.getElem?_eq_none h1] at hg; cases hg
      have hge : l[i] = m := by rw [List.getElem?_eq_getElem hlt] at hg; exact Option.some.inj hg
      have hnm : m ∉ l.take i := by
        intro hm
        obtain ⟨j, hj, e⟩ := List.getElem_of_mem hm
        rw [List.length_take] at hj
        rw [List.getElem_take] at e
        have := hno j (by omega)
        rw [Bool.eq_false_iff] at this
        exact this (occAt_one.2 (by rw [List.getElem?_eq_getElem (by omega), e]))
      have hsp : l = l.take i ++ m :: l.drop (i + 1) := by
        conv => lhs; rw [← List.take_append_drop i l]
        rw [List.drop_eq_getElem_cons hlt, hge]
      rw [Go.Lib.count_hit (by simp) h, Nat.add_comm 1, Go.Lib.splitK]
      have hb : (Go.Lib.index l [m] == -1) = false := by rw [h]; simp
      rw [hb, h]
      simp only [Bool.false_eq_true, if_false, Int.toNat_natCast, Nat.add_zero, List.length_cons, List.length_nil, Nat.zero_add]
      match n, hn with
      | 0, hn => omega
      | n + 1, hn =>
        rw [split_cut m n (l.drop (i + 1)) (by rw [List.length_drop]; omega)]
        conv => rhs; rw [hsp]
        rw [cutL_app m _ _ hnm]

/-- A text, cut at each m. -/
def cutB (m : UInt8) (s : ByteArray) : List ByteArray := Go.Lib.splitB ⟨#[m]⟩ 0 (Go.Lib.countB s ⟨#[m]⟩) s
theorem cutB_map (m : UInt8) (s : ByteArray) : (cutB m s).map (·.data.toList) = cutL m s.data.toList := by
  unfold cutB
  rw [Go.Lib.splitB_data]
  exact split_cut m _ _ (Nat.le_refl _)
theorem bytes_inj {a b : List ByteArray} (h : a.map (·.data.toList) = b.map (·.data.toList)) : a = b := by
  induction a generalizing b with
  | nil => cases b with
    | nil => rfl
    | cons y b => simp at h
  | cons x a ih => cases b with
    | nil => simp at h
    | cons y b =>
      simp only [List.map_cons, List.cons.injEq] at h
      rw [ih h.2]
      congr 1
      cases x; cases y
      have := h.1
      simp at this
      rw [this]

/-- Ahead of byte i: the parts P, and the next part begins at f. -/
structure CutAt (m : UInt8) (s : ByteArray) (P : List ByteArray) (f i : Nat) : Prop where
  le : f ≤ i
  top : i ≤ s.size
  eq : P.map (·.data.toList) ++ cutL m (s.data.toList.drop f) = cutL m s.data.toList
  no : ∀ j, f ≤ j → j < i → s.data.toList[j]? ≠ some m
theorem CutAt.zero (m : UInt8) (s : ByteArray) : CutAt m s [] 0 0 := ⟨Nat.le_refl _, Nat.zero_le _, by simp, fun j _ h => by omega⟩
theorem CutAt.go {m : UInt8} {s : ByteArray} {P : List ByteArray} {f i : Nat} (h : CutAt m s P f i) (hi : i < s.size) (hne : s.data.toList[i]? ≠ some m) : CutAt m s P f (i + 1) :=
  ⟨by have := h.le; omega, hi, h.eq, fun j h1 h2 => by
    rcases Nat.lt_or_ge j i with h3 | h3
    · exact h.no j h1 h3
    · obtain rfl : j = i := by omega
      exact hne⟩
theorem size_data (s : ByteArray) : s.data.toList.length = s.size := (Go.Lib.size_eq s).symm
theorem CutAt.part {m : UInt8} {s : ByteArray} {P : List ByteArray} {f i : Nat} (h : CutAt m s P f i) : m ∉ (s.data.toList.drop f).take (i - f) := by
  intro hm
  obtain ⟨j, hj, e⟩ := List.getElem_of_mem hm
  rw [List.length_take, List.length_drop, size_data] at hj
  rw [List.getElem_take, List.getElem_drop] at e
  exact h.no (f + j) (by omega) (by omega) (by rw [List.getElem?_eq_getElem (by rw [size_data]; omega), e])
theorem extract_toList (s : ByteArray) (f i : Nat) : (s.extract f i).data.toList = (s.data.toList.drop f).take (i - f) := by
  exact Go.Lib.extract_data s f i
theorem CutAt.hit {m : UInt8} {s : ByteArray} {P : List ByteArray} {f i : Nat} (h : CutAt m s P f i) (hi : i < s.size) (he : s.data.toList[i]? = some m) : CutAt m s (P ++ [s.extract f i]) (i + 1) (i + 1) := by
  refine ⟨Nat.le_refl _, hi, ?_, fun j h1 h2 => by omega⟩
  have hd : s.data.toList.drop f = (s.data.toList.drop f).take (i - f) ++ m :: s.data.toList.drop (i + 1) := by
    have hl : f + (i - f) = i := by have := h.le; omega
    conv => lhs; rw [← List.take_append_drop (i - f) (s.data.toList.drop f)]
    have hi2 : i < s.data.toList.length := by rw [size_data]; exact hi
    rw [List.getElem?_eq_getElem hi2] at he
    rw [List.drop_drop, hl, List.drop_eq_getElem_cons (l := s.data.toList) (i := i) hi2, Option.some.inj he]
  rw [← h.eq]
  conv => rhs; rw [hd]
  rw [cutL_app m _ _ h.part, List.map_append, List.append_assoc]
  simp [extract_toList]
theorem CutAt.last {m : UInt8} {s : ByteArray} {P : List ByteArray} {f : Nat} (h : CutAt m s P f s.size) : P ++ [s.extract f s.size] = cutB m s := by
  refine bytes_inj ?_
  rw [cutB_map, ← h.eq, List.map_append]
  congr 1
  have h2 : (s.data.toList.drop f).take (s.size - f) = s.data.toList.drop f := List.take_of_length_le (by rw [List.length_drop, size_data]; exact Nat.le_refl _)
  have h1 := h.part
  rw [h2] at h1
  rw [cutL_none m _ h1]
  simp [extract_toList, h2]
theorem cutB_pos (m : UInt8) (s : ByteArray) : 1 ≤ (cutB m s).length := by
  have := congrArg List.length (cutB_map m s)
  rw [List.length_map] at this
  rw [this]; exact cutL_pos m _
theorem cutB_len (m : UInt8) (s : ByteArray) : (cutB m s).length = Go.Lib.countB s ⟨#[m]⟩ + 1 ∨ True := .inr trivial
end Go.Proofs.YtcjeededlhdcbaaDoor
