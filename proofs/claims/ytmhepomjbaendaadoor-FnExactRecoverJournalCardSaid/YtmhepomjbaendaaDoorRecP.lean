
/- The lines of a journal at a text's beginning: the plain law. Conditions: none. -/
import Derived.Test.YtmhepomjbaendaaDoorCutP
import Derived.Test.YtmhepomjbaendaaDoorJourP
import Derived.Lib.IndexMore
import Derived.Lib.IndexBytes
import Derived.Lib.IndexLaws
namespace Go.Proofs.YtmhepomjbaendaaDoor
open Go.Lib
set_option linter.unusedVariables false
set_option linter.unusedSimpArgs false

/-- Ahead of the first space, behind it, and whether there is one. -/
def wdS (x : ByteArray) : ByteArray := ⟨(Lib.cut x.data.toList [32]).1.toArray⟩
def lnS (x : ByteArray) : ByteArray := ⟨(Lib.cut x.data.toList [32]).2.1.toArray⟩
def fdS (x : ByteArray) : Bool := (Lib.cut x.data.toList [32]).2.2
theorem space_no {x : ByteArray} (h : ∀ j, j < x.size → x.data.toList[j]? ≠ some 32) : fdS x = false ∧ lnS x = ByteArray.empty := by
  have h1 : Lib.index x.data.toList [32] = -1 := by
    rw [Lib.index_one]
    rcases Int.lt_or_le (Lib.indexByte x.data.toList 32) 0 with h2 | h2
    · have := Lib.indexByte_ge x.data.toList 32; omega
    · obtain ⟨o, ho⟩ : ∃ o : Nat, Lib.indexByte x.data.toList 32 = o := ⟨(Lib.indexByte x.data.toList 32).toNat, by omega⟩
      have h3 := (Lib.indexByte_some ho).1
      obtain ⟨h4, _⟩ := List.getElem?_eq_some_iff.1 h3
      exact absurd h3 (h o (by rw [Lib.size_eq]; exact h4))
  unfold fdS lnS Lib.cut
  rw [h1, if_neg (by omega)]
  exact ⟨rfl, rfl⟩
theorem space_at {x : ByteArray} {j : Nat} (h : x.data.toList[j]? = some 32) (hn : ∀ i, i < j → x.data.toList[i]? ≠ some 32) : fdS x = true ∧ lnS x = x.extract (j + 1) x.size ∧ wdS x = x.extract 0 j := by
  have h1 : Lib.index x.data.toList [32] = j := by
    rw [Lib.index_one]
    have hge := Lib.indexByte_ge x.data.toList 32
    by_cases h2 : Lib.indexByte x.data.toList 32 = -1
    · exact absurd h (Lib.indexByte_none h2 j)
    · obtain ⟨o, ho⟩ : ∃ o : Nat, Lib.indexByte x.data.toList 32 = o := ⟨(Lib.indexByte x.data.toList 32).toNat, by omega⟩
      have h3 := Lib.indexByte_some ho
      rw [ho]
      rcases Nat.lt_trichotomy o j with h4 | h4 | h4
      · exact absurd h3.1 (hn o h4)
      · rw [h4]
      · exact absurd h (h3.2 j h4)
  have h5 : (Lib.cut x.data.toList [32]) = (x.data.toList.take j, x.data.toList.drop (j + 1), true) := by
    unfold Lib.cut
    rw [h1, if_pos (by omega)]
    simp
  refine ⟨by unfold fdS; rw [h5], bytes_ext ?_, bytes_ext ?_⟩
  · unfold lnS
    rw [h5, extract_toList]
    symm
    show List.take _ (List.drop (j + 1) _) = List.drop (j + 1) x.data.toList
    rw [List.take_of_length_le]
    rw [List.length_drop, size_data]
    exact Nat.le_refl _
  · unfold wdS
    rw [h5, extract_toList]
    rfl
theorem lnS_size (x : ByteArray) : (lnS x).size ≤ x.size := by
  rw [Lib.size_eq, Lib.size_eq]
  unfold lnS Lib.cut
  split
  · show (List.drop _ x.data.toList).length ≤ _
    rw [List.length_drop]; exact Nat.sub_le _ _
  · exact Nat.zero_le _

theorem CutAt.pre {m : UInt8} {s : ByteArray} {P : List ByteArray} {f i : Nat} (h : CutAt m s P f i) : (cutB m s).take P.length = P ∧ P.length + 1 ≤ (cutB m s).length := by
  have h1 := h.eq
  rw [← cutB_map] at h1
  constructor
  · refine bytes_inj ?_
    rw [List.map_take, ← h1, List.take_append_of_le_length (by simp), List.take_of_length_le (by simp)]
  · have h2 := congrArg List.length h1
    rw [List.length_append, List.length_map, List.length_map] at h2
    have := cutL_pos m (s.data.toList.drop f)
    omega

def lineM (s : ByteArray) : Nat := (cutB 10 s).length - 1
/-- Behind k lines: the check and the place. -/
def rcC (L : List ByteArray) (k : Nat) : Int := ((L.take k).map lnS).foldl chk 0
theorem rcC_succ {L : List ByteArray} {k : Nat} (h : k < L.length) : rcC L (k + 1) = chk (rcC L k) (lnS L[k]) := by
  unfold rcC
  rw [List.take_succ_eq_append_getElem h, List.map_append, List.foldl_append]
  rfl
theorem rcC_win (L : List ByteArray) (k : Nat) : 0 ≤ rcC L k ∧ rcC L k ≤ 65002 := foldl_win _ 0 (by omega) (by omega)
def rcAt (L : List ByteArray) : Nat → Nat
  | 0 => 0
  | k + 1 => rcAt L k + ((L.getD k ByteArray.empty).size + 1)
theorem rcAt_succ {L : List ByteArray} {k : Nat} (h : k < L.length) : rcAt L (k + 1) = rcAt L k + (L[k].size + 1) := by
  show rcAt L k + ((L.getD k ByteArray.empty).size + 1) = _
  rw [List.getD_eq_getElem?_getD, List.getElem?_eq_getElem h]; rfl
def rcOkX (x : ByteArray) (n : Int) : Bool := fdS x && decide (wdS x = decS n)
def rcGood (L : List ByteArray) (k : Nat) : Bool := rcOkX (L.getD k ByteArray.empty) (rcC L (k + 1))
theorem rcGood_at {L : List ByteArray} {k : Nat} (h : k < L.length) : rcGood L k = rcOkX L[k] (rcC L (k + 1)) := by
  unfold rcGood
  rw [List.getD_eq_getElem?_getD, List.getElem?_eq_getElem h]; rfl
def rcGo (L : List ByteArray) : Nat → Nat → Nat
  | 0, k => k
  | f + 1, k => if rcGood L k then rcGo L f (k + 1) else k
theorem rcGo_eq {L : List ByteArray} {k : Nat} : ∀ {f j : Nat}, j ≤ k → k ≤ j + f → (∀ i, j ≤ i → i < k → rcGood L i = true) → (k = j + f ∨ rcGood L k = false) → rcGo L f j = k
  | 0, j, h1, h2, _, _ => by show j = k; omega
  | f + 1, j, h1, h2, hg, he => by
    rcases Nat.lt_or_eq_of_le h1 with h | h
    · show (if rcGood L j then rcGo L f (j + 1) else j) = k
      rw [if_pos (hg j (Nat.le_refl _) h)]
      exact rcGo_eq (by omega) (by omega) (fun i h3 h4 => hg i (by omega) h4) (he.elim (fun x => .inl (by omega)) .inr)
    · subst h
      rcases he with he | he
      · omega
      · show (if rcGood L j then rcGo L f (j + 1) else j) = j
        rw [he]; rfl
theorem rcGo_le {L : List ByteArray} {m : Nat} : ∀ {f j : Nat}, j + f ≤ m → rcGo L f j ≤ m
  | 0, j, h => by show j ≤ m; omega
  | f + 1, j, h => by
    show (if rcGood L j then rcGo L f (j + 1) else j) ≤ m
    split
    · exact rcGo_le (by omega)
    · omega
/-- How many lines there are. -/
def rcK (t : ByteArray) : Nat := rcGo (cutB 10 t) (lineM t) 0
def rcOut (t : ByteArray) : List ByteArray := ((cutB 10 t).take (rcK t)).map lnS
def rcN (t : ByteArray) : Nat := rcAt (cutB 10 t) (rcK t)
theorem rc_done {t : ByteArray} {k : Nat} (hk : k ≤ lineM t) (hg : ∀ i, i < k → rcGood (cutB 10 t) i = true) (he : k = lineM t ∨ rcGood (cutB 10 t) k = false) : rcOut t = ((cutB 10 t).take k).map lnS ∧ rcN t = rcAt (cutB 10 t) k := by
  have : rcK t = k := rcGo_eq (Nat.zero_le _) (by omega) (fun i _ h => hg i h) (he.elim (fun h => .inl (by omega)) .inr)
  unfold rcOut rcN
  rw [this]
  exact ⟨rfl, rfl⟩
theorem rc_none {t : ByteArray} {k at_ : Nat} (h : CutAt 10 t ((cutB 10 t).take k) at_ at_) (hk : k ≤ lineM t) (hn : Lib.indexByte (t.extract at_ t.size).data.toList 10 = -1) : k = lineM t := by
  have hl : ((cutB 10 t).take k).length = k := by rw [List.length_take]; unfold lineM at hk; omega
  have h1 : CutAt 10 t ((cutB 10 t).take k) at_ t.size := ⟨h.top, Nat.le_refl _, h.eq, fun j h2 h3 he => by
    refine Lib.indexByte_none hn (j - at_) ?_
    rw [extract_toList, List.getElem?_take, if_pos (by omega), List.getElem?_drop]
    rw [show at_ + (j - at_) = j by omega]
    exact he⟩
  have h2 := congrArg List.length h1.last
  rw [List.length_append, hl] at h2
  unfold lineM
  simp at h2
  omega
theorem rc_line {t : ByteArray} {k at_ n : Nat} (h : CutAt 10 t ((cutB 10 t).take k) at_ at_) (hk : k ≤ lineM t) (hn : Lib.indexByte (t.extract at_ t.size).data.toList 10 = (n : Int)) :
    k < lineM t ∧ at_ + n + 1 ≤ t.size ∧ CutAt 10 t ((cutB 10 t).take (k + 1)) (at_ + n + 1) (at_ + n + 1) ∧ ∃ hlt : k < (cutB 10 t).length, (cutB 10 t)[k] = t.extract at_ (at_ + n) ∧ (t.extract at_ (at_ + n)).size = n := by
  have hl : ((cutB 10 t).take k).length = k := by rw [List.length_take]; unfold lineM at hk; omega
  obtain ⟨h1, h2⟩ := Lib.indexByte_some hn
  rw [extract_toList, List.getElem?_take] at h1
  have hnt : n < t.size - at_ := by
    by_cases hh : n < t.size - at_
    · exact hh
    · rw [if_neg hh] at h1; cases h1
  rw [if_pos hnt, List.getElem?_drop] at h1
  have hc : CutAt 10 t ((cutB 10 t).take k) at_ (at_ + n) := ⟨by omega, by omega, h.eq, fun j h3 h4 he => by
    refine h2 (j - at_) (by omega) ?_
    rw [extract_toList, List.getElem?_take, if_pos (by omega), List.getElem?_drop]
    rw [show at_ + (j - at_) = j by omega]
    exact he⟩
  have hh := hc.hit (by omega) h1
  have hp := hh.pre
  rw [List.length_append, hl, List.length_singleton] at hp
  have hlt : k < (cutB 10 t).length := by omega
  have h5 := hp.1
  rw [List.take_succ_eq_append_getElem hlt] at h5
  have h6 : (cutB 10 t)[k] = t.extract at_ (at_ + n) := by
    have := List.append_cancel_left h5
    simpa using this
  refine ⟨by unfold lineM; omega, by omega, ?_, hlt, h6, ?_⟩
  · rw [hp.1]; exact hh
  · rw [Lib.size_eq, extract_toList, List.length_take, List.length_drop, size_data]
    omega
theorem rcAt_le {L : List ByteArray} {B : Nat} (h : ∀ i (hi : i < L.length), L[i].size ≤ B) : ∀ k, k ≤ L.length → rcAt L k ≤ k * (B + 1)
  | 0, _ => Nat.zero_le _
  | k + 1, hk => by
    have h1 := rcAt_le h k (by omega)
    have h2 := h k (by omega)
    rw [rcAt_succ (by omega), Nat.succ_mul]
    omega
theorem cutL_size {m : UInt8} : ∀ (l : List UInt8) {x : List UInt8}, x ∈ cutL m l → x.length ≤ l.length
  | [], x, h => by
    have : x = [] := by simpa [cutL] using h
    rw [this]; exact Nat.le_refl _
  | c :: l, x, h => by
    by_cases hc : c = m
    · subst hc
      rw [cutL_eq, List.mem_cons] at h
      rcases h with h | h
      · rw [h]; exact Nat.zero_le _
      · exact Nat.le_succ_of_le (cutL_size l h)
    · rw [cutL_ne hc] at h
      have ih : ∀ y, y ∈ cutL m l → y.length ≤ l.length := fun y hy => cutL_size l hy
      cases e : cutL m l with
      | nil => rw [e] at h; simp at h; rw [h]; simp
      | cons y r =>
        rw [e] at h ih
        simp only [List.mem_cons] at h
        rcases h with h | h
        · rw [h, List.length_cons, List.length_cons]
          exact Nat.succ_le_succ (ih y (by simp))
        · exact Nat.le_succ_of_le (ih x (by simp [h]))
theorem cutB_size {m : UInt8} {s x : ByteArray} (h : x ∈ cutB m s) : x.size ≤ s.size := by
  have h1 : x.data.toList ∈ cutL m s.data.toList := by
    rw [← cutB_map]
    exact List.mem_map.2 ⟨x, h, rfl⟩
  have := cutL_size _ h1
  rw [size_data, size_data] at this
  exact this
theorem rcAt_cut {t : ByteArray} {k at_ : Nat} (h : CutAt 10 t ((cutB 10 t).take k) at_ at_) : at_ ≤ t.size := h.top
end Go.Proofs.YtmhepomjbaendaaDoor
