
/- Slices of texts: how they read; the laws' szStringS, toStringS, eqStringS. Conditions: at most 2^20 texts and bytes. -/
import Derived.Test.YtmhepomjbaendaaRead
import Derived.Test.YtmhepomjbaendaaOwnTx
namespace Go.Proofs.Ytmhepomjbaendaa
open Go.RowKit
set_option linter.unusedVariables false
set_option linter.unusedSimpArgs false

/-- The slice value v reads as the texts xs. -/
abbrev Txs (w : World) (v : Value) (xs : List ByteArray) : Prop := Sl Value.string w v xs
theorem SlR.txs {w : World} {v : Value} {xs : List ByteArray} (h : SlR rStr w v xs) : Txs w v xs ∧ ∀ x ∈ xs, x.size ≤ maxLen := by
  obtain ⟨hm, a, c, hv, hcap, hc⟩ := h
  refine ⟨⟨hm, a, c, hv, hcap, fun i hi => ?_⟩, fun n hn => ?_⟩
  · obtain ⟨b, o, cs, ha, hbs, ⟨rfl, _⟩, hcell⟩ := hc i hi
    have := hcell 0 (by simp)
    exact ⟨b, o, ha, hbs, by simpa [rStr] using this⟩
  · obtain ⟨i, hi, rfl⟩ := List.mem_iff_getElem.1 hn
    obtain ⟨b, o, cs, ha, hbs, ⟨rfl, hw⟩, hcell⟩ := hc i hi
    exact hw
theorem OwnT.txs {w : World} {B : Nat} {v : Value} {xs : List ByteArray} (h : OwnT w B v xs) (hm : xs.length ≤ maxLen) : Txs w v xs := by
  by_cases h1 : 1 ≤ xs.length
  · obtain ⟨g, c, rfl, hc, h3, h4⟩ := h.txc h1
    refine ⟨hm, _, c, rfl, hc, fun i hi => ⟨g, 0, rfl, h3, ?_⟩⟩
    have := h4 i hi
    rw [List.getD_eq_getElem?_getD, List.getElem?_eq_getElem hi] at this
    rw [Nat.zero_add]; exact this
  · obtain rfl : xs = [] := List.eq_nil_of_length_eq_zero (by omega)
    rcases h.2 with ⟨h2, _⟩ | ⟨g, cap, cur, h2, _⟩
    · exact ⟨hm, _, _, h2, Nat.le_refl _, fun i hi => absurd hi (Nat.not_lt_zero _)⟩
    · exact ⟨hm, _, _, h2, Nat.zero_le _, fun i hi => absurd hi (Nat.not_lt_zero _)⟩

/-- The bytes of the first k texts. -/
def zsT (xs : List ByteArray) : Nat → Nat
  | 0 => 0
  | k + 1 => zsT xs k + (xs.getD k ByteArray.empty).size
theorem zsT_succ {xs : List ByteArray} {k : Nat} (h : k < xs.length) : zsT xs (k + 1) = zsT xs k + xs[k].size := by
  show zsT xs k + (xs.getD k ByteArray.empty).size = _
  rw [List.getD_eq_getElem?_getD, List.getElem?_eq_getElem h]; rfl
theorem zsT_mono {xs : List ByteArray} : ∀ {k m : Nat}, k ≤ m → zsT xs k ≤ zsT xs m
  | k, 0, h => by obtain rfl : k = 0 := by omega
                  exact Nat.le_refl _
  | k, m + 1, h => by
    rcases Nat.lt_or_ge m k with h1 | h1
    · obtain rfl : k = m + 1 := by omega
      exact Nat.le_refl _
    · have := zsT_mono (xs := xs) h1
      show _ ≤ zsT xs m + _
      omega
theorem zsT_one {xs : List ByteArray} {k : Nat} (h : k < xs.length) : xs[k].size ≤ zsT xs xs.length := by
  have h1 := zsT_succ h
  have := zsT_mono (xs := xs) (k := k + 1) (m := xs.length) h
  omega

theorem take_setT (xs : List ByteArray) (k : Nat) (hk : k < xs.length) (m : Nat) (hm : xs.length = k + (m + 1)) :
    ((xs.take k ++ List.replicate (m + 1) ByteArray.empty).set k xs[k]) = xs.take (k + 1) ++ List.replicate m ByteArray.empty := by
  apply List.ext_getElem
  · simp; omega
  · intro i h1 h2
    simp only [List.getElem_set]
    split
    · rename_i h; subst h; rw [List.getElem_append_left (by simp; omega)]; simp
    · rename_i h
      by_cases h3 : i < k
      · rw [List.getElem_append_left (by simp; omega), List.getElem_append_left (by simp; omega)]; simp
      · rw [List.getElem_append_right (by simp; omega), List.getElem_append_right (by simp; omega)]; simp

end Go.Proofs.Ytmhepomjbaendaa
