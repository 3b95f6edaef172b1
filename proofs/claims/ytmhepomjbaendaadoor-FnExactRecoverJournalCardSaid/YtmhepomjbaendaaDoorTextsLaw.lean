
/- Slices of texts: how they read; the laws' szStringS, toStringS, eqStringS. Conditions: at most 2^20 texts and bytes. -/
import Derived.Test.YtmhepomjbaendaaDoorRead
import Derived.Test.YtmhepomjbaendaaDoorOwnTx
namespace Go.Proofs.YtmhepomjbaendaaDoor
open Go.RowKit
set_option linter.unusedVariables false
set_option linter.unusedSimpArgs false

/-- The slice value v reads as the texts xs. -/
abbrev Txs (w : World) (v : Value) (xs : List ByteArray) : Prop := Sl Value.string w v xs
theorem SlR.txs {w : World} {v : Value} {xs : List ByteArray} (h : SlR rStr w v xs) : Txs w v xs ∧ ∀ x ∈ xs, x.size ≤ maxLen := by
  obtain ⟨hm, a, c, hv, hcap, hc⟩ := h
  refine ⟨⟨hm, a, c, hv, hcap, fun i hi => ?_⟩, fun n hn => ?_⟩
  · obtain ⟨b, o, cs, ha, hbs, ⟨rfl, _⟩, hcell⟩ := hc i hi
    have := hcell 0 (by simp)
    exact ⟨b, o, ha, hbs, by simpa [rStr] using this⟩
  · obtain ⟨i, hi, rfl⟩ := List.mem_iff_getElem.1 hn
    obtain ⟨b, o, cs, ha, hbs, ⟨rfl, hw⟩, hcell⟩ := hc i hi
    exact hw
theorem OwnT.txs {w : World} {B : Nat} {v : Value} {xs : List ByteArray} (h : OwnT w B v xs) (hm : xs.length ≤ maxLen) : Txs w v xs := by
  by_cases h1 : 1 ≤ xs.length
  · obtain ⟨g, c, rfl, hc, h3, h4⟩ := h.txc h1
    refine ⟨hm, _, c, rfl, hc, fun i hi => ⟨g, 0, rfl, h3, ?_⟩⟩
    have := h4 i hi
    rw [List.getD_eq_getElem?_getD, List.getElem?_eq_getElem hi] at this
    rw [Nat.zero_add]; exact this
  · obtain rfl : xs = [] := List.eq_nil_of_length_eq_zero (by omega)
    rcases h.2 with ⟨h2, _⟩ | ⟨g, cap, cur, h2, _⟩
    · exact ⟨hm, _, _, h2, Nat.le_refl _, fun i hi => absurd hi (Nat.not_lt_zero _)⟩
    · exact ⟨hm, _, _, h2, Nat.zero_le _, fun i hi => absurd hi (Nat.not_lt_zero _)⟩

/-- The bytes of the first k texts. -/
def zsT (xs : List ByteArray) : Nat → Nat
  | 0 => 0
  | k + 1 => zsT xs k + (xs.getD k ByteArray.empty).size
theorem zsT_succ {xs : List ByteArray} {k : Nat} (h : k < xs.length) : zsT xs (k + 1) = zsT xs k + xs[k].size := by
  show zsT xs k + (xs.getD k ByteArray.empty).size = _
  rw [List.getD_eq_getElem?_getD, List.getElem?_eq_getElem h]; rfl
theorem zsT_mono {xs : List ByteArray} : ∀ {k m : Nat}, k ≤ m → zsT xs k ≤ zsT xs m
  | k, 0, h => by obtain rfl : k = 0 := by omega
                  exact Nat.le_refl _
  | k, m + 1, h => by
    rcases Nat.lt_or_ge m k with h1 | h1
    · obtain rfl : k = m + 1 := by omega
      exact Nat.le_refl _
    · have := zsT_mono (xs := xs) h1
      show _ ≤ zsT xs m + _
      omega
theorem zsT_one {xs : List ByteArray} {k : Nat} (h : k < xs.length) : xs[k].size ≤ zsT xs xs.length := by
  have h1 := zsT_succ h
  have := zsT_mono (xs := xs) (k := k + 1) (m := xs.length) h
  omega

set_option maxHeartbeats 800000 in
theorem szStringS_any (v : Value) (xs : List ByteArray) (left : Int) (w : World) (hv : Txs w v xs) (hz : ∀ x ∈ xs, x.size ≤ maxLen) (h0 : 0 ≤ left) (h1 : left ≤ 1048576) :
    Calls Tryd.prog 18 #[v, .int .i64 left] w fun e w' => (∃ r : Int, e = .returned (.int .i64 r) ∧ (r = -1 ∨ 0 ≤ r ∧ r ≤ left ∧ (xs.length : Int) + zsT xs xs.length ≤ left)) ∧ w = w' := by
  obtain ⟨hm, a, c, rfl, hcap, hc⟩ := hv
  have HC := Lib.hid hc
  have HZ : Hid (∀ k (h : k < xs.length), xs[k].size ≤ maxLen) := fun k h => hz _ (List.getElem_mem h)
  unfold maxLen at hm
  clear hc hz
  by_cases hlt : left < (xs.length : Int)
  · have hd : left - (xs.length : Int) < 0 := by omega
    go_enter Tryd.func18, Tryd.ntmps18
    go_wp2
    go_ret
    exact ⟨⟨-1, rfl, .inl rfl⟩, rfl⟩
  · have hd : ¬ left - (xs.length : Int) < 0 := by omega
    go_enter Tryd.func18, Tryd.ntmps18
    go_wp2
    go_loop [1, 5] (fun vl vi => ∃ k : Nat, k ≤ xs.length ∧ vi = .int .i64 k ∧ vl = .int .i64 (left - xs.length - (zsT xs k : Int)) ∧ (xs.length : Int) + zsT xs k ≤ left) (fun _ vi => xs.length - (intOf vi).toNat)
    case atStart => exact ⟨0, Nat.zero_le _, rfl, by simp [zsT], by simp [zsT]; omega⟩
    case round =>
      obtain ⟨k, hk, rfl, rfl, hsum⟩ := hrel
      by_cases hkl : k < xs.length
      · obtain ⟨b, o, rfl, hbs, hcell⟩ := HC.out k hkl
        have hs := HZ.out k hkl
        have hz1 := Lib.hid (zsT_succ hkl)
        unfold maxLen at hs
        obtain ⟨s, hs'⟩ : ∃ s, xs[k] = s := ⟨_, rfl⟩
        rw [hs'] at hcell hs hz1
        obtain ⟨z, hz'⟩ : ∃ z, zsT xs k = z := ⟨_, rfl⟩
        rw [hz'] at hz1 hsum
        rw [hz']
        have hz2 : 0 ≤ (z : Int) := by omega
        by_cases hneg : left - xs.length - (z : Int) - s.size < 0
        · clear hs' hz' HC
          go_wp2
          go_ret
          exact ⟨⟨-1, rfl, .inl rfl⟩, rfl⟩
        · clear hs' hz'
          go_wp2
          go_round
          case rel => exact ⟨k + 1, by omega, by go_num, by rw [hz1.out]; congr 1; omega, by rw [hz1.out]; omega⟩
          case measure => simp [intOf]; omega
      · obtain rfl : k = xs.length := by omega
        have HS := Lib.hid hsum
        clear HC HZ
        go_wp2
        go_ret
        exact ⟨⟨_, rfl, Or.inr (by first | (refine ⟨?_, ?_, ?_⟩ <;> omega) | (refine ⟨?_, ?_⟩ <;> omega))⟩, rfl⟩

theorem take_setT (xs : List ByteArray) (k : Nat) (hk : k < xs.length) (m : Nat) (hm : xs.length = k + (m + 1)) :
    ((xs.take k ++ List.replicate (m + 1) ByteArray.empty).set k xs[k]) = xs.take (k + 1) ++ List.replicate m ByteArray.empty := by
  apply List.ext_getElem
  · simp; omega
  · intro i h1 h2
    simp only [List.getElem_set]
    split
    · rename_i h; subst h; rw [List.getElem_append_left (by simp; omega)]; simp
    · rename_i h
      by_cases h3 : i < k
      · rw [List.getElem_append_left (by simp; omega), List.getElem_append_left (by simp; omega)]; simp
      · rw [List.getElem_append_right (by simp; omega), List.getElem_append_right (by simp; omega)]; simp

set_option maxHeartbeats 800000 in
theorem toStringS_any (v : Value) (xs : List ByteArray) (w : World) (hv : Txs w v xs) (hl : xs.length ≤ 1048576) :
    Calls Tryd.prog 20 #[v] w fun e w' => ∃ v', e = .returned v' ∧ OwnT w' w.heap.size v' xs ∧ Below w.heap.size w w' := by
  obtain ⟨hm, a, c, rfl, hcap, hc⟩ := hv
  obtain ⟨i0, hi, hz0, hz1, hz2⟩ := info_parts info_str
  go_enter Tryd.func20, Tryd.ntmps20
  go_wp2_with (at_make; refine wpList_make_full _ rfl _ _ 39 rfl w.heap.size 9 i0 (.string ByteArray.empty) 1 Tryd.underlying39 hi hz0 hz1 _ _ _ _ xs.length rfl rfl rfl rfl (by rw [hz2]; omega) (by unfold maxLen at *; omega) (Nat.le_refl _) ?_; intro w1 hown1 hgrow1)
  have hb1 : Below w.heap.size w w1 := (Below.refl _ _).grown hgrow1 (Nat.le_refl _) (fun k e => by cases e)
  have hown1' : w1.ownsRow w.heap.size 9 1 (.slice (some ⟨w.heap.size, 0, none⟩) xs.length xs.length) xs.length ((xs.take 0 ++ List.replicate xs.length ByteArray.empty).map Value.string) := by
    have e : (madeCells (Value.string ByteArray.empty).cells (xs.length * 1)).toList = (xs.take 0 ++ List.replicate xs.length ByteArray.empty).map Value.string := by
      rw [Nat.mul_one]; exact (toList_madeCells_one _ _).trans (by simp)
    rw [← e]; exact hown1
  clear hown1 hgrow1 hi hz0 hz1 hz2
  go_wp2
  go_loopw [4] (fun i wr => ∃ k : Nat, k ≤ xs.length ∧ i = .int .i64 k ∧ wr.ownsRow w.heap.size 9 1 (.slice (some ⟨w.heap.size, 0, none⟩) xs.length xs.length) xs.length ((xs.take k ++ List.replicate (xs.length - k) ByteArray.empty).map Value.string) ∧ Below w.heap.size w wr) (fun i _ => xs.length - (intOf i).toNat)
  case atStart => exact ⟨0, Nat.zero_le _, rfl, hown1', hb1⟩
  case round =>
    obtain ⟨k, hk, rfl, hown, hb⟩ := hrel
    clear hown1' hb1
    by_cases hlt : k < xs.length
    · obtain ⟨b, o, rfl, hbs, hc1⟩ := hc k hlt
      have hc2 : wr.cell? ⟨b, o + k, none⟩ = some (.string xs[k]) := (hb.cell (p := ⟨b, o + k, none⟩) hbs).trans hc1
      have hc3 : wr.cell? ⟨w.heap.size, k, none⟩ = some (.string ByteArray.empty) := by
        have := hown.cellAt k (by omega)
        rw [this]
        rw [List.getElem?_map, List.getElem?_append_right (by simp; omega)]
        simp [List.getElem?_replicate]
        omega
      have hf3 : wr.frozen? ⟨w.heap.size, k, none⟩ = false := hown.frozenAt k
      have hown2 := (hown.stored k (.string xs[k])).1
      have hs : ((xs.take k ++ List.replicate (xs.length - k) ByteArray.empty).map Value.string).set k (.string xs[k]) = (xs.take (k + 1) ++ List.replicate (xs.length - (k + 1)) ByteArray.empty).map Value.string := by
        rw [← take_setT xs k hlt (xs.length - (k + 1)) (by omega), List.map_set, show xs.length - (k + 1) + 1 = xs.length - k by omega]
      rw [hs] at hown2
      have hb2 := hb.setCell (p := ⟨w.heap.size, k, none⟩) (Nat.le_refl _) (.string xs[k])
      clear hc hown hs hb hc1
      go_wp2
      go_roundw
      case rel => exact ⟨k + 1, by omega, by go_num, hown2, hb2⟩
      case measure => simp [intOf]; omega
    · obtain rfl : k = xs.length := by omega
      clear hc
      go_wp2
      go_ret
      refine ⟨_, rfl, ?_, hb⟩
      unfold OwnT
      simpa using hown

theorem eqStringS_same (v u : Value) (xs : List ByteArray) (w : World) (hv : Txs w v xs) (hu : Txs w u xs) :
    Calls Tryd.prog 22 #[v, u] w fun e w' => e = .returned (.bool true) ∧ Below w.heap.size w w' := by
  obtain ⟨hm, a, c, rfl, hcap, hc⟩ := hv
  obtain ⟨hm', a', c', rfl, hcap', hc'⟩ := hu
  unfold maxLen at hm hm'
  have HC := Lib.hid hc
  have HC' := Lib.hid hc'
  clear hc hc'
  go_enter Tryd.func22, Tryd.ntmps22
  go_wp2
  go_loopw [5] (fun i wr => ∃ k : Nat, k ≤ xs.length ∧ i = .int .i64 k ∧ Below w.heap.size w wr) (fun i _ => xs.length - (intOf i).toNat)
  case atStart => exact ⟨0, Nat.zero_le _, rfl, Below.refl _ _⟩
  case round =>
    obtain ⟨k, hk, rfl, hb⟩ := hrel
    by_cases hlt : k < xs.length
    · obtain ⟨b, o, rfl, hbs, hc1⟩ := HC.out k hlt
      obtain ⟨b', o', rfl, hbs', hc1'⟩ := HC'.out k hlt
      have hc2 : wr.cell? ⟨b, o + k, none⟩ = some (.string xs[k]) := (hb.cell (p := ⟨b, o + k, none⟩) hbs).trans hc1
      have hc2' : wr.cell? ⟨b', o' + k, none⟩ = some (.string xs[k]) := (hb.cell (p := ⟨b', o' + k, none⟩) hbs').trans hc1'
      have hk0 : (0 : Int) ≤ (k : Int) := by omega
      have hk1 : (k : Int) < (xs.length : Int) := by omega
      clear hc1 hc1'
      go_wp2
      go_quiet (fail)
      go_wp2
      go_roundw
      case rel => exact ⟨k + 1, by omega, by go_num, below_drewN _ hb⟩
      case measure => simp [intOf]; omega
    · go_wp2
      go_ret
      exact ⟨rfl, hb⟩
end Go.Proofs.YtmhepomjbaendaaDoor
