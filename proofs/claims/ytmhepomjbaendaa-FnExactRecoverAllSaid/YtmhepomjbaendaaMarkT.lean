
/- The laws' own marks on texts: markText, markStringS, heldStringS. Conditions: numbers at most 10^8. -/
import Derived.Test.YtmhepomjbaendaaTextsLaw
import Derived.Test.YtmhepomjbaendaaBytes2
import Derived.Test.YtmhepomjbaendaaTxtP
import Derived.Deep.RegionWith
namespace Go.Proofs.Ytmhepomjbaendaa
open Go.RowKit
set_option linter.unusedVariables false
set_option linter.unusedSimpArgs false

theorem cut_shareM {P G : Prop} (main : P) (cont : Hid P → G) : G := cont (Lib.hid main)
/-- The text of mark k. -/
def mtS (k : Int) : ByteArray := ⟨#[109]⟩ ++ decS k
theorem nums_cons (x : Int) (l : List Int) : strOfNums [x] ++ strOfNums l = strOfNums (x :: l) := by
  refine bytes_ext ?_
  rw [app_data]
  simp [strOfNums]
theorem nums_size (l : List Int) : (strOfNums l).size = l.length := by
  rw [Go.Lib.size_eq]
  simp [strOfNums]
theorem decPre_len {r : Nat} {out : List Int} (hr : r ≤ 1000000000) : out.length ≤ (decPre r out).length := by
  unfold decPre
  split
  · exact Nat.le_refl _
  · rw [List.length_append]; omega

set_option maxRecDepth 100000 in
set_option maxHeartbeats 1000000 in
theorem markText_any (k : Nat) (w : World) (h1 : 1 ≤ k) (h2 : k ≤ 200000000) :
    Calls Try.prog 109 #[.int .i64 k] w fun e w' => e = .returned (.string (mtS k)) ∧ Below w.heap.size w w' := by
  obtain ⟨A, hA⟩ : ∃ A, w.heap.size = A := ⟨_, rfl⟩
  have HSZ : Hid (∀ W, Below A w W → A ≤ W.heap.size) := fun W h => by rw [← hA]; exact h.size
  have HD : Hid (strOfNums (digI k) = decS k) := by show _ = _; rw [← decS_eq, decI_pos]
  have HMT : Hid (mtS k = ⟨#[109]⟩ ++ decS k) := rfl
  have HL : Hid ((digI k).length ≤ 19) := digI_len 18 k (by have : k < 10 ^ 19 := Nat.lt_of_le_of_lt h2 (by decide)
                                                            exact this)
  have HST : Hid (∀ (r : Nat) (out : List Int), out = [] ∨ r ≠ 0 → decPre (r / 10) ((48 + ((r % 10 : Nat) : Int)) :: out) = decPre r out) := fun r out h => decPre_step h
  have HLE : Hid (∀ (r : Nat) (out : List Int), r ≤ k → decPre r out = digI k → out.length ≤ 19) := fun r out hr h => by
    have := decPre_len (r := r) (out := out) (by omega)
    rw [h] at this
    exact Nat.le_trans this HL.out
  obtain ⟨R, hR⟩ : ∃ R, digI k = R := ⟨_, rfl⟩
  have HST0 : Hid (decPre k [] = R) := by show _ = _; rw [decPre_start, hR]
  rw [hR] at HD HL HLE
  obtain ⟨D, hD⟩ : ∃ D, decS k = D := ⟨_, rfl⟩
  rw [hD] at HD HMT
  have zd : D.size ≤ 19 := by rw [← HD.out, nums_size]; exact HL.out
  have HA := Lib.hid hA
  have k0 : ¬ (k : Int) ≤ 0 := by omega
  clear hA hR hD HL
  go_enter Try.func109, Try.ntmps109
  go_wp2
  go_loopw [0, 3] (fun vr vo wr => ∃ (r : Nat) (out : List Int), r ≤ k ∧ vr = .int .i64 r ∧ vo = .string (strOfNums out) ∧ Hid (decPre r out = R ∧ (out = [] → r ≠ 0)) ∧ Hid (Below A w wr)) (fun vr _ _ => (intOf vr).toNat)
  case atStart => exact ⟨k, [], Nat.le_refl _, rfl, rfl, ⟨HST0.out, fun _ => by omega⟩, by show Below A w w; rw [← HA.out]; exact Below.refl _ _⟩
  case round =>
    obtain ⟨r, out, hr, rfl, rfl, HP, HB⟩ := hrel
    have hA1 : A ≤ wr.heap.size := HSZ.out _ HB.out
    have hlo := HLE.out r out hr HP.out.1
    by_cases hr0 : r = 0
    · subst hr0
      have HO : Hid (strOfNums out = D) := by
        have h3 := HP.out.1
        rw [decPre_done (fun e => HP.out.2 e rfl)] at h3
        show _ = _
        rw [h3, HD.out]
      rw [HO.out]
      clear HST HLE HP HD hlo
      go_wp2
      go_ret
      rw [HMT.out, HA.out]
      exact ⟨rfl, HB.out⟩
    · have r1 : (0 : Int) < (r : Int) := by omega
      have HN : Hid (decPre (r / 10) ((48 + ((r % 10 : Nat) : Int)) :: out) = R) := by
        show _ = _
        rw [HST.out r out (.inr hr0)]; exact HP.out.1
      obtain ⟨x, hx⟩ : ∃ x : Int, (48 : Int) + (r : Int) % 10 = x := ⟨_, rfl⟩
      have HX : Hid ((48 : Int) + ((r % 10 : Nat) : Int) = x) := by show _ = _; rw [← hx]; omega
      have hx0 : 0 ≤ x ∧ x ≤ 255 := by omega
      have hw2 : x % 256 = x := by omega
      obtain ⟨q, hq⟩ : ∃ q : Nat, r / 10 = q := ⟨_, rfl⟩
      have hdv : (r : Int) / 10 = (q : Int) := by omega
      have hdt : Int.tdiv (r : Int) 10 = (q : Int) := by rw [Int.tdiv_eq_ediv_of_nonneg (by omega)]; exact hdv
      have hmt : Int.tmod (r : Int) 10 = (r : Int) % 10 := Int.tmod_eq_emod_of_nonneg (by omega)
      have hqr : q < r := by omega
      rw [hq, HX.out] at HN
      have HC1 : Hid (strOfNums [x] ++ strOfNums out = strOfNums (x :: out)) := nums_cons x out
      have zo : (strOfNums out).size ≤ 19 := by rw [nums_size]; exact hlo
      have z1 : (strOfNums [x]).size = 1 := by rw [nums_size]; rfl
      obtain ⟨O, hO⟩ : ∃ O, strOfNums out = O := ⟨_, rfl⟩
      rw [hO] at HC1 zo
      rw [hO]
      obtain ⟨X, hXX⟩ : ∃ O, strOfNums [x] = O := ⟨_, rfl⟩
      rw [hXX] at HC1 z1
      have HLIT := Lib.hid (OwnY.lit wr A [x] hA1 (by unfold maxLen; simp))
      have HCV : Hid ((convert 22 9 (.slice (some ⟨wr.heap.size, 0, none⟩) 1 1)).run Try.prog (wr.alloc (.cells #[.int .u8 x] 5)) = .ok (.string X) (wr.alloc (.cells #[.int .u8 x] 5))) := by
        have := conv_y (xs := [x]) HLIT.out
        rw [hXX] at this
        exact this
      have hcv := HCV.out
      have HB2 : Hid (Below A w (wr.alloc (.cells #[.int .u8 x] 5))) := HB.out.alloc hA1 _
      have HXX := Lib.hid hx
      clear hO hXX HST HLE HP HD HLIT HCV hr0 hlo hq
      go_wp2
      go_roundw
      case rel => exact ⟨q, x :: out, by omega, by go_num, by rw [HC1.out], ⟨HN.out, fun e => by cases e⟩, HB2.out⟩
      case measure => simp [intOf]; omega

def mtsS (k : Int) (n : Nat) : List ByteArray := (List.range n).map fun (i : Nat) => mtS (k + (i : Int))
theorem mtsS_length (k : Int) (n : Nat) : (mtsS k n).length = n := by simp [mtsS]
theorem mtsS_get (k : Int) (n i : Nat) (h : i < (mtsS k n).length) : (mtsS k n)[i] = mtS (k + i) := by simp [mtsS]
def mkToT (k : Int) (xs : List ByteArray) (j : Nat) : List ByteArray := mtsS k j ++ xs.drop j
theorem mkToT_length (k : Int) (xs : List ByteArray) (j : Nat) (h : j ≤ xs.length) : (mkToT k xs j).length = xs.length := by simp [mkToT, mtsS_length]; omega
theorem mkToT_set (k : Int) (xs : List ByteArray) (j : Nat) (h : j < xs.length) : (mkToT k xs j).set j (mtS (k + j)) = mkToT k xs (j + 1) := by
  unfold mkToT
  apply List.ext_getElem
  · simp [mtsS_length]; omega
  · intro i h1 h2
    have h1' : i < xs.length := by simp [mtsS_length] at h1; omega
    rw [List.getElem_set]
    split
    · rename_i e; subst e
      rw [List.getElem_append_left (by rw [mtsS_length]; omega), mtsS_get]
    · rename_i e
      by_cases h3 : i < j
      · rw [List.getElem_append_left (by rw [mtsS_length]; omega), List.getElem_append_left (by rw [mtsS_length]; omega), mtsS_get, mtsS_get]
      · rw [List.getElem_append_right (by rw [mtsS_length]; omega), List.getElem_append_right (by rw [mtsS_length]; omega)]
        simp only [mtsS_length, List.getElem_drop]
        congr 1; omega
theorem OwnT.store {w : World} {N g n c : Nat} {xs : List ByteArray} (h : OwnT w N (.slice (some ⟨g, 0, none⟩) n c) xs) (hn : n = xs.length) (j : Nat) (hj : j < xs.length) (y : ByteArray) :
    w.cell? ⟨g, j, none⟩ = some (.string xs[j]) ∧ w.frozen? ⟨g, j, none⟩ = false ∧ OwnT (w.setCell ⟨g, j, none⟩ (.string y)) N (.slice (some ⟨g, 0, none⟩) n c) (xs.set j y) ∧ w.grownBy (w.setCell ⟨g, j, none⟩ (.string y)) (some g) := by
  subst hn
  have h' : w.ownsRow N 9 1 (.slice (some ⟨g, 0, none⟩) xs.length c) xs.length (xs.map Value.string) := h
  obtain ⟨h1, h2⟩ := h'.stored j (.string y)
  refine ⟨?_, h'.frozenAt j, ?_, h2⟩
  · rw [h'.cellAt j (by omega), List.getElem?_map, List.getElem?_eq_getElem hj]; rfl
  · unfold OwnT
    rw [List.length_set, List.map_set]; exact h1
theorem OwnT.nil_or {w : World} {N : Nat} {v : Value} {xs : List ByteArray} (h : OwnT w N v xs) : (v = .slice none 0 0 ∧ xs = []) ∨ ∃ g c, v = .slice (some ⟨g, 0, none⟩) xs.length c := by
  rcases h.2 with ⟨h1, h2⟩ | ⟨g, cap, cur, h1, _⟩
  · exact .inl ⟨h1, List.eq_nil_of_length_eq_zero h2⟩
  · exact .inr ⟨g, cap, h1⟩
theorem grown_of_below {w w' : World} {N : Nat} (row : Option Nat) (hb : Below N w w') (hN : w.heap.size ≤ N) : w.grownBy w' row := ⟨hb.os, hb.tape, hb.output, hb.size, fun k hk _ => hb.block k (by omega)⟩

end Go.Proofs.Ytmhepomjbaendaa
