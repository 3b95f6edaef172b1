
/- The text of a list of numbers, by the program and by the reference. Conditions: at most 2^20 numbers; the library's table of powers of ten stands. -/
import Derived.Test.YtmhepomjbaendaaDoorDec
import Derived.Test.YtmhepomjbaendaaDoorTxtP
import Derived.Test.YtmhepomjbaendaaDoorStrs
import Derived.Test.YtmhepomjbaendaaDoorOwnTx
namespace Go.Proofs.YtmhepomjbaendaaDoor
open Go.RowKit Go.Shelf Go.BigFrame
set_option linter.unusedVariables false
set_option linter.unusedSimpArgs false

theorem joined_any (v : Value) (l : List ByteArray) (B : Nat) (w : World) (hv : OwnT w B v l) (hl : l.length ≤ 1048576) (hB : ∀ x ∈ l, x.data.toList.length ≤ 4096) :
    Calls Tryd.prog 54 #[v] w fun e w' => e = .returned (.string (if l = [] then ⟨#[110, 111, 110, 101]⟩ else jnS 44 l)) ∧ Below w.heap.size w w' := by
  by_cases h0 : l = []
  · subst h0
    obtain ⟨a, c, rfl⟩ : ∃ a c, v = .slice a 0 c := by
      rcases hv.2 with ⟨h1, _⟩ | ⟨g, cap, cur, h1, _⟩
      · exact ⟨_, _, h1⟩
      · exact ⟨_, _, h1⟩
    rw [if_pos rfl]
    go_enter Tryd.func54, Tryd.ntmps54
    go_wp2
    go_ret
    exact ⟨rfl, Below.refl _ _⟩
  · rw [if_neg h0]
    have h1 : 1 ≤ l.length := by cases l with
      | nil => exact absurd rfl h0
      | cons x l => simp
    obtain ⟨g, c, rfl, hc, htx⟩ := hv.txc h1
    have hlen : (Go.Lib.join (l.map (·.data.toList)) [44]).length ≤ 140737488355328 := by
      have h2 := join_size [44] 4096 (l.map (·.data.toList)) (by
        intro y hy
        obtain ⟨x, hx, rfl⟩ := List.mem_map.1 hy
        exact hB x hx)
      rw [List.length_map] at h2
      have h3 : l.length * (4096 + [(44 : UInt8)].length) ≤ 1048576 * 4097 := Nat.mul_le_mul hl (by decide)
      omega
    have HJ : Hid (Calls Tryd.prog 37 #[.slice (some ⟨g, 0, none⟩) l.length c, .string ⟨#[44]⟩] w fun e w' => e = .returned (.string (jnS 44 l)) ∧ Below w.heap.size w w') := by
      have := Tryd.strings_Join g 0 c l ⟨#[44]⟩ w (by
        intro j x hj
        obtain ⟨h4, h5⟩ := List.getElem?_eq_some_iff.1 hj
        have := htx.2 j h4
        rw [List.getD_eq_getElem?_getD, hj] at this
        rw [Nat.zero_add]
        exact this) htx.1 (by omega) hc hlen
      exact this
    obtain ⟨n, hn⟩ : ∃ n, l.length = n := ⟨_, rfl⟩
    rw [hn] at HJ hc h1
    rw [hn]
    have b1 : ((n : Int) == 0) = false := by simp; omega
    clear hv htx hlen hn
    go_enter Tryd.func54, Tryd.ntmps54
    go_wp2_with fail
    refine HJ.out.mono ?_
    rintro e w' ⟨rfl, hb⟩
    have HB := Lib.hid hb
    clear hb
    go_wp2
    go_ret
    exact ⟨rfl, HB.out⟩

set_option maxHeartbeats 1000000 in
theorem listText_any (v : Value) (xs : List Int) (w : World) (hv : Ints w v xs) (hw : ∀ x ∈ xs, (Lit.int .i64 x).wf = true) (hl : xs.length ≤ 1048576) (ht : Tab10 w) :
    Calls Tryd.prog 32 #[v] w fun e w' => e = .returned (.string (listS xs)) ∧ Below w.heap.size w w' := by
  obtain ⟨A, hA⟩ : ∃ A, w.heap.size = A := ⟨_, rfl⟩
  have HSZ : Hid (∀ W, Below A w W → A ≤ W.heap.size) := fun W h => by rw [← hA]; exact h.size
  have HT : Hid (∀ W, Below A w W → Tab10 W) := fun W h => ht.below (by rw [hA]; exact h)
  have HDC : Hid (∀ k (h : k < xs.length) W, Below A w W → Calls Tryd.prog 43 #[.int .i64 (nth xs k)] W fun e w' => e = .returned (.string (decS (nth xs k))) ∧ Below W.heap.size W w') := fun k h W hW => decimal_any _ W (by rw [nth_eq h]; exact hw _ (List.getElem_mem h)) (HT.out W hW)
  have HJN : Hid (∀ v W, OwnT W A v (xs.map decS) → Calls Tryd.prog 54 #[v] W fun e w' => e = .returned (.string (listS xs)) ∧ Below W.heap.size W w') := fun v W ho => by
    refine (joined_any v (xs.map decS) A W ho (by rw [List.length_map]; exact hl) (by
      intro y hy
      obtain ⟨x, hx, rfl⟩ := List.mem_map.1 hy
      have h2 := wf_i64_iff.1 (hw x hx)
      have := decS_len (n := x) (by omega) (by omega)
      omega)).mono ?_
    rintro e w' ⟨rfl, hb⟩
    refine ⟨?_, hb⟩
    congr 2
    unfold listS
    by_cases h : xs = []
    · rw [h]; rfl
    · rw [if_neg h, if_neg (by simpa using h)]
  obtain ⟨hm, a, c, rfl, hcap, hc⟩ := hv
  have HC : Hid (∀ k, k < xs.length → ∃ b o, a = some ⟨b, o, none⟩ ∧ b < A ∧ w.cell? ⟨b, o + k, none⟩ = some (.int .i64 (nth xs k))) := fun k hk => by
    obtain ⟨b, o, h1, h2, h3⟩ := hc k hk
    exact ⟨b, o, h1, by omega, by rw [nth_eq hk]; exact h3⟩
  have HA := Lib.hid hA
  unfold maxLen at hm
  clear hA hc hw ht HT
  go_enter Tryd.func32, Tryd.ntmps32
  go_wp2
  go_loopw [3, 5, 9] (fun vo _ vi wr => ∃ (k n g c' : Nat), k ≤ xs.length ∧ vi = .int .i64 k ∧ Hid (n = k) ∧ vo = .slice (some ⟨g, 0, none⟩) n c' ∧ Hid (OwnT wr A (.slice (some ⟨g, 0, none⟩) n c') ((xs.take k).map decS)) ∧ Hid (Below A w wr)) (fun _ _ vi _ => xs.length - (intOf vi).toNat)
  case atStart =>
    refine ⟨0, 0, w.heap.size, 0, Nat.zero_le _, rfl, rfl, rfl, ?_, ?_⟩
    · show OwnT _ _ _ _
      exact OwnT.lit w A [] (by rw [HA.out]; exact Nat.le_refl _) (by unfold maxLen; simp)
    · show Below _ _ _
      rw [← HA.out]; exact (Below.refl _ w).alloc (Nat.le_refl _) _
  case round =>
    obtain ⟨k, n, g, c', hk, rfl, HN, rfl, HO, HB⟩ := hrel
    have hA1 : A ≤ wr.heap.size := HSZ.out _ HB.out
    by_cases hlt : k < xs.length
    · obtain ⟨b, o, rfl, hbA, hcell⟩ := HC.out k hlt
      have c0 := (HB.out.cell (p := ⟨b, o + k, none⟩) hbA).trans hcell
      have HD := Lib.hid (HDC.out k hlt wr HB.out)
      have HTK : Hid ((xs.take k).map decS ++ [decS (nth xs k)] = (xs.take (k + 1)).map decS) := by
        show _ = _
        rw [List.take_succ_eq_append_getElem hlt, List.map_append, nth_eq hlt]; rfl
      obtain ⟨x, hx⟩ : ∃ x, nth xs k = x := ⟨_, rfl⟩
      rw [hx] at c0 HD HTK
      have i1 : (k : Int) < (xs.length : Int) := by omega
      clear hx hcell HC HDC HJN
      go_wp2_with fail
      refine HD.out.mono ?_
      rintro e W1 ⟨rfl, hb1⟩
      have HB1 := Lib.hid (HB.out.trans (hb1.mono hA1))
      have HO1 := Lib.hid (HO.out.below hb1 (Nat.le_refl _))
      have hA2 : A ≤ W1.heap.size := HSZ.out _ HB1.out
      have hlen : Hid (((xs.take k).map decS).length + [decS x].length ≤ 1099511627776) := by show _ ≤ _; simp; omega
      clear hb1 HO HB HD
      go_wp2_with (at_builtin; refine append_tN rfl _ _ rfl A (.slice (some ⟨g, 0, none⟩) n c') ((xs.take k).map decS) [decS x] (by simp) rfl _ rfl HO1.out hA2 hlen.out ?_; intro g5 c5 n5 w5 hn5 ho5 hg5; rw [HTK.out] at hn5 ho5; have HO5 := Lib.hid ho5; have HN5 : Hid (n5 = k + 1) := (by show _ = _; rw [hn5.out]; simp; omega); have HB5 : Hid (Below A w w5) := HB1.out.grown hg5 hA2 (fun j e => (HO1.out.lt j e).1); clear ho5 hg5 hn5)
      go_roundw
      case rel => exact ⟨k + 1, n5, g5, c5, by omega, by go_num, HN5, rfl, HO5.out, HB5.out⟩
      case measure => simp [intOf]; omega
    · have hkl : k = xs.length := by omega
      have HO2 : Hid (OwnT wr A (.slice (some ⟨g, 0, none⟩) n c') (xs.map decS)) := by
        have := HO.out
        rw [hkl, List.take_length] at this
        exact this
      have HJ := Lib.hid (HJN.out _ wr HO2.out)
      clear HJN HDC HC HO hkl
      go_wp2_with fail
      refine HJ.out.mono ?_
      rintro e W1 ⟨rfl, hb1⟩
      have HB1 := Lib.hid (HB.out.trans (hb1.mono hA1))
      clear hb1
      go_wp2
      go_ret
      rw [HA.out]
      exact ⟨rfl, HB1.out⟩

set_option maxHeartbeats 1000000 in
theorem l01Text_any (v : Value) (xs : List Int) (w : World) (hv : Ints w v xs) (hw : ∀ x ∈ xs, (Lit.int .i64 x).wf = true) (hl : xs.length ≤ 1048576) :
    Calls Tryd.prog 52 #[v] w fun e w' => e = .returned (.string (listS xs)) ∧ Below w.heap.size w w' := by
  obtain ⟨A, hA⟩ : ∃ A, w.heap.size = A := ⟨_, rfl⟩
  have HSZ : Hid (∀ W, Below A w W → A ≤ W.heap.size) := fun W h => by rw [← hA]; exact h.size
  have HDC : Hid (∀ k (h : k < xs.length) W, Below A w W → Calls Tryd.prog 59 #[.int .i64 (nth xs k)] W fun e w' => e = .returned (.string (decS (nth xs k))) ∧ Below W.heap.size W w') := fun k h W hW => l01Dec_any _ W (by rw [nth_eq h]; exact hw _ (List.getElem_mem h))
  have HTL : Hid (∀ k, (txtTo xs k).size ≤ k * 21) := fun k => txtTo_len k (fun x hx => by have := wf_i64_iff.1 (hw x hx); omega)
  have HDL : Hid (∀ k, k < xs.length → (decS (nth xs k)).size ≤ 20) := fun k h => by
    have h2 := wf_i64_iff.1 (hw _ (List.getElem_mem h))
    have := decS_len (n := xs[k]) (by omega) (by omega)
    rw [nth_eq h]
    rw [← Go.Lib.size_eq] at this
    exact this
  obtain ⟨hm, a, c, rfl, hcap, hc⟩ := hv
  have HC : Hid (∀ k, k < xs.length → ∃ b o, a = some ⟨b, o, none⟩ ∧ b < A ∧ w.cell? ⟨b, o + k, none⟩ = some (.int .i64 (nth xs k))) := fun k hk => by
    obtain ⟨b, o, h1, h2, h3⟩ := hc k hk
    exact ⟨b, o, h1, by omega, by rw [nth_eq hk]; exact h3⟩
  have HA := Lib.hid hA
  unfold maxLen at hm
  clear hA hc hw
  by_cases h0 : xs = []
  · subst h0
    go_enter Tryd.func52, Tryd.ntmps52
    go_wp2
    go_ret
    exact ⟨rfl, Below.refl _ _⟩
  · have h1 : 0 < xs.length := by cases xs with
      | nil => exact absurd rfl h0
      | cons x l => simp
    have b1 : ((xs.length : Int) == 0) = false := by simp; omega
    have HF := Lib.hid (txtTo_full h0)
    have HST : Hid (∀ k, k < xs.length → 1 ≤ k → txtTo xs (k + 1) = txtTo xs k ++ (⟨#[44]⟩ ++ decS (nth xs k))) := fun k h h2 => by rw [nth_eq h]; exact txtTo_succ h h2
    have HON : Hid (txtTo xs 1 = decS (nth xs 0)) := by show _ = _; rw [nth_eq h1]; exact txtTo_one h1
    obtain ⟨b, o, rfl, hbA, hcell⟩ := HC.out 0 h1
    have HD := Lib.hid (HDC.out 0 h1 w (Below.refl _ _))
    rw [← HON.out] at HD
    obtain ⟨x0, hx0⟩ : ∃ x, nth xs 0 = x := ⟨_, rfl⟩
    rw [hx0] at HD hcell
    rw [Nat.add_zero] at hcell
    clear h0 hx0 HON
    go_enter Tryd.func52, Tryd.ntmps52
    go_wp2_with fail
    refine HD.out.mono ?_
    rintro e W1 ⟨rfl, hb1⟩
    have HB1 : Hid (Below A w W1) := by rw [← HA.out]; exact hb1
    clear hb1 HD hcell
    go_wp2
    go_loopw [3, 4] (fun vo vi wr => ∃ k : Nat, 1 ≤ k ∧ k ≤ xs.length ∧ vi = .int .i64 k ∧ vo = .string (txtTo xs k) ∧ Hid (Below A w wr)) (fun _ vi _ => xs.length - (intOf vi).toNat)
    case atStart => exact ⟨1, Nat.le_refl _, h1, rfl, rfl, HB1⟩
    case round =>
      obtain ⟨k, hk1, hk, rfl, rfl, HB⟩ := hrel
      have hA1 : A ≤ wr.heap.size := HSZ.out _ HB.out
      by_cases hlt : k < xs.length
      · obtain ⟨b', o', e', hbA', hcell⟩ := HC.out k hlt
        cases e'
        have c0 := (HB.out.cell (p := ⟨b, o + k, none⟩) hbA).trans hcell
        have HD := Lib.hid (HDC.out k hlt wr HB.out)
        have HSX := Lib.hid (HST.out k hlt hk1)
        have s1 := HTL.out k
        have s2 := HDL.out k hlt
        obtain ⟨x, hx⟩ : ∃ x, nth xs k = x := ⟨_, rfl⟩
        rw [hx] at c0 HD HSX s2
        obtain ⟨d, hd⟩ : ∃ d, decS x = d := ⟨_, rfl⟩
        rw [hd] at HD HSX s2
        obtain ⟨T, hT⟩ : ∃ d, txtTo xs k = d := ⟨_, rfl⟩
        rw [hT] at HSX s1
        rw [hT]
        have i1 : (k : Int) < (xs.length : Int) := by omega
        clear hx hcell HC HDC HST HTL HDL hd hT
        go_wp2_with fail
        refine HD.out.mono ?_
        rintro e W2 ⟨rfl, hb2⟩
        have HB2 := Lib.hid (HB.out.trans (hb2.mono hA1))
        clear hb2 HD HB
        go_wp2
        go_roundw
        case rel => exact ⟨k + 1, by omega, by omega, by go_num, by rw [HSX.out], HB2.out⟩
        case measure => simp [intOf]; omega
      · have hkl : k = xs.length := by omega
        subst hkl
        have HFF := HF
        clear HC HDC HST HTL HDL
        go_wp2
        go_ret
        rw [HA.out, HFF.out]
        exact ⟨rfl, HB.out⟩
end Go.Proofs.YtmhepomjbaendaaDoor
