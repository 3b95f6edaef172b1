
/- The reference's cutting of a text at a mark. Conditions: texts of at most 2^20 bytes. -/
import Derived.Test.YtcjeededlhdcbaaDoorStrs
import Derived.Test.YtcjeededlhdcbaaDoorCutP
import Derived.Test.YtcjeededlhdcbaaDoorGrownL
namespace Go.Proofs.YtcjeededlhdcbaaDoor
open Go.RowKit Go.Shelf Go.BigFrame
set_option linter.unusedVariables false
set_option linter.unusedSimpArgs false

theorem byte_at {s : ByteArray} {i : Nat} (h : i < s.size) : s.data.toList[i]? = some s[i] := by
  have h2 : i < s.data.toList.length := by rw [size_data]; exact h
  rw [List.getElem?_eq_getElem h2]
  rfl

set_option maxHeartbeats 1000000 in
theorem l01Cut_any (s : ByteArray) (m : UInt8) (w : World) (hs : s.size ≤ 1048576) :
    Calls Tryd.prog 50 #[.string s, .int .u8 (m.toNat : Int)] w fun e w' => (∃ v, e = .returned v ∧ OwnT w' w.heap.size v (cutB m s)) ∧ Below w.heap.size w w' := by
  obtain ⟨A, hA⟩ : ∃ A, w.heap.size = A := ⟨_, rfl⟩
  have HSZ : Hid (∀ W, Below A w W → A ≤ W.heap.size) := fun W h => by rw [← hA]; exact h.size
  have HA := Lib.hid hA
  clear hA
  go_enter Tryd.func50, Tryd.ntmps50
  go_wp2
  go_loopw [5, 6, 7] (fun vo vf vi wr => ∃ (i f n g c : Nat) (P : List ByteArray), vi = .int .i64 i ∧ vf = .int .i64 f ∧ Hid (n = P.length) ∧ vo = .slice (some ⟨g, 0, none⟩) n c ∧ Hid (OwnT wr A (.slice (some ⟨g, 0, none⟩) n c) P) ∧ n ≤ i ∧ i ≤ s.size + 1 ∧ Hid (i ≤ s.size → CutAt m s P f i) ∧ Hid (s.size < i → P = cutB m s) ∧ Hid (Below A w wr)) (fun _ _ vi _ => s.size + 1 - (intOf vi).toNat)
  case atStart =>
    refine ⟨0, 0, 0, w.heap.size, 0, [], rfl, rfl, rfl, rfl, ?_, Nat.zero_le _, by omega, fun _ => CutAt.zero m s, fun h => by omega, ?_⟩
    · show OwnT _ _ _ _
      exact OwnT.lit w A [] (by rw [HA.out]; exact Nat.le_refl _) (by unfold maxLen; simp)
    · show Below _ _ _
      rw [← HA.out]; exact (Below.refl _ w).alloc (Nat.le_refl _) _
  case round =>
    obtain ⟨i, f, n, g, c, P, rfl, rfl, HN, rfl, HO, hni, hi, HC, HL, HB⟩ := hrel
    have hA1 : A ≤ wr.heap.size := HSZ.out _ HB.out
    by_cases hlt : i < s.size
    · have hc := HC.out (by omega)
      have hfi : f ≤ i := hc.le
      have hat := byte_at hlt
      have hbl := s[i].toNat_lt
      have hml := m.toNat_lt
      obtain ⟨b, hb⟩ : ∃ b, s[i] = b := ⟨_, rfl⟩
      rw [hb] at hat hbl
      have k0 : (i : Int) ≠ (s.size : Int) := by omega
      have k1 : (i : Int) < (s.size : Int) := by omega
      have k2 : ((i : Int) == (s.size : Int)) = false := by simp; omega
      by_cases hbm : b = m
      · subst hbm
        have HN2 := Lib.hid (hc.hit hlt hat)
        clear hc hat HC HL
        go_wp2_with (at_builtin; refine append_tN rfl _ _ rfl A (.slice (some ⟨g, 0, none⟩) n c) P [s.extract f i] (by simp) rfl _ rfl HO.out hA1 (by have := HN.out; simp; omega) ?_; intro g5 c5 n5 w5 hn5 ho5 hg5; have HO5 := Lib.hid ho5; have HN5 := hn5; have HB5 : Hid (Below A w w5) := HB.out.grown hg5 hA1 (fun j e => (HO.out.lt j e).1); clear ho5 hg5 hn5)
        go_roundw
        case rel => exact ⟨i + 1, i + 1, n5, g5, c5, P ++ [s.extract f i], by go_num, by go_num, HN5, rfl, HO5.out, by have := HN5.out; have := HN.out; simp at *; omega, by omega, fun _ => HN2.out, fun h => by omega, HB5.out⟩
        case measure => simp [intOf]; omega
      · have hbm2 : ((b.toNat : Int) == (m.toNat : Int)) = false := by
          simp only [beq_eq_false_iff_ne, ne_eq, Int.natCast_inj]
          intro e
          exact hbm (UInt8.toNat_inj.1 e)
        have HN2 := Lib.hid (hc.go hlt (by rw [hat]; simpa using hbm))
        clear hc hat HC HL
        go_wp2
        go_roundw
        case rel => exact ⟨i + 1, f, n, g, c, P, by go_num, rfl, HN, rfl, HO.out, by omega, by omega, fun _ => HN2.out, fun h => by omega, HB.out⟩
        case measure => simp [intOf]; omega
    · by_cases he : i = s.size
      · have hc := HC.out (by omega)
        have hfi : f ≤ i := hc.le
        have HN2 : Hid (P ++ [s.extract f i] = cutB m s) := by subst he; exact hc.last
        have k2 : ((i : Int) == (s.size : Int)) = true := by simp; omega
        have k1 : (i : Int) ≤ (s.size : Int) := by omega
        clear hc HC HL
        have HE := Lib.hid he
        clear he hlt
        go_wp2_with (at_builtin; refine append_tN rfl _ _ rfl A (.slice (some ⟨g, 0, none⟩) n c) P [s.extract f i] (by simp) rfl _ rfl HO.out hA1 (by have := HN.out; simp; omega) ?_; intro g5 c5 n5 w5 hn5 ho5 hg5; have HO5 := Lib.hid ho5; have HN5 := hn5; have HB5 : Hid (Below A w w5) := HB.out.grown hg5 hA1 (fun j e => (HO.out.lt j e).1); clear ho5 hg5 hn5)
        go_roundw
        case rel => exact ⟨i + 1, i + 1, n5, g5, c5, P ++ [s.extract f i], by go_num, by go_num, HN5, rfl, HO5.out, by have := HN5.out; have := HN.out; simp at *; omega, by have := HE.out; omega, fun h => by have := HE.out; omega, fun _ => HN2.out, HB5.out⟩
        case measure => have := HE.out; simp [intOf]; omega
      · have hgt : ¬ (i : Int) ≤ (s.size : Int) := by omega
        have hP := HL.out (by omega)
        have HP := Lib.hid hP
        clear hP HC HL
        go_wp2
        go_ret
        rw [HA.out]
        exact ⟨⟨_, rfl, by rw [← HP.out]; exact HO.out⟩, HB.out⟩
end Go.Proofs.YtcjeededlhdcbaaDoor
