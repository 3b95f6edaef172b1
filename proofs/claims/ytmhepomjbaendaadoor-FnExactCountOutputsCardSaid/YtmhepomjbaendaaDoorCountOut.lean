
/- The walk of FnExactCountOutputs. Conditions: texts of at most 2^20 bytes (else the law says true at once). -/
import Derived.Test.YtmhepomjbaendaaDoorLines
namespace Go.Proofs.YtmhepomjbaendaaDoor
open Go.RowKit Go.Shelf Go.BigFrame
set_option linter.unusedVariables false
set_option linter.unusedSimpArgs false

theorem lineN_le (s : ByteArray) : lineN s ≤ s.size + 1 ∧ lineN s < (cutB 10 s).length := by
  have h1 := cutB_length 10 s
  have h2 := Go.Lib.count_le s.data.toList [10]
  rw [size_data] at h2
  have h3 : Go.Lib.countB s ⟨#[10]⟩ ≤ s.size + 1 := h2
  unfold lineN
  omega
/-- A line that is an error: no, or what. -/
def isErr (x : ByteArray) : Bool := x.toList == [110, 111] || x.toList == [119, 104, 97, 116]
def badTo (s : ByteArray) (k : Nat) : Nat := ((cutB 10 s).take k).countP isErr
theorem badTo_succ {s x : ByteArray} {k : Nat} (h : k < (cutB 10 s).length) (hx : (cutB 10 s).getD k ByteArray.empty = x) : badTo s (k + 1) = if isErr x then badTo s k + 1 else badTo s k := by
  rw [List.getD_eq_getElem?_getD, List.getElem?_eq_getElem h] at hx
  unfold badTo
  rw [List.take_succ_eq_append_getElem h, List.countP_append]
  rw [show (cutB 10 s)[k] = x from hx]
  cases he : isErr x <;> simp [he]
theorem badTo_le (s : ByteArray) (k : Nat) : badTo s k ≤ k := by
  unfold badTo
  have h1 := List.countP_le_length (p := isErr) (l := (cutB 10 s).take k)
  rw [List.length_take] at h1
  omega
def outBad (s : ByteArray) : Int := if linesOk s then badTo s (lineN s) else 0
def outGood (s : ByteArray) : Int := if linesOk s then (lineN s : Int) - badTo s (lineN s) else 0

set_option maxHeartbeats 1000000 in
theorem implCountOut_any (s : ByteArray) (m : Int) (w : World) (hs : s.size ≤ 1048576) (hm : w.cell? ⟨0, 0, none⟩ = some (.int .i64 m)) :
    Calls Tryd.prog 9 #[.string s] w fun e w' => e = .returned (.tuple #[.int .i64 (outBad s), .int .i64 (outGood s), .bool (linesOk s)]) ∧ Below w.heap.size w w' := by
  have HL := Lib.hid (linesOf_any s m w hs hm)
  obtain ⟨q1, q2⟩ := lineN_le s
  have hyes : Hid (linesOk s = true → outBad s = (badTo s (lineN s) : Int) ∧ outGood s = (lineN s : Int) - badTo s (lineN s)) := fun h => by unfold outBad outGood; rw [h]; exact ⟨rfl, rfl⟩
  have hno : Hid (linesOk s = false → outBad s = 0 ∧ outGood s = 0) := fun h => by unfold outBad outGood; rw [h]; exact ⟨rfl, rfl⟩
  obtain ⟨p, hp⟩ : ∃ p, lineN s = p := ⟨_, rfl⟩
  rw [hp] at q1 q2 HL hyes
  clear hm hp
  have HLE : Hid (∀ k, badTo s k ≤ k) := badTo_le s
  go_enter Tryd.func9, Tryd.ntmps9
  go_wp2_with fail
  refine HL.out.mono ?_
  rintro e W1 ⟨⟨b, c, rfl, hc, htx⟩, hb⟩
  have HT := Lib.hid htx
  have HB := Lib.hid hb
  clear htx hb HL
  cases hok : linesOk s
  · obtain ⟨n1, n2⟩ := hno.out hok
    go_wp2
    go_ret3
    rw [n1, n2, hok]
    exact ⟨rfl, HB.out⟩
  · obtain ⟨n1, n2⟩ := hyes.out hok
    have N1 := Lib.hid n1
    have N2 := Lib.hid n2
    clear n1 n2
    go_wp2
    go_loopw [7, 9, 19] (fun vb _ vi wr => ∃ k : Nat, k ≤ p ∧ vi = .int .i64 k ∧ vb = .int .i64 (badTo s k : Nat) ∧ wr = W1) (fun _ _ vi _ => p - (intOf vi).toNat)
    case atStart => exact ⟨0, Nat.zero_le _, rfl, rfl, by first | rfl | trivial⟩
    case round =>
      obtain ⟨k, hk, rfl, rfl, rfl⟩ := hrel
      have hz := HLE.out k
      by_cases hkp : k < p
      · have c0 := HT.out.2 k (by omega)
        obtain ⟨x, hx⟩ : ∃ x, (cutB 10 s).getD k ByteArray.empty = x := ⟨_, rfl⟩
        have hS := badTo_succ (show k < (cutB 10 s).length by omega) hx
        rw [hx] at c0
        obtain ⟨z, hz2⟩ : ∃ z, badTo s k = z := ⟨_, rfl⟩
        rw [hz2] at hS hz
        rw [hz2]
        have i1 : (k : Int) < (p : Int) := by omega
        clear hx hz2
        have HR : Hid (∀ y : Int, y = (if isErr x then (z : Int) + 1 else z) → y = (badTo s (k + 1) : Nat)) := by
          intro y hy
          rw [hS, hy]
          split <;> simp
        clear hS
        by_cases e1 : x.toList = [110, 111]
        · have he : isErr x = true := by unfold isErr; rw [e1]; rfl
          go_wp2
          go_roundw
          case rel => exact ⟨k + 1, by omega, by go_num, congrArg (Value.int .i64) (HR.out ((z : Int) + 1) (by rw [he]; rfl)), by first | rfl | trivial⟩
          case measure => simp [intOf]; omega
        · by_cases e2 : x.toList = [119, 104, 97, 116]
          · have he : isErr x = true := by unfold isErr; rw [e2]; rfl
            go_wp2
            go_roundw
            case rel => exact ⟨k + 1, by omega, by go_num, congrArg (Value.int .i64) (HR.out ((z : Int) + 1) (by rw [he]; rfl)), by first | rfl | trivial⟩
            case measure => simp [intOf]; omega
          · have he : isErr x = false := by unfold isErr; simp [e1, e2]
            have b1 : (x.toList == [110, 111]) = false := by simpa using e1
            have b2 : (x.toList == [119, 104, 97, 116]) = false := by simpa using e2
            go_wp2
            go_roundw
            case rel => exact ⟨k + 1, by omega, by go_num, congrArg (Value.int .i64) (HR.out (z : Int) (by rw [he]; rfl)), by first | rfl | trivial⟩
            case measure => simp [intOf]; omega
      · obtain rfl : k = p := by omega
        obtain ⟨z, hz2⟩ : ∃ z, badTo s k = z := ⟨_, rfl⟩
        rw [hz2] at hz N1 N2
        rw [hz2]
        clear hz2 HLE
        go_wp2
        go_ret3
        rw [N1.out, N2.out, hok]
        exact ⟨rfl, HB.out⟩

set_option maxHeartbeats 1000000 in
theorem specCountOut_any (s : ByteArray) (w : World) (hs : s.size ≤ 1048576) :
    Calls Tryd.prog 8 #[.string s] w fun e w' => e = .returned (.tuple #[.int .i64 (outBad s), .int .i64 (outGood s), .bool (linesOk s)]) ∧ Below w.heap.size w w' := by
  have HL := Lib.hid (l08Lines_any s w hs)
  obtain ⟨q1, q2⟩ := lineN_le s
  have hyes : Hid (linesOk s = true → outBad s = (badTo s (lineN s) : Int) ∧ outGood s = (lineN s : Int) - badTo s (lineN s)) := fun h => by unfold outBad outGood; rw [h]; exact ⟨rfl, rfl⟩
  have hno : Hid (linesOk s = false → outBad s = 0 ∧ outGood s = 0) := fun h => by unfold outBad outGood; rw [h]; exact ⟨rfl, rfl⟩
  obtain ⟨p, hp⟩ : ∃ p, lineN s = p := ⟨_, rfl⟩
  rw [hp] at q1 q2 HL hyes
  obtain ⟨y, hy⟩ : ∃ y, lastB s = y := ⟨_, rfl⟩
  rw [hy] at HL
  clear hp
  have HLE : Hid (∀ k, badTo s k ≤ k) := badTo_le s
  by_cases hsz : s.size ≤ 16000
  · have hsz2 : ¬ (s.size : Int) > 16000 := by omega
    have hokE : linesOk s = y.toList.isEmpty := by unfold linesOk; rw [hy, decide_eq_true hsz, Bool.true_and]
    have HOK := Lib.hid hokE
    clear hy hokE
    go_enter Tryd.func8, Tryd.ntmps8
    go_wp2_with fail
    refine HL.out.mono ?_
    rintro e W1 ⟨⟨b, c, rfl, hc, htx⟩, hb⟩
    have HT := Lib.hid htx
    have HB := Lib.hid hb
    clear htx hb HL
    by_cases hem : y.toList = []
    · have hok : linesOk s = true := by rw [HOK.out, hem]; rfl
      obtain ⟨n1, n2⟩ := hyes.out hok
      have N1 := Lib.hid n1
      have N2 := Lib.hid n2
      clear n1 n2
      go_wp2
      go_loopw [7, 8] (fun vb vi wr => ∃ k : Nat, k ≤ p ∧ vi = .int .i64 k ∧ vb = .int .i64 (badTo s k : Nat) ∧ wr = W1) (fun _ vi _ => p - (intOf vi).toNat)
      case atStart => exact ⟨0, Nat.zero_le _, rfl, rfl, by first | rfl | trivial⟩
      case round =>
        obtain ⟨k, hk, rfl, rfl, rfl⟩ := hrel
        have hz := HLE.out k
        by_cases hkp : k < p
        · have c0 := HT.out.2 k (by omega)
          obtain ⟨x, hx⟩ : ∃ x, (cutB 10 s).getD k ByteArray.empty = x := ⟨_, rfl⟩
          have hS := badTo_succ (show k < (cutB 10 s).length by omega) hx
          rw [hx] at c0
          obtain ⟨z, hz2⟩ : ∃ z, badTo s k = z := ⟨_, rfl⟩
          rw [hz2] at hS hz
          rw [hz2]
          have i1 : (k : Int) < (p : Int) := by omega
          clear hx hz2
          have HR : Hid (∀ y : Int, y = (if isErr x then (z : Int) + 1 else z) → y = (badTo s (k + 1) : Nat)) := by
            intro y hy
            rw [hS, hy]
            split <;> simp
          clear hS
          by_cases e1 : x.toList = [110, 111]
          · have he : isErr x = true := by unfold isErr; rw [e1]; rfl
            go_wp2
            go_roundw
            case rel => exact ⟨k + 1, by omega, by go_num, congrArg (Value.int .i64) (HR.out ((z : Int) + 1) (by rw [he]; rfl)), by first | rfl | trivial⟩
            case measure => simp [intOf]; omega
          · by_cases e2 : x.toList = [119, 104, 97, 116]
            · have he : isErr x = true := by unfold isErr; rw [e2]; rfl
              go_wp2
              go_roundw
              case rel => exact ⟨k + 1, by omega, by go_num, congrArg (Value.int .i64) (HR.out ((z : Int) + 1) (by rw [he]; rfl)), by first | rfl | trivial⟩
              case measure => simp [intOf]; omega
            · have he : isErr x = false := by unfold isErr; simp [e1, e2]
              have b1 : (x.toList == [110, 111]) = false := by simpa using e1
              have b2 : (x.toList == [119, 104, 97, 116]) = false := by simpa using e2
              go_wp2
              go_roundw
              case rel => exact ⟨k + 1, by omega, by go_num, congrArg (Value.int .i64) (HR.out (z : Int) (by rw [he]; rfl)), by first | rfl | trivial⟩
              case measure => simp [intOf]; omega
        · obtain rfl : k = p := by omega
          obtain ⟨z, hz2⟩ : ∃ z, badTo s k = z := ⟨_, rfl⟩
          rw [hz2] at hz N1 N2
          rw [hz2]
          clear hz2 HLE
          go_wp2
          go_ret3
          rw [N1.out, N2.out, hok]
          exact ⟨rfl, HB.out⟩
    · have hem3 : y.toList.isEmpty = false := List.isEmpty_eq_false_iff.2 hem
      have hok : linesOk s = false := by rw [HOK.out]; exact hem3
      obtain ⟨n1, n2⟩ := hno.out hok
      go_wp2
      go_ret3
      rw [n1, n2, hok]
      exact ⟨rfl, HB.out⟩
  · have hsz2 : (s.size : Int) > 16000 := by omega
    have hok : linesOk s = false := by unfold linesOk; rw [decide_eq_false hsz, Bool.false_and]
    obtain ⟨n1, n2⟩ := hno.out hok
    go_enter Tryd.func8, Tryd.ntmps8
    go_wp2
    go_ret3
    rw [n1, n2, hok]
    exact ⟨rfl, Below.refl _ _⟩

set_option maxHeartbeats 1000000 in
theorem walkFnExactCountOutputs (s : ByteArray) (w : World) (hs : s.size ≤ maxLen) {L : List (String × DataW Unit)} (hL : laidMetH Tryd.prog L w) (hsh : w.ShapedOpen Tryd.prog) :
    Calls Tryd.prog 3 #[.string s] w fun e w' => e = .returned (.bool true) ∧ Below w.heap.size w w' := by
  obtain ⟨m, hm⟩ := Tryd.laysM146.s1_3 w hsh
  have hm : w.cell? ⟨0, 0, none⟩ = some (.int .i64 m) := hm
  have h0 : 0 < w.heap.size := lt_of_cell hm
  clear hL hsh
  by_cases hlong : s.size ≤ 1048576
  · have h1 : ¬ (s.size : Int) > 1048576 := by omega
    have HI : Hid (∀ W, Below w.heap.size w W → Calls Tryd.prog 9 #[.string s] W fun e w' => e = .returned (.tuple #[.int .i64 (outBad s), .int .i64 (outGood s), .bool (linesOk s)]) ∧ Below W.heap.size W w') := fun W hW => implCountOut_any s m W hlong ((hW.cell (p := ⟨0, 0, none⟩) h0).trans hm)
    have HS := Lib.hid (specCountOut_any s w hlong)
    obtain ⟨x, hx⟩ : ∃ x, outBad s = x := ⟨_, rfl⟩
    obtain ⟨y, hy⟩ : ∃ x, outGood s = x := ⟨_, rfl⟩
    obtain ⟨z, hz⟩ : ∃ x, linesOk s = x := ⟨_, rfl⟩
    rw [hx, hy, hz] at HI HS
    clear hx hy hz hm
    go_enter Tryd.func3, Tryd.ntmps3
    go_wp2_with fail
    refine HS.out.mono ?_
    rintro e W1 ⟨rfl, hb1⟩
    have HB1 := Lib.hid hb1
    clear hb1 HS
    go_wp2_with fail
    refine (HI.out _ HB1.out).mono ?_
    rintro e W2 ⟨rfl, hb2⟩
    have HB2 := Lib.hid (HB1.out.trans (hb2.mono HB1.out.size))
    clear hb2 HI
    cases z
    all_goals
      go_wp2
      go_ret
      exact ⟨rfl, HB2.out⟩
  · have h1 : (s.size : Int) > 1048576 := by omega
    go_enter Tryd.func3, Tryd.ntmps3
    go_wp2
    go_ret
    exact ⟨rfl, Below.refl _ _⟩
end Go.Proofs.YtmhepomjbaendaaDoor
