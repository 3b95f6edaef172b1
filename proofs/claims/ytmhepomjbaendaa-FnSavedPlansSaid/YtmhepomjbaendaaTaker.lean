
/- Taking parts of a text: impl.taker's methods. Conditions: at most 2^20 bytes. -/
import Derived.Test.YtmhepomjbaendaaPlnP
import Derived.Test.YtmhepomjbaendaaBlk
import Derived.Test.YtmhepomjbaendaaShelf
import Derived.Test.YtmhepomjbaendaaSavedSpec
import Derived.Lib.Repeat
namespace Go.Proofs.Ytmhepomjbaendaa
open Go.RowKit Go.Shelf Go.BigFrame
set_option linter.unusedVariables false
set_option linter.unusedSimpArgs false

/-- The cells of a taker. -/
def tkC (s : ByteArray) (st : St) : List Value := [.string s, .int .i64 (st.1 : Int), .bool st.2]
theorem grown_below {w w' : World} {N : Nat} (row : Option Nat) (hb : Below N w w') (hN : w.heap.size ≤ N) : w.grownBy w' row := ⟨hb.os, hb.tape, hb.output, hb.size, fun k hk _ => hb.block k (by omega)⟩
theorem grown_set (w : World) (p : Addr) (v : Value) : w.grownBy (w.setCell p v) (some p.block) := ⟨rfl, rfl, rfl, by simp [World.setCell], fun k hk hk' => Below.heap_setCell _ _ _ _ (fun e => hk' (by rw [e]))⟩
theorem repeat_zeros (n : Nat) : (⟨(Go.Lib.repeatL (⟨#[0]⟩ : ByteArray).data.toList n).toArray⟩ : ByteArray) = zerosB n := by
  unfold zerosB
  have := Go.Lib.repeatL_replicate (0 : UInt8) 1 n
  rw [Nat.mul_one] at this
  rw [← this]
  rfl

theorem blk_take {w : World} {T t : Nat} {s : ByteArray} {a n : Nat} {b : Bool} (q1 q2 : Nat) (hk : Blk w T t (tkC s (a, b))) : Blk (((w.drewN q1).setCell ⟨T, 1, none⟩ (.int .i64 ((a : Int) + (n : Int)))).drewN q2) T t (tkC s (a + n, b)) := by
  have h := ((hk.drewN q1).set 1 (.int .i64 ((a : Int) + (n : Int)))).drewN q2
  have e : (tkC s (a, b)).set 1 (.int .i64 ((a : Int) + (n : Int))) = tkC s (a + n, b) := by
    unfold tkC
    simp
  rwa [e] at h
theorem grown_take (w : World) {T : Nat} (v : Value) (q1 q2 : Nat) : w.grownBy (((w.drewN q1).setCell ⟨T, 1, none⟩ v).drewN q2) (some T) :=
  grownBy_trans (grownBy_trans (grown_below (some T) (below_drewN q1 (Below.refl _ w)) (Nat.le_refl _)) (grown_set _ ⟨T, 1, none⟩ v)) (grown_below (some T) (below_drewN q2 (Below.refl _ _)) (Nat.le_refl _))
theorem byte_at {s : ByteArray} {i : Nat} (h : i < s.size) : s.data.toList[i]? = some s[i] := by
  rw [Array.getElem?_toList]
  exact Array.getElem?_eq_getElem h

set_option maxHeartbeats 1000000 in
theorem take_any (T : Nat) (s : ByteArray) (st : St) (n : Nat) (w : World) (hk : Blk w T 123 (tkC s st)) (hst : st.1 ≤ s.size) (hs : s.size ≤ 1048576) (hn : n ≤ 300) :
    Calls Try.prog 120 #[.pointer (some ⟨T, 0, none⟩), .int .i64 n] w fun e w' => e = .returned (.string (tkS s n st)) ∧ Blk w' T 123 (tkC s (nx s n st)) ∧ w.grownBy w' (some T) := by
  obtain ⟨a, b⟩ := st
  have hst : a ≤ s.size := hst
  have c0 := hk.cell 0 (.string s) rfl
  have c1 := hk.cell 1 (.int .i64 (a : Int)) rfl
  have c2 := hk.cell 2 (.bool b) rfl
  have f0 := hk.frozen 0
  have f1 := hk.frozen 1
  have f2 := hk.frozen 2
  have hlt := hk.lt
  have HK := Lib.hid hk
  have HRP : Hid (∀ W, Calls Try.prog 136 #[.string ⟨#[0]⟩, .int .i64 n] W fun e w' => e = .returned (.string (zerosB n)) ∧ Below W.heap.size W w') := fun W => by
    have := Try.strings_Repeat ⟨#[0]⟩ n W (by omega) (by
      have : (⟨#[0]⟩ : ByteArray).size = 1 := rfl
      rw [this]; omega)
    rw [repeat_zeros] at this
    exact this
  clear hk
  by_cases hsh : s.size < a + n
  · have HV : Hid (tkS s n (a, b) = zerosB n ∧ nx s n (a, b) = (a, true)) := by
      unfold tkS nx
      exact ⟨if_pos hsh, if_pos hsh⟩
    have i1 : (s.size : Int) - (a : Int) < (n : Int) := by omega
    go_enter Try.func120, Try.ntmps120
    go_wp2
    go_quiet (fail)
    go_wp2_with fail
    refine (HRP.out _).mono ?_
    rintro e W1 ⟨rfl, hb⟩
    have HB := Lib.hid hb
    clear hb HRP
    go_wp2
    go_ret
    rw [HV.out.1, HV.out.2]
    have k1 : Blk ((w.drewN nq).setCell ⟨T, 2, none⟩ (.bool true)) T 123 (tkC s (a, true)) := (HK.out.drewN nq).set 2 (.bool true)
    exact ⟨rfl, k1.below HB.out k1.lt, grownBy_trans (grownBy_trans (grown_below (some T) (below_drewN nq (Below.refl _ w)) (Nat.le_refl _)) (grown_set _ ⟨T, 2, none⟩ _)) (grown_below (some T) HB.out (Nat.le_refl _))⟩
  · have HV : Hid (tkS s n (a, b) = s.extract a (a + n) ∧ nx s n (a, b) = (a + n, b)) := by
      unfold tkS nx
      exact ⟨if_neg hsh, if_neg hsh⟩
    have i1 : ¬ (s.size : Int) - (a : Int) < (n : Int) := by omega
    go_enter Try.func120, Try.ntmps120
    go_wp2
    go_quiet (fail)
    go_wp2
    have i2 : (a : Int) + (n : Int) ≤ (s.size : Int) := by omega
    have i3 : (0 : Int) ≤ (a : Int) := by omega
    have i4 : (a : Int) ≤ (a : Int) + (n : Int) := by omega
    have i5 : (a : Int) + (n : Int) - (n : Int) = (a : Int) := by omega
    go_quiet (fail)
    go_wp2
    go_ret
    rw [HV.out.1, HV.out.2]
    exact ⟨rfl, blk_take _ _ HK.out, grown_take _ _ _ _⟩

theorem ext_byte {s : ByteArray} {a n j : Nat} (h : a + n ≤ s.size) (hj : j < n) : ∃ hlt : j < (s.extract a (a + n)).size, (((s.extract a (a + n))[j]'hlt).toNat : Int) = bt s (a + j) := by
  have h1 : (s.extract a (a + n)).size = n := by
    rw [Go.Lib.size_eq, ext_data, List.length_take, List.length_drop, ← Go.Lib.size_eq]; omega
  refine ⟨by omega, ?_⟩
  have h2 : (s.extract a (a + n)).data.toList[j]? = some ((s.extract a (a + n))[j]'(by omega)) := byte_at (by omega)
  rw [ext_data, List.getElem?_take, if_pos (by omega), List.getElem?_drop] at h2
  unfold bt
  rw [List.getD_eq_getElem?_getD, h2]; rfl
theorem zero_byte {n j : Nat} (hj : j < n) : ∃ hlt : j < (zerosB n).size, (((zerosB n)[j]'hlt).toNat : Int) = 0 := by
  have h1 : (zerosB n).size = n := by
    rw [Go.Lib.size_eq]; simp [zerosB]
  refine ⟨by omega, ?_⟩
  have h2 : (zerosB n).data.toList[j]? = some ((zerosB n)[j]'(by omega)) := byte_at (by omega)
  have h3 : (zerosB n).data.toList[j]? = some 0 := by
    show (List.replicate n (0 : UInt8))[j]? = some 0
    rw [List.getElem?_replicate, if_pos hj]
  rw [h3] at h2
  rw [← Option.some.inj h2]; rfl
theorem tk_byte {s : ByteArray} {st : St} {n j : Nat} (hj : j < n) : (tkS s n st).size = n ∧ ∃ hlt : j < (tkS s n st).size, (((tkS s n st)[j]'hlt).toNat : Int) = if s.size < st.1 + n then 0 else bt s (st.1 + j) := by
  unfold tkS
  by_cases h : s.size < st.1 + n
  · simp only [if_pos h]
    exact ⟨by rw [Go.Lib.size_eq]; simp [zerosB], zero_byte hj⟩
  · simp only [if_neg h]
    refine ⟨?_, ext_byte (by omega) hj⟩
    rw [Go.Lib.size_eq, ext_data, List.length_take, List.length_drop, ← Go.Lib.size_eq]; omega

theorem tk_all (s : ByteArray) (st : St) (n : Nat) : ∃ X, tkS s n st = X ∧ X.size = n ∧ ∀ j (hj : j < X.size), ((X[j]'hj).toNat : Int) = if s.size < st.1 + n then 0 else bt s (st.1 + j) := by
  have h0 : (tkS s n st).size = n := by
    unfold tkS
    by_cases h : s.size < st.1 + n
    · simp only [if_pos h]
      rw [Go.Lib.size_eq]; simp [zerosB]
    · simp only [if_neg h]
      rw [Go.Lib.size_eq, ext_data, List.length_take, List.length_drop, ← Go.Lib.size_eq]; omega
  refine ⟨_, rfl, h0, fun j hj => ?_⟩
  obtain ⟨_, _, h⟩ := tk_byte (s := s) (st := st) (n := n) (j := j) (by omega)
  exact h

set_option maxHeartbeats 1000000 in
theorem byte_any (T : Nat) (s : ByteArray) (st : St) (w : World) (hk : Blk w T 123 (tkC s st)) (hst : st.1 ≤ s.size) (hs : s.size ≤ 1048576) :
    Calls Try.prog 121 #[.pointer (some ⟨T, 0, none⟩)] w fun e w' => e = .returned (.int .i64 (byV s st)) ∧ Blk w' T 123 (tkC s (nx s 1 st)) ∧ w.grownBy w' (some T) := by
  have HT := Lib.hid (take_any T s st 1 w hk hst hs (by omega))
  obtain ⟨X, hX, h1, h2⟩ := tk_all s st 1
  have h3 := h2 0 (by omega)
  have HV : Hid (byV s st = if s.size < st.1 + 1 then 0 else bt s (st.1 + 0)) := rfl
  rw [← HV.out] at h3
  rw [hX] at HT
  have hb := (X[0]'(by omega)).toNat_lt
  have H3 := Lib.hid h3
  clear hX hk HV h2 h3
  go_enter Try.func121, Try.ntmps121
  go_wp2_with fail
  refine HT.out.mono ?_
  rintro e W1 ⟨rfl, hk1, hg1⟩
  have HK1 := Lib.hid hk1
  have HG1 := Lib.hid hg1
  clear hk1 hg1 HT
  go_wp2
  go_ret
  exact ⟨ret_int (by first | exact H3.out | simpa using H3.out), HK1.out, HG1.out⟩
theorem two_sum (x y : Nat) : ((y * 256 + x : Nat) : Int) = (x : Int) + 256 * (y : Int) := by omega
theorem or_two (x y : Nat) (hx : x < 256) (hy : y < 256) : bits .or .i64 (x : Int) ((y : Int) * 256) = (x : Int) + 256 * (y : Int) := by
  have h1 := (bits_nat .i64 16 (by decide) (fun m h0 h1 => IntWalk.i64_in m (by omega)) x (y * 256) (by omega) (by omega)).2
  have h2 : (((y * 256 : Nat)) : Int) = (y : Int) * 256 := by rw [Int.natCast_mul]; rfl
  rw [h2] at h1
  rw [h1]
  have h3 := Nat.shiftLeft_add_eq_or_of_lt (show x < 2 ^ 8 from hx) y
  rw [Nat.shiftLeft_eq, show (2 : Nat) ^ 8 = 256 by decide] at h3
  have h4 : x ||| y * 256 = y * 256 + x := by
    rw [Nat.or_comm]
    exact h3.symm
  refine (congrArg (fun z : Nat => (z : Int)) h4).trans ?_
  exact two_sum x y

set_option maxHeartbeats 1000000 in
theorem two_any (T : Nat) (s : ByteArray) (st : St) (w : World) (hk : Blk w T 123 (tkC s st)) (hst : st.1 ≤ s.size) (hs : s.size ≤ 1048576) :
    Calls Try.prog 122 #[.pointer (some ⟨T, 0, none⟩)] w fun e w' => e = .returned (.int .i64 (twV s st)) ∧ Blk w' T 123 (tkC s (nx s 2 st)) ∧ w.grownBy w' (some T) := by
  have HT := Lib.hid (take_any T s st 2 w hk hst hs (by omega))
  obtain ⟨X, hX, h1, h2⟩ := tk_all s st 2
  have h3 := h2 0 (by omega)
  have h5 := h2 1 (by omega)
  have HV : Hid (twV s st = (if s.size < st.1 + 2 then 0 else bt s (st.1 + 0)) + 256 * (if s.size < st.1 + 2 then 0 else bt s (st.1 + 1))) := by
    show _ = _
    unfold twV
    split
    · rfl
    · rfl
  rw [← h3, ← h5] at HV
  rw [hX] at HT
  have hb := (X[0]'(by omega)).toNat_lt
  have hb2 := (X[1]'(by omega)).toNat_lt
  clear hX hk h2 h3 h5
  go_enter Try.func122, Try.ntmps122
  go_wp2_with fail
  refine HT.out.mono ?_
  rintro e W1 ⟨rfl, hk1, hg1⟩
  have HK1 := Lib.hid hk1
  have HG1 := Lib.hid hg1
  clear hk1 hg1 HT
  go_wp2
  go_quiet (fail)
  go_wp2
  go_ret
  rw [HV.out]
  exact ⟨ret_int (or_two _ _ hb hb2), HK1.out.drewN _, grownBy_trans HG1.out (grown_below (some T) (below_drewN _ (Below.refl _ _)) (Nat.le_refl _))⟩
end Go.Proofs.Ytmhepomjbaendaa
