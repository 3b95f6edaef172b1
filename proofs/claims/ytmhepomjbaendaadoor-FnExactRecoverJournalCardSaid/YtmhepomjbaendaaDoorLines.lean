
/- The lines of a text, by the program and by the reference. Conditions: texts of at most 2^20 bytes. -/
import Derived.Test.YtmhepomjbaendaaDoorCut
import Derived.Test.YtmhepomjbaendaaDoorClone
import Derived.Test.YtmhepomjbaendaaDoorShelf
import Derived.Test.YtmhepomjbaendaaDoorOwnTx
import Derived.Lib.SplitLaws
namespace Go.Proofs.YtmhepomjbaendaaDoor
open Go.RowKit Go.Shelf Go.BigFrame
set_option linter.unusedVariables false
set_option linter.unusedSimpArgs false

theorem cutB_length (m : UInt8) (s : ByteArray) : (cutB m s).length = Go.Lib.countB s ⟨#[m]⟩ + 1 := Go.Lib.splitB_all ⟨#[m]⟩ (Nat.le_refl 1) 0 _ s rfl

def lineN (s : ByteArray) : Nat := (cutB 10 s).length - 1
def lastB (s : ByteArray) : ByteArray := (cutB 10 s).getD (lineN s) ByteArray.empty
def linesOk (s : ByteArray) : Bool := decide (s.size ≤ 16000) && (lastB s).toList.isEmpty

set_option maxHeartbeats 1000000 in
theorem linesOf_any (s : ByteArray) (m : Int) (w : World) (hs : s.size ≤ 1048576) (hm : w.cell? ⟨0, 0, none⟩ = some (.int .i64 m)) :
    Calls Tryd.prog 28 #[.string s] w fun e w' => (∃ b c : Nat, e = .returned (.tuple #[.slice (some ⟨b, 0, none⟩) (lineN s) c, .bool (linesOk s)]) ∧ lineN s ≤ c ∧ TxC w' b (cutB 10 s)) ∧ Below w.heap.size w w' := by
  have HSP := Lib.hid (Tryd.strings_Split s ⟨#[10]⟩ m w (by omega) hm (by decide))
  have hlen := cutB_length 10 s
  have hcb : Go.Lib.countB s ⟨#[10]⟩ ≤ s.size + 1 := by
    have := Go.Lib.count_le s.data.toList [10]
    rw [size_data] at this
    exact this
  obtain ⟨p, hp⟩ : ∃ p, Go.Lib.countB s ⟨#[10]⟩ = p := ⟨_, rfl⟩
  rw [hp] at hcb
  have hcut : Go.Lib.splitB ⟨#[10]⟩ 0 p s = cutB 10 s := by rw [← hp]; rfl
  rw [hp] at hlen HSP
  rw [hcut] at HSP
  have hlN : lineN s = p := by unfold lineN; omega
  obtain ⟨n, hn⟩ : ∃ n, p + 1 = n := ⟨_, rfl⟩
  rw [hn] at hlen HSP
  have HLN := Lib.hid hlN
  have HLEN := Lib.hid hlen
  have hn1 : (n : Int) - 1 = (p : Int) := by omega
  have hpn : p < n := by omega
  have hpn2 : (p : Int) < (n : Int) := by omega
  have hpn3 : p ≤ n := by omega
  have hwp : wrap64 (p : Int) = (p : Int) := IntWalk.wrap64_in _ ⟨by omega, by omega⟩
  have hpn4 : (p : Int) ≤ (n : Int) := by omega
  have hcl : Hid (∀ W, W = w.alloc (.cells ((cutB 10 s).map Value.string).toArray 9) → TxC W w.heap.size (cutB 10 s) ∧ Below w.heap.size w W ∧ W.cell? ⟨w.heap.size, p, none⟩ = some (.string (lastB s))) := by
    rintro W rfl
    have h1 : TxC (w.alloc (.cells ((cutB 10 s).map Value.string).toArray 9)) w.heap.size (cutB 10 s) := by
      refine ⟨by simp, fun i hi => ?_⟩
      have := cells_lit w ((cutB 10 s).map Value.string) 9 i (.string ((cutB 10 s).getD i ByteArray.empty)) (by rw [List.getElem?_map, List.getElem?_eq_getElem hi, List.getD_eq_getElem?_getD, List.getElem?_eq_getElem hi]; rfl)
      have hadd : (⟨w.heap.size, 0, none⟩ : Addr).add i = ⟨w.heap.size, i, none⟩ := by unfold Addr.add; split <;> simp_all
      rw [hadd] at this
      exact this
    refine ⟨h1, (Below.refl _ w).alloc (Nat.le_refl _) _, ?_⟩
    have := h1.2 p (by rw [hlen]; exact hpn)
    unfold lastB
    rw [hlN]; exact this
  clear hlen hlN hp hcut hn hm
  go_enter Tryd.func28, Tryd.ntmps28
  go_wp2_with fail
  refine HSP.out.mono ?_
  rintro e W1 ⟨rfl, hW1⟩
  obtain ⟨h1, h2, h3⟩ := hcl.out W1 hW1
  have H1 := Lib.hid h1
  have H2 := Lib.hid h2
  clear hW1 h1 h2 hcl HSP
  obtain ⟨b, hb⟩ : ∃ b, w.heap.size = b := ⟨_, rfl⟩
  have HB := Lib.hid hb
  rw [hb] at H1 h3
  rw [hb]
  clear hb
  obtain ⟨x, hx⟩ : ∃ x, lastB s = x := ⟨_, rfl⟩
  rw [hx] at h3
  have HX := Lib.hid hx
  clear hx
  by_cases hsz : s.size ≤ 16000
  · have hsz2 : (s.size : Int) ≤ 16000 := by omega
    have HOK : Hid (linesOk s = x.toList.isEmpty) := by show _ = _; unfold linesOk; rw [HX.out, decide_eq_true hsz, Bool.true_and]
    go_wp2
    go_quiet (fail)
    go_wp2
    go_ret2
    rw [HOK.out, HLN.out, HB.out]
    exact ⟨⟨b, n, rfl, hpn3, H1.out⟩, by rw [← HB.out]; exact below_drewN _ H2.out⟩
  · have hsz2 : decide ((s.size : Int) ≤ 16000) = false := by simp; omega
    have HOK : Hid (linesOk s = false) := by show _ = _; unfold linesOk; rw [decide_eq_false hsz, Bool.false_and]
    go_wp2
    go_quiet (fail)
    go_wp2
    go_ret2
    rw [HOK.out, HLN.out, HB.out]
    exact ⟨⟨b, n, rfl, hpn3, H1.out⟩, by rw [← HB.out]; exact below_drewN _ H2.out⟩

set_option maxHeartbeats 1000000 in
theorem l08Lines_any (s : ByteArray) (w : World) (hs : s.size ≤ 1048576) :
    Calls Tryd.prog 27 #[.string s] w fun e w' => (∃ b c : Nat, e = .returned (.tuple #[.slice (some ⟨b, 0, none⟩) (lineN s) c, .string (lastB s)]) ∧ lineN s ≤ c ∧ TxC w' b (cutB 10 s)) ∧ Below w.heap.size w w' := by
  have HSP := Lib.hid (l01Cut_any s 10 w hs)
  have hlen := cutB_length 10 s
  have hcb : Go.Lib.countB s ⟨#[10]⟩ ≤ s.size + 1 := by
    have := Go.Lib.count_le s.data.toList [10]
    rw [size_data] at this
    exact this
  obtain ⟨p, hp⟩ : ∃ p, Go.Lib.countB s ⟨#[10]⟩ = p := ⟨_, rfl⟩
  rw [hp] at hcb hlen
  have hlN : lineN s = p := by unfold lineN; omega
  obtain ⟨n, hn⟩ : ∃ n, p + 1 = n := ⟨_, rfl⟩
  rw [hn] at hlen
  have HLN := Lib.hid hlN
  have HLEN := Lib.hid hlen
  have hn1 : (n : Int) - 1 = (p : Int) := by omega
  have hpn : p < n := by omega
  have hpn2 : (p : Int) < (n : Int) := by omega
  have hpn3 : p ≤ n := by omega
  have hwp : wrap64 (p : Int) = (p : Int) := IntWalk.wrap64_in _ ⟨by omega, by omega⟩
  have hpn4 : (p : Int) ≤ (n : Int) := by omega
  clear hlen hlN hp hn
  go_enter Tryd.func27, Tryd.ntmps27
  go_wp2_with fail
  refine HSP.out.mono ?_
  rintro e W1 ⟨⟨v, rfl, ho⟩, hb1⟩
  obtain ⟨b, c, rfl, hc, htx⟩ := ho.txc (by rw [HLEN.out]; omega)
  have h3 := htx.2 p (by rw [HLEN.out]; exact hpn)
  rw [HLEN.out] at hc
  rw [HLEN.out]
  have H1 := Lib.hid htx
  have H2 := Lib.hid hb1
  obtain ⟨x, hx⟩ : ∃ x, (cutB 10 s).getD p ByteArray.empty = x := ⟨_, rfl⟩
  rw [hx] at h3
  have HX : Hid (lastB s = x) := by show _ = _; unfold lastB; rw [HLN.out]; exact hx
  have hpc : p ≤ c := by omega
  have hpc2 : (p : Int) ≤ (c : Int) := by omega
  clear ho htx hb1 hx HSP
  go_wp2
  go_quiet (fail)
  go_wp2
  go_ret2
  rw [HX.out, HLN.out]
  exact ⟨⟨b, c, rfl, hpc, H1.out⟩, below_drewN _ H2.out⟩
end Go.Proofs.YtmhepomjbaendaaDoor
