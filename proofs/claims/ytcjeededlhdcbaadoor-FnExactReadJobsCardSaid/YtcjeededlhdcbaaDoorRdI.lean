
/- impl: numbers and lists read from texts (ReadDecimal, readList, ReadList). Conditions: texts of at most 2^20 bytes; the library's tables and its two error values stand. -/
import Derived.Test.YtcjeededlhdcbaaDoorReadP
import Derived.Test.YtcjeededlhdcbaaDoorDec
import Derived.Test.YtcjeededlhdcbaaDoorTxt
import Derived.Test.YtcjeededlhdcbaaDoorLines
namespace Go.Proofs.YtcjeededlhdcbaaDoor
open Go.RowKit Go.Shelf Go.BigFrame
set_option linter.unusedVariables false
set_option linter.unusedSimpArgs false

/-- The library's two error values stand. -/
def ErrW (w : World) : Prop := (∃ tp p, w.cell? ⟨3, 0, none⟩ = some (.iface tp p)) ∧ ∃ tp p, w.cell? ⟨4, 0, none⟩ = some (.iface tp p)
theorem ErrW.below {w w' : World} (h : ErrW w) (hb : Below w.heap.size w w') : ErrW w' := by
  obtain ⟨⟨a, b, h1⟩, c, d, h2⟩ := h
  exact ⟨⟨a, b, (hb.cell (p := ⟨3, 0, none⟩) (lt_of_cell h1)).trans h1⟩, c, d, (hb.cell (p := ⟨4, 0, none⟩) (lt_of_cell h2)).trans h2⟩
theorem parseInt_any (s : ByteArray) (w : World) (hs : s.size ≤ 1048576) (he : ErrW w) :
    Calls Tryd.prog 73 #[.string s, .int .i64 10, .int .i64 64] w fun e w' => ((∃ v, Go.Lib.parseIntB 64 s.data.toList = .ok v ∧ e = .returned (.tuple #[.int .i64 v, .nilIface])) ∨ ((∀ v, Go.Lib.parseIntB 64 s.data.toList ≠ .ok v) ∧ ∃ n tp p, e = .returned (.tuple #[.int .i64 n, .iface tp p]))) ∧ Below w.heap.size w w' := by
  obtain ⟨⟨t1, p1, h1⟩, t2, p2, h2⟩ := he
  cases h : Go.Lib.parseIntB 64 s.data.toList with
  | ok v =>
    refine (Tryd.strconv_ParseInt_10_at64_ok s (by omega) v h w).mono ?_
    rintro e w' ⟨rfl, hw⟩
    refine ⟨.inl ⟨v, rfl, rfl⟩, ?_⟩
    rcases hw with rfl | ⟨t, rfl⟩
    · exact Below.refl _ _
    · exact Lib.bytesWorld_below _ _ _
  | «syntax» =>
    refine (Tryd.strconv_ParseInt_10_at64_syntax s (by omega) h _ w h1 (.inr ⟨_, _, rfl⟩)).mono ?_
    rintro e w' ⟨N, rfl, _, _, hb⟩
    exact ⟨.inr ⟨(fun v hv => by cases hv), _, _, _, rfl⟩, hb⟩
  | range =>
    refine (Tryd.strconv_ParseInt_10_at64_range s (by omega) h _ w h2 (.inr ⟨_, _, rfl⟩)).mono ?_
    rintro e w' ⟨N, rfl, _, _, hb⟩
    exact ⟨.inr ⟨(fun v hv => by cases hv), _, _, _, rfl⟩, hb⟩
/-- What reading a number gives. -/
def rdV (s : ByteArray) : Int := (rdD s).getD 0
def rdB (s : ByteArray) : Bool := (rdD s).isSome
theorem isValue_any (n : Int) (w : World) : Calls Tryd.prog 74 #[.int .i64 n] w fun e w' => e = .returned (.bool (win n (-maxV) maxV)) ∧ w = w' := by
  have HW := Lib.hid (within_any n (-1000000000000000) 1000000000000000 w)
  go_enter Tryd.func74, Tryd.ntmps74
  go_wp2_with fail
  refine HW.out.mono ?_
  rintro e w' ⟨rfl, rfl⟩
  go_wp2
  go_ret
  exact ⟨rfl, rfl⟩
theorem str_ne (a b : ByteArray) : (a.toList == b.toList) = decide (a = b) := by
  by_cases h : a = b
  · subst h; simp
  · rw [decide_eq_false h]
    rw [beq_eq_false_iff_ne]
    intro e
    exact h (bytes_ext (by simpa [ByteArray.toList_eq] using e))
set_option maxHeartbeats 1000000 in
theorem readDecimal_any (s : ByteArray) (w : World) (hs : s.size ≤ 1048576) (ht : Tab10 w) (he : ErrW w) :
    Calls Tryd.prog 60 #[.string s] w fun e w' => e = .returned (.tuple #[.int .i64 (rdV s), .bool (rdB s)]) ∧ Below w.heap.size w w' := by
  have HP := Lib.hid (parseInt_any s w hs he)
  have HD : Hid (∀ n W, Below w.heap.size w W → (Lit.int .i64 n).wf = true → Calls Tryd.prog 75 #[.int .i64 n] W fun e w' => e = .returned (.string (decS n)) ∧ Below W.heap.size W w') := fun n W hW hn => decimal_any n W hn (ht.below hW)
  have HYES : Hid (∀ v, Go.Lib.parseIntB 64 s.data.toList = .ok v → rdD s = if -maxV ≤ v ∧ v ≤ maxV ∧ decS v = s then some v else none) := fun v h => rdD_ok h
  have HNO : Hid ((∀ v, Go.Lib.parseIntB 64 s.data.toList ≠ .ok v) → rdV s = 0 ∧ rdB s = false) := fun h => by unfold rdV rdB; rw [rdD_no h]; exact ⟨rfl, rfl⟩
  clear ht he
  go_enter Tryd.func60, Tryd.ntmps60
  go_wp2_with fail
  refine HP.out.mono ?_
  rintro e W1 ⟨h1, hb1⟩
  have HB1 := Lib.hid hb1
  clear hb1 HP
  rcases h1 with ⟨v, hv, rfl⟩ | ⟨hv, n, tp, p, rfl⟩
  · have HR := Lib.hid (HYES.out v hv)
    clear hv HYES HNO
    cases hw : win v (-maxV) maxV
    · have HF : Hid (rdV s = 0 ∧ rdB s = false) := by
        have h2 : ¬ (-maxV ≤ v ∧ v ≤ maxV) := fun h => by rw [win_true.2 h] at hw; cases hw
        have h3 := HR.out
        rw [if_neg (fun h => h2 ⟨h.1, h.2.1⟩)] at h3
        unfold rdV rdB; rw [h3]; exact ⟨rfl, rfl⟩
      have HI := Lib.hid (isValue_any v W1)
      rw [hw] at HI
      go_wp2_with fail
      refine HI.out.mono ?_
      rintro e w' ⟨rfl, rfl⟩
      go_wp2
      go_ret2
      rw [HF.out.1, HF.out.2]
      exact ⟨rfl, HB1.out⟩
    · have hb := win_true.1 hw
      have HI := Lib.hid (isValue_any v W1)
      rw [hw] at HI
      have hvw : (Lit.int .i64 v).wf = true := wf_i64_iff.2 ⟨by unfold maxV at hb; omega, by unfold maxV at hb; omega⟩
      have HD1 := Lib.hid (HD.out v W1 HB1.out hvw)
      have HBV := Lib.hid hb
      clear hw hb hvw HD
      go_wp2_with fail
      refine HI.out.mono ?_
      rintro e w' ⟨rfl, rfl⟩
      go_wp2_with fail
      refine HD1.out.mono ?_
      rintro e W2 ⟨rfl, hb2⟩
      have HB2 : Hid (Below w.heap.size w W2) := HB1.out.trans (hb2.mono HB1.out.size)
      clear hb2 HD1 HI
      have hq := str_ne (decS v) s
      by_cases hd : decS v = s
      · rw [decide_eq_true hd] at hq
        have HF : Hid (rdV s = v ∧ rdB s = true) := by
          have h3 := HR.out
          rw [if_pos ⟨HBV.out.1, HBV.out.2, hd⟩] at h3
          unfold rdV rdB; rw [h3]; exact ⟨rfl, rfl⟩
        clear hd
        go_wp2
        go_ret2
        rw [HF.out.1, HF.out.2]
        exact ⟨rfl, HB2.out⟩
      · rw [decide_eq_false hd] at hq
        have HF : Hid (rdV s = 0 ∧ rdB s = false) := by
          have h3 := HR.out
          rw [if_neg (fun h => hd h.2.2)] at h3
          unfold rdV rdB; rw [h3]; exact ⟨rfl, rfl⟩
        clear hd
        go_wp2
        go_ret2
        rw [HF.out.1, HF.out.2]
        exact ⟨rfl, HB2.out⟩
  · have HF := Lib.hid (HNO.out hv)
    clear hv HYES HNO HD
    go_wp2
    go_ret2
    rw [HF.out.1, HF.out.2]
    exact ⟨rfl, HB1.out⟩
end Go.Proofs.YtcjeededlhdcbaaDoor
