
/- Taking a plan apart: when a part is missing. Conditions: none. -/
import Derived.Test.YtmhepomjbaendaaPlnP
namespace Go.Proofs.Ytmhepomjbaendaa
set_option linter.unusedVariables false
set_option linter.unusedSimpArgs false

theorem nx_short {s : ByteArray} {n : Nat} {st : St} (h : st.2 = true) : (nx s n st).2 = true := by
  unfold nx
  split
  · rfl
  · exact h
theorem nx_no {s : ByteArray} {n : Nat} {st : St} (h : s.size < st.1 + n) : nx s n st = (st.1, true) := by unfold nx; rw [if_pos h]
theorem nx_ge (s : ByteArray) (n : Nat) (st : St) : (nx s n st).2 = true ∨ (nx s n st).1 = st.1 + n := by
  unfold nx
  split
  · exact .inl rfl
  · exact .inr rfl
theorem prs_stays {s : ByteArray} {st : St} (h : st.2 = true) : ∀ k, (prs s st k).2.2 = true
  | 0 => h
  | k + 1 => nx_short (nx_short (prs_stays h k))
theorem tsk_stays {s : ByteArray} {st : St} (h : st.2 = true) : ∀ k, (tsk s st k).2.2 = true
  | 0 => h
  | k + 1 => prs_stays (nx_short (nx_short (nx_short (tsk_stays h k)))) _
theorem sts_stays {s : ByteArray} {st : St} (h : st.2 = true) : ∀ k, (sts s st k).2.2 = true
  | 0 => h
  | k + 1 => nx_short (sts_stays h k)
theorem prs_more {s : ByteArray} {st : St} {k : Nat} (h : (prs s st k).2.2 = true) : ∀ d, (prs s st (k + d)).2.2 = true
  | 0 => h
  | d + 1 => nx_short (nx_short (prs_more h d))
theorem tsk_more {s : ByteArray} {st : St} {k : Nat} (h : (tsk s st k).2.2 = true) : ∀ d, (tsk s st (k + d)).2.2 = true
  | 0 => h
  | d + 1 => prs_stays (nx_short (nx_short (nx_short (tsk_more h d)))) _
theorem sts_more {s : ByteArray} {st : St} {k : Nat} (h : (sts s st k).2.2 = true) : ∀ d, (sts s st (k + d)).2.2 = true
  | 0 => h
  | d + 1 => nx_short (sts_more h d)
/-- As long as there is room. -/
theorem prs_room {s : ByteArray} {a : Nat} {b : Bool} : ∀ k, a + 2 * k ≤ s.size → (prs s (a, b) k).2 = (a + 2 * k, b)
  | 0, _ => rfl
  | k + 1, h => by
    have ih := prs_room (s := s) (a := a) (b := b) k (by omega)
    show nx s 1 (nx s 1 (prs s (a, b) k).2) = _
    rw [ih, nx_yes (st := (a + 2 * k, b)) (by show a + 2 * k + 1 ≤ _; omega), nx_yes (st := (a + 2 * k + 1, b)) (by show a + 2 * k + 1 + 1 ≤ _; omega)]
    simp only [Prod.mk.injEq, and_true]
    omega
theorem prs_val {s : ByteArray} {a : Nat} {b : Bool} {k : Nat} (h : a + 2 * (k + 1) ≤ s.size) : prs s (a, b) (k + 1) = (((prs s (a, b) k).1.1 ++ [bt s (a + 2 * k)], (prs s (a, b) k).1.2 ++ [bt s (a + 2 * k + 1) - 100]), (a + 2 * (k + 1), b)) := by
  have ih := prs_room (s := s) (a := a) (b := b) k (by omega)
  have h2 := prs_room (s := s) (a := a) (b := b) (k + 1) h
  have e1 : byV s (a + 2 * k, b) = bt s (a + 2 * k) := byV_yes (st := (a + 2 * k, b)) (by show a + 2 * k + 1 ≤ _; omega)
  have e2 : nx s 1 (a + 2 * k, b) = (a + 2 * k + 1, b) := nx_yes (st := (a + 2 * k, b)) (by show a + 2 * k + 1 ≤ _; omega)
  have e3 : byV s (a + 2 * k + 1, b) = bt s (a + 2 * k + 1) := byV_yes (st := (a + 2 * k + 1, b)) (by show a + 2 * k + 1 + 1 ≤ _; omega)
  have e4 : prs s (a, b) (k + 1) = (((prs s (a, b) k).1.1 ++ [byV s (prs s (a, b) k).2], (prs s (a, b) k).1.2 ++ [byV s (nx s 1 (prs s (a, b) k).2) - 100]), (prs s (a, b) (k + 1)).2) := rfl
  rw [e4, h2, ih, e1, e2, e3]
theorem prs_lack {s : ByteArray} {a : Nat} {b : Bool} {m : Nat} (h : s.size < a + 2 * m) (ha : a ≤ s.size) : (prs s (a, b) m).2.2 = true := by
  have hk : a + 2 * ((s.size - a) / 2) ≤ s.size := by omega
  have h1 := prs_room (s := s) (a := a) (b := b) _ hk
  have h2 : (prs s (a, b) ((s.size - a) / 2 + 1)).2.2 = true := by
    show (nx s 1 (nx s 1 (prs s (a, b) ((s.size - a) / 2)).2)).2 = true
    rw [h1]
    rcases nx_ge s 1 (a + 2 * ((s.size - a) / 2), b) with h3 | h3
    · exact nx_short h3
    · rw [nx_no (by rw [h3]; show s.size < a + 2 * ((s.size - a) / 2) + 1 + 1; omega)]
  have h3 := prs_more h2 (m - ((s.size - a) / 2 + 1))
  rwa [show (s.size - a) / 2 + 1 + (m - ((s.size - a) / 2 + 1)) = m by omega] at h3
theorem sts_room {s : ByteArray} {a : Nat} {b : Bool} : ∀ k, a + 2 * k ≤ s.size → (sts s (a, b) k).2 = (a + 2 * k, b)
  | 0, _ => rfl
  | k + 1, h => by
    have ih := sts_room (s := s) (a := a) (b := b) k (by omega)
    show nx s 2 (sts s (a, b) k).2 = _
    rw [ih, nx_yes (st := (a + 2 * k, b)) (by show a + 2 * k + 2 ≤ _; omega)]
    simp only [Prod.mk.injEq, and_true]
    omega
theorem sts_val {s : ByteArray} {a : Nat} {b : Bool} {k : Nat} (h : a + 2 * (k + 1) ≤ s.size) : sts s (a, b) (k + 1) = ((sts s (a, b) k).1 ++ [bt s (a + 2 * k) + 256 * bt s (a + 2 * k + 1)], (a + 2 * (k + 1), b)) := by
  have ih := sts_room (s := s) (a := a) (b := b) k (by omega)
  have h2 := sts_room (s := s) (a := a) (b := b) (k + 1) h
  have e1 : twV s (a + 2 * k, b) = bt s (a + 2 * k) + 256 * bt s (a + 2 * k + 1) := twV_yes (st := (a + 2 * k, b)) (by show a + 2 * k + 2 ≤ _; omega)
  have e4 : sts s (a, b) (k + 1) = ((sts s (a, b) k).1 ++ [twV s (sts s (a, b) k).2], (sts s (a, b) (k + 1)).2) := rfl
  rw [e4, h2, ih, e1]
theorem sts_lack {s : ByteArray} {a : Nat} {b : Bool} {m : Nat} (h : s.size < a + 2 * m + 2) (ha : a ≤ s.size) : (nx s 2 (sts s (a, b) m).2).2 = true := by
  by_cases hm : a + 2 * m ≤ s.size
  · rw [sts_room m hm, nx_no (by show s.size < a + 2 * m + 2; omega)]
  · refine nx_short ?_
    have hk : a + 2 * ((s.size - a) / 2) ≤ s.size := by omega
    have h1 := sts_room (s := s) (a := a) (b := b) _ hk
    have h2 : (sts s (a, b) ((s.size - a) / 2 + 1)).2.2 = true := by
      show (nx s 2 (sts s (a, b) ((s.size - a) / 2)).2).2 = true
      rw [h1, nx_no (by show s.size < a + 2 * ((s.size - a) / 2) + 2; omega)]
    have h3 := sts_more h2 (m - ((s.size - a) / 2 + 1))
    rwa [show (s.size - a) / 2 + 1 + (m - ((s.size - a) / 2 + 1)) = m by omega] at h3
/-- One more task, where there is room. -/
theorem tsk_val {s : ByteArray} {st : St} {k a : Nat} {b : Bool} (h : (tsk s st k).2 = (a, b)) (h3 : a + 3 ≤ s.size) : tsk s st (k + 1) = ((tsk s st k).1 ++ [(bt s a, bt s (a + 1), (prs s (a + 3, b) (bt s (a + 2)).toNat).1)], (prs s (a + 3, b) (bt s (a + 2)).toNat).2) := by
  have e1 : byV s (a, b) = bt s a := byV_yes (st := (a, b)) (by show a + 1 ≤ _; omega)
  have n1 : nx s 1 (a, b) = (a + 1, b) := nx_yes (st := (a, b)) (by show a + 1 ≤ _; omega)
  have e2 : byV s (a + 1, b) = bt s (a + 1) := byV_yes (st := (a + 1, b)) (by show a + 1 + 1 ≤ _; omega)
  have n2 : nx s 1 (a + 1, b) = (a + 2, b) := nx_yes (st := (a + 1, b)) (by show a + 1 + 1 ≤ _; omega)
  have e3 : byV s (a + 2, b) = bt s (a + 2) := byV_yes (st := (a + 2, b)) (by show a + 2 + 1 ≤ _; omega)
  have n3 : nx s 1 (a + 2, b) = (a + 3, b) := nx_yes (st := (a + 2, b)) (by show a + 2 + 1 ≤ _; omega)
  simp only [tsk, h, e1, n1, e2, n2, e3, n3]
theorem tsk_lack {s : ByteArray} {st : St} {k a : Nat} {b : Bool} (h : (tsk s st k).2 = (a, b)) (h3 : s.size < a + 3) : (tsk s st (k + 1)).2.2 = true := by
  have e : (nx s 1 (nx s 1 (nx s 1 (a, b)))).2 = true := by
    rcases nx_ge s 1 (a, b) with h1 | h1
    · exact nx_short (nx_short h1)
    · rcases nx_ge s 1 (nx s 1 (a, b)) with h2 | h2
      · exact nx_short h2
      · rw [nx_no (by rw [h2, h1]; show s.size < a + 1 + 1 + 1; omega)]
  show (prs s (nx s 1 (nx s 1 (nx s 1 (tsk s st k).2))) _).2.2 = true
  rw [h]
  exact prs_stays e _
/-- A part that is missing: nothing is taken. -/
theorem got_lack {s : ByteArray} (h : (st5 s).2 = true) : gotB s = false := got_short (nx_short (sts_stays h _))
theorem got_lackT {s : ByteArray} {k : Nat} (hk : k ≤ cnt s) (h : (tsk s (st4 s) k).2.2 = true) : gotB s = false := by
  have := tsk_more h (cnt s - k)
  rw [show k + (cnt s - k) = cnt s by omega] at this
  exact got_lack this
theorem got_few {s : ByteArray} (h : s.size < 5) : gotB s = false := by
  have h1 : (st2 s).2 = true := by
    unfold st2 st1
    rcases nx_ge s 4 (0, false) with h1 | h1
    · exact nx_short h1
    · rw [nx_no (by rw [h1]; show s.size < 0 + 4 + 1; omega)]
  refine got_lack ?_
  exact tsk_stays (nx_short (nx_short h1)) _
/-- The head, where there is room. -/
theorem head_room {s : ByteArray} (h : 5 ≤ s.size) : st2 s = (5, false) ∧ (nmL s : Int) = bt s 4 := by
  have e1 : st1 s = (4, false) := nx_yes (st := (0, false)) (by show 0 + 4 ≤ _; omega)
  refine ⟨?_, ?_⟩
  · unfold st2
    rw [e1]
    exact nx_yes (st := (4, false)) h
  · rw [← (nmL_cast s).1, e1]
    exact byV_yes (st := (4, false)) h
theorem head_lack {s : ByteArray} (h : 5 ≤ s.size) (h2 : s.size < 5 + nmL s + 1) : gotB s = false := by
  have e := (head_room h).1
  refine got_lack (tsk_stays (st := st4 s) ?_ _)
  unfold st4 st3
  rw [e]
  rcases nx_ge s (nmL s) (5, false) with h1 | h1
  · exact nx_short h1
  · rw [nx_no (by rw [h1]; show s.size < 5 + nmL s + 1; omega)]
theorem head_all {s : ByteArray} (h : 5 ≤ s.size) (h2 : 5 + nmL s + 1 ≤ s.size) : nmS s = s.extract 5 (5 + nmL s) ∧ st4 s = (5 + nmL s + 1, false) ∧ (cnt s : Int) = bt s (5 + nmL s) := by
  have e := (head_room h).1
  have e3 : st3 s = (5 + nmL s, false) := by
    unfold st3
    rw [e]
    exact nx_yes (st := (5, false)) (by show 5 + nmL s ≤ _; omega)
  refine ⟨?_, ?_, ?_⟩
  · unfold nmS tkS
    rw [e, if_neg (by show ¬ s.size < 5 + nmL s; omega)]
  · unfold st4
    rw [e3]
    exact nx_yes (st := (5 + nmL s, false)) h2
  · rw [← (cnt_cast s).1, e3]
    exact byV_yes (st := (5 + nmL s, false)) h2
/-- The end of the text that is taken, where nothing is missing. -/
theorem st7_at {s : ByteArray} {a n : Nat} (h5 : st5 s = (a, false)) (hn : cnt s = n) (h : a + 2 * n + 2 ≤ s.size) : st7 s = (a + 2 * n + 2, false) := by
  show nx s 2 (sts s (st5 s) (cnt s)).2 = _
  rw [h5, hn, sts_room n (by omega), nx_yes (by show a + 2 * n + 2 ≤ _; omega)]
theorem st7_lack {s : ByteArray} {a n : Nat} (h5 : st5 s = (a, false)) (hn : cnt s = n) (h : s.size < a + 2 * n + 2) (ha : a ≤ s.size) : gotB s = false := by
  refine got_short ?_
  show (nx s 2 (sts s (st5 s) (cnt s)).2).2 = true
  rw [h5, hn]
  exact sts_lack h ha
theorem got_ne7 {s : ByteArray} {q : Nat} (h7 : st7 s = (q, false)) (h : storeS (nmS s, planT s, planS s) ≠ s.extract 0 q) : gotB s = false := by
  refine got_ne ?_
  rw [h7]; exact h
theorem got_all7 {s : ByteArray} {q : Nat} (h7 : st7 s = (q, false)) (h1 : savedOk (nmS s, planT s, planS s) = true) (h2 : storeS (nmS s, planT s, planS s) = s.extract 0 q) : gotB s = true := by
  refine got_all (by rw [h7]) h1 ?_
  rw [h7]; exact h2
theorem planS_at {s : ByteArray} {a n : Nat} (h5 : st5 s = (a, false)) (hn : cnt s = n) : planS s = (sts s (a, false) n).1 := by
  show (sts s (st5 s) (cnt s)).1 = _
  rw [h5, hn]
theorem planT_at {s : ByteArray} {n : Nat} (hn : cnt s = n) : planT s = (tsk s (st4 s) n).1 := by
  show (tsk s (st4 s) (cnt s)).1 = _
  rw [hn]
theorem st5_at {s : ByteArray} {n a : Nat} (hn : cnt s = n) (h : (tsk s (st4 s) n).2 = (a, false)) : st5 s = (a, false) := by
  show (tsk s (st4 s) (cnt s)).2 = _
  rw [hn]; exact h
theorem tsk_room {s : ByteArray} {st : St} {k a m p : Nat} {x : Tk} (hv : tsk s st (k + 1) = ((tsk s st k).1 ++ [x], (prs s (a + 3, false) m).2)) (h : a + 3 + 2 * m ≤ s.size) (hp : p = a + 3 + 2 * m) : (tsk s st (k + 1)).2 = (p, false) := by
  rw [hv, hp]
  exact prs_room m h
end Go.Proofs.Ytmhepomjbaendaa
