/- Tasks are copied into a row of the call's own, and one of them gets longer. Conditions: at least one task, at most 2^20. With texts that it needs. -/
import Derived.Test.YtcjeededlhdcbaaCrewsAll6
import Derived.Lib.Strings
import Derived.Test.YtcjeededlhdcbaaCrewsAll2
import Derived.Test.YtcjeededlhdcbaaShelf
import Derived.Lib.Repeat
import Derived.Test.YtcjeededlhdcbaaCrewsAll1
namespace Go.Proofs.Ytcjeededlhdcbaa
open Go.RowKit
set_option linter.unusedVariables false
set_option linter.unusedSimpArgs false

abbrev St := Nat × Bool
def bt (s : ByteArray) (i : Nat) : Int := ((s.data.toList.getD i 0).toNat : Int)
def nx (s : ByteArray) (n : Nat) (st : St) : St := if s.size < st.1 + n then (st.1, true) else (st.1 + n, st.2)
def zerosB (n : Nat) : ByteArray := ⟨(List.replicate n (0 : UInt8)).toArray⟩
def tkS (s : ByteArray) (n : Nat) (st : St) : ByteArray := if s.size < st.1 + n then zerosB n else s.extract st.1 (st.1 + n)
def byV (s : ByteArray) (st : St) : Int := if s.size < st.1 + 1 then 0 else bt s st.1
def twV (s : ByteArray) (st : St) : Int := if s.size < st.1 + 2 then 0 else bt s st.1 + 256 * bt s (st.1 + 1)
theorem bt_win (s : ByteArray) (i : Nat) : 0 ≤ bt s i ∧ bt s i ≤ 255 := by
  unfold bt
  have := (s.data.toList.getD i 0).toNat_lt
  omega
theorem byV_win (s : ByteArray) (st : St) : 0 ≤ byV s st ∧ byV s st ≤ 255 := by
  unfold byV
  split
  · omega
  · exact bt_win s _
theorem twV_win (s : ByteArray) (st : St) : 0 ≤ twV s st ∧ twV s st ≤ 65535 := by
  unfold twV
  split
  · omega
  · have := bt_win s st.1; have := bt_win s (st.1 + 1); omega
theorem nx_le {s : ByteArray} {n : Nat} {st : St} (h : st.1 ≤ s.size) : (nx s n st).1 ≤ s.size := by
  unfold nx
  split
  · exact h
  · show st.1 + n ≤ s.size; omega
theorem nx_yes {s : ByteArray} {n : Nat} {st : St} (h : st.1 + n ≤ s.size) : nx s n st = (st.1 + n, st.2) := by
  unfold nx; rw [if_neg (by omega)]
theorem byV_yes {s : ByteArray} {st : St} (h : st.1 + 1 ≤ s.size) : byV s st = bt s st.1 := by unfold byV; rw [if_neg (by omega)]
theorem twV_yes {s : ByteArray} {st : St} (h : st.1 + 2 ≤ s.size) : twV s st = bt s st.1 + 256 * bt s (st.1 + 1) := by unfold twV; rw [if_neg (by omega)]
/-- k pairs. -/
def prs (s : ByteArray) (st : St) : Nat → (List Int × List Int) × St
  | 0 => (([], []), st)
  | k + 1 => (((prs s st k).1.1 ++ [byV s (prs s st k).2], (prs s st k).1.2 ++ [byV s (nx s 1 (prs s st k).2) - 100]), nx s 1 (nx s 1 (prs s st k).2))
/-- k tasks. -/
def tsk (s : ByteArray) (st : St) : Nat → List Tk × St
  | 0 => ([], st)
  | k + 1 =>
    ((tsk s st k).1 ++ [(byV s (tsk s st k).2, byV s (nx s 1 (tsk s st k).2), (prs s (nx s 1 (nx s 1 (nx s 1 (tsk s st k).2))) (byV s (nx s 1 (nx s 1 (tsk s st k).2))).toNat).1)],
      (prs s (nx s 1 (nx s 1 (nx s 1 (tsk s st k).2))) (byV s (nx s 1 (nx s 1 (tsk s st k).2))).toNat).2)
/-- k starts. -/
def sts (s : ByteArray) (st : St) : Nat → List Int × St
  | 0 => ([], st)
  | k + 1 => ((sts s st k).1 ++ [twV s (sts s st k).2], nx s 2 (sts s st k).2)
def st1 (s : ByteArray) : St := nx s 4 (0, false)
def nmL (s : ByteArray) : Nat := (byV s (st1 s)).toNat
def st2 (s : ByteArray) : St := nx s 1 (st1 s)
def nmS (s : ByteArray) : ByteArray := tkS s (nmL s) (st2 s)
def st3 (s : ByteArray) : St := nx s (nmL s) (st2 s)
def cnt (s : ByteArray) : Nat := (byV s (st3 s)).toNat
def st4 (s : ByteArray) : St := nx s 1 (st3 s)
def planT (s : ByteArray) : List Tk := (tsk s (st4 s) (cnt s)).1
def st5 (s : ByteArray) : St := (tsk s (st4 s) (cnt s)).2
def planS (s : ByteArray) : List Int := (sts s (st5 s) (cnt s)).1
def st6 (s : ByteArray) : St := (sts s (st5 s) (cnt s)).2
def st7 (s : ByteArray) : St := nx s 2 (st6 s)
def plan (s : ByteArray) : Sv := (nmS s, planT s, planS s)
/-- What is taken in front of a text, and how many bytes. -/
def gotB (s : ByteArray) : Bool := !(st7 s).2 && savedOk (plan s) && decide (storeS (plan s) = s.extract 0 (st7 s).1)
def gotN (s : ByteArray) : Nat := if gotB s then (st7 s).1 else 0
def gotX (s : ByteArray) : Sv := if gotB s then plan s else (ByteArray.empty, [], [])

theorem prs_le {s : ByteArray} {st : St} (h : st.1 ≤ s.size) : ∀ k, (prs s st k).2.1 ≤ s.size
  | 0 => h
  | k + 1 => nx_le (nx_le (prs_le h k))
theorem tsk_le {s : ByteArray} {st : St} (h : st.1 ≤ s.size) : ∀ k, (tsk s st k).2.1 ≤ s.size
  | 0 => h
  | k + 1 => prs_le (nx_le (nx_le (nx_le (tsk_le h k)))) _
theorem sts_le {s : ByteArray} {st : St} (h : st.1 ≤ s.size) : ∀ k, (sts s st k).2.1 ≤ s.size
  | 0 => h
  | k + 1 => nx_le (sts_le h k)
theorem prs_len (s : ByteArray) (st : St) : ∀ k, (prs s st k).1.1.length = k ∧ (prs s st k).1.2.length = k
  | 0 => ⟨rfl, rfl⟩
  | k + 1 => by
    have := prs_len s st k
    simp only [prs, List.length_append, List.length_cons, List.length_nil]
    omega
theorem tsk_len (s : ByteArray) (st : St) : ∀ k, (tsk s st k).1.length = k
  | 0 => rfl
  | k + 1 => by
    have := tsk_len s st k
    simp only [tsk, List.length_append, List.length_cons, List.length_nil]
    omega
theorem sts_len (s : ByteArray) (st : St) : ∀ k, (sts s st k).1.length = k
  | 0 => rfl
  | k + 1 => by
    have := sts_len s st k
    simp only [sts, List.length_append, List.length_cons, List.length_nil]
    omega

/-! What is stored is taken as it was. -/
/-- From place i on the text has the numbers l. -/
def Rd (s : ByteArray) (i : Nat) (l : List Int) : Prop := i + l.length ≤ s.size ∧ ∀ j, j < l.length → bt s (i + j) = nth l j
theorem nth_app1 {a b : List Int} {j : Nat} (h : j < a.length) : nth (a ++ b) j = nth a j := by
  rw [nth_eq (by rw [List.length_append]; omega), nth_eq h, List.getElem_append_left h]
theorem nth_app2 {a b : List Int} {j : Nat} (h : j < b.length) : nth (a ++ b) (a.length + j) = nth b j := by
  rw [nth_eq (by rw [List.length_append]; omega), nth_eq h, List.getElem_append_right (by omega)]
  congr 1; omega
theorem Rd.left {s : ByteArray} {i : Nat} {a b : List Int} (h : Rd s i (a ++ b)) : Rd s i a :=
  ⟨by have := h.1; rw [List.length_append] at this; omega, fun j hj => by rw [h.2 j (by rw [List.length_append]; omega), nth_app1 hj]⟩
theorem Rd.right {s : ByteArray} {i : Nat} {a b : List Int} (h : Rd s i (a ++ b)) : Rd s (i + a.length) b :=
  ⟨by have := h.1; rw [List.length_append] at this; omega, fun j hj => by
    have := h.2 (a.length + j) (by rw [List.length_append]; omega)
    rw [nth_app2 hj, ← Nat.add_assoc] at this
    exact this⟩
theorem Rd.one {s : ByteArray} {i : Nat} {x : Int} {b : List Int} (h : Rd s i (x :: b)) : i + 1 ≤ s.size ∧ bt s i = x ∧ Rd s (i + 1) b := by
  have h1 : Rd s i ([x] ++ b) := h
  have h2 := h1.left
  have h3 := h2.1
  have h4 := h2.2 0 (by simp)
  rw [Nat.add_zero] at h4
  exact ⟨by simpa using h3, by rw [h4]; rfl, h1.right⟩
theorem prs_ok {s : ByteArray} {i : Nat} {b : Bool} {bs ls : List Int} (hb : ∀ k, k < bs.length → 0 ≤ nth bs k ∧ nth bs k ≤ 255) (hl : ∀ k, k < ls.length → -100 ≤ nth ls k ∧ nth ls k ≤ 100) (he : bs.length = ls.length) :
    ∀ m, m ≤ bs.length → Rd s i (pairTo bs ls m) → prs s (i, b) m = ((bs.take m, ls.take m), (i + 2 * m, b))
  | 0, _, _ => by simp [prs]
  | m + 1, hm, h => by
    rw [pairTo_succ] at h
    have ih := prs_ok (b := b) hb hl he m (by omega) h.left
    have h2 := h.right
    rw [pairTo_len] at h2
    obtain ⟨a1, a2, a3⟩ := h2.one
    obtain ⟨c1, c2, _⟩ := a3.one
    have hb1 := hb m (by omega)
    have hl1 := hl m (by omega)
    simp only [prs, ih]
    rw [byV_yes a1, nx_yes a1, byV_yes c1, nx_yes c1]
    show ((_ ++ [bt s (i + 2 * m)], _ ++ [bt s (i + 2 * m + 1) - 100]), _) = _
    rw [a2, c2, List.take_succ_eq_append_getElem (show m < bs.length by omega), List.take_succ_eq_append_getElem (show m < ls.length by omega)]
    rw [nth_eq (show m < bs.length by omega)] at hb1 ⊢
    rw [nth_eq (show m < ls.length by omega)] at hl1 ⊢
    rw [Int.emod_eq_of_lt (by omega) (by omega), Int.emod_eq_of_lt (by omega) (by omega)]
    simp only [Prod.mk.injEq, List.append_cancel_left_eq, List.cons.injEq, and_true, true_and]
    omega
/-- What may be stored in bytes. -/
def TkB (x : Tk) : Prop := 0 ≤ x.1 ∧ x.1 ≤ 255 ∧ 0 ≤ x.2.1 ∧ x.2.1 ≤ 255 ∧ x.2.2.1.length ≤ 255 ∧ x.2.2.1.length = x.2.2.2.length ∧ (∀ k, k < x.2.2.1.length → 0 ≤ nth x.2.2.1 k ∧ nth x.2.2.1 k ≤ 255) ∧ (∀ k, k < x.2.2.2.length → -100 ≤ nth x.2.2.2 k ∧ nth x.2.2.2 k ≤ 100)
theorem tsk_ok {s : ByteArray} {i : Nat} {b : Bool} {ts : List Tk} (ht : ∀ k (h : k < ts.length), TkB ts[k]) :
    ∀ m, m ≤ ts.length → Rd s i (tasksB ts m) → tsk s (i, b) m = (ts.take m, (i + (tasksB ts m).length, b))
  | 0, _, _ => by simp [tsk, tasksB]
  | m + 1, hm, h => by
    have hml : m < ts.length := by omega
    rw [tasksB_succ ts m hml] at h
    have ih := tsk_ok (b := b) ht m (by omega) h.left
    have h2 := h.right
    obtain ⟨t1, t2, t3, t4, t5, t6, t7, t8⟩ := ht m hml
    obtain ⟨x, hx⟩ : ∃ x, ts[m] = x := ⟨_, rfl⟩
    rw [hx] at h2 t1 t2 t3 t4 t5 t6 t7 t8
    obtain ⟨x0, x1, bs, ls⟩ := x
    unfold taskB taskH at h2
    simp only [List.cons_append, List.nil_append] at h2
    obtain ⟨p1, p2, p3⟩ := h2.one
    obtain ⟨q1, q2, q3⟩ := p3.one
    obtain ⟨r1, r2, r3⟩ := q3.one
    simp only at t1 t2 t3 t4 t5 t6 t7 t8 r2 r3 p2 q2
    rw [Int.emod_eq_of_lt (by omega) (by omega)] at p2 q2 r2
    have hp := prs_ok (b := b) (s := s) (i := i + (tasksB ts m).length + 1 + 1 + 1) t7 t8 t6 bs.length (Nat.le_refl _) r3
    have hc : (bt s (i + (tasksB ts m).length + 1 + 1)).toNat = bs.length := by rw [r2]; simp
    have n1 : nx s 1 (i + (tasksB ts m).length, b) = (i + (tasksB ts m).length + 1, b) := nx_yes p1
    have n2 : nx s 1 (i + (tasksB ts m).length + 1, b) = (i + (tasksB ts m).length + 1 + 1, b) := nx_yes q1
    have n3 : nx s 1 (i + (tasksB ts m).length + 1 + 1, b) = (i + (tasksB ts m).length + 1 + 1 + 1, b) := nx_yes r1
    have v1 : byV s (i + (tasksB ts m).length, b) = x0 := (byV_yes p1).trans p2
    have v2 : byV s (i + (tasksB ts m).length + 1, b) = x1 := (byV_yes q1).trans q2
    have v3 : byV s (i + (tasksB ts m).length + 1 + 1, b) = bt s (i + (tasksB ts m).length + 1 + 1) := byV_yes r1
    simp only [tsk, ih, n1, n2, n3, v1, v2, v3, hc, hp, List.take_length]
    have hls : ls.take bs.length = ls := by rw [t6, List.take_length]
    rw [hls, List.take_succ_eq_append_getElem hml, hx, tasksB_succ ts m hml, List.length_append, hx, taskB_len]
    simp only [Prod.mk.injEq, true_and]
    exact ⟨by omega, trivial⟩
theorem sts_ok {s : ByteArray} {i : Nat} {b : Bool} {st : List Int} (ht : ∀ k, k < st.length → 0 ≤ nth st k ∧ nth st k ≤ 65535) :
    ∀ m, m ≤ st.length → Rd s i (startsB st m) → sts s (i, b) m = (st.take m, (i + 2 * m, b))
  | 0, _, _ => by simp [sts]
  | m + 1, hm, h => by
    rw [startsB_succ] at h
    have ih := sts_ok (b := b) ht m (by omega) h.left
    have h2 := h.right
    rw [startsB_len] at h2
    obtain ⟨a1, a2, a3⟩ := h2.one
    obtain ⟨c1, c2, _⟩ := a3.one
    have hb1 := ht m (by omega)
    simp only [sts, ih]
    rw [twV_yes (show (i + 2 * m, b).1 + 2 ≤ s.size by show i + 2 * m + 2 ≤ s.size; omega), nx_yes (show (i + 2 * m, b).1 + 2 ≤ s.size by show i + 2 * m + 2 ≤ s.size; omega)]
    simp only
    rw [a2, c2, List.take_succ_eq_append_getElem (show m < st.length by omega)]
    rw [nth_eq (show m < st.length by omega)] at hb1 ⊢
    simp only [Prod.mk.injEq, List.append_cancel_left_eq, List.cons.injEq, and_true]
    omega

def B255 (l : List Int) : Prop := ∀ j, j < l.length → 0 ≤ nth l j ∧ nth l j ≤ 255
theorem B255.mem {l : List Int} (h : ∀ x ∈ l, 0 ≤ x ∧ x ≤ 255) : B255 l := fun j hj => by rw [nth_eq hj]; exact h _ (List.getElem_mem hj)
theorem bytes_eq {a b : ByteArray} (h : a.data.toList = b.data.toList) : a = b := by
  cases a; cases b
  simp at h
  rw [h]
theorem nums_bytes (L : List Int) : (strOfNums L).data.toList = L.map fun n => UInt8.ofNat n.toNat := rfl
theorem ext_data (s : ByteArray) (f i : Nat) : (s.extract f i).data.toList = (s.data.toList.drop f).take (i - f) := Lib.extract_data s f i
theorem rd_of {s : ByteArray} {L : List Int} (hL : B255 L) (h : s.extract 0 L.length = strOfNums L) : Rd s 0 L := by
  have h1 := congrArg (fun z : ByteArray => z.data.toList) h
  simp only [ext_data, nums_bytes, List.drop_zero, Nat.sub_zero] at h1
  have h2 := congrArg List.length h1
  rw [List.length_take, List.length_map] at h2
  have h3 : s.data.toList.length = s.size := (Lib.size_eq s).symm
  refine ⟨by omega, fun j hj => ?_⟩
  have h4 := congrArg (fun l : List UInt8 => l[j]?) h1
  simp only [List.getElem?_take, hj, if_true, List.getElem?_map, List.getElem?_eq_getElem hj, Option.map_some] at h4
  obtain ⟨b0, b1⟩ := hL j hj
  rw [nth_eq hj] at b0 b1 ⊢
  unfold bt
  rw [Nat.zero_add, List.getD_eq_getElem?_getD, h4]
  show ((UInt8.ofNat (L[j]).toNat).toNat : Int) = L[j]
  rw [UInt8.toNat_ofNat']
  omega
theorem bef_ge {i : Int} {bs : List Int} : ∀ m, m ≤ bs.length → befTo i bs m = true → ∀ k, k < m → (k : Int) ≤ nth bs k ∧ nth bs k ≤ i - 1
  | 0, _, _, k, hk => by omega
  | m + 1, hm, h, k, hk => by
    rw [befTo_succ, Bool.and_eq_true] at h
    rcases Nat.lt_succ_iff_lt_or_eq.1 hk with h1 | rfl
    · exact bef_ge m (by omega) h.1 k h1
    · have h2 := h.2
      unfold befAt at h2
      simp only [Bool.and_eq_true, Bool.or_eq_true, decide_eq_true_eq] at h2
      have h3 := win_true.1 h2.1
      refine ⟨?_, h3.2⟩
      rcases Nat.eq_zero_or_pos k with h4 | h4
      · subst h4; exact h3.1
      · have h5 := (bef_ge k (by omega) h.1 (k - 1) (by omega)).1
        rcases h2.2 with h6 | h6
        · have h7 : k = 0 := by simpa using h6
          omega
        · have h8 : nth bs (k - 1) < nth bs k := by simpa using h6
          omega
theorem saved_tkB {x : Sv} (hx : savedOk x = true) : ∀ k (h : k < x.2.1.length), TkB x.2.1[k] := by
  obtain ⟨nm, ts, st⟩ := x
  have hb := saved_bounds hx
  intro k hk
  have hk : k < ts.length := hk
  show TkB ts[k]
  unfold savedOk at hx
  simp only [Bool.and_eq_true] at hx
  have h2 := hx.1.2
  unfold tasksOk at h2
  simp only [Bool.and_eq_true, decide_eq_true_eq, List.all_eq_true, List.mem_range] at h2
  have h3 := h2.1.1 k hk
  rw [tkAt_eq hk] at h3
  unfold taskOk taskHead at h3
  simp only [Bool.and_eq_true, decide_eq_true_eq] at h3
  have w1 := win_true.1 h3.1.1.1.1
  have w2 := win_true.1 h3.1.1.1.2
  have h4 := bef_ge _ (Nat.le_refl _) h3.2
  have h5 := (hb.2.2.2.2.1 k hk).2
  have hlen : ts[k].2.2.1.length ≤ 16 := by
    by_cases h0 : ts[k].2.2.1.length = 0
    · omega
    · have := h4 (ts[k].2.2.1.length - 1) (by omega)
      have := hb.2.2.1
      omega
  refine ⟨w1.1, by omega, w2.1, by omega, by omega, h3.1.1.2, fun j hj => ?_, h5⟩
  have := h4 j hj
  have := hb.2.2.1
  exact ⟨by omega, by omega⟩
theorem m255 (n : Int) : 0 ≤ n % 256 ∧ n % 256 ≤ 255 := by omega
theorem store_255 {x : Sv} (hx : savedOk x = true) : B255 (storeB x) := by
  obtain ⟨nm, ts, st⟩ := x
  have hb := saved_bounds hx
  obtain ⟨b1, b2, b3, b4, _, b6⟩ := hb
  refine B255.mem fun y hy => ?_
  unfold storeB bodyB headB head1 at hy
  simp only [List.mem_append, List.mem_cons, List.not_mem_nil, or_false] at hy
  have hc := chk_win (n := 0) (by omega) (by omega) (strOfNums (bodyB (nm, ts, st)))
  unfold bodyB headB head1 at hc
  rcases hy with (((h | h) | h) | h) | h
  · rcases h with (h | h | h | h | h) | h
    · omega
    · omega
    · omega
    · omega
    · omega
    · unfold chs at h
      obtain ⟨b, _, rfl⟩ := List.mem_map.1 h
      have := b.toNat_lt
      omega
  · omega
  · unfold tasksB at h
    rw [List.mem_flatMap] at h
    obtain ⟨t, _, h⟩ := h
    unfold taskB taskH pairTo at h
    simp only [List.mem_append, List.mem_cons, List.not_mem_nil, or_false, List.mem_flatMap, List.mem_range] at h
    rcases h with (h | h | h) | ⟨k, _, h | h⟩
    all_goals rw [h]; exact m255 _
  · unfold startsB at h
    simp only [List.mem_flatMap, List.mem_range, List.mem_cons, List.not_mem_nil, or_false] at h
    obtain ⟨k, hk, h | h⟩ := h
    · rw [h]; exact m255 _
    · have := b6 k hk
      omega
  · rcases h with h | h
    · rw [h]; exact m255 _
    · rw [h]
      obtain ⟨C, hC⟩ : ∃ C, chk 0 (strOfNums ([80, 76, 78, 49, (nm.size : Int)] ++ chs nm ++ [(ts.length : Int)] ++ tasksB ts ts.length ++ startsB st st.length)) = C := ⟨_, rfl⟩
      rw [hC] at hc ⊢
      omega
theorem storeS_len (x : Sv) : (storeS x).size = (storeB x).length := by
  unfold storeS
  rw [Lib.size_eq, nums_bytes, List.length_map]
theorem plan_ok {s : ByteArray} {x : Sv} (hx : savedOk x = true) (h : s.extract 0 (storeS x).size = storeS x) : plan s = x ∧ st7 s = ((storeS x).size, false) := by
  rw [storeS_len] at h ⊢
  have hr := rd_of (store_255 hx) h
  have hb := saved_bounds (s := x.1) (ts := x.2.1) (st := x.2.2) hx
  have htk := saved_tkB hx
  obtain ⟨nm, ts, st⟩ := x
  obtain ⟨b1, b2, b3, b4, _, b6⟩ := hb
  simp only at b1 b2 b3 b4 b6 htk
  have hl : (storeB (nm, ts, st)).length = nm.size + 6 + (tasksB ts ts.length).length + 2 * st.length + 2 := by
    unfold storeB bodyB
    simp only [List.length_append, headB_len, startsB_len, List.length_cons, List.length_nil]
  have hbl : (bodyB (nm, ts, st)).length = nm.size + 6 + (tasksB ts ts.length).length + 2 * st.length := by
    unfold bodyB
    simp only [List.length_append, headB_len, startsB_len]
  unfold storeB at hr
  have hbody := hr.left
  have hend := hr.right
  unfold bodyB at hbody
  have hst := hbody.right
  have hht := hbody.left
  have hts := hht.right
  have hh := hht.left
  unfold headB at hh
  have hcnt := hh.right
  have hh1 := hh.left.right
  have hh0 := hh.left.left
  simp only [head1, List.length_append, chs_length, List.length_cons, List.length_nil, headB_len, Nat.zero_add] at hcnt hh1 hh0 hts hst hend
  obtain ⟨_, _, g1⟩ := hh0.one
  obtain ⟨_, _, g2⟩ := g1.one
  obtain ⟨_, _, g3⟩ := g2.one
  obtain ⟨_, _, g4⟩ := g3.one
  obtain ⟨g5, g6, _⟩ := g4.one
  simp only [Nat.zero_add, Nat.reduceAdd] at g5 g6 hcnt hh1
  have e1 : st1 s = (4, false) := nx_yes (st := (0, false)) (by show 0 + 4 ≤ s.size; omega)
  have e2 : nmL s = nm.size := by
    unfold nmL
    rw [e1, byV_yes (st := (4, false)) g5]
    show (bt s 4).toNat = _
    rw [g6]; simp
  have e3 : st2 s = (5, false) := by unfold st2; rw [e1]; exact nx_yes (st := (4, false)) g5
  have hn1 : 5 + nm.size ≤ s.size := by have := hh1.1; rw [chs_length] at this; exact this
  have e4 : nmS s = nm := by
    unfold nmS
    rw [e2, e3]
    unfold tkS
    rw [if_neg (by show ¬ s.size < 5 + nm.size; omega)]
    refine bytes_eq ?_
    rw [ext_data]
    refine List.ext_getElem? fun j => ?_
    rw [List.getElem?_take]
    have hsz : nm.data.toList.length = nm.size := (Lib.size_eq nm).symm
    have hss : s.data.toList.length = s.size := (Lib.size_eq s).symm
    by_cases hj : j < nm.size
    · rw [if_pos (by show j < 5 + nm.size - 5; omega), List.getElem?_drop]
      have h5 := hh1.2 j (by rw [chs_length]; exact hj)
      rw [nth_eq (by rw [chs_length]; exact hj)] at h5
      unfold chs bt at h5
      rw [List.getElem_map, List.getD_eq_getElem?_getD, List.getElem?_eq_getElem (by omega)] at h5
      rw [List.getElem?_eq_getElem (show 5 + j < _ by omega), List.getElem?_eq_getElem (show j < _ by omega)]
      congr 1
      refine UInt8.toNat_inj.1 ?_
      simp only [Option.getD_some] at h5
      omega
    · rw [if_neg (by show ¬ j < 5 + nm.size - 5; omega)]
      symm
      exact List.getElem?_eq_none (by omega)
  have e5 : st3 s = (5 + nm.size, false) := by unfold st3; rw [e2, e3]; exact nx_yes (st := (5, false)) hn1
  obtain ⟨c1, c2, _⟩ := hcnt.one
  have e6 : cnt s = ts.length := by
    unfold cnt
    rw [e5, byV_yes (st := (5 + nm.size, false)) c1]
    show (bt s (5 + nm.size)).toNat = _
    rw [c2]; simp
  have e7 : st4 s = (5 + nm.size + 1, false) := by unfold st4; rw [e5]; exact nx_yes (st := (5 + nm.size, false)) c1
  have f1 := tsk_ok (s := s) (i := 5 + nm.size + 1) (b := false) htk ts.length (Nat.le_refl _) (by rw [show 5 + nm.size + 1 = nm.size + 6 by omega]; exact hts)
  have f2 := sts_ok (b := false) b6 st.length (Nat.le_refl _) hst
  have e8 : tsk s (st4 s) (cnt s) = (ts, (nm.size + 6 + (tasksB ts ts.length).length, false)) := by
    rw [e6, e7, f1, List.take_length]
    congr 2; omega
  have e9 : st5 s = (nm.size + 6 + (tasksB ts ts.length).length, false) := by unfold st5; rw [e8]
  have e10 : sts s (st5 s) (cnt s) = (st, (nm.size + 6 + (tasksB ts ts.length).length + 2 * st.length, false)) := by
    have f4 := f2
    rw [List.take_length, b4] at f4
    rw [e6, e9, b4]
    exact f4
  refine ⟨?_, ?_⟩
  · unfold plan planT planS
    rw [e4, e8, e10]
  · unfold st7 st6
    rw [e10, nx_yes (st := (_, false)) (by have h9 := hend.1; rw [hbl] at h9; exact h9), hl]
theorem got_ok {s : ByteArray} {x : Sv} (hx : savedOk x = true) (h : s.extract 0 (storeS x).size = storeS x) : gotB s = true ∧ gotX s = x ∧ gotN s = (storeS x).size := by
  obtain ⟨h1, h2⟩ := plan_ok hx h
  have h3 : gotB s = true := by
    unfold gotB
    rw [h1, h2, hx, decide_eq_true h.symm]; rfl
  refine ⟨h3, ?_, ?_⟩
  · unfold gotX; rw [if_pos h3, h1]
  · unfold gotN; rw [if_pos h3, h2]
theorem got_sound {s : ByteArray} (h : gotB s = true) : savedOk (gotX s) = true ∧ storeS (gotX s) = s.extract 0 (gotN s) ∧ gotN s = (storeS (gotX s)).size := by
  have h0 := h
  unfold gotB at h
  simp only [Bool.and_eq_true, decide_eq_true_eq, Bool.not_eq_true'] at h
  have e1 : gotX s = plan s := by unfold gotX; rw [if_pos h0]
  have e2 : gotN s = (st7 s).1 := by unfold gotN; rw [if_pos h0]
  have hle : (st7 s).1 ≤ s.size := nx_le (sts_le (tsk_le (nx_le (nx_le (nx_le (nx_le (Nat.zero_le _))))) _) _)
  rw [e1, e2]
  refine ⟨h.1.2, h.2, ?_⟩
  rw [h.2, Lib.size_eq, ext_data, List.length_take, List.drop_zero, ← Lib.size_eq]
  omega
/-- What is read is small. -/
def TkW (x : Tk) : Prop := (0 ≤ x.1 ∧ x.1 ≤ 255) ∧ (0 ≤ x.2.1 ∧ x.2.1 ≤ 255) ∧ (∀ n ∈ x.2.2.1, 0 ≤ n ∧ n ≤ 255) ∧ (∀ n ∈ x.2.2.2, -100 ≤ n ∧ n ≤ 155) ∧ x.2.2.1.length ≤ 255
theorem prs_mem (s : ByteArray) (st : St) : ∀ k, (∀ n ∈ (prs s st k).1.1, 0 ≤ n ∧ n ≤ 255) ∧ (∀ n ∈ (prs s st k).1.2, -100 ≤ n ∧ n ≤ 155)
  | 0 => ⟨fun n h => by simp [prs] at h, fun n h => by simp [prs] at h⟩
  | k + 1 => by
    have ih := prs_mem s st k
    have h1 := byV_win s (prs s st k).2
    have h2 := byV_win s (nx s 1 (prs s st k).2)
    constructor
    · intro n h
      simp only [prs, List.mem_append, List.mem_singleton] at h
      rcases h with h | h
      · exact ih.1 n h
      · rw [h]; exact h1
    · intro n h
      simp only [prs, List.mem_append, List.mem_singleton] at h
      rcases h with h | h
      · exact ih.2 n h
      · rw [h]; omega
theorem tsk_mem (s : ByteArray) (st : St) : ∀ k, ∀ x ∈ (tsk s st k).1, TkW x
  | 0, x, h => by simp [tsk] at h
  | k + 1, x, h => by
    simp only [tsk, List.mem_append, List.mem_singleton] at h
    rcases h with h | h
    · exact tsk_mem s st k x h
    · rw [h]
      have hp := prs_mem s (nx s 1 (nx s 1 (nx s 1 (tsk s st k).2))) (byV s (nx s 1 (nx s 1 (tsk s st k).2))).toNat
      have hl := (prs_len s (nx s 1 (nx s 1 (nx s 1 (tsk s st k).2))) (byV s (nx s 1 (nx s 1 (tsk s st k).2))).toNat).1
      have hb := byV_win s (nx s 1 (nx s 1 (tsk s st k).2))
      refine ⟨byV_win _ _, byV_win _ _, hp.1, hp.2, ?_⟩
      show List.length _ ≤ 255
      rw [hl]; omega
theorem sts_mem (s : ByteArray) (st : St) : ∀ k, ∀ n ∈ (sts s st k).1, 0 ≤ n ∧ n ≤ 65535
  | 0, n, h => by simp [sts] at h
  | k + 1, n, h => by
    simp only [sts, List.mem_append, List.mem_singleton] at h
    rcases h with h | h
    · exact sts_mem s st k n h
    · rw [h]; exact twV_win _ _
theorem nmL_cast (s : ByteArray) : byV s (st1 s) = (nmL s : Int) ∧ nmL s ≤ 255 := by
  have := byV_win s (st1 s)
  unfold nmL
  omega
theorem cnt_cast (s : ByteArray) : byV s (st3 s) = (cnt s : Int) ∧ cnt s ≤ 255 := by
  have := byV_win s (st3 s)
  unfold cnt
  omega
theorem st1_le (s : ByteArray) : (st1 s).1 ≤ s.size := nx_le (Nat.zero_le _)
theorem st2_le (s : ByteArray) : (st2 s).1 ≤ s.size := nx_le (st1_le s)
theorem st3_le (s : ByteArray) : (st3 s).1 ≤ s.size := nx_le (st2_le s)
theorem st4_le (s : ByteArray) : (st4 s).1 ≤ s.size := nx_le (st3_le s)
theorem st5_le (s : ByteArray) : (st5 s).1 ≤ s.size := tsk_le (st4_le s) _
theorem st6_le (s : ByteArray) : (st6 s).1 ≤ s.size := sts_le (st5_le s) _
theorem st7_le (s : ByteArray) : (st7 s).1 ≤ s.size := nx_le (st6_le s)
theorem got_mark {s : ByteArray} (h : gotB s = true) : (tkS s 4 (0, false)).toList = [80, 76, 78, 49] := by
  obtain ⟨h1, h2, h3⟩ := got_sound h
  rw [h3, storeS_len] at h2
  have hr := rd_of (store_255 h1) h2.symm
  unfold storeB bodyB headB head1 at hr
  simp only [List.cons_append, List.nil_append] at hr
  obtain ⟨a1, b1, r1⟩ := hr.one
  obtain ⟨a2, b2, r2⟩ := r1.one
  obtain ⟨a3, b3, r3⟩ := r2.one
  obtain ⟨a4, b4, _⟩ := r3.one
  simp only [Nat.zero_add, Nat.reduceAdd] at a1 a2 a3 a4 b2 b3 b4
  have hl : s.data.toList.length = s.size := (Lib.size_eq s).symm
  have hb : ∀ (j : Nat) (c : UInt8), j < s.size → bt s j = (c.toNat : Int) → s.data.toList[j]? = some c := fun j c hj he => by
    unfold bt at he
    rw [List.getD_eq_getElem?_getD, List.getElem?_eq_getElem (by omega)] at he
    rw [List.getElem?_eq_getElem (by omega)]
    congr 1
    refine UInt8.toNat_inj.1 ?_
    simp only [Option.getD_some] at he
    omega
  have e0 := hb 0 80 (by omega) b1
  have e1 := hb 1 76 (by omega) b2
  have e2 := hb 2 78 (by omega) b3
  have e3 := hb 3 49 (by omega) b4
  unfold tkS
  rw [if_neg (by show ¬ s.size < 0 + 4; omega), Lib.toList_data, ext_data]
  show List.take 4 (List.drop 0 _) = _
  rw [List.drop_zero]
  refine List.ext_getElem? fun j => ?_
  rw [List.getElem?_take]
  match j with
  | 0 => exact e0
  | 1 => exact e1
  | 2 => exact e2
  | 3 => exact e3
  | j + 4 => rw [if_neg (by omega)]; simp
theorem got_no {s : ByteArray} (h : gotB s = false) : gotX s = (ByteArray.empty, [], []) ∧ gotN s = 0 := by
  unfold gotX gotN
  rw [h]
  exact ⟨rfl, rfl⟩
theorem got_yes {s : ByteArray} (h : gotB s = true) : gotX s = (nmS s, planT s, planS s) ∧ gotN s = (st7 s).1 := by
  unfold gotX gotN
  rw [h]
  exact ⟨rfl, rfl⟩
theorem nmS_size (s : ByteArray) (hs : s.size ≤ 1048576) : (nmS s).size ≤ 1048576 := by
  have h := (nmL_cast s).2
  unfold nmS tkS
  split
  · rw [Lib.size_eq]
    show (List.replicate (nmL s) (0 : UInt8)).length ≤ _
    rw [List.length_replicate]; omega
  · rw [Lib.size_eq, ext_data, List.length_take, List.length_drop, ← Lib.size_eq]; omega
theorem got_short {s : ByteArray} (h : (st7 s).2 = true) : gotB s = false := by unfold gotB; rw [h]; rfl
theorem got_bad {s : ByteArray} (h : savedOk (nmS s, planT s, planS s) = false) : gotB s = false := by
  have h1 : savedOk (plan s) = false := h
  unfold gotB; rw [h1]; simp
theorem got_ne {s : ByteArray} (h : storeS (nmS s, planT s, planS s) ≠ s.extract 0 (st7 s).1) : gotB s = false := by
  have h1 : storeS (plan s) ≠ s.extract 0 (st7 s).1 := h
  unfold gotB; rw [decide_eq_false h1]; simp
theorem got_all {s : ByteArray} (h : (st7 s).2 = false) (h1 : savedOk (nmS s, planT s, planS s) = true) (h2 : storeS (nmS s, planT s, planS s) = s.extract 0 (st7 s).1) : gotB s = true := by
  have e1 : savedOk (plan s) = true := h1
  have e2 : storeS (plan s) = s.extract 0 (st7 s).1 := h2
  unfold gotB; rw [h, e1, decide_eq_true e2]; rfl
theorem got_prefix {x : Sv} {n : Nat} (hx : savedOk x = true) (hn : n < (storeS x).size) : gotB ((storeS x).extract 0 n) = false := by
  cases hg : gotB ((storeS x).extract 0 n) with
  | false => rfl
  | true =>
    exfalso
    obtain ⟨h1, h2, h3⟩ := got_sound hg
    obtain ⟨y, hy⟩ : ∃ y, gotX ((storeS x).extract 0 n) = y := ⟨_, rfl⟩
    rw [hy] at h1 h2 h3
    rw [h3] at h2
    have hle : (storeS y).size ≤ n := by
      have := congrArg ByteArray.size h2
      rw [Lib.size_eq ((((storeS x).extract 0 n)).extract 0 _), ext_data, ext_data] at this
      simp only [List.length_take, List.drop_zero, Nat.sub_zero, List.length_drop] at this
      omega
    have h4 : (storeS x).extract 0 (storeS y).size = storeS y := by
      conv => rhs; rw [h2]
      refine bytes_eq ?_
      rw [ext_data, ext_data, ext_data]
      simp only [List.drop_zero, Nat.sub_zero, List.take_take]
      congr 1; omega
    have h5 := (plan_ok h1 h4).2
    have h6 := (plan_ok (s := storeS x) hx (by refine bytes_eq ?_; rw [ext_data, Nat.sub_zero, List.drop_zero, List.take_of_length_le]; rw [← Lib.size_eq]; exact Nat.le_refl _)).2
    rw [h5] at h6
    have h7 := congrArg (fun z : Nat × Bool => z.1) h6
    simp only at h7
    omega
end Go.Proofs.Ytcjeededlhdcbaa

namespace Go.Proofs.Ytcjeededlhdcbaa
open Go.RowKit Go.Shelf Go.BigFrame
set_option linter.unusedVariables false
set_option linter.unusedSimpArgs false

/-- The cells of a taker. -/
def tkC (s : ByteArray) (st : St) : List Value := [.string s, .int .i64 (st.1 : Int), .bool st.2]
theorem grown_below {w w' : World} {N : Nat} (row : Option Nat) (hb : Below N w w') (hN : w.heap.size ≤ N) : w.grownBy w' row := ⟨hb.os, hb.tape, hb.output, hb.size, fun k hk _ => hb.block k (by omega)⟩
theorem grown_set (w : World) (p : Addr) (v : Value) : w.grownBy (w.setCell p v) (some p.block) := ⟨rfl, rfl, rfl, by simp [World.setCell], fun k hk hk' => Below.heap_setCell _ _ _ _ (fun e => hk' (by rw [e]))⟩
theorem repeat_zeros (n : Nat) : (⟨(Go.Lib.repeatL (⟨#[0]⟩ : ByteArray).data.toList n).toArray⟩ : ByteArray) = zerosB n := by
  unfold zerosB
  have := Go.Lib.repeatL_replicate (0 : UInt8) 1 n
  rw [Nat.mul_one] at this
  rw [← this]
  rfl

theorem blk_take {w : World} {T t : Nat} {s : ByteArray} {a n : Nat} {b : Bool} (q1 q2 : Nat) (hk : Blk w T t (tkC s (a, b))) : Blk (((w.drewN q1).setCell ⟨T, 1, none⟩ (.int .i64 ((a : Int) + (n : Int)))).drewN q2) T t (tkC s (a + n, b)) := by
  have h := ((hk.drewN q1).set 1 (.int .i64 ((a : Int) + (n : Int)))).drewN q2
  have e : (tkC s (a, b)).set 1 (.int .i64 ((a : Int) + (n : Int))) = tkC s (a + n, b) := by
    unfold tkC
    simp
  rwa [e] at h
theorem grown_take (w : World) {T : Nat} (v : Value) (q1 q2 : Nat) : w.grownBy (((w.drewN q1).setCell ⟨T, 1, none⟩ v).drewN q2) (some T) :=
  grownBy_trans (grownBy_trans (grown_below (some T) (below_drewN q1 (Below.refl _ w)) (Nat.le_refl _)) (grown_set _ ⟨T, 1, none⟩ v)) (grown_below (some T) (below_drewN q2 (Below.refl _ _)) (Nat.le_refl _))
theorem byte_at {s : ByteArray} {i : Nat} (h : i < s.size) : s.data.toList[i]? = some s[i] := by
  rw [Array.getElem?_toList]
  exact Array.getElem?_eq_getElem h

theorem ext_byte {s : ByteArray} {a n j : Nat} (h : a + n ≤ s.size) (hj : j < n) : ∃ hlt : j < (s.extract a (a + n)).size, (((s.extract a (a + n))[j]'hlt).toNat : Int) = bt s (a + j) := by
  have h1 : (s.extract a (a + n)).size = n := by
    rw [Go.Lib.size_eq, ext_data, List.length_take, List.length_drop, ← Go.Lib.size_eq]; omega
  refine ⟨by omega, ?_⟩
  have h2 : (s.extract a (a + n)).data.toList[j]? = some ((s.extract a (a + n))[j]'(by omega)) := byte_at (by omega)
  rw [ext_data, List.getElem?_take, if_pos (by omega), List.getElem?_drop] at h2
  unfold bt
  rw [List.getD_eq_getElem?_getD, h2]; rfl
theorem zero_byte {n j : Nat} (hj : j < n) : ∃ hlt : j < (zerosB n).size, (((zerosB n)[j]'hlt).toNat : Int) = 0 := by
  have h1 : (zerosB n).size = n := by
    rw [Go.Lib.size_eq]; simp [zerosB]
  refine ⟨by omega, ?_⟩
  have h2 : (zerosB n).data.toList[j]? = some ((zerosB n)[j]'(by omega)) := byte_at (by omega)
  have h3 : (zerosB n).data.toList[j]? = some 0 := by
    show (List.replicate n (0 : UInt8))[j]? = some 0
    rw [List.getElem?_replicate, if_pos hj]
  rw [h3] at h2
  rw [← Option.some.inj h2]; rfl
theorem tk_byte {s : ByteArray} {st : St} {n j : Nat} (hj : j < n) : (tkS s n st).size = n ∧ ∃ hlt : j < (tkS s n st).size, (((tkS s n st)[j]'hlt).toNat : Int) = if s.size < st.1 + n then 0 else bt s (st.1 + j) := by
  unfold tkS
  by_cases h : s.size < st.1 + n
  · simp only [if_pos h]
    exact ⟨by rw [Go.Lib.size_eq]; simp [zerosB], zero_byte hj⟩
  · simp only [if_neg h]
    refine ⟨?_, ext_byte (by omega) hj⟩
    rw [Go.Lib.size_eq, ext_data, List.length_take, List.length_drop, ← Go.Lib.size_eq]; omega

theorem tk_all (s : ByteArray) (st : St) (n : Nat) : ∃ X, tkS s n st = X ∧ X.size = n ∧ ∀ j (hj : j < X.size), ((X[j]'hj).toNat : Int) = if s.size < st.1 + n then 0 else bt s (st.1 + j) := by
  have h0 : (tkS s n st).size = n := by
    unfold tkS
    by_cases h : s.size < st.1 + n
    · simp only [if_pos h]
      rw [Go.Lib.size_eq]; simp [zerosB]
    · simp only [if_neg h]
      rw [Go.Lib.size_eq, ext_data, List.length_take, List.length_drop, ← Go.Lib.size_eq]; omega
  refine ⟨_, rfl, h0, fun j hj => ?_⟩
  obtain ⟨_, _, h⟩ := tk_byte (s := s) (st := st) (n := n) (j := j) (by omega)
  exact h

theorem two_sum (x y : Nat) : ((y * 256 + x : Nat) : Int) = (x : Int) + 256 * (y : Int) := by omega
theorem or_two (x y : Nat) (hx : x < 256) (hy : y < 256) : bits .or .i64 (x : Int) ((y : Int) * 256) = (x : Int) + 256 * (y : Int) := by
  have h1 := (bits_nat .i64 16 (by decide) (fun m h0 h1 => IntWalk.i64_in m (by omega)) x (y * 256) (by omega) (by omega)).2
  have h2 : (((y * 256 : Nat)) : Int) = (y : Int) * 256 := by rw [Int.natCast_mul]; rfl
  rw [h2] at h1
  rw [h1]
  have h3 := Nat.shiftLeft_add_eq_or_of_lt (show x < 2 ^ 8 from hx) y
  rw [Nat.shiftLeft_eq, show (2 : Nat) ^ 8 = 256 by decide] at h3
  have h4 : x ||| y * 256 = y * 256 + x := by
    rw [Nat.or_comm]
    exact h3.symm
  refine (congrArg (fun z : Nat => (z : Int)) h4).trans ?_
  exact two_sum x y

end Go.Proofs.Ytcjeededlhdcbaa

namespace Go.Proofs.Ytcjeededlhdcbaa
open Go.RowKit Go.Shelf Go.BigFrame
set_option linter.unusedVariables false
set_option linter.unusedSimpArgs false

/-- An own slice whose block lies below hi. -/
def OwnH (w : World) (lo hi : Nat) (v : Value) (xs : List Int) : Prop := OwnI w lo v xs ∧ ∀ k, v.ownBlock = some k → k < hi
theorem OwnH.kept {w w' : World} {lo hi : Nat} {v : Value} {xs : List Int} {row : Option Nat} (h : OwnH w lo hi v xs) (hg : w.grownBy w' row) (hr : ∀ k, row = some k → k < lo ∨ hi ≤ k) : OwnH w' lo hi v xs := by
  refine ⟨h.1.kept hg ?_, h.2⟩
  cases hv : v.ownBlock with
  | none => exact .inl rfl
  | some j =>
    refine .inr (fun e => ?_)
    have h1 := h.1.lt j hv
    have h2 := h.2 j hv
    rcases hr j e.symm with h3 | h3 <;> omega
/-- .. where the row that changes is of another type. -/
theorem OwnH.keptT {w w' : World} {lo hi k : Nat} {v : Value} {xs : List Int} {cur : Array Value} {t : TypeId} {fr : Nat × Nat} (h : OwnH w lo hi v xs) (hg : w.grownBy w' (some k)) (hk : w.heap[k]? = some (.cells cur t fr)) (ht : t ≠ 2) : OwnH w' lo hi v xs := by
  refine ⟨h.1.kept hg ?_, h.2⟩
  cases hv : v.ownBlock with
  | none => exact .inl rfl
  | some j =>
    refine .inr (fun e => ?_)
    rcases h.1.2 with ⟨h1, _⟩ | ⟨g, cap, cur', h1, _, h2, _⟩
    · rw [h1] at hv; cases hv
    · rw [h1] at hv
      obtain rfl : g = j := by simpa [Value.ownBlock] using hv
      obtain rfl : g = k := by simpa using e
      rw [hk] at h2
      injection h2 with h2
      injection h2 with _ h3
      exact ht h3
theorem OwnH.mono {w : World} {lo hi lo' hi' : Nat} {v : Value} {xs : List Int} (h : OwnH w lo hi v xs) (h1 : lo' ≤ lo) (h2 : hi ≤ hi') : OwnH w lo' hi' v xs := ⟨h.1.mono h1, fun k hk => Nat.lt_of_lt_of_le (h.2 k hk) h2⟩

/-- The four cells of a task whose slices are the call's own. -/
def TkOwn (w : World) (lo hi : Nat) (cs : List Value) (x : Tk) : Prop := ∃ vb vl, cs = [.int .i64 x.1, .int .i64 x.2.1, vb, vl] ∧ OwnH w lo hi vb x.2.2.1 ∧ OwnH w lo hi vl x.2.2.2 ∧ (vb.ownBlock = none ∨ vb.ownBlock ≠ vl.ownBlock)
inductive TksOwn (w : World) (lo : Nat) : Nat → List Value → List Tk → Prop where
  | nil {hi : Nat} : lo ≤ hi → TksOwn w lo hi [] []
  | snoc {mid hi : Nat} {raw cs : List Value} {xs : List Tk} {x : Tk} : TksOwn w lo mid raw xs → TkOwn w mid hi cs x → mid ≤ hi → TksOwn w lo hi (raw ++ cs) (xs ++ [x])
theorem TkOwn.len {w : World} {lo hi : Nat} {cs : List Value} {x : Tk} (h : TkOwn w lo hi cs x) : cs.length = 4 := by obtain ⟨vb, vl, rfl, _⟩ := h; rfl
theorem TkOwn.hi {w : World} {lo hi hi' : Nat} {cs : List Value} {x : Tk} (h : TkOwn w lo hi cs x) (h1 : hi ≤ hi') : TkOwn w lo hi' cs x := by
  obtain ⟨vb, vl, e, h2, h3, h4⟩ := h
  exact ⟨vb, vl, e, h2.mono (Nat.le_refl _) h1, h3.mono (Nat.le_refl _) h1, h4⟩
theorem TkOwn.kept {w w' : World} {lo hi : Nat} {cs : List Value} {x : Tk} {row : Option Nat} (h : TkOwn w lo hi cs x) (hg : w.grownBy w' row) (hr : ∀ k, row = some k → k < lo ∨ hi ≤ k) : TkOwn w' lo hi cs x := by
  obtain ⟨vb, vl, e, h1, h2, h3⟩ := h
  exact ⟨vb, vl, e, h1.kept hg hr, h2.kept hg hr, h3⟩
theorem TkOwn.keptT {w w' : World} {lo hi k : Nat} {cs : List Value} {x : Tk} {cur : Array Value} {t : TypeId} {fr : Nat × Nat} (h : TkOwn w lo hi cs x) (hg : w.grownBy w' (some k)) (hk : w.heap[k]? = some (.cells cur t fr)) (ht : t ≠ 2) : TkOwn w' lo hi cs x := by
  obtain ⟨vb, vl, e, h1, h2, h3⟩ := h
  exact ⟨vb, vl, e, h1.keptT hg hk ht, h2.keptT hg hk ht, h3⟩
theorem TksOwn.le {w : World} {lo hi : Nat} {raw : List Value} {xs : List Tk} (h : TksOwn w lo hi raw xs) : lo ≤ hi := by
  induction h with
  | nil h => exact h
  | snoc _ _ h ih => omega
theorem TksOwn.hi {w : World} {lo hi hi' : Nat} {raw : List Value} {xs : List Tk} (h : TksOwn w lo hi raw xs) (h1 : hi ≤ hi') : TksOwn w lo hi' raw xs := by
  cases h with
  | nil h => exact .nil (by omega)
  | snoc h2 h3 h4 => exact .snoc h2 (h3.hi h1) (by omega)
theorem TksOwn.kept {w w' : World} {lo hi : Nat} {raw : List Value} {xs : List Tk} {row : Option Nat} (h : TksOwn w lo hi raw xs) (hg : w.grownBy w' row) (hr : ∀ k, row = some k → k < lo ∨ hi ≤ k) : TksOwn w' lo hi raw xs := by
  induction h with
  | nil h => exact .nil h
  | snoc h2 h3 h4 ih =>
    have hl := h2.le
    exact .snoc (ih fun k hk => by rcases hr k hk with h | h <;> omega) (h3.kept hg fun k hk => by rcases hr k hk with h | h <;> omega) h4
theorem TksOwn.keptT {w w' : World} {lo hi k : Nat} {raw : List Value} {xs : List Tk} {cur : Array Value} {t : TypeId} {fr : Nat × Nat} (h : TksOwn w lo hi raw xs) (hg : w.grownBy w' (some k)) (hk : w.heap[k]? = some (.cells cur t fr)) (ht : t ≠ 2) : TksOwn w' lo hi raw xs := by
  induction h with
  | nil h => exact .nil h
  | snoc h2 h3 h4 ih => exact .snoc ih (h3.keptT hg hk ht) h4
theorem TksOwn.lo {w : World} {lo lo' hi : Nat} {raw : List Value} {xs : List Tk} (h : TksOwn w lo hi raw xs) (h1 : lo' ≤ lo) : TksOwn w lo' hi raw xs := by
  induction h with
  | nil h => exact .nil (by omega)
  | snoc _ h3 h4 ih => exact .snoc ih h3 h4
theorem OwnV.mono {T size n : Nat} {w : World} {B B' : Nat} {v : Value} {xs : List Value} (h : OwnV T size w B v n xs) (hB : B' ≤ B) : OwnV T size w B' v n xs := by
  refine ⟨h.1, ?_⟩
  rcases h.2 with h2 | ⟨g, cap, cur, hv, hg, r⟩
  · exact .inl h2
  · exact .inr ⟨g, cap, cur, hv, by omega, r⟩
theorem TksOwn.len {w : World} {lo hi : Nat} {raw : List Value} {xs : List Tk} (h : TksOwn w lo hi raw xs) : raw.length = xs.length * 4 := by
  induction h with
  | nil h => rfl
  | snoc h2 h3 h4 ih => rw [List.length_append, List.length_append, ih, h3.len, List.length_singleton]; omega
theorem TksOwn.at_ {w : World} {lo hi : Nat} {raw : List Value} {xs : List Tk} (h : TksOwn w lo hi raw xs) : ∀ i (hi' : i < xs.length), ∃ l u cs, lo ≤ l ∧ TkOwn w l u cs xs[i] ∧ ∀ j, j < 4 → raw[i * 4 + j]? = cs[j]? := by
  induction h with
  | nil h => intro i hi; exact absurd hi (Nat.not_lt_zero _)
  | snoc h2 h3 h4 ih =>
    rename_i mid hi raw cs xs x
    intro i hi'
    have hl := h2.len
    rw [List.length_append, List.length_singleton] at hi'
    by_cases hx : i < xs.length
    · obtain ⟨l, u, cs', p1, p2, p3⟩ := ih i hx
      refine ⟨l, u, cs', p1, ?_, fun j hj => ?_⟩
      · rw [List.getElem_append_left hx]; exact p2
      · rw [List.getElem?_append_left (by omega)]; exact p3 j hj
    · obtain rfl : i = xs.length := by omega
      refine ⟨mid, hi, cs, h2.le, ?_, fun j hj => ?_⟩
      · rw [List.getElem_append_right (Nat.le_refl _)]
        simpa using h3
      · rw [List.getElem?_append_right (by omega), hl, Nat.add_sub_cancel_left]
theorem TksOwn.reads {w : World} {lo hi N : Nat} {v : Value} {raw : List Value} {xs : List Tk} (h : TksOwn w lo hi raw xs) (hv : OwnV 40 4 w N v xs.length raw) (hm : xs.length ≤ maxLen)
    (hw : ∀ i (h : i < xs.length), (Lit.int .i64 xs[i].1).wf = true ∧ (Lit.int .i64 xs[i].2.1).wf = true ∧ (∀ n ∈ xs[i].2.2.1, (Lit.int .i64 n).wf = true) ∧ (∀ n ∈ xs[i].2.2.2, (Lit.int .i64 n).wf = true)) : TasksR w v xs := by
  by_cases h0 : 1 ≤ xs.length
  · rcases hv.2 with ⟨_, h1⟩ | ⟨g, cap, cur, rfl, hg, hb, hc⟩
    · omega
    refine ⟨hm, _, cap, rfl, hc.1, fun i hi => ?_⟩
    obtain ⟨l, u, cs, _, ⟨vb, vl, rfl, o1, o2, _⟩, p3⟩ := h.at_ i hi
    obtain ⟨w1, w2, w3, w4⟩ := hw i hi
    refine ⟨g, 0, _, rfl, (hv.lt g rfl).2, task_cells.2 ⟨vb, vl, rfl, w1, w2, OwnI.slR o1.1 w3, OwnI.slR o2.1 w4⟩, fun j hj => ?_⟩
    have hj4 : j < 4 := hj
    have h4 := p3 j hj4
    have hl := h.len
    have hv' : OwnV 40 4 w N (.slice (some ⟨g, 0, none⟩) xs.length cap) xs.length raw := hv
    have h5 := (hv'.store (i * 4 + j) (by omega) (.bool true)).1
    rw [Nat.zero_add]
    show w.cell? ⟨g, i * 4 + j, none⟩ = _
    rw [h5]
    rw [List.getElem?_eq_getElem (by omega)] at h4
    rw [h4, List.getElem?_eq_getElem hj]
  · obtain rfl : xs = [] := List.eq_nil_of_length_eq_zero (by omega)
    rcases hv.2 with ⟨h2, _⟩ | ⟨g, cap, cur, h2, _⟩
    · exact ⟨hm, _, _, h2, Nat.le_refl _, fun i hi => absurd hi (Nat.not_lt_zero _)⟩
    · exact ⟨hm, _, _, h2, Nat.zero_le _, fun i hi => absurd hi (Nat.not_lt_zero _)⟩
/-- s.Tasks = append(s.Tasks, x). -/
theorem append_tk {ops : Array Oper} {rest : List Oper} {o : Oper} {a : Act} {Q : Exit → Act → World → Prop} {W : World} (hgd : o.guard = none) (s x : Operand)
    (ho : o.op = .call { callee := .builtin .append, args := #[s, x], argTypes := #[25, 25] }) (B : Nat) (v : Value) (n : Nat) (raw cs : List Value)
    (hs : a.eval s = v) (c : Nat) (hx : a.eval x = .slice (some ⟨W.heap.size, 0, none⟩) 1 c) (hown : OwnV 40 4 W B v n raw) (hc : cs.length = 4) (h1 : ∀ u ∈ cs, u.oneCell' = true) (hB : B ≤ W.heap.size) (hsmall : n ≤ 1000000)
    (hK : ∀ g c n' w', Hid (n' = n + 1) → OwnV 40 4 w' B (.slice (some ⟨g, 0, none⟩) n' c) (n + 1) (raw ++ cs) → W.grownBy w' v.ownBlock → wpList Try.prog ops Q rest (a.put o.dst (.slice (some ⟨g, 0, none⟩) n' c)) w') :
    wpList Try.prog ops Q (o :: rest) a (W.alloc (.cells cs.toArray 40)) := by
  obtain ⟨i0, hi, hz0, hz1, hz2⟩ := info_parts info_task
  refine wpList_append_own _ hgd s x 25 ho B 40 i0 (.agg #[.int .i64 0, .int .i64 0, .slice none 0 0, .slice none 0 0]) 4 64 Try.underlying25 hi hz0 hz1 hz2 rfl (by decide) v n raw hs (World.ownsRow.alloc hown _) ⟨W.heap.size, 0, none⟩ 1 c cs hx (by omega) (cells_lit W _ _) h1 (by unfold maxLen; omega) (by omega) (by simp; omega) ?_
  intro v' w' h2 h3 _
  have h3' : W.grownBy w' v.ownBlock := ⟨h3.os, h3.tape, h3.output, Nat.le_trans (by simp) h3.size, fun k hk hne => (h3.block k (by simp; omega) hne).trans (Below.heap_alloc _ _ _ hk)⟩
  rcases h2.2 with ⟨_, h0⟩ | ⟨g, cap, cur, rfl, _⟩
  · omega
  · exact hK g cap _ w' rfl h2 h3'
theorem OwnI.one {w : World} {B : Nat} {v : Value} {xs : List Int} (h : OwnI w B v xs) : v.oneCell' = true := by
  rcases h.2 with ⟨h1, _⟩ | ⟨g, cap, cur, h1, _⟩
  · rw [h1]; rfl
  · rw [h1]; rfl
/-- The row's own block is one of tasks. -/
theorem OwnV.typed {T size n : Nat} {w : World} {B : Nat} {v : Value} {raw : List Value} (h : OwnV T size w B v n raw) : ∀ k, v.ownBlock = some k → ∃ cur fr, w.heap[k]? = some (.cells cur T fr) := fun k hk => by
  rcases h.2 with ⟨h1, _⟩ | ⟨g, cap, cur, h1, _, h2, _⟩
  · rw [h1] at hk; cases hk
  · rw [h1] at hk
    obtain rfl : g = k := by simpa [Value.ownBlock] using hk
    exact ⟨_, _, h2⟩
theorem TksOwn.keptV {T size n B : Nat} {w w' : World} {lo hi : Nat} {raw rw : List Value} {xs : List Tk} {v : Value} (h : TksOwn w lo hi raw xs) (hv : OwnV T size w B v n rw) (ht : T ≠ 2) (hg : w.grownBy w' v.ownBlock) : TksOwn w' lo hi raw xs := by
  cases e : v.ownBlock with
  | none => rw [e] at hg; exact h.kept hg (fun k hk => by cases hk)
  | some k =>
    obtain ⟨cur, fr, h1⟩ := hv.typed k e
    rw [e] at hg
    exact h.keptT hg h1 ht
theorem TkOwn.keptV {T size n B : Nat} {w w' : World} {lo hi : Nat} {rw cs : List Value} {x : Tk} {v : Value} (h : TkOwn w lo hi cs x) (hv : OwnV T size w B v n rw) (ht : T ≠ 2) (hg : w.grownBy w' v.ownBlock) : TkOwn w' lo hi cs x := by
  cases e : v.ownBlock with
  | none => rw [e] at hg; exact h.kept hg (fun k hk => by cases hk)
  | some k =>
    obtain ⟨cur, fr, h1⟩ := hv.typed k e
    rw [e] at hg
    exact h.keptT hg h1 ht
/-- append at a step of a region, the world without a draw. -/
theorem step_append_i64N {ops : Array Oper} {o : Oper} {a : Act} {K : Act → World → Prop} {Q : Exit → Act → World → Prop} {E : Prop} {W : World} (hgd : o.guard = none) (s x : Operand)
    (ho : o.op = .call { callee := .builtin .append, args := #[s, x], argTypes := #[27, 27] }) (B : Nat) (v : Value) (xs ys : List Int) (hy : 0 < ys.length)
    (hs : a.eval s = v) (c : Nat) (hx : a.eval x = .slice (some ⟨W.heap.size, 0, none⟩) ys.length c) (hown : OwnI W B v xs) (hB : B ≤ W.heap.size) (hsmall : xs.length + ys.length ≤ 1099511627776)
    (hK : ∀ g c n w', Hid (n = xs.length + ys.length) → OwnI w' B (.slice (some ⟨g, 0, none⟩) n c) (xs ++ ys) → W.grownBy w' v.ownBlock → (v.ownBlock = some g ∨ g = W.heap.size + 1) → K (a.put o.dst (.slice (some ⟨g, 0, none⟩) n c)) w') :
    if Region.wanted o (yielded ops a.tmps) = true then Oper.wp Try.prog o a (W.alloc (.cells (ys.map (Value.int .i64)).toArray 2)) K Q else E := by
  obtain ⟨i0, hi, hz0, hz1, hz2⟩ := info_parts info_i64
  have hown' : (W.alloc (.cells (ys.map (Value.int .i64)).toArray 2)).ownsRow B 2 1 v xs.length (xs.map (Value.int .i64)) := World.ownsRow.alloc hown _
  refine step_append_lies _ hgd s x 27 ho B 2 i0 (.int .i64 0) 1 8 Try.underlying27 hi hz0 hz1 hz2 rfl (by decide) v xs.length _ hs hown' ⟨W.heap.size, 0, none⟩ ys.length c (ys.map (Value.int .i64)) hx (by simp) (cells_lit W _ _) ?_ hy (by unfold maxLen; omega) (by omega) (by simp; omega) (W.heap.size + 1) (by simp) ?_
  · intro u hu; obtain ⟨y, _, rfl⟩ := List.mem_map.1 hu; rfl
  · intro g cap w' h1 h2 h5 _
    have h2' : (W.alloc (.cells (ys.map (Value.int .i64)).toArray 2)).grownBy w' v.ownBlock := ⟨h2.os, h2.tape, h2.output, h2.size, h2.block⟩
    obtain ⟨g', c', he, h3, h4⟩ := app_shape hy hown h1 h2'
    obtain ⟨rfl, rfl⟩ : g = g' ∧ cap = c' := by simpa using he
    exact hK g cap _ w' rfl h3 h4 h5
end Go.Proofs.Ytcjeededlhdcbaa

namespace Go.Proofs.Ytcjeededlhdcbaa
open Go.RowKit
set_option linter.unusedVariables false
set_option linter.unusedSimpArgs false

/-- Tasks at (b, o), by what their cells hold. -/
structure TkSrc (w : World) (b o : Nat) (ts : List Tk) (VB VL : Nat → Value) (i : Nat) : Prop where
  bef : SlR rInt w (VB i) (befN ts i)
  lag : SlR rInt w (VL i) (lagN ts i)
  wf : (Lit.int .i64 (timeN ts i)).wf = true ∧ (Lit.int .i64 (needN ts i)).wf = true
  c0 : w.cell? ⟨b, o + i * 4, none⟩ = some (.int .i64 (timeN ts i))
  c1 : w.cell? ⟨b, o + i * 4 + 1, none⟩ = some (.int .i64 (needN ts i))
  c2 : w.cell? ⟨b, o + i * 4 + 2, none⟩ = some (VB i)
  c3 : w.cell? ⟨b, o + i * 4 + 3, none⟩ = some (VL i)
theorem TasksR.src {w : World} {v : Value} {ts : List Tk} (h : TasksR w v ts) (h0 : 0 < ts.length) :
    ∃ b o c VB VL, v = .slice (some ⟨b, o, none⟩) ts.length c ∧ ts.length ≤ c ∧ b < w.heap.size ∧ ∀ i, i < ts.length → TkSrc w b o ts VB VL i := by
  obtain ⟨a, c, rfl, hcap, hc⟩ := h.at_
  obtain ⟨b, o, _, _, rfl, hb, _⟩ := hc 0 h0
  have HX : ∀ i, ∃ p : Value × Value, i < ts.length → SlR rInt w p.1 (befN ts i) ∧ SlR rInt w p.2 (lagN ts i) ∧ ((Lit.int .i64 (timeN ts i)).wf = true ∧ (Lit.int .i64 (needN ts i)).wf = true) ∧
      w.cell? ⟨b, o + i * 4, none⟩ = some (.int .i64 (timeN ts i)) ∧ w.cell? ⟨b, o + i * 4 + 1, none⟩ = some (.int .i64 (needN ts i)) ∧ w.cell? ⟨b, o + i * 4 + 2, none⟩ = some p.1 ∧ w.cell? ⟨b, o + i * 4 + 3, none⟩ = some p.2 := fun i => by
    by_cases hi : i < ts.length
    · obtain ⟨b', o', vb, vl, ha, hbs, h1, h2, w1, w2, e0, e1, e2, e3⟩ := hc i hi
      obtain ⟨rfl, rfl⟩ : b = b' ∧ o = o' := by simpa using ha
      refine ⟨(vb, vl), fun _ => ?_⟩
      unfold befN lagN timeN needN
      rw [tkN_eq hi]
      exact ⟨h1, h2, ⟨w1, w2⟩, e0, e1, e2, e3⟩
    · exact ⟨(.bool true, .bool true), fun h' => absurd h' hi⟩
  obtain ⟨p, hp⟩ := Classical.axiomOfChoice HX
  exact ⟨b, o, c, fun i => (p i).1, fun i => (p i).2, rfl, hcap, hb, fun i hi => by
    obtain ⟨h1, h2, h3, e0, e1, e2, e3⟩ := hp i hi
    exact ⟨h1, h2, h3, e0, e1, e2, e3⟩⟩
def cellT (ts : List Tk) (VB VL : Nat → Value) (i : Nat) : Nat → Value
  | 0 => .int .i64 (timeN ts i)
  | 1 => .int .i64 (needN ts i)
  | 2 => VB i
  | _ => VL i
def rawT (ts : List Tk) (VB VL : Nat → Value) : List Value := (List.range (ts.length * 4)).map fun q => cellT ts VB VL (q / 4) (q % 4)
theorem rawT_len (ts : List Tk) (VB VL : Nat → Value) : (rawT ts VB VL).length = ts.length * 4 := by simp [rawT]
theorem rawT_at {ts : List Tk} {VB VL : Nat → Value} {i j : Nat} (hi : i < ts.length) (hj : j < 4) : (rawT ts VB VL)[i * 4 + j]? = some (cellT ts VB VL i j) := by
  unfold rawT
  rw [List.getElem?_map, List.getElem?_range (by omega)]
  simp only [Option.map_some]
  congr 2 <;> omega
theorem TkSrc.cell {w : World} {b o i : Nat} {ts : List Tk} {VB VL : Nat → Value} (h : TkSrc w b o ts VB VL i) {j : Nat} (hj : j < 4) : w.cell? ⟨b, o + (i * 4 + j), none⟩ = some (cellT ts VB VL i j) := by
  rw [← Nat.add_assoc]
  match j, hj with
  | 0, _ => exact h.c0
  | 1, _ => exact h.c1
  | 2, _ => exact h.c2
  | 3, _ => exact h.c3
theorem SlR.one {α : Type} {r : Rdr α} {w : World} {v : Value} {xs : List α} (h : SlR r w v xs) : v.oneCell' = true := by
  obtain ⟨_, a, c, rfl, _⟩ := h; rfl
/-- append(empty, tasks...). -/
theorem append_tks {ops : Array Oper} {rest : List Oper} {o : Oper} {a : Act} {Q : Exit → Act → World → Prop} {W : World} (hgd : o.guard = none) (s x : Operand)
    (ho : o.op = .call { callee := .builtin .append, args := #[s, x], argTypes := #[25, 25] }) (B : Nat) (v : Value) (ts : List Tk) (VB VL : Nat → Value) (h0 : 0 < ts.length) (hl : ts.length ≤ 1048576)
    (hs : a.eval s = v) (b off c : Nat) (hx : a.eval x = .slice (some ⟨b, off, none⟩) ts.length c) (hcells : ∀ i, i < ts.length → ∀ j, j < 4 → W.cell? ⟨b, off + (i * 4 + j), none⟩ = some (cellT ts VB VL i j)) (hone : ∀ i, i < ts.length → (VB i).oneCell' = true ∧ (VL i).oneCell' = true) (hown : OwnV 40 4 W B v 0 []) (hB : B ≤ W.heap.size)
    (hK : ∀ g c w', OwnV 40 4 w' B (.slice (some ⟨g, 0, none⟩) ts.length c) ts.length (rawT ts VB VL) → W.grownBy w' v.ownBlock → wpList Try.prog ops Q rest (a.put o.dst (.slice (some ⟨g, 0, none⟩) ts.length c)) w') :
    wpList Try.prog ops Q (o :: rest) a W := by
  obtain ⟨i0, hi, hz0, hz1, hz2⟩ := info_parts info_task
  refine wpList_append_own _ hgd s x 25 ho B 40 i0 (.agg #[.int .i64 0, .int .i64 0, .slice none 0 0, .slice none 0 0]) 4 64 Try.underlying25 hi hz0 hz1 hz2 rfl (by decide) v 0 [] hs hown ⟨b, off, none⟩ ts.length c (rawT ts VB VL) hx (by rw [rawT_len]) ?_ ?_ (by unfold maxLen; omega) (by omega) hB ?_
  · intro j u hj
    have hlt : j < ts.length * 4 := by
      have := (List.getElem?_eq_some_iff.1 hj).1; rw [rawT_len] at this; exact this
    have h1 := rawT_at (VB := VB) (VL := VL) (ts := ts) (i := j / 4) (j := j % 4) (by omega) (by omega)
    have h2 := hcells (j / 4) (by omega) (j % 4) (by omega)
    rw [show j / 4 * 4 + j % 4 = j by omega] at h1 h2
    rw [h1] at hj
    have hadd : (⟨b, off, none⟩ : Addr).add j = ⟨b, off + j, none⟩ := by unfold Addr.add; split <;> simp_all
    rw [hadd, h2, hj]
  · intro u hu
    unfold rawT at hu
    obtain ⟨q, hq, rfl⟩ := List.mem_map.1 hu
    rw [List.mem_range] at hq
    have h := hone (q / 4) (by omega)
    unfold cellT
    split
    · rfl
    · rfl
    · exact h.1
    · exact h.2
  · intro v' w' h1 h2 _
    rcases h1.2 with ⟨_, h3⟩ | ⟨g, cap, cur, rfl, _⟩
    · omega
    · rw [List.nil_append] at h1
      have h4 : OwnV 40 4 w' B (.slice (some ⟨g, 0, none⟩) (0 + ts.length) cap) (0 + ts.length) (rawT ts VB VL) := h1
      rw [Nat.zero_add] at h4 ⊢
      exact hK g cap w' h4 h2
/-- Task i gets longer. -/
def longT (ts : List Tk) (i : Nat) (by_ : Int) : List Tk := ts.set i ((tkN ts i).1 + by_, (tkN ts i).2)
theorem longT_len (ts : List Tk) (i : Nat) (x : Int) : (longT ts i x).length = ts.length := by simp [longT]
theorem longT_at {ts : List Tk} {i : Nat} (x : Int) (hi : i < ts.length) (j : Nat) : tkN (longT ts i x) j = if i = j then ((tkN ts i).1 + x, (tkN ts i).2) else tkN ts j := by
  unfold longT
  conv => lhs; unfold tkN
  rw [List.getD_eq_getElem?_getD, List.getElem?_set]
  split
  · first
      | rfl
      | (rw [if_pos (by omega)]; rfl)
  · unfold tkN; rw [List.getD_eq_getElem?_getD]
theorem longT_raw {ts : List Tk} {i : Nat} (x : Int) (hi : i < ts.length) (VB VL : Nat → Value) : (rawT ts VB VL).set (i * 4) (.int .i64 (timeN ts i + x)) = rawT (longT ts i x) VB VL := by
  apply List.ext_getElem?
  intro q
  rw [List.getElem?_set, rawT_len]
  by_cases hq : q < ts.length * 4
  · have h1 := rawT_at (VB := VB) (VL := VL) (ts := ts) (i := q / 4) (j := q % 4) (by omega) (by omega)
    have h2 := rawT_at (VB := VB) (VL := VL) (ts := longT ts i x) (i := q / 4) (j := q % 4) (by rw [longT_len]; omega) (by omega)
    rw [show q / 4 * 4 + q % 4 = q by omega] at h1 h2
    rw [h2]
    split
    · rename_i e
      subst e
      rw [if_pos (by omega)]
      have e1 : i * 4 / 4 = i := by omega
      have e2 : i * 4 % 4 = 0 := by omega
      rw [e1, e2]
      unfold cellT timeN
      rw [longT_at x hi, if_pos rfl]
      rfl
    · rename_i e
      rw [h1]
      congr 1
      unfold cellT timeN needN
      rw [longT_at x hi]
      split
      · split
        · exfalso; omega
        · rfl
      · split
        · rename_i e3; subst e3; rfl
        · rfl
      · rfl
      · rfl
  · rw [if_neg (by omega), List.getElem?_eq_none (by rw [rawT_len]; omega), List.getElem?_eq_none (by rw [rawT_len, longT_len]; omega)]
/-- The copy reads as tasks. -/
theorem rawT_reads {w W : World} {b o N M : Nat} {ts us : List Tk} {VB VL : Nat → Value} {v : Value} (h : ∀ i, i < ts.length → TkSrc w b o ts VB VL i) (hb : Below w.heap.size w W) (hl : us.length = ts.length) (hm : ts.length ≤ maxLen)
    (hu : ∀ i, i < ts.length → befN us i = befN ts i ∧ lagN us i = lagN ts i ∧ (Lit.int .i64 (timeN us i)).wf = true ∧ (Lit.int .i64 (needN us i)).wf = true)
    (hv : OwnV 40 4 W N v ts.length (rawT us VB VL)) (h0 : 0 < ts.length) : TasksR W v us := by
  rcases hv.2 with ⟨_, h1⟩ | ⟨g, cap, cur, rfl, hg, hbk, hc⟩
  · omega
  refine ⟨by rw [hl]; exact hm, _, cap, by rw [hl], by rw [hl]; exact hc.1, fun i hi => ?_⟩
  have hi' : i < ts.length := by omega
  have hs := h i hi'
  obtain ⟨e1, e2, w1, w2⟩ := hu i hi'
  have hr : us[i] = tkN us i := (tkN_eq hi).symm
  refine ⟨g, 0, [.int .i64 (timeN us i), .int .i64 (needN us i), VB i, VL i], rfl, (hv.lt g rfl).2, ?_, fun j hj => ?_⟩
  · rw [hr]
    exact task_cells.2 ⟨VB i, VL i, rfl, w1, w2, by rw [show (tkN us i).2.2.1 = befN us i from rfl, e1]; exact hs.bef.below hb (Nat.le_refl _), by rw [show (tkN us i).2.2.2 = lagN us i from rfl, e2]; exact hs.lag.below hb (Nat.le_refl _)⟩
  · have hj4 : j < 4 := hj
    have hv' : OwnV 40 4 W N (.slice (some ⟨g, 0, none⟩) ts.length cap) ts.length (rawT us VB VL) := hv
    have h5 := (hv'.store (i * 4 + j) (by rw [rawT_len]; omega) (.bool true)).1
    have h6 := rawT_at (VB := VB) (VL := VL) (ts := us) (i := i) (j := j) hi hj4
    rw [List.getElem?_eq_getElem (by rw [rawT_len]; omega)] at h6
    rw [Nat.zero_add]
    show W.cell? ⟨g, i * 4 + j, none⟩ = _
    rw [h5, h6]
    clear h5 h6
    rcases j with _ | _ | _ | _ | j
    · rfl
    · rfl
    · rfl
    · rfl
    · omega
end Go.Proofs.Ytcjeededlhdcbaa
