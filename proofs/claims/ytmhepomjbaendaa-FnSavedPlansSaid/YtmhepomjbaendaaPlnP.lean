
/- Taking a saved plan apart: the plain law. Conditions: none. -/
import Derived.Test.YtmhepomjbaendaaStoreP
import Derived.Lib.Strings
namespace Go.Proofs.Ytmhepomjbaendaa
open Go.RowKit
set_option linter.unusedVariables false
set_option linter.unusedSimpArgs false

abbrev St := Nat × Bool
def bt (s : ByteArray) (i : Nat) : Int := ((s.data.toList.getD i 0).toNat : Int)
def nx (s : ByteArray) (n : Nat) (st : St) : St := if s.size < st.1 + n then (st.1, true) else (st.1 + n, st.2)
def zerosB (n : Nat) : ByteArray := ⟨(List.replicate n (0 : UInt8)).toArray⟩
def tkS (s : ByteArray) (n : Nat) (st : St) : ByteArray := if s.size < st.1 + n then zerosB n else s.extract st.1 (st.1 + n)
def byV (s : ByteArray) (st : St) : Int := if s.size < st.1 + 1 then 0 else bt s st.1
def twV (s : ByteArray) (st : St) : Int := if s.size < st.1 + 2 then 0 else bt s st.1 + 256 * bt s (st.1 + 1)
theorem bt_win (s : ByteArray) (i : Nat) : 0 ≤ bt s i ∧ bt s i ≤ 255 := by
  unfold bt
  have := (s.data.toList.getD i 0).toNat_lt
  omega
theorem byV_win (s : ByteArray) (st : St) : 0 ≤ byV s st ∧ byV s st ≤ 255 := by
  unfold byV
  split
  · omega
  · exact bt_win s _
theorem twV_win (s : ByteArray) (st : St) : 0 ≤ twV s st ∧ twV s st ≤ 65535 := by
  unfold twV
  split
  · omega
  · have := bt_win s st.1; have := bt_win s (st.1 + 1); omega
theorem nx_le {s : ByteArray} {n : Nat} {st : St} (h : st.1 ≤ s.size) : (nx s n st).1 ≤ s.size := by
  unfold nx
  split
  · exact h
  · show st.1 + n ≤ s.size; omega
theorem nx_yes {s : ByteArray} {n : Nat} {st : St} (h : st.1 + n ≤ s.size) : nx s n st = (st.1 + n, st.2) := by
  unfold nx; rw [if_neg (by omega)]
theorem byV_yes {s : ByteArray} {st : St} (h : st.1 + 1 ≤ s.size) : byV s st = bt s st.1 := by unfold byV; rw [if_neg (by omega)]
theorem twV_yes {s : ByteArray} {st : St} (h : st.1 + 2 ≤ s.size) : twV s st = bt s st.1 + 256 * bt s (st.1 + 1) := by unfold twV; rw [if_neg (by omega)]
/-- k pairs. -/
def prs (s : ByteArray) (st : St) : Nat → (List Int × List Int) × St
  | 0 => (([], []), st)
  | k + 1 => (((prs s st k).1.1 ++ [byV s (prs s st k).2], (prs s st k).1.2 ++ [byV s (nx s 1 (prs s st k).2) - 100]), nx s 1 (nx s 1 (prs s st k).2))
/-- k tasks. -/
def tsk (s : ByteArray) (st : St) : Nat → List Tk × St
  | 0 => ([], st)
  | k + 1 =>
    ((tsk s st k).1 ++ [(byV s (tsk s st k).2, byV s (nx s 1 (tsk s st k).2), (prs s (nx s 1 (nx s 1 (nx s 1 (tsk s st k).2))) (byV s (nx s 1 (nx s 1 (tsk s st k).2))).toNat).1)],
      (prs s (nx s 1 (nx s 1 (nx s 1 (tsk s st k).2))) (byV s (nx s 1 (nx s 1 (tsk s st k).2))).toNat).2)
/-- k starts. -/
def sts (s : ByteArray) (st : St) : Nat → List Int × St
  | 0 => ([], st)
  | k + 1 => ((sts s st k).1 ++ [twV s (sts s st k).2], nx s 2 (sts s st k).2)
def st1 (s : ByteArray) : St := nx s 4 (0, false)
def nmL (s : ByteArray) : Nat := (byV s (st1 s)).toNat
def st2 (s : ByteArray) : St := nx s 1 (st1 s)
def nmS (s : ByteArray) : ByteArray := tkS s (nmL s) (st2 s)
def st3 (s : ByteArray) : St := nx s (nmL s) (st2 s)
def cnt (s : ByteArray) : Nat := (byV s (st3 s)).toNat
def st4 (s : ByteArray) : St := nx s 1 (st3 s)
def planT (s : ByteArray) : List Tk := (tsk s (st4 s) (cnt s)).1
def st5 (s : ByteArray) : St := (tsk s (st4 s) (cnt s)).2
def planS (s : ByteArray) : List Int := (sts s (st5 s) (cnt s)).1
def st6 (s : ByteArray) : St := (sts s (st5 s) (cnt s)).2
def st7 (s : ByteArray) : St := nx s 2 (st6 s)
def plan (s : ByteArray) : Sv := (nmS s, planT s, planS s)
/-- What is taken in front of a text, and how many bytes. -/
def gotB (s : ByteArray) : Bool := !(st7 s).2 && savedOk (plan s) && decide (storeS (plan s) = s.extract 0 (st7 s).1)
def gotN (s : ByteArray) : Nat := if gotB s then (st7 s).1 else 0
def gotX (s : ByteArray) : Sv := if gotB s then plan s else (ByteArray.empty, [], [])

theorem prs_le {s : ByteArray} {st : St} (h : st.1 ≤ s.size) : ∀ k, (prs s st k).2.1 ≤ s.size
  | 0 => h
  | k + 1 => nx_le (nx_le (prs_le h k))
theorem tsk_le {s : ByteArray} {st : St} (h : st.1 ≤ s.size) : ∀ k, (tsk s st k).2.1 ≤ s.size
  | 0 => h
  | k + 1 => prs_le (nx_le (nx_le (nx_le (tsk_le h k)))) _
theorem sts_le {s : ByteArray} {st : St} (h : st.1 ≤ s.size) : ∀ k, (sts s st k).2.1 ≤ s.size
  | 0 => h
  | k + 1 => nx_le (sts_le h k)
theorem prs_len (s : ByteArray) (st : St) : ∀ k, (prs s st k).1.1.length = k ∧ (prs s st k).1.2.length = k
  | 0 => ⟨rfl, rfl⟩
  | k + 1 => by
    have := prs_len s st k
    simp only [prs, List.length_append, List.length_cons, List.length_nil]
    omega
theorem tsk_len (s : ByteArray) (st : St) : ∀ k, (tsk s st k).1.length = k
  | 0 => rfl
  | k + 1 => by
    have := tsk_len s st k
    simp only [tsk, List.length_append, List.length_cons, List.length_nil]
    omega
theorem sts_len (s : ByteArray) (st : St) : ∀ k, (sts s st k).1.length = k
  | 0 => rfl
  | k + 1 => by
    have := sts_len s st k
    simp only [sts, List.length_append, List.length_cons, List.length_nil]
    omega

/-! What is stored is taken as it was. -/
/-- From place i on the text has the numbers l. -/
def Rd (s : ByteArray) (i : Nat) (l : List Int) : Prop := i + l.length ≤ s.size ∧ ∀ j, j < l.length → bt s (i + j) = nth l j
theorem nth_app1 {a b : List Int} {j : Nat} (h : j < a.length) : nth (a ++ b) j = nth a j := by
  rw [nth_eq (by rw [List.length_append]; omega), nth_eq h, List.getElem_append_left h]
theorem nth_app2 {a b : List Int} {j : Nat} (h : j < b.length) : nth (a ++ b) (a.length + j) = nth b j := by
  rw [nth_eq (by rw [List.length_append]; omega), nth_eq h, List.getElem_append_right (by omega)]
  congr 1; omega
theorem Rd.left {s : ByteArray} {i : Nat} {a b : List Int} (h : Rd s i (a ++ b)) : Rd s i a :=
  ⟨by have := h.1; rw [List.length_append] at this; omega, fun j hj => by rw [h.2 j (by rw [List.length_append]; omega), nth_app1 hj]⟩
theorem Rd.right {s : ByteArray} {i : Nat} {a b : List Int} (h : Rd s i (a ++ b)) : Rd s (i + a.length) b :=
  ⟨by have := h.1; rw [List.length_append] at this; omega, fun j hj => by
    have := h.2 (a.length + j) (by rw [List.length_append]; omega)
    rw [nth_app2 hj, ← Nat.add_assoc] at this
    exact this⟩
theorem Rd.one {s : ByteArray} {i : Nat} {x : Int} {b : List Int} (h : Rd s i (x :: b)) : i + 1 ≤ s.size ∧ bt s i = x ∧ Rd s (i + 1) b := by
  have h1 : Rd s i ([x] ++ b) := h
  have h2 := h1.left
  have h3 := h2.1
  have h4 := h2.2 0 (by simp)
  rw [Nat.add_zero] at h4
  exact ⟨by simpa using h3, by rw [h4]; rfl, h1.right⟩
theorem prs_ok {s : ByteArray} {i : Nat} {b : Bool} {bs ls : List Int} (hb : ∀ k, k < bs.length → 0 ≤ nth bs k ∧ nth bs k ≤ 255) (hl : ∀ k, k < ls.length → -100 ≤ nth ls k ∧ nth ls k ≤ 100) (he : bs.length = ls.length) :
    ∀ m, m ≤ bs.length → Rd s i (pairTo bs ls m) → prs s (i, b) m = ((bs.take m, ls.take m), (i + 2 * m, b))
  | 0, _, _ => by simp [prs]
  | m + 1, hm, h => by
    rw [pairTo_succ] at h
    have ih := prs_ok (b := b) hb hl he m (by omega) h.left
    have h2 := h.right
    rw [pairTo_len] at h2
    obtain ⟨a1, a2, a3⟩ := h2.one
    obtain ⟨c1, c2, _⟩ := a3.one
    have hb1 := hb m (by omega)
    have hl1 := hl m (by omega)
    simp only [prs, ih]
    rw [byV_yes a1, nx_yes a1, byV_yes c1, nx_yes c1]
    show ((_ ++ [bt s (i + 2 * m)], _ ++ [bt s (i + 2 * m + 1) - 100]), _) = _
    rw [a2, c2, List.take_succ_eq_append_getElem (show m < bs.length by omega), List.take_succ_eq_append_getElem (show m < ls.length by omega)]
    rw [nth_eq (show m < bs.length by omega)] at hb1 ⊢
    rw [nth_eq (show m < ls.length by omega)] at hl1 ⊢
    rw [Int.emod_eq_of_lt (by omega) (by omega), Int.emod_eq_of_lt (by omega) (by omega)]
    simp only [Prod.mk.injEq, List.append_cancel_left_eq, List.cons.injEq, and_true, true_and]
    omega
/-- What may be stored in bytes. -/
def TkB (x : Tk) : Prop := 0 ≤ x.1 ∧ x.1 ≤ 255 ∧ 0 ≤ x.2.1 ∧ x.2.1 ≤ 255 ∧ x.2.2.1.length ≤ 255 ∧ x.2.2.1.length = x.2.2.2.length ∧ (∀ k, k < x.2.2.1.length → 0 ≤ nth x.2.2.1 k ∧ nth x.2.2.1 k ≤ 255) ∧ (∀ k, k < x.2.2.2.length → -100 ≤ nth x.2.2.2 k ∧ nth x.2.2.2 k ≤ 100)
theorem tsk_ok {s : ByteArray} {i : Nat} {b : Bool} {ts : List Tk} (ht : ∀ k (h : k < ts.length), TkB ts[k]) :
    ∀ m, m ≤ ts.length → Rd s i (tasksB ts m) → tsk s (i, b) m = (ts.take m, (i + (tasksB ts m).length, b))
  | 0, _, _ => by simp [tsk, tasksB]
  | m + 1, hm, h => by
    have hml : m < ts.length := by omega
    rw [tasksB_succ ts m hml] at h
    have ih := tsk_ok (b := b) ht m (by omega) h.left
    have h2 := h.right
    obtain ⟨t1, t2, t3, t4, t5, t6, t7, t8⟩ := ht m hml
    obtain ⟨x, hx⟩ : ∃ x, ts[m] = x := ⟨_, rfl⟩
    rw [hx] at h2 t1 t2 t3 t4 t5 t6 t7 t8
    obtain ⟨x0, x1, bs, ls⟩ := x
    unfold taskB taskH at h2
    simp only [List.cons_append, List.nil_append] at h2
    obtain ⟨p1, p2, p3⟩ := h2.one
    obtain ⟨q1, q2, q3⟩ := p3.one
    obtain ⟨r1, r2, r3⟩ := q3.one
    simp only at t1 t2 t3 t4 t5 t6 t7 t8 r2 r3 p2 q2
    rw [Int.emod_eq_of_lt (by omega) (by omega)] at p2 q2 r2
    have hp := prs_ok (b := b) (s := s) (i := i + (tasksB ts m).length + 1 + 1 + 1) t7 t8 t6 bs.length (Nat.le_refl _) r3
    have hc : (bt s (i + (tasksB ts m).length + 1 + 1)).toNat = bs.length := by rw [r2]; simp
    have n1 : nx s 1 (i + (tasksB ts m).length, b) = (i + (tasksB ts m).length + 1, b) := nx_yes p1
    have n2 : nx s 1 (i + (tasksB ts m).length + 1, b) = (i + (tasksB ts m).length + 1 + 1, b) := nx_yes q1
    have n3 : nx s 1 (i + (tasksB ts m).length + 1 + 1, b) = (i + (tasksB ts m).length + 1 + 1 + 1, b) := nx_yes r1
    have v1 : byV s (i + (tasksB ts m).length, b) = x0 := (byV_yes p1).trans p2
    have v2 : byV s (i + (tasksB ts m).length + 1, b) = x1 := (byV_yes q1).trans q2
    have v3 : byV s (i + (tasksB ts m).length + 1 + 1, b) = bt s (i + (tasksB ts m).length + 1 + 1) := byV_yes r1
    simp only [tsk, ih, n1, n2, n3, v1, v2, v3, hc, hp, List.take_length]
    have hls : ls.take bs.length = ls := by rw [t6, List.take_length]
    rw [hls, List.take_succ_eq_append_getElem hml, hx, tasksB_succ ts m hml, List.length_append, hx, taskB_len]
    simp only [Prod.mk.injEq, true_and]
    exact ⟨by omega, trivial⟩
theorem sts_ok {s : ByteArray} {i : Nat} {b : Bool} {st : List Int} (ht : ∀ k, k < st.length → 0 ≤ nth st k ∧ nth st k ≤ 65535) :
    ∀ m, m ≤ st.length → Rd s i (startsB st m) → sts s (i, b) m = (st.take m, (i + 2 * m, b))
  | 0, _, _ => by simp [sts]
  | m + 1, hm, h => by
    rw [startsB_succ] at h
    have ih := sts_ok (b := b) ht m (by omega) h.left
    have h2 := h.right
    rw [startsB_len] at h2
    obtain ⟨a1, a2, a3⟩ := h2.one
    obtain ⟨c1, c2, _⟩ := a3.one
    have hb1 := ht m (by omega)
    simp only [sts, ih]
    rw [twV_yes (show (i + 2 * m, b).1 + 2 ≤ s.size by show i + 2 * m + 2 ≤ s.size; omega), nx_yes (show (i + 2 * m, b).1 + 2 ≤ s.size by show i + 2 * m + 2 ≤ s.size; omega)]
    simp only
    rw [a2, c2, List.take_succ_eq_append_getElem (show m < st.length by omega)]
    rw [nth_eq (show m < st.length by omega)] at hb1 ⊢
    simp only [Prod.mk.injEq, List.append_cancel_left_eq, List.cons.injEq, and_true]
    omega

def B255 (l : List Int) : Prop := ∀ j, j < l.length → 0 ≤ nth l j ∧ nth l j ≤ 255
theorem B255.mem {l : List Int} (h : ∀ x ∈ l, 0 ≤ x ∧ x ≤ 255) : B255 l := fun j hj => by rw [nth_eq hj]; exact h _ (List.getElem_mem hj)
theorem bytes_eq {a b : ByteArray} (h : a.data.toList = b.data.toList) : a = b := by
  cases a; cases b
  simp at h
  rw [h]
theorem nums_bytes (L : List Int) : (strOfNums L).data.toList = L.map fun n => UInt8.ofNat n.toNat := rfl
theorem ext_data (s : ByteArray) (f i : Nat) : (s.extract f i).data.toList = (s.data.toList.drop f).take (i - f) := Lib.extract_data s f i
theorem rd_of {s : ByteArray} {L : List Int} (hL : B255 L) (h : s.extract 0 L.length = strOfNums L) : Rd s 0 L := by
  have h1 := congrArg (fun z : ByteArray => z.data.toList) h
  simp only [ext_data, nums_bytes, List.drop_zero, Nat.sub_zero] at h1
  have h2 := congrArg List.length h1
  rw [List.length_take, List.length_map] at h2
  have h3 : s.data.toList.length = s.size := (Lib.size_eq s).symm
  refine ⟨by omega, fun j hj => ?_⟩
  have h4 := congrArg (fun l : List UInt8 => l[j]?) h1
  simp only [List.getElem?_take, hj, if_true, List.getElem?_map, List.getElem?_eq_getElem hj, Option.map_some] at h4
  obtain ⟨b0, b1⟩ := hL j hj
  rw [nth_eq hj] at b0 b1 ⊢
  unfold bt
  rw [Nat.zero_add, List.getD_eq_getElem?_getD, h4]
  show ((UInt8.ofNat (L[j]).toNat).toNat : Int) = L[j]
  rw [UInt8.toNat_ofNat']
  omega
theorem bef_ge {i : Int} {bs : List Int} : ∀ m, m ≤ bs.length → befTo i bs m = true → ∀ k, k < m → (k : Int) ≤ nth bs k ∧ nth bs k ≤ i - 1
  | 0, _, _, k, hk => by omega
  | m + 1, hm, h, k, hk => by
    rw [befTo_succ, Bool.and_eq_true] at h
    rcases Nat.lt_succ_iff_lt_or_eq.1 hk with h1 | rfl
    · exact bef_ge m (by omega) h.1 k h1
    · have h2 := h.2
      unfold befAt at h2
      simp only [Bool.and_eq_true, Bool.or_eq_true, decide_eq_true_eq] at h2
      have h3 := win_true.1 h2.1
      refine ⟨?_, h3.2⟩
      rcases Nat.eq_zero_or_pos k with h4 | h4
      · subst h4; exact h3.1
      · have h5 := (bef_ge k (by omega) h.1 (k - 1) (by omega)).1
        rcases h2.2 with h6 | h6
        · have h7 : k = 0 := by simpa using h6
          omega
        · have h8 : nth bs (k - 1) < nth bs k := by simpa using h6
          omega
theorem saved_tkB {x : Sv} (hx : savedOk x = true) : ∀ k (h : k < x.2.1.length), TkB x.2.1[k] := by
  obtain ⟨nm, ts, st⟩ := x
  have hb := saved_bounds hx
  intro k hk
  have hk : k < ts.length := hk
  show TkB ts[k]
  unfold savedOk at hx
  simp only [Bool.and_eq_true] at hx
  have h2 := hx.1.2
  unfold tasksOk at h2
  simp only [Bool.and_eq_true, decide_eq_true_eq, List.all_eq_true, List.mem_range] at h2
  have h3 := h2.1.1 k hk
  rw [tkAt_eq hk] at h3
  unfold taskOk taskHead at h3
  simp only [Bool.and_eq_true, decide_eq_true_eq] at h3
  have w1 := win_true.1 h3.1.1.1.1
  have w2 := win_true.1 h3.1.1.1.2
  have h4 := bef_ge _ (Nat.le_refl _) h3.2
  have h5 := (hb.2.2.2.2.1 k hk).2
  have hlen : ts[k].2.2.1.length ≤ 16 := by
    by_cases h0 : ts[k].2.2.1.length = 0
    · omega
    · have := h4 (ts[k].2.2.1.length - 1) (by omega)
      have := hb.2.2.1
      omega
  refine ⟨w1.1, by omega, w2.1, by omega, by omega, h3.1.1.2, fun j hj => ?_, h5⟩
  have := h4 j hj
  have := hb.2.2.1
  exact ⟨by omega, by omega⟩
theorem m255 (n : Int) : 0 ≤ n % 256 ∧ n % 256 ≤ 255 := by omega
theorem store_255 {x : Sv} (hx : savedOk x = true) : B255 (storeB x) := by
  obtain ⟨nm, ts, st⟩ := x
  have hb := saved_bounds hx
  obtain ⟨b1, b2, b3, b4, _, b6⟩ := hb
  refine B255.mem fun y hy => ?_
  unfold storeB bodyB headB head1 at hy
  simp only [List.mem_append, List.mem_cons, List.not_mem_nil, or_false] at hy
  have hc := chk_win (n := 0) (by omega) (by omega) (strOfNums (bodyB (nm, ts, st)))
  unfold bodyB headB head1 at hc
  rcases hy with (((h | h) | h) | h) | h
  · rcases h with (h | h | h | h | h) | h
    · omega
    · omega
    · omega
    · omega
    · omega
    · unfold chs at h
      obtain ⟨b, _, rfl⟩ := List.mem_map.1 h
      have := b.toNat_lt
      omega
  · omega
  · unfold tasksB at h
    rw [List.mem_flatMap] at h
    obtain ⟨t, _, h⟩ := h
    unfold taskB taskH pairTo at h
    simp only [List.mem_append, List.mem_cons, List.not_mem_nil, or_false, List.mem_flatMap, List.mem_range] at h
    rcases h with (h | h | h) | ⟨k, _, h | h⟩
    all_goals rw [h]; exact m255 _
  · unfold startsB at h
    simp only [List.mem_flatMap, List.mem_range, List.mem_cons, List.not_mem_nil, or_false] at h
    obtain ⟨k, hk, h | h⟩ := h
    · rw [h]; exact m255 _
    · have := b6 k hk
      omega
  · rcases h with h | h
    · rw [h]; exact m255 _
    · rw [h]
      obtain ⟨C, hC⟩ : ∃ C, chk 0 (strOfNums ([80, 76, 78, 49, (nm.size : Int)] ++ chs nm ++ [(ts.length : Int)] ++ tasksB ts ts.length ++ startsB st st.length)) = C := ⟨_, rfl⟩
      rw [hC] at hc ⊢
      omega
theorem storeS_len (x : Sv) : (storeS x).size = (storeB x).length := by
  unfold storeS
  rw [Lib.size_eq, nums_bytes, List.length_map]
theorem plan_ok {s : ByteArray} {x : Sv} (hx : savedOk x = true) (h : s.extract 0 (storeS x).size = storeS x) : plan s = x ∧ st7 s = ((storeS x).size, false) := by
  rw [storeS_len] at h ⊢
  have hr := rd_of (store_255 hx) h
  have hb := saved_bounds (s := x.1) (ts := x.2.1) (st := x.2.2) hx
  have htk := saved_tkB hx
  obtain ⟨nm, ts, st⟩ := x
  obtain ⟨b1, b2, b3, b4, _, b6⟩ := hb
  simp only at b1 b2 b3 b4 b6 htk
  have hl : (storeB (nm, ts, st)).length = nm.size + 6 + (tasksB ts ts.length).length + 2 * st.length + 2 := by
    unfold storeB bodyB
    simp only [List.length_append, headB_len, startsB_len, List.length_cons, List.length_nil]
  have hbl : (bodyB (nm, ts, st)).length = nm.size + 6 + (tasksB ts ts.length).length + 2 * st.length := by
    unfold bodyB
    simp only [List.length_append, headB_len, startsB_len]
  unfold storeB at hr
  have hbody := hr.left
  have hend := hr.right
  unfold bodyB at hbody
  have hst := hbody.right
  have hht := hbody.left
  have hts := hht.right
  have hh := hht.left
  unfold headB at hh
  have hcnt := hh.right
  have hh1 := hh.left.right
  have hh0 := hh.left.left
  simp only [head1, List.length_append, chs_length, List.length_cons, List.length_nil, headB_len, Nat.zero_add] at hcnt hh1 hh0 hts hst hend
  obtain ⟨_, _, g1⟩ := hh0.one
  obtain ⟨_, _, g2⟩ := g1.one
  obtain ⟨_, _, g3⟩ := g2.one
  obtain ⟨_, _, g4⟩ := g3.one
  obtain ⟨g5, g6, _⟩ := g4.one
  simp only [Nat.zero_add, Nat.reduceAdd] at g5 g6 hcnt hh1
  have e1 : st1 s = (4, false) := nx_yes (st := (0, false)) (by show 0 + 4 ≤ s.size; omega)
  have e2 : nmL s = nm.size := by
    unfold nmL
    rw [e1, byV_yes (st := (4, false)) g5]
    show (bt s 4).toNat = _
    rw [g6]; simp
  have e3 : st2 s = (5, false) := by unfold st2; rw [e1]; exact nx_yes (st := (4, false)) g5
  have hn1 : 5 + nm.size ≤ s.size := by have := hh1.1; rw [chs_length] at this; exact this
  have e4 : nmS s = nm := by
    unfold nmS
    rw [e2, e3]
    unfold tkS
    rw [if_neg (by show ¬ s.size < 5 + nm.size; omega)]
    refine bytes_eq ?_
    rw [ext_data]
    refine List.ext_getElem? fun j => ?_
    rw [List.getElem?_take]
    have hsz : nm.data.toList.length = nm.size := (Lib.size_eq nm).symm
    have hss : s.data.toList.length = s.size := (Lib.size_eq s).symm
    by_cases hj : j < nm.size
    · rw [if_pos (by show j < 5 + nm.size - 5; omega), List.getElem?_drop]
      have h5 := hh1.2 j (by rw [chs_length]; exact hj)
      rw [nth_eq (by rw [chs_length]; exact hj)] at h5
      unfold chs bt at h5
      rw [List.getElem_map, List.getD_eq_getElem?_getD, List.getElem?_eq_getElem (by omega)] at h5
      rw [List.getElem?_eq_getElem (show 5 + j < _ by omega), List.getElem?_eq_getElem (show j < _ by omega)]
      congr 1
      refine UInt8.toNat_inj.1 ?_
      simp only [Option.getD_some] at h5
      omega
    · rw [if_neg (by show ¬ j < 5 + nm.size - 5; omega)]
      symm
      exact List.getElem?_eq_none (by omega)
  have e5 : st3 s = (5 + nm.size, false) := by unfold st3; rw [e2, e3]; exact nx_yes (st := (5, false)) hn1
  obtain ⟨c1, c2, _⟩ := hcnt.one
  have e6 : cnt s = ts.length := by
    unfold cnt
    rw [e5, byV_yes (st := (5 + nm.size, false)) c1]
    show (bt s (5 + nm.size)).toNat = _
    rw [c2]; simp
  have e7 : st4 s = (5 + nm.size + 1, false) := by unfold st4; rw [e5]; exact nx_yes (st := (5 + nm.size, false)) c1
  have f1 := tsk_ok (s := s) (i := 5 + nm.size + 1) (b := false) htk ts.length (Nat.le_refl _) (by rw [show 5 + nm.size + 1 = nm.size + 6 by omega]; exact hts)
  have f2 := sts_ok (b := false) b6 st.length (Nat.le_refl _) hst
  have e8 : tsk s (st4 s) (cnt s) = (ts, (nm.size + 6 + (tasksB ts ts.length).length, false)) := by
    rw [e6, e7, f1, List.take_length]
    congr 2; omega
  have e9 : st5 s = (nm.size + 6 + (tasksB ts ts.length).length, false) := by unfold st5; rw [e8]
  have e10 : sts s (st5 s) (cnt s) = (st, (nm.size + 6 + (tasksB ts ts.length).length + 2 * st.length, false)) := by
    have f4 := f2
    rw [List.take_length, b4] at f4
    rw [e6, e9, b4]
    exact f4
  refine ⟨?_, ?_⟩
  · unfold plan planT planS
    rw [e4, e8, e10]
  · unfold st7 st6
    rw [e10, nx_yes (st := (_, false)) (by have h9 := hend.1; rw [hbl] at h9; exact h9), hl]
theorem got_ok {s : ByteArray} {x : Sv} (hx : savedOk x = true) (h : s.extract 0 (storeS x).size = storeS x) : gotB s = true ∧ gotX s = x ∧ gotN s = (storeS x).size := by
  obtain ⟨h1, h2⟩ := plan_ok hx h
  have h3 : gotB s = true := by
    unfold gotB
    rw [h1, h2, hx, decide_eq_true h.symm]; rfl
  refine ⟨h3, ?_, ?_⟩
  · unfold gotX; rw [if_pos h3, h1]
  · unfold gotN; rw [if_pos h3, h2]
theorem got_sound {s : ByteArray} (h : gotB s = true) : savedOk (gotX s) = true ∧ storeS (gotX s) = s.extract 0 (gotN s) ∧ gotN s = (storeS (gotX s)).size := by
  have h0 := h
  unfold gotB at h
  simp only [Bool.and_eq_true, decide_eq_true_eq, Bool.not_eq_true'] at h
  have e1 : gotX s = plan s := by unfold gotX; rw [if_pos h0]
  have e2 : gotN s = (st7 s).1 := by unfold gotN; rw [if_pos h0]
  have hle : (st7 s).1 ≤ s.size := nx_le (sts_le (tsk_le (nx_le (nx_le (nx_le (nx_le (Nat.zero_le _))))) _) _)
  rw [e1, e2]
  refine ⟨h.1.2, h.2, ?_⟩
  rw [h.2, Lib.size_eq, ext_data, List.length_take, List.drop_zero, ← Lib.size_eq]
  omega
/-- What is read is small. -/
def TkW (x : Tk) : Prop := (0 ≤ x.1 ∧ x.1 ≤ 255) ∧ (0 ≤ x.2.1 ∧ x.2.1 ≤ 255) ∧ (∀ n ∈ x.2.2.1, 0 ≤ n ∧ n ≤ 255) ∧ (∀ n ∈ x.2.2.2, -100 ≤ n ∧ n ≤ 155) ∧ x.2.2.1.length ≤ 255
theorem prs_mem (s : ByteArray) (st : St) : ∀ k, (∀ n ∈ (prs s st k).1.1, 0 ≤ n ∧ n ≤ 255) ∧ (∀ n ∈ (prs s st k).1.2, -100 ≤ n ∧ n ≤ 155)
  | 0 => ⟨fun n h => by simp [prs] at h, fun n h => by simp [prs] at h⟩
  | k + 1 => by
    have ih := prs_mem s st k
    have h1 := byV_win s (prs s st k).2
    have h2 := byV_win s (nx s 1 (prs s st k).2)
    constructor
    · intro n h
      simp only [prs, List.mem_append, List.mem_singleton] at h
      rcases h with h | h
      · exact ih.1 n h
      · rw [h]; exact h1
    · intro n h
      simp only [prs, List.mem_append, List.mem_singleton] at h
      rcases h with h | h
      · exact ih.2 n h
      · rw [h]; omega
theorem tsk_mem (s : ByteArray) (st : St) : ∀ k, ∀ x ∈ (tsk s st k).1, TkW x
  | 0, x, h => by simp [tsk] at h
  | k + 1, x, h => by
    simp only [tsk, List.mem_append, List.mem_singleton] at h
    rcases h with h | h
    · exact tsk_mem s st k x h
    · rw [h]
      have hp := prs_mem s (nx s 1 (nx s 1 (nx s 1 (tsk s st k).2))) (byV s (nx s 1 (nx s 1 (tsk s st k).2))).toNat
      have hl := (prs_len s (nx s 1 (nx s 1 (nx s 1 (tsk s st k).2))) (byV s (nx s 1 (nx s 1 (tsk s st k).2))).toNat).1
      have hb := byV_win s (nx s 1 (nx s 1 (tsk s st k).2))
      refine ⟨byV_win _ _, byV_win _ _, hp.1, hp.2, ?_⟩
      show List.length _ ≤ 255
      rw [hl]; omega
theorem sts_mem (s : ByteArray) (st : St) : ∀ k, ∀ n ∈ (sts s st k).1, 0 ≤ n ∧ n ≤ 65535
  | 0, n, h => by simp [sts] at h
  | k + 1, n, h => by
    simp only [sts, List.mem_append, List.mem_singleton] at h
    rcases h with h | h
    · exact sts_mem s st k n h
    · rw [h]; exact twV_win _ _
theorem nmL_cast (s : ByteArray) : byV s (st1 s) = (nmL s : Int) ∧ nmL s ≤ 255 := by
  have := byV_win s (st1 s)
  unfold nmL
  omega
theorem cnt_cast (s : ByteArray) : byV s (st3 s) = (cnt s : Int) ∧ cnt s ≤ 255 := by
  have := byV_win s (st3 s)
  unfold cnt
  omega
theorem st1_le (s : ByteArray) : (st1 s).1 ≤ s.size := nx_le (Nat.zero_le _)
theorem st2_le (s : ByteArray) : (st2 s).1 ≤ s.size := nx_le (st1_le s)
theorem st3_le (s : ByteArray) : (st3 s).1 ≤ s.size := nx_le (st2_le s)
theorem st4_le (s : ByteArray) : (st4 s).1 ≤ s.size := nx_le (st3_le s)
theorem st5_le (s : ByteArray) : (st5 s).1 ≤ s.size := tsk_le (st4_le s) _
theorem st6_le (s : ByteArray) : (st6 s).1 ≤ s.size := sts_le (st5_le s) _
theorem st7_le (s : ByteArray) : (st7 s).1 ≤ s.size := nx_le (st6_le s)
theorem got_mark {s : ByteArray} (h : gotB s = true) : (tkS s 4 (0, false)).toList = [80, 76, 78, 49] := by
  obtain ⟨h1, h2, h3⟩ := got_sound h
  rw [h3, storeS_len] at h2
  have hr := rd_of (store_255 h1) h2.symm
  unfold storeB bodyB headB head1 at hr
  simp only [List.cons_append, List.nil_append] at hr
  obtain ⟨a1, b1, r1⟩ := hr.one
  obtain ⟨a2, b2, r2⟩ := r1.one
  obtain ⟨a3, b3, r3⟩ := r2.one
  obtain ⟨a4, b4, _⟩ := r3.one
  simp only [Nat.zero_add, Nat.reduceAdd] at a1 a2 a3 a4 b2 b3 b4
  have hl : s.data.toList.length = s.size := (Lib.size_eq s).symm
  have hb : ∀ (j : Nat) (c : UInt8), j < s.size → bt s j = (c.toNat : Int) → s.data.toList[j]? = some c := fun j c hj he => by
    unfold bt at he
    rw [List.getD_eq_getElem?_getD, List.getElem?_eq_getElem (by omega)] at he
    rw [List.getElem?_eq_getElem (by omega)]
    congr 1
    refine UInt8.toNat_inj.1 ?_
    simp only [Option.getD_some] at he
    omega
  have e0 := hb 0 80 (by omega) b1
  have e1 := hb 1 76 (by omega) b2
  have e2 := hb 2 78 (by omega) b3
  have e3 := hb 3 49 (by omega) b4
  unfold tkS
  rw [if_neg (by show ¬ s.size < 0 + 4; omega), Lib.toList_data, ext_data]
  show List.take 4 (List.drop 0 _) = _
  rw [List.drop_zero]
  refine List.ext_getElem? fun j => ?_
  rw [List.getElem?_take]
  match j with
  | 0 => exact e0
  | 1 => exact e1
  | 2 => exact e2
  | 3 => exact e3
  | j + 4 => rw [if_neg (by omega)]; simp
theorem got_no {s : ByteArray} (h : gotB s = false) : gotX s = (ByteArray.empty, [], []) ∧ gotN s = 0 := by
  unfold gotX gotN
  rw [h]
  exact ⟨rfl, rfl⟩
theorem got_yes {s : ByteArray} (h : gotB s = true) : gotX s = (nmS s, planT s, planS s) ∧ gotN s = (st7 s).1 := by
  unfold gotX gotN
  rw [h]
  exact ⟨rfl, rfl⟩
theorem nmS_size (s : ByteArray) (hs : s.size ≤ 1048576) : (nmS s).size ≤ 1048576 := by
  have h := (nmL_cast s).2
  unfold nmS tkS
  split
  · rw [Lib.size_eq]
    show (List.replicate (nmL s) (0 : UInt8)).length ≤ _
    rw [List.length_replicate]; omega
  · rw [Lib.size_eq, ext_data, List.length_take, List.length_drop, ← Lib.size_eq]; omega
theorem got_short {s : ByteArray} (h : (st7 s).2 = true) : gotB s = false := by unfold gotB; rw [h]; rfl
theorem got_bad {s : ByteArray} (h : savedOk (nmS s, planT s, planS s) = false) : gotB s = false := by
  have h1 : savedOk (plan s) = false := h
  unfold gotB; rw [h1]; simp
theorem got_ne {s : ByteArray} (h : storeS (nmS s, planT s, planS s) ≠ s.extract 0 (st7 s).1) : gotB s = false := by
  have h1 : storeS (plan s) ≠ s.extract 0 (st7 s).1 := h
  unfold gotB; rw [decide_eq_false h1]; simp
theorem got_all {s : ByteArray} (h : (st7 s).2 = false) (h1 : savedOk (nmS s, planT s, planS s) = true) (h2 : storeS (nmS s, planT s, planS s) = s.extract 0 (st7 s).1) : gotB s = true := by
  have e1 : savedOk (plan s) = true := h1
  have e2 : storeS (plan s) = s.extract 0 (st7 s).1 := h2
  unfold gotB; rw [h, e1, decide_eq_true e2]; rfl
theorem got_prefix {x : Sv} {n : Nat} (hx : savedOk x = true) (hn : n < (storeS x).size) : gotB ((storeS x).extract 0 n) = false := by
  cases hg : gotB ((storeS x).extract 0 n) with
  | false => rfl
  | true =>
    exfalso
    obtain ⟨h1, h2, h3⟩ := got_sound hg
    obtain ⟨y, hy⟩ : ∃ y, gotX ((storeS x).extract 0 n) = y := ⟨_, rfl⟩
    rw [hy] at h1 h2 h3
    rw [h3] at h2
    have hle : (storeS y).size ≤ n := by
      have := congrArg ByteArray.size h2
      rw [Lib.size_eq ((((storeS x).extract 0 n)).extract 0 _), ext_data, ext_data] at this
      simp only [List.length_take, List.drop_zero, Nat.sub_zero, List.length_drop] at this
      omega
    have h4 : (storeS x).extract 0 (storeS y).size = storeS y := by
      conv => rhs; rw [h2]
      refine bytes_eq ?_
      rw [ext_data, ext_data, ext_data]
      simp only [List.drop_zero, Nat.sub_zero, List.take_take]
      congr 1; omega
    have h5 := (plan_ok h1 h4).2
    have h6 := (plan_ok (s := storeS x) hx (by refine bytes_eq ?_; rw [ext_data, Nat.sub_zero, List.drop_zero, List.take_of_length_le]; rw [← Lib.size_eq]; exact Nat.le_refl _)).2
    rw [h5] at h6
    have h7 := congrArg (fun z : Nat × Bool => z.1) h6
    simp only at h7
    omega
end Go.Proofs.Ytmhepomjbaendaa
