
/- The bytes of a saved plan: a plain list. Conditions: none. -/
import Derived.Test.YtmhepomjbaendaaBytes
import Derived.Test.YtmhepomjbaendaaSavedSpec
namespace Go.Proofs.Ytmhepomjbaendaa
open Go.RowKit
set_option linter.unusedVariables false
set_option linter.unusedSimpArgs false

def pairTo (bs ls : List Int) (m : Nat) : List Int := (List.range m).flatMap fun k => [nth bs k % 256, (nth ls k + 100) % 256]
theorem pairTo_succ (bs ls : List Int) (m : Nat) : pairTo bs ls (m + 1) = pairTo bs ls m ++ [nth bs m % 256, (nth ls m + 100) % 256] := by
  unfold pairTo; rw [List.range_succ, List.flatMap_append]; simp
theorem pairTo_len (bs ls : List Int) : ∀ m, (pairTo bs ls m).length = 2 * m := by
  intro m
  induction m with
  | zero => rfl
  | succ m ih => rw [pairTo_succ, List.length_append, ih]; simp; omega
def taskH (x : Tk) : List Int := [x.1 % 256, x.2.1 % 256, (x.2.2.1.length : Int) % 256]
def taskB (x : Tk) : List Int := taskH x ++ pairTo x.2.2.1 x.2.2.2 x.2.2.1.length
def tasksB (ts : List Tk) (i : Nat) : List Int := (ts.take i).flatMap taskB
theorem tasksB_succ (ts : List Tk) (i : Nat) (h : i < ts.length) : tasksB ts (i + 1) = tasksB ts i ++ taskB ts[i] := by
  unfold tasksB; rw [List.take_succ_eq_append_getElem h, List.flatMap_append]; simp
theorem taskB_len (x : Tk) : (taskB x).length = 3 + 2 * x.2.2.1.length := by
  unfold taskB taskH; rw [List.length_append, pairTo_len]; simp
theorem tasksB_len {ts : List Tk} (h : ∀ x ∈ ts, x.2.2.1.length ≤ 1048576) : ∀ i, i ≤ ts.length → (tasksB ts i).length ≤ i * 2097155 := by
  intro i
  induction i with
  | zero => intro _; simp [tasksB]
  | succ i ih =>
    intro hi
    rw [tasksB_succ ts i (by omega), List.length_append, taskB_len]
    have h1 := ih (by omega)
    have h2 := h _ (List.getElem_mem (show i < ts.length by omega))
    omega
def startsB (st : List Int) (i : Nat) : List Int := (List.range i).flatMap fun k => [nth st k % 256, nth st k / 256]
theorem startsB_succ (st : List Int) (i : Nat) : startsB st (i + 1) = startsB st i ++ [nth st i % 256, nth st i / 256] := by
  unfold startsB; rw [List.range_succ, List.flatMap_append]; simp
theorem startsB_len (st : List Int) : ∀ i, (startsB st i).length = 2 * i := by
  intro m
  induction m with
  | zero => rfl
  | succ m ih => rw [startsB_succ, List.length_append, ih]; simp; omega
def head1 (s : ByteArray) : List Int := [80, 76, 78, 49, (s.size : Int)]
def headB (s : ByteArray) (n : Nat) : List Int := head1 s ++ chs s ++ [(n : Int)]
theorem headB_len (s : ByteArray) (n : Nat) : (headB s n).length = s.size + 6 := by unfold headB head1; simp [chs_length]; try omega
def bodyB (x : Sv) : List Int := headB x.1 x.2.1.length ++ tasksB x.2.1 x.2.1.length ++ startsB x.2.2 x.2.2.length
def storeB (x : Sv) : List Int := bodyB x ++ [chk 0 (strOfNums (bodyB x)) % 256, chk 0 (strOfNums (bodyB x)) / 256]
def storeS (x : Sv) : ByteArray := strOfNums (storeB x)
/-- What is known of a valid plan. -/
theorem saved_bounds {s : ByteArray} {ts : List Tk} {st : List Int} (h : savedOk (s, ts, st) = true) : s.size ≤ 8 ∧ 1 ≤ ts.length ∧ ts.length ≤ 16 ∧ st.length = ts.length ∧ (∀ i (hi : i < ts.length), ts[i].2.2.1.length = ts[i].2.2.2.length ∧ ∀ k, k < ts[i].2.2.2.length → -100 ≤ nth ts[i].2.2.2 k ∧ nth ts[i].2.2.2 k ≤ 100) ∧ ∀ i, i < st.length → 0 ≤ nth st i ∧ nth st i ≤ 65535 := by
  unfold savedOk at h
  simp only [Bool.and_eq_true] at h
  obtain ⟨⟨h1, h2⟩, h3⟩ := h
  unfold nameOk at h1
  simp only [Bool.and_eq_true, decide_eq_true_eq] at h1
  have h2' := h2
  unfold tasksOk at h2'
  simp only [Bool.and_eq_true, decide_eq_true_eq, List.all_eq_true, List.mem_range] at h2'
  obtain ⟨m1, m2, m3⟩ := many_true.1 h3
  refine ⟨h1.2, h2'.1.2, h2'.2, by omega, fun i hi => ?_, fun i hi => ?_⟩
  · have := h2'.1.1 i hi
    rw [tkAt_eq hi] at this
    unfold taskOk taskHead at this
    simp only [Bool.and_eq_true, decide_eq_true_eq] at this
    refine ⟨this.1.1.2, fun k hk => ?_⟩
    have h4 := this.1.2
    unfold lagsOk at h4
    rw [nth_eq hk]
    exact win_true.1 (List.all_eq_true.1 h4 _ (List.getElem_mem hk))
  · rw [nth_eq hi]
    exact win_true.1 (List.all_eq_true.1 m3 _ (List.getElem_mem hi))
theorem saved_name1 {s : ByteArray} {ts : List Tk} {st : List Int} (h : savedOk (s, ts, st) = true) : 1 ≤ s.size := by
  unfold savedOk at h
  simp only [Bool.and_eq_true] at h
  obtain ⟨⟨h1, h2⟩, h3⟩ := h
  unfold nameOk at h1
  simp only [Bool.and_eq_true, decide_eq_true_eq] at h1
  exact h1.1.2
end Go.Proofs.Ytmhepomjbaendaa
