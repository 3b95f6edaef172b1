
/- What is stored is recovered: the plain law. Conditions: none. -/
import Derived.Test.YtmhepomjbaendaaRecov
import Derived.Test.YtmhepomjbaendaaStoreAll
namespace Go.Proofs.Ytmhepomjbaendaa
open Go.RowKit
set_option linter.unusedVariables false
set_option linter.unusedSimpArgs false

/-- The length of the first k stored. -/
def jS (xs : List Sv) (k : Nat) : Nat := (joined xs k).size
theorem jS_zero (xs : List Sv) : jS xs 0 = 0 := rfl
theorem jS_succ {xs : List Sv} {k : Nat} (h : k < xs.length) : jS xs (k + 1) = jS xs k + (storeS xs[k]).size := by
  unfold jS
  rw [joined_succ xs k h, ByteArray.size_append]
theorem data_app (a b : ByteArray) : (a ++ b).data.toList = a.data.toList ++ b.data.toList := by simp [ByteArray.toList_data_append]
theorem data_len (a : ByteArray) : a.data.toList.length = a.size := (Lib.size_eq a).symm
theorem joined_pre {xs : List Sv} : ∀ {k m : Nat}, k ≤ m → m ≤ xs.length → ∃ r, (joined xs m).data.toList = (joined xs k).data.toList ++ r
  | k, 0, h, _ => by obtain rfl : k = 0 := by omega
                     exact ⟨[], by simp⟩
  | k, m + 1, h, hm => by
    rcases Nat.lt_or_ge m k with h1 | h1
    · obtain rfl : k = m + 1 := by omega
      exact ⟨[], by simp⟩
    · obtain ⟨r, hr⟩ := joined_pre (xs := xs) h1 (by omega)
      refine ⟨r ++ (storeS xs[m]).data.toList, ?_⟩
      rw [joined_succ xs m (by omega), data_app, hr, List.append_assoc]
theorem jS_mono {xs : List Sv} {k m : Nat} (h : k ≤ m) (hm : m ≤ xs.length) : jS xs k ≤ jS xs m := by
  obtain ⟨r, hr⟩ := joined_pre h hm
  have := congrArg List.length hr
  rw [List.length_append, data_len, data_len] at this
  unfold jS
  omega
theorem storeS_pos (x : Sv) : 1 ≤ (storeS x).size := by
  rw [storeS_len]
  unfold storeB
  simp
/-- The text begins with the first m plans. -/
def Pre (t : ByteArray) (xs : List Sv) (m : Nat) : Prop := m ≤ xs.length ∧ ∀ k (h : k < xs.length), k < m → savedOk xs[k] = true ∧ (dropB t (jS xs k)).extract 0 (storeS xs[k]).size = storeS xs[k]
theorem Pre.of {t : ByteArray} {xs : List Sv} {m : Nat} (hm : m ≤ xs.length) (hok : ∀ k (h : k < xs.length), k < m → savedOk xs[k] = true) (h : t.extract 0 (jS xs m) = joined xs m) : Pre t xs m := by
  refine ⟨hm, fun k hk hkm => ⟨hok k hk hkm, ?_⟩⟩
  have h1 := congrArg (fun z : ByteArray => z.data.toList) h
  simp only [ext_data, List.drop_zero, Nat.sub_zero] at h1
  obtain ⟨r, hr⟩ := joined_pre (xs := xs) (k := k + 1) (m := m) (by omega) hm
  rw [hr, joined_succ xs k hk, data_app] at h1
  have hs := jS_succ hk
  have hle := jS_mono (xs := xs) (k := k + 1) (m := m) (by omega) hm
  have hlen : jS xs m ≤ t.size := by
    have h2 := congrArg List.length h1
    have h3 := congrArg List.length hr
    rw [joined_succ xs k hk, data_app] at h3
    rw [List.length_take, ← h3, data_len, data_len] at h2
    show (joined xs m).size ≤ _
    have : min (jS xs m) t.size = (joined xs m).size := h2
    omega
  refine bytes_eq ?_
  unfold dropB
  rw [ext_data, ext_data, List.drop_zero, Nat.sub_zero]
  have e1 : (t.data.toList.drop (jS xs k)).take (t.size - jS xs k) = t.data.toList.drop (jS xs k) := List.take_of_length_le (by rw [List.length_drop, data_len]; exact Nat.le_refl _)
  rw [e1]
  have e2 : (t.data.toList.drop (jS xs k)).take (storeS xs[k]).size = ((t.data.toList.take (jS xs m)).drop (jS xs k)).take (storeS xs[k]).size := by
    rw [List.drop_take, List.take_take]
    congr 1
    omega
  rw [e2, h1]
  have hjk : (joined xs k).data.toList.length = jS xs k := data_len _
  rw [List.append_assoc, List.drop_append_of_le_length (by omega), List.drop_of_length_le (by omega), List.nil_append, List.take_append_of_le_length (by rw [data_len]; exact Nat.le_refl _), List.take_of_length_le (by rw [data_len]; exact Nat.le_refl _)]
theorem rv_pre {t : ByteArray} {xs : List Sv} {m : Nat} (h : Pre t xs m) : ∀ k, k ≤ m → rvAt t k = jS xs k ∧ rvX t k = xs.take k
  | 0, _ => ⟨rfl, by simp [rvX]⟩
  | k + 1, hk => by
    obtain ⟨h1, h2⟩ := rv_pre h k (by omega)
    have hl : k < xs.length := by have := h.1; omega
    obtain ⟨p1, p2⟩ := h.2 k hl (by omega)
    obtain ⟨_, g2, g3⟩ := got_ok p1 p2
    refine ⟨?_, ?_⟩
    · show rvAt t k + gotN (dropB t (rvAt t k)) = _
      rw [h1, g3, jS_succ hl]
    · show rvX t k ++ [gotX (dropB t (rvAt t k))] = _
      rw [h1, h2, g2, List.take_succ_eq_append_getElem hl]
theorem rv_ne {t : ByteArray} {xs : List Sv} {m : Nat} (h : Pre t xs m) : ∀ i, i < m → gotN (dropB t (rvAt t i)) ≠ 0 := fun i hi => by
  obtain ⟨h1, h2⟩ := rv_pre h i (by omega)
  have hl : i < xs.length := by have := h.1; omega
  obtain ⟨p1, p2⟩ := h.2 i hl hi
  obtain ⟨_, g2, g3⟩ := got_ok p1 p2
  rw [h1, g3]
  have := storeS_pos xs[i]
  omega
theorem rv_end {t : ByteArray} {xs : List Sv} {m : Nat} (h : Pre t xs m) (h8 : m ≤ 8) (he : m = 8 ∨ gotB (dropB t (jS xs m)) = false) : rvL t = xs.take m ∧ rvN t = jS xs m := by
  obtain ⟨h1, h2⟩ := rv_pre h m (Nat.le_refl _)
  have := rv_done (s := t) h8 (rv_ne h) (he.imp id (fun e => by rw [h1]; exact (got_no e).2))
  rw [this.1, this.2, h1, h2]
  exact ⟨rfl, rfl⟩
theorem rvGo_ge {s : ByteArray} {m : Nat} : ∀ {f j : Nat}, (∀ i, i < m → gotN (dropB s (rvAt s i)) ≠ 0) → m ≤ j + f → j ≤ m → m ≤ rvGo s f j
  | 0, j, _, h, _ => by show m ≤ j; omega
  | f + 1, j, hg, h, hj => by
    rcases Nat.lt_or_eq_of_le hj with h1 | h1
    · show m ≤ (if gotN (dropB s (rvAt s j)) = 0 then j else rvGo s f (j + 1))
      rw [if_neg (hg j h1)]
      exact rvGo_ge hg (by omega) (by omega)
    · subst h1
      show j ≤ (if gotN (dropB s (rvAt s j)) = 0 then j else rvGo s f (j + 1))
      split
      · exact Nat.le_refl _
      · exact Nat.le_trans (Nat.le_succ _) (rvGo_le' f (j + 1))
where rvGo_le' {s : ByteArray} : ∀ (f j : Nat), j ≤ rvGo s f j
  | 0, j => Nat.le_refl _
  | f + 1, j => by
    show j ≤ (if gotN (dropB s (rvAt s j)) = 0 then j else rvGo s f (j + 1))
    split
    · exact Nat.le_refl _
    · exact Nat.le_trans (Nat.le_succ _) (rvGo_le' f (j + 1))
theorem rv_many {t : ByteArray} {xs : List Sv} {m : Nat} (h : Pre t xs m) (h8 : m ≤ 8) : m ≤ (rvL t).length := by
  unfold rvL
  rw [rvX_len]
  exact rvGo_ge (rv_ne h) (by omega) (Nat.zero_le _)
theorem empty_got {s : ByteArray} (h : s.size = 0) : gotB s = false := by
  cases hg : gotB s with
  | false => rfl
  | true =>
    have h1 := (got_sound hg).2.2
    have h2 := got_le s
    have := storeS_pos (gotX s)
    omega
theorem rv_whole {xs : List Sv} (h : allOk xs = true) : rvL (joined xs xs.length) = xs ∧ rvN (joined xs xs.length) = (joined xs xs.length).size := by
  unfold allOk at h
  simp only [Bool.and_eq_true, decide_eq_true_eq, List.all_eq_true] at h
  have hp : Pre (joined xs xs.length) xs xs.length := Pre.of (Nat.le_refl _) (fun k hk _ => h.2 _ (List.getElem_mem hk)) (by
    refine bytes_eq ?_
    rw [ext_data, List.drop_zero, Nat.sub_zero]
    exact List.take_of_length_le (by rw [data_len]; exact Nat.le_refl _))
  have := rv_end hp h.1 (.inr (empty_got (by rw [dropB_size]; unfold jS; omega)))
  rw [List.take_length] at this
  exact this
theorem rv_cut {xs : List Sv} {cut kept : Nat} (h : allOk xs = true) (hk : kept < xs.length) (h1 : jS xs kept ≤ cut) (h2 : cut < jS xs (kept + 1)) : rvL ((joined xs xs.length).extract 0 cut) = xs.take kept ∧ rvN ((joined xs xs.length).extract 0 cut) = jS xs kept := by
  unfold allOk at h
  simp only [Bool.and_eq_true, decide_eq_true_eq, List.all_eq_true] at h
  have hmono := jS_mono (xs := xs) (k := kept + 1) (m := xs.length) (by omega) (Nat.le_refl _)
  obtain ⟨r0, hr0⟩ := joined_pre (xs := xs) (k := kept) (m := xs.length) (by omega) (Nat.le_refl _)
  obtain ⟨r1, hr1⟩ := joined_pre (xs := xs) (k := kept + 1) (m := xs.length) (by omega) (Nat.le_refl _)
  have hjk : (joined xs kept).data.toList.length = jS xs kept := data_len _
  have hp : Pre ((joined xs xs.length).extract 0 cut) xs kept := Pre.of (by omega) (fun k hk2 _ => h.2 _ (List.getElem_mem hk2)) (by
    refine bytes_eq ?_
    rw [ext_data, ext_data, List.drop_zero, List.drop_zero, Nat.sub_zero, Nat.sub_zero, List.take_take, Nat.min_eq_left h1, hr0, List.take_append_of_le_length (by omega), List.take_of_length_le (by omega)])
  refine rv_end hp (by omega) (.inr ?_)
  have hd : dropB ((joined xs xs.length).extract 0 cut) (jS xs kept) = (storeS xs[kept]).extract 0 (cut - jS xs kept) := by
    have hsz : ((joined xs xs.length).extract 0 cut).size = cut := by
      rw [Lib.size_eq, ext_data, List.drop_zero, List.length_take, data_len]
      have : jS xs xs.length = (joined xs xs.length).size := rfl
      omega
    have hs := jS_succ hk
    refine bytes_eq ?_
    unfold dropB
    rw [ext_data, ext_data, ext_data, hsz, List.drop_zero, List.drop_zero, Nat.sub_zero, Nat.sub_zero, hr1, joined_succ xs kept hk, data_app]
    rw [List.take_append_of_le_length (by rw [List.length_append, data_len, data_len]; unfold jS at hs h2; omega), List.drop_take]
    rw [List.drop_append_of_le_length (by omega), List.drop_of_length_le (by omega), List.nil_append, List.take_take, Nat.min_self]
  rw [hd]
  exact got_prefix (h.2 _ (List.getElem_mem hk)) (by rw [jS_succ hk] at h2; omega)
/-- Whatever is recovered is a beginning. -/
theorem rv_sound (t : ByteArray) : ∀ k, (∀ i, i < k → gotN (dropB t (rvAt t i)) ≠ 0) → (∀ x ∈ rvX t k, savedOk x = true) ∧ joined (rvX t k) k = t.extract 0 (rvAt t k)
  | 0, _ => ⟨fun x h => by simp [rvX] at h, by
      refine bytes_eq ?_
      rw [ext_data]
      simp [rvAt, joined]⟩
  | k + 1, hg => by
    obtain ⟨h1, h2⟩ := rv_sound t k (fun i hi => hg i (by omega))
    have hb : gotB (dropB t (rvAt t k)) = true := by
      cases hb : gotB (dropB t (rvAt t k)) with
      | true => rfl
      | false => exact absurd (got_no hb).2 (hg k (by omega))
    obtain ⟨s1, s2, s3⟩ := got_sound hb
    have hl := rvX_len t k
    have hx : (rvX t (k + 1)) = rvX t k ++ [gotX (dropB t (rvAt t k))] := rfl
    refine ⟨fun x hx' => ?_, ?_⟩
    · rw [hx, List.mem_append, List.mem_singleton] at hx'
      rcases hx' with h | h
      · exact h1 x h
      · rw [h]; exact s1
    · have hj : joined (rvX t (k + 1)) k = joined (rvX t k) k := by
        unfold joined
        rw [hx, List.take_append_of_le_length (by omega)]
      have hlt : k < (rvX t (k + 1)).length := by rw [rvX_len]; omega
      have hge : (rvX t (k + 1))[k] = gotX (dropB t (rvAt t k)) := by
        simp only [hx]
        rw [List.getElem_append_right (by omega)]
        simp
      rw [joined_succ _ k hlt, hj, h2, hge, s2]
      have hle := rvAt_le t k
      have hle2 := rvAt_le t (k + 1)
      refine bytes_eq ?_
      unfold dropB
      rw [data_app, ext_data, ext_data, ext_data, ext_data, List.drop_zero, List.drop_zero, Nat.sub_zero, Nat.sub_zero, Nat.sub_zero, List.take_take]
      show _ = t.data.toList.take (rvAt t k + gotN (t.extract (rvAt t k) t.size))
      have h9 : gotN (t.extract (rvAt t k) t.size) ≤ t.size - rvAt t k := by
        have := got_le (dropB t (rvAt t k))
        rw [dropB_size] at this
        exact this
      rw [Nat.min_eq_left h9, List.take_add]
theorem rvGo_spec {s : ByteArray} : ∀ {f j : Nat}, (∀ i, i < j → gotN (dropB s (rvAt s i)) ≠ 0) → rvGo s f j ≤ j + f ∧ ∀ i, i < rvGo s f j → gotN (dropB s (rvAt s i)) ≠ 0
  | 0, j, h => ⟨Nat.le_refl _, h⟩
  | f + 1, j, h => by
    have e : rvGo s (f + 1) j = if gotN (dropB s (rvAt s j)) = 0 then j else rvGo s f (j + 1) := rfl
    rw [e]
    by_cases h0 : gotN (dropB s (rvAt s j)) = 0
    · rw [if_pos h0]
      exact ⟨by omega, h⟩
    · rw [if_neg h0]
      have := rvGo_spec (s := s) (f := f) (j := j + 1) (fun i hi => by
        rcases Nat.lt_succ_iff_lt_or_eq.1 hi with h1 | rfl
        · exact h i h1
        · exact h0)
      exact ⟨by omega, this.2⟩
theorem rv_all (t : ByteArray) : allOk (rvL t) = true ∧ storeAllR (rvL t) = t.extract 0 (rvN t) ∧ (rvL t).length ≤ 8 ∧ rvN t ≤ t.size := by
  obtain ⟨h1, h2⟩ := rvGo_spec (s := t) (f := 8) (j := 0) (fun i h => by omega)
  obtain ⟨h3, h4⟩ := rv_sound t (rvK t) h2
  have hl : (rvL t).length = rvK t := rvX_len t _
  have h8 : rvK t ≤ 8 := by unfold rvK; omega
  have ha : allOk (rvL t) = true := by
    unfold allOk
    rw [Bool.and_eq_true, List.all_eq_true, decide_eq_true_eq]
    exact ⟨by omega, h3⟩
  refine ⟨ha, ?_, by omega, rvAt_le t _⟩
  rw [storeAllR_yes ha, hl]
  exact h4
theorem all_small {xs : List Sv} (hl : xs.length ≤ 1048576) (h : ∀ x ∈ xs, savedOk x = true) : smallSaveds xs := by
  refine ⟨hl, fun x hx => ?_⟩
  obtain ⟨nm, ts, st⟩ := x
  have hok := h _ hx
  have hb := saved_bounds hok
  have ht := saved_tkB hok
  refine ⟨by have := hb.1; show nm.size ≤ _; omega, ⟨by have := hb.2.2.1; show ts.length ≤ _; omega, fun t htm => ?_⟩, by have := hb.2.2.2.1; have := hb.2.2.1; show st.length ≤ _; omega⟩
  obtain ⟨k, hk, rfl⟩ := List.mem_iff_getElem.1 htm
  obtain ⟨_, _, _, _, h5, h6, _⟩ := ht k hk
  exact ⟨by have : ts[k].2.2.1.length ≤ 255 := h5; omega, by have : ts[k].2.2.1.length ≤ 255 := h5; have : ts[k].2.2.1.length = ts[k].2.2.2.length := h6; omega⟩
theorem allOk_small {xs : List Sv} (h : allOk xs = true) : smallSaveds xs := by
  unfold allOk at h
  simp only [Bool.and_eq_true, decide_eq_true_eq, List.all_eq_true] at h
  exact all_small (by omega) h.2
theorem tasksB_small {ts : List Tk} (h : ∀ k (hk : k < ts.length), TkB ts[k]) : ∀ i, i ≤ ts.length → (tasksB ts i).length ≤ i * 513
  | 0, _ => by simp [tasksB]
  | i + 1, hi => by
    have ih := tasksB_small h i (by omega)
    obtain ⟨_, _, _, _, h5, _⟩ := h i (by omega)
    rw [tasksB_succ ts i (by omega), List.length_append, taskB_len]
    omega
theorem storeS_small {x : Sv} (h : savedOk x = true) : (storeS x).size ≤ 10000 := by
  obtain ⟨nm, ts, st⟩ := x
  have hb := saved_bounds h
  have h1 : (tasksB ts ts.length).length ≤ ts.length * 513 := tasksB_small (saved_tkB h) ts.length (Nat.le_refl _)
  rw [storeS_len]
  unfold storeB bodyB
  simp only [List.length_append, headB_len, startsB_len, List.length_cons, List.length_nil]
  omega
theorem jS_small {xs : List Sv} (h : ∀ x ∈ xs, savedOk x = true) : ∀ k, k ≤ xs.length → jS xs k ≤ k * 10000
  | 0, _ => Nat.le_refl _
  | k + 1, hk => by
    have ih := jS_small h k (by omega)
    have := storeS_small (h _ (List.getElem_mem (show k < xs.length by omega)))
    rw [jS_succ (by omega)]
    omega
theorem jS_small' {xs : List Sv} : ∀ {k : Nat}, (∀ i (h : i < xs.length), i < k → savedOk xs[i] = true) → k ≤ xs.length → jS xs k ≤ k * 10000
  | 0, _, _ => Nat.le_refl _
  | k + 1, h, hk => by
    have ih := jS_small' (xs := xs) (k := k) (fun i hi hik => h i hi (by omega)) (by omega)
    have := storeS_small (h k (by omega) (by omega))
    rw [jS_succ (by omega)]
    omega
/-- What is stored is loaded as it was. -/
theorem ld_store {x : Sv} (h : savedOk x = true) : ldB (storeS x) = true ∧ ldX (storeS x) = x := by
  have hs : (storeS x).extract 0 (storeS x).size = storeS x := by
    refine bytes_eq ?_
    rw [ext_data, List.drop_zero, Nat.sub_zero]
    exact List.take_of_length_le (by rw [data_len]; exact Nat.le_refl _)
  obtain ⟨_, h2, h3⟩ := got_ok h hs
  have hb : ldB (storeS x) = true := by
    unfold ldB
    rw [h3]
    have h4 := storeS_pos x
    rw [decide_eq_true (show (storeS x).size ≠ 0 by omega), decide_eq_true rfl]
    rfl
  exact ⟨hb, (ld_yes hb).trans h2⟩
end Go.Proofs.Ytmhepomjbaendaa
