
/- l07Saved, ValidSaved of the reference: one plain test. Conditions: none. -/
import Derived.Test.YtmhepomjbaendaaValidSaved
namespace Go.Proofs.Ytmhepomjbaendaa
open Go.RowKit Go.BigFrame
set_option linter.unusedVariables false
set_option linter.unusedSimpArgs false

theorem quiet_drew {P : Program} {f : FuncId} {args : Array Value} {w : World} {n : Nat} {v : Value}
    (h : Calls P f args (w.drewN n) fun e w' => e = .returned v ∧ ∃ q, w' = (w.drewN n).drewN q) : Calls P f args (w.drewN n) fun e w'' => e = .returned v ∧ ∃ m, w'' = w.drewN m :=
  h.mono fun _ _ ⟨he, q, hq⟩ => ⟨he, n + q, by rw [hq]; simp⟩

theorem startsOk_eq {ts : List Tk} {st : List Int} (h : st.length = ts.length) : startsOk ts st = st.all fun n => win n 0 65535 := by
  unfold startsOk many; simp [h]
theorem startsOk_len {ts : List Tk} {st : List Int} (h : st.length ≠ ts.length) : startsOk ts st = false := by
  unfold startsOk many
  by_cases h1 : (ts.length : Int) ≤ st.length
  · have : ¬ (st.length : Int) ≤ ts.length := by omega
    simp [this]
  · simp [h1]
theorem startsOk_bad {ts : List Tk} {st : List Int} {i : Nat} (h : st.length = ts.length) (hi : i < st.length) (hb : win (nth st i) 0 65535 = false) : startsOk ts st = false := by
  rw [startsOk_eq h, List.all_eq_false]
  exact ⟨st[i], List.getElem_mem _, by rw [← nth_eq hi, hb]; simp⟩
theorem startsOk_end {ts : List Tk} {st : List Int} (h : st.length = ts.length) (hb : ∀ i, i < st.length → win (nth st i) 0 65535 = true) : startsOk ts st = true := by
  rw [startsOk_eq h, List.all_eq_true]
  intro n hn
  obtain ⟨i, hi, rfl⟩ := List.mem_iff_getElem.1 hn
  rw [← nth_eq hi]; exact hb i hi

set_option maxRecDepth 100000 in
set_option maxHeartbeats 2000000 in
theorem l07Saved_any (b o : Nat) (s : ByteArray) (vt vs : Value) (ts : List Tk) (st : List Int) (w : World) (hsz : s.size ≤ maxLen) (ht : TasksR w vt ts) (hs : Ints w vs st) (htl : ts.length ≤ 1048576)
    (e0 : w.cell? ⟨b, o, none⟩ = some (.string s)) (e1 : w.cell? ⟨b, o + 1, none⟩ = some vt) (e2 : w.cell? ⟨b, o + 2, none⟩ = some vs) :
    Calls Try.prog 71 #[.pointer (some ⟨b, o, none⟩)] w fun e w' => e = .returned (.bool (savedOk (s, ts, st))) ∧ ∃ q, w' = w.drewN q := by
  have H1 : Hid (∀ W, Calls Try.prog 117 #[.string s] W fun e w' => e = .returned (.bool (nameOk s)) ∧ W = w') := fun W => l07Name_any s W hsz
  have H2 : Hid (∀ n, Calls Try.prog 118 #[vt] (w.drewN n) fun e w' => e = .returned (.bool (tasksOk ts)) ∧ ∃ q, w' = (w.drewN n).drewN q) := fun n => l03Are_any vt ts _ (ht.below (below_drewN n (Below.refl _ _)) (Nat.le_refl _)) htl
  have HX : Hid (savedOk (s, ts, st) = (nameOk s && tasksOk ts && startsOk ts st)) := rfl
  have hm := ht.1
  unfold maxLen at hm
  obtain ⟨_, t1, t2, rfl, _⟩ := ht
  obtain ⟨hm2, s1, s2, rfl, hcap, hc⟩ := hs
  have HC : Hid (∀ i, i < st.length → ∃ bb oo, s1 = some ⟨bb, oo, none⟩ ∧ w.cell? ⟨bb, oo + i, none⟩ = some (.int .i64 (nth st i))) := fun i hi => by
    obtain ⟨bb, oo, q1, q2, q3⟩ := hc i hi
    exact ⟨bb, oo, q1, by rw [q3, nth_eq hi]⟩
  unfold maxLen at hm2
  clear hsz hc
  cases z1 : nameOk s
  · have HF : Hid (savedOk (s, ts, st) = false) := by show _ = _; rw [HX.out, z1]; rfl
    go_enter Try.func71, Try.ntmps71
    go_wp2_with fail
    go_quiet ((first | (go_at_call 117; exact quiet_eq (H1.out _)) | (go_at_call 118; exact quiet_drew (H2.out _))))
    go_wp2
    go_ret
    exact ⟨ret_bool HF.out.symm, _, rfl⟩
  · cases z2 : tasksOk ts
    · have HF : Hid (savedOk (s, ts, st) = false) := by show _ = _; rw [HX.out, z1, z2]; rfl
      go_enter Try.func71, Try.ntmps71
      go_wp2_with fail
      go_quiet ((first | (go_at_call 117; exact quiet_eq (H1.out _)) | (go_at_call 118; exact quiet_drew (H2.out _))))
      go_wp2
      go_ret
      exact ⟨ret_bool HF.out.symm, _, rfl⟩
    · have HX2 : Hid (savedOk (s, ts, st) = startsOk ts st) := by show _ = _; rw [HX.out, z1, z2]; rfl
      by_cases hne : st.length = ts.length
      · have hnb : ((st.length : Int) != (ts.length : Int)) = false := by simp; omega
        have HBAD : Hid (∀ i, i < st.length → win (nth st i) 0 65535 = false → savedOk (s, ts, st) = false) := fun i hi hb => by rw [HX2.out]; exact startsOk_bad hne hi hb
        have HEND : Hid ((∀ i, i < st.length → win (nth st i) 0 65535 = true) → savedOk (s, ts, st) = true) := fun hb => by rw [HX2.out]; exact startsOk_end hne hb
        rw [z1] at H1
        rw [z2] at H2
        clear hne z1 z2
        go_enter Try.func71, Try.ntmps71
        go_wp2_with fail
        go_quiet ((first | (go_at_call 117; exact quiet_eq (H1.out _)) | (go_at_call 118; exact quiet_drew (H2.out _))))
        go_wp2
        go_loopw [36] (fun vi wr => ∃ i : Nat, i ≤ st.length ∧ vi = .int .i64 i ∧ Hid (∃ q, wr = w.drewN q) ∧ Hid (∀ j, j < i → win (nth st j) 0 65535 = true)) (fun vi _ => st.length - (intOf vi).toNat)
        case atStart => exact ⟨0, Nat.zero_le _, rfl, ⟨_, rfl⟩, fun j h => by omega⟩
        case round =>
          obtain ⟨i, hi, rfl, hq, hok⟩ := hrel
          by_cases hlt : i < st.length
          · obtain ⟨bb, oo, rfl, hcell⟩ := HC.out i hlt
            obtain ⟨q, rfl⟩ := hq.out
            have HBAD2 := Lib.hid (HBAD.out i hlt)
            obtain ⟨p, hp⟩ : ∃ p, nth st i = p := ⟨_, rfl⟩
            have HOK : Hid (win p 0 65535 = true → ∀ j, j < i + 1 → win (nth st j) 0 65535 = true) := fun h j hj => by
              rcases Nat.lt_succ_iff_lt_or_eq.1 hj with h1 | rfl
              · exact hok.out j h1
              · rw [hp]; exact h
            rw [hp] at hcell HBAD2
            have k0 : (0 : Int) ≤ (i : Int) := by omega
            have k1 : (i : Int) < (st.length : Int) := by omega
            clear hp hok
            cases z : win p 0 65535
            · have HF := Lib.hid (HBAD2.out z)
              go_wp2_with (go_at_call 68; refine (l00In_any _ _ _ _).mono ?_; rintro e w' ⟨rfl, rfl⟩)
              go_ret
              exact ⟨ret_bool HF.out.symm, _, rfl⟩
            · go_wp2_with (go_at_call 68; refine (l00In_any _ _ _ _).mono ?_; rintro e w' ⟨rfl, rfl⟩)
              go_roundw
              case rel => exact ⟨i + 1, by omega, by go_num, ⟨q, rfl⟩, HOK.out z⟩
              case measure => simp [intOf]; omega
          · obtain ⟨q, rfl⟩ := hq.out
            have HF := Lib.hid (HEND.out fun j hj => hok.out j (by omega))
            clear hok
            go_wp2
            go_ret
            exact ⟨ret_bool HF.out.symm, _, rfl⟩
      · have hnb : ((st.length : Int) != (ts.length : Int)) = true := by simp; omega
        have HF : Hid (savedOk (s, ts, st) = false) := by show _ = _; rw [HX2.out]; exact startsOk_len hne
        clear hne
        go_enter Try.func71, Try.ntmps71
        go_wp2_with fail
        go_quiet ((first | (go_at_call 117; exact quiet_eq (H1.out _)) | (go_at_call 118; exact quiet_drew (H2.out _))))
        go_wp2
        go_ret
        exact ⟨ret_bool HF.out.symm, _, rfl⟩

end Go.Proofs.Ytmhepomjbaendaa
