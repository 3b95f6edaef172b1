
/- ValidSaved, program and reference. Conditions: none. -/
import Derived.Test.YtmhepomjbaendaaAreTasks
import Derived.Test.YtmhepomjbaendaaNames
import Derived.Test.YtmhepomjbaendaaSaved
namespace Go.Proofs.Ytmhepomjbaendaa
open Go.RowKit Go.BigFrame
set_option linter.unusedVariables false
set_option linter.unusedSimpArgs false
attribute [local go_sem] Oper.semAt_some

set_option maxRecDepth 100000 in
set_option maxHeartbeats 1000000 in
theorem l03Are_any (v : Value) (xs : List Tk) (w : World) (hv : TasksR w v xs) (hl : xs.length ≤ 1048576) : Calls Try.prog 118 #[v] w fun e w' => e = .returned (.bool (tasksOk xs)) ∧ ∃ q, w' = w.drewN q := by
  have HV := Lib.hid hv
  obtain ⟨a, c, rfl, hcap, _⟩ := hv.at_
  clear hv
  go_enter Try.func118, Try.ntmps118
  go_wp2
  go_loopw [6] (fun vi wr => ∃ i : Nat, i ≤ xs.length ∧ vi = .int .i64 i ∧ Hid (∃ q, wr = w.drewN q) ∧ Hid (∀ j (hj : j < xs.length), j < i → taskOk j xs[j] = true)) (fun vi _ => xs.length - (intOf vi).toNat)
  case atStart => exact ⟨0, Nat.zero_le _, rfl, ⟨0, rfl⟩, fun j hj h => by omega⟩
  case round =>
    obtain ⟨i, hi, rfl, hq, hok⟩ := hrel
    obtain ⟨wr', rfl⟩ : ∃ wr' : World, wr' = wr := ⟨_, rfl⟩
    by_cases hlt : i < xs.length
    · have hVr : TasksR wr' (.slice a xs.length c) xs := by obtain ⟨q, rfl⟩ := hq.out; exact HV.out.below (below_drewN q (Below.refl _ _)) (Nat.le_refl _)
      obtain ⟨a3, c3, hsl3, _, hc⟩ := hVr.at_
      obtain ⟨rfl, rfl⟩ : a = a3 ∧ c = c3 := by simpa using hsl3
      obtain ⟨b, o, vb, vl, rfl, hbs, h1, h2, y0, y1, e0, e1, e2, e3⟩ := hc i hlt
      have hcall := l03Task_any i b (o + i * 4) xs[i] vb vl wr' (by omega) e0 e1 e2 e3 h1.ints.1 h2.ints.1
      have HBAD : Hid (taskOk i xs[i] = false → tasksOk xs = false) := fun h => tasksOk_bad hlt h
      obtain ⟨ok, hokk⟩ : ∃ ok, taskOk (i : Int) xs[i] = ok := ⟨_, rfl⟩
      rw [hokk] at hcall HBAD
      have HC := Lib.hid hcall
      have HOKK := Lib.hid hokk
      have HWQ : Hid (∀ q, ∃ q', wr'.drewN q = w.drewN q') := fun q => by obtain ⟨q0, rfl⟩ := hq.out; exact ⟨q0 + q, by simp⟩
      have k0 : (0 : Int) ≤ (i : Int) := by omega
      have k1 : (i : Int) < (xs.length : Int) := by omega
      clear hcall hokk hc hsl3 h1 h2 y0 y1 e0 e1 e2 e3 hVr hq
      cases ok
      · have HF := Lib.hid (HBAD.out rfl)
        go_wp2_with (go_at_call 135; refine HC.out.mono ?_; rintro e w' ⟨rfl, q, rfl⟩)
        go_ret
        exact ⟨ret_bool HF.out.symm, HWQ.out _⟩
      · go_wp2_with (go_at_call 135; refine HC.out.mono ?_; rintro e w' ⟨rfl, q, rfl⟩)
        go_roundw
        case rel =>
          refine ⟨i + 1, by omega, by go_num, HWQ.out _, fun j hj h => ?_⟩
          rcases Nat.lt_succ_iff_lt_or_eq.1 h with h | rfl
          · exact hok.out j hj h
          · exact HOKK.out
        case measure => simp [intOf]; omega
    · have HE := Lib.hid (tasksOk_end (xs := xs) (fun j hj => hok.out j hj (by omega)))
      have HQ := Lib.hid hq.out
      clear hok hq
      by_cases h1 : 1 ≤ xs.length
      · by_cases h2 : xs.length ≤ 16
        · go_wp2
          go_ret
          exact ⟨ret_bool (by rw [HE.out]; simp [h1]; omega), HQ.out⟩
        · go_wp2
          go_ret
          exact ⟨ret_bool (by rw [HE.out]; simp [h1]; omega), HQ.out⟩
      · have hd : decide ((1 : Int) ≤ (xs.length : Int)) = false := by simp; omega
        go_wp2
        go_ret
        exact ⟨ret_bool (by rw [HE.out]; simp [h1]), HQ.out⟩

def startsOk (ts : List Tk) (st : List Int) : Bool := many st (ts.length : Int) (ts.length : Int) 0 65535
def savedOk (x : Sv) : Bool := nameOk x.1 && tasksOk x.2.1 && startsOk x.2.1 x.2.2
set_option maxHeartbeats 1000000 in
theorem validSaved_any (s : ByteArray) (vt vs : Value) (ts : List Tk) (st : List Int) (w : World) (hsz : s.size ≤ maxLen) (ht : TasksR w vt ts) (hs : Ints w vs st) :
    Calls Try.prog 29 #[savedV s vt vs] w fun e w' => e = .returned (.bool (savedOk (s, ts, st))) ∧ Below w.heap.size w w' := by
  have H1 : Hid (∀ W, Calls Try.prog 79 #[.string s] W fun e w' => e = .returned (.bool (nameOk s)) ∧ W = w') := fun W => isName_any s W hsz
  have H2 : Hid (∀ W, Below w.heap.size w W → Calls Try.prog 80 #[vt] W fun e w' => e = .returned (.bool (tasksOk ts)) ∧ Below W.heap.size W w') := fun W hW => areTasks_any vt ts W (ht.below hW (Nat.le_refl _))
  have H3 : Hid (∀ W, Below w.heap.size w W → Calls Try.prog 66 #[vs, .int .i64 ts.length, .int .i64 ts.length, .int .i64 0, .int .i64 65535] W fun e w' => e = .returned (.bool (startsOk ts st)) ∧ W = w') := fun W hW => areMany_any vs st (ts.length : Int) (ts.length : Int) 0 65535 W (hs.below hW (Nat.le_refl _))
  have HX : Hid (savedOk (s, ts, st) = (nameOk s && tasksOk ts && startsOk ts st)) := rfl
  have hm := ht.1
  unfold maxLen at hm
  obtain ⟨_, t1, t2, rfl, _⟩ := ht
  obtain ⟨_, s1, s2, rfl, _⟩ := hs
  have hB0 : Below w.heap.size w (w.alloc (.cells #[.string s, .slice t1 ts.length t2, .slice s1 st.length s2] 44)) := (Below.refl _ w).alloc (Nat.le_refl _) _
  have k1 : Blk (w.alloc (.cells #[.string s, .slice t1 ts.length t2, .slice s1 st.length s2] 44)) w.heap.size 44 [.string s, .slice t1 ts.length t2, .slice s1 st.length s2] := Blk.new w _ _
  have HB0 := Lib.hid hB0
  have HK1 := Lib.hid k1
  unfold savedV
  clear hB0 k1 hsz
  cases z1 : nameOk s
  · have HF : Hid (savedOk (s, ts, st) = false) := by show _ = _; rw [HX.out, z1]; rfl
    go_enter Try.func29, Try.ntmps29
    go_wp2_with (go_at_call 79; refine (H1.out _).mono ?_; rintro e w' ⟨rfl, rfl⟩)
    go_ret
    exact ⟨ret_bool HF.out.symm, HB0.out⟩
  · cases z2 : tasksOk ts
    · have HF : Hid (savedOk (s, ts, st) = false) := by show _ = _; rw [HX.out, z1, z2]; rfl
      go_enter Try.func29, Try.ntmps29
      go_wp2_with (first
        | (go_at_call 79; refine (H1.out _).mono ?_; rintro e w' ⟨rfl, rfl⟩)
        | (go_at_call 80; refine (H2.out _ HB0.out).mono ?_; rintro e W1 ⟨rfl, hb1⟩; have HB1 := Lib.hid (HB0.out.trans (hb1.mono HB0.out.size)); clear hb1))
      go_ret
      exact ⟨ret_bool HF.out.symm, HB1.out⟩
    · have HF : Hid (savedOk (s, ts, st) = startsOk ts st) := by show _ = _; rw [HX.out, z1, z2]; rfl
      go_enter Try.func29, Try.ntmps29
      go_wp2_with (first
        | (go_at_call 79; refine (H1.out _).mono ?_; rintro e w' ⟨rfl, rfl⟩)
        | (go_at_call 80; refine (H2.out _ HB0.out).mono ?_; rintro e W1 ⟨rfl, hb1⟩; have hq := HK1.out.below hb1 HK1.out.lt; have q1 := hq.cell 1 _ rfl; have q2 := hq.cell 2 _ rfl; have HB1 := Lib.hid (HB0.out.trans (hb1.mono HB0.out.size)); clear hb1 hq)
        | (go_at_call 66; refine (H3.out _ HB1.out).mono ?_; rintro e w' ⟨rfl, rfl⟩))
      go_ret
      exact ⟨ret_bool HF.out.symm, HB1.out⟩
end Go.Proofs.Ytmhepomjbaendaa
