
/- AreRounds, the reference: its contract by the plain function. Conditions: at most 2^20 numbers. -/
import Derived.Test.YtmhepomjbaendaaRounds
namespace Go.Proofs.Ytmhepomjbaendaa
open Go.RowKit Go.Shelf Go.BigFrame
set_option linter.unusedVariables false
set_option linter.unusedSimpArgs false
attribute [local go_sem] Oper.semAt_some

theorem l00Has_any (v : Value) (xs : List Int) (x : Int) (w : World) (hv : Ints w v xs) :
    Calls Try.prog 134 #[v, .int .i64 x] w fun e w' => e = .returned (.bool (xs.any (· == x))) ∧ w = w' := by
  obtain ⟨hm, a, c, rfl, hcap, hc⟩ := hv
  unfold maxLen at hm
  go_enter Try.func134, Try.ntmps134
  go_wp2
  go_loopw [5] (fun i wr => ∃ k : Nat, k ≤ xs.length ∧ i = .int .i64 k ∧ w = wr ∧ ∀ i, i < k → nth xs i ≠ x) (fun i _ => xs.length - (intOf i).toNat)
  case atStart => exact ⟨0, Nat.zero_le _, rfl, rfl, fun i hi => by omega⟩
  case round =>
    obtain ⟨k, hk, rfl, rfl, hr⟩ := hrel
    have Hr := Lib.hid hr
    clear hr
    by_cases hlt : k < xs.length
    · obtain ⟨b, o, rfl, hbs, hc1⟩ := hc k hlt
      rw [← nth_eq hlt] at hc1
      obtain ⟨p, hp⟩ : ∃ p, nth xs k = p := ⟨_, rfl⟩
      rw [hp] at hc1
      have Hp := Lib.hid hp
      have hk0 : (0 : Int) ≤ (k : Int) := by omega
      have hk1 : (k : Int) < (xs.length : Int) := by omega
      clear hc hp
      cases hq : (p == x)
      · go_wp2
        go_roundw
        case rel =>
          refine ⟨k + 1, by omega, by go_num, trivial, fun i hi => ?_⟩
          rcases Nat.lt_succ_iff_lt_or_eq.1 hi with h | rfl
          · exact Hr.out i h
          · rw [Hp.out]; simpa using hq
        case measure => simp [intOf]; omega
      · go_wp2
        go_ret
        refine ⟨ret_bool ?_, rfl⟩
        symm
        rw [List.any_eq_true]
        exact ⟨xs[k], List.getElem_mem _, by rw [← nth_eq hlt, Hp.out]; exact hq⟩
    · go_wp2
      go_ret
      refine ⟨ret_bool ?_, rfl⟩
      symm
      rw [List.any_eq_false]
      intro y hy
      obtain ⟨i, hi, rfl⟩ := List.getElem_of_mem hy
      have := Hr.out i (by omega)
      rw [nth_eq hi] at this
      simpa using this

def gamesOk (n : Int) (xs : List Int) : Bool := roundsHead n xs && (List.range (xs.length / n.toNat)).all fun r => isAllB (roundL xs n.toNat r)

theorem head_iff (t : Nat) (xs : List Int) : roundsHead (t : Int) xs = true ↔ teamsOk (t : Int) = true ∧ xs.length % t = 0 ∧ 1 ≤ xs.length / t ∧ ((xs.length / t : Nat) : Int) ≤ 2 * (t : Int) - 2 := by
  unfold roundsHead
  rw [Bool.and_eq_true, Bool.and_eq_true, beq_iff_eq, win_true, ← Int.natCast_emod, ← Int.natCast_ediv]
  constructor
  · rintro ⟨⟨h1, h2⟩, h3, h4⟩; exact ⟨h1, by omega, by omega, by omega⟩
  · rintro ⟨h1, h2, h3, h4⟩; exact ⟨⟨h1, by omega⟩, by omega, by omega⟩
theorem gamesOk_head {n : Int} {xs : List Int} (h : ¬ roundsHead n xs = true) : false = gamesOk n xs := by
  unfold gamesOk
  rw [Bool.not_eq_true] at h
  rw [h, Bool.false_and]

theorem l07Games_any (n : Int) (v : Value) (xs : List Int) (w : World) (hv : Ints w v xs) (hn : (Lit.int .i64 n).wf = true) (hl : xs.length ≤ 1048576) :
    Calls Try.prog 116 #[.int .i64 n, v] w fun e w' => e = .returned (.bool (gamesOk n xs)) ∧ Below w.heap.size w w' := by
  obtain ⟨hm, a, c, rfl, hcap, hc⟩ := hv
  clear hm
  cases ht : teamsOk n
  · clear hc
    go_enter Try.func116, Try.ntmps116
    go_wp2_with (go_at_call 133; refine (l07Teams_any _ _ hn).mono ?_; rw [ht]; rintro e w' ⟨rfl, rfl⟩)
    go_ret
    exact ⟨ret_bool (by simp [gamesOk, roundsHead, ht]), Below.refl _ _⟩
  · obtain ⟨t, rfl, h1, h2, h3⟩ := teamsOk_bounds ht
    have hne : ¬ (t : Int) = 0 := by omega
    by_cases h4 : xs.length < t
    · have h4' : (xs.length : Int) < (t : Int) := by omega
      clear hc
      go_enter Try.func116, Try.ntmps116
      go_wp2_with (go_at_call 133; refine (l07Teams_any _ _ hn).mono ?_; rw [ht]; rintro e w' ⟨rfl, rfl⟩)
      go_ret
      exact ⟨ret_bool (gamesOk_head (by rw [head_iff]; rintro ⟨_, _, h, _⟩; rw [Nat.div_eq_of_lt h4] at h; omega)), Below.refl _ _⟩
    · have h4' : ¬ (xs.length : Int) < (t : Int) := by omega
      by_cases h5 : xs.length % t = 0
      · have h5' : (((xs.length : Int) % (t : Int)) != 0) = false := by simp; omega
        obtain ⟨d, hd⟩ : ∃ d, xs.length / t = d := ⟨_, rfl⟩
        have hd' : ((xs.length : Int) / (t : Int)) = (d : Int) := by rw [← hd]; exact (Int.natCast_ediv _ _).symm
        have hd1 : 1 ≤ d := by rw [← hd]; exact (Nat.le_div_iff_mul_le (by omega)).2 (by omega)
        have hd2 : d ≤ 1048576 := by rw [← hd]; exact Nat.le_trans (Nat.div_le_self _ _) hl
        by_cases h6 : (d : Int) > 2 * (t : Int) - 2
        · have H5 := Lib.hid h5
          have HD := Lib.hid hd
          clear hc h5 hd
          go_enter Try.func116, Try.ntmps116
          go_wp2_with (go_at_call 133; refine (l07Teams_any _ _ hn).mono ?_; rw [ht]; rintro e w' ⟨rfl, rfl⟩)
          go_ret
          exact ⟨ret_bool (gamesOk_head (by rw [head_iff]; rintro ⟨_, _, _, h⟩; rw [HD.out] at h; omega)), Below.refl _ _⟩
        · have hlen : xs.length = d * t := by rw [← hd]; exact (Nat.div_mul_cancel (Nat.dvd_of_mod_eq_zero h5)).symm
          have hhead : roundsHead (t : Int) xs = true := (head_iff _ _).2 ⟨ht, h5, by rw [hd]; exact hd1, by rw [hd]; omega⟩
          have H5 := Lib.hid h5
          have HD := Lib.hid hd
          have HLEN := Lib.hid hlen
          have HHEAD := Lib.hid hhead
          have HC := Lib.hid hc
          clear h5 hd hlen hhead hc
          go_enter Try.func116, Try.ntmps116
          go_wp2_with (go_at_call 133; refine (l07Teams_any _ _ hn).mono ?_; rw [ht]; rintro e w' ⟨rfl, rfl⟩)
          go_loopw [6] (fun i wr => ∃ k : Nat, k ≤ xs.length ∧ i = .int .i64 k ∧ Below w.heap.size w wr ∧ ∀ i, i < k → win (nth xs i) 0 ((t : Int) - 1) = true ∧ ∀ k', i / t * t ≤ k' → k' < i → nth xs k' ≠ nth xs i) (fun i _ => xs.length - (intOf i).toNat)
          case atStart => exact ⟨0, Nat.zero_le _, rfl, Below.refl _ _, fun i hi => by omega⟩
          case round =>
            obtain ⟨k, hk, rfl, hB, hr⟩ := hrel
            have Hr := Lib.hid hr
            clear hr
            by_cases hlt : k < xs.length
            · obtain ⟨b, o, ha, hbs, hc1⟩ := HC.out k hlt
              rw [← nth_eq hlt] at hc1
              have hck : wr.cell? ⟨b, o + k, none⟩ = some (.int .i64 (nth xs k)) := (hB.cell (p := ⟨b, o + k, none⟩) hbs).trans hc1
              obtain ⟨p, hp⟩ : ∃ p, nth xs k = p := ⟨_, rfl⟩
              rw [hp] at hck
              have Hp := Lib.hid hp
              have hk0 : (0 : Int) ≤ (k : Int) := by omega
              have hk1 : (k : Int) < (xs.length : Int) := by omega
              obtain ⟨q, hq⟩ : ∃ q, k / t = q := ⟨_, rfl⟩
              have hq' : (k : Int) / (t : Int) = (q : Int) := by rw [← hq]; exact (Int.natCast_ediv _ _).symm
              obtain ⟨s, hs⟩ : ∃ s, q * t = s := ⟨_, rfl⟩
              have hs' : (q : Int) * (t : Int) = (s : Int) := by rw [← hs]; exact (Int.natCast_mul _ _).symm
              have hsk : s ≤ k := by rw [← hs, ← hq]; exact Nat.div_mul_le_self _ _
              have hqk : q ≤ k := by rw [← hq]; exact Nat.div_le_self _ _
              have HQ : Hid (k / t * t = s) := by show k / t * t = s; rw [hq, hs]
              clear hc1 hp hq hs
              subst ha
              cases hw : win p 0 ((t : Int) - 1)
              · go_wp2
                go_quiet ((first | (go_at_call 68; exact quiet_eq (l00In_any _ _ _ _)) | fail))
                go_wp2
                go_ret
                refine ⟨ret_bool ?_, below_drewN _ hB⟩
                symm
                unfold gamesOk
                rw [HHEAD.out, Bool.true_and, Int.toNat_natCast, HD.out, ← Bool.not_eq_true, allRounds_iff (by omega) HLEN.out]
                intro h
                have := (h k hlt).1
                rw [Hp.out, hw] at this
                cases this
              · have hlI : ((xs.take k).drop s).length = k - s := by simp; omega
                have hI : ∀ nq, Ints (wr.drewN nq) (.slice (some ⟨b, o + s, none⟩) (k - s) (c - s)) ((xs.take k).drop s) := fun nq => by
                  refine ⟨by unfold maxLen; rw [hlI]; omega, some ⟨b, o + s, none⟩, c - s, by rw [hlI], by rw [hlI]; omega, fun i hi => ⟨b, o + s, rfl, ?_, ?_⟩⟩
                  · have := hB.size; exact Nat.lt_of_lt_of_le hbs this
                  · simp at hi
                    obtain ⟨b', o', hbo, hbs', hc2⟩ := HC.out (s + i) (by omega)
                    obtain ⟨rfl, rfl⟩ : b = b' ∧ o = o' := by simpa using hbo
                    have := (hB.cell (p := ⟨b, o + (s + i), none⟩) hbs').trans hc2
                    rw [Nat.add_assoc]
                    simpa using this
                cases hhas : ((xs.take k).drop s).any (· == p)
                · have hcall := fun nq => l00Has_any _ _ p _ (hI nq)
                  rw [hhas] at hcall
                  go_wp2
                  go_quiet ((first | (go_at_call 68; exact quiet_eq (l00In_any _ _ _ _)) | (go_at_call 134; exact quiet_eq (hcall _))))
                  go_wp2
                  go_roundw
                  case rel =>
                    refine ⟨k + 1, by omega, by go_num, below_drewN _ hB, fun i hi => ?_⟩
                    rcases Nat.lt_succ_iff_lt_or_eq.1 hi with h | rfl
                    · exact Hr.out i h
                    · rw [HQ.out, Hp.out]
                      refine ⟨hw, fun j hj1 hj2 he => ?_⟩
                      rw [List.any_eq_false] at hhas
                      refine hhas (nth xs j) ?_ (by simp [he])
                      rw [nth_eq (by omega)]
                      refine List.mem_of_getElem? (i := j - s) ?_
                      rw [List.getElem?_drop, List.getElem?_take_of_lt (by omega), show s + (j - s) = j by omega, List.getElem?_eq_getElem]
                  case measure => simp [intOf]; omega
                · have hcall := fun nq => l00Has_any _ _ p _ (hI nq)
                  rw [hhas] at hcall
                  go_wp2
                  go_quiet ((first | (go_at_call 68; exact quiet_eq (l00In_any _ _ _ _)) | (go_at_call 134; exact quiet_eq (hcall _))))
                  go_wp2
                  go_ret
                  refine ⟨ret_bool ?_, below_drewN _ hB⟩
                  symm
                  unfold gamesOk
                  rw [HHEAD.out, Bool.true_and, Int.toNat_natCast, HD.out, ← Bool.not_eq_true, allRounds_iff (by omega) HLEN.out]
                  intro h
                  have h2 := (h k hlt).2
                  rw [HQ.out, Hp.out] at h2
                  rw [List.any_eq_true] at hhas
                  obtain ⟨y, hy, he⟩ := hhas
                  obtain ⟨i, hi, rfl⟩ := List.getElem_of_mem hy
                  rw [hlI] at hi
                  refine h2 (s + i) (by omega) (by omega) ?_
                  rw [nth_eq (by omega)]
                  simpa using he
            · go_wp2
              go_ret
              refine ⟨ret_bool ?_, hB⟩
              symm
              unfold gamesOk
              rw [HHEAD.out, Bool.true_and, Int.toNat_natCast, HD.out]
              exact (allRounds_iff (by omega) HLEN.out).2 (fun i hi => Hr.out i (by omega))
      · have h5' : (((xs.length : Int) % (t : Int)) != 0) = true := by simp; omega
        clear hc
        go_enter Try.func116, Try.ntmps116
        go_wp2_with (go_at_call 133; refine (l07Teams_any _ _ hn).mono ?_; rw [ht]; rintro e w' ⟨rfl, rfl⟩)
        go_ret
        exact ⟨ret_bool (gamesOk_head (by rw [head_iff]; rintro ⟨_, h, _⟩; exact h5 h)), Below.refl _ _⟩

theorem l07Rounds_any (n : Int) (v : Value) (xs : List Int) (w : World) (hv : Ints w v xs) (hn : (Lit.int .i64 n).wf = true) (hl : xs.length ≤ 1048576) :
    Calls Try.prog 63 #[.int .i64 n, v] w fun e w' => e = .returned (.bool (roundsOk n xs)) ∧ Below w.heap.size w w' := by
  have hg := l07Games_any n v xs w hv hn hl
  obtain ⟨hm, a, c, rfl, hcap, hc⟩ := hv
  cases hga : gamesOk n xs
  · rw [hga] at hg
    have Hg := Lib.hid hg
    have HGA := Lib.hid hga
    clear hg hga hc hm
    go_enter Try.func63, Try.ntmps63
    go_wp2_with (go_at_call 116; refine Hg.out.mono ?_; rintro e w' ⟨rfl, hb⟩)
    go_ret
    refine ⟨ret_bool ?_, hb⟩
    unfold roundsOk
    have := HGA.out
    unfold gamesOk at this
    rw [this, Bool.false_and]
  · rw [hga] at hg
    have hhead : roundsHead n xs = true := by unfold gamesOk at hga; rw [Bool.and_eq_true] at hga; exact hga.1
    obtain ⟨t, R, rfl, h1, h2, h3, hlen, hR1, hR2, hdiv, hR3⟩ := roundsHead_bounds hhead
    have hle : xs.length ≤ 480 := by rw [hlen]; exact Nat.le_trans (Nat.mul_le_mul hR2 h2) (by decide)
    obtain ⟨M, hM⟩ : ∃ M, R * (t / 2) = M := ⟨_, rfl⟩
    have hxm : xs.length = 2 * M := by rw [hlen, ← hM, Nat.mul_left_comm]; congr 1; omega
    have hres : roundsOk (t : Int) xs = decide (((List.range M).map (pairAt xs)).Nodup) := by
      unfold roundsOk
      unfold gamesOk at hga
      rw [hga, Bool.true_and, Int.toNat_natCast, hdiv, prs_range, hM]
    have HC := Lib.hid hc
    have Hg := Lib.hid hg
    have HXM := Lib.hid hxm
    have HRES := Lib.hid hres
    clear hc hg hga hhead hlen hdiv hM hxm hres hR1 hR2 hR3 hm hl
    have hcell : ∀ i, i < xs.length → ∃ b o, a = some ⟨b, o, none⟩ ∧ b < w.heap.size ∧ w.cell? ⟨b, o + i, none⟩ = some (.int .i64 (nth xs i)) := fun i hi => by
      obtain ⟨b, o, ha, hbs, hc1⟩ := HC.out i hi
      exact ⟨b, o, ha, hbs, by rw [nth_eq hi]; exact hc1⟩
    have HCELL := Lib.hid hcell
    clear hcell HC
    go_enter Try.func63, Try.ntmps63
    go_wp2_with (go_at_call 116; refine Hg.out.mono ?_; rintro e w' ⟨rfl, hb0⟩)
    go_loopw [5, 6] (fun i _ wr => ∃ m I : Nat, Hid (I = 2 * m) ∧ I ≤ xs.length ∧ i = .int .i64 I ∧ Below w.heap.size w wr ∧ ∀ i, i < m → ∀ k, k < i → pairAt xs i ≠ pairAt xs k) (fun i _ _ => xs.length - (intOf i).toNat)
    case atStart => exact ⟨0, 0, rfl, Nat.zero_le _, rfl, hb0, fun i hi => by omega⟩
    case round =>
      obtain ⟨m, I, hmI, hm, rfl, hB, hr⟩ := hrel
      have Hr := Lib.hid hr
      clear hr hb0
      by_cases hlt : I < xs.length
      · have hlt2 : I + 1 < xs.length := by have := HXM.out; have := hmI.out; omega
        obtain ⟨b, o, ha, hbs, hc0⟩ := HCELL.out I hlt
        obtain ⟨b', o', ha', _, hc1⟩ := HCELL.out (I + 1) hlt2
        obtain ⟨rfl, rfl⟩ : b = b' ∧ o = o' := by rw [ha] at ha'; simpa using ha'
        obtain ⟨p0, hp0⟩ : ∃ p, nth xs I = p := ⟨_, rfl⟩
        obtain ⟨p1, hp1⟩ : ∃ p, nth xs (I + 1) = p := ⟨_, rfl⟩
        rw [hp0] at hc0
        rw [hp1] at hc1
        have HPM : Hid (pairAt xs m = (p0, p1)) := by show pairAt xs m = (p0, p1); unfold pairAt; rw [← hmI.out, hp0, hp1]
        clear hp0 hp1 ha'
        subst ha
        go_wp2
        go_loopw [6] (fun j wk => ∃ k J : Nat, Hid (J = 2 * k) ∧ J ≤ I ∧ j = .int .i64 J ∧ Below w.heap.size w wk ∧ ∀ k', k' < k → pairAt xs m ≠ pairAt xs k') (fun j _ => I - (intOf j).toNat)
        case atStart => exact ⟨0, 0, rfl, Nat.zero_le _, rfl, hB, fun i hi => by omega⟩
        case round =>
          obtain ⟨k, J, hkJ, hk, rfl, hBk, hrk⟩ := hrel
          have Hrk := Lib.hid hrk
          clear hrk
          by_cases hkm : J < I
          · have hkm2 : J + 2 ≤ I := by have := hmI.out; have := hkJ.out; omega
            obtain ⟨b', o', ha', _, hd0⟩ := HCELL.out J (by omega)
            obtain ⟨rfl, rfl⟩ : b = b' ∧ o = o' := by simpa using ha'
            obtain ⟨b', o', ha', _, hd1⟩ := HCELL.out (J + 1) (by omega)
            obtain ⟨rfl, rfl⟩ : b = b' ∧ o = o' := by simpa using ha'
            obtain ⟨q0, hq0⟩ : ∃ p, nth xs J = p := ⟨_, rfl⟩
            obtain ⟨q1, hq1⟩ : ∃ p, nth xs (J + 1) = p := ⟨_, rfl⟩
            rw [hq0] at hd0
            rw [hq1] at hd1
            have HQM : Hid (pairAt xs k = (q0, q1)) := by show pairAt xs k = (q0, q1); unfold pairAt; rw [← hkJ.out, hq0, hq1]
            clear hq0 hq1 ha'
            have e0 : wr.cell? ⟨b, o + I, none⟩ = some (.int .i64 p0) := (hBk.cell (p := ⟨b, o + I, none⟩) hbs).trans hc0
            have e1 : wr.cell? ⟨b, o + (I + 1), none⟩ = some (.int .i64 p1) := (hBk.cell (p := ⟨b, o + (I + 1), none⟩) hbs).trans hc1
            have f0 : wr.cell? ⟨b, o + J, none⟩ = some (.int .i64 q0) := (hBk.cell (p := ⟨b, o + J, none⟩) hbs).trans hd0
            have f1 : wr.cell? ⟨b, o + (J + 1), none⟩ = some (.int .i64 q1) := (hBk.cell (p := ⟨b, o + (J + 1), none⟩) hbs).trans hd1
            have i0 : (0 : Int) ≤ (I : Int) := by omega
            have i1 : (I : Int) < (xs.length : Int) := by omega
            have i2 : (I : Int) + 1 < (xs.length : Int) := by omega
            have j0 : (0 : Int) ≤ (J : Int) := by omega
            have j1 : (J : Int) < (xs.length : Int) := by omega
            have j2 : (J : Int) + 1 < (xs.length : Int) := by omega
            clear hc0 hc1 hd0 hd1
            cases c0 : (p0 == q0)
            · go_wp2
              go_quiet (fail)
              go_wp2
              go_roundw
              case rel =>
                refine ⟨k + 1, J + 2, by have := hkJ.out; show J + 2 = 2 * (k + 1); omega, hkm2, by go_num, below_drewN _ hBk, fun k' hk' => ?_⟩
                rcases Nat.lt_succ_iff_lt_or_eq.1 hk' with h | rfl
                · exact Hrk.out k' h
                · rw [HPM.out, HQM.out]; intro he; simp only [Prod.mk.injEq] at he; simp [he.1] at c0
              case measure => simp [intOf]; omega
            · cases c1 : (p1 == q1)
              · go_wp2
                go_quiet (fail)
                go_wp2
                go_roundw
                case rel =>
                  refine ⟨k + 1, J + 2, by have := hkJ.out; show J + 2 = 2 * (k + 1); omega, hkm2, by go_num, below_drewN _ hBk, fun k' hk' => ?_⟩
                  rcases Nat.lt_succ_iff_lt_or_eq.1 hk' with h | rfl
                  · exact Hrk.out k' h
                  · rw [HPM.out, HQM.out]; intro he; simp only [Prod.mk.injEq] at he; simp [he.2] at c1
                case measure => simp [intOf]; omega
              · go_wp2
                go_quiet (fail)
                go_wp2
                go_ret
                refine ⟨ret_bool ?_, below_drewN _ hBk⟩
                symm
                rw [HRES.out, decide_eq_false_iff_not, nodup_pairs]
                intro h
                refine h m (by have := HXM.out; have := hmI.out; omega) k (by have := hkJ.out; have := hmI.out; omega) ?_
                rw [HPM.out, HQM.out]
                simp at c0 c1
                rw [c0, c1]
          · obtain rfl : J = I := by omega
            obtain rfl : k = m := by have := hkJ.out; have := hmI.out; omega
            go_wp2
            go_roundw
            case rel =>
              refine ⟨k + 1, J + 2, by have := hkJ.out; show J + 2 = 2 * (k + 1); omega, by omega, by go_num, hBk, fun i hi => ?_⟩
              rcases Nat.lt_succ_iff_lt_or_eq.1 hi with h | rfl
              · exact Hr.out i h
              · exact Hrk.out
            case measure => simp [intOf]; omega
      · go_wp2
        go_ret
        refine ⟨ret_bool ?_, hB⟩
        symm
        rw [HRES.out, decide_eq_true_iff, nodup_pairs]
        exact fun i hi => Hr.out i (by have := HXM.out; have := hmI.out; omega)

theorem implRounds_any (n : Int) (v : Value) (xs : List Int) (w : World) (hv : Ints w v xs) (hn : (Lit.int .i64 n).wf = true) (hl : xs.length ≤ 1048576) :
    Calls Try.prog 18 #[.int .i64 n, v] w fun e w' => e = .returned (.bool (roundsOk n xs)) ∧ Below w.heap.size w w' := by
  cases h : roundsHead n xs
  · refine (implRounds_no n v xs w hv h hn hl).mono ?_
    rintro e w' ⟨rfl, hb⟩
    exact ⟨ret_bool (by unfold roundsOk; rw [h]; rfl), hb⟩
  · obtain ⟨t, R, rfl, h1, h2, h3, hlen, hR1, hR2, hdiv, hR3⟩ := roundsHead_bounds h
    refine (implRounds_yes t R (t / 2) v xs w hv h1 h2 (by omega) hlen hR1 hR2 hR3).mono ?_
    rintro e w' ⟨rfl, hb⟩
    exact ⟨ret_bool (by unfold roundsOk; rw [h, Bool.true_and, Int.toNat_natCast, hdiv]), hb⟩
end Go.Proofs.Ytmhepomjbaendaa
