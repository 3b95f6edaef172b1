/- MeetingTime, program and reference: the contracts of both, by one plain function. Conditions: none. -/
import Derived.Test.YthnjbgncomoiiaaFuncs
namespace Go.Proofs.Ythnjbgncomoiiaa
open Go.RowKit Go.Shelf Go.BigFrame
set_option linter.unusedVariables false
set_option linter.unusedSimpArgs false

def meetHead (zones : List Int) (op cl lo : Int) : Bool := many zones 1 8 (-720) 840 && win op 0 1439 && win cl op 1440 && win lo 1 1440
/-- At this minute the meeting is outside the zone's opening time. -/
def badAt (op cl lo minute zone : Int) : Bool := decide ((minute + zone) % 1440 < op) || decide (cl < (minute + zone) % 1440 + lo)
def freeMin (zones : List Int) (op cl lo : Int) (m : Nat) : Bool := !(zones.any (badAt op cl lo m))
def meetAt (zones : List Int) (op cl lo : Int) : Option Nat := (List.range 1440).find? (freeMin zones op cl lo)
/-- What MeetingTime returns. -/
def meetRes (zones : List Int) (op cl lo : Int) : Value :=
  if meetHead zones op cl lo then (match meetAt zones op cl lo with | some m => .tuple #[.int .i64 m, .bool true] | none => .tuple #[.int .i64 0, .bool false]) else .tuple #[.int .i64 0, .bool false]

def meetR1 (zones : List Int) (op cl lo : Int) : Int := if meetHead zones op cl lo then (match meetAt zones op cl lo with | some m => (m : Int) | none => 0) else 0
def meetR2 (zones : List Int) (op cl lo : Int) : Bool := meetHead zones op cl lo && (meetAt zones op cl lo).isSome
theorem meetRes_eq (zones : List Int) (op cl lo : Int) : meetRes zones op cl lo = .tuple #[.int .i64 (meetR1 zones op cl lo), .bool (meetR2 zones op cl lo)] := by
  unfold meetRes meetR1 meetR2
  cases meetHead zones op cl lo
  · rfl
  · cases meetAt zones op cl lo <;> rfl

theorem meetHead_bounds {zones : List Int} {op cl lo : Int} (h : meetHead zones op cl lo = true) : 0 ≤ op ∧ op ≤ 1439 ∧ op ≤ cl ∧ cl ≤ 1440 ∧ 1 ≤ lo ∧ lo ≤ 1440 ∧ 1 ≤ zones.length ∧ zones.length ≤ 8 ∧ ∀ z ∈ zones, -720 ≤ z ∧ z ≤ 840 := by
  simp only [meetHead, Bool.and_eq_true, win_true, many_true, List.all_eq_true] at h
  obtain ⟨⟨⟨⟨h1, h2, h3⟩, h4⟩, h5⟩, h6⟩ := h
  refine ⟨h4.1, h4.2, h5.1, h5.2, h6.1, h6.2, by omega, by omega, fun z hz => h3 z hz⟩

theorem find_none {f : Nat → Bool} {n : Nat} (h : ∀ i, i < n → f i = false) : (List.range n).find? f = none := by
  rw [List.find?_eq_none]; intro x hx; simpa using h x (List.mem_range.1 hx)
theorem find_some {f : Nat → Bool} {n k : Nat} (hk : k < n) (h : ∀ i, i < k → f i = false) (hf : f k = true) : (List.range n).find? f = some k := by
  obtain ⟨d, rfl⟩ : ∃ d, n = k + (d + 1) := ⟨n - k - 1, by omega⟩
  rw [List.range_add, List.find?_append, find_none h]
  simp [List.range_succ_eq_map, hf]

theorem meetClosure_any (z minute op cl lo : Int) (a1 a2 a3 a4 : Nat) (w : World) (h1 : w.cell? ⟨a1, 0, none⟩ = some (.int .i64 minute)) (h2 : w.cell? ⟨a2, 0, none⟩ = some (.int .i64 op)) (h3 : w.cell? ⟨a3, 0, none⟩ = some (.int .i64 lo)) (h4 : w.cell? ⟨a4, 0, none⟩ = some (.int .i64 cl))
    (b1 : 0 ≤ minute) (b2 : minute ≤ 1439) (b3 : -720 ≤ z) (b4 : z ≤ 840) (b5 : 1 ≤ lo) (b6 : lo ≤ 1440) :
    Calls Try.prog 59 #[.int .i64 z, .pointer (some ⟨a1, 0, none⟩), .pointer (some ⟨a2, 0, none⟩), .pointer (some ⟨a3, 0, none⟩), .pointer (some ⟨a4, 0, none⟩)] w fun e w' => e = .returned (.bool (badAt op cl lo minute z)) ∧ w = w' := by
  obtain ⟨q, hq⟩ : ∃ q, (minute + z) % 1440 = q := ⟨_, rfl⟩
  have hc := localTime_yes minute z w (by omega) (by omega) b3 b4
  rw [hq] at hc
  have Hc := Lib.hid hc
  have hq1 : 0 ≤ q := by omega
  have hq2 : q < 1440 := by omega
  unfold badAt
  rw [hq]
  clear hc hq
  by_cases ha : q < op
  · go_enter Try.func59, Try.ntmps59
    go_wp2_with fail
    refine Hc.out.mono ?_
    rintro e w' ⟨rfl, rfl⟩
    go_wp2
    go_ret
    exact ⟨ret_bool (by simp [ha]), rfl⟩
  · have hd : decide (q < op) = false := by simpa using ha
    go_enter Try.func59, Try.ntmps59
    go_wp2_with fail
    refine Hc.out.mono ?_
    rintro e w' ⟨rfl, rfl⟩
    go_wp2
    go_ret
    exact ⟨ret_bool (by simp [hd]), rfl⟩

set_option maxRecDepth 100000 in
set_option maxHeartbeats 1000000 in
theorem implMeeting_any (v : Value) (zones : List Int) (op cl lo : Int) (w : World) (hv : Ints w v zones) (hcw : (Lit.int .i64 cl).wf = true) :
    Calls Try.prog 29 #[v, .int .i64 op, .int .i64 cl, .int .i64 lo] w fun e w' => e = .returned (meetRes zones op cl lo) ∧ Below w.heap.size w w' := by
  obtain ⟨W0, hW0⟩ : ∃ W0, (((w.alloc (.cells #[.int .i64 op] 2)).alloc (.cells #[.int .i64 cl] 2)).alloc (.cells #[.int .i64 lo] 2)) = W0 := ⟨_, rfl⟩
  have hB0 : Below w.heap.size w W0 := by rw [← hW0]; exact (((Below.refl _ w).alloc (Nat.le_refl _) _).alloc (by simp) _).alloc (by simp; omega) _
  have hsz : W0.heap.size = w.heap.size + 3 := by rw [← hW0]; simp
  have hb0 : Boxed W0 w.heap.size 2 (.int .i64 op) := by rw [← hW0]; exact ((Boxed.new _ _ _).alloc _).alloc _
  have hb1 : Boxed W0 (w.heap.size + 1) 2 (.int .i64 cl) := by rw [← hW0]; have := (Boxed.new (w.alloc (.cells #[.int .i64 op] 2)) 2 (.int .i64 cl)).alloc (.cells #[.int .i64 lo] 2); rwa [World.size_alloc] at this
  have hb2 : Boxed W0 (w.heap.size + 1 + 1) 2 (.int .i64 lo) := by rw [← hW0]; have := Boxed.new ((w.alloc (.cells #[.int .i64 op] 2)).alloc (.cells #[.int .i64 cl] 2)) 2 (.int .i64 lo); rwa [World.size_alloc, World.size_alloc] at this
  have hc0 := hb0.cell
  have hc1 := hb1.cell
  have hc2 := hb2.cell
  have hv0 := hv.below hB0 (Nat.le_refl _)
  cases hh : meetHead zones op cl lo
  · have hres : meetRes zones op cl lo = .tuple #[.int .i64 0, .bool false] := by simp [meetRes, hh]
    rw [hres]
    unfold meetHead at hh
    clear hres hb0 hb1 hb2
    cases h1 : many zones 1 8 (-720) 840
    all_goals cases h2 : win op 0 1439
    all_goals cases h3 : win cl op 1440
    all_goals cases h4 : win lo 1 1440
    all_goals simp [h1, h2, h3, h4] at hh
    all_goals
      go_enter Try.func29, Try.ntmps29
      go_wp2_with (first | (go_at_call 53; refine (areMany_any _ zones _ _ _ _ _ hv0).mono ?_; rintro e w' ⟨rfl, rfl⟩) | (go_at_call 45; refine (within_any _ _ _ _).mono ?_; rintro e w' ⟨rfl, rfl⟩))
      go_ret2
      exact ⟨rfl, hB0⟩
  · obtain ⟨k1, k2, k3, k4, k5, k6, k7, k8, k9⟩ := meetHead_bounds hh
    have hh2 := hh
    simp only [meetHead, Bool.and_eq_true] at hh2
    obtain ⟨⟨⟨h1, h2⟩, h3⟩, h4⟩ := hh2
    have hmf : ∀ (fn : Fn) (first cap : Array Value) (w : World), (Instr.makeFunc fn first cap).run Try.prog w = .ok (.func fn first cap) w := fun _ _ _ _ => rfl
    have K9 := Lib.hid k9
    have HH := Lib.hid hh
    have HB0 := Lib.hid hb0
    have HB1 := Lib.hid hb1
    have HB2 := Lib.hid hb2
    clear hb0 hb1 hb2 k9 hh
    go_enter Try.func29, Try.ntmps29
    go_wp2_with (first | (go_at_call 53; refine (areMany_any _ zones _ _ _ _ _ hv0).mono ?_; rintro e w' ⟨rfl, rfl⟩) | (go_at_call 45; refine (within_any _ _ _ _).mono ?_; rintro e w' ⟨rfl, rfl⟩))
    go_loopw [30] (fun i wr => ∃ k : Nat, k ≤ 1440 ∧ i = .int .i64 k ∧ Below W0.heap.size W0 wr ∧ ∀ j, j < k → freeMin zones op cl lo j = false) (fun i _ => 1440 - (intOf i).toNat)
    case atStart => exact ⟨0, Nat.zero_le _, rfl, Below.refl _ _, fun j hj => by omega⟩
    case round =>
      obtain ⟨k, hk, rfl, hb, hr⟩ := hrel
      have Hr := Lib.hid hr
      clear hr hc0 hc1 hc2 hv0
      by_cases hlt : k < 1440
      · have hBk : Below w.heap.size w (wr.alloc (.cells #[.int .i64 k] 2)) := (hB0.trans (hb.mono hB0.size)).alloc (by have := hb.size; omega) _
        have hbk := (hb.alloc (Nat.le_trans hb.size (Nat.le_refl _)) (.cells #[.int .i64 (k : Int)] 2))
        have hcont := containsFunc_any v zones 59 #[.pointer (some ⟨wr.heap.size, 0, none⟩), .pointer (some ⟨w.heap.size, 0, none⟩), .pointer (some ⟨w.heap.size + 1 + 1, 0, none⟩), .pointer (some ⟨w.heap.size + 1, 0, none⟩)]
          (badAt op cl lo k) (wr.alloc (.cells #[.int .i64 k] 2)) (hv.below hBk (Nat.le_refl _))
          (by
            intro W hW x hx
            have hxb := K9.out x hx
            refine (meetClosure_any x k op cl lo wr.heap.size w.heap.size (w.heap.size + 1 + 1) (w.heap.size + 1) W ?_ ?_ ?_ ?_ (by omega) (by omega) hxb.1 hxb.2 k5 k6).mono ?_
            · exact (hW.cell (p := ⟨wr.heap.size, 0, none⟩) (by simp)).trans (Boxed.new wr _ _).cell
            · exact (hW.cell (p := ⟨w.heap.size, 0, none⟩) (by have := hb.size; simp; omega)).trans ((hbk.cell (p := ⟨w.heap.size, 0, none⟩) (by show w.heap.size < _; omega)).trans HB0.out.cell)
            · exact (hW.cell (p := ⟨w.heap.size + 1 + 1, 0, none⟩) (by have := hb.size; simp; omega)).trans ((hbk.cell (p := ⟨w.heap.size + 1 + 1, 0, none⟩) (by show w.heap.size + 1 + 1 < _; omega)).trans HB2.out.cell)
            · exact (hW.cell (p := ⟨w.heap.size + 1, 0, none⟩) (by have := hb.size; simp; omega)).trans ((hbk.cell (p := ⟨w.heap.size + 1, 0, none⟩) (by show w.heap.size + 1 < _; omega)).trans HB1.out.cell)
            · rintro e w' ⟨rfl, rfl⟩
              exact ⟨rfl, Below.refl _ _⟩)
          (enters_of Try.func59 (by kernel_rfl) rfl)
        have Hcont := Lib.hid hcont
        have HBk := Lib.hid hBk
        have Hbk := Lib.hid hbk
        clear hcont hBk hbk
        go_wp2_with fail
        refine Hcont.out.mono ?_
        rintro e w1 ⟨rfl, hb1⟩
        have hm1 : w1.cell? ⟨wr.heap.size, 0, none⟩ = some (.int .i64 k) := (hb1.cell (p := ⟨wr.heap.size, 0, none⟩) (by simp)).trans (Boxed.new wr _ _).cell
        have hB1 : Below w.heap.size w w1 := HBk.out.trans (hb1.mono HBk.out.size)
        have hb2 : Below W0.heap.size W0 w1 := Hbk.out.trans (hb1.mono Hbk.out.size)
        cases hf : zones.any (badAt op cl lo k)
        · go_wp2
          go_ret2
          refine ⟨?_, hB1⟩
          have hmt : meetAt zones op cl lo = some k := find_some hlt Hr.out (by simp [freeMin, hf])
          simp [meetRes, HH.out, hmt]
        · go_wp2
          go_roundw
          case rel =>
            refine ⟨k + 1, by omega, by go_num, hb2, fun j hj => ?_⟩
            rcases Nat.lt_succ_iff_lt_or_eq.1 hj with h | rfl
            · exact Hr.out j h
            · simp [freeMin, hf]
          case measure => simp [intOf]; omega
      · go_wp2
        go_ret2
        refine ⟨?_, hB0.trans (hb.mono hB0.size)⟩
        have hmt : meetAt zones op cl lo = none := find_none (fun i hi => Hr.out i (by omega))
        simp [meetRes, HH.out, hmt]

theorem specMeet_mod (k z : Int) (h1 : 0 ≤ k) (h2 : -720 ≤ z) : (k + z + 1440) % 1440 = (k + z) % 1440 := by omega

set_option maxRecDepth 100000 in
set_option maxHeartbeats 1000000 in
theorem specMeeting_any (v : Value) (zones : List Int) (op cl lo : Int) (w : World) (hv : Ints w v zones) (hcw : (Lit.int .i64 cl).wf = true) (hlw : (Lit.int .i64 lo).wf = true) :
    Calls Try.prog 30 #[v, .int .i64 op, .int .i64 cl, .int .i64 lo] w fun e w' => e = .returned (meetRes zones op cl lo) ∧ Below w.heap.size w w' := by
  have hvv := hv
  obtain ⟨hm, a, c, rfl, hcap, hc⟩ := hv
  unfold maxLen at hm
  by_cases hl1 : 1 ≤ zones.length
  · by_cases hl2 : zones.length ≤ 8
    · cases h2 : win op 0 1439
      · have hres : meetRes zones op cl lo = .tuple #[.int .i64 0, .bool false] := by simp [meetRes, meetHead, h2]
        rw [hres]
        clear hc hres hvv
        go_enter Try.func30, Try.ntmps30
        go_wp2_with (go_at_call 43; refine (l00In_any _ _ _ _).mono ?_; rintro e w' ⟨rfl, rfl⟩)
        go_ret2
        exact ⟨rfl, Below.refl _ _⟩
      · cases h3 : win cl op 1440
        · have hres : meetRes zones op cl lo = .tuple #[.int .i64 0, .bool false] := by simp [meetRes, meetHead, h3]
          rw [hres]
          clear hc hres hvv
          go_enter Try.func30, Try.ntmps30
          go_wp2_with (go_at_call 43; refine (l00In_any _ _ _ _).mono ?_; rintro e w' ⟨rfl, rfl⟩)
          go_ret2
          exact ⟨rfl, Below.refl _ _⟩
        · cases h4 : win lo 1 1440
          · have hres : meetRes zones op cl lo = .tuple #[.int .i64 0, .bool false] := by simp [meetRes, meetHead, h4]
            rw [hres]
            clear hc hres hvv
            go_enter Try.func30, Try.ntmps30
            go_wp2_with (go_at_call 43; refine (l00In_any _ _ _ _).mono ?_; rintro e w' ⟨rfl, rfl⟩)
            go_ret2
            exact ⟨rfl, Below.refl _ _⟩
          · have k2 := win_true.1 h2
            have k3 := win_true.1 h3
            have k4 := win_true.1 h4
            obtain ⟨k2a, k2b⟩ := k2
            obtain ⟨k3a, k3b⟩ := k3
            obtain ⟨k4a, k4b⟩ := k4
            have Hhh := Lib.hid (show meetHead zones op cl lo = (zones.all fun x => win x (-720) 840) by simp [meetHead, many, h2, h3, h4]; omega)
            go_enter Try.func30, Try.ntmps30
            go_wp2_with (go_at_call 43; refine (l00In_any _ _ _ _).mono ?_; rintro e w' ⟨rfl, rfl⟩)
            go_loop [10, 41] (fun _ i => ∃ k : Nat, k ≤ zones.length ∧ i = .int .i64 k ∧ (zones.take k).all (fun x => win x (-720) 840) = true) (fun _ i => zones.length - (intOf i).toNat)
            case atStart => exact ⟨0, Nat.zero_le _, rfl, rfl⟩
            case round =>
              obtain ⟨k, hk, rfl, hr⟩ := hrel
              have Hr := Lib.hid hr
              clear hr
              by_cases hlt : k < zones.length
              · obtain ⟨b, o, rfl, hbs, hck⟩ := hc k hlt
                obtain ⟨p, hp⟩ : ∃ p, zones[k] = p := ⟨_, rfl⟩
                rw [hp] at hck
                have Hp := Lib.hid hp
                clear hc hp
                cases hw : win p (-720) 840
                · go_wp2_with (go_at_call 44; refine (l07Zone_any _ _).mono ?_; rintro e w' ⟨rfl, rfl⟩)
                  go_ret2
                  have hf : (zones.all fun x => win x (-720) 840) = false := by
                    rw [List.all_eq_false]; exact ⟨zones[k], List.getElem_mem _, by rw [Hp.out, hw]; simp⟩
                  exact ⟨by rw [meetRes, Hhh.out, hf]; rfl, Below.refl _ _⟩
                · go_wp2_with (go_at_call 44; refine (l07Zone_any _ _).mono ?_; rintro e w' ⟨rfl, rfl⟩)
                  go_round
                  case rel =>
                    refine ⟨k + 1, by omega, by go_num, ?_⟩
                    rw [List.take_succ_eq_append_getElem hlt, List.all_append, Hr.out]
                    simp [Hp.out, hw]
                  case measure => simp [intOf]; omega
              · have hall : (zones.all fun x => win x (-720) 840) = true := by
                  have := Hr.out; rwa [List.take_of_length_le (by omega)] at this
                have Hall := Lib.hid hall
                have hz : Hid (∀ i (h : i < zones.length), -720 ≤ zones[i] ∧ zones[i] ≤ 840) := fun i h => win_true.1 (List.all_eq_true.1 hall _ (List.getElem_mem h))
                clear hall Hr
                go_wp2
                go_loop [11, 12, 13, 14, 57] (fun t _ _ _ _ => ∃ m : Nat, m ≤ 1440 ∧ t = .int .i64 m ∧ ∀ j, j < m → freeMin zones op cl lo j = false) (fun t _ _ _ _ => 1440 - (intOf t).toNat)
                case atStart => exact ⟨0, Nat.zero_le _, rfl, fun j hj => by omega⟩
                case round =>
                  obtain ⟨m, hm', rfl, hr⟩ := hrel
                  have Hr := Lib.hid hr
                  clear hr
                  by_cases hltm : m < 1440
                  · go_wp2
                    go_loop [12, 13, 14, 57] (fun fr _ _ i => ∃ k : Nat, k ≤ zones.length ∧ i = .int .i64 k ∧ fr = .bool (!((zones.take k).any (badAt op cl lo m)))) (fun _ _ _ i => zones.length - (intOf i).toNat)
                    case atStart => exact ⟨0, Nat.zero_le _, rfl, rfl⟩
                    case round =>
                      obtain ⟨k, hk, rfl, rfl⟩ := hrel
                      by_cases hlt : k < zones.length
                      · obtain ⟨b, o, rfl, hbs, hck⟩ := hc k hlt
                        have hz0 := hz.out k hlt
                        obtain ⟨p, hp⟩ : ∃ p, zones[k] = p := ⟨_, rfl⟩
                        rw [hp] at hck hz0
                        obtain ⟨hz1, hz2⟩ := hz0
                        have hmod := specMeet_mod m p (by omega) hz1
                        have Hmod := Lib.hid hmod
                        have Hp := Lib.hid hp
                        obtain ⟨q, hq⟩ : ∃ q, (m + p + 1440) % 1440 = q := ⟨_, rfl⟩
                        have hq1 : 0 ≤ q := by omega
                        have hq2 : q < 1440 := by omega
                        have hbad : badAt op cl lo m p = (decide (q < op) || decide (cl < q + lo)) := by unfold badAt; rw [← hmod, hq]
                        have Hbad := Lib.hid hbad
                        clear hc hp hmod hbad
                        have hstep : ∀ b', badAt op cl lo m p = b' → (zones.take (k + 1)).any (badAt op cl lo m) = ((zones.take k).any (badAt op cl lo m) || b') := fun b' hb' => by
                          rw [List.take_succ_eq_append_getElem hlt, List.any_append, Hp.out]; simp [hb']
                        have Hstep := Lib.hid hstep
                        clear hstep
                        by_cases ha : q < op
                        · go_wp2
                          go_round
                          case rel =>
                            have := Hstep.out true (by rw [Hbad.out]; simp [ha])
                            exact ⟨k + 1, by omega, by go_num, val_bool (by rw [this]; simp)⟩
                          case measure => simp [intOf]; omega
                        · have hd : decide (q < op) = false := by simpa using ha
                          by_cases hb' : cl < q + lo
                          · go_wp2
                            go_round
                            case rel =>
                              have := Hstep.out true (by rw [Hbad.out]; simp [hb'])
                              exact ⟨k + 1, by omega, by go_num, val_bool (by rw [this]; simp)⟩
                            case measure => simp [intOf]; omega
                          · have hd2 : decide (cl < q + lo) = false := by simpa using hb'
                            go_wp2
                            go_round
                            case rel =>
                              have := Hstep.out false (by rw [Hbad.out, hd, hd2]; rfl)
                              exact ⟨k + 1, by omega, by go_num, val_bool (by rw [this]; simp)⟩
                            case measure => simp [intOf]; omega
                      · have htk : zones.take k = zones := List.take_of_length_le (by omega)
                        rw [htk]
                        have Hhd : Hid (meetHead zones op cl lo = true) := by rw [Hhh.out]; exact Hall.out
                        clear hc htk
                        cases hf : zones.any (badAt op cl lo m)
                        · go_wp2
                          go_ret2
                          refine ⟨?_, Below.refl _ _⟩
                          have hmt : meetAt zones op cl lo = some m := find_some hltm Hr.out (by simp [freeMin, hf])
                          simp [meetRes, Hhd.out, hmt]
                        · go_wp2
                          go_round
                          case rel =>
                            refine ⟨m + 1, by omega, by go_num, fun j hj => ?_⟩
                            rcases Nat.lt_succ_iff_lt_or_eq.1 hj with h | rfl
                            · exact Hr.out j h
                            · simp [freeMin, hf]
                          case measure => simp [intOf]; omega
                  · go_wp2
                    go_ret2
                    refine ⟨?_, Below.refl _ _⟩
                    have hmt : meetAt zones op cl lo = none := find_none (fun i hi => Hr.out i (by omega))
                    simp [meetRes, Hhh.out, Hall.out, hmt]
    · have hres : meetRes zones op cl lo = .tuple #[.int .i64 0, .bool false] := by
        have : many zones 1 8 (-720) 840 = false := by
          cases h : many zones 1 8 (-720) 840
          · rfl
          · have := many_true.1 h; omega
        simp [meetRes, meetHead, this]
      rw [hres]
      clear hc hres hvv
      go_enter Try.func30, Try.ntmps30
      go_wp2
      go_ret2
      exact ⟨rfl, Below.refl _ _⟩
  · have hres : meetRes zones op cl lo = .tuple #[.int .i64 0, .bool false] := by
      have : many zones 1 8 (-720) 840 = false := by
        cases h : many zones 1 8 (-720) 840
        · rfl
        · have := many_true.1 h; omega
      simp [meetRes, meetHead, this]
    rw [hres]
    clear hc hres hvv
    go_enter Try.func30, Try.ntmps30
    go_wp2
    go_ret2
    exact ⟨rfl, Below.refl _ _⟩

theorem implMeeting_r (v : Value) (zones : List Int) (op cl lo : Int) (w : World) (hv : Ints w v zones) (hcw : (Lit.int .i64 cl).wf = true) :
    Calls Try.prog 29 #[v, .int .i64 op, .int .i64 cl, .int .i64 lo] w fun e w' => e = .returned (.tuple #[.int .i64 (meetR1 zones op cl lo), .bool (meetR2 zones op cl lo)]) ∧ Below w.heap.size w w' := by
  rw [← meetRes_eq]; exact implMeeting_any v zones op cl lo w hv hcw
theorem specMeeting_r (v : Value) (zones : List Int) (op cl lo : Int) (w : World) (hv : Ints w v zones) (hcw : (Lit.int .i64 cl).wf = true) (hlw : (Lit.int .i64 lo).wf = true) :
    Calls Try.prog 30 #[v, .int .i64 op, .int .i64 cl, .int .i64 lo] w fun e w' => e = .returned (.tuple #[.int .i64 (meetR1 zones op cl lo), .bool (meetR2 zones op cl lo)]) ∧ Below w.heap.size w w' := by
  rw [← meetRes_eq]; exact specMeeting_any v zones op cl lo w hv hcw hlw
end Go.Proofs.Ythnjbgncomoiiaa
