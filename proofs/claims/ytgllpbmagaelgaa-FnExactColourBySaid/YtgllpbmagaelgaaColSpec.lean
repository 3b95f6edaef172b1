
/- ColourBy, the reference: its contract. Conditions: at most 2^20 numbers. -/
import Derived.Test.YtgllpbmagaelgaaColPlain
namespace Go.Proofs.Ytgllpbmagaelgaa
open Go.RowKit Go.BigFrame
set_option linter.unusedVariables false
set_option linter.unusedSimpArgs false
attribute [local go_sem] Oper.semAt_some

theorem reps_succ (k : Nat) : List.replicate (k + 1) (-1 : Int) = List.replicate k (-1) ++ [-1] := by rw [List.replicate_succ', ]

set_option maxRecDepth 100000 in
set_option maxHeartbeats 2000000 in
theorem specColBy_yes (t : Nat) (v u : Value) (xs order : List Int) (w : World) (hv : Ints w v xs) (hu : Ints w u order) (ht1 : 1 ≤ t) (ht : t ≤ 12) (hl : xs.length ≤ 64) (hev : xs.length % 2 = 0)
    (hol : order.length = t) (ho : ∀ i, i < order.length → 0 ≤ nth order i ∧ nth order i < (t : Int)) (hc1 : clashesOk (t : Int) xs = true) (hc2 : orders (t : Int) order = true) :
    Calls Try.prog 58 #[.int .i64 t, v, u] w fun e w' => (∃ v', e = .returned (.tuple #[v', .bool true]) ∧ OwnI w' w.heap.size v' (colTo t xs order t)) ∧ Below w.heap.size w w' := by
  have hca := specClashes_any (t : Int) v xs w hv (wf_i64_iff.2 ⟨by omega, by omega⟩)
  rw [hc1] at hca
  have HCA := Lib.hid hca
  have HIO : Hid (∀ W, Below w.heap.size w W → Calls Try.prog 116 #[u, .int .i64 t] W fun e w' => e = .returned (.bool true) ∧ Below W.heap.size W w') := fun W hW => by
    have := l02Orders_any (t : Int) u order W (hu.below hW (Nat.le_refl _)) ⟨by omega, by omega⟩ (by omega)
    rw [hc2] at this
    exact this
  have HCL : Hid (∀ W a b, Below w.heap.size w W → Calls Try.prog 76 #[v, .int .i64 a, .int .i64 b] W fun e w' => e = .returned (.bool (clashB xs a b)) ∧ W = w') := fun W a b hW => l07Clash_any v xs a b W (hv.below hW (Nat.le_refl _)) hev (by omega)
  have HU : Hid (∀ W, Below w.heap.size w W → Ints W u order) := fun W hW => hu.below hW (Nat.le_refl _)
  obtain ⟨hm, a, c, rfl, hcap, hc⟩ := hv
  obtain ⟨hm', a', c', rfl, hcap', hc'⟩ := hu
  have HO := Lib.hid ho
  have HOL := Lib.hid hol
  clear hca ho hol hc1 hc2 hc hc' hm hm' hev
  go_enter Try.func58, Try.ntmps58
  go_wp2_with (first
    | (go_at_call 75; refine HCA.out.mono ?_; rintro e W1 ⟨rfl, hb1⟩; have HB1 := Lib.hid hb1; clear hb1)
    | (go_at_call 116; refine (HIO.out _ HB1.out).mono ?_; rintro e W2 ⟨rfl, hb2⟩; have HB2 := Lib.hid (HB1.out.trans (hb2.mono HB1.out.size)); clear hb2))
  have hws := HB2.out.size
  have HA0 : Hid (OwnI (W2.alloc (.cells #[] 2)) w.heap.size (.slice (some ⟨W2.heap.size, 0, none⟩) 0 0) (List.replicate 0 (-1))) := OwnI.lit W2 w.heap.size [] hws (Nat.zero_le _)
  have HB3 := Lib.hid (HB2.out.alloc hws (.cells #[] 2))
  go_loopw [8, 9] (fun v i wr => ∃ (k g c : Nat), k ≤ t ∧ i = .int .i64 k ∧ v = .slice (some ⟨g, 0, none⟩) k c ∧ OwnI wr w.heap.size (.slice (some ⟨g, 0, none⟩) k c) (List.replicate k (-1)) ∧ Below w.heap.size w wr) (fun _ i _ => t - (intOf i).toNat)
  case atStart => exact ⟨0, W2.heap.size, 0, Nat.zero_le _, rfl, rfl, HA0.out, HB3.out⟩
  case round =>
    obtain ⟨k, go, cg, hk, rfl, rfl, hoo, hB⟩ := hrel
    clear HA0 HB3
    have HOO := Lib.hid hoo
    have HB := Lib.hid hB
    have hwr := hB.size
    clear hoo hB
    by_cases hlt : k < t
    · have HLK := Lib.hid (List.length_replicate (n := k) (a := (-1 : Int)))
      go_wp2_with (at_builtin; refine append_i64 rfl _ _ rfl w.heap.size (.slice (some ⟨go, 0, none⟩) k cg) (List.replicate k (-1)) [-1] (by simp) rfl _ rfl HOO.out hwr (by rw [HLK.out]; simp; omega) ?_; intro g1 c1 w3 ho3 hg3; have hb3 := Below.app HB.out HOO.out hg3 hwr; have HO3 := Lib.hid ho3; have HB3 := Lib.hid hb3; clear ho3 hb3 hg3)
      go_roundw
      case rel => exact ⟨k + 1, g1, c1, by omega, by go_num, by simp, by rw [reps_succ]; have := HO3.out; rw [HLK.out] at this; exact this, HB3.out⟩
      case measure => simp [intOf]; omega
    · obtain rfl : k = t := by omega
      have HOO0 : Hid (OwnI wr w.heap.size (.slice (some ⟨go, 0, none⟩) k cg) (colTo k xs order 0)) := HOO.out
      have hgo := HOO.out.lt go rfl
      clear HOO hlt
      go_wp2
      go_loopw [10, 11, 12, 13, 35] (fun _ _ _ _ i wk => ∃ s : Nat, s ≤ order.length ∧ i = .int .i64 s ∧ Below w.heap.size w wk ∧ OwnI wk w.heap.size (.slice (some ⟨go, 0, none⟩) k cg) (colTo k xs order s)) (fun _ _ _ _ i _ => order.length - (intOf i).toNat)
      case atStart => exact ⟨0, Nat.zero_le _, rfl, HB.out, HOO0.out⟩
      case round =>
        obtain ⟨s, hs, rfl, hB2, hoo⟩ := hrel
        clear HB HOO0
        have HBw := Lib.hid hB2
        by_cases hlt : s < order.length
        · obtain ⟨_, a2, c2, hsl, _, hcell⟩ := HU.out wr hB2
          obtain ⟨bo, oo, ha2, _, e0⟩ := hcell s hlt
          obtain ⟨rfl, rfl⟩ : a' = a2 ∧ c' = c2 := by simpa using hsl
          subst ha2
          rw [← nth_eq hlt] at e0
          obtain ⟨p1, p2⟩ := HO.out s hlt
          obtain ⟨e, he⟩ : ∃ e : Nat, nth order s = e := ⟨(nth order s).toNat, by omega⟩
          rw [he] at e0 p1 p2
          have hek : e < k := by omega
          have hci := colTo_inv (xs := xs) HOL.out HO.out s (by have := HOL.out; omega)
          have hnext : colTo k xs order (s + 1) = colStep xs (colTo k xs order s) e := by show colStep _ _ _ = _; rw [he, Int.toNat_natCast]
          obtain ⟨out, hout⟩ : ∃ out, colTo k xs order s = out := ⟨_, rfl⟩
          rw [hout] at hci hnext hoo
          obtain ⟨d, d1, d2, d3, d4, d5⟩ := hci.step (xs := xs) e hek (by have := HOL.out; omega)
          rw [d4] at hnext
          have hol2 : out.length = k := hci.len
          have HCELL : Hid (∀ j, j < k → wr.cell? ⟨go, j, none⟩ = some (.int .i64 (nth out j))) := fun j hj => hoo.at_ hol2.symm j (by omega)
          have HCLB : Hid (∀ y : Nat, Calls Try.prog 76 #[.slice a xs.length c, .int .i64 e, .int .i64 y] wr fun x w' => x = .returned (.bool (clashB xs e y)) ∧ wr = w') := fun y => HCL.out wr e y hB2
          have HSTORE : Hid (wr.cell? ⟨go, e, none⟩ = some (.int .i64 (nth out e)) ∧ wr.frozen? ⟨go, e, none⟩ = false ∧ OwnI (wr.setCell ⟨go, e, none⟩ (.int .i64 d)) w.heap.size (.slice (some ⟨go, 0, none⟩) k cg) (out.set e (d : Int)) ∧ Below w.heap.size w (wr.setCell ⟨go, e, none⟩ (.int .i64 d))) := by
            obtain ⟨s1, s2, s3, s4⟩ := hoo.store hol2.symm e (by omega) (d : Int)
            rw [← nth_eq (by omega)] at s1
            exact ⟨s1, s2, s3, hB2.setCell hgo.1 _⟩
          have HD2 := Lib.hid d2
          have HD3 := Lib.hid d3
          have HNEXT := Lib.hid hnext
          have HL2 := Lib.hid hol2
          have hs12 : s ≤ 12 := by have := HOL.out; omega
          have i0 : (0 : Int) ≤ (e : Int) := by omega
          have i1 : (e : Int) < (k : Int) := by omega
          have i2 : (0 : Int) ≤ (s : Int) := by omega
          have i3 : (s : Int) < (order.length : Int) := by omega
          clear hcell hB2 hoo he hout hnext hci d2 d3 d4 d5 hsl hol2
          go_wp2
          go_loopw [11, 12, 13] (fun v g _ wk => ∃ x : Nat, ∃ ag : Bool, x ≤ d ∧ v = .int .i64 x ∧ g = .bool ag ∧ wr = wk ∧ Hid (ag = false → x = d)) (fun v g _ _ => 2 * (d - (intOf v).toNat) + (match g with | .bool true => 1 | _ => 0))
          case atStart => exact ⟨0, true, Nat.zero_le _, rfl, rfl, rfl, fun h => by cases h⟩
          case round =>
            obtain ⟨x, ag, hx, rfl, rfl, rfl, hag⟩ := hrel
            cases ag
            · obtain rfl : x = d := hag.out rfl
              obtain ⟨s1, s2, _⟩ := HSTORE.out
              go_wp2
              go_roundw
              case rel => exact ⟨s + 1, by omega, by go_num, HSTORE.out.2.2.2, by rw [HNEXT.out]; exact HSTORE.out.2.2.1⟩
              case measure => simp [intOf]; omega
            · clear hag
              go_wp2
              go_loopw [12, 13] (fun g j wk => ∃ y : Nat, y ≤ k ∧ j = .int .i64 y ∧ g = .bool (tkTo xs out e (x : Int) y) ∧ wr = wk) (fun _ j _ => k - (intOf j).toNat)
              case atStart => exact ⟨0, Nat.zero_le _, rfl, rfl, rfl⟩
              case round =>
                obtain ⟨y, hy, rfl, rfl, rfl⟩ := hrel
                obtain ⟨tk, htk⟩ : ∃ tk, tkTo xs out e (x : Int) y = tk := ⟨_, rfl⟩
                rw [htk]
                by_cases hyk : y < k
                · have hnx := tkTo_succ xs out e (x : Int) y
                  have e1 := HCELL.out y hyk
                  have hcall := HCLB.out y
                  rw [htk] at hnx
                  obtain ⟨p, hp⟩ : ∃ p, nth out y = p := ⟨_, rfl⟩
                  obtain ⟨cb, hcb⟩ : ∃ cb, clashB xs (e : Int) (y : Int) = cb := ⟨_, rfl⟩
                  rw [hp] at e1 hnx
                  rw [hcb] at hcall hnx
                  have HCALL := Lib.hid hcall
                  have y0 : (0 : Int) ≤ (y : Int) := by omega
                  have y1 : (y : Int) < (k : Int) := by omega
                  clear hcall hp hcb htk
                  cases c0 : (p == (x : Int)) <;> cases cb
                  all_goals
                    rw [c0] at hnx
                    have HNX := Lib.hid hnx
                    clear hnx
                    go_wp2_with (go_at_call 76; refine HCALL.out.mono ?_; rintro x w' ⟨rfl, rfl⟩)
                    go_roundw
                    case rel => exact ⟨y + 1, by omega, by go_num, by rw [HNX.out]; simp, trivial⟩
                    case measure => simp [intOf]; omega
                · have hyk' : y = k := by omega
                  have hfr : frC xs out e x = !tk := by unfold frC; rw [HL2.out, ← hyk', htk]
                  clear htk
                  cases tk
                  · have hxd : x = d := by
                      by_cases hxd : x < d
                      · rw [HD2.out x hxd] at hfr; cases hfr
                      · omega
                    have HXD := Lib.hid hxd
                    clear hfr hyk' hxd
                    go_wp2
                    go_roundw
                    case rel => exact ⟨x, false, hx, rfl, rfl, trivial, fun _ => HXD.out⟩
                    case measure => simp [intOf]
                  · have hxd : x < d := by
                      by_cases hxd : x < d
                      · exact hxd
                      · obtain rfl : x = d := by omega
                        rw [HD3.out] at hfr; cases hfr
                    clear hfr hyk'
                    go_wp2
                    go_roundw
                    case rel => exact ⟨x + 1, true, by omega, by go_num, rfl, trivial, fun h => by cases h⟩
                    case measure => simp [intOf]; omega
        · have hse : s = k := by have := HOL.out; omega
          have HO3 : Hid (OwnI wr w.heap.size (.slice (some ⟨go, 0, none⟩) k cg) (colTo k xs order k)) := by rw [← hse] at hoo ⊢; exact hoo
          clear hoo hB2
          go_wp2
          go_ret2
          exact ⟨⟨_, rfl, HO3.out⟩, HBw.out⟩
end Go.Proofs.Ytgllpbmagaelgaa
