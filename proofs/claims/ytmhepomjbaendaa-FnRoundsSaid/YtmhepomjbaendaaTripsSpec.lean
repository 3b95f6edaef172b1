
/- TripsOf, the reference: its contract. Conditions: at most 2^20 numbers. -/
import Derived.Test.YtmhepomjbaendaaTripsPlain
import Derived.StillTailTactics
import Derived.IntWalk
namespace Go.Proofs.Ytmhepomjbaendaa
open Go.RowKit Go.Shelf Go.BigFrame
set_option linter.unusedVariables false
set_option linter.unusedSimpArgs false
attribute [local go_sem] Oper.semAt_some

/-- What make([]int64, n) leaves. -/
theorem OwnI.made {w : World} {base g : Nat} {n : Nat} (h : w.ownsRow base 2 1 (.slice (some ⟨g, 0, none⟩) n n) n (madeCells (Value.int .i64 0).cells (n * 1)).toList) : OwnI w base (.slice (some ⟨g, 0, none⟩) n n) (List.replicate n 0) := by
  have e : (madeCells (Value.int .i64 0).cells (n * 1)).toList = (List.replicate n 0).map (Value.int .i64) := by
    rw [Nat.mul_one]; exact (toList_madeCells_one _ _).trans (by simp)
  rw [e] at h
  unfold OwnI
  rwa [List.length_replicate]
theorem idPre_succ (k : Nat) : (List.range (k + 1)).map (fun (i : Nat) => (i : Int)) = (List.range k).map (fun (i : Nat) => (i : Int)) ++ [(k : Int)] := by rw [List.range_succ, List.map_append]; rfl

set_option maxRecDepth 100000 in
set_option maxHeartbeats 2000000 in
theorem specTrips_yes (t R : Nat) (v u : Value) (xs far : List Int) (w : World) (hv : Ints w v xs) (hu : Ints w u far) (ht : 2 ≤ t) (ht2 : t ≤ 16) (hev : t % 2 = 0) (hlen : xs.length = R * t) (hle : xs.length ≤ 480) (hok : roundsOk (t : Int) xs = true) (hfl : far.length = t * t)
    (hw : ∀ i, i < xs.length → 0 ≤ nth xs i ∧ nth xs i ≤ (t : Int) - 1) (hf : ∀ i, i < t * t → 0 ≤ nth far i ∧ nth far i ≤ 1000) :
    Calls Try.prog 20 #[.int .i64 t, v, u] w fun e w' => (∃ v', e = .returned (.tuple #[v', .bool true]) ∧ OwnI w' w.heap.size v' (homeTo t far (tripTo t xs far xs.length).2 (tripTo t xs far xs.length).1 t)) ∧ Below w.heap.size w w' := by
  have hr := l07Rounds_any (t : Int) v xs w hv (wf_i64_iff.2 ⟨by omega, by omega⟩) (by omega)
  rw [hok] at hr
  have Hr := Lib.hid hr
  obtain ⟨hm, a, c, rfl, hcap, hc⟩ := hv
  obtain ⟨hm', a', c', rfl, hcap', hc'⟩ := hu
  obtain ⟨b, o, ha0, hbs, hcs⟩ := row_at hc
  obtain ⟨b', o', ha0', hbs', hcs'⟩ := row_at hc'
  have hpos' : 0 < far.length := by rw [hfl]; exact Nat.mul_pos (by omega) (by omega)
  have hx2 : xs.length % 2 = 0 := by rw [hlen, Nat.mul_mod, hev, Nat.mul_zero]
  obtain rfl := ha0' hpos'
  have hbs' := hbs' hpos'
  obtain ⟨F, hF⟩ : ∃ F, t * t = F := ⟨_, rfl⟩
  have hF' : (t : Int) * (t : Int) = (F : Int) := by rw [← hF, Int.natCast_mul]
  have hF2 : F ≤ 256 := by rw [← hF]; exact Nat.mul_le_mul ht2 ht2
  have hne : ((far.length : Int) != (F : Int)) = false := by rw [hfl, hF]; simp
  have hfl2 : far.length = F := by rw [hfl, hF]
  have HFL := Lib.hid hfl2
  have HF := Lib.hid hF
  have HW := Lib.hid hw
  have HFB := Lib.hid hf
  have HCS : Hid (∀ W, Below w.heap.size w W → ∀ i, i < xs.length → ∃ b o, a = some ⟨b, o, none⟩ ∧ b < w.heap.size ∧ W.cell? ⟨b, o + i, none⟩ = some (.int .i64 (nth xs i))) := fun W hW i hi => by
    exact ⟨b, o, ha0 (by omega), hbs (by omega), by rw [hW.cell (p := ⟨b, o + i, none⟩) (hbs (by omega)), hcs i hi, nth_eq hi]⟩
  have HFS : Hid (∀ W, Below w.heap.size w W → ∀ i, i < F → W.cell? ⟨b', o' + i, none⟩ = some (.int .i64 (nth far i))) := fun W hW i hi => by
    rw [hW.cell (p := ⟨b', o' + i, none⟩) hbs', hcs' i (by omega), nth_eq (by omega)]
  have HX2 := Lib.hid hx2
  obtain ⟨i0, hi, hz0, hz1, hz2⟩ := info_parts info_i64
  clear hr hok hfl hw hf hc hc' hcs hcs' ha0 ha0' hbs hlen hev hx2 hF hfl2 hm hm'
  go_enter Try.func20, Try.ntmps20
  go_wp2_with (go_at_call 63; refine Hr.out.mono ?_; rintro e W1 ⟨rfl, hb1⟩)
  have HB1 := Lib.hid hb1
  clear hb1
  have hfl3 := HFL.out
  go_loopw [8, 30] (fun _ i wr => ∃ k : Nat, k ≤ F ∧ i = .int .i64 k ∧ W1 = wr) (fun _ i _ => F - (intOf i).toNat)
  case atStart => exact ⟨0, Nat.zero_le _, rfl, rfl⟩
  case round =>
    obtain ⟨k, hk, rfl, rfl⟩ := hrel
    by_cases hlt : k < F
    · have e0 := HFS.out _ HB1.out k hlt
      have hlf : k < far.length := by omega
      obtain ⟨f0, f1⟩ := HFB.out k (by rw [HF.out]; exact hlt)
      obtain ⟨x, hx⟩ : ∃ x, nth far k = x := ⟨_, rfl⟩
      rw [hx] at e0 f0 f1
      have hwx : win x 0 1000 = true := win_true.2 ⟨f0, f1⟩
      clear hx hfl3
      go_wp2_with (go_at_call 68; refine (l00In_any _ _ _ _).mono ?_; rintro e w' ⟨rfl, rfl⟩)
      go_roundw
      case rel => exact ⟨k + 1, by omega, by go_num, trivial⟩
      case measure => simp [intOf]; omega
    · have hlf : ¬ k < far.length := by omega
      clear hfl3
      have hws := HB1.out.size
      go_wp2_with (at_make; refine wpList_make_full _ rfl _ _ 25 rfl w.heap.size 2 i0 (.int .i64 0) 1 Try.underlying25 hi hz0 hz1 _ _ _ _ t rfl rfl rfl rfl (by rw [hz2]; omega) (by unfold maxLen at *; omega) hws ?_; intro w2 hown2 hgrow2)
      have hb2 : Below w.heap.size w w2 := HB1.out.grown hgrow2 hws (fun k e => by cases e)
      have hGM : W1.heap.size < w2.heap.size := ((OwnI.made hown2).lt _ rfl).2
      have HO0 : Hid (OwnI w2 w.heap.size (.slice (some ⟨W1.heap.size, 0, none⟩) t t) (List.replicate t 0)) := OwnI.made hown2
      have HB2 := Lib.hid hb2
      obtain ⟨G, hG⟩ : ∃ G, W1.heap.size = G := ⟨_, rfl⟩
      obtain ⟨M, hM⟩ : ∃ M, w2.heap.size = M := ⟨_, rfl⟩
      rw [hG] at HO0 hGM
      rw [hM] at hGM
      have HA0 : Hid (OwnI (w2.alloc (.cells #[] 2)) M (.slice (some ⟨M, 0, none⟩) 0 0) []) := by
        have := OwnI.lit w2 M [] (by omega) (Nat.zero_le _); rw [hM] at this; exact this
      have hNM : w.heap.size ≤ M := by have := hb2.size; omega
      have HM := Lib.hid hM
      simp only [hG, hM]
      clear hown2 hgrow2 hi hz0 hz1 hz2 hb2 hG hM
      go_loopw [10, 11] (fun v i wr => ∃ (k g c : Nat), k ≤ t ∧ i = .int .i64 k ∧ v = .slice (some ⟨g, 0, none⟩) k c ∧ OwnI wr M (.slice (some ⟨g, 0, none⟩) k c) ((List.range k).map fun (i : Nat) => (i : Int)) ∧ OwnI wr w.heap.size (.slice (some ⟨G, 0, none⟩) t t) (List.replicate t 0) ∧ Below w.heap.size w wr) (fun _ i _ => t - (intOf i).toNat)
      case atStart => exact ⟨0, M, 0, Nat.zero_le _, rfl, rfl, HA0.out, HO0.out.alloc _, HB2.out.alloc (by rw [HM.out]; exact hNM) _⟩
      case round =>
        obtain ⟨k, g, cp, hk, rfl, rfl, hop, hoo, hB⟩ := hrel
        have hgM := hop.lt g rfl
        have HOP := Lib.hid hop
        have HOO := Lib.hid hoo
        have HB := Lib.hid hB
        clear hop hoo hB HO0 HA0 HB2
        by_cases hlt : k < t
        · have hlk : ((List.range k).map fun (i : Nat) => (i : Int)).length = k := by simp
          have HLK := Lib.hid hlk
          clear hlk
          go_wp2_with (at_builtin; refine append_i64 rfl _ _ rfl M (.slice (some ⟨g, 0, none⟩) k cp) ((List.range k).map fun (i : Nat) => (i : Int)) [(k : Int)] (by simp) rfl _ rfl HOP.out (by omega) (by rw [HLK.out]; simp; omega) ?_; intro g1 c1 w3 ho3 hg3; have hb3 : Below w.heap.size w w3 := HB.out.grown hg3 (by omega) (fun j e => by have e2 : some g = some j := e; injection e2 with e2; omega); have hoo3 := HOO.out.kept hg3 (.inr (by show some G ≠ some g; intro e; injection e with e; omega)); have HO3 := Lib.hid ho3; have HB3 := Lib.hid hb3; have HOO3 := Lib.hid hoo3; clear ho3 hb3 hoo3 hg3)
          go_roundw
          case rel => exact ⟨k + 1, g1, c1, by omega, by go_num, by simp, by rw [idPre_succ]; simpa using HO3.out, HOO3.out, HB3.out⟩
          case measure => simp [intOf]; omega
        · obtain rfl : k = t := by omega
          clear hlt
          go_wp2
          have HS0 : Hid (OwnI wr w.heap.size (.slice (some ⟨G, 0, none⟩) k k) (tripTo k xs far 0).1 ∧ OwnI wr M (.slice (some ⟨g, 0, none⟩) k cp) (tripTo k xs far 0).2) := ⟨HOO.out, HOP.out⟩
          have HINV : Hid (∀ s, s ≤ xs.length → TripInv k s (tripTo k xs far s)) := fun s hs => tripTo_inv HW.out HFB.out s hs
          have hGg : G < g := by omega
          have hNG : w.heap.size ≤ G := (HOO.out.lt G rfl).1
          have hMg : M ≤ g := hgM.1
          have hwM : wr.heap.size > M := by omega
          clear HOP HOO hgM
          go_loopw [12, 13, 14] (fun i _ _ wk => ∃ m I : Nat, Hid (I = 2 * m) ∧ I ≤ xs.length ∧ i = .int .i64 I ∧ Below w.heap.size w wk ∧ OwnI wk w.heap.size (.slice (some ⟨G, 0, none⟩) k k) (tripTo k xs far I).1 ∧ OwnI wk M (.slice (some ⟨g, 0, none⟩) k cp) (tripTo k xs far I).2) (fun i _ _ _ => xs.length - (intOf i).toNat)
          case atStart => exact ⟨0, 0, rfl, Nat.zero_le _, rfl, HB.out, HS0.out.1, HS0.out.2⟩
          case round =>
            obtain ⟨m, I, hmI, hI, rfl, hB2, ho1, hp1⟩ := hrel
            clear HB HS0
            by_cases hlt : I < xs.length
            · have hI2 : I + 2 ≤ xs.length := by have := hmI.out; have := HX2.out; omega
              have HO1 := Lib.hid ho1
              have HP1 := Lib.hid hp1
              have HB2' := Lib.hid hB2
              clear ho1 hp1 hB2
              go_wp2
              go_loopw [13, 14] (fun j _ wj => ∃ q s : Nat, q ≤ 2 ∧ Hid (s = I + q) ∧ j = .int .i64 q ∧ Below w.heap.size w wj ∧ OwnI wj w.heap.size (.slice (some ⟨G, 0, none⟩) k k) (tripTo k xs far s).1 ∧ OwnI wj M (.slice (some ⟨g, 0, none⟩) k cp) (tripTo k xs far s).2) (fun j _ _ => 2 - (intOf j).toNat)
              case atStart => exact ⟨0, I, by omega, rfl, rfl, HB2'.out, HO1.out, HP1.out⟩
              case round =>
                obtain ⟨q, s, hq, hs, rfl, hB3, ho2, hp2⟩ := hrel
                by_cases hlt2 : q < 2
                · have hs' : s = I + q := hs.out
                  have hsl : s < xs.length := by omega
                  have hdiv : 2 * (s / 2) = I := by have := hmI.out; omega
                  obtain ⟨i1, i2, i3, i4⟩ := HINV.out s (by omega)
                  have hnext : tripTo k xs far (s + 1) = tripHalf k far (tripTo k xs far s) (nth xs s).toNat (nth xs I).toNat := by show tripHalf _ _ _ _ _ = _; rw [hdiv]
                  obtain ⟨st, hst⟩ : ∃ st, tripTo k xs far s = st := ⟨_, rfl⟩
                  rw [hst] at ho2 hp2 i1 i2 i3 i4 hnext
                  obtain ⟨w1, w2'⟩ := HW.out s hsl
                  obtain ⟨v1, v2⟩ := HW.out I hlt
                  obtain ⟨bx, ox, rfl, hbxN, c0⟩ := HCS.out _ hB3 I hlt
                  obtain ⟨bx', ox', hbx, _, c1⟩ := HCS.out _ hB3 s hsl
                  obtain ⟨rfl, rfl⟩ : bx = bx' ∧ ox = ox' := by simpa using hbx
                  obtain ⟨p, hp⟩ : ∃ p : Nat, nth xs s = p := ⟨(nth xs s).toNat, by omega⟩
                  obtain ⟨h, hh⟩ : ∃ p : Nat, nth xs I = p := ⟨(nth xs I).toNat, by omega⟩
                  rw [hp] at c1 w1 w2'
                  rw [hh] at c0 v1 v2
                  rw [hp, hh, Int.toNat_natCast, Int.toNat_natCast] at hnext
                  have hpk : p < k := by omega
                  have hhk : h < k := by omega
                  obtain ⟨j1, j2⟩ := i3 p hpk
                  obtain ⟨j3, j4⟩ := i4 p hpk
                  have c2 := ho2.at_ i1.symm p (by omega)
                  have c3 := hp2.at_ i2.symm p (by omega)
                  unfold tripHalf at hnext
                  obtain ⟨a0, ha0⟩ : ∃ a0, nth st.1 p = a0 := ⟨_, rfl⟩
                  obtain ⟨y, hy⟩ : ∃ y : Nat, nth st.2 p = y := ⟨(nth st.2 p).toNat, by omega⟩
                  rw [ha0] at c2 j1 j2 hnext
                  rw [hy] at c3 j3 j4
                  rw [hy, Int.toNat_natCast] at hnext
                  have hyk : y < k := by omega
                  have hx1 := ix_lt hyk hhk
                  rw [HF.out] at hx1
                  obtain ⟨yk, hyk'⟩ : ∃ yk, y * k = yk := ⟨_, rfl⟩
                  have hyk2 : (y : Int) * (k : Int) = (yk : Int) := by rw [← hyk', Int.natCast_mul]
                  rw [hyk'] at hx1 hnext
                  obtain ⟨X, hX⟩ : ∃ X, yk + h = X := ⟨_, rfl⟩
                  have hX2 : (yk : Int) + (h : Int) = (X : Int) := by omega
                  rw [hX] at hx1 hnext
                  have c4 := HFS.out _ hB3 X hx1
                  obtain ⟨f1, f2⟩ := HFB.out X (by rw [HF.out]; exact hx1)
                  obtain ⟨fv, hfv⟩ : ∃ fv, nth far X = fv := ⟨_, rfl⟩
                  rw [hfv] at c4 f1 f2 hnext
                  obtain ⟨s1, s2, s3, s4⟩ := (ho2.drewN 1).store i1.symm p (by omega) (a0 + fv)
                  have hp3 := (hp2.drewN 1).setCell (p := ⟨G, p, none⟩) (.int .i64 (a0 + fv)) (by show some g ≠ some G; intro e; injection e with e; omega)
                  obtain ⟨r1, r2, r3, r4⟩ := hp3.store i2.symm p (by omega) (h : Int)
                  have s5 := s3.setCell (p := ⟨g, p, none⟩) (.int .i64 h) (by show some G ≠ some g; intro e; injection e with e; omega)
                  have hB4 := ((below_drewN 1 hB3).grown s4 (by show w.heap.size ≤ wr.heap.size; exact hB3.size) (fun j e => by injection e with e; omega)).setCell (p := ⟨g, p, none⟩) (show w.heap.size ≤ g by omega) (.int .i64 h)
                  have u1 : wr.cell? ⟨G, p, none⟩ = some (.int .i64 a0) := c2
                  have u2 : wr.frozen? ⟨G, p, none⟩ = false := s2
                  have u3 : wr.cell? ⟨g, p, none⟩ = some (.int .i64 y) := c3
                  have u4 : wr.frozen? ⟨g, p, none⟩ = false := (hp2.store i2.symm p (by omega) 0).2.1
                  have n1 : G ≠ g := by omega
                  have n3 : bx ≠ G := by omega
                  have n4 : G ≠ bx := by omega
                  have n2 : g ≠ G := by omega
                  have HS5 := Lib.hid s5
                  have HR3 := Lib.hid r3
                  have HB4 := Lib.hid hB4
                  have HNEXT := Lib.hid hnext
                  have t1 : (0 : Int) ≤ (I : Int) := by omega
                  have t2 : (I : Int) < (xs.length : Int) := by omega
                  have t3 : (s : Int) < (xs.length : Int) := by omega
                  have t4 : (I : Int) + (q : Int) = (s : Int) := by omega
                  have t5 : (0 : Int) ≤ (X : Int) := by omega
                  have t6 : (X : Int) < (far.length : Int) := by have := HFL.out; omega
                  have q1 : IntKind.i64.wrap (yk : Int) = (yk : Int) := IntWalk.i64_in _ (by omega)
                  have q2 : IntKind.i64.wrap (X : Int) = (X : Int) := IntWalk.i64_in _ (by omega)
                  have q3 : IntKind.i64.wrap (a0 + fv) = a0 + fv := IntWalk.i64_in _ (by omega)
                  clear s1 s2 s3 s4 s5 hp3 r1 r2 r3 r4 hB4 hB3 ho2 hp2 hnext i1 i2 i3 i4 hst hfv hX hyk' hy ha0 hp hh hs' hbx c2 c3 hx1
                  go_wp2
                  go_still_tail 20, (by kernel_rfl)
                  clear HB2' HO1 HP1
                  go_wp2
                  go_roundw
                  case rel => exact ⟨q + 1, s + 1, by omega, by have := hs.out; show s + 1 = I + (q + 1); omega, by go_num, HB4.out, by rw [HNEXT.out]; exact HS5.out, by rw [HNEXT.out]; exact HR3.out⟩
                  case measure => simp [intOf]; omega
                · obtain rfl : s = I + 2 := by have := hs.out; omega
                  have HO2 := Lib.hid ho2
                  have HP2 := Lib.hid hp2
                  clear ho2 hp2 HO1 HP1 HB2'
                  go_wp2
                  go_roundw
                  case rel => exact ⟨m + 1, I + 2, by have := hmI.out; show I + 2 = 2 * (m + 1); omega, hI2, by go_num, hB3, HO2.out, HP2.out⟩
                  case measure => simp [intOf]; omega
            · obtain rfl : I = xs.length := by omega
              have HO2 := Lib.hid ho1
              have HP2 := Lib.hid hp1
              have HB3 := Lib.hid hB2
              clear ho1 hp1 hB2 hlt
              obtain ⟨o0, ho0⟩ : ∃ o0, (tripTo k xs far xs.length).1 = o0 := ⟨_, rfl⟩
              obtain ⟨pl, hpl⟩ : ∃ pl, (tripTo k xs far xs.length).2 = pl := ⟨_, rfl⟩
              have hinv := HINV.out xs.length (Nat.le_refl _)
              obtain ⟨z1, z2, z3, z4⟩ := hinv
              rw [ho0] at HO2 z1 z3
              rw [hpl] at HP2 z2 z4
              have HH : Hid (∀ j, j ≤ k → (homeTo k far pl o0 j).length = k ∧ ∀ m, m < k → 0 ≤ nth (homeTo k far pl o0 j) m ∧ nth (homeTo k far pl o0 j) m ≤ ((1000 * xs.length : Nat) : Int) + 1000 * j) := fun j hj => homeTo_inv z1 (fun m hm => by have := z3 m hm; omega) z4 HFB.out j hj
              have HZ4 := Lib.hid z4
              have HO00 := Lib.hid ho0
              have HPL := Lib.hid hpl
              have HZ2 := Lib.hid z2
              clear z1 z3 z4 ho0 hpl z2
              go_wp2
              go_loopw [15] (fun i wk => ∃ j : Nat, j ≤ k ∧ i = .int .i64 j ∧ Below w.heap.size w wk ∧ OwnI wk w.heap.size (.slice (some ⟨G, 0, none⟩) k k) (homeTo k far pl o0 j) ∧ OwnI wk M (.slice (some ⟨g, 0, none⟩) k cp) pl) (fun i _ => k - (intOf i).toNat)
              case atStart => exact ⟨0, Nat.zero_le _, rfl, HB3.out, HO2.out, HP2.out⟩
              case round =>
                obtain ⟨j, hj, rfl, hB4, ho, hp⟩ := hrel
                clear HB3 HO2 HP2
                by_cases hjk : j < k
                · obtain ⟨l1, l2⟩ := HH.out j (by omega)
                  obtain ⟨l3, l4⟩ := l2 j hjk
                  obtain ⟨y1, y2⟩ := HZ4.out j hjk
                  have hnext : homeTo k far pl o0 (j + 1) = (homeTo k far pl o0 j).set j (nth (homeTo k far pl o0 j) j + nth far ((nth pl j).toNat * k + j)) := rfl
                  obtain ⟨oo, hoo⟩ : ∃ oo, homeTo k far pl o0 j = oo := ⟨_, rfl⟩
                  rw [hoo] at ho l1 l3 l4 hnext
                  have c2 := ho.at_ l1.symm j (by omega)
                  have c3 := hp.at_ HZ2.out.symm j (by have := HZ2.out; omega)
                  obtain ⟨a0, ha0⟩ : ∃ a0, nth oo j = a0 := ⟨_, rfl⟩
                  obtain ⟨y, hy⟩ : ∃ y : Nat, nth pl j = y := ⟨(nth pl j).toNat, by omega⟩
                  rw [ha0] at c2 l3 l4 hnext
                  rw [hy] at c3 y1 y2
                  rw [hy, Int.toNat_natCast] at hnext
                  have hyk : y < k := by omega
                  have hx1 := ix_lt hyk hjk
                  rw [HF.out] at hx1
                  obtain ⟨yk, hyk'⟩ : ∃ yk, y * k = yk := ⟨_, rfl⟩
                  have hyk2 : (y : Int) * (k : Int) = (yk : Int) := by rw [← hyk', Int.natCast_mul]
                  rw [hyk'] at hx1 hnext
                  obtain ⟨X, hX⟩ : ∃ X, yk + j = X := ⟨_, rfl⟩
                  have hX2 : (yk : Int) + (j : Int) = (X : Int) := by omega
                  rw [hX] at hx1 hnext
                  have c4 := HFS.out _ hB4 X hx1
                  obtain ⟨f1, f2⟩ := HFB.out X (by rw [HF.out]; exact hx1)
                  obtain ⟨fv, hfv⟩ : ∃ fv, nth far X = fv := ⟨_, rfl⟩
                  rw [hfv] at c4 f1 f2 hnext
                  obtain ⟨s1, s2, s3, s4⟩ := (ho.drewN 1).store l1.symm j (by omega) (a0 + fv)
                  have hp3 := (hp.drewN 1).setCell (p := ⟨G, j, none⟩) (.int .i64 (a0 + fv)) (by show some g ≠ some G; intro e; injection e with e; omega)
                  have hB5 := (below_drewN 1 hB4).grown s4 (by show w.heap.size ≤ wr.heap.size; exact hB4.size) (fun j e => by injection e with e; omega)
                  have u1 : wr.cell? ⟨G, j, none⟩ = some (.int .i64 a0) := c2
                  have u2 : wr.frozen? ⟨G, j, none⟩ = false := s2
                  have u3 : wr.cell? ⟨g, j, none⟩ = some (.int .i64 y) := c3
                  have HS5 := Lib.hid s3
                  have HR3 := Lib.hid hp3
                  have HB5 := Lib.hid hB5
                  have HNEXT := Lib.hid hnext
                  have t5 : (0 : Int) ≤ (X : Int) := by omega
                  have t6 : (X : Int) < (far.length : Int) := by have := HFL.out; omega
                  have t7 : (0 : Int) ≤ (j : Int) := by omega
                  have t8 : (j : Int) < (k : Int) := by omega
                  have q1 : IntKind.i64.wrap (yk : Int) = (yk : Int) := IntWalk.i64_in _ (by omega)
                  have q2 : IntKind.i64.wrap (X : Int) = (X : Int) := IntWalk.i64_in _ (by omega)
                  have q3 : IntKind.i64.wrap (a0 + fv) = a0 + fv := IntWalk.i64_in _ (by omega)
                  clear s1 s2 s3 s4 hp3 hB5 hB4 ho hp hnext l1 l2 hoo hfv hX hyk' hy ha0 c2 c3 hx1
                  go_wp2
                  go_still_tail 17, (by kernel_rfl)
                  go_wp2
                  go_roundw
                  case rel => exact ⟨j + 1, by omega, by go_num, HB5.out, by rw [HNEXT.out]; exact HS5.out, HR3.out⟩
                  case measure => simp [intOf]; omega
                · obtain rfl : j = k := by omega
                  have HO3 := Lib.hid ho
                  clear ho hp hjk
                  go_wp2
                  go_ret2
                  exact ⟨⟨_, rfl, by rw [HO00.out, HPL.out]; exact HO3.out⟩, hB4⟩
end Go.Proofs.Ytmhepomjbaendaa
