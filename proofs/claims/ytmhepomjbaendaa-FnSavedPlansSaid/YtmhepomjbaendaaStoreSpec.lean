
/- StoreSaved, the reference. Conditions: a valid plan. -/
import Derived.Test.YtmhepomjbaendaaStoreP
import Derived.Test.YtmhepomjbaendaaBytes2
import Derived.Lib.AtoiErrMem
import Derived.BigRegion
import Derived.IntWalk
namespace Go.Proofs.Ytmhepomjbaendaa
open Go.RowKit Go.BigFrame
set_option linter.unusedVariables false
set_option linter.unusedSimpArgs false
attribute [local go_sem] Oper.semAt_some

set_option maxRecDepth 100000 in
set_option maxHeartbeats 4000000 in
theorem l07Store_yes (b o : Nat) (s : ByteArray) (vt vs : Value) (ts : List Tk) (st : List Int) (w : World) (ht : TasksR w vt ts) (hs : Ints w vs st) (hok : savedOk (s, ts, st) = true) (hsm : ∀ x ∈ ts, x.2.2.1.length ≤ 1048576)
    (hb : b < w.heap.size) (e0 : w.cell? ⟨b, o, none⟩ = some (.string s)) (e1 : w.cell? ⟨b, o + 1, none⟩ = some vt) (e2 : w.cell? ⟨b, o + 2, none⟩ = some vs) :
    Calls Try.prog 72 #[.pointer (some ⟨b, o, none⟩)] w fun e w' => e = .returned (.string (storeS (s, ts, st))) ∧ Below w.heap.size w w' := by
  obtain ⟨b8, bt1, bt2, bst, btask, bstart⟩ := saved_bounds hok
  have b1 := saved_name1 hok
  have HT : Hid (∀ W, Below w.heap.size w W → TasksR W vt ts) := fun W hW => ht.below hW (Nat.le_refl _)
  have HS : Hid (∀ W, Below w.heap.size w W → Ints W vs st) := fun W hW => hs.below hW (Nat.le_refl _)
  have HTC : Hid (∀ i (hi : i < ts.length), ∃ t1 t2 b o vb vl, vt = .slice (some ⟨b, o, none⟩) t1 t2 ∧ b < w.heap.size ∧ Ints w vb ts[i].2.2.1 ∧ Ints w vl ts[i].2.2.2 ∧ w.cell? ⟨b, o + i * 4, none⟩ = some (.int .i64 ts[i].1) ∧ w.cell? ⟨b, o + i * 4 + 1, none⟩ = some (.int .i64 ts[i].2.1) ∧ w.cell? ⟨b, o + i * 4 + 2, none⟩ = some vb ∧ w.cell? ⟨b, o + i * 4 + 3, none⟩ = some vl) := fun i hi => by
    obtain ⟨a3, c3, hsl3, _, hc⟩ := ht.at_
    obtain ⟨b, o, vb, vl, rfl, hbs, h1, h2, _, _, e0, e1, e2, e3⟩ := hc i hi
    exact ⟨_, _, b, o, vb, vl, hsl3, hbs, h1.ints.1, h2.ints.1, e0, e1, e2, e3⟩
  obtain ⟨t1, t2, rfl⟩ : ∃ t1 t2, vt = .slice t1 ts.length t2 := by obtain ⟨_, t1, t2, h, _⟩ := ht; exact ⟨t1, t2, h⟩
  obtain ⟨s1, s2, rfl⟩ : ∃ t1 t2, vs = .slice t1 st.length t2 := by obtain ⟨_, t1, t2, h, _⟩ := hs; exact ⟨t1, t2, h⟩
  have HC : Hid (∀ W, Below w.heap.size w W → W.cell? ⟨b, o, none⟩ = some (.string s) ∧ W.cell? ⟨b, o + 1, none⟩ = some (.slice t1 ts.length t2) ∧ W.cell? ⟨b, o + 2, none⟩ = some (.slice s1 st.length s2)) := fun W hW =>
    ⟨(hW.cell (p := ⟨b, o, none⟩) hb).trans e0, (hW.cell (p := ⟨b, o + 1, none⟩) hb).trans e1, (hW.cell (p := ⟨b, o + 2, none⟩) hb).trans e2⟩
  have HBT := Lib.hid btask
  have bs16 : st.length ≤ 16 := by omega
  have HBS := Lib.hid bstart
  have HSM := Lib.hid hsm
  have hq8 : (s.size : Int) % 256 = s.size := by omega
  have hw8 : IntKind.u8.wrap (s.size : Int) = s.size := IntWalk.u8_in _ (by omega)
  have hw16 : IntKind.u8.wrap (ts.length : Int) = ts.length := IntWalk.u8_in _ (by omega)
  have hq16 : (ts.length : Int) % 256 = ts.length := by omega
  clear ht hs hok btask bstart hsm bst
  have kc := fun (w : World) (C : Array Value) (n c : Nat) => conv_const w C n c
  have HC4 : Hid (∀ i, i < 4 → (w.alloc (.cells #[.int .u8 80, .int .u8 76, .int .u8 78, .int .u8 49] 5 (4, 4 + 1))).cell? ⟨w.heap.size, i, none⟩ = some (.int .u8 (([80, 76, 78, 49] : List Int).getD i 0))) := fun i hi => by
    have hh : (w.alloc (.cells #[.int .u8 80, .int .u8 76, .int .u8 78, .int .u8 49] 5 (4, 4 + 1))).heap[w.heap.size]? = some (.cells #[.int .u8 80, .int .u8 76, .int .u8 78, .int .u8 49] 5 (4, 4 + 1)) := World.alloc_heap_new w _
    unfold World.cell?
    rw [hh]
    match i, hi with
    | 0, _ => rfl
    | 1, _ => rfl
    | 2, _ => rfl
    | 3, _ => rfl
  have HBL : Hid (Below w.heap.size w (w.alloc (.cells #[.int .u8 80, .int .u8 76, .int .u8 78, .int .u8 49] 5 (4, 4 + 1)))) := (Below.refl _ _).alloc (Nat.le_refl _) _
  obtain ⟨Wm, hWm⟩ : ∃ Wm, w.alloc (.cells #[.int .u8 80, .int .u8 76, .int .u8 78, .int .u8 49] 5 (4, 4 + 1)) = Wm := ⟨_, rfl⟩
  have hmz : Wm.heap.size = w.heap.size + 1 := by rw [← hWm]; simp
  have HWM := Lib.hid hWm
  have HMZ := Lib.hid hmz
  rw [hWm] at HC4 HBL
  clear hWm hmz e1 e2
  go_enter Try.func72, Try.ntmps72
  go_wp2_with (at_builtin; rw [HWM.out, ← HMZ.out]; refine append_fullY rfl _ _ rfl w.heap.size [80, 76, 78, 49] [(s.size : Int)] (Nat.zero_lt_succ _) rfl HC4.out (by rw [HMZ.out]; omega) _ rfl (by simp) ?_; intro g2 c2 w2 ho2 hb2; have HO2 := Lib.hid ho2; have HB2 := Lib.hid hb2; clear ho2 hb2; refine cutg ?_)
  refine Lib.hid ?_
  have HB2' : Hid (Below w.heap.size w w2) := HBL.out.trans (HB2.out.mono (by rw [HMZ.out]; omega))
  have HO2A : Hid (OwnY w2 w.heap.size (.slice (some ⟨g2, 0, none⟩) 5 c2) (head1 s)) := HO2.out.mono (by rw [HMZ.out]; omega)
  obtain ⟨d0, d1, d2⟩ := HC.out w2 HB2'.out
  have kcb := Lib.run_convert_string_bytes (P := Try.prog) w2 9 22 5 s Try.underlying9 Try.underlying22 Try.underlying5
  have HBC : Hid (∀ i (h : i < (chs s).length), (Lib.bytesWorld w2 5 s).cell? ⟨w2.heap.size, 0 + i, none⟩ = some (.int .u8 (chs s)[i])) := fun i h => by
    rw [Nat.zero_add, Lib.bytesWorld_cell w2 _ s i (by rw [chs_length] at h; exact h)]
    rw [chs_length] at h
    simp [chs, List.getD_eq_getElem?_getD, h]
  have hb2b := Lib.bytesWorld_below w2 5 s
  have HBW : Hid (Below w.heap.size w (Lib.bytesWorld w2 5 s)) := HB2'.out.trans (hb2b.mono HB2'.out.size)
  have HOW : Hid (OwnY (Lib.bytesWorld w2 5 s) w.heap.size (.slice (some ⟨g2, 0, none⟩) 5 c2) (head1 s)) := HO2A.out.below hb2b (Nat.le_refl _)
  obtain ⟨WB, hWB⟩ : ∃ WB, Lib.bytesWorld w2 5 s = WB := ⟨_, rfl⟩
  rw [hWB] at kcb HBC HBW HOW
  clear hWB hb2b HO2 HB2 HBL HWM HMZ HC4 kc
  go_wp2_with (at_builtin; refine append_fromYN rfl _ _ rfl w.heap.size (.slice (some ⟨g2, 0, none⟩) 5 c2) (head1 s) (chs s) (by rw [chs_length]; omega) rfl w2.heap.size 0 s.size _ (by rw [chs_length]) rfl HBC.out HOW.out HBW.out.size (by simp [head1, chs_length]; omega) ?_; intro g3 c3 n3 w3 hn3 ho3 hg3; refine cutg ?_)
  refine Lib.hid ?_
  have HB3 : Hid (Below w.heap.size w w3) := HBW.out.grown hg3 HBW.out.size (fun k e => (HOW.out.lt k e).1)
  have HO3 : Hid (OwnY w3 w.heap.size (.slice (some ⟨g3, 0, none⟩) n3 c3) (head1 s ++ chs s)) := ho3
  clear d0 d1 d2 kcb hg3 ho3 HBW HOW HBC HO2A HB2'
  obtain ⟨d0, d1, d2⟩ := HC.out w3 HB3.out
  go_wp2_with (at_builtin; refine append_yN rfl _ _ rfl w.heap.size (.slice (some ⟨g3, 0, none⟩) n3 c3) (head1 s ++ chs s) [(ts.length : Int)] (by simp) rfl _ rfl HO3.out HB3.out.size (by simp [head1, chs_length]; omega) ?_; intro g4 c4 n4 w4 hn4 ho4 hg4; refine cutg ?_)
  refine Lib.hid ?_
  have HB4 : Hid (Below w.heap.size w w4) := HB3.out.grown hg4 HB3.out.size (fun k e => (HO3.out.lt k e).1)
  have HO4 : Hid (OwnY w4 w.heap.size (.slice (some ⟨g4, 0, none⟩) n4 c4) (headB s ts.length)) := ho4
  have HN4 : Hid (n4 = (headB s ts.length).length) := hn4
  clear d0 d1 d2 hg4 ho4 HB3 HO3 hn4 hn3
  obtain ⟨d0, d1, d2⟩ := HC.out w4 HB4.out
  have HTL : Hid (∀ i, i ≤ ts.length → (tasksB ts i).length ≤ i * 2097155) := tasksB_len HSM.out
  go_wp2
  go_loopw [3, 40] (fun vb vi wr => ∃ i g c n : Nat, i ≤ ts.length ∧ vi = .int .i64 i ∧ vb = .slice (some ⟨g, 0, none⟩) n c ∧ Hid (n = (headB s ts.length ++ tasksB ts i).length) ∧ Hid (OwnY wr w.heap.size (.slice (some ⟨g, 0, none⟩) n c) (headB s ts.length ++ tasksB ts i)) ∧ Hid (Below w.heap.size w wr)) (fun _ vi _ => ts.length - (intOf vi).toNat)
  case atStart => exact ⟨0, g4, c4, n4, Nat.zero_le _, rfl, rfl, by show _ = _; rw [HN4.out]; simp [tasksB, headB], by show OwnY _ _ _ _; simpa [tasksB] using HO4.out, HB4.out⟩
  case round =>
    obtain ⟨i, g, c, n, hi, rfl, rfl, hn, HO, HB⟩ := hrel
    obtain ⟨wr', rfl⟩ : ∃ wr' : World, wr' = wr := ⟨_, rfl⟩
    clear d0 d1 d2 HB4 HO4 HN4
    obtain ⟨d0, d1, d2⟩ := HC.out wr' HB.out
    by_cases hlt : i < ts.length
    · obtain ⟨_, _, bt, ot, vb, vl, he, hbA, hb1, hb2, e0, e1, e2, e3⟩ := HTC.out i hlt
      obtain ⟨rfl, rfl, rfl⟩ : t1 = some ⟨bt, ot, none⟩ ∧ _ ∧ _ := by simpa using he
      have c0 := (HB.out.cell (p := ⟨bt, ot + i * 4, none⟩) hbA).trans e0
      have c1 := (HB.out.cell (p := ⟨bt, ot + i * 4 + 1, none⟩) hbA).trans e1
      have c2 := (HB.out.cell (p := ⟨bt, ot + i * 4 + 2, none⟩) hbA).trans e2
      have HE2 := Lib.hid e2
      have HE3 := Lib.hid e3
      have hXL : (headB s ts.length ++ tasksB ts i).length ≤ 40000000 := by rw [List.length_append, headB_len]; have := HTL.out i hi; omega
      have HNX := Lib.hid (tasksB_succ ts i hlt)
      have HTB : Hid (taskB ts[i] = taskH ts[i] ++ pairTo ts[i].2.2.1 ts[i].2.2.2 ts[i].2.2.1.length) := rfl
      have HTH : Hid (taskH ts[i] = [ts[i].1 % 256, ts[i].2.1 % 256, (ts[i].2.2.1.length : Int) % 256]) := rfl
      obtain ⟨hbl, hlag⟩ := HBT.out i hlt
      have hbsm := HSM.out _ (List.getElem_mem hlt)
      obtain ⟨x0, hx0⟩ : ∃ z, ts[i].1 = z := ⟨_, rfl⟩
      obtain ⟨x1, hx1⟩ : ∃ z, ts[i].2.1 = z := ⟨_, rfl⟩
      obtain ⟨bs, hbs⟩ : ∃ z, ts[i].2.2.1 = z := ⟨_, rfl⟩
      obtain ⟨ls, hls⟩ : ∃ z, ts[i].2.2.2 = z := ⟨_, rfl⟩
      obtain ⟨TB, hTB⟩ : ∃ z, taskB ts[i] = z := ⟨_, rfl⟩
      obtain ⟨TH, hTH⟩ : ∃ z, taskH ts[i] = z := ⟨_, rfl⟩
      rw [hTH, hx0, hx1, hbs] at HTH
      rw [hTB, hTH, hbs, hls] at HTB
      rw [hTB] at HNX
      rw [hx0] at c0
      rw [hx1] at c1
      rw [hbs, hls] at hbl
      rw [hls] at hlag hb2
      rw [hbs] at hb1 hbsm
      obtain ⟨X, hX⟩ : ∃ z, headB s ts.length ++ tasksB ts i = z := ⟨_, rfl⟩
      have HXE := Lib.hid hX
      rw [hX] at HO hXL hn
      have HLAG := Lib.hid hlag
      have HBL := Lib.hid hbl
      have HI1 : Hid (∀ W, Below w.heap.size w W → Ints W vb bs) := fun W hW => hb1.below hW (Nat.le_refl _)
      have HI2 : Hid (∀ W, Below w.heap.size w W → Ints W vl ls) := fun W hW => hb2.below hW (Nat.le_refl _)
      obtain ⟨hbm, p1, p2, rfl, hpc, _⟩ := hb1
      obtain ⟨_, r1, r2, rfl, _⟩ := hb2
      unfold maxLen at hbm
      have k0 : (0 : Int) ≤ (i : Int) := by omega
      have k1 : (i : Int) < (ts.length : Int) := by omega
      have hgN := (HO.out.lt g rfl).1
      have HBG : Hid (some bt ≠ (Value.slice (some ⟨g, 0, none⟩) n c).ownBlock) := by
        show some bt ≠ some g; intro h; cases h; omega
      have hwr := HB.out.size
      have y0 := u8_wrap x0
      have y1 := u8_wrap x1
      have y2 := u8_wrap (bs.length : Int)
      clear e0 e1 e2 e3 hx0 hx1 hbs hls hTB hTH hX hlag hbl he
      go_wp2
      go_region_held3 (fun w' => w'.cell? ⟨bt, ot + i * 4, none⟩ = some (.int .i64 x0) ∧ w'.cell? ⟨bt, ot + i * 4 + 1, none⟩ = some (.int .i64 x1) ∧ w'.cell? ⟨bt, ot + i * 4 + 2, none⟩ = some (.slice p1 bs.length p2))
        (first | go_keep | (go_split_ands; refine ⟨?_, ?_, ?_⟩ <;> (rw [hg5.cell_far _ (by simp; omega) HBG.out]; assumption)))
        ((refine step_append_yN (by rfl) _ _ (by rfl) w.heap.size (.slice (some ⟨g, 0, none⟩) n c) X [x0 % 256, x1 % 256, (bs.length : Int) % 256] (by simp) (by rfl) 3 (by rfl) HO.out hwr (by simp; omega) ?_; intro g5 c5 n5 w5 hn5 ho5 hg5))
      have HB5 : Hid (Below w.heap.size w w5) := HB.out.grown hg5 hwr (fun k e => (HO.out.lt k e).1)
      have HO5 := Lib.hid ho5
      have HN5 := hn5
      have f2 := (HB5.out.cell (p := ⟨bt, ot + i * 4 + 2, none⟩) hbA).trans HE2.out
      clear hg5 ho5 hn5 HB HO hn c0 c1 c2 d0 d1 d2 y0 y1 y2 HBG hgN hwr
      go_wp2
      go_loopw [3, 73] (fun vb vk wk => ∃ k g c n : Nat, k ≤ bs.length ∧ vk = .int .i64 k ∧ vb = .slice (some ⟨g, 0, none⟩) n c ∧ Hid (n = (X ++ TH ++ pairTo bs ls k).length) ∧ Hid (OwnY wk w.heap.size (.slice (some ⟨g, 0, none⟩) n c) (X ++ TH ++ pairTo bs ls k)) ∧ Hid (Below w.heap.size w wk)) (fun _ vk _ => bs.length - (intOf vk).toNat)
      case atStart => exact ⟨0, g5, c5, n5, Nat.zero_le _, rfl, rfl, by show _ = _; rw [HN5.out, HTH.out]; simp [pairTo], by show OwnY _ _ _ _; rw [HTH.out]; simpa [pairTo] using HO5.out, HB5.out⟩
      case round =>
        obtain ⟨k, gk, ck, nk, hk, rfl, rfl, hnk, HOK, HBK⟩ := hrel
        obtain ⟨wk', rfl⟩ : ∃ wk' : World, wk' = wr := ⟨_, rfl⟩
        clear HO5 HN5 HB5 f2
        by_cases hklt : k < bs.length
        · obtain ⟨_, y1, y2, hy, _, hyc⟩ := HI1.out w (Below.refl _ _)
          obtain ⟨yb, yo, hy1, hyb, ye⟩ := hyc k hklt
          obtain ⟨rfl, rfl⟩ : p1 = y1 ∧ p2 = y2 := by simpa using hy
          subst hy1
          obtain ⟨_, z1, z2, hz, _, hzc⟩ := HI2.out w (Below.refl _ _)
          have hkl : k < ls.length := by have := HBL.out; omega
          obtain ⟨zb, zo, hz1, hzb, ze⟩ := hzc k hkl
          obtain ⟨rfl, rfl⟩ : r1 = z1 ∧ r2 = z2 := by simpa using hz
          subst hz1
          have f2 := (HBK.out.cell (p := ⟨bt, ot + i * 4 + 2, none⟩) hbA).trans HE2.out
          have f3 := (HBK.out.cell (p := ⟨bt, ot + i * 4 + 3, none⟩) hbA).trans HE3.out
          have f4 := (HBK.out.cell (p := ⟨yb, yo + k, none⟩) hyb).trans ye
          have f5 := (HBK.out.cell (p := ⟨zb, zo + k, none⟩) hzb).trans ze
          obtain ⟨q0, q1⟩ := HLAG.out k hkl
          have HP := Lib.hid (pairTo_succ bs ls k)
          rw [← nth_eq hklt] at f4
          rw [← nth_eq hkl] at f5
          obtain ⟨bv, hbv⟩ : ∃ z, nth bs k = z := ⟨_, rfl⟩
          obtain ⟨lv, hlv⟩ : ∃ z, nth ls k = z := ⟨_, rfl⟩
          rw [hbv] at f4
          rw [hlv] at f5 q0 q1
          rw [hbv, hlv, show (lv + 100) % 256 = lv + 100 by omega] at HP
          obtain ⟨Y, hY⟩ : ∃ z, X ++ TH ++ pairTo bs ls k = z := ⟨_, rfl⟩
          have HYE := Lib.hid hY
          have hYL : Y.length ≤ 80000000 := by rw [← hY, List.length_append, List.length_append, pairTo_len, HTH.out]; simp; omega
          rw [hY] at hnk HOK
          have j0 : (0 : Int) ≤ (k : Int) := by omega
          have j1 : (k : Int) < (bs.length : Int) := by omega
          have j2 : (k : Int) < (ls.length : Int) := by omega
          have hgN := (HOK.out.lt gk rfl).1
          have HG1 : Hid (some bt ≠ (Value.slice (some ⟨gk, 0, none⟩) nk ck).ownBlock) := by
            show some bt ≠ some gk; intro h; cases h; omega
          have HG2 : Hid (some yb ≠ (Value.slice (some ⟨gk, 0, none⟩) nk ck).ownBlock) := by
            show some yb ≠ some gk; intro h; cases h; omega
          have HG3 : Hid (some zb ≠ (Value.slice (some ⟨gk, 0, none⟩) nk ck).ownBlock) := by
            show some zb ≠ some gk; intro h; cases h; omega
          have hwr := HBK.out.size
          have y0 := u8_wrap bv
          have y1 : IntKind.i64.wrap (lv + 100) = lv + 100 := IntWalk.i64_in _ (by omega)
          have y2 : IntKind.u8.wrap (lv + 100) = lv + 100 := IntWalk.u8_in _ (by omega)
          clear hbv hlv hY hyc hzc hy hz ye ze
          go_wp2
          go_region_held3 (fun w' => w'.cell? ⟨bt, ot + i * 4 + 2, none⟩ = some (.slice (some ⟨yb, yo, none⟩) bs.length p2) ∧ w'.cell? ⟨bt, ot + i * 4 + 3, none⟩ = some (.slice (some ⟨zb, zo, none⟩) ls.length r2) ∧ w'.cell? ⟨yb, yo + k, none⟩ = some (.int .i64 bv) ∧ w'.cell? ⟨zb, zo + k, none⟩ = some (.int .i64 lv))
            (first | go_keep | (go_split_ands; refine ⟨?_, ?_, ?_, ?_⟩ <;> (first | (rw [hg6.cell_far _ (by simp; omega) HG1.out]; assumption) | (rw [hg6.cell_far _ (by simp; omega) HG2.out]; assumption) | (rw [hg6.cell_far _ (by simp; omega) HG3.out]; assumption))))
            ((refine step_append_yN (by rfl) _ _ (by rfl) w.heap.size (.slice (some ⟨gk, 0, none⟩) nk ck) Y [bv % 256, lv + 100] (by simp) (by rfl) 2 (by rfl) HOK.out hwr (by simp; omega) ?_; intro g6 c6 n6 w6 hn6 ho6 hg6))
          have HB6 : Hid (Below w.heap.size w w6) := HBK.out.grown hg6 hwr (fun k e => (HOK.out.lt k e).1)
          have HO6 := Lib.hid ho6
          have HN6 := hn6
          clear hn6 ho6 hg6 y0 y1 y2
          go_wp2
          go_roundw
          case rel => exact ⟨k + 1, g6, c6, n6, by omega, by go_num, rfl, by show _ = _; rw [HN6.out, HP.out, ← HYE.out]; simp, by show OwnY _ _ _ _; rw [HP.out, ← List.append_assoc, HYE.out]; exact HO6.out, HB6.out⟩
          case measure => simp [intOf]; omega
        · obtain rfl : k = bs.length := by omega
          clear hklt
          go_wp2
          go_roundw
          case rel => exact ⟨i + 1, gk, ck, nk, by omega, by go_num, rfl, by show _ = _; rw [hnk.out, HNX.out, HTB.out, ← HXE.out]; simp, by show OwnY _ _ _ _; rw [HNX.out, HTB.out, ← List.append_assoc, HXE.out, ← List.append_assoc]; exact HOK.out, HBK.out⟩
          case measure => simp [intOf]; omega
    · obtain rfl : i = ts.length := by omega
      have hXL : (headB s ts.length ++ tasksB ts ts.length).length ≤ 40000000 := by rw [List.length_append, headB_len]; have := HTL.out ts.length hi; omega
      have HBODY : Hid (bodyB (s, ts, st) = headB s ts.length ++ tasksB ts ts.length ++ startsB st st.length) := rfl
      have HSTO : Hid (storeS (s, ts, st) = strOfNums (bodyB (s, ts, st) ++ [chk 0 (strOfNums (bodyB (s, ts, st))) % 256, chk 0 (strOfNums (bodyB (s, ts, st))) / 256])) := rfl
      obtain ⟨Z, hZ⟩ : ∃ z, headB s ts.length ++ tasksB ts ts.length = z := ⟨_, rfl⟩
      rw [hZ] at hn HO hXL HBODY
      clear hZ hlt hi HTC HBT HSM HTL
      go_wp2
      go_loopw [3, 103] (fun vb vk wk => ∃ k g c n : Nat, k ≤ st.length ∧ vk = .int .i64 k ∧ vb = .slice (some ⟨g, 0, none⟩) n c ∧ Hid (n = (Z ++ startsB st k).length) ∧ Hid (OwnY wk w.heap.size (.slice (some ⟨g, 0, none⟩) n c) (Z ++ startsB st k)) ∧ Hid (Below w.heap.size w wk)) (fun _ vk _ => st.length - (intOf vk).toNat)
      case atStart => exact ⟨0, g, c, n, Nat.zero_le _, rfl, rfl, by show _ = _; rw [hn.out]; simp [startsB], by show OwnY _ _ _ _; simpa [startsB] using HO.out, HB.out⟩
      case round =>
        obtain ⟨k, gk, ck, nk, hk, rfl, rfl, hnk, HOK, HBK⟩ := hrel
        obtain ⟨wk', rfl⟩ : ∃ wk' : World, wk' = wr := ⟨_, rfl⟩
        clear d0 d1 d2 hn HO HB
        obtain ⟨d0, d1, d2⟩ := HC.out wk' HBK.out
        by_cases hklt : k < st.length
        · obtain ⟨_, y1, y2, hy, _, hyc⟩ := HS.out w (Below.refl _ _)
          obtain ⟨yb, yo, hy1, hyb, ye⟩ := hyc k hklt
          obtain ⟨rfl, rfl⟩ : s1 = y1 ∧ s2 = y2 := by simpa using hy
          subst hy1
          obtain ⟨q0, q1⟩ := HBS.out k hklt
          have f4 := (HBK.out.cell (p := ⟨yb, yo + k, none⟩) hyb).trans ye
          have HP := Lib.hid (startsB_succ st k)
          rw [← nth_eq hklt] at f4
          obtain ⟨bv, hbv⟩ : ∃ z, nth st k = z := ⟨_, rfl⟩
          rw [hbv] at f4 q0 q1 HP
          obtain ⟨Y, hY⟩ : ∃ z, Z ++ startsB st k = z := ⟨_, rfl⟩
          have HYE := Lib.hid hY
          have hYL : Y.length ≤ 80000000 := by rw [← hY, List.length_append, startsB_len]; omega
          rw [hY] at hnk HOK
          have j0 : (0 : Int) ≤ (k : Int) := by omega
          have j1 : (k : Int) < (st.length : Int) := by omega
          have hgN := (HOK.out.lt gk rfl).1
          have HG1 : Hid (some b ≠ (Value.slice (some ⟨gk, 0, none⟩) nk ck).ownBlock) := by
            show some b ≠ some gk; intro h; cases h; omega
          have HG2 : Hid (some yb ≠ (Value.slice (some ⟨gk, 0, none⟩) nk ck).ownBlock) := by
            show some yb ≠ some gk; intro h; cases h; omega
          have hwr := HBK.out.size
          have m1 : bv.tmod 256 = bv % 256 := Int.tmod_eq_emod_of_nonneg q0
          have m2 : bv.tdiv 256 = bv / 256 := Int.tdiv_eq_ediv_of_nonneg q0
          have y0 : IntKind.u8.wrap (bv % 256) = bv % 256 := IntWalk.u8_in _ (by omega)
          have y1 : IntKind.u8.wrap (bv / 256) = bv / 256 := IntWalk.u8_in _ (by omega)
          have y2 : IntKind.i64.wrap (bv % 256) = bv % 256 := IntWalk.i64_in _ (by omega)
          have y3 : IntKind.i64.wrap (bv / 256) = bv / 256 := IntWalk.i64_in _ (by omega)
          clear hbv hY hyc hy ye
          go_wp2
          go_region_held3 (fun w' => w'.cell? ⟨b, o + 2, none⟩ = some (.slice (some ⟨yb, yo, none⟩) st.length s2) ∧ w'.cell? ⟨yb, yo + k, none⟩ = some (.int .i64 bv))
            (first | go_keep | (go_split_ands; refine ⟨?_, ?_⟩ <;> (first | (rw [hg6.cell_far _ (by simp; omega) HG1.out]; assumption) | (rw [hg6.cell_far _ (by simp; omega) HG2.out]; assumption))))
            ((refine step_append_yN (by rfl) _ _ (by rfl) w.heap.size (.slice (some ⟨gk, 0, none⟩) nk ck) Y [bv % 256, bv / 256] (by simp) (by rfl) 2 (by rfl) HOK.out hwr (by simp; omega) ?_; intro g6 c6 n6 w6 hn6 ho6 hg6))
          have HB6 : Hid (Below w.heap.size w w6) := HBK.out.grown hg6 hwr (fun k e => (HOK.out.lt k e).1)
          have HO6 := Lib.hid ho6
          have HN6 := hn6
          clear hn6 ho6 hg6 y0 y1 y2 y3 m1 m2
          go_wp2
          go_roundw
          case rel => exact ⟨k + 1, g6, c6, n6, by omega, by go_num, rfl, by show _ = _; rw [HN6.out, HP.out, ← HYE.out]; simp, by show OwnY _ _ _ _; rw [HP.out, ← List.append_assoc, HYE.out]; exact HO6.out, HB6.out⟩
          case measure => simp [intOf]; omega
        · obtain rfl : k = st.length := by omega
          rw [← HBODY.out] at hnk HOK
          have hYL : (bodyB (s, ts, st)).length ≤ 80000000 := by rw [HBODY.out, List.length_append, startsB_len]; omega
          obtain ⟨Y, hY⟩ : ∃ z, bodyB (s, ts, st) = z := ⟨_, rfl⟩
          rw [hY] at hnk HOK HSTO hYL
          obtain ⟨q0, q1⟩ := chk_win (n := 0) (by decide) (by decide) (strOfNums Y)
          have HCK := Lib.hid (l01Check_any 0 (strOfNums Y) wk' (by decide) (by decide) (by rw [strOfNums_size]; unfold maxLen; omega))
          obtain ⟨cv, hcv⟩ : ∃ z, chk 0 (strOfNums Y) = z := ⟨_, rfl⟩
          rw [hcv] at q0 q1 HCK HSTO
          have hwr := HBK.out.size
          have kcv := conv_yN hnk.out HOK.out
          have m1 : cv.tmod 256 = cv % 256 := Int.tmod_eq_emod_of_nonneg q0
          have m2 : cv.tdiv 256 = cv / 256 := Int.tdiv_eq_ediv_of_nonneg q0
          have m3 : cv / 256 % 256 = cv / 256 := by omega
          clear hklt hY hcv
          go_wp2_with (first
            | (go_at_call 119; refine HCK.out.mono ?_; rintro e w6 ⟨rfl, rfl⟩)
            | (at_builtin; refine append_yN rfl _ _ rfl w.heap.size (.slice (some ⟨gk, 0, none⟩) nk ck) Y [cv % 256, cv / 256] (by simp) rfl _ rfl HOK.out hwr (by simp; omega) ?_; intro g6 c6 n6 w6 hn6 ho6 hg6; have kcw := conv_yN hn6.out ho6; have HB6 : Hid (Below w.heap.size w w6) := HBK.out.grown hg6 hwr (fun k e => (HOK.out.lt k e).1); clear ho6 hg6 hn6))
          go_ret
          exact ⟨by rw [HSTO.out]; rfl, HB6.out⟩
end Go.Proofs.Ytmhepomjbaendaa
