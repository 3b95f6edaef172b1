
/- StoreSaved, the program. Conditions: a valid plan. -/
import Derived.Test.YtmhepomjbaendaaStoreP
import Derived.Test.YtmhepomjbaendaaBytes2
import Derived.Deep.RegionWith
import Derived.IntWalk
import Derived.Deep.RegionLaw
namespace Go.Proofs.Ytmhepomjbaendaa
open Go.RowKit Go.BigFrame
set_option linter.unusedVariables false
set_option linter.unusedSimpArgs false
attribute [local go_sem] Oper.semAt_some

set_option maxRecDepth 100000 in
set_option maxHeartbeats 4000000 in
theorem implStore_yes (s : ByteArray) (vt vs : Value) (ts : List Tk) (st : List Int) (w : World) (hsz : s.size ≤ maxLen) (ht : TasksR w vt ts) (hs : Ints w vs st) (hok : savedOk (s, ts, st) = true) (hsm : ∀ x ∈ ts, x.2.2.1.length ≤ 1048576) :
    Calls Try.prog 22 #[savedV s vt vs] w fun e w' => e = .returned (.tuple #[.string (storeS (s, ts, st)), .bool true]) ∧ Below w.heap.size w w' := by
  obtain ⟨b8, bt1, bt2, bst, btask, bstart⟩ := saved_bounds hok
  have HVS : Hid (∀ W, Below w.heap.size w W → Calls Try.prog 29 #[savedV s vt vs] W fun e w' => e = .returned (.bool true) ∧ Below W.heap.size W w') := fun W hW => by
    have := validSaved_any s vt vs ts st W hsz (ht.below hW (Nat.le_refl _)) (hs.below hW (Nat.le_refl _)); rwa [hok] at this
  have HT : Hid (∀ W, Below w.heap.size w W → TasksR W vt ts) := fun W hW => ht.below hW (Nat.le_refl _)
  have HS : Hid (∀ W, Below w.heap.size w W → Ints W vs st) := fun W hW => hs.below hW (Nat.le_refl _)
  obtain ⟨t1, t2, rfl⟩ : ∃ t1 t2, vt = .slice t1 ts.length t2 := by obtain ⟨_, t1, t2, h, _⟩ := ht; exact ⟨t1, t2, h⟩
  obtain ⟨s1, s2, rfl⟩ : ∃ t1 t2, vs = .slice t1 st.length t2 := by obtain ⟨_, t1, t2, h, _⟩ := hs; exact ⟨t1, t2, h⟩
  have hB0 : Below w.heap.size w (w.alloc (.cells #[.string s, .slice t1 ts.length t2, .slice s1 st.length s2] 44)) := (Below.refl _ w).alloc (Nat.le_refl _) _
  have k1 : Blk (w.alloc (.cells #[.string s, .slice t1 ts.length t2, .slice s1 st.length s2] 44)) w.heap.size 44 [.string s, .slice t1 ts.length t2, .slice s1 st.length s2] := Blk.new w _ _
  have HBT := Lib.hid btask
  have bs16 : st.length ≤ 16 := by omega
  have HBS := Lib.hid bstart
  have HSM := Lib.hid hsm
  have hq8 : (s.size : Int) % 256 = s.size := by omega
  have hw16 : IntKind.u8.wrap (ts.length : Int) = ts.length := IntWalk.u8_in _ (by omega)
  have hq16 : (ts.length : Int) % 256 = ts.length := by omega
  unfold savedV at HVS ⊢
  clear hsz ht hs hok btask bstart hsm bst
  go_enter Try.func22, Try.ntmps22
  go_wp2_with fail
  obtain ⟨A, hA⟩ : ∃ A, w.heap.size = A := ⟨_, rfl⟩
  obtain ⟨W0, hW0⟩ : ∃ W0, w.alloc (.cells #[.string s, .slice t1 ts.length t2, .slice s1 st.length s2] 44) = W0 := ⟨_, rfl⟩
  rw [hW0] at hB0 k1 ⊢
  rw [hA] at k1 ⊢
  have HA := Lib.hid hA
  have HB0 := Lib.hid hB0
  have HK0 := Lib.hid k1
  clear hW0 hA hB0 k1
  refine (HVS.out W0 HB0.out).mono ?_
  rintro e W1 ⟨rfl, hb1⟩
  have HB1 := Lib.hid (HB0.out.trans (hb1.mono HB0.out.size))
  have HK1 := Lib.hid (HK0.out.below hb1 HK0.out.lt)
  have d0 := HK1.out.cell 0 _ rfl
  have d1 := HK1.out.cell 1 _ rfl
  have d2 := HK1.out.cell 2 _ rfl
  have l1 := HK1.out.lt
  have HL1 : Hid (OwnY (W1.alloc (.cells #[.int .u8 80, .int .u8 76, .int .u8 78, .int .u8 49] 5)) W1.heap.size (.slice (some ⟨W1.heap.size, 0, none⟩) 4 4) [80, 76, 78, 49]) := OwnY.lit W1 W1.heap.size [80, 76, 78, 49] (Nat.le_refl _) (by unfold maxLen; simp)
  have HBL : Hid (Below W1.heap.size W1 (W1.alloc (.cells #[.int .u8 80, .int .u8 76, .int .u8 78, .int .u8 49] 5))) := (Below.refl _ _).alloc (Nat.le_refl _) _
  have kc := fun (w : World) (C : Array Value) (n c : Nat) => conv_const w C n c
  clear hb1 HB0 HK0 HVS HL1 HBL
  have HC4 : Hid (∀ i, i < 4 → (W1.alloc (.cells #[.int .u8 80, .int .u8 76, .int .u8 78, .int .u8 49] 5 (4, 4 + 1))).cell? ⟨W1.heap.size, i, none⟩ = some (.int .u8 (([80, 76, 78, 49] : List Int).getD i 0))) := fun i hi => by
    have hh : (W1.alloc (.cells #[.int .u8 80, .int .u8 76, .int .u8 78, .int .u8 49] 5 (4, 4 + 1))).heap[W1.heap.size]? = some (.cells #[.int .u8 80, .int .u8 76, .int .u8 78, .int .u8 49] 5 (4, 4 + 1)) := World.alloc_heap_new W1 _
    unfold World.cell?
    rw [hh]
    match i, hi with
    | 0, _ => rfl
    | 1, _ => rfl
    | 2, _ => rfl
    | 3, _ => rfl
  have HBL : Hid (Below W1.heap.size W1 (W1.alloc (.cells #[.int .u8 80, .int .u8 76, .int .u8 78, .int .u8 49] 5 (4, 4 + 1)))) := (Below.refl _ _).alloc (Nat.le_refl _) _
  obtain ⟨Wm, hWm⟩ : ∃ Wm, W1.alloc (.cells #[.int .u8 80, .int .u8 76, .int .u8 78, .int .u8 49] 5 (4, 4 + 1)) = Wm := ⟨_, rfl⟩
  have hmz : Wm.heap.size = W1.heap.size + 1 := by rw [← hWm]; simp
  have HWM := Lib.hid hWm
  have HMZ := Lib.hid hmz
  rw [hWm] at HC4 HBL
  clear hWm hmz
  go_wp2_with (at_builtin; rw [HWM.out, ← HMZ.out]; refine append_fullY rfl _ _ rfl W1.heap.size [80, 76, 78, 49] [(s.size : Int)] (Nat.zero_lt_succ _) rfl HC4.out (by rw [HMZ.out]; omega) _ rfl (by simp) ?_; intro g2 c2 w2 ho2 hb2; have HO2 := Lib.hid ho2; have HB2 := Lib.hid hb2; clear ho2 hb2)
  have HBW2 : Hid (Below A w w2) := by
    have h1 := HB1.out
    rw [HA.out] at h1
    have h2 : Below W1.heap.size W1 w2 := HBL.out.trans (HB2.out.mono (by rw [HMZ.out]; omega))
    exact h1.trans (h2.mono (by have := h1.size; omega))
  have hAW : A ≤ W1.heap.size := by have := HB1.out.size; rw [HA.out] at this; exact this
  have HK2 : Hid (Blk w2 A 44 [.string s, .slice t1 ts.length t2, .slice s1 st.length s2]) := (HK1.out.below HBL.out l1).below HB2.out (by rw [HMZ.out]; omega)
  have HO2A : Hid (OwnY w2 (A + 1) (.slice (some ⟨g2, 0, none⟩) 5 c2) (head1 s)) := HO2.out.mono (by rw [HMZ.out]; omega)
  have hs2 : A ≤ w2.heap.size := by have := HK2.out.lt; omega
  have d0 := HK2.out.cell 0 _ rfl
  have d1 := HK2.out.cell 1 _ rfl
  have hl2 := HK2.out.lt
  clear HB1 HK1 HC4 HBL HO2 HB2 HWM HMZ kc d2 hAW l1
  go_wp2_with fail
  refine cut_shareB (P := ?P4) ?main4 ?cont4
  case cont4 =>
    intro key
    go_region_law (first
      | (refine step_textN (by rfl) _ _ (by rfl) (A + 1) (.slice (some ⟨g2, 0, none⟩) 5 c2) (head1 s) (by rfl) s (by rfl) (by first | exact HO2A.out.drew | exact HO2A.out.drew.alloc _) (by simp [head1]) (by simp; omega) (by simp [head1]; omega) ?_; intro g3 c3 n3 w3 hn3 ho3 hg3; have HO3 := Lib.hid ho3; have HB3 : Hid (Below A w w3) := (by first | exact (HBW2.out.drew).grown hg3 (by simp; omega) (fun k e => by have := (HO2A.out.lt k e).1; omega) | exact ((HBW2.out.drew).alloc (by simp; omega) _).grown hg3 (by simp; omega) (fun k e => by have := (HO2A.out.lt k e).1; omega)); have HLIT := Lib.hid hg3; have HK3 : Hid (Blk w3 A 44 [.string s, .slice t1 ts.length t2, .slice s1 st.length s2]) := (by first | exact (show Blk w2.drew A _ _ from HK2.out).grown hg3 (fun e => by have := (HO2A.out.lt A e.symm).1; omega) | exact ((show Blk w2.drew A _ _ from HK2.out).alloc _).grown hg3 (fun e => by have := (HO2A.out.lt A e.symm).1; omega)); have f0 := HK3.out.cell 0 _ rfl; have f1 := HK3.out.cell 1 _ rfl; have hl3 : A < w3.heap.size := (by have := hg3.size; simp at this; omega); clear ho3 hg3)
      | (refine step_yN (by rfl) _ _ (by rfl) (A + 1) (.slice (some ⟨g3, 0, none⟩) n3 c3) (head1 s ++ chs s) [(ts.length : Int)] (by simp) (by rfl) _ 1 (by rfl) (by first | exact HO3.out | exact HO3.out.alloc _) (by first | exact lit_kept (W := w2.drew) (ys := [(ts.length : Int)]) HLIT.out (fun k e => (HO2A.out.lt k e).2) | exact cells_lit _ [Value.int .u8 (ts.length : Int)] _) (by first | omega | (simp; omega)) (by simp [head1, chs_length]; omega) ?_; intro g4 c4 n4 w4 hn4 ho4 hg4; have HO4 := Lib.hid ho4; have HB4 : Hid (Below A w w4) := (by first | exact HB3.out.grown hg4 (by omega) (fun k e => by have := (HO3.out.lt k e).1; omega) | exact (HB3.out.alloc (by omega) _).grown hg4 (by simp; omega) (fun k e => by have := (HO3.out.lt k e).1; omega)); have HK4 : Hid (Blk w4 A 44 [.string s, .slice t1 ts.length t2, .slice s1 st.length s2]) := (by first | exact HK3.out.grown hg4 (fun e => by have := (HO3.out.lt A e.symm).1; omega) | exact (HK3.out.alloc _).grown hg4 (fun e => by have := (HO3.out.lt A e.symm).1; omega)); clear ho4 hg4))
    all_goals
      first
        | (obtain ⟨LB, hLB⟩ : ∃ LB, w3.heap.size = LB := ⟨_, rfl⟩; rw [hLB]; clear hLB; clear HO3 HB3 HK3 HLIT hl3 f0 f1 hn3; revert g3 c3 n3 LB g4 c4 n4 w4; exact key.out)
        | (obtain ⟨LB, hLB⟩ : ∃ LB, w2.heap.size = LB := ⟨_, rfl⟩; rw [hLB]; clear hLB; clear HO3 HB3 HK3 HLIT hl3 f0 f1 hn3; revert g3 c3 n3 LB g4 c4 n4 w4; exact key.out)
  intro g3 c3 n3 g4 c4 n4 w4 hn4 HO4 HB4 HK4 LB
  have HO4' : Hid (OwnY w4 (A + 1) (.slice (some ⟨g4, 0, none⟩) n4 c4) (headB s ts.length)) := HO4.out
  have HN4 : Hid (n4 = (headB s ts.length).length) := hn4
  have d1' := HK4.out.cell 1 _ rfl
  clear hn4 HO4 d0 d1 hl2 HBW2 HK2 HO2A hs2
  have HTW : Hid (∀ W, Below A w W → TasksR W (.slice t1 ts.length t2) ts) := fun W hW => HT.out W (by rw [HA.out]; exact hW)
  have HTL : Hid (∀ i, i ≤ ts.length → (tasksB ts i).length ≤ i * 2097155) := tasksB_len HSM.out
  go_wp2_with fail
  have HTC : Hid (∀ i (hi : i < ts.length), ∃ b o vb vl, t1 = some ⟨b, o, none⟩ ∧ b < A ∧ Ints w vb ts[i].2.2.1 ∧ Ints w vl ts[i].2.2.2 ∧ w.cell? ⟨b, o + i * 4, none⟩ = some (.int .i64 ts[i].1) ∧ w.cell? ⟨b, o + i * 4 + 1, none⟩ = some (.int .i64 ts[i].2.1) ∧ w.cell? ⟨b, o + i * 4 + 2, none⟩ = some vb ∧ w.cell? ⟨b, o + i * 4 + 3, none⟩ = some vl) := fun i hi => by
    obtain ⟨a3, c3, hsl3, _, hc⟩ := (HT.out w (Below.refl _ _)).at_
    obtain ⟨rfl, rfl⟩ : t1 = a3 ∧ t2 = c3 := by simpa using hsl3
    obtain ⟨b, o, vb, vl, h0, hbs, h1, h2, _, _, e0, e1, e2, e3⟩ := hc i hi
    exact ⟨b, o, vb, vl, h0, by rw [← HA.out]; exact hbs, h1.ints.1, h2.ints.1, e0, e1, e2, e3⟩
  go_loopw [4, 37] (fun vb vi wr => ∃ i g c n : Nat, i ≤ ts.length ∧ vi = .int .i64 i ∧ vb = .slice (some ⟨g, 0, none⟩) n c ∧ Hid (n = (headB s ts.length ++ tasksB ts i).length) ∧ Hid (OwnY wr (A + 1) (.slice (some ⟨g, 0, none⟩) n c) (headB s ts.length ++ tasksB ts i)) ∧ Hid (Below A w wr) ∧ Hid (Blk wr A 44 [.string s, .slice t1 ts.length t2, .slice s1 st.length s2])) (fun _ vi _ => ts.length - (intOf vi).toNat)
  case atStart => exact ⟨0, g4, c4, n4, Nat.zero_le _, rfl, rfl, by show _ = _; rw [HN4.out]; simp [tasksB, headB], by show OwnY _ _ _ _; simpa [tasksB] using HO4'.out, HB4.out, HK4.out⟩
  case round =>
    obtain ⟨i, g, c, n, hi, rfl, rfl, hn, HO, HB, HK⟩ := hrel
    obtain ⟨wr', rfl⟩ : ∃ wr' : World, wr' = wr := ⟨_, rfl⟩
    have hlA := HK.out.lt
    by_cases hlt : i < ts.length
    · obtain ⟨b, o, vb, vl, rfl, hbA, hb1, hb2, e0, e1, e2, e3⟩ := HTC.out i hlt
      have c0 := (HB.out.cell (p := ⟨b, o + i * 4, none⟩) hbA).trans e0
      have c1 := (HB.out.cell (p := ⟨b, o + i * 4 + 1, none⟩) hbA).trans e1
      have c2 := (HB.out.cell (p := ⟨b, o + i * 4 + 2, none⟩) hbA).trans e2
      have c3 := (HB.out.cell (p := ⟨b, o + i * 4 + 3, none⟩) hbA).trans e3
      have hXL : (headB s ts.length ++ tasksB ts i).length ≤ 40000000 := by rw [List.length_append, headB_len]; have := HTL.out i hi; omega
      have HNX := Lib.hid (tasksB_succ ts i hlt)
      have HTB : Hid (taskB ts[i] = taskH ts[i] ++ pairTo ts[i].2.2.1 ts[i].2.2.2 ts[i].2.2.1.length) := rfl
      have HTH : Hid (taskH ts[i] = [ts[i].1 % 256, ts[i].2.1 % 256, (ts[i].2.2.1.length : Int) % 256]) := rfl
      obtain ⟨hbl, hlag⟩ := HBT.out i hlt
      have hbsm := HSM.out _ (List.getElem_mem hlt)
      obtain ⟨x0, hx0⟩ : ∃ z, ts[i].1 = z := ⟨_, rfl⟩
      obtain ⟨x1, hx1⟩ : ∃ z, ts[i].2.1 = z := ⟨_, rfl⟩
      obtain ⟨bs, hbs⟩ : ∃ z, ts[i].2.2.1 = z := ⟨_, rfl⟩
      obtain ⟨ls, hls⟩ : ∃ z, ts[i].2.2.2 = z := ⟨_, rfl⟩
      obtain ⟨TB, hTB⟩ : ∃ z, taskB ts[i] = z := ⟨_, rfl⟩
      obtain ⟨TH, hTH⟩ : ∃ z, taskH ts[i] = z := ⟨_, rfl⟩
      rw [hTH, hx0, hx1, hbs] at HTH
      rw [hTB, hTH, hbs, hls] at HTB
      rw [hTB] at HNX
      rw [hx0] at c0
      rw [hx1] at c1
      rw [hbs, hls] at hbl
      rw [hls] at hlag hb2
      rw [hbs] at hb1 hbsm
      obtain ⟨X, hX⟩ : ∃ z, headB s ts.length ++ tasksB ts i = z := ⟨_, rfl⟩
      have HXE := Lib.hid hX
      rw [hX] at HO hXL hn
      have HLAG := Lib.hid hlag
      have HBL := Lib.hid hbl
      have HI1 : Hid (∀ W, Below A w W → Ints W vb bs) := fun W hW => hb1.below hW (by rw [HA.out]; exact Nat.le_refl _)
      have HI2 : Hid (∀ W, Below A w W → Ints W vl ls) := fun W hW => hb2.below hW (by rw [HA.out]; exact Nat.le_refl _)
      obtain ⟨hbm, p1, p2, rfl, hpc, _⟩ := hb1
      obtain ⟨_, r1, r2, rfl, _⟩ := hb2
      unfold maxLen at hbm
      have k0 : (0 : Int) ≤ (i : Int) := by omega
      have k1 : (i : Int) < (ts.length : Int) := by omega
      obtain ⟨WX, hWX⟩ : ∃ WX, wr'.alloc (.cells #[.int .i64 x0, .int .i64 x1, .slice p1 bs.length p2, .slice r1 ls.length r2] 86) = WX := ⟨_, rfl⟩
      have hXZ : WX.heap.size = wr'.heap.size + 1 := by rw [← hWX]; simp
      have HBX : Hid (Blk (wr'.alloc (.cells #[.int .i64 x0, .int .i64 x1, .slice p1 bs.length p2, .slice r1 ls.length r2] 86)) wr'.heap.size 86 [.int .i64 x0, .int .i64 x1, .slice p1 bs.length p2, .slice r1 ls.length r2]) := Blk.new wr' _ _
      have HOX : Hid (OwnY (wr'.alloc (.cells #[.int .i64 x0, .int .i64 x1, .slice p1 bs.length p2, .slice r1 ls.length r2] 86)) (A + 1) (.slice (some ⟨g, 0, none⟩) n c) X) := HO.out.alloc _
      have HBB : Hid (Below A w (wr'.alloc (.cells #[.int .i64 x0, .int .i64 x1, .slice p1 bs.length p2, .slice r1 ls.length r2] 86))) := HB.out.alloc (by omega) _
      have HKB : Hid (Blk (wr'.alloc (.cells #[.int .i64 x0, .int .i64 x1, .slice p1 bs.length p2, .slice r1 ls.length r2] 86)) A 44 [.string s, .slice (some ⟨b, o, none⟩) ts.length t2, .slice s1 st.length s2]) := HK.out.alloc _
      rw [hWX] at HBX HOX HBB HKB
      have HWX := Lib.hid hWX
      have HXZ := Lib.hid hXZ
      have hgA : g ≠ A ∧ g < wr'.heap.size ∧ g ≠ wr'.heap.size := by have := HO.out.lt g rfl; omega
      clear hWX hXZ HO HB HK
      clear e0 e1 e2 e3 hx0 hx1 hbs hls hTB hTH hX hlag hbl
      go_wp2_with (at_builtin; rw [HWX.out, ← HXZ.out]; refine append_yN rfl _ _ rfl (A + 1) (.slice (some ⟨g, 0, none⟩) n c) X [x0 % 256, x1 % 256, (bs.length : Int) % 256] (by simp) rfl _ rfl HOX.out (by rw [HXZ.out]; omega) (by simp; omega) ?_; intro g5 c5 n5 w5 hn5 ho5 hg5; have HO5 := Lib.hid ho5; have HN5 := hn5; have HBX5 : Hid (Blk w5 wr'.heap.size 86 [.int .i64 x0, .int .i64 x1, .slice p1 bs.length p2, .slice r1 ls.length r2]) := HBX.out.grown hg5 (fun e => hgA.2.2 (by simpa [Value.ownBlock] using e.symm)); have HB5 : Hid (Below A w w5) := HBB.out.grown hg5 (by rw [HXZ.out]; omega) (fun k e => Nat.le_trans (Nat.le_succ A) (HOX.out.lt k e).1); have HK5 : Hid (Blk w5 A 44 [.string s, .slice (some ⟨b, o, none⟩) ts.length t2, .slice s1 st.length s2]) := HKB.out.grown hg5 (fun e => hgA.1 (by simpa [Value.ownBlock] using e.symm)); have f2 := HBX5.out.cell 2 _ rfl; clear hn5 ho5 hg5)
      have hw5 : wr'.heap.size ≤ w5.heap.size := by have := HBX5.out.lt; omega
      go_loopw [4, 57] (fun vb vk wk => ∃ k g c n : Nat, k ≤ bs.length ∧ vk = .int .i64 k ∧ vb = .slice (some ⟨g, 0, none⟩) n c ∧ Hid (n = (X ++ TH ++ pairTo bs ls k).length) ∧ Hid (OwnY wk (A + 1) (.slice (some ⟨g, 0, none⟩) n c) (X ++ TH ++ pairTo bs ls k)) ∧ Hid (Below A w wk) ∧ Hid (Blk wk A 44 [.string s, .slice (some ⟨b, o, none⟩) ts.length t2, .slice s1 st.length s2]) ∧ Hid (Blk wk wr'.heap.size 86 [.int .i64 x0, .int .i64 x1, .slice p1 bs.length p2, .slice r1 ls.length r2])) (fun _ vk _ => bs.length - (intOf vk).toNat)
      case atStart => exact ⟨0, g5, c5, n5, Nat.zero_le _, rfl, rfl, by show _ = _; rw [HN5.out, HTH.out]; simp [pairTo], by show OwnY _ _ _ _; rw [HTH.out]; simpa [pairTo] using HO5.out, HB5.out, HK5.out, HBX5.out⟩
      case round =>
        obtain ⟨k, gk, ck, nk, hk, rfl, rfl, hnk, HOK, HBK, HKK, HXK⟩ := hrel
        obtain ⟨wk', rfl⟩ : ∃ wk' : World, wk' = wr := ⟨_, rfl⟩
        clear HO5 HN5 HB5 HK5 HBX5 f2
        by_cases hklt : k < bs.length
        · obtain ⟨_, y1, y2, hy, _, hyc⟩ := HI1.out wk' HBK.out
          obtain ⟨yb, yo, hy1, _, ye⟩ := hyc k hklt
          obtain ⟨rfl, rfl⟩ : p1 = y1 ∧ p2 = y2 := by simpa using hy
          subst hy1
          obtain ⟨_, z1, z2, hz, _, hzc⟩ := HI2.out wk' HBK.out
          have hkl : k < ls.length := by have := HBL.out; omega
          obtain ⟨zb, zo, hz1, _, ze⟩ := hzc k hkl
          obtain ⟨rfl, rfl⟩ : r1 = z1 ∧ r2 = z2 := by simpa using hz
          subst hz1
          have f3 := HXK.out.cell 3 _ rfl
          obtain ⟨q0, q1⟩ := HLAG.out k hkl
          have HP := Lib.hid (pairTo_succ bs ls k)
          rw [← nth_eq hklt] at ye
          rw [← nth_eq hkl] at ze
          obtain ⟨bv, hbv⟩ : ∃ z, nth bs k = z := ⟨_, rfl⟩
          obtain ⟨lv, hlv⟩ : ∃ z, nth ls k = z := ⟨_, rfl⟩
          rw [hbv] at ye
          rw [hlv] at ze q0 q1
          rw [hbv, hlv, show (lv + 100) % 256 = lv + 100 by omega] at HP
          obtain ⟨Y, hY⟩ : ∃ z, X ++ TH ++ pairTo bs ls k = z := ⟨_, rfl⟩
          have HYE := Lib.hid hY
          have hYL : Y.length ≤ 80000000 := by rw [← hY, List.length_append, List.length_append, pairTo_len, HTH.out]; simp; omega
          rw [hY] at hnk HOK
          have j0 : (0 : Int) ≤ (k : Int) := by omega
          have j1 : (k : Int) < (bs.length : Int) := by omega
          have j2 : (k : Int) < (ls.length : Int) := by omega
          have hgk := HOK.out.lt gk rfl
          have hgX : gk ≠ wr'.heap.size := fun e => ownY_ne HOK.out HXK.out (by decide) (by simp [Value.ownBlock, e])
          clear hbv hlv hY hyc hzc hy hz
          go_wp2_with (at_builtin; refine append_yN rfl _ _ rfl (A + 1) (.slice (some ⟨gk, 0, none⟩) nk ck) Y [bv % 256, lv + 100] (by simp) rfl _ rfl HOK.out (by have := HKK.out.lt; omega) (by simp; omega) ?_; intro g6 c6 n6 w6 hn6 ho6 hg6; have HO6 := Lib.hid ho6; have HN6 := hn6; have HX6 : Hid (Blk w6 wr'.heap.size 86 [.int .i64 x0, .int .i64 x1, .slice (some ⟨yb, yo, none⟩) bs.length p2, .slice (some ⟨zb, zo, none⟩) ls.length r2]) := HXK.out.grown hg6 (fun e => hgX (by simpa [Value.ownBlock] using e.symm)); have HB6 : Hid (Below A w w6) := HBK.out.grown hg6 (by have := HKK.out.lt; omega) (fun k e => Nat.le_trans (Nat.le_succ A) (HOK.out.lt k e).1); have HK6 : Hid (Blk w6 A 44 [.string s, .slice (some ⟨b, o, none⟩) ts.length t2, .slice s1 st.length s2]) := HKK.out.grown hg6 (fun e => by have := (HOK.out.lt A e.symm).1; omega); clear hn6 ho6 hg6)
          go_roundw
          case rel => exact ⟨k + 1, g6, c6, n6, by omega, by go_num, rfl, by show _ = _; rw [HN6.out, HP.out, ← HYE.out]; simp, by show OwnY _ _ _ _; rw [HP.out, ← List.append_assoc, HYE.out]; exact HO6.out, HB6.out, HK6.out, HX6.out⟩
          case measure => simp [intOf]; omega
        · obtain rfl : k = bs.length := by omega
          clear hklt
          go_wp2
          go_roundw
          case rel => exact ⟨i + 1, gk, ck, nk, by omega, by go_num, rfl, by show _ = _; rw [hnk.out, HNX.out, HTB.out, ← HXE.out]; simp, by show OwnY _ _ _ _; rw [HNX.out, HTB.out, ← List.append_assoc, HXE.out, ← List.append_assoc]; exact HOK.out, HBK.out, HKK.out⟩
          case measure => simp [intOf]; omega
    · obtain rfl : i = ts.length := by omega
      have d2 := HK.out.cell 2 _ rfl
      have hXL : (headB s ts.length ++ tasksB ts ts.length).length ≤ 40000000 := by rw [List.length_append, headB_len]; have := HTL.out ts.length hi; omega
      have HBODY : Hid (bodyB (s, ts, st) = headB s ts.length ++ tasksB ts ts.length ++ startsB st st.length) := rfl
      have HSTO : Hid (storeS (s, ts, st) = strOfNums (bodyB (s, ts, st) ++ [chk 0 (strOfNums (bodyB (s, ts, st))) % 256, chk 0 (strOfNums (bodyB (s, ts, st))) / 256])) := rfl
      obtain ⟨Z, hZ⟩ : ∃ z, headB s ts.length ++ tasksB ts ts.length = z := ⟨_, rfl⟩
      rw [hZ] at hn HO hXL HBODY
      clear hZ hlt hi HTC HTW HBT HSM HTL
      go_wp2_with fail
      go_loopw [4, 79] (fun vb vk wk => ∃ k g c n : Nat, k ≤ st.length ∧ vk = .int .i64 k ∧ vb = .slice (some ⟨g, 0, none⟩) n c ∧ Hid (n = (Z ++ startsB st k).length) ∧ Hid (OwnY wk (A + 1) (.slice (some ⟨g, 0, none⟩) n c) (Z ++ startsB st k)) ∧ Hid (Below A w wk) ∧ Hid (A < wk.heap.size)) (fun _ vk _ => st.length - (intOf vk).toNat)
      case atStart => exact ⟨0, g, c, n, Nat.zero_le _, rfl, rfl, by show _ = _; rw [hn.out]; simp [startsB], by show OwnY _ _ _ _; simpa [startsB] using HO.out, HB.out, hlA⟩
      case round =>
        obtain ⟨k, gk, ck, nk, hk, rfl, rfl, hnk, HOK, HBK, HLK⟩ := hrel
        obtain ⟨wk', rfl⟩ : ∃ wk' : World, wk' = wr := ⟨_, rfl⟩
        clear d2 hn HO HB HK hlA
        by_cases hklt : k < st.length
        · obtain ⟨_, y1, y2, hy, _, hyc⟩ := HS.out wk' (by rw [HA.out]; exact HBK.out)
          obtain ⟨yb, yo, hy1, _, ye⟩ := hyc k hklt
          obtain ⟨rfl, rfl⟩ : s1 = y1 ∧ s2 = y2 := by simpa using hy
          subst hy1
          obtain ⟨q0, q1⟩ := HBS.out k hklt
          have HP := Lib.hid (startsB_succ st k)
          rw [← nth_eq hklt] at ye
          obtain ⟨bv, hbv⟩ : ∃ z, nth st k = z := ⟨_, rfl⟩
          rw [hbv] at ye q0 q1 HP
          obtain ⟨Y, hY⟩ : ∃ z, Z ++ startsB st k = z := ⟨_, rfl⟩
          have HYE := Lib.hid hY
          have hYL : Y.length ≤ 80000000 := by rw [← hY, List.length_append, startsB_len]; omega
          rw [hY] at hnk HOK
          have j0 : (0 : Int) ≤ (k : Int) := by omega
          have j1 : (k : Int) < (st.length : Int) := by omega
          have HTWO := Lib.hid (twoBytesN gk nk ck bv Y (A + 1) wk' hnk.out HOK.out HLK.out q0 q1 (by omega))
          clear hbv hY hyc hy
          go_wp2_with (go_at_call 69; refine HTWO.out.mono ?_; rintro e w6 ⟨g6, n6, c6, rfl, HN6, ho6, hb6⟩; have HO6 := Lib.hid ho6; have HB6 := Lib.hid hb6; clear ho6 hb6)
          go_roundw
          case rel => exact ⟨k + 1, g6, c6, n6, by omega, by go_num, rfl, by show _ = _; rw [HN6.out, HP.out, ← HYE.out]; simp, by show OwnY _ _ _ _; rw [HP.out, ← List.append_assoc, HYE.out]; exact HO6.out, HBK.out.trans (HB6.out.mono (by omega)), Nat.lt_of_lt_of_le HLK.out HB6.out.size⟩
          case measure => simp [intOf]; omega
        · obtain rfl : k = st.length := by omega
          rw [← HBODY.out] at hnk HOK
          have hYL : (bodyB (s, ts, st)).length ≤ 80000000 := by rw [HBODY.out, List.length_append, startsB_len]; omega
          obtain ⟨Y, hY⟩ : ∃ z, bodyB (s, ts, st) = z := ⟨_, rfl⟩
          rw [hY] at hnk HOK HSTO hYL
          obtain ⟨q0, q1⟩ := chk_win (n := 0) (by decide) (by decide) (strOfNums Y)
          have HCK := Lib.hid (checkOf_any 0 (strOfNums Y) wk' (by decide) (by decide) (by rw [strOfNums_size]; unfold maxLen; omega))
          obtain ⟨cv, hcv⟩ : ∃ z, chk 0 (strOfNums Y) = z := ⟨_, rfl⟩
          rw [hcv] at q0 q1 HCK HSTO
          have HTWO := Lib.hid (twoBytesN gk nk ck cv Y (A + 1) wk' hnk.out HOK.out HLK.out q0 (by omega) (by omega))
          have kcv := conv_yN hnk.out HOK.out
          clear hklt hY hcv
          go_wp2_with (first
            | (go_at_call 70; refine HCK.out.mono ?_; rintro e w6 ⟨rfl, rfl⟩)
            | (go_at_call 69; refine HTWO.out.mono ?_; rintro e w6 ⟨g6, n6, c6, rfl, HN6, ho6, hb6⟩; have kcw := conv_yN HN6.out ho6; have HB6 := Lib.hid hb6; clear ho6 hb6))
          go_ret2
          exact ⟨by rw [HSTO.out]; rfl, by rw [HA.out]; exact HBK.out.trans (HB6.out.mono (by omega))⟩
end Go.Proofs.Ytmhepomjbaendaa
