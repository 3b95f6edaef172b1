
/- spec.l07Begin: a plan in front of a text. Conditions: at most 2^20 bytes. UNDER WAY. -/
import Derived.Test.YtmhepomjbaendaaBeginP
import Derived.Test.YtmhepomjbaendaaTaken
import Derived.Test.YtmhepomjbaendaaTkOwn2
import Derived.Test.YtmhepomjbaendaaBigSaved
namespace Go.Proofs.Ytmhepomjbaendaa
open Go.RowKit Go.Shelf Go.BigFrame
set_option linter.unusedVariables false
set_option linter.unusedSimpArgs false

/-- What stands while a task is read: the result's cell R, the plan S with its rows below X. -/
structure EnvS (w : World) (R S X : Nat) (nm : ByteArray) (vt vs : Value) (k : Nat) (raw : List Value) (ts : List Tk) (W : World) : Prop where
  r : Blk W R 44 (svC ByteArray.empty (.slice none 0 0) (.slice none 0 0))
  s : Blk W S 44 (svC nm vt vs)
  v : OwnV 86 4 W (S + 1) vt k raw
  vb : ∀ j, vt.ownBlock = some j → j < X
  t : TksOwn W (S + 1) X raw ts
  b : Below R w W
  rs : R < S
  sx : S < X
  x : X ≤ W.heap.size
theorem EnvS.kept {w : World} {R S X : Nat} {nm : ByteArray} {vt vs : Value} {k : Nat} {raw : List Value} {ts : List Tk} {W W' : World} {row : Option Nat} (h : EnvS w R S X nm vt vs k raw ts W) (hg : W.grownBy W' row) (hr : ∀ j, row = some j → X ≤ j) : EnvS w R S X nm vt vs k raw ts W' where
  r := h.r.grown hg (fun e => by have h1 := h.rs; have h2 := h.sx; have h3 := hr R e.symm; omega)
  s := h.s.grown hg (fun e => by have h2 := h.sx; have h3 := hr S e.symm; omega)
  v := ownsRow_kept (N := 0) h.v h.vb hg (fun j e => .inr (hr j e))
  vb := h.vb
  t := h.t.kept hg (fun j e => .inr (hr j e))
  b := h.b.grown hg (by have h1 := h.rs; have h2 := h.sx; have h3 := h.x; omega) (fun j e => by have h1 := h.rs; have h2 := h.sx; have h3 := hr j e; omega)
  rs := h.rs
  sx := h.sx
  x := Nat.le_trans h.x hg.size
theorem EnvS.setVs {w : World} {R S X : Nat} {nm : ByteArray} {vt vs : Value} {k : Nat} {raw : List Value} {ts : List Tk} {W : World} (h : EnvS w R S X nm vt vs k raw ts W) (u : Value) : EnvS w R S X nm vt u k raw ts (W.setCell ⟨S, 2, none⟩ u) where
  r := h.r.far ⟨S, 2, none⟩ _ (by have := h.rs; show R ≠ S; omega)
  s := h.s.set 2 u
  v := ownsRow_kept (N := 0) h.v h.vb (grown_set W ⟨S, 2, none⟩ u) (fun j e => by cases e; exact .inl (by show S < S + 1; omega))
  vb := h.vb
  t := h.t.kept (grown_set W ⟨S, 2, none⟩ u) (fun j e => by cases e; exact .inl (by show S < S + 1; omega))
  b := h.b.setCell (p := ⟨S, 2, none⟩) (by have := h.rs; show R ≤ S; omega) _
  rs := h.rs
  sx := h.sx
  x := by have h1 := h.x; simpa [World.setCell] using h1
theorem EnvS.up {w : World} {R S X X' : Nat} {nm : ByteArray} {vt vs : Value} {k : Nat} {raw : List Value} {ts : List Tk} {W : World} (h : EnvS w R S X nm vt vs k raw ts W) (h1 : X ≤ X') (h2 : X' ≤ W.heap.size) : EnvS w R S X' nm vt vs k raw ts W where
  r := h.r
  s := h.s
  v := h.v
  vb := fun j hj => by have := h.vb j hj; omega
  t := h.t.hi h1
  b := h.b
  rs := h.rs
  sx := by have := h.sx; omega
  x := h2
theorem EnvS.app {w : World} {R S X : Nat} {nm : ByteArray} {vt v5 vs : Value} {k : Nat} {raw cs : List Value} {ts : List Tk} {x : Tk} {W w5 : World} (h : EnvS w R S X nm vt vs k raw ts W) (hx : TkOwn W X W.heap.size cs x) (ho : OwnV 86 4 w5 (S + 1) v5 (k + 1) (raw ++ cs)) (hg : W.grownBy w5 vt.ownBlock) :
    EnvS w R S w5.heap.size nm v5 vs (k + 1) (raw ++ cs) (ts ++ [x]) (w5.setCell ⟨S, 1, none⟩ v5) := by
  have h1 := h.rs
  have h2 := h.sx
  have h3 := h.x
  have h4 := hg.size
  have hsz : (w5.setCell ⟨S, 1, none⟩ v5).heap.size = w5.heap.size := by simp [World.setCell]
  have hS := grown_set w5 ⟨S, 1, none⟩ v5
  have ht5 : TksOwn w5 (S + 1) w5.heap.size (raw ++ cs) (ts ++ [x]) :=
    .snoc (h.t.keptV h.v (by decide) hg) ((hx.keptV h.v (by decide) hg).hi h4) (by omega)
  exact {
    r := (h.r.grown hg (fun e => by have := (h.v.lt _ e.symm).1; omega)).far ⟨S, 1, none⟩ _ (by show R ≠ S; omega)
    s := (h.s.grown hg (fun e => by have := (h.v.lt _ e.symm).1; omega)).set 1 v5
    v := ownsRow_kept (N := 0) (hi := w5.heap.size) ho (fun j hj => (ho.lt j hj).2) hS (fun j e => by cases e; exact .inl (by show S < S + 1; omega))
    vb := fun j hj => (ho.lt j hj).2
    t := ht5.kept hS (fun j e => by cases e; exact .inl (by show S < S + 1; omega))
    b := (h.b.grown hg (by omega) (fun j e => by have := (h.v.lt _ e).1; omega)).setCell (p := ⟨S, 1, none⟩) (by show R ≤ S; omega) _
    rs := h1
    sx := by omega
    x := by omega }
theorem EnvS.fin {w : World} {R S X : Nat} {nm : ByteArray} {vt vs : Value} {k : Nat} {raw : List Value} {ts : List Tk} {st : List Int} {W W' : World} (h : EnvS w R S X nm vt vs k raw ts W) (hk : ts.length = k) (ho : OwnI W X vs st) (hg : W.grownBy W' (some R)) : OwnSv W' R vt vs (nm, ts, st) := by
  have h1 := h.rs
  have h2 := h.sx
  refine ⟨raw, X, ?_, h.vb, ?_, ?_, by omega⟩
  · show OwnV _ _ _ _ _ ts.length _
    rw [hk]
    exact OwnV.mono (ownsRow_kept (N := 0) h.v h.vb hg (fun j e => by cases e; exact .inl (by omega))) (by omega)
  · exact TksOwn.lo (h.t.kept hg (fun j e => by cases e; exact .inl (by omega))) (by omega)
  · refine ho.kept hg (.inr ?_)
    intro e
    have := (ho.lt R e).1
    omega
theorem app_outS {W : World} {X : Nat} {vb : Value} {bs : List Int} (h : OwnI W (X + 1) vb bs) : ∀ j, vb.ownBlock = some j → X ≤ j := fun j e => by have := (h.lt j e).1; omega
theorem bt_at {s : ByteArray} {i : Nat} (h : i < s.size) : ((s[i]).toNat : Int) = bt s i := by
  unfold bt
  rw [List.getD_eq_getElem?_getD, byte_at h]; rfl

set_option maxRecDepth 100000 in
set_option maxHeartbeats 4000000 in
theorem l07Begin_any (s : ByteArray) (w : World) (hs : s.size ≤ 1048576) :
    Calls Try.prog 102 #[.string s] w fun e w' => (∃ vt vs, e = .returned (.tuple #[savedV (gotX s).1 vt vs, .int .i64 (gotN s)]) ∧ OwnSv w' w.heap.size vt vs (gotX s)) ∧ Below w.heap.size w w' := by
  obtain ⟨R, hR⟩ : ∃ R, w.heap.size = R := ⟨_, rfl⟩
  have HNO : Hid (gotB s = false → gotX s = (ByteArray.empty, [], []) ∧ gotN s = 0) := got_no
  have HYES : Hid (gotB s = true → gotX s = (nmS s, planT s, planS s) ∧ gotN s = (st7 s).1) := got_yes
  have KR0 : Hid (Blk (w.alloc (.cells #[.string ⟨#[]⟩, .slice none 0 0, .slice none 0 0] 44)) R 44 (svC ByteArray.empty (.slice none 0 0) (.slice none 0 0))) := by
    rw [← hR]; exact Blk.new w _ (svC ByteArray.empty (.slice none 0 0) (.slice none 0 0))
  have B0 : Hid (Below R w (w.alloc (.cells #[.string ⟨#[]⟩, .slice none 0 0, .slice none 0 0] 44))) := by
    rw [← hR]; exact (Below.refl _ w).alloc (Nat.le_refl _) _
  by_cases h5 : s.size < 5
  · have HF := Lib.hid (HNO.out (got_few h5))
    have i1 : (s.size : Int) < 5 := by omega
    have hz : (w.alloc (.cells #[.string ⟨#[]⟩, .slice none 0 0, .slice none 0 0] 44)).heap.size = R + 1 := by rw [← hR]; simp
    clear HNO HYES
    go_enter Try.func102, Try.ntmps102
    rw [hR]
    go_wp2
    refine bodyPost_ret (v := .tuple #[.agg #[.string ⟨#[]⟩, .slice none 0 0, .slice none 0 0], .int .i64 0]) (by simp [results, Try.results102, go_sem, hR]) rfl ⟨⟨.slice none 0 0, .slice none 0 0, ?_, ?_⟩, B0.out⟩
    · rw [HF.out.1, HF.out.2]; rfl
    · rw [HF.out.1]; exact OwnSv.nil _ _
  · obtain ⟨f1, f2⟩ := head_room (s := s) (by omega)
    have i1 : ¬ (s.size : Int) < 5 := by omega
    have h45 : 4 < s.size := by omega
    have h4 : ((s[4]'h45).toNat : Int) = (nmL s : Int) := (bt_at h45).trans f2.symm
    have hnl := (nmL_cast s).2
    by_cases hl : s.size < 5 + nmL s + 1
    · have HF := Lib.hid (HNO.out (head_lack (by omega) hl))
      have i2 : (5 : Int) + (nmL s : Int) + 1 > (s.size : Int) := by omega
      clear HNO HYES f1 f2
      go_enter Try.func102, Try.ntmps102
      rw [hR]
      go_wp2
      refine bodyPost_ret (v := .tuple #[.agg #[.string ⟨#[]⟩, .slice none 0 0, .slice none 0 0], .int .i64 0]) (by simp [results, Try.results102, go_sem, hR]) rfl ⟨⟨.slice none 0 0, .slice none 0 0, ?_, ?_⟩, B0.out⟩
      · rw [HF.out.1, HF.out.2]; rfl
      · rw [HF.out.1]; exact OwnSv.nil _ _
    · obtain ⟨e1, e2, e3⟩ := head_all (s := s) (by omega) (by omega)
      have h7 : 5 + nmL s < s.size := by omega
      have h6 : ((s[5 + nmL s]'h7).toNat : Int) = (cnt s : Int) := (bt_at h7).trans e3.symm
      have hcn := (cnt_cast s).2
      obtain ⟨n, hn⟩ : ∃ n, cnt s = n := ⟨_, rfl⟩
      have HN := Lib.hid hn
      rw [hn] at h6 hcn
      have HLT : Hid (∀ k, k ≤ n → (tsk s (st4 s) k).2.2 = true → gotB s = false) := fun k hk h => got_lackT (by rw [hn]; exact hk) h
      have E0 : Hid (EnvS w R (R + 1) (R + 2) (s.extract 5 (5 + nmL s)) (.slice none 0 0) (.slice none 0 0) 0 [] [] ((w.alloc (.cells #[.string ⟨#[]⟩, .slice none 0 0, .slice none 0 0] 44)).alloc (.cells #[.string (s.extract 5 (5 + nmL s)), .slice none 0 0, .slice none 0 0] 44))) := {
        r := KR0.out.alloc _
        s := by
          have := Blk.new (w.alloc (.cells #[.string ⟨#[]⟩, .slice none 0 0, .slice none 0 0] 44)) 44 (svC (s.extract 5 (5 + nmL s)) (.slice none 0 0) (.slice none 0 0))
          rw [show (w.alloc (.cells #[.string ⟨#[]⟩, .slice none 0 0, .slice none 0 0] 44)).heap.size = R + 1 by rw [← hR]; simp] at this
          exact this
        v := nilV _ _ _ _
        vb := fun j hj => by cases hj
        t := TksOwn.nil (Nat.le_refl _)
        b := B0.out.alloc (by rw [← hR]; simp) _
        rs := by omega
        sx := by omega
        x := by simp; omega }
      have HE1 := Lib.hid e1
      have HST := Lib.hid e2
      have a0 : 5 + nmL s + 1 ≤ s.size := by omega
      clear f1 f2 e1 e2 e3 hn KR0 B0
      go_enter Try.func102, Try.ntmps102
      rw [hR]
      go_wp2
      go_loopw [4, 7] (fun va vi wr => ∃ (k a X : Nat) (vt : Value) (raw : List Value), k ≤ n ∧ vi = .int .i64 k ∧ va = .int .i64 a ∧ a ≤ s.size ∧ Hid ((tsk s (st4 s) k).2 = (a, false)) ∧ Hid (EnvS w R (R + 1) X (s.extract 5 (5 + nmL s)) vt (.slice none 0 0) k raw (tsk s (st4 s) k).1 wr)) (fun _ vi _ => n - (intOf vi).toNat)
      case atStart => exact ⟨0, 5 + nmL s + 1, R + 2, .slice none 0 0, [], Nat.zero_le _, rfl, by go_num, a0, HST.out, E0.out⟩
      case round =>
        obtain ⟨k, a, X0, vt, raw, hk, rfl, rfl, ha, HA, E⟩ := hrel
        have r0 := E.out.r.cell 0 _ rfl
        have r1 := E.out.r.cell 1 _ rfl
        have r2 := E.out.r.cell 2 _ rfl
        have q0 := E.out.r.frozen 0
        have q1 := E.out.r.frozen 1
        have q2 := E.out.r.frozen 2
        have BW := Lib.hid E.out.b
        by_cases hkn : k < n
        · have i2 : (k : Int) < (n : Int) := by omega
          by_cases h3 : s.size < a + 3
          · have HF := Lib.hid (HNO.out (HLT.out (k + 1) (by omega) (tsk_lack HA.out h3)))
            have i3 : (a : Int) + 3 > (s.size : Int) := by omega
            clear HNO HYES HLT h4 h6
            go_wp2
            refine bodyPost_ret (v := .tuple #[.agg #[.string ⟨#[]⟩, .slice none 0 0, .slice none 0 0], .int .i64 0]) (by simp [results, Try.results102, go_sem, r0, r1, r2]) rfl ⟨⟨.slice none 0 0, .slice none 0 0, ?_, ?_⟩, below3 BW.out _ _ _⟩
            · rw [HF.out.1, HF.out.2]; rfl
            · rw [HF.out.1]; exact OwnSv.nil _ _
          · have i3 : ¬ (a : Int) + 3 > (s.size : Int) := by omega
            have HTV := Lib.hid (tsk_val HA.out (by omega))
            have g0 : a < s.size := by omega
            have g1 : a + 1 < s.size := by omega
            have g2 : a + 2 < s.size := by omega
            have w0 := bt_win s a
            have w1 := bt_win s (a + 1)
            have w2 := bt_win s (a + 2)
            have b0 : ((s[a]'g0).toNat : Int) = bt s a := bt_at g0
            have b1 : ((s[a + 1]'g1).toNat : Int) = bt s (a + 1) := bt_at g1
            obtain ⟨m, hm⟩ : ∃ m : Nat, bt s (a + 2) = m := ⟨(bt s (a + 2)).toNat, by omega⟩
            have b2 : ((s[a + 2]'g2).toNat : Int) = (m : Int) := (bt_at g2).trans hm
            rw [hm, Int.toNat_natCast] at HTV
            rw [hm] at w2
            have hmb : m ≤ 255 := by omega
            obtain ⟨y0, hy0⟩ : ∃ y, bt s a = y := ⟨_, rfl⟩
            obtain ⟨y1, hy1⟩ : ∃ y, bt s (a + 1) = y := ⟨_, rfl⟩
            rw [hy0] at b0 w0 HTV
            rw [hy1] at b1 w1 HTV
            have c0 : (0 : Int) ≤ (a : Int) := by omega
            have c1 : (a : Int) < (s.size : Int) := by omega
            have c2 : (a : Int) + 1 < (s.size : Int) := by omega
            have c3 : (a : Int) + 2 < (s.size : Int) := by omega
            clear hm hy0 hy1 h4 h6
            by_cases h2m : s.size < a + 3 + 2 * m
            · have HF := Lib.hid (HNO.out (HLT.out (k + 1) (by omega) (by rw [HTV.out]; exact prs_lack h2m (by omega))))
              have i4 : (a : Int) + 3 + 2 * (m : Int) > (s.size : Int) := by omega
              have hrl : R < wr.heap.size := E.out.r.lt
              have KZ := Lib.hid ((((E.out.r.set 0 (.string ⟨#[]⟩)).set 1 (.slice none 0 0)).set 2 (.slice none 0 0)).alloc (.cells #[.int .i64 y0, .int .i64 y1, .slice none 0 0, .slice none 0 0] 86))
              have z0 := KZ.out.cell 0 _ rfl
              have z1 := KZ.out.cell 1 _ rfl
              have z2 := KZ.out.cell 2 _ rfl
              have BZ := Lib.hid (((below3 BW.out (.string ⟨#[]⟩) (.slice none 0 0) (.slice none 0 0)).alloc (by simp [World.setCell]; omega) (.cells #[.int .i64 y0, .int .i64 y1, .slice none 0 0, .slice none 0 0] 86)).drew)
              go_wp2
              go_region
              all_goals go_wp2
              all_goals
                refine bodyPost_ret (v := .tuple #[.agg #[.string ⟨#[]⟩, .slice none 0 0, .slice none 0 0], .int .i64 0]) (by simp [results, Try.results102, go_sem, z0, z1, z2]) rfl ⟨⟨.slice none 0 0, .slice none 0 0, ?_, ?_⟩, BZ.out⟩
                · rw [HF.out.1, HF.out.2]; rfl
                · rw [HF.out.1]; exact OwnSv.nil _ _
            · clear r0 r1 r2 q0 q1 q2 BW
              have i4 : ¬ (a : Int) + 3 + 2 * (m : Int) > (s.size : Int) := by omega
              go_wp2
              go_region
              all_goals go_wp2
              all_goals
                obtain ⟨X, hX⟩ : ∃ X, wr.heap.size = X := ⟨_, rfl⟩
                have hx0 : X0 ≤ X := by rw [← hX]; exact E.out.x
                have hrx : R + 1 < X := by have := E.out.sx; omega
                have E8 : Hid (EnvS w R (R + 1) X (s.extract 5 (5 + nmL s)) vt (.slice none 0 0) k raw (tsk s (st4 s) k).1 ((wr.alloc (.cells #[.int .i64 y0, .int .i64 y1, .slice none 0 0, .slice none 0 0] 86)).drew)) :=
                  ((E.out.up hx0 (by omega)).kept (grown_alloc wr _ none) (fun j e => by cases e)).kept (grown_drew _ none) (fun j e => by cases e)
                have KX8 : Hid (Blk ((wr.alloc (.cells #[.int .i64 y0, .int .i64 y1, .slice none 0 0, .slice none 0 0] 86)).drew) X 86 [.int .i64 y0, .int .i64 y1, .slice none 0 0, .slice none 0 0]) := by
                  rw [← hX]; exact Blk.new wr _ _
                clear E HA
                rw [hX]
                go_loopw [4, 9] (fun va vm wi => ∃ (j p : Nat) (d : Int) (vb vl : Value), j ≤ m ∧ Hid (p = a + 3 + 2 * j ∧ d = (m : Int) - j) ∧ 0 ≤ d ∧ d ≤ 255 ∧ vm = .int .i64 d ∧ va = .int .i64 p ∧ Hid (EnvS w R (R + 1) X (s.extract 5 (5 + nmL s)) vt (.slice none 0 0) k raw (tsk s (st4 s) k).1 wi) ∧ Hid (Blk wi X 86 [.int .i64 y0, .int .i64 y1, vb, vl]) ∧ Hid (OwnI wi (X + 1) vb (prs s (a + 3, false) j).1.1 ∧ OwnI wi (X + 1) vl (prs s (a + 3, false) j).1.2 ∧ (vb.ownBlock = none ∨ vb.ownBlock ≠ vl.ownBlock))) (fun _ vm _ => (intOf vm).toNat)
                case atStart => exact ⟨0, a + 3, m, .slice none 0 0, .slice none 0 0, Nat.zero_le _, ⟨by omega, by omega⟩, by omega, by omega, rfl, by go_num, E8.out, KX8.out, ⟨nilI _ _, nilI _ _, .inl rfl⟩⟩
                case round =>
                  obtain ⟨j, p, d, vb, vl, hj, HPD, hd1, hd2, rfl, rfl, E2, KX2, HO2⟩ := hrel
                  have hpd := HPD.out
                  by_cases hjm : j < m
                  · have d1 : (0 : Int) < d := by omega
                    have p0 : p < s.size := by omega
                    have p1 : p + 1 < s.size := by omega
                    have hpv := prs_val (s := s) (a := a + 3) (b := false) (k := j) (by omega)
                    have wx0 := bt_win s p
                    have wx1 := bt_win s (p + 1)
                    have bx0 : ((s[p]'p0).toNat : Int) = bt s p := bt_at p0
                    have bx1 : ((s[p + 1]'p1).toNat : Int) = bt s (p + 1) := bt_at p1
                    rw [show a + 3 + 2 * j = p by omega] at hpv
                    obtain ⟨bs, hbs⟩ : ∃ z, (prs s (a + 3, false) j).1.1 = z := ⟨_, rfl⟩
                    obtain ⟨ls, hls⟩ : ∃ z, (prs s (a + 3, false) j).1.2 = z := ⟨_, rfl⟩
                    have hbl : bs.length = j ∧ ls.length = j := by rw [← hbs, ← hls]; exact prs_len s _ j
                    obtain ⟨x0, hx0'⟩ : ∃ z, bt s p = z := ⟨_, rfl⟩
                    obtain ⟨x1, hx1'⟩ : ∃ z, bt s (p + 1) = z := ⟨_, rfl⟩
                    rw [hbs, hls, hx0', hx1'] at hpv
                    rw [hbs, hls] at HO2
                    rw [hx0'] at bx0 wx0
                    rw [hx1'] at bx1 wx1
                    have HPV := Lib.hid hpv
                    have HZ : Hid (bs.length + [x0].length ≤ 1099511627776 ∧ ls.length + [x1 - 100].length ≤ 1099511627776) := by
                      show _ ∧ _
                      simp only [List.length_singleton]; omega
                    have hwp1 : IntKind.i64.wrap ((p : Int) + 1) = (p : Int) + 1 := IntWalk.i64_in _ (by omega)
                    have hwp2 : (0 : Int) ≤ (p : Int) + 1 := by omega
                    have hwp3 : ((p : Int) + 1).toNat = p + 1 := by omega
                    have hwrap0 : IntKind.i64.wrap x0 = x0 := IntWalk.i64_in _ (by omega)
                    have hwrap1 : IntKind.i64.wrap x1 = x1 := IntWalk.i64_in _ (by omega)
                    have hwrap : IntKind.i64.wrap (x1 - 100) = x1 - 100 := IntWalk.i64_in _ (by omega)
                    have pp0 : (0 : Int) ≤ (p : Int) := by omega
                    have pp1 : (p : Int) < (s.size : Int) := by omega
                    have pp2 : (p : Int) + 1 < (s.size : Int) := by omega
                    have c2 := KX2.out.cell 2 vb rfl
                    have f2 := KX2.out.frozen 2
                    have hxl2 : X + 1 ≤ wr.heap.size := KX2.out.lt
                    have hxm2 : X < wr.heap.size := KX2.out.lt
                    have hxn2 : ¬ X = wr.heap.size := (by omega)
                    clear hbs hls hx0' hx1' hpv hbl hpd
                    go_wp2
                    refine cut_shareT (P := ?P2) ?main2 ?cont2
                    case cont2 =>
                      intro key
                      go_region_law (first
                        | (refine step_append_i64D (by rfl) _ _ (by rfl) (X + 1) vb bs [x0] (by simp) (by rfl) 1 (by rfl) (HO2.out.1) hxl2 HZ.out.1 ?_; intro g3 c3 n3 w3 hn3 ho3 hg3 hl3; have KX3 := Lib.hid (KX2.out.grown hg3 (app_ne (HO2.out.1) (Nat.le_refl _))); have E3 := Lib.hid (E2.out.kept hg3 (app_outS (HO2.out.1))); have HO3 := Lib.hid (owns_app1 HO2.out ho3 hg3 hl3); have c2 := KX3.out.cell 2 vb rfl; have f2 := KX3.out.frozen 2))
                      all_goals
                        clear c2 f2 hg3 ho3 hl3
                        revert w3 g3 c3 n3
                        exact key.out
                    intro g3 c3 n3 w3 HN3 KX3 E3 HO3
                    obtain ⟨vb', hvb⟩ : ∃ v, Value.slice (some ⟨g3, 0, none⟩) n3 c3 = v := ⟨_, rfl⟩
                    rw [hvb] at HO3
                    rw [hvb]
                    obtain ⟨W4, hW4⟩ : ∃ W, w3.setCell ⟨X, 2, none⟩ vb' = W := ⟨_, rfl⟩
                    have KX4 : Hid (Blk W4 X 86 [.int .i64 y0, .int .i64 y1, vb', vl]) := by rw [← hW4]; exact KX3.out.set 2 vb'
                    have E4 : Hid (EnvS w R (R + 1) X (s.extract 5 (5 + nmL s)) vt (.slice none 0 0) k raw (tsk s (st4 s) k).1 W4) := by rw [← hW4]; exact E3.out.kept (grown_set w3 ⟨X, 2, none⟩ vb') (fun j e => by cases e; exact Nat.le_refl _)
                    have HO4 : Hid (OwnI W4 (X + 1) vb' (bs ++ [x0]) ∧ OwnI W4 (X + 1) vl ls ∧ (vb'.ownBlock = none ∨ vb'.ownBlock ≠ vl.ownBlock)) := by rw [← hW4]; exact owns_kept HO3.out (grown_set w3 ⟨X, 2, none⟩ vb') (Nat.le_refl _)
                    have hxl4 : X + 1 ≤ W4.heap.size := KX4.out.lt
                    have hxm4 : X < W4.heap.size := KX4.out.lt
                    have hxn4 : ¬ X = W4.heap.size := (by omega)
                    rw [hW4]
                    clear c2 f2 E2 KX2 HO2 HN3 KX3 E3 HO3 hvb hW4
                    have c2 := KX4.out.cell 3 vl rfl
                    have f2 := KX4.out.frozen 3
                    go_wp2
                    refine cut_shareT (P := ?P3) ?main3 ?cont3
                    case cont3 =>
                      intro key
                      go_region_law (first
                        | (refine step_append_i64D (by rfl) _ _ (by rfl) (X + 1) vl ls [x1 - 100] (by simp) (by rfl) 1 (by rfl) (HO4.out.2.1) hxl4 HZ.out.2 ?_; intro g3 c3 n3 w3 hn3 ho3 hg3 hl3; have KX3 := Lib.hid (KX4.out.grown hg3 (app_ne (HO4.out.2.1) (Nat.le_refl _))); have E3 := Lib.hid (E4.out.kept hg3 (app_outS (HO4.out.2.1))); have HO3 := Lib.hid (owns_app2 HO4.out ho3 hg3 hl3); have c2 := KX3.out.cell 3 vl rfl; have f2 := KX3.out.frozen 3))
                      all_goals
                        clear c2 f2 hg3 ho3 hl3
                        revert w3 g3 c3 n3
                        exact key.out
                    intro g5 c5 n5 w5 HN5 KX5 E5 HO5
                    obtain ⟨vl', hvl⟩ : ∃ v, Value.slice (some ⟨g5, 0, none⟩) n5 c5 = v := ⟨_, rfl⟩
                    rw [hvl] at HO5
                    rw [hvl]
                    obtain ⟨W6, hW6⟩ : ∃ W, w5.setCell ⟨X, 3, none⟩ vl' = W := ⟨_, rfl⟩
                    have KX6 : Hid (Blk W6 X 86 [.int .i64 y0, .int .i64 y1, vb', vl']) := by rw [← hW6]; exact KX5.out.set 3 vl'
                    have E6 : Hid (EnvS w R (R + 1) X (s.extract 5 (5 + nmL s)) vt (.slice none 0 0) k raw (tsk s (st4 s) k).1 W6) := by rw [← hW6]; exact E5.out.kept (grown_set w5 ⟨X, 3, none⟩ vl') (fun j e => by cases e; exact Nat.le_refl _)
                    have HO6 : Hid (OwnI W6 (X + 1) vb' (prs s (a + 3, false) (j + 1)).1.1 ∧ OwnI W6 (X + 1) vl' (prs s (a + 3, false) (j + 1)).1.2 ∧ (vb'.ownBlock = none ∨ vb'.ownBlock ≠ vl'.ownBlock)) := by rw [← hW6, HPV.out]; exact owns_kept HO5.out (grown_set w5 ⟨X, 3, none⟩ vl') (Nat.le_refl _)
                    have HP0 := Lib.hid p1
                    rw [hW6]
                    clear c2 f2 E4 KX4 HO4 HN5 KX5 E5 HO5 hvl hW6 hwp1 hwp2 hwp3 hwrap0 hwrap1 hwrap pp0 pp1 pp2 wx0 wx1 bx0 bx1 p0 hxl2 hxm2 hxn2 hxl4 hxm4 hxn4 HPV HZ
                    go_wp2
                    go_roundw
                    case rel => exact ⟨j + 1, p + 2, d - 1, vb', vl', by omega, ⟨by have := HPD.out; omega, by have := HPD.out; omega⟩, by omega, by omega, by go_num, by go_num, E6.out, KX6.out, HO6.out⟩
                    case measure =>
                      simp [intOf]; omega
                  · obtain rfl : j = m := by omega
                    have hd0 : d = 0 := by omega
                    have d1 : ¬ (0 : Int) < d := by omega
                    have HA2 : Hid ((tsk s (st4 s) (k + 1)).2 = (p, false)) := tsk_room HTV.out (by omega) (by omega)
                    have HPS : Hid (p ≤ s.size) := by show _ ≤ _; omega
                    have hkb : k ≤ 1000000 := by omega
                    have s1 := E2.out.s.cell 1 vt rfl
                    have x0 := KX2.out.cell 0 _ rfl
                    have x1 := KX2.out.cell 1 _ rfl
                    have x2 := KX2.out.cell 2 _ rfl
                    have x3 := KX2.out.cell 3 _ rfl
                    have HONE : Hid (∀ u ∈ [Value.int .i64 y0, .int .i64 y1, vb, vl], u.oneCell' = true) := by
                      intro u hu
                      simp only [List.mem_cons, List.not_mem_nil, or_false] at hu
                      rcases hu with rfl | rfl | rfl | rfl
                      · rfl
                      · rfl
                      · exact HO2.out.1.one
                      · exact HO2.out.2.1.one
                    have HSB : Hid (R + 1 + 1 ≤ wr.heap.size) := by have := E2.out.sx; have := E2.out.x; show _ ≤ _; omega
                    have HTK1 : Hid (TkOwn wr X wr.heap.size [.int .i64 y0, .int .i64 y1, vb, vl] (y0, y1, (prs s (a + 3, false) j).1)) := ⟨vb, vl, rfl, ⟨HO2.out.1.mono (by omega), fun q hq => (HO2.out.1.lt q hq).2⟩, ⟨HO2.out.2.1.mono (by omega), fun q hq => (HO2.out.2.1.lt q hq).2⟩, HO2.out.2.2⟩
                    have HNE : Hid (some (R + 1) ≠ vt.ownBlock) := fun e => by have h1 := (E2.out.v.lt _ e.symm).1; omega
                    clear hpd
                    go_wp2_with (at_builtin; refine append_tk rfl _ _ rfl (R + 1 + 1) vt k raw [.int .i64 y0, .int .i64 y1, vb, vl] rfl 1 rfl E2.out.v rfl HONE.out HSB.out hkb ?_; intro g5 c5 n5 w5 hn5 ho5 hg5; have KS5 := Lib.hid (E2.out.s.grown hg5 HNE.out); have E5 := Lib.hid (E2.out.app HTK1.out ho5 hg5); have s1' := KS5.out.cell 1 vt rfl; have f1' := KS5.out.frozen 1; have HN5 := Lib.hid hn5; clear ho5 hg5 hn5)
                    go_roundw
                    case rel =>
                      refine ⟨k + 1, p, w5.heap.size, .slice (some ⟨g5, 0, none⟩) n5 c5, raw ++ [.int .i64 y0, .int .i64 y1, vb, vl], by omega, by go_num, rfl, HPS.out, HA2.out, ?_⟩
                      show EnvS _ _ _ _ _ _ _ _ _ _ _
                      rw [HTV.out]
                      exact E5.out
                    case measure => simp [intOf]; omega
        · have hkn2 : k = n := by omega
          have i2 : ¬ (k : Int) < (n : Int) := by omega
          have HS5 : Hid (st5 s = (a, false)) := st5_at HN.out (by rw [← hkn2]; exact HA.out)
          by_cases h2n : s.size < a + 2 * n + 2
          · have i3 : (a : Int) + 2 * (n : Int) + 2 > (s.size : Int) := by omega
            have HF := Lib.hid (HNO.out (st7_lack HS5.out HN.out h2n ha))
            clear HNO HYES HLT h4 h6 hkn2
            go_wp2
            refine bodyPost_ret (v := .tuple #[.agg #[.string ⟨#[]⟩, .slice none 0 0, .slice none 0 0], .int .i64 0]) (by simp [results, Try.results102, go_sem, r0, r1, r2]) rfl ⟨⟨.slice none 0 0, .slice none 0 0, ?_, ?_⟩, below3 BW.out _ _ _⟩
            · rw [HF.out.1, HF.out.2]; rfl
            · rw [HF.out.1]; exact OwnSv.nil _ _
          · have i3 : ¬ (a : Int) + 2 * (n : Int) + 2 > (s.size : Int) := by omega
            have En : Hid (EnvS w R (R + 1) X0 (s.extract 5 (5 + nmL s)) vt (.slice none 0 0) n raw (planT s) wr) := by
              show EnvS _ _ _ _ _ _ _ _ _ _ _
              rw [planT_at HN.out, ← hkn2]
              exact E.out
            have HTL : Hid ((planT s).length = n) := by
              show _ = _
              rw [planT_at HN.out]; exact tsk_len s _ n
            clear hkn2 hkn E HA r0 r1 r2 q0 q1 q2 BW HLT h4 h6 HST E0
            go_wp2
            go_loopw [4, 10] (fun va vi wi => ∃ (j p : Nat) (vs : Value), j ≤ n ∧ Hid (p = a + 2 * j) ∧ p + 2 ≤ s.size ∧ vi = .int .i64 j ∧ va = .int .i64 p ∧ Hid (EnvS w R (R + 1) X0 (s.extract 5 (5 + nmL s)) vt vs n raw (planT s) wi) ∧ Hid (OwnI wi X0 vs (sts s (a, false) j).1)) (fun _ vi _ => n - (intOf vi).toNat)
            case atStart => exact ⟨0, a, .slice none 0 0, Nat.zero_le _, rfl, by omega, rfl, rfl, En.out, nilI _ _⟩
            case round =>
              obtain ⟨j, p, vs, hj, HPD, hps, rfl, rfl, E, HO⟩ := hrel
              have hpd := HPD.out
              by_cases hjn : j < n
              · have j1 : (j : Int) < (n : Int) := by omega
                have p0 : p < s.size := by omega
                have p1 : p + 1 < s.size := by omega
                have hpv := sts_val (s := s) (a := a) (b := false) (k := j) (by omega)
                have wx0 := bt_win s p
                have wx1 := bt_win s (p + 1)
                have bx0 : ((s[p]'p0).toNat : Int) = bt s p := bt_at p0
                have bx1 : ((s[p + 1]'p1).toNat : Int) = bt s (p + 1) := bt_at p1
                rw [show a + 2 * j = p by omega] at hpv
                obtain ⟨xs, hxs⟩ : ∃ z, (sts s (a, false) j).1 = z := ⟨_, rfl⟩
                have hxl : xs.length = j := by rw [← hxs]; exact sts_len s _ j
                obtain ⟨x0, hx0'⟩ : ∃ z, bt s p = z := ⟨_, rfl⟩
                obtain ⟨x1, hx1'⟩ : ∃ z, bt s (p + 1) = z := ⟨_, rfl⟩
                rw [hxs, hx0', hx1'] at hpv
                rw [hxs] at HO
                rw [hx0'] at bx0 wx0
                rw [hx1'] at bx1 wx1
                have HPV := Lib.hid hpv
                have HZ : Hid (xs.length + [x0 + 256 * x1].length ≤ 1099511627776) := by
                  show _ ≤ _
                  simp only [List.length_singleton]; omega
                have hwp1 : IntKind.i64.wrap ((p : Int) + 1) = (p : Int) + 1 := IntWalk.i64_in _ (by omega)
                have hwp2 : (0 : Int) ≤ (p : Int) + 1 := by omega
                have hwp3 : ((p : Int) + 1).toNat = p + 1 := by omega
                have hwrap0 : IntKind.i64.wrap x0 = x0 := IntWalk.i64_in _ (by omega)
                have hwrap1 : IntKind.i64.wrap x1 = x1 := IntWalk.i64_in _ (by omega)
                have hwrap2 : IntKind.i64.wrap (256 * x1) = 256 * x1 := IntWalk.i64_in _ (by omega)
                have hwrap3 : IntKind.i64.wrap (x0 + 256 * x1) = x0 + 256 * x1 := IntWalk.i64_in _ (by omega)
                have pp0 : (0 : Int) ≤ (p : Int) := by omega
                have pp1 : (p : Int) < (s.size : Int) := by omega
                have pp2 : (p : Int) + 1 < (s.size : Int) := by omega
                have c2 := E.out.s.cell 2 vs rfl
                have f2 := E.out.s.frozen 2
                have hxl2 : X0 ≤ wr.heap.size := E.out.x
                have hxm2 : R + 1 < wr.heap.size := E.out.s.lt
                have hxn2 : ¬ R + 1 = wr.heap.size := (by omega)
                clear hxs hx0' hx1' hpv hxl hpd
                go_wp2
                refine cut_shareT (P := ?P8) ?main8 ?cont8
                case cont8 =>
                  intro key
                  go_region_law (first
                    | (refine step_append_i64D (by rfl) _ _ (by rfl) X0 vs xs [x0 + 256 * x1] (by simp) (by rfl) 1 (by rfl) HO.out hxl2 HZ.out ?_; intro g3 c3 n3 w3 hn3 ho3 hg3 hl3; have E3 := Lib.hid (E.out.kept hg3 (fun j e => (HO.out.lt j e).1)); have HO3 := Lib.hid ho3; have c2 := E3.out.s.cell 2 vs rfl; have f2 := E3.out.s.frozen 2))
                  all_goals
                    clear c2 f2 hg3 ho3 hl3
                    revert w3 g3 c3 n3
                    exact key.out
                intro g3 c3 n3 w3 HN3 E3 HO3
                obtain ⟨vs', hvs⟩ : ∃ v, Value.slice (some ⟨g3, 0, none⟩) n3 c3 = v := ⟨_, rfl⟩
                rw [hvs] at HO3
                rw [hvs]
                obtain ⟨W4, hW4⟩ : ∃ W, w3.setCell ⟨R + 1, 2, none⟩ vs' = W := ⟨_, rfl⟩
                have E4 : Hid (EnvS w R (R + 1) X0 (s.extract 5 (5 + nmL s)) vt vs' n raw (planT s) W4) := by rw [← hW4]; exact E3.out.setVs vs'
                have HO4 : Hid (OwnI W4 X0 vs' (sts s (a, false) (j + 1)).1) := by
                  rw [← hW4, HPV.out]
                  exact HO3.out.kept (grown_set w3 ⟨R + 1, 2, none⟩ vs') (.inr (ownT_ne HO3.out E3.out.sx))
                have HP1 := Lib.hid p1
                rw [hW4]
                clear c2 f2 E HO HN3 E3 HO3 hvs hW4 hwp1 hwp2 hwp3 hwrap0 hwrap1 hwrap2 hwrap3 pp0 pp1 pp2 wx0 wx1 bx0 bx1 p0 hxl2 hxm2 hxn2 HPV HZ
                go_wp2
                go_roundw
                case rel => exact ⟨j + 1, p + 2, vs', by omega, by have := HPD.out; show p + 2 = _; omega, by have := HPD.out; omega, by go_num, by go_num, E4.out, HO4.out⟩
                case measure => simp [intOf]; omega
              · have hjn2 : j = n := by omega
                have j1 : ¬ (j : Int) < (n : Int) := by omega
                have hz2 : wrap64 ((p : Int) + 2) = (p : Int) + 2 := IntWalk.wrap64_in _ ⟨by omega, by omega⟩
                have hz3 : IntKind.i64.wrap ((p : Int) + 2) = (p : Int) + 2 := IntWalk.i64_in _ (by omega)
                have hz4 : ((p : Int) + 2).toNat = p + 2 := by omega
                have z0 : (0 : Int) ≤ (p : Int) + 2 := by omega
                have z1 : (p : Int) + 2 ≤ (s.size : Int) := by omega
                have HS7 : Hid (st7 s = (p + 2, false)) := by
                  have := st7_at HS5.out HN.out (by omega)
                  rwa [← hjn2, ← hpd] at this
                have HO6 : Hid (OwnI wr X0 vs (planS s)) := by
                  show OwnI _ _ _ _
                  rw [planS_at HS5.out HN.out, ← hjn2]
                  exact HO.out
                have hnmz : (nmS s).size ≤ maxLen := by have := nmS_size s hs; unfold maxLen; omega
                have HTR : Hid (TasksR wr vt (planT s)) := E.out.t.reads (by rw [HTL.out]; exact E.out.v) (by have := HTL.out; unfold maxLen; omega) (fun i hi => by
                  obtain ⟨w1, w2, w3, w4, _⟩ := tsk_mem s (st4 s) (cnt s) _ (List.getElem_mem hi)
                  exact ⟨wf_i64_iff.2 ⟨by omega, by omega⟩, wf_i64_iff.2 ⟨by omega, by omega⟩, fun n hn => wf_i64_iff.2 ⟨by have := w3 n hn; omega, by have := w3 n hn; omega⟩, fun n hn => wf_i64_iff.2 ⟨by have := w4 n hn; omega, by have := w4 n hn; omega⟩⟩)
                have HBAD : Hid (savedOk (nmS s, planT s, planS s) = false → gotB s = false) := got_bad
                have HNE : Hid (storeS (nmS s, planT s, planS s) ≠ s.extract 0 (p + 2) → gotB s = false) := got_ne7 HS7.out
                have HALL : Hid (savedOk (nmS s, planT s, planS s) = true → storeS (nmS s, planT s, planS s) = s.extract 0 (p + 2) → gotB s = true) := got_all7 HS7.out
                have HP7 : Hid ((st7 s).1 = p + 2) := by show _ = _; rw [HS7.out]
                have s0 := E.out.s.cell 0 _ rfl
                have s1 := E.out.s.cell 1 _ rfl
                have s2 := E.out.s.cell 2 _ rfl
                have hlt := E.out.s.lt
                rw [HE1.out] at HBAD HNE HALL hnmz
                have HSV : Hid (∀ q, Calls Try.prog 71 #[.pointer (some ⟨R + 1, 0, none⟩)] (wr.drewN q) fun e w' => e = .returned (.bool (savedOk (s.extract 5 (5 + nmL s), planT s, planS s))) ∧ ∃ q', w' = (wr.drewN q).drewN q') := fun q =>
                  have hq : Below wr.heap.size wr (wr.drewN q) := below_drewN q (Below.refl _ _)
                  l07Saved_big (R + 1) 0 _ vt vs (planT s) (planS s) (wr.drewN q) hnmz (HTR.out.below hq (Nat.le_refl _)) (HO6.out.ints.below hq (Nat.le_refl _)) s0 s1 s2
                obtain ⟨K, hK⟩ : ∃ K, savedOk (s.extract 5 (5 + nmL s), planT s, planS s) = K := ⟨_, rfl⟩
                rw [hK] at HSV HBAD HALL
                have HK := Lib.hid hK
                cases K
                · have HF := Lib.hid (HNO.out (HBAD.out rfl))
                  have r0 := E.out.r.cell 0 _ rfl
                  have r1 := E.out.r.cell 1 _ rfl
                  have r2 := E.out.r.cell 2 _ rfl
                  have q0 := E.out.r.frozen 0
                  have q1 := E.out.r.frozen 1
                  have q2 := E.out.r.frozen 2
                  have BW := Lib.hid E.out.b
                  clear HBAD HNE HALL HNO HYES hK hpd E HO HTR HO6 HS5 hnmz hz2 z0 z1 i2 i3 ha hjn hjn2 h2n s0 s1 s2
                  go_wp2
                  go_quiet ((first | (go_at_call 71; exact quiet_drew (HSV.out _))))
                  go_wp2
                  refine bodyPost_ret (v := .tuple #[.agg #[.string ⟨#[]⟩, .slice none 0 0, .slice none 0 0], .int .i64 0]) (by simp [results, Try.results102, go_sem, r0, r1, r2]) rfl ⟨⟨.slice none 0 0, .slice none 0 0, ?_, ?_⟩, ?_⟩
                  · rw [HF.out.1, HF.out.2]; rfl
                  · rw [HF.out.1]; exact OwnSv.nil _ _
                  · exact below3 (below_drewN nq BW.out) _ _ _
                · have hsm : ∀ x ∈ planT s, x.2.2.1.length ≤ 1048576 := before_len hK
                  have HST : Hid (∀ q, Calls Try.prog 72 #[.pointer (some ⟨R + 1, 0, none⟩)] (wr.drewN q) fun e w' => e = .returned (.string (storeS (s.extract 5 (5 + nmL s), planT s, planS s))) ∧ Below wr.heap.size wr w') := fun q => by
                    have hq : Below wr.heap.size wr (wr.drewN q) := below_drewN q (Below.refl _ _)
                    refine (l07Store_yes (R + 1) 0 _ vt vs (planT s) (planS s) (wr.drewN q) (HTR.out.below hq (Nat.le_refl _)) (HO6.out.ints.below hq (Nat.le_refl _)) hK hsm hlt s0 s1 s2).mono ?_
                    rintro e w' ⟨rfl, hb⟩
                    exact ⟨rfl, hq.trans hb⟩
                  obtain ⟨Q, hQ⟩ : ∃ Q, storeS (s.extract 5 (5 + nmL s), planT s, planS s) = Q := ⟨_, rfl⟩
                  rw [hQ] at HST HNE HALL
                  have HE := Lib.hid (And.intro E.out (And.intro HO6.out E.out.b))
                  clear HBAD hK hpd E HO HTR HO6 HS5 hnmz i2 i3 ha hjn hjn2 h2n s0 s1 s2 hsm hQ
                  by_cases heq : Q = s.extract 0 (p + 2)
                  · have HF := Lib.hid (HYES.out (HALL.out rfl heq))
                    have hel : (Q.toList == (s.extract 0 (p + 2)).toList) = true := by rw [heq]; simp
                    clear HNE HALL HNO HYES heq
                    go_wp2
                    go_region_with (first
                      | (go_at_call 71; refine (HSV.out 1).mono ?_; rintro e W8 ⟨rfl, q, rfl⟩)
                      | (go_at_call 72; refine (HST.out _).mono ?_; rintro e W8 ⟨rfl, hb8⟩; have HE8 := Lib.hid (HE.out.1.kept (grown_below none hb8 (Nat.le_refl _)) (fun j e => by cases e)); have HO8 := Lib.hid (HE.out.2.1.below hb8 (Nat.le_refl _)); clear hb8))
                    have r0 := HE8.out.r.cell 0 _ rfl
                    have r1 := HE8.out.r.cell 1 _ rfl
                    have r2 := HE8.out.r.cell 2 _ rfl
                    have q0 := HE8.out.r.frozen 0
                    have q1 := HE8.out.r.frozen 1
                    have q2 := HE8.out.r.frozen 2
                    have BW := Lib.hid HE8.out.b
                    have HTW := Lib.hid HTL.out
                    clear HSV HST HE HTL
                    have s0 := HE8.out.s.cell 0 _ rfl
                    have s1 := HE8.out.s.cell 1 _ rfl
                    have s2 := HE8.out.s.cell 2 _ rfl
                    obtain ⟨ta, tl, tc, rfl⟩ := HE8.out.v.form
                    obtain ⟨sa, sl, sc, rfl⟩ := HO8.out.form
                    have HFN : Hid ((gotN s : Int) = (p : Int) + 2) := by show _ = _; rw [HF.out.2, HP7.out]; push_cast; rfl
                    have HFX : Hid (gotX s = (s.extract 5 (5 + nmL s), planT s, planS s)) := by show _ = _; rw [HF.out.1, HE1.out]
                    clear HF
                    go_wp2
                    refine bodyPost_ret (v := .tuple #[.agg #[.string (s.extract 5 (5 + nmL s)), .slice ta tl tc, .slice sa sl sc], .int .i64 ((p : Int) + 2)]) (by simp [results, Try.results102, go_sem, r0, r1, r2]) rfl ⟨⟨.slice ta tl tc, .slice sa sl sc, ?_, ?_⟩, ?_⟩
                    · rw [HFX.out, HFN.out]; rfl
                    · rw [HFX.out]
                      exact HE8.out.fin HTW.out HO8.out (grown_set3 W8 R _ _ _)
                    · exact below3 BW.out _ _ _
                  · have HF := Lib.hid (HNO.out (HNE.out heq))
                    have hel : (Q.toList == (s.extract 0 (p + 2)).toList) = false := by
                      rw [beq_eq_false_iff_ne]
                      intro e
                      rw [Lib.toList_data, Lib.toList_data] at e
                      exact heq (bytes_eq e)
                    clear HNE HALL HNO HYES heq
                    go_wp2
                    go_region_with (first
                      | (go_at_call 71; refine (HSV.out 1).mono ?_; rintro e W8 ⟨rfl, q, rfl⟩)
                      | (go_at_call 72; refine (HST.out _).mono ?_; rintro e W8 ⟨rfl, hb8⟩; have HE8 := Lib.hid (HE.out.1.kept (grown_below none hb8 (Nat.le_refl _)) (fun j e => by cases e)); have HO8 := Lib.hid (HE.out.2.1.below hb8 (Nat.le_refl _)); clear hb8))
                    have r0 := HE8.out.r.cell 0 _ rfl
                    have r1 := HE8.out.r.cell 1 _ rfl
                    have r2 := HE8.out.r.cell 2 _ rfl
                    have q0 := HE8.out.r.frozen 0
                    have q1 := HE8.out.r.frozen 1
                    have q2 := HE8.out.r.frozen 2
                    have BW := Lib.hid HE8.out.b
                    have HTW := Lib.hid HTL.out
                    clear HSV HST HE HTL
                    go_wp2
                    refine bodyPost_ret (v := .tuple #[.agg #[.string ⟨#[]⟩, .slice none 0 0, .slice none 0 0], .int .i64 0]) (by simp [results, Try.results102, go_sem, r0, r1, r2]) rfl ⟨⟨.slice none 0 0, .slice none 0 0, ?_, ?_⟩, ?_⟩
                    · rw [HF.out.1, HF.out.2]; rfl
                    · rw [HF.out.1]; exact OwnSv.nil _ _
                    · exact below3 BW.out _ _ _
end Go.Proofs.Ytmhepomjbaendaa
