
/- Desks: how they read; the laws' szDesk, toDesk. Conditions: at most 2^20 numbers. -/
import Derived.Test.YtmhepomjbaendaaDoorTasksTo
import Derived.Test.YtmhepomjbaendaaDoorDeskLaw
namespace Go.Proofs.YtmhepomjbaendaaDoor
open Go.RowKit
set_option linter.unusedVariables false
set_option linter.unusedSimpArgs false

def rJob : Rdr Jb := rPair rInt (rPair rInt (rPair rInt rInt))
def jobWf (j : Jb) : Prop := (Lit.int .i64 j.1).wf = true ∧ (Lit.int .i64 j.2.1).wf = true ∧ (Lit.int .i64 j.2.2.1).wf = true ∧ (Lit.int .i64 j.2.2.2).wf = true
theorem job_cells {w : World} {cs : List Value} {x : Jb} : rJob.R w cs x ↔ cs = jbCells x ∧ jobWf x := by
  constructor
  · rintro ⟨c1, c2, rfl, ⟨rfl, h1⟩, c3, c4, rfl, ⟨rfl, h2⟩, c5, c6, rfl, ⟨rfl, h3⟩, rfl, h4⟩
    exact ⟨rfl, h1, h2, h3, h4⟩
  · rintro ⟨rfl, h1, h2, h3, h4⟩
    exact ⟨_, _, rfl, ⟨rfl, h1⟩, _, _, rfl, ⟨rfl, h2⟩, _, _, rfl, ⟨rfl, h3⟩, rfl, h4⟩
abbrev JobsR (w : World) (v : Value) (xs : List Jb) : Prop := SlR rJob w v xs
theorem JobsR.jobs {w : World} {v : Value} {xs : List Jb} (h : JobsR w v xs) : Jobs w v xs := by
  obtain ⟨hm, a, c, hv, hcap, hc⟩ := h
  refine ⟨hm, a, c, hv, hcap, fun i hi => ?_⟩
  obtain ⟨b, o, cs, ha, hbs, hr, hcell⟩ := hc i hi
  obtain ⟨rfl, _⟩ := job_cells.1 hr
  exact ⟨b, o, ha, hbs, hcell⟩
theorem JobsR.wf {w : World} {v : Value} {xs : List Jb} (h : JobsR w v xs) : ∀ i (hi : i < xs.length), jobWf xs[i] := fun i hi => by
  obtain ⟨hm, a, c, hv, hcap, hc⟩ := h
  obtain ⟨b, o, cs, ha, hbs, hr, hcell⟩ := hc i hi
  exact (job_cells.1 hr).2
theorem Jobs.at_ {w : World} {v : Value} {xs : List Jb} (h : Jobs w v xs) : ∃ a c, v = .slice a xs.length c ∧ xs.length ≤ c ∧ ∀ i (hi : i < xs.length), ∃ b o, a = some ⟨b, o, none⟩ ∧ b < w.heap.size ∧
    w.cell? ⟨b, o + i * 4, none⟩ = some (.int .i64 xs[i].1) ∧ w.cell? ⟨b, o + i * 4 + 1, none⟩ = some (.int .i64 xs[i].2.1) ∧ w.cell? ⟨b, o + i * 4 + 2, none⟩ = some (.int .i64 xs[i].2.2.1) ∧ w.cell? ⟨b, o + i * 4 + 3, none⟩ = some (.int .i64 xs[i].2.2.2) := by
  obtain ⟨hm, a, c, hv, hcap, hc⟩ := h
  refine ⟨a, c, hv, hcap, fun i hi => ?_⟩
  obtain ⟨b, o, ha, hbs, hcell⟩ := hc i hi
  exact ⟨b, o, ha, hbs, hcell 0 (by simp [jbCells]), hcell 1 (by simp [jbCells]), hcell 2 (by simp [jbCells]), hcell 3 (by simp [jbCells])⟩
def rRule : Rdr Rl := rPair rInt (rPair rInt (rPair rInt (rPair rInt rInt)))
abbrev Dk := List Jb × Rl × List Int × ByteArray
def rDesk : Rdr Dk := rPair (rSl rJob) (rPair rRule (rPair (rSl rInt) rStr))
def deskCells (vj : Value) (r : Rl) (vc : Value) (p : ByteArray) : List Value := [vj, .int .i64 r.1, .int .i64 r.2.1, .int .i64 r.2.2.1, .int .i64 r.2.2.2.1, .int .i64 r.2.2.2.2, vc, .string p]
def ruleWf (r : Rl) : Prop := (Lit.int .i64 r.1).wf = true ∧ (Lit.int .i64 r.2.1).wf = true ∧ (Lit.int .i64 r.2.2.1).wf = true ∧ (Lit.int .i64 r.2.2.2.1).wf = true ∧ (Lit.int .i64 r.2.2.2.2).wf = true
theorem rule_cells {w : World} {cs : List Value} {r : Rl} : rRule.R w cs r ↔ cs = [.int .i64 r.1, .int .i64 r.2.1, .int .i64 r.2.2.1, .int .i64 r.2.2.2.1, .int .i64 r.2.2.2.2] ∧ ruleWf r := by
  constructor
  · rintro ⟨_, _, rfl, ⟨rfl, h1⟩, _, _, rfl, ⟨rfl, h2⟩, _, _, rfl, ⟨rfl, h3⟩, _, _, rfl, ⟨rfl, h4⟩, rfl, h5⟩
    exact ⟨rfl, h1, h2, h3, h4, h5⟩
  · rintro ⟨rfl, h1, h2, h3, h4, h5⟩
    exact ⟨_, _, rfl, ⟨rfl, h1⟩, _, _, rfl, ⟨rfl, h2⟩, _, _, rfl, ⟨rfl, h3⟩, _, _, rfl, ⟨rfl, h4⟩, rfl, h5⟩
theorem desk_cells {w : World} {cs : List Value} {x : Dk} : rDesk.R w cs x ↔ ∃ vj vc, cs = deskCells vj x.2.1 vc x.2.2.2 ∧ JobsR w vj x.1 ∧ ruleWf x.2.1 ∧ SlR rInt w vc x.2.2.1 ∧ x.2.2.2.size ≤ maxLen := by
  constructor
  · rintro ⟨_, _, rfl, ⟨vj, rfl, h1⟩, _, _, rfl, h2, _, _, rfl, ⟨vc, rfl, h3⟩, rfl, h4⟩
    obtain ⟨rfl, h5⟩ := rule_cells.1 h2
    exact ⟨vj, vc, rfl, h1, h5, h3, h4⟩
  · rintro ⟨vj, vc, rfl, h1, h2, h3, h4⟩
    exact ⟨_, _, rfl, ⟨vj, rfl, h1⟩, _, _, rfl, rule_cells.2 ⟨rfl, h2⟩, _, _, rfl, ⟨vc, rfl, h3⟩, rfl, h4⟩
theorem deskV_cells (vj : Value) (r : Rl) (vc : Value) (p : ByteArray) : deskV vj r vc p = .agg (deskCells vj r vc p).toArray := rfl
def smallDesk (x : Dk) : Prop := x.1.length ≤ 1048576 ∧ x.2.2.1.length ≤ 1048576 ∧ x.2.2.2.size ≤ 1048576

theorem szJobS_any (v : Value) (xs : List Jb) (left : Int) (w : World) (hv : Jobs w v xs) (h0 : 0 ≤ left) (h1 : left ≤ 1048576) :
    Calls Tryd.prog 13 #[v, .int .i64 left] w fun e w' => (∃ r : Int, e = .returned (.int .i64 r) ∧ (r = -1 ∨ 0 ≤ r ∧ r ≤ left ∧ xs.length ≤ 1048576)) ∧ w = w' := by
  obtain ⟨hm, a, c, rfl, hcap, hc⟩ := hv
  unfold maxLen at hm
  clear hc
  by_cases hlt : left < (xs.length : Int)
  · have hd : left - (xs.length : Int) < 0 := by omega
    go_enter Tryd.func13, Tryd.ntmps13
    go_wp2
    go_ret
    exact ⟨⟨-1, rfl, .inl rfl⟩, rfl⟩
  · have hd : ¬ left - (xs.length : Int) < 0 := by omega
    go_enter Tryd.func13, Tryd.ntmps13
    go_wp2
    go_ret
    exact ⟨⟨_, rfl, .inr ⟨by omega, by omega, by omega⟩⟩, rfl⟩

set_option maxRecDepth 100000 in
set_option maxHeartbeats 1000000 in
theorem toJob_any (a0 a1 a2 a3 : Int) (w : World) :
    Calls Tryd.prog 35 #[.agg #[.int .i64 a0, .int .i64 a1, .int .i64 a2, .int .i64 a3]] w fun e w' => e = .returned (.agg #[.int .i64 a0, .int .i64 a1, .int .i64 a2, .int .i64 a3]) ∧ Below w.heap.size w w' := by
  go_enter Tryd.func35, Tryd.ntmps35
  go_wp2
  refine bodyPost_ret (v := .agg #[.int .i64 a0, .int .i64 a1, .int .i64 a2, .int .i64 a3]) (by simp [results, Tryd.results35, go_sem]) rfl ⟨rfl, ?_⟩
  exact (((Below.refl _ w).alloc (Nat.le_refl _) _).alloc (by simp) _).alloc (by simp; omega) _
set_option maxRecDepth 100000 in
set_option maxHeartbeats 1000000 in
theorem toRule_any (a0 a1 a2 a3 a4 : Int) (w : World) :
    Calls Tryd.prog 11 #[.agg #[.int .i64 a0, .int .i64 a1, .int .i64 a2, .int .i64 a3, .int .i64 a4]] w fun e w' => e = .returned (.agg #[.int .i64 a0, .int .i64 a1, .int .i64 a2, .int .i64 a3, .int .i64 a4]) ∧ Below w.heap.size w w' := by
  go_enter Tryd.func11, Tryd.ntmps11
  go_wp2
  refine bodyPost_ret (v := .agg #[.int .i64 a0, .int .i64 a1, .int .i64 a2, .int .i64 a3, .int .i64 a4]) (by simp [results, Tryd.results11, go_sem]) rfl ⟨rfl, ?_⟩
  exact (((Below.refl _ w).alloc (Nat.le_refl _) _).alloc (by simp) _).alloc (by simp; omega) _
theorem info_job : (Tryd.prog.info? 60).map (fun i => (i.zero, i.size, i.bytes)) = some (some (.agg #[.int .i64 0, .int .i64 0, .int .i64 0, .int .i64 0]), 4, 32) := by kernel_rfl

set_option maxRecDepth 100000 in
set_option maxHeartbeats 2000000 in
theorem toJobS_any (v : Value) (xs : List Jb) (w : World) (hv : JobsR w v xs) (hl : xs.length ≤ 1048576) :
    Calls Tryd.prog 15 #[v] w fun e w' => (∃ v', e = .returned v' ∧ FreshR (rSl rJob) w.heap.size w' [v'] xs) ∧ Below w.heap.size w w' := by
  have HV : Hid (∀ W, Below w.heap.size w W → JobsR W v xs) := fun W hW => hv.below hW (Nat.le_refl _)
  have hm0 := hv.1
  obtain ⟨a, c, rfl, hcap, hc⟩ := hv.jobs.at_
  obtain ⟨i0, hi, hz0, hz1, hz2⟩ := info_parts info_job
  have HS := Lib.hid hv.wf
  unfold maxLen at hm0
  clear hc hv
  go_enter Tryd.func15, Tryd.ntmps15
  go_wp2_with (at_make; refine wpList_make_full _ rfl _ _ 35 rfl w.heap.size 60 i0 (.agg #[.int .i64 0, .int .i64 0, .int .i64 0, .int .i64 0]) 4 Tryd.underlying35 hi hz0 hz1 _ _ _ _ xs.length rfl rfl rfl rfl (by rw [hz2]; omega) (by unfold maxLen at *; omega) (Nat.le_refl _) ?_; intro w1 hown1 hgrow1)
  obtain ⟨g, hg⟩ : ∃ g, w.heap.size = g := ⟨_, rfl⟩
  obtain ⟨raw0, hO1⟩ : ∃ raw, OwnV 60 4 w1 g (.slice (some ⟨g, 0, none⟩) xs.length xs.length) xs.length raw := by subst hg; exact ⟨_, hown1⟩
  have HO1 := Lib.hid hO1
  have HB1 := Lib.hid ((Below.refl g w).grown hgrow1 (by omega) (fun k e => by cases e))
  have HG := Lib.hid hg
  rw [hg]
  clear hown1 hgrow1 hi hz0 hz1 hz2 hg hO1
  go_loopw [4] (fun vi wr => ∃ (k : Nat) (raw : List Value), k ≤ xs.length ∧ vi = .int .i64 k ∧ OwnV 60 4 wr g (.slice (some ⟨g, 0, none⟩) xs.length xs.length) xs.length raw ∧ FillR rJob (g + 1) wr raw xs k ∧ Below g w wr) (fun vi _ => xs.length - (intOf vi).toNat)
  case atStart => exact ⟨0, _, Nat.zero_le _, rfl, HO1.out, fun i _ h => by omega, HB1.out⟩
  case round =>
    obtain ⟨k, raw, hk, rfl, hO, hF, hB⟩ := hrel
    obtain ⟨wr', rfl⟩ : ∃ wr' : World, wr' = wr := ⟨_, rfl⟩
    have HO := Lib.hid hO
    have HF := Lib.hid hF
    have HB := Lib.hid hB
    have hgl := (hO.lt g rfl).2
    clear hO hF hB HO1 HB1
    by_cases hkl : k < xs.length
    · have hV := HV.out wr' (by rw [HG.out]; exact HB.out)
      obtain ⟨a3, c3, hsl3, _, hc⟩ := hV.jobs.at_
      obtain ⟨rfl, rfl⟩ : a = a3 ∧ c = c3 := by simpa using hsl3
      obtain ⟨b, o, rfl, hbs, e0, e1, e2, e3⟩ := hc k hkl
      have hwf := HS.out k hkl
      have HX : Hid (jbCells xs[k] = [.int .i64 xs[k].1, .int .i64 xs[k].2.1, .int .i64 xs[k].2.2.1, .int .i64 xs[k].2.2.2]) := rfl
      have hfr0 : ∀ W, FreshR rJob (g + 1) W (jbCells xs[k]) xs[k] := fun W W' _ => job_cells.2 ⟨rfl, hwf⟩
      have HFR := Lib.hid hfr0
      obtain ⟨x0, hx0⟩ : ∃ x0, xs[k].1 = x0 := ⟨_, rfl⟩
      obtain ⟨x1, hx1⟩ : ∃ x1, xs[k].2.1 = x1 := ⟨_, rfl⟩
      obtain ⟨x2, hx2⟩ : ∃ x1, xs[k].2.2.1 = x1 := ⟨_, rfl⟩
      obtain ⟨x3, hx3⟩ : ∃ x1, xs[k].2.2.2 = x1 := ⟨_, rfl⟩
      rw [hx0] at e0 HX
      rw [hx1] at e1 HX
      rw [hx2] at e2 HX
      rw [hx3] at e3 HX
      have hto := toJob_any x0 x1 x2 x3 wr'
      have k0 : (0 : Int) ≤ (k : Int) := by omega
      have k1 : (k : Int) < (xs.length : Int) := by omega
      have hlen := HO.out.length
      have HTO := Lib.hid hto
      have HLEN := Lib.hid hlen
      clear hto hc hsl3 hx0 hx1 hx2 hx3 hV hwf hfr0 hlen
      go_wp2_with fail
      refine HTO.out.mono ?_
      rintro e W1 ⟨rfl, hb1⟩
      have hO1 := HO.out.below hb1 (Nat.le_refl _)
      have hF1 := HF.out.later (Agree.below hb1 (Nat.le_refl _))
      have hfr2 := HFR.out W1
      have hB1 := HB.out.trans (hb1.mono (by omega))
      have hput := hF1.put4 rfl _ _ _ _ hkl HLEN.out (by rw [← HX.out]; exact hfr2)
      obtain ⟨s0, f0, o0, _⟩ := hO1.store (k * 4) (by rw [HLEN.out]; omega) (.int .i64 x0)
      obtain ⟨s1, f1, o1, _⟩ := o0.store (k * 4 + 1) (by rw [List.length_set, HLEN.out]; omega) (.int .i64 x1)
      obtain ⟨s2, f2, o2, _⟩ := o1.store (k * 4 + 2) (by rw [List.length_set, List.length_set, HLEN.out]; omega) (.int .i64 x2)
      obtain ⟨s3, f3, o3, _⟩ := o2.store (k * 4 + 3) (by rw [List.length_set, List.length_set, List.length_set, HLEN.out]; omega) (.int .i64 x3)
      have t1 := (hO1.store (k * 4 + 1) (by rw [HLEN.out]; omega) (.bool true)).1
      have t2 := (hO1.store (k * 4 + 2) (by rw [HLEN.out]; omega) (.bool true)).1
      have t3 := (hO1.store (k * 4 + 3) (by rw [HLEN.out]; omega) (.bool true)).1
      have z1 := (hO1.store (k * 4 + 1) (by rw [HLEN.out]; omega) (.bool true)).2.1
      have z2 := (hO1.store (k * 4 + 2) (by rw [HLEN.out]; omega) (.bool true)).2.1
      have z3 := (hO1.store (k * 4 + 3) (by rw [HLEN.out]; omega) (.bool true)).2.1
      have HO3 := Lib.hid o3
      have HPUT := Lib.hid hput
      have HB1 := Lib.hid hB1
      clear s1 f1 o0 s2 f2 o1 s3 f3 o2 o3 hfr2 hput hb1 hO1 hF1 hB1
      go_wp2_with fail
      go_roundw
      case rel => exact ⟨k + 1, _, by omega, by go_num, HO3.out, HPUT.out.later ((((Agree.setCell _ ⟨g, k * 4, none⟩ _ (by show g < g + 1; omega)).trans (Agree.setCell _ ⟨g, k * 4 + 1, none⟩ _ (by show g < g + 1; omega))).trans (Agree.setCell _ ⟨g, k * 4 + 2, none⟩ _ (by show g < g + 1; omega))).trans (Agree.setCell _ ⟨g, k * 4 + 3, none⟩ _ (by show g < g + 1; omega))), (((HB1.out.setCell (p := ⟨g, k * 4, none⟩) (Nat.le_refl _) _).setCell (p := ⟨g, k * 4 + 1, none⟩) (Nat.le_refl _) _).setCell (p := ⟨g, k * 4 + 2, none⟩) (Nat.le_refl _) _).setCell (p := ⟨g, k * 4 + 3, none⟩) (Nat.le_refl _) _⟩
      case measure => simp [intOf]; omega
    · obtain rfl : k = xs.length := by omega
      clear hkl
      go_wp2_with fail
      go_ret
      rw [HG.out]
      exact ⟨⟨_, rfl, FillR.done HO.out HF.out (by unfold maxLen; omega)⟩, HB.out⟩

end Go.Proofs.YtmhepomjbaendaaDoor
