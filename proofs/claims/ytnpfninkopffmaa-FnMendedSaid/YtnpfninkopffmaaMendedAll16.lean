/- The laws' own readers of bytes (a choice by a byte of a text). Conditions: small indexes and ranges. With texts that it needs. -/
import Derived.Test.YtnpfninkopffmaaMendedAll15
import Derived.Test.YtnpfninkopffmaaMendedAll7
import Derived.Test.YtnpfninkopffmaaMendedAll14
import Derived.Test.YtnpfninkopffmaaMendedAll12
import Derived.Test.YtnpfninkopffmaaMendedAll1
namespace Go.Proofs.Ytnpfninkopffmaa
open Go.RowKit
set_option linter.unusedVariables false
set_option linter.unusedSimpArgs false

theorem OwnI.rowM {w W : World} {N g n c : Nat} {xs : List Int} (h : OwnI w N (.slice (some ⟨g, 0, none⟩) n c) xs) {r : Nat} (hg : w.grownBy W (some r)) (hn : g ≠ r) : OwnI W N (.slice (some ⟨g, 0, none⟩) n c) xs :=
  h.kept hg (.inr (by rw [ownBlock_slice]; intro e; injection e with e; exact hn e))
theorem OwnB.rowM {w W : World} {N g n c : Nat} {xs : List Bool} (h : OwnB w N (.slice (some ⟨g, 0, none⟩) n c) xs) {r : Nat} (hg : w.grownBy W (some r)) (hn : g ≠ r) : OwnB W N (.slice (some ⟨g, 0, none⟩) n c) xs :=
  h.kept hg (.inr (by rw [ownBlock_slice]; intro e; injection e with e; exact hn e))
theorem rawT_cell {W : World} {N gl cl T : Nat} {us : List Tk} {VB VL : Nat → Value} (h : OwnV 56 4 W N (.slice (some ⟨gl, 0, none⟩) T cl) T (rawT us VB VL)) (hT : us.length = T) {i j : Nat} (hi : i < T) (hj : j < 4) :
    W.cell? ⟨gl, i * 4 + j, none⟩ = some (cellT us VB VL i j) := by
  have hL : (rawT us VB VL).length = T * 4 := by rw [rawT_len, hT]
  have h5 := (OwnV.store (n := T) h (i * 4 + j) (by rw [hL]; omega) (.bool true)).1
  have h6 := rawT_at (VB := VB) (VL := VL) (ts := us) (i := i) (j := j) (by rw [hT]; exact hi) hj
  rw [List.getElem?_eq_getElem (by rw [hL]; omega)] at h6
  rw [h5]; exact h6
theorem copy_long {W : World} {N gl cl T task : Nat} {ts : List Tk} {VB VL : Nat → Value} (h : OwnV 56 4 W N (.slice (some ⟨gl, 0, none⟩) T cl) T (rawT ts VB VL)) (hT : ts.length = T) (hk : task < T) (x : Int) :
    W.cell? ⟨gl, task * 4, none⟩ = some (.int .i64 (timeN ts task)) ∧ W.frozen? ⟨gl, task * 4, none⟩ = false ∧ OwnV 56 4 (W.setCell ⟨gl, task * 4, none⟩ (.int .i64 (timeN ts task + x))) N (.slice (some ⟨gl, 0, none⟩) T cl) T (rawT (longT ts task x) VB VL) ∧
      W.grownBy (W.setCell ⟨gl, task * 4, none⟩ (.int .i64 (timeN ts task + x))) (some gl) ∧ N ≤ gl ∧ gl < W.heap.size := by
  have hrl : (rawT ts VB VL).length = T * 4 := by rw [rawT_len, hT]
  obtain ⟨s1, s2, s3, s4⟩ := OwnV.store (n := T) h (task * 4) (by rw [hrl]; omega) (.int .i64 (timeN ts task + x))
  refine ⟨rawT_cell (j := 0) h hT hk (by omega), s2, ?_, s4, h.lt gl rfl⟩
  rw [← longT_raw x (by rw [hT]; exact hk)]
  exact s3
theorem in_in (n lo hi : Int) (h1 : lo ≤ n) (h2 : n ≤ hi) (w : World) : Calls Try.prog 54 #[.int .i64 n, .int .i64 lo, .int .i64 hi] w fun e w' => e = .returned (.bool true) ∧ w = w' := by
  have h := l00In_any n lo hi w
  rw [show win n lo hi = true by simp [win]; omega] at h
  exact h
/-- What the rounds know. -/
structure MendQ (T : Nat) (ts : List Tk) (st : List Int) (crew : Int) (E : List Int) (go gt N k : Nat) (W0 wr : World) (out : List Int) : Prop where
  inv : MendI ts st crew E k out
  own : OwnI wr N (.slice (some ⟨go, 0, none⟩) T T) (zerL out)
  ownB : OwnB wr N (.slice (some ⟨gt, 0, none⟩) T T) (tldL out)
  frm : GrownL [go, gt] W0 wr
theorem MendQ.drewN {T : Nat} {ts : List Tk} {st : List Int} {crew : Int} {E : List Int} {go gt N k : Nat} {W0 wr : World} {out : List Int} (h : MendQ T ts st crew E go gt N k W0 wr out) (q : Nat) : MendQ T ts st crew E go gt N k W0 (wr.drewN q) out :=
  ⟨h.inv, h.own.drewN q, h.ownB.drewN q, h.frm.drewN q⟩
def MendQR (T : Nat) (ts : List Tk) (st : List Int) (crew : Int) (E : List Int) (go gt N : Nat) (W0 : World) (vd vk : Value) (wr : World) : Prop :=
  ∃ (k : Nat) (d : Int) (out : List Int), vk = .int .i64 k ∧ k ≤ T ∧ vd = .int .i64 d ∧ Hid (d = diffO st out T) ∧ Hid (MendQ T ts st crew E go gt N k W0 wr out)
/-- The search for the least start among those that are not told. -/
def MendPk (T : Nat) (st out : List Int) (W : World) (vb vi : Value) (wr : World) : Prop :=
  ∃ (i m : Nat) (P : Int), vb = .int .i64 P ∧ vi = .int .i64 i ∧ i ≤ T ∧ Hid (P = pickK (fun j => decide (nth out j < 0)) (keyOf st) i) ∧ wr = W.drewN m
/-- The search for a time. -/
def MendT (u : Nat → Int) (crew need time a B : Int) (W : World) (vs vt : Value) (wr : World) : Prop :=
  ∃ (t m : Nat) (s : Int), vs = .int .i64 s ∧ vt = .int .i64 t ∧ a ≤ s ∧ s ≤ t ∧ (t : Int) ≤ s + time ∧ s ≤ B ∧ Hid (noneW u crew need time a s) ∧ Hid (∀ j : Nat, s ≤ j → (j : Int) < t → u j + need ≤ crew) ∧ wr = W.drewN m
def MendU (ts : List Tk) (out : List Int) (need : Int) (t T : Nat) (W : World) (vu vk : Value) (wr : World) : Prop :=
  ∃ (k m : Nat), vu = .int .i64 (need + useO ts out t k) ∧ vk = .int .i64 k ∧ k ≤ T ∧ wr = W.drewN m
theorem MendQ.put {T : Nat} {ts : List Tk} {st : List Int} {crew s : Int} {E : List Int} {go gt N k i : Nat} {W0 wr : World} {out : List Int} (h : MendQ T ts st crew E go gt N k W0 wr out) (hs : 0 ≤ s) (hi : i < T) (hl : T = out.length) (hgo : go < gt)
    (hI : MendI ts st crew E (k + 1) (out.set i s)) :
    wr.frozen? ⟨go, i, none⟩ = false ∧ wr.cell? ⟨go, i, none⟩ = some (.int .i64 (nth (zerL out) i)) ∧ (wr.setCell ⟨go, i, none⟩ (.int .i64 s)).frozen? ⟨gt, i, none⟩ = false ∧ (wr.setCell ⟨go, i, none⟩ (.int .i64 s)).cell? ⟨gt, i, none⟩ = some (.bool (decide (0 ≤ nth out i))) ∧
      MendQ T ts st crew E go gt N (k + 1) W0 ((wr.setCell ⟨go, i, none⟩ (.int .i64 s)).setCell ⟨gt, i, none⟩ (.bool true)) (out.set i s) := by
  have hz : T = (zerL out).length := by rw [zerL_len]; exact hl
  have ht : T = (tldL out).length := by rw [tldL_len]; exact hl
  obtain ⟨s1, s2, s3, s4⟩ := h.own.store hz i (by omega) s
  have hb := h.ownB.rowM s4 (by omega)
  obtain ⟨t1, t2, t3, t4⟩ := hb.store ht i (by omega) true
  rw [tldL_at] at t1
  refine ⟨s2, h.own.at_ hz i (by omega), t2, t1, hI, ?_, ?_, (h.frm.grown s4 (fun j e => .inl (by cases e; simp))).grown t4 (fun j e => .inl (by cases e; simp))⟩
  · rw [zerL_set _ _ hs]; exact s3.rowM t4 (by omega)
  · rw [tldL_set _ _ hs]; exact t3
set_option maxRecDepth 100000 in
set_option maxHeartbeats 4000000 in
theorem specMend_any (vt vs : Value) (ts : List Tk) (st : List Int) (task : Nat) (by_ crew : Int) (w : World) (ht : TasksR w vt ts) (hs : Ints w vs st) (hok : planOk ts st crew = true) (htk : task < ts.length) (hby : 0 ≤ by_ ∧ by_ ≤ 100) (hlong : timeN ts task + by_ ≤ 100) (hneed : ∀ i, i < ts.length → needN ts i ≤ crew) :
    Calls Try.prog 32 #[vt, vs, .int .i64 task, .int .i64 by_, .int .i64 crew] w fun e w' => ((mendOf (longT ts task by_) st crew = none ∧ e = .returned (.tuple #[.slice none 0 0, .int .i64 0, .bool false])) ∨
      ∃ out g, mendOf (longT ts task by_) st crew = some out ∧ e = .returned (.tuple #[.slice (some ⟨g, 0, none⟩) ts.length ts.length, .int .i64 (diffO st out ts.length), .bool true]) ∧ OwnI w' w.heap.size (.slice (some ⟨g, 0, none⟩) ts.length ts.length) (zerL out)) ∧ Below w.heap.size w w' := by
  have hcw : 0 ≤ crew ∧ crew ≤ 20 := by
    unfold planOk planHd at hok
    simp only [Bool.and_eq_true] at hok
    exact win_true.1 hok.1.1.2
  have HCW : Hid (0 ≤ crew ∧ crew ≤ 20) := hcw
  have HND : Hid (∀ i, i < ts.length → needN ts i ≤ crew) := hneed
  clear hcw
  have hp : tasksOk ts = true ∧ many st ts.length ts.length 0 100000 = true ∧ endTo ts st ts.length ≤ 400 := by
    unfold planOk planHd usesOk at hok
    simp only [Bool.and_eq_true, decide_eq_true_eq] at hok
    exact ⟨hok.1.1.1.1.1, hok.1.1.1.1.2, hok.1.1.1.2⟩
  obtain ⟨hsm, hst, hst0⟩ := uses_sm hp.1 hp.2.1
  obtain ⟨b, o, c, VB, VL, rfl, hcap, hbw, hsrc⟩ := ht.src hsm.n1
  have hT16 := hsm.n16
  have htm := hsm.time task htk
  have HSRC : Hid (∀ i, i < ts.length → TkSrc w b o ts VB VL i) := hsrc
  obtain ⟨aS, cS, rfl, scap, hS⟩ := hs.view
  have HC := Lib.hid (specIsCrewPlan_any _ (.slice aS st.length cS) ts st crew w ht hs (by omega))
  rw [hok, hst.1] at HC
  rw [hst.1] at scap hS ⊢
  have HS := Lib.hid hS
  have HSM := Lib.hid hsm
  have HST := Lib.hid hst
  have HP : Hid (endTo ts st ts.length ≤ 400) := hp.2.2
  have HST0 : Hid (∀ k, k < ts.length → 0 ≤ nth st k) := hst0
  have w1 : IntKind.i64.wrap ((ts.length : Int) - 1) = (ts.length : Int) - 1 := IntWalk.i64_in _ (by omega)
  obtain ⟨T, hT⟩ : ∃ T, ts.length = T := ⟨_, rfl⟩
  have HT : Hid (ts.length = T) := hT
  rw [hT] at htk hcap hT16 HSRC HST HP w1 HC HS scap HST0 ⊢
  obtain ⟨bS, oS, rfl, _⟩ := HS.out w (Below.refl _ _) 0 (by have := HST.out.1; omega)
  have HSC : Hid (∀ W, Below w.heap.size w W → ∀ k, k < T → W.cell? ⟨bS, oS + k, none⟩ = some (.int .i64 (nth st k))) := fun W hW k hk => by
    obtain ⟨b', o', e', c'⟩ := HS.out W hW k (by have := HST.out.1; omega)
    obtain ⟨rfl, rfl⟩ : bS = b' ∧ oS = o' := by simpa using e'
    exact c'
  clear hS ht hs hsrc hok hp hsm hst hT hst0 hneed HS
  go_enter Try.func32, Try.ntmps32
  go_wp2_with fail
  refine HC.out.mono ?_
  rintro e W1 ⟨rfl, hb1⟩
  have HB1 : Hid (Below w.heap.size w W1) := hb1
  clear hb1 HC
  have HWB : Hid (∀ W, Calls Try.prog 54 #[.int .i64 by_, .int .i64 0, .int .i64 100] W fun e w' => e = .returned (.bool true) ∧ W = w') := fun W => in_in _ _ _ hby.1 hby.2 W
  have HWT : Hid (∀ W, Calls Try.prog 54 #[.int .i64 task, .int .i64 0, .int .i64 ((T : Int) - 1)] W fun e w' => e = .returned (.bool true) ∧ W = w') := fun W => in_in _ _ _ (by omega) (by omega) W
  go_wp2_with fail
  refine (HWT.out _).mono ?_
  rintro e w' ⟨rfl, rfl⟩
  go_wp2_with fail
  refine (HWB.out _).mono ?_
  rintro e w' ⟨rfl, rfl⟩
  have c0 : W1.cell? ⟨b, o + task * 4, none⟩ = some (.int .i64 (timeN ts task)) := (HB1.out.cell (p := ⟨b, o + task * 4, none⟩) hbw).trans (HSRC.out task htk).c0
  obtain ⟨tm, htm'⟩ : ∃ tm, timeN ts task = tm := ⟨_, rfl⟩
  have HTM : Hid (timeN ts task = tm) := htm'
  rw [htm'] at c0 htm hlong
  have w2 : IntKind.i64.wrap (tm + by_) = tm + by_ := IntWalk.i64_in _ (by omega)
  have k0 : (0 : Int) ≤ (task : Int) := by omega
  have k1 : (task : Int) < (T : Int) := by omega
  have hT1 : 0 < T := by omega
  have HOa : Hid (OwnV 56 4 (W1.alloc (.cells #[] 56)) w.heap.size (.slice (some ⟨W1.heap.size, 0, none⟩) 0 0) 0 []) :=
    World.ownsRow_lit (e := 56) (size := 4) W1 #[] 0 HB1.out.size (by unfold maxLen; omega) (by simp)
  have HBa : Hid (Below w.heap.size w (W1.alloc (.cells #[] 56))) := HB1.out.trans ((Below.refl _ W1).alloc HB1.out.size _)
  have HCSa : Hid (∀ i, i < ts.length → ∀ j, j < 4 → (W1.alloc (.cells #[] 56)).cell? ⟨b, o + (i * 4 + j), none⟩ = some (cellT ts VB VL i j)) := fun i hi j hj => (HBa.out.cell (p := ⟨b, o + (i * 4 + j), none⟩) hbw).trans ((HSRC.out i (by have := HT.out; omega)).cell hj)
  have HONa : Hid (∀ i, i < ts.length → (VB i).oneCell' = true ∧ (VL i).oneCell' = true) := fun i hi => by
    have h := HSRC.out i (by have := HT.out; omega)
    exact ⟨h.bef.one, h.lag.one⟩
  have HTL : Hid (0 < ts.length ∧ ts.length ≤ 1048576) := by have := HT.out; show _ ∧ _; omega
  clear htm'
  obtain ⟨i0, hi, hz0, hz1, hz2⟩ := info_parts info_i64
  obtain ⟨i1, ji, jz0, jz1, jz2⟩ := info_parts info_bool
  go_wp2_with (first
    | (at_builtin; refine append_tks rfl _ _ rfl w.heap.size (.slice (some ⟨W1.heap.size, 0, none⟩) 0 0) ts VB VL HTL.out.1 HTL.out.2 rfl b o c (by rw [HT.out]; rfl) HCSa.out HONa.out HOa.out HBa.out.size ?_; intro gl cl W2 ho2 hg2; rw [HT.out] at ho2 ⊢; have HA2 : Hid (Below w.heap.size w W2) := HBa.out.grown hg2 HBa.out.size (fun k e => by cases e; exact HB1.out.size); obtain ⟨s1, s2, s3, s4, s5⟩ := copy_long ho2 HT.out htk by_; rw [HTM.out] at s1 s3 s4; have HO3 := Lib.hid s3; have HB3 : Hid (Below w.heap.size w (W2.setCell ⟨gl, task * 4, none⟩ (.int .i64 (tm + by_)))) := HA2.out.grown s4 HA2.out.size (fun k e => by cases e; exact s5.1); have HGL : Hid (w.heap.size ≤ gl ∧ gl < W2.heap.size) := s5; clear ho2 hg2 s3 s4 s5)
    | (at_make; refine wpList_make_full _ rfl _ _ 29 rfl w.heap.size 2 i0 (.int .i64 0) 1 Try.underlying29 hi hz0 hz1 _ _ _ _ T rfl rfl rfl rfl (by rw [hz2]; omega) (by unfold maxLen; omega) HB3.out.size ?_; intro W4 hown4 hgrow4; have HA4 := Lib.hid (And.intro hown4 hgrow4); have HB4 : Hid (Below w.heap.size w W4) := HB3.out.grown hgrow4 HB3.out.size (fun k e => by cases e); clear hown4 hgrow4)
    | (at_make; refine wpList_make_full _ rfl _ _ 91 rfl w.heap.size 4 i1 (.bool false) 1 Try.underlying91 ji jz0 jz1 _ _ _ _ T rfl rfl rfl rfl (by rw [jz2]; omega) (by unfold maxLen; omega) HB4.out.size ?_; intro W5 hown5 hgrow5; have HA5 := Lib.hid (And.intro hown5 hgrow5); have HB5 : Hid (Below w.heap.size w W5) := HB4.out.grown hgrow5 HB4.out.size (fun k e => by cases e); clear hown5 hgrow5))
  simp only [World.size_setCell] at HA4
  obtain ⟨go, hgo⟩ : ∃ g, W2.heap.size = g := ⟨_, rfl⟩
  obtain ⟨gt, hgt⟩ : ∃ g, W4.heap.size = g := ⟨_, rfl⟩
  rw [hgo] at HA4 HGL
  rw [hgt] at HA5
  have HTT : Hid ((longT ts task by_).length = T) := by show _ = _; rw [longT_len]; exact HT.out
  have HSL : Hid (SmTs (longT ts task by_)) := longT_sm HSM.out (by rw [HT.out]; exact htk) hby.1 (by rw [HTM.out]; exact hlong)
  have HBL : Hid (∀ j, befN (longT ts task by_) j = befN ts j ∧ lagN (longT ts task by_) j = lagN ts j ∧ needN (longT ts task by_) j = needN ts j) := fun j => by
    unfold befN lagN needN
    rw [longT_at _ (by rw [HT.out]; exact htk)]
    split
    · rename_i e; subst e; exact ⟨rfl, rfl, rfl⟩
    · exact ⟨rfl, rfl, rfl⟩
  have HU4 : Hid (OwnI W4 w.heap.size (.slice (some ⟨go, 0, none⟩) T T) (List.replicate T 0)) := made_replicate HA4.out.1
  have HU5 : Hid (OwnI W5 w.heap.size (.slice (some ⟨go, 0, none⟩) T T) (List.replicate T 0)) := HU4.out.kept HA5.out.2 (.inr (by rw [ownBlock_slice]; simp))
  have HV5 : Hid (OwnB W5 w.heap.size (.slice (some ⟨gt, 0, none⟩) T T) (List.replicate T false)) := OwnB.made HA5.out.1
  have HGB : Hid (w.heap.size ≤ gl ∧ gl < go ∧ go < gt ∧ gt < W5.heap.size) := by
    have h1 := HU4.out.lt go rfl
    have h2 := HV5.out.lt gt rfl
    have h3 := HGL.out
    show _ ∧ _
    omega
  have HO5 : Hid (OwnV 56 4 W5 w.heap.size (.slice (some ⟨gl, 0, none⟩) T cl) T (rawT (longT ts task by_) VB VL)) :=
    (HO3.out.grownM (gs := []) ((GrownL.refl [] _).grown HA4.out.2 (fun j e => by cases e)) (fun _ _ => by simp)).grownM (gs := []) ((GrownL.refl [] _).grown HA5.out.2 (fun j e => by cases e)) (fun _ _ => by simp)
  obtain ⟨E, hE⟩ : ∃ E, sortsL (keyOf st) T = E := ⟨_, rfl⟩
  have HSO : Hid (SortsBy (keyOf st) T E) := by show SortsBy _ _ _; rw [← hE]; exact sortsL_ok _ _
  have HQ0 : Hid (MendQR T (longT ts task by_) st crew E go gt w.heap.size W5 (.int .i64 0) (.int .i64 0) W5) := by
    refine ⟨0, 0, noneL T, rfl, Nat.zero_le _, rfl, ?_, ?_⟩
    · show _ = _; exact (diffO_none st T T (Nat.le_refl _)).symm
    · have hI := mendI_start (crew := crew) (E := E) (st := st) HSL.out (by rw [HTT.out]; exact HSO.out)
      rw [HTT.out] at hI
      exact ⟨hI, by rw [zerL_none]; exact HU5.out, by rw [tldL_none]; exact HV5.out, GrownL.refl _ _⟩
  -- what stays in every round's world
  have HKC : Hid (∀ W, GrownL [go, gt] W5 W → Below w.heap.size w W ∧ ∀ i, i < T → W.cell? ⟨gl, i * 4, none⟩ = some (.int .i64 (timeN (longT ts task by_) i)) ∧ W.cell? ⟨gl, i * 4 + 1, none⟩ = some (.int .i64 (needN (longT ts task by_) i)) ∧ W.cell? ⟨gl, i * 4 + 2, none⟩ = some (VB i)) := fun W hW => by
    have hB : Below w.heap.size w W := hW.toBelow HB5.out HB5.out.size (fun j hj => by have := HGB.out; simp; omega)
    have hO : OwnV 56 4 W w.heap.size (.slice (some ⟨gl, 0, none⟩) T cl) T (rawT (longT ts task by_) VB VL) := HO5.out.grownM hW (fun j e => by
      obtain rfl : gl = j := by rw [ownBlock_slice] at e; injection e
      have := HGB.out
      simp
      omega)
    exact ⟨hB, fun i hi => ⟨rawT_cell (j := 0) hO HTT.out hi (by omega), rawT_cell (j := 1) hO HTT.out hi (by omega), rawT_cell (j := 2) hO HTT.out hi (by omega)⟩⟩
  have HKT : Hid (∀ W, GrownL [go, gt] W5 W → TasksR W (.slice (some ⟨gl, 0, none⟩) T cl) (longT ts task by_)) := fun W hW => by
    have hO : OwnV 56 4 W w.heap.size (.slice (some ⟨gl, 0, none⟩) T cl) T (rawT (longT ts task by_) VB VL) := HO5.out.grownM hW (fun j e => by
      obtain rfl : gl = j := by rw [ownBlock_slice] at e; injection e
      have := HGB.out
      simp
      omega)
    refine rawT_reads (M := 0) (ts := ts) (us := longT ts task by_) (fun j hj => HSRC.out j (by have := HT.out; omega)) (HKC.out W hW).1 (by rw [longT_len]) (by have := HT.out; unfold maxLen; omega) (fun j hj => ?_) (by rw [HT.out]; exact hO) (by have := HT.out; omega)
    have h1 := HSL.out.time j (by rw [longT_len]; exact hj)
    have h2 := HSL.out.need j (by rw [longT_len]; exact hj)
    exact ⟨(HBL.out j).1, (HBL.out j).2.1, wf_i64_iff.2 ⟨by omega, by omega⟩, wf_i64_iff.2 ⟨by omega, by omega⟩⟩
  have HNE : Hid (∀ i, i < T → 0 ≤ needN (longT ts task by_) i ∧ needN (longT ts task by_) i ≤ crew ∧ needN (longT ts task by_) i ≤ 20) := fun i hi => by
    have h1 := HSL.out.need i (by rw [HTT.out]; exact hi)
    have h2 := HND.out i (by rw [HT.out]; exact hi)
    rw [(HBL.out i).2.2] at h1 ⊢
    omega
  simp only [hgo, hgt]
  clear HA4 HA5 HU4 HU5 HV5 HO3 HO5 HB3 HB4 hi hz0 hz1 hz2 ji jz0 jz1 jz2 s1 s2 hE HA2 HOa HBa HCSa HONa hgo hgt c0 w2
  go_loopw [16, 17] (fun vd vk wr => MendQR T (longT ts task by_) st crew E go gt w.heap.size W5 vd vk wr) (fun _ vk _ => T - (intOf vk).toNat)
  case atStart => exact HQ0.out
  case round =>
    obtain ⟨k, d, out, rfl, hk, rfl, HD, HQ⟩ := hrel
    clear HQ0
    by_cases hkT : k < T
    · have k2 : (k : Int) < (T : Int) := by omega
      have k3 : (0 : Int) ≤ (k : Int) := by omega
      obtain ⟨us, hus⟩ : ∃ us, longT ts task by_ = us := ⟨_, rfl⟩
      have HUS : Hid (longT ts task by_ = us) := hus
      simp only [hus] at HTT HSL HBL HKC HKT HNE HQ ⊢
      have hnx := HQ.out.inv.next (by rw [HTT.out]; exact HSO.out) (by rw [HTT.out]; exact hkT)
      rw [HTT.out] at hnx
      obtain ⟨i, hi⟩ : ∃ i : Nat, nth E k = i := ⟨(nth E k).toNat, by omega⟩
      have HI : Hid (nth E k = i) := hi
      have HPK : Hid (pickK (fun j => decide (nth out j < 0)) (keyOf st) T = (i : Int)) := by
        have h1 : E = E.take k ++ nth E k :: E.drop (k + 1) := by rw [← hnx.1, List.take_append_drop]
        have h2 := pick_next (f := fun j => decide (nth out j < 0)) HSO.out h1 (fun y hy => by have := HQ.out.inv.told y hy; simpa using this) (by simp only [decide_eq_true_eq]; rw [hnx.2.2.2]; omega)
        show _ = _
        rw [h2, hi]
      rw [hi, Int.toNat_natCast] at hnx
      have hiT := hnx.2.2.1
      have HNI : Hid (nth out i = -1) := hnx.2.2.2
      have i0 : (0 : Int) ≤ (i : Int) := by omega
      have i1 : (i : Int) < (T : Int) := by omega
      have holen : T = out.length := by have := HQ.out.inv.len; have := HTT.out; omega
      have HLEN : Hid (T = out.length) := holen
      have HBr : Hid (Below w.heap.size w wr) := (HKC.out wr HQ.out.frm).1
      have HTC : Hid (∀ j, j < T → wr.cell? ⟨gt, j, none⟩ = some (.bool (decide (0 ≤ nth out j)))) := fun j hj => by
        have h := (HQ.out.ownB.store (by rw [tldL_len]; exact HLEN.out) j (by rw [tldL_len, ← HLEN.out]; exact hj) true).1
        rw [tldL_at] at h
        exact h
      clear hi hnx holen hus
      go_wp2
      go_loopw [18, 79] (fun vb vi wi => MendPk T st out wr vb vi wi) (fun _ vi _ => T - (intOf vi).toNat)
      case atStart => exact ⟨0, 0, -1, rfl, rfl, Nat.zero_le _, rfl, rfl⟩
      case round =>
        obtain ⟨j, m, P, rfl, rfl, hj, HP, rfl⟩ := hrel
        by_cases hjT : j < T
        · have j1 : (j : Int) < (T : Int) := by omega
          have j0 : (0 : Int) ≤ (j : Int) := by omega
          have co := HTC.out j hjT
          have hPb : P < (j : Int) + 1 ∧ -1 ≤ P := by
            rw [HP.out]
            rcases pickK_spec (fun j => decide (nth out j < 0)) (keyOf st) j with ⟨h, _⟩ | ⟨h1, h2, _⟩ <;> omega
          have HPN : Hid (pickK (fun j => decide (nth out j < 0)) (keyOf st) (j + 1) = if decide (nth out j < 0) = true ∧ (P < 0 ∨ keyOf st j < keyOf st P) then (j : Int) else P) := by show _ = _; rw [HP.out]; rfl
          obtain ⟨F, hF⟩ : ∃ F, nth out j = F := ⟨_, rfl⟩
          rw [hF] at co HPN
          clear hF
          by_cases hF0 : 0 ≤ F
          · rw [decide_eq_true hF0] at co
            have HPN2 : Hid (P = pickK (fun j => decide (nth out j < 0)) (keyOf st) (j + 1)) := by
              show _ = _; rw [HPN.out, if_neg (fun h => by have := of_decide_eq_true h.1; omega)]
            clear HPN HP
            go_wp2
            go_quiet (fail)
            go_wp2
            go_roundw
            case rel => exact ⟨j + 1, _, P, rfl, by go_num, by omega, HPN2.out, rfl⟩
            case measure => simp [intOf]; omega
          · rw [decide_eq_false hF0] at co
            have hdF : decide (F < 0) = true := by simp; omega
            by_cases hP0 : P < 0
            · have hd : decide (P < 0) = true := by simpa using hP0
              have HPN2 : Hid ((j : Int) = pickK (fun j => decide (nth out j < 0)) (keyOf st) (j + 1)) := by show _ = _; rw [HPN.out, if_pos ⟨hdF, .inl hP0⟩]
              clear HPN HP
              go_wp2
              go_quiet (fail)
              go_wp2
              go_roundw
              case rel => exact ⟨j + 1, _, j, rfl, by go_num, by omega, HPN2.out, rfl⟩
              case measure => simp [intOf]; omega
            · have hd : decide (P < 0) = false := by simpa using hP0
              obtain ⟨p, rfl⟩ : ∃ p : Nat, P = p := ⟨P.toNat, by omega⟩
              have p0 : (0 : Int) ≤ (p : Int) := by omega
              have p1 : (p : Int) < (T : Int) := by omega
              have cI := HSC.out wr HBr.out j hjT
              have cJ := HSC.out wr HBr.out p (by omega)
              have hPN := HPN.out
              rw [show keyOf st (j : Int) = nth st j from by unfold keyOf; rw [Int.toNat_natCast], show keyOf st (p : Int) = nth st p from by unfold keyOf; rw [Int.toNat_natCast]] at hPN
              have HPN := Lib.hid hPN
              obtain ⟨A, hA⟩ : ∃ A, nth st j = A := ⟨_, rfl⟩
              obtain ⟨B, hB⟩ : ∃ B, nth st p = B := ⟨_, rfl⟩
              rw [hA] at cI HPN
              rw [hB] at cJ HPN
              clear hA hB hPN HP hP0 hPb
              by_cases hAB : A < B
              · have hd2 : decide (A < B) = true := by simpa using hAB
                have HPN2 : Hid ((j : Int) = pickK (fun j => decide (nth out j < 0)) (keyOf st) (j + 1)) := by show _ = _; rw [HPN.out, if_pos ⟨hdF, .inr hAB⟩]
                clear HPN
                go_wp2
                go_quiet (fail)
                go_wp2
                go_roundw
                case rel => exact ⟨j + 1, _, j, rfl, by go_num, by omega, HPN2.out, rfl⟩
                case measure => simp [intOf]; omega
              · have hd2 : decide (A < B) = false := by simpa using hAB
                have HPN2 : Hid ((p : Int) = pickK (fun j => decide (nth out j < 0)) (keyOf st) (j + 1)) := by show _ = _; rw [HPN.out, if_neg (fun h => by rcases h.2 with h | h; omega; exact hAB h)]
                clear HPN
                go_wp2
                go_quiet (fail)
                go_wp2
                go_roundw
                case rel => exact ⟨j + 1, _, p, rfl, by go_num, by omega, HPN2.out, rfl⟩
                case measure => simp [intOf]; omega
        · have j1 : ¬ (j : Int) < (T : Int) := by omega
          obtain rfl : P = (i : Int) := by
            have h := HP.out
            rw [show j = T by omega, HPK.out] at h
            exact h
          clear HP HPK
          have hsi := HSRC.out i hiT
          obtain ⟨aB, cB, hVB, bcap, hB⟩ := (hsi.bef.ints.1).view
          obtain ⟨_, hcs⟩ := HKC.out wr HQ.out.frm
          obtain ⟨d0, d1, d2⟩ := hcs i hiT
          rw [hVB] at d2
          obtain ⟨L, hL⟩ : ∃ L, (befN ts i).length = L := ⟨_, rfl⟩
          have HLB : Hid ((befN us i).length = L) := by show _ = _; rw [(HBL.out i).1]; exact hL
          rw [hL] at d2 bcap
          have hL16 : L ≤ 16 := by have := HSM.out.blen i (by rw [HT.out]; exact hiT); omega
          have HBF : Hid (∀ q, q < L → ∃ b' o', aB = some ⟨b', o', none⟩ ∧ wr.cell? ⟨b', o' + q, none⟩ = some (.int .i64 (nth (befN us i) q))) := fun q hq => by rw [(HBL.out i).1]; exact hB wr HBr.out q (by rw [hL]; exact hq)
          have HBE : Hid (∀ q, q < L → 0 ≤ nth (befN us i) q ∧ nth (befN us i) q < (i : Int)) := fun q hq => HSL.out.bef i (by rw [HTT.out]; exact hiT) q (by rw [HLB.out]; exact hq)
          clear hsi hVB hB hL hcs
          have HQ0 : Hid (MendB us out i L wr (.int .i64 0) (wr.drewN m)) := ⟨0, m, rfl, Nat.zero_le _, fun j hj => absurd hj (Nat.not_lt_zero _), rfl⟩
          go_wp2
          go_loopw [110] (fun vq wi => MendB us out i L wr vq wi) (fun vq _ => L - (intOf vq).toNat)
          case atStart => exact HQ0.out
          case round =>
            obtain ⟨q, m2, rfl, hq, HTO, rfl⟩ := hrel
            clear HQ0
            by_cases hqL : q < L
            · obtain ⟨b2, o2, haB, cb⟩ := HBF.out q hqL
              subst haB
              have hbe := HBE.out q hqL
              obtain ⟨p, hp⟩ : ∃ p : Nat, nth (befN us i) q = p := ⟨(nth (befN us i) q).toNat, by omega⟩
              have HPE : Hid (nth (befN us i) q = p) := hp
              rw [hp] at cb hbe
              have co := HTC.out p (by omega)
              obtain ⟨v, hv⟩ : ∃ v, nth out p = v := ⟨_, rfl⟩
              have HVE : Hid (nth out p = v) := hv
              rw [hv] at co
              have q0 : (0 : Int) ≤ (q : Int) := by omega
              have q1 : (q : Int) < (L : Int) := by omega
              have p0 : (0 : Int) ≤ (p : Int) := by omega
              have p1 : (p : Int) < (T : Int) := by omega
              clear hp hv
              by_cases hneg : v < 0
              · rw [decide_eq_false (show ¬ 0 ≤ v by omega)] at co
                have HF : Hid (toldB us out i = false) := by
                  cases h : toldB us out i
                  · rfl
                  · exfalso
                    have h2 := toldB_all h q (by rw [HLB.out]; exact hqL)
                    rw [HPE.out, Int.toNat_natCast, HVE.out] at h2
                    omega
                clear hneg
                go_wp2
                go_ret3
                refine ⟨.inl ⟨?_, rfl⟩, below_drewN _ HBr.out⟩
                rw [HUS.out]
                apply HQ.out.inv.fail (by rw [HTT.out]; exact HSO.out) (by rw [HTT.out]; exact hkT)
                rw [HI.out, Int.toNat_natCast]
                exact HF.out
              · rw [decide_eq_true (show 0 ≤ v by omega)] at co
                go_wp2
                go_roundw
                case rel => exact ⟨q + 1, m2, by go_num, by omega, fun j hj => by
                  by_cases e : j = q
                  · subst e; rw [HPE.out, Int.toNat_natCast, HVE.out]; omega
                  · exact HTO j (by omega), rfl⟩
                case measure => simp [intOf]; omega
            · have q2 : ¬ (q : Int) < (L : Int) := by omega
              have HTD : Hid (toldB us out i = true) := by
                show toldB _ _ _ = true
                unfold toldB
                rw [List.all_eq_true]
                intro x hx
                obtain ⟨j, hj, rfl⟩ := List.getElem_of_mem hx
                have := HTO j (by have := HLB.out; omega)
                rw [nth_eq hj] at this
                exact decide_eq_true this
              clear HTO d2 HBF hqL bcap d0 d1
              have HQ2 : Hid (MendQ T us st crew E go gt w.heap.size k W5 (wr.drewN m2) out) := HQ.out.drewN m2
              obtain ⟨V, hV⟩ : ∃ V, wr.drewN m2 = V := ⟨_, rfl⟩
              rw [hV] at HQ2 ⊢
              clear hV HQ HTC HBr
              obtain ⟨hBV, hcs⟩ := HKC.out V HQ2.out.frm
              have HBV := Lib.hid hBV
              have HCS := Lib.hid hcs
              obtain ⟨d0, d1, _⟩ := hcs i hiT
              have cst := HSC.out V hBV i hiT
              have HTC : Hid (∀ j, j < T → V.cell? ⟨gt, j, none⟩ = some (.bool (decide (0 ≤ nth out j)))) := fun j hj => by
                have h := (HQ2.out.ownB.store (by rw [tldL_len]; exact HLEN.out) j (by rw [tldL_len, ← HLEN.out]; exact hj) true).1
                rw [tldL_at] at h
                exact h
              have HOC : Hid (∀ j, j < T → V.cell? ⟨go, j, none⟩ = some (.int .i64 (max (nth out j) 0))) := fun j hj => by
                have h := HQ2.out.own.at_ (by rw [zerL_len]; exact HLEN.out) j (by rw [zerL_len, ← HLEN.out]; exact hj)
                rw [zerL_at (by rw [← HLEN.out]; exact hj)] at h
                exact h
              have HOB : Hid (∀ j, j < T → -1 ≤ nth out j ∧ nth out j + timeN us j ≤ 500 + 300 * (k : Int) ∧ 0 ≤ timeN us j ∧ timeN us j ≤ 100) := fun j hj => by
                have h1 := HQ2.out.inv.lo j (by rw [HTT.out]; exact hj)
                have h2 := HQ2.out.inv.hi j (by rw [HTT.out]; exact hj)
                have h3 := HSL.out.time j (by rw [HTT.out]; exact hj)
                exact ⟨h1, h2, h3.1, h3.2⟩
              have HSZ : Hid (SmSt (zerL out) us.length) := ⟨by rw [zerL_len, ← HLEN.out, HTT.out], fun j hj => by
                have hj' : j < T := by rw [← HTT.out]; exact hj
                have h1 := HOB.out j hj'
                rw [zerL_at (by rw [← HLEN.out]; exact hj')]
                omega⟩
              have HZE : Hid (leastN us (zerL out) i = leastN us out i) := leastN_zer HSL.out (by rw [← HLEN.out, HTT.out]) (by rw [HTT.out]; exact hiT) HTD.out
              have HEA : Hid (∀ m, Calls Try.prog 77 #[.slice (some ⟨gl, 0, none⟩) T cl, .slice (some ⟨go, 0, none⟩) T T, .int .i64 i] (V.drewN m) fun e w' => e = .returned (.int .i64 (leastN us out i)) ∧ ∃ q, w' = (V.drewN m).drewN q) := fun m => by
                have h := specLeast_any _ _ us (zerL out) i (V.drewN m) (HKT.out (V.drewN m) (HQ2.out.frm.drewN m)) ((HQ2.out.own.drewN m).ints) HSL.out HSZ.out (by rw [HTT.out]; exact hiT)
                rw [HZE.out] at h
                exact h
              have HA0 : Hid (0 ≤ max (nth st i) (leastN us out i) ∧ max (nth st i) (leastN us out i) ≤ 600 + 300 * (k : Int)) := by
                have h1 := leastTo_le (B := 500 + 300 * (k : Int)) HSL.out (i := i) (out := out) (by rw [HTT.out]; exact hiT) (by omega) HQ2.out.inv.hi _ (Nat.le_refl _)
                have h2 := HST0.out i hiT
                have h3 : nth st i + timeN ts i ≤ endTo ts st T := end_ge T i hiT
                have h4 := HP.out
                have h5 := HSM.out.time i (by rw [HT.out]; exact hiT)
                have h6 : leastN us out i ≤ 500 + 300 * (k : Int) + 100 := h1
                show _ ∧ _
                omega
              have HNI2 := HNE.out i hiT
              have HTI := HOB.out i hiT
              obtain ⟨stI, hstI⟩ : ∃ x, nth st i = x := ⟨_, rfl⟩
              obtain ⟨tmI, htmI⟩ : ∃ x, timeN us i = x := ⟨_, rfl⟩
              obtain ⟨ndI, hndI⟩ : ∃ x, needN us i = x := ⟨_, rfl⟩
              obtain ⟨leI, hleI⟩ : ∃ x, leastN us out i = x := ⟨_, rfl⟩
              obtain ⟨a, ha⟩ : ∃ a, max stI leI = a := ⟨_, rfl⟩
              have HSI : Hid (nth st i = stI) := hstI
              have HTI' : Hid (timeN us i = tmI) := htmI
              have HND' : Hid (needN us i = ndI) := hndI
              have HLE : Hid (max (nth st i) (leastN us out i) = a) := by show _ = _; rw [hstI, hleI]; exact ha
              have HMX : Hid (∀ W, Calls Try.prog 65 #[.int .i64 stI, .int .i64 leI] W fun e w' => e = .returned (.int .i64 a) ∧ W = w') := fun W => by rw [← ha]; exact maxP_any stI leI W
              rw [hstI] at cst
              rw [htmI] at d0 HTI
              rw [hndI] at d1 HNI2
              rw [hleI] at HEA
              rw [HLE.out] at HA0
              have ha0 : 0 ≤ a ∧ a ≤ 600 + 300 * (k : Int) := HA0.out
              have w5 : IntKind.i64.wrap (d + 1) = d + 1 := by
                have h := diffO_bounds (st := st) (out := out) T
                rw [← HD.out] at h
                exact IntWalk.i64_in _ (by omega)
              clear hstI htmI hndI hleI ha hBV hcs HA0 HZE HSZ
              go_wp2
              go_quiet ((first | (go_at_call 77; exact quiet_drewU (HEA.out _)) | (go_at_call 65; exact quiet_eq (HMX.out _))))
              go_wp2
              have HM0 : Hid (MendT (fun t : Nat => useO us out t T) crew ndI tmI a (600 + 300 * (k : Int)) V (.int .i64 a) (.int .i64 a) (V.drewN nq)) :=
                ⟨a.toNat, nq, a, rfl, by go_num, Int.le_refl _, by omega, by omega, ha0.2, noneW.start _ _ _ _ _, fun j h1 h2 => by omega, rfl⟩
              clear HEA HMX
              go_loopw [21, 22] (fun vs vt wi => MendT (fun t : Nat => useO us out t T) crew ndI tmI a (600 + 300 * (k : Int)) V vs vt wi) (fun _ vt _ => (600 + 300 * (k : Int) + tmI - intOf vt).toNat)
              case atStart => exact HM0.out
              case round =>
                obtain ⟨t, m4, s, rfl, rfl, has, hst, hts, hsB, HNW, HFR, rfl⟩ := hrel
                clear HM0
                have w3 : IntKind.i64.wrap (s + tmI) = s + tmI := IntWalk.i64_in _ (by omega)
                have w4 : IntKind.i64.wrap ((t : Int) + 1) = (t : Int) + 1 := IntWalk.i64_in _ (by omega)
                by_cases hlt : (t : Int) < s + tmI
                · have HU0 : Hid (MendU us out ndI t T V (.int .i64 ndI) (.int .i64 0) (V.drewN m4)) := ⟨0, m4, by show Value.int .i64 _ = Value.int .i64 (_ + 0); congr 1; omega, rfl, Nat.zero_le _, rfl⟩
                  go_wp2
                  go_loopw [23, 152] (fun vu vk wi => MendU us out ndI t T V vu vk wi) (fun _ vk _ => T - (intOf vk).toNat)
                  case atStart => exact HU0.out
                  case round =>
                    obtain ⟨j, m5, rfl, rfl, hj, rfl⟩ := hrel
                    clear HU0
                    have hub := useO_bounds (ts := us) (out := out) (t := (t : Int)) HSL.out j (by rw [HTT.out]; exact hj)
                    by_cases hjT : j < T
                    · have j1 : (j : Int) < (T : Int) := by omega
                      have j0 : (0 : Int) ≤ (j : Int) := by omega
                      have ct := HTC.out j hjT
                      have co := HOC.out j hjT
                      obtain ⟨e0, e1, _⟩ := HCS.out j hjT
                      have hob := HOB.out j hjT
                      have hnj := HNE.out j hjT
                      have HUN : Hid (useO us out t (j + 1) = useO us out t j + if 0 ≤ nth out j ∧ nth out j ≤ t ∧ (t : Int) < nth out j + timeN us j then needN us j else 0) := rfl
                      obtain ⟨u, hu⟩ : ∃ u, useO us out t j = u := ⟨_, rfl⟩
                      obtain ⟨F, hF⟩ : ∃ F, nth out j = F := ⟨_, rfl⟩
                      obtain ⟨tmJ, htJ⟩ : ∃ x, timeN us j = x := ⟨_, rfl⟩
                      obtain ⟨ndJ, hnJ⟩ : ∃ x, needN us j = x := ⟨_, rfl⟩
                      rw [hu] at HUN hub ⊢
                      rw [hF] at HUN co ct hob
                      rw [htJ] at HUN e0 hob
                      rw [hnJ] at HUN e1 hnj
                      clear hu hF htJ hnJ
                      by_cases hF0 : 0 ≤ F
                      · rw [decide_eq_true hF0] at ct
                        rw [show max F 0 = F by omega] at co
                        have w6 : IntKind.i64.wrap (F + tmJ) = F + tmJ := IntWalk.i64_in _ (by omega)
                        have w7 : IntKind.i64.wrap (ndI + u + ndJ) = ndI + u + ndJ := IntWalk.i64_in _ (by omega)
                        by_cases h1 : F ≤ (t : Int)
                        · have hd1 : decide (F ≤ (t : Int)) = true := by simpa using h1
                          by_cases h2 : (t : Int) < F + tmJ
                          · have hd2 : decide ((t : Int) < F + tmJ) = true := by simpa using h2
                            have HUN2 : Hid (ndI + useO us out t (j + 1) = ndI + u + ndJ) := by show _ = _; rw [HUN.out, if_pos ⟨hF0, h1, h2⟩]; omega
                            clear HUN
                            go_wp2
                            go_quiet (fail)
                            go_wp2
                            go_roundw
                            case rel => exact ⟨j + 1, _, by rw [HUN2.out], by go_num, by omega, rfl⟩
                            case measure => simp [intOf]; omega
                          · have hd2 : decide ((t : Int) < F + tmJ) = false := by simpa using h2
                            have HUN2 : Hid (ndI + useO us out t (j + 1) = ndI + u) := by show _ = _; rw [HUN.out, if_neg (fun h => h2 h.2.2)]; omega
                            clear HUN
                            go_wp2
                            go_quiet (fail)
                            go_wp2
                            go_roundw
                            case rel => exact ⟨j + 1, _, by rw [HUN2.out], by go_num, by omega, rfl⟩
                            case measure => simp [intOf]; omega
                        · have hd1 : decide (F ≤ (t : Int)) = false := by simpa using h1
                          have HUN2 : Hid (ndI + useO us out t (j + 1) = ndI + u) := by show _ = _; rw [HUN.out, if_neg (fun h => h1 h.2.1)]; omega
                          clear HUN
                          go_wp2
                          go_quiet (fail)
                          go_wp2
                          go_roundw
                          case rel => exact ⟨j + 1, _, by rw [HUN2.out], by go_num, by omega, rfl⟩
                          case measure => simp [intOf]; omega
                      · rw [decide_eq_false hF0] at ct
                        have HUN2 : Hid (ndI + useO us out t (j + 1) = ndI + u) := by show _ = _; rw [HUN.out, if_neg (fun h => hF0 h.1)]; omega
                        clear HUN
                        go_wp2
                        go_quiet (fail)
                        go_wp2
                        go_roundw
                        case rel => exact ⟨j + 1, _, by rw [HUN2.out], by go_num, by omega, rfl⟩
                        case measure => simp [intOf]; omega
                    · have j1 : ¬ (j : Int) < (T : Int) := by omega
                      obtain rfl : j = T := by omega
                      have HUA : Hid (500 + 300 * (k : Int) ≤ (t : Int) → useO us out t j = 0) := fun h => useO_none_after h j (fun q hq => (HOB.out q hq).2.1)
                      obtain ⟨u, hu⟩ : ∃ u, useO us out t j = u := ⟨_, rfl⟩
                      have HU : Hid (useO us out t j = u) := hu
                      rw [hu] at HUA hub ⊢
                      clear hu
                      by_cases hcl : crew < ndI + u
                      · have htB : (t : Int) < 500 + 300 * (k : Int) := by
                          rcases Int.lt_or_le (t : Int) (500 + 300 * (k : Int)) with h | h
                          · exact h
                          · exfalso; have := HUA.out h; omega
                        have HNW2 : Hid (noneW (fun t : Nat => useO us out t j) crew ndI tmI a ((t : Int) + 1)) := HNW.out.jump hst hlt (by show crew < useO us out t j + ndI; rw [HU.out]; omega)
                        go_wp2
                        go_roundw
                        case rel => exact ⟨t + 1, _, (t : Int) + 1, rfl, by go_num, by omega, by omega, by omega, by omega, HNW2.out, fun q h1 h2 => by omega, rfl⟩
                        case measure => simp [intOf]; omega
                      · have HFR2 : Hid (∀ q : Nat, s ≤ q → (q : Int) < ((t + 1 : Nat) : Int) → useO us out q j + ndI ≤ crew) := fun q h1 h2 => by
                          by_cases e : q = t
                          · subst e; rw [HU.out]; omega
                          · exact HFR.out q h1 (by omega)
                        go_wp2
                        go_roundw
                        case rel => exact ⟨t + 1, _, s, rfl, by go_num, has, by omega, by omega, hsB, HNW.out, HFR2.out, rfl⟩
                        case measure => simp [intOf]; omega
                · have HFIT : Hid (Fit (fun t : Nat => useO us out t T) crew ndI tmI a s) := fit_of_search has (by omega) HNW.out HFR.out
                  clear HNW HFR
                  have HQ3 : Hid (MendQ T us st crew E go gt w.heap.size k W5 (V.drewN m4) out) := HQ2.out.drewN m4
                  obtain ⟨X, hX⟩ : ∃ X, V.drewN m4 = X := ⟨_, rfl⟩
                  rw [hX] at HQ3 ⊢
                  clear hX HQ2 HOC HTC
                  have hIN : MendI us st crew E (k + 1) (out.set i s) := by
                    have h := HQ3.out.inv.step (s := s) (by rw [HTT.out]; exact HSO.out) (by rw [HTT.out]; exact hkT) HSL.out (by rw [HI.out, Int.toNat_natCast]; exact HTD.out) (by rw [HI.out, Int.toNat_natCast, HTT.out, HND'.out, HTI'.out, HLE.out]; exact HFIT.out) (by omega) hsB
                    rw [HI.out, Int.toNat_natCast] at h
                    exact h
                  have hs0 : 0 ≤ s := by omega
                  obtain ⟨f1, f2, f3, f4, hput⟩ := HQ3.out.put hs0 hiT HLEN.out HGB.out.2.2.1 hIN
                  have HPUT := Lib.hid hput
                  obtain ⟨_, hcs9⟩ := HKC.out X HQ3.out.frm
                  obtain ⟨g0, _, _⟩ := hcs9 i hiT
                  rw [HTI'.out] at g0
                  have cst9 := HSC.out _ (HKC.out _ HPUT.out.frm).1 i hiT
                  rw [HSI.out] at cst9
                  have HD9 : Hid (diffO st (out.set i s) T = d + if s ≠ stI then 1 else 0) := by
                    show _ = _
                    rw [diffO_set (by rw [← HLEN.out]; exact hiT) HNI.out hs0 T, HD.out, HSI.out]
                    by_cases q : s = stI
                    · rw [if_neg (fun x => x.2 q), if_neg (fun x => x q)]
                    · rw [if_pos ⟨hiT, q⟩, if_pos q]
                  clear hput hIN hcs9
                  by_cases hse : s = stI
                  · have HD10 : Hid (diffO st (out.set i s) T = d) := by have := HD9.out; rw [if_neg (fun x => x hse)] at this; show _ = _; omega
                    subst hse
                    go_wp2
                    go_roundw
                    case rel => exact ⟨k + 1, d, _, by go_num, by omega, rfl, HD10.out.symm, HPUT.out⟩
                    case measure => simp [intOf]; omega
                  · have HD10 : Hid (diffO st (out.set i s) T = d + 1) := by have := HD9.out; rw [if_pos hse] at this; exact this
                    go_wp2
                    go_roundw
                    case rel => exact ⟨k + 1, d + 1, _, by go_num, by omega, rfl, HD10.out.symm, HPUT.out⟩
                    case measure => simp [intOf]; omega
    · have k2 : ¬ (k : Int) < (T : Int) := by omega
      have HKTT : Hid (k = T) := by show _ = _; omega
      clear hkT
      go_wp2
      go_ret3
      refine ⟨.inr ⟨out, ?_, go, by rw [HD.out]; rfl, HQ.out.own⟩, (HKC.out wr HQ.out.frm).1⟩
      have h := HQ.out.inv
      rw [HKTT.out] at h
      have h2 := HTT.out
      rw [← h2] at h
      exact h.done (by rw [h2]; exact HSO.out)
end Go.Proofs.Ytnpfninkopffmaa

namespace Go.Proofs.Ytnpfninkopffmaa
open Go.RowKit
set_option linter.unusedVariables false
set_option linter.unusedSimpArgs false

theorem b10Long_any (v u : Value) (xs ys : List Int) (w : World) (hv : Byts w v xs) (hu : Byts w u ys) :
    Calls Try.prog 23 #[v, u] w fun e w' => e = .returned (.bool (decide (1048576 < xs.length) || decide (1048576 < ys.length))) ∧ w = w' := by
  obtain ⟨hm, a, c, rfl, hcap, hc⟩ := hv
  obtain ⟨hm', a', c', rfl, hcap', hc'⟩ := hu
  unfold maxLen at hm hm'
  clear hc hc'
  by_cases h : 1048576 < xs.length
  · go_enter Try.func23, Try.ntmps23
    go_wp2
    go_ret
    exact ⟨ret_bool (by simp [h]), rfl⟩
  · have hd : decide (1048576 < xs.length) = false := by simpa using h
    by_cases h2 : 1048576 < ys.length
    · go_enter Try.func23, Try.ntmps23
      go_wp2
      go_ret
      exact ⟨ret_bool (by rw [hd]; first | rfl | (symm; simp; omega) | (rw [Bool.eq_iff_iff]; simp; omega)), rfl⟩
    · go_enter Try.func23, Try.ntmps23
      go_wp2
      go_ret
      exact ⟨ret_bool (by rw [hd]; first | rfl | (symm; simp; omega) | (rw [Bool.eq_iff_iff]; simp; omega)), rfl⟩

/-- A number from 0 to n - 1. -/
theorem b10At_any (v : Value) (xs : List Int) (i n : Int) (w : World) (hv : Byts w v xs) (hwf : ∀ x ∈ xs, (Lit.int .u8 x).wf = true) (hi : 0 ≤ i) (hi2 : i ≤ 100000000) (hn : 1 ≤ n) (hn2 : n ≤ 100000000) :
    Calls Try.prog 24 #[v, .int .i64 i, .int .i64 n] w fun e w' => (∃ x, e = .returned (.int .i64 x) ∧ 0 ≤ x ∧ x < n) ∧ w = w' := by
  obtain ⟨hm, a, c, rfl, hcap, hc⟩ := hv
  unfold maxLen at hm
  obtain ⟨k, rfl⟩ : ∃ k : Nat, i = k := ⟨i.toNat, by omega⟩
  by_cases h1 : n ≤ 1
  · clear hc
    go_enter Try.func24, Try.ntmps24
    go_wp2
    go_ret
    exact ⟨⟨0, rfl, by omega, by omega⟩, rfl⟩
  · by_cases hlt : k < xs.length
    · obtain ⟨b, o, rfl, hbs, hck⟩ := hc k hlt
      have hx := wf_u8_iff.1 (hwf xs[k] (List.getElem_mem _))
      obtain ⟨x, hxx⟩ : ∃ x, xs[k] = x := ⟨_, rfl⟩
      rw [hxx] at hck hx
      obtain ⟨hx1, hx2⟩ := hx
      clear hc hxx hwf
      go_enter Try.func24, Try.ntmps24
      go_wp2
      go_ret
      exact ⟨⟨x % n, rfl, Int.emod_nonneg _ (by omega), Int.emod_lt_of_pos _ (by omega)⟩, rfl⟩
    · clear hc
      go_enter Try.func24, Try.ntmps24
      go_wp2
      go_ret
      exact ⟨⟨((k : Int) * 37 + 11) % n, rfl, Int.emod_nonneg _ (by omega), Int.emod_lt_of_pos _ (by omega)⟩, rfl⟩
end Go.Proofs.Ytnpfninkopffmaa
