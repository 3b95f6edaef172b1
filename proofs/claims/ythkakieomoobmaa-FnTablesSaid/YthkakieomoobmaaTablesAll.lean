/- The walk of FnTables. Conditions: none. With texts that it needs. -/
import Derived.Test.YthkakieomoobmaaTablesAll6
import Derived.Test.YthkakieomoobmaaTablesAll1
import Derived.Test.YthkakieomoobmaaTablesAll3
import Derived.Test.YthkakieomoobmaaTablesAll5
import Derived.Deep.QuietTactic
import Derived.BigQuiet
namespace Go.Proofs.Ythkakieomoobmaa
open Go.RowKit
set_option linter.unusedVariables false
set_option linter.unusedSimpArgs false

def TgR (zs : List (Nat × Nat)) (R : Nat × Nat) (W : World) (va vb vk : Value) (wr : World) : Prop :=
  ∃ k a b : Nat, k ≤ zs.length ∧ vk = .int .i64 k ∧ va = .float .f32 a ∧ vb = .float .f32 b ∧ suO (zs.drop k) a b = some R ∧ wr = W
set_option maxRecDepth 100000 in
set_option maxHeartbeats 2000000 in
theorem together_any (p : Nat) (ds : List Nat) (ts : List Int) (g n c B r : Nat) (W : World) (hts : OwnI W B (.slice (some ⟨g, 0, none⟩) n c) ts) (hn : n = ds.length) (ht : ts = ds.map fun (d : Nat) => (d : Int)) (hn2 : 1 ≤ n ∧ n ≤ 12) (hd : ∀ d ∈ ds, d < p) (hp : 2 ≤ p ∧ p ≤ 9) (h : toO (phD p ds) n = some r) :
    Calls Try.prog 19 #[.slice (some ⟨g, 0, none⟩) n c, .int .i64 (p : Int)] W fun e w' => e = .returned (.tuple #[.float .f32 r, .bool true]) ∧ Below W.heap.size W w' := by
  have HP := Lib.hid (phases_any p ds ts g n c B W hts hn ht hn2 hd hp)
  unfold toO at h
  obtain ⟨R, hR, h⟩ := Option.bind_eq_some_iff.1 h
  obtain ⟨l, hl, h⟩ := Option.bind_eq_some_iff.1 h
  have q1 := cvI32 (n : Int)
  have q2 := arF .quo 44 .f32 l (floatOfInt .f32 (n : Int)) r h
  have HLO := Lib.hid (fun W' => long_any R.1 R.2 l W' hl)
  obtain ⟨zs, hz⟩ : ∃ zs, phD p ds = zs := ⟨_, rfl⟩
  have hzl : n = zs.length := by rw [← hz, hn]; unfold phD; simp
  rw [hz] at HP hR
  have HZL := Lib.hid hzl
  have HR := Lib.hid hR
  obtain ⟨ra, rb⟩ := R
  dsimp only at HLO
  clear hts hn ht hd h hl hz hzl hR
  go_enter Try.func19, Try.ntmps19
  go_wp2_with fail
  refine HP.out.mono ?_
  rintro e W1 ⟨⟨g1, c1, rfl, ho⟩, hb1⟩
  have HB1 := Lib.hid hb1
  have HAT : Hid (∀ k (h : k < zs.length), W1.cell? ⟨g1, k, none⟩ = some (.complex .f32 zs[k].1 zs[k].2)) := fun k h => ho.at_ HZL.out k h
  have HR0 : Hid (TgR zs (ra, rb) W1 (.float .f32 0) (.float .f32 0) (.int .i64 0) W1) := ⟨0, 0, 0, Nat.zero_le _, rfl, rfl, rfl, by rw [List.drop_zero]; exact HR.out, rfl⟩
  clear ho hb1 HP
  go_wp2_with fail
  go_loopw [8, 9, 22] (fun va vb vk wr => TgR zs (ra, rb) W1 va vb vk wr) (fun _ _ vk _ => n - (intOf vk).toNat)
  case atStart => exact HR0.out
  case round =>
    obtain ⟨k, a, b, hk, rfl, rfl, rfl, hs, rfl⟩ := hrel
    clear HR0
    by_cases hkl : k < zs.length
    · have k0 : (0 : Int) ≤ (k : Int) := Int.natCast_nonneg k
      have k1 : (k : Int) < (n : Int) := by have := HZL.out; omega
      have ck := HAT.out k hkl
      rw [List.drop_eq_getElem_cons hkl, suO] at hs
      obtain ⟨a2, ha2, hs⟩ := Option.bind_eq_some_iff.1 hs
      obtain ⟨b2, hb2, hs⟩ := Option.bind_eq_some_iff.1 hs
      obtain ⟨z, hz⟩ : ∃ z, zs[k] = z := ⟨_, rfl⟩
      rw [hz] at ck ha2 hb2
      have t1 := arF .add 44 .f32 a z.1 a2 ha2
      have t2 := arF .add 44 .f32 b z.2 b2 hb2
      have HS := Lib.hid hs
      have HKL := Lib.hid hkl
      clear hs ha2 hb2 hz
      go_wp2
      go_roundw
      case rel => exact ⟨k + 1, a2, b2, HKL.out, by go_num, rfl, rfl, HS.out, rfl⟩
      case measure => have := HKL.out; have := HZL.out; simp [intOf]; omega
    · have k1 : ¬ ((k : Int) < (n : Int)) := by have := HZL.out; omega
      rw [List.drop_eq_nil_of_le (by omega), suO] at hs
      obtain ⟨rfl, rfl⟩ : a = ra ∧ b = rb := Prod.mk.inj (Option.some.inj hs)
      clear hs hkl hk
      go_wp2_with fail
      refine (HLO.out _).mono ?_
      rintro e w' ⟨rfl, rfl⟩
      go_wp2
      go_ret2
      exact ⟨rfl, HB1.out⟩
end Go.Proofs.Ythkakieomoobmaa

namespace Go.Proofs.Ythkakieomoobmaa
open Go.RowKit
set_option linter.unusedVariables false
set_option linter.unusedSimpArgs false

theorem b10Long_any (v u : Value) (xs ys : List Int) (w : World) (hv : Byts w v xs) (hu : Byts w u ys) :
    Calls Try.prog 4 #[v, u] w fun e w' => e = .returned (.bool (decide (1048576 < xs.length) || decide (1048576 < ys.length))) ∧ w = w' := by
  obtain ⟨hm, a, c, rfl, hcap, hc⟩ := hv
  obtain ⟨hm', a', c', rfl, hcap', hc'⟩ := hu
  unfold maxLen at hm hm'
  clear hc hc'
  by_cases h : 1048576 < xs.length
  · go_enter Try.func4, Try.ntmps4
    go_wp2
    go_ret
    exact ⟨ret_bool (by simp [h]), rfl⟩
  · have hd : decide (1048576 < xs.length) = false := by simpa using h
    by_cases h2 : 1048576 < ys.length
    · go_enter Try.func4, Try.ntmps4
      go_wp2
      go_ret
      exact ⟨ret_bool (by rw [hd]; first | rfl | (symm; simp; omega) | (rw [Bool.eq_iff_iff]; simp; omega)), rfl⟩
    · go_enter Try.func4, Try.ntmps4
      go_wp2
      go_ret
      exact ⟨ret_bool (by rw [hd]; first | rfl | (symm; simp; omega) | (rw [Bool.eq_iff_iff]; simp; omega)), rfl⟩

/-- A number from 0 to n - 1. -/
theorem b10At_any (v : Value) (xs : List Int) (i n : Int) (w : World) (hv : Byts w v xs) (hwf : ∀ x ∈ xs, (Lit.int .u8 x).wf = true) (hi : 0 ≤ i) (hi2 : i ≤ 100000000) (hn : 1 ≤ n) (hn2 : n ≤ 100000000) :
    Calls Try.prog 5 #[v, .int .i64 i, .int .i64 n] w fun e w' => (∃ x, e = .returned (.int .i64 x) ∧ 0 ≤ x ∧ x < n) ∧ w = w' := by
  obtain ⟨hm, a, c, rfl, hcap, hc⟩ := hv
  unfold maxLen at hm
  obtain ⟨k, rfl⟩ : ∃ k : Nat, i = k := ⟨i.toNat, by omega⟩
  by_cases h1 : n ≤ 1
  · clear hc
    go_enter Try.func5, Try.ntmps5
    go_wp2
    go_ret
    exact ⟨⟨0, rfl, by omega, by omega⟩, rfl⟩
  · by_cases hlt : k < xs.length
    · obtain ⟨b, o, rfl, hbs, hck⟩ := hc k hlt
      have hx := wf_u8_iff.1 (hwf xs[k] (List.getElem_mem _))
      obtain ⟨x, hxx⟩ : ∃ x, xs[k] = x := ⟨_, rfl⟩
      rw [hxx] at hck hx
      obtain ⟨hx1, hx2⟩ := hx
      clear hc hxx hwf
      go_enter Try.func5, Try.ntmps5
      go_wp2
      go_ret
      exact ⟨⟨x % n, rfl, Int.emod_nonneg _ (by omega), Int.emod_lt_of_pos _ (by omega)⟩, rfl⟩
    · clear hc
      go_enter Try.func5, Try.ntmps5
      go_wp2
      go_ret
      exact ⟨⟨((k : Int) * 37 + 11) % n, rfl, Int.emod_nonneg _ (by omega), Int.emod_lt_of_pos _ (by omega)⟩, rfl⟩
end Go.Proofs.Ythkakieomoobmaa

namespace Go.Proofs.Ythkakieomoobmaa
open Go.RowKit Go.Shelf Go.BigFrame
set_option linter.unusedVariables false
set_option linter.unusedSimpArgs false

theorem Ints.rowI {w : World} {v : Value} {xs : List Int} (h : Ints w v xs) (h0 : 0 < xs.length) : ∃ b o c, v = .slice (some ⟨b, o, none⟩) xs.length c ∧ b < w.heap.size ∧ xs.length ≤ c ∧ ∀ i, i < xs.length → w.cell? ⟨b, o + i, none⟩ = some (.int .i64 (nth xs i)) := by
  obtain ⟨_, a, c, rfl, hcap, hc⟩ := h
  obtain ⟨b, o, ha, hb, _⟩ := hc 0 h0
  subst ha
  refine ⟨b, o, c, rfl, hb, hcap, fun i hi => ?_⟩
  obtain ⟨b', o', he, _, hcell⟩ := hc i hi
  obtain ⟨rfl, rfl⟩ : b = b' ∧ o = o' := by simpa using he
  rw [hcell, nth_eq hi]

theorem b10Ints_any (v u : Value) (xs ys : List Int) (w : World) (hv : Ints w v xs) (hu : Ints w u ys) :
    Calls Try.prog 18 #[v, u] w fun e w' => e = .returned (.bool (xs == ys)) ∧ Below w.heap.size w w' := by
  obtain ⟨hm, a, c, rfl, hcap, hc⟩ := hv
  obtain ⟨hm', a', c', rfl, hcap', hc'⟩ := hu
  unfold maxLen at hm hm'
  by_cases hlen : xs.length = ys.length
  · have hl1 : ((xs.length : Int) != ys.length) = false := by simp [hlen]
    go_enter Try.func18, Try.ntmps18
    go_wp2
    go_loopw [13] (fun i wr => ∃ k : Nat, k ≤ xs.length ∧ i = .int .i64 k ∧ xs.take k = ys.take k ∧ Below w.heap.size w wr) (fun i _ => xs.length - (intOf i).toNat)
    case atStart => exact ⟨0, Nat.zero_le _, rfl, rfl, Below.refl _ _⟩
    case round =>
      obtain ⟨k, hk, rfl, heq, hb⟩ := hrel
      by_cases hlt : k < xs.length
      · have hlt' : k < ys.length := by omega
        obtain ⟨b, o, rfl, hbs, hc1⟩ := hc k hlt
        obtain ⟨b', o', rfl, hbs', hc1'⟩ := hc' k hlt'
        have hc2 : wr.cell? ⟨b, o + k, none⟩ = some (.int .i64 xs[k]) := (hb.cell (p := ⟨b, o + k, none⟩) hbs).trans hc1
        have hc2' : wr.cell? ⟨b', o' + k, none⟩ = some (.int .i64 ys[k]) := (hb.cell (p := ⟨b', o' + k, none⟩) hbs').trans hc1'
        have hk0 : (0 : Int) ≤ (k : Int) := by omega
        have hk1 : (k : Int) < (xs.length : Int) := by omega
        have hk2 : (k : Int) < (ys.length : Int) := by omega
        have Heq := Lib.hid heq
        have Hlen := Lib.hid hlen
        clear hc hc' hc1 hc1' heq hlen
        cases hne : (xs[k] != ys[k])
        · go_wp2
          go_quiet (fail)
          go_wp2
          go_roundw
          case rel =>
            refine ⟨k + 1, by omega, by go_num, ?_, below_drewN _ hb⟩
            rw [List.take_succ_eq_append_getElem hlt, List.take_succ_eq_append_getElem hlt', Heq.out]
            simp at hne; rw [hne]
          case measure => simp [intOf]; omega
        · go_wp2
          go_quiet (fail)
          go_wp2
          go_ret
          refine ⟨ret_bool ?_, below_drewN _ hb⟩
          symm
          rw [beq_eq_false_iff_ne]
          rintro rfl
          simp at hne
      · have hk' : k = xs.length := by omega
        clear hc hc'
        have Heq := Lib.hid heq
        have Hlen := Lib.hid hlen
        have Hk' := Lib.hid hk'
        clear heq hlen hk'
        have hkk : ¬ k < ys.length := by have := Hlen.out; have := Hk'.out; omega
        go_wp2
        go_ret
        refine ⟨ret_bool ?_, hb⟩
        symm
        rw [beq_iff_eq]
        have h := Heq.out
        have h1 := Hk'.out
        have h2 := Hlen.out
        rwa [List.take_of_length_le (by omega), List.take_of_length_le (by omega)] at h
  · have hl1 : ((xs.length : Int) != ys.length) = true := by simp; omega
    have Hlen := Lib.hid hlen
    clear hlen
    go_enter Try.func18, Try.ntmps18
    go_wp2
    go_ret
    refine ⟨ret_bool ?_, Below.refl _ _⟩
    symm
    rw [beq_eq_false_iff_ne]
    rintro rfl
    exact Hlen.out rfl
end Go.Proofs.Ythkakieomoobmaa

namespace Go.Proofs.Ythkakieomoobmaa
open Go.RowKit Go.BigFrame
set_option linter.unusedVariables false
set_option linter.unusedSimpArgs false

/-- What stays: the rules, and what was there. -/
structure TbE (w : World) (gg : Nat) (rs : List Ru4) (W : World) : Prop where
  r : RulN W gg rs
  b : Below w.heap.size w W
theorem TbE.step {w W W' : World} {gg : Nat} {rs : List Ru4} (h : TbE w gg rs W) (hb : Below W.heap.size W W') : TbE w gg rs W' := ⟨h.r.below hb h.r.1, h.b.trans (hb.mono h.b.size)⟩
/-- .. and the first and the best table. -/
structure TbG (w : World) (gg : Nat) (rs : List Ru4) (e A g4 c4 : Nat) (tj : List Int) (g5 c5 : Nat) (tb : List Int) (W : World) : Prop where
  t : TbE w gg rs W
  f : OwnI W A (.slice (some ⟨g4, 0, none⟩) e c4) tj
  b : OwnI W A (.slice (some ⟨g5, 0, none⟩) e c5) tb
theorem TbG.step {w W W' : World} {gg e A g4 c4 g5 c5 : Nat} {rs : List Ru4} {tj tb : List Int} (h : TbG w gg rs e A g4 c4 tj g5 c5 tb W) (hb : Below W.heap.size W W') : TbG w gg rs e A g4 c4 tj g5 c5 tb W' := ⟨h.t.step hb, h.f.below hb (Nat.le_refl _), h.b.below hb (Nat.le_refl _)⟩
theorem ok_of_kp {e p j : Nat} {rs : List Ru4} (h : (kpT e p rs j).isSome = true) : okTo (p : Int) (tabL e p j) rs rs.length = true := by
  unfold kpT waL at h
  cases ho : okTo (p : Int) (tabL e p j) rs rs.length
  · rw [ho] at h; simp at h
  · rfl
theorem turnL_bounds {p b : Int} {ts : List Int} (hp : 0 < p) : ∀ x ∈ turnL p b ts, 0 ≤ x ∧ x < p := fun x hx => by
  unfold turnL at hx
  obtain ⟨t, -, rfl⟩ := List.mem_map.1 hx
  exact ⟨Int.emod_nonneg _ (by omega), Int.emod_lt_of_pos _ hp⟩
/-- What the loop over the rules knows .. -/
def LwR (p : Int) (tb : List Int) (w : World) (gg : Nat) (rs : List Ru4) (e A g4 c4 : Nat) (tj : List Int) (g5 c5 : Nat) (vs vk : Value) (wr : World) : Prop :=
  ∃ k : Nat, k ≤ rs.length ∧ vk = .int .i64 k ∧ vs = .int .i64 (suTo p tb rs k) ∧ Hid (TbG w gg rs e A g4 c4 tj g5 c5 tb wr)
/-- .. and the one that makes the wait great enough. -/
def LwD (d0 l p : Int) (W : World) (vd : Value) (wr : World) : Prop := ∃ (d : Int) (q : Nat), vd = .int .i64 d ∧ d = d0 + p * q ∧ d < l + p ∧ -1000 ≤ d ∧ wr = W
def LwE (d : Int) (W : World) (vd : Value) (wr : World) : Prop := vd = .int .i64 d ∧ wr = W
theorem dgs_tab (e p k : Nat) : tabL e p k = ((List.range e).map (dgT e p k)).map fun (d : Nat) => (d : Int) := by unfold tabL; rw [List.map_map]; rfl
/-- How much the times of a table are together. -/
theorem tog_tab {e p k : Nat} (he : 1 ≤ e ∧ e ≤ 4) (hp : 2 ≤ p ∧ p ≤ 9) : togOk (phD p ((List.range e).map (dgT e p k))) e = true := by
  have hl : ∀ i, dgT e p k i < p := fun i => dgT_lt (by omega)
  have hz : dgT e p k 0 = 0 := rfl
  have hc : e = 1 ∨ e = 2 ∨ e = 3 ∨ e = 4 := by omega
  rcases hc with rfl | rfl | rfl | rfl
  · exact tog1 hp.1 hp.2
  · exact tog2 hp.1 hp.2 (hl 1)
  · exact tog3 hp.1 hp.2 (hl 1) (hl 2)
  · exact tog4 hp.1 hp.2 (hl 1) (hl 2) (hl 3)
theorem togOk_out {zs : List (Nat × Nat)} {n : Nat} (h : togOk zs n = true) : ∃ r d, toO zs n = some r ∧ wid r = some d ∧ dLt d 4607186922399644778 = true := by
  unfold togOk at h
  cases h1 : toO zs n with
  | none => rw [h1] at h; cases h
  | some r =>
    rw [h1] at h
    dsimp only at h
    cases h2 : wid r with
    | none => rw [h2] at h; cases h
    | some d => rw [h2] at h; exact ⟨r, d, rfl, h2, h⟩
theorem phN_0 {p : Nat} (hp : 2 ≤ p ∧ p ≤ 9) : phN p 0 = (1065353216, 0) := by
  have hc : p = 2 ∨ p = 3 ∨ p = 4 ∨ p = 5 ∨ p = 6 ∨ p = 7 ∨ p = 8 ∨ p = 9 := by omega
  rcases hc with rfl | rfl | rfl | rfl | rfl | rfl | rfl | rfl <;> rfl
theorem same_one {p : Nat} (hp : 2 ≤ p ∧ p ≤ 9) : toO (phD p [0, 0]) 2 = some 1065353216 := by
  show toO [phN p 0, phN p 0] 2 = _
  rw [phN_0 hp]
  kernel_rfl
theorem one_wide : wid 1065353216 = some 4607182418800017408 := by kernel_rfl
theorem b10Gap_one (W : World) : Calls Try.prog 22 #[.float .f64 4607182418800017408, .float .f64 4607182418800017408] W fun e w' => e = .returned (.float .f64 0) ∧ W = w' := by
  have q1 := arF .sub 53 .f64 4607182418800017408 4607182418800017408 0 (by kernel_rfl)
  have q2 : (FloatKind.f64.format.order 4607182418800017408 4607182418800017408 == some Ordering.lt) = false := by kernel_rfl
  go_enter Try.func22, Try.ntmps22
  go_wp2
  go_ret
  exact ⟨rfl, rfl⟩
theorem ring_any (W : World) : Calls Try.prog 21 #[.slice (some ⟨W.heap.size, 0, none⟩) 2 2, .int .i64 4, .slice (some ⟨W.heap.size + 1, 0, none⟩) 2 2, .slice (some ⟨W.heap.size + 1 + 1, 0, none⟩) 2 2]
    (((W.alloc (.cells #[.int .i64 0, .int .i64 1, .int .i64 1, .int .i64 2, .int .i64 1, .int .i64 0, .int .i64 2, .int .i64 3] 43)).alloc (.cells #[.int .i64 0, .int .i64 1] 2)).alloc (.cells #[.bool true, .bool true] 4)) fun en w' => en = .returned (.tuple #[.int .i64 4, .int .i64 4, .bool true]) ∧ Below W.heap.size W w' := by
  obtain ⟨W1, h1⟩ : ∃ V, W.alloc (.cells #[.int .i64 0, .int .i64 1, .int .i64 1, .int .i64 2, .int .i64 1, .int .i64 0, .int .i64 2, .int .i64 3] 43) = V := ⟨_, rfl⟩
  have z1 : W1.heap.size = W.heap.size + 1 := by rw [← h1]; simp
  have k1 : Blk W1 W.heap.size 43 [.int .i64 0, .int .i64 1, .int .i64 1, .int .i64 2, .int .i64 1, .int .i64 0, .int .i64 2, .int .i64 3] := by rw [← h1]; exact Blk.new W _ _
  have b1 : Below W.heap.size W W1 := by rw [← h1]; exact (Below.refl _ _).alloc (Nat.le_refl _) _
  rw [h1]
  obtain ⟨W2, h2⟩ : ∃ V, W1.alloc (.cells #[.int .i64 0, .int .i64 1] 2) = V := ⟨_, rfl⟩
  have z2 : W2.heap.size = W1.heap.size + 1 := by rw [← h2]; simp
  have o2 : OwnI W2 W1.heap.size (.slice (some ⟨W1.heap.size, 0, none⟩) 2 2) [0, 1] := by rw [← h2]; exact OwnI.lit W1 W1.heap.size [0, 1] (Nat.le_refl _) (by unfold maxLen; simp)
  have b2 : Below W1.heap.size W1 W2 := by rw [← h2]; exact (Below.refl _ _).alloc (Nat.le_refl _) _
  rw [h2, ← z1, ← z2]
  obtain ⟨W3, h3⟩ : ∃ V, W2.alloc (.cells #[.bool true, .bool true] 4) = V := ⟨_, rfl⟩
  have k3 : Blk W3 W2.heap.size 4 [.bool true, .bool true] := by rw [← h3]; exact Blk.new W2 _ _
  have b3 : Below W2.heap.size W2 W3 := by rw [← h3]; exact (Below.refl _ _).alloc (Nat.le_refl _) _
  rw [h3]
  have k13 := (k1.below b2 k1.lt).below b3 (k1.below b2 k1.lt).lt
  have o3 := o2.below b3 (Nat.le_refl _)
  refine (ringGap_any W.heap.size 2 W1.heap.size 2 W2.heap.size 2 W3 ⟨k13.lt, fun k hk => ?_⟩ o3.ints (NumN.of_own o3 rfl) (fun k hk => ?_)).mono ?_
  · have hc : k = 0 ∨ k = 1 := by have : k < 2 := hk; omega
    rcases hc with rfl | rfl
    · exact ⟨k13.cell 0 _ rfl, k13.cell 1 _ rfl, k13.cell 2 _ rfl, k13.cell 3 _ rfl⟩
    · exact ⟨k13.cell 4 _ rfl, k13.cell 5 _ rfl, k13.cell 6 _ rfl, k13.cell 7 _ rfl⟩
  · have hc : k = 0 ∨ k = 1 := by omega
    rcases hc with rfl | rfl
    · exact k3.cell 0 _ rfl
    · exact k3.cell 1 _ rfl
  · rintro en w' ⟨e1, e2⟩
    exact ⟨e1, b1.trans ((b2.trans ((b3.trans (e2.mono b3.size)).mono b2.size)).mono b1.size)⟩
theorem tab_small {e p : Nat} (he : e ≤ 4) (hp : 2 ≤ p ∧ p ≤ 9) : p ^ (e - 1) ≤ 4096 := by
  have h1 : p ^ (e - 1) ≤ 9 ^ (e - 1) := Nat.pow_le_pow_left hp.2 _
  have h2 : 9 ^ (e - 1) ≤ 9 ^ 3 := Nat.pow_le_pow_right (by decide) (by omega)
  have h3 : 9 ^ 3 = 729 := by decide
  omega
set_option maxRecDepth 100000 in
set_option maxHeartbeats 16000000 in
theorem walkFnTables (a0 : Option Addr) (len0 cap0 : Nat) (z0 : List Int) (a1 : Option Addr) (len1 cap1 : Nat) (z1 : List Int) (w : World)
    (w0 : (a0 = none ∧ len0 = 0 ∧ cap0 = 0 ∧ z0 = []) ∨
      ∃ x, a0 = some x ∧ len0 ≤ cap0 ∧ cap0 ≤ maxLen ∧ z0.length = cap0 ∧ (∀ i, i < z0.length → w.cell? (x.add i) = some (.int .u8 (z0.getD i 0))) ∧ ∀ n ∈ z0, (Lit.int .u8 n).wf = true)
    (w1 : (a1 = none ∧ len1 = 0 ∧ cap1 = 0 ∧ z1 = []) ∨
      ∃ x, a1 = some x ∧ len1 ≤ cap1 ∧ cap1 ≤ maxLen ∧ z1.length = cap1 ∧ (∀ i, i < z1.length → w.cell? (x.add i) = some (.int .u8 (z1.getD i 0))) ∧ ∀ n ∈ z1, (Lit.int .u8 n).wf = true) :
    Calls Try.prog 3 #[.slice a0 len0 cap0, .slice a1 len1 cap1] w fun e w' => e = .returned (.bool true) ∧ Below w.heap.size w w' := by
  obtain ⟨hv0, hwf0, hlen0⟩ := bytes_of_row w0
  obtain ⟨hv1, hwf1, hlen1⟩ := bytes_of_row w1
  generalize z0.take len0 = xs at *
  generalize z1.take len1 = ys at *
  subst hlen0 hlen1
  clear w0 w1
  have HLG := Lib.hid (b10Long_any _ _ xs ys _ hv0 hv1)
  have HAT : Hid (∀ (i n : Int) W, Below w.heap.size w W → 0 ≤ i → i ≤ 100 → 1 ≤ n → n ≤ 100 → Calls Try.prog 5 #[.slice a1 ys.length cap1, .int .i64 i, .int .i64 n] W fun e w' => (∃ x, e = .returned (.int .i64 x) ∧ 0 ≤ x ∧ x < n) ∧ W = w') := fun i n W hW h1 h2 h3 h4 => b10At_any _ ys i n W (hv1.below hW (Nat.le_refl _)) hwf1 h1 (by omega) h3 (by omega)
  have HRU : Hid (∀ (e p : Int), 1 ≤ e ∧ e ≤ 12 → 1 ≤ p ∧ p ≤ 60 → Calls Try.prog 6 #[.slice a0 xs.length cap0, .int .i64 e, .int .i64 p] w fun en w' => (∃ gg c m, en = .returned (.slice (some ⟨gg, 0, none⟩) m c) ∧ ∃ rs, RulN w' gg rs ∧ m = rs.length ∧ m ≤ 4 ∧ ∀ x ∈ rs, RlOk e p x) ∧ Below w.heap.size w w') := fun e p he hp => B10Rules_any _ xs e p w hv0 hwf0 he hp
  clear hv0 hwf0 hv1 hwf1
  cases hlong : (decide (1048576 < xs.length) || decide (1048576 < ys.length))
  · rw [hlong] at HLG
    clear hlong
    go_enter Try.func3, Try.ntmps3
    go_wp2_with fail
    refine HLG.out.mono ?_
    rintro en w' ⟨rfl, rfl⟩
    clear HLG
    go_wp2_with fail
    refine (HAT.out 0 4 w (Below.refl _ _) (by omega) (by omega) (by omega) (by omega)).mono ?_
    rintro en w' ⟨⟨x0, rfl, hx0a, hx0b⟩, rfl⟩
    obtain ⟨e, he⟩ : ∃ e : Nat, 1 + x0 = e := ⟨(1 + x0).toNat, by omega⟩
    have w1 : IntKind.i64.wrap (1 + x0) = (e : Int) := by rw [he]; exact IntWalk.i64_in _ (by omega)
    have he4 : 1 ≤ e ∧ e ≤ 4 := by omega
    clear he
    go_wp2_with fail
    refine (HAT.out 1 8 w (Below.refl _ _) (by omega) (by omega) (by omega) (by omega)).mono ?_
    rintro en w' ⟨⟨x1, rfl, hx1a, hx1b⟩, rfl⟩
    obtain ⟨p, hp⟩ : ∃ p : Nat, 2 + x1 = p := ⟨(2 + x1).toNat, by omega⟩
    have w2 : IntKind.i64.wrap (2 + x1) = (p : Int) := by rw [hp]; exact IntWalk.i64_in _ (by omega)
    have hp9 : 2 ≤ p ∧ p ≤ 9 := by omega
    clear hp
    go_wp2_with fail
    refine (HRU.out e p (by omega) (by omega)).mono ?_
    rintro en W1 ⟨⟨gg, cr, L, rfl, rs, hrn, hL, hL4, hok⟩, hb1⟩
    have T1 : Hid (TbE w gg rs W1) := ⟨hrn, hb1⟩
    have hsm := tab_small he4.2 hp9
    have HCI : Hid (∀ W, TbE w gg rs W → _) := Lib.hid (fun W (h : TbE w gg rs W) => countTables_any e p gg L cr rs W hL (by omega) h.r hok (by omega) (by omega) hsm)
    have HCS : Hid (∀ W, TbE w gg rs W → _) := Lib.hid (fun W (h : TbE w gg rs W) => specCount_any e p gg L cr rs W hL (by omega) h.r hok (by omega) (by omega) hsm)
    have HFI : Hid (∀ W, TbE w gg rs W → _) := Lib.hid (fun W (h : TbE w gg rs W) => firstTable_any e p gg L cr rs W hL (by omega) h.r hok (by omega) (by omega) hsm)
    have HBI : Hid (∀ W, TbE w gg rs W → _) := Lib.hid (fun W (h : TbE w gg rs W) => bestTable_any e p gg L cr rs W hL (by omega) h.r hok (by omega) (by omega) hsm)
    have HSI : Hid (∀ (gm cm : Nat) (wk : Int) W, TbE w gg rs W → (∀ k, k < 2 → W.cell? ⟨gm, k, none⟩ = some (.slice (some ⟨gg, 0, none⟩) L cr)) → 1 ≤ wk ∧ wk ≤ 8 → _) := Lib.hid (fun (gm cm : Nat) (wk : Int) W (h : TbE w gg rs W) hm hw => tablesShared_any e p gg L cr gm cm wk rs W hm hL (by omega) h.r hok (by omega) (by omega) hsm hw)
    have HAR : Hid (∀ W, TbE w gg rs W → _) := Lib.hid (fun W (h : TbE w gg rs W) => areRules_yes (e : Int) (p : Int) gg L cr rs W hL (by omega) h.r hok (by omega) (by omega))
    have HSR : Hid (∀ W, TbE w gg rs W → _) := Lib.hid (fun W (h : TbE w gg rs W) => sameRules_yes gg L cr rs W hL (by omega) h.r)
    have hfc := fst_cnt (kpT e p rs) (p ^ (e - 1))
    have hbc := bst_cnt (kpT e p rs) (p ^ (e - 1))
    have hcl := cntT_le (kpT e p rs) (p ^ (e - 1))
    have HOK := Lib.hid hok
    have HL := Lib.hid hL
    obtain ⟨n, hn⟩ : ∃ n, cntT (kpT e p rs) (p ^ (e - 1)) = n := ⟨_, rfl⟩
    obtain ⟨fo, hfo⟩ : ∃ o, fstT (kpT e p rs) (p ^ (e - 1)) = o := ⟨_, rfl⟩
    obtain ⟨bo, hbo⟩ : ∃ o, bstT (kpT e p rs) (p ^ (e - 1)) = o := ⟨_, rfl⟩
    rw [hn] at HCI HCS HSI hfc hbc hcl
    rw [hfo] at HFI hfc
    rw [hbo] at HBI hbc
    have HFO := Lib.hid hfo
    have HBO := Lib.hid hbo
    have hn4 : n ≤ 4096 := by omega
    have HSM := Lib.hid hsm
    clear hrn hb1 HRU hok hL hn hfo hbo hcl hsm
    go_wp2_with fail
    refine (HCI.out W1 T1.out).mono ?_
    rintro en W2 ⟨rfl, hb2⟩
    have T2 := Lib.hid (T1.out.step hb2)
    clear hb2 T1 HCI
    go_wp2_with fail
    refine (HCS.out W2 T2.out).mono ?_
    rintro en W3 ⟨rfl, hb3⟩
    have T3 := Lib.hid (T2.out.step hb3)
    clear hb3 T2 HCS
    go_wp2_with fail
    refine (HFI.out W3 T3.out).mono ?_
    rintro en W4 ⟨hf4, hb4⟩
    have T4 := Lib.hid (T3.out.step hb4)
    have HSZ3 : Hid (w.heap.size ≤ W3.heap.size) := T3.out.b.size
    clear hb4 T3 HFI
    cases fo with
    | none =>
      obtain rfl : en = .returned (.tuple #[.slice none 0 0, .bool false]) := hf4
      have hn0 : n = 0 := hfc.1 rfl
      have hbn : bo = none := hbc.2 hn0
      subst hbn
      have g1 : ¬ ((n : Int) > 0) := by omega
      have g2 : decide ((0 : Int) < (n : Int)) = false := decide_eq_false (by omega)
      have g3 : decide (0 < n) = false := decide_eq_false (by omega)
      clear hfc hbc hn0
      go_wp2_with fail
      refine (HBI.out W4 T4.out).mono ?_
      rintro en W5 ⟨hf5, hb5⟩
      obtain rfl : en = .returned (.tuple #[.slice none 0 0, .int .i64 0, .bool false]) := hf5
      have T5 := Lib.hid (T4.out.step hb5)
      clear hb5 T4 HBI
      go_wp2_with fail
      obtain ⟨W6, hW6⟩ : ∃ W, W5.alloc (.cells #[.slice (some ⟨gg, 0, none⟩) L cr, .slice (some ⟨gg, 0, none⟩) L cr] 25) = W := ⟨_, rfl⟩
      obtain ⟨gm, hgm⟩ : ∃ g, W5.heap.size = g := ⟨_, rfl⟩
      have T6 : Hid (TbE w gg rs W6) := by show TbE _ _ _ _; rw [← hW6]; exact T5.out.step ((Below.refl _ _).alloc (Nat.le_refl _) _)
      have KM : Hid (Blk W6 gm 25 [.slice (some ⟨gg, 0, none⟩) L cr, .slice (some ⟨gg, 0, none⟩) L cr]) := by show Blk _ _ _ _; rw [← hW6, ← hgm]; exact Blk.new W5 _ _
      rw [hW6, hgm]
      clear hW6 hgm
      refine (HAT.out 2 8 W6 T6.out.b (by omega) (by omega) (by omega) (by omega)).mono ?_
      rintro en w' ⟨⟨x2, rfl, hx2a, hx2b⟩, rfl⟩
      have w3 : IntKind.i64.wrap (1 + x2) = 1 + x2 := IntWalk.i64_in _ (by omega)
      go_wp2_with fail
      refine (HSI.out gm 2 (1 + x2) W6 T6.out (fun k hk => by
        have hk2 : k = 0 ∨ k = 1 := by omega
        rcases hk2 with rfl | rfl
        · exact KM.out.cell 0 _ rfl
        · exact KM.out.cell 1 _ rfl) (by omega)).mono ?_
      rintro en W7 ⟨⟨g7, c7, rfl, ho7⟩, hb7⟩
      have T7 := Lib.hid (T6.out.step hb7)
      have s0 : W7.cell? ⟨g7, 0, none⟩ = some (.int .i64 (n : Int)) := ho7.at_ rfl 0 (by simp)
      have s1 : W7.cell? ⟨g7, 1, none⟩ = some (.int .i64 (n : Int)) := ho7.at_ rfl 1 (by simp)
      clear ho7 hb7 KM HSI w3
      go_wp2_with fail
      refine (HAR.out W7 T7.out).mono ?_
      rintro en W8 ⟨rfl, hb8⟩
      have T8 := Lib.hid (T7.out.step hb8)
      clear hb8 T7 s0 s1
      go_wp2_with fail
      refine (HSR.out W8 T8.out).mono ?_
      rintro en W9 ⟨rfl, hb9⟩
      have T9 := Lib.hid (T8.out.step hb9)
      clear hb9 T8 HAR HSR
      go_wp2
      go_ret
      exact ⟨rfl, T9.out.b⟩
    | some j =>
      obtain ⟨g4, c4, rfl, ho4⟩ := hf4
      have hn0 : n ≠ 0 := fun h => by have := hfc.2 h; cases this
      cases bo with
      | none => exact absurd (hbc.1 rfl) hn0
      | some b =>
        obtain ⟨jb, z⟩ := b
        have g1 : (n : Int) > 0 := by omega
        have g2 : decide ((0 : Int) < (n : Int)) = true := decide_eq_true (by omega)
        have g3 : decide (0 < n) = true := decide_eq_true (by omega)
        have HF4 := Lib.hid ho4
        clear hfc hbc hn0 ho4
        go_wp2_with fail
        refine (HBI.out W4 T4.out).mono ?_
        rintro en W5 ⟨⟨g5, c5, rfl, ho5⟩, hb5⟩
        dsimp only at ho5 ⊢
        have T5 := Lib.hid (T4.out.step hb5)
        have HF5 := Lib.hid (HF4.out.below hb5 (Nat.le_refl _))
        have HB5 := Lib.hid ho5
        have HT34 : Hid (w.heap.size ≤ W3.heap.size ∧ w.heap.size ≤ W4.heap.size) := ⟨HSZ3.out, T4.out.b.size⟩
        clear hb5 T4 HBI HF4 ho5
        go_wp2_with fail
        obtain ⟨W6, hW6⟩ : ∃ W, W5.alloc (.cells #[.slice (some ⟨gg, 0, none⟩) L cr, .slice (some ⟨gg, 0, none⟩) L cr] 25) = W := ⟨_, rfl⟩
        obtain ⟨gm, hgm⟩ : ∃ g, W5.heap.size = g := ⟨_, rfl⟩
        have T6 : Hid (TbE w gg rs W6) := by show TbE _ _ _ _; rw [← hW6]; exact T5.out.step ((Below.refl _ _).alloc (Nat.le_refl _) _)
        have KM : Hid (Blk W6 gm 25 [.slice (some ⟨gg, 0, none⟩) L cr, .slice (some ⟨gg, 0, none⟩) L cr]) := by show Blk _ _ _ _; rw [← hW6, ← hgm]; exact Blk.new W5 _ _
        have D6 : Hid (Below W5.heap.size W5 W6) := by show Below _ _ _; rw [← hW6]; exact (Below.refl _ _).alloc (Nat.le_refl _) _
        rw [hW6, hgm]
        clear hW6 hgm
        refine (HAT.out 2 8 W6 T6.out.b (by omega) (by omega) (by omega) (by omega)).mono ?_
        rintro en w' ⟨⟨x2, rfl, hx2a, hx2b⟩, rfl⟩
        have w3 : IntKind.i64.wrap (1 + x2) = 1 + x2 := IntWalk.i64_in _ (by omega)
        go_wp2_with fail
        refine (HSI.out gm 2 (1 + x2) W6 T6.out (fun k hk => by
          have hk2 : k = 0 ∨ k = 1 := by omega
          rcases hk2 with rfl | rfl
          · exact KM.out.cell 0 _ rfl
          · exact KM.out.cell 1 _ rfl) (by omega)).mono ?_
        rintro en W7 ⟨⟨g7, c7, rfl, ho7⟩, hb7⟩
        have T7 := Lib.hid (T6.out.step hb7)
        have s0 : W7.cell? ⟨g7, 0, none⟩ = some (.int .i64 (n : Int)) := ho7.at_ rfl 0 (by simp)
        have s1 : W7.cell? ⟨g7, 1, none⟩ = some (.int .i64 (n : Int)) := ho7.at_ rfl 1 (by simp)
        have D7 := Lib.hid (D6.out.trans (hb7.mono D6.out.size))
        clear ho7 hb7 KM HSI w3 D6
        go_wp2_with fail
        refine (HAR.out W7 T7.out).mono ?_
        rintro en W8 ⟨rfl, hb8⟩
        have T8 := Lib.hid (T7.out.step hb8)
        have D8 := Lib.hid (D7.out.trans (hb8.mono D7.out.size))
        clear hb8 T7 s0 s1 D7
        go_wp2_with fail
        refine (HSR.out W8 T8.out).mono ?_
        rintro en W9 ⟨rfl, hb9⟩
        have T9 := Lib.hid (T8.out.step hb9)
        have D9 := Lib.hid (D8.out.trans (hb9.mono D8.out.size))
        clear hb9 T8 HAR HSR D8
        have hbj : OwnI W5 w.heap.size (.slice (some ⟨g4, 0, none⟩) e c4) (tabL e p j) ∧ OwnI W5 w.heap.size (.slice (some ⟨g5, 0, none⟩) e c5) (tabL e p jb) := ⟨HF5.out.mono HT34.out.1, HB5.out.mono HT34.out.2⟩
        have G9 : Hid (TbG w gg rs e w.heap.size g4 c4 (tabL e p j) g5 c5 (tabL e p jb) W9) := ⟨T9.out, hbj.1.below D9.out (Nat.le_refl _), hbj.2.below D9.out (Nat.le_refl _)⟩
        have HKJ := Lib.hid (ok_of_kp (fstT_lt HFO.out).2)
        have HKB := Lib.hid (ok_of_kp (e := e) (p := p) (rs := rs) (j := jb) (by have := (bstT_lt HBO.out).2; rw [this]; rfl))
        clear hbj HF5 HB5 D9 T9 HT34
        go_wp2_with fail
        refine (specFirst_any e p gg L cr rs W9 HL.out (by omega) G9.out.t.r HOK.out (by omega) (by omega) HSM.out j HFO.out).mono ?_
        rintro en W10 ⟨⟨g10, c10, rfl, ho10⟩, hb10⟩
        have G10 := Lib.hid (G9.out.step hb10)
        have HO10 := Lib.hid ho10
        clear ho10 hb10 G9
        go_wp2_with fail
        refine (specBest_any e p gg L cr rs W10 HL.out (by omega) G10.out.t.r HOK.out (by omega) (by omega) HSM.out jb z HBO.out).mono ?_
        rintro en W11 ⟨⟨g11, c11, rfl, ho11⟩, hb11⟩
        have G11 := Lib.hid (G10.out.step hb11)
        have HO101 := Lib.hid (HO10.out.below hb11 (Nat.le_refl _))
        have HO11 := Lib.hid ho11
        clear ho11 hb11 G10 HO10
        have HK12 := Lib.hid (keepsRules_any (p : Int) gg L cr g4 e c4 _ (tabL e p j) rs W11 HL.out (by omega) G11.out.t.r G11.out.f (tabL_len e p j).symm (by omega) (tabL_bounds (by omega)) HOK.out (by omega))
        rw [HKJ.out] at HK12
        go_wp2_with fail
        refine HK12.out.mono ?_
        rintro en W12 ⟨rfl, hb12⟩
        have G12 := Lib.hid (G11.out.step hb12)
        have HO102 := Lib.hid (HO101.out.below hb12 (Nat.le_refl _))
        have HO112 := Lib.hid (HO11.out.below hb12 (Nat.le_refl _))
        clear hb12 G11 HO101 HO11 HK12
        go_wp2_with fail
        refine (HAT.out 3 40 W12 G12.out.t.b (by omega) (by omega) (by omega) (by omega)).mono ?_
        rintro en w' ⟨⟨x3, rfl, hx3a, hx3b⟩, rfl⟩
        have w5 : IntKind.i64.wrap (x3 - 20) = x3 - 20 := IntWalk.i64_in _ (by omega)
        have HT13 := Lib.hid (turnTable_any (p : Int) (x3 - 20) g5 e c5 _ (tabL e p jb) W12 G12.out.b (tabL_len e p jb).symm (by omega) (tabL_bounds (by omega)) (by omega) (by omega))
        go_wp2_with fail
        refine HT13.out.mono ?_
        rintro en W13 ⟨⟨g13, c13, rfl, ho13⟩, hb13⟩
        have G13 := Lib.hid (G12.out.step hb13)
        have HO103 := Lib.hid (HO102.out.below hb13 (Nat.le_refl _))
        have HO113 := Lib.hid (HO112.out.below hb13 (Nat.le_refl _))
        have htl : e = (turnL (p : Int) (x3 - 20) (tabL e p jb)).length := by unfold turnL; rw [List.length_map, tabL_len]
        have HK14 := Lib.hid (keepsRules_any (p : Int) gg L cr g13 e c13 _ (turnL (p : Int) (x3 - 20) (tabL e p jb)) rs W13 HL.out (by omega) G13.out.t.r ho13 htl (by omega) (turnL_bounds (by omega)) HOK.out (by omega))
        rw [turn_keeps HOK.out (by rw [tabL_len]) HKB.out] at HK14
        clear ho13 hb13 htl HT13 G12 HO102 HO112
        go_wp2_with fail
        refine HK14.out.mono ?_
        rintro en W14 ⟨rfl, hb14⟩
        have G14 := Lib.hid (G13.out.step hb14)
        have HO104 := Lib.hid (HO103.out.below hb14 (Nat.le_refl _))
        have HO114 := Lib.hid (HO113.out.below hb14 (Nat.le_refl _))
        clear hb14 HK14 G13 HO103 HO113
        have HI15 := Lib.hid (b10Ints_any _ _ (tabL e p j) (tabL e p j) W14 G14.out.f.ints HO104.out.ints)
        rw [show (tabL e p j == tabL e p j) = true by simp] at HI15
        go_wp2_with fail
        refine HI15.out.mono ?_
        rintro en W15 ⟨rfl, hb15⟩
        have G15 := Lib.hid (G14.out.step hb15)
        have HO115 := Lib.hid (HO114.out.below hb15 (Nat.le_refl _))
        clear hb15 HI15 G14 HO104 HO114
        have HI16 := Lib.hid (b10Ints_any _ _ (tabL e p jb) (tabL e p jb) W15 G15.out.b.ints HO115.out.ints)
        rw [show (tabL e p jb == tabL e p jb) = true by simp] at HI16
        go_wp2_with fail
        refine HI16.out.mono ?_
        rintro en W16 ⟨rfl, hb16⟩
        have G16 := Lib.hid (G15.out.step hb16)
        clear hb16 HI16 G15 HO115
        have he0 : 0 < e := by omega
        have c40 : W16.cell? ⟨g4, 0, none⟩ = some (.int .i64 0) := by
          have h1 := G16.out.f.at_ (tabL_len e p j).symm 0 (by rw [tabL_len]; exact he0)
          rw [tabL_at he0] at h1
          exact h1
        have i40 : (0 : Int) < (e : Int) := by omega
        have HLS : Hid ((L : Int) = (rs.length : Int)) := by show _ = _; rw [HL.out]
        have HZS : Hid (suTo (p : Int) (tabL e p jb) rs rs.length = z) := by
          show _ = _
          have h1 := (bstT_lt HBO.out).2
          unfold kpT waL at h1
          rw [HKB.out, if_pos rfl] at h1
          exact Option.some.inj h1
        have HR0 : Hid (LwR (p : Int) (tabL e p jb) w gg rs e w.heap.size g4 c4 (tabL e p j) g5 c5 (.int .i64 0) (.int .i64 0) W16) := ⟨0, Nat.zero_le _, rfl, rfl, G16⟩
        go_wp2_with fail
        go_loopw [30, 240] (fun vs vk wr => LwR (p : Int) (tabL e p jb) w gg rs e w.heap.size g4 c4 (tabL e p j) g5 c5 vs vk wr) (fun _ vk _ => L - (intOf vk).toNat)
        case atStart => exact HR0.out
        case round =>
          obtain ⟨k, hk, rfl, rfl, G⟩ := hrel
          clear HR0 c40 G16
          by_cases hkl : k < rs.length
          · have k0 : (0 : Int) ≤ (k : Int) := Int.natCast_nonneg k
            have k1 : (k : Int) < (L : Int) := by have := HLS.out; omega
            obtain ⟨r0, r1, r2, r3⟩ := G.out.t.r.2 k hkl
            have hrk := HOK.out _ (rlN_mem hkl)
            have hss := suTo_succ (p : Int) (tabL e p jb) rs k
            have hsb := suTo_bounds (ts := tabL e p jb) HOK.out (show (0 : Int) < (p : Int) by omega) k (by omega)
            have hsb2 : suTo (p : Int) (tabL e p jb) rs k ≤ 18 * 4 := Int.le_trans hsb.2 (Int.mul_le_mul (by omega) (by have := HL.out; omega) (by omega) (by omega))
            have hmo := okTo_at HKB.out k hkl
            have hrg : rs.getD k (0, 0, 0, 0) = rlN rs k := rfl
            rw [hrg] at hmo
            obtain ⟨r, hr⟩ : ∃ r, rlN rs k = r := ⟨_, rfl⟩
            rw [hr] at r0 r1 r2 r3 hrk hss hmo
            obtain ⟨a, b, l, m⟩ := r
            obtain ⟨o1, o2, o3, o4, o5, o6, o7, o8, o9⟩ := hrk
            dsimp only at r0 r1 r2 r3 o1 o2 o3 o4 o5 o6 o7 o8 o9 hmo
            obtain ⟨an, ha⟩ : ∃ an : Nat, a = an := ⟨a.toNat, by omega⟩
            obtain ⟨bn, hb⟩ : ∃ bn : Nat, b = bn := ⟨b.toNat, by omega⟩
            subst ha hb
            have ta := G.out.b.at_ (tabL_len e p jb).symm an (by rw [tabL_len]; omega)
            have tb := G.out.b.at_ (tabL_len e p jb).symm bn (by rw [tabL_len]; omega)
            have ba := tabL_bounds (e := e) (k := jb) (p := p) (by omega) (nth (tabL e p jb) an) (by rw [nth_eq (by rw [tabL_len]; omega)]; exact List.getElem_mem _)
            have bb := tabL_bounds (e := e) (k := jb) (p := p) (by omega) (nth (tabL e p jb) bn) (by rw [nth_eq (by rw [tabL_len]; omega)]; exact List.getElem_mem _)
            have HWU : Hid (∀ (d : Int) (q : Nat), l ≤ d → d < l + (p : Int) → d = nth (tabL e p jb) bn - nth (tabL e p jb) an + (p : Int) * q → d = wtL (p : Int) (tabL e p jb) ((an : Int), (bn : Int), l, m)) := fun d q h1 h2 h3 => wtL_of (r := ((an : Int), (bn : Int), l, m)) (q := q) h1 h2 (by simpa using h3)
            obtain ⟨x, hx⟩ : ∃ x, nth (tabL e p jb) an = x := ⟨_, rfl⟩
            obtain ⟨y, hy⟩ : ∃ y, nth (tabL e p jb) bn = y := ⟨_, rfl⟩
            rw [hx] at ta ba HWU
            rw [hy] at tb bb HWU
            obtain ⟨wt, hwt⟩ : ∃ v, wtL (p : Int) (tabL e p jb) ((an : Int), (bn : Int), l, m) = v := ⟨_, rfl⟩
            rw [hwt] at hss hmo HWU
            obtain ⟨sk, hsk⟩ : ∃ v, suTo (p : Int) (tabL e p jb) rs k = v := ⟨_, rfl⟩
            rw [hsk] at hss hsb hsb2 ⊢
            have hsb1 := hsb.1
            clear hsb
            have HSS := Lib.hid hss
            have HKL := Lib.hid hkl
            have a0' : (0 : Int) ≤ (an : Int) := Int.natCast_nonneg an
            have b0' : (0 : Int) ≤ (bn : Int) := Int.natCast_nonneg bn
            have w6 : IntKind.i64.wrap (y - x) = y - x := IntWalk.i64_in _ (by omega)
            clear hss hx hy hwt hsk hr hrg hkl o5
            go_wp2
            go_region_held3 (fun w' => w'.cell? ⟨gg, k * 4, none⟩ = some (.int .i64 (an : Int)) ∧ w'.cell? ⟨gg, k * 4 + 1, none⟩ = some (.int .i64 (bn : Int)) ∧ w'.cell? ⟨g5, an, none⟩ = some (.int .i64 x) ∧ w'.cell? ⟨g5, bn, none⟩ = some (.int .i64 y)) (first | go_keep) (fail)
            have HD0 : Hid (LwD (y - x) l (p : Int) wr.drew (.int .i64 (y - x)) wr.drew) := ⟨y - x, 0, rfl, by simp, by omega, by omega, rfl⟩
            go_wp2
            go_loopw [32] (fun vd wi => LwD (y - x) l (p : Int) wr.drew vd wi) (fun vd _ => (l + 1 - intOf vd).toNat)
            case atStart => exact HD0.out
            case round =>
              obtain ⟨d, q, rfl, hdq, hd1, hd2, rfl⟩ := hrel
              clear HD0
              have r2' : wr.drew.cell? ⟨gg, k * 4 + 2, none⟩ = some (.int .i64 l) := r2
              by_cases hdl : d < l
              · have w7 : IntKind.i64.wrap (d + (p : Int)) = d + (p : Int) := IntWalk.i64_in _ (by omega)
                have HDQ : Hid (d + (p : Int) = y - x + (p : Int) * ((q + 1 : Nat) : Int)) := by
                  show _ = _
                  rw [hdq, Int.natCast_add, Int.mul_add]
                  simp
                  omega
                have hb1 : d + (p : Int) < l + (p : Int) := by omega
                have hb2 : -1000 ≤ d + (p : Int) := by omega
                clear hdq
                go_wp2
                go_roundw
                case rel => exact ⟨d + (p : Int), q + 1, rfl, HDQ.out, hb1, hb2, rfl⟩
                case measure => simp [intOf]; omega
              · have hge : l ≤ d := by omega
                have hwt : d = wt := HWU.out d q hge hd1 hdq
                have w7 : IntKind.i64.wrap (d - (p : Int)) = d - (p : Int) := IntWalk.i64_in _ (by omega)
                have hnl : ¬ (d - (p : Int) ≥ l) := by omega
                have hmm : ¬ (d > m) := by omega
                have HWT := Lib.hid hwt
                have HE0 : Hid (LwE d wr.drew (.int .i64 d) wr.drew) := ⟨rfl, rfl⟩
                clear hdq hwt
                go_wp2_with fail
                go_loopw [32] (fun vd wi => LwE d wr.drew vd wi) (fun _ _ => 0)
                case atStart => exact HE0.out
                case round =>
                  obtain ⟨rfl, rfl⟩ := hrel
                  clear HE0
                  have r2'' : wr.drew.cell? ⟨gg, k * 4 + 2, none⟩ = some (.int .i64 l) := r2'
                  have r3' : wr.drew.cell? ⟨gg, k * 4 + 3, none⟩ = some (.int .i64 m) := r3
                  have w8 : IntKind.i64.wrap (sk + d) = sk + d := IntWalk.i64_in _ (by omega)
                  go_wp2
                  go_roundw
                  case rel => exact ⟨k + 1, HKL.out, by go_num, by rw [HSS.out, HWT.out], G.out.step ((Below.refl _ _).drew)⟩
                  case measure => have := HKL.out; have := HLS.out; simp [intOf]; omega
          · have hke : k = rs.length := Nat.le_antisymm hk (Nat.le_of_not_lt hkl)
            have k1 : ¬ ((k : Int) < (L : Int)) := by have := HLS.out; omega
            rw [hke, HZS.out]
            clear hke
            go_wp2_with fail
            obtain ⟨rt, dt, ht1, ht2, ht3⟩ := togOk_out (tog_tab (e := e) (p := p) (k := j) he4 hp9)
            have hds : ∀ d ∈ (List.range e).map (dgT e p j), d < p := fun d hd => by
              obtain ⟨i, -, rfl⟩ := List.mem_map.1 hd
              exact dgT_lt (by omega)
            have HDS := Lib.hid hds
            have HTG := Lib.hid (together_any p ((List.range e).map (dgT e p j)) (tabL e p j) g4 e c4 _ rt wr G.out.f (by simp) (dgs_tab e p j) (by omega) hds hp9 ht1)
            have v1 := cvFD rt dt ht2
            have v2 := cvFD 1065353216 4607182418800017408 one_wide
            unfold dLt at ht3
            have v3 : (FloatKind.f64.format.order 0 4562254508917369340 == some Ordering.lt) = true := by kernel_rfl
            clear ht1 ht2 hds hkl hk
            refine HTG.out.mono ?_
            rintro en W20 ⟨rfl, hb20⟩
            have G20 := Lib.hid (G.out.step hb20)
            have c40 : W20.cell? ⟨g4, 0, none⟩ = some (.int .i64 0) := by
              have h1 := G20.out.f.at_ (tabL_len e p j).symm 0 (by rw [tabL_len]; exact he0)
              rw [tabL_at he0] at h1
              exact h1
            clear hb20 HTG G
            have hb21 : Below W20.heap.size W20 (W20.drew.alloc (.cells #[.int .i64 0, .int .i64 0] 2)) := ((Below.refl _ W20).drew).alloc (Nat.le_refl _) _
            have HS2 : Hid (Calls Try.prog 19 #[.slice (some ⟨W20.heap.size, 0, none⟩) 2 2, .int .i64 (p : Int)] (W20.drew.alloc (.cells #[.int .i64 0, .int .i64 0] 2)) fun en w' => en = .returned (.tuple #[.float .f32 1065353216, .bool true]) ∧ Below W20.heap.size W20 w') :=
              (together_any p [0, 0] [0, 0] W20.heap.size 2 2 W20.heap.size 1065353216 _ (OwnI.lit W20.drew W20.heap.size [0, 0] (Nat.le_refl _) (by unfold maxLen; simp)) rfl rfl (by omega) (by intro d hd; simp at hd; omega) hp9 (same_one hp9)).mono (by
                rintro en w' ⟨h1, h2⟩
                exact ⟨h1, hb21.trans (h2.mono hb21.size)⟩)
            clear hb21
            go_wp2
            go_region_held3 (fun w' => w'.cell? ⟨g4, 0, none⟩ = some (.int .i64 0)) (first | go_keep)
              ((go_at_call 19; refine HS2.out.mono ?_; rintro en W21 ⟨rfl, hb21⟩; have G21 := Lib.hid (G20.out.step hb21); have c41 := (hb21.cell (p := ⟨g4, 0, none⟩) (lt_of_cell c40)).trans c40; clear hb21))
            have HPS := Lib.hid (phases_any p ((List.range e).map (dgT e p j)) (tabL e p j) g4 e c4 _ W21 G21.out.f (by simp) (dgs_tab e p j) (by omega) HDS.out hp9)
            clear c40 c41 HS2 G20
            go_wp2_with fail
            refine HPS.out.mono ?_
            rintro en W22 ⟨⟨g22, c22, rfl, -⟩, hb22⟩
            have G22 := Lib.hid (G21.out.step hb22)
            clear hb22 HPS G21
            go_wp2_with fail
            have HRG := Lib.hid (ring_any W22)
            refine HRG.out.mono ?_
            rintro en W23 ⟨rfl, hb23⟩
            have G23 := Lib.hid (G22.out.step hb23)
            have HGP := Lib.hid (b10Gap_one W23)
            clear hb23 HRG G22
            go_wp2_with fail
            refine HGP.out.mono ?_
            rintro en w' ⟨rfl, rfl⟩
            go_wp2
            go_ret
            exact ⟨rfl, G23.out.t.b⟩
  · rw [hlong] at HLG
    go_enter Try.func3, Try.ntmps3
    go_wp2_with fail
    refine HLG.out.mono ?_
    rintro en w' ⟨rfl, rfl⟩
    clear HLG HAT HRU hlong
    go_wp2
    go_ret
    exact ⟨rfl, Below.refl _ _⟩
end Go.Proofs.Ythkakieomoobmaa
