
/- slices.Grow of nil, append of a slice that may be empty, slices.Concat of two slices. Conditions: at most 2^20 numbers each. -/
import Derived.Test.YtmhepomjbaendaaAppendStep
import Derived.Lib.AppendZeros
namespace Go.Proofs.Ytmhepomjbaendaa
open Go.RowKit
set_option linter.unusedVariables false
set_option linter.unusedSimpArgs false

/-- append(s, t...), t perhaps empty, s not nil: at the operation. -/
theorem wp_append_any {o : Oper} {a : Act} {K : Act → World → Prop} {Q : Exit → Act → World → Prop} {W : World} (s x : Operand)
    (ho : o.op = .call { callee := .builtin .append, args := #[s, x], argTypes := #[25, 25] }) (B g n c : Nat) (xs ys : List Int) (hn : n = xs.length)
    (hs : a.eval s = .slice (some ⟨g, 0, none⟩) n c) (b off m c2 : Nat) (hm : m = ys.length) (hx : a.eval x = .slice (some ⟨b, off, none⟩) m c2) (hcells : ∀ i (h : i < ys.length), W.cell? ⟨b, off + i, none⟩ = some (.int .i64 ys[i])) (hown : OwnI W B (.slice (some ⟨g, 0, none⟩) n c) xs) (hB : B ≤ W.heap.size) (hsmall : xs.length + ys.length ≤ 1099511627776)
    (hK : ∀ g' c' w', OwnI w' B (.slice (some ⟨g', 0, none⟩) (xs.length + ys.length) c') (xs ++ ys) → W.grownBy w' (some g) → K (a.put o.dst (.slice (some ⟨g', 0, none⟩) (xs.length + ys.length) c')) w') :
    o.wp Try.prog a W K Q := by
  subst hn hm
  obtain ⟨i0, hi, hz0, hz1, hz2⟩ := info_parts info_i64
  obtain ⟨v', w', hr, h2, h3, h4, h5⟩ := run_append_own_at (P := Try.prog) W B 25 o.type 2 i0 (.int .i64 0) 1 8 Try.underlying25 hi hz0 hz1 hz2 rfl (by decide) _ xs.length _ hown ⟨b, off, none⟩ ys.length c2 (ys.map (Value.int .i64)) (by simp) (by
    intro j u hj
    rw [List.getElem?_map] at hj
    cases h : ys[j]? with
    | none => rw [h] at hj; cases hj
    | some y =>
      rw [h] at hj
      obtain ⟨h1, h2⟩ := List.getElem?_eq_some_iff.1 h
      have hadd : (⟨b, off, none⟩ : Addr).add j = ⟨b, off + j, none⟩ := by unfold Addr.add; split <;> simp_all
      rw [hadd, hcells j h1, h2]
      simpa using hj) (by intro u hu; obtain ⟨y, _, rfl⟩ := List.mem_map.1 hu; rfl) (by unfold maxLen; omega) (by omega) hB
  unfold Oper.wp execOp
  simp only [ho, resolve, invoke, builtin, Sem.run_bind, Sem.run_pure, Result.andThen_ok, List.map_toArray, List.map_cons, List.map_nil, hs, hx, hr]
  have h1' : OwnI w' B v' (xs ++ ys) := by unfold OwnI; simpa using h2
  rcases h2.2 with ⟨h6, _⟩ | ⟨g', cap, cur, rfl, _⟩
  · have := (h4.1 h6).1; cases this
  · exact hK g' cap w' h1' h3
theorem wpList_append_any {ops : Array Oper} {rest : List Oper} {o : Oper} {a : Act} {Q : Exit → Act → World → Prop} {W : World} (hgd : o.guard = none) (s x : Operand)
    (ho : o.op = .call { callee := .builtin .append, args := #[s, x], argTypes := #[25, 25] }) (B g n c : Nat) (xs ys : List Int) (hn : n = xs.length)
    (hs : a.eval s = .slice (some ⟨g, 0, none⟩) n c) (b off m c2 : Nat) (hm : m = ys.length) (hx : a.eval x = .slice (some ⟨b, off, none⟩) m c2) (hcells : ∀ i (h : i < ys.length), W.cell? ⟨b, off + i, none⟩ = some (.int .i64 ys[i])) (hown : OwnI W B (.slice (some ⟨g, 0, none⟩) n c) xs) (hB : B ≤ W.heap.size) (hsmall : xs.length + ys.length ≤ 1099511627776)
    (hK : ∀ g' c' w', OwnI w' B (.slice (some ⟨g', 0, none⟩) (xs.length + ys.length) c') (xs ++ ys) → W.grownBy w' (some g) → wpList Try.prog ops Q rest (a.put o.dst (.slice (some ⟨g', 0, none⟩) (xs.length + ys.length) c')) w') :
    wpList Try.prog ops Q (o :: rest) a W :=
  wpList_plain hgd fun _ hk => wp_append_any s x ho B g n c xs ys hn hs b off m c2 hm hx hcells hown hB hsmall fun g' c' w' h1 h2 => hk _ _ (hK g' c' w' h1 h2)
theorem step_append_any {ops : Array Oper} {o : Oper} {a : Act} {K : Act → World → Prop} {Q : Exit → Act → World → Prop} {E : Prop} {W : World} (hgd : o.guard = none) (s x : Operand)
    (ho : o.op = .call { callee := .builtin .append, args := #[s, x], argTypes := #[25, 25] }) (B g n c : Nat) (xs ys : List Int) (hn : n = xs.length)
    (hs : a.eval s = .slice (some ⟨g, 0, none⟩) n c) (b off m c2 : Nat) (hm : m = ys.length) (hx : a.eval x = .slice (some ⟨b, off, none⟩) m c2) (hcells : ∀ i (h : i < ys.length), W.cell? ⟨b, off + i, none⟩ = some (.int .i64 ys[i])) (hown : OwnI W B (.slice (some ⟨g, 0, none⟩) n c) xs) (hB : B ≤ W.heap.size) (hsmall : xs.length + ys.length ≤ 1099511627776)
    (hK : ∀ g' c' w', OwnI w' B (.slice (some ⟨g', 0, none⟩) (xs.length + ys.length) c') (xs ++ ys) → W.grownBy w' (some g) → K (a.put o.dst (.slice (some ⟨g', 0, none⟩) (xs.length + ys.length) c')) w') :
    if Region.wanted o (yielded ops a.tmps) = true then Oper.wp Try.prog o a W K Q else E := by
  have hw : Region.wanted o (yielded ops a.tmps) = true := by simp [Region.wanted, hgd]
  rw [if_pos hw]
  exact wp_append_any s x ho B g n c xs ys hn hs b off m c2 hm hx hcells hown hB hsmall hK

theorem growNil_any (n : Nat) (h0 : 0 < n) (hn : n ≤ 4194304) (w : World) : Calls Try.prog 115 #[.slice none 0 0, .int .i64 n] w fun e w' => (∃ g c, e = .returned (.slice (some ⟨g, 0, none⟩) 0 c) ∧ OwnI w' w.heap.size (.slice (some ⟨g, 0, none⟩) 0 c) []) ∧ Below w.heap.size w w' := by
  obtain ⟨i0, hi, hz0, hz1, hz2⟩ := info_parts info_i64
  have hr : ∀ ty, (Builtin.append_ #[25, 3] ty #[.slice none 0 0, .int .i64 n]).run Try.prog w = _ := fun ty => Lib.run_append_nil_zeros (P := Try.prog) w 25 3 ty 2 i0 (.int .i64 0) .i64 .i64 Try.underlying25 Try.underlying3 hi hz0 n h0 (by rw [hz1]; omega) (by omega) (by rw [hz2]; omega)
  have hgc := grownCap_ge w n 0 2
  have hgm := grownCap_le_maxLen w n 0 2 (by unfold maxLen; omega)
  obtain ⟨C, hC⟩ : ∃ C, grownCap w n 0 2 = C := ⟨_, rfl⟩
  rw [hC] at hr hgc hgm
  have h1 : ¬ ((n : Int) < 0) := by omega
  have h2 : (n : Int) > 0 := by omega
  have HR := Lib.hid hr
  clear hr hC hi hz0 hz1 hz2
  go_enter Try.func115, Try.ntmps115
  go_wp2_with (at_builtin; refine Lib.wpList_append_run _ rfl _ _ _ _ rfl _ _ rfl rfl _ _ (HR.out _) ?_)
  go_ret
  refine ⟨⟨_, _, rfl, ⟨rfl, .inr ⟨_, C, _, rfl, Nat.le_refl _, World.alloc_heap_new _ _, Nat.zero_le _, hgm, ?_, rfl⟩⟩⟩, ((Below.refl _ w).drew).alloc (Nat.le_refl _) _⟩
  rw [Array.size_append, size_zeroCells, size_zeroCells]
  simp [Value.cells]
  omega

theorem concat2_any (B b1 o1 c1 b2 o2 c2 : Nat) (xs ys : List Int) (w : World) (hB0 : w.cell? ⟨B, 0, none⟩ = some (.slice (some ⟨b1, o1, none⟩) xs.length c1)) (hB1 : w.cell? ⟨B, 1, none⟩ = some (.slice (some ⟨b2, o2, none⟩) ys.length c2))
    (hb1 : b1 < w.heap.size) (hb2 : b2 < w.heap.size) (hx : ∀ i (h : i < xs.length), w.cell? ⟨b1, o1 + i, none⟩ = some (.int .i64 xs[i])) (hy : ∀ i (h : i < ys.length), w.cell? ⟨b2, o2 + i, none⟩ = some (.int .i64 ys[i])) (h0 : 0 < xs.length) (hl : xs.length ≤ 1048576) (hl2 : ys.length ≤ 1048576) :
    Calls Try.prog 61 #[.slice (some ⟨B, 0, none⟩) 2 2] w fun e w' => (∃ v, e = .returned v ∧ OwnI w' w.heap.size v (xs ++ ys)) ∧ Below w.heap.size w w' := by
  have hBB := lt_of_cell hB0
  have HX := Lib.hid hx
  have HY := Lib.hid hy
  have HB1 := Lib.hid hB1
  clear hx hy hB1
  go_enter Try.func61, Try.ntmps61
  go_wp2
  go_loopw [3, 5, 11] (fun s _ i wr => ∃ k t : Nat, k ≤ 2 ∧ i = .int .i64 k ∧ s = .int .i64 t ∧ w = wr ∧ (k = 0 → t = 0) ∧ (k = 1 → t = xs.length) ∧ (k = 2 → t = xs.length + ys.length)) (fun _ _ i _ => 2 - (intOf i).toNat)
  case atStart => exact ⟨0, 0, by omega, rfl, rfl, rfl, fun _ => rfl, fun h => by omega, fun h => by omega⟩
  case round =>
    obtain ⟨k, t, hk, rfl, rfl, rfl, e0, e1, e2⟩ := hrel
    rcases (show k = 0 ∨ k = 1 ∨ k = 2 by omega) with rfl | rfl | rfl
    · obtain rfl := e0 rfl
      clear e0 e1 e2
      go_wp2
      go_roundw
      case rel => exact ⟨1, xs.length, by omega, rfl, rfl, trivial, fun h => by omega, fun _ => rfl, fun h => by omega⟩
      case measure => simp [intOf]
    · obtain rfl := e1 rfl
      have hB1 := HB1.out
      clear e0 e1 e2
      go_wp2
      go_roundw
      case rel => exact ⟨2, xs.length + ys.length, by omega, rfl, by go_num, trivial, fun h => by omega, fun h => by omega, fun _ => rfl⟩
      case measure => simp [intOf]
    · obtain rfl := e2 rfl
      clear e0 e1 e2
      go_wp2_with (go_at_call 115; refine (growNil_any (xs.length + ys.length) (by omega) (by omega) _).mono ?_; rintro e W1 ⟨⟨g, c, rfl, ho⟩, hb⟩)
      have HO := Lib.hid ho
      have HB := Lib.hid hb
      clear ho hb
      go_loopw [6, 8, 27] (fun v _ i wr => ∃ (k : Nat) (g c : Nat) (Y : List Int), k ≤ 2 ∧ i = .int .i64 k ∧ Hid (k = 0 → Y = []) ∧ Hid (k = 1 → Y = xs) ∧ Hid (k = 2 → Y = xs ++ ys) ∧ v = .slice (some ⟨g, 0, none⟩) Y.length c ∧ OwnI wr w.heap.size (.slice (some ⟨g, 0, none⟩) Y.length c) Y ∧ Below w.heap.size w wr) (fun _ _ i _ => 2 - (intOf i).toNat)
      case atStart => exact ⟨0, g, c, [], by omega, rfl, fun _ => rfl, fun h => by omega, fun h => by omega, rfl, HO.out, HB.out⟩
      case round =>
        obtain ⟨k, g2, cc, Y, hk, rfl, e0, e1, e2, rfl, ho, hb⟩ := hrel
        have HO2 := Lib.hid ho
        have HB2 := Lib.hid hb
        have hws := HB2.out.size
        clear HO HB ho hb
        rcases (show k = 0 ∨ k = 1 ∨ k = 2 by omega) with rfl | rfl | rfl
        · obtain rfl := e0.out rfl
          have hB0' : wr.cell? ⟨B, 0, none⟩ = _ := (HB2.out.cell (p := ⟨B, 0, none⟩) hBB).trans hB0
          clear e0 e1 e2 hB0
          go_wp2_with (at_builtin; refine wpList_append_any rfl _ _ rfl w.heap.size g2 0 cc [] xs rfl rfl b1 o1 xs.length c1 rfl rfl (fun i h => (HB2.out.cell (p := ⟨b1, o1 + i, none⟩) hb1).trans (HX.out i h)) HO2.out hws (by simp; omega) ?_; intro g3 c3 w3 ho3 hg3; have hb3 := Below.app HB2.out HO2.out hg3 hws; have HO3 := Lib.hid ho3; have HB3 := Lib.hid hb3; clear ho3 hg3 hb3)
          go_roundw
          case rel => exact ⟨1, g3, c3, xs, by omega, rfl, fun h => by omega, fun _ => rfl, fun h => by omega, by simp, by simpa using HO3.out, HB3.out⟩
          case measure => simp [intOf]
        · obtain rfl := e1.out rfl
          have hB1' : wr.cell? ⟨B, 1, none⟩ = _ := (HB2.out.cell (p := ⟨B, 1, none⟩) hBB).trans HB1.out
          clear e0 e1 e2 hB0
          go_wp2_with (at_builtin; refine wpList_append_any rfl _ _ rfl w.heap.size g2 Y.length cc Y ys rfl rfl b2 o2 ys.length c2 rfl rfl (fun i h => (HB2.out.cell (p := ⟨b2, o2 + i, none⟩) hb2).trans (HY.out i h)) HO2.out hws (by omega) ?_; intro g3 c3 w3 ho3 hg3; have hb3 := Below.app HB2.out HO2.out hg3 hws; have HO3 := Lib.hid ho3; have HB3 := Lib.hid hb3; clear ho3 hg3 hb3)
          go_roundw
          case rel => exact ⟨2, g3, c3, Y ++ ys, by omega, rfl, fun h => by omega, fun h => by omega, fun _ => rfl, by simp, by simpa using HO3.out, HB3.out⟩
          case measure => simp [intOf]
        · obtain rfl := e2.out rfl
          clear e0 e1 e2 hB0
          go_wp2
          go_ret
          exact ⟨⟨_, rfl, HO2.out⟩, HB2.out⟩
end Go.Proofs.Ytmhepomjbaendaa
