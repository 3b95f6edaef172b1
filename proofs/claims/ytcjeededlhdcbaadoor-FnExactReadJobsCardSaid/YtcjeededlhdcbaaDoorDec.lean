
/- Numbers in decimal, by the program and by the reference. Conditions: the library's table of powers of ten stands (impl). -/
import Derived.Test.YtcjeededlhdcbaaDoorDecP
import Derived.Test.YtcjeededlhdcbaaDoorBytes2
import Derived.Test.YtcjeededlhdcbaaDoorGrownL
import Derived.Test.YtcjeededlhdcbaaDoorShelf
import Derived.Test.YtcjeededlhdcbaaDoorRows
import Derived.Lib.AppendIntMem
namespace Go.Proofs.YtcjeededlhdcbaaDoor
open Go.RowKit Go.Shelf Go.BigFrame
set_option linter.unusedVariables false
set_option linter.unusedSimpArgs false

/-- append(s, t...) of bytes, t perhaps empty, s not nil: at the operation. -/
theorem wp_append_anyY {o : Oper} {a : Act} {K : Act → World → Prop} {Q : Exit → Act → World → Prop} {W : World} (s x : Operand)
    (ho : o.op = .call { callee := .builtin .append, args := #[s, x], argTypes := #[33, 33] }) (B g n c : Nat) (xs ys : List Int) (hn : n = xs.length)
    (hs : a.eval s = .slice (some ⟨g, 0, none⟩) n c) (b off m c2 : Nat) (hm : m = ys.length) (hx : a.eval x = .slice (some ⟨b, off, none⟩) m c2) (hcells : ∀ i (h : i < ys.length), W.cell? ⟨b, off + i, none⟩ = some (.int .u8 ys[i])) (hown : OwnY W B (.slice (some ⟨g, 0, none⟩) n c) xs) (hB : B ≤ W.heap.size) (hsmall : xs.length + ys.length ≤ 1099511627776)
    (hK : ∀ g' c' n' w', Hid (n' = (xs ++ ys).length) → OwnY w' B (.slice (some ⟨g', 0, none⟩) n' c') (xs ++ ys) → W.grownBy w' (some g) → K (a.put o.dst (.slice (some ⟨g', 0, none⟩) n' c')) w') :
    o.wp Tryd.prog a W K Q := by
  subst hn hm
  obtain ⟨i0, hi, hz0, hz1, hz2⟩ := info_parts info_u8
  obtain ⟨v', w', hr, h2, h3, h4, h5⟩ := run_append_own_at (P := Tryd.prog) W B 33 o.type 5 i0 (.int .u8 0) 1 1 Tryd.underlying33 hi hz0 hz1 hz2 rfl (by decide) _ xs.length _ hown ⟨b, off, none⟩ ys.length c2 (ys.map (Value.int .u8)) (by simp) (by
    intro j u hj
    rw [List.getElem?_map] at hj
    cases h : ys[j]? with
    | none => rw [h] at hj; cases hj
    | some y =>
      rw [h] at hj
      obtain ⟨h1, h2⟩ := List.getElem?_eq_some_iff.1 h
      have hadd : (⟨b, off, none⟩ : Addr).add j = ⟨b, off + j, none⟩ := by unfold Addr.add; split <;> simp_all
      rw [hadd, hcells j h1, h2]
      simpa using hj) (by intro u hu; obtain ⟨y, _, rfl⟩ := List.mem_map.1 hu; rfl) (by unfold maxLen; omega) (by omega) hB
  unfold Oper.wp execOp
  simp only [ho, resolve, invoke, builtin, Sem.run_bind, Sem.run_pure, Result.andThen_ok, List.map_toArray, List.map_cons, List.map_nil, hs, hx, hr]
  have h1' : OwnY w' B v' (xs ++ ys) := by unfold OwnY; simpa using h2
  rcases h2.2 with ⟨h6, _⟩ | ⟨g', cap, cur, rfl, _⟩
  · have := (h4.1 h6).1; cases this
  · have h7 : xs.length + ys.length = (xs ++ ys).length := by simp
    exact hK g' cap _ w' h7 (by rw [h7]; rw [h7] at h1'; exact h1') h3
theorem wpList_append_anyY {ops : Array Oper} {rest : List Oper} {o : Oper} {a : Act} {Q : Exit → Act → World → Prop} {W : World} (hgd : o.guard = none) (s x : Operand)
    (ho : o.op = .call { callee := .builtin .append, args := #[s, x], argTypes := #[33, 33] }) (B g n c : Nat) (xs ys : List Int) (hn : n = xs.length)
    (hs : a.eval s = .slice (some ⟨g, 0, none⟩) n c) (b off m c2 : Nat) (hm : m = ys.length) (hx : a.eval x = .slice (some ⟨b, off, none⟩) m c2) (hcells : ∀ i (h : i < ys.length), W.cell? ⟨b, off + i, none⟩ = some (.int .u8 ys[i])) (hown : OwnY W B (.slice (some ⟨g, 0, none⟩) n c) xs) (hB : B ≤ W.heap.size) (hsmall : xs.length + ys.length ≤ 1099511627776)
    (hK : ∀ g' c' n' w', Hid (n' = (xs ++ ys).length) → OwnY w' B (.slice (some ⟨g', 0, none⟩) n' c') (xs ++ ys) → W.grownBy w' (some g) → wpList Tryd.prog ops Q rest (a.put o.dst (.slice (some ⟨g', 0, none⟩) n' c')) w') :
    wpList Tryd.prog ops Q (o :: rest) a W :=
  wpList_plain hgd fun _ hk => wp_append_anyY s x ho B g n c xs ys hn hs b off m c2 hm hx hcells hown hB hsmall fun g' c' n' w' h0 h1 h2 => hk _ _ (hK g' c' n' w' h0 h1 h2)

/-- The library's table of powers of ten stands. -/
def p10 : String := (Rows.fnExactReadRuleRow.named.getD 5 default)
def Tab10 (w : World) : Prop := Lib.TabIs Tryd.prog w p10 .u64 Lib.pow10Tab
theorem Tab10.below {w w' : World} (h : Tab10 w) (hb : Below w.heap.size w w') : Tab10 w' := Lib.tabBelow_of_tabIs h w' hb
theorem decimal_any (n : Int) (w : World) (h : (Lit.int .i64 n).wf = true) (ht : Tab10 w) :
    Calls Tryd.prog 75 #[.int .i64 n] w fun e w' => e = .returned (.string (decS n)) ∧ Below w.heap.size w w' := by
  have h2 := wf_i64_iff.1 h
  have HC : Hid (Calls Tryd.prog 85 #[.int .i64 n, .int .i64 10] w fun e w' => e = .returned (.string (decS n)) ∧ Below w.heap.size w w') := by
    refine (Any.strconv_FormatInt_10 Tryd.laysM173 n (by omega) (by omega) w ht).mono ?_
    rintro e w' ⟨rfl, k, os, rfl⟩
    exact ⟨rfl, Lib.below_grow _ w (Nat.le_refl _) k os⟩
  go_enter Tryd.func75, Tryd.ntmps75
  go_wp2_with fail
  refine HC.out.mono ?_
  rintro e w' ⟨rfl, hb⟩
  have HB := Lib.hid hb
  clear hb
  go_wp2
  go_ret
  exact ⟨rfl, HB.out⟩

def lenZ : Value → Nat
  | .slice _ n _ => if n = 0 then 1 else 0
  | _ => 0

set_option maxRecDepth 100000 in
set_option maxHeartbeats 2000000 in
theorem l01Dec_pos (r0 : Nat) (w : World) (h : r0 < 9223372036854775808) :
    Calls Tryd.prog 72 #[.int .i64 (r0 : Int)] w fun e w' => e = .returned (.string (decS r0)) ∧ Below w.heap.size w w' := by
  obtain ⟨A, hA⟩ : ∃ A, w.heap.size = A := ⟨_, rfl⟩
  have HSZ : Hid (∀ W, Below A w W → A ≤ W.heap.size) := fun W h => by rw [← hA]; exact h.size
  have HA := Lib.hid hA
  clear hA
  have HD : Hid (strOfNums (digI r0) = decS r0) := by show _ = _; rw [← decS_eq, decI_pos]
  go_enter Tryd.func72, Tryd.ntmps72
  go_wp2
  go_loopw [3, 4, 5] (fun vo vr _ wr => ∃ (r n g c : Nat) (out : List Int), vr = .int .i64 r ∧ r ≤ r0 ∧ Hid (n = out.length) ∧ n ≤ 20 ∧ Hid (r < 10 ^ (20 - n)) ∧ Hid (decPre r out = digI r0) ∧ vo = .slice (some ⟨g, 0, none⟩) n c ∧ Hid (OwnY wr A (.slice (some ⟨g, 0, none⟩) n c) out) ∧ Hid (Below A w wr)) (fun vo vr _ _ => (intOf vr).toNat + lenZ vo)
  case atStart =>
    refine ⟨r0, 0, w.heap.size, 0, [], rfl, Nat.le_refl _, rfl, by omega, ?_, decPre_start r0, rfl, ?_, ?_⟩
    · show _ < _; omega
    · show OwnY _ _ _ _
      exact OwnY.lit w A [] (by rw [HA.out]; exact Nat.le_refl _) (by unfold maxLen; simp)
    · show Below _ _ _
      rw [← HA.out]; exact (Below.refl _ w).alloc (Nat.le_refl _) _
  case round =>
    obtain ⟨r, n, g, c, out, rfl, hr, HN, hn20, HP, HD2, rfl, HO, HB⟩ := hrel
    by_cases hgo : n = 0 ∨ r ≠ 0
    · have hA1 : A ≤ wr.heap.size := HSZ.out _ HB.out
      have hn19 : n ≤ 19 := by
        rcases Nat.lt_or_ge n 20 with h1 | h1
        · omega
        · have h2 := HP.out
          have h3 : n = 20 := by omega
          subst h3
          have : r < 10 ^ 0 := h2
          simp at this
          omega
      have wq : wrap64 ((r : Int) / 10) = ((r / 10 : Nat) : Int) := by rw [IntWalk.wrap64_in _ ⟨by omega, by omega⟩]; rfl
      have HST : Hid (∀ (n' g' c' : Nat) (w' : World), n' = ((48 + ((r % 10 : Nat) : Int)) :: out).length → OwnY w' A (.slice (some ⟨g', 0, none⟩) n' c') ((48 + ((r % 10 : Nat) : Int)) :: out) → Below A w w' → ∃ (r1 n1 g1 c1 : Nat) (out1 : List Int), Value.int .i64 ((r / 10 : Nat) : Int) = .int .i64 r1 ∧ r1 ≤ r0 ∧ Hid (n1 = out1.length) ∧ n1 ≤ 20 ∧ Hid (r1 < 10 ^ (20 - n1)) ∧ Hid (decPre r1 out1 = digI r0) ∧ Value.slice (some ⟨g', 0, none⟩) n' c' = .slice (some ⟨g1, 0, none⟩) n1 c1 ∧ Hid (OwnY w' A (.slice (some ⟨g1, 0, none⟩) n1 c1) out1) ∧ Hid (Below A w w')) := by
        intro n' g' c' w' hn' ho' hb'
        have hn2 : n' = n + 1 := by rw [hn', List.length_cons, HN.out]
        refine ⟨r / 10, n', g', c', _, rfl, by omega, hn', by omega, ?_, ?_, rfl, ho', hb'⟩
        · show _ < _
          have h1 : r < 10 ^ (20 - n) := HP.out
          rw [hn2]
          obtain ⟨k, hk⟩ : ∃ k, 20 - n = k + 1 := ⟨19 - n, by omega⟩
          rw [hk, Nat.pow_succ] at h1
          rw [show 20 - (n + 1) = k by omega]
          omega
        · show _ = _
          rw [decPre_step ?_]
          · exact HD2.out
          · rcases hgo with h1 | h1
            · left
              have : out.length = 0 := by rw [← HN.out]; exact h1
              exact List.eq_nil_of_length_eq_zero this
            · exact .inr h1
      have HME : Hid ((n = 0 ∧ r / 10 ≤ r) ∨ r / 10 < r) := by
        show _ ∨ _
        rcases hgo with h1 | h1
        · exact .inl ⟨h1, by omega⟩
        · exact .inr (by omega)
      have HNR := Lib.hid HN.out
      have HAA : Hid (A ≤ wr.heap.size) := hA1
      have HR10 : Hid ((48 : Int) + (r : Int) % 10 = 48 + ((r % 10 : Nat) : Int)) := by show _ = _; push_cast; rfl
      have HN19 : Hid (n ≤ 19) := hn19
      clear HP HD2 HN hn19 hn20 hA1 hr
      by_cases hn : n = 0
      · subst hn
        clear hgo
        have ho0 : out = [] := List.eq_nil_of_length_eq_zero HNR.out.symm
        subst ho0
        clear HSZ HNR HN19
        go_wp2
        go_roundw
        case rel =>
          have hl := OwnY.lit wr A [48 + ((r % 10 : Nat) : Int)] HAA.out (by unfold maxLen; simp)
          rw [← HR10.out] at hl
          have := HST.out 1 wr.heap.size 1 _ rfl (by rw [← HR10.out]; exact hl) (HB.out.alloc HAA.out _)
          rw [wq]
          exact this
        case measure =>
          rw [wq]
          simp [intOf, lenZ]
          omega
      · have hr0 : r ≠ 0 := by
          rcases hgo with h1 | h1
          · exact absurd h1 hn
          · exact h1
        have b1 : ((n : Int) == 0) = false := by simp; omega
        have b2 : ((r : Int) != 0) = true := by simp; omega
        clear hgo
        obtain ⟨W4, hW4⟩ : ∃ W, wr.alloc (.cells #[.int .u8 (48 + (r : Int) % 10)] 5) = W := ⟨_, rfl⟩
        have B4 : Hid (Below A w W4) := by rw [← hW4]; exact HB.out.alloc HAA.out _
        have O4 : Hid (OwnY W4 A (.slice (some ⟨wr.heap.size, 0, none⟩) 1 1) [48 + ((r % 10 : Nat) : Int)]) := by
          have hl := OwnY.lit wr A [48 + ((r % 10 : Nat) : Int)] HAA.out (by unfold maxLen; simp)
          rw [← hW4, HR10.out]; exact hl
        have C4 : Hid (∀ i (h : i < out.length), W4.cell? ⟨g, 0 + i, none⟩ = some (.int .u8 out[i])) := by
          intro i hi
          rw [← hW4, Nat.zero_add]
          have := (HO.out.alloc (.cells #[.int .u8 (48 + (r : Int) % 10)] 5)).cellsY i hi
          rw [this, List.getD_eq_getElem?_getD, List.getElem?_eq_getElem hi]; rfl
        have A4 : Hid (A ≤ W4.heap.size) := HSZ.out _ B4.out
        have L4 : Hid ([48 + ((r % 10 : Nat) : Int)].length + out.length ≤ 1099511627776) := by show _ ≤ _; have := HNR.out; have := HN19.out; simp; omega
        have HW4 := Lib.hid hW4
        clear hW4
        go_wp2_with (at_builtin; rw [HW4.out]; refine wpList_append_anyY rfl _ _ rfl A wr.heap.size 1 1 [48 + ((r % 10 : Nat) : Int)] out rfl rfl g 0 n c HNR.out rfl C4.out O4.out A4.out L4.out ?_; intro g5 c5 n5 w5 hn5 ho5 hg5; have HE := Lib.hid (HST.out n5 g5 c5 w5 hn5.out ho5 (B4.out.grown hg5 A4.out (fun j e => by cases e; exact (O4.out.lt _ rfl).1))); have HN5 : Hid (n5 ≠ 0) := by (show n5 ≠ 0; have := hn5.out; simp at this; omega))
        go_roundw
        case rel => rw [wq]; exact HE.out
        case measure =>
          rw [wq]
          have h1 := HN5.out
          have h2 := HME.out
          simp [intOf, lenZ, h1, hn]
          omega
    · have hn : n ≠ 0 := fun h => hgo (.inl h)
      have b1 : ((n : Int) == 0) = false := by simp; omega
      obtain rfl : r = 0 := by
        rcases Nat.eq_zero_or_pos r with h1 | h1
        · exact h1
        · exact absurd (.inr (by omega)) hgo
      have ho : out = digI r0 := by
        rw [← HD2.out, decPre_done]
        intro h1
        rw [h1] at HN
        exact hn HN.out
      have HS := conv_yN HN.out HO.out
      rw [ho, HD.out] at HS
      clear hgo HD2 HN HP ho hr
      go_wp2
      go_ret
      rw [HA.out]
      exact ⟨rfl, HB.out⟩
set_option maxRecDepth 100000 in
set_option maxHeartbeats 2000000 in
theorem l01Dec_neg (r0 : Nat) (w : World) (h0 : 0 < r0) (h : r0 ≤ 9223372036854775808) :
    Calls Tryd.prog 72 #[.int .i64 (-(r0 : Int))] w fun e w' => e = .returned (.string (decS (-(r0 : Int)))) ∧ Below w.heap.size w w' := by
  obtain ⟨A, hA⟩ : ∃ A, w.heap.size = A := ⟨_, rfl⟩
  have HSZ : Hid (∀ W, Below A w W → A ≤ W.heap.size) := fun W h => by rw [← hA]; exact h.size
  have HA := Lib.hid hA
  clear hA
  have HD : Hid (strOfNums ([45] ++ digI r0) = decS (-(r0 : Int))) := by show _ = _; rw [← decS_eq, decI_neg h0]; rfl
  go_enter Tryd.func72, Tryd.ntmps72
  go_wp2
  go_loopw [3, 4, 5] (fun vo vr _ wr => ∃ (r n g c : Nat) (out : List Int), vr = .int .i64 (-(r : Int)) ∧ r ≤ r0 ∧ Hid (n = out.length) ∧ n ≤ 20 ∧ Hid (r < 10 ^ (20 - n)) ∧ Hid (decPre r out = digI r0) ∧ vo = .slice (some ⟨g, 0, none⟩) n c ∧ Hid (OwnY wr A (.slice (some ⟨g, 0, none⟩) n c) out) ∧ Hid (Below A w wr)) (fun vo vr _ _ => (intOf vr).natAbs + lenZ vo)
  case atStart =>
    refine ⟨r0, 0, w.heap.size, 0, [], rfl, Nat.le_refl _, rfl, by omega, ?_, decPre_start r0, rfl, ?_, ?_⟩
    · show _ < _; omega
    · show OwnY _ _ _ _
      exact OwnY.lit w A [] (by rw [HA.out]; exact Nat.le_refl _) (by unfold maxLen; simp)
    · show Below _ _ _
      rw [← HA.out]; exact (Below.refl _ w).alloc (Nat.le_refl _) _
  case round =>
    obtain ⟨r, n, g, c, out, rfl, hr, HN, hn20, HP, HD2, rfl, HO, HB⟩ := hrel
    by_cases hgo : n = 0 ∨ r ≠ 0
    · have hA1 : A ≤ wr.heap.size := HSZ.out _ HB.out
      have hn19 : n ≤ 19 := by
        rcases Nat.lt_or_ge n 20 with h1 | h1
        · omega
        · have h2 := HP.out
          have h3 : n = 20 := by omega
          subst h3
          have : r < 10 ^ 0 := h2
          simp at this
          omega
      have wq : wrap64 (-((r : Int) / 10)) = -((r / 10 : Nat) : Int) := by rw [IntWalk.wrap64_in _ ⟨by omega, by omega⟩]; rfl
      have HST : Hid (∀ (n' g' c' : Nat) (w' : World), n' = ((48 + ((r % 10 : Nat) : Int)) :: out).length → OwnY w' A (.slice (some ⟨g', 0, none⟩) n' c') ((48 + ((r % 10 : Nat) : Int)) :: out) → Below A w w' → ∃ (r1 n1 g1 c1 : Nat) (out1 : List Int), Value.int .i64 (-((r / 10 : Nat) : Int)) = .int .i64 (-(r1 : Int)) ∧ r1 ≤ r0 ∧ Hid (n1 = out1.length) ∧ n1 ≤ 20 ∧ Hid (r1 < 10 ^ (20 - n1)) ∧ Hid (decPre r1 out1 = digI r0) ∧ Value.slice (some ⟨g', 0, none⟩) n' c' = .slice (some ⟨g1, 0, none⟩) n1 c1 ∧ Hid (OwnY w' A (.slice (some ⟨g1, 0, none⟩) n1 c1) out1) ∧ Hid (Below A w w')) := by
        intro n' g' c' w' hn' ho' hb'
        have hn2 : n' = n + 1 := by rw [hn', List.length_cons, HN.out]
        refine ⟨r / 10, n', g', c', _, rfl, by omega, hn', by omega, ?_, ?_, rfl, ho', hb'⟩
        · show _ < _
          have h1 : r < 10 ^ (20 - n) := HP.out
          rw [hn2]
          obtain ⟨k, hk⟩ : ∃ k, 20 - n = k + 1 := ⟨19 - n, by omega⟩
          rw [hk, Nat.pow_succ] at h1
          rw [show 20 - (n + 1) = k by omega]
          omega
        · show _ = _
          rw [decPre_step ?_]
          · exact HD2.out
          · rcases hgo with h1 | h1
            · left
              have : out.length = 0 := by rw [← HN.out]; exact h1
              exact List.eq_nil_of_length_eq_zero this
            · exact .inr h1
      have HME : Hid ((n = 0 ∧ r / 10 ≤ r) ∨ r / 10 < r) := by
        show _ ∨ _
        rcases hgo with h1 | h1
        · exact .inl ⟨h1, by omega⟩
        · exact .inr (by omega)
      have HNR := Lib.hid HN.out
      have HAA : Hid (A ≤ wr.heap.size) := hA1
      have HN19 : Hid (n ≤ 19) := hn19
      clear HP HD2 HN hn19 hn20 hA1 hr
      by_cases hz : 0 < (r : Int) % 10
      · skip
        have HR10 : Hid (((48 + (r : Int) % 10) : Int) = 48 + ((r % 10 : Nat) : Int)) := by show _ = _; push_cast; rfl
        by_cases hn : n = 0
        · subst hn
          clear hgo
          have ho0 : out = [] := List.eq_nil_of_length_eq_zero HNR.out.symm
          subst ho0
          clear HSZ HNR HN19
          go_wp2
          go_roundw
          case rel =>
            have hl := OwnY.lit wr A [48 + ((r % 10 : Nat) : Int)] HAA.out (by unfold maxLen; simp)
            rw [← HR10.out] at hl
            have := HST.out 1 wr.heap.size 1 _ rfl (by rw [← HR10.out]; exact hl) (HB.out.alloc HAA.out _)
            rw [wq]
            exact this
          case measure =>
            rw [wq]
            simp [intOf, lenZ]
            omega
        · have hr0 : r ≠ 0 := by
            rcases hgo with h1 | h1
            · exact absurd h1 hn
            · exact h1
          have b1 : ((n : Int) == 0) = false := by simp; omega
          have b2 : (-(r : Int) != 0) = true := by simp; omega
          clear hgo
          obtain ⟨W4, hW4⟩ : ∃ W, wr.alloc (.cells #[.int .u8 (48 + (r : Int) % 10)] 5) = W := ⟨_, rfl⟩
          have B4 : Hid (Below A w W4) := by rw [← hW4]; exact HB.out.alloc HAA.out _
          have O4 : Hid (OwnY W4 A (.slice (some ⟨wr.heap.size, 0, none⟩) 1 1) [48 + ((r % 10 : Nat) : Int)]) := by
            have hl := OwnY.lit wr A [(48 + (r : Int) % 10)] HAA.out (by unfold maxLen; simp)
            rw [← hW4, ← HR10.out]; exact hl
          have C4 : Hid (∀ i (h : i < out.length), W4.cell? ⟨g, 0 + i, none⟩ = some (.int .u8 out[i])) := by
            intro i hi
            rw [← hW4, Nat.zero_add]
            have := (HO.out.alloc (.cells #[.int .u8 (48 + (r : Int) % 10)] 5)).cellsY i hi
            rw [this, List.getD_eq_getElem?_getD, List.getElem?_eq_getElem hi]; rfl
          have A4 : Hid (A ≤ W4.heap.size) := HSZ.out _ B4.out
          have L4 : Hid ([48 + ((r % 10 : Nat) : Int)].length + out.length ≤ 1099511627776) := by show _ ≤ _; have := HNR.out; have := HN19.out; simp; omega
          have HW4 := Lib.hid hW4
          clear hW4
          go_wp2_with (at_builtin; rw [HW4.out]; refine wpList_append_anyY rfl _ _ rfl A wr.heap.size 1 1 [48 + ((r % 10 : Nat) : Int)] out rfl rfl g 0 n c HNR.out rfl C4.out O4.out A4.out L4.out ?_; intro g5 c5 n5 w5 hn5 ho5 hg5; have HE := Lib.hid (HST.out n5 g5 c5 w5 hn5.out ho5 (B4.out.grown hg5 A4.out (fun j e => by cases e; exact (O4.out.lt _ rfl).1))); have HN5 : Hid (n5 ≠ 0) := by (show n5 ≠ 0; have := hn5.out; simp at this; omega))
          go_roundw
          case rel => rw [wq]; exact HE.out
          case measure =>
            rw [wq]
            have h1 := HN5.out
            have h2 := HME.out
            simp [intOf, lenZ, h1, hn]
            omega
      · have hz2 : (r : Int) % 10 = 0 := by omega
        have HR10 : Hid ((48 : Int) = 48 + ((r % 10 : Nat) : Int)) := by show _ = _; omega
        by_cases hn : n = 0
        · subst hn
          clear hgo
          have ho0 : out = [] := List.eq_nil_of_length_eq_zero HNR.out.symm
          subst ho0
          clear HSZ HNR HN19
          go_wp2
          go_roundw
          case rel =>
            have hl := OwnY.lit wr A [48 + ((r % 10 : Nat) : Int)] HAA.out (by unfold maxLen; simp)
            rw [← HR10.out] at hl
            have := HST.out 1 wr.heap.size 1 _ rfl (by rw [← HR10.out]; exact hl) (HB.out.alloc HAA.out _)
            rw [wq]
            exact this
          case measure =>
            rw [wq]
            simp [intOf, lenZ]
            omega
        · have hr0 : r ≠ 0 := by
            rcases hgo with h1 | h1
            · exact absurd h1 hn
            · exact h1
          have b1 : ((n : Int) == 0) = false := by simp; omega
          have b2 : (-(r : Int) != 0) = true := by simp; omega
          clear hgo
          obtain ⟨W4, hW4⟩ : ∃ W, wr.alloc (.cells #[.int .u8 48] 5) = W := ⟨_, rfl⟩
          have B4 : Hid (Below A w W4) := by rw [← hW4]; exact HB.out.alloc HAA.out _
          have O4 : Hid (OwnY W4 A (.slice (some ⟨wr.heap.size, 0, none⟩) 1 1) [48 + ((r % 10 : Nat) : Int)]) := by
            have hl := OwnY.lit wr A [48] HAA.out (by unfold maxLen; simp)
            rw [← hW4, ← HR10.out]; exact hl
          have C4 : Hid (∀ i (h : i < out.length), W4.cell? ⟨g, 0 + i, none⟩ = some (.int .u8 out[i])) := by
            intro i hi
            rw [← hW4, Nat.zero_add]
            have := (HO.out.alloc (.cells #[.int .u8 48] 5)).cellsY i hi
            rw [this, List.getD_eq_getElem?_getD, List.getElem?_eq_getElem hi]; rfl
          have A4 : Hid (A ≤ W4.heap.size) := HSZ.out _ B4.out
          have L4 : Hid ([48 + ((r % 10 : Nat) : Int)].length + out.length ≤ 1099511627776) := by show _ ≤ _; have := HNR.out; have := HN19.out; simp; omega
          have HW4 := Lib.hid hW4
          clear hW4
          go_wp2_with (at_builtin; rw [HW4.out]; refine wpList_append_anyY rfl _ _ rfl A wr.heap.size 1 1 [48 + ((r % 10 : Nat) : Int)] out rfl rfl g 0 n c HNR.out rfl C4.out O4.out A4.out L4.out ?_; intro g5 c5 n5 w5 hn5 ho5 hg5; have HE := Lib.hid (HST.out n5 g5 c5 w5 hn5.out ho5 (B4.out.grown hg5 A4.out (fun j e => by cases e; exact (O4.out.lt _ rfl).1))); have HN5 : Hid (n5 ≠ 0) := by (show n5 ≠ 0; have := hn5.out; simp at this; omega))
          go_roundw
          case rel => rw [wq]; exact HE.out
          case measure =>
            rw [wq]
            have h1 := HN5.out
            have h2 := HME.out
            simp [intOf, lenZ, h1, hn]
            omega
    · have hn : n ≠ 0 := fun h => hgo (.inl h)
      have b1 : ((n : Int) == 0) = false := by simp; omega
      obtain rfl : r = 0 := by
        rcases Nat.eq_zero_or_pos r with h1 | h1
        · exact h1
        · exact absurd (.inr (by omega)) hgo
      have ho : out = digI r0 := by
        rw [← HD2.out, decPre_done]
        intro h1
        rw [h1] at HN
        exact hn HN.out
      have hA1 : A ≤ wr.heap.size := HSZ.out _ HB.out
      have h0n : -(r0 : Int) < 0 := by omega
      obtain ⟨W4, hW4⟩ : ∃ W, wr.alloc (.cells #[.int .u8 45] 5) = W := ⟨_, rfl⟩
      have B4 : Hid (Below A w W4) := by rw [← hW4]; exact HB.out.alloc hA1 _
      have O4 : Hid (OwnY W4 A (.slice (some ⟨wr.heap.size, 0, none⟩) 1 1) [45]) := by
        have hl := OwnY.lit wr A [45] hA1 (by unfold maxLen; simp)
        rw [← hW4]; exact hl
      have C4 : Hid (∀ i (h : i < out.length), W4.cell? ⟨g, 0 + i, none⟩ = some (.int .u8 out[i])) := by
        intro i hi
        rw [← hW4, Nat.zero_add]
        have := (HO.out.alloc (.cells #[.int .u8 45] 5)).cellsY i hi
        rw [this, List.getD_eq_getElem?_getD, List.getElem?_eq_getElem hi]; rfl
      have A4 : Hid (A ≤ W4.heap.size) := HSZ.out _ B4.out
      have HNR := HN
      have L4 : Hid ([(45 : Int)].length + out.length ≤ 1099511627776) := by show _ ≤ _; have := HNR.out; simp; omega
      have HW4 := Lib.hid hW4
      have HOD := Lib.hid ho
      clear hgo HD2 HN HP hr hW4 ho h hA1
      go_wp2_with (at_builtin; rw [HW4.out]; refine wpList_append_anyY rfl _ _ rfl A wr.heap.size 1 1 [45] out rfl rfl g 0 n c HNR.out rfl C4.out O4.out A4.out L4.out ?_; intro g5 c5 n5 w5 hn5 ho5 hg5; have HB5 : Hid (Below A w w5) := B4.out.grown hg5 A4.out (fun j e => by cases e; exact (O4.out.lt _ rfl).1); have HS := conv_yN hn5.out ho5; rw [HOD.out, HD.out] at HS; clear hn5 ho5 hg5)
      go_ret
      rw [HA.out]
      exact ⟨rfl, HB5.out⟩
theorem l01Dec_any (n : Int) (w : World) (h : (Lit.int .i64 n).wf = true) :
    Calls Tryd.prog 72 #[.int .i64 n] w fun e w' => e = .returned (.string (decS n)) ∧ Below w.heap.size w w' := by
  have h2 := wf_i64_iff.1 h
  by_cases h0 : n < 0
  · obtain ⟨r, rfl⟩ : ∃ r : Nat, n = -(r : Int) := ⟨(-n).toNat, by omega⟩
    exact l01Dec_neg r w (by omega) (by omega)
  · obtain ⟨r, rfl⟩ : ∃ r : Nat, n = r := ⟨n.toNat, by omega⟩
    exact l01Dec_pos r w (by omega)
end Go.Proofs.YtcjeededlhdcbaaDoor
