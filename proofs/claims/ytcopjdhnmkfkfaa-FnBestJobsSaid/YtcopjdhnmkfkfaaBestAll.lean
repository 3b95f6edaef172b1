/- The walk of FnBestJobs. Conditions: none. With texts that it needs. -/
import Derived.Test.YtcopjdhnmkfkfaaBestAll1
import Derived.Test.YtcopjdhnmkfkfaaBestAll5
import Derived.Test.YtcopjdhnmkfkfaaBestAll2
import Derived.Deep.QuietTactic
import Derived.BigQuiet
import Derived.Test.YtcopjdhnmkfkfaaBestAll12
namespace Go.Proofs.Ytcopjdhnmkfkfaa
open Go.RowKit Go.Shelf Go.BigFrame
set_option linter.unusedVariables false
set_option linter.unusedSimpArgs false

theorem idL_snoc2 (k : Nat) : idL k ++ [(k : Int)] = idL (k + 1) := by unfold idL; rw [List.range_succ, List.map_append]; rfl
def CntR (N T : Nat) (w : World) (vo vk : Value) (wr : World) : Prop :=
  ∃ (k g c : Nat), k ≤ T ∧ vk = .int .i64 k ∧ vo = .slice (some ⟨g, 0, none⟩) k c ∧ Hid (OwnI wr N (.slice (some ⟨g, 0, none⟩) k c) (idL k)) ∧ Hid (Below N w wr)
set_option maxRecDepth 100000 in
set_option maxHeartbeats 2000000 in
theorem l02Count_any (T : Nat) (w : World) (hT : T ≤ 1000) : Calls Try.prog 19 #[.int .i64 T] w fun e w' => (∃ g c, e = .returned (.slice (some ⟨g, 0, none⟩) T c) ∧ OwnI w' w.heap.size (.slice (some ⟨g, 0, none⟩) T c) (idL T)) ∧ Below w.heap.size w w' := by
  obtain ⟨N, hN⟩ : ∃ N, w.heap.size = N := ⟨_, rfl⟩
  have HN := Lib.hid hN
  obtain ⟨W2, hW2⟩ : ∃ W, w.alloc (.cells #[] 2) = W := ⟨_, rfl⟩
  have HR0 : Hid (CntR N T w (.slice (some ⟨N, 0, none⟩) 0 0) (.int .i64 0) W2) := by
    show CntR _ _ _ _ _ _
    rw [← hW2]
    have ho := OwnI.lit w N [] (by omega) (by unfold maxLen; simp)
    rw [hN] at ho
    exact ⟨0, N, 0, Nat.zero_le _, rfl, rfl, ho, by show Below _ _ _; rw [← hN]; exact (Below.refl _ _).alloc (Nat.le_refl _) _⟩
  have HW := Lib.hid hW2
  clear hW2
  go_enter Try.func19, Try.ntmps19
  rw [hN]
  clear hN
  go_wp2
  rw [HW.out]
  first | rw [HN.out] | skip
  go_loopw [3, 4] (fun vo vk wr => CntR N T w vo vk wr) (fun _ vk _ => T - (intOf vk).toNat)
  case atStart => exact HR0.out
  case round =>
    obtain ⟨k, g, c, hk, rfl, rfl, HO, HB⟩ := hrel
    clear HR0 HW
    by_cases hkT : k < T
    · have k0 : (0 : Int) ≤ (k : Int) := by omega
      have k1 : (k : Int) < (T : Int) := by omega
      have hNw : N ≤ wr.heap.size := by have h1 := HB.out.size; have h2 := HN.out; omega
      have HOW : Hid (OwnI wr N (.slice (some ⟨g, 0, none⟩) (idL k).length c) (idL k)) := by rw [idL_length]; exact HO.out
      go_wp2_with (at_builtin; refine append_i64L rfl _ _ rfl N (.slice (some ⟨g, 0, none⟩) k c) (idL k) [(k : Int)] (Nat.zero_lt_succ _) rfl _ rfl HO.out hNw (by rw [idL_length]; simp only [List.length_singleton]; omega) ?_; intro g1 c1 w5 ho5 hg5 hl5; rw [idL_length, idL_snoc2] at ho5; have HO5 := Lib.hid ho5; have HB5 : Hid (Below N w w5) := HB.out.grown hg5 hNw (fun j e => (HO.out.lt j e).1); simp only [idL_length, List.length_singleton]; clear ho5 hg5 hl5)
      go_roundw
      case rel => exact ⟨k + 1, g1, c1, by omega, by go_num, rfl, HO5.out, HB5.out⟩
      case measure => simp [intOf]; omega
    · obtain rfl : k = T := by omega
      have HF : Hid (OwnI wr w.heap.size (.slice (some ⟨g, 0, none⟩) k c) (idL k) ∧ Below w.heap.size w wr) := by rw [HN.out]; exact ⟨HO.out, HB.out⟩
      clear HO HB
      go_wp2
      go_ret
      first
        | exact ⟨⟨g, c, rfl, HF.out.1⟩, HF.out.2⟩
        | (rw [HN.out] at HF; exact ⟨⟨g, c, rfl, HF.out.1⟩, HF.out.2⟩)
def R8R (w : World) (T A : Nat) (v vi : Value) (g c : Nat) (wr : World) : Prop :=
  ∃ (i : Int) (a : Nat) (ys : List Int), vi = .int .i64 i ∧ 0 ≤ i ∧ i < T ∧ a + i ≤ T ∧ Hid (ys.Perm (idL T)) ∧ Hid (OwnI wr (A + 1) (.slice (some ⟨g, 0, none⟩) T c) ys) ∧ Hid (Src wr A v a) ∧ Hid (Below A w wr)
theorem r8_swap {T : Nat} {ys : List Int} (h : ys.Perm (idL T)) {i k : Nat} (hi : i < T) (hk : k < T) : ((ys.set i (nth ys k)).set k (nth ys i)).Perm (idL T) := by
  have hl : ys.length = T := by rw [h.length_eq, idL_length]
  rw [nth_eq (by omega), nth_eq (by omega)]
  exact (List.set_set_perm (by omega) (by omega)).trans h
set_option maxRecDepth 100000 in
set_option maxHeartbeats 2000000 in
theorem R8Order_any (v : Value) (xs : List Int) (T : Nat) (w : World) (hv : Byts w v xs) (hb : ∀ n ∈ xs, (Lit.int .u8 n).wf = true) (h1 : 1 ≤ T) (h2 : T ≤ 12) :
    Calls Try.prog 7 #[v, .int .i64 T] w fun e w' => (∃ g c, e = .returned (.slice (some ⟨g, 0, none⟩) T c) ∧ ∃ ys, OwnI w' w.heap.size (.slice (some ⟨g, 0, none⟩) T c) ys ∧ ys.Perm (idL T)) ∧ Below w.heap.size w w' := by
  have HFR := Lib.hid (from_any v xs w hv)
  have HPK : Hid (∀ g a (n : Int) W, Below w.heap.size w W → Src W g v a → a ≤ 1099511627776 → n ≤ 200 → Calls Try.prog 20 #[.pointer (some ⟨g, 0, none⟩), .int .i64 n] W fun e w' => (∃ x : Int, e = .returned (.int .i64 x) ∧ 0 ≤ x ∧ (1 ≤ n → x < n)) ∧ (∃ a', a' ≤ a + 1 ∧ Src w' g v a') ∧ GrownL [g] W w') := fun g a n W hW hs ha hn => pick_any v xs g a n W (hv.below hW (Nat.le_refl _)) hb hs ha hn
  have HCN : Hid (∀ W, Calls Try.prog 19 #[.int .i64 T] W fun e w' => (∃ g c, e = .returned (.slice (some ⟨g, 0, none⟩) T c) ∧ OwnI w' W.heap.size (.slice (some ⟨g, 0, none⟩) T c) (idL T)) ∧ Below W.heap.size W w') := fun W => l02Count_any T W (by omega)
  clear hv hb
  obtain ⟨A, hA⟩ : ∃ A, w.heap.size = A := ⟨_, rfl⟩
  have HA := Lib.hid hA
  have HSZ : Hid (∀ W, Below A w W → A ≤ W.heap.size) := fun W h => by rw [← hA]; exact h.size
  clear hA
  go_enter Try.func7, Try.ntmps7
  go_wp2_with fail
  refine HFR.out.mono ?_
  rintro e W1 ⟨rfl, hs1, hb1, hz1⟩
  rw [HA.out] at hs1 hb1 hz1 ⊢
  have HS1 := Lib.hid hs1
  have HB1 := Lib.hid hb1
  have HZ1 := Lib.hid hz1
  clear hs1 hb1 hz1 HFR
  go_wp2_with fail
  refine (HCN.out _).mono ?_
  rintro e W2 ⟨⟨g, c, rfl, ho2⟩, hb2⟩
  have hgA : A + 1 ≤ g := by have := (ho2.lt g rfl).1; have := HZ1.out; omega
  have HR0 : Hid (R8R w T A v (.int .i64 ((T : Int) - 1)) g c W2) := ⟨(T : Int) - 1, 0, idL T, rfl, by omega, by omega, by omega, List.Perm.refl _, ho2.mono (by have := HZ1.out; omega), HS1.out.grown ((GrownL.refl [] W1).below hb2 (Nat.le_refl _)) (by simp), HB1.out.trans (hb2.mono (by have := HZ1.out; omega))⟩
  clear ho2 hb2 HS1 HB1 HZ1 HCN
  have w1 : IntKind.i64.wrap ((T : Int) - 1) = (T : Int) - 1 := IntWalk.i64_in _ (by omega)
  go_wp2
  go_loopw [7] (fun vi wr => R8R w T A v vi g c wr) (fun vi _ => (intOf vi).toNat)
  case atStart => exact HR0.out
  case round =>
    obtain ⟨i, a, ys, rfl, hi0, hi1, hai, HP, HO, HS, HB⟩ := hrel
    clear HR0 w1
    have hl : T = ys.length := by rw [HP.out.length_eq, idL_length]
    have HL := Lib.hid hl
    clear hl
    by_cases hgo : 0 < i
    · have w2 : IntKind.i64.wrap (i + 1) = i + 1 := IntWalk.i64_in _ (by omega)
      have w3 : IntKind.i64.wrap (i - 1) = i - 1 := IntWalk.i64_in _ (by omega)
      have HPI := Lib.hid (HPK.out A a (i + 1) wr (by rw [HA.out]; exact HB.out) HS.out (by omega) (by omega))
      go_wp2_with fail
      refine HPI.out.mono ?_
      rintro e W3 ⟨⟨p, rfl, p0, p1⟩, ⟨a3, ha3, hs3⟩, hg3⟩
      have p1 := p1 (by omega)
      obtain ⟨k, rfl⟩ : ∃ k : Nat, p = k := ⟨p.toNat, by omega⟩
      obtain ⟨j, rfl⟩ : ∃ j : Nat, i = j := ⟨i.toNat, by omega⟩
      have hkT : k < T := by omega
      have hjT : j < T := by omega
      have p2 : (k : Int) < (T : Int) := by omega
      have HS3 := Lib.hid hs3
      have HO3 := Lib.hid (hg3.own HO.out (by simp; omega))
      have HB3 : Hid (Below A w W3) := hg3.toBelow HB.out (HSZ.out _ HB.out) (by simp; omega)
      clear hs3 hg3 HS HO HB HPI
      obtain ⟨cj, fj, _, _⟩ := HO3.out.store HL.out j (by rw [← HL.out]; exact hjT) 0
      obtain ⟨ck, fk, _, _⟩ := HO3.out.store HL.out k (by rw [← HL.out]; exact hkT) 0
      rw [← nth_eq] at cj ck
      have HF : Hid (R8R w T A v (.int .i64 ((j : Int) - 1)) g c ((W3.setCell ⟨g, j, none⟩ (.int .i64 (nth ys k))).setCell ⟨g, k, none⟩ (.int .i64 (nth ys j)))) := by
        obtain ⟨_, _, o4, g4⟩ := HO3.out.store HL.out j (by rw [← HL.out]; exact hjT) (nth ys k)
        obtain ⟨_, _, o5, g5⟩ := o4.store (by rw [List.length_set]; exact HL.out) k (by rw [List.length_set, ← HL.out]; exact hkT) (nth ys j)
        have hAw := HSZ.out _ HB3.out
        have hAw4 : A ≤ (W3.setCell ⟨g, j, none⟩ (.int .i64 (nth ys k))).heap.size := Nat.le_trans hAw g4.size
        have hGL : GrownL [] W3 W3 := GrownL.refl _ _
        refine ⟨(j : Int) - 1, a3, _, rfl, by omega, by omega, by omega, r8_swap HP.out hjT hkT, o5, ?_, (HB3.out.grown g4 hAw (fun q e => by injection e with e; omega)).grown g5 hAw4 (fun q e => by injection e with e; omega)⟩
        exact HS3.out.grown (((GrownL.refl [g] W3).grown g4 (fun q e => .inl (by injection e with e; simp [e]))).grown g5 (fun q e => .inl (by injection e with e; simp [e]))) (by simp; omega)
      obtain ⟨xj, hxj⟩ : ∃ x, nth ys j = x := ⟨_, rfl⟩
      obtain ⟨xk, hxk⟩ : ∃ x, nth ys k = x := ⟨_, rfl⟩
      rw [hxj] at cj HF
      rw [hxk] at ck HF
      by_cases hjk : j = k
      · subst hjk
        obtain rfl : xj = xk := by rw [← hxj, ← hxk]
        clear hxj hxk
        go_wp2
        go_roundw
        case rel =>
          obtain ⟨i', a', ys', e1, e2⟩ := HF.out
          exact ⟨i', a', ys', e1, e2⟩
        case measure => simp [intOf]; omega
      · have hkj : k ≠ j := fun e => hjk e.symm
        have hjk2 : ¬ (j : Int) = k := by omega
        clear hxj hxk
        go_wp2
        go_roundw
        case rel =>
          obtain ⟨i', a', ys', e1, e2⟩ := HF.out
          exact ⟨i', a', ys', e1, e2⟩
        case measure => simp [intOf]; omega
    · obtain rfl : i = 0 := by omega
      have HR : Hid (∃ ys, OwnI wr w.heap.size (.slice (some ⟨g, 0, none⟩) T c) ys ∧ ys.Perm (idL T)) := by
        rw [HA.out]
        exact ⟨ys, HO.out.mono (by omega), HP.out⟩
      have HBW : Hid (Below w.heap.size w wr) := by rw [HA.out]; exact HB.out
      clear HO HB HP HS
      go_wp2
      go_ret
      exact ⟨⟨g, c, rfl, HR.out⟩, HBW.out⟩
end Go.Proofs.Ytcopjdhnmkfkfaa

namespace Go.Proofs.Ytcopjdhnmkfkfaa
open Go.RowKit
set_option linter.unusedVariables false
set_option linter.unusedSimpArgs false

theorem r8Long_any (v u : Value) (xs ys : List Int) (w : World) (hv : Byts w v xs) (hu : Byts w u ys) :
    Calls Try.prog 4 #[v, u] w fun e w' => e = .returned (.bool (decide (48 < xs.length) || decide (48 < ys.length))) ∧ w = w' := by
  obtain ⟨hm, a, c, rfl, hcap, hc⟩ := hv
  obtain ⟨hm', a', c', rfl, hcap', hc'⟩ := hu
  unfold maxLen at hm hm'
  clear hc hc'
  by_cases h : 48 < xs.length
  · go_enter Try.func4, Try.ntmps4
    go_wp2
    go_ret
    exact ⟨ret_bool (by simp [h]), rfl⟩
  · have hd : decide (48 < xs.length) = false := by simpa using h
    by_cases h2 : 48 < ys.length
    · go_enter Try.func4, Try.ntmps4
      go_wp2
      go_ret
      exact ⟨ret_bool (by rw [hd]; first | rfl | (symm; simp; omega) | (rw [Bool.eq_iff_iff]; simp; omega)), rfl⟩
    · go_enter Try.func4, Try.ntmps4
      go_wp2
      go_ret
      exact ⟨ret_bool (by rw [hd]; first | rfl | (symm; simp; omega) | (rw [Bool.eq_iff_iff]; simp; omega)), rfl⟩

/-- A number from 0 to n - 1. -/
theorem r8At_any (v : Value) (xs : List Int) (i n : Int) (w : World) (hv : Byts w v xs) (hwf : ∀ x ∈ xs, (Lit.int .u8 x).wf = true) (hi : 0 ≤ i) (hi2 : i ≤ 100000000) (hn : 1 ≤ n) (hn2 : n ≤ 100000000) :
    Calls Try.prog 5 #[v, .int .i64 i, .int .i64 n] w fun e w' => (∃ x, e = .returned (.int .i64 x) ∧ 0 ≤ x ∧ x < n) ∧ w = w' := by
  obtain ⟨hm, a, c, rfl, hcap, hc⟩ := hv
  unfold maxLen at hm
  obtain ⟨k, rfl⟩ : ∃ k : Nat, i = k := ⟨i.toNat, by omega⟩
  by_cases h1 : n ≤ 1
  · clear hc
    go_enter Try.func5, Try.ntmps5
    go_wp2
    go_ret
    exact ⟨⟨0, rfl, by omega, by omega⟩, rfl⟩
  · by_cases hlt : k < xs.length
    · obtain ⟨b, o, rfl, hbs, hck⟩ := hc k hlt
      have hx := wf_u8_iff.1 (hwf xs[k] (List.getElem_mem _))
      obtain ⟨x, hxx⟩ : ∃ x, xs[k] = x := ⟨_, rfl⟩
      rw [hxx] at hck hx
      obtain ⟨hx1, hx2⟩ := hx
      clear hc hxx hwf
      go_enter Try.func5, Try.ntmps5
      go_wp2
      go_ret
      exact ⟨⟨x % n, rfl, Int.emod_nonneg _ (by omega), Int.emod_lt_of_pos _ (by omega)⟩, rfl⟩
    · clear hc
      go_enter Try.func5, Try.ntmps5
      go_wp2
      go_ret
      exact ⟨⟨0, rfl, by omega, by omega⟩, rfl⟩
theorem r8Same_any (v u : Value) (xs ys : List Int) (w : World) (hv : Ints w v xs) (hu : Ints w u ys) :
    Calls Try.prog 11 #[v, u] w fun e w' => e = .returned (.bool (xs == ys)) ∧ Below w.heap.size w w' := by
  obtain ⟨hm, a, c, rfl, hcap, hc⟩ := hv
  obtain ⟨hm', a', c', rfl, hcap', hc'⟩ := hu
  unfold maxLen at hm hm'
  by_cases hlen : xs.length = ys.length
  · have hl1 : ((xs.length : Int) != ys.length) = false := by simp [hlen]
    go_enter Try.func11, Try.ntmps11
    go_wp2
    go_loopw [5] (fun i wr => ∃ k : Nat, k ≤ xs.length ∧ i = .int .i64 k ∧ xs.take k = ys.take k ∧ Below w.heap.size w wr) (fun i _ => xs.length - (intOf i).toNat)
    case atStart => exact ⟨0, Nat.zero_le _, rfl, rfl, Below.refl _ _⟩
    case round =>
      obtain ⟨k, hk, rfl, heq, hb⟩ := hrel
      by_cases hlt : k < xs.length
      · have hlt' : k < ys.length := by omega
        obtain ⟨b, o, rfl, hbs, hc1⟩ := hc k hlt
        obtain ⟨b', o', rfl, hbs', hc1'⟩ := hc' k hlt'
        have hc2 : wr.cell? ⟨b, o + k, none⟩ = some (.int .i64 xs[k]) := (hb.cell (p := ⟨b, o + k, none⟩) hbs).trans hc1
        have hc2' : wr.cell? ⟨b', o' + k, none⟩ = some (.int .i64 ys[k]) := (hb.cell (p := ⟨b', o' + k, none⟩) hbs').trans hc1'
        have hk0 : (0 : Int) ≤ (k : Int) := by omega
        have hk1 : (k : Int) < (xs.length : Int) := by omega
        have hk2 : (k : Int) < (ys.length : Int) := by omega
        have Heq := Lib.hid heq
        have Hlen := Lib.hid hlen
        clear hc hc' hc1 hc1' heq hlen
        cases hne : (xs[k] != ys[k])
        · go_wp2
          go_quiet (fail)
          go_wp2
          go_roundw
          case rel =>
            refine ⟨k + 1, by omega, by go_num, ?_, below_drewN _ hb⟩
            rw [List.take_succ_eq_append_getElem hlt, List.take_succ_eq_append_getElem hlt', Heq.out]
            simp at hne; rw [hne]
          case measure => simp [intOf]; omega
        · go_wp2
          go_quiet (fail)
          go_wp2
          go_ret
          refine ⟨ret_bool ?_, below_drewN _ hb⟩
          symm
          rw [beq_eq_false_iff_ne]
          rintro rfl
          simp at hne
      · have hk' : k = xs.length := by omega
        clear hc hc'
        have Heq := Lib.hid heq
        have Hlen := Lib.hid hlen
        have Hk' := Lib.hid hk'
        clear heq hlen hk'
        go_wp2
        go_ret
        refine ⟨ret_bool ?_, hb⟩
        symm
        rw [beq_iff_eq]
        have h := Heq.out
        have h1 := Hk'.out
        have h2 := Hlen.out
        rwa [List.take_of_length_le (by omega), List.take_of_length_le (by omega)] at h
  · have hl1 : ((xs.length : Int) != ys.length) = true := by simp; omega
    have Hlen := Lib.hid hlen
    clear hlen
    go_enter Try.func11, Try.ntmps11
    go_wp2
    go_ret
    refine ⟨ret_bool ?_, Below.refl _ _⟩
    symm
    rw [beq_eq_false_iff_ne]
    rintro rfl
    exact Hlen.out rfl

theorem r8Has_any (v : Value) (xs : List Int) (x : Int) (w : World) (hv : Ints w v xs) :
    Calls Try.prog 14 #[v, .int .i64 x] w fun e w' => e = .returned (.bool (xs.any (· == x))) ∧ w = w' := by
  obtain ⟨hm, a, c, rfl, hcap, hc⟩ := hv
  unfold maxLen at hm
  go_enter Try.func14, Try.ntmps14
  go_wp2
  go_loopw [5] (fun i wr => ∃ k : Nat, k ≤ xs.length ∧ i = .int .i64 k ∧ w = wr ∧ ∀ i, i < k → nth xs i ≠ x) (fun i _ => xs.length - (intOf i).toNat)
  case atStart => exact ⟨0, Nat.zero_le _, rfl, rfl, fun i hi => by omega⟩
  case round =>
    obtain ⟨k, hk, rfl, rfl, hr⟩ := hrel
    have Hr := Lib.hid hr
    clear hr
    by_cases hlt : k < xs.length
    · obtain ⟨b, o, rfl, hbs, hc1⟩ := hc k hlt
      rw [← nth_eq hlt] at hc1
      obtain ⟨p, hp⟩ : ∃ p, nth xs k = p := ⟨_, rfl⟩
      rw [hp] at hc1
      have Hp := Lib.hid hp
      have hk0 : (0 : Int) ≤ (k : Int) := by omega
      have hk1 : (k : Int) < (xs.length : Int) := by omega
      clear hc hp
      cases hq : (p == x)
      · go_wp2
        go_roundw
        case rel =>
          refine ⟨k + 1, by omega, by go_num, trivial, fun i hi => ?_⟩
          rcases Nat.lt_succ_iff_lt_or_eq.1 hi with h | rfl
          · exact Hr.out i h
          · rw [Hp.out]; simpa using hq
        case measure => simp [intOf]; omega
      · go_wp2
        go_ret
        refine ⟨ret_bool ?_, rfl⟩
        symm
        rw [List.any_eq_true]
        exact ⟨xs[k], List.getElem_mem _, by rw [← nth_eq hlt, Hp.out]; exact hq⟩
    · go_wp2
      go_ret
      refine ⟨ret_bool ?_, rfl⟩
      symm
      rw [List.any_eq_false]
      intro y hy
      obtain ⟨i, hi, rfl⟩ := List.getElem_of_mem hy
      have := Hr.out i (by omega)
      rw [nth_eq hi] at this
      simpa using this


end Go.Proofs.Ytcopjdhnmkfkfaa

namespace Go.Proofs.Ytcopjdhnmkfkfaa
open Go.RowKit Go.Shelf Go.BigFrame
set_option linter.unusedVariables false
set_option linter.unusedSimpArgs false

theorem below_then {a b c : World} (h : Below a.heap.size a b) (k : Below b.heap.size b c) : Below a.heap.size a c := h.trans (k.mono h.size)
/-- Job i by its cells, in a row of its own. -/
structure JbC0 (W : World) (gg i : Nat) (js : List Jb) : Prop where
  c0 : W.cell? ⟨gg, i * 4, none⟩ = some (.int .i64 (tmJ js i))
  c1 : W.cell? ⟨gg, i * 4 + 1, none⟩ = some (.int .i64 (rlJ js i))
  c2 : W.cell? ⟨gg, i * 4 + 2, none⟩ = some (.int .i64 (duJ js i))
theorem jobs_view0 {w : World} {gg T c : Nat} {js : List Jb} (h : Jobs w (.slice (some ⟨gg, 0, none⟩) T c) js) (h1 : 1 ≤ T) (hl : js.length = T) : T ≤ c ∧ ∀ W, Below w.heap.size w W → ∀ i, i < T → JbC0 W gg i js := by
  obtain ⟨b, o, c', e, hc, hb, hV⟩ := jobs_view h (by omega)
  obtain ⟨⟨rfl, rfl⟩, rfl, rfl⟩ : (gg = b ∧ 0 = o) ∧ T = js.length ∧ c = c' := by simpa using e
  refine ⟨hc, fun W hW i hi => ?_⟩
  have h := hV W hW i hi
  have c0 := h.c0
  have c1 := h.c1
  have c2 := h.c2
  rw [Nat.zero_add] at c0 c1 c2
  exact ⟨c0, c1, c2⟩
def KpR (js : List Jb) (m : Nat) (out : List Int) (w : World) (vn vk : Value) (wr : World) : Prop :=
  ∃ k : Nat, vk = .int .i64 k ∧ k ≤ m ∧ vn = .int .i64 (sumT js (out.take k)) ∧ Hid (Below w.heap.size w wr)
theorem own_cap {w : World} {B g n c : Nat} {xs : List Int} (h : OwnI w B (.slice (some ⟨g, 0, none⟩) n c) xs) (hn : n = xs.length) : n ≤ c := by
  subst hn
  obtain ⟨_, a, c', e, hcap, _⟩ := h.ints
  obtain ⟨_, rfl⟩ : a = some ⟨g, 0, none⟩ ∧ c = c' := by simp at e; exact ⟨e.1.symm, e.2⟩
  exact hcap
def LpR (js : List Jb) (T : Nat) (e1 e0 : List Int) (w : World) (vm vs vk : Value) (wr : World) : Prop :=
  ∃ i : Nat, vk = .int .i64 i ∧ i ≤ T ∧ vm = .int .i64 (mostP js e1 i) ∧ vs = .int .i64 (sumE e0 i) ∧ Hid (Below w.heap.size w wr)
def WpR (T : Nat) (eo : List Int) (w : World) (vs vk : Value) (wr : World) : Prop :=
  ∃ i : Nat, vk = .int .i64 i ∧ i ≤ T ∧ vs = .int .i64 (sumE eo i) ∧ Hid (Below w.heap.size w wr)
set_option maxRecDepth 100000 in
set_option maxHeartbeats 4000000 in
theorem walkFnBestJobs (a0 : Option Addr) (len0 cap0 : Nat) (z0 : List Int) (a1 : Option Addr) (len1 cap1 : Nat) (z1 : List Int) (w : World)
    (w0 : (a0 = none ∧ len0 = 0 ∧ cap0 = 0 ∧ z0 = []) ∨
      ∃ x, a0 = some x ∧ len0 ≤ cap0 ∧ cap0 ≤ maxLen ∧ z0.length = cap0 ∧ (∀ i, i < z0.length → w.cell? (x.add i) = some (.int .u8 (z0.getD i 0))) ∧ ∀ n ∈ z0, (Lit.int .u8 n).wf = true)
    (w1 : (a1 = none ∧ len1 = 0 ∧ cap1 = 0 ∧ z1 = []) ∨
      ∃ x, a1 = some x ∧ len1 ≤ cap1 ∧ cap1 ≤ maxLen ∧ z1.length = cap1 ∧ (∀ i, i < z1.length → w.cell? (x.add i) = some (.int .u8 (z1.getD i 0))) ∧ ∀ n ∈ z1, (Lit.int .u8 n).wf = true) :
    Calls Try.prog 3 #[.slice a0 len0 cap0, .slice a1 len1 cap1] w fun e w' => e = .returned (.bool true) ∧ Below w.heap.size w w' := by
  obtain ⟨hv0, hwf0, hlen0⟩ := bytes_of_row w0
  obtain ⟨hv1, hwf1, hlen1⟩ := bytes_of_row w1
  generalize z0.take len0 = xs at *
  generalize z1.take len1 = ys at *
  subst hlen0 hlen1
  clear w0 w1
  have Hwf0 := Lib.hid hwf0
  have Hwf1 := Lib.hid hwf1
  clear hwf0 hwf1
  cases hlong : (decide (48 < xs.length) || decide (48 < ys.length))
  · have HAT : Hid (∀ (i n : Int) W, Below w.heap.size w W → 0 ≤ i → i ≤ 100 → 1 ≤ n → n ≤ 100 → Calls Try.prog 5 #[.slice a1 ys.length cap1, .int .i64 i, .int .i64 n] W fun e w' => (∃ x, e = .returned (.int .i64 x) ∧ 0 ≤ x ∧ x < n) ∧ W = w') := fun i n W hW h1 h2 h3 h4 => r8At_any _ ys i n W (hv1.below hW (Nat.le_refl _)) Hwf1.out h1 (by omega) h3 (by omega)
    have HJ1 : Hid (∀ (n : Nat), n ≤ 7 → Calls Try.prog 6 #[.slice a0 xs.length cap0, .int .i64 n, .bool true] w fun e w' => (∃ gg c, e = .returned (.slice (some ⟨gg, 0, none⟩) n c) ∧ ∃ js, JobsD w' (.slice (some ⟨gg, 0, none⟩) n c) n true js) ∧ Below w.heap.size w w') := fun n hn => R8Jobs_any _ xs n true w hv0 Hwf0.out hn
    have HJ2 : Hid (∀ (n : Nat) W, n ≤ 7 → Below w.heap.size w W → Calls Try.prog 6 #[.slice a1 ys.length cap1, .int .i64 n, .bool false] W fun e w' => (∃ gg c, e = .returned (.slice (some ⟨gg, 0, none⟩) n c) ∧ ∃ js, JobsD w' (.slice (some ⟨gg, 0, none⟩) n c) n false js) ∧ Below W.heap.size W w') := fun n W hn hW => R8Jobs_any _ ys n false W (hv1.below hW (Nat.le_refl _)) Hwf1.out hn
    have HOD : Hid (∀ (n : Nat) W, 1 ≤ n → n ≤ 7 → Below w.heap.size w W → Calls Try.prog 7 #[.slice a1 ys.length cap1, .int .i64 n] W fun e w' => (∃ g c, e = .returned (.slice (some ⟨g, 0, none⟩) n c) ∧ ∃ zs, OwnI w' W.heap.size (.slice (some ⟨g, 0, none⟩) n c) zs ∧ zs.Perm (idL n)) ∧ Below W.heap.size W w') := fun n W h1 hn hW => R8Order_any _ ys n W (hv1.below hW (Nat.le_refl _)) Hwf1.out h1 (by omega)
    have HLG := Lib.hid (r8Long_any _ _ xs ys _ hv0 hv1)
    rw [hlong] at HLG
    clear hlong hv0 hv1
    go_enter Try.func3, Try.ntmps3
    go_wp2_with fail
    refine HLG.out.mono ?_
    rintro e w' ⟨rfl, rfl⟩
    go_wp2_with fail
    refine (HAT.out _ _ w (Below.refl _ _) (by omega) (by omega) (by omega) (by omega)).mono ?_
    rintro e w' ⟨⟨x0, rfl, hx0a, hx0b⟩, rfl⟩
    obtain ⟨T, hT⟩ : ∃ t : Nat, 1 + x0 = (t : Int) := ⟨(1 + x0).toNat, by omega⟩
    have h1 : 1 ≤ T := by omega
    have h6 : T ≤ 6 := by omega
    have wt : IntKind.i64.wrap (1 + x0) = (T : Int) := by rw [hT]; exact IntWalk.i64_in _ (by omega)
    clear hT hx0a hx0b
    go_wp2_with fail
    refine (HAT.out _ _ w (Below.refl _ _) (by omega) (by omega) (by omega) (by omega)).mono ?_
    rintro e w' ⟨⟨kd, rfl, hka, hkb⟩, rfl⟩
    clear HAT HLG
    have HJD := Lib.hid (HJ1.out T (by omega))
    go_wp2_with fail
    refine HJD.out.mono ?_
    rintro e W1 ⟨⟨gj, cj, rfl, js, hjd⟩, hb1⟩
    have HB1 := Lib.hid hb1
    have HJ := Lib.hid hjd
    clear hjd hb1 HJ1 HJD
    have HOR := Lib.hid (HOD.out T W1 h1 (by omega) HB1.out)
    go_wp2_with fail
    refine HOR.out.mono ?_
    rintro e W2 ⟨⟨go, co, rfl, ord, hoo, hop⟩, hb2⟩
    have HW2 : Hid (Below w.heap.size w W2) := below_then HB1.out hb2
    have HJD2 : Hid (JobsD W2 (.slice (some ⟨gj, 0, none⟩) T cj) T true js) := ⟨HJ.out.j.below hb2 (Nat.le_refl _), HJ.out.l, HJ.out.d, HJ.out.f⟩
    have HIO : Hid (∀ W, Below W2.heap.size W2 W → Ints W (.slice (some ⟨go, 0, none⟩) T co) ord) := fun W hW => hoo.ints.below hW (Nat.le_refl _)
    have HOP := Lib.hid hop
    obtain ⟨l, lo, late, bst, hE⟩ := bjE js T kd ord _ W2 HJD2.out h1 h6 (by omega) hop
    obtain ⟨hcj, hV⟩ := jobs_view0 HJD2.out.j h1 HJD2.out.l
    have HE := Lib.hid hE
    have HV := Lib.hid hV
    have hle := hE.le
    have HDR : Hid (∀ i, i < T → DrJ (jbN js i)) := fun i hi => drJ_at HJD2.out.d (by rw [HJD2.out.l]; exact hi)
    clear hoo hop hb2 hE hV HB1 HJ HOD HOR HJD2
    have HC1 := Lib.hid (HE.out.bo W2 (Below.refl _ _))
    go_wp2_with fail
    refine HC1.out.mono ?_
    rintro e W3 ⟨⟨gb, cb, rfl, hob⟩, hb3⟩
    have HB3 := Lib.hid hb3
    have HIB : Hid (∀ W, Below W3.heap.size W3 W → Ints W (.slice (some ⟨gb, 0, none⟩) T cb) bst) := fun W hW => hob.ints.below hW (Nat.le_refl _)
    clear hb3 hob HC1
    have HC2 := Lib.hid (HE.out.cb _ W3 HB3.out (HIB.out W3 (Below.refl _ _)))
    go_wp2_with fail
    refine HC2.out.mono ?_
    rintro e W4 ⟨rfl, hb4⟩
    have HB4 : Hid (Below W2.heap.size W2 W4) := below_then HB3.out hb4
    have HK4 := Lib.hid hb4
    clear hb4 HC2
    have HC3 := Lib.hid (HE.out.co _ W4 HB4.out (HIO.out W4 HB4.out))
    go_wp2_with fail
    refine HC3.out.mono ?_
    rintro e W5 ⟨rfl, hb5⟩
    have HB5 : Hid (Below W2.heap.size W2 W5) := below_then HB4.out hb5
    have HK5 : Hid (Below W3.heap.size W3 W5) := below_then HK4.out hb5
    clear hb5 HC3 HB4 HK4
    have HC4 := Lib.hid (HE.out.br W5 HB5.out)
    go_wp2_with fail
    refine HC4.out.mono ?_
    rintro e W6 ⟨⟨gs, cs, rfl, hos⟩, hb6⟩
    have HB6 : Hid (Below W2.heap.size W2 W6) := below_then HB5.out hb6
    have HK6 : Hid (Below W3.heap.size W3 W6) := below_then HK5.out hb6
    have HC5 := Lib.hid (r8Same_any _ _ bst bst W6 hos.ints (HIB.out W6 HK6.out))
    rw [show (bst == bst) = true by simp] at HC5
    clear hb6 hos HC4 HB5 HK5 HIB HK6
    have hlo : decide (lo < l) = false := decide_eq_false (by omega)
    go_wp2_with fail
    refine HC5.out.mono ?_
    rintro e W7 ⟨rfl, hb7⟩
    have HB7 : Hid (Below W2.heap.size W2 W7) := below_then HB6.out hb7
    clear hb7 HC5 HB6
    have HC6 := Lib.hid (HE.out.aj W7 HB7.out)
    go_wp2_with fail
    refine HC6.out.mono ?_
    rintro e W8 ⟨rfl, hb8⟩
    have HB8 : Hid (Below W2.heap.size W2 W8) := below_then HB7.out hb8
    clear hb8 HC6 HB7
    have HC7 := Lib.hid (HE.out.fl W8 HB8.out)
    go_wp2_with fail
    refine HC7.out.mono ?_
    rintro e W9 ⟨⟨gk, m, ck, rfl, out, hok9, hm9, hO9⟩, hb9⟩
    have HB9 : Hid (Below W2.heap.size W2 W9) := below_then HB8.out hb9
    have HOO : Hid (OwnI W9 W8.heap.size (.slice (some ⟨gk, 0, none⟩) m ck) out) := hok9
    have HM : Hid (m = out.length) := hm9
    have HOK := Lib.hid hO9
    have hcnt := hO9.cnt
    rw [← hm9] at hcnt
    clear hb9 hok9 hm9 hO9 HC7 HB8
    have HC8 := Lib.hid (HE.out.b4 W9 HB9.out)
    go_wp2_with fail
    refine HC8.out.mono ?_
    rintro e W10 ⟨⟨g4, c4, rfl⟩, hb10⟩
    have HB10 : Hid (Below W2.heap.size W2 W10) := below_then HB9.out hb10
    have HKO : Hid (∀ W, Below W10.heap.size W10 W → OwnI W W8.heap.size (.slice (some ⟨gk, 0, none⟩) m ck) out) := fun W hW => (HOO.out.below hb10 (Nat.le_refl _)).below hW (Nat.le_refl _)
    clear hb10 HC8 HB9 HOO
    have w2 : IntKind.i64.wrap ((m : Int) + late) = (T : Int) := by rw [hcnt]; exact IntWalk.i64_in _ (by omega)
    have HR0 : Hid (KpR js m out W10 (.int .i64 0) (.int .i64 0) W10) := ⟨0, rfl, Nat.zero_le _, rfl, Below.refl _ _⟩
    go_wp2_with fail
    go_loopw [25, 26] (fun vn vk wr => KpR js m out W10 vn vk wr) (fun _ vk _ => m - (intOf vk).toNat)
    case atStart => exact HR0.out
    case round =>
      obtain ⟨k, rfl, hkm, rfl, HB⟩ := hrel
      clear HR0 w2 wt hlo hcnt
      have HBw : Hid (Below W2.heap.size W2 wr) := below_then HB10.out HB.out
      by_cases hk2 : k < m
      · have k0 : (0 : Int) ≤ (k : Int) := by omega
        have k1 : (k : Int) < (m : Int) := by omega
        have hkl : k < out.length := by rw [← HM.out]; exact hk2
        obtain ⟨i, hi, hiT⟩ := HOK.out.mem k hkl
        have i0 : (0 : Int) ≤ (i : Int) := by omega
        have i1 : (i : Int) < (T : Int) := by omega
        have hpre := HOK.out.pre k hkl
        have hhas := HOK.out.has k hkl
        have ck0 := (HKO.out wr HB.out).at_ HM.out k hkl
        have hmc : m ≤ ck := own_cap (HKO.out wr HB.out) HM.out
        have hkc : (k : Int) ≤ (ck : Int) := by omega
        have hml : m ≤ 9223372036854775807 := by
          have h := (HKO.out wr HB.out).ints.1
          rw [← HM.out] at h
          unfold maxLen at h
          exact h
        have hJ := HV.out wr HBw.out i hiT
        have c0 := hJ.c0
        have c2 := hJ.c2
        rw [hi] at ck0 hpre hhas
        rw [Int.toNat_natCast] at hpre
        have HHS : Hid (∀ n, Calls Try.prog 14 #[.slice (some ⟨gk, 0, none⟩) k ck, .int .i64 i] (wr.drewN n) fun e w' => e = .returned (.bool false) ∧ w' = wr.drewN n) := fun n => by
          have h := r8Has_any _ _ i (wr.drewN n) ((OwnI.cut (HKO.out _ (below_drewN n HB.out)) k (by omega) HM.out).ints)
          rw [hhas] at h
          exact h.mono (fun _ _ hh => ⟨hh.1, hh.2.symm⟩)
        obtain ⟨S, hS⟩ : ∃ x, sumT js (out.take k) = x := ⟨_, rfl⟩
        obtain ⟨t, ht⟩ : ∃ x, tmJ js i = x := ⟨_, rfl⟩
        obtain ⟨d, hd⟩ : ∃ x, duJ js i = x := ⟨_, rfl⟩
        rw [ht] at c0
        rw [hd] at c2
        rw [hS, ht, hd] at hpre
        rw [hS]
        have HPS : Hid (sumT js (out.take (k + 1)) = S + t) := hpre.1
        have hpd : S + t ≤ d := by have := hpre.1; omega
        have hs0 : 0 ≤ S ∧ S ≤ 240000 := ⟨hpre.2.2.1, hpre.2.2.2⟩
        have ht0 : 1 ≤ t ∧ t ≤ 9 := by have h : 1 ≤ tmJ js i ∧ tmJ js i ≤ 9 := (HDR.out i hiT).1; rw [ht] at h; exact h
        have w3 : IntKind.i64.wrap (S + t) = S + t := IntWalk.i64_in _ (by omega)
        have hdd : decide (d < S + t) = false := decide_eq_false (by omega)
        clear hpre hhas hJ hi hS ht hd hkl
        go_wp2
        go_quiet ((go_at_call 14; exact Calls.quiet_of_same (HHS.out _)))
        go_wp2
        go_roundw
        case rel => exact ⟨k + 1, by go_num, by omega, by rw [HPS.out], below_drewN _ HB.out⟩
        case measure => simp [intOf]; omega
      · obtain rfl : m = k := by omega
        have HJD := Lib.hid (HJ2.out T wr (by omega) (below_then HW2.out HBw.out))
        clear HB HKO HM HOK HE HV HJ2 HDR HB10 hkm hk2
        go_wp2_with fail
        refine HJD.out.mono ?_
        rintro e V1 ⟨⟨gj2, cj2, rfl, js2, hjd⟩, hb1⟩
        have HX1 : Hid (Below W2.heap.size W2 V1) := below_then HBw.out hb1
        obtain ⟨least, som, eO, hE⟩ := sjE js2 T ord _ V1 hjd h1 h6 HOP.out
        obtain ⟨hcj2, hV⟩ := jobs_view0 hjd.j h1 hjd.l
        have HE := Lib.hid hE
        have HV := Lib.hid hV
        have HDR : Hid (∀ i, i < T → DrJ (jbN js2 i)) := fun i hi => drJ_at hjd.d (by rw [hjd.l]; exact hi)
        have hle2 := hE.le
        have hlb := hE.lb
        clear hjd hb1 hE hV HBw HJD
        have HC1 := Lib.hid (HE.out.br V1 (Below.refl _ _))
        go_wp2_with fail
        refine HC1.out.mono ?_
        rintro e V2 ⟨⟨gb2, cb2, rfl⟩, hb2⟩
        have HX2 : Hid (Below W2.heap.size W2 V2) := below_then HX1.out hb2
        have HY2 := Lib.hid hb2
        clear hb2 HC1
        have HC2 := Lib.hid (HE.out.co _ V2 HY2.out (HIO.out V2 HX2.out))
        go_wp2_with fail
        refine HC2.out.mono ?_
        rintro e V3 ⟨rfl, hb3⟩
        have HX3 : Hid (Below W2.heap.size W2 V3) := below_then HX2.out hb3
        have HY3 : Hid (Below V1.heap.size V1 V3) := below_then HY2.out hb3
        clear hb3 HC2 HX2 HY2
        have HC3 := Lib.hid (HE.out.p1 V3 HY3.out)
        go_wp2_with fail
        refine HC3.out.mono ?_
        rintro e V4 ⟨⟨gE, gP, rfl, e1, p1, hoE, hoP, hp1⟩, hb4⟩
        have HX4 : Hid (Below W2.heap.size W2 V4) := below_then HX3.out hb4
        have HY4 : Hid (Below V1.heap.size V1 V4) := below_then HY3.out hb4
        have HOE : Hid (∀ W, Below V4.heap.size V4 W → OwnI W V3.heap.size (.slice (some ⟨gE, 0, none⟩) T T) e1) := fun W hW => hoE.below hW (Nat.le_refl _)
        have HOP1 : Hid (∀ W, Below V4.heap.size V4 W → OwnI W V3.heap.size (.slice (some ⟨gP, 0, none⟩) T T) p1) := fun W hW => hoP.below hW (Nat.le_refl _)
        have HP1 := Lib.hid hp1
        clear hb4 hoE hoP hp1 HC3 HX3 HY3
        have HC4 := Lib.hid (HE.out.p0 V4 HY4.out)
        go_wp2_with fail
        refine HC4.out.mono ?_
        rintro e V5 ⟨⟨gF, gQ, rfl, e0, p0, hoF, hoQ, hp0⟩, hb5⟩
        have HX5 : Hid (Below W2.heap.size W2 V5) := below_then HX4.out hb5
        have HY5 : Hid (Below V1.heap.size V1 V5) := below_then HY4.out hb5
        have HZ5 := Lib.hid hb5
        have HOF : Hid (∀ W, Below V5.heap.size V5 W → OwnI W V4.heap.size (.slice (some ⟨gF, 0, none⟩) T T) e0) := fun W hW => hoF.below hW (Nat.le_refl _)
        have HOQ : Hid (∀ W, Below V5.heap.size V5 W → OwnI W V4.heap.size (.slice (some ⟨gQ, 0, none⟩) T T) p0) := fun W hW => hoQ.below hW (Nat.le_refl _)
        have HP0 := Lib.hid hp0
        clear hb5 hoF hoQ hp0 HC4 HX4 HY4
        have hls : decide (som < least) = false := decide_eq_false (by omega)
        have T0 : (0 : Int) < (T : Int) := by omega
        have hce := (HOE.out V5 HZ5.out).at_ HP1.out.le.symm 0 (by rw [HP1.out.le]; omega)
        have hcd := (HV.out V5 HY5.out 0 (by omega)).c2
        rw [Nat.zero_mul, Nat.zero_add] at hcd
        have hm0 := HP1.out.mo 0 (by omega)
        have HM0 : Hid (mostP js2 e1 0 = nth e1 0 - duJ js2 0) := rfl
        rw [HM0.out] at hm0
        have w5 : IntKind.i64.wrap (nth e1 0 - duJ js2 0) = nth e1 0 - duJ js2 0 := IntWalk.i64_in _ (by omega)
        have HL0 : Hid (∀ q, LpR js2 T e1 e0 V5 (.int .i64 (nth e1 0 - duJ js2 0)) (.int .i64 0) (.int .i64 0) (V5.drewN q)) := fun q => ⟨0, rfl, Nat.zero_le _, by rw [HM0.out], rfl, below_drewN q (Below.refl _ _)⟩
        obtain ⟨q1, hq1⟩ : ∃ x, nth e1 0 = x := ⟨_, rfl⟩
        obtain ⟨q2, hq2⟩ : ∃ x, duJ js2 0 = x := ⟨_, rfl⟩
        rw [hq1] at hce hm0 w5 HL0
        rw [hq2] at hcd hm0 w5 HL0
        clear hq1 hq2 HM0
        go_wp2_with fail
        go_quiet (fail)
        go_wp2_with fail
        have HLQ := Lib.hid (HL0.out nq)
        clear HL0 hce hcd w5 hls
        go_loopw [39, 40, 42] (fun vm vs vk wr => LpR js2 T e1 e0 V5 vm vs vk wr) (fun _ _ vk _ => T - (intOf vk).toNat)
        case atStart => exact HLQ.out
        case round =>
          obtain ⟨i, rfl, hiT, rfl, rfl, HB⟩ := hrel
          clear HLQ
          by_cases hi2 : i < T
          · have i0 : (0 : Int) ≤ (i : Int) := by omega
            have i1 : (i : Int) < (T : Int) := by omega
            have HY : Hid (Below V1.heap.size V1 wr) := below_then HY5.out HB.out
            have hJ := HV.out wr HY.out i hi2
            have c0 := hJ.c0
            have c1 := hJ.c1
            have c2 := hJ.c2
            have hE1 := (HOE.out wr (below_then HZ5.out HB.out)).at_ HP1.out.le.symm i (by rw [HP1.out.le]; exact hi2)
            have hQ1 := (HOP1.out wr (below_then HZ5.out HB.out)).at_ HP1.out.lp.symm i (by rw [HP1.out.lp]; exact hi2)
            have hF1 := (HOF.out wr HB.out).at_ HP0.out.le.symm i (by rw [HP0.out.le]; exact hi2)
            have hG1 := (HOQ.out wr HB.out).at_ HP0.out.lp.symm i (by rw [HP0.out.lp]; exact hi2)
            have hp1 := HP1.out.at_ i hi2
            have hp0 := HP0.out.at_ i hi2
            have hmo := HP1.out.mo i (by omega)
            have hsu := HP0.out.su i (by omega)
            have hsu2 := HP0.out.su (i + 1) (by omega)
            have hwo := HE.out.wo T (Nat.le_refl _)
            have hdr := HDR.out i hi2
            have hdr1 : 1 ≤ tmJ js2 i ∧ tmJ js2 i ≤ 9 := hdr.1
            have hdr2 : 0 ≤ rlJ js2 i ∧ rlJ js2 i ≤ 11 := hdr.2.1
            have hdr3 : 0 ≤ duJ js2 i ∧ duJ js2 i ≤ 39 := hdr.2.2.1
            have HMS : Hid (mostP js2 e1 (i + 1) = max (mostP js2 e1 i) (nth e1 i - duJ js2 i)) := rfl
            have HSS : Hid (sumE e0 (i + 1) = sumE e0 i + nth e0 i) := rfl
            rw [HSS.out] at hsu2
            obtain ⟨a, ha⟩ : ∃ x, nth e1 i = x := ⟨_, rfl⟩
            obtain ⟨f, hf⟩ : ∃ x, nth e0 i = x := ⟨_, rfl⟩
            obtain ⟨pa, hpa⟩ : ∃ x, nth p1 i = x := ⟨_, rfl⟩
            obtain ⟨pf, hpf⟩ : ∃ x, nth p0 i = x := ⟨_, rfl⟩
            obtain ⟨tm, htm⟩ : ∃ x, tmJ js2 i = x := ⟨_, rfl⟩
            obtain ⟨rl, hrl⟩ : ∃ x, rlJ js2 i = x := ⟨_, rfl⟩
            obtain ⟨du, hdu⟩ : ∃ x, duJ js2 i = x := ⟨_, rfl⟩
            obtain ⟨M, hM⟩ : ∃ x, mostP js2 e1 i = x := ⟨_, rfl⟩
            obtain ⟨Z, hZ⟩ : ∃ x, sumE e0 i = x := ⟨_, rfl⟩
            rw [htm] at c0 hdr1 hp1 hp0
            rw [hrl] at c1 hdr2 hp1 hp0
            rw [hdu] at c2 hdr3 hp1 HMS
            rw [ha] at hE1 hp1 HMS
            rw [hf] at hF1 hp0 hsu2 HSS
            rw [hpa] at hQ1 hp1
            rw [hpf] at hG1 hp0
            rw [hM] at hmo HMS ⊢
            rw [hZ] at hsu hsu2 HSS ⊢
            clear hJ hdr ha hf hpa hpf htm hrl hdu hM hZ
            have w6 : IntKind.i64.wrap (a - du) = a - du := IntWalk.i64_in _ (by omega)
            have w7 : IntKind.i64.wrap (Z + f) = Z + f := IntWalk.i64_in _ (by omega)
            have w8 : IntKind.i64.wrap (rl + tm) = rl + tm := IntWalk.i64_in _ (by omega)
            have d1 : decide (a < rl + tm) = false := decide_eq_false (by omega)
            have d2 : decide (f < rl + tm) = false := decide_eq_false (by omega)
            have d3 : decide (pa < 1) = false := decide_eq_false (by omega)
            have d4 : decide (pf < 1) = false := decide_eq_false (by omega)
            go_wp2_with fail
            go_quiet (fail)
            go_wp2_with fail
            go_quiet (fail)
            go_wp2
            go_roundw
            case rel => exact ⟨i + 1, by go_num, by omega, by rw [HMS.out], by rw [HSS.out], below_drewN _ HB.out⟩
            case measure => simp [intOf]; omega
          · obtain rfl : T = i := by omega
            have HY : Hid (Below V1.heap.size V1 wr) := below_then HY5.out HB.out
            have HX : Hid (Below W2.heap.size W2 wr) := below_then HX5.out HB.out
            have hmo := (HP1.out.mo T (Nat.le_refl _)).2
            have hsu := (HP0.out.su T (Nat.le_refl _)).2
            obtain ⟨M, hM⟩ : ∃ x, mostP js2 e1 T = x := ⟨_, rfl⟩
            obtain ⟨Z, hZ⟩ : ∃ x, sumE e0 T = x := ⟨_, rfl⟩
            rw [hM] at hmo ⊢
            rw [hZ] at hsu ⊢
            have HC9 := Lib.hid (HE.out.eo _ wr HY.out (HIO.out wr HX.out))
            clear hM hZ HB HOE HOP1 HOF HOQ HP1 HP0 HV HDR HIO hiT hi2
            go_wp2_with fail
            refine HC9.out.mono ?_
            rintro e V6 ⟨⟨gO, rfl, hoO⟩, hb6⟩
            have HX6 : Hid (Below W2.heap.size W2 V6) := below_then HX.out hb6
            have HOO : Hid (∀ W, Below V6.heap.size V6 W → OwnI W wr.heap.size (.slice (some ⟨gO, 0, none⟩) T T) eO) := fun W hW => hoO.below hW (Nat.le_refl _)
            have HLN := Lib.hid HE.out.lo
            have HWO := Lib.hid HE.out.wo
            have HNN := Lib.hid HE.out.nn
            clear hoO hb6 HC9 HE HY HX
            have HW0 : Hid (WpR T eO V6 (.int .i64 0) (.int .i64 0) V6) := ⟨0, rfl, Nat.zero_le _, rfl, Below.refl _ _⟩
            go_wp2_with fail
            go_loopw [41, 45] (fun vs vk wr => WpR T eO V6 vs vk wr) (fun _ vk _ => T - (intOf vk).toNat)
            case atStart => exact HW0.out
            case round =>
              obtain ⟨i, rfl, hiT, rfl, HB⟩ := hrel
              clear HW0
              by_cases hi2 : i < T
              · have i0 : (0 : Int) ≤ (i : Int) := by omega
                have i1 : (i : Int) < (T : Int) := by omega
                have hO1 := (HOO.out wr HB.out).at_ HLN.out.symm i (by rw [HLN.out]; exact hi2)
                have hwo := HWO.out i (by omega)
                have hnn := HNN.out i hi2
                have HSS : Hid (sumE eO (i + 1) = sumE eO i + nth eO i) := rfl
                obtain ⟨a, ha⟩ : ∃ x, nth eO i = x := ⟨_, rfl⟩
                obtain ⟨Q, hQ⟩ : ∃ x, sumE eO i = x := ⟨_, rfl⟩
                rw [ha] at hO1 hnn HSS
                rw [hQ] at hwo HSS ⊢
                clear ha hQ
                have w9 : IntKind.i64.wrap (Q + a) = Q + a := IntWalk.i64_in _ (by omega)
                go_wp2
                go_roundw
                case rel => exact ⟨i + 1, by go_num, by omega, by rw [HSS.out], HB.out⟩
                case measure => simp [intOf]; omega
              · obtain rfl : T = i := by omega
                have HBW : Hid (Below w.heap.size w wr) := below_then HW2.out (below_then HX6.out HB.out)
                obtain ⟨Q, hQ⟩ : ∃ x, sumE eO T = x := ⟨_, rfl⟩
                rw [hQ] at hsu ⊢
                clear hQ HB HOO HWO HNN HLN
                go_wp2
                go_ret
                exact ⟨by first | rfl | exact ret_bool (by simp; omega), HBW.out⟩
  · have HLG := Lib.hid (r8Long_any _ _ xs ys _ hv0 hv1)
    rw [hlong] at HLG
    clear hlong hv0 hv1
    go_enter Try.func3, Try.ntmps3
    go_wp2_with fail
    refine HLG.out.mono ?_
    rintro e w' ⟨rfl, rfl⟩
    go_wp2
    go_ret
    exact ⟨rfl, Below.refl _ _⟩
end Go.Proofs.Ytcopjdhnmkfkfaa
