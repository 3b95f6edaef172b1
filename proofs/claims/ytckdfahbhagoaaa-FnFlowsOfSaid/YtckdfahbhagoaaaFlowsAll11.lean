/- The laws' small helpers: r8Long, r8At, r8Same, r8Has. Conditions: none of weight. With texts that it needs. -/
import Derived.Test.YtckdfahbhagoaaaFlowsAll9
import Derived.Test.YtckdfahbhagoaaaFlowsAll10
import Derived.Test.YtckdfahbhagoaaaFlowsAll8
import Derived.Test.YtckdfahbhagoaaaFlowsAll4
import Derived.Test.YtckdfahbhagoaaaFlowsAll7
import Derived.Test.YtckdfahbhagoaaaFlowsAll5
import Derived.Test.YtckdfahbhagoaaaFlowsAll1
import Derived.Deep.QuietTactic
import Derived.BigQuiet
namespace Go.Proofs.Ytckdfahbhagoaaa
open Go.RowKit
set_option linter.unusedVariables false
set_option linter.unusedSimpArgs false

theorem ordOkF_sub {n k : Nat} {E S : List Int} (hS : S.Perm (idL n)) (hE : E.Perm (S.take k)) : OrdOkF n E := by
  have hnd : E.Pairwise (fun x y => x ≠ y) := (hE.pairwise_iff (fun h => Ne.symm h)).2 (((hS.pairwise_iff (fun h => Ne.symm h)).2 (idL_nodup n)).take)
  refine ⟨fun p hp => ?_, fun p q hpq hq h => ?_⟩
  · have h1 : E[p] ∈ idL n := hS.subset (List.mem_of_mem_take (hE.subset (List.getElem_mem hp)))
    unfold idL at h1
    obtain ⟨i, hi, he⟩ := List.mem_map.1 h1
    exact ⟨i, by rw [nth_eq hp, ← he], List.mem_range.1 hi⟩
  · rw [nth_eq (by omega), nth_eq hq] at h
    exact List.pairwise_iff_getElem.1 hnd p q (by omega) hq hpq h
theorem clone_own {W : World} {B g n c : Nat} {xs : List Int} (ho : OwnI W B (.slice (some ⟨g, 0, none⟩) n c) xs) (hn : n = xs.length) (hl : n ≤ 1000) :
    Calls Try.prog 41 #[.slice (some ⟨g, 0, none⟩) n c] W fun e w' => (∃ g' c', e = .returned (.slice (some ⟨g', 0, none⟩) n c') ∧ OwnI w' W.heap.size (.slice (some ⟨g', 0, none⟩) n c') xs) ∧ Below W.heap.size W w' := by
  rcases Nat.eq_zero_or_pos n with h | h
  · subst h
    obtain rfl : xs = [] := List.length_eq_zero_iff.1 hn.symm
    have HO : Hid (OwnI (W.alloc (.cells #[] 2)) W.heap.size (.slice (some ⟨W.heap.size, 0, none⟩) 0 0) []) := OwnI.lit W W.heap.size [] (Nat.le_refl _) (by unfold maxLen; simp)
    have HB : Hid (Below W.heap.size W (W.alloc (.cells #[] 2))) := (Below.refl _ W).alloc (Nat.le_refl _) _
    have HCS : Hid (∀ i (h : i < ([] : List Int).length), (W.alloc (.cells #[] 2)).cell? ⟨g, 0 + i, none⟩ = some (.int .i64 ([] : List Int)[i])) := fun i h => absurd h (Nat.not_lt_zero _)
    have hsn := sl_nil
    clear ho hn hl
    go_enter Try.func41, Try.ntmps41
    go_wp2_with (at_builtin; refine wpList_append_any rfl _ _ rfl W.heap.size W.heap.size 0 0 [] [] rfl rfl g 0 0 c rfl rfl HCS.out HO.out (by simp) (by simp) ?_; intro g1 c1 w1 ho1 hg1; have hb1 := Below.app (hB := by simp) (HB.out.trans (Below.refl _ _)) HO.out hg1; have Ho1 := Lib.hid ho1; have Hb1 := Lib.hid hb1; clear ho1 hg1 hb1)
    go_ret
    have h1 := Ho1.out
    simp at h1
    exact ⟨⟨g1, c1, rfl, h1⟩, Hb1.out⟩
  · subst hn
    exact clone_any _ xs W ho.ints h (by omega)
theorem ofF_bound {ts : List Int} {M n i : Nat} (hok : ShopOk ts M n) (hi : i < n) : 0 ≤ ofF ts M i ∧ ofF ts M i ≤ 80000 := by
  have h := sF_bound (f := tF ts M i) M (fun q hq => by have := hok.at_ hi hq; omega)
  have := hok.m8
  show 0 ≤ sF (tF ts M i) M ∧ sF (tF ts M i) M ≤ _; omega
set_option maxRecDepth 100000 in
set_option maxHeartbeats 400000 in
theorem keyI_any (b o T c n M q i : Nat) (ts : List Int) (W : World) (hv : ShW W b o T c ts) (hok : ShopOk ts M n) (hx : BoxS W q b o T c n M) (hi : i < n) : KeyAtB 42 #[.pointer (some ⟨q, 0, none⟩)] (fun x => -ofF ts M x.toNat) i W := by
  have HC : Hid (Calls Try.prog 30 #[.agg #[.slice (some ⟨b, o, none⟩) T c, .int .i64 n, .int .i64 M], .int .i64 i] W fun e w' => e = .returned (.int .i64 (ofF ts M i)) ∧ Below W.heap.size W w') := shOf_any b o T c M n i ts W hv hok hi
  have hb := ofF_bound hok hi
  have HI : Hid (-ofF ts M ((i : Int).toNat) = -ofF ts M i) := by show _ = _; rw [Int.toNat_natCast]
  obtain ⟨t, ht⟩ : ∃ t, ofF ts M i = t := ⟨_, rfl⟩
  rw [ht] at HC hb HI
  have x0 := hx.c0
  have x1 := hx.c1
  have x2 := hx.c2
  have w1 : IntKind.i64.wrap (-t) = -t := IntWalk.i64_in _ (by omega)
  clear hv hok hx ht
  unfold KeyAtB
  go_enter Try.func42, Try.ntmps42
  go_wp2_with fail
  refine HC.out.mono ?_
  rintro e W3 ⟨rfl, hb3⟩
  have HB3 := Lib.hid hb3
  clear hb3 HC
  go_wp2
  go_ret
  exact ⟨ret_int HI.out.symm, HB3.out⟩
/-- The best order so far, if there is one. -/
def BestO (B k : Nat) (r : Option (List Int)) (v : Value) (w : World) : Prop :=
  match r with
  | none => v = .slice none 0 0
  | some E => ∃ g c, v = .slice (some ⟨g, 0, none⟩) k c ∧ OwnI w B (.slice (some ⟨g, 0, none⟩) k c) E
theorem BestO.below {B k : Nat} {r : Option (List Int)} {v : Value} {w W : World} (h : BestO B k r v w) (hb : Below w.heap.size w W) : BestO B k r v W := by
  cases r with
  | none => exact h
  | some E => obtain ⟨g, c, h1, h2⟩ := h; exact ⟨g, c, h1, h2.below hb (Nat.le_refl _)⟩
def InO (ts : List Int) (M n B : Nat) (S : List Int) (w : World) (vo vl vk : Value) (wr : World) : Prop :=
  ∃ k g c : Nat, vk = .int .i64 k ∧ k ≤ n ∧ vo = .slice (some ⟨g, 0, none⟩) k c ∧ vl = .int .i64 (nehTo ts M S k).2 ∧ Hid (OwnI wr B (.slice (some ⟨g, 0, none⟩) k c) (nehTo ts M S k).1) ∧ Hid (Below w.heap.size w wr)
def InN (ts : List Int) (M k B : Nat) (O : List Int) (x le0 : Int) (w : World) (vl vb vp : Value) (wr : World) : Prop :=
  ∃ p : Nat, vp = .int .i64 p ∧ p ≤ k + 1 ∧ vl = .int .i64 (insTo ts M O x le0 p).2 ∧ Hid (BestO B (k + 1) (insTo ts M O x le0 p).1 vb wr) ∧ Hid (Below w.heap.size w wr)
theorem nil_nil (W : World) : (binOp .eql 25 (.slice none 0 0) (.slice none 0 0)).run Try.prog W = .ok (.bool true) W := by kernel_rfl
set_option maxRecDepth 100000 in
set_option maxHeartbeats 2000000 in
theorem shInsert_any (b o T c M n : Nat) (ts : List Int) (w : World) (hv : ShW w b o T c ts) (hok : ShopOk ts M n) (h19 : n ≤ 19) :
    Calls Try.prog 28 #[shV b o T c n M] w fun e w' => (∃ g c', e = .returned (.tuple #[.slice (some ⟨g, 0, none⟩) n c', .int .i64 (nehV ts M n)]) ∧ OwnI w' w.heap.size (.slice (some ⟨g, 0, none⟩) n c') (nehL ts M n)) ∧ Below w.heap.size w w' := by
  have hmf : ∀ (fn : Fn) (first cap : Array Value) (w : World), (Instr.makeFunc fn first cap).run Try.prog w = .ok (.func fn first cap) w := fun _ _ _ _ => rfl
  have hSo := sortsL_ok (fun x => -ofF ts M x.toNat) n
  have HSL : Hid ((nehS ts M n).length = n) := by show (sortsL _ n).length = n; rw [hSo.1.length_eq, idL_length]
  have HSR : Hid (∀ q W, q < W.heap.size → Below w.heap.size w W → BoxS W q b o T c n M → Calls Try.prog 32 #[.int .i64 n, .func (.func 42) #[] #[.pointer (some ⟨q, 0, none⟩)]] W fun e w' => (∃ g c, e = .returned (.slice (some ⟨g, 0, none⟩) n c) ∧ OwnI w' W.heap.size (.slice (some ⟨g, 0, none⟩) n c) (nehS ts M n)) ∧ Below W.heap.size W w') := fun q W hq hW hx => by
    refine (sortedByB_any n 42 #[.pointer (some ⟨q, 0, none⟩)] (fun x => -ofF ts M x.toNat) W h19 (fun W' x hx0 hx1 hW' => ?_) (enters_of Try.func42 (by kernel_rfl) rfl)).mono ?_
    · obtain ⟨i, rfl⟩ : ∃ i : Nat, x = i := ⟨x.toNat, by omega⟩
      exact keyI_any b o T c n M q i ts W' (hv.below (hW.trans (hW'.mono hW.size))) hok (hx.below hW' hq) (by omega)
    · rintro e w' ⟨⟨g, c', E, k1, k2, k3, k4⟩, k5⟩
      exact ⟨⟨g, c', k1, by unfold nehS; rw [sorts_one (sortsL_ok _ n) k4]; exact k2⟩, k5⟩
  have HOR : Hid (∀ k p, k < n → p ≤ k → OrdOkF n (insAt (nehTo ts M (nehS ts M n) k).1 p (nth (nehS ts M n) k))) := fun k p hk hp => by
    have h1 := (nehTo_spec ts M (nehS ts M n) k (by rw [HSL.out]; omega)).1
    refine ordOkF_sub (k := k + 1) (S := nehS ts M n) hSo.1 ((insAt_perm _ p _).trans ?_)
    rw [List.take_succ_eq_append_getElem (by rw [HSL.out]; exact hk), ← nth_eq]
    exact h1.append_right _
  have HNL : Hid (∀ k, k ≤ n → (nehTo ts M (nehS ts M n) k).1.length = k) := fun k hk => nehTo_len (by rw [HSL.out]; exact hk)
  have HFL : Hid (∀ g k c' E W, Below w.heap.size w W → ShW W g 0 k c' E → OrdOkF n E → k ≤ 24 → Calls Try.prog 22 #[.agg #[.slice (some ⟨b, o, none⟩) T c, .int .i64 n, .int .i64 M], .slice (some ⟨g, 0, none⟩) k c'] W fun e w' => (∃ gO, e = .returned (.tuple #[.slice (some ⟨gO, 0, none⟩) T T, .int .i64 (fL ts M E)])) ∧ Below W.heap.size W w') := fun g k c' E W hW hE hord hk => (shFlow_any b o T c M n g 0 k c' ts E W (hv.below hW) hok hE hord hk).mono (fun _ _ h => ⟨⟨h.1.choose, h.1.choose_spec.1⟩, h.2⟩)
  have HNV : Hid (nehL ts M n = (nehTo ts M (nehS ts M n) n).1 ∧ nehV ts M n = (nehTo ts M (nehS ts M n) n).2) := ⟨rfl, rfl⟩
  obtain ⟨S, hS⟩ : ∃ S, nehS ts M n = S := ⟨_, rfl⟩
  rw [hS] at HSL HSR HOR HNL HNV
  unfold shV
  clear hv hok hSo hS
  obtain ⟨q, hq⟩ : ∃ q, w.heap.size = q := ⟨_, rfl⟩
  obtain ⟨W3, hW3⟩ : ∃ W, w.alloc (.cells #[.slice (some ⟨b, o, none⟩) T c, .int .i64 n, .int .i64 M] 43) = W := ⟨_, rfl⟩
  have HB3 : Hid (Below w.heap.size w W3) := by show Below _ _ _; rw [← hW3]; exact (Below.refl _ _).alloc (Nat.le_refl _) _
  have HX3 : Hid (BoxS W3 q b o T c n M) := by show BoxS _ _ _ _ _ _ _ _; rw [← hW3, ← hq]; exact BoxS.new w b o T c n M
  have HQ3 : Hid (q < W3.heap.size) := by show _ < _; rw [← hW3]; simp; omega
  have HQW : Hid (w.heap.size = q) := hq
  have HS3 : Hid (W3.heap.size = q + 1) := by show _ = _; rw [← hW3, ← hq]; simp
  have HW3 : Hid (w.alloc (.cells #[.slice (some ⟨b, o, none⟩) T c, .int .i64 n, .int .i64 M] 43) = W3) := hW3
  clear hq hW3
  go_enter Try.func28, Try.ntmps28
  go_upto_region 2 with fail
  simp only [HW3.out, HQW.out]
  obtain ⟨gA, hgA⟩ : ∃ g, q + 1 = g := ⟨_, rfl⟩
  obtain ⟨W4, hW4⟩ : ∃ W, W3.alloc (.cells #[] 2) = W := ⟨_, rfl⟩
  have HO4 : Hid (OwnI W4 w.heap.size (.slice (some ⟨gA, 0, none⟩) 0 0) [] ∧ Below W3.heap.size W3 W4) := by
    show _ ∧ _
    rw [← hW4, ← hgA, ← HS3.out]
    exact ⟨OwnI.lit W3 w.heap.size [] HB3.out.size (by unfold maxLen; simp), (Below.refl _ _).alloc (Nat.le_refl _) _⟩
  simp only [hgA, hW4]
  have hX4 := HX3.out.below HO4.out.2 HQ3.out
  have x1 := hX4.c1
  have HB4 : Hid (Below w.heap.size w W4) := HB3.out.trans (HO4.out.2.mono HB3.out.size)
  have HSR4 := Lib.hid (HSR.out q W4 (by have := HO4.out.2.size; have := HQ3.out; omega) HB4.out hX4)
  have HX4 := Lib.hid hX4
  have HQ4 : Hid (q < W4.heap.size) := by show _ < _; have := HO4.out.2.size; have := HQ3.out; omega
  have hs4 : w.heap.size ≤ W4.heap.size := HB4.out.size
  clear hgA hW4 hX4 HSR HX3 HW3
  go_wp2_with fail
  refine HSR4.out.mono ?_
  rintro e W5 ⟨⟨gE, cE, rfl, hoE⟩, hb5⟩
  have HR0 : Hid (InO ts M n w.heap.size S W5 (.slice (some ⟨gA, 0, none⟩) 0 0) (.int .i64 0) (.int .i64 0) W5) := ⟨0, gA, 0, rfl, Nat.zero_le _, rfl, rfl, HO4.out.1.below hb5 (Nat.le_refl _), Below.refl _ _⟩
  have HE5 : Hid (OwnI W5 w.heap.size (.slice (some ⟨gE, 0, none⟩) n cE) S) := hoE.mono hs4
  have HX5 : Hid (BoxS W5 q b o T c n M) := HX4.out.below hb5 HQ4.out
  have HB5 : Hid (Below w.heap.size w W5) := HB4.out.trans (hb5.mono hs4)
  have HQ5 : Hid (q < W5.heap.size) := by show _ < _; have := hb5.size; have := HQ4.out; omega
  clear hoE hb5 x1 HSR4 HO4 hs4 HX4 HB4 HQ4 HQ3 HB3
  go_wp2
  go_loopw [4, 5, 19] (fun vo vl vk wr => InO ts M n w.heap.size S W5 vo vl vk wr) (fun _ _ vk _ => n - (intOf vk).toNat)
  case atStart => exact HR0.out
  case round =>
    obtain ⟨k, g, co, rfl, hkn, rfl, rfl, HO, HB⟩ := hrel
    clear HR0
    obtain ⟨WK, hWK⟩ : ∃ W, W = wr := ⟨_, rfl⟩
    subst hWK
    by_cases hk2 : k < n
    · have k0 : (0 : Int) ≤ (k : Int) := by omega
      have k1 : (k : Int) < (n : Int) := by omega
      have w1 : IntKind.i64.wrap ((k : Int) + 1) = (k : Int) + 1 := IntWalk.i64_in _ (by omega)
      have ce := (HE5.out.below HB.out (Nat.le_refl _)).at_ HSL.out.symm k (by rw [HSL.out]; exact hk2)
      have HOL : Hid (k = (nehTo ts M S k).1.length) := (HNL.out k hkn).symm
      have HOK : Hid (∀ p, p ≤ k → OrdOkF n (insAt (nehTo ts M S k).1 p (nth S k))) := fun p hp => HOR.out k p hk2 hp
      have HNX : Hid (nehTo ts M S (k + 1) = (((insTo ts M (nehTo ts M S k).1 (nth S k) (nehTo ts M S k).2 (k + 1)).1).getD [], (insTo ts M (nehTo ts M S k).1 (nth S k) (nehTo ts M S k).2 (k + 1)).2)) := by
        show nehTo ts M S (k + 1) = _
        conv => lhs; unfold nehTo
        rw [← HOL.out]
      obtain ⟨O, hO⟩ : ∃ O, (nehTo ts M S k).1 = O := ⟨_, rfl⟩
      obtain ⟨le0, hle⟩ : ∃ l, (nehTo ts M S k).2 = l := ⟨_, rfl⟩
      obtain ⟨x, hx⟩ : ∃ x, nth S k = x := ⟨_, rfl⟩
      rw [hO] at HO HOL HOK HNX
      rw [hle] at HNX
      rw [hx] at HOK HNX ce
      rw [hle]
      have HN0 : Hid (InN ts M k w.heap.size O x le0 WK (.int .i64 le0) (.slice none 0 0) (.int .i64 0) WK) := ⟨0, rfl, Nat.zero_le _, rfl, rfl, Below.refl _ _⟩
      clear hO hle hx
      go_wp2
      clear ce
      go_loopw [5, 8, 26] (fun vl vb vp wi => InN ts M k w.heap.size O x le0 WK vl vb vp wi) (fun _ _ vp _ => k + 1 - (intOf vp).toNat)
      case atStart => exact HN0.out
      case round =>
        clear HN0
        obtain ⟨p, rfl, hpk, rfl, HBO, HBI⟩ := hrel
        have HBW : Hid (Below W5.heap.size W5 wr) := HB.out.trans (HBI.out.mono HB.out.size)
        by_cases hp2 : p < k + 1
        · have p0 : (0 : Int) ≤ (p : Int) := by omega
          have p1 : (p : Int) < (k : Int) + 1 := by omega
          have w2 : IntKind.i64.wrap ((p : Int) + 1) = (p : Int) + 1 := IntWalk.i64_in _ (by omega)
          have HCL := Lib.hid (clone_own (HO.out.below HBI.out (Nat.le_refl _)) HOL.out (by omega))
          have HSTP : Hid (insTo ts M O x le0 (p + 1) = if (insTo ts M O x le0 p).1 = none ∨ fL ts M (insAt O p x) < (insTo ts M O x le0 p).2 then (some (insAt O p x), fL ts M (insAt O p x)) else insTo ts M O x le0 p) := rfl
          have HIR : Hid (∀ g' c' Wc, OwnI Wc wr.heap.size (.slice (some ⟨g', 0, none⟩) k c') O → Below wr.heap.size wr Wc → Calls Try.prog 43 #[.slice (some ⟨g', 0, none⟩) k c', .int .i64 p, .slice (some ⟨Wc.heap.size, 0, none⟩) 1 1] (Wc.alloc (.cells #[.int .i64 x] 2)) fun e w' => ∃ g2 c2, e = .returned (.slice (some ⟨g2, 0, none⟩) (k + 1) c2) ∧ OwnI w' wr.heap.size (.slice (some ⟨g2, 0, none⟩) (k + 1) c2) (insAt O p x) ∧ Below wr.heap.size wr w') := fun g' c' Wc ho hb => by
            have hlt := ho.lt g' rfl
            refine (insert_any g' k c' Wc.heap.size wr.heap.size p O x (Wc.alloc (.cells #[.int .i64 x] 2)) (ho.alloc _) HOL.out (World.alloc_heap_new Wc _) (by omega) (by have := hb.size; simp; omega) (by omega) (by omega)).mono ?_
            rintro e w' ⟨g2, c2, h1, h2, h3⟩
            exact ⟨g2, c2, h1, h2, (hb.alloc hb.size _).grown h3 (by have := hb.size; simp; omega) (fun j e => by cases e; exact hlt.1)⟩
          have HFR : Hid (∀ g2 c2 Wi, OwnI Wi wr.heap.size (.slice (some ⟨g2, 0, none⟩) (k + 1) c2) (insAt O p x) → Below wr.heap.size wr Wi → Calls Try.prog 22 #[.agg #[.slice (some ⟨b, o, none⟩) T c, .int .i64 n, .int .i64 M], .slice (some ⟨g2, 0, none⟩) (k + 1) c2] Wi fun e w' => (∃ gO, e = .returned (.tuple #[.slice (some ⟨gO, 0, none⟩) T T, .int .i64 (fL ts M (insAt O p x))])) ∧ Below Wi.heap.size Wi w') := fun g2 c2 Wi ho hb => by
            have hl : k + 1 = (insAt O p x).length := by rw [insAt_length O (by have := HOL.out; omega), ← HOL.out]
            exact HFL.out g2 (k + 1) c2 _ Wi (HB5.out.trans ((HBW.out.trans (hb.mono HBW.out.size)).mono HB5.out.size)) (own_shw ho hl) (HOK.out p (by omega)) (by omega)
          have HXR : Hid (∀ Wi, Below wr.heap.size wr Wi → BoxS Wi q b o T c n M) := fun Wi hb => HX5.out.below (HBW.out.trans (hb.mono HBW.out.size)) HQ5.out
          obtain ⟨F, hF⟩ : ∃ F, fL ts M (insAt O p x) = F := ⟨_, rfl⟩
          rw [hF] at HSTP HFR
          clear hF
          go_wp2_with fail
          refine HCL.out.mono ?_
          rintro e Wc ⟨⟨gc, cc, rfl, hoc⟩, hbc⟩
          have HIC := Lib.hid (HIR.out gc cc Wc hoc hbc)
          clear hoc hbc HCL HIR
          go_wp2_with fail
          refine HIC.out.mono ?_
          rintro e Wi ⟨g2, c2, rfl, hoi, hbi⟩
          have HFC := Lib.hid (HFR.out g2 c2 Wi hoi hbi)
          have hX := HXR.out Wi hbi
          have x0 := hX.c0
          have x1 := hX.c1
          have x2 := hX.c2
          have HOI := Lib.hid (And.intro hoi hbi)
          clear hoi hbi hX HIC HFR HXR
          go_wp2_with fail
          refine HFC.out.mono ?_
          rintro e Wf ⟨⟨gO, rfl⟩, hbf⟩
          have HOF : Hid (OwnI Wf wr.heap.size (.slice (some ⟨g2, 0, none⟩) (k + 1) c2) (insAt O p x) ∧ Below wr.heap.size wr Wf) := ⟨HOI.out.1.below hbf (Nat.le_refl _), HOI.out.2.trans (hbf.mono HOI.out.2.size)⟩
          have HBF : Hid (Below WK.heap.size WK Wf) := HBI.out.trans (HOF.out.2.mono HBI.out.size)
          clear hbf HFC HOI x0 x1 x2
          have HSZ : Hid (w.heap.size ≤ wr.heap.size) := by show _ ≤ _; have := HB5.out.size; have := HBW.out.size; omega
          have HBO2 : Hid (BestO w.heap.size (k + 1) (insTo ts M O x le0 p).1 u8 Wf) := (HBO.out.below (HOF.out.2))
          have hnn := nil_nil
          have hsn := sl_nil
          by_cases hr : (insTo ts M O x le0 p).1 = none
          · have hu : u8 = .slice none 0 0 := by have h := HBO2.out; rw [hr] at h; exact h
            have HVN : Hid (insTo ts M O x le0 (p + 1) = (some (insAt O p x), F)) := by show _ = _; rw [HSTP.out, if_pos (.inl hr)]
            have HBN : Hid (BestO w.heap.size (k + 1) (insTo ts M O x le0 (p + 1)).1 (.slice (some ⟨g2, 0, none⟩) (k + 1) c2) Wf) := by show BestO _ _ _ _ _; rw [HVN.out]; exact ⟨g2, c2, rfl, HOF.out.1.mono HSZ.out⟩
            subst hu
            clear hr HSTP HBO HBO2
            go_wp2
            go_roundw
            case rel => exact ⟨p + 1, by go_num, by omega, by rw [HVN.out], HBN.out, HBF.out⟩
            case measure => simp [intOf]; omega
          · obtain ⟨g3, c3, hu⟩ : ∃ g3 c3, u8 = .slice (some ⟨g3, 0, none⟩) (k + 1) c3 := by
              have h := HBO2.out
              rcases hq : (insTo ts M O x le0 p).1 with _ | E
              · exact absurd hq hr
              · rw [hq] at h; obtain ⟨g3, c3, h1, _⟩ := h; exact ⟨g3, c3, h1⟩
            subst hu
            by_cases hlt : F < (insTo ts M O x le0 p).2
            · have HVN : Hid (insTo ts M O x le0 (p + 1) = (some (insAt O p x), F)) := by show _ = _; rw [HSTP.out, if_pos (.inr hlt)]
              have HBN : Hid (BestO w.heap.size (k + 1) (insTo ts M O x le0 (p + 1)).1 (.slice (some ⟨g2, 0, none⟩) (k + 1) c2) Wf) := by show BestO _ _ _ _ _; rw [HVN.out]; exact ⟨g2, c2, rfl, HOF.out.1.mono HSZ.out⟩
              obtain ⟨le, hle⟩ : ∃ l, (insTo ts M O x le0 p).2 = l := ⟨_, rfl⟩
              rw [hle] at hlt
              simp only [hle]
              clear hr HSTP HBO HBO2 hle
              go_wp2
              go_roundw
              case rel => exact ⟨p + 1, by go_num, by omega, by rw [HVN.out], HBN.out, HBF.out⟩
              case measure => simp [intOf]; omega
            · have HVN : Hid (insTo ts M O x le0 (p + 1) = insTo ts M O x le0 p) := by show _ = _; rw [HSTP.out, if_neg (fun h => h.elim hr hlt)]
              have HBN : Hid (BestO w.heap.size (k + 1) (insTo ts M O x le0 (p + 1)).1 (.slice (some ⟨g3, 0, none⟩) (k + 1) c3) Wf) := by show BestO _ _ _ _ _; rw [HVN.out]; exact HBO2.out
              have HVM : Hid ((insTo ts M O x le0 p).2 = (insTo ts M O x le0 (p + 1)).2) := by show _ = _; rw [HVN.out]
              obtain ⟨le, hle⟩ : ∃ l, (insTo ts M O x le0 p).2 = l := ⟨_, rfl⟩
              rw [hle] at hlt HVM
              simp only [hle]
              clear hr HSTP HBO HBO2 hle
              go_wp2
              go_roundw
              case rel => exact ⟨p + 1, by go_num, by omega, by rw [HVM.out], HBN.out, HBF.out⟩
              case measure => simp [intOf]; omega
        · have p1 : ¬ (p : Int) < (k : Int) + 1 := by omega
          obtain rfl : p = k + 1 := by omega
          obtain ⟨y, hy1, hy2⟩ := insTo_spec ts M O x le0 (k + 1) (by omega)
          have hb := HBO.out
          rw [hy2] at hb
          obtain ⟨g3, c3, hu, ho3⟩ := hb
          subst hu
          have HV : Hid (fL ts M (insAt O y x) = (nehTo ts M S (k + 1)).2) := by show _ = _; rw [HNX.out, hy2]
          have HO3 : Hid (OwnI wr w.heap.size (.slice (some ⟨g3, 0, none⟩) (k + 1) c3) (nehTo ts M S (k + 1)).1) := by show OwnI _ _ _ _; rw [HNX.out, hy2]; exact ho3
          rw [hy2]
          obtain ⟨F, hF⟩ : ∃ F, fL ts M (insAt O y x) = F := ⟨_, rfl⟩
          simp only [hF]
          rw [hF] at HV
          clear hF hy1 hy2 ho3 HBO HBI HNX HOK HO
          go_wp2
          go_roundw
          case rel => exact ⟨k + 1, g3, c3, by go_num, by omega, rfl, by rw [HV.out], HO3.out, HBW.out⟩
          case measure => simp [intOf]; omega
    · have k1 : ¬ (k : Int) < (n : Int) := by omega
      obtain rfl : k = n := by omega
      have HFIN : Hid (OwnI WK w.heap.size (.slice (some ⟨g, 0, none⟩) k co) (nehL ts M k) ∧ Below w.heap.size w WK) := ⟨by rw [HNV.out.1]; exact HO.out, HB5.out.trans (HB.out.mono HB5.out.size)⟩
      have HVV : Hid ((nehTo ts M S k).2 = nehV ts M k) := HNV.out.2.symm
      rw [HVV.out]
      clear HO HB
      go_wp2
      go_ret2
      exact ⟨⟨g, co, rfl, HFIN.out.1⟩, HFIN.out.2⟩
/-- InsertOrder on valid times. -/
theorem InsertOrder_any (b o T c M n : Nat) (ts : List Int) (w : World) (hv : ShW w b o T c ts) (hok : ShopOk ts M n) (h19 : n ≤ 19) :
    Calls Try.prog 12 #[.slice (some ⟨b, o, none⟩) T c, .int .i64 M] w fun e w' => (∃ g c', e = .returned (.tuple #[.slice (some ⟨g, 0, none⟩) n c', .int .i64 (nehV ts M n), .bool true]) ∧ OwnI w' w.heap.size (.slice (some ⟨g, 0, none⟩) n c') (nehL ts M n)) ∧ Below w.heap.size w w' := by
  have hT : T ≤ 1000 := by have := hok.big; have h2 := hok.len; have h3 := hv.len; omega
  have HAS := Lib.hid (asShop_any b o T c ts M n w (hv.ints hT) hok)
  have HIN : Hid (∀ W, Below w.heap.size w W → Calls Try.prog 28 #[.agg #[.slice (some ⟨b, o, none⟩) T c, .int .i64 n, .int .i64 M]] W fun e w' => (∃ g c', e = .returned (.tuple #[.slice (some ⟨g, 0, none⟩) n c', .int .i64 (nehV ts M n)]) ∧ OwnI w' w.heap.size (.slice (some ⟨g, 0, none⟩) n c') (nehL ts M n)) ∧ Below w.heap.size w w') := fun W hW => (shInsert_any b o T c M n ts W (hv.below hW) hok h19).mono (by
    rintro e w' ⟨⟨g, c', h1, h2⟩, h3⟩
    exact ⟨⟨g, c', h1, h2.mono hW.size⟩, hW.trans (h3.mono hW.size)⟩)
  unfold shV at HAS
  clear hv hok hT
  go_enter Try.func12, Try.ntmps12
  go_wp2_with fail
  refine HAS.out.mono ?_
  rintro e W2 ⟨rfl, hb2⟩
  have HB3 : Hid (Below w.heap.size w (W2.alloc (.cells #[.slice (some ⟨b, o, none⟩) T c, .int .i64 n, .int .i64 M] 43))) := hb2.alloc hb2.size _
  have HIC := Lib.hid (HIN.out _ HB3.out)
  clear hb2 HAS HIN
  go_wp2_with fail
  refine HIC.out.mono ?_
  rintro e W4 ⟨⟨g, c', rfl, ho⟩, hb⟩
  have HO := Lib.hid (And.intro ho hb)
  clear ho hb HIC
  go_wp2
  go_ret3
  exact ⟨⟨g, c', rfl, HO.out.1⟩, HO.out.2⟩
end Go.Proofs.Ytckdfahbhagoaaa

namespace Go.Proofs.Ytckdfahbhagoaaa
open Go.RowKit
set_option linter.unusedVariables false
set_option linter.unusedSimpArgs false

theorem areWorkersF_any (n : Int) (w : World) : Calls Try.prog 35 #[.int .i64 n] w fun e w' => e = .returned (.bool (win n 1 8)) ∧ w = w' := by
  go_enter Try.func35, Try.ntmps35
  go_wp2_with (go_at_call 48; refine (within_any _ _ _ _).mono ?_; rintro e w' ⟨rfl, rfl⟩)
  go_ret
  exact ⟨rfl, rfl⟩
def FsR (v : Int) (w : World) (vo vk : Value) (wr : World) : Prop :=
  ∃ (k g c : Nat), k ≤ 1 ∧ vk = .int .i64 k ∧ vo = .slice (some ⟨g, 0, none⟩) k c ∧ Hid (OwnI wr w.heap.size (.slice (some ⟨g, 0, none⟩) k c) ([v].take k)) ∧ Hid (Below w.heap.size w wr)
set_option maxRecDepth 100000 in
set_option maxHeartbeats 1000000 in
theorem FlowsShared_any (bl ol cl b o T c M n : Nat) (ts : List Int) (workers : Int) (w : World) (hv : ShW w b o T c ts) (hok : ShopOk ts M n) (h19 : n ≤ 19) (hcl : 1 ≤ cl) (hl : w.cell? ⟨bl, ol, none⟩ = some (.slice (some ⟨b, o, none⟩) T c)) (hw : 1 ≤ workers ∧ workers ≤ 8) :
    Calls Try.prog 17 #[.slice (some ⟨bl, ol, none⟩) 1 cl, .int .i64 M, .int .i64 workers] w fun e w' => (∃ g c, e = .returned (.tuple #[.slice (some ⟨g, 0, none⟩) 1 c, .bool true]) ∧ OwnI w' w.heap.size (.slice (some ⟨g, 0, none⟩) 1 c) [nehV ts M n]) ∧ Below w.heap.size w w' := by
  have HWK : Hid (∀ W, Calls Try.prog 35 #[.int .i64 workers] W fun e w' => e = .returned (.bool true) ∧ W = w') := fun W => by
    have h := areWorkersF_any workers W
    rwa [show win workers 1 8 = true from win_true.2 hw] at h
  have HR : Hid (∀ W, Below w.heap.size w W → Calls Try.prog 12 #[.slice (some ⟨b, o, none⟩) T c, .int .i64 M] W fun e w' => (∃ g c', e = .returned (.tuple #[.slice (some ⟨g, 0, none⟩) n c', .int .i64 (nehV ts M n), .bool true])) ∧ Below W.heap.size W w') := fun W hW => (InsertOrder_any b o T c M n ts W (hv.below hW) hok h19).mono (by
    rintro e w' ⟨⟨g, c', h1, h2⟩, h3⟩
    exact ⟨⟨g, c', h1⟩, h3⟩)
  have HC : Hid (∀ W, Below w.heap.size w W → W.cell? ⟨bl, ol, none⟩ = some (.slice (some ⟨b, o, none⟩) T c)) := fun W hW => (hW.cell (p := ⟨bl, ol, none⟩) (lt_of_cell hl)).trans hl
  obtain ⟨v, hve⟩ : ∃ v, nehV ts M n = v := ⟨_, rfl⟩
  rw [hve] at HR ⊢
  clear hv hok hl hve
  have HR0 : Hid (FsR v w (.slice (some ⟨w.heap.size, 0, none⟩) 0 0) (.int .i64 0) (w.alloc (.cells #[] 2))) :=
    ⟨0, w.heap.size, 0, Nat.zero_le _, rfl, rfl, by
      have h := (OwnI.lit w w.heap.size [] (Nat.le_refl _) (by unfold maxLen; simp))
      show OwnI _ _ _ _
      simpa using h, (Below.refl _ w).alloc (Nat.le_refl _) _⟩
  go_enter Try.func17, Try.ntmps17
  go_wp2_with fail
  refine (HWK.out _).mono ?_
  rintro e w' ⟨rfl, rfl⟩
  go_wp2_with fail
  go_loopw [8, 30] (fun vo vk wr => FsR v w vo vk wr) (fun _ vk _ => 1 - (intOf vk).toNat)
  case atStart => exact HR0.out
  case round =>
    obtain ⟨k, g, c8, hk, rfl, rfl, HO, HB⟩ := hrel
    clear HR0
    by_cases hk1 : k < 1
    · obtain rfl : k = 0 := by omega
      have cc := HC.out wr HB.out
      have HRX := Lib.hid (HR.out wr HB.out)
      clear HC HR
      go_wp2_with (first
        | (go_at_call 12; refine HRX.out.mono ?_; rintro e W2 ⟨⟨g2, c2, rfl⟩, hb2⟩; have HB2 : Hid (Below w.heap.size w W2) := HB.out.trans (hb2.mono HB.out.size); have HO2 := Lib.hid (HO.out.below hb2 (Nat.le_refl _)); have hs2 : w.heap.size ≤ W2.heap.size := HB2.out.size; clear hb2)
        | (at_builtin; refine append_i64 rfl _ _ rfl w.heap.size (.slice (some ⟨g, 0, none⟩) 0 c8) [] [v] (Nat.zero_lt_succ _) rfl _ rfl HO2.out hs2 (by simp) ?_; intro g3 c3 w3 ho3 hg3; have hb3 := Below.app HB2.out HO2.out hg3 hs2; have HO3 := Lib.hid ho3; have HB3 := Lib.hid hb3; clear ho3 hb3 hg3))
      go_roundw
      case rel => exact ⟨1, g3, c3, Nat.le_refl _, by go_num, rfl, HO3.out, HB3.out⟩
      case measure => simp [intOf]
    · obtain rfl : k = 1 := by omega
      go_wp2
      go_ret2
      exact ⟨⟨g, c8, rfl, HO.out⟩, HB.out⟩
end Go.Proofs.Ytckdfahbhagoaaa

namespace Go.Proofs.Ytckdfahbhagoaaa
open Go.RowKit
set_option linter.unusedVariables false
set_option linter.unusedSimpArgs false

theorem first_flow {ts : List Int} {M n : Nat} {l : Int} {b : List Int} (h : firstL n (flowF ts M) = some (b, l)) : b.Perm (idL n) ∧ fL ts M b = l ∧ ∀ E : List Int, E.Perm (idL n) → l ≤ fL ts M E := by
  obtain ⟨h1, h2, h3⟩ := firstL_spec.2 b l h
  exact ⟨h1, by injection h2, fun E hE => h3 E hE _ rfl⟩
theorem first_flow_ex (ts : List Int) (M n : Nat) : ∃ b l, firstL n (flowF ts M) = some (b, l) := by
  cases h : firstL n (flowF ts M) with
  | none => have := firstL_spec.1 h (idL n) (List.Perm.refl _); cases this
  | some p => exact ⟨p.1, p.2, rfl⟩
theorem nehL_perm (ts : List Int) (M n : Nat) : (nehL ts M n).Perm (idL n) := by
  have h := (sortsL_ok (fun x => -ofF ts M x.toNat) n).1
  have hl : (nehS ts M n).length = n := by show (sortsL _ n).length = n; rw [h.length_eq, idL_length]
  have h2 := (nehTo_spec ts M (nehS ts M n) n (by rw [hl]; exact Nat.le_refl _)).1
  rw [List.take_of_length_le (by rw [hl]; exact Nat.le_refl _)] at h2
  exact h2.trans h
theorem nehV_eq (ts : List Int) (M n : Nat) (h1 : 1 ≤ n) : nehV ts M n = fL ts M (nehL ts M n) := by
  have h := (sortsL_ok (fun x => -ofF ts M x.toNat) n).1
  have hl : (nehS ts M n).length = n := by show (sortsL _ n).length = n; rw [h.length_eq, idL_length]
  exact (nehTo_spec ts M (nehS ts M n) n (by rw [hl]; exact Nat.le_refl _)).2 (by omega)
/-- Times that a law draws. -/
structure DrF (ts : List Int) (T : Nat) : Prop where
  len : T = ts.length
  tm : ∀ x ∈ ts, 1 ≤ x ∧ x ≤ 9
theorem DrF.ok {ts : List Int} {T M n : Nat} (h : DrF ts T) (hT : T = n * M) (h1 : 1 ≤ n) (h2 : n ≤ 5) (h3 : 1 ≤ M) (h4 : M ≤ 3) : ShopOk ts M n :=
  ⟨by rw [← h.len, hT], h3, by omega, h1, by omega, fun x hx => by have := h.tm x hx; omega⟩
/-- What the law's calls give. -/
structure FlE (ts ord bst ins : List Int) (M n g0 T c : Nat) (last least bound rule rush block : Int) (w : World) : Prop where
  fe : ∀ go co W, Below w.heap.size w W → ShW W go 0 n co ord → Calls Try.prog 8 #[.slice (some ⟨g0, 0, none⟩) T c, .int .i64 M, .slice (some ⟨go, 0, none⟩) n co] W fun e w' => (∃ gO, e = .returned (.tuple #[.slice (some ⟨gO, 0, none⟩) T T, .bool true]) ∧ ∃ outs, OwnI w' W.heap.size (.slice (some ⟨gO, 0, none⟩) T T) outs ∧ EndsF ts M ord outs) ∧ Below W.heap.size W w'
  fl : ∀ go co W, Below w.heap.size w W → ShW W go 0 n co ord → Calls Try.prog 9 #[.slice (some ⟨g0, 0, none⟩) T c, .int .i64 M, .slice (some ⟨go, 0, none⟩) n co] W fun e w' => e = .returned (.tuple #[.int .i64 last, .bool true]) ∧ Below W.heap.size W w'
  bf : ∀ W, Below w.heap.size w W → Calls Try.prog 10 #[.slice (some ⟨g0, 0, none⟩) T c, .int .i64 M] W fun e w' => (∃ g c', e = .returned (.tuple #[.slice (some ⟨g, 0, none⟩) n c', .int .i64 least, .bool true]) ∧ ShW w' g 0 n c' bst) ∧ Below W.heap.size W w'
  fb : ∀ go co W, Below w.heap.size w W → ShW W go 0 n co bst → Calls Try.prog 9 #[.slice (some ⟨g0, 0, none⟩) T c, .int .i64 M, .slice (some ⟨go, 0, none⟩) n co] W fun e w' => e = .returned (.tuple #[.int .i64 least, .bool true]) ∧ Below W.heap.size W w'
  bd : ∀ W, Below w.heap.size w W → Calls Try.prog 11 #[.slice (some ⟨g0, 0, none⟩) T c, .int .i64 M] W fun e w' => e = .returned (.tuple #[.int .i64 bound, .bool true]) ∧ Below W.heap.size W w'
  io : ∀ W, Below w.heap.size w W → Calls Try.prog 12 #[.slice (some ⟨g0, 0, none⟩) T c, .int .i64 M] W fun e w' => (∃ g c', e = .returned (.tuple #[.slice (some ⟨g, 0, none⟩) n c', .int .i64 rule, .bool true]) ∧ ShW w' g 0 n c' ins) ∧ Below W.heap.size W w'
  fi : ∀ go co W, Below w.heap.size w W → ShW W go 0 n co ins → Calls Try.prog 9 #[.slice (some ⟨g0, 0, none⟩) T c, .int .i64 M, .slice (some ⟨go, 0, none⟩) n co] W fun e w' => e = .returned (.tuple #[.int .i64 rule, .bool true]) ∧ Below W.heap.size W w'
  ng : ∀ W, Below w.heap.size w W → Calls Try.prog 13 #[.slice (some ⟨g0, 0, none⟩) T c, .int .i64 M] W fun e w' => (∃ g z c', e = .returned (.tuple #[.slice (some ⟨g, 0, none⟩) z c', .bool true]) ∧ z = n * n ∧ ∃ out, ShW w' g 0 z c' out ∧ GapsF ts M n out) ∧ Below W.heap.size W w'
  nw : ∀ go co W, Below w.heap.size w W → ShW W go 0 n co ord → Calls Try.prog 14 #[.slice (some ⟨g0, 0, none⟩) T c, .int .i64 M, .slice (some ⟨go, 0, none⟩) n co] W fun e w' => e = .returned (.tuple #[.int .i64 rush, .bool true]) ∧ Below W.heap.size W w'
  bl : ∀ go co W, Below w.heap.size w W → ShW W go 0 n co ord → Calls Try.prog 15 #[.slice (some ⟨g0, 0, none⟩) T c, .int .i64 M, .slice (some ⟨go, 0, none⟩) n co] W fun e w' => e = .returned (.tuple #[.int .i64 block, .bool true]) ∧ Below W.heap.size W w'
  fs : ∀ bl cl (k : Int) W, Below w.heap.size w W → 1 ≤ cl → W.cell? ⟨bl, 0, none⟩ = some (.slice (some ⟨g0, 0, none⟩) T c) → 1 ≤ k ∧ k ≤ 8 → Calls Try.prog 17 #[.slice (some ⟨bl, 0, none⟩) 1 cl, .int .i64 M, .int .i64 k] W fun e w' => (∃ g c', e = .returned (.tuple #[.slice (some ⟨g, 0, none⟩) 1 c', .bool true]) ∧ w'.cell? ⟨g, 0, none⟩ = some (.int .i64 rule)) ∧ Below W.heap.size W w'
  l1 : bound ≤ least
  l2 : least ≤ rule
  l3 : least ≤ last
  l4 : block ≤ rush
  l5 : last ≤ block
  ev : last = fC ts M ord n (M - 1)
  rv : rush = sF (tF ts M (nth ord (n - 1)).toNat) M + nwS ts M ord (n - 1)
theorem flE (ts ord : List Int) (M n g0 T c : Nat) (w : World) (hv : ShW w g0 0 T c ts) (hd : DrF ts T) (hT : T = n * M) (h1 : 1 ≤ n) (h2 : n ≤ 5) (h3 : 1 ≤ M) (h4 : M ≤ 3) (ho : ord.Perm (idL n)) :
    ∃ bst ins last least bound rule rush block, FlE ts ord bst ins M n g0 T c last least bound rule rush block w := by
  have hok := hd.ok hT h1 h2 h3 h4
  obtain ⟨bst, least, hb⟩ := first_flow_ex ts M n
  obtain ⟨p1, p2, p3⟩ := first_flow hb
  have hol : ord.length = n := by rw [ho.length_eq, idL_length]
  have hTm := hok.tmF (ordOkF_perm ho).el
  refine ⟨bst, nehL ts M n, fL ts M ord, least, bdTo ts M n M, nehV ts M n, nwL ts M ord, bC ts M ord n (M - 1), fun go co W hW hE => ?_, fun go co W hW hE => ?_, fun W hW => ?_, fun go co W hW hE => ?_, fun W hW => ?_, fun W hW => ?_, fun go co W hW hE => ?_, fun W hW => ?_, fun go co W hW hE => ?_, fun go co W hW hE => ?_, fun bl cl k W hW hc hl hk => ?_, ?_, ?_, p3 ord ho, ?_, ?_, ?_, ?_⟩
  · exact FlowEnds_any g0 0 T c M n go 0 n co ts ord W (hv.below hW) hok hE ho
  · exact FlowLast_any g0 0 T c M n go 0 n co ts ord W (hv.below hW) hok hE ho
  · refine (BestFlow_any g0 0 T c M n ts W (hv.below hW) hok (by omega)).mono ?_
    rintro e w' ⟨⟨E, l, g, c', k1, k2, k3⟩, k5⟩
    rw [hb] at k1; injection k1 with k1; injection k1 with k1 k4; subst k1 k4
    exact ⟨⟨g, c', k2, own_shw k3 (by rw [p1.length_eq, idL_length])⟩, k5⟩
  · have h := FlowLast_any g0 0 T c M n go 0 n co ts bst W (hv.below hW) hok hE p1
    rwa [p2] at h
  · exact FlowBound_any g0 0 T c M n ts W (hv.below hW) hok
  · refine (InsertOrder_any g0 0 T c M n ts W (hv.below hW) hok (by omega)).mono ?_
    rintro e w' ⟨⟨g, c', k2, k3⟩, k5⟩
    exact ⟨⟨g, c', k2, own_shw k3 (by rw [(nehL_perm ts M n).length_eq, idL_length])⟩, k5⟩
  · have h := FlowLast_any g0 0 T c M n go 0 n co ts _ W (hv.below hW) hok hE (nehL_perm ts M n)
    rwa [← nehV_eq ts M n h1] at h
  · refine (NoWaitGaps_any g0 0 T c M n ts W (hv.below hW) hok).mono ?_
    rintro e w' ⟨⟨g, z, c', k1, k2, out, k3, k4⟩, k5⟩
    refine ⟨⟨g, z, c', k1, k2, out, own_shw k3 ?_, k4⟩, k5⟩
    obtain ⟨_, a, c2, e, _⟩ := k3.ints
    cases e
    rfl
  · exact NoWaitLast_any g0 0 T c M n go 0 n co ts ord W (hv.below hW) hok hE ho
  · exact BlockLast_any g0 0 T c M n go 0 n co ts ord W (hv.below hW) hok hE ho
  · refine (FlowsShared_any bl 0 cl g0 0 T c M n ts k W (hv.below hW) hok (by omega) hc hl hk).mono ?_
    rintro e w' ⟨⟨g, c', k1, k2⟩, k3⟩
    exact ⟨⟨g, c', k1, k2.at_ rfl 0 (by simp)⟩, k3⟩
  · have h := bdTo_le hok p1 M (Nat.le_refl _)
    rwa [p2] at h
  · rw [nehV_eq ts M n h1]; exact p3 _ (nehL_perm ts M n)
  · have h := nw_ge hTm h3 (n - 1) (by omega) (M - 1) (by omega)
    rw [show n - 1 + 1 = n by omega, show M - 1 + 1 = M by omega] at h
    unfold nwL ofF
    rw [hol, Int.add_comm]
    exact h
  · have h := bC_ge hTm n (by omega) (M - 1) (by omega)
    unfold fL
    rw [hol]
    exact h
  · unfold fL; rw [hol]
  · unfold nwL ofF; rw [hol]
/-- What the calls on two machines give. -/
structure FlP (ps : List Int) (n g0 T c : Nat) (exact : Int) (w : World) : Prop where
  tw : ∀ W, Below w.heap.size w W → Calls Try.prog 16 #[.slice (some ⟨g0, 0, none⟩) T c] W fun e w' => (∃ g c', e = .returned (.tuple #[.slice (some ⟨g, 0, none⟩) n c', .bool true]) ∧ ShW w' g 0 n c' (twoL ps n)) ∧ Below W.heap.size W w'
  fl : ∀ go co W, Below w.heap.size w W → ShW W go 0 n co (twoL ps n) → Calls Try.prog 9 #[.slice (some ⟨g0, 0, none⟩) T c, .int .i64 2, .slice (some ⟨go, 0, none⟩) n co] W fun e w' => e = .returned (.tuple #[.int .i64 exact, .bool true]) ∧ Below W.heap.size W w'
  bf : ∀ W, Below w.heap.size w W → Calls Try.prog 10 #[.slice (some ⟨g0, 0, none⟩) T c, .int .i64 2] W fun e w' => (∃ g c', e = .returned (.tuple #[.slice (some ⟨g, 0, none⟩) n c', .int .i64 exact, .bool true])) ∧ Below W.heap.size W w'
theorem flP (ps : List Int) (n g0 T c : Nat) (w : World) (hv : ShW w g0 0 T c ps) (hd : DrF ps T) (hT : T = n * 2) (h1 : 1 ≤ n) (h2 : n ≤ 5) : ∃ exact, FlP ps n g0 T c exact w := by
  have hok : ShopOk ps 2 n := hd.ok hT h1 h2 (by omega) (by omega)
  obtain ⟨bst, least, hb⟩ := first_flow_ex ps 2 n
  obtain ⟨p1, p2, p3⟩ := first_flow hb
  have hJ := twoL_ok ps n
  have he : fL ps 2 (twoL ps n) = least := by
    have a1 := johnson hJ p1 (hok.tmF (ordOkF_perm hJ.perm).el) (hok.tmF (ordOkF_perm p1).el) h1
    have a2 := p3 _ hJ.perm
    omega
  refine ⟨least, fun W hW => ?_, fun go co W hW hE => ?_, fun W hW => ?_⟩
  · refine (TwoOrder_any g0 0 T c n ps W (hv.below hW) hok (by omega)).mono ?_
    rintro e w' ⟨⟨g, c', k2, k3⟩, k5⟩
    exact ⟨⟨g, c', k2, own_shw k3 (by rw [hJ.perm.length_eq, idL_length])⟩, k5⟩
  · have h := FlowLast_any g0 0 T c 2 n go 0 n co ps _ W (hv.below hW) hok hE hJ.perm
    rw [he] at h
    exact h
  · refine (BestFlow_any g0 0 T c 2 n ps W (hv.below hW) hok (by omega)).mono ?_
    rintro e w' ⟨⟨E, l, g, c', k1, k2, k3⟩, k5⟩
    rw [hb] at k1; injection k1 with k1; injection k1 with k1 k4; subst k1 k4
    exact ⟨⟨g, c', k2⟩, k5⟩
end Go.Proofs.Ytckdfahbhagoaaa

namespace Go.Proofs.Ytckdfahbhagoaaa
open Go.RowKit Go.Shelf Go.BigFrame
set_option linter.unusedVariables false
set_option linter.unusedSimpArgs false

def TimD (A t : Nat) (v : Value) (w : World) (vo vn : Value) (wr : World) : Prop :=
  ∃ (n k g c a : Nat) (ys : List Int), n ≤ t ∧ vn = .int .i64 n ∧ vo = .slice (some ⟨g, 0, none⟩) k c ∧ k + n = t ∧ a ≤ k ∧ Hid (k = ys.length) ∧ Hid (∀ x ∈ ys, 1 ≤ x ∧ x ≤ 9) ∧ Hid (OwnI wr (A + 1) (.slice (some ⟨g, 0, none⟩) k c) ys) ∧ Hid (Src wr A v a) ∧ Hid (Below A w wr)
set_option maxRecDepth 100000 in
set_option maxHeartbeats 2000000 in
theorem R8Times_any (v : Value) (xs : List Int) (t : Nat) (w : World) (hv : Byts w v xs) (hb : ∀ n ∈ xs, (Lit.int .u8 n).wf = true) (h2 : t ≤ 200) :
    Calls Try.prog 6 #[v, .int .i64 (t : Int)] w fun e w' => (∃ g c, e = .returned (.slice (some ⟨g, 0, none⟩) t c) ∧ ∃ ys, OwnI w' w.heap.size (.slice (some ⟨g, 0, none⟩) t c) ys ∧ t = ys.length ∧ ∀ x ∈ ys, 1 ≤ x ∧ x ≤ 9) ∧ Below w.heap.size w w' := by
  have HFR := Lib.hid (from_any v xs w hv)
  have HPK : Hid (∀ g a (n : Int) W, Below w.heap.size w W → Src W g v a → a ≤ 1099511627776 → n ≤ 200 → Calls Try.prog 19 #[.pointer (some ⟨g, 0, none⟩), .int .i64 n] W fun e w' => (∃ x : Int, e = .returned (.int .i64 x) ∧ 0 ≤ x ∧ (1 ≤ n → x < n)) ∧ (∃ a', a' ≤ a + 1 ∧ Src w' g v a') ∧ GrownL [g] W w') := fun g a n W hW hs ha hn => pick_any v xs g a n W (hv.below hW (Nat.le_refl _)) hb hs ha hn
  clear hv hb
  obtain ⟨A, hA⟩ : ∃ A, w.heap.size = A := ⟨_, rfl⟩
  have HA := Lib.hid hA
  have HSZ : Hid (∀ W, Below A w W → A ≤ W.heap.size) := fun W h => by rw [← hA]; exact h.size
  clear hA
  go_enter Try.func6, Try.ntmps6
  go_wp2_with fail
  refine HFR.out.mono ?_
  rintro e W1 ⟨rfl, hs1, hb1, hz1⟩
  rw [HA.out] at hs1 hb1 hz1
  obtain ⟨W2, hW2⟩ : ∃ W, W1.alloc (.cells #[] 2) = W := ⟨_, rfl⟩
  have HR0 : Hid (TimD A t v w (.slice (some ⟨W1.heap.size, 0, none⟩) 0 0) (.int .i64 t) W2) := by
    show TimD _ _ _ _ _ _ _
    rw [← hW2]
    exact ⟨t, 0, W1.heap.size, 0, 0, [], Nat.le_refl _, rfl, rfl, by omega, Nat.le_refl _, rfl, (fun x hx => by cases hx), OwnI.lit W1 (A + 1) [] (by omega) (by unfold maxLen; simp), hs1.grown ((GrownL.refl [] W1).alloc _) (by simp), hb1.alloc (by omega) _⟩
  clear hs1 hb1 hz1
  rw [HA.out]
  go_wp2
  go_loopw [6, 1] (fun vo vn wr => TimD A t v w vo vn wr) (fun _ vn _ => (intOf vn).toNat)
  case atStart => exact HR0.out
  case round =>
    obtain ⟨n, k, g, c, a, ys, hn, rfl, rfl, hkn, ha, HK, HP, HO, HS, HB⟩ := hrel
    clear HR0 hW2
    by_cases hgo : 0 < n
    · have i1 : (n : Int) > 0 := by omega
      have hgA : A + 1 ≤ g ∧ g < wr.heap.size := HO.out.lt g rfl
      go_wp2_with fail
      refine (HPK.out _ _ _ _ (by rw [HA.out]; exact HB.out) HS.out (by omega) (by omega)).mono ?_
      rintro e W3 ⟨⟨p, rfl, p0, p1⟩, ⟨a3, ha3, hs3⟩, hg3⟩
      have p1 := p1 (by omega)
      have HS3 := Lib.hid hs3
      have HO3 := Lib.hid (hg3.own HO.out (by simp; omega))
      have HB3 : Hid (Below A w W3) := hg3.toBelow HB.out (HSZ.out _ HB.out) (by simp; omega)
      clear hs3 hg3 HS HO HB
      have w1 : IntKind.i64.wrap (1 + p) = 1 + p := IntWalk.i64_in _ (by omega)
      have hA4 : A + 1 ≤ W3.heap.size := by have := HS3.out.lt; omega
      have HKL : Hid (ys.length = k) := HK.out.symm
      go_wp2_with (at_builtin; refine append_i64L rfl _ _ rfl (A + 1) (.slice (some ⟨g, 0, none⟩) k c) ys [1 + p] (Nat.zero_lt_succ _) rfl _ rfl HO3.out hA4 (by rw [HKL.out]; simp only [List.length_singleton]; omega) ?_; intro g1 c1 w5 ho1 hg1 hl1; have HA1 := Lib.hid (And.intro ho1 hg1); simp only [HKL.out, List.length_singleton] at HA1 ⊢; clear ho1 hg1 hl1)
      go_roundw
      case rel =>
        obtain ⟨ho1, hg1⟩ := HA1.out
        refine ⟨n - 1, k + 1, g1, c1, a3, ys ++ [1 + p], by omega, by go_num, rfl, by omega, by omega, by show _ = _; rw [List.length_append, HKL.out]; rfl, fun x hx => ?_, ho1, ?_, Below.app HB3.out (HO3.out.mono (by omega)) hg1 (HSZ.out _ HB3.out)⟩
        · rcases List.mem_append.1 hx with h | h
          · exact HP.out x h
          · rw [List.mem_singleton] at h; subst h; omega
        · exact HS3.out.grown ((GrownL.refl [g] W3).grown hg1 (fun j e => .inl (by rw [ownBlock_slice] at e; injection e with e; simp [e]))) (by simp; omega)
      case measure => simp [intOf]; omega
    · have i1 : ¬ (n : Int) > 0 := by omega
      obtain rfl : k = t := by omega
      have HR : Hid (∃ ys, OwnI wr w.heap.size (.slice (some ⟨g, 0, none⟩) k c) ys ∧ k = ys.length ∧ ∀ x ∈ ys, 1 ≤ x ∧ x ≤ 9) := by
        rw [HA.out]
        exact ⟨ys, HO.out.mono (by omega), HK.out, HP.out⟩
      have HBW : Hid (Below w.heap.size w wr) := by rw [HA.out]; exact HB.out
      clear HO HB HP HS
      go_wp2
      go_ret
      exact ⟨⟨g, c, rfl, HR.out⟩, HBW.out⟩
end Go.Proofs.Ytckdfahbhagoaaa

namespace Go.Proofs.Ytckdfahbhagoaaa
open Go.RowKit
set_option linter.unusedVariables false
set_option linter.unusedSimpArgs false

theorem r8Long_any (v u : Value) (xs ys : List Int) (w : World) (hv : Byts w v xs) (hu : Byts w u ys) :
    Calls Try.prog 4 #[v, u] w fun e w' => e = .returned (.bool (decide (48 < xs.length) || decide (48 < ys.length))) ∧ w = w' := by
  obtain ⟨hm, a, c, rfl, hcap, hc⟩ := hv
  obtain ⟨hm', a', c', rfl, hcap', hc'⟩ := hu
  unfold maxLen at hm hm'
  clear hc hc'
  by_cases h : 48 < xs.length
  · go_enter Try.func4, Try.ntmps4
    go_wp2
    go_ret
    exact ⟨ret_bool (by simp [h]), rfl⟩
  · have hd : decide (48 < xs.length) = false := by simpa using h
    by_cases h2 : 48 < ys.length
    · go_enter Try.func4, Try.ntmps4
      go_wp2
      go_ret
      exact ⟨ret_bool (by rw [hd]; first | rfl | (symm; simp; omega) | (rw [Bool.eq_iff_iff]; simp; omega)), rfl⟩
    · go_enter Try.func4, Try.ntmps4
      go_wp2
      go_ret
      exact ⟨ret_bool (by rw [hd]; first | rfl | (symm; simp; omega) | (rw [Bool.eq_iff_iff]; simp; omega)), rfl⟩

/-- A number from 0 to n - 1. -/
theorem r8At_any (v : Value) (xs : List Int) (i n : Int) (w : World) (hv : Byts w v xs) (hwf : ∀ x ∈ xs, (Lit.int .u8 x).wf = true) (hi : 0 ≤ i) (hi2 : i ≤ 100000000) (hn : 1 ≤ n) (hn2 : n ≤ 100000000) :
    Calls Try.prog 5 #[v, .int .i64 i, .int .i64 n] w fun e w' => (∃ x, e = .returned (.int .i64 x) ∧ 0 ≤ x ∧ x < n) ∧ w = w' := by
  obtain ⟨hm, a, c, rfl, hcap, hc⟩ := hv
  unfold maxLen at hm
  obtain ⟨k, rfl⟩ : ∃ k : Nat, i = k := ⟨i.toNat, by omega⟩
  by_cases h1 : n ≤ 1
  · clear hc
    go_enter Try.func5, Try.ntmps5
    go_wp2
    go_ret
    exact ⟨⟨0, rfl, by omega, by omega⟩, rfl⟩
  · by_cases hlt : k < xs.length
    · obtain ⟨b, o, rfl, hbs, hck⟩ := hc k hlt
      have hx := wf_u8_iff.1 (hwf xs[k] (List.getElem_mem _))
      obtain ⟨x, hxx⟩ : ∃ x, xs[k] = x := ⟨_, rfl⟩
      rw [hxx] at hck hx
      obtain ⟨hx1, hx2⟩ := hx
      clear hc hxx hwf
      go_enter Try.func5, Try.ntmps5
      go_wp2
      go_ret
      exact ⟨⟨x % n, rfl, Int.emod_nonneg _ (by omega), Int.emod_lt_of_pos _ (by omega)⟩, rfl⟩
    · clear hc
      go_enter Try.func5, Try.ntmps5
      go_wp2
      go_ret
      exact ⟨⟨0, rfl, by omega, by omega⟩, rfl⟩
end Go.Proofs.Ytckdfahbhagoaaa
