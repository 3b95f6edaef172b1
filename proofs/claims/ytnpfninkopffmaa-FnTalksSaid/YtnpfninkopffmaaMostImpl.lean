
/- impl.MostTalks. Conditions: none. -/
import Derived.Test.YtnpfninkopffmaaMostP
import Derived.Test.YtnpfninkopffmaaFuncs
import Derived.Test.YtnpfninkopffmaaAppendLies
namespace Go.Proofs.Ytnpfninkopffmaa
open Go.RowKit Go.Shelf
set_option linter.unusedVariables false
set_option linter.unusedSimpArgs false

theorem boxed_blw {W W' : World} {b N : Nat} {t : TypeId} {v : Value} (h : Boxed W b t v) (hb : Below N W W') (hN : b < N) : Boxed W' b t v := (hb.block b hN).trans h
theorem boxed_drewN {W : World} {b : Nat} {t : TypeId} {v : Value} (h : Boxed W b t v) (q : Nat) : Boxed (W.drewN q) b t v := h

/-- The key: where a talk ends. -/
theorem endKey_any (a : Option Addr) (c : Nat) (xs : List Int) (bx : Nat) (x : Int) (W : World) (hb : Boxed W bx 29 (.slice a xs.length c)) (hv : Ints W (.slice a xs.length c) xs) (hl : xs.length ≤ 64) (h0 : 0 ≤ x) (hx : 2 * x + 1 < xs.length) :
    KeyAt 61 #[.pointer (some ⟨bx, 0, none⟩)] (endOf xs) x W := by
  obtain ⟨i, rfl⟩ : ∃ i : Nat, x = i := ⟨x.toNat, by omega⟩
  obtain ⟨hm, a', c', he, hcap, hc⟩ := hv
  injection he with e1 e2 e3
  subst e1 e3
  obtain ⟨b, o, ha0, hbs, hcs⟩ := row_at hc
  obtain rfl := ha0 (by omega)
  have e1 := hcs (2 * i + 1) (by omega)
  rw [← nth_eq] at e1
  have hE : Hid (endOf xs (i : Int) = nth xs (2 * i + 1)) := by show _ = _; unfold endOf; rw [Int.toNat_natCast]
  obtain ⟨I, hI⟩ : ∃ I, 2 * i = I := ⟨_, rfl⟩
  rw [hI] at e1 hE
  have hIi : 2 * (i : Int) = (I : Int) := by omega
  have w0 : IntKind.i64.wrap (2 * (i : Int)) = (I : Int) := by rw [hIi]; exact IntWalk.i64_in _ (by omega)
  have w1 : IntKind.i64.wrap ((I : Int) + 1) = (I : Int) + 1 := IntWalk.i64_in _ (by omega)
  have i2 : (0 : Int) ≤ (I : Int) + 1 := by omega
  have i3 : (I : Int) + 1 < (xs.length : Int) := by omega
  have n1 : ((I : Int) + 1).toNat = I + 1 := by omega
  have hbc := hb.cell
  clear hc hcs ha0 hI hb
  unfold KeyAt
  go_enter Try.func61, Try.ntmps61
  go_wp2
  go_ret
  exact ⟨ret_int hE.out.symm, 0, rfl⟩

theorem mostMeet_any (v : Value) (xs : List Int) (bx bi : Nat) (x i : Int) (W : World) (hb : Boxed W bx 29 v) (hi : Boxed W bi 2 (.int .i64 i)) (hv : Ints W v xs) (hl : xs.length ≤ 64) (h0 : 0 ≤ x) (hx : 2 * x + 1 < xs.length) (i0 : 0 ≤ i) (hi1 : 2 * i + 1 < xs.length) :
    Calls Try.prog 63 #[.int .i64 x, .pointer (some ⟨bx, 0, none⟩), .pointer (some ⟨bi, 0, none⟩)] W fun e w' => e = .returned (.bool (meetB xs i.toNat x.toNat)) ∧ Below W.heap.size W w' := by
  have HC := Lib.hid (meet_any v xs i.toNat x.toNat W hv (by omega) (by omega) hl i x (by show _ = _; omega) (by show _ = _; omega))
  have hbc := hb.cell
  have hic := hi.cell
  clear hb hi hv
  go_enter Try.func63, Try.ntmps63
  go_wp2_with fail
  refine HC.out.mono ?_
  rintro e w1 ⟨rfl, q, rfl⟩
  go_wp2
  go_ret
  exact ⟨rfl, below_drewN q (Below.refl _ _)⟩

/-- The rounds of MostTalks. -/
def HeardR (N bx n ge ce : Nat) (v : Value) (xs E : List Int) (w : World) (vo vk : Value) (wr : World) : Prop :=
  ∃ (k g c l : Nat) (out : List Int), vo = .slice (some ⟨g, 0, none⟩) l c ∧ vk = .int .i64 k ∧ k ≤ n ∧ g ≠ ge ∧ l ≤ k ∧ Hid (l = out.length) ∧ Hid (OwnI wr N (.slice (some ⟨g, 0, none⟩) l c) out) ∧ Hid (OwnI wr N (.slice (some ⟨ge, 0, none⟩) n ce) E) ∧ Hid (Boxed wr bx 29 v ∧ Below N w wr ∧ (∀ x ∈ out, x ∈ E)) ∧ Hid ((E.take k).foldl (heardStep xs) [] = out)

set_option maxRecDepth 100000 in
set_option maxHeartbeats 4000000 in
theorem implMost_any (v : Value) (xs : List Int) (w : World) (hv : Ints w v xs) :
    Calls Try.prog 17 #[v] w fun e w' => (∃ u, e = .returned (.tuple #[u, .bool (talksOk xs)]) ∧ OwnI w' w.heap.size u (mostR xs)) ∧ Below w.heap.size w w' := by
  obtain ⟨hm, a, c, hvv, hcap, hcz⟩ := id hv
  subst hvv
  obtain ⟨W0, hW0⟩ : ∃ W, w.alloc (.cells #[.slice a xs.length c] 29) = W := ⟨_, rfl⟩
  have HB0 : Hid (Below w.heap.size w W0) := by show Below _ _ _; rw [← hW0]; exact (Below.refl _ w).alloc (Nat.le_refl _) _
  have HBX : Boxed W0 w.heap.size 29 (.slice a xs.length c) := by rw [← hW0]; exact Boxed.new _ _ _
  have HSZ : Hid (W0.heap.size = w.heap.size + 1) := by show _ = _; rw [← hW0]; simp
  have hbc := HBX.cell
  have HV := Lib.hid hv
  have HT := Lib.hid (implTalks_any (.slice a xs.length c) xs W0 (hv.below HB0.out (Nat.le_refl _)))
  have HX := Lib.hid HBX
  clear hcz hv HBX
  go_enter Try.func17, Try.ntmps17
  go_wp2_with fail
  refine HT.out.mono ?_
  rintro e W1 ⟨rfl, hb⟩
  have HB1 : Hid (Below w.heap.size w W1 ∧ W0.heap.size ≤ W1.heap.size ∧ Boxed W1 w.heap.size 29 (.slice a xs.length c)) := ⟨HB0.out.trans (hb.mono (by have := HSZ.out; omega)), hb.size, boxed_blw HX.out hb (by have := HSZ.out; omega)⟩
  clear hb HT
  cases hok : talksOk xs
  · have HN : Hid (OwnI W1 w.heap.size (.slice none 0 0) (mostR xs)) := by show OwnI _ _ _ _; unfold mostR; rw [hok]; exact ⟨rfl, .inl ⟨rfl, rfl⟩⟩
    go_wp2
    go_ret2
    exact ⟨⟨_, by rw [hok]; rfl, HN.out⟩, HB1.out.1⟩
  · have h2 : 2 ≤ xs.length ∧ xs.length ≤ 64 := by
      have h := hok
      simp only [talksOk, talksHead, Bool.and_eq_true] at h
      have := many_true.1 h.1.1
      omega
    obtain ⟨n, hn⟩ : ∃ n, xs.length / 2 = n := ⟨_, rfl⟩
    have hnI : (xs.length : Int) / 2 = (n : Int) := by omega
    have hnI2 : (xs.length : Int).tdiv 2 = (n : Int) := by rw [Int.tdiv_eq_ediv_of_nonneg (by omega)]; exact hnI
    have hn32 : n ≤ 32 := by omega
    have hbc1 := HB1.out.2.2.cell
    have HLEN : Hid (2 * n ≤ xs.length ∧ xs.length ≤ 64 ∧ xs.length / 2 = n) := by show _ ∧ _; omega
    obtain ⟨W2, hW2⟩ : ∃ W, W1.alloc (.cells #[] 2) = W := ⟨_, rfl⟩
    have HB2 : Hid (Below W1.heap.size W1 W2 ∧ W2.heap.size = W1.heap.size + 1) := by show Below _ _ _ ∧ _; rw [← hW2]; exact ⟨(Below.refl _ W1).alloc (Nat.le_refl _) _, by simp⟩
    have HO2 : Hid (OwnI W2 w.heap.size (.slice (some ⟨W1.heap.size, 0, none⟩) 0 0) []) := by show OwnI _ _ _ _; rw [← hW2]; exact OwnI.lit W1 w.heap.size [] HB1.out.1.size (Nat.zero_le _)
    have hX2 : Boxed W2 w.heap.size 29 (.slice a xs.length c) := boxed_blw HB1.out.2.2 HB2.out.1 (by have := HSZ.out; have := HB1.out.2.1; omega)
    have hbc2 := hX2.cell
    have HX2 := Lib.hid hX2
    have HBW2 : Hid (Below w.heap.size w W2) := HB1.out.1.trans (HB2.out.1.mono HB1.out.1.size)
    have HS := Lib.hid (sortedBy_any n 61 #[.pointer (some ⟨w.heap.size, 0, none⟩)] (endOf xs) W2 (by omega) (fun W x h0 hx hW => endKey_any a c xs w.heap.size x W (boxed_blw hX2 hW hX2.lt) (HV.out.below (HBW2.out.trans (hW.mono HBW2.out.size)) (Nat.le_refl _)) h2.2 h0 (by have := HLEN.out; omega))
      (enters_of Try.func61 (by kernel_rfl) rfl))
    clear h2 hn hX2 HX
    go_wp2_with fail
    refine HS.out.mono ?_
    rintro e W3 ⟨⟨ge, ce, E, rfl, ho, hlE, hsort⟩, hb⟩
    have hge : W2.heap.size ≤ ge := (ho.lt ge rfl).1
    have HR0 : Hid (HeardR w.heap.size w.heap.size n ge ce (.slice a xs.length c) xs E w (.slice (some ⟨W1.heap.size, 0, none⟩) 0 0) (.int .i64 0) W3) :=
      ⟨0, W1.heap.size, 0, 0, [], rfl, rfl, Nat.zero_le _, by have := HB2.out.2; omega, Nat.le_refl _, rfl, HO2.out.below hb (Nat.le_refl _), ho.mono HBW2.out.size, ⟨boxed_blw HX2.out hb (HX2.out.lt), HBW2.out.trans (hb.mono HBW2.out.size), fun x hx => by cases hx⟩, rfl⟩
    have HE : Hid (n = E.length ∧ SortsBy (endOf xs) n E ∧ ∀ x ∈ E, 0 ≤ x ∧ x < (n : Int)) := ⟨hlE, hsort, fun x hx => idL_mem.1 (hsort.1.mem_iff.1 hx)⟩
    clear ho hb hlE hsort hge HS HBW2 HX2 HO2 HB2 hW2 hbc2 hbc1 HB1 hW0 hbc HB0 HSZ
    go_wp2
    go_loopw [4, 17] (fun vo vk wr => HeardR w.heap.size w.heap.size n ge ce (.slice a xs.length c) xs E w vo vk wr) (fun _ vk _ => n - (intOf vk).toNat)
    case atStart => exact HR0.out
    case round =>
      obtain ⟨k, g, cg, l, out, rfl, rfl, hk, hgge, hlk, HL, HO, HEO, HBB, HF⟩ := hrel
      clear HR0
      by_cases hkn : k < n
      · have k1 : (k : Int) < (n : Int) := by omega
        have k0 : (0 : Int) ≤ (k : Int) := by omega
        have ck := HEO.out.at_ HE.out.1 k (by rw [← HE.out.1]; exact hkn)
        obtain ⟨x, hx⟩ : ∃ x, nth E k = x := ⟨_, rfl⟩
        rw [hx] at ck
        have hxE : x ∈ E := by rw [← hx]; exact nth_mem (by rw [← HE.out.1]; exact hkn)
        have HXE : Hid (0 ≤ x ∧ 2 * x + 1 < xs.length ∧ x ∈ E) := by
          have := HE.out.2.2 x hxE; have := HLEN.out; exact ⟨by omega, by omega, hxE⟩
        have HST : Hid ((E.take (k + 1)).foldl (heardStep xs) [] = heardStep xs out x) := by
          show _ = _
          rw [List.take_succ_eq_append_getElem (by rw [← HE.out.1]; exact hkn), List.foldl_append, HF.out, ← nth_eq, hx]; rfl
        clear hx hxE
        obtain ⟨W4, hW4⟩ : ∃ W, wr.alloc (.cells #[.int .i64 x] 2) = W := ⟨_, rfl⟩
        have HB4 : Hid (Below wr.heap.size wr W4 ∧ W4.heap.size = wr.heap.size + 1) := by show Below _ _ _ ∧ _; rw [← hW4]; exact ⟨(Below.refl _ wr).alloc (Nat.le_refl _) _, by simp⟩
        have HBi : Hid (Boxed W4 wr.heap.size 2 (.int .i64 x)) := by show Boxed _ _ _ _; rw [← hW4]; exact Boxed.new _ _ _
        have hwr : w.heap.size ≤ wr.heap.size := HBB.out.2.1.size
        have hbw : Hid (w.heap.size < wr.heap.size) := HBB.out.1.lt
        have HX4 : Hid (Boxed W4 w.heap.size 29 (.slice a xs.length c)) := boxed_blw HBB.out.1 HB4.out.1 hbw.out
        have HB4w : Hid (Below w.heap.size w W4) := HBB.out.2.1.trans (HB4.out.1.mono hwr)
        have HC := Lib.hid (containsFunc_any (.slice (some ⟨g, 0, none⟩) l cg) out 63 #[.pointer (some ⟨w.heap.size, 0, none⟩), .pointer (some ⟨wr.heap.size, 0, none⟩)] (fun k => meetB xs x.toNat k.toNat) W4 (HO.out.below HB4.out.1 (Nat.le_refl _)).ints
          (fun W hW y hy => by
            have hyE := HE.out.2.2 y (HBB.out.2.2 y hy)
            have hlen := HLEN.out
            have hs4 := HB4.out.2
            have hs5 := hbw.out
            exact mostMeet_any (.slice a xs.length c) xs w.heap.size wr.heap.size y x W (boxed_blw HX4.out hW (by omega)) (boxed_blw HBi.out hW (by omega)) (HV.out.below (HB4w.out.trans (hW.mono HB4w.out.size)) (Nat.le_refl _)) hlen.2.1 hyE.1 (by omega) HXE.out.1 HXE.out.2.1)
          (enters_of Try.func63 (by kernel_rfl) rfl))
        go_wp2_with fail
        refine HC.out.mono ?_
        rintro e W5 ⟨rfl, hb⟩
        have HB5 : Hid (Below wr.heap.size wr W5 ∧ W4.heap.size ≤ W5.heap.size ∧ Boxed W5 wr.heap.size 2 (.int .i64 x)) := ⟨HB4.out.1.trans (hb.mono HB4.out.1.size), hb.size, boxed_blw HBi.out hb (by have := HB4.out.2; omega)⟩
        have hic := HB5.out.2.2.cell
        have HMB : Hid (meetsB xs out x = out.any fun k => meetB xs x.toNat k.toNat) := rfl
        obtain ⟨B, hB⟩ : ∃ B, (out.any fun k => meetB xs x.toNat k.toNat) = B := ⟨_, rfl⟩
        rw [hB] at HMB ⊢
        have HO5 := Lib.hid (HO.out.below HB5.out.1 (Nat.le_refl _))
        have HE5 := Lib.hid (HEO.out.below HB5.out.1 (Nat.le_refl _))
        have HBB5 : Hid (Boxed W5 w.heap.size 29 (.slice a xs.length c) ∧ Below w.heap.size w W5) := ⟨boxed_blw HBB.out.1 HB5.out.1 hbw.out, HBB.out.2.1.trans (HB5.out.1.mono hwr)⟩
        have HMEM : Hid (∀ y ∈ out, y ∈ E) := HBB.out.2.2
        have hgs : Hid (ge < W5.heap.size ∧ w.heap.size ≤ W5.heap.size) := ⟨(HE5.out.lt ge rfl).2, HBB5.out.2.size⟩
        clear hb HC HB4w HX4 HBi HB4 hW4 hB HO HEO HBB ck hbw hwr
        cases B
        · go_wp2_with (at_builtin; refine append_i64L rfl _ _ rfl w.heap.size (.slice (some ⟨g, 0, none⟩) l cg) out [x] (by simp) rfl _ rfl HO5.out hgs.out.2 (by have := HL.out; simp; omega) ?_; intro g1 c1 w1 ho1 hg1 hl1; have HA1 := Lib.hid (And.intro ho1 (And.intro hg1 hl1)); clear ho1 hg1 hl1)
          go_roundw
          case rel =>
            obtain ⟨ho1, hg1, hl1⟩ := HA1.out
            rw [ownBlock_slice] at hg1 hl1
            have hne : g1 ≠ ge := by
              rcases hl1 with h | h
              · injection h with h; omega
              · have := hgs.out.1; omega
            refine ⟨k + 1, g1, c1, out.length + 1, out ++ [x], rfl, by go_num, by omega, hne, by have := HL.out; omega, by show _ = _; simp, ho1, HE5.out.kept hg1 (.inr (by rw [ownBlock_slice]; intro e; injection e with e; omega)), ⟨HBB5.out.1.kept hg1 (by intro e; injection e with e; exact HO5.out.ne_box HBB5.out.1 (by decide) e), Below.app HBB5.out.2 HO5.out hg1 hgs.out.2, fun y hy => ?_⟩, ?_⟩
            · rcases List.mem_append.1 hy with hy | hy
              · exact HMEM.out y hy
              · obtain rfl : y = x := by simpa using hy
                exact HXE.out.2.2
            · show _ = _
              rw [HST.out]; unfold heardStep; rw [HMB.out]; rfl
          case measure => simp [intOf]; omega
        · go_wp2
          go_roundw
          case rel =>
            refine ⟨k + 1, g, cg, l, out, rfl, by go_num, by omega, hgge, by omega, HL.out, HO5.out, HE5.out, ⟨HBB5.out.1, HBB5.out.2, HMEM.out⟩, ?_⟩
            show _ = _
            rw [HST.out]; unfold heardStep; rw [HMB.out]; rfl
          case measure => simp [intOf]; omega
      · have k1 : ¬ (k : Int) < (n : Int) := by omega
        have HFIN : Hid (OwnI wr w.heap.size (.slice (some ⟨g, 0, none⟩) l cg) (mostR xs) ∧ Below w.heap.size w wr) := by
          refine ⟨?_, HBB.out.2.1⟩
          have h := HF.out
          rw [show E.take k = E from List.take_of_length_le (by rw [← HE.out.1]; omega)] at h
          have h2 := heardL_fold (xs := xs) (E := E) (by rw [HLEN.out.2.2]; exact HE.out.2.1) (meet_self hok)
          unfold mostR
          rw [hok, if_pos rfl, ← h2, h]
          exact HO.out
        clear HF HO HEO HBB
        go_wp2
        go_ret2
        exact ⟨⟨_, rfl, HFIN.out.1⟩, HFIN.out.2⟩
end Go.Proofs.Ytnpfninkopffmaa
