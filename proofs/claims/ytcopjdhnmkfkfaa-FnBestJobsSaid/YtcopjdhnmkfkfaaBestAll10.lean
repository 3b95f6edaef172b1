/- The first order with the least cost is the one that is taken job by job: plain law. Conditions: valid jobs, all released at 0. With texts that it needs. -/
import Derived.Test.YtcopjdhnmkfkfaaBestAll8
import Derived.Test.YtcopjdhnmkfkfaaBestAll9
import Derived.Test.YtcopjdhnmkfkfaaBestAll1
import Derived.Laws.BitsLemmas
import Derived.Test.YtcopjdhnmkfkfaaBestAll7
namespace Go.Proofs.Ytcopjdhnmkfkfaa
open Go.RowKit
set_option linter.unusedVariables false
set_option linter.unusedSimpArgs false

theorem sumT_le {js : List Jb} (hs : SmJ js) : ∀ l : List Int, (∀ x ∈ l, 0 ≤ x ∧ x < js.length) → 0 ≤ sumT js l ∧ sumT js l ≤ 10000 * (l.length : Int)
  | [], _ => by simp [sumT]
  | x :: l, h => by
    have h1 := sumT_le hs l (fun y hy => h y (List.mem_cons_of_mem _ hy))
    have h2 := h x List.mem_cons_self
    have h3 := hs.time x.toNat (by omega)
    rw [sumT_cons, List.length_cons]
    omega
theorem sortsBy_le {key : Int → Int} {n : Nat} {O : List Int} (h : SortsBy key n O) : ∀ p q, p ≤ q → q < n → key (nth O p) ≤ key (nth O q) := fun p q h1 h2 => by
  by_cases e : p = q
  · subst e; exact Int.le_refl _
  · have := h.2 p q (Nat.zero_le _) (by omega) h2
    rcases this with h3 | ⟨h3, _⟩ <;> omega
/-- What is known behind k jobs. -/
structure MhB (js : List Jb) (S : MhS) (T k : Nat) : Prop where
  sum0 : 0 ≤ S.sum
  sum1 : S.sum ≤ 240000
  tk0 : 0 ≤ S.taken
  tk1 : S.taken ≤ 24
  len : S.out.length ≤ k
  mem : ∀ x ∈ S.out, 0 ≤ x ∧ x < (T : Int)
theorem mhB {js : List Jb} {O : List Int} (hs : SmJ js) (hf : FreeJ js) (hO : SortsBy (dueK js) js.length O) {k : Nat} (hk : k ≤ js.length) (hd : ∀ i, 0 ≤ duJ js i) : MhB js (mhTo js O k) js.length k := by
  have h1 := mhI_to hf hd hO.1 (sortsBy_le hO) k hk
  have hm : ∀ x ∈ (mhTo js O k).out, 0 ≤ x ∧ x < (js.length : Int) := fun x hx => idL_mem.1 (hO.1.mem_iff.1 (List.mem_of_mem_take (h1.sub.subset hx)))
  have h2 := sumT_le hs _ hm
  have h3 := h1.cnt
  have h4 := h1.tk
  have h5 := hs.n24
  have h6 : O.length = js.length := by rw [hO.1.length_eq, idL_length]
  rw [List.length_take, h6, Nat.min_eq_left hk] at h3
  exact ⟨by rw [h1.sum]; exact h2.1, by rw [h1.sum]; omega, h4, by omega, by omega, hm⟩
structure FeM (w wr : World) (T gO cO g c l : Nat) (O out : List Int) : Prop where
  own : OwnI wr w.heap.size (.slice (some ⟨g, 0, none⟩) l c) out
  ord : OwnI wr w.heap.size (.slice (some ⟨gO, 0, none⟩) T cO) O
  ne : g ≠ gO
  bel : Below w.heap.size w wr
theorem FeM.drewN {w wr : World} {T gO cO g c l : Nat} {O out : List Int} (h : FeM w wr T gO cO g c l O out) (q : Nat) : FeM w (wr.drewN q) T gO cO g c l O out :=
  ⟨h.own.drewN q, h.ord.drewN q, h.ne, below_drewN q h.bel⟩
theorem FeM.push {w W4 w5 : World} {T gO cO g c l g1 c1 : Nat} {O out : List Int} {i : Int} (h : FeM w W4 T gO cO g c l O out) (ho : OwnI w5 w.heap.size (.slice (some ⟨g1, 0, none⟩) (out.length + 1) c1) (out ++ [i])) (hg : W4.grownBy w5 (some g)) (hl : some g = some g1 ∨ W4.heap.size ≤ g1) : FeM w w5 T gO cO g1 c1 (out.length + 1) O (out ++ [i]) := by
  have h1 := h.own.lt g rfl
  have h2 := h.ord.lt gO rfl
  have hne := h.ne
  refine ⟨ho, h.ord.kept hg (.inr (by rw [ownBlock_slice]; intro e; injection e with e; exact hne e.symm)), ?_, h.bel.grown hg h.bel.size (fun j e => by cases e; exact h1.1)⟩
  rcases hl with e | e
  · injection e with e; rw [← e]; exact hne
  · omega
theorem FeM.del {w W W' : World} {T gO cO g c l l' : Nat} {O out out' : List Int} (h : FeM w W T gO cO g c l O out) (ho : OwnI W' w.heap.size (.slice (some ⟨g, 0, none⟩) l' c) out') (hg : W.grownBy W' (some g)) : FeM w W' T gO cO g c l' O out' := by
  have h1 := h.own.lt g rfl
  have hne := h.ne
  exact ⟨ho, h.ord.kept hg (.inr (by rw [ownBlock_slice]; intro e; injection e with e; exact hne e.symm)), hne, h.bel.grown hg h.bel.size (fun j e => by cases e; exact h1.1)⟩
def FeI (js : List Jb) (T gO cO g c l : Nat) (O out : List Int) (w : World) (vm vk : Value) (wr : World) : Prop :=
  ∃ m : Nat, vk = .int .i64 m ∧ m ≤ l ∧ vm = .int .i64 (mostTo js out m) ∧ Hid (FeM w wr T gO cO g c l O out)
def FeR (js : List Jb) (T gO cO : Nat) (O : List Int) (w : World) (vo vt vs vk : Value) (wr : World) : Prop :=
  ∃ (k g c l : Nat) (S : MhS), vk = .int .i64 k ∧ k ≤ T ∧ vo = .slice (some ⟨g, 0, none⟩) l c ∧ vt = .int .i64 S.taken ∧ vs = .int .i64 S.sum ∧ Hid (S = mhTo js O k) ∧ Hid (l = S.out.length) ∧ Hid (FeM w wr T gO cO g c l O S.out)
set_option maxRecDepth 100000 in
set_option maxHeartbeats 2000000 in
theorem FewestLate_any (v : Value) (js : List Jb) (w : World) (hv : Jobs w v js) (hok : jobsOk js = true) (hf : FreeJ js) (hd : ∀ i, 0 ≤ duJ js i) :
    Calls Try.prog 13 #[v] w fun e w' => (∃ O g c, SortsBy (dueK js) js.length O ∧ e = .returned (.tuple #[.slice (some ⟨g, 0, none⟩) (mhTo js O js.length).out.length c, .int .i64 (mhTo js O js.length).taken, .bool true]) ∧ OwnI w' w.heap.size (.slice (some ⟨g, 0, none⟩) (mhTo js O js.length).out.length c) (mhTo js O js.length).out) ∧ Below w.heap.size w w' := by
  have hs := jobs_sm hok
  have HAO := Lib.hid (atOnce_any v js w hv hok (fun i _ => hf.rel i))
  have HOR : Hid (∀ W, Below w.heap.size w W → Calls Try.prog 32 #[v, .int .i64 1] W fun e w' => (∃ g c E, e = .returned (.slice (some ⟨g, 0, none⟩) js.length c) ∧ OwnI w' W.heap.size (.slice (some ⟨g, 0, none⟩) js.length c) E ∧ js.length = E.length ∧ SortsBy (dueK js) js.length E) ∧ Below W.heap.size W w') := fun W hW => orderDue_any v js W (hv.below hW (Nat.le_refl _)) hs.n1 hs.n24
  obtain ⟨b, o, c, rfl, hcap, hbw, hV⟩ := jobs_view hv hs.n1
  have HV : Hid (∀ W, Below w.heap.size w W → JbView W b o js) := hV
  have HSM := Lib.hid hs
  have HMB : Hid (∀ O k, SortsBy (dueK js) js.length O → k ≤ js.length → MhB js (mhTo js O k) js.length k) := fun O k hO hk => mhB hs hf hO hk hd
  have hn1 := hs.n1
  have hn24 := hs.n24
  obtain ⟨T, hT⟩ : ∃ T, js.length = T := ⟨_, rfl⟩
  have HT := Lib.hid hT
  rw [hT] at hcap HAO HOR HMB hn1 hn24 ⊢
  clear hv hok hs hf hV hT hd
  go_enter Try.func13, Try.ntmps13
  go_wp2_with fail
  refine HAO.out.mono ?_
  rintro e W1 ⟨rfl, hb1⟩
  have HB1 := Lib.hid hb1
  clear hb1 HAO
  go_wp2_with fail
  have HB2 : Hid (Below w.heap.size w (W1.alloc (.cells #[] 2))) := HB1.out.alloc HB1.out.size _
  refine (HOR.out _ HB2.out).mono ?_
  rintro e W3 ⟨⟨gO, cO, O, rfl, hoO, hlO, hsO⟩, hb3⟩
  have hgO : W1.heap.size < gO ∧ gO < W3.heap.size := by have := hoO.lt gO rfl; simp at this; omega
  have HO := Lib.hid hsO
  have HLO := Lib.hid hlO
  have HR0 : Hid (FeR js T gO cO O w (.slice (some ⟨W1.heap.size, 0, none⟩) 0 0) (.int .i64 0) (.int .i64 0) (.int .i64 0) W3) := by
    have h0 : OwnI (W1.alloc (.cells #[] 2)) w.heap.size (.slice (some ⟨W1.heap.size, 0, none⟩) 0 0) [] := (OwnI.lit W1 W1.heap.size [] (Nat.le_refl _) (by unfold maxLen; simp)).mono HB1.out.size
    exact ⟨0, W1.heap.size, 0, 0, ⟨[], 0, 0⟩, rfl, Nat.zero_le _, rfl, rfl, rfl, rfl, rfl, ⟨h0.below hb3 (Nat.le_refl _), hoO.mono HB2.out.size, by omega, HB2.out.trans (hb3.mono HB2.out.size)⟩⟩
  clear hb3 hoO hlO hsO HB2
  go_wp2_with fail
  go_loopw [5, 6, 7, 20] (fun vo vt vs vk wr => FeR js T gO cO O w vo vt vs vk wr) (fun _ _ _ vk _ => T - (intOf vk).toNat)
  case atStart => exact HR0.out
  case round =>
    obtain ⟨k, g, c9, l, S, rfl, hkT, rfl, rfl, rfl, HS, HL, HM⟩ := hrel
    clear HR0
    by_cases hk2 : k < T
    · have k0 : (0 : Int) ≤ (k : Int) := by omega
      have k1 : (k : Int) < (T : Int) := by omega
      have ck := HM.out.ord.at_ HLO.out k (by rw [← HLO.out]; exact hk2)
      have hx : 0 ≤ nth O k ∧ nth O k < (T : Int) := idL_mem.1 (HO.out.1.mem_iff.1 (by rw [nth_eq (by rw [← HLO.out]; exact hk2)]; exact List.getElem_mem _))
      obtain ⟨i, hi⟩ : ∃ i : Nat, nth O k = (i : Int) := ⟨(nth O k).toNat, by omega⟩
      have HI := Lib.hid hi
      rw [hi] at ck hx
      have i0 : (0 : Int) ≤ (i : Int) := by omega
      have i1 : (i : Int) < (T : Int) := hx.2
      have hB := HMB.out O k HO.out hkT
      rw [← HS.out] at hB
      have b1 := hB.sum0
      have b2 := hB.sum1
      have b3 := hB.tk0
      have b4 := hB.tk1
      have b5 := hB.len
      have hJ := HV.out _ HM.out.bel i (by rw [HT.out]; omega)
      have htm := HSM.out.time i (by rw [HT.out]; omega)
      have hdu := HSM.out.due i (by rw [HT.out]; omega)
      obtain ⟨t, ht⟩ : ∃ x, tmJ js i = x := ⟨_, rfl⟩
      obtain ⟨d, hd⟩ : ∃ x, duJ js i = x := ⟨_, rfl⟩
      rw [ht] at htm
      rw [hd] at hdu
      have HMEM := Lib.hid hB.mem
      have HJV : Hid (∀ W, Below w.heap.size w W → ∀ y : Nat, (y : Int) < (T : Int) → W.cell? ⟨b, o + y * 4, none⟩ = some (.int .i64 (tmJ js y)) ∧ W.cell? ⟨b, o + y * 4 + 2, none⟩ = some (.int .i64 (duJ js y)) ∧ 1 ≤ tmJ js y ∧ tmJ js y ≤ 10000) := fun W hW y hy => by
        have h := HV.out W hW y (by rw [HT.out]; omega)
        exact ⟨h.c0, h.c2, HSM.out.time y (by rw [HT.out]; omega)⟩
      have HTD : Hid (tmJ js i = t ∧ duJ js i = d) := ⟨ht, hd⟩
      have w1 : IntKind.i64.wrap (S.sum + t) = S.sum + t := IntWalk.i64_in _ (by omega)
      have HOW : Hid (OwnI wr w.heap.size (.slice (some ⟨g, 0, none⟩) l c9) S.out) := HM.out.own
      have hw4 : w.heap.size ≤ wr.heap.size := HM.out.bel.size
      have HLP : Hid (S.out.length = l) := HL.out.symm
      have HS1 : Hid (mhTo js O (k + 1) = mhStep js S (i : Int)) := by show mhStep js (mhTo js O k) (nth O k) = _; rw [← HS.out, HI.out]
      have hl24 : l ≤ 24 := by rw [HL.out]; omega
      obtain ⟨L1, hL1⟩ : ∃ L1, l + 1 = L1 := ⟨_, rfl⟩
      have HL1 := Lib.hid hL1
      have hL25 : L1 ≤ 25 := by omega
      have hL0 : 0 < L1 := by omega
      obtain ⟨X, hX⟩ : ∃ X, S.out ++ [(i : Int)] = X := ⟨_, rfl⟩
      have HX := Lib.hid hX
      have HXL : Hid (L1 = X.length) := by show _ = _; rw [← hX, ← hL1, List.length_append, HLP.out]; rfl
      have HXM : Hid (∀ x ∈ X, 0 ≤ x ∧ x < (T : Int)) := fun x hx => by
        rw [← hX] at hx
        rcases List.mem_append.1 hx with h | h
        · exact HMEM.out x h
        · rw [List.mem_singleton] at h; subst h; exact ⟨i0, i1⟩
      clear hJ ht hd hB hi hx hL1 hX
      by_cases hle : S.sum + t ≤ d
      · have HS2 : Hid ((⟨X, S.sum + t, S.taken⟩ : MhS) = mhTo js O (k + 1)) := by
          show _ = _
          rw [HS1.out]
          unfold mhStep
          rw [Int.toNat_natCast, HTD.out.1, HTD.out.2, if_pos hle, HX.out]
        go_wp2_with (first
          | (at_builtin; refine append_i64L rfl _ _ rfl w.heap.size (.slice (some ⟨g, 0, none⟩) l c9) S.out [(i : Int)] (Nat.zero_lt_succ _) rfl _ rfl HOW.out hw4 (by rw [HLP.out]; simp only [List.length_singleton]; omega) ?_; intro g1 c1 w5 ho5 hg5 hl5; have HM5 := Lib.hid (HM.out.push ho5 hg5 hl5); rw [HLP.out, HX.out, HL1.out] at HM5; have cc := HJV.out _ HM5.out.bel i i1; rw [HTD.out.1, HTD.out.2] at cc; have cc0 := cc.1; have cc2 := cc.2.1; simp only [HLP.out, List.length_singleton, HL1.out]; clear ho5 hg5 hl5 cc))
        go_roundw
        case rel => exact ⟨k + 1, g1, c1, L1, ⟨X, S.sum + t, S.taken⟩, by go_num, by omega, rfl, rfl, rfl, HS2.out, HXL.out, HM5.out⟩
        case measure => simp [intOf]; omega
      · have HS2 : Hid ((⟨X.eraseIdx (mostI js X), S.sum + t - tmJ js (nth X (mostI js X)).toNat, S.taken + 1⟩ : MhS) = mhTo js O (k + 1)) := by
          show _ = _
          rw [HS1.out]
          unfold mhStep
          rw [Int.toNat_natCast, HTD.out.1, HTD.out.2, if_neg hle, HX.out]
        have HMO : Hid (∀ m, m ≤ L1 → mostTo js X m < L1) := fun m hm => by
          have h := (mostTo_spec js X (by rw [← HXL.out]; exact hL0) m (by rw [← HXL.out]; exact hm)).1
          rwa [← HXL.out] at h
        have HXN : Hid (∀ m, m < L1 → ∃ y : Nat, nth X m = (y : Int) ∧ (y : Int) < (T : Int)) := fun m hm => by
          have h := HXM.out (nth X m) (by rw [nth_eq (by rw [← HXL.out]; exact hm)]; exact List.getElem_mem _)
          exact ⟨(nth X m).toNat, by omega, by omega⟩
        go_wp2_with (first
          | (at_builtin; refine append_i64L rfl _ _ rfl w.heap.size (.slice (some ⟨g, 0, none⟩) l c9) S.out [(i : Int)] (Nat.zero_lt_succ _) rfl _ rfl HOW.out hw4 (by rw [HLP.out]; simp only [List.length_singleton]; omega) ?_; intro g1 c1 w5 ho5 hg5 hl5; have HM5 := Lib.hid (HM.out.push ho5 hg5 hl5); rw [HLP.out, HX.out, HL1.out] at HM5; have cc := HJV.out _ HM5.out.bel i i1; rw [HTD.out.1, HTD.out.2] at cc; have cc0 := cc.1; have cc2 := cc.2.1; simp only [HLP.out, List.length_singleton, HL1.out]; clear ho5 hg5 hl5 cc))
        have HI0 : Hid (FeI js T gO cO g1 c1 L1 O X w (.int .i64 0) (.int .i64 0) w5) := ⟨0, rfl, Nat.zero_le _, rfl, HM5.out⟩
        clear HM5 cc0 cc2 ck
        go_loopw [10, 44] (fun vm vk wi => FeI js T gO cO g1 c1 L1 O X w vm vk wi) (fun _ vk _ => L1 - (intOf vk).toNat)
        case atStart => exact HI0.out
        case round =>
          obtain ⟨m, rfl, hm, rfl, HMI⟩ := hrel
          clear HI0
          by_cases hm2 : m < L1
          · have m0 : (0 : Int) ≤ (m : Int) := by omega
            have m1 : (m : Int) < (L1 : Int) := by omega
            have hP := HMO.out m hm
            have HMS : Hid (mostTo js X (m + 1) = if tmJ js (nth X (mostTo js X m)).toNat < tmJ js (nth X m).toNat then m else mostTo js X m) := rfl
            obtain ⟨P, hPe⟩ : ∃ P, mostTo js X m = P := ⟨_, rfl⟩
            rw [hPe] at hP HMS ⊢
            have p0 : (0 : Int) ≤ (P : Int) := by omega
            have p1 : (P : Int) < (L1 : Int) := by omega
            obtain ⟨y, hy, hy1⟩ := HXN.out m hm2
            obtain ⟨z, hz, hz1⟩ := HXN.out P hP
            have cy := HMI.out.own.at_ HXL.out m (by rw [← HXL.out]; exact hm2)
            have cz := HMI.out.own.at_ HXL.out P (by rw [← HXL.out]; exact hP)
            rw [hy] at cy HMS
            rw [hz] at cz HMS
            rw [Int.toNat_natCast, Int.toNat_natCast] at HMS
            have y0 : (0 : Int) ≤ (y : Int) := by omega
            have z0 : (0 : Int) ≤ (z : Int) := by omega
            have jy := (HJV.out _ HMI.out.bel y hy1).1
            have jz := (HJV.out _ HMI.out.bel z hz1).1
            obtain ⟨ty, hty⟩ : ∃ x, tmJ js y = x := ⟨_, rfl⟩
            obtain ⟨tz, htz⟩ : ∃ x, tmJ js z = x := ⟨_, rfl⟩
            rw [hty] at jy HMS
            rw [htz] at jz HMS
            clear hy hz hty htz hPe
            by_cases hgt : tz < ty
            · have HM2 : Hid (mostTo js X (m + 1) = m) := by show _ = _; rw [HMS.out, if_pos hgt]
              go_wp2
              go_quiet (fail)
              go_wp2
              go_roundw
              case rel => exact ⟨m + 1, by go_num, by omega, by rw [HM2.out], HMI.out.drewN _⟩
              case measure => simp [intOf]; omega
            · have HM2 : Hid (mostTo js X (m + 1) = P) := by show _ = _; rw [HMS.out, if_neg hgt]
              go_wp2
              go_quiet (fail)
              go_wp2
              go_roundw
              case rel => exact ⟨m + 1, by go_num, by omega, by rw [HM2.out], HMI.out.drewN _⟩
              case measure => simp [intOf]; omega
          · obtain rfl : m = L1 := by omega
            have hP := HMO.out m (Nat.le_refl _)
            have hPI : mostI js X = mostTo js X m := by unfold mostI; rw [← HXL.out]
            rw [hPI] at HS2
            obtain ⟨P, hPe⟩ : ∃ P, mostTo js X m = P := ⟨_, rfl⟩
            rw [hPe] at hP HS2 ⊢
            have p0 : (0 : Int) ≤ (P : Int) := by omega
            have p1 : (P : Int) < (m : Int) := by omega
            obtain ⟨z, hz, hz1⟩ := HXN.out P hP
            have cz := HMI.out.own.at_ HXL.out P (by rw [← HXL.out]; exact hP)
            rw [hz] at cz HS2
            rw [Int.toNat_natCast] at HS2
            have z0 : (0 : Int) ≤ (z : Int) := by omega
            have jz := (HJV.out _ HMI.out.bel z hz1)
            obtain ⟨tz, htz⟩ : ∃ x, tmJ js z = x := ⟨_, rfl⟩
            rw [htz] at jz HS2
            have jz0 := jz.1
            have tz1 := jz.2.2
            have w3 : IntKind.i64.wrap (S.sum + t - tz) = S.sum + t - tz := IntWalk.i64_in _ (by omega)
            have w4 : IntKind.i64.wrap ((P : Int) + 1) = (P : Int) + 1 := IntWalk.i64_in _ (by omega)
            have w5' : IntKind.i64.wrap (S.taken + 1) = S.taken + 1 := IntWalk.i64_in _ (by omega)
            have HDEL := Lib.hid (delete_any g1 c1 P m w.heap.size X _ HMI.out.own HXL.out hP)
            have HEL : Hid (m - 1 = (X.eraseIdx P).length) := by show _ = _; rw [List.length_eraseIdx, if_pos (by rw [← HXL.out]; exact hP), HXL.out]
            rw [show ((P + 1 : Nat) : Int) = (P : Int) + 1 from rfl] at HDEL
            clear hz htz hPe hPI jz
            go_wp2_with fail
            refine HDEL.out.mono ?_
            rintro e W7 ⟨rfl, ho7, hg7⟩
            have HM7 := Lib.hid (HMI.out.del ho7 hg7)
            clear ho7 hg7 HDEL
            go_wp2
            go_roundw
            case rel => exact ⟨k + 1, g1, c1, m - 1, _, by go_num, by omega, rfl, rfl, rfl, HS2.out, HEL.out, HM7.out⟩
            case measure => simp [intOf]; omega
    · obtain rfl : k = T := by omega
      rw [HS.out] at HL HM
      have HRES : Hid (OwnI wr w.heap.size (.slice (some ⟨g, 0, none⟩) (mhTo js O k).out.length c9) (mhTo js O k).out) := by rw [← HL.out]; exact HM.out.own
      have HBL := Lib.hid HM.out.bel
      rw [HL.out, HS.out]
      clear HL
      go_wp2
      go_ret3
      exact ⟨⟨O, g, c9, HO.out, rfl, HRES.out⟩, HBL.out⟩
end Go.Proofs.Ytcopjdhnmkfkfaa

namespace Go.Proofs.Ytcopjdhnmkfkfaa
open Go.RowKit
set_option linter.unusedVariables false
set_option linter.unusedSimpArgs false

theorem bitJ_of (x k : Nat) (hx : x < 2 ^ 12) : bits .and .i64 ((x : Int) / 2 ^ k) 1 = if x.testBit k then 1 else 0 := by
  have h1 : (x : Int) / 2 ^ k = ((x / 2 ^ k : Nat) : Int) := by simp
  have h2 : x / 2 ^ k < 2 ^ 12 := Nat.lt_of_le_of_lt (Nat.div_le_self _ _) hx
  rw [h1, show (1 : Int) = ((1 : Nat) : Int) from rfl, (bits_nat .i64 12 (by decide) (fun m h0 h1 => IntWalk.i64_in m (by omega)) (x / 2 ^ k) 1 h2 (by decide)).1]
  rw [Nat.testBit_eq_decide_div_mod_eq, Nat.and_one_is_mod]
  by_cases h : x / 2 ^ k % 2 = 1
  · rw [h]; simp
  · have : x / 2 ^ k % 2 = 0 := by omega
    rw [this]; simp
theorem bitsJ_or (x p : Nat) (hx : x < 2 ^ 12) (hp : p < 2 ^ 12) : bits .or .i64 (x : Int) (p : Int) = ((x ||| p : Nat) : Int) :=
  (bits_nat .i64 12 (by decide) (fun m h0 h1 => IntWalk.i64_in m (by omega)) x p hx hp).2
end Go.Proofs.Ytcopjdhnmkfkfaa

namespace Go.Proofs.Ytcopjdhnmkfkfaa
open Go.RowKit
set_option linter.unusedVariables false
set_option linter.unusedSimpArgs false

theorem full_iff (n d : Nat) : d = 2 ^ n - 1 ↔ (fullM n d ∧ d < 2 ^ n) := by
  have hp : 0 < 2 ^ n := Nat.two_pow_pos n
  constructor
  · rintro rfl
    exact ⟨fun i hi => by rw [Nat.testBit_two_pow_sub_one]; simpa using hi, by omega⟩
  · rintro ⟨h1, h2⟩
    refine Nat.eq_of_testBit_eq fun i => ?_
    rw [Nat.testBit_two_pow_sub_one]
    by_cases hi : i < n
    · rw [h1 i hi]; simp [hi]
    · rw [Nat.testBit_lt_two_pow (Nat.lt_of_lt_of_le h2 (Nat.pow_le_pow_right (by omega) (by omega)))]
      simp [hi]
theorem seqV_bounds {kind : Int} {js : List Jb} (hs : SmJ js) (hf : FreeJ js) : ∀ (q : List Int) (t : Int), 0 ≤ t → t + 10000 * (q.length : Int) ≤ 1000000 → (∀ x ∈ q, x.toNat < js.length) → q ≠ [] → ∃ c, seqO kind js none t q = some c ∧ -10000 * (q.length : Int) ≤ c ∧ c ≤ 10000000000 * (q.length : Int)
  | [], t, _, _, _, h => absurd rfl h
  | x :: q, t, h0, ht, hx, _ => by
    have hxl := hx x List.mem_cons_self
    have h1 := hs.time x.toNat hxl
    have h2 := hf.rel x.toNat
    rw [List.length_cons] at ht ⊢
    show ∃ c, seqO kind js (some (shareB kind (jbN js x.toNat) (max t (rlJ js x.toNat) + tmJ js x.toNat))) (max t (rlJ js x.toNat) + tmJ js x.toNat) q = some c ∧ _
    rw [h2, show max t 0 = t by omega]
    have h3 := shareB_bounds (kind := kind) (j := jbN js x.toNat) (e := t + tmJ js x.toNat) (hs.due _ hxl) (hs.wgt _ hxl) (by omega)
    obtain ⟨s, hse⟩ : ∃ s, shareB kind (jbN js x.toNat) (t + tmJ js x.toNat) = s := ⟨_, rfl⟩
    rw [hse] at h3 ⊢
    by_cases hq : q = []
    · subst hq
      exact ⟨s, rfl, by simp; omega, by simp; omega⟩
    · obtain ⟨c, c1, c2, c3⟩ := seqV_bounds (kind := kind) hs hf q (t + tmJ js x.toNat) (by omega) (by omega) (fun y hy => hx y (List.mem_cons_of_mem _ hy)) hq
      obtain ⟨h4, _⟩ := seqO_some kind js q 0 s (t + tmJ js x.toNat)
      rw [h4, c1]
      refine ⟨_, rfl, ?_⟩
      show _ ≤ bothB (isGr kind) s c ∧ bothB (isGr kind) s c ≤ _
      unfold bothB
      split <;> omega
theorem doneT_le {js : List Jb} (hs : SmJ js) (done : Nat) : ∀ k, k ≤ js.length → 0 ≤ doneT js done k ∧ doneT js done k ≤ 10000 * (k : Int)
  | 0, _ => by unfold doneT; omega
  | k + 1, hk => by
    have h1 := doneT_le hs done k (by omega)
    have h2 := hs.time k (by omega)
    unfold doneT
    split <;> omega
theorem leastM_bounds {kind x : Int} {js : List Jb} {done : Nat} (hs : SmJ js) (hf : FreeJ js) (h : LeastM kind js done x) : -300000 ≤ x ∧ x ≤ 300000000000 := by
  obtain ⟨q, q1, q2, q3⟩ := h.has
  have hl : q.length ≤ js.length := by
    have := subQ_len q (idL js.length) q1.nodup (fun x hx => idL_mem.2 (q1.lt x hx))
    rwa [idL_length] at this
  have hd := doneT_le hs done js.length (Nat.le_refl _)
  have hn := hs.n24
  obtain ⟨c, c1, c2, c3⟩ := seqV_bounds (kind := kind) hs hf q (doneT js done js.length) hd.1 (by omega) (fun x hx => by have := q1.lt x hx; omega) q2
  unfold seqV at q3
  rw [c1] at q3
  have q3 : c = x := q3
  omega
end Go.Proofs.Ytcopjdhnmkfkfaa

namespace Go.Proofs.Ytcopjdhnmkfkfaa
open Go.RowKit
set_option linter.unusedVariables false
set_option linter.unusedSimpArgs false

def tabK (L : List Int) (done : Nat) : Option Int → List Int
  | none => L
  | some b => L.set done b
theorem tabK_len (L : List Int) (done : Nat) (o : Option Int) : (tabK L done o).length = L.length := by cases o <;> simp [tabK]
theorem tabK_ne {L : List Int} {done m : Nat} {o : Option Int} (h : m ≠ done) : nth (tabK L done o) m = nth L m := by
  cases o with
  | none => rfl
  | some b => unfold tabK nth; rw [List.getD_eq_getElem?_getD, List.getElem?_set_ne (fun e => h e.symm), List.getD_eq_getElem?_getD]
theorem tabK_at {L : List Int} {done : Nat} {b : Int} (h : done < L.length) : nth (tabK L done (some b)) done = b := by
  unfold tabK; rw [nth_setJ _ h, if_pos rfl]
theorem tabK_set (L : List Int) (done : Nat) (o : Option Int) (c : Int) : (tabK L done o).set done c = tabK L done (some c) := by
  cases o with
  | none => rfl
  | some b => unfold tabK; rw [List.set_set]
structure LcT (kind : Int) (js : List Jb) (P : Nat) (D : Int) (L : List Int) : Prop where
  len : L.length = P
  least : ∀ d : Nat, D < (d : Int) → d < P - 1 → LeastM kind js d (nth L d)
def LcR1 (kind : Int) (js : List Jb) (P : Nat) (w : World) (vd : Value) (wr : World) : Prop :=
  ∃ (D : Int) (L : List Int), vd = .int .i64 D ∧ -1 ≤ D ∧ D ≤ (P : Int) - 2 ∧ Hid (LcT kind js P D L) ∧ Hid (OwnI wr w.heap.size (.slice (some ⟨w.heap.size, 0, none⟩) P P) L) ∧ Hid (Below w.heap.size w wr)
def LcR2 (js : List Jb) (done T P : Nat) (L : List Int) (w : World) (ve vk : Value) (wr : World) : Prop :=
  ∃ k : Nat, k ≤ T ∧ vk = .int .i64 k ∧ ve = .int .i64 (doneT js done k) ∧ Hid (OwnI wr w.heap.size (.slice (some ⟨w.heap.size, 0, none⟩) P P) L) ∧ Hid (Below w.heap.size w wr)
def LcR3 (kind : Int) (js : List Jb) (done T P : Nat) (L : List Int) (w : World) (vf vk : Value) (wr : World) : Prop :=
  ∃ (k : Nat) (f : Bool), k ≤ T ∧ vk = .int .i64 k ∧ vf = .bool f ∧ Hid (f = (bestTo kind js (nth L) (P - 1) done k).isSome) ∧ Hid (OwnI wr w.heap.size (.slice (some ⟨w.heap.size, 0, none⟩) P P) (tabK L done (bestTo kind js (nth L) (P - 1) done k))) ∧ Hid (Below w.heap.size w wr)
theorem bestTo_skip {kind : Int} {js : List Jb} {rest : Nat → Int} {full done k : Nat} (h : done.testBit k = true) : bestTo kind js rest full done (k + 1) = bestTo kind js rest full done k := by
  show (if done.testBit k then _ else _) = _
  rw [if_pos h]
theorem bestTo_first {kind : Int} {js : List Jb} {rest : Nat → Int} {full done k : Nat} (h : done.testBit k = false) (hb : bestTo kind js rest full done k = none) : bestTo kind js rest full done (k + 1) = some (wayC kind js rest full done k) := by
  show (if done.testBit k then _ else _) = _
  rw [if_neg (by rw [h]; simp), hb]
theorem bestTo_less {kind : Int} {js : List Jb} {rest : Nat → Int} {full done k : Nat} {b : Int} (h : done.testBit k = false) (hb : bestTo kind js rest full done k = some b) (hl : wayC kind js rest full done k < b) : bestTo kind js rest full done (k + 1) = some (wayC kind js rest full done k) := by
  show (if done.testBit k then _ else _) = _
  rw [if_neg (by rw [h]; simp), hb]
  exact if_pos hl
theorem bestTo_more {kind : Int} {js : List Jb} {rest : Nat → Int} {full done k : Nat} {b : Int} (h : done.testBit k = false) (hb : bestTo kind js rest full done k = some b) (hl : ¬ wayC kind js rest full done k < b) : bestTo kind js rest full done (k + 1) = some b := by
  show (if done.testBit k then _ else _) = _
  rw [if_neg (by rw [h]; simp), hb]
  exact if_neg hl
set_option maxRecDepth 100000 in
set_option maxHeartbeats 8000000 in
theorem leastCosts_any (v : Value) (js : List Jb) (kind : Int) (w : World) (hv : Jobs w v js) (hs : SmJ js) (hf : FreeJ js) (h10 : js.length ≤ 10) (hk : 0 ≤ kind ∧ kind ≤ 4) :
    Calls Try.prog 23 #[v, .int .i64 kind] w fun e w' => (∃ g, e = .returned (.slice (some ⟨g, 0, none⟩) (2 ^ js.length) (2 ^ js.length)) ∧ ∃ L, OwnI w' w.heap.size (.slice (some ⟨g, 0, none⟩) (2 ^ js.length) (2 ^ js.length)) L ∧ LcT kind js (2 ^ js.length) (-1) L) ∧ Below w.heap.size w w' := by
  obtain ⟨b, o, c, rfl, hcap, hbw, hV⟩ := jobs_view hv hs.n1
  have HV : Hid (∀ W, Below w.heap.size w W → JbView W b o js) := hV
  have HSM := Lib.hid hs
  have HFR := Lib.hid hf
  obtain ⟨T, hT⟩ : ∃ T, js.length = T := ⟨_, rfl⟩
  have HT := Lib.hid hT
  obtain ⟨P, hP⟩ : ∃ P, 2 ^ T = P := ⟨_, rfl⟩
  have HP := Lib.hid hP
  have hP2 : 2 ≤ P := by rw [← hP]; have := Nat.pow_le_pow_right (n := 2) (by omega) (show 1 ≤ T by have := hs.n1; omega); omega
  have hP10 : P ≤ 1024 := by rw [← hP]; have := Nat.pow_le_pow_right (n := 2) (by omega) (show T ≤ 10 by omega); omega
  have hPI : (2 : Int) ^ T = (P : Int) := by rw [← hP]; simp
  have HFI : Hid (∀ d, d = P - 1 ↔ (fullM js.length d ∧ d < 2 ^ js.length)) := fun d => by rw [hT, ← hP]; exact full_iff T d
  have HSH : Hid (∀ (i done : Nat) W, i < js.length → Calls Try.prog 24 #[.agg #[.int .i64 (tmJ js i), .int .i64 (rlJ js i), .int .i64 (duJ js i), .int .i64 (wgJ js i)], .int .i64 kind, .int .i64 (doneT js done js.length + tmJ js i)] W fun x w' => x = .returned (.int .i64 (nextS kind js done i)) ∧ Below W.heap.size W w') := fun i done W hi => by
    have h1 := doneT_le hs done js.length (Nat.le_refl _)
    have h2 := hs.time i hi
    exact share_any _ _ _ _ kind _ W hk (hs.due i hi) (hs.wgt i hi) (by omega)
  have HNB : Hid (∀ (i done : Nat), i < js.length → -10000 ≤ nextS kind js done i ∧ nextS kind js done i ≤ 10000000000) := fun i done hi => by
    have h1 := doneT_le hs done js.length (Nat.le_refl _)
    have h2 := hs.time i hi
    exact shareB_bounds (hs.due i hi) (hs.wgt i hi) (by omega)
  have HLB : Hid (∀ d x, LeastM kind js d x → -300000 ≤ x ∧ x ≤ 300000000000) := fun d x h => leastM_bounds hs hf h
  have HDB : Hid (∀ d k, k ≤ js.length → 0 ≤ doneT js d k ∧ doneT js d k ≤ 10000 * (k : Int)) := fun d k h => doneT_le hs d k h
  rw [hT] at hcap HSH HNB HDB ⊢
  rw [hP]
  obtain ⟨i0, hi, hz0, hz1, hz2⟩ := info_parts info_i64
  have hT10 : T ≤ 10 := by omega
  have t0 : (0 : Int) ≤ (T : Int) := by omega
  have t64 : (T : Int) < 64 := by omega
  clear hv hs hf hV hT hP h10
  go_enter Try.func23, Try.ntmps23
  go_wp2_with (at_make; refine wpList_make_full _ rfl _ _ 27 rfl w.heap.size 2 i0 (.int .i64 0) 1 Try.underlying27 hi hz0 hz1 _ _ _ _ P rfl rfl rfl rfl (by rw [hz2]; omega) (by unfold maxLen; omega) (Nat.le_refl _) ?_; intro w1 hown1 hgrow1; have HB1 : Hid (Below w.heap.size w w1) := (Below.refl _ _).grown hgrow1 (Nat.le_refl _) (fun k e => by cases e); have HO1 := Lib.hid (OwnI.madeE hown1); clear hown1 hgrow1)
  have HR0 : Hid (LcR1 kind js P w (.int .i64 ((P : Int) - 2)) w1) := ⟨(P : Int) - 2, List.replicate P 0, rfl, by omega, Int.le_refl _, ⟨by simp, fun d h1 h2 => by omega⟩, HO1.out, HB1.out⟩
  clear HO1 HB1 hi hz0 hz1 hz2
  go_loopw [7] (fun vd wr => LcR1 kind js P w vd wr) (fun vd _ => (intOf vd + 1).toNat)
  case atStart => exact HR0.out
  case round =>
    obtain ⟨D, L, rfl, hD1, hD2, HL, HO, HB⟩ := hrel
    clear HR0
    by_cases hD0 : 0 ≤ D
    · obtain ⟨done, rfl⟩ : ∃ d : Nat, D = d := ⟨D.toNat, by omega⟩
      have hdP : done < P - 1 := by omega
      have hd12 : done < 2 ^ 12 := by omega
      have hdP2 : done < 2 ^ js.length := by rw [HT.out, HP.out]; omega
      have wdm : IntKind.i64.wrap ((done : Int) - 1) = (done : Int) - 1 := IntWalk.i64_in _ (by omega)
      have H20 : Hid (LcR2 js done T P L w (.int .i64 0) (.int .i64 0) wr) := ⟨0, Nat.zero_le _, rfl, rfl, HO.out, HB.out⟩
      clear HO HB
      go_wp2_with fail
      go_loopw [8, 30] (fun ve vk wi => LcR2 js done T P L w ve vk wi) (fun _ vk _ => T - (intOf vk).toNat)
      case atStart => exact H20.out
      case round =>
        obtain ⟨k, hkT, rfl, rfl, HO, HB⟩ := hrel
        clear H20
        by_cases hk2 : k < T
        · have k0 : (0 : Int) ≤ (k : Int) := by omega
          have k1 : (k : Int) < (T : Int) := by omega
          have k64 : (k : Int) < 64 := by omega
          have hc := HV.out _ HB.out k (by rw [HT.out]; exact hk2)
          have c0 := hc.c0
          have c1 := hc.c1
          have c2 := hc.c2
          have c3 := hc.c3
          have hbit := bitJ_of done k hd12
          have htb := HSM.out.time k (by rw [HT.out]; exact hk2)
          have hdb := HDB.out done k hkT
          have hst : doneT js done (k + 1) = doneT js done k + if done.testBit k then tmJ js k else 0 := rfl
          obtain ⟨E, hE⟩ : ∃ x, doneT js done k = x := ⟨_, rfl⟩
          obtain ⟨y0, hy0⟩ : ∃ x, tmJ js k = x := ⟨_, rfl⟩
          rw [hE, hy0] at hst
          rw [hE] at hdb ⊢
          rw [show (jbN js k).1 = y0 from hy0] at c0
          rw [hy0] at htb
          have w1' : IntKind.i64.wrap (E + y0) = E + y0 := IntWalk.i64_in _ (by omega)
          have HBA : Hid (∀ o : Obj, Below w.heap.size w (World.alloc _ o)) := fun o => HB.out.alloc HB.out.size o
          cases hbt : done.testBit k
          · rw [hbt] at hbit hst
            rw [if_neg (by simp)] at hbit hst
            have HST := Lib.hid hst
            clear hc hst hE hy0 hbt
            go_wp2_with fail
            go_roundw
            case rel => exact ⟨k + 1, by omega, by go_num, by rw [HST.out, Int.add_zero], HO.out.alloc _, HBA.out _⟩
            case measure => simp [intOf]; omega
          · rw [hbt] at hbit hst
            rw [if_pos rfl] at hbit hst
            have HST := Lib.hid hst
            clear hc hst hE hy0 hbt
            go_wp2_with fail
            go_roundw
            case rel => exact ⟨k + 1, by omega, by go_num, by rw [HST.out], HO.out.alloc _, HBA.out _⟩
            case measure => simp [intOf]; omega
        · obtain rfl : k = T := by omega
          have H30 : Hid (∀ wi, OwnI wi w.heap.size (.slice (some ⟨w.heap.size, 0, none⟩) P P) L → Below w.heap.size w wi → LcR3 kind js done k P L w (.bool false) (.int .i64 0) wi) := fun wi h1 h2 => ⟨0, false, Nat.zero_le _, rfl, rfl, rfl, h1, h2⟩
          have H31 := Lib.hid (H30.out _ HO.out HB.out)
          have hEb := HDB.out done k (Nat.le_refl _)
          obtain ⟨E, hE⟩ : ∃ x, doneT js done k = x := ⟨_, rfl⟩
          have HE := Lib.hid hE
          rw [hE] at hEb ⊢
          clear hE H30 HO HB
          go_wp2_with fail
          go_loopw [9, 47] (fun vf vk wi => LcR3 kind js done k P L w vf vk wi) (fun _ vk _ => k - (intOf vk).toNat)
          case atStart => exact H31.out
          case round =>
            obtain ⟨i, f, hiT, rfl, rfl, HF, HO, HB⟩ := hrel
            clear H31
            have hlenK : (tabK L done (bestTo kind js (nth L) (P - 1) done i)).length = P := by rw [tabK_len]; exact HL.out.len
            by_cases hi2 : i < k
            · have i0 : (0 : Int) ≤ (i : Int) := by omega
              have i1 : (i : Int) < (k : Int) := by omega
              have i64' : (i : Int) < 64 := by omega
              have hc := HV.out _ HB.out i (by rw [HT.out]; exact hi2)
              have c0 := hc.c0
              have c1 := hc.c1
              have c2 := hc.c2
              have c3 := hc.c3
              have hbit := bitJ_of done i hd12
              have htb := HSM.out.time i (by rw [HT.out]; exact hi2)
              have HBA : Hid (∀ o : Obj, Below w.heap.size w (World.alloc _ o)) := fun o => HB.out.alloc HB.out.size o
              cases hbt : done.testBit i
              · rw [hbt] at hbit
                rw [if_neg (by simp)] at hbit
                have HBT := Lib.hid hbt
                have hns := HNB.out i done hi2
                have HSI : Hid (∀ W, Calls Try.prog 24 #[.agg #[.int .i64 (tmJ js i), .int .i64 (rlJ js i), .int .i64 (duJ js i), .int .i64 (wgJ js i)], .int .i64 kind, .int .i64 (E + tmJ js i)] W fun x w' => x = .returned (.int .i64 (nextS kind js done i)) ∧ Below W.heap.size W w') := fun W => by
                  have h := HSH.out i done W hi2
                  rwa [HE.out] at h
                obtain ⟨Q, hQ⟩ : ∃ Q, 2 ^ i = Q := ⟨_, rfl⟩
                have hQP : Q ≤ P / 2 := by
                  have h1 := Nat.pow_le_pow_right (n := 2) (by omega) (show i + 1 ≤ k by omega)
                  rw [HP.out, Nat.pow_succ, hQ] at h1
                  omega
                have hQI : (2 : Int) ^ i = (Q : Int) := by rw [← hQ]; simp
                rw [hQI] at hbit
                obtain ⟨N, hN⟩ : ∃ N, done ||| Q = N := ⟨_, rfl⟩
                have hor := bitsJ_or done Q hd12 (by omega)
                rw [hN] at hor
                have hshift : 1 <<< i = Q := by rw [Nat.one_shiftLeft]; exact hQ
                have hN2 : done ||| 1 <<< i = N := by rw [hshift]; exact hN
                have hND : done < N := by
                  rcases Nat.lt_or_eq_of_le (show done ≤ N by rw [← hN]; exact Nat.left_le_or) with h | h
                  · exact h
                  · exfalso
                    have h1 := testBit_or_shift done i i
                    rw [hN2, ← h, hbt] at h1
                    simp at h1
                have hNP : N < P := by
                  rw [← HP.out, ← hN, ← hQ]
                  exact Nat.or_lt_two_pow (by rw [HP.out]; omega) (Nat.pow_lt_pow_right (by omega) hi2)
                obtain ⟨C, hC⟩ : ∃ C, wayC kind js (nth L) (P - 1) done i = C := ⟨_, rfl⟩
                obtain ⟨S, hS⟩ : ∃ S, nextS kind js done i = S := ⟨_, rfl⟩
                rw [hS] at HSI hns
                have hCv : C = if N = P - 1 then S else bothB (isGr kind) S (nth L N) := by rw [← hC, ← hS]; unfold wayC; rw [hN2]
                have HRB : Hid (N ≠ P - 1 → -300000 ≤ nth L N ∧ nth L N ≤ 300000000000) := fun h => HLB.out N _ (HL.out.least N (by omega) (by omega))
                have HBO : Hid (∀ W, N ≠ P - 1 → Calls Try.prog 25 #[.int .i64 kind, .int .i64 S, .int .i64 (nth L N)] W fun e w' => e = .returned (.int .i64 C) ∧ W = w') := fun W h => by
                  have h1 := HRB.out h
                  have h2 := both_any kind S (nth L N) W (by omega) (by omega)
                  rw [hCv, if_neg h]
                  exact h2
                have HC := Lib.hid hC
                obtain ⟨y0, hy0⟩ : ∃ x, tmJ js i = x := ⟨_, rfl⟩
                obtain ⟨y1, hy1⟩ : ∃ x, rlJ js i = x := ⟨_, rfl⟩
                obtain ⟨y2, hy2⟩ : ∃ x, duJ js i = x := ⟨_, rfl⟩
                obtain ⟨y3, hy3⟩ : ∃ x, wgJ js i = x := ⟨_, rfl⟩
                rw [hy0, hy1, hy2, hy3] at HSI
                rw [show (jbN js i).1 = y0 from hy0] at c0
                rw [show (jbN js i).2.1 = y1 from hy1] at c1
                rw [show (jbN js i).2.2.1 = y2 from hy2] at c2
                rw [show (jbN js i).2.2.2 = y3 from hy3] at c3
                rw [hy0] at htb
                have we : IntKind.i64.wrap (E + y0) = E + y0 := IntWalk.i64_in _ (by omega)
                have n0 : (0 : Int) ≤ (N : Int) := by omega
                have n1 : (N : Int) < (P : Int) := by omega
                have d0 : (0 : Int) ≤ (done : Int) := by omega
                have d1 : (done : Int) < (P : Int) := by omega
                have wpm : IntKind.i64.wrap ((P : Int) - 1) = (P : Int) - 1 := IntWalk.i64_in _ (by omega)
                obtain ⟨BK, hBK⟩ : ∃ B, bestTo kind js (nth L) (P - 1) done i = B := ⟨_, rfl⟩
                have HBK := Lib.hid hBK
                rw [hBK] at HF HO hlenK
                have HNN : Hid (nth (tabK L done BK) N = nth L N) := tabK_ne (by omega)
                have HLK := Lib.hid hlenK
                have HCV := Lib.hid hCv
                clear hCv hc hbt hQ hN hshift hN2 hC hS hy0 hy1 hy2 hy3 hBK hlenK
                go_wp2_with fail
                refine (HSI.out _).mono ?_
                rintro e W2 ⟨rfl, hb2⟩
                have HB2 : Hid (Below w.heap.size w W2) := (HBA.out _).trans (hb2.mono (HBA.out _).size)
                have HO2 := Lib.hid ((HO.out.alloc _).below hb2 (Nat.le_refl _))
                obtain ⟨s1, s2, s3, s4⟩ := HO2.out.store HLK.out.symm done (by rw [HLK.out]; omega) C
                rw [tabK_set] at s3
                have S3 := Lib.hid s3
                have S4 : Hid (Below w.heap.size w (W2.setCell ⟨w.heap.size, done, none⟩ (.int .i64 C))) := HB2.out.grown s4 HB2.out.size (fun j e => by cases e; exact Nat.le_refl _)
                have cN := HO2.out.at_ HLK.out.symm N (by rw [HLK.out]; exact hNP)
                rw [HNN.out] at cN
                clear hb2 s3 s4 HSI c0 c1 c2 c3 HBA
                cases BK with
                | none =>
                  have HNX := Lib.hid (bestTo_first HBT.out HBK.out)
                  rw [HC.out] at HNX
                  have hf0 : f = false := HF.out
                  subst hf0
                  by_cases hNf : N = P - 1
                  · have hCS : C = S := by rw [HCV.out, if_pos hNf]
                    have hNf2 : (N : Int) = (P : Int) - 1 := by omega
                    clear hNf HBO HRB
                    subst hCS
                    go_wp2_with fail
                    go_roundw
                    case rel => exact ⟨i + 1, true, by omega, by go_num, rfl, by show _ = _; rw [HNX.out]; rfl, by show OwnI _ _ _ _; rw [HNX.out]; exact S3.out, S4.out⟩
                    case measure => simp [intOf]; omega
                  · have hNf2 : ¬ (N : Int) = (P : Int) - 1 := by omega
                    have HBN := Lib.hid (fun W => HBO.out W hNf)
                    clear hNf HBO HRB
                    go_wp2_with (go_at_call 25; refine (HBN.out _).mono ?_; rintro e w' ⟨rfl, rfl⟩)
                    go_roundw
                    case rel => exact ⟨i + 1, true, by omega, by go_num, rfl, by show _ = _; rw [HNX.out]; rfl, by show OwnI _ _ _ _; rw [HNX.out]; exact S3.out, S4.out⟩
                    case measure => simp [intOf]; omega
                | some b0 =>
                  have hf0 : f = true := HF.out
                  subst hf0
                  have cD := HO2.out.at_ HLK.out.symm done (by rw [HLK.out]; omega)
                  rw [tabK_at (by rw [HL.out.len]; omega)] at cD
                  clear s1
                  by_cases hlt : C < b0
                  · have HNX := Lib.hid (bestTo_less HBT.out HBK.out (by rw [HC.out]; exact hlt))
                    rw [HC.out] at HNX
                    by_cases hNf : N = P - 1
                    · have hCS : C = S := by rw [HCV.out, if_pos hNf]
                      have hNf2 : (N : Int) = (P : Int) - 1 := by omega
                      clear hNf HBO HRB
                      subst hCS
                      go_wp2_with fail
                      go_roundw
                      case rel => exact ⟨i + 1, true, by omega, by go_num, rfl, by show _ = _; rw [HNX.out]; rfl, by show OwnI _ _ _ _; rw [HNX.out]; exact S3.out, S4.out⟩
                      case measure => simp [intOf]; omega
                    · have hNf2 : ¬ (N : Int) = (P : Int) - 1 := by omega
                      have HBN := Lib.hid (fun W => HBO.out W hNf)
                      clear hNf HBO HRB
                      go_wp2_with (go_at_call 25; refine (HBN.out _).mono ?_; rintro e w' ⟨rfl, rfl⟩)
                      go_roundw
                      case rel => exact ⟨i + 1, true, by omega, by go_num, rfl, by show _ = _; rw [HNX.out]; rfl, by show OwnI _ _ _ _; rw [HNX.out]; exact S3.out, S4.out⟩
                      case measure => simp [intOf]; omega
                  · have HNX := Lib.hid (bestTo_more HBT.out HBK.out (by rw [HC.out]; exact hlt))
                    by_cases hNf : N = P - 1
                    · have hCS : C = S := by rw [HCV.out, if_pos hNf]
                      have hNf2 : (N : Int) = (P : Int) - 1 := by omega
                      clear hNf HBO HRB
                      subst hCS
                      go_wp2_with fail
                      go_roundw
                      case rel => exact ⟨i + 1, true, by omega, by go_num, rfl, by show _ = _; rw [HNX.out]; rfl, by show OwnI _ _ _ _; rw [HNX.out]; exact HO2.out, HB2.out⟩
                      case measure => simp [intOf]; omega
                    · have hNf2 : ¬ (N : Int) = (P : Int) - 1 := by omega
                      have HBN := Lib.hid (fun W => HBO.out W hNf)
                      clear hNf HBO HRB
                      go_wp2_with (go_at_call 25; refine (HBN.out _).mono ?_; rintro e w' ⟨rfl, rfl⟩)
                      go_roundw
                      case rel => exact ⟨i + 1, true, by omega, by go_num, rfl, by show _ = _; rw [HNX.out]; rfl, by show OwnI _ _ _ _; rw [HNX.out]; exact HO2.out, HB2.out⟩
                      case measure => simp [intOf]; omega
              · rw [hbt] at hbit
                rw [if_pos rfl] at hbit
                have HBS := Lib.hid (bestTo_skip (kind := kind) (js := js) (rest := nth L) (full := P - 1) hbt)
                clear hc hbt
                go_wp2_with fail
                go_roundw
                case rel => exact ⟨i + 1, f, by omega, by go_num, rfl, by show _ = _; rw [HBS.out]; exact HF.out, by show OwnI _ _ _ _; rw [HBS.out]; exact HO.out.alloc _, HBA.out _⟩
                case measure => simp [intOf]; omega
            · obtain rfl : i = k := by omega
              have hsp := bestTo_spec kind js (nth L) (P - 1) done i
              have hLM : ∀ b, bestTo kind js (nth L) (P - 1) done i = some b → LeastM kind js done b := fun b hb => by
                refine leastM_step HFR.out HFI.out hdP2 (fun i' hi' hd' hne => ?_) (by rw [HT.out]; exact hb)
                have h1 := testBit_or_shift done i' i'
                have h2 : done < done ||| 1 <<< i' := by
                  rcases Nat.lt_or_eq_of_le (show done ≤ done ||| 1 <<< i' from Nat.left_le_or) with h | h
                  · exact h
                  · exfalso
                    rw [← h, hd'] at h1
                    simp at h1
                have h3 : done ||| 1 <<< i' < P := by
                  rw [← HP.out, ← HT.out]
                  refine Nat.or_lt_two_pow (by rw [HT.out, HP.out]; omega) ?_
                  rw [Nat.one_shiftLeft]
                  exact Nat.pow_lt_pow_right (by omega) hi'
                exact HL.out.least _ (by omega) (by omega)
              have hne : bestTo kind js (nth L) (P - 1) done i ≠ none := fun h0 => by
                have h1 := hsp.1 h0
                have h2 := (HFI.out done).2 ⟨fun i' hi' => h1 i' (by rw [← HT.out]; exact hi'), hdP2⟩
                omega
              have HNEW : Hid (LcT kind js P ((done : Int) - 1) (tabK L done (bestTo kind js (nth L) (P - 1) done i))) := by
                refine ⟨hlenK, fun d h1 h2 => ?_⟩
                by_cases e : d = done
                · subst e
                  cases hb : bestTo kind js (nth L) (P - 1) d i with
                  | none => exact absurd hb hne
                  | some b => rw [tabK_at (by rw [HL.out.len]; omega)]; exact hLM b hb
                · rw [tabK_ne e]; exact HL.out.least d (by omega) h2
              clear hsp hLM hne hlenK
              go_wp2_with fail
              go_roundw
              case rel => exact ⟨(done : Int) - 1, _, rfl, by omega, by omega, HNEW.out, HO.out, HB.out⟩
              case measure => first | (simp [intOf]; done) | (simp [intOf]; omega)
    · obtain rfl : D = -1 := by omega
      go_wp2
      go_ret
      exact ⟨⟨_, rfl, L, HO.out, HL.out⟩, HB.out⟩
end Go.Proofs.Ytcopjdhnmkfkfaa

namespace Go.Proofs.Ytcopjdhnmkfkfaa
open Go.RowKit
set_option linter.unusedVariables false
set_option linter.unusedSimpArgs false

theorem restOk_of {kind : Int} {js : List Jb} {L : List Int} (hf : FreeJ js) (h : LcT kind js (2 ^ js.length) (-1) L) : RestOk kind js (nth L) (2 ^ js.length - 1) :=
  ⟨hf, fun d => full_iff js.length d, fun d h1 h2 => h.least d (by omega) (by omega)⟩
theorem doneT_zero (js : List Jb) : ∀ m, doneT js 0 m = 0
  | 0 => rfl
  | m + 1 => by
    have := doneT_zero js m
    unfold doneT
    rw [this, Nat.zero_testBit, if_neg (by simp)]; rfl
theorem comp_zero {n : Nat} {E : List Int} (hE : E.Perm (idL n)) : CompQ n 0 E :=
  ⟨permQ_nodup hE, fun i hi => by rw [Nat.zero_testBit]; exact ⟨fun _ => rfl, fun _ => hE.mem_iff.2 (idL_mem.2 (by omega))⟩, fun x hx => idL_mem.1 (hE.mem_iff.1 hx)⟩
theorem rest_zero {kind : Int} {js : List Jb} {L : List Int} (h1 : 1 ≤ js.length) (h : LcT kind js (2 ^ js.length) (-1) L) : LeastM kind js 0 (nth L 0) := by
  have := Nat.pow_le_pow_right (n := 2) (by omega) h1
  exact h.least 0 (by omega) (by omega)
theorem rest_min {kind : Int} {js : List Jb} {L : List Int} (h1 : 1 ≤ js.length) (h : LcT kind js (2 ^ js.length) (-1) L) :
    (∀ E ∈ permL js.length js.length [], ∀ c, seqO kind js none 0 E = some c → nth L 0 ≤ c) ∧ ∃ E ∈ permL js.length js.length [], seqO kind js none 0 E = some (nth L 0) := by
  have hL := rest_zero h1 h
  refine ⟨fun E hE c hc => ?_, ?_⟩
  · have hp := permL_perm.1 hE
    have hne : E ≠ [] := fun e => by have := hp.length_eq; rw [e, idL_length] at this; simp at this; omega
    have h2 := hL.low E (comp_zero hp) hne
    unfold seqV at h2
    rw [doneT_zero, hc] at h2
    exact h2
  · obtain ⟨q, q1, q2, q3⟩ := hL.has
    have hp : q.Perm (idL js.length) := subQ_perm q (idL js.length) q1.nodup (fun x hx => idL_mem.2 (q1.lt x hx)) (by
      refine subQ_len _ _ (idQ_nodup _) fun x hx => ?_
      have hx := idL_mem.1 hx
      obtain ⟨i, rfl⟩ : ∃ i : Nat, x = i := ⟨x.toNat, by omega⟩
      exact (q1.mem i (by omega)).2 (Nat.zero_testBit i))
    refine ⟨q, permL_perm.2 hp, ?_⟩
    obtain ⟨_, h2⟩ := seqO_some kind js q 0 0 0
    obtain ⟨c, hc⟩ := h2 q2
    unfold seqV at q3
    rw [doneT_zero, hc] at q3
    rw [hc]
    exact congrArg some q3
theorem find_congr {α : Type} {p q : α → Bool} : ∀ (l : List α), (∀ x ∈ l, p x = q x) → l.find? p = l.find? q
  | [], _ => rfl
  | x :: l, h => by
    rw [List.find?_cons, List.find?_cons, h x List.mem_cons_self, find_congr l (fun y hy => h y (List.mem_cons_of_mem _ hy))]
theorem firstEq_some {kind : Int} {js : List Jb} {L : List Int} (h1 : 1 ≤ js.length) (h : LcT kind js (2 ^ js.length) (-1) L) : firstEq kind js (nth L 0) js.length [] ≠ none := fun e => by
  obtain ⟨E, hE, hc⟩ := (rest_min h1 h).2
  unfold firstEq at e
  rw [List.find?_eq_none] at e
  exact e E hE (by rw [hc]; simp)
theorem firstL_of {kind : Int} {js : List Jb} {L b : List Int} (h1 : 1 ≤ js.length) (h : LcT kind js (2 ^ js.length) (-1) L) (hb : firstEq kind js (nth L 0) js.length [] = some b) : firstL js.length (costF kind js) = some (b, nth L 0) := by
  obtain ⟨m1, E, hE, hc⟩ := rest_min h1 h
  have hcost : ∀ E ∈ permL js.length js.length [], costF kind js E = seqO kind js none 0 E := fun E hE => costE_seq (permL_perm.1 hE) h1
  cases hf : firstL js.length (costF kind js) with
  | none =>
    have := (firstL_spec (n := js.length) (f := costF kind js)).1 hf E (permL_perm.1 hE)
    cases this
  | some r =>
    obtain ⟨b', l'⟩ := r
    obtain ⟨a1, a2, a3⟩ := (firstL_spec (n := js.length) (f := costF kind js)).2 b' l' hf
    have e1 : l' ≤ nth L 0 := a3 E (permL_perm.1 hE) _ (by rw [hcost E hE, hc])
    have e2 : nth L 0 ≤ l' := m1 b' (permL_perm.2 a1) l' (by rw [← hcost b' (permL_perm.2 a1)]; exact a2)
    have e3 : l' = nth L 0 := by omega
    subst e3
    have hf' := hf
    unfold firstL at hf'
    rw [permF_eq] at hf'
    rcases fl_first (costF kind js) (permL js.length js.length []) none b' _ hf' with ⟨b0, h2, _⟩ | ⟨_, h2⟩
    · cases h2
    · unfold firstEq at hb
      rw [find_congr _ (fun x hx => by rw [hcost x hx])] at h2
      rw [hb] at h2
      injection h2 with h2
      rw [h2]
/-- What the parts of an order cost, 0 for none. -/
def soP (kind : Int) (js : List Jb) (p : List Int) : Int := (seqO kind js none 0 p).getD 0
theorem soP_bounds {kind : Int} {js : List Jb} {p : List Int} (hs : SmJ js) (hf : FreeJ js) (hp : PreOk js.length p) : -300000 ≤ soP kind js p ∧ soP kind js p ≤ 300000000000 := by
  have hl := hp.len
  have hn := hs.n24
  by_cases h0 : p = []
  · subst h0
    show -300000 ≤ (0 : Int) ∧ (0 : Int) ≤ _; omega
  · obtain ⟨c, c1, c2, c3⟩ := seqV_bounds (kind := kind) hs hf p 0 (Int.le_refl _) (by omega) (fun x hx => by have := hp.lt x hx; omega) h0
    unfold soP
    rw [c1]
    show -300000 ≤ c ∧ c ≤ _
    omega
theorem soP_push {kind : Int} {js : List Jb} {p : List Int} {i : Nat} (hf : FreeJ js) (hp : PreOk js.length p) : soP kind js (p ++ [(i : Int)]) = nextC kind js p i := by
  unfold soP nextC
  rw [seqO_append, timeL_done hf hp]
  have h1 := hf.nn (maskL p) js.length
  show (obB (isGr kind) (seqO kind js none 0 p) (shareB kind (jbN js (i : Int).toNat) (max (doneT js (maskL p) js.length) (rlJ js (i : Int).toNat) + tmJ js (i : Int).toNat))).getD 0 = _
  rw [Int.toNat_natCast, hf.rel i, show max (doneT js (maskL p) js.length) 0 = doneT js (maskL p) js.length by omega]
  rfl
theorem nextC_nil (kind : Int) (js : List Jb) (i : Nat) : nextC kind js [] i = nextS kind js (maskL []) i := rfl
theorem nextC_cons {kind : Int} {js : List Jb} {p : List Int} {i : Nat} (hp : p ≠ []) : nextC kind js p i = bothB (isGr kind) (soP kind js p) (nextS kind js (maskL p) i) := by
  obtain ⟨_, h2⟩ := seqO_some kind js p 0 0 0
  obtain ⟨c, hc⟩ := h2 hp
  unfold nextC soP
  rw [hc]; rfl
end Go.Proofs.Ytcopjdhnmkfkfaa
