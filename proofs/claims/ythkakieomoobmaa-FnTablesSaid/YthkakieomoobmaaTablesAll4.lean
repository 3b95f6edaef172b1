/- impl.BestTable. Conditions: valid rules, at most 4096 tables. With texts that it needs. -/
import Derived.Test.YthkakieomoobmaaTablesAll3
import Derived.Test.YthkakieomoobmaaTablesAll1
import Derived.Deep.LoopGhost
import Derived.Laws.EntriesVeiled
import Derived.Deep.QuietTactic
import Derived.BigQuiet
namespace Go.Proofs.Ythkakieomoobmaa
open Go.RowKit
set_option linter.unusedVariables false
set_option linter.unusedSimpArgs false

theorem RlOk.rlB {e p : Int} {n : Nat} {r : Ru4} (h : RlOk e p r) (he : e = n) (hp : p ≤ 1000) : RlB n r := by
  obtain ⟨a1, a2, a3, a4, a5, a6, a7, a8, a9⟩ := h
  exact ⟨r.1.toNat, r.2.1.toNat, by omega, by omega, by omega, by omega, a6, by omega⟩
theorem tmB_of {ts : List Int} {p : Int} {n : Nat} (hb : ∀ x ∈ ts, 0 ≤ x ∧ x < p) (hn : n = ts.length) (hp : p ≤ 1000) : TmB ts n := fun k hk => by
  have := hb (nth ts k) (by rw [nth_eq (by omega)]; exact List.getElem_mem _)
  omega
theorem keepsRules_any (p : Int) (gr L cr g n c B : Nat) (ts : List Int) (rs : List Ru4) (W : World) (hL : L = rs.length) (hL2 : L ≤ 32) (hrs : RulN W gr rs) (hts : OwnI W B (.slice (some ⟨g, 0, none⟩) n c) ts) (hn : n = ts.length) (hn2 : 1 ≤ n ∧ n ≤ 12) (hb : ∀ x ∈ ts, 0 ≤ x ∧ x < p) (hr : ∀ r ∈ rs, RlOk (n : Int) p r) (hp : 1 ≤ p ∧ p ≤ 60) :
    Calls Try.prog 16 #[.int .i64 (n : Int), .slice (some ⟨gr, 0, none⟩) L cr, .int .i64 p, .slice (some ⟨g, 0, none⟩) n c] W fun e w' => e = .returned (.tuple #[.bool (okTo p ts rs rs.length), .bool true]) ∧ Below W.heap.size W w' := by
  have HA := Lib.hid (areRules_yes (n : Int) p gr L cr rs W hL hL2 hrs hr (by omega) hp)
  have HT : Hid (∀ W', Below W.heap.size W W' → Calls Try.prog 37 #[.slice (some ⟨g, 0, none⟩) n c, .int .i64 p] W' fun x w' => x = .returned (.bool true) ∧ W' = w') := fun W' hb' => areTableTimes_yes _ ts p W' (hts.ints.below hb' (Nat.le_refl _)) (by omega) hb hp
  have HW : Hid (∀ W', Below W.heap.size W W' → Calls Try.prog 38 #[.slice (some ⟨gr, 0, none⟩) L cr, .slice (some ⟨g, 0, none⟩) n c, .int .i64 p] W' fun e w' => (∃ s, e = .returned (.tuple #[.int .i64 s, .bool (okTo p ts rs rs.length)])) ∧ Below W'.heap.size W' w') := fun W' hb' => by
    have h := waits_any p gr L cr g n c ts rs W' hL (by omega) (hrs.below hb' hrs.1) ((NumN.of_own hts hn).below hb' (NumN.of_own hts hn).1) (by omega) (tmB_of hb hn (by omega)) (fun r hx => (hr r hx).rlB rfl (by omega)) (by omega)
    refine h.mono ?_
    rintro e w' ⟨h1, h2⟩
    refine ⟨?_, h2⟩
    unfold waL at h1
    cases ho : okTo p ts rs rs.length
    · rw [ho] at h1; exact ⟨0, h1⟩
    · rw [ho] at h1; exact ⟨_, h1⟩
  obtain ⟨b, hb2⟩ : ∃ b, okTo p ts rs rs.length = b := ⟨_, rfl⟩
  rw [hb2] at HW ⊢
  clear hL hL2 hrs hts hn hn2 hb hr hb2
  go_enter Try.func16, Try.ntmps16
  go_wp2_with (first
    | (go_at_call 12; refine HA.out.mono ?_; rintro e W1 ⟨rfl, hb1⟩; have HB1 := Lib.hid hb1; have HT1 := Lib.hid (HT.out _ hb1); have HW1 := Lib.hid (HW.out _ hb1); clear hb1)
    | (go_at_call 37; refine HT1.out.mono ?_; rintro e w' ⟨rfl, rfl⟩)
    | (go_at_call 38; refine HW1.out.mono ?_; rintro e W2 ⟨⟨s, rfl⟩, hb2⟩; have HB2 := Lib.hid hb2; clear hb2))
  go_ret2
  exact ⟨rfl, HB1.out.trans (HB2.out.mono HB1.out.size)⟩
def TuR (p b : Int) (ts : List Int) (W : World) (vo vk : Value) (wr : World) : Prop :=
  ∃ k g c : Nat, k ≤ ts.length ∧ vk = .int .i64 k ∧ vo = .slice (some ⟨g, 0, none⟩) k c ∧ OwnI wr W.heap.size (.slice (some ⟨g, 0, none⟩) k c) ((turnL p b ts).take k) ∧ Below W.heap.size W wr
set_option maxRecDepth 100000 in
set_option maxHeartbeats 1000000 in
theorem turnTable_any (p b : Int) (g n c B : Nat) (ts : List Int) (W : World) (hts : OwnI W B (.slice (some ⟨g, 0, none⟩) n c) ts) (hn : n = ts.length) (hn2 : 1 ≤ n ∧ n ≤ 12) (hb : ∀ x ∈ ts, 0 ≤ x ∧ x < p) (hp : 1 ≤ p ∧ p ≤ 60) (hby : -1000 ≤ b ∧ b ≤ 1000) :
    Calls Try.prog 17 #[.slice (some ⟨g, 0, none⟩) n c, .int .i64 p, .int .i64 b] W fun e w' => (∃ g' c', e = .returned (.tuple #[.slice (some ⟨g', 0, none⟩) n c', .bool true]) ∧ OwnI w' W.heap.size (.slice (some ⟨g', 0, none⟩) n c') (turnL p b ts)) ∧ Below W.heap.size W w' := by
  have HT : Hid (Calls Try.prog 37 #[.slice (some ⟨g, 0, none⟩) n c, .int .i64 p] W fun x w' => x = .returned (.bool true) ∧ W = w') := areTableTimes_yes _ ts p W hts.ints (by omega) hb hp
  have HN := Lib.hid (NumN.of_own hts hn)
  have hTL : (turnL p b ts).length = ts.length := by unfold turnL; simp
  have HBD : Hid (∀ k, k < n → 0 ≤ nth ts k ∧ nth ts k < p) := fun k hk => hb _ (by rw [nth_eq (by omega)]; exact List.getElem_mem _)
  have HST : Hid (∀ k, k < ts.length → (turnL p b ts).take (k + 1) = (turnL p b ts).take k ++ [(nth ts k + b) % p]) := fun k hk => by
    rw [List.take_succ_eq_append_getElem (show k < (turnL p b ts).length by omega), ← nth_eq, turnL_at hk]
  have HR0 : Hid (TuR p b ts W (.slice (some ⟨W.heap.size, 0, none⟩) 0 0) (.int .i64 0) (W.alloc (.cells #[] 2))) := ⟨0, _, 0, Nat.zero_le _, rfl, rfl, OwnI.lit W W.heap.size [] (Nat.le_refl _) (Nat.zero_le _), (Below.refl _ W).alloc (Nat.le_refl _) _⟩
  have HNL := Lib.hid hn
  have HTK : Hid (∀ k, k ≤ ts.length → ((turnL p b ts).take k).length = k) := fun k hk => by rw [List.length_take]; omega
  have HFL : Hid ((turnL p b ts).take ts.length = turnL p b ts) := by show _ = _; rw [List.take_of_length_le (by omega)]
  have hnL : (n : Int) = (ts.length : Int) := by omega
  clear hts hn hb hTL
  go_enter Try.func17, Try.ntmps17
  go_wp2_with (first
    | (go_at_call 37; refine HT.out.mono ?_; rintro e w' ⟨rfl, rfl⟩)
    | (go_at_call 35; refine (within_yes _ _ _ _ (by omega) (by omega)).mono ?_; rintro e w' ⟨rfl, rfl⟩))
  go_loopw [8, 23] (fun vo vk wr => TuR p b ts W vo vk wr) (fun _ vk _ => n - (intOf vk).toNat)
  case atStart => exact HR0.out
  case round =>
    obtain ⟨k, g2, c2, hk, rfl, rfl, ho, hb⟩ := hrel
    have hws := hb.size
    have HO := Lib.hid ho
    have HB := Lib.hid hb
    clear ho hb HR0
    by_cases hkl : k < ts.length
    · have k0 : (0 : Int) ≤ (k : Int) := Int.natCast_nonneg k
      have k1 : (k : Int) < (n : Int) := by omega
      have ck := (HN.out.below HB.out HN.out.1).2 k (by have := HNL.out; omega)
      have hbd := HBD.out k (by have := HNL.out; omega)
      have hst := HST.out k hkl
      have hlk := HTK.out k (by omega)
      obtain ⟨x, hx⟩ : ∃ x, nth ts k = x := ⟨_, rfl⟩
      rw [hx] at ck hbd hst
      have w1 : IntKind.i64.wrap (x + b) = x + b := IntWalk.i64_in _ (by omega)
      have hm1 := Int.emod_nonneg (x + b) (by omega : p ≠ 0)
      have hm2 := Int.emod_lt_of_pos (x + b) (by omega : 0 < p)
      obtain ⟨d, hd⟩ : ∃ d, (x + b) % p = d := ⟨_, rfl⟩
      have HFM : Hid (∀ W', Calls Try.prog 39 #[.int .i64 (x + b), .int .i64 p] W' fun e w' => e = .returned (.int .i64 d) ∧ W' = w') := fun W' => by
        have h := floorMod_any (x + b) p W' (by omega) (by omega)
        rw [hd] at h
        exact h
      rw [hd] at hst hm1 hm2
      obtain ⟨ys, hys⟩ : ∃ ys, (turnL p b ts).take k = ys := ⟨_, rfl⟩
      rw [hys] at hst hlk HO
      have HS := Lib.hid hst
      have HL := Lib.hid hlk
      have HKL := Lib.hid hkl
      clear hst hlk hkl hx hd hys
      go_wp2_with (first
        | (go_at_call 39; refine (HFM.out _).mono ?_; rintro e w' ⟨rfl, rfl⟩)
        | (at_builtin; refine append_i64 rfl _ _ rfl W.heap.size (.slice (some ⟨g2, 0, none⟩) k c2) ys [d] (by simp) rfl _ rfl HO.out hws (by rw [HL.out]; have := HNL.out; simp; omega) ?_; intro g1 c1 w3 ho3 hg3; have hb3 := Below.app HB.out HO.out hg3 hws; have HO3 := Lib.hid ho3; have HB3 := Lib.hid hb3; clear ho3 hg3 hb3))
      go_roundw
      case rel => exact ⟨k + 1, g1, c1, HKL.out, by go_num, (by rw [HL.out]), (by rw [HS.out]; have := HO3.out; rw [HL.out] at this; exact this), HB3.out⟩
      case measure => have := HKL.out; have := HNL.out; simp [intOf]; omega
    · have k1 : ¬ ((k : Int) < (n : Int)) := by omega
      have hke : k = n := by have := HNL.out; omega
      subst hke
      have HO2 : Hid (OwnI wr W.heap.size (.slice (some ⟨g2, 0, none⟩) k c2) (turnL p b ts)) := by
        have h1 := HO.out
        have h2 := HFL.out
        rw [← HNL.out] at h2
        rw [h2] at h1
        exact h1
      clear hkl
      go_wp2
      go_ret2
      exact ⟨⟨g2, c2, rfl, HO2.out⟩, HB.out⟩
end Go.Proofs.Ythkakieomoobmaa

namespace Go.Proofs.Ythkakieomoobmaa
open Go.RowKit Go.BigFrame
set_option linter.unusedVariables false
set_option linter.unusedSimpArgs false
attribute [local go_sem] Oper.semAt_some

theorem GrownL.monoT {gs hs : List Nat} {A W : World} (h : GrownL gs A W) (hh : ∀ i ∈ gs, i ∈ hs) : GrownL hs A W :=
  ⟨h.os, h.tape, h.output, h.size, fun i hi hn => h.block i hi (fun e => hn (hh i e))⟩
theorem GrownL.transT {gs hs : List Nat} {A B C : World} (h : GrownL gs A B) (k : GrownL hs B C) (hh : ∀ i ∈ hs, i ∈ gs ∨ A.heap.size ≤ i) : GrownL gs A C :=
  ⟨k.os.trans h.os, k.tape.trans h.tape, k.output.trans h.output, Nat.le_trans h.size k.size, fun i hi hn => (k.block i (Nat.lt_of_lt_of_le hi h.size) (fun e => by
    rcases hh i e with h1 | h1
    · exact hn h1
    · omega)).trans (h.block i hi hn)⟩
theorem tabMade {w : World} {base g : Nat} {n : Nat} (h : w.ownsRow base 2 1 (.slice (some ⟨g, 0, none⟩) n n) n (madeCells (Value.int .i64 0).cells (n * 1)).toList) : OwnI w base (.slice (some ⟨g, 0, none⟩) n n) (List.replicate n 0) := by
  have e : (madeCells (Value.int .i64 0).cells (n * 1)).toList = (List.replicate n 0).map (Value.int .i64) := by
    rw [Nat.mul_one]; exact (toList_madeCells_one _ _).trans (by simp)
  rw [e] at h
  unfold OwnI
  rwa [List.length_replicate]

theorem odo_lt {e p k j : Nat} (hp : 0 < p) (hj : 0 < j) (hje : j < e) (h : FullB e p k j) (hd : dgT e p k j ≠ p - 1) (hk : k < p ^ (e - 1)) : k + 1 < p ^ (e - 1) := by
  refine Nat.lt_of_le_of_ne hk fun e1 => hd ?_
  have hq := h.quot hp
  have e2 : p ^ (e - 1) = p ^ (e - 1 - j) * p ^ j := by rw [← Nat.pow_add, show e - 1 - j + j = e - 1 by omega]
  have hm : 0 < p ^ (e - 1 - j) := Nat.pow_pos hp
  rw [show k + 1 = p ^ (e - 1 - j) * p ^ j by omega, Nat.mul_div_cancel_left _ hm] at hq
  unfold dgT
  rw [if_neg (by omega)]
  obtain ⟨q, hq2⟩ : ∃ q, k / p ^ (e - 1 - j) = q := ⟨_, rfl⟩
  rw [hq2] at hq ⊢
  have e3 : p ^ j = p * p ^ (j - 1) := by rw [← Nat.pow_succ', show (j - 1).succ = j by omega]
  have hr : 0 < p ^ (j - 1) := Nat.pow_pos hp
  obtain ⟨r, hr2⟩ : ∃ r, p ^ (j - 1) = r + 1 := ⟨p ^ (j - 1) - 1, by omega⟩
  have e4 : q = p * r + (p - 1) := by rw [e3, hr2, Nat.mul_succ] at hq; omega
  rw [e4, Nat.mul_add_mod, Nat.mod_eq_of_lt (by omega)]
/-- What the function that is handed over does. -/
structure TabDo (e p : Nat) (rs : List Ru4) (K : Nat) (cap : Array Value) (D : List Nat) (St : Nat → World → Prop) (Fin : World → Prop) (A gt : Nat) : Prop where
  call : ∀ k x W, k < p ^ (e - 1) → waL p (tabL e p k) rs = some x → St k W → OwnI W A (.slice (some ⟨gt, 0, none⟩) e e) (tabL e p k) → Calls Try.prog K (#[.slice (some ⟨gt, 0, none⟩) e e, .int .i64 x] ++ cap) W fun en W' => ∃ b, en = .returned (.bool b) ∧ (b = true → St (k + 1) W') ∧ (b = false → Fin W') ∧ GrownL D W W'
  skip : ∀ k W, waL p (tabL e p k) rs = none → St k W → St (k + 1) W
  last : ∀ W, St (p ^ (e - 1)) W → Fin W
  kept : ∀ k W W', St k W → GrownL [gt] W W' → St k W'
  keptF : ∀ W W', Fin W → GrownL [gt] W W' → Fin W'
  enters : Enters Try.prog K
/-- What a round of the great loop knows. -/
def TbR (e p N : Nat) (rs : List Ru4) (D : List Nat) (St : Nat → World → Prop) (A gt : Nat) (w : World) (n : Nat) (wr : World) : Prop :=
  ∃ k : Nat, k < N ∧ n = N - k ∧ Hid (St k wr) ∧ Hid (OwnI wr A (.slice (some ⟨gt, 0, none⟩) e e) (tabL e p k)) ∧ Hid (GrownL D w wr)
/-- .. and one of the odometer. -/
def TbO (e p k A gt : Nat) (W3 : World) (vj : Value) (wr : World) : Prop :=
  ∃ j : Nat, j < e ∧ vj = .int .i64 j ∧ FullB e p k j ∧ Hid (OwnI wr A (.slice (some ⟨gt, 0, none⟩) e e) (odoL e p k j)) ∧ Hid (GrownL [gt] W3 wr)
set_option maxRecDepth 100000 in
set_option maxHeartbeats 4000000 in
theorem tables_any (e p : Nat) (gr L cr : Nat) (rs : List Ru4) (K : Nat) (cap : Array Value) (D : List Nat) (St : Nat → Nat → World → Prop) (Fin : Nat → World → Prop) (w : World) (hL : L = rs.length) (hL2 : L ≤ 32) (hrs : RulN w gr rs) (hr : ∀ r ∈ rs, RlOk (e : Int) (p : Int) r) (he : 1 ≤ e ∧ e ≤ 12) (hp : 1 ≤ p ∧ p ≤ 60) (hN : p ^ (e - 1) ≤ 4096)
    (hgD : gr ∉ D) (hD : ∀ i ∈ D, i < w.heap.size) (hdo : ∀ B1 gt, w.heap.size ≤ gt → gt < B1 → TabDo e p rs K cap D (St B1) (Fin B1) w.heap.size gt) (h0 : ∀ B1 W', Below w.heap.size w W' → B1 ≤ W'.heap.size → St B1 0 W') :
    Calls Try.prog 25 #[.int .i64 (e : Int), .slice (some ⟨gr, 0, none⟩) L cr, .int .i64 (p : Int), .func (.func K) #[] cap] w fun x w' => x = .returned (.bool true) ∧ (∃ B1, w.heap.size ≤ B1 ∧ Fin B1 w') ∧ GrownL D w w' := by
  have hek : ∀ args w, (callFunc K args).run Try.prog w = .ok (.enter K args) w := (hdo (w.heap.size + 1) w.heap.size (Nat.le_refl _) (Nat.lt_succ_self _)).enters
  obtain ⟨N, hN2⟩ : ∃ N, p ^ (e - 1) = N := ⟨_, rfl⟩
  have hN1 : 1 ≤ N := by rw [← hN2]; exact Nat.pow_pos (by omega)
  rw [hN2] at hN
  have HN := Lib.hid hN2
  have HPW : Hid (∀ W', Calls Try.prog 44 #[.int .i64 (p : Int), .int .i64 ((e : Int) - 1)] W' fun x w' => x = .returned (.int .i64 (N : Int)) ∧ W' = w') := fun W' => by
    have h := powered_any (p : Int) (e - 1) W' (by omega) (by omega)
    rw [poL_pow _ (by rw [hN2]; omega) (by omega), hN2, show (((e - 1 : Nat) : Nat) : Int) = (e : Int) - 1 by omega] at h
    exact h
  have HA := Lib.hid (areRules_yes (e : Int) (p : Int) gr L cr rs w hL hL2 hrs hr (by omega) (by omega))
  have w1 : IntKind.i64.wrap ((e : Int) - 1) = (e : Int) - 1 := IntWalk.i64_in _ (by omega)
  have w2 : IntKind.i64.wrap ((p : Int) - 1) = (p : Int) - 1 := IntWalk.i64_in _ (by omega)
  have hN4 : ¬ ((N : Int) > 4096) := by omega
  obtain ⟨i0, hi, hz0, hz1, hz2⟩ := info_parts info_i64
  obtain ⟨A, hA⟩ : ∃ A, w.heap.size = A := ⟨_, rfl⟩
  rw [hA] at HA hD hdo h0 ⊢
  have HAA := Lib.hid hA
  have HRS := Lib.hid hrs
  have HR := Lib.hid hr
  have HDO := Lib.hid hdo
  have H0 := Lib.hid h0
  have HDD := Lib.hid hD
  have HGD := Lib.hid hgD
  have HL := Lib.hid hL
  clear hrs hr hdo h0 hD hN2 hgD hL hA
  go_enter Try.func25, Try.ntmps25
  go_wp2_with (first
    | (go_at_call 12; refine HA.out.mono ?_; rintro x W1 ⟨rfl, hb1⟩; have HB1 := Lib.hid hb1; clear hb1)
    | (go_at_call 44; refine (HPW.out _).mono ?_; rintro x w' ⟨rfl, rfl⟩)
    | (at_make; refine wpList_make_full _ rfl _ _ 29 rfl A 2 i0 (.int .i64 0) 1 Try.underlying29 hi hz0 hz1 _ _ _ _ e rfl rfl rfl rfl (by rw [hz2]; omega) (by unfold maxLen; omega) (by have := HB1.out.size; have := HAA.out; omega) ?_; intro w2 hown2 hgrow2; have HO2 := Lib.hid (tabMade hown2); have HB2 := Lib.hid ((Below.refl W1.heap.size W1).grown hgrow2 (Nat.le_refl _) (fun k e => by cases e)); clear hown2 hgrow2))
  have hg2 := (HO2.out.lt _ rfl)
  have hdo2 := HDO.out w2.heap.size W1.heap.size hg2.1 hg2.2
  have hB12 : Below A w w2 := HB1.out.trans (HB2.out.mono hg2.1)
  have hs0 := H0.out w2.heap.size w2 hB12 (Nat.le_refl _)
  obtain ⟨gt, hgt⟩ : ∃ g, W1.heap.size = g := ⟨_, rfl⟩
  obtain ⟨B1, hB1⟩ : ∃ g, w2.heap.size = g := ⟨_, rfl⟩
  rw [hgt] at hdo2 hg2 HO2 ⊢
  rw [hB1] at hdo2 hs0 hg2
  have HD2 := Lib.hid hdo2
  have HZ : Hid (List.replicate e 0 = tabL e p 0) := by
    show _ = _
    refine nth_extI (by rw [List.length_replicate, tabL_len]) fun i hi => ?_
    rw [List.length_replicate] at hi
    rw [tabL_at hi, nth_eq (by rw [List.length_replicate]; exact hi), List.getElem_replicate]
    unfold dgT
    split <;> simp
  have HT0 : Hid (TbR e p N rs D (St B1) A gt w N w2) := ⟨0, hN1, rfl, hs0, by show OwnI _ _ _ _; rw [← HZ.out]; exact HO2.out, (GrownL.refl D w).below hB12 (by have := HAA.out; omega)⟩
  have HGT : Hid (A ≤ gt ∧ gt < B1 ∧ A ≤ B1) := ⟨hg2.1, hg2.2, by omega⟩
  clear hgt hB1 hdo2 hg2 hB12 hs0 hi hz0 hz1 hz2 HO2 HB2 HB1 HDO H0 HA HPW hN4 hN1 HZ
  go_loopg [12] N (fun n _ wr => TbR e p N rs D (St B1) A gt w n wr)
  case atStart => exact HT0.out
  case round =>
    obtain ⟨k, hk, rfl, HS, HO, HG⟩ := hrel
    clear HT0
    have hkN := Lib.hid hk
    have htl := tabL_len e p k
    have HRS2 : Hid (RulN wr gr rs) := ⟨Nat.lt_of_lt_of_le HRS.out.1 HG.out.size, fun i hi => by
      obtain ⟨x1, x2, x3, x4⟩ := HRS.out.2 i hi
      exact ⟨(HG.out.cell (p := ⟨gr, _, none⟩) HRS.out.1 HGD.out).trans x1, (HG.out.cell (p := ⟨gr, _, none⟩) HRS.out.1 HGD.out).trans x2, (HG.out.cell (p := ⟨gr, _, none⟩) HRS.out.1 HGD.out).trans x3, (HG.out.cell (p := ⟨gr, _, none⟩) HRS.out.1 HGD.out).trans x4⟩⟩
    have HWA := Lib.hid (waits_any (p : Int) gr L cr gt e e (tabL e p k) rs wr HL.out (by omega) HRS2.out (NumN.of_own HO.out htl.symm) (by omega) (tmB_of (p := (p : Int)) (tabL_bounds (by omega)) htl.symm (by omega)) (fun r hx => (HR.out r hx).rlB rfl (by omega)) (by omega))
    have HGA : Hid (GrownL D w wr) := HG
    obtain ⟨o, ho⟩ : ∃ o, waL (p : Int) (tabL e p k) rs = o := ⟨_, rfl⟩
    rw [ho] at HWA
    have HWO := Lib.hid ho
    clear ho htl HRS2 hk
    go_wp2_with fail
    refine HWA.out.mono ?_
    rintro en W3 ⟨hwq, hb3⟩
    have HS3 := Lib.hid (HD2.out.kept k wr W3 HS.out ((GrownL.refl _ _).below hb3 (Nat.le_refl _)))
    have HO3 := Lib.hid (HO.out.below hb3 (Nat.le_refl _))
    have HG3 : Hid (GrownL D w W3) := HG.out.below hb3 HG.out.size
    clear hb3 HWA HS HO HG HGA
    cases o with
    | none =>
      obtain rfl : en = .returned (.tuple #[.int .i64 0, .bool false]) := hwq
      have HS4 := Lib.hid (HD2.out.skip k W3 (by rw [HWO.out]) HS3.out)
      obtain ⟨W4, hW4⟩ : ∃ W, W3 = W := ⟨_, rfl⟩
      have HO4 := HO3
      have HG4 := HG3
      rw [hW4] at HS4 HO4 HG4 ⊢
      clear HS3 HO3 HG3 hW4 HWO
      -- TAIL1
      have HO0 : Hid (TbO e p k A gt W4 (.int .i64 ((e : Int) - 1)) W4) := ⟨e - 1, by omega, by (congr 1; omega), FullB.start e p k, by show OwnI _ _ _ _; rw [odoL_start]; exact HO4.out, GrownL.refl _ _⟩
      go_wp2_with fail
      go_loopw [12] (fun vj wi => TbO e p k A gt W4 vj wi) (fun vj _ => (intOf vj).toNat)
      case atStart => exact HO0.out
      case round =>
        obtain ⟨j, hj, rfl, hfb, HOj, HGj⟩ := hrel
        clear HO0
        have HFB := Lib.hid hfb
        clear hfb
        by_cases hj0 : j = 0
        · subst hj0
          have HKE : Hid (k + 1 = N) := by
            show _ = _
            have := HFB.out.over (by omega) he.1 (by rw [HN.out]; exact hkN.out)
            rw [HN.out] at this
            exact this
          have HFI : Hid (Fin B1 wr) := by
            have h1 := HS4.out
            rw [HKE.out] at h1
            exact HD2.out.keptF _ _ (HD2.out.last _ (by rw [HN.out]; exact h1)) HGj.out
          have HGF : Hid (GrownL D w wr) := HG4.out.transT HGj.out (fun i hi => .inr (by simp at hi; have := HGT.out.1; have := HAA.out; omega))
          clear HOj HFB
          go_wp2_with fail
          go_ret
          exact ⟨rfl, ⟨B1, HGT.out.2.2, HFI.out⟩, HGF.out⟩
        · have hjp : 0 < j := Nat.pos_of_ne_zero hj0
          have j0 : (0 : Int) < (j : Int) := by omega
          have j1 : (0 : Int) ≤ (j : Int) := by omega
          have j2 : (j : Int) < (e : Int) := by omega
          have j3 : decide ((0 : Int) < (j : Int)) = true := decide_eq_true j0
          have j4 : decide (0 < j) = true := decide_eq_true hjp
          have j5 : ((j : Int) == 0) = false := by simp; omega
          have w3 : IntKind.i64.wrap ((j : Int) - 1) = (j : Int) - 1 := IntWalk.i64_in _ (by omega)
          obtain ⟨c1, f1, s1, g1⟩ := HOj.out.store (odoL_len e p k j).symm j (by rw [odoL_len]; exact hj) 0
          obtain ⟨-, -, s2, g2⟩ := HOj.out.store (odoL_len e p k j).symm j (by rw [odoL_len]; exact hj) ((dgT e p k j : Int) + 1)
          rw [← nth_eq, odoL_at hj, if_neg (Nat.lt_irrefl _)] at c1
          have hdl := dgT_lt (e := e) (k := k) (i := j) (p := p) (by omega)
          by_cases hd : dgT e p k j = p - 1
          · have HO5 : Hid (OwnI (wr.setCell ⟨gt, j, none⟩ (.int .i64 0)) A (.slice (some ⟨gt, 0, none⟩) e e) (odoL e p k (j - 1))) := by
              rw [odoL_back hjp hj] at s1
              exact s1
            have HFB2 := Lib.hid (HFB.out.back (by omega) hjp hj hd)
            obtain ⟨d, hdd⟩ : ∃ d, dgT e p k j = d := ⟨_, rfl⟩
            rw [hdd] at c1 hd hdl
            have q1 : ((d : Int) == (p : Int) - 1) = true := by rw [beq_iff_eq]; omega
            have HG5 : Hid (GrownL [gt] W4 (wr.setCell ⟨gt, j, none⟩ (.int .i64 0))) := HGj.out.setCell _ _ (.inl (by simp))
            have HJ := Lib.hid (And.intro hj hjp)
            clear hdd hd s1 s2 g1 g2 HOj HGj HFB hj hj0 hjp
            go_wp2_with fail
            go_roundw
            case rel => exact ⟨j - 1, by have := HJ.out.1; omega, by have := HJ.out.2; (congr 1; omega), HFB2.out, HO5.out, HG5.out⟩
            case measure => have := HJ.out.2; simp [intOf]; omega
          · have HO5 : Hid (OwnI (wr.setCell ⟨gt, j, none⟩ (.int .i64 ((dgT e p k j : Int) + 1))) A (.slice (some ⟨gt, 0, none⟩) e e) (tabL e p (k + 1))) := by
              rw [odoL_next (by omega) hjp hj HFB.out hd] at s2
              exact s2
            have HLT : Hid (k + 1 < N) := by
              show _ < _
              have := odo_lt (by omega) hjp hj HFB.out hd (by rw [HN.out]; exact hkN.out)
              rw [HN.out] at this
              exact this
            obtain ⟨d, hdd⟩ : ∃ d, dgT e p k j = d := ⟨_, rfl⟩
            rw [hdd] at c1 hd hdl HO5
            have q1 : ((d : Int) == (p : Int) - 1) = false := by rw [beq_eq_false_iff_ne]; omega
            have w4 : IntKind.i64.wrap ((d : Int) + 1) = (d : Int) + 1 := IntWalk.i64_in _ (by omega)
            have HG5 : Hid (GrownL [gt] W4 (wr.setCell ⟨gt, j, none⟩ (.int .i64 ((d : Int) + 1)))) := HGj.out.setCell _ _ (.inl (by simp))
            have HS5 := Lib.hid (HD2.out.kept _ _ _ HS4.out HG5.out)
            have HG6 : Hid (GrownL D w (wr.setCell ⟨gt, j, none⟩ (.int .i64 ((d : Int) + 1)))) := HG4.out.transT HG5.out (fun i hi => .inr (by simp at hi; have := HGT.out.1; have := HAA.out; omega))
            clear hdd hd s1 s2 g1 g2 HOj HGj HFB hj hj0 hjp HG5
            go_wp2_with fail
            go_roundg (N - (k + 1))
            case measure => have := HLT.out; omega
            case rel => exact ⟨k + 1, HLT.out, rfl, HS5.out, HO5.out, HG6.out⟩
      -- TAIL1 END
    | some x =>
      obtain rfl : en = .returned (.tuple #[.int .i64 x, .bool true]) := hwq
      have HCD := Lib.hid (HD2.out.call k x W3 (by rw [HN.out]; exact hkN.out) HWO.out HS3.out HO3.out)
      go_wp2_with fail
      refine HCD.out.mono ?_
      rintro en W4 ⟨b, rfl, hbt, hbf, hg4⟩
      have HO4 := Lib.hid (hg4.own HO3.out (fun h => by have := HDD.out _ h; have := HGT.out.1; omega))
      have HG4 : Hid (GrownL D w W4) := HG3.out.trans hg4
      clear HS3 HO3 HG3 HCD hg4 HWO
      cases b with
      | false =>
        have HF4 := Lib.hid (hbf rfl)
        clear hbt hbf
        go_wp2_with fail
        go_ret
        exact ⟨rfl, ⟨B1, HGT.out.2.2, HF4.out⟩, HG4.out⟩
      | true =>
        have HS4 := Lib.hid (hbt rfl)
        clear hbt hbf
        -- TAIL2
        have HO0 : Hid (TbO e p k A gt W4 (.int .i64 ((e : Int) - 1)) W4) := ⟨e - 1, by omega, by (congr 1; omega), FullB.start e p k, by show OwnI _ _ _ _; rw [odoL_start]; exact HO4.out, GrownL.refl _ _⟩
        go_wp2_with fail
        go_loopw [12] (fun vj wi => TbO e p k A gt W4 vj wi) (fun vj _ => (intOf vj).toNat)
        case atStart => exact HO0.out
        case round =>
          obtain ⟨j, hj, rfl, hfb, HOj, HGj⟩ := hrel
          clear HO0
          have HFB := Lib.hid hfb
          clear hfb
          by_cases hj0 : j = 0
          · subst hj0
            have HKE : Hid (k + 1 = N) := by
              show _ = _
              have := HFB.out.over (by omega) he.1 (by rw [HN.out]; exact hkN.out)
              rw [HN.out] at this
              exact this
            have HFI : Hid (Fin B1 wr) := by
              have h1 := HS4.out
              rw [HKE.out] at h1
              exact HD2.out.keptF _ _ (HD2.out.last _ (by rw [HN.out]; exact h1)) HGj.out
            have HGF : Hid (GrownL D w wr) := HG4.out.transT HGj.out (fun i hi => .inr (by simp at hi; have := HGT.out.1; have := HAA.out; omega))
            clear HOj HFB
            go_wp2_with fail
            go_ret
            exact ⟨rfl, ⟨B1, HGT.out.2.2, HFI.out⟩, HGF.out⟩
          · have hjp : 0 < j := Nat.pos_of_ne_zero hj0
            have j0 : (0 : Int) < (j : Int) := by omega
            have j1 : (0 : Int) ≤ (j : Int) := by omega
            have j2 : (j : Int) < (e : Int) := by omega
            have j3 : decide ((0 : Int) < (j : Int)) = true := decide_eq_true j0
            have j4 : decide (0 < j) = true := decide_eq_true hjp
            have j5 : ((j : Int) == 0) = false := by simp; omega
            have w3 : IntKind.i64.wrap ((j : Int) - 1) = (j : Int) - 1 := IntWalk.i64_in _ (by omega)
            obtain ⟨c1, f1, s1, g1⟩ := HOj.out.store (odoL_len e p k j).symm j (by rw [odoL_len]; exact hj) 0
            obtain ⟨-, -, s2, g2⟩ := HOj.out.store (odoL_len e p k j).symm j (by rw [odoL_len]; exact hj) ((dgT e p k j : Int) + 1)
            rw [← nth_eq, odoL_at hj, if_neg (Nat.lt_irrefl _)] at c1
            have hdl := dgT_lt (e := e) (k := k) (i := j) (p := p) (by omega)
            by_cases hd : dgT e p k j = p - 1
            · have HO5 : Hid (OwnI (wr.setCell ⟨gt, j, none⟩ (.int .i64 0)) A (.slice (some ⟨gt, 0, none⟩) e e) (odoL e p k (j - 1))) := by
                rw [odoL_back hjp hj] at s1
                exact s1
              have HFB2 := Lib.hid (HFB.out.back (by omega) hjp hj hd)
              obtain ⟨d, hdd⟩ : ∃ d, dgT e p k j = d := ⟨_, rfl⟩
              rw [hdd] at c1 hd hdl
              have q1 : ((d : Int) == (p : Int) - 1) = true := by rw [beq_iff_eq]; omega
              have HG5 : Hid (GrownL [gt] W4 (wr.setCell ⟨gt, j, none⟩ (.int .i64 0))) := HGj.out.setCell _ _ (.inl (by simp))
              have HJ := Lib.hid (And.intro hj hjp)
              clear hdd hd s1 s2 g1 g2 HOj HGj HFB hj hj0 hjp
              go_wp2_with fail
              go_roundw
              case rel => exact ⟨j - 1, by have := HJ.out.1; omega, by have := HJ.out.2; (congr 1; omega), HFB2.out, HO5.out, HG5.out⟩
              case measure => have := HJ.out.2; simp [intOf]; omega
            · have HO5 : Hid (OwnI (wr.setCell ⟨gt, j, none⟩ (.int .i64 ((dgT e p k j : Int) + 1))) A (.slice (some ⟨gt, 0, none⟩) e e) (tabL e p (k + 1))) := by
                rw [odoL_next (by omega) hjp hj HFB.out hd] at s2
                exact s2
              have HLT : Hid (k + 1 < N) := by
                show _ < _
                have := odo_lt (by omega) hjp hj HFB.out hd (by rw [HN.out]; exact hkN.out)
                rw [HN.out] at this
                exact this
              obtain ⟨d, hdd⟩ : ∃ d, dgT e p k j = d := ⟨_, rfl⟩
              rw [hdd] at c1 hd hdl HO5
              have q1 : ((d : Int) == (p : Int) - 1) = false := by rw [beq_eq_false_iff_ne]; omega
              have w4 : IntKind.i64.wrap ((d : Int) + 1) = (d : Int) + 1 := IntWalk.i64_in _ (by omega)
              have HG5 : Hid (GrownL [gt] W4 (wr.setCell ⟨gt, j, none⟩ (.int .i64 ((d : Int) + 1)))) := HGj.out.setCell _ _ (.inl (by simp))
              have HS5 := Lib.hid (HD2.out.kept _ _ _ HS4.out HG5.out)
              have HG6 : Hid (GrownL D w (wr.setCell ⟨gt, j, none⟩ (.int .i64 ((d : Int) + 1)))) := HG4.out.transT HG5.out (fun i hi => .inr (by simp at hi; have := HGT.out.1; have := HAA.out; omega))
              clear hdd hd s1 s2 g1 g2 HOj HGj HFB hj hj0 hjp HG5
              go_wp2_with fail
              go_roundg (N - (k + 1))
              case measure => have := HLT.out; omega
              case rel => exact ⟨k + 1, HLT.out, rfl, HS5.out, HO5.out, HG6.out⟩
        -- TAIL2 END
end Go.Proofs.Ythkakieomoobmaa

namespace Go.Proofs.Ythkakieomoobmaa
open Go.RowKit Go.BigFrame
set_option linter.unusedVariables false
set_option linter.unusedSimpArgs false
attribute [local go_sem] Oper.semAt_some

/-- What the k-th table waits, if it is kept. -/
def kpT (e p : Nat) (rs : List Ru4) (k : Nat) : Option Int := waL (p : Int) (tabL e p k) rs
theorem tabSl_nil0 (W : World) : (binOp .neq 29 (.slice none 0 0) (.slice none 0 0)).run Try.prog W = .ok (.bool false) W := by kernel_rfl
theorem tabSl_nil1 (p : Addr) (n c : Nat) (W : World) : (binOp .neq 29 (.slice (some p) n c) (.slice none 0 0)).run Try.prog W = .ok (.bool true) W := by kernel_rfl
theorem tabSl_eq0 (W : World) : (binOp .eql 29 (.slice none 0 0) (.slice none 0 0)).run Try.prog W = .ok (.bool true) W := by kernel_rfl
theorem boxedT_below {W W' : World} {b : Nat} {t : TypeId} {v : Value} (h : Boxed W b t v) (hb : Below W.heap.size W W') : Boxed W' b t v := by
  have h0 : W.heap[b]? = some (.cells #[v] t (0, 0)) := h
  exact (hb.block b (Array.getElem?_eq_some_iff.1 h0).1).trans h0
structure CnS (w : World) (Bc : Nat) (kp : Nat → Option Int) (k : Nat) (W : World) : Prop where
  box : Boxed W Bc 2 (.int .i64 (cntT kp k : Nat))
  bel : Below w.heap.size w W
theorem CnS.grown {w W W' : World} {Bc : Nat} {kp : Nat → Option Int} {k : Nat} {L : List Nat} (h : CnS w Bc kp k W) (hg : GrownL L W W') (h1 : Bc ∉ L) (h4 : ∀ i ∈ L, w.heap.size ≤ i) : CnS w Bc kp k W' :=
  ⟨hg.boxed h.box h1, hg.toBelow h.bel h.bel.size (fun i hi e => by have := h4 i e; omega)⟩
set_option maxHeartbeats 1000000 in
theorem cntDo_any (e gt Bc : Nat) (x : Int) (w W : World) (kp : Nat → Option Int) (k : Nat) (hk : k < 5000) (hx : kp k = some x) (hs : CnS w Bc kp k W) (hB : w.heap.size ≤ Bc) :
    Calls Try.prog 26 #[.slice (some ⟨gt, 0, none⟩) e e, .int .i64 x, .pointer (some ⟨Bc, 0, none⟩)] W fun en W' => en = .returned (.bool true) ∧ CnS w Bc kp (k + 1) W' ∧ GrownL [Bc] W W' := by
  have c1 := hs.box.cell
  have f1 := hs.box.frozen
  have hc : cntT kp (k + 1) = cntT kp k + 1 := by rw [cntT, hx]; simp
  have hle := cntT_le kp k
  have HG : Hid (GrownL [Bc] W (W.setCell ⟨Bc, 0, none⟩ (.int .i64 ((cntT kp (k + 1) : Nat))))) := (GrownL.refl _ _).setCell _ _ (.inl (by simp))
  have HS : Hid (CnS w Bc kp (k + 1) (W.setCell ⟨Bc, 0, none⟩ (.int .i64 (cntT kp (k + 1) : Nat)))) := ⟨hs.box.set _, hs.bel.setCell hB _⟩
  rw [hc] at HG
  have HC := Lib.hid hc
  obtain ⟨n, hn⟩ : ∃ n, cntT kp k = n := ⟨_, rfl⟩
  rw [hn] at c1 hle HG HC
  rw [HC.out] at HS
  have w1 : IntKind.i64.wrap ((n : Int) + 1) = (n : Int) + 1 := IntWalk.i64_in _ (by omega)
  clear hs hc hn hx
  go_enter Try.func26, Try.ntmps26
  go_wp2
  go_ret
  exact ⟨rfl, HS.out, HG.out⟩
set_option maxRecDepth 100000 in
set_option maxHeartbeats 2000000 in
theorem countTables_any (e p : Nat) (gr L cr : Nat) (rs : List Ru4) (w : World) (hL : L = rs.length) (hL2 : L ≤ 32) (hrs : RulN w gr rs) (hr : ∀ r ∈ rs, RlOk (e : Int) (p : Int) r) (he : 1 ≤ e ∧ e ≤ 12) (hp : 1 ≤ p ∧ p ≤ 60) (hN : p ^ (e - 1) ≤ 4096) :
    Calls Try.prog 7 #[.int .i64 (e : Int), .slice (some ⟨gr, 0, none⟩) L cr, .int .i64 (p : Int)] w fun x w' => x = .returned (.tuple #[.int .i64 (cntT (kpT e p rs) (p ^ (e - 1)) : Nat), .bool true]) ∧ Below w.heap.size w w' := by
  have hmf : ∀ (fn : Fn) (first cap : Array Value) (w : World), (Instr.makeFunc fn first cap).run Try.prog w = .ok (.func fn first cap) w := fun _ _ _ _ => rfl
  have heg := enters_of Try.func26 (by kernel_rfl) rfl
  obtain ⟨W1, hW1⟩ : ∃ W, w.alloc (.cells #[.int .i64 0] 2) = W := ⟨_, rfl⟩
  have hz1 : W1.heap.size = w.heap.size + 1 := by rw [← hW1]; simp
  have hb1 : Below w.heap.size w W1 := by rw [← hW1]; exact (Below.refl _ _).alloc (Nat.le_refl _) _
  have hS0 : CnS w w.heap.size (kpT e p rs) 0 W1 := ⟨by rw [← hW1]; exact Boxed.new w _ _, hb1⟩
  have HT := Lib.hid (tables_any e p gr L cr rs 26 #[.pointer (some ⟨w.heap.size, 0, none⟩)] [w.heap.size] (fun _ k W => CnS w w.heap.size (kpT e p rs) k W) (fun _ W => CnS w w.heap.size (kpT e p rs) (p ^ (e - 1)) W) W1 hL hL2 (hrs.below hb1 hrs.1) hr he hp hN (by have := hrs.1; simp; omega) (by intro i hi; simp at hi; omega)
    (fun B1 gt h1 h2 => {
      call := fun k x W hk hx hs ho => (cntDo_any e gt w.heap.size x w W (kpT e p rs) k (by omega) hx hs (Nat.le_refl _)).mono (by
        rintro en W' ⟨rfl, h3, h4⟩
        exact ⟨true, rfl, fun _ => h3, (fun h => by cases h), h4⟩)
      skip := fun k W hx hs => ⟨by
        have := hs.box
        have e1 : cntT (kpT e p rs) (k + 1) = cntT (kpT e p rs) k := by rw [cntT, show kpT e p rs k = none from hx]; simp
        rw [e1]; exact this, hs.bel⟩
      last := fun W h => h
      kept := fun k W W' hs hg => hs.grown hg (by simp; omega) (by intro i hi; simp at hi; omega)
      keptF := fun W W' hs hg => hs.grown hg (by simp; omega) (by intro i hi; simp at hi; omega)
      enters := heg }) (fun B1 W' hb hB => ⟨boxedT_below hS0.box hb, hS0.bel.trans (hb.mono hS0.bel.size)⟩))
  have HW1 := Lib.hid hW1
  clear hS0 hb1 hz1 hW1 hrs hr hL
  go_enter Try.func7, Try.ntmps7
  go_wp2_with fail
  rw [HW1.out]
  refine HT.out.mono ?_
  rintro en W5 ⟨rfl, ⟨B1, hB1, hs⟩, hg5⟩
  have c1 := hs.box.cell
  have HS := Lib.hid hs
  clear hs hg5 HT hB1
  go_wp2
  go_ret2
  exact ⟨rfl, HS.out.bel⟩
end Go.Proofs.Ythkakieomoobmaa

namespace Go.Proofs.Ythkakieomoobmaa
open Go.RowKit Go.BigFrame
set_option linter.unusedVariables false
set_option linter.unusedSimpArgs false
attribute [local go_sem] Oper.semAt_some

structure FiS (w : World) (Bo B1 : Nat) (kp : Nat → Option Int) (k : Nat) (W : World) : Prop where
  box : Boxed W Bo 29 (.slice none 0 0)
  non : fstT kp k = none
  big : B1 ≤ W.heap.size
  bel : Below w.heap.size w W
/-- What is found in the end. -/
def FiF (w : World) (Bo B1 e p : Nat) (o : Option Nat) (W : World) : Prop :=
  Below w.heap.size w W ∧ match o with
    | none => Boxed W Bo 29 (.slice none 0 0)
    | some j => ∃ g c, Boxed W Bo 29 (.slice (some ⟨g, 0, none⟩) e c) ∧ OwnI W B1 (.slice (some ⟨g, 0, none⟩) e c) (tabL e p j)
theorem FiS.grown {w W W' : World} {Bo B1 : Nat} {kp : Nat → Option Int} {k : Nat} {L : List Nat} (h : FiS w Bo B1 kp k W) (hg : GrownL L W W') (h1 : Bo ∉ L) (h4 : ∀ i ∈ L, w.heap.size ≤ i) : FiS w Bo B1 kp k W' :=
  ⟨hg.boxed h.box h1, h.non, Nat.le_trans h.big hg.size, hg.toBelow h.bel h.bel.size (fun i hi e => by have := h4 i e; omega)⟩
theorem FiF.grown {w W W' : World} {Bo B1 e p : Nat} {o : Option Nat} {L : List Nat} (h : FiF w Bo B1 e p o W) (hg : GrownL L W W') (h1 : Bo ∉ L) (h4 : ∀ i ∈ L, w.heap.size ≤ i ∧ i < B1) : FiF w Bo B1 e p o W' := by
  obtain ⟨hb, h⟩ := h
  refine ⟨hg.toBelow hb hb.size (fun i hi e => by have := h4 i e; omega), ?_⟩
  cases o with
  | none => exact hg.boxed h h1
  | some j =>
    obtain ⟨g, c, h2, h3⟩ := h
    exact ⟨g, c, hg.boxed h2 h1, hg.own h3 (fun e => by have := h4 g e; have := (h3.lt g rfl).1; omega)⟩
set_option maxRecDepth 100000 in
set_option maxHeartbeats 1000000 in
theorem fstDo_any (e p gt Bo B1 A N : Nat) (x : Int) (w W : World) (kp : Nat → Option Int) (k : Nat) (hk : k < N) (he : 1 ≤ e ∧ e ≤ 12) (hx : kp k = some x) (hs : FiS w Bo B1 kp k W) (hB : w.heap.size ≤ Bo) (ho : OwnI W A (.slice (some ⟨gt, 0, none⟩) e e) (tabL e p k)) :
    Calls Try.prog 29 #[.slice (some ⟨gt, 0, none⟩) e e, .int .i64 x, .pointer (some ⟨Bo, 0, none⟩)] W fun en W' => en = .returned (.bool false) ∧ FiF w Bo B1 e p (fstT kp N) W' ∧ GrownL [Bo] W W' := by
  have hf1 : fstT kp (k + 1) = some k := by rw [fstT, hs.non, hx]; simp
  have hf : fstT kp N = some k := fstT_mono hk hf1
  have htl := tabL_len e p k
  have hsn := sl_nil
  have HCL : Hid (Calls Try.prog 30 #[.slice (some ⟨gt, 0, none⟩) e e] W fun en w' => (∃ g' c, en = .returned (.slice (some ⟨g', 0, none⟩) e c) ∧ OwnI w' W.heap.size (.slice (some ⟨g', 0, none⟩) e c) (tabL e p k)) ∧ Below W.heap.size W w') := by
    have h := clone_any (.slice (some ⟨gt, 0, none⟩) e e) (tabL e p k) W ho.ints (by omega) (by omega)
    rw [htl] at h
    exact h
  rw [hf]
  have HS := Lib.hid hs
  clear hs ho htl hf hf1 hx
  go_enter Try.func29, Try.ntmps29
  go_wp2_with fail
  refine HCL.out.mono ?_
  rintro en W1 ⟨⟨g, c, rfl, ho⟩, hb1⟩
  have hbx := boxedT_below HS.out.box hb1
  have c1 := hbx.cell
  have f1 := hbx.frozen
  have HB1 : Hid (Below w.heap.size w W1) := HS.out.bel.trans (hb1.mono HS.out.bel.size)
  have HG : Hid (GrownL [Bo] W (W1.setCell ⟨Bo, 0, none⟩ (.slice (some ⟨g, 0, none⟩) e c))) := ((GrownL.refl _ _).below hb1 (Nat.le_refl _)).setCell _ _ (.inl (by simp))
  have HF : Hid (FiF w Bo B1 e p (some k) (W1.setCell ⟨Bo, 0, none⟩ (.slice (some ⟨g, 0, none⟩) e c))) := by
    refine ⟨HB1.out.setCell hB _, g, c, hbx.set _, ?_⟩
    have hl := (ho.lt g rfl).1
    have hbl := HS.out.box.lt
    exact (ho.mono HS.out.big).setCell _ (by rw [ownBlock_slice]; intro e2; have e3 : g = Bo := (by cases e2; rfl); omega)
  clear hbx hb1 ho HCL
  go_wp2_with fail
  go_ret
  exact ⟨rfl, HF.out, HG.out⟩
set_option maxRecDepth 100000 in
set_option maxHeartbeats 2000000 in
theorem firstTable_any (e p : Nat) (gr L cr : Nat) (rs : List Ru4) (w : World) (hL : L = rs.length) (hL2 : L ≤ 32) (hrs : RulN w gr rs) (hr : ∀ r ∈ rs, RlOk (e : Int) (p : Int) r) (he : 1 ≤ e ∧ e ≤ 12) (hp : 1 ≤ p ∧ p ≤ 60) (hN : p ^ (e - 1) ≤ 4096) :
    Calls Try.prog 9 #[.int .i64 (e : Int), .slice (some ⟨gr, 0, none⟩) L cr, .int .i64 (p : Int)] w fun x w' => (match fstT (kpT e p rs) (p ^ (e - 1)) with
      | none => x = .returned (.tuple #[.slice none 0 0, .bool false])
      | some j => ∃ g c, x = .returned (.tuple #[.slice (some ⟨g, 0, none⟩) e c, .bool true]) ∧ OwnI w' w.heap.size (.slice (some ⟨g, 0, none⟩) e c) (tabL e p j)) ∧ Below w.heap.size w w' := by
  have hmf : ∀ (fn : Fn) (first cap : Array Value) (w : World), (Instr.makeFunc fn first cap).run Try.prog w = .ok (.func fn first cap) w := fun _ _ _ _ => rfl
  have heg := enters_of Try.func29 (by kernel_rfl) rfl
  have hsn0 := tabSl_nil0
  have hsn1 := tabSl_nil1
  obtain ⟨W1, hW1⟩ : ∃ W, w.alloc (.cells #[.slice none 0 0] 29) = W := ⟨_, rfl⟩
  have hz1 : W1.heap.size = w.heap.size + 1 := by rw [← hW1]; simp
  have hb1 : Below w.heap.size w W1 := by rw [← hW1]; exact (Below.refl _ _).alloc (Nat.le_refl _) _
  have hbx : Boxed W1 w.heap.size 29 (.slice none 0 0) := by rw [← hW1]; exact Boxed.new w _ _
  have HT := Lib.hid (tables_any e p gr L cr rs 29 #[.pointer (some ⟨w.heap.size, 0, none⟩)] [w.heap.size] (fun B1 k W => FiS w w.heap.size B1 (kpT e p rs) k W) (fun B1 W => FiF w w.heap.size B1 e p (fstT (kpT e p rs) (p ^ (e - 1))) W) W1 hL hL2 (hrs.below hb1 hrs.1) hr he hp hN (by have := hrs.1; simp; omega) (by intro i hi; simp at hi; omega)
    (fun B1 gt h1 h2 => {
      call := fun k x W hk hx hs ho => (fstDo_any e p gt w.heap.size B1 _ (p ^ (e - 1)) x w W (kpT e p rs) k hk he hx hs (Nat.le_refl _) ho).mono (by
        rintro en W' ⟨rfl, h3, h4⟩
        exact ⟨false, rfl, (fun h => by cases h), fun _ => h3, h4⟩)
      skip := fun k W hx hs => ⟨hs.box, by
        rw [fstT, hs.non, show kpT e p rs k = none from hx]; rfl, hs.big, hs.bel⟩
      last := fun W h => ⟨h.bel, by rw [h.non]; exact h.box⟩
      kept := fun k W W' hs hg => hs.grown hg (by simp; omega) (by intro i hi; simp at hi; omega)
      keptF := fun W W' hs hg => hs.grown hg (by simp; omega) (by intro i hi; simp at hi; omega)
      enters := heg }) (fun B1 W' hb hB => ⟨boxedT_below hbx hb, rfl, hB, hb1.trans (hb.mono hb1.size)⟩))
  have HW1 := Lib.hid hW1
  have HZ := Lib.hid hz1
  obtain ⟨o, ho⟩ : ∃ o, fstT (kpT e p rs) (p ^ (e - 1)) = o := ⟨_, rfl⟩
  rw [ho] at HT ⊢
  clear hbx hb1 hz1 hW1 hrs hr hL ho
  go_enter Try.func9, Try.ntmps9
  go_wp2_with fail
  rw [HW1.out]
  refine HT.out.mono ?_
  rintro en W5 ⟨rfl, ⟨B1, hB1, hb5, hs⟩, hg5⟩
  have HB5 := Lib.hid hb5
  clear hg5 HT hb5
  cases o with
  | none =>
    have c1 := (show Boxed _ _ _ _ from hs).cell
    clear hs hB1
    go_wp2
    go_quiet (fail)
    go_wp2
    go_ret2
    exact ⟨rfl, below_drewN _ HB5.out⟩
  | some j =>
    obtain ⟨g, c, h1, h2⟩ := hs
    have c1 := h1.cell
    have HO := Lib.hid (h2.mono (show w.heap.size ≤ B1 by have := HZ.out; omega))
    clear h1 h2 hB1
    go_wp2
    go_quiet (fail)
    go_wp2
    go_ret2
    exact ⟨⟨g, c, rfl, HO.out.drewN _⟩, below_drewN _ HB5.out⟩
end Go.Proofs.Ythkakieomoobmaa

namespace Go.Proofs.Ythkakieomoobmaa
open Go.RowKit Go.BigFrame
set_option linter.unusedVariables false
set_option linter.unusedSimpArgs false
attribute [local go_sem] Oper.semAt_some

structure BeE (w : World) (Bo Bl B1 : Nat) (v : Value) (y : Int) (W : World) : Prop where
  box : Boxed W Bo 29 v
  low : Boxed W Bl 2 (.int .i64 y)
  big : B1 ≤ W.heap.size
  bel : Below w.heap.size w W
def BeS (w : World) (Bo Bl B1 e p : Nat) (o : Option (Nat × Int)) (W : World) : Prop := match o with
  | none => BeE w Bo Bl B1 (.slice none 0 0) 0 W
  | some b => ∃ g c, BeE w Bo Bl B1 (.slice (some ⟨g, 0, none⟩) e c) b.2 W ∧ OwnI W B1 (.slice (some ⟨g, 0, none⟩) e c) (tabL e p b.1)
theorem BeE.grown {w W W' : World} {Bo Bl B1 : Nat} {v : Value} {y : Int} {L : List Nat} (h : BeE w Bo Bl B1 v y W) (hg : GrownL L W W') (h1 : Bo ∉ L) (h2 : Bl ∉ L) (h4 : ∀ i ∈ L, w.heap.size ≤ i) : BeE w Bo Bl B1 v y W' :=
  ⟨hg.boxed h.box h1, hg.boxed h.low h2, Nat.le_trans h.big hg.size, hg.toBelow h.bel h.bel.size (fun i hi e => by have := h4 i e; omega)⟩
theorem BeE.below {w W W' : World} {Bo Bl B1 : Nat} {v : Value} {y : Int} (h : BeE w Bo Bl B1 v y W) (hb : Below W.heap.size W W') : BeE w Bo Bl B1 v y W' :=
  ⟨boxedT_below h.box hb, boxedT_below h.low hb, Nat.le_trans h.big hb.size, h.bel.trans (hb.mono h.bel.size)⟩
theorem BeS.grown {w W W' : World} {Bo Bl B1 e p : Nat} {o : Option (Nat × Int)} {L : List Nat} (h : BeS w Bo Bl B1 e p o W) (hg : GrownL L W W') (h1 : Bo ∉ L) (h2 : Bl ∉ L) (h4 : ∀ i ∈ L, w.heap.size ≤ i ∧ i < B1) : BeS w Bo Bl B1 e p o W' := by
  cases o with
  | none => exact (show BeE _ _ _ _ _ _ _ from h).grown hg h1 h2 (fun i hi => (h4 i hi).1)
  | some b =>
    obtain ⟨g, c, h3, h5⟩ := h
    exact ⟨g, c, h3.grown hg h1 h2 (fun i hi => (h4 i hi).1), hg.own h5 (fun e => by have := h4 g e; have := (h5.lt g rfl).1; omega)⟩
theorem BeS.bel {w W : World} {Bo Bl B1 e p : Nat} {o : Option (Nat × Int)} (h : BeS w Bo Bl B1 e p o W) : Below w.heap.size w W := by
  cases o with
  | none => exact (show BeE _ _ _ _ _ _ _ from h).bel
  | some b => obtain ⟨_, _, h, _⟩ := h; exact h.bel
/-- A new best one. -/
theorem BeE.put {w W W1 : World} {Bo Bl B1 e c g : Nat} {v : Value} {y x : Int} {ts : List Int} (h : BeE w Bo Bl B1 v y W) (o1 : Bo < Bl) (o3 : w.heap.size ≤ Bo) (hb : Below W.heap.size W W1) (ho : OwnI W1 W.heap.size (.slice (some ⟨g, 0, none⟩) e c) ts) :
    BeE w Bo Bl B1 (.slice (some ⟨g, 0, none⟩) e c) x ((W1.setCell ⟨Bo, 0, none⟩ (.slice (some ⟨g, 0, none⟩) e c)).setCell ⟨Bl, 0, none⟩ (.int .i64 x)) ∧ OwnI ((W1.setCell ⟨Bo, 0, none⟩ (.slice (some ⟨g, 0, none⟩) e c)).setCell ⟨Bl, 0, none⟩ (.int .i64 x)) B1 (.slice (some ⟨g, 0, none⟩) e c) ts ∧
      GrownL [Bo, Bl] W ((W1.setCell ⟨Bo, 0, none⟩ (.slice (some ⟨g, 0, none⟩) e c)).setCell ⟨Bl, 0, none⟩ (.int .i64 x)) := by
  have h1 := h.below hb
  have hl := h.low.lt
  have hg := (ho.lt g rfl).1
  have g1 : GrownL [Bo] W1 (W1.setCell ⟨Bo, 0, none⟩ (.slice (some ⟨g, 0, none⟩) e c)) := (GrownL.refl _ _).setCell _ _ (.inl (by simp))
  have g2 : GrownL [Bl] (W1.setCell ⟨Bo, 0, none⟩ (.slice (some ⟨g, 0, none⟩) e c)) ((W1.setCell ⟨Bo, 0, none⟩ (.slice (some ⟨g, 0, none⟩) e c)).setCell ⟨Bl, 0, none⟩ (.int .i64 x)) := (GrownL.refl _ _).setCell _ _ (.inl (by simp))
  have hG : GrownL [Bo, Bl] W ((W1.setCell ⟨Bo, 0, none⟩ (.slice (some ⟨g, 0, none⟩) e c)).setCell ⟨Bl, 0, none⟩ (.int .i64 x)) := (((GrownL.refl _ W).below hb (Nat.le_refl _)).setCell _ _ (.inl (by simp))).setCell _ _ (.inl (by simp))
  refine ⟨⟨g2.boxed (h1.box.set _) (by simp; omega), ?_, Nat.le_trans h.big hG.size, hG.toBelow h.bel h.bel.size (fun i hi => by simp; omega)⟩, (g2.own (g1.own (ho.mono h.big) (by simp; omega)) (by simp; omega)), hG⟩
  have h2 := g1.boxed h1.low (by simp; omega)
  exact h2.set _
set_option maxRecDepth 100000 in
set_option maxHeartbeats 2000000 in
theorem bstDo_any (e p gt Bo Bl B1 A : Nat) (x : Int) (w W : World) (kp : Nat → Option Int) (k : Nat) (he : 1 ≤ e ∧ e ≤ 12) (hx : kp k = some x) (hs : BeS w Bo Bl B1 e p (bstT kp k) W) (o1 : Bo < Bl) (hB : w.heap.size ≤ Bo) (ho : OwnI W A (.slice (some ⟨gt, 0, none⟩) e e) (tabL e p k)) :
    Calls Try.prog 31 #[.slice (some ⟨gt, 0, none⟩) e e, .int .i64 x, .pointer (some ⟨Bo, 0, none⟩), .pointer (some ⟨Bl, 0, none⟩)] W fun en W' => en = .returned (.bool true) ∧ BeS w Bo Bl B1 e p (bstT kp (k + 1)) W' ∧ GrownL [Bo, Bl] W W' := by
  have hst : bstT kp (k + 1) = match bstT kp k with | none => some (k, x) | some (j, y) => if x < y then some (k, x) else some (j, y) := by rw [bstT, hx]; cases bstT kp k <;> rfl
  have htl := tabL_len e p k
  have hsn := sl_nil
  have hsn0 := tabSl_eq0
  have HCL : Hid (Calls Try.prog 30 #[.slice (some ⟨gt, 0, none⟩) e e] W fun en w' => (∃ g' c, en = .returned (.slice (some ⟨g', 0, none⟩) e c) ∧ OwnI w' W.heap.size (.slice (some ⟨g', 0, none⟩) e c) (tabL e p k)) ∧ Below W.heap.size W w') := by
    have h := clone_any (.slice (some ⟨gt, 0, none⟩) e e) (tabL e p k) W ho.ints (by omega) (by omega)
    rw [htl] at h
    exact h
  obtain ⟨o, hO⟩ : ∃ o, bstT kp k = o := ⟨_, rfl⟩
  rw [hO] at hs hst
  clear ho htl hx hO
  cases o with
  | none =>
    dsimp only at hst
    rw [hst]
    have HE : Hid (BeE w Bo Bl B1 (.slice none 0 0) 0 W) := hs
    have c1 := HE.out.box.cell
    have c2 := HE.out.low.cell
    clear hs hst
    go_enter Try.func31, Try.ntmps31
    go_wp2_with fail
    refine HCL.out.mono ?_
    rintro en W1 ⟨⟨g, c, rfl, ho⟩, hb1⟩
    have h1 := HE.out.below hb1
    have d1 := h1.box.cell
    have d2 := h1.low.cell
    have f1 := h1.box.frozen
    have f2 := h1.low.frozen
    have HP := Lib.hid (HE.out.put (x := x) o1 hB hb1 ho)
    clear h1 hb1 ho c1 c2 HCL
    go_wp2_with fail
    go_ret
    exact ⟨rfl, ⟨g, c, HP.out.1, HP.out.2.1⟩, HP.out.2.2⟩
  | some b =>
    obtain ⟨j, y⟩ := b
    dsimp only at hst
    obtain ⟨g0, c0, hE, hO0⟩ := hs
    dsimp only at hE hO0
    have HE := Lib.hid hE
    have HO := Lib.hid hO0
    have c1 := hE.box.cell
    have c2 := hE.low.cell
    clear hE hO0
    by_cases hxy : x < y
    · rw [if_pos hxy] at hst
      rw [hst]
      clear hst
      go_enter Try.func31, Try.ntmps31
      go_wp2_with fail
      refine HCL.out.mono ?_
      rintro en W1 ⟨⟨g, c, rfl, ho⟩, hb1⟩
      have h1 := HE.out.below hb1
      have d1 := h1.box.cell
      have d2 := h1.low.cell
      have f1 := h1.box.frozen
      have f2 := h1.low.frozen
      have HP := Lib.hid (HE.out.put (x := x) o1 hB hb1 ho)
      clear h1 hb1 ho c1 c2 HCL
      go_wp2_with fail
      go_ret
      exact ⟨rfl, ⟨g, c, HP.out.1, HP.out.2.1⟩, HP.out.2.2⟩
    · rw [if_neg hxy] at hst
      rw [hst]
      clear hst HCL
      go_enter Try.func31, Try.ntmps31
      go_wp2_with fail
      go_ret
      exact ⟨rfl, ⟨g0, c0, HE.out, HO.out⟩, GrownL.refl _ _⟩
theorem bstStart {w : World} {e p B1 : Nat} (hB : B1 ≤ w.heap.size + 2) : BeS w w.heap.size (w.heap.size + 1) B1 e p none ((w.alloc (.cells #[.slice none 0 0] 29)).alloc (.cells #[.int .i64 0] 2)) := by
  refine ⟨(Boxed.new w _ _).alloc _, ?_, by simp; omega, ((Below.refl _ w).alloc (Nat.le_refl _) _).alloc (by simp) _⟩
  have := Boxed.new (w.alloc (.cells #[.slice none 0 0] 29)) 2 (.int .i64 0)
  rwa [World.size_alloc] at this
set_option maxRecDepth 100000 in
set_option maxHeartbeats 2000000 in
theorem bestTable_any (e p : Nat) (gr L cr : Nat) (rs : List Ru4) (w : World) (hL : L = rs.length) (hL2 : L ≤ 32) (hrs : RulN w gr rs) (hr : ∀ r ∈ rs, RlOk (e : Int) (p : Int) r) (he : 1 ≤ e ∧ e ≤ 12) (hp : 1 ≤ p ∧ p ≤ 60) (hN : p ^ (e - 1) ≤ 4096) :
    Calls Try.prog 10 #[.int .i64 (e : Int), .slice (some ⟨gr, 0, none⟩) L cr, .int .i64 (p : Int)] w fun x w' => (match bstT (kpT e p rs) (p ^ (e - 1)) with
      | none => x = .returned (.tuple #[.slice none 0 0, .int .i64 0, .bool false])
      | some b => ∃ g c, x = .returned (.tuple #[.slice (some ⟨g, 0, none⟩) e c, .int .i64 b.2, .bool true]) ∧ OwnI w' w.heap.size (.slice (some ⟨g, 0, none⟩) e c) (tabL e p b.1)) ∧ Below w.heap.size w w' := by
  have hmf : ∀ (fn : Fn) (first cap : Array Value) (w : World), (Instr.makeFunc fn first cap).run Try.prog w = .ok (.func fn first cap) w := fun _ _ _ _ => rfl
  have heg := enters_of Try.func31 (by kernel_rfl) rfl
  have hsn0 := tabSl_nil0
  have hsn1 := tabSl_nil1
  obtain ⟨W1, hW1⟩ : ∃ W, (w.alloc (.cells #[.slice none 0 0] 29)).alloc (.cells #[.int .i64 0] 2) = W := ⟨_, rfl⟩
  have hz1 : W1.heap.size = w.heap.size + 2 := by rw [← hW1]; simp
  have hb1 : Below w.heap.size w W1 := by rw [← hW1]; exact ((Below.refl _ w).alloc (Nat.le_refl _) _).alloc (by simp) _
  have hbs : ∀ W', Below W1.heap.size W1 W' → ∀ B1, B1 ≤ W'.heap.size → BeS w w.heap.size (w.heap.size + 1) B1 e p none W' := fun W' hb B1 hB => by
    have h : BeE w w.heap.size (w.heap.size + 1) (w.heap.size + 2) (.slice none 0 0) 0 W1 := by rw [← hW1]; exact bstStart (e := e) (p := p) (Nat.le_refl _)
    have h2 := h.below hb
    exact ⟨h2.box, h2.low, hB, h2.bel⟩
  have HT := Lib.hid (tables_any e p gr L cr rs 31 #[.pointer (some ⟨w.heap.size, 0, none⟩), .pointer (some ⟨w.heap.size + 1, 0, none⟩)] [w.heap.size, w.heap.size + 1] (fun B1 k W => BeS w w.heap.size (w.heap.size + 1) B1 e p (bstT (kpT e p rs) k) W) (fun B1 W => BeS w w.heap.size (w.heap.size + 1) B1 e p (bstT (kpT e p rs) (p ^ (e - 1))) W) W1 hL hL2 (hrs.below hb1 hrs.1) hr he hp hN (by have := hrs.1; simp; omega) (by intro i hi; simp at hi; omega)
    (fun B1 gt h1 h2 => {
      call := fun k x W hk hx hs ho => (bstDo_any e p gt w.heap.size (w.heap.size + 1) B1 _ x w W (kpT e p rs) k he hx hs (Nat.lt_succ_self _) (Nat.le_refl _) ho).mono (by
        rintro en W' ⟨rfl, h3, h4⟩
        exact ⟨true, rfl, fun _ => h3, (fun h => by cases h), h4⟩)
      skip := fun k W hx hs => by rw [bstT, show kpT e p rs k = none from hx]; exact hs
      last := fun W h => h
      kept := fun k W W' hs hg => hs.grown hg (by simp; omega) (by simp; omega) (by intro i hi; simp at hi; omega)
      keptF := fun W W' hs hg => hs.grown hg (by simp; omega) (by simp; omega) (by intro i hi; simp at hi; omega)
      enters := heg }) (fun B1 W' hb hB => hbs W' hb B1 hB))
  have HW1 := Lib.hid hW1
  have HZ := Lib.hid hz1
  obtain ⟨o, ho⟩ : ∃ o, bstT (kpT e p rs) (p ^ (e - 1)) = o := ⟨_, rfl⟩
  rw [ho] at HT ⊢
  clear hbs hb1 hz1 hW1 hrs hr hL ho
  go_enter Try.func10, Try.ntmps10
  go_wp2_with fail
  rw [HW1.out]
  refine HT.out.mono ?_
  rintro en W5 ⟨rfl, ⟨B1, hB1, hs⟩, hg5⟩
  have HB5 := Lib.hid hs.bel
  clear hg5 HT
  cases o with
  | none =>
    have h : BeE _ _ _ _ _ _ _ := hs
    have c1 := h.box.cell
    have c2 := h.low.cell
    clear hs hB1 h
    go_wp2
    go_quiet (fail)
    go_wp2
    go_ret3
    exact ⟨rfl, below_drewN _ HB5.out⟩
  | some b =>
    obtain ⟨g, c, h1, h2⟩ := hs
    have c1 := h1.box.cell
    have c2 := h1.low.cell
    have HO := Lib.hid (h2.mono (show w.heap.size ≤ B1 by have := HZ.out; omega))
    clear h1 h2 hB1
    go_wp2
    go_quiet (fail)
    go_wp2
    go_ret3
    exact ⟨⟨g, c, rfl, HO.out.drewN _⟩, below_drewN _ HB5.out⟩
end Go.Proofs.Ythkakieomoobmaa
