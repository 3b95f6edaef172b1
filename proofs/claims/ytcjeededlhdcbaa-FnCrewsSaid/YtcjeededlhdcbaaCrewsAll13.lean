/- impl.ruleOrder: the keys of a rule, the order. Conditions: valid tasks. With texts that it needs. -/
import Derived.Test.YtcjeededlhdcbaaCrewsAll11
import Derived.Test.YtcjeededlhdcbaaCrewsAll12
import Derived.Test.YtcjeededlhdcbaaCrewsAll9
import Derived.Deep.RegionHeld3
import Derived.Deep.QuietTactic
import Derived.BigQuiet
namespace Go.Proofs.Ytcjeededlhdcbaa
open Go.RowKit
set_option linter.unusedVariables false
set_option linter.unusedSimpArgs false

theorem keyI_0 (ts : List Tk) (j : Nat) : keyR ts 0 j = nth (lateN ts (endN ts)) j := by unfold keyR; rw [if_neg (by omega), if_neg (by omega), if_neg (by omega), Int.toNat_natCast]
theorem keyI_1 (ts : List Tk) (j : Nat) : keyR ts 1 j = -timeN ts j := by unfold keyR; rw [if_pos rfl, Int.toNat_natCast]
theorem keyI_2 (ts : List Tk) (j : Nat) : keyR ts 2 j = nth (slackN ts) j := by unfold keyR; rw [if_neg (by omega), if_pos rfl, Int.toNat_natCast]
theorem keyI_3 (ts : List Tk) (j : Nat) : keyR ts 3 j = -timeN ts j * needN ts j := by unfold keyR; rw [if_neg (by omega), if_neg (by omega), if_pos rfl, Int.toNat_natCast]
def keysL (ts : List Tk) (kind : Int) (k : Nat) : List Int := (List.range k).map fun (i : Nat) => keyR ts kind (i : Int)
theorem keysL_succ (ts : List Tk) (kind : Int) (k : Nat) : keysL ts kind (k + 1) = keysL ts kind k ++ [keyR ts kind (k : Int)] := by unfold keysL; rw [List.range_succ, List.map_append]; rfl
theorem keysL_len (ts : List Tk) (kind : Int) (k : Nat) : (keysL ts kind k).length = k := by simp [keysL]
theorem keysL_at {ts : List Tk} {kind : Int} {k i : Nat} (h : i < k) : nth (keysL ts kind k) i = keyR ts kind (i : Int) := by
  rw [nth_eq (by rw [keysL_len]; exact h)]; simp [keysL]
/-- The keys of the first k tasks stand. -/
def KeyIR (ts : List Tk) (kind : Int) (T N : Nat) (w : World) (vo vk : Value) (wr : World) : Prop :=
  ∃ (g c k l : Nat), vo = .slice (some ⟨g, 0, none⟩) l c ∧ vk = .int .i64 k ∧ k ≤ T ∧ Hid (l = k) ∧ Hid (OwnI wr N (.slice (some ⟨g, 0, none⟩) l c) (keysL ts kind k)) ∧ Hid (g = N ∨ w.heap.size ≤ g) ∧ Hid (GrownL [N] w wr)
/-- append where the region draws its order, the new element's block by a letter. -/
theorem step_append_i64H {ops : Array Oper} {o : Oper} {a : Act} {K : Act → World → Prop} {Q : Exit → Act → World → Prop} {E : Prop} {W : World} (hgd : o.guard = none) (s x : Operand)
    (ho : o.op = .call { callee := .builtin .append, args := #[s, x], argTypes := #[27, 27] }) (B : Nat) (v : Value) (xs ys : List Int) (hy : 0 < ys.length)
    (hs : a.eval s = v) (c H : Nat) (hx : a.eval x = .slice (some ⟨H, 0, none⟩) ys.length c) (hH : W.heap.size = H) (hown : OwnI W B v xs) (hB : B ≤ W.heap.size) (hsmall : xs.length + ys.length ≤ 1099511627776)
    (hK : ∀ g c w', OwnI w' B (.slice (some ⟨g, 0, none⟩) (xs.length + ys.length) c) (xs ++ ys) → W.grownBy w' v.ownBlock → (v.ownBlock = some g ∨ W.heap.size ≤ g) → K (a.put o.dst (.slice (some ⟨g, 0, none⟩) (xs.length + ys.length) c)) w') :
    if Region.wanted o (yielded ops a.tmps) = true then Oper.wp Try.prog o a (W.alloc (.cells (ys.map (Value.int .i64)).toArray 2)).drew K Q else E := by
  subst hH
  exact step_append_i64L hgd s x ho B v xs ys hy hs c hx hown hB hsmall hK
/-- The first k tasks of the order stand. -/
def OutIR (ts : List Tk) (key : Int → Int) (T X : Nat) (W5 : World) (wr : World) : Prop :=
  ∃ (g c k l : Nat), k ≤ T ∧ Hid (l = k) ∧ Hid (Boxed wr (X + 1) 27 (.slice (some ⟨g, 0, none⟩) l c)) ∧ Hid (OwnI wr X (.slice (some ⟨g, 0, none⟩) l c) (ruleTo ts key k)) ∧ Hid (g = X ∨ W5.heap.size ≤ g) ∧ Hid (GrownL [X, X + 1] W5 wr)
def PikIR (ts : List Tk) (key : Int → Int) (T : Nat) (E : List Int) (V : World) (vb vi : Value) (wr : World) : Prop :=
  ∃ (j : Nat) (P : Int), vb = .int .i64 P ∧ vi = .int .i64 j ∧ j ≤ T ∧ Hid (P = pickK (freeB ts E) key j) ∧ Hid (Below V.heap.size V wr)
theorem lie_keepR {g g3 A N n c : Nat} {W2 : World} (h : (Value.slice (some ⟨g, 0, none⟩) n c).ownBlock = some g3 ∨ W2.heap.size ≤ g3) (hg : g = A ∨ N ≤ g) (hN : N ≤ W2.heap.size) : g3 = A ∨ N ≤ g3 := by
  rcases h with q | q
  · rw [ownBlock_slice] at q
    have q2 : g = g3 := Option.some.inj q
    omega
  · omega
set_option maxRecDepth 100000 in
set_option maxHeartbeats 4000000 in
theorem ruleOrder_any (vt : Value) (ts : List Tk) (kind : Int) (w : World) (ht : TasksR w vt ts) (hok : tasksOk ts = true) (hkd : kind = 0 ∨ kind = 1 ∨ kind = 2 ∨ kind = 3) :
    Calls Try.prog 56 #[vt, .int .i64 kind] w fun x w' => (∃ g c, x = .returned (.slice (some ⟨g, 0, none⟩) ts.length c) ∧ OwnI w' w.heap.size (.slice (some ⟨g, 0, none⟩) ts.length c) (ruleN ts kind)) ∧ Below w.heap.size w w' := by
  have hsm := tasks_sm hok
  have hrs := tasks_rise hok
  have HC1 := Lib.hid (EarlyStarts_any vt ts w ht hok)
  have HC3 : Hid (∀ W, Below w.heap.size w W → Calls Try.prog 116 #[vt, .int .i64 (endN ts)] W fun x w' => (∃ g, x = .returned (.slice (some ⟨g, 0, none⟩) ts.length ts.length) ∧ OwnI w' W.heap.size (.slice (some ⟨g, 0, none⟩) ts.length ts.length) (lateN ts (endN ts))) ∧ Below W.heap.size W w') := fun W hW => lateStarts_any vt ts (endN ts) W (ht.below hW (Nat.le_refl _)) hsm hrs (by have := endN_bounds hsm; omega)
  have HC4 : Hid (∀ W, Below w.heap.size w W → Calls Try.prog 117 #[vt] W fun x w' => (∃ g, x = .returned (.slice (some ⟨g, 0, none⟩) ts.length ts.length) ∧ OwnI w' W.heap.size (.slice (some ⟨g, 0, none⟩) ts.length ts.length) (slackN ts)) ∧ Below W.heap.size W w') := fun W hW => slack_any vt ts W (ht.below hW (Nat.le_refl _)) hsm hrs
  have HLN : Hid ((lateN ts (endN ts)).length = ts.length ∧ (slackN ts).length = ts.length) := ⟨lateTo_len _ _ _, slackN_len _⟩
  have HRN : Hid (ruleN ts kind = ruleTo ts (keyR ts kind) ts.length) := rfl
  have HRI : Hid (∀ k, k ≤ ts.length → RuleI ts (ruleTo ts (keyR ts kind) k) k) := fun k hk => ruleTo_ok hsm k hk
  have HRS : Hid (∀ k, ruleTo ts (keyR ts kind) (k + 1) = ruleTo ts (keyR ts kind) k ++ [pickK (freeB ts (ruleTo ts (keyR ts kind) k)) (keyR ts kind) ts.length]) := fun k => rfl
  have HRL : Hid (∀ k, (ruleTo ts (keyR ts kind) k).length = k) := ruleTo_len ts _
  have HKD : Hid (kind = 0 ∨ kind = 1 ∨ kind = 2 ∨ kind = 3) := hkd
  have HSM := Lib.hid hsm
  have h16 := hsm.n16
  have hn1 := hsm.n1
  obtain ⟨b, o, c, VB, VL, rfl, hcap, hbw, hsrc⟩ := ht.src hsm.n1
  have HSRC : Hid (∀ i, i < ts.length → TkSrc w b o ts VB VL i) := hsrc
  obtain ⟨T, hT⟩ : ∃ T, ts.length = T := ⟨_, rfl⟩
  have HT : Hid (ts.length = T) := hT
  rw [hT] at HC1 HLN HRN h16 hn1 hcap HSRC ⊢
  simp only [hT] at HC3 HC4 HRI HRS
  clear ht hok hsm hrs hkd hsrc hT
  go_enter Try.func56, Try.ntmps56
  go_wp2_with fail
  refine HC1.out.mono ?_
  rintro x W1 ⟨⟨ge, rfl, ho1⟩, hb1⟩
  have HB1 := Lib.hid hb1
  clear ho1 hb1 HC1
  go_wp2_with fail
  obtain ⟨A, hA⟩ : ∃ A, W1.heap.size = A := ⟨_, rfl⟩
  obtain ⟨W2, hW2⟩ : ∃ W, W1.alloc (.cells #[] 2) = W := ⟨_, rfl⟩
  have HBA : Hid (w.heap.size ≤ A) := by show _ ≤ _; rw [← hA]; exact HB1.out.size
  have hb2 : Below A W1 W2 := by rw [← hW2, ← hA]; exact (Below.refl _ W1).alloc (Nat.le_refl _) _
  have HB2 : Hid (Below w.heap.size w W2) := HB1.out.trans (hb2.mono HBA.out)
  have HO2 : Hid (OwnI W2 A (.slice (some ⟨A, 0, none⟩) 0 0) []) := by
    have h := OwnI.lit W1 A [] (by rw [hA]; exact Nat.le_refl _) (Nat.zero_le _)
    rw [hA] at h
    rw [← hW2]; exact h
  have HZ2 : Hid (A < W2.heap.size) := by show _ < _; rw [← hW2, ← hA]; simp
  rw [hW2, hA]
  clear hW2 hA hb2
  refine (HC3.out W2 HB2.out).mono ?_
  rintro x W3 ⟨⟨gl, rfl, ho3⟩, hb3⟩
  have HB3 : Hid (Below w.heap.size w W3) := HB2.out.trans (hb3.mono HB2.out.size)
  have HO3 := Lib.hid (HO2.out.below hb3 (Nat.le_refl _))
  have HL3 := Lib.hid ho3
  have HGL : Hid (A < gl ∧ gl < W3.heap.size) := ⟨by have := (ho3.lt gl rfl).1; have := HZ2.out; omega, (ho3.lt gl rfl).2⟩
  clear ho3 hb3 HC3 HO2
  go_wp2_with fail
  refine (HC4.out W3 HB3.out).mono ?_
  rintro x W4 ⟨⟨gs, rfl, ho4⟩, hb4⟩
  have HB4 : Hid (Below w.heap.size w W4) := HB3.out.trans (hb4.mono HB3.out.size)
  have HO4 := Lib.hid (HO3.out.below hb4 (Nat.le_refl _))
  have HL4 := Lib.hid (HL3.out.below hb4 (Nat.le_refl _))
  have HS4 := Lib.hid ho4
  have HGS : Hid (A < gs ∧ gs < W4.heap.size ∧ A < gl ∧ gl < W4.heap.size) := ⟨by have := (ho4.lt gs rfl).1; have := HGL.out; omega, (ho4.lt gs rfl).2, HGL.out.1, by have := HGL.out; have := hb4.size; omega⟩
  clear ho4 hb4 HC4 HO3 HL3 HGL
  have HCL : Hid (∀ W, GrownL [A] W4 W → ∀ k, k < T → W.cell? ⟨gl, k, none⟩ = some (.int .i64 (nth (lateN ts (endN ts)) k)) ∧ W.cell? ⟨gs, k, none⟩ = some (.int .i64 (nth (slackN ts) k))) := fun W hW k hk =>
    ⟨(hW.cell (p := ⟨gl, k, none⟩) HGS.out.2.2.2 (by show gl ∉ [A]; have := HGS.out; simp; omega)).trans (HL4.out.at_ HLN.out.1.symm k (by rw [HLN.out.1]; exact hk)), (hW.cell (p := ⟨gs, k, none⟩) HGS.out.2.1 (by show gs ∉ [A]; have := HGS.out; simp; omega)).trans (HS4.out.at_ HLN.out.2.symm k (by rw [HLN.out.2]; exact hk))⟩
  have HR0 : Hid (KeyIR ts kind T A W4 (.slice (some ⟨A, 0, none⟩) 0 0) (.int .i64 0) W4) := ⟨A, 0, 0, 0, rfl, rfl, Nat.zero_le _, rfl, HO4.out, .inl rfl, GrownL.refl _ _⟩
  clear HO4 HL4 HS4
  go_wp2
  go_loopw [8, 31] (fun vo vk wr => KeyIR ts kind T A W4 vo vk wr) (fun _ vk _ => T - (intOf vk).toNat)
  case atStart => exact HR0.out
  case round =>
    obtain ⟨g, cg, k, l, rfl, rfl, hk, HLK, HO, HGA, HG⟩ := hrel
    clear HR0
    have HBr : Hid (Below w.heap.size w wr) := HG.out.toBelow HB4.out HB4.out.size (fun j hj => by have := HBA.out; simp; omega)
    by_cases hkT : k < T
    · have k0 : (0 : Int) ≤ (k : Int) := by omega
      have k1 : (k : Int) < (T : Int) := by omega
      have hs := HSRC.out k hkT
      have t0 : wr.cell? ⟨b, o + k * 4, none⟩ = some (.int .i64 (timeN ts k)) := (HBr.out.cell (p := ⟨b, o + k * 4, none⟩) hbw).trans hs.c0
      have t1 : wr.cell? ⟨b, o + k * 4 + 1, none⟩ = some (.int .i64 (needN ts k)) := (HBr.out.cell (p := ⟨b, o + k * 4 + 1, none⟩) hbw).trans hs.c1
      have t2 : wr.cell? ⟨b, o + k * 4 + 2, none⟩ = some (VB k) := (HBr.out.cell (p := ⟨b, o + k * 4 + 2, none⟩) hbw).trans hs.c2
      have t3 : wr.cell? ⟨b, o + k * 4 + 3, none⟩ = some (VL k) := (HBr.out.cell (p := ⟨b, o + k * 4 + 3, none⟩) hbw).trans hs.c3
      have htm := HSM.out.time k (by rw [HT.out]; exact hkT)
      have hnd := HSM.out.need k (by rw [HT.out]; exact hkT)
      have HKS : Hid (keysL ts kind (k + 1) = keysL ts kind k ++ [keyR ts kind (k : Int)]) := keysL_succ ts kind k
      have HK0 : Hid (keyR ts 0 (k : Int) = nth (lateN ts (endN ts)) k) := keyI_0 ts k
      have HK1 : Hid (keyR ts 1 (k : Int) = -timeN ts k) := keyI_1 ts k
      have HK2 : Hid (keyR ts 2 (k : Int) = nth (slackN ts) k) := keyI_2 ts k
      have HK3 : Hid (keyR ts 3 (k : Int) = -timeN ts k * needN ts k) := keyI_3 ts k
      have hcl := HCL.out wr HG.out k hkT
      have HCK := Lib.hid (fun W hW => HCL.out W hW k hkT)
      have HXL : Hid ((keysL ts kind k).length = k) := keysL_len ts kind k
      obtain ⟨tm, htm'⟩ : ∃ x, timeN ts k = x := ⟨_, rfl⟩
      obtain ⟨nd, hnd'⟩ : ∃ x, needN ts k = x := ⟨_, rfl⟩
      obtain ⟨lv, hlv⟩ : ∃ x, nth (lateN ts (endN ts)) k = x := ⟨_, rfl⟩
      obtain ⟨sv, hsv⟩ : ∃ x, nth (slackN ts) k = x := ⟨_, rfl⟩
      obtain ⟨_, aB, cB, hvb, _⟩ := hs.bef.ints.1
      obtain ⟨_, aL, cL, hvl, _⟩ := hs.lag.ints.1
      obtain ⟨nB, hnB⟩ : ∃ n, (befN ts k).length = n := ⟨_, rfl⟩
      obtain ⟨nL, hnL⟩ : ∃ n, (lagN ts k).length = n := ⟨_, rfl⟩
      rw [hnB] at hvb
      rw [hnL] at hvl
      obtain ⟨X, hX⟩ : ∃ x, keysL ts kind k = x := ⟨_, rfl⟩
      rw [htm'] at t0 htm HK1 HK3
      rw [hnd'] at t1 hnd HK3
      rw [hvb] at t2
      rw [hvl] at t3
      rw [hlv, hsv] at hcl
      simp only [hlv, hsv] at HCK
      rw [hlv] at HK0
      rw [hsv] at HK2
      rw [hX] at HKS HO HXL
      obtain ⟨c0, c1⟩ := hcl
      have w1 : IntKind.i64.wrap (-tm) = -tm := IntWalk.i64_in _ (by omega)
      have hmul : -2000 ≤ -tm * nd ∧ -tm * nd ≤ 0 := by
        have h1 : tm * nd ≤ 100 * 20 := Int.mul_le_mul htm.2 hnd.2 hnd.1 (by omega)
        have h2 : 0 ≤ tm * nd := Int.mul_nonneg htm.1 hnd.1
        have h3 : -tm * nd = -(tm * nd) := Int.neg_mul _ _
        omega
      have w2 : IntKind.i64.wrap (-tm * nd) = -tm * nd := IntWalk.i64_in _ (by omega)
      have hX64 : X.length + 1 ≤ 64 := by have := HXL.out; omega
      obtain ⟨V, hV⟩ : ∃ V, wr.alloc (.cells #[.int .i64 tm, .int .i64 nd, .slice aB nB cB, .slice aL nL cL] 40) = V := ⟨_, rfl⟩
      have hbv : Below wr.heap.size wr V := by rw [← hV]; exact (Below.refl _ wr).alloc (Nat.le_refl _) _
      have HOV := Lib.hid (HO.out.below hbv (Nat.le_refl _))
      have HGV := Lib.hid (HG.out.below hbv HG.out.size)
      obtain ⟨bt, hbt⟩ : ∃ bt, wr.heap.size = bt := ⟨_, rfl⟩
      have HVC : Hid (V.cell? ⟨bt, 0, none⟩ = some (.int .i64 tm) ∧ V.cell? ⟨bt, 1, none⟩ = some (.int .i64 nd) ∧ bt < V.heap.size) := by
        show _ ∧ _ ∧ _
        rw [← hV, ← hbt]
        exact ⟨by simp, by simp, by simp⟩
      have HVS : Hid (A ≤ V.heap.size) := by have := HZ2.out; have := HGS.out; have := HG.out.size; have := hbv.size; show _ ≤ _; omega
      clear htm' hnd' hlv hsv hvb hvl hX hs hnB hnL
      have HSA : Hid (∀ (ob : Obj) (w3 : World), (V.alloc ob).grownBy w3 (Value.slice (some ⟨g, 0, none⟩) l cg).ownBlock → w3.cell? ⟨gl, k, none⟩ = some (.int .i64 lv) ∧ w3.cell? ⟨gs, k, none⟩ = some (.int .i64 sv) ∧ w3.cell? ⟨bt, 0, none⟩ = some (.int .i64 tm) ∧ w3.cell? ⟨bt, 1, none⟩ = some (.int .i64 nd)) := fun ob w3 hg => by
        have hgA : GrownL [A] W4 w3 := (HGV.out.alloc ob).grown hg (fun j e => by rw [ownBlock_slice] at e; have e2 : g = j := Option.some.inj e; rcases HGA.out with q | q; exact .inl (List.mem_singleton.2 (by omega)); exact .inr (by omega))
        have hgb : g < bt := by have := (HO.out.lt g rfl).2; omega
        have hz : V.heap.size < (V.alloc ob).heap.size := by simp
        have hf : ∀ j, w3.cell? ⟨bt, j, none⟩ = V.cell? ⟨bt, j, none⟩ := fun j => (hg.cell_far ⟨bt, j, none⟩ (by have := HVC.out.2.2; show bt < _; omega) (by rw [ownBlock_slice]; intro e; have e2 : bt = g := Option.some.inj e; omega)).trans (((Below.refl V.heap.size V).alloc (Nat.le_refl _) ob).cell (p := ⟨bt, j, none⟩) HVC.out.2.2)
        exact ⟨(HCK.out w3 hgA).1, (HCK.out w3 hgA).2, (hf 0).trans HVC.out.1, (hf 1).trans HVC.out.2.1⟩
      have HSL : Hid (∀ (ob : Obj) (g3 : Nat) (w3 : World), (V.alloc ob).grownBy w3 (Value.slice (some ⟨g, 0, none⟩) l cg).ownBlock → ((Value.slice (some ⟨g, 0, none⟩) l cg).ownBlock = some g3 ∨ (V.alloc ob).heap.size ≤ g3) → (g3 = A ∨ W4.heap.size ≤ g3) ∧ GrownL [A] W4 w3) := fun ob g3 w3 hg hl => by
        have hgA : GrownL [A] W4 w3 := (HGV.out.alloc ob).grown hg (fun j e => by rw [ownBlock_slice] at e; have e2 : g = j := Option.some.inj e; rcases HGA.out with q | q; exact .inl (List.mem_singleton.2 (by omega)); exact .inr (by omega))
        refine ⟨lie_keepR hl HGA.out ?_, hgA⟩
        have := HGV.out.size
        simp
        omega
      have d0 := HVC.out.1
      have d1 := HVC.out.2.1
      have c0 := (HCK.out V HGV.out).1
      have c1 := (HCK.out V HGV.out).2
      have hk2 := HKD.out
      rcases hk2 with rfl | rfl | rfl | rfl
      · go_wp2
        refine wp_region_held_drew (S := (fun w' => w'.cell? ⟨gl, k, none⟩ = some (.int .i64 lv) ∧ w'.cell? ⟨gs, k, none⟩ = some (.int .i64 sv) ∧ w'.cell? ⟨bt, 0, none⟩ = some (.int .i64 tm) ∧ w'.cell? ⟨bt, 1, none⟩ = some (.int .i64 nd))) (by kernel_rfl) ?_ (fun hHeld => ?_)
        · (try dsimp only); go_keep
        refine wpAnyH_take (i := 0) (v := ?vk0x0) rfl (by kernel_rfl) (by kernel_rfl) (by kernel_rfl) (fun _ _ _ h => h) (Or.inl ⟨by rfl, ?yk0x0⟩) (by assumption) ?rk0x0
        case yk0x0 => (intro w hSw; (try dsimp only at hSw); go_split_ands; go_simp <;> (try with_reducible rfl))
        try simp only [Act.put, List.setIfInBounds_toArray, List.set_cons_zero, List.set_cons_succ]
        refine wpAnyH_take (i := 1) (v := ?vk0x1) rfl (by kernel_rfl) (by kernel_rfl) (by kernel_rfl) (fun _ _ _ h => h) (Or.inl ⟨by rfl, ?yk0x1⟩) (by assumption) ?rk0x1
        case yk0x1 => (intro w hSw; (try dsimp only at hSw); go_split_ands; go_simp <;> (try with_reducible rfl))
        try simp only [Act.put, List.setIfInBounds_toArray, List.set_cons_zero, List.set_cons_succ]
        refine wpAnyH_take (i := 2) (v := ?vk0x2) rfl (by kernel_rfl) (by kernel_rfl) (by kernel_rfl) (fun _ _ _ h => h) (Or.inl ⟨by rfl, ?yk0x2⟩) (by assumption) ?rk0x2
        case yk0x2 => (intro w hSw; (try dsimp only at hSw); go_split_ands; go_simp <;> (try with_reducible rfl))
        try simp only [Act.put, List.setIfInBounds_toArray, List.set_cons_zero, List.set_cons_succ]
        refine wpAnyH_take (i := 3) (v := ?vk0x3) rfl (by kernel_rfl) (by kernel_rfl) (by kernel_rfl) (fun _ _ _ h => h) (Or.inl ⟨by rfl, ?yk0x3⟩) (by assumption) ?rk0x3
        case yk0x3 => (intro w hSw; (try dsimp only at hSw); go_split_ands; go_simp <;> (try with_reducible rfl))
        try simp only [Act.put, List.setIfInBounds_toArray, List.set_cons_zero, List.set_cons_succ]
        refine wpAnyH_take (i := 4) (v := ?vk0x4) rfl (by kernel_rfl) (by kernel_rfl) (by kernel_rfl) (fun _ _ _ h => h) (Or.inl ⟨by rfl, ?yk0x4⟩) (by assumption) ?rk0x4
        case yk0x4 => (intro w hSw; (try dsimp only at hSw); go_split_ands; go_simp <;> (try with_reducible rfl))
        try simp only [Act.put, List.setIfInBounds_toArray, List.set_cons_zero, List.set_cons_succ]
        refine wpAnyH_take (i := 5) (v := ?vk0x5) rfl (by kernel_rfl) (by kernel_rfl) (by kernel_rfl) (fun _ _ _ h => h) (Or.inl ⟨by rfl, ?yk0x5⟩) (by assumption) ?rk0x5
        case yk0x5 => (intro w hSw; (try dsimp only at hSw); go_split_ands; go_simp <;> (try with_reducible rfl))
        try simp only [Act.put, List.setIfInBounds_toArray, List.set_cons_zero, List.set_cons_succ]
        refine wpAnyH_take (i := 6) (v := ?vk0x6) rfl (by kernel_rfl) (by kernel_rfl) (by kernel_rfl) (fun _ _ _ h => h) (Or.inl ⟨by rfl, ?yk0x6⟩) (by assumption) ?rk0x6
        case yk0x6 => (intro w hSw; (try dsimp only at hSw); go_split_ands; go_simp <;> (try with_reducible rfl))
        try simp only [Act.put, List.setIfInBounds_toArray, List.set_cons_zero, List.set_cons_succ]
        refine wpAnyH_take (i := 7) (v := ?vk0x7) rfl (by kernel_rfl) (by kernel_rfl) (by kernel_rfl) (fun _ _ _ h => h) (Or.inl ⟨by rfl, ?yk0x7⟩) (by assumption) ?rk0x7
        case yk0x7 => (intro w hSw; (try dsimp only at hSw); go_split_ands; go_simp <;> (try with_reducible rfl))
        try simp only [Act.put, List.setIfInBounds_toArray, List.set_cons_zero, List.set_cons_succ]
        refine wpAnyH_take (i := 8) (v := ?vk0x8) rfl (by kernel_rfl) (by kernel_rfl) (by kernel_rfl) (fun _ _ _ h => h) (Or.inl ⟨by rfl, ?yk0x8⟩) (by assumption) ?rk0x8
        case yk0x8 => (intro w hSw; (try dsimp only at hSw); go_split_ands; go_simp <;> (try with_reducible rfl))
        try simp only [Act.put, List.setIfInBounds_toArray, List.set_cons_zero, List.set_cons_succ]
        refine wpAnyH_take (i := 9) (v := ?vk0x9) rfl (by kernel_rfl) (by kernel_rfl) (by kernel_rfl) (fun _ _ _ h => h) (Or.inl ⟨by rfl, ?yk0x9⟩) (by assumption) ?rk0x9
        case yk0x9 => (intro w hSw; (try dsimp only at hSw); go_split_ands; go_simp <;> (try with_reducible rfl))
        try simp only [Act.put, List.setIfInBounds_toArray, List.set_cons_zero, List.set_cons_succ]
        refine wpAnyH_take (i := 10) (v := ?vk0x10) rfl (by kernel_rfl) (by kernel_rfl) (by kernel_rfl) (fun _ _ _ h => h) (Or.inl ⟨by rfl, ?yk0x10⟩) (by assumption) ?rk0x10
        case yk0x10 => (intro w hSw; (try dsimp only at hSw); go_split_ands; go_simp <;> (try with_reducible rfl))
        try simp only [Act.put, List.setIfInBounds_toArray, List.set_cons_zero, List.set_cons_succ]
        refine wpAnyH_take (i := 11) (v := ?vk0x11) rfl (by kernel_rfl) (by kernel_rfl) (by kernel_rfl) (fun _ _ _ h => h) (Or.inl ⟨by rfl, ?yk0x11⟩) (by assumption) ?rk0x11
        case yk0x11 => (intro w hSw; (try dsimp only at hSw); go_split_ands; go_simp <;> (try with_reducible rfl))
        try simp only [Act.put, List.setIfInBounds_toArray, List.set_cons_zero, List.set_cons_succ]
        refine wpAnyH_take (i := 12) (v := ?vk0x12) rfl (by kernel_rfl) (by kernel_rfl) (by kernel_rfl) (fun _ _ _ h => h) (Or.inl ⟨by rfl, ?yk0x12⟩) (by assumption) ?rk0x12
        case yk0x12 => (intro w hSw; (try dsimp only at hSw); go_split_ands; go_simp <;> (try with_reducible rfl))
        try simp only [Act.put, List.setIfInBounds_toArray, List.set_cons_zero, List.set_cons_succ]
        refine wpAnyH_take (i := 13) (v := ?vk0x13) rfl (by kernel_rfl) (by kernel_rfl) (by kernel_rfl) (fun _ _ _ h => h) (Or.inl ⟨by rfl, ?yk0x13⟩) (by assumption) ?rk0x13
        case yk0x13 => (intro w hSw; (try dsimp only at hSw); go_split_ands; go_simp <;> (try with_reducible rfl))
        try simp only [Act.put, List.setIfInBounds_toArray, List.set_cons_zero, List.set_cons_succ]
        refine wpAnyH_take (i := 14) (v := ?vk0x14) rfl (by kernel_rfl) (by kernel_rfl) (by kernel_rfl) (fun _ _ _ h => h) (Or.inl ⟨by rfl, ?yk0x14⟩) (by assumption) ?rk0x14
        case yk0x14 => (intro w hSw; (try dsimp only at hSw); go_split_ands; go_simp <;> (try with_reducible rfl))
        try simp only [Act.put, List.setIfInBounds_toArray, List.set_cons_zero, List.set_cons_succ]
        refine wpAnyH_take (i := 15) (v := ?vk0x15) rfl (by kernel_rfl) (by kernel_rfl) (by kernel_rfl) (fun _ _ _ h => h) (Or.inl ⟨by rfl, ?yk0x15⟩) (by assumption) ?rk0x15
        case yk0x15 => (intro w hSw; (try dsimp only at hSw); go_split_ands; go_simp <;> (try with_reducible rfl))
        try simp only [Act.put, List.setIfInBounds_toArray, List.set_cons_zero, List.set_cons_succ]
        refine wpAnyH_take (i := 16) (v := ?vk0x16) rfl (by kernel_rfl) (by kernel_rfl) (by kernel_rfl) (fun _ _ _ h => h) (Or.inl ⟨by rfl, ?yk0x16⟩) (by assumption) ?rk0x16
        case yk0x16 => (intro w hSw; (try dsimp only at hSw); go_split_ands; go_simp <;> (try with_reducible rfl))
        try simp only [Act.put, List.setIfInBounds_toArray, List.set_cons_zero, List.set_cons_succ]
        refine wpAnyH_take (i := 17) (v := ?vk0x17) rfl (by kernel_rfl) (by kernel_rfl) (by kernel_rfl) (fun _ _ _ h => h) (Or.inl ⟨by rfl, ?yk0x17⟩) (by assumption) ?rk0x17
        case yk0x17 => (intro w hSw; (try dsimp only at hSw); go_split_ands; go_simp <;> (try with_reducible rfl))
        try simp only [Act.put, List.setIfInBounds_toArray, List.set_cons_zero, List.set_cons_succ]
        refine wpAnyH_take (i := 19) (v := ?vk0x19) rfl (by kernel_rfl) (by kernel_rfl) (by kernel_rfl) (fun _ _ _ h => h) (Or.inl ⟨by rfl, ?yk0x19⟩) (by assumption) ?rk0x19
        case yk0x19 => (intro w hSw; (try dsimp only at hSw); go_split_ands; go_simp <;> (try with_reducible rfl))
        try simp only [Act.put, List.setIfInBounds_toArray, List.set_cons_zero, List.set_cons_succ]
        refine wpAnyH_ready (rs := [18]) (by kernel_rfl) (by simp) ?_
        refine AllReadyH.cons rfl (fun K hK => ?_) AllReadyH.nil
        go_simp
        refine hK.out _ _ ?_ (fun hHeld => ?_)
        · (try dsimp only); go_keep
        clear hK K
        try simp only [Act.put, List.setIfInBounds_toArray, List.set_cons_zero, List.set_cons_succ]
        refine wpAnyH_take (i := 20) (v := ?vk0x20) rfl (by kernel_rfl) (by kernel_rfl) (by kernel_rfl) (fun _ _ _ h => h) (Or.inl ⟨by rfl, ?yk0x20⟩) (by assumption) ?rk0x20
        case yk0x20 => (intro w hSw; (try dsimp only at hSw); go_split_ands; go_simp <;> (try with_reducible rfl))
        try simp only [Act.put, List.setIfInBounds_toArray, List.set_cons_zero, List.set_cons_succ]
        refine wpAnyH_ready (rs := [21]) (by kernel_rfl) (by simp) ?_
        refine AllReadyH.cons rfl (fun K hK => ?_) AllReadyH.nil
        go_simp
        refine hK.out _ _ ?_ (fun hHeld => ?_)
        · (try dsimp only); go_keep
        clear hK K
        try simp only [Act.put, List.setIfInBounds_toArray, List.set_cons_zero, List.set_cons_succ]
        refine wpAnyH_ready (rs := [22]) (by kernel_rfl) (by simp) ?_
        refine AllReadyH.cons rfl (fun K hK => ?_) AllReadyH.nil
        go_simp
        refine hK.out _ _ ?_ (fun hHeld => ?_)
        · (try dsimp only); go_keep
        clear hK K
        try simp only [Act.put, List.setIfInBounds_toArray, List.set_cons_zero, List.set_cons_succ]
        refine wpAnyH_ready (rs := [23]) (by kernel_rfl) (by simp) ?_
        refine AllReadyH.cons rfl (fun K hK => ?_) AllReadyH.nil
        (refine step_append_i64H (by rfl) _ _ (by rfl) A (.slice (some ⟨g, 0, none⟩) l cg) X [lv] (by simp) (by rfl) 1 _ (by rfl) (by simp) (World.ownsRow.alloc HOV.out _) (by have := HVS.out; simp; omega) (by simp; omega) ?_; intro g3 c3 w3 ho3 hg3 hl3; have HO3 := Lib.hid ho3; have HKP := Lib.hid (HSA.out _ w3 hg3); have HL3 := Lib.hid (HSL.out _ g3 w3 hg3 hl3); clear ho3 hg3 hl3)
        refine hK.out _ _ ?_ (fun hHeld => ?_)
        · (try dsimp only); exact HKP.out
        clear hK K
        try simp only [Act.put, List.setIfInBounds_toArray, List.set_cons_zero, List.set_cons_succ]
        refine wpAnyH_take (i := 24) (v := ?vk0x24) rfl (by kernel_rfl) (by kernel_rfl) (by kernel_rfl) (fun _ _ _ h => h) (Or.inl ⟨by rfl, ?yk0x24⟩) (by assumption) ?rk0x24
        case yk0x24 => (intro w hSw; (try dsimp only at hSw); go_split_ands; go_simp <;> (try with_reducible rfl))
        try simp only [Act.put, List.setIfInBounds_toArray, List.set_cons_zero, List.set_cons_succ]
        refine wpAnyH_done (by kernel_rfl) ?_ _
        go_wp2
        go_roundw
        case rel => exact ⟨g3, c3, k + 1, _, rfl, by go_num, by omega, by have := HXL.out; show _ = _; simp; omega, by show OwnI _ _ _ _; rw [HKS.out, HK0.out]; exact HO3.out, HL3.out.1, HL3.out.2⟩
        case measure => simp [intOf]; omega
      · go_wp2
        refine wp_region_held_drew (S := (fun w' => w'.cell? ⟨gl, k, none⟩ = some (.int .i64 lv) ∧ w'.cell? ⟨gs, k, none⟩ = some (.int .i64 sv) ∧ w'.cell? ⟨bt, 0, none⟩ = some (.int .i64 tm) ∧ w'.cell? ⟨bt, 1, none⟩ = some (.int .i64 nd))) (by kernel_rfl) ?_ (fun hHeld => ?_)
        · (try dsimp only); go_keep
        refine wpAnyH_take (i := 0) (v := ?vk1x0) rfl (by kernel_rfl) (by kernel_rfl) (by kernel_rfl) (fun _ _ _ h => h) (Or.inl ⟨by rfl, ?yk1x0⟩) (by assumption) ?rk1x0
        case yk1x0 => (intro w hSw; (try dsimp only at hSw); go_split_ands; go_simp <;> (try with_reducible rfl))
        try simp only [Act.put, List.setIfInBounds_toArray, List.set_cons_zero, List.set_cons_succ]
        refine wpAnyH_take (i := 1) (v := ?vk1x1) rfl (by kernel_rfl) (by kernel_rfl) (by kernel_rfl) (fun _ _ _ h => h) (Or.inl ⟨by rfl, ?yk1x1⟩) (by assumption) ?rk1x1
        case yk1x1 => (intro w hSw; (try dsimp only at hSw); go_split_ands; go_simp <;> (try with_reducible rfl))
        try simp only [Act.put, List.setIfInBounds_toArray, List.set_cons_zero, List.set_cons_succ]
        refine wpAnyH_take (i := 2) (v := ?vk1x2) rfl (by kernel_rfl) (by kernel_rfl) (by kernel_rfl) (fun _ _ _ h => h) (Or.inl ⟨by rfl, ?yk1x2⟩) (by assumption) ?rk1x2
        case yk1x2 => (intro w hSw; (try dsimp only at hSw); go_split_ands; go_simp <;> (try with_reducible rfl))
        try simp only [Act.put, List.setIfInBounds_toArray, List.set_cons_zero, List.set_cons_succ]
        refine wpAnyH_take (i := 3) (v := ?vk1x3) rfl (by kernel_rfl) (by kernel_rfl) (by kernel_rfl) (fun _ _ _ h => h) (Or.inl ⟨by rfl, ?yk1x3⟩) (by assumption) ?rk1x3
        case yk1x3 => (intro w hSw; (try dsimp only at hSw); go_split_ands; go_simp <;> (try with_reducible rfl))
        try simp only [Act.put, List.setIfInBounds_toArray, List.set_cons_zero, List.set_cons_succ]
        refine wpAnyH_take (i := 4) (v := ?vk1x4) rfl (by kernel_rfl) (by kernel_rfl) (by kernel_rfl) (fun _ _ _ h => h) (Or.inl ⟨by rfl, ?yk1x4⟩) (by assumption) ?rk1x4
        case yk1x4 => (intro w hSw; (try dsimp only at hSw); go_split_ands; go_simp <;> (try with_reducible rfl))
        try simp only [Act.put, List.setIfInBounds_toArray, List.set_cons_zero, List.set_cons_succ]
        refine wpAnyH_take (i := 5) (v := ?vk1x5) rfl (by kernel_rfl) (by kernel_rfl) (by kernel_rfl) (fun _ _ _ h => h) (Or.inl ⟨by rfl, ?yk1x5⟩) (by assumption) ?rk1x5
        case yk1x5 => (intro w hSw; (try dsimp only at hSw); go_split_ands; go_simp <;> (try with_reducible rfl))
        try simp only [Act.put, List.setIfInBounds_toArray, List.set_cons_zero, List.set_cons_succ]
        refine wpAnyH_take (i := 6) (v := ?vk1x6) rfl (by kernel_rfl) (by kernel_rfl) (by kernel_rfl) (fun _ _ _ h => h) (Or.inl ⟨by rfl, ?yk1x6⟩) (by assumption) ?rk1x6
        case yk1x6 => (intro w hSw; (try dsimp only at hSw); go_split_ands; go_simp <;> (try with_reducible rfl))
        try simp only [Act.put, List.setIfInBounds_toArray, List.set_cons_zero, List.set_cons_succ]
        refine wpAnyH_take (i := 7) (v := ?vk1x7) rfl (by kernel_rfl) (by kernel_rfl) (by kernel_rfl) (fun _ _ _ h => h) (Or.inl ⟨by rfl, ?yk1x7⟩) (by assumption) ?rk1x7
        case yk1x7 => (intro w hSw; (try dsimp only at hSw); go_split_ands; go_simp <;> (try with_reducible rfl))
        try simp only [Act.put, List.setIfInBounds_toArray, List.set_cons_zero, List.set_cons_succ]
        refine wpAnyH_take (i := 8) (v := ?vk1x8) rfl (by kernel_rfl) (by kernel_rfl) (by kernel_rfl) (fun _ _ _ h => h) (Or.inl ⟨by rfl, ?yk1x8⟩) (by assumption) ?rk1x8
        case yk1x8 => (intro w hSw; (try dsimp only at hSw); go_split_ands; go_simp <;> (try with_reducible rfl))
        try simp only [Act.put, List.setIfInBounds_toArray, List.set_cons_zero, List.set_cons_succ]
        refine wpAnyH_take (i := 9) (v := ?vk1x9) rfl (by kernel_rfl) (by kernel_rfl) (by kernel_rfl) (fun _ _ _ h => h) (Or.inl ⟨by rfl, ?yk1x9⟩) (by assumption) ?rk1x9
        case yk1x9 => (intro w hSw; (try dsimp only at hSw); go_split_ands; go_simp <;> (try with_reducible rfl))
        try simp only [Act.put, List.setIfInBounds_toArray, List.set_cons_zero, List.set_cons_succ]
        refine wpAnyH_take (i := 10) (v := ?vk1x10) rfl (by kernel_rfl) (by kernel_rfl) (by kernel_rfl) (fun _ _ _ h => h) (Or.inl ⟨by rfl, ?yk1x10⟩) (by assumption) ?rk1x10
        case yk1x10 => (intro w hSw; (try dsimp only at hSw); go_split_ands; go_simp <;> (try with_reducible rfl))
        try simp only [Act.put, List.setIfInBounds_toArray, List.set_cons_zero, List.set_cons_succ]
        refine wpAnyH_take (i := 11) (v := ?vk1x11) rfl (by kernel_rfl) (by kernel_rfl) (by kernel_rfl) (fun _ _ _ h => h) (Or.inl ⟨by rfl, ?yk1x11⟩) (by assumption) ?rk1x11
        case yk1x11 => (intro w hSw; (try dsimp only at hSw); go_split_ands; go_simp <;> (try with_reducible rfl))
        try simp only [Act.put, List.setIfInBounds_toArray, List.set_cons_zero, List.set_cons_succ]
        refine wpAnyH_take (i := 12) (v := ?vk1x12) rfl (by kernel_rfl) (by kernel_rfl) (by kernel_rfl) (fun _ _ _ h => h) (Or.inl ⟨by rfl, ?yk1x12⟩) (by assumption) ?rk1x12
        case yk1x12 => (intro w hSw; (try dsimp only at hSw); go_split_ands; go_simp <;> (try with_reducible rfl))
        try simp only [Act.put, List.setIfInBounds_toArray, List.set_cons_zero, List.set_cons_succ]
        refine wpAnyH_take (i := 13) (v := ?vk1x13) rfl (by kernel_rfl) (by kernel_rfl) (by kernel_rfl) (fun _ _ _ h => h) (Or.inl ⟨by rfl, ?yk1x13⟩) (by assumption) ?rk1x13
        case yk1x13 => (intro w hSw; (try dsimp only at hSw); go_split_ands; go_simp <;> (try with_reducible rfl))
        try simp only [Act.put, List.setIfInBounds_toArray, List.set_cons_zero, List.set_cons_succ]
        refine wpAnyH_take (i := 14) (v := ?vk1x14) rfl (by kernel_rfl) (by kernel_rfl) (by kernel_rfl) (fun _ _ _ h => h) (Or.inl ⟨by rfl, ?yk1x14⟩) (by assumption) ?rk1x14
        case yk1x14 => (intro w hSw; (try dsimp only at hSw); go_split_ands; go_simp <;> (try with_reducible rfl))
        try simp only [Act.put, List.setIfInBounds_toArray, List.set_cons_zero, List.set_cons_succ]
        refine wpAnyH_take (i := 15) (v := ?vk1x15) rfl (by kernel_rfl) (by kernel_rfl) (by kernel_rfl) (fun _ _ _ h => h) (Or.inl ⟨by rfl, ?yk1x15⟩) (by assumption) ?rk1x15
        case yk1x15 => (intro w hSw; (try dsimp only at hSw); go_split_ands; go_simp <;> (try with_reducible rfl))
        try simp only [Act.put, List.setIfInBounds_toArray, List.set_cons_zero, List.set_cons_succ]
        refine wpAnyH_take (i := 16) (v := ?vk1x16) rfl (by kernel_rfl) (by kernel_rfl) (by kernel_rfl) (fun _ _ _ h => h) (Or.inl ⟨by rfl, ?yk1x16⟩) (by assumption) ?rk1x16
        case yk1x16 => (intro w hSw; (try dsimp only at hSw); go_split_ands; go_simp <;> (try with_reducible rfl))
        try simp only [Act.put, List.setIfInBounds_toArray, List.set_cons_zero, List.set_cons_succ]
        refine wpAnyH_take (i := 17) (v := ?vk1x17) rfl (by kernel_rfl) (by kernel_rfl) (by kernel_rfl) (fun _ _ _ h => h) (Or.inl ⟨by rfl, ?yk1x17⟩) (by assumption) ?rk1x17
        case yk1x17 => (intro w hSw; (try dsimp only at hSw); go_split_ands; go_simp <;> (try with_reducible rfl))
        try simp only [Act.put, List.setIfInBounds_toArray, List.set_cons_zero, List.set_cons_succ]
        refine wpAnyH_take (i := 19) (v := ?vk1x19) rfl (by kernel_rfl) (by kernel_rfl) (by kernel_rfl) (fun _ _ _ h => h) (Or.inl ⟨by rfl, ?yk1x19⟩) (by assumption) ?rk1x19
        case yk1x19 => (intro w hSw; (try dsimp only at hSw); go_split_ands; go_simp <;> (try with_reducible rfl))
        try simp only [Act.put, List.setIfInBounds_toArray, List.set_cons_zero, List.set_cons_succ]
        refine wpAnyH_ready (rs := [18]) (by kernel_rfl) (by simp) ?_
        refine AllReadyH.cons rfl (fun K hK => ?_) AllReadyH.nil
        go_simp
        refine hK.out _ _ ?_ (fun hHeld => ?_)
        · (try dsimp only); go_keep
        clear hK K
        try simp only [Act.put, List.setIfInBounds_toArray, List.set_cons_zero, List.set_cons_succ]
        refine wpAnyH_take (i := 20) (v := ?vk1x20) rfl (by kernel_rfl) (by kernel_rfl) (by kernel_rfl) (fun _ _ _ h => h) (Or.inl ⟨by rfl, ?yk1x20⟩) (by assumption) ?rk1x20
        case yk1x20 => (intro w hSw; (try dsimp only at hSw); go_split_ands; go_simp <;> (try with_reducible rfl))
        try simp only [Act.put, List.setIfInBounds_toArray, List.set_cons_zero, List.set_cons_succ]
        refine wpAnyH_ready (rs := [21]) (by kernel_rfl) (by simp) ?_
        refine AllReadyH.cons rfl (fun K hK => ?_) AllReadyH.nil
        go_simp
        refine hK.out _ _ ?_ (fun hHeld => ?_)
        · (try dsimp only); go_keep
        clear hK K
        try simp only [Act.put, List.setIfInBounds_toArray, List.set_cons_zero, List.set_cons_succ]
        refine wpAnyH_ready (rs := [22]) (by kernel_rfl) (by simp) ?_
        refine AllReadyH.cons rfl (fun K hK => ?_) AllReadyH.nil
        go_simp
        refine hK.out _ _ ?_ (fun hHeld => ?_)
        · (try dsimp only); go_keep
        clear hK K
        try simp only [Act.put, List.setIfInBounds_toArray, List.set_cons_zero, List.set_cons_succ]
        refine wpAnyH_ready (rs := [23]) (by kernel_rfl) (by simp) ?_
        refine AllReadyH.cons rfl (fun K hK => ?_) AllReadyH.nil
        (refine step_append_i64H (by rfl) _ _ (by rfl) A (.slice (some ⟨g, 0, none⟩) l cg) X [-tm] (by simp) (by rfl) 1 _ (by rfl) (by simp) (World.ownsRow.alloc HOV.out _) (by have := HVS.out; simp; omega) (by simp; omega) ?_; intro g3 c3 w3 ho3 hg3 hl3; have HO3 := Lib.hid ho3; have HKP := Lib.hid (HSA.out _ w3 hg3); have HL3 := Lib.hid (HSL.out _ g3 w3 hg3 hl3); clear ho3 hg3 hl3)
        refine hK.out _ _ ?_ (fun hHeld => ?_)
        · (try dsimp only); exact HKP.out
        clear hK K
        try simp only [Act.put, List.setIfInBounds_toArray, List.set_cons_zero, List.set_cons_succ]
        refine wpAnyH_take (i := 24) (v := ?vk1x24) rfl (by kernel_rfl) (by kernel_rfl) (by kernel_rfl) (fun _ _ _ h => h) (Or.inl ⟨by rfl, ?yk1x24⟩) (by assumption) ?rk1x24
        case yk1x24 => (intro w hSw; (try dsimp only at hSw); go_split_ands; go_simp <;> (try with_reducible rfl))
        try simp only [Act.put, List.setIfInBounds_toArray, List.set_cons_zero, List.set_cons_succ]
        refine wpAnyH_done (by kernel_rfl) ?_ _
        go_wp2
        go_roundw
        case rel => exact ⟨g3, c3, k + 1, _, rfl, by go_num, by omega, by have := HXL.out; show _ = _; simp; omega, by show OwnI _ _ _ _; rw [HKS.out, HK1.out]; exact HO3.out, HL3.out.1, HL3.out.2⟩
        case measure => simp [intOf]; omega
      · go_wp2
        refine wp_region_held_drew (S := (fun w' => w'.cell? ⟨gl, k, none⟩ = some (.int .i64 lv) ∧ w'.cell? ⟨gs, k, none⟩ = some (.int .i64 sv) ∧ w'.cell? ⟨bt, 0, none⟩ = some (.int .i64 tm) ∧ w'.cell? ⟨bt, 1, none⟩ = some (.int .i64 nd))) (by kernel_rfl) ?_ (fun hHeld => ?_)
        · (try dsimp only); go_keep
        refine wpAnyH_take (i := 0) (v := ?vk2x0) rfl (by kernel_rfl) (by kernel_rfl) (by kernel_rfl) (fun _ _ _ h => h) (Or.inl ⟨by rfl, ?yk2x0⟩) (by assumption) ?rk2x0
        case yk2x0 => (intro w hSw; (try dsimp only at hSw); go_split_ands; go_simp <;> (try with_reducible rfl))
        try simp only [Act.put, List.setIfInBounds_toArray, List.set_cons_zero, List.set_cons_succ]
        refine wpAnyH_take (i := 1) (v := ?vk2x1) rfl (by kernel_rfl) (by kernel_rfl) (by kernel_rfl) (fun _ _ _ h => h) (Or.inl ⟨by rfl, ?yk2x1⟩) (by assumption) ?rk2x1
        case yk2x1 => (intro w hSw; (try dsimp only at hSw); go_split_ands; go_simp <;> (try with_reducible rfl))
        try simp only [Act.put, List.setIfInBounds_toArray, List.set_cons_zero, List.set_cons_succ]
        refine wpAnyH_take (i := 2) (v := ?vk2x2) rfl (by kernel_rfl) (by kernel_rfl) (by kernel_rfl) (fun _ _ _ h => h) (Or.inl ⟨by rfl, ?yk2x2⟩) (by assumption) ?rk2x2
        case yk2x2 => (intro w hSw; (try dsimp only at hSw); go_split_ands; go_simp <;> (try with_reducible rfl))
        try simp only [Act.put, List.setIfInBounds_toArray, List.set_cons_zero, List.set_cons_succ]
        refine wpAnyH_take (i := 3) (v := ?vk2x3) rfl (by kernel_rfl) (by kernel_rfl) (by kernel_rfl) (fun _ _ _ h => h) (Or.inl ⟨by rfl, ?yk2x3⟩) (by assumption) ?rk2x3
        case yk2x3 => (intro w hSw; (try dsimp only at hSw); go_split_ands; go_simp <;> (try with_reducible rfl))
        try simp only [Act.put, List.setIfInBounds_toArray, List.set_cons_zero, List.set_cons_succ]
        refine wpAnyH_take (i := 4) (v := ?vk2x4) rfl (by kernel_rfl) (by kernel_rfl) (by kernel_rfl) (fun _ _ _ h => h) (Or.inl ⟨by rfl, ?yk2x4⟩) (by assumption) ?rk2x4
        case yk2x4 => (intro w hSw; (try dsimp only at hSw); go_split_ands; go_simp <;> (try with_reducible rfl))
        try simp only [Act.put, List.setIfInBounds_toArray, List.set_cons_zero, List.set_cons_succ]
        refine wpAnyH_take (i := 5) (v := ?vk2x5) rfl (by kernel_rfl) (by kernel_rfl) (by kernel_rfl) (fun _ _ _ h => h) (Or.inl ⟨by rfl, ?yk2x5⟩) (by assumption) ?rk2x5
        case yk2x5 => (intro w hSw; (try dsimp only at hSw); go_split_ands; go_simp <;> (try with_reducible rfl))
        try simp only [Act.put, List.setIfInBounds_toArray, List.set_cons_zero, List.set_cons_succ]
        refine wpAnyH_take (i := 6) (v := ?vk2x6) rfl (by kernel_rfl) (by kernel_rfl) (by kernel_rfl) (fun _ _ _ h => h) (Or.inl ⟨by rfl, ?yk2x6⟩) (by assumption) ?rk2x6
        case yk2x6 => (intro w hSw; (try dsimp only at hSw); go_split_ands; go_simp <;> (try with_reducible rfl))
        try simp only [Act.put, List.setIfInBounds_toArray, List.set_cons_zero, List.set_cons_succ]
        refine wpAnyH_take (i := 7) (v := ?vk2x7) rfl (by kernel_rfl) (by kernel_rfl) (by kernel_rfl) (fun _ _ _ h => h) (Or.inl ⟨by rfl, ?yk2x7⟩) (by assumption) ?rk2x7
        case yk2x7 => (intro w hSw; (try dsimp only at hSw); go_split_ands; go_simp <;> (try with_reducible rfl))
        try simp only [Act.put, List.setIfInBounds_toArray, List.set_cons_zero, List.set_cons_succ]
        refine wpAnyH_take (i := 8) (v := ?vk2x8) rfl (by kernel_rfl) (by kernel_rfl) (by kernel_rfl) (fun _ _ _ h => h) (Or.inl ⟨by rfl, ?yk2x8⟩) (by assumption) ?rk2x8
        case yk2x8 => (intro w hSw; (try dsimp only at hSw); go_split_ands; go_simp <;> (try with_reducible rfl))
        try simp only [Act.put, List.setIfInBounds_toArray, List.set_cons_zero, List.set_cons_succ]
        refine wpAnyH_take (i := 9) (v := ?vk2x9) rfl (by kernel_rfl) (by kernel_rfl) (by kernel_rfl) (fun _ _ _ h => h) (Or.inl ⟨by rfl, ?yk2x9⟩) (by assumption) ?rk2x9
        case yk2x9 => (intro w hSw; (try dsimp only at hSw); go_split_ands; go_simp <;> (try with_reducible rfl))
        try simp only [Act.put, List.setIfInBounds_toArray, List.set_cons_zero, List.set_cons_succ]
        refine wpAnyH_take (i := 10) (v := ?vk2x10) rfl (by kernel_rfl) (by kernel_rfl) (by kernel_rfl) (fun _ _ _ h => h) (Or.inl ⟨by rfl, ?yk2x10⟩) (by assumption) ?rk2x10
        case yk2x10 => (intro w hSw; (try dsimp only at hSw); go_split_ands; go_simp <;> (try with_reducible rfl))
        try simp only [Act.put, List.setIfInBounds_toArray, List.set_cons_zero, List.set_cons_succ]
        refine wpAnyH_take (i := 11) (v := ?vk2x11) rfl (by kernel_rfl) (by kernel_rfl) (by kernel_rfl) (fun _ _ _ h => h) (Or.inl ⟨by rfl, ?yk2x11⟩) (by assumption) ?rk2x11
        case yk2x11 => (intro w hSw; (try dsimp only at hSw); go_split_ands; go_simp <;> (try with_reducible rfl))
        try simp only [Act.put, List.setIfInBounds_toArray, List.set_cons_zero, List.set_cons_succ]
        refine wpAnyH_take (i := 12) (v := ?vk2x12) rfl (by kernel_rfl) (by kernel_rfl) (by kernel_rfl) (fun _ _ _ h => h) (Or.inl ⟨by rfl, ?yk2x12⟩) (by assumption) ?rk2x12
        case yk2x12 => (intro w hSw; (try dsimp only at hSw); go_split_ands; go_simp <;> (try with_reducible rfl))
        try simp only [Act.put, List.setIfInBounds_toArray, List.set_cons_zero, List.set_cons_succ]
        refine wpAnyH_take (i := 13) (v := ?vk2x13) rfl (by kernel_rfl) (by kernel_rfl) (by kernel_rfl) (fun _ _ _ h => h) (Or.inl ⟨by rfl, ?yk2x13⟩) (by assumption) ?rk2x13
        case yk2x13 => (intro w hSw; (try dsimp only at hSw); go_split_ands; go_simp <;> (try with_reducible rfl))
        try simp only [Act.put, List.setIfInBounds_toArray, List.set_cons_zero, List.set_cons_succ]
        refine wpAnyH_take (i := 14) (v := ?vk2x14) rfl (by kernel_rfl) (by kernel_rfl) (by kernel_rfl) (fun _ _ _ h => h) (Or.inl ⟨by rfl, ?yk2x14⟩) (by assumption) ?rk2x14
        case yk2x14 => (intro w hSw; (try dsimp only at hSw); go_split_ands; go_simp <;> (try with_reducible rfl))
        try simp only [Act.put, List.setIfInBounds_toArray, List.set_cons_zero, List.set_cons_succ]
        refine wpAnyH_take (i := 15) (v := ?vk2x15) rfl (by kernel_rfl) (by kernel_rfl) (by kernel_rfl) (fun _ _ _ h => h) (Or.inl ⟨by rfl, ?yk2x15⟩) (by assumption) ?rk2x15
        case yk2x15 => (intro w hSw; (try dsimp only at hSw); go_split_ands; go_simp <;> (try with_reducible rfl))
        try simp only [Act.put, List.setIfInBounds_toArray, List.set_cons_zero, List.set_cons_succ]
        refine wpAnyH_take (i := 16) (v := ?vk2x16) rfl (by kernel_rfl) (by kernel_rfl) (by kernel_rfl) (fun _ _ _ h => h) (Or.inl ⟨by rfl, ?yk2x16⟩) (by assumption) ?rk2x16
        case yk2x16 => (intro w hSw; (try dsimp only at hSw); go_split_ands; go_simp <;> (try with_reducible rfl))
        try simp only [Act.put, List.setIfInBounds_toArray, List.set_cons_zero, List.set_cons_succ]
        refine wpAnyH_take (i := 17) (v := ?vk2x17) rfl (by kernel_rfl) (by kernel_rfl) (by kernel_rfl) (fun _ _ _ h => h) (Or.inl ⟨by rfl, ?yk2x17⟩) (by assumption) ?rk2x17
        case yk2x17 => (intro w hSw; (try dsimp only at hSw); go_split_ands; go_simp <;> (try with_reducible rfl))
        try simp only [Act.put, List.setIfInBounds_toArray, List.set_cons_zero, List.set_cons_succ]
        refine wpAnyH_take (i := 19) (v := ?vk2x19) rfl (by kernel_rfl) (by kernel_rfl) (by kernel_rfl) (fun _ _ _ h => h) (Or.inl ⟨by rfl, ?yk2x19⟩) (by assumption) ?rk2x19
        case yk2x19 => (intro w hSw; (try dsimp only at hSw); go_split_ands; go_simp <;> (try with_reducible rfl))
        try simp only [Act.put, List.setIfInBounds_toArray, List.set_cons_zero, List.set_cons_succ]
        refine wpAnyH_ready (rs := [18]) (by kernel_rfl) (by simp) ?_
        refine AllReadyH.cons rfl (fun K hK => ?_) AllReadyH.nil
        go_simp
        refine hK.out _ _ ?_ (fun hHeld => ?_)
        · (try dsimp only); go_keep
        clear hK K
        try simp only [Act.put, List.setIfInBounds_toArray, List.set_cons_zero, List.set_cons_succ]
        refine wpAnyH_take (i := 20) (v := ?vk2x20) rfl (by kernel_rfl) (by kernel_rfl) (by kernel_rfl) (fun _ _ _ h => h) (Or.inl ⟨by rfl, ?yk2x20⟩) (by assumption) ?rk2x20
        case yk2x20 => (intro w hSw; (try dsimp only at hSw); go_split_ands; go_simp <;> (try with_reducible rfl))
        try simp only [Act.put, List.setIfInBounds_toArray, List.set_cons_zero, List.set_cons_succ]
        refine wpAnyH_ready (rs := [21]) (by kernel_rfl) (by simp) ?_
        refine AllReadyH.cons rfl (fun K hK => ?_) AllReadyH.nil
        go_simp
        refine hK.out _ _ ?_ (fun hHeld => ?_)
        · (try dsimp only); go_keep
        clear hK K
        try simp only [Act.put, List.setIfInBounds_toArray, List.set_cons_zero, List.set_cons_succ]
        refine wpAnyH_ready (rs := [22]) (by kernel_rfl) (by simp) ?_
        refine AllReadyH.cons rfl (fun K hK => ?_) AllReadyH.nil
        go_simp
        refine hK.out _ _ ?_ (fun hHeld => ?_)
        · (try dsimp only); go_keep
        clear hK K
        try simp only [Act.put, List.setIfInBounds_toArray, List.set_cons_zero, List.set_cons_succ]
        refine wpAnyH_ready (rs := [23]) (by kernel_rfl) (by simp) ?_
        refine AllReadyH.cons rfl (fun K hK => ?_) AllReadyH.nil
        (refine step_append_i64H (by rfl) _ _ (by rfl) A (.slice (some ⟨g, 0, none⟩) l cg) X [sv] (by simp) (by rfl) 1 _ (by rfl) (by simp) (World.ownsRow.alloc HOV.out _) (by have := HVS.out; simp; omega) (by simp; omega) ?_; intro g3 c3 w3 ho3 hg3 hl3; have HO3 := Lib.hid ho3; have HKP := Lib.hid (HSA.out _ w3 hg3); have HL3 := Lib.hid (HSL.out _ g3 w3 hg3 hl3); clear ho3 hg3 hl3)
        refine hK.out _ _ ?_ (fun hHeld => ?_)
        · (try dsimp only); exact HKP.out
        clear hK K
        try simp only [Act.put, List.setIfInBounds_toArray, List.set_cons_zero, List.set_cons_succ]
        refine wpAnyH_take (i := 24) (v := ?vk2x24) rfl (by kernel_rfl) (by kernel_rfl) (by kernel_rfl) (fun _ _ _ h => h) (Or.inl ⟨by rfl, ?yk2x24⟩) (by assumption) ?rk2x24
        case yk2x24 => (intro w hSw; (try dsimp only at hSw); go_split_ands; go_simp <;> (try with_reducible rfl))
        try simp only [Act.put, List.setIfInBounds_toArray, List.set_cons_zero, List.set_cons_succ]
        refine wpAnyH_done (by kernel_rfl) ?_ _
        go_wp2
        go_roundw
        case rel => exact ⟨g3, c3, k + 1, _, rfl, by go_num, by omega, by have := HXL.out; show _ = _; simp; omega, by show OwnI _ _ _ _; rw [HKS.out, HK2.out]; exact HO3.out, HL3.out.1, HL3.out.2⟩
        case measure => simp [intOf]; omega
      · go_wp2
        refine wp_region_held_drew (S := (fun w' => w'.cell? ⟨gl, k, none⟩ = some (.int .i64 lv) ∧ w'.cell? ⟨gs, k, none⟩ = some (.int .i64 sv) ∧ w'.cell? ⟨bt, 0, none⟩ = some (.int .i64 tm) ∧ w'.cell? ⟨bt, 1, none⟩ = some (.int .i64 nd))) (by kernel_rfl) ?_ (fun hHeld => ?_)
        · (try dsimp only); go_keep
        refine wpAnyH_take (i := 0) (v := ?vk3x0) rfl (by kernel_rfl) (by kernel_rfl) (by kernel_rfl) (fun _ _ _ h => h) (Or.inl ⟨by rfl, ?yk3x0⟩) (by assumption) ?rk3x0
        case yk3x0 => (intro w hSw; (try dsimp only at hSw); go_split_ands; go_simp <;> (try with_reducible rfl))
        try simp only [Act.put, List.setIfInBounds_toArray, List.set_cons_zero, List.set_cons_succ]
        refine wpAnyH_take (i := 1) (v := ?vk3x1) rfl (by kernel_rfl) (by kernel_rfl) (by kernel_rfl) (fun _ _ _ h => h) (Or.inl ⟨by rfl, ?yk3x1⟩) (by assumption) ?rk3x1
        case yk3x1 => (intro w hSw; (try dsimp only at hSw); go_split_ands; go_simp <;> (try with_reducible rfl))
        try simp only [Act.put, List.setIfInBounds_toArray, List.set_cons_zero, List.set_cons_succ]
        refine wpAnyH_take (i := 2) (v := ?vk3x2) rfl (by kernel_rfl) (by kernel_rfl) (by kernel_rfl) (fun _ _ _ h => h) (Or.inl ⟨by rfl, ?yk3x2⟩) (by assumption) ?rk3x2
        case yk3x2 => (intro w hSw; (try dsimp only at hSw); go_split_ands; go_simp <;> (try with_reducible rfl))
        try simp only [Act.put, List.setIfInBounds_toArray, List.set_cons_zero, List.set_cons_succ]
        refine wpAnyH_take (i := 3) (v := ?vk3x3) rfl (by kernel_rfl) (by kernel_rfl) (by kernel_rfl) (fun _ _ _ h => h) (Or.inl ⟨by rfl, ?yk3x3⟩) (by assumption) ?rk3x3
        case yk3x3 => (intro w hSw; (try dsimp only at hSw); go_split_ands; go_simp <;> (try with_reducible rfl))
        try simp only [Act.put, List.setIfInBounds_toArray, List.set_cons_zero, List.set_cons_succ]
        refine wpAnyH_take (i := 4) (v := ?vk3x4) rfl (by kernel_rfl) (by kernel_rfl) (by kernel_rfl) (fun _ _ _ h => h) (Or.inl ⟨by rfl, ?yk3x4⟩) (by assumption) ?rk3x4
        case yk3x4 => (intro w hSw; (try dsimp only at hSw); go_split_ands; go_simp <;> (try with_reducible rfl))
        try simp only [Act.put, List.setIfInBounds_toArray, List.set_cons_zero, List.set_cons_succ]
        refine wpAnyH_take (i := 5) (v := ?vk3x5) rfl (by kernel_rfl) (by kernel_rfl) (by kernel_rfl) (fun _ _ _ h => h) (Or.inl ⟨by rfl, ?yk3x5⟩) (by assumption) ?rk3x5
        case yk3x5 => (intro w hSw; (try dsimp only at hSw); go_split_ands; go_simp <;> (try with_reducible rfl))
        try simp only [Act.put, List.setIfInBounds_toArray, List.set_cons_zero, List.set_cons_succ]
        refine wpAnyH_take (i := 6) (v := ?vk3x6) rfl (by kernel_rfl) (by kernel_rfl) (by kernel_rfl) (fun _ _ _ h => h) (Or.inl ⟨by rfl, ?yk3x6⟩) (by assumption) ?rk3x6
        case yk3x6 => (intro w hSw; (try dsimp only at hSw); go_split_ands; go_simp <;> (try with_reducible rfl))
        try simp only [Act.put, List.setIfInBounds_toArray, List.set_cons_zero, List.set_cons_succ]
        refine wpAnyH_take (i := 7) (v := ?vk3x7) rfl (by kernel_rfl) (by kernel_rfl) (by kernel_rfl) (fun _ _ _ h => h) (Or.inl ⟨by rfl, ?yk3x7⟩) (by assumption) ?rk3x7
        case yk3x7 => (intro w hSw; (try dsimp only at hSw); go_split_ands; go_simp <;> (try with_reducible rfl))
        try simp only [Act.put, List.setIfInBounds_toArray, List.set_cons_zero, List.set_cons_succ]
        refine wpAnyH_take (i := 8) (v := ?vk3x8) rfl (by kernel_rfl) (by kernel_rfl) (by kernel_rfl) (fun _ _ _ h => h) (Or.inl ⟨by rfl, ?yk3x8⟩) (by assumption) ?rk3x8
        case yk3x8 => (intro w hSw; (try dsimp only at hSw); go_split_ands; go_simp <;> (try with_reducible rfl))
        try simp only [Act.put, List.setIfInBounds_toArray, List.set_cons_zero, List.set_cons_succ]
        refine wpAnyH_take (i := 9) (v := ?vk3x9) rfl (by kernel_rfl) (by kernel_rfl) (by kernel_rfl) (fun _ _ _ h => h) (Or.inl ⟨by rfl, ?yk3x9⟩) (by assumption) ?rk3x9
        case yk3x9 => (intro w hSw; (try dsimp only at hSw); go_split_ands; go_simp <;> (try with_reducible rfl))
        try simp only [Act.put, List.setIfInBounds_toArray, List.set_cons_zero, List.set_cons_succ]
        refine wpAnyH_take (i := 10) (v := ?vk3x10) rfl (by kernel_rfl) (by kernel_rfl) (by kernel_rfl) (fun _ _ _ h => h) (Or.inl ⟨by rfl, ?yk3x10⟩) (by assumption) ?rk3x10
        case yk3x10 => (intro w hSw; (try dsimp only at hSw); go_split_ands; go_simp <;> (try with_reducible rfl))
        try simp only [Act.put, List.setIfInBounds_toArray, List.set_cons_zero, List.set_cons_succ]
        refine wpAnyH_take (i := 11) (v := ?vk3x11) rfl (by kernel_rfl) (by kernel_rfl) (by kernel_rfl) (fun _ _ _ h => h) (Or.inl ⟨by rfl, ?yk3x11⟩) (by assumption) ?rk3x11
        case yk3x11 => (intro w hSw; (try dsimp only at hSw); go_split_ands; go_simp <;> (try with_reducible rfl))
        try simp only [Act.put, List.setIfInBounds_toArray, List.set_cons_zero, List.set_cons_succ]
        refine wpAnyH_take (i := 12) (v := ?vk3x12) rfl (by kernel_rfl) (by kernel_rfl) (by kernel_rfl) (fun _ _ _ h => h) (Or.inl ⟨by rfl, ?yk3x12⟩) (by assumption) ?rk3x12
        case yk3x12 => (intro w hSw; (try dsimp only at hSw); go_split_ands; go_simp <;> (try with_reducible rfl))
        try simp only [Act.put, List.setIfInBounds_toArray, List.set_cons_zero, List.set_cons_succ]
        refine wpAnyH_take (i := 13) (v := ?vk3x13) rfl (by kernel_rfl) (by kernel_rfl) (by kernel_rfl) (fun _ _ _ h => h) (Or.inl ⟨by rfl, ?yk3x13⟩) (by assumption) ?rk3x13
        case yk3x13 => (intro w hSw; (try dsimp only at hSw); go_split_ands; go_simp <;> (try with_reducible rfl))
        try simp only [Act.put, List.setIfInBounds_toArray, List.set_cons_zero, List.set_cons_succ]
        refine wpAnyH_take (i := 14) (v := ?vk3x14) rfl (by kernel_rfl) (by kernel_rfl) (by kernel_rfl) (fun _ _ _ h => h) (Or.inl ⟨by rfl, ?yk3x14⟩) (by assumption) ?rk3x14
        case yk3x14 => (intro w hSw; (try dsimp only at hSw); go_split_ands; go_simp <;> (try with_reducible rfl))
        try simp only [Act.put, List.setIfInBounds_toArray, List.set_cons_zero, List.set_cons_succ]
        refine wpAnyH_take (i := 15) (v := ?vk3x15) rfl (by kernel_rfl) (by kernel_rfl) (by kernel_rfl) (fun _ _ _ h => h) (Or.inl ⟨by rfl, ?yk3x15⟩) (by assumption) ?rk3x15
        case yk3x15 => (intro w hSw; (try dsimp only at hSw); go_split_ands; go_simp <;> (try with_reducible rfl))
        try simp only [Act.put, List.setIfInBounds_toArray, List.set_cons_zero, List.set_cons_succ]
        refine wpAnyH_take (i := 16) (v := ?vk3x16) rfl (by kernel_rfl) (by kernel_rfl) (by kernel_rfl) (fun _ _ _ h => h) (Or.inl ⟨by rfl, ?yk3x16⟩) (by assumption) ?rk3x16
        case yk3x16 => (intro w hSw; (try dsimp only at hSw); go_split_ands; go_simp <;> (try with_reducible rfl))
        try simp only [Act.put, List.setIfInBounds_toArray, List.set_cons_zero, List.set_cons_succ]
        refine wpAnyH_take (i := 17) (v := ?vk3x17) rfl (by kernel_rfl) (by kernel_rfl) (by kernel_rfl) (fun _ _ _ h => h) (Or.inl ⟨by rfl, ?yk3x17⟩) (by assumption) ?rk3x17
        case yk3x17 => (intro w hSw; (try dsimp only at hSw); go_split_ands; go_simp <;> (try with_reducible rfl))
        try simp only [Act.put, List.setIfInBounds_toArray, List.set_cons_zero, List.set_cons_succ]
        refine wpAnyH_take (i := 19) (v := ?vk3x19) rfl (by kernel_rfl) (by kernel_rfl) (by kernel_rfl) (fun _ _ _ h => h) (Or.inl ⟨by rfl, ?yk3x19⟩) (by assumption) ?rk3x19
        case yk3x19 => (intro w hSw; (try dsimp only at hSw); go_split_ands; go_simp <;> (try with_reducible rfl))
        try simp only [Act.put, List.setIfInBounds_toArray, List.set_cons_zero, List.set_cons_succ]
        refine wpAnyH_ready (rs := [18]) (by kernel_rfl) (by simp) ?_
        refine AllReadyH.cons rfl (fun K hK => ?_) AllReadyH.nil
        go_simp
        refine hK.out _ _ ?_ (fun hHeld => ?_)
        · (try dsimp only); go_keep
        clear hK K
        try simp only [Act.put, List.setIfInBounds_toArray, List.set_cons_zero, List.set_cons_succ]
        refine wpAnyH_take (i := 20) (v := ?vk3x20) rfl (by kernel_rfl) (by kernel_rfl) (by kernel_rfl) (fun _ _ _ h => h) (Or.inl ⟨by rfl, ?yk3x20⟩) (by assumption) ?rk3x20
        case yk3x20 => (intro w hSw; (try dsimp only at hSw); go_split_ands; go_simp <;> (try with_reducible rfl))
        try simp only [Act.put, List.setIfInBounds_toArray, List.set_cons_zero, List.set_cons_succ]
        refine wpAnyH_ready (rs := [21]) (by kernel_rfl) (by simp) ?_
        refine AllReadyH.cons rfl (fun K hK => ?_) AllReadyH.nil
        go_simp
        refine hK.out _ _ ?_ (fun hHeld => ?_)
        · (try dsimp only); go_keep
        clear hK K
        try simp only [Act.put, List.setIfInBounds_toArray, List.set_cons_zero, List.set_cons_succ]
        refine wpAnyH_ready (rs := [22]) (by kernel_rfl) (by simp) ?_
        refine AllReadyH.cons rfl (fun K hK => ?_) AllReadyH.nil
        go_simp
        refine hK.out _ _ ?_ (fun hHeld => ?_)
        · (try dsimp only); go_keep
        clear hK K
        try simp only [Act.put, List.setIfInBounds_toArray, List.set_cons_zero, List.set_cons_succ]
        refine wpAnyH_ready (rs := [23]) (by kernel_rfl) (by simp) ?_
        refine AllReadyH.cons rfl (fun K hK => ?_) AllReadyH.nil
        (refine step_append_i64H (by rfl) _ _ (by rfl) A (.slice (some ⟨g, 0, none⟩) l cg) X [-tm * nd] (by simp) (by rfl) 1 _ (by rfl) (by simp) (World.ownsRow.alloc HOV.out _) (by have := HVS.out; simp; omega) (by simp; omega) ?_; intro g3 c3 w3 ho3 hg3 hl3; have HO3 := Lib.hid ho3; have HKP := Lib.hid (HSA.out _ w3 hg3); have HL3 := Lib.hid (HSL.out _ g3 w3 hg3 hl3); clear ho3 hg3 hl3)
        refine hK.out _ _ ?_ (fun hHeld => ?_)
        · (try dsimp only); exact HKP.out
        clear hK K
        try simp only [Act.put, List.setIfInBounds_toArray, List.set_cons_zero, List.set_cons_succ]
        refine wpAnyH_take (i := 24) (v := ?vk3x24) rfl (by kernel_rfl) (by kernel_rfl) (by kernel_rfl) (fun _ _ _ h => h) (Or.inl ⟨by rfl, ?yk3x24⟩) (by assumption) ?rk3x24
        case yk3x24 => (intro w hSw; (try dsimp only at hSw); go_split_ands; go_simp <;> (try with_reducible rfl))
        try simp only [Act.put, List.setIfInBounds_toArray, List.set_cons_zero, List.set_cons_succ]
        refine wpAnyH_done (by kernel_rfl) ?_ _
        go_wp2
        go_roundw
        case rel => exact ⟨g3, c3, k + 1, _, rfl, by go_num, by omega, by have := HXL.out; show _ = _; simp; omega, by show OwnI _ _ _ _; rw [HKS.out, HK3.out]; exact HO3.out, HL3.out.1, HL3.out.2⟩
        case measure => simp [intOf]; omega
    · have k1 : ¬ (k : Int) < (T : Int) := by omega
      have HKT : Hid (k = T) := by show _ = _; omega
      obtain rfl : T = l := by have := HLK.out; have := HKT.out; omega
      have HOK : Hid (OwnI wr A (.slice (some ⟨g, 0, none⟩) T cg) (keysL ts kind T)) := by have h := HO.out; rw [HKT.out] at h; exact h
      have hgA := (HO.out.lt g rfl)
      have HKL : Hid ((keysL ts kind T).length = T) := keysL_len ts kind T
      have HKA : Hid (∀ i, i < T → nth (keysL ts kind T) i = keyR ts kind (i : Int)) := fun i hi => keysL_at hi
      clear HO hkT
      obtain ⟨X, hX⟩ : ∃ X, wr.heap.size = X := ⟨_, rfl⟩
      obtain ⟨W5, hW5⟩ : ∃ W, (wr.alloc (.cells #[] 2)).alloc (.cells #[.slice (some ⟨X, 0, none⟩) 0 0] 27) = W := ⟨_, rfl⟩
      have hb5 : Below X wr W5 := by rw [← hW5, ← hX]; exact ((Below.refl _ wr).alloc (Nat.le_refl _) _).alloc (by simp) _
      have HZ5 : Hid (W5.heap.size = X + 2) := by show _ = _; rw [← hW5, ← hX]; simp
      have HXA : Hid (w.heap.size ≤ X ∧ g < X ∧ A ≤ g) := ⟨by have := HBr.out.size; omega, by omega, hgA.1⟩
      have HB5 : Hid (Below w.heap.size w W5) := HBr.out.trans (hb5.mono HXA.out.1)
      have HX5 : Hid (Boxed W5 (X + 1) 27 (.slice (some ⟨X, 0, none⟩) 0 0)) := by
        have h := Boxed.new (wr.alloc (.cells #[] 2)) 27 (.slice (some ⟨X, 0, none⟩) 0 0)
        rw [hW5] at h
        have e : (wr.alloc (.cells #[] 2)).heap.size = X + 1 := by simp [hX]
        rw [e] at h; exact h
      have HO5 : Hid (OwnI W5 X (.slice (some ⟨X, 0, none⟩) 0 0) []) := by
        have h := OwnI.lit wr X [] (by omega) (Nat.zero_le _)
        rw [hX] at h
        rw [← hW5]; exact World.ownsRow.alloc h _
      have HK5 : Hid (OwnI W5 A (.slice (some ⟨g, 0, none⟩) T cg) (keysL ts kind T)) := HOK.out.below hb5 (by omega)
      have HKC : Hid (∀ W, GrownL [X, X + 1] W5 W → ∀ i, i < T → W.cell? ⟨g, i, none⟩ = some (.int .i64 (keyR ts kind (i : Int)))) := fun W hW i hi => by
        rw [← HKA.out i hi]
        exact (hW.cell (p := ⟨g, i, none⟩) (by have := HXA.out; have := HZ5.out; show g < _; omega) (by have := HXA.out; show g ∉ _; simp; omega)).trans (HK5.out.at_ HKL.out.symm i (by rw [HKL.out]; exact hi))
      have HR1 : Hid (OutIR ts (keyR ts kind) T X W5 W5) := ⟨X, 0, 0, 0, Nat.zero_le _, rfl, HX5.out, HO5.out, .inl rfl, GrownL.refl _ _⟩
      clear hb5 hgA HO5 HOK HX5
      go_wp2
      clear hW5 hX
      go_loopw [] (fun wi => OutIR ts (keyR ts kind) T X W5 wi) (fun wi => T - usedLen (X + 1) wi)
      case atStart => exact HR1.out
      case round =>
        obtain ⟨g2, c2, m, l2, hm, HL2, HX, HO, HGX, HG⟩ := hrel
        clear HR1
        obtain rfl : m = l2 := HL2.out.symm
        obtain ⟨W6, rfl⟩ : ∃ W : World, W = wr := ⟨_, rfl⟩
        have hbx := HX.out.cell
        have hfx := HX.out.frozen
        have HEL : Hid ((ruleTo ts (keyR ts kind) m).length = m) := HRL.out m
        have HBw : Hid (Below w.heap.size w W6) := HG.out.toBelow HB5.out HB5.out.size (fun i hi => by have := HXA.out; simp; omega)
        have HZw : Hid (X + 2 ≤ W6.heap.size) := by have := HG.out.size; have := HZ5.out; show _ ≤ _; omega
        by_cases hmT : m < T
        · have m1 : (m : Int) < (T : Int) := by omega
          have HPK := Lib.hid ((HRI.out m (by omega)).pick (key := keyR ts kind) HSM.out (by rw [HT.out]; exact hmT))
          rw [HT.out] at HPK
          have HNX := Lib.hid (HRS.out m)
          obtain ⟨E, hE⟩ : ∃ E, ruleTo ts (keyR ts kind) m = E := ⟨_, rfl⟩
          rw [hE] at HO HEL HPK HNX
          clear hE
          have HP0 : Hid (PikIR ts (keyR ts kind) T E W6 (.int .i64 (-1)) (.int .i64 0) W6) := ⟨0, -1, rfl, rfl, Nat.zero_le _, rfl, Below.refl _ _⟩
          have HEC : Hid (∀ W, Below W6.heap.size W6 W → ∀ k, k < E.length → ∃ b o, (some ⟨g2, 0, none⟩ : Option Addr) = some ⟨b, o, none⟩ ∧ W.cell? ⟨b, o + k, none⟩ = some (.int .i64 (nth E k))) := fun W hW k hk =>
            ⟨g2, 0, rfl, by rw [Nat.zero_add]; exact (HO.out.below hW (Nat.le_refl _)).at_ HEL.out.symm k hk⟩
          go_wp2
          go_loopw [14, 69] (fun vb vi wi => PikIR ts (keyR ts kind) T E W6 vb vi wi) (fun _ vi _ => T - (intOf vi).toNat)
          case atStart => exact HP0.out
          case round =>
            obtain ⟨j, P, rfl, rfl, hj, HP, HB⟩ := hrel
            clear HP0
            by_cases hjT : j < T
            · have j0 : (0 : Int) ≤ (j : Int) := by omega
              have j1 : (j : Int) < (T : Int) := by omega
              have hs := HSRC.out j hjT
              have HBi : Hid (Below w.heap.size w wr) := HBw.out.trans (HB.out.mono HBw.out.size)
              have t0 : wr.cell? ⟨b, o + j * 4, none⟩ = some (.int .i64 (timeN ts j)) := (HBi.out.cell (p := ⟨b, o + j * 4, none⟩) hbw).trans hs.c0
              have t1 : wr.cell? ⟨b, o + j * 4 + 1, none⟩ = some (.int .i64 (needN ts j)) := (HBi.out.cell (p := ⟨b, o + j * 4 + 1, none⟩) hbw).trans hs.c1
              have t2 : wr.cell? ⟨b, o + j * 4 + 2, none⟩ = some (VB j) := (HBi.out.cell (p := ⟨b, o + j * 4 + 2, none⟩) hbw).trans hs.c2
              have t3 : wr.cell? ⟨b, o + j * 4 + 3, none⟩ = some (VL j) := (HBi.out.cell (p := ⟨b, o + j * 4 + 3, none⟩) hbw).trans hs.c3
              have hbl := HSM.out.blen j (by rw [HT.out]; exact hjT)
              obtain ⟨aB, cB, hvb, _, hBV⟩ := (hs.bef.ints.1).view
              obtain ⟨_, aL, cL, hvl, _⟩ := hs.lag.ints.1
              obtain ⟨tm, htm'⟩ : ∃ x, timeN ts j = x := ⟨_, rfl⟩
              obtain ⟨nd, hnd'⟩ : ∃ x, needN ts j = x := ⟨_, rfl⟩
              obtain ⟨bs, hbs⟩ : ∃ x, befN ts j = x := ⟨_, rfl⟩
              have HBS : Hid (befN ts j = bs) := hbs
              have HBV : Hid (∀ W, Below w.heap.size w W → ∀ q, q < bs.length → ∃ b' o', aB = some ⟨b', o', none⟩ ∧ W.cell? ⟨b', o' + q, none⟩ = some (.int .i64 (nth bs q))) := fun W hW q hq => by rw [← hbs] at hq ⊢; exact hBV W hW q hq
              obtain ⟨nB, hnB⟩ : ∃ n, bs.length = n := ⟨_, rfl⟩
              obtain ⟨nL, hnL⟩ : ∃ n, (lagN ts j).length = n := ⟨_, rfl⟩
              rw [hbs, hnB] at hvb
              rw [hnL] at hvl
              rw [htm'] at t0
              rw [hnd'] at t1
              rw [hvb] at t2
              rw [hvl] at t3
              rw [hbs, hnB] at hbl
              obtain ⟨V, hV⟩ : ∃ V, wr.alloc (.cells #[.int .i64 tm, .int .i64 nd, .slice aB nB cB, .slice aL nL cL] 40) = V := ⟨_, rfl⟩
              have hbv : Below wr.heap.size wr V := by rw [← hV]; exact (Below.refl _ wr).alloc (Nat.le_refl _) _
              have HBV6 : Hid (Below W6.heap.size W6 V) := HB.out.trans (hbv.mono HB.out.size)
              have HBVw : Hid (Below w.heap.size w V) := HBi.out.trans (hbv.mono HBi.out.size)
              obtain ⟨bt, hbt⟩ : ∃ bt, wr.heap.size = bt := ⟨_, rfl⟩
              have HVT : Hid (V.cell? ⟨bt, 2, none⟩ = some (.slice aB nB cB)) := by show _ = _; rw [← hV, ← hbt]; simp
              have HXV : Hid (Boxed V (X + 1) 27 (.slice (some ⟨g2, 0, none⟩) m c2)) := (HBV6.out.block (X + 1) (by have := HZw.out; omega)).trans HX.out
              have HCN : Hid (Calls Try.prog 118 #[.slice (some ⟨g2, 0, none⟩) m c2, .int .i64 j] V fun e w' => e = .returned (.bool (E.contains (j : Int))) ∧ w' = V) := by
                have h := contains_any (some ⟨g2, 0, none⟩) c2 E j V (by have := HEL.out; omega) (HEC.out V HBV6.out)
                rw [HEL.out] at h; exact h
              have HCF : Hid (Calls Try.prog 69 #[.slice aB nB cB, .func (.func 119) #[] #[.pointer (some ⟨X + 1, 0, none⟩)]] V fun e w' => e = .returned (.bool (bs.any fun x => !(E.contains x))) ∧ ∃ q, w' = V.drewN q) := by
                have h := containsF_any aB cB bs 119 #[.pointer (some ⟨X + 1, 0, none⟩)] (fun x => !(E.contains x)) V (by omega) (HBV.out V HBVw.out) (fun k hk q => by
                  have h := ruleTest_any (X + 1) (some ⟨g2, 0, none⟩) c2 E (nth bs k) (V.drewN q) (by have := HEL.out; omega) (by rw [HEL.out]; exact HXV.out) (HEC.out _ (below_drewN q HBV6.out))
                  exact h) (enters_of Try.func119 (by kernel_rfl) rfl)
                rw [hnB] at h; exact h
              have HFB : Hid (freeB ts E j = (!(E.contains (j : Int)) && !(bs.any fun x => !(E.contains x)))) := by show _ = _; rw [freeB_two, HBS.out]
              have HPN : Hid (pickK (freeB ts E) (keyR ts kind) (j + 1) = if freeB ts E j = true ∧ (P < 0 ∨ keyR ts kind (j : Int) < keyR ts kind P) then (j : Int) else P) := by show _ = _; rw [HP.out]; rfl
              have hxc := HXV.out.cell
              have hvt := HVT.out
              clear htm' hnd' hbs hnB hnL hvb hvl hs hBV hbv
              have HKV : Hid (∀ i, i < T → V.cell? ⟨g, i, none⟩ = some (.int .i64 (keyR ts kind (i : Int)))) := fun i hi => HKC.out V (HG.out.below HBV6.out HG.out.size) i hi
              have HPB : Hid (P < 0 ∨ 0 ≤ P ∧ P < (j : Int)) := by
                have h := pickK_spec (freeB ts E) (keyR ts kind) j
                rw [← HP.out] at h
                rcases h with ⟨h, _⟩ | ⟨h1, h2, _⟩
                · exact .inl (by omega)
                · exact .inr ⟨h1, h2⟩
              cases hc : E.contains (j : Int)
              · rw [hc] at HCN
                cases ha : (bs.any fun x => !(E.contains x))
                · rw [ha] at HCF
                  have HPN2 : Hid (pickK (freeB ts E) (keyR ts kind) (j + 1) = if P < 0 ∨ keyR ts kind (j : Int) < keyR ts kind P then (j : Int) else P) := by
                    show _ = _
                    rw [HPN.out, HFB.out, hc, ha]
                    simp
                  have kc := HKV.out j hjT
                  clear hc ha HPN HFB
                  by_cases hP0 : P < 0
                  · have HN3 : Hid (pickK (freeB ts E) (keyR ts kind) (j + 1) = (j : Int)) := by show _ = _; rw [HPN2.out, if_pos (.inl hP0)]
                    go_wp2_with fail
                    refine HCN.out.mono ?_
                    rintro e w7 ⟨rfl, h7⟩
                    rw [h7]
                    clear h7
                    go_wp2_with fail
                    refine HCF.out.mono ?_
                    rintro e w8 ⟨rfl, q8, rfl⟩
                    go_wp2
                    go_quiet (fail)
                    go_wp2
                    go_roundw
                    case rel => exact ⟨j + 1, (j : Int), rfl, by go_num, by omega, HN3.out.symm, below_drewN _ HBV6.out⟩
                    case measure => simp [intOf]; omega
                  · obtain ⟨p, rfl⟩ : ∃ p : Nat, P = p := ⟨P.toNat, by omega⟩
                    have hpT : p < T := by have := HPB.out; omega
                    have p0 : (0 : Int) ≤ (p : Int) := by omega
                    have p1 : (p : Int) < (T : Int) := by omega
                    have kp := HKV.out p hpT
                    obtain ⟨kj, hkj⟩ : ∃ x, keyR ts kind (j : Int) = x := ⟨_, rfl⟩
                    obtain ⟨kq, hkq⟩ : ∃ x, keyR ts kind (p : Int) = x := ⟨_, rfl⟩
                    rw [hkj] at kc HPN2
                    rw [hkq] at kp HPN2
                    clear hkj hkq
                    by_cases hlt : kj < kq
                    · have HN3 : Hid (pickK (freeB ts E) (keyR ts kind) (j + 1) = (j : Int)) := by show _ = _; rw [HPN2.out, if_pos (.inr hlt)]
                      go_wp2_with fail
                      refine HCN.out.mono ?_
                      rintro e w7 ⟨rfl, h7⟩
                      rw [h7]
                      clear h7
                      go_wp2_with fail
                      refine HCF.out.mono ?_
                      rintro e w8 ⟨rfl, q8, rfl⟩
                      go_wp2
                      go_quiet (fail)
                      go_wp2
                      go_roundw
                      case rel => exact ⟨j + 1, (j : Int), rfl, by go_num, by omega, HN3.out.symm, below_drewN _ HBV6.out⟩
                      case measure => simp [intOf]; omega
                    · have HN3 : Hid (pickK (freeB ts E) (keyR ts kind) (j + 1) = (p : Int)) := by show _ = _; rw [HPN2.out, if_neg (by rintro (h | h); exact hP0 h; exact hlt h)]
                      go_wp2_with fail
                      refine HCN.out.mono ?_
                      rintro e w7 ⟨rfl, h7⟩
                      rw [h7]
                      clear h7
                      go_wp2_with fail
                      refine HCF.out.mono ?_
                      rintro e w8 ⟨rfl, q8, rfl⟩
                      go_wp2
                      go_quiet (fail)
                      go_wp2
                      go_roundw
                      case rel => exact ⟨j + 1, (p : Int), rfl, by go_num, by omega, HN3.out.symm, below_drewN _ HBV6.out⟩
                      case measure => simp [intOf]; omega
                · rw [ha] at HCF
                  have HN3 : Hid (pickK (freeB ts E) (keyR ts kind) (j + 1) = P) := by
                    show _ = _
                    rw [HPN.out, HFB.out, hc, ha]
                    simp
                  clear hc ha HPN HFB
                  go_wp2_with fail
                  refine HCN.out.mono ?_
                  rintro e w7 ⟨rfl, h7⟩
                  rw [h7]
                  clear h7
                  go_wp2_with fail
                  refine HCF.out.mono ?_
                  rintro e w8 ⟨rfl, q8, rfl⟩
                  go_wp2
                  go_roundw
                  case rel => exact ⟨j + 1, P, rfl, by go_num, by omega, HN3.out.symm, below_drewN _ HBV6.out⟩
                  case measure => simp [intOf]; omega
              · rw [hc] at HCN
                have HN3 : Hid (pickK (freeB ts E) (keyR ts kind) (j + 1) = P) := by
                  show _ = _
                  rw [HPN.out, HFB.out, hc]
                  simp
                clear hc HPN HFB HCF
                go_wp2_with fail
                refine HCN.out.mono ?_
                rintro e w7 ⟨rfl, h7⟩
                rw [h7]
                clear h7
                go_wp2
                go_roundw
                case rel => exact ⟨j + 1, P, rfl, by go_num, by omega, HN3.out.symm, HBV6.out⟩
                case measure => simp [intOf]; omega
            · have j1 : ¬ (j : Int) < (T : Int) := by omega
              have HJT : Hid (j = T) := by show _ = _; omega
              have HPF : Hid (P = pickK (freeB ts E) (keyR ts kind) T) := by show _ = _; rw [HP.out, HJT.out]
              have HNX2 : Hid (ruleTo ts (keyR ts kind) (m + 1) = E ++ [P]) := by show _ = _; rw [HNX.out, HPF.out]
              have HXw : Hid (Boxed wr (X + 1) 27 (.slice (some ⟨g2, 0, none⟩) m c2)) := (HB.out.block (X + 1) (by have := HZw.out; omega)).trans HX.out
              have HOw := Lib.hid (HO.out.below HB.out (Nat.le_refl _))
              have HGw := Lib.hid (HG.out.below HB.out HG.out.size)
              have HXS : Hid (X + 2 ≤ wr.heap.size) := by have := HZw.out; have := HB.out.size; show _ ≤ _; omega
              have HGN : Hid (g2 ≠ X + 1) := by have := HGX.out; have := HZ5.out; show _ ≠ _; omega
              have hxc := HXw.out.cell
              have hE64 : E.length + 1 ≤ 64 := by have := HEL.out; omega
              clear hjT
              go_wp2_with (at_builtin; refine append_i64L rfl _ _ rfl X (.slice (some ⟨g2, 0, none⟩) m c2) E [P] (by simp) rfl _ rfl HOw.out (by have := HXS.out; omega) (by simp; omega) ?_; intro g3 c3 w3 ho3 hg3 hl3; have HO3 := Lib.hid ho3; have HB3 : Hid (Boxed w3 (X + 1) 27 (.slice (some ⟨g2, 0, none⟩) m c2)) := (hg3.block (X + 1) (by have := HXS.out; omega) (by rw [ownBlock_slice]; intro e; have e2 : X + 1 = g2 := Option.some.inj e; exact HGN.out e2.symm)).trans HXw.out; have HG3 : Hid (GrownL [X, X + 1] W5 w3) := HGw.out.grown hg3 (fun j e => by rw [ownBlock_slice] at e; have e2 : g2 = j := Option.some.inj e; rcases HGX.out with q | q; exact .inl (by simp; omega); exact .inr (by omega)); have HL3 : Hid (g3 = X ∨ W5.heap.size ≤ g3) := lie_keepR hl3 HGX.out HGw.out.size; have hb3c := HB3.out.cell; have hb3f := HB3.out.frozen; clear ho3 hg3 hl3)
              have HGN3 : Hid (g3 ≠ X + 1) := by have := HL3.out; have := HZ5.out; show _ ≠ _; omega
              obtain ⟨W9, hW9⟩ : ∃ W, w3.setCell ⟨X + 1, 0, none⟩ (.slice (some ⟨g3, 0, none⟩) (E.length + 1) c3) = W := ⟨_, rfl⟩
              have HB9 : Hid (Boxed W9 (X + 1) 27 (.slice (some ⟨g3, 0, none⟩) (E.length + 1) c3)) := by show Boxed _ _ _ _; rw [← hW9]; exact Boxed.set _ HB3.out
              have HO9 : Hid (OwnI W9 X (.slice (some ⟨g3, 0, none⟩) (E.length + 1) c3) (E ++ [P])) := by
                show OwnI _ _ _ _
                rw [← hW9]
                exact HO3.out.setCell (p := ⟨X + 1, 0, none⟩) _ (by rw [ownBlock_slice]; intro e; exact HGN3.out (Option.some.inj e))
              have HG9 : Hid (GrownL [X, X + 1] W5 W9) := by show GrownL _ _ _; rw [← hW9]; exact HG3.out.grown (grownBy_setCell' w3 (X + 1) _) (fun j e => .inl (by have e2 : X + 1 = j := Option.some.inj e; simp; omega))
              have HUS : Hid (usedLen (X + 1) W9 = m + 1 ∧ usedLen (X + 1) W6 = m) := by
                have hL := HEL.out
                show _ ∧ _
                unfold usedLen
                rw [HB9.out.cell, HX.out.cell]
                exact ⟨by show E.length + 1 = m + 1; omega, rfl⟩
              subst hW9
              go_wp2
              go_roundw
              case rel => exact ⟨g3, c3, m + 1, E.length + 1, by omega, by have := HEL.out; show _ = _; omega, HB9.out, by show OwnI _ _ _ _; rw [HNX2.out]; exact HO9.out, HL3.out, HG9.out⟩
              case measure => have := HUS.out; omega
        · have m1 : ¬ (m : Int) < (T : Int) := by omega
          have HFIN : Hid (OwnI W6 w.heap.size (.slice (some ⟨g2, 0, none⟩) T c2) (ruleN ts kind)) := by
            have h := HO.out
            have e : m = T := by omega
            rw [e] at h
            show OwnI _ _ _ _
            rw [HRN.out]; exact h.mono HXA.out.1
          have HMT : Hid (m = T) := by show _ = _; omega
          clear hmT
          go_wp2
          go_ret
          exact ⟨⟨g2, c2, by rw [HMT.out]; rfl, HFIN.out⟩, HBw.out⟩
end Go.Proofs.Ytcjeededlhdcbaa
