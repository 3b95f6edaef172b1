
/- GreatClique, program and reference, for all arguments. Conditions: none. -/
import Derived.Test.YtmhepomjbaendaaCliqueImpl
import Derived.Test.YtmhepomjbaendaaCliqueSpec
import Derived.Laws.EntriesVeiled
namespace Go.Proofs.Ytmhepomjbaendaa
open Go.RowKit Go.Shelf Go.BigFrame
set_option linter.unusedVariables false
set_option linter.unusedSimpArgs false
attribute [local go_sem] Oper.semAt_some

def cliqW (W2 : World) (gs t be : Nat) : World := ((((W2.alloc (.cells #[.slice (some ⟨gs, 0, none⟩) t t] 25)).alloc (.cells #[.slice none 0 0] 25)).alloc (.cells #[] 2)).alloc (.cells #[.slice (some ⟨W2.heap.size + 1 + 1, 0, none⟩) 0 0] 25)).alloc (.cells #[cliqF (W2.heap.size + 1 + 1 + 1) (W2.heap.size + 1) be W2.heap.size (W2.heap.size + 1 + 1 + 1 + 1)] 108)
theorem cliqStart {W2 : World} {be gs t : Nat} {xs : List Int} (h1 : Boxed W2 be 2 (.int .i64 t)) (h2 : OwnI W2 0 (.slice (some ⟨gs, 0, none⟩) t t) (mInts (masks t xs))) :
    CliqB (cliqW W2 gs t be) be (W2.heap.size + 1 + 1 + 1) (W2.heap.size + 1) [] [] (W2.heap.size + 1 + 1) ∧ CliqE (cliqW W2 gs t be) be W2.heap.size (W2.heap.size + 1 + 1 + 1 + 1) gs t xs (cliqF (W2.heap.size + 1 + 1 + 1) (W2.heap.size + 1) be W2.heap.size (W2.heap.size + 1 + 1 + 1 + 1)) ∧ Below W2.heap.size W2 (cliqW W2 gs t be) := by
  have hl := h1.lt
  have hB : Below W2.heap.size W2 (cliqW W2 gs t be) := (((((Below.refl _ W2).alloc (Nat.le_refl _) _).alloc (by simp) _).alloc (by simp; omega) _).alloc (by simp; omega) _).alloc (by simp; omega) _
  refine ⟨⟨⟨0, ?_, ?_⟩, ⟨none, 0, ?_, ?_, by simp [Value.ownBlock]⟩⟩, ⟨boxed_below h1 hB, ?_, h2.below hB (Nat.le_refl _), ?_⟩, hB⟩
  · have := (Boxed.new (((W2.alloc (.cells #[.slice (some ⟨gs, 0, none⟩) t t] 25)).alloc (.cells #[.slice none 0 0] 25)).alloc (.cells #[] 2)) 25 (.slice (some ⟨W2.heap.size + 1 + 1, 0, none⟩) 0 0)).alloc (.cells #[cliqF (W2.heap.size + 1 + 1 + 1) (W2.heap.size + 1) be W2.heap.size (W2.heap.size + 1 + 1 + 1 + 1)] 108)
    simp only [World.size_alloc] at this
    exact this
  · have := ((OwnI.lit ((W2.alloc (.cells #[.slice (some ⟨gs, 0, none⟩) t t] 25)).alloc (.cells #[.slice none 0 0] 25)) be [] (by simp; omega) (Nat.zero_le _)).alloc (.cells #[.slice (some ⟨W2.heap.size + 1 + 1, 0, none⟩) 0 0] 25)).alloc (.cells #[cliqF (W2.heap.size + 1 + 1 + 1) (W2.heap.size + 1) be W2.heap.size (W2.heap.size + 1 + 1 + 1 + 1)] 108)
    simp only [World.size_alloc] at this
    exact this
  · have := (((Boxed.new (W2.alloc (.cells #[.slice (some ⟨gs, 0, none⟩) t t] 25)) 25 (.slice none 0 0)).alloc (.cells #[] 2)).alloc (.cells #[.slice (some ⟨W2.heap.size + 1 + 1, 0, none⟩) 0 0] 25)).alloc (.cells #[cliqF (W2.heap.size + 1 + 1 + 1) (W2.heap.size + 1) be W2.heap.size (W2.heap.size + 1 + 1 + 1 + 1)] 108)
    simp only [World.size_alloc] at this
    exact this
  · exact own_nil _ _
  · exact ((((Boxed.new W2 25 (.slice (some ⟨gs, 0, none⟩) t t)).alloc _).alloc _).alloc _).alloc _
  · have := Boxed.new ((((W2.alloc (.cells #[.slice (some ⟨gs, 0, none⟩) t t] 25)).alloc (.cells #[.slice none 0 0] 25)).alloc (.cells #[] 2)).alloc (.cells #[.slice (some ⟨W2.heap.size + 1 + 1, 0, none⟩) 0 0] 25)) 108 (cliqF (W2.heap.size + 1 + 1 + 1) (W2.heap.size + 1) be W2.heap.size (W2.heap.size + 1 + 1 + 1 + 1))
    simp only [World.size_alloc] at this
    exact this

set_option maxHeartbeats 2000000 in
theorem implClique_yes (t : Nat) (v : Value) (xs : List Int) (w : World) (hv : Ints w v xs) (ht1 : 1 ≤ t) (ht : t ≤ 12) (hl : xs.length ≤ 64) (hev : xs.length % 2 = 0) (hw : ∀ k, k < xs.length → 0 ≤ nth xs k ∧ nth xs k < (t : Int)) (hc1 : clashesOk (t : Int) xs = true) :
    Calls Try.prog 34 #[.int .i64 t, v] w fun e w' => (∃ v', e = .returned (.tuple #[v', .bool true]) ∧ OwnI w' w.heap.size v' (cliqueL t xs)) ∧ Below w.heap.size w w' := by
  have hmf : ∀ (fn : Fn) (first cap : Array Value) (w : World), (Instr.makeFunc fn first cap).run Try.prog w = .ok (.func fn first cap) w := fun _ _ _ _ => rfl
  have heg := enters_of Try.func90 (by kernel_rfl) rfl
  have hB0 : Below w.heap.size w (w.alloc (.cells #[.int .i64 t] 2)) := (Below.refl _ w).alloc (Nat.le_refl _) _
  have hbx := Boxed.new w 2 (.int .i64 t)
  have HB0 := Lib.hid hB0
  have HBX := Lib.hid hbx
  have hca := implAreClashes_any (t : Int) v xs _ (hv.below hB0 (Nat.le_refl _)) (wf_i64_iff.2 ⟨by omega, by omega⟩)
  rw [hc1] at hca
  have HCA := Lib.hid hca
  have HCS : Hid (∀ W, Below w.heap.size w W → Calls Try.prog 85 #[.int .i64 t, v] W fun e w' => (∃ g, e = .returned (.slice (some ⟨g, 0, none⟩) t t) ∧ OwnI w' W.heap.size (.slice (some ⟨g, 0, none⟩) t t) (mInts (masks t xs))) ∧ Below W.heap.size W w') := fun W hW =>
    clashSets_any t v xs W (hv.below hW (Nat.le_refl _)) ht1 ht hl hev hw
  have HW := Lib.hid hw
  have hbc := hbx.cell
  clear hca hw hc1 hB0 hbx hv
  go_enter Try.func34, Try.ntmps34
  go_wp2_with (first
    | (go_at_call 39; refine HCA.out.mono ?_; rintro e W1 ⟨rfl, hb1⟩; have hbx1 := boxed_below HBX.out hb1; have hbc1 := hbx1.cell; have HBX1 := Lib.hid hbx1; have HB1 := Lib.hid (HB0.out.trans (hb1.mono (by simp))); clear hb1 hbx1)
    | (go_at_call 85; refine (HCS.out _ HB1.out).mono ?_; rintro e W2 ⟨⟨gs, rfl, hos⟩, hb2⟩; have hgs := hos.lt gs rfl; have hbl := HBX1.out.lt; have HBX2 := Lib.hid (boxed_below HBX1.out hb2); have HB2 := Lib.hid (HB1.out.trans (hb2.mono HB1.out.size)); have HOS := Lib.hid (hos.mono (B' := 0) (Nat.zero_le _)); clear hb2 hos)
    | fail)
  have hst := cliqStart (xs := xs) HBX2.out HOS.out
  refine (cliqPut_any t xs w.heap.size w.heap.size gs W2.heap.size (W2.heap.size + 1) (W2.heap.size + 1 + 1 + 1) (W2.heap.size + 1 + 1 + 1 + 1) ht HW.out (Nat.le_refl _) (by omega) (by omega) (by omega) (by omega) (by omega) t 0 (by omega) (cliqW W2 gs t w.heap.size) [] [] (W2.heap.size + 1 + 1) hst.1 hst.2.1 (by omega) (by omega) (fun x hx => by cases hx) (Nat.le_refl _) 0 rfl).mono ?_
  rintro e W7 ⟨rfl, gl', hB7, hG7, hl7⟩
  obtain ⟨a7, c7, h71, h72, h73⟩ := hB7.best
  have hc7 := h71.cell
  have HO7 : Hid (OwnI W7 w.heap.size (.slice a7 (deep xs t 0 [] (up [] [])).length c7) (cliqueL t xs)) := h72
  have HB7 : Hid (Below w.heap.size w W7) := by
    have hs2 := HB2.out.size
    have hsz := (cliqStart (xs := xs) HBX2.out HOS.out).2.2.size
    exact hG7.toBelow (HB2.out.trans (hst.2.2.mono hs2)) (by omega) (fun i hi => by simp; omega)
  clear h71 h72 h73 hB7 hG7 hst
  go_wp2
  go_ret2
  exact ⟨⟨_, rfl, HO7.out⟩, HB7.out⟩

def cliqR (n : Int) (xs : List Int) : List Int := if clashesOk n xs then cliqueL n.toNat xs else []
theorem cliqR_no {n : Int} {xs : List Int} (h : clashesOk n xs = false) : cliqR n xs = [] := by unfold cliqR; rw [h]; rfl
theorem cliqR_yes {n : Int} {xs : List Int} (h : clashesOk n xs = true) : cliqR n xs = cliqueL n.toNat xs := by unfold cliqR; rw [h]; rfl
theorem deep_small (xs : List Int) : ∀ (d i : Nat) (l best : List Int), l.length ≤ i → best.length ≤ i + d → (deep xs d i l best).length ≤ i + d := by
  intro d
  induction d with
  | zero => intro i l best _ h; exact h
  | succ d ih =>
    intro i l best h1 h2
    unfold deep
    have key : ∀ b : List Int, b.length ≤ i + (d + 1) → (deep xs d (i + 1) l b).length ≤ i + (d + 1) := fun b hb => by
      have := ih (i + 1) l b (by omega) (by omega); omega
    split
    · refine key _ ?_
      have hu : (up best (l ++ [(i : Int)])).length ≤ i + (d + 1) := by
        unfold up
        split
        · rw [List.length_append, List.length_singleton]; omega
        · omega
      have := ih (i + 1) (l ++ [(i : Int)]) (up best (l ++ [(i : Int)])) (by simp; omega) (by omega)
      omega
    · exact key _ h2
theorem clash_bounds {n : Int} {xs : List Int} (h : clashesOk n xs = true) : ∃ t : Nat, n = t ∧ 1 ≤ t ∧ t ≤ 12 ∧ xs.length ≤ 64 ∧ xs.length % 2 = 0 ∧ (∀ k, k < xs.length → 0 ≤ nth xs k ∧ nth xs k < (t : Int)) := by
  obtain ⟨h1, h2, h3, h4, h5⟩ := clashesOk_head h
  obtain ⟨t, rfl⟩ : ∃ t : Nat, n = t := ⟨n.toNat, by omega⟩
  exact ⟨t, rfl, by omega, by omega, h3, h4, h5⟩
theorem cliqR_small (n : Int) (xs : List Int) : (cliqR n xs).length ≤ 12 := by
  unfold cliqR
  split
  · rename_i h
    obtain ⟨t, rfl, h1, h2, _⟩ := clash_bounds h
    have := deep_small xs t 0 [] [] (Nat.le_refl _) (by simp)
    unfold cliqueL
    rw [Int.toNat_natCast]
    omega
  · simp
theorem implClique_u (n : Int) (v : Value) (xs : List Int) (w : World) (hv : Ints w v xs) (hn : (Lit.int .i64 n).wf = true) :
    Calls Try.prog 34 #[.int .i64 n, v] w fun e w' => (∃ v', e = .returned (.tuple #[v', .bool (clashesOk n xs)]) ∧ OwnI w' w.heap.size v' (cliqR n xs)) ∧ Below w.heap.size w w' := by
  cases h : clashesOk n xs
  · rw [cliqR_no h]
    have hB0 : Below w.heap.size w (w.alloc (.cells #[.int .i64 n] 2)) := (Below.refl _ w).alloc (Nat.le_refl _) _
    have hbc := (Boxed.new w 2 (.int .i64 n)).cell
    have hca := implAreClashes_any n v xs _ (hv.below hB0 (Nat.le_refl _)) hn
    rw [h] at hca
    have HCA := Lib.hid hca
    have HB0 := Lib.hid hB0
    clear hca hv h hB0
    go_enter Try.func34, Try.ntmps34
    go_wp2_with (go_at_call 39; refine HCA.out.mono ?_; rintro e W1 ⟨rfl, hb1⟩)
    go_ret2
    exact ⟨⟨_, rfl, own_nil _ _⟩, HB0.out.trans (hb1.mono (by simp))⟩
  · rw [cliqR_yes h]
    obtain ⟨t, rfl, h1, h2, h3, h4, h5⟩ := clash_bounds h
    rw [Int.toNat_natCast]
    exact implClique_yes t v xs w hv h1 h2 h3 h4 h5 h
theorem specClique_u (n : Int) (v : Value) (xs : List Int) (w : World) (hv : Ints w v xs) (hn : (Lit.int .i64 n).wf = true) :
    Calls Try.prog 35 #[.int .i64 n, v] w fun e w' => (∃ v', e = .returned (.tuple #[v', .bool (clashesOk n xs)]) ∧ OwnI w' w.heap.size v' (cliqR n xs)) ∧ Below w.heap.size w w' := by
  cases h : clashesOk n xs
  · rw [cliqR_no h]
    have hca := specClashes_any n v xs w hv hn
    rw [h] at hca
    have HCA := Lib.hid hca
    clear hca hv h
    go_enter Try.func35, Try.ntmps35
    go_wp2_with (go_at_call 88; refine HCA.out.mono ?_; rintro e W1 ⟨rfl, hb1⟩)
    go_ret2
    exact ⟨⟨_, rfl, own_nil _ _⟩, hb1⟩
  · rw [cliqR_yes h]
    obtain ⟨t, rfl, h1, h2, h3, h4, h5⟩ := clash_bounds h
    rw [Int.toNat_natCast]
    exact specClique_yes t v xs w hv h1 h2 h3 h4 h
end Go.Proofs.Ytmhepomjbaendaa
