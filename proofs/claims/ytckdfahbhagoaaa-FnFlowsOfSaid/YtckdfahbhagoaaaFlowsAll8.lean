/- impl: TwoOrder. Conditions: valid times of at most 19 jobs on two machines. With texts that it needs. -/
import Derived.Test.YtckdfahbhagoaaaFlowsAll4
import Derived.Deep.RegionHeld3
import Derived.Test.YtckdfahbhagoaaaFlowsAll5
import Derived.Lib.AppendZeros
import Derived.Test.YtckdfahbhagoaaaFlowsAll7
namespace Go.Proofs.Ytckdfahbhagoaaa
open Go.RowKit
set_option linter.unusedVariables false
set_option linter.unusedSimpArgs false

/-- What is asked of the function that compares: it writes nothing that was there. -/
def CmpOkB (kb : Nat) (cf : Int → Int → Int) (g : Nat) (D : List Int) (w : World) : Prop :=
  ∀ W x y, x ∈ D → y ∈ D → GrownL [g] w W → Calls Try.prog 46 #[.int .i64 x, .int .i64 y, .pointer (some ⟨kb, 0, none⟩)] W fun e w' => e = .returned (.int .i64 (cf x y)) ∧ Below W.heap.size W w'
set_option maxRecDepth 100000 in
set_option maxHeartbeats 2000000 in
theorem insertionB_any (g n c a b N kb : Nat) (key : Int → Int) (cf : Int → Int → Int) (hcf : ∀ x y, cf x y < 0 ↔ key x < key y) (D0 D : List Int) (w0 w : World) (hg0 : GrownL [g] w0 w) (ho : OwnI w N (.slice (some ⟨g, 0, none⟩) n c) D) (hn : n = D.length) (hperm : D.Perm D0) (hcmp : CmpOkB kb cf g D0 w0)
    (hab : a ≤ b) (hb : b ≤ n) (hsz : n ≤ 1048576) (hasc : ∀ p q, a ≤ p → p < q → q < b → nth D p < nth D q) :
    Calls Try.prog 58 #[.slice (some ⟨g, 0, none⟩) n c, .int .i64 a, .int .i64 b, .func (.func 46) #[] #[.pointer (some ⟨kb, 0, none⟩)]] w fun e w' => e = .returned (.tuple #[]) ∧ ∃ E, OwnI w' N (.slice (some ⟨g, 0, none⟩) n c) E ∧ SortedOn key E a b ∧ SegSame D E a b ∧ GrownL [g] w0 w' := by
  have HO := Lib.hid ho
  have HN := Lib.hid hn
  have HG0 := Lib.hid hg0
  have HASC := Lib.hid hasc
  have HCMP : Hid (∀ W E x y, E.Perm D → x < n → y < n → GrownL [g] w0 W → Calls Try.prog 46 #[.int .i64 (nth E x), .int .i64 (nth E y), .pointer (some ⟨kb, 0, none⟩)] W fun e w' => e = .returned (.int .i64 (cf (nth E x) (nth E y))) ∧ Below W.heap.size W w') := fun W E x y hE hx hy hW => hcmp W _ _ ((hE.trans hperm).subset (nth_mem (by rw [hE.length_eq, ← hn]; exact hx))) ((hE.trans hperm).subset (nth_mem (by rw [hE.length_eq, ← hn]; exact hy))) hW
  have HH : Hid (g < w0.heap.size ∨ w0.heap.size ≤ g) := by show _ ∨ _; omega
  clear ho hn hg0 hcmp hperm hasc
  go_enter Try.func58, Try.ntmps58
  go_wp2
  go_loopw [8] (fun vi wr => ∃ (i : Nat) (E : List Int), a < i ∧ i ≤ b + 1 ∧ vi = .int .i64 i ∧ Hid (OwnI wr N (.slice (some ⟨g, 0, none⟩) n c) E) ∧ Hid (SortedOn key E a i ∧ SegSame D E a (min i b) ∧ E.length = n) ∧ Hid (GrownL [g] w0 wr)) (fun vi _ => b + 1 - (intOf vi).toNat)
  case atStart => exact ⟨a + 1, D, by omega, by omega, by go_num, HO.out, ⟨fun i j h1 h2 h3 => by omega, SegSame.refl _ _ _, HN.out.symm⟩, HG0.out⟩
  case round =>
    obtain ⟨i, E, hai, hib, rfl, HE, HS, HG⟩ := hrel
    by_cases hi : i < b
    · have i1 : (i : Int) < (b : Int) := by omega
      have HINS : Hid (InsInv key E a i i ∧ SegSame D E a (i + 1)) := by
        obtain ⟨h1, h2, h3⟩ := HS.out
        rw [Nat.min_eq_left (by omega)] at h2
        refine ⟨InsInv.start h1 (by omega) fun p p1 p2 => ?_, h2.wide (Nat.le_refl _) (by omega)⟩
        obtain ⟨p', x1, x2, x3⟩ := h2.mem p p1 p2
        rw [x3, h2.out i (.inr (Nat.le_refl _))]
        exact HASC.out p' i x1 x2 hi
      have HLN : Hid (E.length = n) := HS.out.2.2
      clear HS
      go_wp2
      go_loopw [9] (fun vj wi => ∃ (j : Nat) (F : List Int), a ≤ j ∧ j ≤ i ∧ vj = .int .i64 j ∧ Hid (OwnI wi N (.slice (some ⟨g, 0, none⟩) n c) F) ∧ Hid (InsInv key F a i j ∧ SegSame D F a (i + 1) ∧ F.length = n) ∧ Hid (GrownL [g] w0 wi)) (fun vj _ => (intOf vj).toNat)
      case atStart => exact ⟨i, E, by omega, Nat.le_refl _, rfl, HE.out, ⟨HINS.out.1, HINS.out.2, HLN.out⟩, HG.out⟩
      case round =>
        obtain ⟨j, F, haj, hji, rfl, HF, HI, HGI⟩ := hrel
        clear HE HINS HLN HG
        by_cases hja : a < j
        · have j1 : (j : Int) > (a : Int) := by omega
          have jm : (j : Int) - 1 = ((j - 1 : Nat) : Int) := by omega
          obtain ⟨p, hp⟩ : ∃ p, j - 1 = p := ⟨_, rfl⟩
          rw [hp] at jm
          have hjn : j < n := by omega
          have hpn : p < n := by omega
          have hjw : IntKind.i64.wrap (p : Int) = (p : Int) := IntWalk.i64_in _ (by omega)
          have hp0 : (0 : Int) ≤ (p : Int) := by omega
          have hp1 : (p : Int) < (n : Int) := by omega
          have hj0 : (0 : Int) ≤ (j : Int) := by omega
          have hj2 : (j : Int) < (n : Int) := by omega
          have cj := HF.out.at_ HI.out.2.2.symm j (by rw [HI.out.2.2]; exact hjn)
          have cp := HF.out.at_ HI.out.2.2.symm p (by rw [HI.out.2.2]; exact hpn)
          have HC : Hid (∀ q, Calls Try.prog 46 #[.int .i64 (nth F j), .int .i64 (nth F p), .pointer (some ⟨kb, 0, none⟩)] (wr.drewN q) fun e w' => e = .returned (.int .i64 (cf (nth F j) (nth F p))) ∧ OwnI w' N (.slice (some ⟨g, 0, none⟩) n c) F ∧ GrownL [g] w0 w') := fun q => by
            refine (HCMP.out (wr.drewN q) F j p HI.out.2.1.perm hjn hpn (HGI.out.drewN q)).mono ?_
            rintro e w' ⟨h1, h2⟩
            exact ⟨h1, (HF.out.drewN q).below h2 (Nat.le_refl _), (HGI.out.drewN q).below h2 (by have h3 := (HGI.out.drewN q).size; exact h3)⟩
          have HSA : Hid (∀ W, OwnI W N (.slice (some ⟨g, 0, none⟩) n c) F → W.cell? ⟨g, j, none⟩ = some (.int .i64 (nth F j)) ∧ W.cell? ⟨g, p, none⟩ = some (.int .i64 (nth F p))) := fun W h => ⟨h.at_ HI.out.2.2.symm j (by rw [HI.out.2.2]; exact hjn), h.at_ HI.out.2.2.symm p (by rw [HI.out.2.2]; exact hpn)⟩
          have HPP := Lib.hid hp
          obtain ⟨r, hr⟩ : ∃ r, cf (nth F j) (nth F p) = r := ⟨_, rfl⟩
          rw [hr] at HC
          have HR := Lib.hid hr
          clear hp hr
          by_cases hr0 : r < 0
          · go_wp2
            go_region_held3 (fun w' => w'.cell? ⟨g, j, none⟩ = some (.int .i64 (nth F j)) ∧ w'.cell? ⟨g, p, none⟩ = some (.int .i64 (nth F p))) (first | go_keep | exact HSA.out _ HW3.out.1)
              (first | (go_at_call 46; refine (HC.out _).mono ?_; rintro e W3 ⟨rfl, hw3⟩; have HW3 := Lib.hid hw3; clear hw3))
            all_goals
              have cj3 := HW3.out.1.at_ HI.out.2.2.symm j (by rw [HI.out.2.2]; exact hjn)
              have cp3 := HW3.out.1.at_ HI.out.2.2.symm p (by rw [HI.out.2.2]; exact hpn)
              have hjl : j < F.length := by rw [HI.out.2.2]; exact hjn
              have hpl : p < F.length := by rw [HI.out.2.2]; exact hpn
              have fj := (HW3.out.1.store HI.out.2.2.symm j hjl 0).2.1
              have fp := (HW3.out.1.store HI.out.2.2.symm p hpl 0).2.1
              have HSW := Lib.hid (HW3.out.1.swap HI.out.2.2.symm j p hjl hpl)
              have HST : Hid (InsInv key (swp2 F j p) a i p ∧ SegSame D (swp2 F j p) a (i + 1) ∧ (swp2 F j p).length = n) := by
                have hk : key (nth F j) < key (nth F p) := (hcf _ _).1 (by rw [HR.out]; exact hr0)
                have hst := HI.out.1.step hja (by rw [HI.out.2.2]; omega) (by rw [HPP.out]; exact hk)
                rw [HPP.out] at hst
                exact ⟨hst, HI.out.2.1.trans (SegSame.swap (by rw [HI.out.2.2]; omega) haj (by omega) (by have := HPP.out; omega) (by have := HPP.out; omega)), by rw [swp2_len, HI.out.2.2]⟩
              have hpj : ¬ p = j := by have := HPP.out; omega
              have hjp : ¬ j = p := by have := HPP.out; omega
              have HPA : Hid (a ≤ p ∧ p ≤ i ∧ p < j) := by have := HPP.out; show _ ∧ _; omega
              clear HC HSA HR HI hjl hpl
              go_wp2
              go_region
              go_wp2
              go_roundw
              case rel => exact ⟨p, swp2 F j p, HPA.out.1, HPA.out.2.1, by go_num, HSW.out.1.drewN _, HST.out, (HW3.out.2.row1 HSW.out.2).drewN _⟩
              case measure => have := HPA.out; simp [intOf]; omega
          · have HEND : Hid (SortedOn key F a (i + 1)) := HI.out.1.done (.inr fun h => hr0 (by rw [← HR.out]; exact (hcf _ _).2 (by rw [HPP.out] at h; exact h)))
            clear HR
            go_wp2
            go_region_held3 (fun w' => w'.cell? ⟨g, j, none⟩ = some (.int .i64 (nth F j)) ∧ w'.cell? ⟨g, p, none⟩ = some (.int .i64 (nth F p))) (first | go_keep | exact HSA.out _ HW3.out.1)
              (first | (go_at_call 46; refine (HC.out _).mono ?_; rintro e W3 ⟨rfl, hw3⟩; have HW3 := Lib.hid hw3; clear hw3))
            all_goals
              have HE2 := Lib.hid (And.intro HW3.out.1 (And.intro HI.out.2 HW3.out.2))
              clear HC HSA HI
              go_wp2
              go_roundw
              case rel => exact ⟨i + 1, F, by omega, by omega, by go_num, HE2.out.1, ⟨HEND.out, by rw [Nat.min_eq_left (by omega)]; exact HE2.out.2.1.1, HE2.out.2.1.2⟩, HE2.out.2.2⟩
              case measure => simp [intOf]; omega
        · have j1 : ¬ (j : Int) > (a : Int) := by omega
          have hje : j = a := by omega
          have HEND : Hid (SortedOn key F a (i + 1)) := HI.out.1.done (.inl hje)
          clear hje
          go_wp2
          go_quiet (fail)
          have HE2 := Lib.hid (And.intro (HF.out.drewN nq) (And.intro HI.out.2 (HGI.out.drewN nq)))
          clear HF HI HGI
          go_wp2
          go_roundw
          case rel => exact ⟨i + 1, F, by omega, by omega, by go_num, HE2.out.1, ⟨HEND.out, by rw [Nat.min_eq_left (by omega)]; exact HE2.out.2.1.1, HE2.out.2.1.2⟩, HE2.out.2.2⟩
          case measure => simp [intOf]; omega
    · have i1 : ¬ (i : Int) < (b : Int) := by omega
      have HFIN : Hid (∃ E, OwnI wr N (.slice (some ⟨g, 0, none⟩) n c) E ∧ SortedOn key E a b ∧ SegSame D E a b ∧ GrownL [g] w0 wr) := by
        obtain ⟨h1, h2, h3⟩ := HS.out
        rw [Nat.min_eq_right (by omega)] at h2
        exact ⟨E, HE.out, h1.sub (Nat.le_refl _) (by omega), h2, HG.out⟩
      clear HE HS HG
      go_wp2
      go_end0
      exact ⟨rfl, HFIN.out⟩
def SortPostB (g n c N : Nat) (key : Int → Int) (D0 : List Int) (w0 w' : World) : Prop :=
  ∃ E, OwnI w' N (.slice (some ⟨g, 0, none⟩) n c) E ∧ SortedOn key E 0 n ∧ E.Perm D0 ∧ GrownL [g] w0 w'
set_option maxRecDepth 100000 in
set_option maxHeartbeats 1000000 in
theorem stableB_any (g n c N kb : Nat) (key : Int → Int) (cf : Int → Int → Int) (hcf : ∀ x y, cf x y < 0 ↔ key x < key y) (D0 : List Int) (w0 : World) (hcmp : CmpOkB kb cf g D0 w0) (hsz : n ≤ 19)
    (w : World) (hg0 : GrownL [g] w0 w) (ho : OwnI w N (.slice (some ⟨g, 0, none⟩) n c) D0) (hn : n = D0.length) (hasc : ∀ p q, p < q → q < n → nth D0 p < nth D0 q) :
    Calls Try.prog 55 #[.slice (some ⟨g, 0, none⟩) n c, .int .i64 n, .func (.func 46) #[] #[.pointer (some ⟨kb, 0, none⟩)]] w fun e w' => e = .returned (.tuple #[]) ∧ SortPostB g n c N key D0 w0 w' := by
  have HINS : Hid (Calls Try.prog 58 #[.slice (some ⟨g, 0, none⟩) n c, .int .i64 0, .int .i64 n, .func (.func 46) #[] #[.pointer (some ⟨kb, 0, none⟩)]] w fun e w' => e = .returned (.tuple #[]) ∧ SortPostB g n c N key D0 w0 w') := by
    refine (insertionB_any g n c 0 n N kb key cf hcf D0 D0 w0 w hg0 ho hn (List.Perm.refl _) hcmp (Nat.zero_le _) (Nat.le_refl _) (by omega) (fun p q _ h1 h2 => hasc p q h1 h2)).mono ?_
    rintro e w' ⟨h1, E, h2, h3, h4, h5⟩
    exact ⟨h1, E, h2, h3, h4.perm, h5⟩
  have i1 : ¬ (20 : Int) ≤ (n : Int) := by omega
  have i2 : ¬ (20 : Int) < (n : Int) := by omega
  clear hcmp ho hg0 hn hasc
  go_enter Try.func55, Try.ntmps55
  go_wp2
  go_loopw [7, 8] (fun va vb wr => va = .int .i64 0 ∧ vb = .int .i64 20 ∧ Hid (wr = w)) (fun _ _ _ => 0)
  case atStart => exact ⟨rfl, rfl, rfl⟩
  case round =>
    obtain ⟨rfl, rfl, HW⟩ := hrel
    rw [← HW.out] at HINS
    go_wp2_with fail
    refine HINS.out.mono ?_
    rintro _ W1 ⟨rfl, hr⟩
    have HR := Lib.hid hr
    clear hr HINS
    go_wp2
    go_loopw [6, 7, 8, 9] (fun vs _ _ _ wr => vs = .int .i64 20 ∧ Hid (wr = W1)) (fun _ _ _ _ _ => 0)
    case atStart => exact ⟨rfl, rfl⟩
    case round =>
      obtain ⟨rfl, HW1⟩ := hrel
      rw [← HW1.out] at HR
      go_wp2
      go_end0
      exact ⟨rfl, by first | exact HR.out | (rw [← HW.out]; exact HR.out)⟩
theorem sortStableB_any (g n c N kb : Nat) (key : Int → Int) (cf : Int → Int → Int) (hcf : ∀ x y, cf x y < 0 ↔ key x < key y) (D0 : List Int) (w0 : World) (hcmp : CmpOkB kb cf g D0 w0) (hsz : n ≤ 19)
    (w : World) (hg0 : GrownL [g] w0 w) (ho : OwnI w N (.slice (some ⟨g, 0, none⟩) n c) D0) (hn : n = D0.length) (hasc : ∀ p q, p < q → q < n → nth D0 p < nth D0 q) :
    Calls Try.prog 45 #[.slice (some ⟨g, 0, none⟩) n c, .func (.func 46) #[] #[.pointer (some ⟨kb, 0, none⟩)]] w fun e w' => e = .returned (.tuple #[]) ∧ SortPostB g n c N key D0 w0 w' := by
  have HC := Lib.hid (stableB_any g n c N kb key cf hcf D0 w0 hcmp hsz w hg0 ho hn hasc)
  clear hcmp ho hg0 hasc hn
  go_enter Try.func45, Try.ntmps45
  go_wp2_with fail
  refine HC.out.mono ?_
  rintro _ W1 ⟨rfl, hr⟩
  have HR := Lib.hid hr
  clear hr HC
  go_wp2
  go_end0
  exact ⟨rfl, HR.out⟩
/-- What is asked of a key: it writes nothing that was there. -/
def KeyAtB (kf : Nat) (cap : Array Value) (key : Int → Int) (x : Int) (W : World) : Prop :=
  Calls Try.prog kf (#[.int .i64 x] ++ cap) W fun e w' => e = .returned (.int .i64 (key x)) ∧ Below W.heap.size W w'
set_option maxRecDepth 100000 in
set_option maxHeartbeats 1000000 in
theorem cmpByB_any (kb kf : Nat) (cap : Array Value) (key : Int → Int) (x y : Int) (W : World) (hb : Boxed W kb 40 (.func (.func kf) #[] cap)) (hx : ∀ W', Below W.heap.size W W' → KeyAtB kf cap key x W') (hy : ∀ W', Below W.heap.size W W' → KeyAtB kf cap key y W')
    (heg : ∀ args w, (callFunc kf args).run Try.prog w = .ok (.enter kf args) w) :
    Calls Try.prog 46 #[.int .i64 x, .int .i64 y, .pointer (some ⟨kb, 0, none⟩)] W fun e w' => e = .returned (.int .i64 (cmpI (key x) (key y))) ∧ Below W.heap.size W w' := by
  have HX : Hid (∀ q, Calls Try.prog kf (#[.int .i64 x] ++ cap) (W.drewN q) fun e w' => e = .returned (.int .i64 (key x)) ∧ Below W.heap.size W w') := fun q => (hx _ (below_drewN q (Below.refl _ _))).mono (fun _ _ h => ⟨h.1, (below_drewN q (Below.refl _ _)).trans h.2⟩)
  have HY : Hid (∀ W', Below W.heap.size W W' → Calls Try.prog kf (#[.int .i64 y] ++ cap) W' fun e w' => e = .returned (.int .i64 (key y)) ∧ Below W.heap.size W w') := fun W' hW => (hy W' hW).mono (fun _ _ h => ⟨h.1, hW.trans (h.2.mono hW.size)⟩)
  have hbc := hb.cell
  have hlt : kb < W.heap.size := lt_of_cell hbc
  have HKC : Hid (∀ W', Below W.heap.size W W' → W'.cell? ⟨kb, 0, none⟩ = some (.func (.func kf) #[] cap)) := fun W' h => (h.cell (p := ⟨kb, 0, none⟩) hlt).trans hbc
  have HCP : Hid (∀ a b W', Calls Try.prog 47 #[.int .i64 a, .int .i64 b] W' fun e w' => e = .returned (.int .i64 (cmpI a b)) ∧ W' = w') := fun a b W' => compare_any a b W'
  clear hx hy hb hlt
  go_enter Try.func46, Try.ntmps46
  go_wp2
  go_region_held3 (fun w' => w'.cell? ⟨kb, 0, none⟩ = some (.func (.func kf) #[] cap)) (first | go_keep | exact HKC.out _ HB1.out | exact HKC.out _ HB2.out)
    (first
      | (refine (HX.out _).mono ?_; rintro e W1 ⟨rfl, hb1⟩; have HB1 := Lib.hid hb1; clear hb1)
      | (refine (HY.out _ HB1.out).mono ?_; rintro e W2 ⟨rfl, hb2⟩; have HB2 := Lib.hid hb2; clear hb2)
      | (go_at_call 47; refine (HCP.out _ _ _).mono ?_; rintro e W3 ⟨rfl, rfl⟩))
  go_wp2
  go_ret
  exact ⟨rfl, HB2.out⟩
set_option maxRecDepth 100000 in
set_option maxHeartbeats 2000000 in
theorem sortedByB_any (n kf : Nat) (cap : Array Value) (key : Int → Int) (w : World) (hn : n ≤ 19) (hkey : ∀ W (x : Int), 0 ≤ x → x < n → Below w.heap.size w W → KeyAtB kf cap key x W)
    (heg : ∀ args w, (callFunc kf args).run Try.prog w = .ok (.enter kf args) w) :
    Calls Try.prog 32 #[.int .i64 n, .func (.func kf) #[] cap] w fun e w' => (∃ g c E, e = .returned (.slice (some ⟨g, 0, none⟩) n c) ∧ OwnI w' w.heap.size (.slice (some ⟨g, 0, none⟩) n c) E ∧ n = E.length ∧ SortsBy key n E) ∧ Below w.heap.size w w' := by
  have HKEY := Lib.hid hkey
  clear hkey
  obtain ⟨W0, hW0⟩ : ∃ W, w.alloc (.cells #[.func (.func kf) #[] cap] 40) = W := ⟨_, rfl⟩
  have HB0 : Hid (Below w.heap.size w W0) := by show Below _ _ _; rw [← hW0]; exact (Below.refl _ w).alloc (Nat.le_refl _) _
  have HBX : Hid (Boxed W0 w.heap.size 40 (.func (.func kf) #[] cap)) := by show Boxed _ _ _ _; rw [← hW0]; exact Boxed.new _ _ _
  have HSZ : Hid (W0.heap.size = w.heap.size + 1) := by show _ = _; rw [← hW0]; simp
  have HCNT := Lib.hid (counting_any n W0 (by omega))
  go_enter Try.func32, Try.ntmps32
  go_wp2_with fail
  refine HCNT.out.mono ?_
  rintro e W1 ⟨⟨g, c, rfl, ho⟩, hb⟩
  have hgb : w.heap.size ≠ g ∧ W0.heap.size ≤ g := by
    rcases ho.2 with ⟨h1, _⟩ | ⟨g', cap', cur, h1, h2, _⟩
    · cases h1
    · obtain ⟨rfl⟩ : g = g' := by simp at h1; exact h1.1
      have := HSZ.out
      omega
  have hs1 := hb.size
  have HBX1 : Hid (Boxed W1 w.heap.size 40 (.func (.func kf) #[] cap)) := (hb.block _ (by have := HSZ.out; omega)).trans HBX.out
  have HB1 : Hid (Below w.heap.size w W1) := HB0.out.trans (hb.mono (by have := HSZ.out; omega))
  have HC := Lib.hid (sortStableB_any g n c W0.heap.size w.heap.size key (fun x y => cmpI (key x) (key y)) (fun x y => cmpI_neg _ _) (idL n) W1 (by
    intro W x y hx hy hW
    have hx1 := idL_mem.1 hx
    have hy1 := idL_mem.1 hy
    have hbW : ∀ W', Below W.heap.size W W' → Below w.heap.size w W' := fun W' hW' => (hW.below hW' hW.size).toBelow HB1.out (by have := HSZ.out; omega) (fun i hi => by simp; have := HSZ.out; omega)
    exact cmpByB_any w.heap.size kf cap key x y W (hW.boxed HBX1.out (by simp; exact hgb.1)) (fun W' h => HKEY.out _ x hx1.1 hx1.2 (hbW W' h)) (fun W' h => HKEY.out _ y hy1.1 hy1.2 (hbW W' h)) heg) hn W1 (GrownL.refl _ _) ho (idL_length n).symm (fun p q h1 h2 => by rw [idL_get (by omega), idL_get h2]; omega))
  have HGB := Lib.hid hgb
  clear ho hb hgb hs1 HCNT hW0 HKEY
  go_wp2_with fail
  refine HC.out.mono ?_
  rintro _ W2 ⟨rfl, hr⟩
  have HR : Hid ((∃ E, OwnI W2 w.heap.size (.slice (some ⟨g, 0, none⟩) n c) E ∧ n = E.length ∧ SortsBy key n E) ∧ Below w.heap.size w W2) := by
    obtain ⟨E, hE, hs, hp, hg⟩ := hr
    refine ⟨⟨E, hE.mono (by have := HSZ.out; omega), by rw [hp.length_eq, idL_length], hp, hs⟩, hg.toBelow HB1.out (by have := HB1.out.size; omega) (fun i hi => by simp; have := HGB.out; have := HSZ.out; omega)⟩
  clear hr HC
  go_wp2
  go_ret
  obtain ⟨⟨E, h1, h2, h3⟩, h4⟩ := HR.out
  exact ⟨⟨g, c, E, rfl, h1, h2, h3⟩, h4⟩
end Go.Proofs.Ytckdfahbhagoaaa

namespace Go.Proofs.Ytckdfahbhagoaaa
open Go.RowKit
set_option linter.unusedVariables false
set_option linter.unusedSimpArgs false

/-- append(s, t...), t perhaps empty, s not nil: at the operation. -/
theorem wp_append_any {o : Oper} {a : Act} {K : Act → World → Prop} {Q : Exit → Act → World → Prop} {W : World} (s x : Operand)
    (ho : o.op = .call { callee := .builtin .append, args := #[s, x], argTypes := #[25, 25] }) (B g n c : Nat) (xs ys : List Int) (hn : n = xs.length)
    (hs : a.eval s = .slice (some ⟨g, 0, none⟩) n c) (b off m c2 : Nat) (hm : m = ys.length) (hx : a.eval x = .slice (some ⟨b, off, none⟩) m c2) (hcells : ∀ i (h : i < ys.length), W.cell? ⟨b, off + i, none⟩ = some (.int .i64 ys[i])) (hown : OwnI W B (.slice (some ⟨g, 0, none⟩) n c) xs) (hB : B ≤ W.heap.size) (hsmall : xs.length + ys.length ≤ 1099511627776)
    (hK : ∀ g' c' w', OwnI w' B (.slice (some ⟨g', 0, none⟩) (xs.length + ys.length) c') (xs ++ ys) → W.grownBy w' (some g) → K (a.put o.dst (.slice (some ⟨g', 0, none⟩) (xs.length + ys.length) c')) w') :
    o.wp Try.prog a W K Q := by
  subst hn hm
  obtain ⟨i0, hi, hz0, hz1, hz2⟩ := info_parts info_i64
  obtain ⟨v', w', hr, h2, h3, h4, h5⟩ := run_append_own_at (P := Try.prog) W B 25 o.type 2 i0 (.int .i64 0) 1 8 Try.underlying25 hi hz0 hz1 hz2 rfl (by decide) _ xs.length _ hown ⟨b, off, none⟩ ys.length c2 (ys.map (Value.int .i64)) (by simp) (by
    intro j u hj
    rw [List.getElem?_map] at hj
    cases h : ys[j]? with
    | none => rw [h] at hj; cases hj
    | some y =>
      rw [h] at hj
      obtain ⟨h1, h2⟩ := List.getElem?_eq_some_iff.1 h
      have hadd : (⟨b, off, none⟩ : Addr).add j = ⟨b, off + j, none⟩ := by unfold Addr.add; split <;> simp_all
      rw [hadd, hcells j h1, h2]
      simpa using hj) (by intro u hu; obtain ⟨y, _, rfl⟩ := List.mem_map.1 hu; rfl) (by unfold maxLen; omega) (by omega) hB
  unfold Oper.wp execOp
  simp only [ho, resolve, invoke, builtin, Sem.run_bind, Sem.run_pure, Result.andThen_ok, List.map_toArray, List.map_cons, List.map_nil, hs, hx, hr]
  have h1' : OwnI w' B v' (xs ++ ys) := by unfold OwnI; simpa using h2
  rcases h2.2 with ⟨h6, _⟩ | ⟨g', cap, cur, rfl, _⟩
  · have := (h4.1 h6).1; cases this
  · exact hK g' cap w' h1' h3
theorem wpList_append_any {ops : Array Oper} {rest : List Oper} {o : Oper} {a : Act} {Q : Exit → Act → World → Prop} {W : World} (hgd : o.guard = none) (s x : Operand)
    (ho : o.op = .call { callee := .builtin .append, args := #[s, x], argTypes := #[25, 25] }) (B g n c : Nat) (xs ys : List Int) (hn : n = xs.length)
    (hs : a.eval s = .slice (some ⟨g, 0, none⟩) n c) (b off m c2 : Nat) (hm : m = ys.length) (hx : a.eval x = .slice (some ⟨b, off, none⟩) m c2) (hcells : ∀ i (h : i < ys.length), W.cell? ⟨b, off + i, none⟩ = some (.int .i64 ys[i])) (hown : OwnI W B (.slice (some ⟨g, 0, none⟩) n c) xs) (hB : B ≤ W.heap.size) (hsmall : xs.length + ys.length ≤ 1099511627776)
    (hK : ∀ g' c' w', OwnI w' B (.slice (some ⟨g', 0, none⟩) (xs.length + ys.length) c') (xs ++ ys) → W.grownBy w' (some g) → wpList Try.prog ops Q rest (a.put o.dst (.slice (some ⟨g', 0, none⟩) (xs.length + ys.length) c')) w') :
    wpList Try.prog ops Q (o :: rest) a W :=
  wpList_plain hgd fun _ hk => wp_append_any s x ho B g n c xs ys hn hs b off m c2 hm hx hcells hown hB hsmall fun g' c' w' h1 h2 => hk _ _ (hK g' c' w' h1 h2)
theorem step_append_any {ops : Array Oper} {o : Oper} {a : Act} {K : Act → World → Prop} {Q : Exit → Act → World → Prop} {E : Prop} {W : World} (hgd : o.guard = none) (s x : Operand)
    (ho : o.op = .call { callee := .builtin .append, args := #[s, x], argTypes := #[25, 25] }) (B g n c : Nat) (xs ys : List Int) (hn : n = xs.length)
    (hs : a.eval s = .slice (some ⟨g, 0, none⟩) n c) (b off m c2 : Nat) (hm : m = ys.length) (hx : a.eval x = .slice (some ⟨b, off, none⟩) m c2) (hcells : ∀ i (h : i < ys.length), W.cell? ⟨b, off + i, none⟩ = some (.int .i64 ys[i])) (hown : OwnI W B (.slice (some ⟨g, 0, none⟩) n c) xs) (hB : B ≤ W.heap.size) (hsmall : xs.length + ys.length ≤ 1099511627776)
    (hK : ∀ g' c' w', OwnI w' B (.slice (some ⟨g', 0, none⟩) (xs.length + ys.length) c') (xs ++ ys) → W.grownBy w' (some g) → K (a.put o.dst (.slice (some ⟨g', 0, none⟩) (xs.length + ys.length) c')) w') :
    if Region.wanted o (yielded ops a.tmps) = true then Oper.wp Try.prog o a W K Q else E := by
  have hw : Region.wanted o (yielded ops a.tmps) = true := by simp [Region.wanted, hgd]
  rw [if_pos hw]
  exact wp_append_any s x ho B g n c xs ys hn hs b off m c2 hm hx hcells hown hB hsmall hK


end Go.Proofs.Ytckdfahbhagoaaa

namespace Go.Proofs.Ytckdfahbhagoaaa
open Go.RowKit
set_option linter.unusedVariables false
set_option linter.unusedSimpArgs false

structure TwM (w wr : World) (gF zF cF gB zB cB gE n cE : Nat) (F B E : List Int) : Prop where
  f : OwnI wr w.heap.size (.slice (some ⟨gF, 0, none⟩) zF cF) F
  b : OwnI wr w.heap.size (.slice (some ⟨gB, 0, none⟩) zB cB) B
  e : OwnI wr w.heap.size (.slice (some ⟨gE, 0, none⟩) n cE) E
  fl : zF = F.length
  bl : zB = B.length
  el : n = E.length
  fb : gF ≠ gB
  fe : gF ≠ gE
  be : gB ≠ gE
  bel : Below w.heap.size w wr
section
variable {w wr W : World} {gF zF cF gB zB cB gE n cE g1 c1 : Nat} {F B E : List Int} {x : Int}
theorem ob_ne2 {a b T c : Nat} (h : a ≠ b) : (Value.slice (some ⟨a, 0, none⟩) T c).ownBlock ≠ some b := by rw [ownBlock_slice]; intro e; injection e with e; exact h e
theorem TwM.below (h : TwM w wr gF zF cF gB zB cB gE n cE F B E) (hb : Below wr.heap.size wr W) : TwM w W gF zF cF gB zB cB gE n cE F B E :=
  ⟨h.f.below hb (Nat.le_refl _), h.b.below hb (Nat.le_refl _), h.e.below hb (Nat.le_refl _), h.fl, h.bl, h.el, h.fb, h.fe, h.be, h.bel.trans (hb.mono h.bel.size)⟩
theorem TwM.pushF (h : TwM w wr gF zF cF gB zB cB gE n cE F B E) (ho : OwnI W w.heap.size (.slice (some ⟨g1, 0, none⟩) (zF + 1) c1) (F ++ [x])) (hg : wr.grownBy W (some gF)) (hl : some gF = some g1 ∨ wr.heap.size ≤ g1) : TwM w W g1 (zF + 1) c1 gB zB cB gE n cE (F ++ [x]) B E := by
  have h1 := h.b.lt gB rfl
  have h2 := h.e.lt gE rfl
  have e1 : g1 ≠ gB := by rcases hl with e | e; · injection e with e; rw [← e]; exact h.fb
                          · omega
  have e2 : g1 ≠ gE := by rcases hl with e | e; · injection e with e; rw [← e]; exact h.fe
                          · omega
  exact ⟨ho, h.b.kept hg (.inr (ob_ne2 h.fb.symm)), h.e.kept hg (.inr (ob_ne2 h.fe.symm)), by rw [List.length_append, h.fl]; rfl, h.bl, h.el, e1, e2, h.be, h.bel.grown hg h.bel.size (fun j e => by cases e; exact (h.f.lt gF rfl).1)⟩
theorem TwM.pushB (h : TwM w wr gF zF cF gB zB cB gE n cE F B E) (ho : OwnI W w.heap.size (.slice (some ⟨g1, 0, none⟩) (zB + 1) c1) (B ++ [x])) (hg : wr.grownBy W (some gB)) (hl : some gB = some g1 ∨ wr.heap.size ≤ g1) : TwM w W gF zF cF g1 (zB + 1) c1 gE n cE F (B ++ [x]) E := by
  have h1 := h.f.lt gF rfl
  have h2 := h.e.lt gE rfl
  have e1 : gF ≠ g1 := by rcases hl with e | e; · injection e with e; rw [← e]; exact h.fb
                          · omega
  have e2 : g1 ≠ gE := by rcases hl with e | e; · injection e with e; rw [← e]; exact h.be
                          · omega
  exact ⟨h.f.kept hg (.inr (ob_ne2 h.fb)), ho, h.e.kept hg (.inr (ob_ne2 h.be.symm)), h.fl, by rw [List.length_append, h.bl]; rfl, h.el, e1, h.fe, e2, h.bel.grown hg h.bel.size (fun j e => by cases e; exact (h.b.lt gB rfl).1)⟩
end
def pF (ts : List Int) (x : Int) : Bool := decide (tF ts 2 x.toNat 0 ≤ tF ts 2 x.toNat 1)
def pB (ts : List Int) (x : Int) : Bool := decide (tF ts 2 x.toNat 1 < tF ts 2 x.toNat 0)
def TwR1 (ts : List Int) (n gB gE cE : Nat) (E : List Int) (w : World) (vf vk : Value) (wr : World) : Prop :=
  ∃ (k gF zF cF : Nat), vk = .int .i64 k ∧ k ≤ n ∧ vf = .slice (some ⟨gF, 0, none⟩) zF cF ∧ Hid (TwM w wr gF zF cF gB 0 0 gE n cE ((E.take k).filter (pF ts)) [] E)
def TwR2 (ts : List Int) (n gF zF cF gE cE : Nat) (F E : List Int) (w : World) (vb vk : Value) (wr : World) : Prop :=
  ∃ (k gB zB cB : Nat), vk = .int .i64 k ∧ k ≤ n ∧ vb = .slice (some ⟨gB, 0, none⟩) zB cB ∧ Hid (TwM w wr gF zF cF gB zB cB gE n cE F ((E.take k).filter (pB ts)) E)
theorem filter_snoc {p : Int → Bool} {E : List Int} {k : Nat} (hk : k < E.length) : (E.take (k + 1)).filter p = (E.take k).filter p ++ (if p (nth E k) then [nth E k] else []) := by
  rw [List.take_succ_eq_append_getElem hk, List.filter_append, ← nth_eq hk]
  congr 1
  cases h : p (nth E k) <;> simp [h]
theorem filter_le {p : Int → Bool} {E : List Int} {k n : Nat} (h : E.length = n) : ((E.take k).filter p).length ≤ n := by
  have h1 := List.length_filter_le p (E.take k)
  rw [List.length_take] at h1
  omega
set_option maxRecDepth 100000 in
set_option maxHeartbeats 400000 in
theorem keyA_any (b o T c n q i : Nat) (ts : List Int) (W : World) (hv : ShW W b o T c ts) (hok : ShopOk ts 2 n) (hx : BoxS W q b o T c n 2) (hi : i < n) : KeyAtB 33 #[.pointer (some ⟨q, 0, none⟩)] (fun x => tF ts 2 x.toNat 0) i W := by
  have HC : Hid (Calls Try.prog 31 #[.agg #[.slice (some ⟨b, o, none⟩) T c, .int .i64 n, .int .i64 2], .int .i64 i, .int .i64 0] W fun e w' => e = .returned (.int .i64 (tF ts 2 i 0)) ∧ Below W.heap.size W w') := shAt_any b o T c 2 n i 0 ts W hv hok hi (by omega)
  have x0 := hx.c0
  have x1 := hx.c1
  have x2 : W.cell? ⟨q, 2, none⟩ = some (.int .i64 2) := hx.c2
  clear hv hok hx
  unfold KeyAtB
  go_enter Try.func33, Try.ntmps33
  go_wp2_with fail
  refine HC.out.mono ?_
  rintro e W3 ⟨rfl, hb3⟩
  have HB3 := Lib.hid hb3
  clear hb3 HC
  go_wp2
  go_ret
  exact ⟨rfl, HB3.out⟩
set_option maxRecDepth 100000 in
set_option maxHeartbeats 400000 in
theorem keyB_any (b o T c n q i : Nat) (ts : List Int) (W : World) (hv : ShW W b o T c ts) (hok : ShopOk ts 2 n) (hx : BoxS W q b o T c n 2) (hi : i < n) : KeyAtB 34 #[.pointer (some ⟨q, 0, none⟩)] (fun x => -tF ts 2 x.toNat 1) i W := by
  have HC : Hid (Calls Try.prog 31 #[.agg #[.slice (some ⟨b, o, none⟩) T c, .int .i64 n, .int .i64 2], .int .i64 i, .int .i64 1] W fun e w' => e = .returned (.int .i64 (tF ts 2 i 1)) ∧ Below W.heap.size W w') := shAt_any b o T c 2 n i 1 ts W hv hok hi (by omega)
  have hb := hok.at_ hi (show 1 < 2 by omega)
  have HI : Hid (-tF ts 2 ((i : Int).toNat) 1 = -tF ts 2 i 1) := by show _ = _; rw [Int.toNat_natCast]
  obtain ⟨t, ht⟩ : ∃ t, tF ts 2 i 1 = t := ⟨_, rfl⟩
  rw [ht] at HC hb HI
  have x0 := hx.c0
  have x1 := hx.c1
  have x2 : W.cell? ⟨q, 2, none⟩ = some (.int .i64 2) := hx.c2
  have w1 : IntKind.i64.wrap (-t) = -t := IntWalk.i64_in _ (by omega)
  clear hv hok hx ht
  unfold KeyAtB
  go_enter Try.func34, Try.ntmps34
  go_wp2_with fail
  refine HC.out.mono ?_
  rintro e W3 ⟨rfl, hb3⟩
  have HB3 := Lib.hid hb3
  clear hb3 HC
  go_wp2
  go_ret
  exact ⟨ret_int HI.out.symm, HB3.out⟩
set_option maxRecDepth 100000 in
set_option maxHeartbeats 1000000 in
theorem TwoOrder_any (b o T c n : Nat) (ts : List Int) (w : World) (hv : ShW w b o T c ts) (hok : ShopOk ts 2 n) (h19 : n ≤ 19) :
    Calls Try.prog 16 #[.slice (some ⟨b, o, none⟩) T c] w fun e w' => (∃ g c', e = .returned (.tuple #[.slice (some ⟨g, 0, none⟩) n c', .bool true]) ∧ OwnI w' w.heap.size (.slice (some ⟨g, 0, none⟩) n c') (twoL ts n)) ∧ Below w.heap.size w w' := by
  have hmf : ∀ (fn : Fn) (first cap : Array Value) (w : World), (Instr.makeFunc fn first cap).run Try.prog w = .ok (.func fn first cap) w := fun _ _ _ _ => rfl
  have hn1 := hok.n1
  have hT : T ≤ 1000 := by have := hok.big; have h2 := hok.len; have h3 := hv.len; omega
  have HAS : Hid (Calls Try.prog 23 #[.slice (some ⟨b, o, none⟩) T c, .int .i64 2] w fun e w' => e = .returned (.tuple #[.agg #[.slice (some ⟨b, o, none⟩) T c, .int .i64 n, .int .i64 2], .bool true]) ∧ Below w.heap.size w w') := asShop_any b o T c ts 2 n w (hv.ints hT) hok
  have HSA : Hid (∀ q W, q < W.heap.size → Below w.heap.size w W → BoxS W q b o T c n 2 → Calls Try.prog 32 #[.int .i64 n, .func (.func 33) #[] #[.pointer (some ⟨q, 0, none⟩)]] W fun e w' => (∃ g c, e = .returned (.slice (some ⟨g, 0, none⟩) n c) ∧ OwnI w' W.heap.size (.slice (some ⟨g, 0, none⟩) n c) (sortsL (fun x => tF ts 2 x.toNat 0) n)) ∧ Below W.heap.size W w') := fun q W hq hW hx => by
    refine (sortedByB_any n 33 #[.pointer (some ⟨q, 0, none⟩)] (fun x => tF ts 2 x.toNat 0) W h19 (fun W' x hx0 hx1 hW' => ?_) (enters_of Try.func33 (by kernel_rfl) rfl)).mono ?_
    · obtain ⟨i, rfl⟩ : ∃ i : Nat, x = i := ⟨x.toNat, by omega⟩
      exact keyA_any b o T c n q i ts W' (hv.below (hW.trans (hW'.mono hW.size))) hok (hx.below hW' hq) (by omega)
    · rintro e w' ⟨⟨g, c', E, k1, k2, k3, k4⟩, k5⟩
      exact ⟨⟨g, c', k1, by rw [sorts_one (sortsL_ok _ n) k4]; exact k2⟩, k5⟩
  have HSB : Hid (∀ q W, q < W.heap.size → Below w.heap.size w W → BoxS W q b o T c n 2 → Calls Try.prog 32 #[.int .i64 n, .func (.func 34) #[] #[.pointer (some ⟨q, 0, none⟩)]] W fun e w' => (∃ g c, e = .returned (.slice (some ⟨g, 0, none⟩) n c) ∧ OwnI w' W.heap.size (.slice (some ⟨g, 0, none⟩) n c) (sortsL (fun x => -tF ts 2 x.toNat 1) n)) ∧ Below W.heap.size W w') := fun q W hq hW hx => by
    refine (sortedByB_any n 34 #[.pointer (some ⟨q, 0, none⟩)] (fun x => -tF ts 2 x.toNat 1) W h19 (fun W' x hx0 hx1 hW' => ?_) (enters_of Try.func34 (by kernel_rfl) rfl)).mono ?_
    · obtain ⟨i, rfl⟩ : ∃ i : Nat, x = i := ⟨x.toNat, by omega⟩
      exact keyB_any b o T c n q i ts W' (hv.below (hW.trans (hW'.mono hW.size))) hok (hx.below hW' hq) (by omega)
    · rintro e w' ⟨⟨g, c', E, k1, k2, k3, k4⟩, k5⟩
      exact ⟨⟨g, c', k1, by rw [sorts_one (sortsL_ok _ n) k4]; exact k2⟩, k5⟩
  have HA0 : Hid (∀ (j : Nat) W, j < n → Below w.heap.size w W → Calls Try.prog 31 #[.agg #[.slice (some ⟨b, o, none⟩) T c, .int .i64 n, .int .i64 2], .int .i64 j, .int .i64 0] W fun e w' => e = .returned (.int .i64 (tF ts 2 j 0)) ∧ Below W.heap.size W w') := fun j W hj hW => shAt_any b o T c 2 n j 0 ts W (hv.below hW) hok hj (by omega)
  have HA1 : Hid (∀ (j : Nat) W, j < n → Below w.heap.size w W → Calls Try.prog 31 #[.agg #[.slice (some ⟨b, o, none⟩) T c, .int .i64 n, .int .i64 2], .int .i64 j, .int .i64 1] W fun e w' => e = .returned (.int .i64 (tF ts 2 j 1)) ∧ Below W.heap.size W w') := fun j W hj hW => shAt_any b o T c 2 n j 1 ts W (hv.below hW) hok hj (by omega)
  have HTL : Hid ((twoL ts n).length = n) := by show _ = _; rw [(twoL_ok ts n).perm.length_eq, idL_length]
  clear hv hok hT
  go_enter Try.func16, Try.ntmps16
  go_wp2_with fail
  refine HAS.out.mono ?_
  rintro e W2 ⟨rfl, hb2⟩
  have HB2 := Lib.hid hb2
  clear hb2 HAS
  obtain ⟨q, hq⟩ : ∃ q, W2.heap.size = q := ⟨_, rfl⟩
  go_upto_region 4 with fail
  obtain ⟨W3, hW3⟩ : ∃ W, W2.alloc (.cells #[.slice (some ⟨b, o, none⟩) T c, .int .i64 n, .int .i64 2] 43) = W := ⟨_, rfl⟩
  have HB3 : Hid (Below w.heap.size w W3) := by show Below _ _ _; rw [← hW3]; exact HB2.out.alloc HB2.out.size _
  have HX3 : Hid (BoxS W3 q b o T c n 2) := by show BoxS _ _ _ _ _ _ _ _; rw [← hW3, ← hq]; exact BoxS.new W2 b o T c n 2
  have HQ3 : Hid (q < W3.heap.size) := by show _ < _; rw [← hW3]; simp; omega
  rw [hW3]
  clear hW3 hq
  go_upto_region 5 with fail
  obtain ⟨gA, hgA⟩ : ∃ g, W3.heap.size = g := ⟨_, rfl⟩
  obtain ⟨gB, hgB⟩ : ∃ g, gA + 1 = g := ⟨_, rfl⟩
  obtain ⟨W4, hW4⟩ : ∃ W, (W3.alloc (.cells #[] 2)).alloc (.cells #[] 2) = W := ⟨_, rfl⟩
  have HO4 : Hid (OwnI W4 W3.heap.size (.slice (some ⟨gA, 0, none⟩) 0 0) [] ∧ OwnI W4 W3.heap.size (.slice (some ⟨gB, 0, none⟩) 0 0) [] ∧ Below W3.heap.size W3 W4 ∧ gB < W4.heap.size) := by
    have h1 := OwnI.lit W3 W3.heap.size [] (Nat.le_refl _) (by unfold maxLen; simp)
    have h2 := OwnI.lit (W3.alloc (.cells #[] 2)) W3.heap.size [] (by simp) (by unfold maxLen; simp)
    rw [show (W3.alloc (.cells #[] 2)).heap.size = W3.heap.size + 1 by simp, hgA, hgB] at h2
    rw [hgA] at h1
    show _ ∧ _
    rw [← hW4, hgA]
    refine ⟨h1.alloc _, h2, ?_, by simp; omega⟩
    rw [← hgA]
    exact ((Below.refl _ _).alloc (Nat.le_refl _) _).alloc (by simp) _
  have HGA := Lib.hid hgA
  have HGB := Lib.hid hgB
  have HW4 := Lib.hid hW4
  simp only [HW4.out, HGA.out, HGB.out]
  have hB4 : Below w.heap.size w W4 := HB3.out.trans (HO4.out.2.2.1.mono HB3.out.size)
  have hX4 := HX3.out.below HO4.out.2.2.1 HQ3.out
  have x1 := hX4.c1
  have HSA4 := Lib.hid (HSA.out q W4 (by have := HO4.out.2.2.1.size; have := HQ3.out; omega) hB4 hX4)
  clear hgA hgB hW4 hB4 hX4 HSA
  go_wp2_with fail
  refine HSA4.out.mono ?_
  rintro e W5 ⟨⟨gE, cE, rfl, hoE⟩, hb5⟩
  have HT5 : Hid (TwM W3 W5 gA 0 0 gB 0 0 gE n cE [] [] (sortsL (fun x => tF ts 2 x.toNat 0) n)) := by
    have h := HO4.out
    have hlt := hoE.lt gE rfl
    have ha := h.1.lt gA rfl
    have e1 := HGA.out
    have e2 := HGB.out
    exact ⟨h.1.below hb5 (Nat.le_refl _), h.2.1.below hb5 (Nat.le_refl _), hoE.mono h.2.2.1.size, rfl, rfl, by rw [(sortsL_ok _ n).1.length_eq, idL_length], by omega, by omega, by omega, h.2.2.1.trans (hb5.mono h.2.2.1.size)⟩
  have HR0 : Hid (TwR1 ts n gB gE cE (sortsL (fun x => tF ts 2 x.toNat 0) n) W3 (.slice (some ⟨gA, 0, none⟩) 0 0) (.int .i64 0) W5) := ⟨0, gA, 0, 0, rfl, Nat.zero_le _, rfl, by rw [List.take_zero]; exact HT5.out⟩
  have HS1 : Hid (SortsBy (fun x => tF ts 2 x.toNat 0) n (sortsL (fun x => tF ts 2 x.toNat 0) n)) := sortsL_ok _ n
  have HTF : Hid ((sortsL (fun x => tF ts 2 x.toNat 0) n).filter (pF ts) = twoF ts n) := rfl
  obtain ⟨E1, hE1⟩ : ∃ E, sortsL (fun x => tF ts 2 x.toNat 0) n = E := ⟨_, rfl⟩
  rw [hE1] at HR0 HS1 HTF
  clear hoE hb5 HSA4 HT5 HO4 HW4 x1 hE1
  go_wp2_with fail
  go_loopw [6, 26] (fun v1 vk wr => TwR1 ts n gB gE cE E1 W3 v1 vk wr) (fun _ vk _ => n - (intOf vk).toNat)
  case atStart => exact HR0.out
  case round =>
    obtain ⟨k, gF, zF, cF, rfl, hkn, rfl, HM⟩ := hrel
    clear HR0
    have HBw : Hid (Below w.heap.size w wr) := HB3.out.trans (HM.out.bel.mono HB3.out.size)
    have hX := HX3.out.below HM.out.bel HQ3.out
    have x0 := hX.c0
    have x1 := hX.c1
    have x2 : wr.cell? ⟨q, 2, none⟩ = some (.int .i64 2) := hX.c2
    by_cases hk2 : k < n
    · have k0 : (0 : Int) ≤ (k : Int) := by omega
      have k1 : (k : Int) < (n : Int) := by omega
      have hkE : k < E1.length := by rw [← HM.out.el]; exact hk2
      have hlt := hkE
      obtain ⟨i, hi, hin⟩ := (ordOkF_perm HS1.out.1).el k hkE
      have ck := HM.out.e.at_ HM.out.el k hkE
      rw [hi] at ck
      have HFS := Lib.hid (filter_snoc (p := pF ts) hkE)
      rw [hi] at HFS
      have HC0 : Hid (∀ q', Calls Try.prog 31 #[.agg #[.slice (some ⟨b, o, none⟩) T c, .int .i64 n, .int .i64 2], .int .i64 i, .int .i64 0] (wr.drewN q') fun e w' => e = .returned (.int .i64 (tF ts 2 i 0)) ∧ Below wr.heap.size wr w') := fun q' => by
        have hk := below_drewN q' (Below.refl wr.heap.size wr)
        refine (HA0.out i (wr.drewN q') hin (HBw.out.trans (hk.mono HBw.out.size))).mono ?_
        rintro e w' ⟨h1, h2⟩
        exact ⟨h1, hk.trans h2⟩
      have HC1 : Hid (∀ W', Below wr.heap.size wr W' → Calls Try.prog 31 #[.agg #[.slice (some ⟨b, o, none⟩) T c, .int .i64 n, .int .i64 2], .int .i64 i, .int .i64 1] W' fun e w' => e = .returned (.int .i64 (tF ts 2 i 1)) ∧ Below wr.heap.size wr w') := fun W' hW' => by
        refine (HA1.out i W' hin (HBw.out.trans (hW'.mono HBw.out.size))).mono ?_
        rintro e w' ⟨h1, h2⟩
        exact ⟨h1, hW'.trans (h2.mono hW'.size)⟩
      have HXC : Hid (∀ W', Below wr.heap.size wr W' → W'.cell? ⟨q, 0, none⟩ = some (.slice (some ⟨b, o, none⟩) T c) ∧ W'.cell? ⟨q, 1, none⟩ = some (.int .i64 n) ∧ W'.cell? ⟨q, 2, none⟩ = some (.int .i64 2)) := fun W' hW' => by
        have h := HX3.out.below (HM.out.bel.trans (hW'.mono HM.out.bel.size)) HQ3.out
        exact ⟨h.c0, h.c1, h.c2⟩
      have HMB : Hid (∀ W', Below wr.heap.size wr W' → TwM W3 W' gF zF cF gB 0 0 gE n cE ((E1.take k).filter (pF ts)) [] E1) := fun W' hW' => HM.out.below hW'
      have HZB : Hid (zF ≤ 19) := by show _ ≤ _; rw [HM.out.fl]; exact Nat.le_trans (filter_le (by rw [← HM.out.el])) h19
      have HPD : Hid (pF ts (i : Int) = decide (tF ts 2 i 0 ≤ tF ts 2 i 1)) := by show pF ts _ = _; unfold pF; rw [Int.toNat_natCast]
      obtain ⟨ta, hta⟩ : ∃ x, tF ts 2 i 0 = x := ⟨_, rfl⟩
      obtain ⟨tb, htb⟩ : ∃ x, tF ts 2 i 1 = x := ⟨_, rfl⟩
      rw [hta] at HC0 HPD
      rw [htb] at HC1 HPD
      clear hX hi hkE hlt hta htb HM
      have go : True := trivial
      by_cases hab : ta ≤ tb
      · have HFS2 : Hid ((E1.take (k + 1)).filter (pF ts) = (E1.take k).filter (pF ts) ++ [(i : Int)]) := by show _ = _; rw [HFS.out, HPD.out, decide_eq_true hab, if_pos rfl]
        clear HFS HPD
        go_wp2_with fail
        go_region_held3 (fun w' => w'.cell? ⟨q, 0, none⟩ = some (.slice (some ⟨b, o, none⟩) T c) ∧ w'.cell? ⟨q, 1, none⟩ = some (.int .i64 n) ∧ w'.cell? ⟨q, 2, none⟩ = some (.int .i64 2)) (first | go_keep)
          (first
            | (go_at_call 31; refine (HC1.out _ HB6.out).mono ?_; rintro e W7 ⟨rfl, hb7⟩; have HB7 := Lib.hid hb7; obtain ⟨z0, z1, z2⟩ := HXC.out W7 hb7; clear hb7)
            | (go_at_call 31; refine (HC0.out _).mono ?_; rintro e W6 ⟨rfl, hb6⟩; have HB6 := Lib.hid hb6; obtain ⟨y0, y1, y2⟩ := HXC.out W6 hb6; clear hb6))
        have HM7 := Lib.hid (HMB.out W7 HB7.out)
        have hs7 : W3.heap.size ≤ W7.heap.size := HM7.out.bel.size
        obtain ⟨FF, hFF⟩ : ∃ F, (E1.take k).filter (pF ts) = F := ⟨_, rfl⟩
        rw [hFF] at HM7 HFS2
        have HLN : Hid (FF.length = zF) := HM7.out.fl.symm
        clear HMB hFF
        go_wp2_with (at_builtin; refine append_i64L rfl _ _ rfl W3.heap.size (.slice (some ⟨gF, 0, none⟩) zF cF) FF [(i : Int)] (Nat.zero_lt_succ _) rfl _ rfl HM7.out.f hs7 (by have := HZB.out; rw [HLN.out]; simp only [List.length_singleton]; omega) ?_; intro g8 c8 w8 ho8 hg8 hl8; rw [HLN.out] at ho8; have HM8 := Lib.hid (HM7.out.pushF ho8 hg8 hl8); simp only [HLN.out, List.length_singleton]; clear ho8 hg8 hl8)
        go_roundw
        case rel => exact ⟨k + 1, g8, zF + 1, c8, by go_num, by omega, rfl, by rw [HFS2.out]; exact HM8.out⟩
        case measure => simp [intOf]; omega
      · have HFS2 : Hid ((E1.take (k + 1)).filter (pF ts) = (E1.take k).filter (pF ts)) := by show _ = _; rw [HFS.out, HPD.out, decide_eq_false hab, if_neg (by decide), List.append_nil]
        clear HFS HPD
        go_wp2_with fail
        go_region_held3 (fun w' => w'.cell? ⟨q, 0, none⟩ = some (.slice (some ⟨b, o, none⟩) T c) ∧ w'.cell? ⟨q, 1, none⟩ = some (.int .i64 n) ∧ w'.cell? ⟨q, 2, none⟩ = some (.int .i64 2)) (first | go_keep)
          (first
            | (go_at_call 31; refine (HC1.out _ HB6.out).mono ?_; rintro e W7 ⟨rfl, hb7⟩; have HB7 := Lib.hid hb7; obtain ⟨z0, z1, z2⟩ := HXC.out W7 hb7; clear hb7)
            | (go_at_call 31; refine (HC0.out _).mono ?_; rintro e W6 ⟨rfl, hb6⟩; have HB6 := Lib.hid hb6; obtain ⟨y0, y1, y2⟩ := HXC.out W6 hb6; clear hb6))
        have HM7 := Lib.hid (HMB.out W7 HB7.out)
        clear HMB
        go_wp2
        go_roundw
        case rel => exact ⟨k + 1, gF, zF, cF, by go_num, by omega, rfl, by rw [HFS2.out]; exact HM7.out⟩
        case measure => simp [intOf]; omega
    · obtain rfl : n = k := by omega
      have HF1 : Hid ((E1.take n).filter (pF ts) = twoF ts n) := by show _ = _; rw [HM.out.el, List.take_length]; rw [← HM.out.el]; exact HTF.out
      obtain ⟨F1, hF1⟩ : ∃ F, twoF ts n = F := ⟨_, rfl⟩
      have HF2 := Lib.hid hF1
      have HM1 := HM
      rw [HF1.out, hF1] at HM1
      have HSB4 := Lib.hid (HSB.out q wr (by have := HM.out.bel.size; have := HQ3.out; omega) HBw.out hX)
      clear hF1 HSB hX HF1
      go_wp2_with fail
      refine HSB4.out.mono ?_
      rintro e W9 ⟨⟨gE2, cE2, rfl, hoE⟩, hb9⟩
      have HT9 : Hid (TwM W3 W9 gF zF cF gB 0 0 gE2 n cE2 F1 [] (sortsL (fun x => -tF ts 2 x.toNat 1) n)) := by
        have h := HM1.out.below hb9
        have hlt := hoE.lt gE2 rfl
        have ha := HM1.out.f.lt gF rfl
        have hb := HM1.out.b.lt gB rfl
        exact ⟨h.f, h.b, hoE.mono HM1.out.bel.size, h.fl, h.bl, by rw [(sortsL_ok _ n).1.length_eq, idL_length], h.fb, by omega, by omega, h.bel⟩
      have HR2 : Hid (TwR2 ts n gF zF cF gE2 cE2 F1 (sortsL (fun x => -tF ts 2 x.toNat 1) n) W3 (.slice (some ⟨gB, 0, none⟩) 0 0) (.int .i64 0) W9) := ⟨0, gB, 0, 0, rfl, Nat.zero_le _, rfl, by rw [List.take_zero]; exact HT9.out⟩
      have HS2 : Hid (SortsBy (fun x => -tF ts 2 x.toNat 1) n (sortsL (fun x => -tF ts 2 x.toNat 1) n)) := sortsL_ok _ n
      have HTB : Hid ((sortsL (fun x => -tF ts 2 x.toNat 1) n).filter (pB ts) = twoB ts n) := rfl
      obtain ⟨E2, hE2⟩ : ∃ E, sortsL (fun x => -tF ts 2 x.toNat 1) n = E := ⟨_, rfl⟩
      rw [hE2] at HR2 HS2 HTB
      clear hoE hb9 HSB4 HT9 hE2 x0 x1 x2 HM HM1 HBw
      go_wp2_with fail
      go_loopw [7, 47] (fun v1 vk wr => TwR2 ts n gF zF cF gE2 cE2 F1 E2 W3 v1 vk wr) (fun _ vk _ => n - (intOf vk).toNat)
      case atStart => exact HR2.out
      case round =>
        obtain ⟨k, gB2, zB, cB, rfl, hkn, rfl, HM⟩ := hrel
        clear HR2
        have HBw : Hid (Below w.heap.size w wr) := HB3.out.trans (HM.out.bel.mono HB3.out.size)
        have hX := HX3.out.below HM.out.bel HQ3.out
        have x0 := hX.c0
        have x1 := hX.c1
        have x2 : wr.cell? ⟨q, 2, none⟩ = some (.int .i64 2) := hX.c2
        by_cases hk2 : k < n
        · have k0 : (0 : Int) ≤ (k : Int) := by omega
          have k1 : (k : Int) < (n : Int) := by omega
          have hkE : k < E2.length := by rw [← HM.out.el]; exact hk2
          have hlt := hkE
          obtain ⟨i, hi, hin⟩ := (ordOkF_perm HS2.out.1).el k hkE
          have ck := HM.out.e.at_ HM.out.el k hkE
          rw [hi] at ck
          have HFS := Lib.hid (filter_snoc (p := pB ts) hkE)
          rw [hi] at HFS
          have HC0 : Hid (∀ q', Calls Try.prog 31 #[.agg #[.slice (some ⟨b, o, none⟩) T c, .int .i64 n, .int .i64 2], .int .i64 i, .int .i64 0] (wr.drewN q') fun e w' => e = .returned (.int .i64 (tF ts 2 i 0)) ∧ Below wr.heap.size wr w') := fun q' => by
            have hk := below_drewN q' (Below.refl wr.heap.size wr)
            refine (HA0.out i (wr.drewN q') hin (HBw.out.trans (hk.mono HBw.out.size))).mono ?_
            rintro e w' ⟨h1, h2⟩
            exact ⟨h1, hk.trans h2⟩
          have HC1 : Hid (∀ W', Below wr.heap.size wr W' → Calls Try.prog 31 #[.agg #[.slice (some ⟨b, o, none⟩) T c, .int .i64 n, .int .i64 2], .int .i64 i, .int .i64 1] W' fun e w' => e = .returned (.int .i64 (tF ts 2 i 1)) ∧ Below wr.heap.size wr w') := fun W' hW' => by
            refine (HA1.out i W' hin (HBw.out.trans (hW'.mono HBw.out.size))).mono ?_
            rintro e w' ⟨h1, h2⟩
            exact ⟨h1, hW'.trans (h2.mono hW'.size)⟩
          have HXC : Hid (∀ W', Below wr.heap.size wr W' → W'.cell? ⟨q, 0, none⟩ = some (.slice (some ⟨b, o, none⟩) T c) ∧ W'.cell? ⟨q, 1, none⟩ = some (.int .i64 n) ∧ W'.cell? ⟨q, 2, none⟩ = some (.int .i64 2)) := fun W' hW' => by
            have h := HX3.out.below (HM.out.bel.trans (hW'.mono HM.out.bel.size)) HQ3.out
            exact ⟨h.c0, h.c1, h.c2⟩
          have HMB : Hid (∀ W', Below wr.heap.size wr W' → TwM W3 W' gF zF cF gB2 zB cB gE2 n cE2 F1 ((E2.take k).filter (pB ts)) E2) := fun W' hW' => HM.out.below hW'
          have HZB : Hid (zB ≤ 19) := by show _ ≤ _; rw [HM.out.bl]; exact Nat.le_trans (filter_le (by rw [← HM.out.el])) h19
          have HPD : Hid (pB ts (i : Int) = decide (tF ts 2 i 1 < tF ts 2 i 0)) := by show pB ts _ = _; unfold pB; rw [Int.toNat_natCast]
          obtain ⟨ta, hta⟩ : ∃ x, tF ts 2 i 0 = x := ⟨_, rfl⟩
          obtain ⟨tb, htb⟩ : ∃ x, tF ts 2 i 1 = x := ⟨_, rfl⟩
          rw [hta] at HC0 HPD
          rw [htb] at HC1 HPD
          clear hX hi hkE hlt hta htb HM
          have go : True := trivial
          by_cases hab : tb < ta
          · have HFS2 : Hid ((E2.take (k + 1)).filter (pB ts) = (E2.take k).filter (pB ts) ++ [(i : Int)]) := by show _ = _; rw [HFS.out, HPD.out, decide_eq_true hab, if_pos rfl]
            clear HFS HPD
            go_wp2_with fail
            go_region_held3 (fun w' => w'.cell? ⟨q, 0, none⟩ = some (.slice (some ⟨b, o, none⟩) T c) ∧ w'.cell? ⟨q, 1, none⟩ = some (.int .i64 n) ∧ w'.cell? ⟨q, 2, none⟩ = some (.int .i64 2)) (first | go_keep)
              (first
                | (go_at_call 31; refine (HC1.out _ HB6.out).mono ?_; rintro e W7 ⟨rfl, hb7⟩; have HB7 := Lib.hid hb7; obtain ⟨z0, z1, z2⟩ := HXC.out W7 hb7; clear hb7)
                | (go_at_call 31; refine (HC0.out _).mono ?_; rintro e W6 ⟨rfl, hb6⟩; have HB6 := Lib.hid hb6; obtain ⟨y0, y1, y2⟩ := HXC.out W6 hb6; clear hb6))
            have HM7 := Lib.hid (HMB.out W7 HB7.out)
            have hs7 : W3.heap.size ≤ W7.heap.size := HM7.out.bel.size
            obtain ⟨FF, hFF⟩ : ∃ F, (E2.take k).filter (pB ts) = F := ⟨_, rfl⟩
            rw [hFF] at HM7 HFS2
            have HLN : Hid (FF.length = zB) := HM7.out.bl.symm
            clear HMB hFF
            go_wp2_with (at_builtin; refine append_i64L rfl _ _ rfl W3.heap.size (.slice (some ⟨gB2, 0, none⟩) zB cB) FF [(i : Int)] (Nat.zero_lt_succ _) rfl _ rfl HM7.out.b hs7 (by have := HZB.out; rw [HLN.out]; simp only [List.length_singleton]; omega) ?_; intro g8 c8 w8 ho8 hg8 hl8; rw [HLN.out] at ho8; have HM8 := Lib.hid (HM7.out.pushB ho8 hg8 hl8); simp only [HLN.out, List.length_singleton]; clear ho8 hg8 hl8)
            go_roundw
            case rel => exact ⟨k + 1, g8, zB + 1, c8, by go_num, by omega, rfl, by rw [HFS2.out]; exact HM8.out⟩
            case measure => simp [intOf]; omega
          · have HFS2 : Hid ((E2.take (k + 1)).filter (pB ts) = (E2.take k).filter (pB ts)) := by show _ = _; rw [HFS.out, HPD.out, decide_eq_false hab, if_neg (by decide), List.append_nil]
            clear HFS HPD
            go_wp2_with fail
            go_region_held3 (fun w' => w'.cell? ⟨q, 0, none⟩ = some (.slice (some ⟨b, o, none⟩) T c) ∧ w'.cell? ⟨q, 1, none⟩ = some (.int .i64 n) ∧ w'.cell? ⟨q, 2, none⟩ = some (.int .i64 2)) (first | go_keep)
              (first
                | (go_at_call 31; refine (HC1.out _ HB6.out).mono ?_; rintro e W7 ⟨rfl, hb7⟩; have HB7 := Lib.hid hb7; obtain ⟨z0, z1, z2⟩ := HXC.out W7 hb7; clear hb7)
                | (go_at_call 31; refine (HC0.out _).mono ?_; rintro e W6 ⟨rfl, hb6⟩; have HB6 := Lib.hid hb6; obtain ⟨y0, y1, y2⟩ := HXC.out W6 hb6; clear hb6))
            have HM7 := Lib.hid (HMB.out W7 HB7.out)
            clear HMB
            go_wp2
            go_roundw
            case rel => exact ⟨k + 1, gB2, zB, cB, by go_num, by omega, rfl, by rw [HFS2.out]; exact HM7.out⟩
            case measure => simp [intOf]; omega
        · obtain rfl : n = k := by omega
          have HBE : Hid ((E2.take n).filter (pB ts) = twoB ts n) := by show _ = _; rw [HM.out.el, List.take_length]; rw [← HM.out.el]; exact HTB.out
          have HM1 := HM
          obtain ⟨B1, hB1⟩ : ∃ F, twoB ts n = F := ⟨_, rfl⟩
          rw [HBE.out, hB1] at HM1
          have HFB : Hid (F1 ++ B1 = twoL ts n) := by show _ = _; rw [← HF2.out, ← hB1]; rfl
          have HFL : Hid (F1.length + B1.length = n) := by show _ = _; rw [← List.length_append, HFB.out]; exact HTL.out
          have hsz : W3.heap.size ≤ wr.heap.size := HM1.out.bel.size
          have HCB : Hid (∀ i (h : i < B1.length), wr.cell? ⟨gB2, 0 + i, none⟩ = some (.int .i64 B1[i])) := fun i h => by rw [Nat.zero_add, HM1.out.b.at_ HM1.out.bl i h, nth_eq h]
          clear hB1 HM HBE hX
          have HKK : Hid (∀ g8 c8 w8, OwnI w8 W3.heap.size (.slice (some ⟨g8, 0, none⟩) (F1.length + B1.length) c8) (F1 ++ B1) → wr.grownBy w8 (some gF) → OwnI w8 w.heap.size (.slice (some ⟨g8, 0, none⟩) n c8) (twoL ts n) ∧ Below w.heap.size w w8) := fun g8 c8 w8 ho8 hg8 => by
            rw [HFL.out, HFB.out] at ho8
            exact ⟨ho8.mono HB3.out.size, HB3.out.trans ((HM1.out.bel.grown hg8 hsz (fun j e => by cases e; exact (HM1.out.f.lt gF rfl).1)).mono HB3.out.size)⟩
          have HSM : Hid (F1.length + B1.length ≤ 1048576) := by show _ ≤ _; rw [HFL.out]; omega
          go_wp2_with (at_builtin; refine wpList_append_any rfl _ _ rfl W3.heap.size gF zF cF F1 B1 HM1.out.fl rfl gB2 0 zB cB HM1.out.bl rfl HCB.out HM1.out.f hsz (Nat.le_trans HSM.out (by decide)) ?_; intro g8 c8 w8 ho8 hg8; have HK8 := Lib.hid (HKK.out g8 c8 w8 ho8 hg8); simp only [HFL.out]; clear ho8 hg8)
          go_ret2
          exact ⟨⟨g8, c8, rfl, HK8.out.1⟩, HK8.out.2⟩
end Go.Proofs.Ytckdfahbhagoaaa
