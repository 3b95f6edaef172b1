
/- slices.SortStableFunc on integers: its insertion sort. Conditions: at most 2^20 elements. -/
import Derived.Test.YtnpfninkopffmaaSortW
namespace Go.Proofs.Ytnpfninkopffmaa
open Go.RowKit
set_option linter.unusedVariables false
set_option linter.unusedSimpArgs false

/-- What is asked of the function that compares: it only reads. -/
def CmpOk (kb : Nat) (cf : Int → Int → Int) (g : Nat) (D : List Int) (w : World) : Prop :=
  ∀ W x y, x ∈ D → y ∈ D → GrownL [g] w W → Calls Try.prog 106 #[.int .i64 x, .int .i64 y, .pointer (some ⟨kb, 0, none⟩)] W fun e w' => e = .returned (.int .i64 (cf x y)) ∧ ∃ q, w' = W.drewN q
theorem quiet_drewI {P : Program} {f : FuncId} {args : Array Value} {w : World} {n : Nat} {v : Value}
    (h : Calls P f args (w.drewN n) fun e w' => e = .returned v ∧ ∃ q, w' = (w.drewN n).drewN q) : Calls P f args (w.drewN n) fun e w'' => e = .returned v ∧ ∃ m, w'' = w.drewN m :=
  h.mono fun _ _ ⟨he, q, hq⟩ => ⟨he, n + q, by rw [hq]; simp⟩

theorem GrownL.row1 {g : Nat} {A W W' : World} (h : GrownL [g] A W) (hg : W.grownBy W' (some g)) : GrownL [g] A W' := h.grown hg fun j e => .inl (by cases e; simp)
theorem nth_mem {d : List Int} {i : Nat} (h : i < d.length) : nth d i ∈ d := by rw [nth_eq h]; exact List.getElem_mem h
theorem OwnI.belowB {w W : World} {N : Nat} {v : Value} {d : List Int} (h : OwnI w N v d) (hb : Below w.heap.size w W) : OwnI W N v d := h.below hb (Nat.le_refl _)

set_option maxRecDepth 100000 in
set_option maxHeartbeats 2000000 in
theorem insertion_any (g n c a b N kb : Nat) (key : Int → Int) (cf : Int → Int → Int) (hcf : ∀ x y, cf x y < 0 ↔ key x < key y) (D0 D : List Int) (w0 w : World) (hg0 : GrownL [g] w0 w) (ho : OwnI w N (.slice (some ⟨g, 0, none⟩) n c) D) (hn : n = D.length) (hperm : D.Perm D0) (hcmp : CmpOk kb cf g D0 w0)
    (hab : a ≤ b) (hb : b ≤ n) (hsz : n ≤ 1048576) (hasc : ∀ p q, a ≤ p → p < q → q < b → nth D p < nth D q) :
    Calls Try.prog 144 #[.slice (some ⟨g, 0, none⟩) n c, .int .i64 a, .int .i64 b, .func (.func 106) #[] #[.pointer (some ⟨kb, 0, none⟩)]] w fun e w' => e = .returned (.tuple #[]) ∧ ∃ E, OwnI w' N (.slice (some ⟨g, 0, none⟩) n c) E ∧ SortedOn key E a b ∧ SegSame D E a b ∧ GrownL [g] w0 w' := by
  have HO := Lib.hid ho
  have HN := Lib.hid hn
  have HG0 := Lib.hid hg0
  have HASC := Lib.hid hasc
  have HCMP : Hid (∀ W E x y, E.Perm D → x < n → y < n → GrownL [g] w0 W → Calls Try.prog 106 #[.int .i64 (nth E x), .int .i64 (nth E y), .pointer (some ⟨kb, 0, none⟩)] W fun e w' => e = .returned (.int .i64 (cf (nth E x) (nth E y))) ∧ ∃ q, w' = W.drewN q) := fun W E x y hE hx hy hW => hcmp W _ _ ((hE.trans hperm).subset (nth_mem (by rw [hE.length_eq, ← hn]; exact hx))) ((hE.trans hperm).subset (nth_mem (by rw [hE.length_eq, ← hn]; exact hy))) hW
  have HH : Hid (g < w0.heap.size ∨ w0.heap.size ≤ g) := by show _ ∨ _; omega
  clear ho hn hg0 hcmp hperm hasc
  go_enter Try.func144, Try.ntmps144
  go_wp2
  go_loopw [8] (fun vi wr => ∃ (i : Nat) (E : List Int), a < i ∧ i ≤ b + 1 ∧ vi = .int .i64 i ∧ Hid (OwnI wr N (.slice (some ⟨g, 0, none⟩) n c) E) ∧ Hid (SortedOn key E a i ∧ SegSame D E a (min i b) ∧ E.length = n) ∧ Hid (GrownL [g] w0 wr)) (fun vi _ => b + 1 - (intOf vi).toNat)
  case atStart => exact ⟨a + 1, D, by omega, by omega, by go_num, HO.out, ⟨fun i j h1 h2 h3 => by omega, SegSame.refl _ _ _, HN.out.symm⟩, HG0.out⟩
  case round =>
    obtain ⟨i, E, hai, hib, rfl, HE, HS, HG⟩ := hrel
    by_cases hi : i < b
    · have i1 : (i : Int) < (b : Int) := by omega
      have HINS : Hid (InsInv key E a i i ∧ SegSame D E a (i + 1)) := by
        obtain ⟨h1, h2, h3⟩ := HS.out
        rw [Nat.min_eq_left (by omega)] at h2
        refine ⟨InsInv.start h1 (by omega) fun p p1 p2 => ?_, h2.wide (Nat.le_refl _) (by omega)⟩
        obtain ⟨p', x1, x2, x3⟩ := h2.mem p p1 p2
        rw [x3, h2.out i (.inr (Nat.le_refl _))]
        exact HASC.out p' i x1 x2 hi
      have HLN : Hid (E.length = n) := HS.out.2.2
      clear HS
      go_wp2
      go_loopw [9] (fun vj wi => ∃ (j : Nat) (F : List Int), a ≤ j ∧ j ≤ i ∧ vj = .int .i64 j ∧ Hid (OwnI wi N (.slice (some ⟨g, 0, none⟩) n c) F) ∧ Hid (InsInv key F a i j ∧ SegSame D F a (i + 1) ∧ F.length = n) ∧ Hid (GrownL [g] w0 wi)) (fun vj _ => (intOf vj).toNat)
      case atStart => exact ⟨i, E, by omega, Nat.le_refl _, rfl, HE.out, ⟨HINS.out.1, HINS.out.2, HLN.out⟩, HG.out⟩
      case round =>
        obtain ⟨j, F, haj, hji, rfl, HF, HI, HGI⟩ := hrel
        clear HE HINS HLN HG
        by_cases hja : a < j
        · have j1 : (j : Int) > (a : Int) := by omega
          have jm : (j : Int) - 1 = ((j - 1 : Nat) : Int) := by omega
          obtain ⟨p, hp⟩ : ∃ p, j - 1 = p := ⟨_, rfl⟩
          rw [hp] at jm
          have hjn : j < n := by omega
          have hpn : p < n := by omega
          have hjw : IntKind.i64.wrap (p : Int) = (p : Int) := IntWalk.i64_in _ (by omega)
          have hp0 : (0 : Int) ≤ (p : Int) := by omega
          have hp1 : (p : Int) < (n : Int) := by omega
          have hj0 : (0 : Int) ≤ (j : Int) := by omega
          have hj2 : (j : Int) < (n : Int) := by omega
          have cj := HF.out.at_ HI.out.2.2.symm j (by rw [HI.out.2.2]; exact hjn)
          have cp := HF.out.at_ HI.out.2.2.symm p (by rw [HI.out.2.2]; exact hpn)
          have HC : Hid (∀ n, Calls Try.prog 106 #[.int .i64 (nth F j), .int .i64 (nth F p), .pointer (some ⟨kb, 0, none⟩)] (wr.drewN n) fun e w' => e = .returned (.int .i64 (cf (nth F j) (nth F p))) ∧ ∃ q, w' = (wr.drewN n).drewN q) := fun q => HCMP.out (wr.drewN q) F j p HI.out.2.1.perm hjn hpn (HGI.out.drewN q)
          have HPP := Lib.hid hp
          obtain ⟨r, hr⟩ : ∃ r, cf (nth F j) (nth F p) = r := ⟨_, rfl⟩
          rw [hr] at HC
          have HR := Lib.hid hr
          clear hp hr
          by_cases hr0 : r < 0
          · go_wp2
            go_quiet ((first | (go_at_call 106; exact quiet_drewI (HC.out _))))
            have hjl : j < F.length := by rw [HI.out.2.2]; exact hjn
            have hpl : p < F.length := by rw [HI.out.2.2]; exact hpn
            have fj := (HF.out.store HI.out.2.2.symm j hjl 0).2.1
            have fp := (HF.out.store HI.out.2.2.symm p hpl 0).2.1
            have HSW := Lib.hid (HF.out.swap HI.out.2.2.symm j p hjl hpl)
            have HST : Hid (InsInv key (swp2 F j p) a i p ∧ SegSame D (swp2 F j p) a (i + 1) ∧ (swp2 F j p).length = n) := by
              have hk : key (nth F j) < key (nth F p) := (hcf _ _).1 (by rw [HR.out]; exact hr0)
              have hst := HI.out.1.step hja (by rw [HI.out.2.2]; omega) (by rw [HPP.out]; exact hk)
              rw [HPP.out] at hst
              exact ⟨hst, HI.out.2.1.trans (SegSame.swap (by rw [HI.out.2.2]; omega) haj (by omega) (by have := HPP.out; omega) (by have := HPP.out; omega)), by rw [swp2_len, HI.out.2.2]⟩
            have hpj : ¬ p = j := by have := HPP.out; omega
            have hjp : ¬ j = p := by have := HPP.out; omega
            have HPA : Hid (a ≤ p ∧ p ≤ i ∧ p < j) := by have := HPP.out; show _ ∧ _; omega
            clear HC HR HF HI hjl hpl
            go_wp2
            go_region
            go_wp2
            go_roundw
            case rel => exact ⟨p, swp2 F j p, HPA.out.1, HPA.out.2.1, by go_num, HSW.out.1.drewN _, HST.out, (HGI.out.row1 HSW.out.2).drewN _⟩
            case measure => have := HPA.out; simp [intOf]; omega
          · have HEND : Hid (SortedOn key F a (i + 1)) := HI.out.1.done (.inr fun h => hr0 (by rw [← HR.out]; exact (hcf _ _).2 (by rw [HPP.out] at h; exact h)))
            clear HR
            go_wp2
            go_quiet ((first | (go_at_call 106; exact quiet_drewI (HC.out _))))
            have HE2 := Lib.hid (And.intro (HF.out.drewN nq) (And.intro HI.out.2 (HGI.out.drewN nq)))
            clear HC HF HI HGI
            go_wp2
            go_roundw
            case rel => exact ⟨i + 1, F, by omega, by omega, by go_num, HE2.out.1, ⟨HEND.out, by rw [Nat.min_eq_left (by omega)]; exact HE2.out.2.1.1, HE2.out.2.1.2⟩, HE2.out.2.2⟩
            case measure => simp [intOf]; omega
        · have j1 : ¬ (j : Int) > (a : Int) := by omega
          have hje : j = a := by omega
          have HEND : Hid (SortedOn key F a (i + 1)) := HI.out.1.done (.inl hje)
          clear hje
          go_wp2
          go_quiet (fail)
          have HE2 := Lib.hid (And.intro (HF.out.drewN nq) (And.intro HI.out.2 (HGI.out.drewN nq)))
          clear HF HI HGI
          go_wp2
          go_roundw
          case rel => exact ⟨i + 1, F, by omega, by omega, by go_num, HE2.out.1, ⟨HEND.out, by rw [Nat.min_eq_left (by omega)]; exact HE2.out.2.1.1, HE2.out.2.1.2⟩, HE2.out.2.2⟩
          case measure => simp [intOf]; omega
    · have i1 : ¬ (i : Int) < (b : Int) := by omega
      have HFIN : Hid (∃ E, OwnI wr N (.slice (some ⟨g, 0, none⟩) n c) E ∧ SortedOn key E a b ∧ SegSame D E a b ∧ GrownL [g] w0 wr) := by
        obtain ⟨h1, h2, h3⟩ := HS.out
        rw [Nat.min_eq_right (by omega)] at h2
        exact ⟨E, HE.out, h1.sub (Nat.le_refl _) (by omega), h2, HG.out⟩
      clear HE HS HG
      go_wp2
      go_end0
      exact ⟨rfl, HFIN.out⟩
end Go.Proofs.Ytnpfninkopffmaa
