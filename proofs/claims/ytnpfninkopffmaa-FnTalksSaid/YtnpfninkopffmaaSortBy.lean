
/- impl.sortedBy: the numbers from 0 on, sorted by a key, equal ones in their order. Conditions: at most 2^20 numbers. -/
import Derived.Test.YtnpfninkopffmaaSortS
import Derived.Test.YtnpfninkopffmaaCounting
namespace Go.Proofs.Ytnpfninkopffmaa
open Go.RowKit
set_option linter.unusedVariables false
set_option linter.unusedSimpArgs false

/-- -1, 0 or 1. -/
def cmpI (x y : Int) : Int := if x < y then -1 else if y < x then 1 else 0
theorem cmpI_neg (x y : Int) : cmpI x y < 0 ↔ x < y := by unfold cmpI; split <;> (try split) <;> omega

set_option maxRecDepth 100000 in
theorem compare_any (x y : Int) (w : World) : Calls Try.prog 107 #[.int .i64 x, .int .i64 y] w fun e w' => e = .returned (.int .i64 (cmpI x y)) ∧ w = w' := by
  have hN : Hid (∀ z, Calls Try.prog 135 #[.int .i64 z] w fun e w' => e = .returned (.bool false) ∧ w = w') := by
    intro z
    go_enter Try.func135, Try.ntmps135
    go_wp2
    go_ret
    trivial
  go_enter Try.func107, Try.ntmps107
  by_cases h1 : x < y
  · have e1 : Hid (cmpI x y = -1) := by show _ = _; unfold cmpI; rw [if_pos h1]
    go_wp2_with (go_at_call 135; refine (hN.out _).mono ?_; rintro e w' ⟨rfl, rfl⟩)
    go_ret
    exact ⟨ret_int e1.out.symm, rfl⟩
  · by_cases h2 : x > y
    · have e1 : Hid (cmpI x y = 1) := by show _ = _; unfold cmpI; rw [if_neg h1, if_pos h2]
      go_wp2_with (go_at_call 135; refine (hN.out _).mono ?_; rintro e w' ⟨rfl, rfl⟩)
      go_ret
      exact ⟨ret_int e1.out.symm, rfl⟩
    · have e1 : Hid (cmpI x y = 0) := by show _ = _; unfold cmpI; rw [if_neg h1, if_neg h2]
      go_wp2_with (go_at_call 135; refine (hN.out _).mono ?_; rintro e w' ⟨rfl, rfl⟩)
      go_ret
      exact ⟨ret_int e1.out.symm, rfl⟩

/-- What is asked of a key: it only reads. -/
def KeyAt (kf : Nat) (cap : Array Value) (key : Int → Int) (x : Int) (W : World) : Prop :=
  Calls Try.prog kf (#[.int .i64 x] ++ cap) W fun e w' => e = .returned (.int .i64 (key x)) ∧ ∃ q, w' = W.drewN q

set_option maxRecDepth 100000 in
theorem cmpBy_any (kb kf : Nat) (cap : Array Value) (key : Int → Int) (x y : Int) (W : World) (hb : Boxed W kb 77 (.func (.func kf) #[] cap)) (hx : ∀ q, KeyAt kf cap key x (W.drewN q)) (hy : ∀ q, KeyAt kf cap key y (W.drewN q))
    (heg : ∀ args w, (callFunc kf args).run Try.prog w = .ok (.enter kf args) w) :
    Calls Try.prog 106 #[.int .i64 x, .int .i64 y, .pointer (some ⟨kb, 0, none⟩)] W fun e w' => e = .returned (.int .i64 (cmpI (key x) (key y))) ∧ ∃ q, w' = W.drewN q := by
  have HX := Lib.hid hx
  have HY := Lib.hid hy
  have hbc := hb.cell
  clear hx hy hb
  go_enter Try.func106, Try.ntmps106
  go_wp2
  go_quiet ((first | exact quiet_drewI (HX.out _) | exact quiet_drewI (HY.out _) | (go_at_call 107; exact quiet_eq (compare_any _ _ _))))
  go_wp2
  go_ret
  exact ⟨rfl, _, rfl⟩

/-- Sorted by the key, equal ones in their order. -/
def SortsBy (key : Int → Int) (n : Nat) (E : List Int) : Prop := E.Perm (idL n) ∧ SortedOn key E 0 n
theorem idL_mem {n : Nat} {x : Int} : x ∈ idL n ↔ 0 ≤ x ∧ x < n := by
  unfold idL
  rw [List.mem_map]
  constructor
  · rintro ⟨i, hi, rfl⟩
    have := List.mem_range.1 hi
    omega
  · intro h
    exact ⟨x.toNat, List.mem_range.2 (by omega), by omega⟩

theorem sortStable_any (g n c N kb : Nat) (key : Int → Int) (cf : Int → Int → Int) (hcf : ∀ x y, cf x y < 0 ↔ key x < key y) (D0 : List Int) (w0 : World) (hcmp : CmpOk kb cf g D0 w0) (hsz : n ≤ 1048576)
    (w : World) (hg0 : GrownL [g] w0 w) (ho : OwnI w N (.slice (some ⟨g, 0, none⟩) n c) D0) (hn : n = D0.length) (hasc : ∀ p q, p < q → q < n → nth D0 p < nth D0 q) :
    Calls Try.prog 105 #[.slice (some ⟨g, 0, none⟩) n c, .func (.func 106) #[] #[.pointer (some ⟨kb, 0, none⟩)]] w fun e w' => e = .returned (.tuple #[]) ∧ SortPost g n c N key D0 w0 w' := by
  have HC := Lib.hid (stable_any g n c N kb key cf hcf D0 w0 hcmp hsz D0 w hg0 ho hn (List.Perm.refl _) hasc)
  clear hcmp ho hg0 hasc hn
  go_enter Try.func105, Try.ntmps105
  go_wp2_with fail
  refine HC.out.mono ?_
  rintro _ W1 ⟨rfl, hr⟩
  have HR := Lib.hid hr
  clear hr HC
  go_wp2
  go_end0
  exact ⟨rfl, HR.out⟩

set_option maxRecDepth 100000 in
set_option maxHeartbeats 2000000 in
theorem sortedBy_any (n kf : Nat) (cap : Array Value) (key : Int → Int) (w : World) (hn : n ≤ 1048576) (hkey : ∀ W (x : Int), 0 ≤ x → x < n → Below w.heap.size w W → KeyAt kf cap key x W)
    (heg : ∀ args w, (callFunc kf args).run Try.prog w = .ok (.enter kf args) w) :
    Calls Try.prog 60 #[.int .i64 n, .func (.func kf) #[] cap] w fun e w' => (∃ g c E, e = .returned (.slice (some ⟨g, 0, none⟩) n c) ∧ OwnI w' w.heap.size (.slice (some ⟨g, 0, none⟩) n c) E ∧ n = E.length ∧ SortsBy key n E) ∧ Below w.heap.size w w' := by
  have HKEY := Lib.hid hkey
  clear hkey
  obtain ⟨W0, hW0⟩ : ∃ W, w.alloc (.cells #[.func (.func kf) #[] cap] 77) = W := ⟨_, rfl⟩
  have HB0 : Hid (Below w.heap.size w W0) := by show Below _ _ _; rw [← hW0]; exact (Below.refl _ w).alloc (Nat.le_refl _) _
  have HBX : Hid (Boxed W0 w.heap.size 77 (.func (.func kf) #[] cap)) := by show Boxed _ _ _ _; rw [← hW0]; exact Boxed.new _ _ _
  have HSZ : Hid (W0.heap.size = w.heap.size + 1) := by show _ = _; rw [← hW0]; simp
  have HCNT := Lib.hid (counting_any n W0 hn)
  go_enter Try.func60, Try.ntmps60
  go_wp2_with fail
  refine HCNT.out.mono ?_
  rintro e W1 ⟨⟨g, c, rfl, ho⟩, hb⟩
  have hgb : w.heap.size ≠ g ∧ W0.heap.size ≤ g := by
    rcases ho.2 with ⟨h1, _⟩ | ⟨g', cap', cur, h1, h2, _⟩
    · cases h1
    · obtain ⟨rfl⟩ : g = g' := by simp at h1; exact h1.1
      have := HSZ.out
      omega
  have hs1 := hb.size
  have HBX1 : Hid (Boxed W1 w.heap.size 77 (.func (.func kf) #[] cap)) := (hb.block _ (by have := HSZ.out; omega)).trans HBX.out
  have HB1 : Hid (Below w.heap.size w W1) := HB0.out.trans (hb.mono (by have := HSZ.out; omega))
  have HC := Lib.hid (sortStable_any g n c W0.heap.size w.heap.size key (fun x y => cmpI (key x) (key y)) (fun x y => cmpI_neg _ _) (idL n) W1 (by
    intro W x y hx hy hW
    have hx1 := idL_mem.1 hx
    have hy1 := idL_mem.1 hy
    have hbW : ∀ q, Below w.heap.size w (W.drewN q) := fun q => (hW.drewN q).toBelow HB1.out (by have := HSZ.out; omega) (fun i hi => by simp; have := HSZ.out; omega)
    exact cmpBy_any w.heap.size kf cap key x y W (hW.boxed HBX1.out (by simp; exact hgb.1)) (fun q => HKEY.out _ x hx1.1 hx1.2 (hbW q)) (fun q => HKEY.out _ y hy1.1 hy1.2 (hbW q)) heg) hn W1 (GrownL.refl _ _) ho (idL_length n).symm (fun p q h1 h2 => by rw [idL_get (by omega), idL_get h2]; omega))
  have HGB := Lib.hid hgb
  clear ho hb hgb hs1 HCNT hW0 HKEY
  go_wp2_with fail
  refine HC.out.mono ?_
  rintro _ W2 ⟨rfl, hr⟩
  have HR : Hid ((∃ E, OwnI W2 w.heap.size (.slice (some ⟨g, 0, none⟩) n c) E ∧ n = E.length ∧ SortsBy key n E) ∧ Below w.heap.size w W2) := by
    obtain ⟨E, hE, hs, hp, hg⟩ := hr
    refine ⟨⟨E, hE.mono (by have := HSZ.out; omega), by rw [hp.length_eq, idL_length], hp, hs⟩, hg.toBelow HB1.out (by have := HB1.out.size; omega) (fun i hi => by simp; have := HGB.out; have := HSZ.out; omega)⟩
  clear hr HC
  go_wp2
  go_ret
  obtain ⟨⟨E, h1, h2, h3⟩, h4⟩ := HR.out
  exact ⟨⟨g, c, E, rfl, h1, h2, h3⟩, h4⟩
end Go.Proofs.Ytnpfninkopffmaa
