
/- The walk of FnExactLoadSaved. Conditions: none. -/
import Derived.Test.YtmhepomjbaendaaLoadS
import Derived.Test.YtmhepomjbaendaaMarkSv
namespace Go.Proofs.Ytmhepomjbaendaa
open Go.RowKit Go.BigFrame
set_option linter.unusedVariables false
set_option linter.unusedSimpArgs false

theorem tksN_le (c : Nat) (ts : List Tk) (h : ∀ t ∈ ts, tkN t ≤ c) : tksN ts ≤ c * ts.length := by
  induction ts with
  | nil => simp [tksN]
  | cons x l ih =>
    have h1 := h x (by simp)
    have h2 := ih fun t ht => h t (by simp [ht])
    simp only [tksN, List.map_cons, List.sum_cons, List.length_cons] at h2 ⊢
    rw [Nat.mul_add]; omega
theorem tsk_even (s : ByteArray) (st : St) : ∀ k, ∀ t ∈ (tsk s st k).1, t.2.2.1.length = t.2.2.2.length
  | 0 => fun t h => by simp [tsk] at h
  | k + 1 => fun t h => by
    have ih := tsk_even s st k
    simp only [tsk, List.mem_append, List.mem_singleton] at h
    rcases h with h | rfl
    · exact ih t h
    · have := prs_len s (nx s 1 (nx s 1 (nx s 1 (tsk s st k).2))) (byV s (nx s 1 (nx s 1 (tsk s st k).2))).toNat
      simp only
      omega
theorem gotX_even (s : ByteArray) : ∀ t ∈ (gotX s).2.1, t.2.2.1.length = t.2.2.2.length := by
  cases h : gotB s
  · rw [(got_no h).1]; intro t ht; simp at ht
  · rw [(got_yes h).1]; exact tsk_even s _ _
theorem ldX_even (s : ByteArray) : ∀ t ∈ (ldX s).2.1, t.2.2.1.length = t.2.2.2.length := by
  unfold ldX
  split
  · exact gotX_even s
  · intro t ht; simp at ht
theorem SvW.small {x : Sv} (h : SvW x) (he : ∀ t ∈ x.2.1, t.2.2.1.length = t.2.2.2.length) : tksN x.2.1 + x.2.2.length ≤ 200000 := by
  obtain ⟨_, h2, h3, _, h5⟩ := h
  have h6 := tksN_le 512 x.2.1 fun t ht => by
    obtain ⟨_, _, _, _, h⟩ := h3 t ht
    have := he t ht
    unfold tkN; omega
  have : 512 * x.2.1.length ≤ 512 * 255 := Nat.mul_le_mul_left _ h2
  omega
theorem OwnSv.forms {w : World} {lo : Nat} {vt vs : Value} {x : Sv} (h : OwnSv w lo vt vs x) : (∃ a l c, vt = .slice a l c) ∧ ∃ a l c, vs = .slice a l c := by
  obtain ⟨raw, mid, h1, _, _, h4, _⟩ := h
  exact ⟨h1.form, h4.form⟩

set_option maxRecDepth 100000 in
set_option maxHeartbeats 4000000 in
theorem walkFnExactLoadSaved (a0 : ByteArray) (w : World) (w0 : a0.size ≤ maxLen) :
    Calls Try.prog 7 #[.string a0] w fun e w' => e = .returned (.bool true) ∧ Below w.heap.size w w' := by
  by_cases hbig : 1048576 < a0.size
  · go_enter Try.func7, Try.ntmps7
    go_wp2
    go_ret
    exact ⟨rfl, Below.refl _ _⟩
  have hs : a0.size ≤ 1048576 := by omega
  have HC1 := Lib.hid (specLoad_any a0 w hs)
  have HC2 : Hid (∀ W, Calls Try.prog 24 #[.string a0] W fun e w' => (∃ vt vs, e = .returned (.tuple #[savedV (ldX a0).1 vt vs, .bool (ldB a0)]) ∧ OwnSv w' W.heap.size vt vs (ldX a0)) ∧ Below W.heap.size W w') := fun W => implLoad_any a0 W hs
  have HW := Lib.hid (ldX_w hs)
  have HEV := Lib.hid (ldX_even a0)
  obtain ⟨Bk, hBk⟩ : ∃ B, ldB a0 = B := ⟨_, rfl⟩
  obtain ⟨⟨nm, ts, st⟩, hX⟩ : ∃ X, ldX a0 = X := ⟨_, rfl⟩
  rw [hBk, hX] at HC1 HC2
  rw [hX] at HW HEV
  have HSM : Hid (tksN ts + st.length ≤ 200000) := HW.out.small HEV.out
  clear hBk hX
  unfold savedV at HC1 HC2
  obtain ⟨S, hS⟩ : ∃ S, 1 + tksN ts + st.length = S := ⟨_, rfl⟩
  have hSb : S ≤ 200001 := by have := HSM.out; omega
  have HS := Lib.hid hS
  clear hS
  go_enter Try.func7, Try.ntmps7
  go_wp2_with fail
  refine HC1.out.mono ?_
  rintro e W1 ⟨⟨ut, us, rfl, hu⟩, hb1⟩
  have HU : Hid (∀ W, Below W1.heap.size W1 W → TasksR W ut ts ∧ Ints W us st) := fun W hW => by
    have := (hu.below hW).reads HW.out
    exact ⟨this.1, this.2.ints.1⟩
  obtain ⟨⟨ua, ul, uc, rfl⟩, vua, vul, vuc, rfl⟩ := hu.forms
  have HB1 := Lib.hid hb1
  clear hu hb1 HC1
  obtain ⟨W1a, hW1a⟩ : ∃ W, W1.alloc (.cells #[.string nm, .slice ua ul uc, .slice vua vul vuc] 44) = W := ⟨_, rfl⟩
  have hb1a : Below W1.heap.size W1 W1a := by rw [← hW1a]; exact (Below.refl _ _).alloc (Nat.le_refl _) _
  have K1 : Blk W1a W1.heap.size 44 [.string nm, .slice ua ul uc, .slice vua vul vuc] := by rw [← hW1a]; exact Blk.new W1 _ _
  obtain ⟨P, hP⟩ : ∃ P, W1.heap.size = P := ⟨_, rfl⟩
  rw [hP] at K1 hb1a HU
  have HK1 := Lib.hid (And.intro K1 hb1a)
  have HC := Lib.hid (HC2.out W1a)
  clear K1 hb1a
  go_wp2_with fail
  refine HC.out.mono ?_
  rintro e W2 ⟨⟨vt, vs, rfl, hv⟩, hb2⟩
  obtain ⟨K1, hb1a⟩ := HK1.out
  obtain ⟨mid, B, raw, hsv⟩ := SvA.of hv hb2.size
  obtain ⟨⟨va, vl, vc, rfl⟩, wa, wl, wc, rfl⟩ := hv.forms
  have K2 := K1.below hb2 K1.lt
  have hp2 : Below P W1 W2 := hb1a.trans (hb2.mono (by have := K1.lt; omega))
  obtain ⟨L, hL⟩ : ∃ L, W1a.heap.size = L := ⟨_, rfl⟩
  obtain ⟨H, hH⟩ : ∃ L, W2.heap.size = L := ⟨_, rfl⟩
  rw [hL, hH] at hsv
  have hPL : P < L := by have := K1.lt; omega
  have hLH : L ≤ H := by have := hb2.size; omega
  obtain ⟨W2a, hW2a⟩ : ∃ W, W2.alloc (.cells #[.string nm, .slice va vl vc, .slice wa wl wc] 44) = W := ⟨_, rfl⟩
  have sv2 : SvA W2a L mid H B (.slice va vl vc) (.slice wa wl wc) raw ts st := by rw [← hW2a]; exact hsv.kept (grown_alloc _ _ none) (fun k e => by cases e)
  have K2a : Blk W2a P 44 [.string nm, .slice ua ul uc, .slice vua vul vuc] := by rw [← hW2a]; exact K2.alloc _
  have G2a : Blk W2a H 44 [.string nm, .slice va vl vc, .slice wa wl wc] := by rw [← hW2a, ← hH]; exact Blk.new W2 _ _
  have hp2a : Below P W1 W2a := by rw [← hW2a]; exact hp2.alloc (by omega) _
  have hv2 : TasksR W2a (.slice va vl vc) ts ∧ Ints W2a (.slice wa wl wc) st := by
    rw [← hW2a]
    have := (hv.below (W := W2.alloc (.cells #[.string nm, .slice va vl vc, .slice wa wl wc] 44)) ((Below.refl _ _).alloc (Nat.le_refl _) _)).reads HW.out
    exact ⟨this.1, this.2.ints.1⟩
  have HEQ := Lib.hid (eqSaved_same nm (.slice va vl vc) (.slice wa wl wc) (.slice ua ul uc) (.slice vua vul vuc) ts st W2a hv2.1 hv2.2 (HU.out _ hp2a).1 (HU.out _ hp2a).2)
  unfold savedV at HEQ
  have d0 := K2a.cell 0 _ rfl
  have d1 := K2a.cell 1 _ rfl
  have d2 := K2a.cell 2 _ rfl
  have e0 := G2a.cell 0 _ rfl
  have e1 := G2a.cell 1 _ rfl
  have e2 := G2a.cell 2 _ rfl
  have HK2 := Lib.hid (And.intro sv2 (And.intro K2a (And.intro G2a hp2a)))
  have HLT := Lib.hid (And.intro hPL hLH)
  have hbb : (Bk != Bk) = false := by simp
  clear hv hsv K1 hb1a K2 hp2 sv2 K2a G2a hp2a hv2 HK1 HC hb2 hPL hLH
  go_wp2_with fail
  refine HEQ.out.mono ?_
  rintro e W3 ⟨rfl, hb3⟩
  obtain ⟨sv2, K2a, G2a, hp2a⟩ := HK2.out
  have sv3 := sv2.below hb3
  have K3 := K2a.below hb3 K2a.lt
  have G3 := G2a.below hb3 G2a.lt
  have hp3 : Below P W1 W3 := hp2a.trans (hb3.mono (by have := K2a.lt; omega))
  have HM := Lib.hid (markSaved_any nm (.slice va vl vc) (.slice wa wl wc) ts st raw B 1 L mid H W3 sv3 (Nat.le_refl _) (by have := HS.out; omega))
  rw [HS.out] at HM
  unfold savedV at HM
  have HK3 := Lib.hid (And.intro K3 (And.intro G3 hp3))
  clear d0 d1 d2 e0 e1 e2 sv2 K2a G2a hp2a sv3 hb3 HK2 HEQ
  have e0 := G3.cell 0 _ rfl
  have e1 := G3.cell 1 _ rfl
  have e2 := G3.cell 2 _ rfl
  clear K3 G3 hp3
  go_wp2_with fail
  refine HM.out.mono ?_
  rintro e W4 ⟨rfl, ⟨raw4, sv4⟩, hg4⟩
  obtain ⟨K3, G3, hp3⟩ := HK3.out
  have hPL := HLT.out.1
  have hLH := HLT.out.2
  have K4 := K3.grownL hg4 (fun e => by rw [mem_spanT] at e; omega)
  have G4 := G3.grownL hg4 (fun e => by rw [mem_spanT] at e; omega)
  have hp4 : Below P W1 W4 := hg4.toBelow hp3 (by have := K3.lt; omega) (fun i hi e => by rw [mem_spanT] at e; omega)
  have hsm : 1 + tksN ts ≤ 100000000 := by have := HS.out; omega
  have hr4 := sv4.reads hsm
  have HH := Lib.hid (heldSaved_any nm (.slice va vl vc) (.slice wa wl wc) ts st.length 1 W4 hr4.1 hr4.2 (Nat.le_refl _) (by have := HS.out; omega))
  rw [HS.out] at HH
  unfold savedV at HH
  have HK4 := Lib.hid (And.intro sv4 (And.intro K4 (And.intro G4 hp4)))
  clear e0 e1 e2 K3 G3 hp3 HK3 hg4 sv4 HM hr4 hPL hLH hsm
  have e0 := G4.cell 0 _ rfl
  have e1 := G4.cell 1 _ rfl
  have e2 := G4.cell 2 _ rfl
  clear K4 G4 hp4
  have n1 : ¬ (S : Int) < 0 := by omega
  go_wp2_with fail
  refine HH.out.mono ?_
  rintro e W5 ⟨rfl, hb5⟩
  obtain ⟨sv4, K4, G4, hp4⟩ := HK4.out
  have sv5 := sv4.below hb5
  have K5 := K4.below hb5 K4.lt
  have G5 := G4.below hb5 G4.lt
  have hp5 : Below P W1 W5 := hp4.trans (hb5.mono (by have := K4.lt; omega))
  have HK5 := Lib.hid (And.intro sv5 (And.intro K5 (And.intro G5 hp5)))
  have HC5 := Lib.hid (HC2.out W5)
  clear sv4 K4 G4 hp4 hb5 sv5 K5 G5 hp5 HK4 HH e0 e1 e2
  go_wp2_with fail
  refine HC5.out.mono ?_
  rintro e W6 ⟨⟨yt, ys, rfl, hy⟩, hb6⟩
  obtain ⟨sv5, K5, G5, hp5⟩ := HK5.out
  have sv6 := sv5.below hb6
  have K6 := K5.below hb6 K5.lt
  have G6 := G5.below hb6 G5.lt
  have hp6 : Below P W1 W6 := hp5.trans (hb6.mono (by have := K5.lt; omega))
  obtain ⟨⟨ya, yl, yc, rfl⟩, za, zl, zc, rfl⟩ := hy.forms
  obtain ⟨W6a, hW6a⟩ : ∃ W, W6.alloc (.cells #[.string nm, .slice ya yl yc, .slice za zl zc] 44) = W := ⟨_, rfl⟩
  obtain ⟨Q, hQ⟩ : ∃ L, W6.heap.size = L := ⟨_, rfl⟩
  have hb6a : Below W6.heap.size W6 W6a := by rw [← hW6a]; exact (Below.refl _ _).alloc (Nat.le_refl _) _
  have Y6a : Blk W6a Q 44 [.string nm, .slice ya yl yc, .slice za zl zc] := by rw [← hW6a, ← hQ]; exact Blk.new W6 _ _
  have hy6 := (hy.below hb6a).reads HW.out
  have sv6a := sv6.below hb6a
  have K6a := K6.below hb6a K6.lt
  have G6a := G6.below hb6a G6.lt
  have hp6a : Below P W1 W6a := hp6.trans (hb6a.mono (by have := K6.lt; omega))
  have HEQ := Lib.hid (eqSaved_same nm (.slice ya yl yc) (.slice za zl zc) (.slice ua ul uc) (.slice vua vul vuc) ts st W6a hy6.1 hy6.2.ints.1 (HU.out _ hp6a).1 (HU.out _ hp6a).2)
  unfold savedV at HEQ
  have d0 := K6a.cell 0 _ rfl
  have d1 := K6a.cell 1 _ rfl
  have d2 := K6a.cell 2 _ rfl
  have y0 := Y6a.cell 0 _ rfl
  have y1 := Y6a.cell 1 _ rfl
  have y2 := Y6a.cell 2 _ rfl
  have HK6 := Lib.hid (And.intro sv6a (And.intro G6a hp6a))
  clear sv5 K5 G5 hp5 sv6 K6 G6 hp6 hb6 hb6a hy hy6 sv6a K6a G6a hp6a Y6a HK5 HC5
  go_wp2_with fail
  refine HEQ.out.mono ?_
  rintro e W7 ⟨rfl, hb7⟩
  obtain ⟨sv6a, G6a, hp6a⟩ := HK6.out
  have sv7 := sv6a.below hb7
  have G7 := G6a.below hb7 G6a.lt
  have hp7 : Below P W1 W7 := hp6a.trans (hb7.mono (by have := G6a.lt; have := HLT.out; omega))
  have hsm : 1 + tksN ts ≤ 100000000 := by have := HS.out; omega
  have hr7 := sv7.reads hsm
  have HH := Lib.hid (heldSaved_any nm (.slice va vl vc) (.slice wa wl wc) ts st.length 1 W7 hr7.1 hr7.2 (Nat.le_refl _) (by have := HS.out; omega))
  rw [HS.out] at HH
  unfold savedV at HH
  have e0 := G7.cell 0 _ rfl
  have e1 := G7.cell 1 _ rfl
  have e2 := G7.cell 2 _ rfl
  have HP7 := Lib.hid (And.intro hp7 hP)
  clear d0 d1 d2 y0 y1 y2 sv6a G6a hp6a sv7 G7 hp7 hb7 HK6 HEQ hsm hr7
  go_wp2_with fail
  refine HH.out.mono ?_
  rintro e W8 ⟨rfl, hb8⟩
  obtain ⟨hp7, hP'⟩ := HP7.out
  have HFIN : Hid (Below w.heap.size w W8) := by
    have h1 := HB1.out.trans (hp7.mono (by rw [← hP']; exact HB1.out.size))
    exact h1.trans (hb8.mono h1.size)
  clear hp7 hP' HP7 hb8 e0 e1 e2
  go_wp2
  go_ret
  exact ⟨rfl, HFIN.out⟩
end Go.Proofs.Ytmhepomjbaendaa
