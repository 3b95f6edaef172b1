
/- colourings: the closure that calls itself and hands each full colouring to a function, by a contract of its own for whatever that function does. Conditions: valid clashes. -/
import Derived.Test.YtmhepomjbaendaaColPlain
import Derived.Test.YtmhepomjbaendaaCliqueImpl
import Derived.Laws.EntriesVeiled
namespace Go.Proofs.Ytmhepomjbaendaa
open Go.RowKit Go.Shelf Go.BigFrame
set_option linter.unusedVariables false
set_option linter.unusedSimpArgs false
attribute [local go_sem] Oper.semAt_some

/-- All ways to go on from cs, in their order, handed to step until it answers no. -/
def runCol {σ : Type} (xs : List Int) (most : Nat) (step : σ → List Int → σ × Bool) : Nat → List Int → σ → σ × Bool
  | 0, cs, s => step s cs
  | d + 1, cs, s => (List.range most).foldl (fun a c => if a.2 && frC xs cs cs.length c then runCol xs most step d (cs ++ [(c : Int)]) a.1 else a) (s, true)
def runTo {σ : Type} (xs : List Int) (most : Nat) (step : σ → List Int → σ × Bool) (d : Nat) (cs : List Int) (s : σ) (m : Nat) : σ × Bool :=
  (List.range m).foldl (fun a c => if a.2 && frC xs cs cs.length c then runCol xs most step d (cs ++ [(c : Int)]) a.1 else a) (s, true)
theorem runTo_succ {σ : Type} (xs : List Int) (most : Nat) (step : σ → List Int → σ × Bool) (d : Nat) (cs : List Int) (s : σ) (m : Nat) :
    runTo xs most step d cs s (m + 1) = if (runTo xs most step d cs s m).2 && frC xs cs cs.length m then runCol xs most step d (cs ++ [(m : Int)]) (runTo xs most step d cs s m).1 else runTo xs most step d cs s m := by
  unfold runTo; rw [List.range_succ, List.foldl_append]; rfl
theorem runTo_stop {σ : Type} {xs : List Int} {most : Nat} {step : σ → List Int → σ × Bool} {d : Nat} {cs : List Int} {s : σ} {m : Nat} (h : (runTo xs most step d cs s m).2 = false) (k : Nat) : runTo xs most step d cs s (m + k) = runTo xs most step d cs s m := by
  induction k with
  | zero => rfl
  | succ k ih => rw [← Nat.add_assoc, runTo_succ, ih, h]; rfl

/-- What the function that is handed over does. -/
structure DoK (σ : Type) (B gc t K : Nat) (cap : Array Value) (D : List Nat) (St : σ → World → Prop) (step : σ → List Int → σ × Bool) : Prop where
  call : ∀ s cs W, cs.length = t → St s W → OwnI W B (.slice (some ⟨gc, 0, none⟩) t t) cs → Calls Try.prog K (#[.slice (some ⟨gc, 0, none⟩) t t] ++ cap) W fun e W' => e = .returned (.bool (step s cs).2) ∧ St (step s cs).1 W' ∧ GrownL D W W'
  kept : ∀ s W W', St s W → GrownL [gc] W W' → St s W'
  enters : Enters Try.prog K

theorem GrownL.mono {gs hs : List Nat} {A W : World} (h : GrownL gs A W) (hh : ∀ i ∈ gs, i ∈ hs) : GrownL hs A W :=
  ⟨h.os, h.tape, h.output, h.size, fun i hi hn => h.block i hi (fun e => hn (hh i e))⟩
/-- What colourings' variables hold. -/
structure ColE (W : World) (bs bd bc bm bp gs gc t most : Nat) (xs : List Int) (Kv F : Value) : Prop where
  sets : Boxed W bs 25 (.slice (some ⟨gs, 0, none⟩) t t)
  row : OwnI W 0 (.slice (some ⟨gs, 0, none⟩) t t) (mInts (masks t xs))
  dov : Boxed W bd 81 Kv
  cols : Boxed W bc 25 (.slice (some ⟨gc, 0, none⟩) t t)
  most : Boxed W bm 2 (.int .i64 most)
  put : Boxed W bp 131 F
theorem ColE.grown {W W' : World} {bs bd bc bm bp gs gc t most : Nat} {xs : List Int} {Kv F : Value} {L : List Nat} (h : ColE W bs bd bc bm bp gs gc t most xs Kv F) (hg : GrownL L W W') (h1 : bs ∉ L) (h2 : gs ∉ L) (h3 : bd ∉ L) (h4 : bc ∉ L) (h5 : bm ∉ L) (h6 : bp ∉ L) : ColE W' bs bd bc bm bp gs gc t most xs Kv F :=
  ⟨hg.boxed h.sets h1, hg.own h.row h2, hg.boxed h.dov h3, hg.boxed h.cols h4, hg.boxed h.most h5, hg.boxed h.put h6⟩
def colF (bs bd bc bm bp : Nat) : Value := .func (.func 128) #[] #[.pointer (some ⟨bs, 0, none⟩), .pointer (some ⟨bd, 0, none⟩), .pointer (some ⟨bc, 0, none⟩), .pointer (some ⟨bm, 0, none⟩), .pointer (some ⟨bp, 0, none⟩)]

/-- What a call of the closure at i leaves. -/
def ColPost {σ : Type} (B gc t i : Nat) (D : List Nat) (St : σ → World → Prop) (W : World) (cs : List Int) (r : σ × Bool) (e : Ending) (W' : World) : Prop :=
  e = .returned (.bool r.2) ∧ St r.1 W' ∧ GrownL (gc :: D) W W' ∧ ∃ L, L.length = t ∧ L.take i = cs ∧ OwnI W' B (.slice (some ⟨gc, 0, none⟩) t t) L

structure ColRel {σ : Type} (B bs bd bc bm bp gs gc t most : Nat) (xs : List Int) (Kv : Value) (D : List Nat) (St : σ → World → Prop) (step : σ → List Int → σ × Bool) (d : Nat) (cs : List Int) (s : σ) (W : World) (i m : Nat) (wr : World) : Prop where
  on : (runTo xs most step d cs s m).2 = true
  st : St (runTo xs most step d cs s m).1 wr
  env : ColE wr bs bd bc bm bp gs gc t most xs Kv (colF bs bd bc bm bp)
  frame : GrownL (gc :: D) W wr
  row : ∃ L, L.length = t ∧ L.take i = cs ∧ OwnI wr B (.slice (some ⟨gc, 0, none⟩) t t) L

set_option maxRecDepth 100000 in
set_option maxHeartbeats 4000000 in
theorem colPut_any {σ : Type} (t most : Nat) (xs : List Int) (B bs bd bc bm bp gs gc K : Nat) (cap : Array Value) (D : List Nat) (St : σ → World → Prop) (step : σ → List Int → σ × Bool) (ht : t ≤ 12) (hmost : most ≤ 1000000) (hw : ∀ k, k < xs.length → 0 ≤ nth xs k ∧ nth xs k < (t : Int)) (hdo : DoK σ B gc t K cap D St step)
    (hgcD : gc ∉ D) (o1 : gs < bs) (o2 : bs < bm) (o3 : bm < bd) (o4 : bd < gc) (o5 : gc < bc) (o6 : bc < bp) (hD : ∀ i ∈ D, i < bs ∧ i ≠ gs) : ∀ (d i : Nat), i + d = t → ∀ (W : World) (s : σ) (L : List Int),
    St s W → ColE W bs bd bc bm bp gs gc t most xs (.func (.func K) #[] cap) (colF bs bd bc bm bp) → OwnI W B (.slice (some ⟨gc, 0, none⟩) t t) L → L.length = t → ∀ p : Int, Hid (p = i) →
    Calls Try.prog 128 #[.int .i64 p, .pointer (some ⟨bs, 0, none⟩), .pointer (some ⟨bd, 0, none⟩), .pointer (some ⟨bc, 0, none⟩), .pointer (some ⟨bm, 0, none⟩), .pointer (some ⟨bp, 0, none⟩)] W
      (ColPost B gc t i D St W (L.take i) (runCol xs most step d (L.take i) s)) := by
  have heg := enters_of Try.func128 (by kernel_rfl) rfl
  have hek : ∀ args w, (callFunc K args).run Try.prog w = .ok (.enter K args) w := hdo.enters
  have HDO := Lib.hid hdo
  have HW := Lib.hid hw
  have HDD := Lib.hid hD
  clear hw hdo hD
  intro d
  induction d with
  | zero =>
    intro i hi W s L hs hE hO hL p hp
    obtain rfl := hp.out
    obtain rfl : i = t := by omega
    have c1 := hE.sets.cell
    have c2 : W.cell? ⟨bd, 0, none⟩ = some (.func (.func K) #[] cap) := hE.dov.cell
    have c3 := hE.cols.cell
    have hcall := HDO.out.call s L W hL hs hO
    have HC := Lib.hid hcall
    have HO := Lib.hid hO
    have HL := Lib.hid hL
    have htk : L.take i = L := List.take_of_length_le (by omega)
    have HTK := Lib.hid htk
    clear hcall hs hE hO hp hL htk hi
    go_enter Try.func128, Try.ntmps128
    go_wp2_with fail
    refine HC.out.mono ?_
    rintro e W' ⟨rfl, hs', hg'⟩
    go_wp2_with fail
    go_ret
    exact ⟨by rw [HTK.out]; rfl, by rw [HTK.out]; exact hs', hg'.mono (by simp_all), L, HL.out, rfl, hg'.own HO.out hgcD⟩
  | succ d ih =>
    intro i hi W s L hs hE hO hL p hp
    obtain rfl := hp.out
    have hit : i < t := by omega
    have hne : ((i : Int) == (t : Int)) = false := by simp; omega
    have c1 := hE.sets.cell
    have c2 := hE.most.cell
    have hci : (L.take i).length = i := by simp; omega
    obtain ⟨cs, hcs⟩ : ∃ cs, L.take i = cs := ⟨_, rfl⟩
    rw [hcs] at hci ⊢
    have HS := Lib.hid hs
    have HE := Lib.hid hE
    have HO := Lib.hid hO
    have HL := Lib.hid hL
    have HCS := Lib.hid hcs
    have HCI := Lib.hid hci
    have HIH := Lib.hid ih
    have i0 : (0 : Int) ≤ (i : Int) := by omega
    have i1 : (i : Int) < (t : Int) := by omega
    clear hs hE hO hL hp hcs hci ih
    go_enter Try.func128, Try.ntmps128
    go_wp2_with fail
    go_loopw [17] (fun v wr => ∃ m : Nat, m ≤ most ∧ v = .int .i64 m ∧ ColRel B bs bd bc bm bp gs gc t most xs (.func (.func K) #[] cap) D St step d cs s W i m wr) (fun v _ => most - (intOf v).toNat)
    case atStart => exact ⟨0, Nat.zero_le _, rfl, rfl, HS.out, HE.out, GrownL.refl _ _, L, HL.out, HCS.out, HO.out⟩
    case round =>
      obtain ⟨m, hm, rfl, hrel⟩ := hrel
      obtain ⟨wr', rfl⟩ : ∃ wr' : World, wr' = wr := ⟨_, rfl⟩
      have HR := Lib.hid hrel
      have c3 := hrel.env.cols.cell
      have c4 := hrel.env.sets.cell
      have c5 : wr'.cell? ⟨bp, 0, none⟩ = some (.func (.func 128) #[] #[.pointer (some ⟨bs, 0, none⟩), .pointer (some ⟨bd, 0, none⟩), .pointer (some ⟨bc, 0, none⟩), .pointer (some ⟨bm, 0, none⟩), .pointer (some ⟨bp, 0, none⟩)]) := hrel.env.put.cell
      obtain ⟨L', hL', hT', hO'⟩ := hrel.row
      have HL' := Lib.hid hL'
      have HT' := Lib.hid hT'
      have HO' := Lib.hid hO'
      clear hrel hL' hT' hO'
      by_cases hmm : m < most
      · have m0 : (0 : Int) ≤ (m : Int) := by omega
        have m1 : (m : Int) < (most : Int) := by omega
        have hnext := runTo_succ xs most step d cs s m
        rw [HR.out.on, Bool.true_and, HCI.out] at hnext
        have HFREE : Hid (∀ q, Calls Try.prog 96 #[.slice (some ⟨gs, 0, none⟩) t t, .slice (some ⟨gc, 0, none⟩) i t, .int .i64 i, .int .i64 m] (wr'.drewN q) fun y w' => y = .returned (.bool (frC xs cs i m)) ∧ wr'.drewN q = w') := fun q => by
          have hcut := HO'.out.cut i (by rw [HL'.out]; omega) HL'.out.symm
          have h1 := canHave_any (.slice (some ⟨gs, 0, none⟩) t t) (.slice (some ⟨gc, 0, none⟩) i t) (masks t xs) cs i (m : Int) (wr'.drewN q) (HR.out.env.row.drewN q).ints (by rw [HT'.out] at hcut; exact (hcut.drewN q).ints) (by rw [(masks_inv ht HW.out).len]; exact hit) (masks_inv ht HW.out).lt (by rw [HCI.out]; omega) (by rw [(masks_inv ht HW.out).len]; omega)
          rw [freeB_frC ht HW.out i m hit] at h1
          exact h1
        cases hfr : frC xs cs i m
        · rw [hfr] at hnext HFREE
          simp only [Bool.false_eq_true, if_false] at hnext
          have HNEXT := Lib.hid hnext
          clear hnext hfr
          go_wp2_with fail
          go_quiet ((go_at_call 96; exact quiet_eq (HFREE.out _)))
          go_wp2_with fail
          go_roundw
          case rel => exact ⟨m + 1, by omega, by go_num, ⟨by rw [HNEXT.out]; exact HR.out.on, by rw [HNEXT.out]; exact HDO.out.kept _ _ _ HR.out.st ((GrownL.refl _ _).drewN _), HR.out.env.grown ((GrownL.refl [] _).drewN _) (by simp) (by simp) (by simp) (by simp) (by simp) (by simp), HR.out.frame.drewN _, L', HL'.out, HT'.out, HO'.out.drewN _⟩⟩
          case measure => simp [intOf]; omega
        · rw [hfr] at hnext HFREE
          simp only [if_true] at hnext
          have HCALL : Hid (∀ q, Calls Try.prog 128 #[.int .i64 ((i : Int) + 1), .pointer (some ⟨bs, 0, none⟩), .pointer (some ⟨bd, 0, none⟩), .pointer (some ⟨bc, 0, none⟩), .pointer (some ⟨bm, 0, none⟩), .pointer (some ⟨bp, 0, none⟩)] ((wr'.drewN q).setCell ⟨gc, i, none⟩ (.int .i64 m))
              (ColPost B gc t (i + 1) D St ((wr'.drewN q).setCell ⟨gc, i, none⟩ (.int .i64 m)) (cs ++ [(m : Int)]) (runCol xs most step d (cs ++ [(m : Int)]) (runTo xs most step d cs s m).1))) := fun q => by
            have hgq : GrownL [gc] wr' ((wr'.drewN q).setCell ⟨gc, i, none⟩ (.int .i64 m)) := ((GrownL.refl _ _).drewN q).setCell _ _ (.inl (by simp))
            have hst := (HO'.out.drewN q).store HL'.out.symm i (by rw [HL'.out]; exact hit) (m : Int)
            have h1 := HIH.out (i + 1) (by omega) _ _ (L'.set i (m : Int)) (HDO.out.kept _ _ _ HR.out.st hgq) (HR.out.env.grown hgq (by simp; omega) (by simp; omega) (by simp; omega) (by simp; omega) (by simp; omega) (by simp; omega)) hst.2.2.1 (by rw [List.length_set]; exact HL'.out) ((i : Int) + 1) (by show _ = _; omega)
            have h2 : (L'.set i (m : Int)).take (i + 1) = cs ++ [(m : Int)] := by
              rw [← HT'.out, List.take_set, List.take_succ_eq_append_getElem (by rw [HL'.out]; exact hit)]
              rw [List.set_append_right _ _ (by simp; omega)]
              simp [HL'.out, Nat.min_eq_left (Nat.le_of_lt hit)]
            rw [h2] at h1
            exact h1
          obtain ⟨r1, r2, hr⟩ : ∃ r1 r2, runCol xs most step d (cs ++ [(m : Int)]) (runTo xs most step d cs s m).1 = (r1, r2) := ⟨_, _, rfl⟩
          rw [hr] at hnext HCALL
          have HNEXT := Lib.hid hnext
          clear hnext hfr hr
          obtain ⟨s1, s2, _⟩ := HO'.out.store HL'.out.symm i (by rw [HL'.out]; exact hit) (m : Int)
          have GD : Hid (∀ q W5, GrownL (gc :: D) ((wr'.drewN q).setCell ⟨gc, i, none⟩ (.int .i64 m)) W5 → GrownL (gc :: D) wr' W5) := fun q W5 h => ((((GrownL.refl (gc :: D) wr').drewN q).setCell ⟨gc, i, none⟩ (.int .i64 m) (.inl (by simp))).trans h)
          have GE : Hid (∀ W5, GrownL (gc :: D) wr' W5 → ColE W5 bs bd bc bm bp gs gc t most xs (.func (.func K) #[] cap) (colF bs bd bc bm bp)) := fun W5 h => by
            have key : ∀ b, bs ≤ b ∨ b = gs → b ≠ gc → b ∉ gc :: D := fun b hb hn e => by
              rcases List.mem_cons.1 e with e | e
              · exact hn e
              · have := HDD.out b e; omega
            exact HR.out.env.grown h (key _ (by omega) (by omega)) (key _ (by omega) (by omega)) (key _ (by omega) (by omega)) (key _ (by omega) (by omega)) (key _ (by omega) (by omega)) (key _ (by omega) (by omega))
          cases r2
          · go_wp2_with fail
            go_quiet ((go_at_call 96; exact quiet_eq (HFREE.out _)))
            go_wp2_with fail
            refine (HCALL.out _).mono ?_
            rintro e W5 ⟨rfl, hs5, hg5, L5, hL5, hT5, hO5⟩
            have HS5 := Lib.hid hs5
            have HG5 := Lib.hid (GD.out _ _ hg5)
            have HL5 := Lib.hid hL5
            have HT5 := Lib.hid hT5
            have HO5 := Lib.hid hO5
            clear hs5 hg5 hL5 hT5 hO5
            go_wp2_with fail
            go_ret
            have hfin : runCol xs most step (d + 1) cs s = (r1, false) := by
              show runTo xs most step d cs s most = _
              obtain ⟨k, rfl⟩ : ∃ k, most = (m + 1) + k := ⟨most - (m + 1), by omega⟩
              rw [runTo_stop (by rw [HNEXT.out]) k, HNEXT.out]
            rw [hfin]
            refine ⟨rfl, HS5.out, HR.out.frame.trans HG5.out, L5, HL5.out, ?_, HO5.out⟩
            have := congrArg (List.take i) HT5.out
            rw [List.take_take, Nat.min_eq_left (by omega)] at this
            rw [this, List.take_append_of_le_length (by rw [HCI.out]; omega), List.take_of_length_le (by rw [HCI.out]; omega)]
          · go_wp2_with fail
            go_quiet ((go_at_call 96; exact quiet_eq (HFREE.out _)))
            go_wp2_with fail
            refine (HCALL.out _).mono ?_
            rintro e W5 ⟨rfl, hs5, hg5, L5, hL5, hT5, hO5⟩
            have HS5 := Lib.hid hs5
            have HG5 := Lib.hid (GD.out _ _ hg5)
            have HL5 := Lib.hid hL5
            have HT5 := Lib.hid hT5
            have HO5 := Lib.hid hO5
            clear hs5 hg5 hL5 hT5 hO5
            go_wp2_with fail
            go_roundw
            case rel =>
              refine ⟨m + 1, by omega, by go_num, ⟨by rw [HNEXT.out], by rw [HNEXT.out]; exact HS5.out, GE.out _ HG5.out, HR.out.frame.trans HG5.out, L5, HL5.out, ?_, HO5.out⟩⟩
              have := congrArg (List.take i) HT5.out
              rw [List.take_take, Nat.min_eq_left (by omega)] at this
              rw [this, List.take_append_of_le_length (by rw [HCI.out]; omega), List.take_of_length_le (by rw [HCI.out]; omega)]
            case measure => simp [intOf]; omega
      · obtain rfl : m = most := by omega
        obtain ⟨s1, s2, s3, _⟩ := HO'.out.store HL'.out.symm i (by rw [HL'.out]; exact hit) (-1)
        have S3 := Lib.hid s3
        clear s3 hmm
        go_wp2_with fail
        go_ret
        have hfin : runCol xs m step (d + 1) cs s = runTo xs m step d cs s m := rfl
        rw [hfin]
        refine ⟨ret_bool HR.out.on.symm, HDO.out.kept _ _ _ HR.out.st ((GrownL.refl _ _).setCell _ _ (.inl (by simp))), HR.out.frame.setCell _ _ (.inl (by simp)), L'.set i (-1), by rw [List.length_set]; exact HL'.out, ?_, S3.out⟩
        rw [List.take_set, List.set_eq_of_length_le (by simp; omega), HT'.out]
end Go.Proofs.Ytmhepomjbaendaa
