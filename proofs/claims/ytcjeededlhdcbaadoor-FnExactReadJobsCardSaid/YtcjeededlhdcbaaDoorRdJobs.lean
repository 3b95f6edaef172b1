
/- Jobs read from texts: impl.ReadJobs, spec.ReadJobs. Conditions: texts of at most 2^20 bytes; the library's tables and its two error values stand. -/
import Derived.Test.YtcjeededlhdcbaaDoorRdS
import Derived.Test.YtcjeededlhdcbaaDoorValidDesk
namespace Go.Proofs.YtcjeededlhdcbaaDoor
open Go.RowKit Go.Shelf Go.BigFrame
set_option linter.unusedVariables false
set_option linter.unusedSimpArgs false

/-! What reading jobs gives. -/
def jbT (s : ByteArray) : Jb := (nth (rlL s) 0, nth (rlL s) 1, nth (rlL s) 2, nth (rlL s) 3)
def jbB (s : ByteArray) : Bool := rlB s && decide ((rlL s).length = 4)
def rjB (t : ByteArray) : Bool := (cutB 59 t).all jbB && jobsOk ((cutB 59 t).map jbT)
def rjL (t : ByteArray) : List Jb := if rjB t then (cutB 59 t).map jbT else []
theorem rj_bad {t p : ByteArray} {ps : List ByteArray} (h : cutB 59 t = ps) (hp : p ∈ ps) (hb : jbB p = false) : rjB t = false ∧ rjL t = [] := by
  have h1 : rjB t = false := by
    unfold rjB
    rw [h]
    have : ps.all jbB = false := by rw [List.all_eq_false]; exact ⟨p, hp, by rw [hb]; simp⟩
    rw [this]; rfl
  exact ⟨h1, by unfold rjL; rw [h1]; rfl⟩
theorem rj_long {t : ByteArray} {ps : List ByteArray} (h : cutB 59 t = ps) (hl : 24 < ps.length) : rjB t = false ∧ rjL t = [] := by
  have h1 : rjB t = false := by
    unfold rjB jobsOk
    rw [h]
    have : decide ((ps.map jbT).length ≤ 24) = false := by rw [List.length_map]; simp; omega
    rw [this]; simp
  exact ⟨h1, by unfold rjL; rw [h1]; rfl⟩
theorem rj_end {t : ByteArray} {ps : List ByteArray} (h : cutB 59 t = ps) (ha : ∀ p ∈ ps, jbB p = true) : rjB t = jobsOk (ps.map jbT) ∧ (rjB t = true → rjL t = ps.map jbT) ∧ (rjB t = false → rjL t = []) := by
  have h1 : rjB t = jobsOk (ps.map jbT) := by
    unfold rjB
    rw [h]
    have : ps.all jbB = true := by rw [List.all_eq_true]; exact ha
    rw [this]; rfl
  refine ⟨h1, fun q => ?_, fun q => ?_⟩
  · unfold rjL; rw [q, h]; rfl
  · unfold rjL; rw [q]; rfl
theorem jbRaw_snoc (js : List Jb) (j : Jb) : jbRaw (js ++ [j]) = jbRaw js ++ jbInts j := by unfold jbRaw; rw [List.flatMap_append]; simp
/-! Rows of jobs. -/
theorem ownZ_nil {T size : Nat} (w : World) (B : Nat) : OwnZ T size w B (.slice none 0 0) 0 [] := ⟨by simp, .inl ⟨rfl, rfl⟩⟩
theorem jb_lit (w : World) (B : Nat) (hB : B ≤ w.heap.size) : OwnZ 60 4 (w.alloc (.cells #[] 60)) B (.slice (some ⟨w.heap.size, 0, none⟩) 0 0) 0 [] := by
  have := World.ownsRow_lit (e := 60) (size := 4) w #[] 0 hB (Nat.zero_le _) (by simp)
  simpa [OwnZ] using this
/-- 'append(jobs, Job{..})' where the region draws its order. -/
theorem step_append_jb {ops : Array Oper} {o : Oper} {a : Act} {K : Act → World → Prop} {Q : Exit → Act → World → Prop} {E : Prop} {W : World} (hgd : o.guard = none) (s x : Operand)
    (ho : o.op = .call { callee := .builtin .append, args := #[s, x], argTypes := #[28, 28] }) (B : Nat) (v : Value) (n : Nat) (xs : List Int) (b0 b1 b2 b3 : Int)
    (hs : a.eval s = v) (c : Nat) (hx : a.eval x = .slice (some ⟨W.heap.size, 0, none⟩) 1 c) (hown : OwnZ 60 4 W B v n xs) (hB : B ≤ W.heap.size) (hsmall : n ≤ 1048580)
    (hK : ∀ g c w', OwnZ 60 4 w' B (.slice (some ⟨g, 0, none⟩) (n + 1) c) (n + 1) (xs ++ [b0, b1, b2, b3]) → W.grownBy w' v.ownBlock → (v.ownBlock = some g ∨ W.heap.size ≤ g) → K (a.put o.dst (.slice (some ⟨g, 0, none⟩) (n + 1) c)) w') :
    if Region.wanted o (yielded ops a.tmps) = true then Oper.wp Tryd.prog o a (W.alloc (.cells #[.int .i64 b0, .int .i64 b1, .int .i64 b2, .int .i64 b3] 60)).drew K Q else E := by
  obtain ⟨i0, hi, hz0, hz1, hz2⟩ := info_parts info_job
  have hown' : (W.alloc (.cells #[.int .i64 b0, .int .i64 b1, .int .i64 b2, .int .i64 b3] 60)).drew.ownsRow B 60 4 v n (xs.map (Value.int .i64)) := World.ownsRow.drew (World.ownsRow.alloc hown _)
  refine step_append_lies _ hgd s x 28 ho B 60 i0 (.agg #[.int .i64 0, .int .i64 0, .int .i64 0, .int .i64 0]) 4 32 Tryd.underlying28 hi hz0 hz1 hz2 rfl (by decide) v n _ hs hown' ⟨W.heap.size, 0, none⟩ 1 c [.int .i64 b0, .int .i64 b1, .int .i64 b2, .int .i64 b3] hx rfl (cells_lit W [.int .i64 b0, .int .i64 b1, .int .i64 b2, .int .i64 b3] _) ?_ (by decide) (by unfold maxLen; omega) (by omega) (by simp; omega) (W.heap.size + 1) (by simp) ?_
  · intro u hu
    simp only [List.mem_cons, List.not_mem_nil, or_false] at hu
    rcases hu with rfl | rfl | rfl | rfl <;> rfl
  · intro g cap w' h1 h2 h5 _
    have hg : W.grownBy w' v.ownBlock := ⟨h2.os, h2.tape, h2.output, Nat.le_trans (by show W.heap.size ≤ (W.alloc _).heap.size; simp) h2.size, fun k hk hne => (h2.block k (by show k < (W.alloc _).heap.size; simp; omega) hne).trans (Below.heap_alloc _ _ _ hk)⟩
    refine hK g cap w' ?_ hg (h5.imp id (fun e => by omega))
    unfold OwnZ
    rw [List.map_append]
    exact h1
set_option maxRecDepth 100000 in
theorem split59_any (s : ByteArray) (m : Int) (w : World) (hs : s.size ≤ 1048576) (hm : w.cell? ⟨0, 0, none⟩ = some (.int .i64 m)) :
    Calls Tryd.prog 30 #[.string s, .string ⟨#[59]⟩] w fun e w' => (∃ v, e = .returned v ∧ OwnT w' w.heap.size v (cutB 59 s)) ∧ Below w.heap.size w w' := by
  have hlen := cutB_length 59 s
  have hcut : Go.Lib.splitB ⟨#[59]⟩ 0 (Go.Lib.countB s ⟨#[59]⟩) s = cutB 59 s := rfl
  have h := Tryd.strings_Split s ⟨#[59]⟩ m w (by omega) hm (by decide)
  rw [← hlen, hcut] at h
  refine h.mono ?_
  rintro e W1 ⟨rfl, rfl⟩
  refine ⟨⟨_, rfl, OwnT.lit w w.heap.size (cutB 59 s) (Nat.le_refl _) ?_⟩, (Below.refl _ w).alloc (Nat.le_refl _) _⟩
  have := Go.Lib.count_le s.data.toList [59]
  rw [size_data] at this
  have h3 : Go.Lib.countB s ⟨#[59]⟩ ≤ s.size + 1 := this
  rw [hlen]; unfold maxLen; omega
def JdR (ps : List ByteArray) (A N : Nat) (W1 : World) (vo vi : Value) (wr : World) : Prop :=
  ∃ (k g c : Nat), vo = .slice (some ⟨g, 0, none⟩) k c ∧ vi = .int .i64 k ∧ k ≤ ps.length ∧ Hid (∀ p ∈ ps.take k, jbB p = true) ∧ Hid (OwnZ 60 4 wr A (.slice (some ⟨g, 0, none⟩) k c) k (jbRaw ((ps.take k).map jbT))) ∧ Hid (g = A ∨ N ≤ g) ∧ Hid (GrownL [A] W1 wr)
theorem own4 {w : World} {B : Nat} {a : Option Addr} {c : Nat} {L : List Int} (HO : OwnI w B (.slice a L.length c) L) (hN : L.length = 4) : ∃ g, a = some ⟨g, 0, none⟩ ∧ B ≤ g ∧ g < w.heap.size ∧ w.cell? ⟨g, 0, none⟩ = some (.int .i64 (nth L 0)) ∧ w.cell? ⟨g, 1, none⟩ = some (.int .i64 (nth L 1)) ∧ w.cell? ⟨g, 2, none⟩ = some (.int .i64 (nth L 2)) ∧ w.cell? ⟨g, 3, none⟩ = some (.int .i64 (nth L 3)) := by
  obtain ⟨g, rfl⟩ : ∃ g, a = some ⟨g, 0, none⟩ := by
    rcases HO.2 with ⟨h1, h2⟩ | ⟨g, cap, cur, h1, _⟩
    · omega
    · injection h1 with h1 _ _; exact ⟨g, h1⟩
  have := HO.lt g rfl
  exact ⟨g, rfl, this.1, this.2, HO.at_ rfl 0 (by omega), HO.at_ rfl 1 (by omega), HO.at_ rfl 2 (by omega), HO.at_ rfl 3 (by omega)⟩
theorem jbB_no1 {p : ByteArray} (h : rlB p = false) : jbB p = false := by unfold jbB; rw [h]; rfl
theorem jbB_no2 {p : ByteArray} (h : ¬ (rlL p).length = 4) : jbB p = false := by unfold jbB; rw [decide_eq_false h]; simp
theorem jbB_yes {p : ByteArray} (h1 : rlB p = true) (h : (rlL p).length = 4) : jbB p = true := by unfold jbB; rw [h1, decide_eq_true h]; rfl
theorem take_all {ps : List ByteArray} {k : Nat} {p : ByteArray} (h : ∀ q ∈ ps.take k, jbB q = true) (e : ps.take (k + 1) = ps.take k ++ [p]) (hp : jbB p = true) : ∀ q ∈ ps.take (k + 1), jbB q = true := by
  intro q hq
  rw [e] at hq
  rcases List.mem_append.1 hq with h1 | h1
  · exact h q h1
  · rw [List.mem_singleton] at h1; subst h1; exact hp
set_option maxRecDepth 100000 in
set_option maxHeartbeats 4000000 in
theorem readJobs_any (t : ByteArray) (m : Int) (w : World) (hs : t.size ≤ 1048576) (hm : w.cell? ⟨0, 0, none⟩ = some (.int .i64 m)) (ht : Tab10 w) (he : ErrW w) :
    Calls Tryd.prog 10 #[.string t] w fun e w' => (∃ v, e = .returned (.tuple #[v, .bool (rjB t)]) ∧ OwnZ 60 4 w' w.heap.size v (rjL t).length (jbRaw (rjL t))) ∧ Below w.heap.size w w' := by
  obtain ⟨A, hA⟩ : ∃ A, w.heap.size = A := ⟨_, rfl⟩
  have hmG := lt_of_cell hm
  have HMM : Hid (∀ W, Below A w W → W.cell? ⟨0, 0, none⟩ = some (.int .i64 m)) := fun W hW => (hW.cell (p := ⟨0, 0, none⟩) (by rw [← hA]; exact hmG)).trans hm
  have HSP : Hid (∀ W, Below A w W → Calls Tryd.prog 30 #[.string t, .string ⟨#[59]⟩] W fun e w' => (∃ v, e = .returned v ∧ OwnT w' W.heap.size v (cutB 59 t)) ∧ Below W.heap.size W w') := fun W hW => split59_any t m W hs (HMM.out W hW)
  have HRL : Hid (∀ p W, Below A w W → p.size ≤ 1048576 → Calls Tryd.prog 28 #[.string p] W fun e w' => (∃ v, e = .returned (.tuple #[v, .bool (rlB p)]) ∧ OwnI w' W.heap.size v (rlL p)) ∧ Below W.heap.size W w') := fun p W hW hp => ReadList_any p m W hp (HMM.out W hW) (ht.below (by rw [hA]; exact hW)) (he.below (by rw [hA]; exact hW))
  have HPL : Hid (∀ x ∈ cutB 59 t, x.size ≤ 1048576) := fun x hx => Nat.le_trans (cutB_le hx) hs
  have HPN : Hid ((cutB 59 t).length ≤ 1048578) := by
    have := Go.Lib.count_le t.data.toList [59]
    rw [size_data] at this
    have h3 : Go.Lib.countB t ⟨#[59]⟩ ≤ t.size + 1 := this
    show _ ≤ _
    rw [cutB_length]; omega
  have HAJ : Hid (∀ v js W, Jobs W v js → Calls Tryd.prog 31 #[v] W fun e w' => e = .returned (.bool (jobsOk js)) ∧ Below W.heap.size W w') := fun v js W h => areJobs_any v js W h
  have HA := Lib.hid hA
  clear hm ht he hmG hs HMM
  obtain ⟨ps, hps⟩ : ∃ ps, cutB 59 t = ps := ⟨_, rfl⟩
  have HBAD : Hid (∀ p ∈ ps, jbB p = false → rjB t = false ∧ rjL t = []) := fun p hp h => rj_bad hps hp h
  have HEND : Hid ((∀ p ∈ ps, jbB p = true) → rjB t = jobsOk (ps.map jbT) ∧ (rjB t = true → rjL t = ps.map jbT) ∧ (rjB t = false → rjL t = [])) := rj_end hps
  rw [hps] at HPL HPN
  simp only [hps] at HSP
  rw [hA]
  obtain ⟨L, hL⟩ : ∃ L, ps.length = L := ⟨_, rfl⟩
  have HL : Hid (ps.length = L) := hL
  have hL2 : L ≤ 1048578 := by rw [← hL]; exact HPN.out
  have HB0 : Hid (Below A w (w.alloc (.cells #[] 60))) := (Below.refl _ w).alloc (by rw [hA]; exact Nat.le_refl _) _
  have HO0 : Hid (OwnZ 60 4 (w.alloc (.cells #[] 60)) A (.slice (some ⟨A, 0, none⟩) 0 0) 0 []) := by
    have h := jb_lit w A (by rw [hA]; exact Nat.le_refl _)
    rw [hA] at h
    exact h
  have HS0 : Hid (A < (w.alloc (.cells #[] 60)).heap.size) := by show _ < _; simp; omega
  have HC := Lib.hid (HSP.out _ HB0.out)
  clear hps hL hA HSP
  go_enter Tryd.func10, Tryd.ntmps10
  go_wp2_with fail
  refine HC.out.mono ?_
  rintro e W1 ⟨⟨v, rfl, hov⟩, hb1⟩
  obtain ⟨a, c, rfl, hcells⟩ := hov.form
  have HB1 : Hid (Below A w W1) := HB0.out.trans (hb1.mono (by have := HS0.out; omega))
  have HO1 := Lib.hid (HO0.out.below hb1 (Nat.le_refl _))
  have HZ1 : Hid (A < W1.heap.size) := by have := HS0.out; have := hb1.size; show _ < _; omega
  have HCT : Hid (∀ k, k < L → ∀ W, GrownL [A] W1 W → ∃ b, a = some ⟨b, 0, none⟩ ∧ W.cell? ⟨b, k, none⟩ = some (.string (ps.getD k ByteArray.empty))) := fun k hk W hW => by
    obtain ⟨b, h1, h2, h3, h4⟩ := hcells k (by rw [HL.out]; exact hk)
    exact ⟨b, h1, (hW.cell (p := ⟨b, k, none⟩) h3 (by show b ∉ [A]; have := HS0.out; simp; omega)).trans h4⟩
  rw [HL.out]
  have HR0 : Hid (JdR ps A W1.heap.size W1 (.slice (some ⟨A, 0, none⟩) 0 0) (.int .i64 0) W1) := ⟨0, A, 0, rfl, rfl, Nat.zero_le _, (by intro p hp; simp at hp), HO1.out, .inl rfl, GrownL.refl _ _⟩
  clear hov hb1 hcells HC HO1 HO0 HB0
  go_wp2
  simp only [HA.out]
  go_loopw [4, 13] (fun vo vi wr => JdR ps A W1.heap.size W1 vo vi wr) (fun _ vi _ => L - (intOf vi).toNat)
  case atStart => exact HR0.out
  case round =>
    obtain ⟨k, g, cg, rfl, rfl, hk, HAL, HO, HGA, HG⟩ := hrel
    clear HR0
    have HBw : Hid (Below A w wr) := HG.out.toBelow HB1.out (by have := HZ1.out; omega) (fun j hj => by simp; omega)
    by_cases hkL : k < L
    · have k1 : (k : Int) < (L : Int) := by omega
      have k0 : (0 : Int) ≤ (k : Int) := by omega
      obtain ⟨b, rfl, cb⟩ := HCT.out k hkL wr HG.out
      have hkp : k < ps.length := by rw [HL.out]; exact hkL
      obtain ⟨p, hp⟩ : ∃ p, ps.getD k ByteArray.empty = p := ⟨_, rfl⟩
      have hpk : ps[k] = p := by rw [← hp, List.getD_eq_getElem?_getD, List.getElem?_eq_getElem hkp]; rfl
      have HTK : Hid (ps.take (k + 1) = ps.take k ++ [p]) := by show _ = _; rw [List.take_succ_eq_append_getElem hkp, hpk]
      have HPM : Hid (p ∈ ps) := by show _ ∈ _; rw [← hpk]; exact List.getElem_mem hkp
      have hps : p.size ≤ 1048576 := HPL.out p HPM.out
      rw [hp] at cb
      have HD := Lib.hid (HRL.out p wr HBw.out hps)
      have HN1 : Hid (rlB p = false → jbB p = false) := jbB_no1
      have HN2 : Hid (¬ (rlL p).length = 4 → jbB p = false) := jbB_no2
      have HYS : Hid (rlB p = true → (rlL p).length = 4 → jbB p = true) := jbB_yes
      have HBD := Lib.hid (HBAD.out p HPM.out)
      have HJT : Hid (jbT p = (nth (rlL p) 0, nth (rlL p) 1, nth (rlL p) 2, nth (rlL p) 3)) := rfl
      obtain ⟨l, hl⟩ : ∃ l, rlL p = l := ⟨_, rfl⟩
      rw [hl] at HD HN2 HYS HJT
      clear hp hpk hl hkp
      go_wp2_with fail
      refine HD.out.mono ?_
      rintro e W2 ⟨⟨v, rfl, ho⟩, hb2⟩
      obtain ⟨_, a2, c2, hv, _⟩ := ho.ints
      subst hv
      have HB2 : Hid (Below A w W2) := HBw.out.trans (hb2.mono (by have := HZ1.out; have := HG.out.size; omega))
      have HO2 := Lib.hid (HO.out.below hb2 (Nat.le_refl _))
      have HG2 := Lib.hid (HG.out.below hb2 HG.out.size)
      have HA2 : Hid (A ≤ W2.heap.size) := by have := HZ1.out; have := HG.out.size; have := hb2.size; show _ ≤ _; omega
      have HLI := Lib.hid ho
      have HSW : Hid (wr.heap.size ≤ W2.heap.size) := hb2.size
      have HGL : Hid (g < wr.heap.size) := (HO.out.lt g rfl).2
      clear ho hb2 HD HO HG
      cases hb : rlB p
      · have HF := Lib.hid (HBD.out (HN1.out hb))
        go_wp2
        go_ret2
        rw [HF.out.1, HF.out.2]
        exact ⟨⟨_, rfl, ownZ_nil _ _⟩, HB2.out⟩
      · by_cases h4 : l.length = 4
        · have HJ := Lib.hid (HYS.out hb h4)
          obtain ⟨gl, rfl, hg1, hg2, d0, d1, d2, d3⟩ := own4 HLI.out h4
          have HAN := Lib.hid (take_all HAL.out HTK.out HJ.out)
          have HSA : Hid (∀ w3 : World, W2.grownBy w3 (Value.slice (some ⟨g, 0, none⟩) k cg).ownBlock → w3.cell? ⟨gl, 0, none⟩ = some (.int .i64 (nth l 0)) ∧ w3.cell? ⟨gl, 1, none⟩ = some (.int .i64 (nth l 1)) ∧ w3.cell? ⟨gl, 2, none⟩ = some (.int .i64 (nth l 2)) ∧ w3.cell? ⟨gl, 3, none⟩ = some (.int .i64 (nth l 3))) := fun w3 hg => by
            have hf : ∀ j, w3.cell? ⟨gl, j, none⟩ = W2.cell? ⟨gl, j, none⟩ := fun j => hg.cell_far ⟨gl, j, none⟩ hg2 (by rw [ownBlock_slice]; intro e; have e2 : gl = g := Option.some.inj e; have := HGL.out; omega)
            exact ⟨(hf 0).trans d0, (hf 1).trans d1, (hf 2).trans d2, (hf 3).trans d3⟩
          obtain ⟨a0, e0⟩ : ∃ x, nth l 0 = x := ⟨_, rfl⟩
          obtain ⟨a1, e1⟩ : ∃ x, nth l 1 = x := ⟨_, rfl⟩
          obtain ⟨a2, e2⟩ : ∃ x, nth l 2 = x := ⟨_, rfl⟩
          obtain ⟨a3, e3⟩ : ∃ x, nth l 3 = x := ⟨_, rfl⟩
          rw [e0] at d0
          rw [e1] at d1
          rw [e2] at d2
          rw [e3] at d3
          rw [e0, e1, e2, e3] at HJT
          simp only [e0, e1, e2, e3] at HSA
          rw [h4]
          clear e0 e1 e2 e3 hg1 h4 HN1 HN2 HYS HLI
          go_wp2
          go_region_held3 (fun w' => w'.cell? ⟨gl, 0, none⟩ = some (.int .i64 a0) ∧ w'.cell? ⟨gl, 1, none⟩ = some (.int .i64 a1) ∧ w'.cell? ⟨gl, 2, none⟩ = some (.int .i64 a2) ∧ w'.cell? ⟨gl, 3, none⟩ = some (.int .i64 a3))
            (first | go_keep | exact HKP.out)
            ((refine step_append_jb (by rfl) _ _ (by rfl) A (.slice (some ⟨g, 0, none⟩) k cg) k _ a0 a1 a2 a3 (by rfl) 1 (by rfl) HO2.out HA2.out (by omega) ?_; intro g3 c3 w3 ho3 hg3 hl3; have HO3 := Lib.hid ho3; have HG3 : Hid (GrownL [A] W1 w3) := HG2.out.grown hg3 (fun j e => by rw [ownBlock_slice] at e; injection e with e; rcases HGA.out with q | q; exact .inl (List.mem_singleton.2 (by omega)); exact .inr (by omega)); have HGA3 : Hid (g3 = A ∨ W1.heap.size ≤ g3) := lie_keep hl3 HGA.out HG2.out.size; have HKP := Lib.hid (HSA.out w3 hg3); clear ho3 hg3 hl3))
          go_wp2
          go_roundw
          case rel => exact ⟨k + 1, g3, c3, rfl, by go_num, by rw [HL.out]; omega, HAN.out, by show OwnZ _ _ _ _ _ _ _; rw [HTK.out, List.map_append, List.map_singleton, jbRaw_snoc, HJT.out]; exact HO3.out, HGA3.out, HG3.out⟩
          case measure => simp [intOf]; omega
        · have HF := Lib.hid (HBD.out (HN2.out h4))
          have h4b : ((l.length : Int) != 4) = true := by simp; omega
          have h4c : ((l.length : Int) == 4) = false := by simp; omega
          have h4i : ¬ (l.length : Int) = 4 := by omega
          go_wp2
          go_ret2
          rw [HF.out.1, HF.out.2]
          exact ⟨⟨_, rfl, ownZ_nil _ _⟩, HB2.out⟩
    · have k1 : ¬ (k : Int) < (L : Int) := by omega
      obtain rfl : k = L := by have := HL.out; omega
      have HTF : Hid (ps.take k = ps) := List.take_of_length_le (by rw [HL.out]; exact Nat.le_refl _)
      have HE := HAL.out
      rw [HTF.out] at HE
      have HEN := Lib.hid (HEND.out HE)
      have HO9 := HO.out
      rw [HTF.out] at HO9
      have HOF : Hid (OwnZ 60 4 wr A (.slice (some ⟨g, 0, none⟩) k cg) (ps.map jbT).length (jbRaw (ps.map jbT))) := by show OwnZ _ _ _ _ _ _ _; rw [List.length_map, HL.out]; exact HO9
      have HJ := Lib.hid (HAJ.out _ _ wr HOF.out.jobs)
      obtain ⟨js, hjs⟩ : ∃ js, ps.map jbT = js := ⟨_, rfl⟩
      rw [hjs] at HJ HEN HOF
      clear hkL HE HO9 hjs HO HAL
      go_wp2_with fail
      refine HJ.out.mono ?_
      rintro e W4 ⟨rfl, hb4⟩
      have HB4 : Hid (Below A w W4) := HBw.out.trans (hb4.mono (by have := HZ1.out; have := HG.out.size; omega))
      have HO4 := Lib.hid (HOF.out.below hb4 (Nat.le_refl _))
      clear hb4 HJ
      cases hok : jobsOk js
      · have HF : Hid (rjB t = false) := HEN.out.1.trans hok
        have HF2 := Lib.hid (HEN.out.2.2 HF.out)
        go_wp2
        go_ret2
        rw [HF.out, HF2.out]
        exact ⟨⟨_, rfl, ownZ_nil _ _⟩, HB4.out⟩
      · have HF : Hid (rjB t = true) := HEN.out.1.trans hok
        have HF2 := Lib.hid (HEN.out.2.1 HF.out)
        go_wp2
        go_ret2
        rw [HF.out, HF2.out]
        exact ⟨⟨_, rfl, HO4.out⟩, HB4.out⟩
end Go.Proofs.YtcjeededlhdcbaaDoor
