/- spec.RulePlan on small tasks. Conditions: valid tasks, none needs more than the crew. With texts that it needs. -/
import Derived.Test.YtcjeededlhdcbaaCrewsAll8
import Derived.Test.YtcjeededlhdcbaaCrewsAll14
import Derived.Test.YtcjeededlhdcbaaCrewsAll10
import Derived.Test.YtcjeededlhdcbaaCrewsAll1
import Derived.Test.YtcjeededlhdcbaaCrewsAll17
import Derived.Test.YtcjeededlhdcbaaCrewsAll15
import Derived.Deep.QuietTactic
import Derived.BigQuiet
import Derived.Test.YtcjeededlhdcbaaCrewsAll16
namespace Go.Proofs.Ytcjeededlhdcbaa
open Go.RowKit
set_option linter.unusedVariables false
set_option linter.unusedSimpArgs false

theorem OwnI.rowT {w W : World} {N g n c : Nat} {xs : List Int} (h : OwnI w N (.slice (some ⟨g, 0, none⟩) n c) xs) {r : Nat} (hg : w.grownBy W (some r)) (hn : g ≠ r) : OwnI W N (.slice (some ⟨g, 0, none⟩) n c) xs :=
  h.kept hg (.inr (by rw [ownBlock_slice]; intro e; injection e with e; exact hn e))
theorem OwnB.rowT {w W : World} {N g n c : Nat} {xs : List Bool} (h : OwnB w N (.slice (some ⟨g, 0, none⟩) n c) xs) {r : Nat} (hg : w.grownBy W (some r)) (hn : g ≠ r) : OwnB W N (.slice (some ⟨g, 0, none⟩) n c) xs :=
  h.kept hg (.inr (by rw [ownBlock_slice]; intro e; injection e with e; exact hn e))
/-- What the rounds know. -/
structure TakeQ (T : Nat) (ts : List Tk) (crew : Int) (E : List Int) (go gt N k : Nat) (W0 wr : World) (out : List Int) : Prop where
  inv : TakeI ts (zeroS T) crew E k out
  own : OwnI wr N (.slice (some ⟨go, 0, none⟩) T T) (zerL out)
  ownB : OwnB wr N (.slice (some ⟨gt, 0, none⟩) T T) (tldL out)
  frm : GrownL [go, gt] W0 wr
theorem TakeQ.drewN {T : Nat} {ts : List Tk} {crew : Int} {E : List Int} {go gt N k : Nat} {W0 wr : World} {out : List Int} (h : TakeQ T ts crew E go gt N k W0 wr out) (q : Nat) : TakeQ T ts crew E go gt N k W0 (wr.drewN q) out :=
  ⟨h.inv, h.own.drewN q, h.ownB.drewN q, h.frm.drewN q⟩
def TakeQR (T : Nat) (ts : List Tk) (crew : Int) (E : List Int) (go gt N : Nat) (W0 : World) (vk : Value) (wr : World) : Prop :=
  ∃ (k : Nat) (out : List Int), vk = .int .i64 k ∧ k ≤ T ∧ Hid (TakeQ T ts crew E go gt N k W0 wr out)
/-- The search for a start. -/
def TakeC (u : Nat → Int) (crew need time a B : Int) (W : World) (vs : Value) (wr : World) : Prop :=
  ∃ (m : Nat) (s : Int), vs = .int .i64 s ∧ a ≤ s ∧ s ≤ B ∧ Hid (noneW u crew need time a s) ∧ wr = W.drewN m
/-- The search for a clash. -/
def TakeD (u : Nat → Int) (crew need time s B : Int) (W : World) (vc vt : Value) (wr : World) : Prop :=
  ∃ (t m : Nat) (c : Int), vc = .int .i64 c ∧ vt = .int .i64 t ∧ s ≤ t ∧ (t : Int) ≤ s + time ∧ Hid ((c = -1 ∧ ∀ j : Nat, s ≤ j → (j : Int) < t → u j + need ≤ crew) ∨ (s ≤ c ∧ c < s + time ∧ c + 1 ≤ B ∧ crew < u c.toNat + need)) ∧ wr = W.drewN m
def TakeU (ts : List Tk) (out : List Int) (need : Int) (t T : Nat) (W : World) (vu vk : Value) (wr : World) : Prop :=
  ∃ (k m : Nat), vu = .int .i64 (need + useO ts out t k) ∧ vk = .int .i64 k ∧ k ≤ T ∧ wr = W.drewN m
theorem TakeQ.put {T : Nat} {ts : List Tk} {crew s : Int} {E : List Int} {go gt N k i : Nat} {W0 wr : World} {out : List Int} (h : TakeQ T ts crew E go gt N k W0 wr out) (hs : 0 ≤ s) (hi : i < T) (hl : T = out.length) (hgo : go < gt)
    (hI : TakeI ts (zeroS T) crew E (k + 1) (out.set i s)) :
    wr.frozen? ⟨go, i, none⟩ = false ∧ wr.cell? ⟨go, i, none⟩ = some (.int .i64 (nth (zerL out) i)) ∧ (wr.setCell ⟨go, i, none⟩ (.int .i64 s)).frozen? ⟨gt, i, none⟩ = false ∧ (wr.setCell ⟨go, i, none⟩ (.int .i64 s)).cell? ⟨gt, i, none⟩ = some (.bool (decide (0 ≤ nth out i))) ∧
      TakeQ T ts crew E go gt N (k + 1) W0 ((wr.setCell ⟨go, i, none⟩ (.int .i64 s)).setCell ⟨gt, i, none⟩ (.bool true)) (out.set i s) := by
  have hz : T = (zerL out).length := by rw [zerL_len]; exact hl
  have ht : T = (tldL out).length := by rw [tldL_len]; exact hl
  obtain ⟨s1, s2, s3, s4⟩ := h.own.store hz i (by omega) s
  have hb := h.ownB.rowT s4 (by omega)
  obtain ⟨t1, t2, t3, t4⟩ := hb.store ht i (by omega) true
  rw [tldL_at] at t1
  refine ⟨s2, h.own.at_ hz i (by omega), t2, t1, hI, ?_, ?_, (h.frm.grown s4 (fun j e => .inl (by cases e; simp))).grown t4 (fun j e => .inl (by cases e; simp))⟩
  · rw [zerL_set _ _ hs]; exact s3.rowT t4 (by omega)
  · rw [tldL_set _ _ hs]; exact t3
theorem zerL_all {out : List Int} (h : ∀ j, j < out.length → 0 ≤ nth out j) : zerL out = out := by
  unfold zerL
  conv => rhs; rw [← List.map_id out]
  apply List.map_congr_left
  intro x hx
  obtain ⟨j, hj, rfl⟩ := List.getElem_of_mem hx
  have := h j hj
  rw [nth_eq hj] at this
  show max _ _ = _
  simp only [id]
  omega
set_option maxRecDepth 100000 in
set_option maxHeartbeats 4000000 in
theorem specTake_any (vt vo : Value) (ts : List Tk) (E : List Int) (crew : Int) (w : World) (ht : TasksR w vt ts) (ho : Ints w vo E) (hsm : SmTs ts) (hE : OrdOk ts E) (hneed : ∀ i, i < ts.length → needN ts i ≤ crew) (hcw : 0 ≤ crew ∧ crew ≤ 20) :
    Calls Try.prog 59 #[vt, vo, .int .i64 crew] w fun e w' => (∃ out g, takeL ts crew E = some out ∧ e = .returned (.slice (some ⟨g, 0, none⟩) ts.length ts.length) ∧ OwnI w' w.heap.size (.slice (some ⟨g, 0, none⟩) ts.length ts.length) out) ∧ Below w.heap.size w w' := by
  have HCW : Hid (0 ≤ crew ∧ crew ≤ 20) := hcw
  have hEL := OrdOk.len hE.perm
  have HTK : Hid (∀ W, Below w.heap.size w W → TasksR W vt ts) := fun W hW => ht.below hW (Nat.le_refl _)
  obtain ⟨b, o, c, VB, VL, rfl, hcap, hbw, hsrc⟩ := ht.src hsm.n1
  have hT16 := hsm.n16
  obtain ⟨aE, cE, rfl, ecap, hS⟩ := ho.view
  rw [hEL] at hS ecap ⊢
  have HSRC : Hid (∀ i, i < ts.length → TkSrc w b o ts VB VL i) := hsrc
  have HSM := Lib.hid hsm
  have HE := Lib.hid hE
  have HND := Lib.hid hneed
  have HPF : Hid (takeL ts crew E = mendL ts (zeroS ts.length) crew E (noneL ts.length)) := rfl
  obtain ⟨T, hT⟩ : ∃ T, ts.length = T := ⟨_, rfl⟩
  have HT : Hid (ts.length = T) := hT
  rw [hT] at hcap hT16 HSRC hS ecap hEL HND HPF ⊢
  have hT1 : 1 ≤ T := by rw [← hT]; exact hsm.n1
  obtain ⟨bE, oE, rfl, _⟩ := hS w (Below.refl _ _) 0 (by omega)
  have HEC : Hid (∀ W, Below w.heap.size w W → ∀ k, k < T → W.cell? ⟨bE, oE + k, none⟩ = some (.int .i64 (nth E k))) := fun W hW k hk => by
    obtain ⟨b', o', e', c'⟩ := hS W hW k (by omega)
    obtain ⟨rfl, rfl⟩ : bE = b' ∧ oE = o' := by simpa using e'
    exact c'
  have HNE : Hid (∀ i, i < T → 0 ≤ needN ts i ∧ needN ts i ≤ crew ∧ needN ts i ≤ 20) := fun i hi => by
    have h1 := HSM.out.need i (by rw [HT.out]; exact hi)
    have h2 := HND.out i hi
    omega
  obtain ⟨i0, hi, hz0, hz1, hz2⟩ := info_parts info_i64
  obtain ⟨i1, ji, jz0, jz1, jz2⟩ := info_parts info_bool
  clear ht ho hsrc hsm hE hneed hT hS hEL hcw
  go_enter Try.func59, Try.ntmps59
  go_wp2_with (first
    | (at_make; refine wpList_make_full _ rfl _ _ 27 rfl w.heap.size 2 i0 (.int .i64 0) 1 Try.underlying27 hi hz0 hz1 _ _ _ _ T rfl rfl rfl rfl (by rw [hz2]; omega) (by unfold maxLen; omega) (Nat.le_refl _) ?_; intro W4 hown4 hgrow4; have HA4 := Lib.hid (And.intro hown4 hgrow4); have HB4 : Hid (Below w.heap.size w W4) := (Below.refl _ w).grown hgrow4 (Nat.le_refl _) (fun k e => by cases e); clear hown4 hgrow4)
    | (at_make; refine wpList_make_full _ rfl _ _ 73 rfl w.heap.size 4 i1 (.bool false) 1 Try.underlying73 ji jz0 jz1 _ _ _ _ T rfl rfl rfl rfl (by rw [jz2]; omega) (by unfold maxLen; omega) HB4.out.size ?_; intro W5 hown5 hgrow5; have HA5 := Lib.hid (And.intro hown5 hgrow5); have HB5 : Hid (Below w.heap.size w W5) := HB4.out.grown hgrow5 HB4.out.size (fun k e => by cases e); clear hown5 hgrow5))
  obtain ⟨go, hgo⟩ : ∃ g, w.heap.size = g := ⟨_, rfl⟩
  obtain ⟨gt, hgt⟩ : ∃ g, W4.heap.size = g := ⟨_, rfl⟩
  have HWG : Hid (w.heap.size = go) := hgo
  have HU4 : Hid (OwnI W4 go (.slice (some ⟨go, 0, none⟩) T T) (List.replicate T 0)) := by have h := made_replicate HA4.out.1; rw [hgo] at h; exact h
  rw [hgt] at HA5
  have HU5 : Hid (OwnI W5 go (.slice (some ⟨go, 0, none⟩) T T) (List.replicate T 0)) := HU4.out.kept HA5.out.2 (.inr (by rw [ownBlock_slice]; simp))
  have HV5 : Hid (OwnB W5 go (.slice (some ⟨gt, 0, none⟩) T T) (List.replicate T false)) := by have h := OwnB.made HA5.out.1; rw [hgo] at h; exact h
  have HGB : Hid (go < gt ∧ gt < W5.heap.size) := by
    have h1 := HU4.out.lt go rfl
    have h2 := HV5.out.lt gt rfl
    show _ ∧ _
    omega
  rw [hgo] at HB5 HEC HTK hbw ⊢
  have HQ0 : Hid (TakeQR T ts crew E go gt go W5 (.int .i64 0) W5) := by
    refine ⟨0, noneL T, rfl, Nat.zero_le _, ?_⟩
    have hI := takeI_start (st := zeroS T) (crew := crew) HSM.out HE.out.perm
    rw [HT.out] at hI
    exact ⟨hI, by rw [zerL_none]; exact HU5.out, by rw [tldL_none]; exact HV5.out, GrownL.refl _ _⟩
  have HKB : Hid (∀ W, GrownL [go, gt] W5 W → Below go w W) := fun W hW => hW.toBelow HB5.out (by have := HGB.out; omega) (fun j hj => by have := HGB.out; simp; omega)
  have HKC : Hid (∀ W, GrownL [go, gt] W5 W → ∀ i, i < T → W.cell? ⟨b, o + i * 4, none⟩ = some (.int .i64 (timeN ts i)) ∧ W.cell? ⟨b, o + i * 4 + 1, none⟩ = some (.int .i64 (needN ts i))) := fun W hW i hi => by
    have hB := HKB.out W hW
    exact ⟨(hB.cell (p := ⟨b, o + i * 4, none⟩) hbw).trans (HSRC.out i hi).c0, (hB.cell (p := ⟨b, o + i * 4 + 1, none⟩) hbw).trans (HSRC.out i hi).c1⟩
  simp only [hgt]
  clear HA4 HA5 HU4 HU5 HV5 HB4 hi hz0 hz1 hz2 ji jz0 jz1 jz2 hgo hgt
  go_loopw [24] (fun vk wr => TakeQR T ts crew E go gt go W5 vk wr) (fun vk _ => T - (intOf vk).toNat)
  case atStart => exact HQ0.out
  case round =>
    obtain ⟨k, out, rfl, hk, HQ⟩ := hrel
    clear HQ0
    by_cases hkT : k < T
    · have k2 : (k : Int) < (T : Int) := by omega
      have k3 : (0 : Int) ≤ (k : Int) := by omega
      have hnx := HQ.out.inv.next HE.out.perm (by rw [HT.out]; exact hkT)
      have HTD := Lib.hid (HQ.out.inv.toldOk HE.out (by rw [HT.out]; exact hkT))
      rw [HT.out] at hnx
      have ce := HEC.out wr (HKB.out wr HQ.out.frm) k hkT
      obtain ⟨i, hi⟩ : ∃ i : Nat, nth E k = i := ⟨(nth E k).toNat, by omega⟩
      have HI : Hid (nth E k = i) := hi
      rw [hi, Int.toNat_natCast] at hnx
      rw [hi, Int.toNat_natCast] at HTD
      rw [hi] at ce
      have hiT := hnx.2.2.1
      have HNI : Hid (nth out i = -1) := hnx.2.2.2
      have i0 : (0 : Int) ≤ (i : Int) := by omega
      have i1 : (i : Int) < (T : Int) := by omega
      have HLEN : Hid (T = out.length) := by have := HQ.out.inv.len; have := HT.out; show _ = _; omega
      clear hi hnx
      have HOB : Hid (∀ j, j < T → -1 ≤ nth out j ∧ nth out j + timeN ts j ≤ 500 + 300 * (k : Int) ∧ 0 ≤ timeN ts j ∧ timeN ts j ≤ 100) := fun j hj => by
        have h1 := HQ.out.inv.lo j (by rw [HT.out]; exact hj)
        have h2 := HQ.out.inv.hi j (by rw [HT.out]; exact hj)
        have h3 := HSM.out.time j (by rw [HT.out]; exact hj)
        exact ⟨h1, h2, h3.1, h3.2⟩
      have HSZ : Hid (SmSt (zerL out) ts.length) := ⟨by rw [zerL_len, ← HLEN.out, HT.out], fun j hj => by
        have hj' : j < T := by rw [← HT.out]; exact hj
        have h1 := HOB.out j hj'
        rw [zerL_at (by rw [← HLEN.out]; exact hj')]
        omega⟩
      have HZE : Hid (leastN ts (zerL out) i = leastN ts out i) := leastN_zer HSM.out (by rw [← HLEN.out, HT.out]) (by rw [HT.out]; exact hiT) HTD.out
      have HEA : Hid (∀ m, Calls Try.prog 121 #[.slice (some ⟨b, o, none⟩) T c, .slice (some ⟨go, 0, none⟩) T T, .int .i64 i] (wr.drewN m) fun e w' => e = .returned (.int .i64 (leastN ts out i)) ∧ ∃ q, w' = (wr.drewN m).drewN q) := fun m => by
        have h := specLeast_any _ _ ts (zerL out) i (wr.drewN m) (HTK.out _ (HKB.out _ (HQ.out.frm.drewN m))) ((HQ.out.own.drewN m).ints) HSM.out HSZ.out (by rw [HT.out]; exact hiT)
        rw [HZE.out] at h
        rw [HT.out] at h
        exact h
      have HA0 : Hid (0 ≤ leastN ts out i ∧ leastN ts out i ≤ 600 + 300 * (k : Int)) := by
        have h1 := leastTo_le (B := 500 + 300 * (k : Int)) HSM.out (i := i) (out := out) (by rw [HT.out]; exact hiT) (by omega) HQ.out.inv.hi _ (Nat.le_refl _)
        have h2 := leastN_nn ts out i
        have h6 : leastN ts out i ≤ 500 + 300 * (k : Int) + 100 := h1
        show _ ∧ _
        omega
      obtain ⟨a, ha⟩ : ∃ x, leastN ts out i = x := ⟨_, rfl⟩
      have HLE : Hid (max (nth (zeroS T) i) (leastN ts out i) = a) := by show _ = _; rw [max_zeroS]; exact ha
      rw [ha] at HEA HA0
      have ha0 : 0 ≤ a ∧ a ≤ 600 + 300 * (k : Int) := HA0.out
      have HEA0 : Hid (Calls Try.prog 121 #[.slice (some ⟨b, o, none⟩) T c, .slice (some ⟨go, 0, none⟩) T T, .int .i64 i] wr fun e w' => e = .returned (.int .i64 a) ∧ ∃ q, w' = (wr.drewN 0).drewN q) := HEA.out 0
      clear ha HA0 HZE HSZ HEA
      go_wp2_with fail
      refine HEA0.out.mono ?_
      rintro e W6 ⟨rfl, q6, rfl⟩
      clear HEA0
      have HQ2 : Hid (TakeQ T ts crew E go gt go k W5 ((wr.drewN 0).drewN q6) out) := (HQ.out.drewN 0).drewN q6
      obtain ⟨V, hV⟩ : ∃ V, (wr.drewN 0).drewN q6 = V := ⟨_, rfl⟩
      rw [hV] at HQ2 ⊢
      clear hV HQ ce
      have hcs := HKC.out V HQ2.out.frm
      have HCS := Lib.hid hcs
      obtain ⟨d0, d1⟩ := hcs i hiT
      have HTC : Hid (∀ j, j < T → V.cell? ⟨gt, j, none⟩ = some (.bool (decide (0 ≤ nth out j)))) := fun j hj => by
        have h := (HQ2.out.ownB.store (by rw [tldL_len]; exact HLEN.out) j (by rw [tldL_len, ← HLEN.out]; exact hj) true).1
        rw [tldL_at] at h
        exact h
      have HOC : Hid (∀ j, j < T → V.cell? ⟨go, j, none⟩ = some (.int .i64 (max (nth out j) 0))) := fun j hj => by
        have h := HQ2.out.own.at_ (by rw [zerL_len]; exact HLEN.out) j (by rw [zerL_len, ← HLEN.out]; exact hj)
        rw [zerL_at (by rw [← HLEN.out]; exact hj)] at h
        exact h
      have HNI2 := HNE.out i hiT
      have HTI := HOB.out i hiT
      obtain ⟨tmI, htmI⟩ : ∃ x, timeN ts i = x := ⟨_, rfl⟩
      obtain ⟨ndI, hndI⟩ : ∃ x, needN ts i = x := ⟨_, rfl⟩
      have HTI' : Hid (timeN ts i = tmI) := htmI
      have HND' : Hid (needN ts i = ndI) := hndI
      rw [htmI] at d0 HTI
      rw [hndI] at d1 HNI2
      clear htmI hndI hcs
      have HM0 : Hid (TakeC (fun t : Nat => useO ts out t T) crew ndI tmI a (600 + 300 * (k : Int)) V (.int .i64 a) V) := ⟨0, a, rfl, Int.le_refl _, ha0.2, noneW.start _ _ _ _ _, rfl⟩
      go_wp2
      go_loopw [11] (fun vs wi => TakeC (fun t : Nat => useO ts out t T) crew ndI tmI a (600 + 300 * (k : Int)) V vs wi) (fun vs _ => (600 + 300 * (k : Int) + 1 - intOf vs).toNat)
      case atStart => exact HM0.out
      case round =>
        obtain ⟨m4, s, rfl, has, hsB, HNW, rfl⟩ := hrel
        clear HM0
        have w3 : IntKind.i64.wrap (s + tmI) = s + tmI := IntWalk.i64_in _ (by omega)
        have HD0 : Hid (TakeD (fun t : Nat => useO ts out t T) crew ndI tmI s (600 + 300 * (k : Int)) V (.int .i64 (-1)) (.int .i64 s) (V.drewN m4)) :=
          ⟨s.toNat, m4, -1, rfl, by go_num, by omega, by omega, .inl ⟨rfl, fun j h1 h2 => by omega⟩, rfl⟩
        go_wp2
        go_loopw [12, 13] (fun vc vt wi => TakeD (fun t : Nat => useO ts out t T) crew ndI tmI s (600 + 300 * (k : Int)) V vc vt wi) (fun _ vt _ => (s + tmI - intOf vt).toNat)
        case atStart => exact HD0.out
        case round =>
          obtain ⟨t, m6, cl, rfl, rfl, hst, hts, HCL, rfl⟩ := hrel
          clear HD0
          have w4 : IntKind.i64.wrap ((t : Int) + 1) = (t : Int) + 1 := IntWalk.i64_in _ (by omega)
          by_cases hcl0 : cl < 0
          · have HFR : Hid (cl = -1 ∧ ∀ j : Nat, s ≤ j → (j : Int) < t → useO ts out j T + ndI ≤ crew) := by
              rcases HCL.out with h | h
              · exact h
              · exfalso; omega
            have hcl1 : cl = -1 := HFR.out.1
            subst hcl1
            clear HCL hcl0
            by_cases hlt : (t : Int) < s + tmI
            · have hd0 : decide ((t : Int) < s + tmI) = true := by simpa using hlt
              have HU0 : Hid (TakeU ts out ndI t T V (.int .i64 ndI) (.int .i64 0) (V.drewN m6)) := ⟨0, m6, by show Value.int .i64 _ = Value.int .i64 (_ + 0); congr 1; omega, rfl, Nat.zero_le _, rfl⟩
              go_wp2
              go_loopw [14, 58] (fun vu vk wi => TakeU ts out ndI t T V vu vk wi) (fun _ vk _ => T - (intOf vk).toNat)
              case atStart => exact HU0.out
              case round =>
                obtain ⟨j, m5, rfl, rfl, hj, rfl⟩ := hrel
                clear HU0
                have hub := useO_bounds (ts := ts) (out := out) (t := (t : Int)) HSM.out j (by rw [HT.out]; exact hj)
                by_cases hjT : j < T
                · have j1 : (j : Int) < (T : Int) := by omega
                  have j0 : (0 : Int) ≤ (j : Int) := by omega
                  have ct := HTC.out j hjT
                  have co := HOC.out j hjT
                  obtain ⟨e0, e1⟩ := HCS.out j hjT
                  have hob := HOB.out j hjT
                  have hnj := HNE.out j hjT
                  have HUN : Hid (useO ts out t (j + 1) = useO ts out t j + if 0 ≤ nth out j ∧ nth out j ≤ t ∧ (t : Int) < nth out j + timeN ts j then needN ts j else 0) := rfl
                  obtain ⟨u, hu⟩ : ∃ u, useO ts out t j = u := ⟨_, rfl⟩
                  obtain ⟨F, hF⟩ : ∃ F, nth out j = F := ⟨_, rfl⟩
                  obtain ⟨tmJ, htJ⟩ : ∃ x, timeN ts j = x := ⟨_, rfl⟩
                  obtain ⟨ndJ, hnJ⟩ : ∃ x, needN ts j = x := ⟨_, rfl⟩
                  rw [hu] at HUN hub ⊢
                  rw [hF] at HUN co ct hob
                  rw [htJ] at HUN e0 hob
                  rw [hnJ] at HUN e1 hnj
                  clear hu hF htJ hnJ
                  by_cases hF0 : 0 ≤ F
                  · rw [decide_eq_true hF0] at ct
                    rw [show max F 0 = F by omega] at co
                    have w6 : IntKind.i64.wrap (F + tmJ) = F + tmJ := IntWalk.i64_in _ (by omega)
                    have w7 : IntKind.i64.wrap (ndI + u + ndJ) = ndI + u + ndJ := IntWalk.i64_in _ (by omega)
                    by_cases h1 : F ≤ (t : Int)
                    · have hd1 : decide (F ≤ (t : Int)) = true := by simpa using h1
                      by_cases h2 : (t : Int) < F + tmJ
                      · have hd2 : decide ((t : Int) < F + tmJ) = true := by simpa using h2
                        have HUN2 : Hid (ndI + useO ts out t (j + 1) = ndI + u + ndJ) := by show _ = _; rw [HUN.out, if_pos ⟨hF0, h1, h2⟩]; omega
                        clear HUN
                        go_wp2
                        go_quiet (fail)
                        go_wp2
                        go_roundw
                        case rel => exact ⟨j + 1, _, by rw [HUN2.out], by go_num, by omega, rfl⟩
                        case measure => simp [intOf]; omega
                      · have hd2 : decide ((t : Int) < F + tmJ) = false := by simpa using h2
                        have HUN2 : Hid (ndI + useO ts out t (j + 1) = ndI + u) := by show _ = _; rw [HUN.out, if_neg (fun h => h2 h.2.2)]; omega
                        clear HUN
                        go_wp2
                        go_quiet (fail)
                        go_wp2
                        go_roundw
                        case rel => exact ⟨j + 1, _, by rw [HUN2.out], by go_num, by omega, rfl⟩
                        case measure => simp [intOf]; omega
                    · have hd1 : decide (F ≤ (t : Int)) = false := by simpa using h1
                      have HUN2 : Hid (ndI + useO ts out t (j + 1) = ndI + u) := by show _ = _; rw [HUN.out, if_neg (fun h => h1 h.2.1)]; omega
                      clear HUN
                      go_wp2
                      go_quiet (fail)
                      go_wp2
                      go_roundw
                      case rel => exact ⟨j + 1, _, by rw [HUN2.out], by go_num, by omega, rfl⟩
                      case measure => simp [intOf]; omega
                  · rw [decide_eq_false hF0] at ct
                    have HUN2 : Hid (ndI + useO ts out t (j + 1) = ndI + u) := by show _ = _; rw [HUN.out, if_neg (fun h => hF0 h.1)]; omega
                    clear HUN
                    go_wp2
                    go_quiet (fail)
                    go_wp2
                    go_roundw
                    case rel => exact ⟨j + 1, _, by rw [HUN2.out], by go_num, by omega, rfl⟩
                    case measure => simp [intOf]; omega
                · have j1 : ¬ (j : Int) < (T : Int) := by omega
                  obtain rfl : j = T := by omega
                  have HUA : Hid (500 + 300 * (k : Int) ≤ (t : Int) → useO ts out t j = 0) := fun h => useO_none_after h j (fun q hq => (HOB.out q hq).2.1)
                  obtain ⟨u, hu⟩ : ∃ u, useO ts out t j = u := ⟨_, rfl⟩
                  have HU : Hid (useO ts out t j = u) := hu
                  rw [hu] at HUA hub ⊢
                  clear hu
                  by_cases hcl : crew < ndI + u
                  · have htB : (t : Int) < 500 + 300 * (k : Int) := by
                      rcases Int.lt_or_le (t : Int) (500 + 300 * (k : Int)) with h | h
                      · exact h
                      · exfalso; have := HUA.out h; omega
                    have HC2 : Hid (((t : Int) = -1 ∧ ∀ q : Nat, s ≤ q → (q : Int) < ((t + 1 : Nat) : Int) → useO ts out q j + ndI ≤ crew) ∨ (s ≤ (t : Int) ∧ (t : Int) < s + tmI ∧ (t : Int) + 1 ≤ 600 + 300 * (k : Int) ∧ crew < useO ts out ((t : Int).toNat : Nat) j + ndI)) := .inr ⟨hst, hlt, by omega, by rw [Int.toNat_natCast, HU.out]; omega⟩
                    go_wp2
                    go_roundw
                    case rel => exact ⟨t + 1, _, (t : Int), rfl, by go_num, by omega, by omega, HC2.out, rfl⟩
                    case measure => simp [intOf]; omega
                  · have HC2 : Hid ((((-1 : Int)) = -1 ∧ ∀ q : Nat, s ≤ q → (q : Int) < ((t + 1 : Nat) : Int) → useO ts out q j + ndI ≤ crew) ∨ (s ≤ (-1 : Int) ∧ (-1 : Int) < s + tmI ∧ (-1 : Int) + 1 ≤ 600 + 300 * (k : Int) ∧ crew < useO ts out ((-1 : Int).toNat : Nat) j + ndI)) := .inl ⟨rfl, fun q h1 h2 => by
                      by_cases e : q = t
                      · subst e; rw [HU.out]; omega
                      · exact HFR.out.2 q h1 (by omega)⟩
                    go_wp2
                    go_roundw
                    case rel => exact ⟨t + 1, _, -1, rfl, by go_num, by omega, by omega, HC2.out, rfl⟩
                    case measure => simp [intOf]; omega
            · have hd0 : decide ((t : Int) < s + tmI) = false := by simpa using hlt
              have HFIT : Hid (Fit (fun t : Nat => useO ts out t T) crew ndI tmI a s) := fit_of_search has (by omega) HNW.out HFR.out.2
              clear HNW HFR
              have HQ3 : Hid (TakeQ T ts crew E go gt go k W5 (V.drewN m6) out) := HQ2.out.drewN m6
              obtain ⟨X, hX⟩ : ∃ X, V.drewN m6 = X := ⟨_, rfl⟩
              rw [hX] at HQ3 ⊢
              clear hX HQ2 HOC HTC
              have hIN : TakeI ts (zeroS T) crew E (k + 1) (out.set i s) := by
                have h := HQ3.out.inv.step (s := s) HE.out.perm (by rw [HT.out]; exact hkT) HSM.out (by rw [HI.out, Int.toNat_natCast]; exact HTD.out) (by rw [HI.out, Int.toNat_natCast, HT.out, HND'.out, HTI'.out, HLE.out]; exact HFIT.out) (by omega) hsB
                rw [HI.out, Int.toNat_natCast] at h
                exact h
              have hs0 : 0 ≤ s := by omega
              obtain ⟨f1, f2, f3, f4, hput⟩ := HQ3.out.put hs0 hiT HLEN.out HGB.out.1 hIN
              have HPUT := Lib.hid hput
              obtain ⟨g0, _⟩ := HKC.out X HQ3.out.frm i hiT
              rw [HTI'.out] at g0
              clear hput hIN
              go_wp2
              go_roundw
              case rel => exact ⟨k + 1, _, by go_num, by omega, HPUT.out⟩
              case measure => simp [intOf]; omega
          · have HC2 : Hid (s ≤ cl ∧ cl < s + tmI ∧ cl + 1 ≤ 600 + 300 * (k : Int) ∧ crew < useO ts out (cl.toNat : Nat) T + ndI) := by
              rcases HCL.out with h | h
              · exfalso; omega
              · exact h
            obtain ⟨q1, q2, q3, q4⟩ := HC2.out
            have hd1 : decide (cl < 0) = false := by simpa using hcl0
            have HNW2 : Hid (noneW (fun t : Nat => useO ts out t T) crew ndI tmI a (cl + 1)) := by
              have h := HNW.out.jump (b := cl.toNat) (by omega) (by omega) q4
              rw [Int.toNat_of_nonneg (by omega)] at h
              exact h
            have w8 : IntKind.i64.wrap (cl + 1) = cl + 1 := IntWalk.i64_in _ (by omega)
            clear HCL HC2 q4
            by_cases hlt : (t : Int) < s + tmI
            · have hd0 : decide ((t : Int) < s + tmI) = true := by simpa using hlt
              go_wp2
              go_roundw
              case rel => exact ⟨_, cl + 1, rfl, by omega, q3, HNW2.out, rfl⟩
              case measure => simp [intOf]; omega
            · have hd0 : decide ((t : Int) < s + tmI) = false := by simpa using hlt
              go_wp2
              go_roundw
              case rel => exact ⟨_, cl + 1, rfl, by omega, q3, HNW2.out, rfl⟩
              case measure => simp [intOf]; omega
    · have k2 : ¬ (k : Int) < (T : Int) := by omega
      have HKTT : Hid (k = T) := by show _ = _; omega
      have HFIN : Hid (takeL ts crew E = some out ∧ zerL out = out) := by
        have h := HQ.out.inv
        rw [HKTT.out, ← HT.out] at h
        refine ⟨?_, zerL_all fun j hj => ?_⟩
        · rw [HPF.out]
          have h2 := h.done HE.out.perm
          rw [HT.out] at h2
          exact h2
        · rw [h.len] at hj
          have h3 := h.told (j : Int) (by rw [List.take_of_length_le (by rw [OrdOk.len HE.out.perm]; exact Nat.le_refl _)]; exact HE.out.perm.mem_iff.2 (idL_mem.2 (by omega)))
          simpa using h3
      have HOW : Hid (OwnI wr go (.slice (some ⟨go, 0, none⟩) T T) out) := by
        have h := HQ.out.own
        rw [HFIN.out.2] at h
        exact h
      clear hkT
      go_wp2
      go_ret
      first
        | exact ⟨⟨out, HFIN.out.1, go, rfl, HOW.out⟩, HKB.out wr HQ.out.frm⟩
        | (rw [HWG.out]; exact ⟨⟨out, HFIN.out.1, go, rfl, HOW.out⟩, HKB.out wr HQ.out.frm⟩)
end Go.Proofs.Ytcjeededlhdcbaa

namespace Go.Proofs.Ytcjeededlhdcbaa
open Go.RowKit Go.BigFrame
set_option linter.unusedVariables false
set_option linter.unusedSimpArgs false
attribute [local go_sem] Oper.semAt_some

theorem hasL_any (v : Value) (xs : List Int) (x : Int) (w : World) (hv : Ints w v xs) :
    Calls Try.prog 127 #[v, .int .i64 x] w fun e w' => e = .returned (.bool (xs.any (· == x))) ∧ w = w' := by
  obtain ⟨hm, a, c, rfl, hcap, hc⟩ := hv
  unfold maxLen at hm
  go_enter Try.func127, Try.ntmps127
  go_wp2
  go_loopw [5] (fun i wr => ∃ k : Nat, k ≤ xs.length ∧ i = .int .i64 k ∧ w = wr ∧ ∀ i, i < k → nth xs i ≠ x) (fun i _ => xs.length - (intOf i).toNat)
  case atStart => exact ⟨0, Nat.zero_le _, rfl, rfl, fun i hi => by omega⟩
  case round =>
    obtain ⟨k, hk, rfl, rfl, hr⟩ := hrel
    have Hr := Lib.hid hr
    clear hr
    by_cases hlt : k < xs.length
    · obtain ⟨b, o, rfl, hbs, hc1⟩ := hc k hlt
      rw [← nth_eq hlt] at hc1
      obtain ⟨p, hp⟩ : ∃ p, nth xs k = p := ⟨_, rfl⟩
      rw [hp] at hc1
      have Hp := Lib.hid hp
      have hk0 : (0 : Int) ≤ (k : Int) := by omega
      have hk1 : (k : Int) < (xs.length : Int) := by omega
      clear hc hp
      cases hq : (p == x)
      · go_wp2
        go_roundw
        case rel =>
          refine ⟨k + 1, by omega, by go_num, trivial, fun i hi => ?_⟩
          rcases Nat.lt_succ_iff_lt_or_eq.1 hi with h | rfl
          · exact Hr.out i h
          · rw [Hp.out]; simpa using hq
        case measure => simp [intOf]; omega
      · go_wp2
        go_ret
        refine ⟨ret_bool ?_, rfl⟩
        symm
        rw [List.any_eq_true]
        exact ⟨xs[k], List.getElem_mem _, by rw [← nth_eq hlt, Hp.out]; exact hq⟩
    · go_wp2
      go_ret
      refine ⟨ret_bool ?_, rfl⟩
      symm
      rw [List.any_eq_false]
      intro y hy
      obtain ⟨i, hi, rfl⟩ := List.getElem_of_mem hy
      have := Hr.out i (by omega)
      rw [nth_eq hi] at this
      simpa using this

end Go.Proofs.Ytcjeededlhdcbaa

namespace Go.Proofs.Ytcjeededlhdcbaa
open Go.RowKit Go.Shelf
set_option linter.unusedVariables false
set_option linter.unusedSimpArgs false
attribute [local go_sem] Oper.semAt_some

theorem any_contains (p : List Int) (x : Int) : p.any (· == x) = p.contains x := by
  rw [Bool.eq_iff_iff, List.any_eq_true, List.contains_iff_mem]
  constructor
  · rintro ⟨y, hy, h⟩
    rw [beq_iff_eq] at h
    rw [← h]; exact hy
  · intro h
    exact ⟨x, h, by simp⟩
/-- 'append([]int64{}, s...)'. -/
theorem append_copy {ops : Array Oper} {rest : List Oper} {o : Oper} {a : Act} {Q : Exit → Act → World → Prop} {W : World} (hgd : o.guard = none) (s x : Operand)
    (ho : o.op = .call { callee := .builtin .append, args := #[s, x], argTypes := #[27, 27] }) (N g n c2 gs B : Nat) (ys : List Int) (hn : n = ys.length)
    (hs : a.eval s = .slice (some ⟨g, 0, none⟩) 0 0) (hx : a.eval x = .slice (some ⟨gs, 0, none⟩) n c2) (hys : OwnI W B (.slice (some ⟨gs, 0, none⟩) n c2) ys) (hown : OwnI W N (.slice (some ⟨g, 0, none⟩) 0 0) []) (hN : N ≤ W.heap.size) (hsmall : ys.length ≤ 1099511627776)
    (hK : ∀ g' c' w', OwnI w' N (.slice (some ⟨g', 0, none⟩) n c') ys → W.grownBy w' (some g) → wpList Try.prog ops Q rest (a.put o.dst (.slice (some ⟨g', 0, none⟩) n c')) w') :
    wpList Try.prog ops Q (o :: rest) a W := by
  refine wpList_append_any hgd s x ho N g 0 0 [] ys rfl hs gs 0 n c2 hn hx (fun i hi => ?_) hown hN (by simpa using hsmall) (fun g' c' w' h1 h2 => ?_)
  · rw [Nat.zero_add, hys.at_ hn i hi, nth_eq hi]
  · have e : ([] : List Int).length + ys.length = n := by simp [hn]
    rw [e] at h1 ⊢
    exact hK g' c' w' h1 h2
theorem belNew {V w2 : World} {o : Obj} {g : Nat} (ho : OwnI (V.alloc o) V.heap.size (.slice (some ⟨g, 0, none⟩) 0 0) []) (hg : (V.alloc o).grownBy w2 (some g)) : Hid (Below V.heap.size V w2) :=
  Below.app ((Below.refl V.heap.size V).alloc (Nat.le_refl _) o) ho hg (by simp)
theorem belApp {V w2 w3 : World} {g L c : Nat} {p : List Int} (hb : Hid (Below V.heap.size V w2)) (ho : OwnI w2 V.heap.size (.slice (some ⟨g, 0, none⟩) L c) p) (hg : w2.grownBy w3 (Value.slice (some ⟨g, 0, none⟩) L c).ownBlock) (hs : V.heap.size ≤ w2.heap.size) : Hid (Below V.heap.size V w3) :=
  Below.app hb.out ho hg hs
/-- A plan of an order. -/
theorem takeL_sm {ts : List Tk} {crew : Int} {E st : List Int} (hsm : SmTs ts) (hneed : ∀ i, i < ts.length → needN ts i ≤ crew) (hcw : 0 ≤ crew) (hE : E.Perm (idL ts.length)) (h : takeL ts crew E = some st) : SmSt st ts.length ∧ ∀ j, j < ts.length → 0 ≤ nth st j := by
  have hb : PlanB ts (zeroS ts.length) crew 0 100 100 := ⟨hsm, hneed, fun i _ => by rw [zeroS_at]; exact Int.le_refl _, fun i hi k hk => by
    have := hsm.lag i hi k hk; omega, fun i hi => (hsm.time i hi).2, by omega, by omega, by omega⟩
  obtain ⟨h1, h2⟩ := mendL_all hb hcw hE h
  refine ⟨⟨h1.len, fun j hj => ?_⟩, h2⟩
  have h3 := h1.hi j hj (h2 j hj)
  have h4 := h2 j hj
  have h5 := hsm.time j hj
  have h6 := hsm.n16
  have h7 : (100 + 100 : Int) * (ts.length : Int) ≤ 200 * 16 := by omega
  omega
/-- What the pointer's two fields hold. -/
def SpE (T : Nat) (ts : List Tk) (crew : Int) (bb : Nat) (s : Option (List Int × Int)) (W : World) : Prop :=
  match s with
  | none => W.heap[bb]? = some (.cells #[.slice none 0 0, .int .i64 (-1)] 89 (0, 0))
  | some b => 0 ≤ b.2 ∧ ∃ g out, takeL ts crew b.1 = some out ∧ W.heap[bb]? = some (.cells #[.slice (some ⟨g, 0, none⟩) T T, .int .i64 b.2] 89 (0, 0)) ∧ OwnI W (bb + 1) (.slice (some ⟨g, 0, none⟩) T T) out
theorem SpE.below {T : Nat} {ts : List Tk} {crew : Int} {bb N : Nat} {s : Option (List Int × Int)} {W W' : World} (h : SpE T ts crew bb s W) (hb : Below N W W') (hN : W.heap.size ≤ N) : SpE T ts crew bb s W' := by
  cases s with
  | none =>
    have h1 : W.heap[bb]? = _ := h
    exact (hb.block bb (by have := (Array.getElem?_eq_some_iff.1 h1).1; omega)).trans h1
  | some b =>
    obtain ⟨h0, g, out, h1, h2, h3⟩ := h
    exact ⟨h0, g, out, h1, (hb.block bb (by have := (Array.getElem?_eq_some_iff.1 h2).1; omega)).trans h2, h3.below hb hN⟩
theorem two_cells {W : World} {b : Nat} {u v : Value} {T : TypeId} (h : W.heap[b]? = some (.cells #[u, v] T (0, 0))) :
    W.cell? ⟨b, 0, none⟩ = some u ∧ W.cell? ⟨b, 1, none⟩ = some v ∧ W.frozen? ⟨b, 0, none⟩ = false ∧ W.frozen? ⟨b, 1, none⟩ = false := by
  refine ⟨?_, ?_, ?_, ?_⟩ <;> simp [World.cell?, World.frozen?, h]
/-- A new best one. -/
theorem SpE.put {T : Nat} {ts : List Tk} {crew x : Int} {bb N g : Nat} {W : World} {E out : List Int} {u v : Value} (h : W.heap[bb]? = some (.cells #[u, v] 89 (0, 0))) (hx : 0 ≤ x) (ht : takeL ts crew E = some out) (ho : OwnI W N (.slice (some ⟨g, 0, none⟩) T T) out) (hN : bb < N) :
    SpE T ts crew bb (some (E, x)) ((W.setCell ⟨bb, 0, none⟩ (.slice (some ⟨g, 0, none⟩) T T)).setCell ⟨bb, 1, none⟩ (.int .i64 x)) := by
  have hg := (ho.lt g rfl).1
  have hne : g ≠ bb := by omega
  refine ⟨hx, g, out, ht, ?_, (((ho.mono (show bb + 1 ≤ N by omega)).setCell _ (by rw [ownBlock_slice]; intro e; injection e with e; exact hne e)).setCell _ (by rw [ownBlock_slice]; intro e; injection e with e; exact hne e))⟩
  simp [World.setCell, Array.getElem?_modify, h]
/-- What a round knows. -/
def SpR (T : Nat) (ts : List Tk) (crew : Int) (bb d : Nat) (p : List Int) (s : Option (List Int × Int)) (W : World) (v : Value) (wr : World) : Prop :=
  ∃ m : Nat, m ≤ T ∧ v = .int .i64 m ∧ Hid (SpE T ts crew bb (tryTo (tryF ts (flStep (endOfL ts crew)) d) (freeB ts p) p s m) wr) ∧ Hid (GrownL [bb] W wr)
/-- The first q of what i waits for. -/
def SpF (ts : List Tk) (p : List Int) (i L : Nat) (W : World) (vf vq : Value) (wr : World) : Prop :=
  ∃ (q m : Nat) (B : Bool), vf = .bool B ∧ vq = .int .i64 q ∧ q ≤ L ∧ Hid (B = frTo ts p i q) ∧ wr = W.drewN m
set_option maxRecDepth 100000 in
set_option maxHeartbeats 4000000 in
theorem specTry_any (b o c T : Nat) (ts : List Tk) (crew : Int) (w0 : World) (bb : Nat) (ht : TasksR w0 (.slice (some ⟨b, o, none⟩) T c) ts) (hT : ts.length = T) (hok : tasksOk ts = true) (hcw : 0 ≤ crew ∧ crew ≤ 20) (hneed : ∀ i, i < ts.length → needN ts i ≤ crew) (hbb : w0.heap.size ≤ bb) : ∀ (d : Nat) (p : List Int), p.length + d = T → OrdPre ts p → ∀ (W : World) (s : Option (List Int × Int)) (g cp : Nat),
    Below w0.heap.size w0 W → SpE T ts crew bb s W → OwnI W (bb + 1) (.slice (some ⟨g, 0, none⟩) p.length cp) p →
    Calls Try.prog 65 #[.slice (some ⟨b, o, none⟩) T c, .slice (some ⟨g, 0, none⟩) p.length cp, .int .i64 crew, .pointer (some ⟨bb, 0, none⟩)] W fun e W' => e = .returned (.tuple #[]) ∧ Hid (SpE T ts crew bb (tryF ts (flStep (endOfL ts crew)) d p s) W') ∧ Hid (GrownL [bb] W W') := by
  have hsm := tasks_sm hok
  have HTK : Hid (∀ W, Below w0.heap.size w0 W → TasksR W (.slice (some ⟨b, o, none⟩) T c) ts) := fun W hW => ht.below hW (Nat.le_refl _)
  have HSM := Lib.hid hsm
  have HND := Lib.hid hneed
  have HT := Lib.hid hT
  have h16 : T ≤ 16 := by have := hsm.n16; omega
  have hTP : 0 < T := by have := hsm.n1; omega
  clear ht hok hneed hsm hT
  intro d
  induction d with
  | zero =>
    intro p hp hpre W s g cp hW hs ho
    have hpT : p.length = T := hp
    have hE := hpre.ok (by rw [HT.out]; exact hpT)
    rw [hpT] at ho ⊢
    have HTA := Lib.hid (specTake_any (.slice (some ⟨b, o, none⟩) T c) (.slice (some ⟨g, 0, none⟩) T cp) ts p crew W (HTK.out W hW) (by have := ho.ints; exact this) HSM.out hE HND.out hcw)
    rw [HT.out] at HTA
    have HEN : Hid (∀ vs st W', Below w0.heap.size w0 W' → Ints W' vs st → SmSt st T → Calls Try.prog 61 #[.slice (some ⟨b, o, none⟩) T c, vs] W' fun e w' => e = .returned (.int .i64 (endTo ts st T)) ∧ Below W'.heap.size W' w') := fun vs st W' hW' hs' hst => by
      have h := specEnd_any (.slice (some ⟨b, o, none⟩) T c) vs ts st W' (HTK.out W' hW') hs' HSM.out (by rw [HT.out]; exact hst)
      rwa [HT.out] at h
    have HPM := Lib.hid hE.perm
    have HS := Lib.hid hs
    have HW := Lib.hid hW
    clear hs hE hpre ho hW
    go_enter Try.func65, Try.ntmps65
    go_wp2_with fail
    refine HTA.out.mono ?_
    rintro e W1 ⟨⟨out, g1, h1, rfl, ho1⟩, hb1⟩
    obtain ⟨hs1, hn1⟩ := takeL_sm HSM.out HND.out hcw.1 HPM.out h1
    rw [HT.out] at hs1 hn1
    have HB1 := Lib.hid hb1
    have HW1 : Hid (Below w0.heap.size w0 W1) := HW.out.trans (hb1.mono HW.out.size)
    have HO1 := Lib.hid ho1
    have HTL := Lib.hid h1
    have HEN1 := Lib.hid (HEN.out _ out W1 HW1.out ho1.ints hs1)
    have he0 := (endTo_bounds HSM.out (show SmSt out ts.length by rw [HT.out]; exact hs1) T (by rw [HT.out]; exact Nat.le_refl _)).1
    have HEO := Lib.hid (endOfL_some h1)
    rw [HT.out] at HEO
    obtain ⟨en, hen⟩ : ∃ en, endTo ts out T = en := ⟨_, rfl⟩
    rw [hen] at HEN1 HEO he0
    clear hb1 ho1 h1 hs1 hn1 HTA HEN hen
    go_wp2_with fail
    refine HEN1.out.mono ?_
    rintro e W2 ⟨rfl, hb2⟩
    have HB2 : Hid (Below W.heap.size W W2) := HB1.out.trans (hb2.mono HB1.out.size)
    have HO2 := Lib.hid ((HO1.out.below hb2 (Nat.le_refl _)))
    have HS2 := Lib.hid (HS.out.below HB2.out (Nat.le_refl _))
    clear hb2 HEN1
    cases s with
    | none =>
      have hbk : W2.heap[bb]? = _ := HS2.out
      obtain ⟨k1, k2, k3, k4⟩ := two_cells hbk
      have hlt : bb < W.heap.size := (Array.getElem?_eq_some_iff.1 (show W.heap[bb]? = _ from HS.out)).1
      have HP := Lib.hid (SpE.put (E := p) hbk he0 HTL.out HO2.out hlt)
      clear hbk
      go_wp2
      ((try simp only [Exit.inBlock, Exit.then]); refine bodyPost_ret (results_none rfl _ _ _) rfl ?_)
      refine ⟨rfl, ?_, (((GrownL.refl _ W).below HB2.out (Nat.le_refl _)).setCell _ _ (.inl (by simp))).setCell _ _ (.inl (by simp))⟩
      show SpE _ _ _ _ (flStep _ _ _) _
      have e1 : flStep (endOfL ts crew) none p = some (p, en) := by unfold flStep; rw [HEO.out]
      rw [e1]; exact HP.out
    | some bE =>
      obtain ⟨b1, b2⟩ := bE
      obtain ⟨hl0, g3, out3, ht3, hbk, ho3⟩ := HS2.out
      obtain ⟨k1, k2, k3, k4⟩ := two_cells hbk
      obtain ⟨_, _, _, _, hbk0, _⟩ := HS.out
      have hlt : bb < W.heap.size := (Array.getElem?_eq_some_iff.1 hbk0).1
      have HP := Lib.hid (SpE.put (E := p) hbk he0 HTL.out HO2.out hlt)
      have hl1 : ¬ b2 < 0 := by have : 0 ≤ b2 := hl0; omega
      clear hbk hbk0 ho3 ht3
      by_cases hx : en < b2
      · go_wp2
        ((try simp only [Exit.inBlock, Exit.then]); refine bodyPost_ret (results_none rfl _ _ _) rfl ?_)
        refine ⟨rfl, ?_, (((GrownL.refl _ W).below HB2.out (Nat.le_refl _)).setCell _ _ (.inl (by simp))).setCell _ _ (.inl (by simp))⟩
        show SpE _ _ _ _ (flStep _ _ _) _
        have e1 : flStep (endOfL ts crew) (some (b1, b2)) p = some (p, en) := by unfold flStep; rw [HEO.out]; exact if_pos hx
        rw [e1]; exact HP.out
      · go_wp2
        ((try simp only [Exit.inBlock, Exit.then]); refine bodyPost_ret (results_none rfl _ _ _) rfl ?_)
        refine ⟨rfl, ?_, (GrownL.refl _ W).below HB2.out (Nat.le_refl _)⟩
        show SpE _ _ _ _ (flStep _ _ _) _
        have e1 : flStep (endOfL ts crew) (some (b1, b2)) p = some (b1, b2) := by unfold flStep; rw [HEO.out]; exact if_neg (show ¬ en < b2 by omega)
        rw [e1]; exact HS2.out
  | succ d ih =>
    intro p hp hpre W s g cp hW hs ho
    obtain ⟨L, hL⟩ : ∃ L, p.length = L := ⟨_, rfl⟩
    have HL := Lib.hid hL
    have hLT : L < T := by omega
    have hne : ((L : Int) == (T : Int)) = false := by simp; omega
    have HR0 : Hid (SpR T ts crew bb d p s W (.int .i64 0) W) := ⟨0, Nat.zero_le _, rfl, hs, GrownL.refl _ _⟩
    have HO : Hid (OwnI W (bb + 1) (.slice (some ⟨g, 0, none⟩) L cp) p) := by rw [hL] at ho; exact ho
    have HB := Lib.hid hW
    have HP := Lib.hid hpre
    have HIH := Lib.hid ih
    have HLD : Hid (L + (d + 1) = T) := by show _ = _; omega
    have hcap : L ≤ cp := by
      obtain ⟨_, a, c', hv, hc', _⟩ := ho.ints
      simp at hv
      omega
    have hbW : bb < W.heap.size := by
      cases s with
      | none => exact (Array.getElem?_eq_some_iff.1 (show W.heap[bb]? = _ from hs)).1
      | some b' => obtain ⟨_, _, _, _, h2, _⟩ := hs; exact (Array.getElem?_eq_some_iff.1 h2).1
    rw [hL]
    clear hs ho hp hpre ih hL hW
    go_enter Try.func65, Try.ntmps65
    go_wp2_with fail
    go_loopw [48] (fun v wr => SpR T ts crew bb d p s W v wr) (fun v _ => T - (intOf v).toNat)
    case atStart => exact HR0.out
    case round =>
      obtain ⟨m, hm, rfl, HS, HG⟩ := hrel
      clear HR0 hne
      by_cases hmT : m < T
      · have m0 : (0 : Int) ≤ (m : Int) := by omega
        have m1 : (m : Int) < (T : Int) := by omega
        have HBr : Hid (Below w0.heap.size w0 wr) := HG.out.toBelow HB.out HB.out.size (fun i hi => by simp; omega)
        have HOr : Hid (OwnI wr (bb + 1) (.slice (some ⟨g, 0, none⟩) L cp) p) := HG.out.own HO.out (by have := (HO.out.lt g rfl).1; simp; omega)
        have hsz : W.heap.size ≤ wr.heap.size := HG.out.size
        obtain ⟨b', o', c', VB, VL, hv, _, hbw, hsrc⟩ := (HTK.out wr HBr.out).src (by rw [HT.out]; exact hTP)
        rw [HT.out] at hv
        obtain ⟨rfl, rfl, rfl⟩ : b = b' ∧ o = o' ∧ c = c' := by
          injection hv with u1 u2 u3
          injection u1 with u1
          injection u1 with u1 u4 u5
          exact ⟨u1, u4, u3⟩
        have hsi := hsrc m (by rw [HT.out]; exact hmT)
        obtain ⟨aB, cB, hVB, bcap, hB⟩ := (hsi.bef.ints.1).view
        have c2 := hsi.c2
        rw [hVB] at c2
        obtain ⟨LB, hLB⟩ : ∃ LB, (befN ts m).length = LB := ⟨_, rfl⟩
        have HLB := Lib.hid hLB
        rw [hLB] at c2 bcap
        have hL16 : LB ≤ 16 := by have := HSM.out.blen m (by rw [HT.out]; exact hmT); omega
        have HBF : Hid (∀ q, q < LB → ∃ b' o', aB = some ⟨b', o', none⟩ ∧ wr.cell? ⟨b', o' + q, none⟩ = some (.int .i64 (nth (befN ts m) q))) := fun q hq => hB wr (Below.refl _ _) q (by rw [hLB]; exact hq)
        have HBE : Hid (∀ q, q < LB → 0 ≤ nth (befN ts m) q ∧ nth (befN ts m) q < (m : Int)) := fun q hq => HSM.out.bef m (by rw [HT.out]; exact hmT) q (by rw [hLB]; exact hq)
        have HHAS : Hid (∀ (x : Int) (q : Nat), Calls Try.prog 127 #[.slice (some ⟨g, 0, none⟩) L cp, .int .i64 x] (wr.drewN q) fun e w' => e = .returned (.bool (p.contains x)) ∧ wr.drewN q = w') := fun x q => by
          have h := hasL_any (.slice (some ⟨g, 0, none⟩) L cp) p x (wr.drewN q) (by have h := (HOr.out.drewN q).ints; exact h)
          rw [any_contains] at h
          exact h
        have HH0 := Lib.hid (HHAS.out (m : Int) 0)
        have HF0 : Hid (frTo ts p m 0 = !(p.contains (m : Int))) := rfl
        obtain ⟨B0, hB0⟩ : ∃ B0, p.contains (m : Int) = B0 := ⟨_, rfl⟩
        rw [hB0] at HH0 HF0
        have HQ0 : Hid (SpF ts p m LB wr (.bool (!B0)) (.int .i64 0) wr) := ⟨0, 0, _, rfl, rfl, Nat.zero_le _, HF0.out.symm, rfl⟩
        have hnext := tryTo_succ (tryF ts (flStep (endOfL ts crew)) d) (freeB ts p) p s m
        have HNX := Lib.hid hnext
        clear hsi hVB hB hLB hv hsrc hbw hnext hB0
        go_wp2_with fail
        refine HH0.out.mono ?_
        rintro e w' ⟨rfl, rfl⟩
        go_wp2_with fail
        go_loopw [11, 61] (fun vf vq wi => SpF ts p m LB wr vf vq wi) (fun _ vq _ => LB - (intOf vq).toNat)
        case atStart => exact HQ0.out
        case round =>
          obtain ⟨q, n, B, rfl, rfl, hq, HF, rfl⟩ := hrel
          clear HQ0 HF0 HH0
          by_cases hqL : q < LB
          · obtain ⟨b2, o2, haB, cb⟩ := HBF.out q hqL
            subst haB
            have hstep : frTo ts p m (q + 1) = (frTo ts p m q && p.contains (nth (befN ts m) q)) := rfl
            obtain ⟨x, hx⟩ : ∃ x, nth (befN ts m) q = x := ⟨_, rfl⟩
            rw [hx] at cb hstep
            rw [← HF.out] at hstep
            have HST := Lib.hid hstep
            have HH1 := Lib.hid (HHAS.out x n)
            have q0 : (0 : Int) ≤ (q : Int) := by omega
            have q1 : (q : Int) < (LB : Int) := by omega
            clear hstep hx
            cases B
            · go_wp2_with fail
              go_roundw
              case rel => exact ⟨q + 1, n, false, rfl, by go_num, by omega, HST.out.symm, rfl⟩
              case measure => simp [intOf]; omega
            · obtain ⟨B1, hB1⟩ : ∃ B1, p.contains x = B1 := ⟨_, rfl⟩
              rw [hB1] at HH1 HST
              clear hB1
              go_wp2_with (go_at_call 127; refine HH1.out.mono ?_; rintro e w' ⟨rfl, rfl⟩)
              go_roundw
              case rel => exact ⟨q + 1, n, B1, rfl, by go_num, by omega, by show _ = _; rw [HST.out]; simp, rfl⟩
              case measure => simp [intOf]; omega
          · obtain rfl : q = LB := by omega
            have HFR : Hid (B = freeB ts p m) := by show _ = _; rw [HF.out, ← frTo_free, HLB.out]
            clear HBF HBE HF hqL c2
            cases B
            · have HN2 : Hid (tryTo (tryF ts (flStep (endOfL ts crew)) d) (freeB ts p) p s (m + 1) = tryTo (tryF ts (flStep (endOfL ts crew)) d) (freeB ts p) p s m) := by show _ = _; rw [HNX.out, if_neg (by rw [← HFR.out]; simp)]
              go_wp2_with fail
              go_roundw
              case rel => exact ⟨m + 1, by omega, by go_num, by show SpE _ _ _ _ _ _; rw [HN2.out]; exact HS.out.below (below_drewN n (Below.refl wr.heap.size wr)) (Nat.le_refl _), HG.out.drewN n⟩
              case measure => simp [intOf]; omega
            · have HN2 : Hid (tryTo (tryF ts (flStep (endOfL ts crew)) d) (freeB ts p) p s (m + 1) = tryF ts (flStep (endOfL ts crew)) d (p ++ [(m : Int)]) (tryTo (tryF ts (flStep (endOfL ts crew)) d) (freeB ts p) p s m)) := by show _ = _; rw [HNX.out, if_pos (by rw [← HFR.out])]
              obtain ⟨V, hV⟩ : ∃ V, wr.drewN n = V := ⟨_, rfl⟩
              have HSV : Hid (SpE T ts crew bb (tryTo (tryF ts (flStep (endOfL ts crew)) d) (freeB ts p) p s m) V) := by rw [← hV]; exact HS.out.below (below_drewN n (Below.refl wr.heap.size wr)) (Nat.le_refl _)
              have HGV : Hid (GrownL [bb] W V) := by rw [← hV]; exact HG.out.drewN n
              have HBV : Hid (Below w0.heap.size w0 V) := by rw [← hV]; exact below_drewN n HBr.out
              have HOV : Hid (OwnI (V.alloc (.cells #[] 2)) (bb + 1) (.slice (some ⟨g, 0, none⟩) L cp) p) := by rw [← hV]; exact (HOr.out.drewN n).alloc _
              have HE0 : Hid (OwnI (V.alloc (.cells #[] 2)) V.heap.size (.slice (some ⟨V.heap.size, 0, none⟩) 0 0) []) := OwnI.lit V V.heap.size [] (Nat.le_refl _) (by unfold maxLen; simp)
              have hbV : bb < V.heap.size := by have := HGV.out.size; omega
              have HPU := Lib.hid (HP.out.push (show m < ts.length by rw [HT.out]; exact hmT) HFR.out.symm)
              have HCALL : Hid (∀ (w3 : World) (g3 c3 : Nat), Below V.heap.size V w3 → OwnI w3 V.heap.size (.slice (some ⟨g3, 0, none⟩) (p.length + 1) c3) (p ++ [(m : Int)]) →
                  Calls Try.prog 65 #[.slice (some ⟨b, o, none⟩) T c, .slice (some ⟨g3, 0, none⟩) (p.length + 1) c3, .int .i64 crew, .pointer (some ⟨bb, 0, none⟩)] w3 fun e W' => e = .returned (.tuple #[]) ∧ Hid (SpE T ts crew bb (tryTo (tryF ts (flStep (endOfL ts crew)) d) (freeB ts p) p s (m + 1)) W') ∧ Hid (GrownL [bb] W W')) := fun w3 g3 c3 hb3 ho3 => by
                have hl : (p ++ [(m : Int)]).length = p.length + 1 := by simp
                have h := HIH.out (p ++ [(m : Int)]) (by rw [hl, HL.out]; have := HLD.out; omega) HPU.out w3 _ g3 c3 (HBV.out.trans (hb3.mono HBV.out.size)) (HSV.out.below hb3 (Nat.le_refl _)) (by rw [hl]; exact ho3.mono (by omega))
                rw [hl] at h
                refine h.mono ?_
                rintro e W' ⟨h1, h2, h3⟩
                exact ⟨h1, by rw [HN2.out]; exact h2, (HGV.out.below hb3 (by have := HGV.out.size; omega)).trans h3.out⟩
              rw [hV]
              clear hV HHAS HNX HBr HOr HS HG
              go_wp2_with (first
                | (at_builtin; refine append_copy rfl _ _ rfl V.heap.size V.heap.size L cp g (bb + 1) p HL.out.symm rfl rfl HOV.out HE0.out (by simp) (by rw [HL.out]; omega) ?_; intro g1 c1 w2 ho2 hg2; have HB2 := belNew HE0.out hg2; have HO2 := Lib.hid ho2; have hs2 : V.heap.size ≤ w2.heap.size := HB2.out.size; clear ho2 hg2)
                | (at_builtin; refine append_i64 rfl _ _ rfl V.heap.size (.slice (some ⟨g1, 0, none⟩) L c1) p [(m : Int)] (Nat.zero_lt_succ _) rfl _ rfl HO2.out hs2 (by rw [HL.out]; simp; omega) ?_; intro g3 c3 w3 ho3 hg3; have HB3 := belApp HB2 HO2.out hg3 hs2; have HO3 := Lib.hid ho3; clear ho3 hg3)
                | (go_at_call 65; refine (HCALL.out _ _ _ HB3.out HO3.out).mono ?_; rintro e W5 ⟨rfl, HS5, HG5⟩))
              go_roundw
              case rel => exact ⟨m + 1, by omega, by go_num, HS5, HG5⟩
              case measure => simp [intOf]; omega
      · obtain rfl : m = T := by omega
        go_wp2_with fail
        go_end0
        refine ⟨rfl, ?_, HG.out⟩
        show SpE _ _ _ _ (tryTo _ _ _ _ _) _
        rw [HT.out]
        exact HS.out
end Go.Proofs.Ytcjeededlhdcbaa

namespace Go.Proofs.Ytcjeededlhdcbaa
open Go.RowKit
set_option linter.unusedVariables false
set_option linter.unusedSimpArgs false

theorem specCrew_any (vt : Value) (ts : List Tk) (crew : Int) (w : World) (ht : TasksR w vt ts) (hok : tasksOk ts = true) (hneed : ∀ i, i < ts.length → needN ts i ≤ crew) (hcw : 0 ≤ crew ∧ crew ≤ 20) :
    Calls Try.prog 57 #[vt, .int .i64 crew] w fun e w' => e = .returned (.bool true) ∧ ∃ q, w' = w.drewN q := by
  have hsm := tasks_sm hok
  have HA := Lib.hid (specAre_any vt ts w ht (by have := hsm.n16; omega))
  rw [hok] at HA
  have HI : Hid (∀ W, Calls Try.prog 58 #[.int .i64 crew, .int .i64 0, .int .i64 20] W fun e w' => e = .returned (.bool true) ∧ W = w') := fun W => by
    have h := l00In_any crew 0 20 W
    rw [show win crew 0 20 = true from win_true.2 hcw] at h
    exact h
  obtain ⟨b, o, c, AB, CB, AL, CL, rfl, hcap, hbw, hV⟩ := ht.view hsm.n1
  have HV := Lib.hid hV
  have HND := Lib.hid hneed
  obtain ⟨T, hT⟩ : ∃ T, ts.length = T := ⟨_, rfl⟩
  have HT : Hid (ts.length = T) := hT
  rw [hT] at HA HND hcap ⊢
  have h16 : T ≤ 16 := by rw [← hT]; exact hsm.n16
  clear ht hok hneed hsm hV hT
  go_enter Try.func57, Try.ntmps57
  go_wp2_with fail
  refine HA.out.mono ?_
  rintro e W1 ⟨rfl, q1, rfl⟩
  go_wp2_with fail
  refine (HI.out _).mono ?_
  rintro e W2 ⟨rfl, rfl⟩
  have HR0 : Hid (∃ (k m : Nat), (Value.int .i64 0) = .int .i64 (k : Int) ∧ k ≤ T ∧ w.drewN q1 = w.drewN m) := ⟨0, q1, rfl, Nat.zero_le _, rfl⟩
  go_wp2
  go_loopw [16] (fun vk wr => ∃ (k m : Nat), vk = .int .i64 k ∧ k ≤ T ∧ wr = w.drewN m) (fun vk _ => T - (intOf vk).toNat)
  case atStart => exact HR0.out
  case round =>
    obtain ⟨k, m, rfl, hk, rfl⟩ := hrel
    clear HR0
    by_cases hkT : k < T
    · have k0 : (0 : Int) ≤ (k : Int) := by omega
      have k1 : (k : Int) < (T : Int) := by omega
      have c1 := (HV.out w (Below.refl _ _) k (by rw [HT.out]; exact hkT)).need
      have hn := HND.out k hkT
      obtain ⟨nd, hnd⟩ : ∃ x, needN ts k = x := ⟨_, rfl⟩
      rw [show (tkN ts k).2.1 = nd from hnd] at c1
      rw [hnd] at hn
      have hn2 : ¬ crew < nd := by omega
      clear hnd
      go_wp2
      go_roundw
      case rel => exact ⟨k + 1, m, by go_num, by omega, rfl⟩
      case measure => simp [intOf]; omega
    · have k1 : ¬ (k : Int) < (T : Int) := by omega
      go_wp2
      go_ret
      exact ⟨rfl, m, rfl⟩
/-- What RulePlan gives. -/
noncomputable def planR (ts : List Tk) (kind crew : Int) : Option (List Int) := takeL ts crew (ruleN ts kind)
set_option maxHeartbeats 1000000 in
theorem specRulePlan_any (vt : Value) (ts : List Tk) (kind crew : Int) (w : World) (ht : TasksR w vt ts) (hok : tasksOk ts = true) (hkd : kind = 0 ∨ kind = 1 ∨ kind = 2 ∨ kind = 3) (hneed : ∀ i, i < ts.length → needN ts i ≤ crew) (hcw : 0 ≤ crew ∧ crew ≤ 20) :
    Calls Try.prog 10 #[vt, .int .i64 kind, .int .i64 crew] w fun e w' => (∃ st g, planR ts kind crew = some st ∧ e = .returned (.tuple #[.slice (some ⟨g, 0, none⟩) ts.length ts.length, .int .i64 (endTo ts st ts.length), .bool true]) ∧ OwnI w' w.heap.size (.slice (some ⟨g, 0, none⟩) ts.length ts.length) st) ∧ Below w.heap.size w w' := by
  have hsm := tasks_sm hok
  have HC := Lib.hid (specCrew_any vt ts crew w ht hok hneed hcw)
  have HI : Hid (∀ W, Calls Try.prog 58 #[.int .i64 kind, .int .i64 0, .int .i64 3] W fun e w' => e = .returned (.bool true) ∧ W = w') := fun W => by
    have h := l00In_any kind 0 3 W
    rw [show win kind 0 3 = true from win_true.2 (by omega)] at h
    exact h
  have HR : Hid (∀ W, Below w.heap.size w W → Calls Try.prog 60 #[vt, .int .i64 kind] W fun x w' => (∃ g c, x = .returned (.slice (some ⟨g, 0, none⟩) ts.length c) ∧ OwnI w' W.heap.size (.slice (some ⟨g, 0, none⟩) ts.length c) (ruleN ts kind)) ∧ Below W.heap.size W w') := fun W hW => specRule_any vt ts kind W (ht.below hW (Nat.le_refl _)) hsm hkd
  have HTK : Hid (∀ vo W, Below w.heap.size w W → Ints W vo (ruleN ts kind) → Calls Try.prog 59 #[vt, vo, .int .i64 crew] W fun e w' => (∃ out g, takeL ts crew (ruleN ts kind) = some out ∧ e = .returned (.slice (some ⟨g, 0, none⟩) ts.length ts.length) ∧ OwnI w' W.heap.size (.slice (some ⟨g, 0, none⟩) ts.length ts.length) out) ∧ Below W.heap.size W w') := fun vo W hW ho => specTake_any vt vo ts (ruleN ts kind) crew W (ht.below hW (Nat.le_refl _)) ho hsm (ruleN_ok hsm kind) hneed hcw
  have HEN : Hid (∀ vs st W, Below w.heap.size w W → Ints W vs st → SmSt st ts.length → Calls Try.prog 61 #[vt, vs] W fun e w' => e = .returned (.int .i64 (endTo ts st ts.length)) ∧ Below W.heap.size W w') := fun vs st W hW hs hst => specEnd_any vt vs ts st W (ht.below hW (Nat.le_refl _)) hs hsm hst
  have HST : Hid (∀ st, takeL ts crew (ruleN ts kind) = some st → SmSt st ts.length) := fun st h => by
    have hb : PlanB ts (zeroS ts.length) crew 0 100 100 := ⟨hsm, hneed, fun i _ => by rw [zeroS_at]; exact Int.le_refl _, fun i hi k hk => by
      have := hsm.lag i hi k hk; omega, fun i hi => (hsm.time i hi).2, by omega, by omega, by omega⟩
    obtain ⟨h1, h2⟩ := mendL_all hb hcw.1 (ruleN_ok hsm kind).perm h
    refine ⟨h1.len, fun j hj => ?_⟩
    have h3 := h1.hi j hj (h2 j hj)
    have h4 := h2 j hj
    have h5 := hsm.time j hj
    have h6 := hsm.n16
    have h7 : (100 + 100 : Int) * (ts.length : Int) ≤ 200 * 16 := by omega
    omega
  have HPR : Hid (planR ts kind crew = takeL ts crew (ruleN ts kind)) := rfl
  obtain ⟨a, c, rfl, hcap, _⟩ := ht.at_
  obtain ⟨T, hT⟩ : ∃ T, ts.length = T := ⟨_, rfl⟩
  rw [hT] at HC hcap HST ⊢
  simp only [hT] at HR HTK HEN
  clear ht hok hkd hneed hsm hT
  go_enter Try.func10, Try.ntmps10
  go_wp2_with fail
  refine HC.out.mono ?_
  rintro e W1 ⟨rfl, q1, rfl⟩
  go_wp2_with fail
  refine (HI.out _).mono ?_
  rintro e W2 ⟨rfl, rfl⟩
  have HB1 : Hid (Below w.heap.size w (w.drewN q1)) := below_drewN q1 (Below.refl _ _)
  have HR1 := Lib.hid (HR.out _ HB1.out)
  go_wp2_with fail
  refine HR1.out.mono ?_
  rintro e W3 ⟨⟨g3, c3, rfl, ho3⟩, hb3⟩
  have HB3 : Hid (Below w.heap.size w W3) := HB1.out.trans (hb3.mono HB1.out.size)
  have HT3 := Lib.hid (HTK.out _ W3 HB3.out ho3.ints)
  clear ho3 hb3 HR1 HR HTK
  go_wp2_with fail
  refine HT3.out.mono ?_
  rintro e W4 ⟨⟨st, g4, hst, rfl, ho4⟩, hb4⟩
  have HB4 : Hid (Below w.heap.size w W4) := HB3.out.trans (hb4.mono HB3.out.size)
  have HS4 := Lib.hid hst
  have HO4 := Lib.hid ho4
  have HE4 := Lib.hid (HEN.out _ st W4 HB4.out ho4.ints (HST.out st hst))
  clear hst ho4 hb4 HT3 HEN HST
  go_wp2_with fail
  refine HE4.out.mono ?_
  rintro e W5 ⟨rfl, hb5⟩
  have HB5 : Hid (Below w.heap.size w W5) := HB4.out.trans (hb5.mono HB4.out.size)
  have HO5 : Hid (OwnI W5 w.heap.size (.slice (some ⟨g4, 0, none⟩) T T) st) := (HO4.out.below hb5 (Nat.le_refl _)).mono HB3.out.size
  clear hb5
  go_wp2
  go_ret3
  exact ⟨⟨st, g4, by rw [HPR.out]; exact HS4.out, rfl, HO5.out⟩, HB5.out⟩
end Go.Proofs.Ytcjeededlhdcbaa
