
/- The text of jobs, by the program and by the reference. Conditions: at most 2^20 jobs; the library's table of powers of ten stands (impl). -/
import Derived.Test.YtmhepomjbaendaaDoorTxt
import Derived.Test.YtmhepomjbaendaaDoorValidDesk
import Derived.Test.YtmhepomjbaendaaDoorDeskTo
import Derived.Test.YtmhepomjbaendaaDoorShelf
import Derived.Deep.RegionWith
namespace Go.Proofs.YtmhepomjbaendaaDoor
open Go.RowKit Go.Shelf Go.BigFrame
set_option linter.unusedVariables false
set_option linter.unusedSimpArgs false

theorem cut_shareJ {P G : Prop} (main : P) (cont : Hid P → G) : G := cont (Lib.hid main)
theorem ints_litJ (w : World) (xs : List Int) (hx : xs.length ≤ maxLen) : Ints (w.alloc (.cells (xs.map (Value.int .i64)).toArray 2)) (.slice (some ⟨w.heap.size, 0, none⟩) xs.length xs.length) xs := (OwnI.lit w w.heap.size xs (Nat.le_refl _) hx).ints
def jbS (j : Jb) : ByteArray := listS (jbInts j)
theorem jbS_len {j : Jb} (h : jobWf j) : (jbS j).data.toList.length ≤ 84 := by
  have h1 := txtTo_len (xs := jbInts j) 4 (by
    intro x hx
    have h2 : (Lit.int .i64 x).wf = true := by
      unfold jbInts at hx
      simp only [List.mem_cons, List.not_mem_nil, or_false] at hx
      obtain ⟨a, b, c, d⟩ := h
      rcases hx with rfl | rfl | rfl | rfl <;> assumption
    have := wf_i64_iff.1 h2
    omega)
  have h3 : txtTo (jbInts j) 4 = jbS j := txtTo_full (xs := jbInts j) (by unfold jbInts; simp)
  rw [h3] at h1
  rw [← Go.Lib.size_eq]
  omega
/-- The text of the first k jobs. -/
def jobsTo (js : List Jb) (k : Nat) : ByteArray := jnS 59 ((js.take k).map jbS)
theorem jobsTo_zero (js : List Jb) : jobsTo js 0 = ByteArray.empty := rfl
theorem jobsTo_one {js : List Jb} (h : 0 < js.length) : jobsTo js 1 = jbS js[0] := by
  unfold jobsTo
  rw [List.take_succ_eq_append_getElem h]
  simp [jnS_one]
theorem jobsTo_succ {js : List Jb} {k : Nat} (h : k < js.length) (h1 : 1 ≤ k) : jobsTo js (k + 1) = (jobsTo js k ++ ⟨#[59]⟩) ++ jbS js[k] := by
  unfold jobsTo
  rw [List.take_succ_eq_append_getElem h, List.map_append, List.map_cons, List.map_nil, jnS_snoc 59 _ (by intro e; have := congrArg List.length e; rw [List.length_map, List.length_take, List.length_nil] at this; omega)]
  refine bytes_ext ?_
  simp [app_data]
theorem jobsTo_len {js : List Jb} (k : Nat) (hw : ∀ j ∈ js, jobWf j) : (jobsTo js k).size ≤ k * 85 := by
  have h1 := join_size [59] 84 (((js.take k).map jbS).map (·.data.toList)) (by
    intro y hy
    simp only [List.map_map, List.mem_map, Function.comp] at hy
    obtain ⟨x, hx, rfl⟩ := hy
    exact jbS_len (hw x (List.mem_of_mem_take hx)))
  have h2 : (jobsTo js k).size = (Go.Lib.join (((js.take k).map jbS).map (·.data.toList)) [59]).length := by
    unfold jobsTo jnS
    simp [ByteArray.size]
  rw [h2]
  refine Nat.le_trans h1 ?_
  simp only [List.length_map, List.length_take, List.length_cons, List.length_nil]
  exact Nat.mul_le_mul_right 85 (by omega)
def jobsS (js : List Jb) : ByteArray := if jobsOk js then jobsTo js js.length else ByteArray.empty
theorem jobsS_yes {js : List Jb} (h : jobsOk js = true) : jobsS js = jobsTo js js.length := by unfold jobsS; rw [h]; rfl
theorem jobsS_no {js : List Jb} (h : jobsOk js = false) : jobsS js = ByteArray.empty := by unfold jobsS; rw [h]; rfl
theorem jobsOk_len {js : List Jb} (h : jobsOk js = true) : 1 ≤ js.length ∧ js.length ≤ 24 := by
  unfold jobsOk at h
  simp only [Bool.and_eq_true, decide_eq_true_eq] at h
  exact ⟨h.1.2, h.2⟩

theorem JobsR.of {w W : World} {v : Value} {js : List Jb} (h : SlR rJob w v js) (hb : Below w.heap.size w W) : JobsR W v js := SlR.below h hb (Nat.le_refl _)
theorem JobsR.of_fresh {N : Nat} {w W : World} {v : Value} {js : List Jb} (h : FreshR (rSl rJob) N w [v] js) (hb : Below w.heap.size w W) : JobsR W v js := by
  obtain ⟨v', hv, h2⟩ := h.now
  obtain rfl : v = v' := by simpa using hv
  exact JobsR.of h2 hb

set_option maxRecDepth 100000 in
set_option maxHeartbeats 2000000 in
theorem implJobsText_any (v : Value) (js : List Jb) (w : World) (hv : JobsR w v js) (ht : Tab10 w) :
    Calls Tryd.prog 16 #[v] w fun e w' => e = .returned (.tuple #[.string (jobsS js), .bool (jobsOk js)]) ∧ Below w.heap.size w w' := by
  obtain ⟨A, hA⟩ : ∃ A, w.heap.size = A := ⟨_, rfl⟩
  have HAJ := Lib.hid (areJobs_any v js w hv.jobs)
  have HSZ : Hid (∀ W, Below A w W → A ≤ W.heap.size) := fun W h => by rw [← hA]; exact h.size
  have HLT : Hid (∀ k (h : k < js.length) v W, Below A w W → Ints W v (jbInts js[k]) → Calls Tryd.prog 32 #[v] W fun e w' => e = .returned (.string (jbS js[k])) ∧ Below W.heap.size W w') := fun k h v W hW hi => listText_any v _ W hi (by
    intro x hx
    obtain ⟨a, b, c, d⟩ := hv.wf k h
    unfold jbInts at hx
    simp only [List.mem_cons, List.not_mem_nil, or_false] at hx
    rcases hx with rfl | rfl | rfl | rfl <;> assumption) (by unfold jbInts; simp) (ht.below (by rw [hA]; exact hW))
  have HJN : Hid (∀ g c W, 1 ≤ js.length → OwnT W A (.slice (some ⟨g, 0, none⟩) js.length c) (js.map jbS) → js.length ≤ 24 → Calls Tryd.prog 37 #[.slice (some ⟨g, 0, none⟩) js.length c, .string ⟨#[59]⟩] W fun e w' => e = .returned (.string (jobsTo js js.length)) ∧ Below W.heap.size W w') := fun g c W h1 ho h24 => by
    obtain ⟨g', c', e, hc, htx⟩ := ho.txc (by rw [List.length_map]; exact h1)
    rw [List.length_map] at e hc
    obtain ⟨rfl, rfl⟩ : g = g' ∧ c = c' := by simpa using e
    have hlen : (Go.Lib.join ((js.map jbS).map (·.data.toList)) [59]).length ≤ 140737488355328 := by
      have h2 := join_size [59] 84 ((js.map jbS).map (·.data.toList)) (by
        intro y hy
        simp only [List.map_map, List.mem_map, Function.comp] at hy
        obtain ⟨x, hx, rfl⟩ := hy
        obtain ⟨i, hi, rfl⟩ := List.mem_iff_getElem.1 hx
        exact jbS_len (hv.wf i hi))
      simp only [List.length_map, List.length_cons, List.length_nil] at h2
      have h3 : js.length * (84 + (0 + 1)) ≤ 24 * (84 + (0 + 1)) := Nat.mul_le_mul_right _ h24
      omega
    have := Tryd.strings_Join g 0 c (js.map jbS) ⟨#[59]⟩ W (by
      intro j x hj
      obtain ⟨h4, h5⟩ := List.getElem?_eq_some_iff.1 hj
      have := htx.2 j h4
      rw [List.getD_eq_getElem?_getD, hj] at this
      rw [Nat.zero_add]
      exact this) htx.1 (by rw [List.length_map]; omega) (by rw [List.length_map]; exact hc) hlen
    rw [List.length_map] at this
    unfold jobsTo
    rw [List.take_length]
    exact this
  have HYES : Hid (jobsOk js = true → jobsS js = jobsTo js js.length) := jobsS_yes
  have HNO : Hid (jobsOk js = false → jobsS js = ByteArray.empty) := jobsS_no
  have HLEN : Hid (jobsOk js = true → 1 ≤ js.length ∧ js.length ≤ 24) := jobsOk_len
  have HAT : Hid (∃ a c, v = .slice a js.length c ∧ js.length ≤ c ∧ ∀ i (hi : i < js.length), ∃ b o, a = some ⟨b, o, none⟩ ∧ b < w.heap.size ∧ w.cell? ⟨b, o + i * 4, none⟩ = some (.int .i64 js[i].1) ∧ w.cell? ⟨b, o + i * 4 + 1, none⟩ = some (.int .i64 js[i].2.1) ∧ w.cell? ⟨b, o + i * 4 + 2, none⟩ = some (.int .i64 js[i].2.2.1) ∧ w.cell? ⟨b, o + i * 4 + 3, none⟩ = some (.int .i64 js[i].2.2.2)) := hv.jobs.at_
  have hm := hv.1
  have HA := Lib.hid hA
  unfold maxLen at hm
  clear hA hv ht
  obtain ⟨K, hK⟩ : ∃ K, jobsOk js = K := ⟨_, rfl⟩
  rw [hK] at HAJ HYES HNO HLEN
  rw [hK]
  obtain ⟨a, c, rfl, hcap, hc⟩ := HAT.out
  have HC := Lib.hid hc
  clear hc hK HAT
  go_enter Tryd.func16, Tryd.ntmps16
  go_wp2_with fail
  refine HAJ.out.mono ?_
  rintro e W1 ⟨rfl, hb1⟩
  have B1 : Hid (Below A w W1) := by rw [← HA.out]; exact hb1
  clear hb1 HAJ
  cases K
  · have HN := Lib.hid (HNO.out rfl)
    clear HNO HYES HLEN HC HLT HJN
    go_wp2
    go_ret2
    rw [HN.out, HA.out]
    exact ⟨rfl, B1.out⟩
  have hl := HLEN.out rfl
  have HY := Lib.hid (HYES.out rfl)
  clear HYES HNO HLEN
  go_wp2
  go_loopw [4, 6, 13] (fun vo _ vi wr => ∃ (k n g c' : Nat), k ≤ js.length ∧ vi = .int .i64 k ∧ Hid (n = k) ∧ vo = .slice (some ⟨g, 0, none⟩) n c' ∧ Hid (OwnT wr A (.slice (some ⟨g, 0, none⟩) n c') ((js.take k).map jbS)) ∧ Hid (Below A w wr)) (fun _ _ vi _ => js.length - (intOf vi).toNat)
  case atStart =>
    refine ⟨0, 0, W1.heap.size, 0, Nat.zero_le _, rfl, rfl, rfl, ?_, ?_⟩
    · show OwnT _ _ _ _
      exact OwnT.lit W1 A [] (HSZ.out _ B1.out) (by unfold maxLen; simp)
    · show Below _ _ _
      exact B1.out.alloc (HSZ.out _ B1.out) _
  case round =>
    obtain ⟨k, n, g, c', hk, rfl, HN, rfl, HO, HB⟩ := hrel
    have hA1 : A ≤ wr.heap.size := HSZ.out _ HB.out
    by_cases hlt : k < js.length
    · obtain ⟨b, o, rfl, hbs, g0, g1, g2, g3⟩ := HC.out k hlt
      rw [HA.out] at hbs
      have c0 := (HB.out.cell (p := ⟨b, o + k * 4, none⟩) hbs).trans g0
      have c1 := (HB.out.cell (p := ⟨b, o + k * 4 + 1, none⟩) hbs).trans g1
      have c2 := (HB.out.cell (p := ⟨b, o + k * 4 + 2, none⟩) hbs).trans g2
      have c3 := (HB.out.cell (p := ⟨b, o + k * 4 + 3, none⟩) hbs).trans g3
      have HTK : Hid ((js.take k).map jbS ++ [jbS js[k]] = (js.take (k + 1)).map jbS) := by
        show _ = _
        rw [List.take_succ_eq_append_getElem hlt, List.map_append]; rfl
      have HL0 := Lib.hid (HLT.out k hlt)
      have HJB : Hid (jbInts js[k] = [js[k].1, js[k].2.1, js[k].2.2.1, js[k].2.2.2]) := rfl
      obtain ⟨T, hT⟩ : ∃ x, jbS js[k] = x := ⟨_, rfl⟩
      rw [hT] at HTK HL0
      obtain ⟨x0, hx0⟩ : ∃ z, js[k].1 = z := ⟨_, rfl⟩
      obtain ⟨x1, hx1⟩ : ∃ z, js[k].2.1 = z := ⟨_, rfl⟩
      obtain ⟨x2, hx2⟩ : ∃ z, js[k].2.2.1 = z := ⟨_, rfl⟩
      obtain ⟨x3, hx3⟩ : ∃ z, js[k].2.2.2 = z := ⟨_, rfl⟩
      rw [hx0] at c0 HJB
      rw [hx1] at c1 HJB
      rw [hx2] at c2 HJB
      rw [hx3] at c3 HJB
      obtain ⟨wr', hwr⟩ : ∃ z, wr = z := ⟨_, rfl⟩
      rw [hwr] at c0 c1 c2 c3 HO HB hA1
      have HB2 : Hid (Below A w ((wr'.alloc (.cells #[.int .i64 x0, .int .i64 x1, .int .i64 x2, .int .i64 x3] 60)).alloc (.cells #[.int .i64 x0, .int .i64 x1, .int .i64 x2, .int .i64 x3] 2))) := (HB.out.alloc hA1 _).alloc (by simp; omega) _
      have HOA : Hid (OwnT ((wr'.alloc (.cells #[.int .i64 x0, .int .i64 x1, .int .i64 x2, .int .i64 x3] 60)).alloc (.cells #[.int .i64 x0, .int .i64 x1, .int .i64 x2, .int .i64 x3] 2)) A (.slice (some ⟨g, 0, none⟩) n c') ((js.take k).map jbS)) := (HO.out.alloc _).alloc _
      have HL : Hid (Calls Tryd.prog 32 #[.slice (some ⟨wr'.heap.size + 1, 0, none⟩) 4 4] ((wr'.alloc (.cells #[.int .i64 x0, .int .i64 x1, .int .i64 x2, .int .i64 x3] 60)).alloc (.cells #[.int .i64 x0, .int .i64 x1, .int .i64 x2, .int .i64 x3] 2)) fun e w' => e = .returned (.string T) ∧ Below ((wr'.alloc (.cells #[.int .i64 x0, .int .i64 x1, .int .i64 x2, .int .i64 x3] 60)).alloc (.cells #[.int .i64 x0, .int .i64 x1, .int .i64 x2, .int .i64 x3] 2)).heap.size ((wr'.alloc (.cells #[.int .i64 x0, .int .i64 x1, .int .i64 x2, .int .i64 x3] 60)).alloc (.cells #[.int .i64 x0, .int .i64 x1, .int .i64 x2, .int .i64 x3] 2)) w') := by
        refine HL0.out _ _ HB2.out ?_
        rw [HJB.out]
        have hl := OwnI.lit (wr'.alloc (.cells #[.int .i64 x0, .int .i64 x1, .int .i64 x2, .int .i64 x3] 60)) 0 [x0, x1, x2, x3] (Nat.zero_le _) (by unfold maxLen; simp)
        have := hl.ints
        simpa using this
      have i1 : (k : Int) < (js.length : Int) := by omega
      have i0 : (0 : Int) ≤ (k : Int) := by omega
      rw [hwr]
      clear hx0 hx1 hx2 hx3 g0 g1 g2 g3 hT HL0 HC HLT HJN HJB hwr HB HO
      go_wp2_with fail
      refine HL.out.mono ?_
      rintro e W2 ⟨rfl, hb2⟩
      have HB3 := Lib.hid (HB2.out.trans (hb2.mono (HSZ.out _ HB2.out)))
      have HO3 := Lib.hid (HOA.out.below hb2 (Nat.le_refl _))
      have hA2 : A ≤ W2.heap.size := HSZ.out _ HB3.out
      have hlen : Hid (((js.take k).map jbS).length + [T].length ≤ 1099511627776) := by show _ ≤ _; simp; omega
      clear hb2 HOA HB2 HL
      go_wp2_with (at_builtin; refine append_tN rfl _ _ rfl A (.slice (some ⟨g, 0, none⟩) n c') ((js.take k).map jbS) [T] (by simp) rfl _ rfl HO3.out hA2 hlen.out ?_; intro g5 c5 n5 w5 hn5 ho5 hg5; rw [HTK.out] at hn5 ho5; have HO5 := Lib.hid ho5; have HN5 : Hid (n5 = k + 1) := (by show _ = _; rw [hn5.out]; simp; omega); have HB5 : Hid (Below A w w5) := HB3.out.grown hg5 hA2 (fun j e => (HO3.out.lt j e).1); clear ho5 hg5 hn5)
      go_roundw
      case rel => exact ⟨k + 1, n5, g5, c5, by omega, by go_num, HN5, rfl, HO5.out, HB5.out⟩
      case measure => simp [intOf]; omega
    · have hkl : k = js.length := by omega
      have HJ : Hid (Calls Tryd.prog 37 #[.slice (some ⟨g, 0, none⟩) n c', .string ⟨#[59]⟩] wr fun e w' => e = .returned (.string (jobsTo js js.length)) ∧ Below wr.heap.size wr w') := by
        have h1 := HO.out
        have h2 : n = js.length := by rw [HN.out, hkl]
        rw [hkl, List.take_length, h2] at h1
        rw [h2]
        exact HJN.out g c' wr hl.1 h1 hl.2
      clear HJN HLT HC HO hkl HN
      go_wp2_with fail
      refine HJ.out.mono ?_
      rintro e W2 ⟨rfl, hb2⟩
      have HB2 := Lib.hid (HB.out.trans (hb2.mono hA1))
      clear hb2
      go_wp2
      go_ret2
      rw [HA.out, HY.out]
      exact ⟨rfl, HB2.out⟩

set_option maxRecDepth 100000 in
set_option maxHeartbeats 10000000 in
theorem l08Jobs_any (v : Value) (js : List Jb) (w : World) (hv : JobsR w v js) (hl : js.length ≤ 24) :
    Calls Tryd.prog 34 #[v] w fun e w' => e = .returned (.string (jobsTo js js.length)) ∧ Below w.heap.size w w' := by
  obtain ⟨A, hA⟩ : ∃ A, w.heap.size = A := ⟨_, rfl⟩
  have HSZ : Hid (∀ W, Below A w W → A ≤ W.heap.size) := fun W h => by rw [← hA]; exact h.size
  have HLT : Hid (∀ k (h : k < js.length) v W, Ints W v (jbInts js[k]) → Calls Tryd.prog 52 #[v] W fun e w' => e = .returned (.string (jbS js[k])) ∧ Below W.heap.size W w') := fun k h v W hi => l01Text_any v _ W hi (by
    intro x hx
    obtain ⟨a, b, c, d⟩ := hv.wf k h
    unfold jbInts at hx
    simp only [List.mem_cons, List.not_mem_nil, or_false] at hx
    rcases hx with rfl | rfl | rfl | rfl <;> assumption) (by unfold jbInts; simp)
  have HTL : Hid (∀ k, (jobsTo js k).size ≤ k * 85) := fun k => jobsTo_len k (fun x hx => by obtain ⟨i, hi, rfl⟩ := List.mem_iff_getElem.1 hx; exact hv.wf i hi)
  have HDL : Hid (∀ k (h : k < js.length), (jbS js[k]).size ≤ 84) := fun k h => by
    have := jbS_len (hv.wf k h)
    rw [← Go.Lib.size_eq] at this
    exact this
  have HSU : Hid (∀ k (h : k < js.length), 1 ≤ k → jobsTo js (k + 1) = (jobsTo js k ++ ⟨#[59]⟩) ++ jbS js[k]) := fun k h h1 => jobsTo_succ h h1
  have HON : Hid (∀ (h : 0 < js.length), jobsTo js (0 + 1) = ByteArray.empty ++ jbS js[0]) := fun h => by
    rw [Nat.zero_add, jobsTo_one h]
    exact bytes_ext (by rw [app_data]; rfl)
  obtain ⟨a, c, rfl, hcap, hc⟩ := hv.jobs.at_
  have HC := Lib.hid hc
  have HA := Lib.hid hA
  clear hA hc hv
  go_enter Tryd.func34, Tryd.ntmps34
  go_wp2
  go_loopw [3, 4] (fun vo vi wr => ∃ (k : Nat), k ≤ js.length ∧ vi = .int .i64 k ∧ vo = .string (jobsTo js k) ∧ Hid (Below A w wr)) (fun _ vi _ => js.length - (intOf vi).toNat)
  case atStart => exact ⟨0, Nat.zero_le _, rfl, rfl, by show Below _ _ _; rw [← HA.out]; exact Below.refl _ _⟩
  case round =>
    obtain ⟨k, hk, rfl, rfl, HB⟩ := hrel
    have hA1 : A ≤ wr.heap.size := HSZ.out _ HB.out
    by_cases hlt : k < js.length
    · obtain ⟨b, o, rfl, hbs, g0, g1, g2, g3⟩ := HC.out k hlt
      rw [HA.out] at hbs
      have c0 := (HB.out.cell (p := ⟨b, o + k * 4, none⟩) hbs).trans g0
      have c1 := (HB.out.cell (p := ⟨b, o + k * 4 + 1, none⟩) hbs).trans g1
      have c2 := (HB.out.cell (p := ⟨b, o + k * 4 + 2, none⟩) hbs).trans g2
      have c3 := (HB.out.cell (p := ⟨b, o + k * 4 + 3, none⟩) hbs).trans g3
      have HL0 := Lib.hid (HLT.out k hlt)
      have HJB : Hid (jbInts js[k] = [js[k].1, js[k].2.1, js[k].2.2.1, js[k].2.2.2]) := rfl
      have s1 := HTL.out k
      have s2 := HDL.out k hlt
      have HNX : Hid (jobsTo js (k + 1) = (if k = 0 then ByteArray.empty ++ jbS js[k] else (jobsTo js k ++ ⟨#[59]⟩) ++ jbS js[k])) := by
        show _ = _
        by_cases h0 : k = 0
        · subst h0
          rw [if_pos rfl]; exact HON.out hlt
        · rw [if_neg h0]; exact HSU.out k hlt (by omega)
      have HZ : Hid (k = 0 → jobsTo js k = ByteArray.empty) := fun h => by rw [h]; rfl
      obtain ⟨T, hT⟩ : ∃ x, jbS js[k] = x := ⟨_, rfl⟩
      rw [hT] at HL0 s2 HNX
      obtain ⟨P, hP⟩ : ∃ x, jobsTo js k = x := ⟨_, rfl⟩
      rw [hP] at s1 HNX HZ
      rw [hP]
      obtain ⟨x0, hx0⟩ : ∃ z, js[k].1 = z := ⟨_, rfl⟩
      obtain ⟨x1, hx1⟩ : ∃ z, js[k].2.1 = z := ⟨_, rfl⟩
      obtain ⟨x2, hx2⟩ : ∃ z, js[k].2.2.1 = z := ⟨_, rfl⟩
      obtain ⟨x3, hx3⟩ : ∃ z, js[k].2.2.2 = z := ⟨_, rfl⟩
      rw [hx0] at c0 HJB
      rw [hx1] at c1 HJB
      rw [hx2] at c2 HJB
      rw [hx3] at c3 HJB
      rw [HJB.out] at HL0
      have i1 : (k : Int) < (js.length : Int) := by omega
      have i0 : (0 : Int) ≤ (k : Int) := by omega
      clear hx0 hx1 hx2 hx3 g0 g1 g2 g3 hT hP HC HLT HJB HTL HDL HSU HON
      by_cases h0 : k = 0
      · have HP := Lib.hid (HZ.out h0)
        rw [if_pos h0, ← HP.out] at HNX
        subst h0
        have s4 : P.size ≤ 85 := by omega
        simp only [Nat.zero_mul, Nat.add_zero] at c0 c1 c2 c3
        clear HZ HP s1
        go_wp2
        have HI := Lib.hid (ints_litJ wr.drew [x0, x1, x2, x3] (by unfold maxLen; simp))
        have HB2 : Hid (Below A w (wr.drew.alloc (.cells (([x0, x1, x2, x3] : List Int).map (Value.int .i64)).toArray 2))) := (HB.out.drew).alloc hA1 _
        have HL2 := Lib.hid (HL0.out _ _ HI.out)
        clear HI HL0
        refine cut_shareJ (P := ?P1) ?main1 ?cont1
        case cont1 =>
          intro key
          go_region_with (go_at_call 52; refine HL2.out.mono ?_; rintro e W2 ⟨rfl, hb2⟩; have HB3 : Hid (Below A w W2) := HB2.out.trans (hb2.mono (HSZ.out _ HB2.out)); clear hb2)
          all_goals
            revert W2
            exact key.out
        intro W2 HB3
        go_wp2
        go_roundw
        case rel => exact ⟨0 + 1, by omega, by go_num, by rw [HNX.out], HB3.out⟩
        case measure => simp [intOf]; omega
      · rw [if_neg h0] at HNX
        have h1 : (0 : Int) < (k : Int) := by omega
        obtain ⟨P2, hP2⟩ : ∃ z, P ++ (⟨#[59]⟩ : ByteArray) = z := ⟨_, rfl⟩
        have s3 : P2.size ≤ k * 85 + 1 := by rw [← hP2, ByteArray.size_append]; exact Nat.add_le_add_right s1 1
        rw [hP2] at HNX
        clear HZ h0
        go_wp2
        have HI := Lib.hid (ints_litJ wr.drew [x0, x1, x2, x3] (by unfold maxLen; simp))
        have HB2 : Hid (Below A w (wr.drew.alloc (.cells (([x0, x1, x2, x3] : List Int).map (Value.int .i64)).toArray 2))) := (HB.out.drew).alloc hA1 _
        have HL2 := Lib.hid (HL0.out _ _ HI.out)
        clear HI HL0
        refine cut_shareJ (P := ?P2) ?main2 ?cont2
        case cont2 =>
          intro key
          go_region_with (go_at_call 52; refine HL2.out.mono ?_; rintro e W2 ⟨rfl, hb2⟩; have HB3 : Hid (Below A w W2) := HB2.out.trans (hb2.mono (HSZ.out _ HB2.out)); clear hb2)
          all_goals
            revert W2
            exact key.out
        intro W2 HB3
        go_wp2
        go_roundw
        case rel => exact ⟨k + 1, by omega, by go_num, by rw [HNX.out], HB3.out⟩
        case measure => simp [intOf]; omega
    · obtain rfl : k = js.length := by omega
      clear HC HLT HTL HDL HSU HON
      go_wp2
      go_ret
      rw [HA.out]
      exact ⟨rfl, HB.out⟩

set_option maxHeartbeats 2000000 in
theorem specJobsText_any (v : Value) (js : List Jb) (w : World) (hv : JobsR w v js) :
    Calls Tryd.prog 14 #[v] w fun e w' => e = .returned (.tuple #[.string (jobsS js), .bool (jobsOk js)]) ∧ Below w.heap.size w w' := by
  have HIS := Lib.hid (l02Jobs_any v js w hv.jobs)
  have HJ : Hid (js.length ≤ 24 → Calls Tryd.prog 34 #[v] w fun e w' => e = .returned (.string (jobsTo js js.length)) ∧ Below w.heap.size w w') := fun h => l08Jobs_any v js w hv h
  have HYES : Hid (jobsOk js = true → jobsS js = jobsTo js js.length) := jobsS_yes
  have HNO : Hid (jobsOk js = false → jobsS js = ByteArray.empty) := jobsS_no
  have HLEN : Hid (jobsOk js = true → 1 ≤ js.length ∧ js.length ≤ 24) := jobsOk_len
  obtain ⟨a, c, rfl, hcap, hc⟩ := hv.jobs.at_
  clear hc hv
  obtain ⟨K, hK⟩ : ∃ K, jobsOk js = K := ⟨_, rfl⟩
  rw [hK] at HIS HYES HNO HLEN
  rw [hK]
  clear hK
  go_enter Tryd.func14, Tryd.ntmps14
  go_wp2_with fail
  refine HIS.out.mono ?_
  rintro e w' ⟨rfl, rfl⟩
  cases K
  · have HN := Lib.hid (HNO.out rfl)
    clear HNO HYES HLEN HJ HIS
    go_wp2
    go_ret2
    rw [HN.out]
    exact ⟨rfl, Below.refl _ _⟩
  have HJ2 := Lib.hid (HJ.out (HLEN.out rfl).2)
  have HY := Lib.hid (HYES.out rfl)
  clear HYES HNO HLEN HJ HIS
  go_wp2_with fail
  refine HJ2.out.mono ?_
  rintro e W3 ⟨rfl, hb3⟩
  have B3 := Lib.hid hb3
  clear hb3 HJ2
  go_wp2
  go_ret2
  rw [HY.out]
  exact ⟨rfl, B3.out⟩
end Go.Proofs.YtmhepomjbaendaaDoor
