/- Jobs that can stop and go on, step by step: plain law, part 2: what is known at each time. Conditions: times are at least 1, releases at least 0. With texts that it needs. -/
import Derived.Test.YtcopjdhnmkfkfaaBestAll5
import Derived.Test.YtcopjdhnmkfkfaaBestAll1
import Derived.Deep.QuietTactic
import Derived.BigQuiet
import Derived.Test.YtcopjdhnmkfkfaaBestAll2
namespace Go.Proofs.Ytcopjdhnmkfkfaa
open Go.RowKit
set_option linter.unusedVariables false
set_option linter.unusedSimpArgs false

/-- Job i by its cells. -/
structure JbC (w : World) (b o i : Nat) (x : Jb) : Prop where
  c0 : w.cell? ⟨b, o + i * 4, none⟩ = some (.int .i64 x.1)
  c1 : w.cell? ⟨b, o + i * 4 + 1, none⟩ = some (.int .i64 x.2.1)
  c2 : w.cell? ⟨b, o + i * 4 + 2, none⟩ = some (.int .i64 x.2.2.1)
  c3 : w.cell? ⟨b, o + i * 4 + 3, none⟩ = some (.int .i64 x.2.2.2)
abbrev JbView (w : World) (b o : Nat) (js : List Jb) : Prop := ∀ i, i < js.length → JbC w b o i (jbN js i)
theorem jobs_view {w : World} {v : Value} {js : List Jb} (h : Jobs w v js) (h0 : 0 < js.length) : ∃ b o c, v = .slice (some ⟨b, o, none⟩) js.length c ∧ js.length ≤ c ∧ b < w.heap.size ∧ ∀ W, Below w.heap.size w W → JbView W b o js := by
  obtain ⟨hm, a, c, rfl, hcap, hc⟩ := h
  obtain ⟨b, o, rfl, hb, _⟩ := hc 0 h0
  refine ⟨b, o, c, rfl, hcap, hb, fun W hW i hi => ?_⟩
  obtain ⟨b', o', ha, _, hcell⟩ := hc i hi
  obtain ⟨rfl, rfl⟩ : b = b' ∧ o = o' := by simpa using ha
  have hk : ∀ q, W.cell? ⟨b, q, none⟩ = w.cell? ⟨b, q, none⟩ := fun q => hW.cell (p := ⟨b, q, none⟩) hb
  rw [jbN_eq hi]
  refine ⟨?_, ?_, ?_, ?_⟩
  · rw [hk]; exact hcell 0 (by simp [jbCells])
  · rw [hk]; exact hcell 1 (by simp [jbCells])
  · rw [hk]; exact hcell 2 (by simp [jbCells])
  · rw [hk]; exact hcell 3 (by simp [jbCells])
/-- Valid jobs. -/
structure SmJ (js : List Jb) : Prop where
  n1 : 1 ≤ js.length
  n24 : js.length ≤ 24
  time : ∀ i, i < js.length → 1 ≤ tmJ js i ∧ tmJ js i ≤ 10000
  rel : ∀ i, i < js.length → 0 ≤ rlJ js i ∧ rlJ js i ≤ 10000
  due : ∀ i, i < js.length → 0 ≤ duJ js i ∧ duJ js i ≤ 10000
  wgt : ∀ i, i < js.length → 0 ≤ wgJ js i ∧ wgJ js i ≤ 10000
theorem jobs_sm {js : List Jb} (h : jobsOk js = true) : SmJ js := by
  unfold jobsOk at h
  simp only [Bool.and_eq_true, decide_eq_true_eq, List.all_eq_true] at h
  have hx : ∀ i, i < js.length → jobOk (jbN js i) = true := fun i hi => by rw [jbN_eq hi]; exact h.1.1 _ (List.getElem_mem hi)
  refine ⟨h.1.2, h.2, fun i hi => ?_, fun i hi => ?_, fun i hi => ?_, fun i hi => ?_⟩
  all_goals
    have h1 := hx i hi
    unfold jobOk at h1
    simp only [Bool.and_eq_true] at h1
    obtain ⟨⟨⟨a1, a2⟩, a3⟩, a4⟩ := h1
    first
      | exact win_true.1 a1
      | exact win_true.1 a2
      | exact win_true.1 a3
      | exact win_true.1 a4
theorem SmJ.good {js : List Jb} (h : SmJ js) : (∀ i, i < js.length → 1 ≤ tmJ js i) ∧ ∀ i, i < js.length → 0 ≤ rlJ js i := ⟨fun i hi => (h.time i hi).1, fun i hi => (h.rel i hi).1⟩
/-- What a job puts to a cost, is not great. -/
theorem shareB_bounds {kind e : Int} {j : Jb} (hd : 0 ≤ j.2.2.1 ∧ j.2.2.1 ≤ 10000) (hw : 0 ≤ j.2.2.2 ∧ j.2.2.2 ≤ 10000) (he : 0 ≤ e ∧ e ≤ 1000000) : -10000 ≤ shareB kind j e ∧ shareB kind j e ≤ 10000000000 := by
  unfold shareB
  have h1 : 0 ≤ j.2.2.2 * e ∧ j.2.2.2 * e ≤ 10000 * 1000000 := ⟨Int.mul_nonneg hw.1 he.1, Int.mul_le_mul hw.2 he.2 he.1 (by omega)⟩
  have h2 : 0 ≤ max 0 (e - j.2.2.1) ∧ max 0 (e - j.2.2.1) ≤ 1000000 := by omega
  have h3 : 0 ≤ j.2.2.2 * max 0 (e - j.2.2.1) ∧ j.2.2.2 * max 0 (e - j.2.2.1) ≤ 10000 * 1000000 := ⟨Int.mul_nonneg hw.1 h2.1, Int.mul_le_mul hw.2 h2.2 h2.1 (by omega)⟩
  split
  · omega
  · split
    · omega
    · split
      · omega
      · split
        · omega
        · split <;> omega
theorem shareB_0 (j : Jb) (e : Int) : shareB 0 j e = e := by unfold shareB; rw [if_pos rfl]
theorem shareB_1 (j : Jb) (e : Int) : shareB 1 j e = j.2.2.2 * e := by unfold shareB; rw [if_neg (by omega), if_pos rfl]
theorem shareB_2 (j : Jb) (e : Int) : shareB 2 j e = e - j.2.2.1 := by unfold shareB; rw [if_neg (by omega), if_neg (by omega), if_pos rfl]
theorem shareB_3 (j : Jb) (e : Int) : shareB 3 j e = j.2.2.2 * max 0 (e - j.2.2.1) := by unfold shareB; rw [if_neg (by omega), if_neg (by omega), if_neg (by omega), if_pos rfl]
theorem shareB_4 (j : Jb) (e : Int) : shareB 4 j e = if j.2.2.1 < e then 1 else 0 := by unfold shareB; rw [if_neg (by omega), if_neg (by omega), if_neg (by omega), if_neg (by omega)]
set_option maxRecDepth 100000 in
set_option maxHeartbeats 1000000 in
theorem share_any (t r d g kind e : Int) (w : World) (hk : 0 ≤ kind ∧ kind ≤ 4) (hd : 0 ≤ d ∧ d ≤ 10000) (hw : 0 ≤ g ∧ g ≤ 10000) (he : 0 ≤ e ∧ e ≤ 1000000) :
    Calls Try.prog 24 #[.agg #[.int .i64 t, .int .i64 r, .int .i64 d, .int .i64 g], .int .i64 kind, .int .i64 e] w fun x w' => x = .returned (.int .i64 (shareB kind (t, r, d, g) e)) ∧ Below w.heap.size w w' := by
  have hB : Below w.heap.size w (w.alloc (.cells #[.int .i64 t, .int .i64 r, .int .i64 d, .int .i64 g] 37)) := (Below.refl _ w).alloc (Nat.le_refl _) _
  have HB := Lib.hid hB
  have h1 : 0 ≤ g * e ∧ g * e ≤ 10000 * 1000000 := ⟨Int.mul_nonneg hw.1 he.1, Int.mul_le_mul hw.2 he.2 he.1 (by omega)⟩
  have h2 : 0 ≤ max 0 (e - d) ∧ max 0 (e - d) ≤ 1000000 := by omega
  have h3 : 0 ≤ g * max 0 (e - d) ∧ g * max 0 (e - d) ≤ 10000 * 1000000 := ⟨Int.mul_nonneg hw.1 h2.1, Int.mul_le_mul hw.2 h2.2 h2.1 (by omega)⟩
  have H3 := Lib.hid h3
  have w1 : IntKind.i64.wrap (g * e) = g * e := IntWalk.i64_in _ (by omega)
  have w2 : IntKind.i64.wrap (e - d) = e - d := IntWalk.i64_in _ (by omega)
  clear hB h3
  rcases (by omega : kind = 0 ∨ kind = 1 ∨ kind = 2 ∨ kind = 3 ∨ kind = 4) with rfl | rfl | rfl | rfl | rfl
  · have HS := Lib.hid (shareB_0 (t, r, d, g) e)
    go_enter Try.func24, Try.ntmps24
    go_wp2
    go_ret
    exact ⟨ret_int HS.out.symm, HB.out⟩
  · have HS := Lib.hid (shareB_1 (t, r, d, g) e)
    go_enter Try.func24, Try.ntmps24
    go_wp2
    go_ret
    exact ⟨ret_int HS.out.symm, HB.out⟩
  · have HS := Lib.hid (shareB_2 (t, r, d, g) e)
    go_enter Try.func24, Try.ntmps24
    go_wp2
    go_ret
    exact ⟨ret_int HS.out.symm, HB.out⟩
  · have HS := Lib.hid (shareB_3 (t, r, d, g) e)
    by_cases hp : 0 < e - d
    · have hm : max 0 (e - d) = e - d := by omega
      rw [hm] at H3 HS
      have w3 : IntKind.i64.wrap (g * (e - d)) = g * (e - d) := IntWalk.i64_in _ (by have := H3.out; omega)
      clear hm h2
      go_enter Try.func24, Try.ntmps24
      go_wp2
      go_ret
      exact ⟨ret_int HS.out.symm, HB.out⟩
    · have hm : max 0 (e - d) = 0 := by omega
      rw [hm] at H3 HS
      clear hm h2
      go_enter Try.func24, Try.ntmps24
      go_wp2
      go_ret
      exact ⟨ret_int (by rw [HS.out]; simp), HB.out⟩
  · have HS := Lib.hid (shareB_4 (t, r, d, g) e)
    by_cases hp : d < e
    · have hs : Hid (shareB 4 (t, r, d, g) e = 1) := by show _ = _; rw [HS.out]; exact if_pos hp
      go_enter Try.func24, Try.ntmps24
      go_wp2
      go_ret
      exact ⟨ret_int hs.out.symm, HB.out⟩
    · have hs : Hid (shareB 4 (t, r, d, g) e = 0) := by show _ = _; rw [HS.out]; exact if_neg hp
      go_enter Try.func24, Try.ntmps24
      go_wp2
      go_ret
      exact ⟨ret_int hs.out.symm, HB.out⟩
theorem isGr_any (kind : Int) (w : World) : Calls Try.prog 38 #[.int .i64 kind] w fun e w' => e = .returned (.bool (isGr kind)) ∧ w = w' := by
  by_cases h0 : kind = 0
  · subst h0
    go_enter Try.func38, Try.ntmps38
    go_wp2
    go_ret
    exact ⟨rfl, rfl⟩
  · by_cases h2 : kind = 2
    · subst h2
      go_enter Try.func38, Try.ntmps38
      go_wp2
      go_ret
      exact ⟨rfl, rfl⟩
    · have e0 : (kind == 0) = false := by simpa using h0
      have e2 : (kind == 2) = false := by simpa using h2
      have HG : Hid (isGr kind = false) := by show _ = _; unfold isGr; rw [e0, e2]; rfl
      go_enter Try.func38, Try.ntmps38
      go_wp2
      go_ret
      exact ⟨ret_bool HG.out.symm, rfl⟩
theorem both_any (kind a b : Int) (w : World) (ha : -1000000000000 ≤ a ∧ a ≤ 1000000000000) (hb : -1000000000000 ≤ b ∧ b ≤ 1000000000000) : Calls Try.prog 25 #[.int .i64 kind, .int .i64 a, .int .i64 b] w fun e w' => e = .returned (.int .i64 (bothB (isGr kind) a b)) ∧ w = w' := by
  have w1 : IntKind.i64.wrap (a + b) = a + b := IntWalk.i64_in _ (by omega)
  cases hg : isGr kind
  · have HG := Lib.hid (isGr_any kind w)
    rw [hg] at HG
    have HB : Hid (bothB false a b = a + b) := rfl
    clear hg
    go_enter Try.func25, Try.ntmps25
    go_wp2_with (go_at_call 38; refine HG.out.mono ?_; rintro e w' ⟨rfl, rfl⟩)
    go_ret
    exact ⟨ret_int HB.out.symm, rfl⟩
  · have HG := Lib.hid (isGr_any kind w)
    rw [hg] at HG
    clear hg
    by_cases h : a < b
    · have HB : Hid (bothB true a b = b) := by show _ = _; unfold bothB; simp; omega
      go_enter Try.func25, Try.ntmps25
      go_wp2_with (go_at_call 38; refine HG.out.mono ?_; rintro e w' ⟨rfl, rfl⟩)
      go_ret
      exact ⟨ret_int (by rw [HB.out]; try omega), rfl⟩
    · have HB : Hid (bothB true a b = a) := by show _ = _; unfold bothB; simp; omega
      go_enter Try.func25, Try.ntmps25
      go_wp2_with (go_at_call 38; refine HG.out.mono ?_; rintro e w' ⟨rfl, rfl⟩)
      go_ret
      exact ⟨ret_int (by rw [HB.out]; try omega), rfl⟩
end Go.Proofs.Ytcopjdhnmkfkfaa

namespace Go.Proofs.Ytcopjdhnmkfkfaa
open Go.RowKit Go.Shelf Go.BigFrame
set_option linter.unusedVariables false
set_option linter.unusedSimpArgs false

theorem one2_any (v : Value) (xs : List Int) (g a : Nat) (n : Int) (w : World) (hv : Byts w v xs) (hb : ∀ n ∈ xs, (Lit.int .u8 n).wf = true) (hs : Src w g v a) (ha : a ≤ 1099511627776) (hn : n ≤ 200) :
    Calls Try.prog 34 #[.pointer (some ⟨g, 0, none⟩), .int .i64 n] w fun e w' => (∃ b : Bool, e = .returned (.bool b)) ∧ (∃ a', a' ≤ a + 1 ∧ Src w' g v a') ∧ GrownL [g] w w' := by
  have HC := Lib.hid (pick_any v xs g a n w hv hb hs ha hn)
  clear hv hb hs
  go_enter Try.func34, Try.ntmps34
  go_wp2_with fail
  refine HC.out.mono ?_
  rintro e w' ⟨⟨x, rfl, x0, x1⟩, hs', hg'⟩
  have H := Lib.hid (And.intro hs' hg')
  clear hs' hg' x1
  by_cases h0 : x = 0
  · subst h0
    go_wp2
    go_ret
    exact ⟨⟨_, rfl⟩, H.out⟩
  · have h1 : (x == 0) = false := by simp [h0]
    go_wp2
    go_ret
    exact ⟨⟨_, rfl⟩, H.out⟩
theorem jbRaw_snoc2 (js : List Jb) (j : Jb) : jbRaw (js ++ [j]) = jbRaw js ++ jbInts j := by unfold jbRaw; rw [List.flatMap_append]; simp
theorem jb_lit2 (w : World) (B : Nat) (hB : B ≤ w.heap.size) : OwnZ 37 4 (w.alloc (.cells #[] 37)) B (.slice (some ⟨w.heap.size, 0, none⟩) 0 0) 0 [] := by
  have := World.ownsRow_lit (e := 37) (size := 4) w #[] 0 hB (Nat.zero_le _) (by simp)
  simpa [OwnZ] using this
theorem info_job2 : (Try.prog.info? 37).map (fun i => (i.zero, i.size, i.bytes)) = some (some (.agg #[.int .i64 0, .int .i64 0, .int .i64 0, .int .i64 0]), 4, 32) := by kernel_rfl
/-- 'append(jobs, j)' in a plain list. -/
theorem append_jbL {ops : Array Oper} {rest : List Oper} {o : Oper} {a : Act} {Q : Exit → Act → World → Prop} {W : World} (hgd : o.guard = none) (s x : Operand)
    (ho : o.op = .call { callee := .builtin .append, args := #[s, x], argTypes := #[25, 25] }) (B : Nat) (v : Value) (n : Nat) (xs : List Int) (b0 b1 b2 b3 : Int)
    (hs : a.eval s = v) (c H : Nat) (hx : a.eval x = .slice (some ⟨H, 0, none⟩) 1 c) (hH : W.heap.size = H) (hown : OwnZ 37 4 W B v n xs) (hB : B ≤ W.heap.size) (hsmall : n ≤ 1048580)
    (hK : ∀ g c w', OwnZ 37 4 w' B (.slice (some ⟨g, 0, none⟩) (n + 1) c) (n + 1) (xs ++ [b0, b1, b2, b3]) → W.grownBy w' v.ownBlock → wpList Try.prog ops Q rest (a.put o.dst (.slice (some ⟨g, 0, none⟩) (n + 1) c)) w') :
    wpList Try.prog ops Q (o :: rest) a (W.alloc (.cells #[.int .i64 b0, .int .i64 b1, .int .i64 b2, .int .i64 b3] 37)) := by
  subst hH
  obtain ⟨i0, hi, hz0, hz1, hz2⟩ := info_parts info_job2
  refine wpList_append_lies _ hgd s x 25 ho B 37 i0 (.agg #[.int .i64 0, .int .i64 0, .int .i64 0, .int .i64 0]) 4 32 Try.underlying25 hi hz0 hz1 hz2 rfl (by decide) v n _ hs (World.ownsRow.alloc hown _) ⟨W.heap.size, 0, none⟩ 1 c [.int .i64 b0, .int .i64 b1, .int .i64 b2, .int .i64 b3] hx rfl (cells_lit W [.int .i64 b0, .int .i64 b1, .int .i64 b2, .int .i64 b3] _) ?_ (by decide) (by unfold maxLen; omega) (by omega) (by simp; omega) (W.heap.size + 1) (by simp) ?_
  · intro u hu
    simp only [List.mem_cons, List.not_mem_nil, or_false] at hu
    rcases hu with rfl | rfl | rfl | rfl <;> rfl
  · intro g cap w' h1 h2 h5 _
    have hg : W.grownBy w' v.ownBlock := ⟨h2.os, h2.tape, h2.output, Nat.le_trans (by show W.heap.size ≤ (W.alloc _).heap.size; simp) h2.size, fun k hk hne => (h2.block k (by show k < (W.alloc _).heap.size; simp; omega) hne).trans (Below.heap_alloc _ _ _ hk)⟩
    refine hK g cap w' ?_ hg
    unfold OwnZ
    rw [List.map_append]
    exact h1
/-- A job that is drawn. -/
def DrJ (x : Jb) : Prop := (1 ≤ x.1 ∧ x.1 ≤ 9) ∧ (0 ≤ x.2.1 ∧ x.2.1 ≤ 11) ∧ (0 ≤ x.2.2.1 ∧ x.2.2.1 ≤ 39) ∧ 0 ≤ x.2.2.2 ∧ x.2.2.2 ≤ 5
theorem GrownL.by2 {g : Nat} {A W : World} (h : GrownL [g] A W) : A.grownBy W (some g) := ⟨h.os, h.tape, h.output, h.size, fun k hk hne => h.block k hk (by intro e; simp at e; exact hne (by rw [e]))⟩
theorem Src.by2 {W W' : World} {g a : Nat} {v : Value} {row : Option Nat} (h : Src W g v a) (hg : W.grownBy W' row) (hne : some g ≠ row) : Src W' g v a := by
  have hb := hg.block g h.lt hne
  have hc : ∀ o, W'.cell? ⟨g, o, none⟩ = W.cell? ⟨g, o, none⟩ := fun o => by simp only [World.cell?, hb]
  have hf : ∀ o, W'.frozen? ⟨g, o, none⟩ = W.frozen? ⟨g, o, none⟩ := fun o => by simp only [World.frozen?, hb]
  exact ⟨(hc _).trans h.c0, (hc _).trans h.c1, by obtain ⟨s, hs⟩ := h.c2; exact ⟨s, (hc _).trans hs⟩, (hf _).trans h.f1, (hf _).trans h.f2⟩
theorem grown_set4 (w : World) (p : Addr) (v : Value) : w.grownBy (w.setCell p v) (some p.block) := ⟨rfl, rfl, rfl, by simp [World.setCell], fun k hk hk' => Below.heap_setCell _ _ _ _ (fun e => hk' (by rw [e]))⟩
theorem grown_alloc4 (W : World) (o : Obj) (row : Option Nat) : W.grownBy (W.alloc o) row := ⟨rfl, rfl, rfl, by simp, fun k hk _ => Below.heap_alloc _ _ _ hk⟩
/-- The source, and the jobs that are drawn already. -/
structure EnvJ (w : World) (g : Nat) (v : Value) (a N gg m c : Nat) (js : List Jb) (W : World) : Prop where
  s : Src W g v a
  o : OwnZ 37 4 W N (.slice (some ⟨gg, 0, none⟩) m c) m (jbRaw js)
  b : GrownL [g] w W
  gn : g < N
  wn : N = w.heap.size
theorem EnvJ.lt {w W : World} {g a N gg m c : Nat} {v : Value} {js : List Jb} (h : EnvJ w g v a N gg m c js W) : N ≤ gg ∧ gg < W.heap.size := h.o.lt gg rfl
theorem EnvJ.kept {w W W' : World} {g a a' N gg m c : Nat} {v : Value} {js : List Jb} {row : Option Nat} (h : EnvJ w g v a N gg m c js W) (hg : W.grownBy W' row) (hr : ∀ j, row = some j → j = g ∨ (N ≤ j ∧ j ≠ gg)) (hs : Src W' g v a') : EnvJ w g v a' N gg m c js W' where
  s := hs
  o := h.o.kept hg (.inr (by rw [ownBlock_slice]; intro e; have := h.lt; have := h.gn; rcases hr gg e.symm with q | q <;> omega))
  b := h.b.grown hg (fun j e => by have := h.wn; rcases hr j e with q | q; exact .inl (by simp [q]); exact .inr (by omega))
  gn := h.gn
  wn := h.wn
theorem EnvJ.pick {w W W' : World} {g a a' N gg m c : Nat} {v : Value} {js : List Jb} (h : EnvJ w g v a N gg m c js W) (hg : GrownL [g] W W') (hs : Src W' g v a') : EnvJ w g v a' N gg m c js W' :=
  h.kept hg.by2 (fun j e => .inl (by simpa using e.symm)) hs
theorem EnvJ.alloc {w W : World} {g a N gg m c : Nat} {v : Value} {js : List Jb} (h : EnvJ w g v a N gg m c js W) (o : Obj) : EnvJ w g v a N gg m c js (W.alloc o) :=
  h.kept (grown_alloc4 W o none) (fun j e => by cases e) (h.s.by2 (grown_alloc4 W o none) (by simp))
theorem EnvJ.put {w W : World} {g a N gg m c X k : Nat} {v y : Value} {js : List Jb} (h : EnvJ w g v a N gg m c js W) (h1 : N ≤ X) (h2 : X ≠ gg) : EnvJ w g v a N gg m c js (W.setCell ⟨X, k, none⟩ y) :=
  h.kept (grown_set4 W ⟨X, k, none⟩ y) (fun j e => by cases e; exact .inr ⟨h1, h2⟩) (h.s.by2 (grown_set4 W ⟨X, k, none⟩ y) (fun e => by injection e with e; have := h.gn; have e2 : g = X := e; omega))
theorem EnvJ.app {w W W' : World} {g a N gg m c g1 c1 : Nat} {v : Value} {js : List Jb} {x : Jb} (h : EnvJ w g v a N gg m c js W) (ho : OwnZ 37 4 W' N (.slice (some ⟨g1, 0, none⟩) (m + 1) c1) (m + 1) (jbRaw js ++ [x.1, x.2.1, x.2.2.1, x.2.2.2])) (hg : W.grownBy W' (some gg)) : EnvJ w g v a N g1 (m + 1) c1 (js ++ [x]) W' where
  s := h.s.by2 hg (fun e => by injection e with e; have := h.gn; have := h.lt; omega)
  o := by rw [jbRaw_snoc2]; exact ho
  b := h.b.grown hg (fun j e => by injection e with e; have := h.wn; have := h.lt; exact .inr (by omega))
  gn := h.gn
  wn := h.wn
def DjR (w : World) (t g N a0 : Nat) (v vo vn : Value) (wr : World) : Prop :=
  ∃ (n m gg c a : Nat) (js : List Jb), vn = .int .i64 n ∧ n ≤ t ∧ vo = .slice (some ⟨gg, 0, none⟩) m c ∧ m + n = t ∧ a ≤ a0 + 4 * m ∧ Hid (m = js.length ∧ ∀ x ∈ js, DrJ x) ∧ Hid (EnvJ w g v a N gg m c js wr)
set_option maxRecDepth 100000 in
set_option maxHeartbeats 4000000 in
theorem drawJobs_any (v : Value) (xs : List Int) (g a t : Nat) (w : World) (hv : ∀ W, GrownL [g] w W → Byts W v xs) (hb : ∀ n ∈ xs, (Lit.int .u8 n).wf = true) (hs : Src w g v a) (ha : a ≤ 549755813888) (hn : t ≤ 7) :
    Calls Try.prog 18 #[.pointer (some ⟨g, 0, none⟩), .int .i64 t] w fun e w' => ∃ gg c js a', e = .returned (.slice (some ⟨gg, 0, none⟩) t c) ∧ EnvJ w g v a' w.heap.size gg t c js w' ∧ js.length = t ∧ ∀ x ∈ js, DrJ x := by
  obtain ⟨N, hN⟩ : ∃ N, w.heap.size = N := ⟨_, rfl⟩
  have hgn : g < N := by rw [← hN]; exact hs.lt
  have HPK : Hid (∀ a (m : Int) W, GrownL [g] w W → Src W g v a → a ≤ 1099511627776 → m ≤ 200 → Calls Try.prog 20 #[.pointer (some ⟨g, 0, none⟩), .int .i64 m] W fun e w' => (∃ x : Int, e = .returned (.int .i64 x) ∧ 0 ≤ x ∧ (1 ≤ m → x < m)) ∧ (∃ a', a' ≤ a + 1 ∧ Src w' g v a') ∧ GrownL [g] W w') := fun a m W hW hs ha hn => pick_any v xs g a m W (hv W hW) hb hs ha hn
  have E0 : Hid (EnvJ w g v a N N 0 0 [] (w.alloc (.cells #[] 37))) := by
    have ho := jb_lit2 w N (by omega)
    rw [hN] at ho
    exact ⟨hs.by2 (grown_alloc4 w _ none) (by simp), ho, (GrownL.refl _ w).alloc _, hgn, hN.symm⟩
  have HON := Lib.hid (one2_any v xs g a 2 (w.alloc (.cells #[] 37)) (hv _ E0.out.b) hb E0.out.s (by omega) (by omega))
  have HN := Lib.hid hN
  clear hv hb hs hgn
  go_enter Try.func18, Try.ntmps18
  rw [hN]
  go_wp2_with fail
  refine HON.out.mono ?_
  rintro e W0 ⟨⟨fr, rfl⟩, ⟨a1, ha1, hs1⟩, hg1⟩
  have E1 := Lib.hid (E0.out.pick hg1 hs1)
  clear hs1 hg1 HON E0
  have hR0 : DjR w t g N (a + 1) v (.slice (some ⟨N, 0, none⟩) 0 0) (.int .i64 t) W0 := ⟨t, 0, N, 0, a1, [], rfl, Nat.le_refl _, rfl, by omega, by omega, ⟨rfl, fun x hx => by cases hx⟩, E1.out⟩
  have HR0 := Lib.hid hR0
  clear hR0 E1 hN
  go_wp2
  go_loopw [5, 1] (fun vo vn wr => DjR w t g N (a + 1) v vo vn wr) (fun _ vn _ => (intOf vn).toNat)
  case atStart => exact HR0.out
  case round =>
    obtain ⟨n, m, gg, c, a2, js, rfl, hnt, rfl, hmn, ha2, HJ, E⟩ := hrel
    clear HR0
    by_cases hgo : 0 < n
    · have i1 : (n : Int) > 0 := by omega
      have HP1 := Lib.hid (HPK.out a2 9 wr E.out.b E.out.s (by omega) (by omega))
      go_wp2_with fail
      refine HP1.out.mono ?_
      rintro e W1 ⟨⟨y0, rfl, y00, y01⟩, ⟨a3, ha3, hs3⟩, hg3⟩
      have y01 := y01 (by omega)
      have E1 := Lib.hid (E.out.pick hg3 hs3)
      clear hs3 hg3 HP1 E
      have w1 : IntKind.i64.wrap (1 + y0) = 1 + y0 := IntWalk.i64_in _ (by omega)
      have E2 : Hid (EnvJ w g v a3 N gg m c js (W1.alloc (.cells #[.int .i64 (1 + y0), .int .i64 0, .int .i64 0, .int .i64 0] 37))) := E1.out.alloc _
      have KX2 : Hid (Blk (W1.alloc (.cells #[.int .i64 (1 + y0), .int .i64 0, .int .i64 0, .int .i64 0] 37)) W1.heap.size 37 [.int .i64 (1 + y0), .int .i64 0, .int .i64 0, .int .i64 0]) := Blk.new W1 _ _
      have hgx : N ≤ W1.heap.size ∧ W1.heap.size ≠ gg ∧ g < W1.heap.size := by have := E1.out.lt; have := E1.out.gn; omega
      cases fr
      · have HP5 := Lib.hid (HPK.out a3 12 _ E2.out.b E2.out.s (by omega) (by omega))
        go_wp2_with fail
        refine HP5.out.mono ?_
        rintro e W5 ⟨⟨yr, rfl, yr0, yr1⟩, ⟨a5, ha5, hs5⟩, hg5⟩
        have yr1 := yr1 (by omega)
        have E5 := Lib.hid (E2.out.pick hg5 hs5)
        have KX5 := Lib.hid (KX2.out.grownL hg5 (by simp; omega))
        obtain ⟨X, hX⟩ : ∃ X, W1.heap.size = X := ⟨_, rfl⟩
        rw [hX] at KX5 hgx
        rw [hX]
        clear hX
        clear hs5 hg5 HP5 E2 KX2
        have c1 := KX5.out.cell 1 _ rfl
        have f1 := KX5.out.frozen 1
        have E5s : Hid (EnvJ w g v a5 N gg m c js (W5.setCell ⟨X, 1, none⟩ (.int .i64 yr))) := E5.out.put hgx.1 hgx.2.1
        have KX5s : Hid (Blk (W5.setCell ⟨X, 1, none⟩ (.int .i64 yr)) X 37 [.int .i64 (1 + y0), .int .i64 yr, .int .i64 0, .int .i64 0]) := KX5.out.set 1 _
        clear E5 KX5
        have HP6 := Lib.hid (HPK.out a5 40 _ E5s.out.b E5s.out.s (by omega) (by omega))
        go_wp2_with fail
        refine HP6.out.mono ?_
        rintro e W6 ⟨⟨yd, rfl, yd0, yd1⟩, ⟨a6, ha6, hs6⟩, hg6⟩
        have yd1 := yd1 (by omega)
        have E6 := Lib.hid (E5s.out.pick hg6 hs6)
        have KX6 := Lib.hid (KX5s.out.grownL hg6 (by simp; omega))
        clear hs6 hg6 HP6 E5s KX5s
        have c2 := KX6.out.cell 2 _ rfl
        have f2 := KX6.out.frozen 2
        have E6s : Hid (EnvJ w g v a6 N gg m c js (W6.setCell ⟨X, 2, none⟩ (.int .i64 yd))) := E6.out.put hgx.1 hgx.2.1
        have KX6s : Hid (Blk (W6.setCell ⟨X, 2, none⟩ (.int .i64 yd)) X 37 [.int .i64 (1 + y0), .int .i64 yr, .int .i64 yd, .int .i64 0]) := KX6.out.set 2 _
        clear E6 KX6
        have HP7 := Lib.hid (HPK.out a6 6 _ E6s.out.b E6s.out.s (by omega) (by omega))
        go_wp2_with fail
        refine HP7.out.mono ?_
        rintro e W7 ⟨⟨yw, rfl, yw0, yw1⟩, ⟨a7, ha7, hs7⟩, hg7⟩
        have yw1 := yw1 (by omega)
        have E7 := Lib.hid (E6s.out.pick hg7 hs7)
        have KX7 := Lib.hid (KX6s.out.grownL hg7 (by simp; omega))
        clear hs7 hg7 HP7 E6s KX6s
        clear c1 f1 c2 f2
        have c3 := KX7.out.cell 3 _ rfl
        have f3 := KX7.out.frozen 3
        have E7s : Hid (EnvJ w g v a7 N gg m c js (W7.setCell ⟨X, 3, none⟩ (.int .i64 yw))) := E7.out.put hgx.1 hgx.2.1
        have KX7s : Hid (Blk (W7.setCell ⟨X, 3, none⟩ (.int .i64 yw)) X 37 [.int .i64 (1 + y0), .int .i64 yr, .int .i64 yd, .int .i64 yw]) := KX7.out.set 3 _
        clear E7 KX7
        go_upto_region 10 with fail
        obtain ⟨W8, hW8⟩ : ∃ W, W7.setCell ⟨X, 3, none⟩ (.int .i64 yw) = W := ⟨_, rfl⟩
        rw [hW8] at E7s KX7s ⊢
        have c0 := KX7s.out.cell 0 _ rfl
        have c1 := KX7s.out.cell 1 _ rfl
        have c2 := KX7s.out.cell 2 _ rfl
        have c4 := KX7s.out.cell 3 _ rfl
        have hw8 : N ≤ W8.heap.size := by have := E7s.out.lt; omega
        clear hW8 c3 f3
        go_wp2_with (at_builtin; refine append_jbL rfl _ _ rfl N (.slice (some ⟨gg, 0, none⟩) m c) m (jbRaw js) (1 + y0) yr yd yw rfl 1 _ rfl rfl E7s.out.o hw8 (by omega) ?_; intro g9 c9 w9 ho9 hg9; have E9 : Hid (EnvJ w g v a7 N g9 (m + 1) c9 (js ++ [(1 + y0, yr, yd, yw)]) w9) := E7s.out.app ho9 hg9; clear ho9 hg9)
        go_roundw
        case rel => exact ⟨n - 1, m + 1, g9, c9, a7, js ++ [(1 + y0, yr, yd, yw)], by go_num, by omega, rfl, by omega, by omega, ⟨by have := HJ.out.1; simp; omega, fun x hx => by rcases List.mem_append.1 hx with q | q; exact HJ.out.2 x q; rw [List.mem_singleton] at q; subst q; exact ⟨⟨by show 1 ≤ 1 + y0; omega, by show 1 + y0 ≤ 9; omega⟩, ⟨by show 0 ≤ yr; omega, by show yr ≤ 11; omega⟩, ⟨yd0, by show yd ≤ 39; omega⟩, yw0, by show yw ≤ 5; omega⟩⟩, E9.out⟩
        case measure => simp [intOf]; omega
      · have HP6 := Lib.hid (HPK.out a3 40 _ E2.out.b E2.out.s (by omega) (by omega))
        go_wp2_with fail
        refine HP6.out.mono ?_
        rintro e W6 ⟨⟨yd, rfl, yd0, yd1⟩, ⟨a6, ha6, hs6⟩, hg6⟩
        have yd1 := yd1 (by omega)
        have E6 := Lib.hid (E2.out.pick hg6 hs6)
        have KX6 := Lib.hid (KX2.out.grownL hg6 (by simp; omega))
        obtain ⟨X, hX⟩ : ∃ X, W1.heap.size = X := ⟨_, rfl⟩
        rw [hX] at KX6 hgx
        rw [hX]
        clear hX
        clear hs6 hg6 HP6 E2 KX2
        have c2 := KX6.out.cell 2 _ rfl
        have f2 := KX6.out.frozen 2
        have E6s : Hid (EnvJ w g v a6 N gg m c js (W6.setCell ⟨X, 2, none⟩ (.int .i64 yd))) := E6.out.put hgx.1 hgx.2.1
        have KX6s : Hid (Blk (W6.setCell ⟨X, 2, none⟩ (.int .i64 yd)) X 37 [.int .i64 (1 + y0), .int .i64 (0 : Int), .int .i64 yd, .int .i64 0]) := KX6.out.set 2 _
        clear E6 KX6
        have HP7 := Lib.hid (HPK.out a6 6 _ E6s.out.b E6s.out.s (by omega) (by omega))
        go_wp2_with fail
        refine HP7.out.mono ?_
        rintro e W7 ⟨⟨yw, rfl, yw0, yw1⟩, ⟨a7, ha7, hs7⟩, hg7⟩
        have yw1 := yw1 (by omega)
        have E7 := Lib.hid (E6s.out.pick hg7 hs7)
        have KX7 := Lib.hid (KX6s.out.grownL hg7 (by simp; omega))
        clear hs7 hg7 HP7 E6s KX6s
        clear c2 f2
        have c3 := KX7.out.cell 3 _ rfl
        have f3 := KX7.out.frozen 3
        have E7s : Hid (EnvJ w g v a7 N gg m c js (W7.setCell ⟨X, 3, none⟩ (.int .i64 yw))) := E7.out.put hgx.1 hgx.2.1
        have KX7s : Hid (Blk (W7.setCell ⟨X, 3, none⟩ (.int .i64 yw)) X 37 [.int .i64 (1 + y0), .int .i64 (0 : Int), .int .i64 yd, .int .i64 yw]) := KX7.out.set 3 _
        clear E7 KX7
        go_upto_region 10 with fail
        obtain ⟨W8, hW8⟩ : ∃ W, W7.setCell ⟨X, 3, none⟩ (.int .i64 yw) = W := ⟨_, rfl⟩
        rw [hW8] at E7s KX7s ⊢
        have c0 := KX7s.out.cell 0 _ rfl
        have c1 := KX7s.out.cell 1 _ rfl
        have c2 := KX7s.out.cell 2 _ rfl
        have c4 := KX7s.out.cell 3 _ rfl
        have hw8 : N ≤ W8.heap.size := by have := E7s.out.lt; omega
        clear hW8 c3 f3
        go_wp2_with (at_builtin; refine append_jbL rfl _ _ rfl N (.slice (some ⟨gg, 0, none⟩) m c) m (jbRaw js) (1 + y0) (0 : Int) yd yw rfl 1 _ rfl rfl E7s.out.o hw8 (by omega) ?_; intro g9 c9 w9 ho9 hg9; have E9 : Hid (EnvJ w g v a7 N g9 (m + 1) c9 (js ++ [(1 + y0, (0 : Int), yd, yw)]) w9) := E7s.out.app ho9 hg9; clear ho9 hg9)
        go_roundw
        case rel => exact ⟨n - 1, m + 1, g9, c9, a7, js ++ [(1 + y0, (0 : Int), yd, yw)], by go_num, by omega, rfl, by omega, by omega, ⟨by have := HJ.out.1; simp; omega, fun x hx => by rcases List.mem_append.1 hx with q | q; exact HJ.out.2 x q; rw [List.mem_singleton] at q; subst q; exact ⟨⟨by show 1 ≤ 1 + y0; omega, by show 1 + y0 ≤ 9; omega⟩, ⟨by show 0 ≤ (0 : Int); omega, by show (0 : Int) ≤ 11; omega⟩, ⟨yd0, by show yd ≤ 39; omega⟩, yw0, by show yw ≤ 5; omega⟩⟩, E9.out⟩
        case measure => simp [intOf]; omega
    · obtain rfl : n = 0 := by omega
      obtain rfl : m = t := by omega
      have HR : Hid (EnvJ w g v a2 N gg m c js wr ∧ js.length = m ∧ ∀ x ∈ js, DrJ x) := ⟨E.out, HJ.out.1.symm, HJ.out.2⟩
      clear E
      go_wp2
      go_ret
      exact ⟨gg, c, js, a2, rfl, HR.out⟩
end Go.Proofs.Ytcopjdhnmkfkfaa

namespace Go.Proofs.Ytcopjdhnmkfkfaa
open Go.RowKit Go.Shelf Go.BigFrame
set_option linter.unusedVariables false
set_option linter.unusedSimpArgs false

theorem jbRaw_set (js : List Jb) (i : Nat) (hi : i < js.length) (y : Int) : (jbRaw js).set (i * 4 + 1) y = jbRaw (js.set i (js[i].1, y, js[i].2.2.1, js[i].2.2.2)) := by
  induction js generalizing i with
  | nil => simp at hi
  | cons a t ih =>
    cases i with
    | zero => rfl
    | succ i =>
      show (jbInts a ++ jbRaw t).set ((i + 1) * 4 + 1) y = jbInts a ++ jbRaw _
      rw [List.set_append, if_neg (by simp [jbInts]; omega), show (i + 1) * 4 + 1 - (jbInts a).length = i * 4 + 1 by simp [jbInts]; omega, ih i (by simpa using hi)]
      rfl
theorem EnvJ.jobs {w W : World} {g a N gg m c : Nat} {v : Value} {js : List Jb} (h : EnvJ w g v a N gg m c js W) (hm : m = js.length) : Jobs W (.slice (some ⟨gg, 0, none⟩) m c) js := by
  subst hm; exact h.o.jobs
def JfR (w : World) (N gg T c : Nat) (vi : Value) (wr : World) : Prop :=
  ∃ (i : Nat) (js : List Jb), vi = .int .i64 i ∧ i ≤ T ∧ Hid (T = js.length ∧ (∀ x ∈ js, DrJ x) ∧ ∀ k, k < i → rlJ js k = 0) ∧ Hid (OwnZ 37 4 wr N (.slice (some ⟨gg, 0, none⟩) T c) T (jbRaw js)) ∧ Hid (Below N w wr)
theorem JfR.step {w wr : World} {N gg T c i : Nat} {js : List Jb} (hi : i < T) (h1 : T = js.length ∧ (∀ x ∈ js, DrJ x) ∧ ∀ k, k < i → rlJ js k = 0) (h2 : OwnZ 37 4 wr N (.slice (some ⟨gg, 0, none⟩) T c) T (jbRaw js)) (h3 : Below N w wr) (hN : N ≤ wr.heap.size) :
    JfR w N gg T c (.int .i64 ((i + 1 : Nat) : Int)) (wr.setCell ⟨gg, i * 4 + 1, none⟩ (.int .i64 0)) := by
  obtain ⟨a1, a2, a3⟩ := h1
  have hij : i < js.length := by omega
  obtain ⟨_, _, s3, s4⟩ := h2.store (i * 4 + 1) (by rw [jbRaw_length]; omega) 0
  rw [jbRaw_set js i hij] at s3
  refine ⟨i + 1, _, rfl, by omega, ⟨by rw [List.length_set]; exact a1, fun x hx => ?_, fun k hk => ?_⟩, s3, h3.grown s4 hN (fun j e => by cases e; exact (h2.lt gg rfl).1)⟩
  · rcases List.mem_or_eq_of_mem_set hx with q | q
    · exact a2 x q
    · have h := a2 _ (List.getElem_mem hij)
      subst q
      exact ⟨h.1, ⟨by show (0 : Int) ≤ 0; omega, by show (0 : Int) ≤ 11; omega⟩, h.2.2.1, h.2.2.2⟩
  · show (jbN (js.set i _) k).2.1 = 0
    have hk1 : k < js.length := by omega
    rw [jbN_eq (by rw [List.length_set]; exact hk1), List.getElem_set]
    by_cases e : i = k
    · rw [if_pos e]
    · rw [if_neg e]
      have := a3 k (by omega)
      unfold rlJ at this
      rw [jbN_eq hk1] at this
      exact this
/-- Jobs that are drawn. -/
structure JobsD (W : World) (v : Value) (t : Nat) (fr : Bool) (js : List Jb) : Prop where
  j : Jobs W v js
  l : js.length = t
  d : ∀ x ∈ js, DrJ x
  f : fr = true → ∀ i, i < t → rlJ js i = 0
set_option maxRecDepth 100000 in
set_option maxHeartbeats 2000000 in
theorem R8Jobs_any (v : Value) (xs : List Int) (t : Nat) (fr : Bool) (w : World) (hv : Byts w v xs) (hb : ∀ n ∈ xs, (Lit.int .u8 n).wf = true) (hn : t ≤ 7) :
    Calls Try.prog 6 #[v, .int .i64 t, .bool fr] w fun e w' => (∃ gg c, e = .returned (.slice (some ⟨gg, 0, none⟩) t c) ∧ ∃ js, JobsD w' (.slice (some ⟨gg, 0, none⟩) t c) t fr js) ∧ Below w.heap.size w w' := by
  obtain ⟨N, hN⟩ : ∃ N, w.heap.size = N := ⟨_, rfl⟩
  have HFR := Lib.hid (from_any v xs w hv)
  have HDJ : Hid (∀ W, Below N w W → Src W N v 0 → Calls Try.prog 18 #[.pointer (some ⟨N, 0, none⟩), .int .i64 t] W fun e w' => ∃ gg c js a', e = .returned (.slice (some ⟨gg, 0, none⟩) t c) ∧ EnvJ W N v a' W.heap.size gg t c js w' ∧ js.length = t ∧ ∀ x ∈ js, DrJ x) := fun W hW hs =>
    drawJobs_any v xs N 0 t W (fun W' hW' => hv.below (hW'.toBelow (by rw [hN]; exact hW) (by rw [hN]; have := hW.size; omega) (fun i hi => by simp; omega)) (Nat.le_refl _)) hb hs (by omega) hn
  have HN := Lib.hid hN
  clear hv hb
  go_enter Try.func6, Try.ntmps6
  go_wp2_with fail
  refine HFR.out.mono ?_
  rintro e W1 ⟨rfl, hs1, hb1, hz1⟩
  rw [hN] at hs1 hb1 hz1 ⊢
  have HD := Lib.hid (HDJ.out W1 hb1 hs1)
  have HB1 := Lib.hid hb1
  clear hs1 hb1 HFR HDJ
  go_wp2_with fail
  refine HD.out.mono ?_
  rintro e W2 ⟨gg, c, js, a', rfl, hE, hl, hj⟩
  have hlt := hE.lt
  have HB2 : Hid (Below N w W2) := hE.b.toBelow HB1.out (by omega) (fun i hi => by simp; omega)
  have HJ0 : Hid (JfR w N gg t c (.int .i64 0) W2) := ⟨0, js, rfl, Nat.zero_le _, ⟨hl.symm, hj, fun k hk => absurd hk (Nat.not_lt_zero _)⟩, by
    have h := hE.o
    refine ⟨h.1, ?_⟩
    rcases h.2 with q | ⟨g', cap, cur, q1, q2, q3⟩
    · exact .inl q
    · exact .inr ⟨g', cap, cur, q1, by omega, q3⟩, HB2.out⟩
  have HEJ : Hid (Jobs W2 (.slice (some ⟨gg, 0, none⟩) t c) js ∧ js.length = t ∧ ∀ x ∈ js, DrJ x) := ⟨hE.jobs hl.symm, hl, hj⟩
  clear hE hj HD hl hN hz1
  have hgn : N ≤ gg := by have := HB1.out.size; have := HN.out; omega
  clear hlt
  cases fr
  · clear HJ0
    go_wp2
    go_loopw [9] (fun vi wr => vi = .int .i64 0 ∧ Hid (wr = W2)) (fun vi _ => 0)
    case atStart => exact ⟨rfl, rfl⟩
    case round =>
      obtain ⟨rfl, HW⟩ := hrel
      have HEJ2 : Hid (Jobs wr (.slice (some ⟨gg, 0, none⟩) t c) js ∧ js.length = t ∧ ∀ x ∈ js, DrJ x) := by rw [HW.out]; exact HEJ.out
      have HBR : Hid (Below N w wr) := by rw [HW.out]; exact HB2.out
      by_cases h0 : (0 : Int) < (t : Int)
      · go_wp2
        go_ret
        exact ⟨⟨gg, c, rfl, js, ⟨HEJ2.out.1, HEJ2.out.2.1, HEJ2.out.2.2, fun h => by cases h⟩⟩, by rw [HN.out]; exact HBR.out⟩
      · go_wp2
        go_ret
        exact ⟨⟨gg, c, rfl, js, ⟨HEJ2.out.1, HEJ2.out.2.1, HEJ2.out.2.2, fun h => by cases h⟩⟩, by rw [HN.out]; exact HBR.out⟩
  · clear HEJ
    go_wp2
    go_loopw [9] (fun vi wr => JfR w N gg t c vi wr) (fun vi _ => t - (intOf vi).toNat)
    case atStart => exact HJ0.out
    case round =>
      obtain ⟨i, ks, rfl, hi, HK, HO, HB⟩ := hrel
      clear HJ0
      by_cases hit : i < t
      · have k0 : (0 : Int) ≤ (i : Int) := by omega
        have k1 : (i : Int) < (t : Int) := by omega
        have hst := HO.out.store (i * 4 + 1) (by rw [jbRaw_length, ← HK.out.1]; omega) 0
        have cst := hst.1
        have fst := hst.2.1
        obtain ⟨u, hu⟩ : ∃ u, nth (jbRaw ks) (i * 4 + 1) = u := ⟨_, rfl⟩
        rw [hu] at cst
        have HS : Hid (JfR w N gg t c (.int .i64 ((i + 1 : Nat) : Int)) (wr.setCell ⟨gg, i * 4 + 1, none⟩ (.int .i64 0))) := JfR.step hit HK.out HO.out HB.out (by have h1 := HB.out.size; have h2 := HN.out; omega)
        clear hst hu
        go_wp2
        go_roundw
        case rel =>
          obtain ⟨i', ks', e1, h1, h2, h3, h4⟩ := HS.out
          exact ⟨i', ks', by rw [← e1]; go_num, h1, h2, h3, h4⟩
        case measure => simp [intOf]; omega
      · obtain rfl : i = t := by omega
        have HE : Hid (Jobs wr (.slice (some ⟨gg, 0, none⟩) i c) ks ∧ ks.length = i ∧ (∀ x ∈ ks, DrJ x) ∧ ∀ k, k < i → rlJ ks k = 0) := by
          refine ⟨?_, HK.out.1.symm, HK.out.2⟩
          have h := HO.out
          have e := HK.out.1
          subst e
          exact h.jobs
        have HBR : Hid (Below N w wr) := HB.out
        clear HO HB
        go_wp2
        go_ret
        exact ⟨⟨gg, c, rfl, ks, ⟨HE.out.1, HE.out.2.1, HE.out.2.2.1, fun _ => HE.out.2.2.2⟩⟩, by rw [HN.out]; exact HBR.out⟩
end Go.Proofs.Ytcopjdhnmkfkfaa

namespace Go.Proofs.Ytcopjdhnmkfkfaa
open Go.RowKit
set_option linter.unusedVariables false
set_option linter.unusedSimpArgs false

def sumP (f : Nat → Int) (p : Nat → Bool) : Nat → Int
  | 0 => 0
  | n + 1 => sumP f p n + if p n then f n else 0
theorem sumP_congr {f g : Nat → Int} {p q : Nat → Bool} : ∀ n, (∀ i, i < n → p i = q i ∧ (q i = true → f i = g i)) → sumP f p n = sumP g q n
  | 0, _ => rfl
  | n + 1, h => by
    unfold sumP
    rw [sumP_congr n (fun i hi => h i (by omega)), (h n (by omega)).1]
    cases hq : q n
    · rfl
    · rw [if_pos rfl, if_pos rfl, (h n (by omega)).2 hq]
theorem sumP_mono {f g : Nat → Int} {p q : Nat → Bool} : ∀ n, (∀ i, i < n → (if p i then f i else 0) ≤ if q i then g i else 0) → sumP f p n ≤ sumP g q n
  | 0, _ => Int.le_refl _
  | n + 1, h => by
    have h1 := sumP_mono (f := f) (g := g) (p := p) (q := q) n (fun i hi => h i (by omega))
    have h2 := h n (by omega)
    unfold sumP
    omega
theorem sumP_split (f : Nat → Int) (p q : Nat → Bool) : ∀ n, sumP f p n = sumP f (fun i => p i && q i) n + sumP f (fun i => p i && !q i) n
  | 0 => rfl
  | n + 1 => by
    have h := sumP_split f p q n
    unfold sumP
    rw [h]
    cases p n <;> cases q n <;> simp <;> omega
/-- One place is another one. -/
theorem sumP_upd {f g : Nat → Int} {p q : Nat → Bool} {b : Nat} : ∀ n, b < n → (∀ i, i < n → i ≠ b → p i = q i ∧ f i = g i) → sumP g q n = sumP f p n - (if p b then f b else 0) + if q b then g b else 0
  | 0, hb, _ => absurd hb (Nat.not_lt_zero _)
  | n + 1, hb, h => by
    unfold sumP
    by_cases e : b = n
    · subst e
      rw [sumP_congr (f := g) (g := f) (p := q) (q := p) b (fun i hi => ⟨(h i (by omega) (by omega)).1.symm, fun _ => (h i (by omega) (by omega)).2.symm⟩)]
      omega
    · have h1 := sumP_upd n (show b < n by omega) (fun i hi hn => h i (by omega) hn)
      have h2 := h n (by omega) (fun x => e x.symm)
      rw [h1, h2.1, h2.2]
      omega
theorem sumP_nn {f : Nat → Int} {p : Nat → Bool} : ∀ n, (∀ i, i < n → p i = true → 0 ≤ f i) → 0 ≤ sumP f p n
  | 0, _ => Int.le_refl _
  | n + 1, h => by
    have h1 := sumP_nn n (fun i hi => h i (by omega))
    unfold sumP
    cases hp : p n
    · simp; exact h1
    · have := h n (by omega) hp; simp; omega
theorem sumP_zero {f : Nat → Int} {p : Nat → Bool} : ∀ n, (∀ i, i < n → p i = true → f i = 0) → sumP f p n = 0
  | 0, _ => rfl
  | n + 1, h => by
    unfold sumP
    rw [sumP_zero n (fun i hi => h i (by omega))]
    cases hp : p n
    · rfl
    · rw [if_pos rfl, h n (by omega) hp]; rfl
theorem sumP_all {f : Nat → Int} {p : Nat → Bool} : ∀ n, (∀ i, i < n → p i = true → 0 ≤ f i) → sumP f p n ≤ 0 → ∀ i, i < n → p i = true → f i = 0
  | 0, _, _, i, hi, _ => absurd hi (Nat.not_lt_zero _)
  | n + 1, h, hs, i, hi, hp => by
    have h1 := sumP_nn n (fun i hi => h i (by omega))
    unfold sumP at hs
    have h2 : 0 ≤ if p n then f n else 0 := by
      cases hq : p n
      · simp
      · have := h n (by omega) hq; simpa
    by_cases e : i = n
    · subst e
      rw [if_pos hp] at hs h2
      omega
    · exact sumP_all n (fun i hi => h i (by omega)) (by omega) i (by omega) hp
/-- How many. -/
abbrev cntP (p : Nat → Bool) (n : Nat) : Int := sumP (fun _ => 1) p n
/-- L is never behind M, whatever few are not looked at. -/
def DomP (n : Nat) (rel : Nat → Bool) (L M : Nat → Int) : Prop :=
  ∀ R' : Nat → Bool, ∃ R : Nat → Bool, cntP (fun i => rel i && R i) n ≤ cntP (fun i => rel i && R' i) n ∧ sumP L (fun i => rel i && !R i) n ≤ sumP M (fun i => rel i && !R' i) n
theorem DomP.idle {n : Nat} {rel : Nat → Bool} {L M' : Nat → Int} (hz : ∀ i, i < n → rel i = true → L i = 0) (hM : ∀ i, i < n → 0 ≤ M' i) : DomP n rel L M' := fun R' =>
  ⟨R', Int.le_refl _, by
    rw [sumP_zero n (fun i hi hp => by rw [Bool.and_eq_true] at hp; exact hz i hi hp.1)]
    exact sumP_nn n (fun i hi _ => hM i hi)⟩
theorem DomP.run {n : Nat} {rel : Nat → Bool} {L L' M M' : Nat → Int} (h : DomP n rel L M) (hM : ∀ i, i < n → 0 ≤ M' i) (hMM : ∀ X : Nat → Bool, sumP M (fun i => rel i && X i) n - 1 ≤ sumP M' (fun i => rel i && X i) n)
    {b : Nat} (hb : b < n) (hrb : rel b = true) (hL : ∀ i, i < n → 0 ≤ L i) (hLb : 0 < L b) (hmin : ∀ c, c < n → rel c = true → L c ≠ 0 → L b ≤ L c) (hL' : ∀ i, i < n → L' i = if i = b then L b - 1 else L i) : DomP n rel L' M' := fun R' => by
  obtain ⟨R, h1, h2⟩ := h R'
  have h3 := hMM (fun i => !R' i)
  by_cases hbR : R b = true
  · by_cases hc : ∃ c, c < n ∧ rel c = true ∧ R c = false ∧ L c ≠ 0
    · obtain ⟨c, hcn, hcr, hcR, hcL⟩ := hc
      have hbc : b ≠ c := fun e => by subst e; rw [hbR] at hcR; cases hcR
      have hle := hmin c hcn hcr hcL
      refine ⟨fun i => if i = b then false else if i = c then true else R i, ?_, ?_⟩
      · have e1 := sumP_upd (f := fun _ => (1 : Int)) (g := fun _ => 1) (p := fun i => rel i && R i) (q := fun i => rel i && (if i = b then false else R i)) (b := b) n hb (fun i _ hn => by simp [hn])
        have e2 := sumP_upd (f := fun _ => (1 : Int)) (g := fun _ => 1) (p := fun i => rel i && (if i = b then false else R i)) (q := fun i => rel i && (if i = b then false else if i = c then true else R i)) (b := c) n hcn (fun i _ hn => by simp [hn])
        have hcb : ¬ c = b := fun e => hbc e.symm
        simp only [hrb, hbR, hcr, hcR, hcb, Bool.and_true, Bool.and_false, if_true, if_false, Bool.false_eq_true] at e1 e2
        have h1' : sumP (fun _ => (1 : Int)) (fun i => rel i && R i) n ≤ sumP (fun _ => (1 : Int)) (fun i => rel i && R' i) n := h1
        show sumP _ _ n ≤ sumP _ _ n
        rw [e2, e1]
        omega
      · have e1 := sumP_upd (f := L) (g := L') (p := fun i => rel i && !R i) (q := fun i => rel i && !(if i = b then false else R i)) (b := b) n hb (fun i hi hn => by rw [hL' i hi, if_neg hn]; simp [hn])
        have e2 := sumP_upd (f := L') (g := L') (p := fun i => rel i && !(if i = b then false else R i)) (q := fun i => rel i && !(if i = b then false else if i = c then true else R i)) (b := c) n hcn (fun i _ hn => by simp [hn])
        have hcb : ¬ c = b := fun e => hbc e.symm
        have hLc : L' c = L c := by rw [hL' c hcn, if_neg hcb]
        have hLb2 : L' b = L b - 1 := by rw [hL' b hb, if_pos rfl]
        simp only [hrb, hbR, hcr, hcR, hcb, hLc, hLb2, Bool.and_true, Bool.and_false, Bool.not_true, Bool.not_false, if_true, if_false, Bool.false_eq_true] at e1 e2
        rw [e2, e1]
        omega
    · refine ⟨R, h1, ?_⟩
      rw [sumP_zero n (fun i hi hp => by
        rw [Bool.and_eq_true, Bool.not_eq_true'] at hp
        have hib : ¬ i = b := fun e => by subst e; rw [hbR] at hp; cases hp.2
        rw [hL' i hi, if_neg hib]
        rcases Classical.em (L i = 0) with q | q
        · exact q
        · exact absurd ⟨i, hi, hp.1, hp.2, q⟩ hc)]
      exact sumP_nn n (fun i hi _ => hM i hi)
  · have hbR2 : R b = false := by simpa using hbR
    refine ⟨R, h1, ?_⟩
    have e1 := sumP_upd (f := L) (g := L') (p := fun i => rel i && !R i) (q := fun i => rel i && !R i) (b := b) n hb (fun i hi hn => ⟨rfl, by rw [hL' i hi, if_neg hn]⟩)
    have hLb2 : L' b = L b - 1 := by rw [hL' b hb, if_pos rfl]
    simp only [hrb, hbR2, hLb2, Bool.not_false, Bool.and_true, if_true] at e1
    rw [e1]
    omega
theorem DomP.arrive {n : Nat} {rel rel' : Nat → Bool} {L M : Nat → Int} (h : DomP n rel L M) (hr : ∀ i, i < n → rel i = true → rel' i = true) (hn : ∀ i, i < n → rel' i = true → rel i = false → L i = M i) : DomP n rel' L M := fun R' => by
  obtain ⟨R, h1, h2⟩ := h R'
  refine ⟨fun i => if rel i then R i else R' i, ?_, ?_⟩
  · have e1 := sumP_split (fun _ => (1 : Int)) (fun i => rel' i && (if rel i then R i else R' i)) rel n
    have e2 := sumP_split (fun _ => (1 : Int)) (fun i => rel' i && R' i) rel n
    have e3 : sumP (fun _ => (1 : Int)) (fun i => (rel' i && (if rel i then R i else R' i)) && rel i) n = sumP (fun _ => (1 : Int)) (fun i => rel i && R i) n := sumP_congr n fun i hi => ⟨by
      cases hq : rel i
      · simp
      · rw [hr i hi hq]; simp, fun _ => rfl⟩
    have e4 : sumP (fun _ => (1 : Int)) (fun i => (rel' i && R' i) && rel i) n = sumP (fun _ => (1 : Int)) (fun i => rel i && R' i) n := sumP_congr n fun i hi => ⟨by
      cases hq : rel i
      · simp
      · rw [hr i hi hq]; simp, fun _ => rfl⟩
    have e5 : sumP (fun _ => (1 : Int)) (fun i => (rel' i && (if rel i then R i else R' i)) && !rel i) n = sumP (fun _ => (1 : Int)) (fun i => (rel' i && R' i) && !rel i) n := sumP_congr n fun i hi => ⟨by cases hq : rel i <;> simp, fun _ => rfl⟩
    show sumP _ _ n ≤ sumP _ _ n
    rw [e1, e2, e3, e4, e5]
    have h1' : sumP (fun _ => (1 : Int)) (fun i => rel i && R i) n ≤ sumP (fun _ => (1 : Int)) (fun i => rel i && R' i) n := h1
    omega
  · have e1 := sumP_split L (fun i => rel' i && !(if rel i then R i else R' i)) rel n
    have e2 := sumP_split M (fun i => rel' i && !R' i) rel n
    have e3 : sumP L (fun i => (rel' i && !(if rel i then R i else R' i)) && rel i) n = sumP L (fun i => rel i && !R i) n := sumP_congr n fun i hi => ⟨by
      cases hq : rel i
      · simp
      · rw [hr i hi hq]; simp, fun _ => rfl⟩
    have e4 : sumP M (fun i => (rel' i && !R' i) && rel i) n = sumP M (fun i => rel i && !R' i) n := sumP_congr n fun i hi => ⟨by
      cases hq : rel i
      · simp
      · rw [hr i hi hq]; simp, fun _ => rfl⟩
    have e5 : sumP L (fun i => (rel' i && !(if rel i then R i else R' i)) && !rel i) n = sumP M (fun i => (rel' i && !R' i) && !rel i) n := sumP_congr n fun i hi => ⟨by cases hq : rel i <;> simp, fun hp => by
      simp only [Bool.and_eq_true, Bool.not_eq_true'] at hp
      exact hn i hi hp.1.1 hp.2⟩
    rw [e1, e2, e3, e4, e5]
    omega
theorem DomP.count {n : Nat} {rel : Nat → Bool} {L M : Nat → Int} (h : DomP n rel L M) (hL : ∀ i, i < n → 0 ≤ L i) : cntP (fun i => rel i && decide (L i ≠ 0)) n ≤ cntP (fun i => rel i && decide (M i ≠ 0)) n := by
  obtain ⟨R, h1, h2⟩ := h (fun i => decide (M i ≠ 0))
  have e1 : sumP M (fun i => rel i && !decide (M i ≠ 0)) n = 0 := sumP_zero n fun i hi hp => by
    simp only [Bool.and_eq_true, Bool.not_eq_true', decide_eq_false_iff_not, Decidable.not_not] at hp
    exact hp.2
  rw [e1] at h2
  have h3 := sumP_all n (fun i hi _ => hL i hi) h2
  refine Int.le_trans (sumP_mono n fun i hi => ?_) h1
  cases hr : rel i
  · simp
  · cases hR : R i
    · have := h3 i hi (by rw [hr, hR]; rfl)
      simp [this]
    · by_cases q : L i = 0 <;> simp [q]
end Go.Proofs.Ytcopjdhnmkfkfaa

namespace Go.Proofs.Ytcopjdhnmkfkfaa
open Go.RowKit
set_option linter.unusedVariables false
set_option linter.unusedSimpArgs false

/-- The key by which a job is taken. -/
def keyQ (js : List Jb) (rule : Int) (left : List Int) (i : Nat) : Int := if rule = 0 then nth left i else duJ js i
def availQ (js : List Jb) (left : List Int) (t : Int) (i : Nat) : Prop := rlJ js i ≤ t ∧ nth left i ≠ 0
instance (js : List Jb) (left : List Int) (t : Int) (i : Nat) : Decidable (availQ js left t i) := by unfold availQ; exact inferInstance
/-- The job that is taken: of the first k, the first with the least key. -/
def pkTo (js : List Jb) (rule : Int) (left : List Int) (t : Int) : Nat → Int
  | 0 => -1
  | i + 1 => if availQ js left t i ∧ (pkTo js rule left t i < 0 ∨ keyQ js rule left i < keyQ js rule left (pkTo js rule left t i).toNat) then (i : Int) else pkTo js rule left t i
theorem pkTo_spec (js : List Jb) (rule : Int) (left : List Int) (t : Int) : ∀ k, (pkTo js rule left t k = -1 ∧ ∀ j, j < k → ¬ availQ js left t j) ∨
    ∃ b : Nat, b < k ∧ pkTo js rule left t k = b ∧ availQ js left t b ∧ ∀ j, j < k → availQ js left t j → keyQ js rule left b ≤ keyQ js rule left j
  | 0 => .inl ⟨rfl, fun j h => absurd h (Nat.not_lt_zero _)⟩
  | k + 1 => by
    unfold pkTo
    rcases pkTo_spec js rule left t k with ⟨h1, h2⟩ | ⟨b, h1, h2, h3, h4⟩
    · rw [h1]
      by_cases ha : availQ js left t k
      · rw [if_pos ⟨ha, .inl (by omega)⟩]
        refine .inr ⟨k, by omega, rfl, ha, fun j hj hja => ?_⟩
        by_cases e : j = k
        · subst e; exact Int.le_refl _
        · exact absurd hja (h2 j (by omega))
      · rw [if_neg (fun x => ha x.1)]
        refine .inl ⟨rfl, fun j hj => ?_⟩
        by_cases e : j = k
        · subst e; exact ha
        · exact h2 j (by omega)
    · rw [h2, Int.toNat_natCast]
      by_cases ha : availQ js left t k ∧ ((b : Int) < 0 ∨ keyQ js rule left k < keyQ js rule left b)
      · rw [if_pos ha]
        refine .inr ⟨k, by omega, rfl, ha.1, fun j hj hja => ?_⟩
        have hlt : keyQ js rule left k < keyQ js rule left b := ha.2.resolve_left (by omega)
        by_cases e : j = k
        · subst e; exact Int.le_refl _
        · have := h4 j (by omega) hja; omega
      · rw [if_neg ha]
        refine .inr ⟨b, by omega, rfl, h3, fun j hj hja => ?_⟩
        by_cases e : j = k
        · subst e
          have : ¬ keyQ js rule left j < keyQ js rule left b := fun x => ha ⟨hja, .inr x⟩
          omega
        · exact h4 j (by omega) hja
def pkQ (js : List Jb) (rule : Int) (left : List Int) (t : Int) : Int := pkTo js rule left t js.length
structure PieS where
  left : List Int
  ends : List Int
  pieces : List Int
  last : Int
def pieStep (js : List Jb) (rule t : Int) (s : PieS) : PieS :=
  if pkQ js rule s.left t < 0 then { s with last := -1 } else
    ⟨s.left.set (pkQ js rule s.left t).toNat (nth s.left (pkQ js rule s.left t).toNat - 1), s.ends.set (pkQ js rule s.left t).toNat (t + 1),
      s.pieces.set (pkQ js rule s.left t).toNat (nth s.pieces (pkQ js rule s.left t).toNat + if pkQ js rule s.left t = s.last then 0 else 1), pkQ js rule s.left t⟩
def pieTo (js : List Jb) (rule : Int) : Nat → PieS
  | 0 => ⟨js.map (·.1), List.replicate js.length 0, List.replicate js.length 0, -1⟩
  | t + 1 => pieStep js rule t (pieTo js rule t)
structure GoodJ (js : List Jb) : Prop where
  time : ∀ i, i < js.length → 1 ≤ tmJ js i
  rel : ∀ i, i < js.length → 0 ≤ rlJ js i
/-- What is known ahead of time t. -/
structure PieI (js : List Jb) (t : Int) (s : PieS) : Prop where
  ll : s.left.length = js.length
  le : s.ends.length = js.length
  lp : s.pieces.length = js.length
  left : ∀ i, i < js.length → 0 ≤ nth s.left i ∧ nth s.left i ≤ tmJ js i
  ends : ∀ i, i < js.length → 0 ≤ nth s.ends i ∧ nth s.ends i ≤ t
  run : ∀ i, i < js.length → nth s.left i < tmJ js i → rlJ js i + (tmJ js i - nth s.left i) ≤ nth s.ends i ∧ 1 ≤ nth s.pieces i
  pieces : ∀ i, i < js.length → 0 ≤ nth s.pieces i ∧ nth s.pieces i ≤ t
  unrel : ∀ i, i < js.length → t ≤ rlJ js i → nth s.left i = tmJ js i
  last : s.last = -1 ∨ ∃ b : Nat, b < js.length ∧ s.last = b ∧ nth s.left b < tmJ js b
theorem nth_map1 {js : List Jb} {i : Nat} (h : i < js.length) : nth (js.map (·.1)) i = tmJ js i := by
  rw [nth_eq (by simpa using h)]
  show _ = (jbN js i).1
  rw [jbN_eq h]; simp
theorem nth_repl0 {n i : Nat} : nth (List.replicate n (0 : Int)) i = 0 := by
  unfold nth
  rw [List.getD_eq_getElem?_getD, List.getElem?_replicate]
  split <;> rfl
theorem pieI_zero {js : List Jb} (h : GoodJ js) (rule : Int) : PieI js 0 (pieTo js rule 0) := by
  refine ⟨by simp [pieTo], by simp [pieTo], by simp [pieTo], fun i hi => ?_, fun i hi => ?_, fun i hi hl => ?_, fun i hi => ?_, fun i hi _ => ?_, .inl rfl⟩
  · show 0 ≤ nth (js.map (·.1)) i ∧ nth (js.map (·.1)) i ≤ _
    rw [nth_map1 hi]
    have := h.time i hi
    omega
  · show 0 ≤ nth (List.replicate _ 0) i ∧ nth (List.replicate _ 0) i ≤ 0
    rw [nth_repl0]; omega
  · exfalso
    have h1 : nth (js.map (·.1)) i < tmJ js i := hl
    rw [nth_map1 hi] at h1
    omega
  · show 0 ≤ nth (List.replicate _ 0) i ∧ nth (List.replicate _ 0) i ≤ 0
    rw [nth_repl0]; omega
  · exact nth_map1 hi
/-- The step, by what is taken. -/
theorem pieStep_cases {js : List Jb} {rule t : Int} {s : PieS} : (pkQ js rule s.left t = -1 ∧ (∀ j, j < js.length → ¬ availQ js s.left t j) ∧ pieStep js rule t s = { s with last := -1 }) ∨
    ∃ b : Nat, b < js.length ∧ pkQ js rule s.left t = b ∧ availQ js s.left t b ∧ (∀ j, j < js.length → availQ js s.left t j → keyQ js rule s.left b ≤ keyQ js rule s.left j) ∧
      pieStep js rule t s = ⟨s.left.set b (nth s.left b - 1), s.ends.set b (t + 1), s.pieces.set b (nth s.pieces b + if (b : Int) = s.last then 0 else 1), b⟩ := by
  rcases pkTo_spec js rule s.left t js.length with ⟨h1, h2⟩ | ⟨b, h1, h2, h3, h4⟩
  · refine .inl ⟨h1, h2, ?_⟩
    unfold pieStep
    rw [show pkQ js rule s.left t = -1 from h1, if_pos (by omega)]
  · refine .inr ⟨b, h1, h2, h3, h4, ?_⟩
    unfold pieStep
    rw [show pkQ js rule s.left t = b from h2, if_neg (by omega), Int.toNat_natCast]
theorem pieI_step {js : List Jb} (h : GoodJ js) {rule t : Int} {s : PieS} (ht : 0 ≤ t) (hI : PieI js t s) : PieI js (t + 1) (pieStep js rule t s) := by
  rcases pieStep_cases (js := js) (rule := rule) (t := t) (s := s) with ⟨h1, h2, h3⟩ | ⟨b, hb, h2, h3, h4, h5⟩
  · rw [h3]
    refine ⟨hI.ll, hI.le, hI.lp, hI.left, fun i hi => ?_, hI.run, fun i hi => ?_, fun i hi hr => ?_, .inl rfl⟩
    · have := hI.ends i hi; show 0 ≤ nth s.ends i ∧ nth s.ends i ≤ t + 1; omega
    · have := hI.pieces i hi; show 0 ≤ nth s.pieces i ∧ nth s.pieces i ≤ t + 1; omega
    · exact hI.unrel i hi (by omega)
  · rw [h5]
    have hbl := hI.left b hb
    have h3' := h3
    unfold availQ at h3'
    have hll := hI.ll
    have hle := hI.le
    have hlp := hI.lp
    refine ⟨by simp [hI.ll], by simp [hI.le], by simp [hI.lp], fun i hi => ?_, fun i hi => ?_, fun i hi hl => ?_, fun i hi => ?_, fun i hi hr => ?_, .inr ⟨b, hb, rfl, ?_⟩⟩
    · show 0 ≤ nth (s.left.set b _) i ∧ nth (s.left.set b _) i ≤ _
      rw [nth_setJ _ (by omega)]
      have := hI.left i hi
      split
      · rename_i e; subst e; omega
      · omega
    · show 0 ≤ nth (s.ends.set b _) i ∧ nth (s.ends.set b _) i ≤ _
      rw [nth_setJ _ (by omega)]
      have := hI.ends i hi
      split <;> omega
    · have hl' : nth (s.left.set b (nth s.left b - 1)) i < tmJ js i := hl
      show rlJ js i + (tmJ js i - nth (s.left.set b (nth s.left b - 1)) i) ≤ nth (s.ends.set b (t + 1)) i ∧ 1 ≤ nth (s.pieces.set b _) i
      rw [nth_setJ _ (by omega)] at hl' ⊢
      rw [nth_setJ _ (by omega), nth_setJ _ (by omega)]
      by_cases e : b = i
      · subst e
        rw [if_pos rfl] at hl' ⊢
        rw [if_pos rfl, if_pos rfl]
        have hp := hI.pieces b hb
        by_cases hr : nth s.left b < tmJ js b
        · have h6 := hI.run b hb hr
          have h7 := hI.ends b hb
          refine ⟨by omega, ?_⟩
          split <;> omega
        · refine ⟨by omega, ?_⟩
          rw [if_neg]
          · omega
          · intro e
            rcases hI.last with h8 | ⟨b', _, h9, h10⟩
            · omega
            · have : b' = b := by omega
              subst this
              exact hr h10
      · rw [if_neg e] at hl' ⊢
        rw [if_neg e, if_neg e]
        exact hI.run i hi hl'
    · show 0 ≤ nth (s.pieces.set b _) i ∧ nth (s.pieces.set b _) i ≤ t + 1
      rw [nth_setJ _ (by omega)]
      have h6 := hI.pieces i hi
      by_cases e : b = i
      · subst e
        rw [if_pos rfl]
        split <;> omega
      · rw [if_neg e]; omega
    · show nth (s.left.set b _) i = _
      rw [nth_setJ _ (by omega), if_neg]
      · exact hI.unrel i hi (by omega)
      · intro e; subst e; omega
    · show nth (s.left.set b _) b < _
      rw [nth_setJ _ (by omega), if_pos rfl]; omega
theorem pieI_to {js : List Jb} (h : GoodJ js) (rule : Int) : ∀ t : Nat, PieI js t (pieTo js rule t)
  | 0 => pieI_zero h rule
  | t + 1 => by
    have := pieI_step (rule := rule) h (Int.natCast_nonneg t) (pieI_to h rule t)
    exact this
/-- What is done stays as it is. -/
theorem pie_done {js : List Jb} (h : GoodJ js) (rule : Int) {i : Nat} (hi : i < js.length) (t : Nat) (h0 : nth (pieTo js rule t).left i = 0) : ∀ d, nth (pieTo js rule (t + d)).left i = 0 ∧ nth (pieTo js rule (t + d)).ends i = nth (pieTo js rule t).ends i
  | 0 => ⟨h0, rfl⟩
  | d + 1 => by
    obtain ⟨h1, h2⟩ := pie_done h rule hi t h0 d
    have hI := pieI_to h rule (t + d)
    show nth (pieStep js rule ((t + d : Nat) : Int) (pieTo js rule (t + d))).left i = 0 ∧ nth (pieStep js rule ((t + d : Nat) : Int) (pieTo js rule (t + d))).ends i = _
    rcases pieStep_cases (js := js) (rule := rule) (t := ((t + d : Nat) : Int)) (s := pieTo js rule (t + d)) with ⟨_, _, h3⟩ | ⟨b, hb, _, h3, _, h5⟩
    · rw [h3]; exact ⟨h1, h2⟩
    · rw [h5]
      have hne : b ≠ i := fun e => by subst e; exact h3.2 h1
      have hll := hI.ll
      have hle := hI.le
      refine ⟨?_, ?_⟩
      · show nth (List.set _ b _) i = 0
        rw [nth_setJ _ (by omega), if_neg hne]; exact h1
      · show nth (List.set _ b _) i = _
        rw [nth_setJ _ (by omega), if_neg hne]; exact h2
end Go.Proofs.Ytcopjdhnmkfkfaa
