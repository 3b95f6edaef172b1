
/- NewDesk, program and reference. Conditions: none. -/
import Derived.Test.YtgllpbmagaelgaaDeskLaw
namespace Go.Proofs.Ytgllpbmagaelgaa
open Go.RowKit
set_option linter.unusedVariables false
set_option linter.unusedSimpArgs false

/-- The desk at the beginning. -/
def newJobs : List Jb := [(2, 0, 4, 1), (1, 0, 2, 1)]
def newP : ByteArray := { data := #[100, 100, 46] }
def newR : Rl := (3, 1, 2, 2, 1)


theorem row_of_block {T size n : Nat} {w : World} {N g : Nat} {raw : List Int} (hh : w.heap[g]? = some (.cells (raw.map (Value.int .i64)).toArray T (0, 0))) (hN : N ≤ g) (hn : n ≤ maxLen) (hs : raw.length = n * size) : OwnZ T size w N (.slice (some ⟨g, 0, none⟩) n n) n raw :=
  ⟨by simpa using hs, .inr ⟨g, n, _, rfl, hN, hh, Nat.le_refl _, hn, by simpa using hs, by rw [List.take_of_length_le (by simp; omega)]⟩⟩

theorem newDesk_own {w : World} {N gj gc : Nat} (h1 : w.heap[gj]? = some (.cells ((jbRaw newJobs).map (Value.int .i64)).toArray 83 (0, 0))) (h2 : w.heap[gc]? = some (.cells (([2, 1] : List Int).map (Value.int .i64)).toArray 2 (0, 0))) (hj : N ≤ gj) (hc : N ≤ gc) :
    OwnDesk w N w.heap.size (.slice (some ⟨gj, 0, none⟩) 2 2) (.slice (some ⟨gc, 0, none⟩) 2 2) 2 (jbRaw newJobs) [2, 1] := by
  refine ⟨row_of_block h1 hj (by unfold maxLen; omega) rfl, row_of_block (size := 1) h2 hc (by unfold maxLen; omega) rfl, fun k e => ?_, fun k e => ?_⟩
  · have e2 : some gj = some k := e
    injection e2 with e2; subst e2
    exact (Array.getElem?_eq_some_iff.1 h1).1
  · have e2 : some gc = some k := e
    injection e2 with e2; subst e2
    exact (Array.getElem?_eq_some_iff.1 h2).1

set_option maxRecDepth 100000 in
theorem implNewDesk_any (w : World) : Calls Try.prog 16 #[] w fun e w' => (∃ gj gc, e = .returned (deskV (.slice (some ⟨gj, 0, none⟩) 2 2) newR (.slice (some ⟨gc, 0, none⟩) 2 2) newP) ∧ OwnDesk w' w.heap.size w'.heap.size (.slice (some ⟨gj, 0, none⟩) 2 2) (.slice (some ⟨gc, 0, none⟩) 2 2) 2 (jbRaw newJobs) [2, 1]) ∧ Below w.heap.size w w' := by
  unfold deskV
  go_enter Try.func16, Try.ntmps16
  go_wp2
  refine bodyPost_ret (v := .agg #[.slice (some ⟨w.heap.size + 1, 0, none⟩) 2 2, .int .i64 3, .int .i64 1, .int .i64 2, .int .i64 2, .int .i64 1, .slice (some ⟨w.heap.size + 1 + 1, 0, none⟩) 2 2, .string newP]) (by simp [results, Try.results16, go_sem, newP]) rfl ⟨⟨_, _, rfl, newDesk_own ?_ ?_ (by omega) (by omega)⟩, ?_⟩
  · have h := World.alloc_heap_new (w.alloc (.cells #[.slice (some ⟨w.heap.size + 1, 0, none⟩) 2 2, .int .i64 3, .int .i64 1, .int .i64 2, .int .i64 2, .int .i64 1, .slice (some ⟨w.heap.size + 1 + 1, 0, none⟩) 2 2, .string newP] 27)) (.cells ((jbRaw newJobs).map (Value.int .i64)).toArray 83)
    rw [World.size_alloc] at h
    exact (Below.heap_alloc _ _ _ (by simp)).trans h
  · have h := World.alloc_heap_new ((w.alloc (.cells #[.slice (some ⟨w.heap.size + 1, 0, none⟩) 2 2, .int .i64 3, .int .i64 1, .int .i64 2, .int .i64 2, .int .i64 1, .slice (some ⟨w.heap.size + 1 + 1, 0, none⟩) 2 2, .string newP] 27)).alloc (.cells ((jbRaw newJobs).map (Value.int .i64)).toArray 83)) (.cells (([2, 1] : List Int).map (Value.int .i64)).toArray 2)
    rw [World.size_alloc, World.size_alloc] at h
    exact h
  · exact (((Below.refl _ w).alloc (Nat.le_refl _) _).alloc (by simp) _).alloc (by simp; omega) _
set_option maxRecDepth 100000 in
theorem specNewDesk_any (w : World) : Calls Try.prog 15 #[] w fun e w' => (∃ gj gc, e = .returned (deskV (.slice (some ⟨gj, 0, none⟩) 2 2) newR (.slice (some ⟨gc, 0, none⟩) 2 2) newP) ∧ OwnDesk w' w.heap.size w'.heap.size (.slice (some ⟨gj, 0, none⟩) 2 2) (.slice (some ⟨gc, 0, none⟩) 2 2) 2 (jbRaw newJobs) [2, 1]) ∧ Below w.heap.size w w' := by
  unfold deskV
  go_enter Try.func15, Try.ntmps15
  go_wp2
  refine bodyPost_ret (v := .agg #[.slice (some ⟨w.heap.size + 1, 0, none⟩) 2 2, .int .i64 3, .int .i64 1, .int .i64 2, .int .i64 2, .int .i64 1, .slice (some ⟨w.heap.size + 1 + 1 + 1, 0, none⟩) 2 2, .string newP]) (by simp [results, Try.results15, go_sem, newP]) rfl ⟨⟨_, _, rfl, newDesk_own ?_ ?_ (by omega) (by omega)⟩, ?_⟩
  · have h := World.alloc_heap_new (w.alloc (.cells #[.slice (some ⟨w.heap.size + 1, 0, none⟩) 2 2, .int .i64 3, .int .i64 1, .int .i64 2, .int .i64 2, .int .i64 1, .slice (some ⟨w.heap.size + 1 + 1 + 1, 0, none⟩) 2 2, .string newP] 27)) (.cells ((jbRaw newJobs).map (Value.int .i64)).toArray 83)
    rw [World.size_alloc] at h
    exact (Below.heap_alloc _ _ _ (by simp)).trans ((Below.heap_alloc _ _ _ (by simp)).trans h)
  · have h := World.alloc_heap_new (((w.alloc (.cells #[.slice (some ⟨w.heap.size + 1, 0, none⟩) 2 2, .int .i64 3, .int .i64 1, .int .i64 2, .int .i64 2, .int .i64 1, .slice (some ⟨w.heap.size + 1 + 1 + 1, 0, none⟩) 2 2, .string newP] 27)).alloc (.cells ((jbRaw newJobs).map (Value.int .i64)).toArray 83)).alloc (.cells #[.slice (some ⟨w.heap.size + 1, 0, none⟩) 2 2, .int .i64 3, .int .i64 1, .int .i64 2, .int .i64 2, .int .i64 1, .slice (some ⟨w.heap.size + 1 + 1 + 1, 0, none⟩) 2 2, .string newP] 27)) (.cells (([2, 1] : List Int).map (Value.int .i64)).toArray 2)
    rw [World.size_alloc, World.size_alloc, World.size_alloc] at h
    exact h
  · exact ((((Below.refl _ w).alloc (Nat.le_refl _) _).alloc (by simp) _).alloc (by simp; omega) _).alloc (by simp; omega) _

theorem OwnDesk.below {w w' : World} {lo hi : Nat} {vj vc : Value} {n : Nat} {jr cr : List Int} (h : OwnDesk w lo hi vj vc n jr cr) (hb : Below w.heap.size w w') : OwnDesk w' lo hi vj vc n jr cr := ⟨h.j.below hb (Nat.le_refl _), h.c.below hb (Nat.le_refl _), h.hj, h.hc⟩
/-- Another desk's blocks were marked. -/
theorem OwnDesk.grown {w w' : World} {lo hi lo' hi' : Nat} {vj vc uj uc : Value} {n n' : Nat} {jr cr jr' cr' : List Int} (h : OwnDesk w lo hi vj vc n jr cr) (k : OwnDesk w lo' hi' uj uc n' jr' cr') (hg : GrownL (deskBlocks uj uc) w w') (hd : hi ≤ lo' ∨ hi' ≤ lo) : OwnDesk w' lo hi vj vc n jr cr := by
  have far : ∀ (v : Value) (g : Nat), v.ownBlock = some g → lo ≤ g → g < hi → g ∉ deskBlocks uj uc := by
    intro v g hv h1 h2 hm
    unfold deskBlocks at hm
    simp at hm
    rcases hm with hm | hm
    · have := k.j.lt g hm; have := k.hj g hm; omega
    · have := k.c.lt g hm; have := k.hc g hm; omega
  refine ⟨?_, ?_, h.hj, h.hc⟩
  · refine ⟨h.j.1, ?_⟩
    rcases h.j.2 with h1 | ⟨g', cap, cur, h1, h2, h3, r⟩
    · exact .inl h1
    · have hn := far vj g' (by rw [h1]; rfl) h2 (h.hj g' (by rw [h1]; rfl))
      exact .inr ⟨g', cap, cur, h1, h2, (hg.block g' (Array.getElem?_eq_some_iff.1 h3).1 hn).trans h3, r⟩
  · refine ⟨h.c.1, ?_⟩
    rcases h.c.2 with h1 | ⟨g', cap, cur, h1, h2, h3, r⟩
    · exact .inl h1
    · have hn := far vc g' (by rw [h1]; rfl) h2 (h.hc g' (by rw [h1]; rfl))
      exact .inr ⟨g', cap, cur, h1, h2, (hg.block g' (Array.getElem?_eq_some_iff.1 h3).1 hn).trans h3, r⟩
theorem OwnDesk.toBelow {w W W' : World} {lo hi B : Nat} {vj vc : Value} {n : Nat} {jr cr : List Int} (h : OwnDesk W lo hi vj vc n jr cr) (hg : GrownL (deskBlocks vj vc) W W') (hb : Below B w W) (hB : B ≤ W.heap.size) (hlo : B ≤ lo) : Below B w W' :=
  hg.toBelow hb hB (fun i hi hm => by
    unfold deskBlocks at hm
    simp at hm
    rcases hm with hm | hm
    · have := h.j.lt i hm; omega
    · have := h.c.lt i hm; omega)

theorem OwnDesk.alloc {w : World} {lo hi : Nat} {vj vc : Value} {n : Nat} {jr cr : List Int} (h : OwnDesk w lo hi vj vc n jr cr) (o : Obj) : OwnDesk (w.alloc o) lo hi vj vc n jr cr := h.below ((Below.refl _ w).alloc (Nat.le_refl _) o)

/-- A variable that holds a desk. -/
def DBox (W : World) (b : Nat) (cs : Array Value) : Prop := W.heap[b]? = some (.cells cs 27 (0, 0))
theorem DBox.new (W : World) (cs : Array Value) : DBox (W.alloc (.cells cs 27)) W.heap.size cs := World.alloc_heap_new W _
theorem DBox.lt {W : World} {b : Nat} {cs : Array Value} (h : DBox W b cs) : b < W.heap.size := (Array.getElem?_eq_some_iff.1 h).1
theorem DBox.below {W W' : World} {b N : Nat} {cs : Array Value} (h : DBox W b cs) (hb : Below N W W') (hN : b < N) : DBox W' b cs := (hb.block b hN).trans h
theorem DBox.alloc {W : World} {b : Nat} {cs : Array Value} (h : DBox W b cs) (o : Obj) : DBox (W.alloc o) b cs := (Below.heap_alloc _ _ _ h.lt).trans h
theorem DBox.grown {W W' : World} {b : Nat} {gs : List Nat} {cs : Array Value} (h : DBox W b cs) (hg : GrownL gs W W') (hn : b ∉ gs) : DBox W' b cs := (hg.block b h.lt hn).trans h
theorem DBox.cells {W : World} {b : Nat} {x0 x1 x2 x3 x4 x5 x6 x7 : Value} (h : DBox W b #[x0, x1, x2, x3, x4, x5, x6, x7]) : W.cell? ⟨b, 0, none⟩ = some x0 ∧ W.cell? ⟨b, 1, none⟩ = some x1 ∧ W.cell? ⟨b, 2, none⟩ = some x2 ∧ W.cell? ⟨b, 3, none⟩ = some x3 ∧ W.cell? ⟨b, 4, none⟩ = some x4 ∧ W.cell? ⟨b, 5, none⟩ = some x5 ∧ W.cell? ⟨b, 6, none⟩ = some x6 ∧ W.cell? ⟨b, 7, none⟩ = some x7 := by
  unfold DBox at h
  simp [World.cell?, h]
theorem not_deskBlocks {W : World} {lo hi b : Nat} {uj uc : Value} {n : Nat} {jr cr : List Int} (k : OwnDesk W lo hi uj uc n jr cr) (hb : b < lo ∨ hi ≤ b) : b ∉ deskBlocks uj uc := by
  intro hm
  unfold deskBlocks at hm
  simp at hm
  rcases hm with hm | hm
  · have := k.j.lt b hm; have := k.hj b hm; omega
  · have := k.c.lt b hm; have := k.hc b hm; omega

set_option maxRecDepth 100000 in
set_option maxHeartbeats 2000000 in
theorem walkFnExactNewDesk (w : World) : Calls Try.prog 3 #[] w fun e w' => e = .returned (.bool true) ∧ Below w.heap.size w w' := by
  go_enter Try.func3, Try.ntmps3
  go_wp2_with fail
  refine (specNewDesk_any _).mono ?_
  rintro e W1 ⟨⟨wj, wc, rfl, ho1⟩, hb1⟩
  have hs1 := hb1.size
  have HB1 := Lib.hid (hb1.alloc hs1 (.cells #[.slice (some ⟨wj, 0, none⟩) 2 2, .int .i64 3, .int .i64 1, .int .i64 2, .int .i64 2, .int .i64 1, .slice (some ⟨wc, 0, none⟩) 2 2, .string newP] 27))
  have HW1 := Lib.hid (ho1.alloc (.cells #[.slice (some ⟨wj, 0, none⟩) 2 2, .int .i64 3, .int .i64 1, .int .i64 2, .int .i64 2, .int .i64 1, .slice (some ⟨wc, 0, none⟩) 2 2, .string newP] 27))
  have HX1 := Lib.hid (DBox.new W1 #[.slice (some ⟨wj, 0, none⟩) 2 2, .int .i64 3, .int .i64 1, .int .i64 2, .int .i64 2, .int .i64 1, .slice (some ⟨wc, 0, none⟩) 2 2, .string newP])
  clear hb1 ho1
  simp only [deskV, newR]
  go_wp2_with fail
  refine (implNewDesk_any _).mono ?_
  rintro e W2 ⟨⟨gj, gc, rfl, ho2⟩, hb2⟩
  have hs2 : W1.heap.size + 1 ≤ W2.heap.size := by have := hb2.size; simpa using this
  have HB2 := Lib.hid ((HB1.out.trans (hb2.mono (by simp; omega))).alloc (by omega) (.cells #[.slice (some ⟨gj, 0, none⟩) 2 2, .int .i64 3, .int .i64 1, .int .i64 2, .int .i64 2, .int .i64 1, .slice (some ⟨gc, 0, none⟩) 2 2, .string newP] 27))
  have HW2 := Lib.hid ((HW1.out.below hb2).alloc (.cells #[.slice (some ⟨gj, 0, none⟩) 2 2, .int .i64 3, .int .i64 1, .int .i64 2, .int .i64 2, .int .i64 1, .slice (some ⟨gc, 0, none⟩) 2 2, .string newP] 27))
  have HG2 := Lib.hid (ho2.alloc (.cells #[.slice (some ⟨gj, 0, none⟩) 2 2, .int .i64 3, .int .i64 1, .int .i64 2, .int .i64 2, .int .i64 1, .slice (some ⟨gc, 0, none⟩) 2 2, .string newP] 27))
  have HX2 := Lib.hid ((HX1.out.below hb2 (by simp)).alloc (.cells #[.slice (some ⟨gj, 0, none⟩) 2 2, .int .i64 3, .int .i64 1, .int .i64 2, .int .i64 2, .int .i64 1, .slice (some ⟨gc, 0, none⟩) 2 2, .string newP] 27))
  have HY2 := Lib.hid (DBox.new W2 #[.slice (some ⟨gj, 0, none⟩) 2 2, .int .i64 3, .int .i64 1, .int .i64 2, .int .i64 2, .int .i64 1, .slice (some ⟨gc, 0, none⟩) 2 2, .string newP])
  obtain ⟨x0, x1, x2, x3, x4, x5, x6, x7⟩ := HX2.out.cells
  clear hb2 ho2
  simp only [deskV, newR]
  go_wp2_with fail
  refine (eqDesk_same _ _ newJobs newR _ _ [2, 1] newP _ HG2.out.j.jobs HW2.out.j.jobs HG2.out.c.ints HW2.out.c.ints).mono ?_
  rintro e W3 ⟨rfl, hb3⟩
  have hs3 : W2.heap.size + 1 ≤ W3.heap.size := by have := hb3.size; simpa using this
  have HB3 := Lib.hid (HB2.out.trans (hb3.mono (by simp; omega)))
  have HW3 := Lib.hid (HW2.out.below hb3)
  have HG3 := Lib.hid (HG2.out.below hb3)
  have HX3 := Lib.hid (HX2.out.below hb3 (by simp; omega))
  have HY3 := Lib.hid (HY2.out.below hb3 (by simp))
  obtain ⟨y0, y1, y2, y3, y4, y5, y6, y7⟩ := HY3.out.cells
  clear hb3 x0 x1 x2 x3 x4 x5 x6 x7
  go_wp2_with fail
  refine (markDesk_any _ _ newR newP 2 _ _ 1 _ _ _ HG3.out (by omega) (by omega) (by omega) (by simp)).mono ?_
  rintro e W4 ⟨rfl, ho4, hg4⟩
  have hs4 := hg4.size
  have HB4 := Lib.hid (HG3.out.toBelow hg4 HB3.out (by omega) (by simp; omega))
  have HW4 := Lib.hid (HW3.out.grown HG3.out hg4 (by simp))
  have HG4 := Lib.hid ho4
  have HX4 := Lib.hid (HX3.out.grown hg4 (not_deskBlocks HG3.out (by simp)))
  have HY4 := Lib.hid (HY3.out.grown hg4 (not_deskBlocks HG3.out (by simp)))
  clear ho4 hg4 y0 y1 y2 y3 y4 y5 y6 y7
  obtain ⟨y0, y1, y2, y3, y4, y5, y6, y7⟩ := HY4.out.cells
  go_wp2_with fail
  refine (heldDesk_any _ _ newR newP 2 2 1 _ _ _ HG4.out (by omega) (by omega) (by omega) (by omega)).mono ?_
  rintro e W5 ⟨rfl, hb5⟩
  have hs5 := hb5.size
  have HB5 := Lib.hid (HB4.out.trans (hb5.mono (by omega)))
  have HW5 := Lib.hid (HW4.out.below hb5)
  have HG5 := Lib.hid (HG4.out.below hb5)
  have HX5 := Lib.hid (HX4.out.below hb5 (by omega))
  have HY5 := Lib.hid (HY4.out.below hb5 (by omega))
  clear hb5 y0 y1 y2 y3 y4 y5 y6 y7
  go_wp2_with fail
  refine (implNewDesk_any _).mono ?_
  rintro e W6 ⟨⟨hj, hc, rfl, ho6⟩, hb6⟩
  have hs6 := hb6.size
  have HB6 := Lib.hid ((HB5.out.trans (hb6.mono (by omega))).alloc (by omega) (.cells #[.slice (some ⟨hj, 0, none⟩) 2 2, .int .i64 3, .int .i64 1, .int .i64 2, .int .i64 2, .int .i64 1, .slice (some ⟨hc, 0, none⟩) 2 2, .string newP] 27))
  have HW6 := Lib.hid ((HW5.out.below hb6).alloc (.cells #[.slice (some ⟨hj, 0, none⟩) 2 2, .int .i64 3, .int .i64 1, .int .i64 2, .int .i64 2, .int .i64 1, .slice (some ⟨hc, 0, none⟩) 2 2, .string newP] 27))
  have HG6 := Lib.hid ((HG5.out.below hb6).alloc (.cells #[.slice (some ⟨hj, 0, none⟩) 2 2, .int .i64 3, .int .i64 1, .int .i64 2, .int .i64 2, .int .i64 1, .slice (some ⟨hc, 0, none⟩) 2 2, .string newP] 27))
  have HH6 := Lib.hid (ho6.alloc (.cells #[.slice (some ⟨hj, 0, none⟩) 2 2, .int .i64 3, .int .i64 1, .int .i64 2, .int .i64 2, .int .i64 1, .slice (some ⟨hc, 0, none⟩) 2 2, .string newP] 27))
  have HX6 := Lib.hid ((HX5.out.below hb6 (by omega)).alloc (.cells #[.slice (some ⟨hj, 0, none⟩) 2 2, .int .i64 3, .int .i64 1, .int .i64 2, .int .i64 2, .int .i64 1, .slice (some ⟨hc, 0, none⟩) 2 2, .string newP] 27))
  have HY6 := Lib.hid ((HY5.out.below hb6 (by omega)).alloc (.cells #[.slice (some ⟨hj, 0, none⟩) 2 2, .int .i64 3, .int .i64 1, .int .i64 2, .int .i64 2, .int .i64 1, .slice (some ⟨hc, 0, none⟩) 2 2, .string newP] 27))
  clear hb6 ho6
  obtain ⟨x0, x1, x2, x3, x4, x5, x6, x7⟩ := HX6.out.cells
  simp only [deskV, newR]
  go_wp2_with fail
  refine (eqDesk_same _ _ newJobs newR _ _ [2, 1] newP _ HH6.out.j.jobs HW6.out.j.jobs HH6.out.c.ints HW6.out.c.ints).mono ?_
  rintro e W7 ⟨rfl, hb7⟩
  have hs7 : W6.heap.size + 1 ≤ W7.heap.size := by have := hb7.size; simpa using this
  have HB7 := Lib.hid (HB6.out.trans (hb7.mono (by simp; omega)))
  have HG7 := Lib.hid (HG6.out.below hb7)
  have HY7 := Lib.hid (HY6.out.below hb7 (by simp; omega))
  clear hb7 x0 x1 x2 x3 x4 x5 x6 x7
  obtain ⟨y0, y1, y2, y3, y4, y5, y6, y7⟩ := HY7.out.cells
  go_wp2_with fail
  refine (heldDesk_any _ _ newR newP 2 2 1 _ _ _ HG7.out (by omega) (by omega) (by omega) (by omega)).mono ?_
  rintro e W8 ⟨rfl, hb8⟩
  have HB8 := Lib.hid (HB7.out.trans (hb8.mono (by omega)))
  clear hb8 y0 y1 y2 y3 y4 y5 y6 y7
  go_wp2_with fail
  go_ret
  exact ⟨rfl, HB8.out⟩
end Go.Proofs.Ytgllpbmagaelgaa
