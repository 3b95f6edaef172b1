/- The reference's waits of rules; equal rules; KeepsRules, TurnTable. Conditions: numbers in bounds. With texts that it needs. -/
import Derived.Test.YthkakieomoobmaaTablesAll2
import Derived.Test.YthkakieomoobmaaTablesAll1
import Derived.Deep.RegionHeld3
import Derived.Lib.Hide
import Derived.Deep.CutRange
import Derived.Deep.QuietTactic
import Derived.BigQuiet
namespace Go.Proofs.Ythkakieomoobmaa
open Go.RowKit
set_option linter.unusedVariables false
set_option linter.unusedSimpArgs false

/-- A block that holds the numbers of a list. -/
def NumN (w : World) (g : Nat) (xs : List Int) (n : Nat) : Prop := g < w.heap.size ∧ ∀ k, k < n → w.cell? ⟨g, k, none⟩ = some (.int .i64 (nth xs k))
theorem NumN.of_own {w : World} {B g n c : Nat} {xs : List Int} (h : OwnI w B (.slice (some ⟨g, 0, none⟩) n c) xs) (hn : n = xs.length) : NumN w g xs n :=
  ⟨(h.lt g rfl).2, fun k hk => h.at_ hn k (by omega)⟩
theorem NumN.below {w w' : World} {g N n : Nat} {xs : List Int} (h : NumN w g xs n) (hb : Below N w w') (hN : g < N) : NumN w' g xs n :=
  ⟨Nat.lt_of_lt_of_le h.1 hb.size, fun k hk => (hb.cell (p := ⟨g, k, none⟩) hN).trans (h.2 k hk)⟩
/-- The k-th rule. -/
def rlN (rs : List Ru4) (k : Nat) : Ru4 := rs.getD k (0, 0, 0, 0)
theorem rlN_mem {rs : List Ru4} {k : Nat} (h : k < rs.length) : rlN rs k ∈ rs := by unfold rlN; rw [List.getD_eq_getElem?_getD, List.getElem?_eq_getElem h]; exact List.getElem_mem h
/-- A block that holds rules. -/
def RulN (w : World) (g : Nat) (rs : List Ru4) : Prop := g < w.heap.size ∧ ∀ k, k < rs.length → w.cell? ⟨g, k * 4, none⟩ = some (.int .i64 (rlN rs k).1) ∧ w.cell? ⟨g, k * 4 + 1, none⟩ = some (.int .i64 (rlN rs k).2.1) ∧ w.cell? ⟨g, k * 4 + 2, none⟩ = some (.int .i64 (rlN rs k).2.2.1) ∧ w.cell? ⟨g, k * 4 + 3, none⟩ = some (.int .i64 (rlN rs k).2.2.2)
theorem RulN.below {w w' : World} {g N : Nat} {rs : List Ru4} (h : RulN w g rs) (hb : Below N w w') (hN : g < N) : RulN w' g rs :=
  ⟨Nat.lt_of_lt_of_le h.1 hb.size, fun k hk => by
    obtain ⟨h1, h2, h3, h4⟩ := h.2 k hk
    exact ⟨(hb.cell (p := ⟨g, _, none⟩) hN).trans h1, (hb.cell (p := ⟨g, _, none⟩) hN).trans h2, (hb.cell (p := ⟨g, _, none⟩) hN).trans h3, (hb.cell (p := ⟨g, _, none⟩) hN).trans h4⟩⟩
/-- Times in bounds. -/
def TmB (ts : List Int) (n : Nat) : Prop := ∀ k, k < n → 0 ≤ nth ts k ∧ nth ts k ≤ 1000
set_option maxRecDepth 100000 in
set_option maxHeartbeats 1000000 in
theorem ruleWait_any (a b : Nat) (l m p : Int) (g n c : Nat) (ts : List Int) (W : World) (hts : NumN W g ts n) (hn : n ≤ 1000) (ha : a < n) (hb : b < n) (hb1 : TmB ts n) (hl : 0 ≤ l ∧ l ≤ 1000) (hp : 1 ≤ p ∧ p ≤ 1000) :
    Calls Try.prog 49 #[.agg #[.int .i64 (a : Int), .int .i64 (b : Int), .int .i64 l, .int .i64 m], .slice (some ⟨g, 0, none⟩) n c, .int .i64 p] W fun e w' => e = .returned (.int .i64 (wtL p ts ((a : Int), (b : Int), l, m))) ∧ Below W.heap.size W w' := by
  have ca := hts.2 a ha
  have cb := hts.2 b hb
  have ba := hb1 a ha
  have bb := hb1 b hb
  have a0 : (0 : Int) ≤ (a : Int) := Int.natCast_nonneg a
  have a1 : (a : Int) < (n : Int) := by omega
  have b0 : (0 : Int) ≤ (b : Int) := Int.natCast_nonneg b
  have b1 : (b : Int) < (n : Int) := by omega
  have hg := hts.1
  have HV : Hid (wtL p ts ((a : Int), (b : Int), l, m) = l + (nth ts b - nth ts a - l) % p) := rfl
  obtain ⟨x, hx⟩ : ∃ x, nth ts a = x := ⟨_, rfl⟩
  obtain ⟨y, hy⟩ : ∃ y, nth ts b = y := ⟨_, rfl⟩
  rw [hx] at ca ba HV
  rw [hy] at cb bb HV
  have hm1 := Int.emod_nonneg (y - x - l) (by omega : p ≠ 0)
  have hm2 := Int.emod_lt_of_pos (y - x - l) (by omega : 0 < p)
  have w1 : IntKind.i64.wrap (y - x) = y - x := IntWalk.i64_in _ (by omega)
  have w2 : IntKind.i64.wrap (y - x - l) = y - x - l := IntWalk.i64_in _ (by omega)
  obtain ⟨d, hd⟩ : ∃ d, (y - x - l) % p = d := ⟨_, rfl⟩
  have HFM : Hid (∀ W', Calls Try.prog 39 #[.int .i64 (y - x - l), .int .i64 p] W' fun e w' => e = .returned (.int .i64 d) ∧ W' = w') := fun W' => by
    have h := floorMod_any (y - x - l) p W' (by omega) (by omega)
    rw [hd] at h
    exact h
  rw [hd] at HV hm1 hm2
  have w3 : IntKind.i64.wrap (l + d) = l + d := IntWalk.i64_in _ (by omega)
  have HB : Hid (Below W.heap.size W (W.alloc (.cells #[.int .i64 (a : Int), .int .i64 (b : Int), .int .i64 l, .int .i64 m] 43))) := (Below.refl _ W).alloc (Nat.le_refl _) _
  have HK : Hid (Blk (W.alloc (.cells #[.int .i64 (a : Int), .int .i64 (b : Int), .int .i64 l, .int .i64 m] 43)) W.heap.size 43 [.int .i64 (a : Int), .int .i64 (b : Int), .int .i64 l, .int .i64 m]) := Blk.new W _ _
  have c0 := HK.out.cell 0 _ rfl
  have c1 := HK.out.cell 1 _ rfl
  have c2 := HK.out.cell 2 _ rfl
  have ca2 := (HB.out.cell (p := ⟨g, a, none⟩) hg).trans ca
  have cb2 := (HB.out.cell (p := ⟨g, b, none⟩) hg).trans cb
  obtain ⟨W2, hW2⟩ : ∃ W', W.alloc (.cells #[.int .i64 (a : Int), .int .i64 (b : Int), .int .i64 l, .int .i64 m] 43) = W' := ⟨_, rfl⟩
  obtain ⟨S, hS⟩ : ∃ S, W.heap.size = S := ⟨_, rfl⟩
  rw [hW2, hS] at HB
  rw [hW2, hS] at c0 c1 c2
  rw [hW2] at ca2 cb2
  have HW2 := Lib.hid hW2
  have HS := Lib.hid hS
  rw [hS]
  clear hts hb1 ca cb hx hy hd hW2 hS hg HK
  go_enter Try.func49, Try.ntmps49
  go_upto_region 1 with fail
  rw [HW2.out, HS.out]
  go_region_held3 (fun w' => w'.cell? ⟨S, 0, none⟩ = some (.int .i64 (a : Int)) ∧ w'.cell? ⟨S, 1, none⟩ = some (.int .i64 (b : Int)) ∧ w'.cell? ⟨S, 2, none⟩ = some (.int .i64 l) ∧ w'.cell? ⟨g, a, none⟩ = some (.int .i64 x) ∧ w'.cell? ⟨g, b, none⟩ = some (.int .i64 y)) (first | go_keep)
    ((go_at_call 39; refine (HFM.out _).mono ?_; rintro e w' ⟨rfl, rfl⟩))
  go_wp2
  go_ret
  exact ⟨ret_int (by rw [HV.out]), HB.out.drew⟩
end Go.Proofs.Ythkakieomoobmaa

namespace Go.Proofs.Ythkakieomoobmaa
open Go.RowKit Go.BigFrame
set_option linter.unusedVariables false
set_option linter.unusedSimpArgs false

theorem rlRaw_snoc (js : List Jb) (j : Jb) : jbRaw (js ++ [j]) = jbRaw js ++ jbInts j := by unfold jbRaw; rw [List.flatMap_append]; simp
theorem rl_lit (w : World) (B : Nat) (hB : B ≤ w.heap.size) : OwnZ 43 4 (w.alloc (.cells #[] 43)) B (.slice (some ⟨w.heap.size, 0, none⟩) 0 0) 0 [] := by
  have := World.ownsRow_lit (e := 43) (size := 4) w #[] 0 hB (Nat.zero_le _) (by simp)
  simpa [OwnZ] using this
theorem info_rule : (Try.prog.info? 43).map (fun i => (i.zero, i.size, i.bytes)) = some (some (.agg #[.int .i64 0, .int .i64 0, .int .i64 0, .int .i64 0]), 4, 32) := by kernel_rfl
/-- 'append(rules, r)' in a plain list. -/
theorem append_rl {ops : Array Oper} {rest : List Oper} {o : Oper} {a : Act} {Q : Exit → Act → World → Prop} {W : World} (hgd : o.guard = none) (s x : Operand)
    (ho : o.op = .call { callee := .builtin .append, args := #[s, x], argTypes := #[25, 25] }) (B : Nat) (v : Value) (n : Nat) (xs : List Int) (b0 b1 b2 b3 : Int)
    (hs : a.eval s = v) (c H : Nat) (hx : a.eval x = .slice (some ⟨H, 0, none⟩) 1 c) (hH : W.heap.size = H) (hown : OwnZ 43 4 W B v n xs) (hB : B ≤ W.heap.size) (hsmall : n ≤ 1048580)
    (hK : ∀ g c w', OwnZ 43 4 w' B (.slice (some ⟨g, 0, none⟩) (n + 1) c) (n + 1) (xs ++ [b0, b1, b2, b3]) → W.grownBy w' v.ownBlock → wpList Try.prog ops Q rest (a.put o.dst (.slice (some ⟨g, 0, none⟩) (n + 1) c)) w') :
    wpList Try.prog ops Q (o :: rest) a (W.alloc (.cells #[.int .i64 b0, .int .i64 b1, .int .i64 b2, .int .i64 b3] 43)) := by
  subst hH
  obtain ⟨i0, hi, hz0, hz1, hz2⟩ := info_parts info_rule
  refine wpList_append_lies _ hgd s x 25 ho B 43 i0 (.agg #[.int .i64 0, .int .i64 0, .int .i64 0, .int .i64 0]) 4 32 Try.underlying25 hi hz0 hz1 hz2 rfl (by decide) v n _ hs (World.ownsRow.alloc hown _) ⟨W.heap.size, 0, none⟩ 1 c [.int .i64 b0, .int .i64 b1, .int .i64 b2, .int .i64 b3] hx rfl (cells_lit W [.int .i64 b0, .int .i64 b1, .int .i64 b2, .int .i64 b3] _) ?_ (by decide) (by unfold maxLen; omega) (by omega) (by simp; omega) (W.heap.size + 1) (by simp) ?_
  · intro u hu
    simp only [List.mem_cons, List.not_mem_nil, or_false] at hu
    rcases hu with rfl | rfl | rfl | rfl <;> rfl
  · intro g cap w' h1 h2 h5 _
    have hg : W.grownBy w' v.ownBlock := ⟨h2.os, h2.tape, h2.output, Nat.le_trans (by show W.heap.size ≤ (W.alloc _).heap.size; simp) h2.size, fun k hk hne => (h2.block k (by show k < (W.alloc _).heap.size; simp; omega) hne).trans (Below.heap_alloc _ _ _ hk)⟩
    refine hK g cap w' ?_ hg
    unfold OwnZ
    rw [List.map_append]
    exact h1
/-- The source, and the rules that are drawn already. -/
structure EnvL (w : World) (g : Nat) (v : Value) (a N gg m c : Nat) (rs : List Ru4) (W : World) : Prop where
  s : Src W g v a
  o : OwnZ 43 4 W N (.slice (some ⟨gg, 0, none⟩) m c) m (jbRaw rs)
  b : GrownL [g] w W
  gn : g < N
  wn : N = w.heap.size
theorem by2L {g : Nat} {A W : World} (h : GrownL [g] A W) : A.grownBy W (some g) := ⟨h.os, h.tape, h.output, h.size, fun k hk hne => h.block k hk (by intro e; simp at e; exact hne (by rw [e]))⟩
theorem srcBy {W W' : World} {g a : Nat} {v : Value} {row : Option Nat} (h : Src W g v a) (hg : W.grownBy W' row) (hne : some g ≠ row) : Src W' g v a := by
  have hb := hg.block g h.lt hne
  have hc : ∀ o, W'.cell? ⟨g, o, none⟩ = W.cell? ⟨g, o, none⟩ := fun o => by simp only [World.cell?, hb]
  have hf : ∀ o, W'.frozen? ⟨g, o, none⟩ = W.frozen? ⟨g, o, none⟩ := fun o => by simp only [World.frozen?, hb]
  exact ⟨(hc _).trans h.c0, (hc _).trans h.c1, by obtain ⟨s, hs⟩ := h.c2; exact ⟨s, (hc _).trans hs⟩, (hf _).trans h.f1, (hf _).trans h.f2⟩
theorem grownSetL (w : World) (p : Addr) (v : Value) : w.grownBy (w.setCell p v) (some p.block) := ⟨rfl, rfl, rfl, by simp [World.setCell], fun k hk hk' => Below.heap_setCell _ _ _ _ (fun e => hk' (by rw [e]))⟩
theorem grownAllocL (W : World) (o : Obj) (row : Option Nat) : W.grownBy (W.alloc o) row := ⟨rfl, rfl, rfl, by simp, fun k hk _ => Below.heap_alloc _ _ _ hk⟩
theorem EnvL.lt {w W : World} {g a N gg m c : Nat} {v : Value} {rs : List Ru4} (h : EnvL w g v a N gg m c rs W) : N ≤ gg ∧ gg < W.heap.size := h.o.lt gg rfl
theorem EnvL.kept {w W W' : World} {g a a' N gg m c : Nat} {v : Value} {rs : List Ru4} {row : Option Nat} (h : EnvL w g v a N gg m c rs W) (hg : W.grownBy W' row) (hr : ∀ j, row = some j → j = g ∨ (N ≤ j ∧ j ≠ gg)) (hs : Src W' g v a') : EnvL w g v a' N gg m c rs W' where
  s := hs
  o := h.o.kept hg (.inr (by rw [ownBlock_slice]; intro e; have := h.lt; have := h.gn; rcases hr gg e.symm with q | q <;> omega))
  b := h.b.grown hg (fun j e => by have := h.wn; rcases hr j e with q | q; exact .inl (by simp [q]); exact .inr (by omega))
  gn := h.gn
  wn := h.wn
theorem EnvL.pick {w W W' : World} {g a a' N gg m c : Nat} {v : Value} {rs : List Ru4} (h : EnvL w g v a N gg m c rs W) (hg : GrownL [g] W W') (hs : Src W' g v a') : EnvL w g v a' N gg m c rs W' :=
  h.kept (by2L hg) (fun j e => .inl (by simpa using e.symm)) hs
theorem EnvL.alloc {w W : World} {g a N gg m c : Nat} {v : Value} {rs : List Ru4} (h : EnvL w g v a N gg m c rs W) (o : Obj) : EnvL w g v a N gg m c rs (W.alloc o) :=
  h.kept (grownAllocL W o none) (fun j e => by cases e) (srcBy h.s (grownAllocL W o none) (by simp))
theorem EnvL.drew {w W : World} {g a N gg m c : Nat} {v : Value} {rs : List Ru4} (h : EnvL w g v a N gg m c rs W) : EnvL w g v a N gg m c rs W.drew :=
  ⟨⟨h.s.c0, h.s.c1, h.s.c2, h.s.f1, h.s.f2⟩, World.ownsRow.drew h.o, h.b.drew, h.gn, h.wn⟩
theorem EnvL.put {w W : World} {g a N gg m c X k : Nat} {v y : Value} {rs : List Ru4} (h : EnvL w g v a N gg m c rs W) (h1 : N ≤ X) (h2 : X ≠ gg) : EnvL w g v a N gg m c rs (W.setCell ⟨X, k, none⟩ y) :=
  h.kept (grownSetL W ⟨X, k, none⟩ y) (fun j e => by cases e; exact .inr ⟨h1, h2⟩) (srcBy h.s (grownSetL W ⟨X, k, none⟩ y) (fun e => by injection e with e; have := h.gn; have e2 : g = X := e; omega))
theorem EnvL.app {w W W' : World} {g a N gg m c g1 c1 : Nat} {v : Value} {rs : List Ru4} {x : Ru4} (h : EnvL w g v a N gg m c rs W) (ho : OwnZ 43 4 W' N (.slice (some ⟨g1, 0, none⟩) (m + 1) c1) (m + 1) (jbRaw rs ++ [x.1, x.2.1, x.2.2.1, x.2.2.2])) (hg : W.grownBy W' (some gg)) : EnvL w g v a N g1 (m + 1) c1 (rs ++ [x]) W' where
  s := srcBy h.s hg (fun e => by injection e with e; have := h.gn; have := h.lt; omega)
  o := by rw [rlRaw_snoc]; exact ho
  b := h.b.grown hg (fun j e => by injection e with e; have := h.wn; have := h.lt; exact .inr (by omega))
  gn := h.gn
  wn := h.wn
def DrR (w : World) (t g N a0 : Nat) (e p : Int) (v vo vn : Value) (wr : World) : Prop :=
  ∃ (n m gg c a : Nat) (rs : List Ru4), vn = .int .i64 n ∧ n ≤ t ∧ vo = .slice (some ⟨gg, 0, none⟩) m c ∧ m + n ≤ t ∧ a + 4 * n ≤ a0 ∧ Hid (m = rs.length ∧ ∀ x ∈ rs, RlOk e p x) ∧ Hid (EnvL w g v a N gg m c rs wr)
end Go.Proofs.Ythkakieomoobmaa

namespace Go.Proofs.Ythkakieomoobmaa
open Go.RowKit Go.BigFrame
set_option linter.unusedVariables false
set_option linter.unusedSimpArgs false

theorem EnvL.rules {w W : World} {g a N gg m c : Nat} {v : Value} {rs : List Ru4} (h : EnvL w g v a N gg m c rs W) (hm : m = rs.length) : RulN W gg rs := by
  subst hm
  have hl := h.lt
  obtain ⟨-, a, c, he, -, hc⟩ := h.o.jobs
  refine ⟨hl.2, fun k hk => ?_⟩
  obtain ⟨b, o, ha, -, hj⟩ := hc k hk
  have ha2 : some (⟨gg, 0, none⟩ : Addr) = a := by injection he
  rw [ha] at ha2
  obtain ⟨rfl, rfl⟩ : gg = b ∧ 0 = o := by injection ha2 with h1; injection h1 with h2 h3; exact ⟨h2, h3⟩
  have er : rlN rs k = rs[k] := by unfold rlN; rw [List.getD_eq_getElem?_getD, List.getElem?_eq_getElem hk]; rfl
  rw [er]
  have j0 := hj 0 (by simp [jbCells])
  have j1 := hj 1 (by simp [jbCells])
  have j2 := hj 2 (by simp [jbCells])
  have j3 := hj 3 (by simp [jbCells])
  simp only [Nat.zero_add, Nat.add_zero] at j0 j1 j2 j3
  exact ⟨j0, j1, j2, j3⟩
theorem toNe {e y0 y1 : Int} (h0 : 0 ≤ y0) (h1 : y0 < e) (h2 : 0 ≤ y1) (h3 : y1 < e - 1) (he : 1 < e) : ∃ D, (y0 + 1 + y1).tmod e = D ∧ 0 ≤ D ∧ D < e ∧ y0 ≠ D := by
  refine ⟨_, rfl, ?_⟩
  rw [Int.tmod_eq_emod_of_nonneg (by omega)]
  have a1 := Int.emod_nonneg (y0 + 1 + y1) (by omega : e ≠ 0)
  have a2 := Int.emod_lt_of_pos (y0 + 1 + y1) (by omega : 0 < e)
  refine ⟨a1, a2, ?_⟩
  by_cases h : y0 + 1 + y1 < e
  · rw [Int.emod_eq_of_lt (by omega) h]; omega
  · rw [show y0 + 1 + y1 = (y0 + 1 + y1 - e) + e by omega, Int.add_emod_right, Int.emod_eq_of_lt (by omega) (by omega)]; omega
/-- What is drawn. -/
def DrQ (w : World) (g : Nat) (v : Value) (e p : Int) (en : Ending) (w' : World) : Prop :=
  ∃ gg c m rs a', en = .returned (.slice (some ⟨gg, 0, none⟩) m c) ∧ EnvL w g v a' w.heap.size gg m c rs w' ∧ m = rs.length ∧ m ≤ 4 ∧ ∀ x ∈ rs, RlOk e p x
set_option maxRecDepth 100000 in
set_option maxHeartbeats 4000000 in
theorem drawRules_any (v : Value) (xs : List Int) (g a : Nat) (e p : Int) (w : World) (hv : ∀ W, GrownL [g] w W → Byts W v xs) (hb : ∀ n ∈ xs, (Lit.int .u8 n).wf = true) (hs : Src w g v a) (ha : a ≤ 549755813888) (he : 1 ≤ e ∧ e ≤ 12) (hp : 1 ≤ p ∧ p ≤ 60) :
    Calls Try.prog 24 #[.pointer (some ⟨g, 0, none⟩), .int .i64 e, .int .i64 p] w fun en w' => DrQ w g v e p en w' := by
  obtain ⟨N, hN⟩ : ∃ N, w.heap.size = N := ⟨_, rfl⟩
  have hgn : g < N := by rw [← hN]; exact hs.lt
  have HPK : Hid (∀ a (m : Int) W, GrownL [g] w W → Src W g v a → a ≤ 1099511627776 → m ≤ 200 → Calls Try.prog 43 #[.pointer (some ⟨g, 0, none⟩), .int .i64 m] W fun e w' => (∃ x : Int, e = .returned (.int .i64 x) ∧ 0 ≤ x ∧ (1 ≤ m → x < m)) ∧ (∃ a', a' ≤ a + 1 ∧ Src w' g v a') ∧ GrownL [g] W w') := fun a m W hW hs ha hn => pick_any v xs g a m W (hv W hW) hb hs ha hn
  have E0 : Hid (EnvL w g v a N N 0 0 [] (w.alloc (.cells #[] 43))) := by
    have ho := rl_lit w N (by omega)
    rw [hN] at ho
    exact ⟨srcBy hs (grownAllocL w _ none) (by simp), ho, (GrownL.refl _ w).alloc _, hgn, hN.symm⟩
  have HP0 := Lib.hid (HPK.out a 5 (w.alloc (.cells #[] 43)) E0.out.b E0.out.s (by omega) (by omega))
  have HN := Lib.hid hN
  clear hv hb hs hgn
  go_enter Try.func24, Try.ntmps24
  go_wp2_with fail
  refine HP0.out.mono ?_
  rintro en W0 ⟨⟨x, rfl, x0, x1⟩, ⟨a1, ha1, hs1⟩, hg1⟩
  have x1 := x1 (by decide)
  obtain ⟨t, ht⟩ : ∃ t : Nat, x = t := ⟨x.toNat, by omega⟩
  subst ht
  have E1 := Lib.hid (E0.out.pick hg1 hs1)
  have HR0 : Hid (DrR w t g N (a + 1 + 4 * t) e p v (.slice (some ⟨N, 0, none⟩) 0 0) (.int .i64 t) W0) := ⟨t, 0, N, 0, a1, [], rfl, Nat.le_refl _, rfl, by omega, by omega, ⟨rfl, fun x hx => by cases hx⟩, E1.out⟩
  clear hs1 hg1 HP0 E0 E1 hN
  go_wp2_with fail
  go_loopw [7, 8] (fun vo vn wr => DrR w t g N (a + 1 + 4 * t) e p v vo vn wr) (fun _ vn _ => (intOf vn).toNat)
  case atStart => exact HR0.out
  case round =>
    obtain ⟨n, m, gg, c, a2, rs, rfl, hnt, rfl, hmn, ha2, HJ, E⟩ := hrel
    clear HR0
    by_cases hgo : 0 < n ∧ 1 < e
    · obtain ⟨hn0, he1⟩ := hgo
      have i1 : (n : Int) > 0 := by omega
      have i2 : e > 1 := he1
      have i3 : decide ((0 : Int) < (n : Int)) = true := decide_eq_true (by omega)
      have i4 : decide (0 < n) = true := decide_eq_true hn0
      have w0 : IntKind.i64.wrap ((n : Int) - 1) = (n : Int) - 1 := IntWalk.i64_in _ (by omega)
      have w1 : IntKind.i64.wrap (e - 1) = e - 1 := IntWalk.i64_in _ (by omega)
      have HP1 := Lib.hid (HPK.out a2 e wr E.out.b E.out.s (by omega) (by omega))
      go_wp2_with fail
      refine HP1.out.mono ?_
      rintro en W1 ⟨⟨y0, rfl, y00, y01⟩, ⟨a3, ha3, hs3⟩, hg3⟩
      have y01 := y01 (by omega)
      have E1 := Lib.hid (E.out.pick hg3 hs3)
      clear hs3 hg3 HP1 E
      have E2 : Hid (EnvL w g v a3 N gg m c rs (W1.alloc (.cells #[.int .i64 y0, .int .i64 0, .int .i64 0, .int .i64 0] 43))) := E1.out.alloc _
      have KX2 : Hid (Blk (W1.alloc (.cells #[.int .i64 y0, .int .i64 0, .int .i64 0, .int .i64 0] 43)) W1.heap.size 43 [.int .i64 y0, .int .i64 0, .int .i64 0, .int .i64 0]) := Blk.new W1 _ _
      have hgx : N ≤ W1.heap.size ∧ W1.heap.size ≠ gg ∧ g < W1.heap.size := by have := E1.out.lt; have := E1.out.gn; omega
      obtain ⟨W2, hW2⟩ : ∃ W, W1.alloc (.cells #[.int .i64 y0, .int .i64 0, .int .i64 0, .int .i64 0] 43) = W := ⟨_, rfl⟩
      obtain ⟨X, hX⟩ : ∃ X, W1.heap.size = X := ⟨_, rfl⟩
      rw [hW2] at E2 KX2
      rw [hX] at KX2 hgx
      have HW2 := Lib.hid hW2
      have HX := Lib.hid hX
      have c0 := KX2.out.cell 0 _ rfl
      have w2 : IntKind.i64.wrap (y0 + 1) = y0 + 1 := IntWalk.i64_in _ (by omega)
      have HP2 := Lib.hid (HPK.out a3 (e - 1) W2.drew E2.out.drew.b E2.out.drew.s (by omega) (by omega))
      clear hW2 hX E1
      go_upto_region 6 with fail
      rw [HW2.out, HX.out]
      go_region_held3 (fun w' => w'.cell? ⟨X, 0, none⟩ = some (.int .i64 y0)) (first | go_keep | exact HK0.out _)
        ((go_at_call 43; refine HP2.out.mono ?_; rintro en W3 ⟨⟨y1, rfl, y10, y11⟩, ⟨a4, ha4, hs4⟩, hg4⟩; have y11 := y11 (by omega); have E3 := Lib.hid (E2.out.drew.pick hg4 hs4); have KX3 := Lib.hid ((KX2.out.drewN 1).grownL hg4 (by simp only [List.mem_singleton]; omega)); have d0 := KX3.out.cell 0 _ rfl; have d1 := KX3.out.cell 1 _ rfl; have f1 := KX3.out.frozen 1; have HK0 : Hid (∀ v, (W3.setCell ⟨X, 1, none⟩ v).cell? ⟨X, 0, none⟩ = some (.int .i64 y0)) := (fun v => (KX3.out.set 1 v).cell 0 _ rfl); have w3 : IntKind.i64.wrap (y0 + 1 + y1) = y0 + 1 + y1 := IntWalk.i64_in _ (by omega); obtain ⟨D, hD, D0, D1, D2⟩ := toNe y00 y01 y10 y11 he1; have he0 : ¬ (e = 0) := (by omega); have w4 : IntKind.i64.wrap D = D := IntWalk.i64_in _ (by omega); clear hs4 hg4))
      have E4 : Hid (EnvL w g v a4 N gg m c rs (W3.setCell ⟨X, 1, none⟩ (.int .i64 D))) := E3.out.put hgx.1 hgx.2.1
      have KX4 : Hid (Blk (W3.setCell ⟨X, 1, none⟩ (.int .i64 D)) X 43 [.int .i64 y0, .int .i64 D, .int .i64 0, .int .i64 0]) := KX3.out.set 1 _
      have HP4 := Lib.hid (HPK.out a4 p _ E4.out.b E4.out.s (by omega) (by omega))
      clear HP2 E2 KX2 c0 d0 d1 f1 E3 KX3 hD w4 he0 w3
      go_wp2_with fail
      refine HP4.out.mono ?_
      rintro en W5 ⟨⟨y2, rfl, y20, y21⟩, ⟨a5, ha5, hs5⟩, hg5⟩
      have y21 := y21 (by omega)
      have E5 := Lib.hid (E4.out.pick hg5 hs5)
      have KX5 := Lib.hid (KX4.out.grownL hg5 (by simp; omega))
      have d2 := KX5.out.cell 2 _ rfl
      have f2 := KX5.out.frozen 2
      have E6 : Hid (EnvL w g v a5 N gg m c rs (W5.setCell ⟨X, 2, none⟩ (.int .i64 y2))) := E5.out.put hgx.1 hgx.2.1
      have KX6 : Hid (Blk (W5.setCell ⟨X, 2, none⟩ (.int .i64 y2)) X 43 [.int .i64 y0, .int .i64 D, .int .i64 y2, .int .i64 0]) := KX5.out.set 2 _
      clear hs5 hg5 HP4 E4 KX4 E5 KX5
      go_upto_region 8 with fail
      obtain ⟨W6, hW6⟩ : ∃ W, W5.setCell ⟨X, 2, none⟩ (.int .i64 y2) = W := ⟨_, rfl⟩
      rw [hW6] at E6 KX6 ⊢
      have HP6 := Lib.hid (HPK.out a5 p W6.drew E6.out.drew.b E6.out.drew.s (by omega) (by omega))
      have e2 := KX6.out.cell 2 _ rfl
      clear hW6 d2 f2
      go_region_held3 (fun w' => w'.cell? ⟨X, 2, none⟩ = some (.int .i64 y2)) (first | go_keep | exact HK2.out _)
        ((go_at_call 43; refine HP6.out.mono ?_; rintro en W7 ⟨⟨y3, rfl, y30, y31⟩, ⟨a7, ha7, hs7⟩, hg7⟩; have y31 := y31 (by omega); have E7 := Lib.hid (E6.out.drew.pick hg7 hs7); have KX7 := Lib.hid ((KX6.out.drewN 1).grownL hg7 (by simp only [List.mem_singleton]; omega)); have g2 := KX7.out.cell 2 _ rfl; have g3 := KX7.out.cell 3 _ rfl; have f3 := KX7.out.frozen 3; have HK2 : Hid (∀ v, (W7.setCell ⟨X, 3, none⟩ v).cell? ⟨X, 2, none⟩ = some (.int .i64 y2)) := (fun v => (KX7.out.set 3 v).cell 2 _ rfl); have w3 : IntKind.i64.wrap (y2 + y3) = y2 + y3 := IntWalk.i64_in _ (by omega); clear hs7 hg7))
      have E8 : Hid (EnvL w g v a7 N gg m c rs (W7.setCell ⟨X, 3, none⟩ (.int .i64 (y2 + y3)))) := E7.out.put hgx.1 hgx.2.1
      have KX8 : Hid (Blk (W7.setCell ⟨X, 3, none⟩ (.int .i64 (y2 + y3))) X 43 [.int .i64 y0, .int .i64 D, .int .i64 y2, .int .i64 (y2 + y3)]) := KX7.out.set 3 _
      clear HP6 E6 KX6 e2 g2 g3 f3 E7 KX7
      go_upto_region 9 with fail
      obtain ⟨W8, hW8⟩ : ∃ W, W7.setCell ⟨X, 3, none⟩ (.int .i64 (y2 + y3)) = W := ⟨_, rfl⟩
      rw [hW8] at E8 KX8 ⊢
      have c0 := KX8.out.cell 0 _ rfl
      have c1 := KX8.out.cell 1 _ rfl
      have c2 := KX8.out.cell 2 _ rfl
      have c3 := KX8.out.cell 3 _ rfl
      have hw8 : N ≤ W8.heap.size := by have := E8.out.lt; omega
      clear hW8
      go_wp2_with (at_builtin; refine append_rl rfl _ _ rfl N (.slice (some ⟨gg, 0, none⟩) m c) m (jbRaw rs) y0 D y2 (y2 + y3) rfl 1 _ rfl rfl E8.out.o hw8 (by omega) ?_; intro g9 c9 w9 ho9 hg9; have E9 : Hid (EnvL w g v a7 N g9 (m + 1) c9 (rs ++ [(y0, D, y2, y2 + y3)]) w9) := E8.out.app ho9 hg9; clear ho9 hg9)
      go_roundw
      case rel => exact ⟨n - 1, m + 1, g9, c9, a7, rs ++ [(y0, D, y2, y2 + y3)], by go_num, by omega, rfl, by omega, by omega, ⟨by rw [List.length_append, HJ.out.1]; rfl, fun z hz => by
        rcases List.mem_append.1 hz with h | h
        · exact HJ.out.2 z h
        · rw [List.mem_singleton] at h
          subst h
          exact ⟨y00, y01, D0, D1, D2, y20, y21, by show y2 ≤ y2 + y3; omega, by show y2 + y3 < y2 + p; omega⟩⟩, E9.out⟩
      case measure => simp [intOf]; omega
    · have HR : Hid (m = rs.length ∧ m ≤ 4 ∧ ∀ x ∈ rs, RlOk e p x) := ⟨HJ.out.1, by omega, HJ.out.2⟩
      have HE : Hid (EnvL w g v a2 w.heap.size gg m c rs wr) := by
        show EnvL _ _ _ _ _ _ _ _ _ _
        rw [HN.out]; exact E.out
      by_cases hn0 : 0 < n
      · have i1 : (n : Int) > 0 := by omega
        have i3 : decide ((0 : Int) < (n : Int)) = true := decide_eq_true (by omega)
        have i4 : decide (0 < n) = true := decide_eq_true hn0
        have i2 : ¬ (e > 1) := fun h => hgo ⟨hn0, h⟩
        clear hgo HJ E
        go_wp2_with fail
        go_ret
        exact ⟨gg, c, m, rs, a2, rfl, HE.out, HR.out⟩
      · have i1 : ¬ ((n : Int) > 0) := by omega
        have i3 : decide ((0 : Int) < (n : Int)) = false := decide_eq_false (by omega)
        have i4 : decide (0 < n) = false := decide_eq_false hn0
        clear hgo HJ E
        go_wp2_with fail
        go_ret
        exact ⟨gg, c, m, rs, a2, rfl, HE.out, HR.out⟩
set_option maxRecDepth 100000 in
set_option maxHeartbeats 1000000 in
theorem B10Rules_any (v : Value) (xs : List Int) (e p : Int) (w : World) (hv : Byts w v xs) (hb : ∀ n ∈ xs, (Lit.int .u8 n).wf = true) (he : 1 ≤ e ∧ e ≤ 12) (hp : 1 ≤ p ∧ p ≤ 60) :
    Calls Try.prog 6 #[v, .int .i64 e, .int .i64 p] w fun en w' => (∃ gg c m, en = .returned (.slice (some ⟨gg, 0, none⟩) m c) ∧ ∃ rs, RulN w' gg rs ∧ m = rs.length ∧ m ≤ 4 ∧ ∀ x ∈ rs, RlOk e p x) ∧ Below w.heap.size w w' := by
  have HFR := Lib.hid (from_any v xs w hv)
  have HDR : Hid (∀ W1, Src W1 w.heap.size v 0 → Below w.heap.size w W1 → Calls Try.prog 24 #[.pointer (some ⟨w.heap.size, 0, none⟩), .int .i64 e, .int .i64 p] W1 fun en w' => DrQ W1 w.heap.size v e p en w') := fun W1 hs hb1 =>
    drawRules_any v xs w.heap.size 0 e p W1 (fun W hW => (hv.below (hW.toBelow hb1 hb1.size (fun i hi => by simp; omega)) (Nat.le_refl _))) hb hs (by omega) he hp
  clear hv hb
  go_enter Try.func6, Try.ntmps6
  go_wp2_with fail
  refine HFR.out.mono ?_
  rintro en W1 ⟨rfl, hs1, hb1, hz1⟩
  have HD1 := Lib.hid (HDR.out W1 hs1 hb1)
  have HB1 := Lib.hid hb1
  clear hs1 hb1 hz1 HFR HDR
  go_wp2_with fail
  refine HD1.out.mono ?_
  rintro en W2 ⟨gg, c, m, rs, a', rfl, hE, hm, hm4, hr⟩
  have HB2 : Hid (Below w.heap.size w W2) := hE.b.toBelow HB1.out HB1.out.size (fun i hi => by simp; omega)
  have HR := Lib.hid (And.intro (hE.rules hm) (And.intro hm (And.intro hm4 hr)))
  clear hE hm hm4 hr HD1
  go_wp2
  go_ret
  exact ⟨⟨gg, c, m, rfl, rs, HR.out⟩, HB2.out⟩
end Go.Proofs.Ythkakieomoobmaa

namespace Go.Proofs.Ythkakieomoobmaa
open Go.RowKit
set_option linter.unusedVariables false
set_option linter.unusedSimpArgs false

/-- What a rule must meet for its wait to be read. -/
def RlB (n : Nat) (r : Ru4) : Prop := ∃ a b : Nat, r.1 = a ∧ r.2.1 = b ∧ a < n ∧ b < n ∧ 0 ≤ r.2.2.1 ∧ r.2.2.1 ≤ 1000
def WtQ (o : Option Int) (e : Ending) : Prop := match o with
  | some s => e = .returned (.tuple #[.int .i64 s, .bool true])
  | none => e = .returned (.tuple #[.int .i64 0, .bool false])
def WtR (p : Int) (ts : List Int) (rs : List Ru4) (W : World) (vs vk : Value) (wr : World) : Prop :=
  ∃ k : Nat, k ≤ rs.length ∧ vk = .int .i64 k ∧ vs = .int .i64 (suTo p ts rs k) ∧ okTo p ts rs k = true ∧ 0 ≤ suTo p ts rs k ∧ suTo p ts rs k ≤ 3000 * k ∧ Below W.heap.size W wr
theorem okTo_succ (p : Int) (ts : List Int) (rs : List Ru4) (k : Nat) : okTo p ts rs (k + 1) = (okTo p ts rs k && decide (wtL p ts (rlN rs k) ≤ (rlN rs k).2.2.2)) := rfl
theorem suTo_succ (p : Int) (ts : List Int) (rs : List Ru4) (k : Nat) : suTo p ts rs (k + 1) = suTo p ts rs k + wtL p ts (rlN rs k) := rfl
theorem wtL_two {p : Int} {ts : List Int} {r : Ru4} (hp : 1 ≤ p ∧ p ≤ 1000) (h : 0 ≤ r.2.2.1 ∧ r.2.2.1 ≤ 1000) : 0 ≤ wtL p ts r ∧ wtL p ts r ≤ 3000 := by
  have h1 := Int.emod_nonneg (nth ts r.2.1.toNat - nth ts r.1.toNat - r.2.2.1) (by omega : p ≠ 0)
  have h2 := Int.emod_lt_of_pos (nth ts r.2.1.toNat - nth ts r.1.toNat - r.2.2.1) (by omega : 0 < p)
  unfold wtL
  omega
set_option maxRecDepth 100000 in
set_option maxHeartbeats 1000000 in
theorem waits_any (p : Int) (gr L cr g n c : Nat) (ts : List Int) (rs : List Ru4) (W : World) (hL : L = rs.length) (hL2 : L ≤ 1000) (hrs : RulN W gr rs) (hts : NumN W g ts n) (hn : n ≤ 1000) (hb1 : TmB ts n) (hr : ∀ r ∈ rs, RlB n r) (hp : 1 ≤ p ∧ p ≤ 1000) :
    Calls Try.prog 38 #[.slice (some ⟨gr, 0, none⟩) L cr, .slice (some ⟨g, 0, none⟩) n c, .int .i64 p] W fun e w' => WtQ (waL p ts rs) e ∧ Below W.heap.size W w' := by
  subst hL
  have HRS := Lib.hid hrs
  have HTS := Lib.hid hts
  have HR := Lib.hid hr
  have HB1 := Lib.hid hb1
  have HWT : Hid (waL p ts rs = if okTo p ts rs rs.length then some (suTo p ts rs rs.length) else none) := rfl
  have HR0 : Hid (WtR p ts rs W (.int .i64 0) (.int .i64 0) W) := ⟨0, Nat.zero_le _, rfl, rfl, rfl, by simp [suTo], by simp [suTo], Below.refl _ _⟩
  clear hrs hts hr hb1
  go_enter Try.func38, Try.ntmps38
  go_wp2_with fail
  go_loopw [8, 14] (fun vs vk wr => WtR p ts rs W vs vk wr) (fun _ vk _ => rs.length - (intOf vk).toNat)
  case atStart => exact HR0.out
  case round =>
    obtain ⟨k, hk, rfl, rfl, hok, hs0, hs1, hb⟩ := hrel
    have HOK := Lib.hid hok
    have HBL := Lib.hid hb
    clear HR0 hok hb
    by_cases hkl : k < rs.length
    · have k0 : (0 : Int) ≤ (k : Int) := Int.natCast_nonneg k
      have k1 : (k : Int) < (rs.length : Int) := Int.ofNat_lt.2 hkl
      obtain ⟨c0, c1, c2, c3⟩ := (HRS.out.below HBL.out HRS.out.1).2 k hkl
      obtain ⟨a, b, ea, eb, hla, hlb, hl0, hl1⟩ := HR.out _ (rlN_mem hkl)
      have hkl2 := Lib.hid hkl
      have hso := okTo_succ p ts rs k
      have hss := suTo_succ p ts rs k
      have hw2 := wtL_two (ts := ts) hp ⟨hl0, hl1⟩
      obtain ⟨l, hl⟩ : ∃ l, (rlN rs k).2.2.1 = l := ⟨_, rfl⟩
      obtain ⟨m, hm⟩ : ∃ m, (rlN rs k).2.2.2 = m := ⟨_, rfl⟩
      have hrk : rlN rs k = ((a : Int), (b : Int), l, m) := by rw [← ea, ← eb, ← hl, ← hm]
      rw [hrk] at c0 c1 c2 c3 hso hss hw2
      rw [hl] at hl0 hl1
      dsimp only at c0 c1 c2 c3 hso
      obtain ⟨x, hx⟩ : ∃ x, wtL p ts ((a : Int), (b : Int), l, m) = x := ⟨_, rfl⟩
      have HCW : Hid (∀ W', Below W.heap.size W W' → Calls Try.prog 49 #[.agg #[.int .i64 (a : Int), .int .i64 (b : Int), .int .i64 l, .int .i64 m], .slice (some ⟨g, 0, none⟩) n c, .int .i64 p] W' fun e w' => e = .returned (.int .i64 x) ∧ Below W'.heap.size W' w') := fun W' hW' => by
        have h := ruleWait_any a b l m p g n c ts W' (HTS.out.below hW' HTS.out.1) hn hla hlb HB1.out ⟨hl0, hl1⟩ hp
        rw [hx] at h
        exact h
      rw [hx] at hso hss hw2
      obtain ⟨s, hs⟩ : ∃ s, suTo p ts rs k = s := ⟨_, rfl⟩
      rw [hs] at hs0 hs1 hss ⊢
      have HSO := Lib.hid hso
      have HSS := Lib.hid hss
      have w1 : IntKind.i64.wrap (s + x) = s + x := IntWalk.i64_in _ (by omega)
      obtain ⟨W2, hW2⟩ : ∃ W', wr.alloc (.cells #[.int .i64 (a : Int), .int .i64 (b : Int), .int .i64 l, .int .i64 m] 43) = W' := ⟨_, rfl⟩
      obtain ⟨B, hB⟩ : ∃ B, wr.heap.size = B := ⟨_, rfl⟩
      have HB2 : Hid (Below W.heap.size W W2) := by show Below _ _ _; rw [← hW2]; exact HBL.out.alloc HBL.out.size _
      have KB : Hid (Blk W2 B 43 [.int .i64 (a : Int), .int .i64 (b : Int), .int .i64 l, .int .i64 m]) := by show Blk _ _ _ _; rw [← hW2, ← hB]; exact Blk.new wr _ _
      have d0 := KB.out.cell 0 _ rfl
      have d1 := KB.out.cell 1 _ rfl
      have d2 := KB.out.cell 2 _ rfl
      have d3 := KB.out.cell 3 _ rfl
      have HW2 := Lib.hid hW2
      have HBB := Lib.hid hB
      have HKL := Lib.hid hkl
      clear hkl hkl2 ea eb hl hm hrk hso hss hx hs hW2 hB
      go_upto_region 5 with fail
      rw [HW2.out, HBB.out]
      go_wp2_with fail
      refine (HCW.out _ HB2.out).mono ?_
      rintro e W3 ⟨rfl, hb3⟩
      have HB3 : Hid (Below W.heap.size W W3) := HB2.out.trans (hb3.mono HB2.out.size)
      have e3 := (KB.out.below hb3 KB.out.lt).cell 3 _ rfl
      clear hb3 d0 d1 d2 d3 KB HB2 HCW
      by_cases hxm : x ≤ m
      · have q1 : ¬ (x > m) := by omega
        go_wp2
        go_roundw
        case rel => exact ⟨k + 1, HKL.out, by go_num, by rw [HSS.out], by rw [HSO.out, HOK.out, decide_eq_true hxm]; rfl, by rw [HSS.out]; omega, by rw [HSS.out]; omega, HB3.out⟩
        case measure => have := HKL.out; simp [intOf]; omega
      · have q1 : x > m := by omega
        have HF : Hid (waL p ts rs = none) := by
          show _ = _
          rw [HWT.out, if_neg]
          have h1 : okTo p ts rs (k + 1) = false := by rw [HSO.out, decide_eq_false hxm, Bool.and_false]
          rw [okTo_le HKL.out h1]
          simp
        go_wp2
        go_ret2
        refine ⟨?_, HB3.out⟩
        rw [HF.out]
        rfl
    · have hkl2 : k = rs.length := Nat.le_antisymm hk (Nat.le_of_not_lt hkl)
      subst hkl2
      have k1 : ¬ ((rs.length : Int) < (rs.length : Int)) := Int.lt_irrefl _
      have HF : Hid (waL p ts rs = some (suTo p ts rs rs.length)) := by show _ = _; rw [HWT.out, if_pos HOK.out]
      go_wp2
      go_ret2
      refine ⟨?_, HBL.out⟩
      rw [HF.out]
      rfl
def poL (b : Int) : Nat → Int
  | 0 => 1
  | k + 1 => min 65537 (poL b k * b)
theorem poL_bounds {b : Int} (h : 1 ≤ b) : ∀ k, 1 ≤ poL b k ∧ poL b k ≤ 65537
  | 0 => by simp [poL]
  | k + 1 => by
    obtain ⟨h1, h2⟩ := poL_bounds h k
    have : 1 ≤ poL b k * b := by
      have := Int.mul_le_mul h1 h (by omega) (by omega)
      omega
    unfold poL
    omega
theorem poL_pow {p : Nat} : ∀ k, p ^ k ≤ 65537 → 1 ≤ p → poL p k = ((p ^ k : Nat) : Int)
  | 0, _, _ => rfl
  | k + 1, h, hp => by
    have h0 : p ^ k ≤ p ^ (k + 1) := Nat.pow_le_pow_right hp (by omega)
    rw [poL, poL_pow k (by omega) hp, Nat.pow_succ, Int.natCast_mul]
    rw [Nat.pow_succ] at h
    have : (p ^ k : Int) * (p : Int) ≤ 65537 := by
      have := Int.ofNat_le.2 h
      rw [Int.natCast_mul] at this
      exact this
    exact Int.min_eq_right this
def PoR (b : Int) (n : Nat) (W : World) (vo vk : Value) (wr : World) : Prop := ∃ k : Nat, k ≤ n ∧ vk = .int .i64 k ∧ vo = .int .i64 (poL b k) ∧ wr = W
set_option maxHeartbeats 1000000 in
theorem powered_any (b : Int) (n : Nat) (W : World) (hb : 1 ≤ b ∧ b ≤ 1000) (hn : n ≤ 1000) : Calls Try.prog 44 #[.int .i64 b, .int .i64 (n : Int)] W fun e w' => e = .returned (.int .i64 (poL b n)) ∧ W = w' := by
  go_enter Try.func44, Try.ntmps44
  go_wp2_with fail
  go_loopw [5, 7] (fun vo vk wr => PoR b n W vo vk wr) (fun _ vk _ => n - (intOf vk).toNat)
  case atStart => exact ⟨0, Nat.zero_le _, rfl, rfl, rfl⟩
  case round =>
    obtain ⟨k, hk, rfl, rfl, rfl⟩ := hrel
    by_cases hkn : k < n
    · have k1 : (k : Int) < (n : Int) := Int.ofNat_lt.2 hkn
      obtain ⟨h1, h2⟩ := poL_bounds hb.1 k
      have HS : Hid (poL b (k + 1) = min 65537 (poL b k * b)) := rfl
      obtain ⟨x, hx⟩ : ∃ x, poL b k = x := ⟨_, rfl⟩
      rw [hx] at h1 h2 HS ⊢
      have h3 : 0 ≤ x * b ∧ x * b ≤ 65537 * 1000 := ⟨Int.mul_nonneg (by omega) (by omega), Int.mul_le_mul h2 hb.2 (by omega) (by omega)⟩
      have w1 : IntKind.i64.wrap (x * b) = x * b := IntWalk.i64_in _ (by omega)
      have w2 : IntKind.i64.wrap ((k : Int) + 1) = (k : Int) + 1 := IntWalk.i64_in _ (by omega)
      clear hx
      go_wp2
      go_roundw
      case rel => exact ⟨k + 1, by omega, by go_num, (by rw [HS.out]; first | rfl | (congr 1; omega)), rfl⟩
      case measure => simp [intOf]; omega
    · have hkn2 : k = n := by omega
      subst hkn2
      go_wp2
      go_ret
      exact ⟨rfl, rfl⟩
end Go.Proofs.Ythkakieomoobmaa

namespace Go.Proofs.Ythkakieomoobmaa
open Go.RowKit
set_option linter.unusedVariables false
set_option linter.unusedSimpArgs false

theorem within_yes (n lo hi : Int) (w : World) (h1 : lo ≤ n) (h2 : n ≤ hi) : Calls Try.prog 35 #[.int .i64 n, .int .i64 lo, .int .i64 hi] w fun e w' => e = .returned (.bool true) ∧ w = w' := by
  have h := within_any n lo hi w
  rw [show win n lo hi = true by unfold win; simp [h1, h2]] at h
  exact h
theorem l00In_yes (n lo hi : Int) (w : World) (h1 : lo ≤ n) (h2 : n ≤ hi) : Calls Try.prog 46 #[.int .i64 n, .int .i64 lo, .int .i64 hi] w fun e w' => e = .returned (.bool true) ∧ w = w' := by
  have h := l00In_any n lo hi w
  rw [show win n lo hi = true by unfold win; simp [h1, h2]] at h
  exact h
theorem areEvents_yes (n : Int) (w : World) (h : 1 ≤ n ∧ n ≤ 12) : Calls Try.prog 33 #[.int .i64 n] w fun e w' => e = .returned (.bool true) ∧ w = w' := by
  go_enter Try.func33, Try.ntmps33
  go_wp2_with (go_at_call 35; refine (within_yes _ _ _ _ h.1 h.2).mono ?_; rintro e w' ⟨rfl, rfl⟩)
  go_ret
  exact ⟨rfl, rfl⟩
theorem isPeriod_yes (n : Int) (w : World) (h : 1 ≤ n ∧ n ≤ 60) : Calls Try.prog 34 #[.int .i64 n] w fun e w' => e = .returned (.bool true) ∧ w = w' := by
  go_enter Try.func34, Try.ntmps34
  go_wp2_with (go_at_call 35; refine (within_yes _ _ _ _ h.1 h.2).mono ?_; rintro e w' ⟨rfl, rfl⟩)
  go_ret
  exact ⟨rfl, rfl⟩
theorem l05Nodes_yes (n : Int) (w : World) (h : 1 ≤ n ∧ n ≤ 12) : Calls Try.prog 45 #[.int .i64 n] w fun e w' => e = .returned (.bool true) ∧ w = w' := by
  go_enter Try.func45, Try.ntmps45
  go_wp2_with (go_at_call 46; refine (l00In_yes _ _ _ _ h.1 h.2).mono ?_; rintro e w' ⟨rfl, rfl⟩)
  go_ret
  exact ⟨rfl, rfl⟩
def ArR (n : Nat) (W : World) (vk : Value) (wr : World) : Prop := ∃ k : Nat, k ≤ n ∧ vk = .int .i64 k ∧ Below W.heap.size W wr
set_option maxRecDepth 100000 in
set_option maxHeartbeats 1000000 in
theorem areRules_yes (e p : Int) (gr L cr : Nat) (rs : List Ru4) (W : World) (hL : L = rs.length) (hL2 : L ≤ 32) (hrs : RulN W gr rs) (hr : ∀ r ∈ rs, RlOk e p r) (he : 1 ≤ e ∧ e ≤ 12) (hp : 1 ≤ p ∧ p ≤ 60) :
    Calls Try.prog 12 #[.int .i64 e, .slice (some ⟨gr, 0, none⟩) L cr, .int .i64 p] W fun x w' => x = .returned (.bool true) ∧ Below W.heap.size W w' := by
  subst hL
  have HRS := Lib.hid hrs
  have HR := Lib.hid hr
  have HR0 : Hid (ArR rs.length W (.int .i64 0) W) := ⟨0, Nat.zero_le _, rfl, Below.refl _ _⟩
  have l1 : ¬ ((rs.length : Int) > 32) := by omega
  have hL3 := Lib.hid hL2
  clear hrs hr hL2
  go_enter Try.func12, Try.ntmps12
  go_wp2_with (first
    | (go_at_call 33; refine (areEvents_yes _ _ he).mono ?_; rintro e w' ⟨rfl, rfl⟩)
    | (go_at_call 34; refine (isPeriod_yes _ _ hp).mono ?_; rintro e w' ⟨rfl, rfl⟩))
  go_loopw [24] (fun vk wr => ArR rs.length W vk wr) (fun vk _ => rs.length - (intOf vk).toNat)
  case atStart => exact HR0.out
  case round =>
    obtain ⟨k, hk, rfl, hb⟩ := hrel
    have HBL := Lib.hid hb
    clear HR0 hb
    by_cases hkl : k < rs.length
    · have k0 : (0 : Int) ≤ (k : Int) := Int.natCast_nonneg k
      have k1 : (k : Int) < (rs.length : Int) := Int.ofNat_lt.2 hkl
      obtain ⟨c0, c1, c2, c3⟩ := (HRS.out.below HBL.out HRS.out.1).2 k hkl
      have hok := HR.out _ (rlN_mem hkl)
      obtain ⟨r, hr⟩ : ∃ r, rlN rs k = r := ⟨_, rfl⟩
      rw [hr] at c0 c1 c2 c3 hok
      obtain ⟨a, b, l, m⟩ := r
      obtain ⟨o1, o2, o3, o4, o5, o6, o7, o8, o9⟩ := hok
      dsimp only at c0 c1 c2 c3 o1 o2 o3 o4 o5 o6 o7 o8 o9
      have q1 : (a == b) = false := by simpa using o5
      have w1 : IntKind.i64.wrap (e - 1) = e - 1 := IntWalk.i64_in _ (by omega)
      have w2 : IntKind.i64.wrap (p - 1) = p - 1 := IntWalk.i64_in _ (by omega)
      have w3 : IntKind.i64.wrap (l + p) = l + p := IntWalk.i64_in _ (by omega)
      have w4 : IntKind.i64.wrap (l + p - 1) = l + p - 1 := IntWalk.i64_in _ (by omega)
      obtain ⟨W2, hW2⟩ : ∃ W', wr.alloc (.cells #[.int .i64 a, .int .i64 b, .int .i64 l, .int .i64 m] 43) = W' := ⟨_, rfl⟩
      obtain ⟨B, hB⟩ : ∃ B, wr.heap.size = B := ⟨_, rfl⟩
      have HB2 : Hid (Below W.heap.size W W2) := by show Below _ _ _; rw [← hW2]; exact HBL.out.alloc HBL.out.size _
      have KB : Hid (Blk W2 B 43 [.int .i64 a, .int .i64 b, .int .i64 l, .int .i64 m]) := by show Blk _ _ _ _; rw [← hW2, ← hB]; exact Blk.new wr _ _
      have d0 := KB.out.cell 0 _ rfl
      have d1 := KB.out.cell 1 _ rfl
      have d2 := KB.out.cell 2 _ rfl
      have d3 := KB.out.cell 3 _ rfl
      have HW2 := Lib.hid hW2
      have HBB := Lib.hid hB
      have HKL := Lib.hid hkl
      clear hkl hr hW2 hB
      go_upto_region 6 with fail
      rw [HW2.out, HBB.out]
      go_wp2_with (go_at_call 35; refine (within_yes _ _ _ _ (by omega) (by omega)).mono ?_; rintro e w' ⟨rfl, rfl⟩)
      go_roundw
      case rel => exact ⟨k + 1, HKL.out, by go_num, HB2.out⟩
      case measure => have := HKL.out; simp [intOf]; omega
    · have k1 : ¬ ((k : Int) < (rs.length : Int)) := by omega
      clear hkl hk
      go_wp2
      go_ret
      exact ⟨rfl, HBL.out⟩
def LrR (n : Nat) (W : World) (vk : Value) (wr : World) : Prop := ∃ k q : Nat, k ≤ n ∧ vk = .int .i64 k ∧ wr = W.drewN q
set_option maxRecDepth 100000 in
set_option maxHeartbeats 2000000 in
theorem l05Rules_yes (e p : Int) (gr L cr : Nat) (rs : List Ru4) (W : World) (hL : L = rs.length) (hL2 : L ≤ 32) (hrs : RulN W gr rs) (hr : ∀ r ∈ rs, RlOk e p r) (he : 1 ≤ e ∧ e ≤ 12) (hp : 1 ≤ p ∧ p ≤ 60) :
    Calls Try.prog 27 #[.int .i64 e, .slice (some ⟨gr, 0, none⟩) L cr, .int .i64 p] W fun x w' => x = .returned (.bool true) ∧ Below W.heap.size W w' := by
  subst hL
  have HRS := Lib.hid hrs
  have HR := Lib.hid hr
  have HR0 : Hid (ArR rs.length W (.int .i64 0) W) := ⟨0, Nat.zero_le _, rfl, Below.refl _ _⟩
  have l1 : ¬ ((rs.length : Int) > 32) := by omega
  have hL3 := Lib.hid hL2
  clear hrs hr hL2
  go_enter Try.func27, Try.ntmps27
  go_wp2_with (first
    | (go_at_call 45; refine (l05Nodes_yes _ _ he).mono ?_; rintro e w' ⟨rfl, rfl⟩)
    | (go_at_call 46; refine (l00In_yes _ _ _ _ hp.1 hp.2).mono ?_; rintro e w' ⟨rfl, rfl⟩))
  go_loopw [24] (fun vk wr => ArR rs.length W vk wr) (fun vk _ => rs.length - (intOf vk).toNat)
  case atStart => exact HR0.out
  case round =>
    obtain ⟨k, hk, rfl, hb⟩ := hrel
    have HBL := Lib.hid hb
    clear HR0 hb
    by_cases hkl : k < rs.length
    · have k0 : (0 : Int) ≤ (k : Int) := Int.natCast_nonneg k
      have k1 : (k : Int) < (rs.length : Int) := Int.ofNat_lt.2 hkl
      obtain ⟨c0, c1, c2, c3⟩ := (HRS.out.below HBL.out HRS.out.1).2 k hkl
      have hok := HR.out _ (rlN_mem hkl)
      obtain ⟨r, hr⟩ : ∃ r, rlN rs k = r := ⟨_, rfl⟩
      rw [hr] at c0 c1 c2 c3 hok
      obtain ⟨a, b, l, m⟩ := r
      obtain ⟨o1, o2, o3, o4, o5, o6, o7, o8, o9⟩ := hok
      dsimp only at c0 c1 c2 c3 o1 o2 o3 o4 o5 o6 o7 o8 o9
      have q1 : (a == b) = false := by simpa using o5
      have w1 : IntKind.i64.wrap (e - 1) = e - 1 := IntWalk.i64_in _ (by omega)
      have w2 : IntKind.i64.wrap (p - 1) = p - 1 := IntWalk.i64_in _ (by omega)
      have w3 : IntKind.i64.wrap (l + p) = l + p := IntWalk.i64_in _ (by omega)
      have w4 : IntKind.i64.wrap (l + p - 1) = l + p - 1 := IntWalk.i64_in _ (by omega)
      have HKL := Lib.hid hkl
      clear hkl hr
      go_wp2
      go_quiet ((go_at_call 46; exact quiet_eq (l00In_yes _ _ _ _ (by omega) (by omega))))
      go_wp2
      go_roundw
      case rel => exact ⟨k + 1, HKL.out, by go_num, below_drewN _ HBL.out⟩
      case measure => have := HKL.out; simp [intOf]; omega
    · have k1 : ¬ ((k : Int) < (rs.length : Int)) := by omega
      clear hkl hk
      go_wp2
      go_ret
      exact ⟨rfl, HBL.out⟩
end Go.Proofs.Ythkakieomoobmaa

namespace Go.Proofs.Ythkakieomoobmaa
open Go.RowKit
set_option linter.unusedVariables false
set_option linter.unusedSimpArgs false

set_option maxRecDepth 100000 in
set_option maxHeartbeats 1000000 in
theorem l05Wait_any (a b : Nat) (l m p : Int) (gr o g n c : Nat) (ts : List Int) (W : World) (hr : W.cell? ⟨gr, o, none⟩ = some (.int .i64 (a : Int)) ∧ W.cell? ⟨gr, o + 1, none⟩ = some (.int .i64 (b : Int)) ∧ W.cell? ⟨gr, o + 2, none⟩ = some (.int .i64 l)) (hts : NumN W g ts n) (hn : n ≤ 1000) (ha : a < n) (hb : b < n) (hb1 : TmB ts n) (hl : 0 ≤ l ∧ l ≤ 1000) (hp : 1 ≤ p ∧ p ≤ 1000) :
    Calls Try.prog 48 #[.pointer (some ⟨gr, o, none⟩), .int .i64 p, .slice (some ⟨g, 0, none⟩) n c] W fun e w' => e = .returned (.int .i64 (wtL p ts ((a : Int), (b : Int), l, m))) ∧ Below W.heap.size W w' := by
  obtain ⟨c0, c1, c2⟩ := hr
  have ca := hts.2 a ha
  have cb := hts.2 b hb
  have ba := hb1 a ha
  have bb := hb1 b hb
  have a0 : (0 : Int) ≤ (a : Int) := Int.natCast_nonneg a
  have a1 : (a : Int) < (n : Int) := by omega
  have b0 : (0 : Int) ≤ (b : Int) := Int.natCast_nonneg b
  have b1 : (b : Int) < (n : Int) := by omega
  have HV : Hid (wtL p ts ((a : Int), (b : Int), l, m) = l + (nth ts b - nth ts a - l) % p) := rfl
  obtain ⟨x, hx⟩ : ∃ x, nth ts a = x := ⟨_, rfl⟩
  obtain ⟨y, hy⟩ : ∃ y, nth ts b = y := ⟨_, rfl⟩
  rw [hx] at ca ba HV
  rw [hy] at cb bb HV
  have hm1 := Int.emod_nonneg (y - x - l) (by omega : p ≠ 0)
  have hm2 := Int.emod_lt_of_pos (y - x - l) (by omega : 0 < p)
  have w1 : IntKind.i64.wrap (y - x) = y - x := IntWalk.i64_in _ (by omega)
  have w2 : IntKind.i64.wrap (y - x - l) = y - x - l := IntWalk.i64_in _ (by omega)
  obtain ⟨q, hq⟩ : ∃ q, y - x - l = q := ⟨_, rfl⟩
  have ht := tmod_bounds q (show 0 < p by omega)
  obtain ⟨ht1, ht2⟩ := ht
  have hpz : ¬ p = 0 := by omega
  have hx2 : (q.tmod p + p).tmod p = q % p := by
    rw [Int.tmod_eq_emod_of_nonneg (by omega), Int.tmod_def]
    rw [show q - p * q.tdiv p + p = q + p * (1 - q.tdiv p) by rw [Int.mul_sub]; omega, Int.add_mul_emod_self_left]
  rw [hq] at HV hm1 hm2 w2
  obtain ⟨d, hd⟩ : ∃ d, q % p = d := ⟨_, rfl⟩
  rw [hd] at HV hm1 hm2 hx2
  obtain ⟨u, hu⟩ : ∃ u, q.tmod p = u := ⟨_, rfl⟩
  rw [hu] at ht1 ht2 hx2
  have w3 : IntKind.i64.wrap (l + d) = l + d := IntWalk.i64_in _ (by omega)
  have w4 : IntKind.i64.wrap (u + p) = u + p := IntWalk.i64_in _ (by omega)
  have w5 : IntKind.i64.wrap d = d := IntWalk.i64_in _ (by omega)
  have w6 : IntKind.i64.wrap u = u := IntWalk.i64_in _ (by omega)
  clear hts hb1 hx hy hd
  go_enter Try.func48, Try.ntmps48
  go_wp2
  go_region_held3 (fun w' => w'.cell? ⟨gr, o, none⟩ = some (.int .i64 (a : Int)) ∧ w'.cell? ⟨gr, o + 1, none⟩ = some (.int .i64 (b : Int)) ∧ w'.cell? ⟨gr, o + 2, none⟩ = some (.int .i64 l) ∧ w'.cell? ⟨g, a, none⟩ = some (.int .i64 x) ∧ w'.cell? ⟨g, b, none⟩ = some (.int .i64 y)) (first | go_keep) (fail)
  go_wp2
  go_region_held3 (fun w' => w'.cell? ⟨gr, o + 2, none⟩ = some (.int .i64 l)) (first | go_keep) (fail)
  go_wp2
  go_ret
  exact ⟨ret_int (by rw [HV.out]), ((Below.refl _ W).drew).drew⟩
def LkR (p : Int) (ts : List Int) (rs : List Ru4) (W : World) (vk : Value) (wr : World) : Prop := ∃ k : Nat, k ≤ rs.length ∧ vk = .int .i64 k ∧ okTo p ts rs k = true ∧ Below W.heap.size W wr
set_option maxRecDepth 100000 in
set_option maxHeartbeats 1000000 in
theorem l05Keeps_any (p : Int) (gr L cr g n c : Nat) (ts : List Int) (rs : List Ru4) (W : World) (hL : L = rs.length) (hL2 : L ≤ 1000) (hrs : RulN W gr rs) (hts : NumN W g ts n) (hn : n ≤ 1000) (hb1 : TmB ts n) (hr : ∀ r ∈ rs, RlB n r) (hp : 1 ≤ p ∧ p ≤ 1000) :
    Calls Try.prog 47 #[.slice (some ⟨gr, 0, none⟩) L cr, .int .i64 p, .slice (some ⟨g, 0, none⟩) n c] W fun e w' => e = .returned (.bool (okTo p ts rs rs.length)) ∧ Below W.heap.size W w' := by
  subst hL
  have HRS := Lib.hid hrs
  have HTS := Lib.hid hts
  have HR := Lib.hid hr
  have HB1 := Lib.hid hb1
  have HR0 : Hid (LkR p ts rs W (.int .i64 0) W) := ⟨0, Nat.zero_le _, rfl, rfl, Below.refl _ _⟩
  clear hrs hts hr hb1
  go_enter Try.func47, Try.ntmps47
  go_wp2_with fail
  go_loopw [10] (fun vk wr => LkR p ts rs W vk wr) (fun vk _ => rs.length - (intOf vk).toNat)
  case atStart => exact HR0.out
  case round =>
    obtain ⟨k, hk, rfl, hok, hb⟩ := hrel
    have HOK := Lib.hid hok
    have HBL := Lib.hid hb
    clear HR0 hok hb
    by_cases hkl : k < rs.length
    · have k0 : (0 : Int) ≤ (k : Int) := Int.natCast_nonneg k
      have k1 : (k : Int) < (rs.length : Int) := Int.ofNat_lt.2 hkl
      obtain ⟨c0, c1, c2, c3⟩ := (HRS.out.below HBL.out HRS.out.1).2 k hkl
      obtain ⟨a, b, ea, eb, hla, hlb, hl0, hl1⟩ := HR.out _ (rlN_mem hkl)
      have hso := okTo_succ p ts rs k
      obtain ⟨l, hl⟩ : ∃ l, (rlN rs k).2.2.1 = l := ⟨_, rfl⟩
      obtain ⟨m, hm⟩ : ∃ m, (rlN rs k).2.2.2 = m := ⟨_, rfl⟩
      have hrk : rlN rs k = ((a : Int), (b : Int), l, m) := by rw [← ea, ← eb, ← hl, ← hm]
      rw [hrk] at c0 c1 c2 c3 hso
      rw [hl] at hl0 hl1
      dsimp only at c0 c1 c2 c3 hso
      obtain ⟨x, hx⟩ : ∃ x, wtL p ts ((a : Int), (b : Int), l, m) = x := ⟨_, rfl⟩
      have HCC := Lib.hid (And.intro c0 (And.intro c1 c2))
      have HCW : Hid (∀ W', Below wr.heap.size wr W' → Calls Try.prog 48 #[.pointer (some ⟨gr, k * 4, none⟩), .int .i64 p, .slice (some ⟨g, 0, none⟩) n c] W' fun e w' => e = .returned (.int .i64 x) ∧ Below W'.heap.size W' w') := fun W' hW' => by
        have hg2 := (HRS.out.below HBL.out HRS.out.1).1
        have h := l05Wait_any a b l m p gr (k * 4) g n c ts W' ⟨(hW'.cell (p := ⟨gr, _, none⟩) hg2).trans HCC.out.1, (hW'.cell (p := ⟨gr, _, none⟩) hg2).trans HCC.out.2.1, (hW'.cell (p := ⟨gr, _, none⟩) hg2).trans HCC.out.2.2⟩ ((HTS.out.below HBL.out HTS.out.1).below hW' (HTS.out.below HBL.out HTS.out.1).1) hn hla hlb HB1.out ⟨hl0, hl1⟩ hp
        rw [hx] at h
        exact h
      rw [hx] at hso
      have HSO := Lib.hid hso
      have HKL := Lib.hid hkl
      have hgr := (HRS.out.below HBL.out HRS.out.1).1
      clear hkl ea eb hl hm hrk hso hx c0 c1 c2
      go_wp2
      go_region_held3 (fun w' => w'.cell? ⟨gr, k * 4 + 3, none⟩ = some (.int .i64 m)) (first | go_keep)
        ((go_at_call 48; refine (HCW.out _ (Below.refl _ _).drew).mono ?_; rintro e W3 ⟨rfl, hb3⟩; have hb3' : Below wr.heap.size wr W3 := ⟨hb3.os, hb3.tape, hb3.output, hb3.size, hb3.block⟩; have e3 := (hb3'.cell (p := ⟨gr, k * 4 + 3, none⟩) hgr).trans c3; have HB3 : Hid (Below W.heap.size W W3) := HBL.out.trans (hb3'.mono HBL.out.size); clear hb3 hb3'))
      by_cases hxm : x ≤ m
      · have q1 : ¬ (x > m) := by omega
        go_wp2
        go_roundw
        case rel => exact ⟨k + 1, HKL.out, by go_num, by rw [HSO.out, HOK.out, decide_eq_true hxm]; rfl, HB3.out⟩
        case measure => have := HKL.out; simp [intOf]; omega
      · have q1 : x > m := by omega
        have HF : Hid (okTo p ts rs rs.length = false) := by
          show _ = _
          have h1 : okTo p ts rs (k + 1) = false := by rw [HSO.out, decide_eq_false hxm, Bool.and_false]
          exact okTo_le HKL.out h1
        go_wp2
        go_ret
        exact ⟨ret_bool (by rw [HF.out]), HB3.out⟩
    · have hkl2 : k = rs.length := Nat.le_antisymm hk (Nat.le_of_not_lt hkl)
      subst hkl2
      have k1 : ¬ ((rs.length : Int) < (rs.length : Int)) := Int.lt_irrefl _
      go_wp2
      go_ret
      exact ⟨ret_bool (by rw [HOK.out]), HBL.out⟩
set_option maxRecDepth 100000 in
set_option maxHeartbeats 1000000 in
theorem equalRules_yes (gr L cr : Nat) (rs : List Ru4) (W : World) (hL : L = rs.length) (hL2 : L ≤ 1000) (hrs : RulN W gr rs) :
    Calls Try.prog 36 #[.slice (some ⟨gr, 0, none⟩) L cr, .slice (some ⟨gr, 0, none⟩) L cr] W fun x w' => x = .returned (.bool true) ∧ Below W.heap.size W w' := by
  subst hL
  have HRS := Lib.hid hrs
  have HR0 : Hid (ArR rs.length W (.int .i64 0) W) := ⟨0, Nat.zero_le _, rfl, Below.refl _ _⟩
  clear hrs
  go_enter Try.func36, Try.ntmps36
  go_wp2
  go_loopw [13] (fun vk wr => ArR rs.length W vk wr) (fun vk _ => rs.length - (intOf vk).toNat)
  case atStart => exact HR0.out
  case round =>
    obtain ⟨k, hk, rfl, hb⟩ := hrel
    have HBL := Lib.hid hb
    clear HR0 hb
    by_cases hkl : k < rs.length
    · have k0 : (0 : Int) ≤ (k : Int) := Int.natCast_nonneg k
      have k1 : (k : Int) < (rs.length : Int) := Int.ofNat_lt.2 hkl
      obtain ⟨c0, c1, c2, c3⟩ := (HRS.out.below HBL.out HRS.out.1).2 k hkl
      obtain ⟨r, hr⟩ : ∃ r, rlN rs k = r := ⟨_, rfl⟩
      rw [hr] at c0 c1 c2 c3
      obtain ⟨a, b, l, m⟩ := r
      dsimp only at c0 c1 c2 c3
      have HKL := Lib.hid hkl
      clear hkl hr
      go_wp2
      go_quiet (fail)
      go_wp2
      go_roundw
      case rel => exact ⟨k + 1, HKL.out, by go_num, below_drewN _ HBL.out⟩
      case measure => have := HKL.out; simp [intOf]; omega
    · have k1 : ¬ ((k : Int) < (rs.length : Int)) := by omega
      clear hkl hk
      go_wp2
      go_ret
      exact ⟨rfl, HBL.out⟩
theorem sameRules_yes (gr L cr : Nat) (rs : List Ru4) (W : World) (hL : L = rs.length) (hL2 : L ≤ 1000) (hrs : RulN W gr rs) :
    Calls Try.prog 13 #[.slice (some ⟨gr, 0, none⟩) L cr, .slice (some ⟨gr, 0, none⟩) L cr] W fun x w' => x = .returned (.bool true) ∧ Below W.heap.size W w' := by
  have HE := Lib.hid (equalRules_yes gr L cr rs W hL hL2 hrs)
  clear hrs hL hL2
  go_enter Try.func13, Try.ntmps13
  go_wp2_with (go_at_call 36; refine HE.out.mono ?_; rintro e W1 ⟨rfl, hb1⟩)
  go_ret
  exact ⟨rfl, hb1⟩
theorem areTableTimes_yes (v : Value) (ts : List Int) (p : Int) (W : World) (hv : Ints W v ts) (hl : 1 ≤ ts.length ∧ ts.length ≤ 12) (hb : ∀ x ∈ ts, 0 ≤ x ∧ x < p) (hp : 1 ≤ p ∧ p ≤ 60) :
    Calls Try.prog 37 #[v, .int .i64 p] W fun x w' => x = .returned (.bool true) ∧ W = w' := by
  have w1 : IntKind.i64.wrap (p - 1) = p - 1 := IntWalk.i64_in _ (by omega)
  have HAM : Hid (Calls Try.prog 42 #[v, .int .i64 1, .int .i64 12, .int .i64 0, .int .i64 (p - 1)] W fun e w' => e = .returned (.bool true) ∧ W = w') := by
    have h := areMany_any v ts 1 12 0 (p - 1) W hv
    have e1 : many ts 1 12 0 (p - 1) = true := by
      rw [many_true]
      refine ⟨by omega, by omega, ?_⟩
      rw [List.all_eq_true]
      intro x hx
      have := hb x hx
      unfold win
      simp
      omega
    rw [e1] at h
    exact h
  clear hv hl hb
  go_enter Try.func37, Try.ntmps37
  go_wp2_with (first
    | (go_at_call 34; refine (isPeriod_yes _ _ hp).mono ?_; rintro e w' ⟨rfl, rfl⟩)
    | (go_at_call 42; refine HAM.out.mono ?_; rintro e w' ⟨rfl, rfl⟩))
  go_ret
  exact ⟨rfl, rfl⟩
end Go.Proofs.Ythkakieomoobmaa
