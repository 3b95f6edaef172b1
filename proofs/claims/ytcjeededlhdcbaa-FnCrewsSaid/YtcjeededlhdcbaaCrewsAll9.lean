/- impl.earliest, impl.lastEnd: their contracts. Conditions: small numbers. With texts that it needs. -/
import Derived.Test.YtcjeededlhdcbaaCrewsAll6
import Derived.Test.YtcjeededlhdcbaaCrewsAll1
import Derived.Test.YtcjeededlhdcbaaCrewsAll5
import Derived.Laws.BitsLemmas
import Derived.Test.YtcjeededlhdcbaaCrewsAll8
import Derived.Test.YtcjeededlhdcbaaCrewsAll3
import Derived.Test.YtcjeededlhdcbaaCrewsAll2
namespace Go.Proofs.Ytcjeededlhdcbaa
open Go.RowKit
set_option linter.unusedVariables false
set_option linter.unusedSimpArgs false

/-- 'append(s, y, ..)' where the region draws its order; the new slice lies in the old block or in a new one. -/
theorem step_append_i64L {ops : Array Oper} {o : Oper} {a : Act} {K : Act → World → Prop} {Q : Exit → Act → World → Prop} {E : Prop} {W : World} (hgd : o.guard = none) (s x : Operand)
    (ho : o.op = .call { callee := .builtin .append, args := #[s, x], argTypes := #[27, 27] }) (B : Nat) (v : Value) (xs ys : List Int) (hy : 0 < ys.length)
    (hs : a.eval s = v) (c : Nat) (hx : a.eval x = .slice (some ⟨W.heap.size, 0, none⟩) ys.length c) (hown : OwnI W B v xs) (hB : B ≤ W.heap.size) (hsmall : xs.length + ys.length ≤ 1099511627776)
    (hK : ∀ g c w', OwnI w' B (.slice (some ⟨g, 0, none⟩) (xs.length + ys.length) c) (xs ++ ys) → W.grownBy w' v.ownBlock → (v.ownBlock = some g ∨ W.heap.size ≤ g) → K (a.put o.dst (.slice (some ⟨g, 0, none⟩) (xs.length + ys.length) c)) w') :
    if Region.wanted o (yielded ops a.tmps) = true then Oper.wp Try.prog o a (W.alloc (.cells (ys.map (Value.int .i64)).toArray 2)).drew K Q else E := by
  obtain ⟨i0, hi, hz0, hz1, hz2⟩ := info_parts info_i64
  have hown' : (W.alloc (.cells (ys.map (Value.int .i64)).toArray 2)).drew.ownsRow B 2 1 v xs.length (xs.map (Value.int .i64)) := World.ownsRow.drew (World.ownsRow.alloc hown _)
  refine step_append_lies _ hgd s x 27 ho B 2 i0 (.int .i64 0) 1 8 Try.underlying27 hi hz0 hz1 hz2 rfl (by decide) v xs.length _ hs hown' ⟨W.heap.size, 0, none⟩ ys.length c (ys.map (Value.int .i64)) hx (by simp) (cells_lit W _ _) ?_ hy (by unfold maxLen; omega) (by omega) (by simp; omega) (W.heap.size + 1) (by simp) ?_
  · intro u hu; obtain ⟨y, _, rfl⟩ := List.mem_map.1 hu; rfl
  · intro g cap w' h1 h2 h5 _
    have h2' : (W.alloc (.cells (ys.map (Value.int .i64)).toArray 2)).grownBy w' v.ownBlock := ⟨h2.os, h2.tape, h2.output, h2.size, h2.block⟩
    obtain ⟨g', c', he, h3, h4⟩ := app_shape hy hown h1 h2'
    obtain ⟨rfl, rfl⟩ : g = g' ∧ cap = c' := by simpa using he
    exact hK g cap w' h3 h4 (h5.imp id (fun e => by omega))
/-- .. in a plain list. -/
theorem append_i64L {ops : Array Oper} {rest : List Oper} {o : Oper} {a : Act} {Q : Exit → Act → World → Prop} {W : World} (hgd : o.guard = none) (s x : Operand)
    (ho : o.op = .call { callee := .builtin .append, args := #[s, x], argTypes := #[27, 27] }) (B : Nat) (v : Value) (xs ys : List Int) (hy : 0 < ys.length)
    (hs : a.eval s = v) (c : Nat) (hx : a.eval x = .slice (some ⟨W.heap.size, 0, none⟩) ys.length c) (hown : OwnI W B v xs) (hB : B ≤ W.heap.size) (hsmall : xs.length + ys.length ≤ 1099511627776)
    (hK : ∀ g c w', OwnI w' B (.slice (some ⟨g, 0, none⟩) (xs.length + ys.length) c) (xs ++ ys) → W.grownBy w' v.ownBlock → (v.ownBlock = some g ∨ W.heap.size ≤ g) → wpList Try.prog ops Q rest (a.put o.dst (.slice (some ⟨g, 0, none⟩) (xs.length + ys.length) c)) w') :
    wpList Try.prog ops Q (o :: rest) a (W.alloc (.cells (ys.map (Value.int .i64)).toArray 2)) := by
  obtain ⟨i0, hi, hz0, hz1, hz2⟩ := info_parts info_i64
  refine wpList_append_lies _ hgd s x 27 ho B 2 i0 (.int .i64 0) 1 8 Try.underlying27 hi hz0 hz1 hz2 rfl (by decide) v xs.length _ hs (World.ownsRow.alloc hown _) ⟨W.heap.size, 0, none⟩ ys.length c (ys.map (Value.int .i64)) hx (by simp) (cells_lit W _ _) ?_ hy (by unfold maxLen; omega) (by omega) (by simp; omega) (W.heap.size + 1) (by simp) ?_
  · intro u hu; obtain ⟨y, _, rfl⟩ := List.mem_map.1 hu; rfl
  · intro g cap w' h1 h2 h5 _
    obtain ⟨g', c', he, h3, h4⟩ := app_shape hy hown h1 h2
    obtain ⟨rfl, rfl⟩ : g = g' ∧ cap = c' := by simpa using he
    exact hK g cap w' h3 h4 (h5.imp id (fun e => by omega))
/-- A row of the call's own, cut to its first n elements. -/
theorem OwnI.cut {w : World} {B g n c : Nat} {xs : List Int} (h : OwnI w B (.slice (some ⟨g, 0, none⟩) n c) xs) (k : Nat) (hk : k ≤ xs.length) (hn : n = xs.length) : OwnI w B (.slice (some ⟨g, 0, none⟩) k c) (xs.take k) := by
  subst hn
  refine ⟨by simp, ?_⟩
  rcases h.2 with ⟨h1, _⟩ | ⟨g', cap, cur, h1, h2, h3, h4, h5, h6, h7⟩
  · cases h1
  · obtain ⟨rfl, rfl⟩ : g = g' ∧ c = cap := by simpa using h1
    have hl : (xs.take k).length = k := by simp; omega
    refine .inr ⟨g, c, cur, by rw [hl], h2, h3, by rw [hl]; omega, h5, h6, ?_⟩
    rw [hl, List.map_take, ← h7, List.take_take]
    congr 1; omega
end Go.Proofs.Ytcjeededlhdcbaa

namespace Go.Proofs.Ytcjeededlhdcbaa
open Go.RowKit
set_option linter.unusedVariables false
set_option linter.unusedSimpArgs false

theorem sl_nil (p : Addr) (n c : Nat) (W : World) : (binOp .eql 27 (.slice (some p) n c) (.slice none 0 0)).run Try.prog W = .ok (.bool false) W := by kernel_rfl

theorem clone_any (v : Value) (xs : List Int) (w : World) (hv : Ints w v xs) (h0 : 0 < xs.length) (hl : xs.length ≤ 1048576) :
    Calls Try.prog 101 #[v] w fun e w' => (∃ g c, e = .returned (.slice (some ⟨g, 0, none⟩) xs.length c) ∧ OwnI w' w.heap.size (.slice (some ⟨g, 0, none⟩) xs.length c) xs) ∧ Below w.heap.size w w' := by
  obtain ⟨hm, a, c, rfl, hcap, hc⟩ := hv
  obtain ⟨b, o, ha0, hbs, hcs⟩ := row_at hc
  obtain rfl := ha0 h0
  have hbs := hbs h0
  have ho : OwnI (w.alloc (.cells #[] 2)) w.heap.size (.slice (some ⟨w.heap.size, 0, none⟩) 0 0) [] := OwnI.lit w w.heap.size [] (Nat.le_refl _) (by unfold maxLen; simp)
  have hB : Below w.heap.size w (w.alloc (.cells #[] 2)) := (Below.refl _ w).alloc (Nat.le_refl _) _
  have hcs' : ∀ i (h : i < xs.length), (w.alloc (.cells #[] 2)).cell? ⟨b, o + i, none⟩ = some (.int .i64 xs[i]) := fun i h => (hB.cell (p := ⟨b, o + i, none⟩) hbs).trans (hcs i h)
  have HO := Lib.hid ho
  have HB := Lib.hid hB
  have HCS := Lib.hid hcs'
  clear hc hcs hcs' ho hB ha0
  have hsn := sl_nil
  go_enter Try.func101, Try.ntmps101
  go_wp2_with (at_builtin; refine append_from rfl _ _ rfl w.heap.size (.slice (some ⟨w.heap.size, 0, none⟩) 0 0) [] xs h0 rfl b o c rfl HCS.out HO.out (by simp) (by simp; omega) ?_; intro g1 c1 w1 ho1 hg1; have hb1 := Below.app (hB := by simp) (HB.out.trans (Below.refl _ _)) HO.out hg1; have Ho1 := Lib.hid ho1; have Hb1 := Lib.hid hb1; clear ho1 hg1 hb1)
  go_ret
  have h1 := Ho1.out
  simp at h1
  exact ⟨⟨g1, c1, rfl, h1⟩, Hb1.out⟩
end Go.Proofs.Ytcjeededlhdcbaa

namespace Go.Proofs.Ytcjeededlhdcbaa
open Go.RowKit Go.Shelf
set_option linter.unusedVariables false
set_option linter.unusedSimpArgs false

/-- Box b holds a slice that owns its cells, and these are ys. -/
def OwnBox (W : World) (b N : Nat) (ys : List Int) : Prop := ∃ g c, Boxed W b 27 (.slice (some ⟨g, 0, none⟩) ys.length c) ∧ OwnI W N (.slice (some ⟨g, 0, none⟩) ys.length c) ys

theorem ownFrom_ownBox {β : Type} (B b N : Nat) (f : β → List Int) : OwnFrom B (fun s W => OwnBox W b N (f s)) := by
  rintro s W W' row ⟨g, c, h1, h2⟩ hg hr
  refine ⟨g, c, (ownFrom_boxed B b _ (fun (_ : β) => Value.slice (some ⟨g, 0, none⟩) (f s).length c)) s W W' row h1 hg hr, h2.kept hg (.inr ?_)⟩
  intro e
  obtain ⟨_, o, ho, hc⟩ := hr g e.symm
  obtain ⟨cur, hcur⟩ := h2.block
  rw [ho] at hcur
  cases hcur
  cases hc


theorem ownFrom_sz {β : Type} (B n : Nat) : OwnFrom B (fun (_ : β) W => n ≤ W.heap.size) := fun s W W' row hs hg hr => Nat.le_trans hs hg.size

end Go.Proofs.Ytcjeededlhdcbaa

namespace Go.Proofs.Ytcjeededlhdcbaa
open Go.RowKit Go.Shelf
set_option linter.unusedVariables false
set_option linter.unusedSimpArgs false

theorem GrownL.keep2 {gs : List Nat} {A W : World} (h : GrownL gs A W) {Bs Bn : Nat} (h1 : Bs < A.heap.size) (h2 : Bn < A.heap.size) (n1 : Bs ∉ gs) (n2 : Bn ∉ gs) : Keep2 Bs Bn A W := ⟨h.block _ h1 n1, h.block _ h2 n2⟩
theorem GrownL.keepsFrom {gs : List Nat} {A W : World} (h : GrownL gs A W) {B : Nat} (hB : ∀ i, B ≤ i → i ∉ gs) : KeepsFrom B A W :=
  ⟨h.size, fun k o hk ho _ => (h.block k (Array.getElem?_eq_some_iff.1 ho).1 (hB k hk)).trans ho⟩
theorem ownFrom_grownL {β : Type} {B : Nat} {gs : List Nat} {A : World} (hA : A.heap.size ≤ B) : OwnFrom B (fun (_ : β) W => GrownL gs A W) :=
  fun s W W' row hs hg hr => hs.grown hg (fun j e => .inr (by have := (hr j e).1; omega))
theorem ownFrom_ownI {β : Type} {B N g n c : Nat} (f : β → List Int) : OwnFrom B (fun s W => OwnI W N (.slice (some ⟨g, 0, none⟩) n c) (f s)) := by
  intro s W W' row h2 hg hr
  refine h2.kept hg (.inr ?_)
  intro e
  obtain ⟨_, o, ho, hc⟩ := hr g e.symm
  obtain ⟨cur, hcur⟩ := h2.block
  rw [ho] at hcur
  cases hcur
  cases hc
end Go.Proofs.Ytcjeededlhdcbaa

namespace Go.Proofs.Ytcjeededlhdcbaa
open Go.RowKit Go.Shelf Go.BigFrame
set_option linter.unusedVariables false
set_option linter.unusedSimpArgs false
attribute [local go_sem] Oper.semAt_some

/-- At g lies a source over the bytes v, of which a choices have been made. -/
structure Src (W : World) (g : Nat) (v : Value) (a : Nat) : Prop where
  c0 : W.cell? ⟨g, 0, none⟩ = some v
  c1 : W.cell? ⟨g, 1, none⟩ = some (.int .i64 a)
  c2 : ∃ s : Int, W.cell? ⟨g, 2, none⟩ = some (.int .u64 s)
  f1 : W.frozen? ⟨g, 1, none⟩ = false
  f2 : W.frozen? ⟨g, 2, none⟩ = false
theorem Src.lt {W : World} {g : Nat} {v : Value} {a : Nat} (h : Src W g v a) : g < W.heap.size := lt_of_cell h.c0
theorem Src.grown {W W' : World} {g : Nat} {v : Value} {a : Nat} {L : List Nat} (h : Src W g v a) (hg : GrownL L W W') (hn : g ∉ L) : Src W' g v a := by
  have hb := hg.block g h.lt hn
  have hc : ∀ o, W'.cell? ⟨g, o, none⟩ = W.cell? ⟨g, o, none⟩ := fun o => by simp only [World.cell?, hb]
  have hf : ∀ o, W'.frozen? ⟨g, o, none⟩ = W.frozen? ⟨g, o, none⟩ := fun o => by simp only [World.frozen?, hb]
  exact ⟨(hc _).trans h.c0, (hc _).trans h.c1, by obtain ⟨s, hs⟩ := h.c2; exact ⟨s, (hc _).trans hs⟩, (hf _).trans h.f1, (hf _).trans h.f2⟩

theorem and255 (s : Int) : 0 ≤ bits .and .u64 (IntKind.u64.wrap s / 1099511627776) 255 ∧ bits .and .u64 (IntKind.u64.wrap s / 1099511627776) 255 ≤ 255 := by
  have hw : IntKind.u64.wrap s = s % 18446744073709551616 := by simp [IntKind.wrap, IntKind.bits, IntKind.signed]
  obtain ⟨n, hn⟩ : ∃ n : Nat, IntKind.u64.wrap s / 1099511627776 = n := ⟨(IntKind.u64.wrap s / 1099511627776).toNat, by rw [hw]; omega⟩
  have hlt : n < 2 ^ 32 := by rw [hw] at hn; omega
  have h1 := (bits_nat .u64 32 (by decide) (fun m h0 h1 => by rw [show IntKind.u64.wrap m = m % 18446744073709551616 by simp [IntKind.wrap, IntKind.bits, IntKind.signed]]; omega) n 255 hlt (by decide)).1
  have h2 : ((255 : Nat) : Int) = 255 := rfl
  rw [h2] at h1
  rw [hn, h1]
  have := Nat.and_le_right (n := n) (m := 255)
  omega

theorem Src.drewN {w : World} {g a : Nat} {v : Value} (h : Src w g v a) (q : Nat) : Src (w.drewN q) g v a := by
  have hc : ∀ p, (w.drewN q).cell? p = w.cell? p := fun _ => rfl
  have hf : ∀ p, (w.drewN q).frozen? p = w.frozen? p := fun _ => rfl
  exact ⟨h.c0, h.c1, h.c2, h.f1, h.f2⟩
/-- What one choice leaves of the source. -/
theorem Src.next {w : World} {g a : Nat} {v : Value} (hs : Src w g v a) (s : Int) (p q : Nat) : Src ((((w.drewN p).setCell ⟨g, 1, none⟩ (.int .i64 ((a : Int) + 1))).setCell ⟨g, 2, none⟩ (.int .u64 s)).drewN q) g v (a + 1) ∧ GrownL [g] w ((((w.drewN p).setCell ⟨g, 1, none⟩ (.int .i64 ((a : Int) + 1))).setCell ⟨g, 2, none⟩ (.int .u64 s)).drewN q) := by
  have hs' := hs.drewN p
  obtain ⟨W, hW⟩ : ∃ W, w.drewN p = W := ⟨_, rfl⟩
  have hg : GrownL [g] w W := by rw [← hW]; exact (GrownL.refl [g] w).drewN p
  rw [hW] at hs' ⊢
  have c0 := hs'.c0
  have c1 := hs'.c1
  obtain ⟨s0, c2⟩ := hs'.c2
  have f1 := hs'.f1
  have f2 := hs'.f2
  refine ⟨Src.drewN ⟨?_, ?_, ⟨s, ?_⟩, ?_, ?_⟩ q, ((hg.setCell _ _ (.inl (by simp))).setCell _ _ (.inl (by simp))).drewN q⟩
  all_goals simp [go_sem, c0, c1, c2, f1, f2]

set_option maxHeartbeats 1000000 in
theorem next_any (v : Value) (xs : List Int) (g a : Nat) (w : World) (hv : Byts w v xs) (hb : ∀ n ∈ xs, (Lit.int .u8 n).wf = true) (hs : Src w g v a) (ha : a ≤ 1099511627776) :
    Calls Try.prog 130 #[.pointer (some ⟨g, 0, none⟩)] w fun e w' => (∃ x : Int, e = .returned (.int .i64 x) ∧ 0 ≤ x ∧ x ≤ 255) ∧ Src w' g v (a + 1) ∧ GrownL [g] w w' := by
  obtain ⟨hm, ad, c, rfl, hcap, hc⟩ := hv
  have c0 := hs.c0
  have c1 := hs.c1
  obtain ⟨s, c2⟩ := hs.c2
  have f1 := hs.f1
  have f2 := hs.f2
  have HC := Lib.hid hc
  unfold maxLen at hm
  clear hc
  go_enter Try.func130, Try.ntmps130
  have HN := Lib.hid (fun s p q => hs.next s p q)
  clear hs
  by_cases hlt : a < xs.length
  · obtain ⟨b, off, rfl, hbl, h1⟩ := HC.out a hlt
    have hlt' : (a : Int) < (xs.length : Int) := by omega
    have i0 : (0 : Int) ≤ (a : Int) := by omega
    have hx := wf_u8_iff.1 (hb _ (List.getElem_mem hlt))
    obtain ⟨x, hx'⟩ : ∃ x, xs[a] = x := ⟨_, rfl⟩
    rw [hx'] at hx h1
    have hw : wrap64 x = x := IntWalk.wrap64_in _ ⟨by omega, by omega⟩
    go_wp2
    go_quiet (fail)
    go_wp2
    go_quiet (fail)
    go_wp2
    go_quiet (fail)
    go_wp2
    go_ret
    exact ⟨⟨x, rfl, hx.1, hx.2⟩, HN.out _ _ _⟩
  · have hlt' : ¬ (a : Int) < (xs.length : Int) := by omega
    have hle : ¬ (a : Int) + 1 ≤ (xs.length : Int) := by omega
    go_wp2
    go_quiet (fail)
    go_wp2
    go_quiet (fail)
    go_wp2
    go_ret
    have h255 := and255 (IntKind.u64.wrap (IntKind.u64.wrap (s * 6364136223846793005)) + 1442695040888963407)
    refine ⟨⟨_, rfl, ?_, ?_⟩, HN.out _ _ _⟩
    · rw [IntWalk.wrap64_in _ ⟨by omega, by omega⟩]; exact h255.1
    · rw [IntWalk.wrap64_in _ ⟨by omega, by omega⟩]; exact h255.2

theorem from_any (v : Value) (xs : List Int) (w : World) (hv : Byts w v xs) :
    Calls Try.prog 51 #[v] w fun e w' => e = .returned (.pointer (some ⟨w.heap.size, 0, none⟩)) ∧ Src w' w.heap.size v 0 ∧ Below w.heap.size w w' ∧ w'.heap.size = w.heap.size + 1 := by
  obtain ⟨hm, ad, c, rfl, hcap, hc⟩ := hv
  clear hc
  go_enter Try.func51, Try.ntmps51
  go_wp2
  go_ret
  refine ⟨rfl, ⟨?_, ?_, ⟨0, ?_⟩, ?_, ?_⟩, (Below.refl _ _).alloc (Nat.le_refl _) _, by simp⟩
  all_goals simp [go_sem]

set_option maxHeartbeats 1000000 in
theorem pick_any (v : Value) (xs : List Int) (g a : Nat) (n : Int) (w : World) (hv : Byts w v xs) (hb : ∀ n ∈ xs, (Lit.int .u8 n).wf = true) (hs : Src w g v a) (ha : a ≤ 1099511627776) (hn : n ≤ 200) :
    Calls Try.prog 80 #[.pointer (some ⟨g, 0, none⟩), .int .i64 n] w fun e w' => (∃ x : Int, e = .returned (.int .i64 x) ∧ 0 ≤ x ∧ (1 ≤ n → x < n)) ∧ (∃ a', a' ≤ a + 1 ∧ Src w' g v a') ∧ GrownL [g] w w' := by
  have hcall := next_any v xs g a w hv hb hs ha
  have HC := Lib.hid hcall
  have HS := Lib.hid hs
  clear hcall hs hv hb
  by_cases h1 : n ≤ 1
  · go_enter Try.func80, Try.ntmps80
    go_wp2
    go_ret
    exact ⟨⟨0, rfl, Int.le_refl _, fun h => by omega⟩, ⟨a, by omega, HS.out⟩, GrownL.refl _ _⟩
  · have h2 : ¬ n > 200 := by omega
    have h3 : n ≠ 0 := by omega
    go_enter Try.func80, Try.ntmps80
    go_wp2_with fail
    refine HC.out.mono ?_
    rintro e w' ⟨⟨x, rfl, x0, x1⟩, hs', hg'⟩
    have HS' := Lib.hid hs'
    have HG' := Lib.hid hg'
    clear hs' hg'
    go_wp2
    go_ret
    exact ⟨⟨x % n, rfl, Int.emod_nonneg _ h3, fun _ => Int.emod_lt_of_pos _ (by omega)⟩, ⟨a + 1, Nat.le_refl _, HS'.out⟩, HG'.out⟩
end Go.Proofs.Ytcjeededlhdcbaa

namespace Go.Proofs.Ytcjeededlhdcbaa
open Go.RowKit Go.Shelf Go.BigFrame
set_option linter.unusedVariables false
set_option linter.unusedSimpArgs false

/-- append in a plain list, told with the block in which the new slice lies. -/
theorem append_i64M {ops : Array Oper} {rest : List Oper} {o : Oper} {a : Act} {Q : Exit → Act → World → Prop} {W : World} (hgd : o.guard = none) (s x : Operand)
    (ho : o.op = .call { callee := .builtin .append, args := #[s, x], argTypes := #[27, 27] }) (B : Nat) (v : Value) (xs ys : List Int) (hy : 0 < ys.length)
    (hs : a.eval s = v) (c : Nat) (hx : a.eval x = .slice (some ⟨W.heap.size, 0, none⟩) ys.length c) (hown : OwnI W B v xs) (hB : B ≤ W.heap.size) (hsmall : xs.length + ys.length ≤ 1099511627776)
    (hK : ∀ g c n w', Hid (n = xs.length + ys.length) → OwnI w' B (.slice (some ⟨g, 0, none⟩) n c) (xs ++ ys) → W.grownBy w' v.ownBlock → (v.ownBlock = some g ∨ g = W.heap.size + 1) → wpList Try.prog ops Q rest (a.put o.dst (.slice (some ⟨g, 0, none⟩) n c)) w') :
    wpList Try.prog ops Q (o :: rest) a (W.alloc (.cells (ys.map (Value.int .i64)).toArray 2)) := by
  obtain ⟨i0, hi, hz0, hz1, hz2⟩ := info_parts info_i64
  refine wpList_append_lies _ hgd s x 27 ho B 2 i0 (.int .i64 0) 1 8 Try.underlying27 hi hz0 hz1 hz2 rfl (by decide) v xs.length _ hs (World.ownsRow.alloc hown _) ⟨W.heap.size, 0, none⟩ ys.length c (ys.map (Value.int .i64)) hx (by simp) (cells_lit W _ _) ?_ hy (by unfold maxLen; omega) (by omega) (by simp; omega) (W.heap.size + 1) (by simp) ?_
  · intro u hu; obtain ⟨y, _, rfl⟩ := List.mem_map.1 hu; rfl
  · intro g cap w' h1 h2 h5 _
    obtain ⟨g', c', he, h3, h4⟩ := app_shape hy hown h1 h2
    obtain ⟨rfl, rfl⟩ : g = g' ∧ cap = c' := by simpa using he
    exact hK g cap _ w' rfl h3 h4 h5
/-- What is drawn. -/
def DrRow (i : Nat) (bs ls : List Int) : Prop := bs.length = ls.length ∧ bs.length ≤ i ∧ (∀ k, k < bs.length → 0 ≤ nth bs k ∧ nth bs k < (i : Int) ∧ (0 < k → nth bs (k - 1) < nth bs k)) ∧ ∀ k, k < ls.length → -3 ≤ nth ls k ∧ nth ls k ≤ 3
def DrTk (i : Nat) (x : Tk) : Prop := (0 ≤ x.1 ∧ x.1 ≤ 6) ∧ (0 ≤ x.2.1 ∧ x.2.1 ≤ 3) ∧ DrRow i x.2.2.1 x.2.2.2
theorem DrRow.nil : DrRow 0 [] [] := ⟨rfl, Nat.le_refl _, fun k hk => absurd hk (Nat.not_lt_zero _), fun k hk => absurd hk (Nat.not_lt_zero _)⟩
theorem DrRow.up {i : Nat} {bs ls : List Int} (h : DrRow i bs ls) : DrRow (i + 1) bs ls := ⟨h.1, by have := h.2.1; omega, fun k hk => by have := h.2.2.1 k hk; exact ⟨this.1, by omega, this.2.2⟩, h.2.2.2⟩
theorem nthD_l {l r : List Int} {k : Nat} (h : k < l.length) : nth (l ++ r) k = nth l k := by
  rw [nth_eq (by rw [List.length_append]; omega), nth_eq h, List.getElem_append_left h]
theorem nthD_at {l : List Int} {x : Int} : nth (l ++ [x]) l.length = x := by
  rw [nth_eq (by simp), List.getElem_append_right (Nat.le_refl _)]; simp
theorem DrRow.snoc {i : Nat} {bs ls : List Int} {l : Int} (h : DrRow i bs ls) (h0 : -3 ≤ l) (h1 : l ≤ 3) : DrRow (i + 1) (bs ++ [(i : Int)]) (ls ++ [l]) := by
  obtain ⟨a, b, c, d⟩ := h
  refine ⟨by simp [a], by simp; omega, fun k hk => ?_, fun k hk => ?_⟩
  · rw [List.length_append, List.length_singleton] at hk
    by_cases hl : k < bs.length
    · obtain ⟨c1, c2, c3⟩ := c k hl
      rw [nthD_l hl]
      refine ⟨c1, by omega, fun h0 => ?_⟩
      rw [nthD_l (by omega)]; exact c3 h0
    · obtain rfl : k = bs.length := by omega
      rw [nthD_at]
      refine ⟨by omega, by omega, fun h0 => ?_⟩
      rw [nthD_l (by omega)]
      have := (c (bs.length - 1) (by omega)).2.1
      omega
  · rw [List.length_append, List.length_singleton] at hk
    by_cases hl : k < ls.length
    · rw [nthD_l hl]; exact d k hl
    · obtain rfl : k = ls.length := by omega
      rw [nthD_at]; exact ⟨h0, h1⟩
theorem DrTk.ok {i : Nat} {x : Tk} (h : DrTk i x) : taskOk (i : Int) x = true := by
  obtain ⟨⟨a1, a2⟩, ⟨b1, b2⟩, c1, c2, c3, c4⟩ := h
  unfold taskOk taskHead lagsOk befTo
  simp only [Bool.and_eq_true, decide_eq_true_eq, List.all_eq_true, List.mem_range]
  refine ⟨⟨⟨⟨win_true.2 ⟨a1, by omega⟩, win_true.2 ⟨b1, by omega⟩⟩, c1⟩, fun n hn => ?_⟩, fun k hk => ?_⟩
  · obtain ⟨k, hk, rfl⟩ := List.getElem_of_mem hn
    have := c4 k hk
    rw [nth_eq hk] at this
    exact win_true.2 ⟨by omega, by omega⟩
  · obtain ⟨d1, d2, d3⟩ := c3 k hk
    unfold befAt
    simp only [Bool.and_eq_true, Bool.or_eq_true, decide_eq_true_eq]
    refine ⟨win_true.2 ⟨d1, by omega⟩, ?_⟩
    rcases Nat.eq_zero_or_pos k with h0 | h0
    · exact .inl (by simp [h0])
    · exact .inr (d3 h0)

theorem app_outD {W : World} {X : Nat} {vb : Value} {bs : List Int} (h : OwnI W (X + 1) vb bs) : ∀ j, vb.ownBlock = some j → X ≤ j := fun j e => by have := (h.lt j e).1; omega
theorem GrownL.by1 {g : Nat} {A W : World} (h : GrownL [g] A W) : A.grownBy W (some g) := ⟨h.os, h.tape, h.output, h.size, fun k hk hne => h.block k hk (by intro e; simp at e; exact hne (by rw [e]))⟩
theorem Src.by {W W' : World} {g a : Nat} {v : Value} {row : Option Nat} (h : Src W g v a) (hg : W.grownBy W' row) (hne : some g ≠ row) : Src W' g v a := by
  have hb := hg.block g h.lt hne
  have hc : ∀ o, W'.cell? ⟨g, o, none⟩ = W.cell? ⟨g, o, none⟩ := fun o => by simp only [World.cell?, hb]
  have hf : ∀ o, W'.frozen? ⟨g, o, none⟩ = W.frozen? ⟨g, o, none⟩ := fun o => by simp only [World.frozen?, hb]
  exact ⟨(hc _).trans h.c0, (hc _).trans h.c1, by obtain ⟨s, hs⟩ := h.c2; exact ⟨s, (hc _).trans hs⟩, (hf _).trans h.f1, (hf _).trans h.f2⟩
/-- The source, and the tasks that are drawn already. -/
structure EnvD (w : World) (g : Nat) (v : Value) (a N X : Nat) (vt : Value) (k : Nat) (raw : List Value) (ts : List Tk) (W : World) : Prop where
  s : Src W g v a
  v : OwnV 40 4 W N vt k raw
  vb : ∀ j, vt.ownBlock = some j → j < X
  t : TksOwn W N X raw ts
  b : GrownL [g] w W
  gn : g < N
  wn : N = w.heap.size
  nx : N ≤ X
  x : X ≤ W.heap.size
theorem EnvD.keptS {w : World} {g a a' N X k : Nat} {v vt : Value} {raw : List Value} {ts : List Tk} {W W' : World} {row : Option Nat} (h : EnvD w g v a N X vt k raw ts W) (hg : W.grownBy W' row) (hr : ∀ j, row = some j → j = g ∨ X ≤ j) (hs : Src W' g v a') : EnvD w g v a' N X vt k raw ts W' where
  s := hs
  v := ownsRow_kept (N := 0) h.v h.vb hg (fun j e => by have := h.gn; rcases hr j e with h | h <;> omega)
  vb := h.vb
  t := h.t.kept hg (fun j e => by have := h.gn; rcases hr j e with h | h <;> omega)
  b := h.b.grown hg (fun j e => by have h1 := h.nx; have h2 := h.wn; rcases hr j e with h | h; exact .inl (by simp [h]); exact .inr (by omega))
  gn := h.gn
  wn := h.wn
  nx := h.nx
  x := Nat.le_trans h.x hg.size
theorem EnvD.kept {w : World} {g a N X k : Nat} {v vt : Value} {raw : List Value} {ts : List Tk} {W W' : World} {row : Option Nat} (h : EnvD w g v a N X vt k raw ts W) (hg : W.grownBy W' row) (hr : ∀ j, row = some j → X ≤ j) : EnvD w g v a N X vt k raw ts W' :=
  h.keptS hg (fun j e => .inr (hr j e)) (h.s.by hg (fun e => by have := hr g e.symm; have := h.gn; have := h.nx; omega))
theorem EnvD.pick {w : World} {g a a' N X k : Nat} {v vt : Value} {raw : List Value} {ts : List Tk} {W W' : World} (h : EnvD w g v a N X vt k raw ts W) (hg : GrownL [g] W W') (hs : Src W' g v a') : EnvD w g v a' N X vt k raw ts W' :=
  h.keptS hg.by1 (fun j e => .inl (by simpa using e.symm)) hs
theorem EnvD.up {w : World} {g a N X X' k : Nat} {v vt : Value} {raw : List Value} {ts : List Tk} {W : World} (h : EnvD w g v a N X vt k raw ts W) (h1 : X ≤ X') (h2 : X' ≤ W.heap.size) : EnvD w g v a N X' vt k raw ts W where
  s := h.s
  v := h.v
  vb := fun j hj => by have := h.vb j hj; omega
  t := h.t.hi h1
  b := h.b
  gn := h.gn
  wn := h.wn
  nx := by have := h.nx; omega
  x := h2
theorem EnvD.app {w : World} {g a N X k : Nat} {v vt v5 : Value} {raw cs : List Value} {ts : List Tk} {x : Tk} {W w5 : World} (h : EnvD w g v a N X vt k raw ts W) (hx : TkOwn W X W.heap.size cs x) (ho : OwnV 40 4 w5 N v5 (k + 1) (raw ++ cs)) (hg : W.grownBy w5 vt.ownBlock) :
    EnvD w g v a N w5.heap.size v5 (k + 1) (raw ++ cs) (ts ++ [x]) w5 := by
  have h1 := h.gn
  have h2 := h.nx
  have h3 := h.x
  have h4 := hg.size
  have h5 := h.wn
  exact {
    s := h.s.by hg (fun e => by have := (h.v.lt _ e.symm).1; omega)
    v := ho
    vb := fun j hj => (ho.lt j hj).2
    t := .snoc (h.t.keptV h.v (by decide) hg) ((hx.keptV h.v (by decide) hg).hi h4) (by omega)
    b := h.b.grown hg (fun j e => .inr (by have := (h.v.lt _ e).1; omega))
    gn := h1
    wn := h5
    nx := by omega
    x := Nat.le_refl _ }

theorem one_any (v : Value) (xs : List Int) (g a : Nat) (n : Int) (w : World) (hv : Byts w v xs) (hb : ∀ n ∈ xs, (Lit.int .u8 n).wf = true) (hs : Src w g v a) (ha : a ≤ 1099511627776) (hn : n ≤ 200) :
    Calls Try.prog 111 #[.pointer (some ⟨g, 0, none⟩), .int .i64 n] w fun e w' => (∃ b : Bool, e = .returned (.bool b)) ∧ (∃ a', a' ≤ a + 1 ∧ Src w' g v a') ∧ GrownL [g] w w' := by
  have HC := Lib.hid (pick_any v xs g a n w hv hb hs ha hn)
  clear hv hb hs
  go_enter Try.func111, Try.ntmps111
  go_wp2_with fail
  refine HC.out.mono ?_
  rintro e w' ⟨⟨x, rfl, x0, x1⟩, hs', hg'⟩
  have H := Lib.hid (And.intro hs' hg')
  clear hs' hg' x1
  by_cases h0 : x = 0
  · subst h0
    go_wp2
    go_ret
    exact ⟨⟨_, rfl⟩, H.out⟩
  · have h1 : (x == 0) = false := by simp [h0]
    go_wp2
    go_ret
    exact ⟨⟨_, rfl⟩, H.out⟩

set_option maxRecDepth 100000 in
set_option maxHeartbeats 4000000 in
theorem drawOk_any (v : Value) (xs : List Int) (g a n : Nat) (w : World) (hv : ∀ W, GrownL [g] w W → Byts W v xs) (hb : ∀ n ∈ xs, (Lit.int .u8 n).wf = true) (hs : Src w g v a) (ha : a ≤ 549755813888) (hn : n ≤ 7) :
    Calls Try.prog 52 #[.pointer (some ⟨g, 0, none⟩), .int .i64 n] w fun e w' => ∃ vt ts raw X a', e = .returned vt ∧ EnvD w g v a' w.heap.size X vt n raw ts w' ∧ ts.length = n ∧ (∀ i (h : i < ts.length), DrTk i ts[i]) ∧ a' ≤ a + 20 * n := by
  obtain ⟨N, hN⟩ : ∃ N, w.heap.size = N := ⟨_, rfl⟩
  have hgn : g < N := by rw [← hN]; exact hs.lt
  have HPK : Hid (∀ a (m : Int) W, GrownL [g] w W → Src W g v a → a ≤ 1099511627776 → m ≤ 200 → Calls Try.prog 80 #[.pointer (some ⟨g, 0, none⟩), .int .i64 m] W fun e w' => (∃ x : Int, e = .returned (.int .i64 x) ∧ 0 ≤ x ∧ (1 ≤ m → x < m)) ∧ (∃ a', a' ≤ a + 1 ∧ Src w' g v a') ∧ GrownL [g] W w') := fun a m W hW hs ha hn => pick_any v xs g a m W (hv W hW) hb hs ha hn
  have HON : Hid (∀ a (m : Int) W, GrownL [g] w W → Src W g v a → a ≤ 1099511627776 → m ≤ 200 → Calls Try.prog 111 #[.pointer (some ⟨g, 0, none⟩), .int .i64 m] W fun e w' => (∃ b : Bool, e = .returned (.bool b)) ∧ (∃ a', a' ≤ a + 1 ∧ Src w' g v a') ∧ GrownL [g] W w') := fun a m W hW hs ha hn => one_any v xs g a m W (hv W hW) hb hs ha hn
  have HGN := Lib.hid hgn
  have HN := Lib.hid hN
  have E0 : Hid (EnvD w g v a N (N + 1) (.slice (some ⟨N, 0, none⟩) 0 0) 0 [] [] (w.alloc (.cells #[] 40))) := by
    have ho : OwnV 40 4 (w.alloc (.cells #[] 40)) N (.slice (some ⟨N, 0, none⟩) 0 0) 0 [] := by
      have := World.ownsRow_lit (e := 40) (size := 4) (base := N) w #[] 0 (by omega) (by unfold maxLen; simp) (by simp)
      rw [hN] at this
      simpa [OwnV] using this
    exact ⟨hs.by (grown_alloc w _ none) (by simp), ho, fun j e => by simp [Value.ownBlock] at e; omega, TksOwn.nil (by omega), (GrownL.refl _ w).alloc _, hgn, hN.symm, by omega, by simp; omega⟩
  clear hv hb hs
  go_enter Try.func52, Try.ntmps52
  rw [hN]
  go_wp2
  go_loopw [5, 6] (fun vo vi wr => ∃ (i m gg c X a' : Nat) (raw : List Value) (ts : List Tk), i ≤ n ∧ vi = .int .i64 i ∧ Hid (m = i) ∧ vo = .slice (some ⟨gg, 0, none⟩) m c ∧ Hid (EnvD w g v a' N X (.slice (some ⟨gg, 0, none⟩) m c) i raw ts wr) ∧ Hid (ts.length = i ∧ (∀ j (h : j < ts.length), DrTk j ts[j]) ∧ a' ≤ a + 20 * i)) (fun _ vi _ => n - (intOf vi).toNat)
  case atStart => exact ⟨0, 0, N, 0, N + 1, a, [], [], Nat.zero_le _, rfl, rfl, rfl, E0.out, ⟨rfl, fun j h => absurd h (Nat.not_lt_zero _), Nat.le_refl _⟩⟩
  case round =>
    obtain ⟨i, m, gg, c, X0, a1, raw, ts, hi, rfl, HM, rfl, E, HT⟩ := hrel
    clear E0
    by_cases hin : i < n
    · have i1 : (i : Int) < (n : Int) := by omega
      have hab := HT.out.2.2
      have ha1 : a1 ≤ 1099511627776 := by omega
      have HP1 := Lib.hid (HPK.out a1 7 wr E.out.b E.out.s ha1 (by omega))
      go_wp2_with fail
      refine HP1.out.mono ?_
      rintro e W1 ⟨⟨y0, rfl, y00, y01⟩, ⟨a2, ha2, hs2⟩, hg2⟩
      have y01 := y01 (by omega)
      have E1 := Lib.hid (E.out.pick hg2 hs2)
      clear hs2 hg2 HP1 E
      have E2 : Hid (EnvD w g v a2 N W1.heap.size (.slice (some ⟨gg, 0, none⟩) m c) i raw ts (W1.alloc (.cells #[.int .i64 y0, .int .i64 0, .slice none 0 0, .slice none 0 0] 40))) :=
        (E1.out.up E1.out.x (Nat.le_refl _)).kept (grown_alloc W1 _ none) (fun j e => by cases e)
      have KX2 : Hid (Blk (W1.alloc (.cells #[.int .i64 y0, .int .i64 0, .slice none 0 0, .slice none 0 0] 40)) W1.heap.size 40 [.int .i64 y0, .int .i64 0, .slice none 0 0, .slice none 0 0]) := Blk.new W1 _ _
      have HP2 := Lib.hid (HPK.out a2 4 _ E2.out.b E2.out.s (by omega) (by omega))
      clear E1
      go_wp2_with fail
      refine HP2.out.mono ?_
      rintro e W3 ⟨⟨y1, rfl, y10, y11⟩, ⟨a3, ha3, hs3⟩, hg3⟩
      have y11 := y11 (by omega)
      have E3 := Lib.hid (E2.out.pick hg3 hs3)
      have hgx : g < W1.heap.size := by have := E2.out.gn; have := E2.out.nx; omega
      have KX3 := Lib.hid (KX2.out.grownL hg3 (by simp; omega))
      obtain ⟨X, hX⟩ : ∃ X, W1.heap.size = X := ⟨_, rfl⟩
      rw [hX] at E3 KX3 hgx
      rw [hX]
      have c1 := KX3.out.cell 1 _ rfl
      have f1 := KX3.out.frozen 1
      clear hs3 hg3 HP2 E2 KX2 hX
      have E4 : Hid (EnvD w g v a3 N X (.slice (some ⟨gg, 0, none⟩) m c) i raw ts (W3.setCell ⟨X, 1, none⟩ (.int .i64 y1))) := E3.out.kept (grown_set W3 ⟨X, 1, none⟩ _) (fun j e => by cases e; exact Nat.le_refl _)
      have KX4 : Hid (Blk (W3.setCell ⟨X, 1, none⟩ (.int .i64 y1)) X 40 [.int .i64 y0, .int .i64 y1, .slice none 0 0, .slice none 0 0]) := KX3.out.set 1 _
      clear E3 KX3
      go_wp2
      go_loopw [8] (fun vk wi => ∃ (k a' : Nat) (vb vl : Value) (bs ls : List Int), k ≤ i ∧ vk = .int .i64 k ∧ Hid (EnvD w g v a' N X (.slice (some ⟨gg, 0, none⟩) m c) i raw ts wi) ∧ Hid (Blk wi X 40 [.int .i64 y0, .int .i64 y1, vb, vl]) ∧ Hid (OwnI wi (X + 1) vb bs ∧ OwnI wi (X + 1) vl ls ∧ (vb.ownBlock = none ∨ vb.ownBlock ≠ vl.ownBlock)) ∧ Hid (DrRow k bs ls) ∧ a' ≤ a3 + 3 * k) (fun vk _ => i - (intOf vk).toNat)
      case atStart => exact ⟨0, a3, .slice none 0 0, .slice none 0 0, [], [], Nat.zero_le _, rfl, E4.out, KX4.out, ⟨nilI _ _, nilI _ _, .inl rfl⟩, DrRow.nil, by omega⟩
      case round =>
        obtain ⟨k, a4, vb, vl, bs, ls, hk, rfl, E, KX, HO, HD, ha4⟩ := hrel
        clear E4 KX4 c1 f1
        by_cases hki : k < i
        · have k1 : (k : Int) < (i : Int) := by omega
          have HP5 := Lib.hid (HON.out a4 3 wr E.out.b E.out.s (by omega) (by omega))
          go_wp2_with fail
          refine HP5.out.mono ?_
          rintro e W5 ⟨⟨b5, rfl⟩, ⟨a5, ha5, hs5⟩, hg5⟩
          have E5 := Lib.hid (E.out.pick hg5 hs5)
          have KX5 := Lib.hid (KX.out.grownL hg5 (by simp; omega))
          have HO5 := Lib.hid (owns_kept HO.out hg5.by1 (by omega))
          clear hs5 hg5 HP5 E KX HO
          cases b5
          · have HD2 := Lib.hid HD.out.up
            go_wp2
            go_roundw
            case rel => exact ⟨k + 1, a5, vb, vl, bs, ls, by omega, by go_num, E5.out, KX5.out, HO5.out, HD2.out, by omega⟩
            case measure => simp [intOf]; omega
          · have c2 := KX5.out.cell 2 vb rfl
            have f2 := KX5.out.frozen 2
            have hxl : X + 1 ≤ W5.heap.size := KX5.out.lt
            have hxm : X < W5.heap.size := KX5.out.lt
            have hbl := HD.out.2.1
            have HZ : Hid (bs.length + [(k : Int)].length ≤ 1099511627776) := by show _ ≤ _; simp; omega
            go_wp2_with (at_builtin; refine append_i64M rfl _ _ rfl (X + 1) vb bs [(k : Int)] (by simp) rfl 1 rfl HO5.out.1 hxl HZ.out ?_; intro g6 c6 n6 w6 hn6 ho6 hg6 hl6; have KX6 := Lib.hid (KX5.out.grown hg6 (app_ne HO5.out.1 (Nat.le_refl _))); have E6 := Lib.hid (E5.out.kept hg6 (app_outD HO5.out.1)); have HO6 := Lib.hid (owns_app1 HO5.out ho6 hg6 hl6); have c2' := KX6.out.cell 2 vb rfl; have f2' := KX6.out.frozen 2; clear ho6 hg6 hl6 hn6)
            obtain ⟨vb', hvb⟩ : ∃ v, Value.slice (some ⟨g6, 0, none⟩) n6 c6 = v := ⟨_, rfl⟩
            rw [hvb] at HO6
            rw [hvb]
            obtain ⟨W7, hW7⟩ : ∃ W, w6.setCell ⟨X, 2, none⟩ vb' = W := ⟨_, rfl⟩
            have E7 : Hid (EnvD w g v a5 N X (.slice (some ⟨gg, 0, none⟩) m c) i raw ts W7) := by rw [← hW7]; exact E6.out.kept (grown_set w6 ⟨X, 2, none⟩ vb') (fun j e => by cases e; exact Nat.le_refl _)
            have KX7 : Hid (Blk W7 X 40 [.int .i64 y0, .int .i64 y1, vb', vl]) := by rw [← hW7]; exact KX6.out.set 2 vb'
            have HO7 : Hid (OwnI W7 (X + 1) vb' (bs ++ [(k : Int)]) ∧ OwnI W7 (X + 1) vl ls ∧ (vb'.ownBlock = none ∨ vb'.ownBlock ≠ vl.ownBlock)) := by rw [← hW7]; exact owns_kept HO6.out (grown_set w6 ⟨X, 2, none⟩ vb') (Nat.le_refl _)
            rw [hW7]
            clear hW7 hvb c2 f2 c2' f2' E5 KX5 HO5 E6 KX6 HO6 hxl hxm HZ
            have HP7 := Lib.hid (HON.out a5 4 W7 E7.out.b E7.out.s (by omega) (by omega))
            refine HP7.out.mono ?_
            rintro e W8 ⟨⟨b8, rfl⟩, ⟨a8, ha8, hs8⟩, hg8⟩
            have E8 := Lib.hid (E7.out.pick hg8 hs8)
            have KX8 := Lib.hid (KX7.out.grownL hg8 (by simp; omega))
            have HO8 := Lib.hid (owns_kept HO7.out hg8.by1 (by omega))
            clear hs8 hg8 HP7 E7 KX7 HO7
            cases b8
            · have c3 := KX8.out.cell 3 vl rfl
              have f3 := KX8.out.frozen 3
              have hyl : X + 1 ≤ W8.heap.size := KX8.out.lt
              have hym : X < W8.heap.size := KX8.out.lt
              have HD2 : Hid (DrRow (k + 1) (bs ++ [(k : Int)]) (ls ++ [(0 : Int)])) := HD.out.snoc (by omega) (by omega)
              have HZ2 : Hid (ls.length + [(0 : Int)].length ≤ 1099511627776) := by have := HD.out.1; have := HD.out.2.1; show _ ≤ _; simp only [List.length_singleton]; omega
              go_wp2_with (at_builtin; refine append_i64M rfl _ _ rfl (X + 1) vl ls [(0 : Int)] (by simp) rfl 1 rfl HO8.out.2.1 hyl HZ2.out ?_; intro g9 c9 n9 w9 hn9 ho9 hg9 hl9; have KX9 := Lib.hid (KX8.out.grown hg9 (app_ne HO8.out.2.1 (Nat.le_refl _))); have E9 := Lib.hid (E8.out.kept hg9 (app_outD HO8.out.2.1)); have HO9 := Lib.hid (owns_app2 HO8.out ho9 hg9 hl9); have c3' := KX9.out.cell 3 vl rfl; have f3' := KX9.out.frozen 3; clear ho9 hg9 hl9 hn9)
              go_roundw
              case rel =>
                refine ⟨k + 1, a8, vb', .slice (some ⟨g9, 0, none⟩) n9 c9, _, _, by omega, by go_num, ?_, ?_, ?_, HD2.out, by omega⟩
                · exact E9.out.kept (grown_set w9 ⟨X, 3, none⟩ _) (fun j e => by cases e; exact Nat.le_refl _)
                · exact KX9.out.set 3 _
                · exact owns_kept HO9.out (grown_set w9 ⟨X, 3, none⟩ _) (Nat.le_refl _)
              case measure => simp [intOf]; omega
            · have HP9 := Lib.hid (HPK.out a8 7 W8 E8.out.b E8.out.s (by omega) (by omega))
              go_wp2_with fail
              refine HP9.out.mono ?_
              rintro e W10 ⟨⟨z, rfl, z0, z1⟩, ⟨a10, ha10, hs10⟩, hg10⟩
              have z1 := z1 (by omega)
              have E10 := Lib.hid (E8.out.pick hg10 hs10)
              have KX10 := Lib.hid (KX8.out.grownL hg10 (by simp; omega))
              have HO10 := Lib.hid (owns_kept HO8.out hg10.by1 (by omega))
              clear hs10 hg10 HP9 E8 KX8 HO8
              have c3 := KX10.out.cell 3 vl rfl
              have f3 := KX10.out.frozen 3
              have hyl : X + 1 ≤ W10.heap.size := KX10.out.lt
              have hym : X < W10.heap.size := KX10.out.lt
              have HD2 : Hid (DrRow (k + 1) (bs ++ [(k : Int)]) (ls ++ [(z - 3)])) := HD.out.snoc (by omega) (by omega)
              have HZ2 : Hid (ls.length + [(z - 3)].length ≤ 1099511627776) := by have := HD.out.1; have := HD.out.2.1; show _ ≤ _; simp only [List.length_singleton]; omega
              go_wp2_with (at_builtin; refine append_i64M rfl _ _ rfl (X + 1) vl ls [(z - 3)] (by simp) rfl 1 rfl HO10.out.2.1 hyl HZ2.out ?_; intro g9 c9 n9 w9 hn9 ho9 hg9 hl9; have KX9 := Lib.hid (KX10.out.grown hg9 (app_ne HO10.out.2.1 (Nat.le_refl _))); have E9 := Lib.hid (E10.out.kept hg9 (app_outD HO10.out.2.1)); have HO9 := Lib.hid (owns_app2 HO10.out ho9 hg9 hl9); have c3' := KX9.out.cell 3 vl rfl; have f3' := KX9.out.frozen 3; clear ho9 hg9 hl9 hn9)
              go_roundw
              case rel =>
                refine ⟨k + 1, a10, vb', .slice (some ⟨g9, 0, none⟩) n9 c9, _, _, by omega, by go_num, ?_, ?_, ?_, HD2.out, by omega⟩
                · exact E9.out.kept (grown_set w9 ⟨X, 3, none⟩ _) (fun j e => by cases e; exact Nat.le_refl _)
                · exact KX9.out.set 3 _
                · exact owns_kept HO9.out (grown_set w9 ⟨X, 3, none⟩ _) (Nat.le_refl _)
              case measure => simp [intOf]; omega
        · have hki2 : k = i := by omega
          have k1 : ¬ (k : Int) < (i : Int) := by omega
          have x0 := KX.out.cell 0 _ rfl
          have x1 := KX.out.cell 1 _ rfl
          have x2 := KX.out.cell 2 _ rfl
          have x3 := KX.out.cell 3 _ rfl
          have HONE : Hid (∀ u ∈ [Value.int .i64 y0, .int .i64 y1, vb, vl], u.oneCell' = true) := by
            intro u hu
            simp only [List.mem_cons, List.not_mem_nil, or_false] at hu
            rcases hu with rfl | rfl | rfl | rfl
            · rfl
            · rfl
            · exact HO.out.1.one
            · exact HO.out.2.1.one
          have HSB : Hid (N ≤ wr.heap.size) := by have := E.out.nx; have := E.out.x; show _ ≤ _; omega
          have HTK1 : Hid (TkOwn wr X wr.heap.size [.int .i64 y0, .int .i64 y1, vb, vl] (y0, y1, bs, ls)) := ⟨vb, vl, rfl, ⟨HO.out.1.mono (by omega), fun q hq => (HO.out.1.lt q hq).2⟩, ⟨HO.out.2.1.mono (by omega), fun q hq => (HO.out.2.1.lt q hq).2⟩, HO.out.2.2⟩
          have HDT : Hid (DrTk i (y0, y1, bs, ls)) := ⟨⟨y00, by show y0 ≤ 6; omega⟩, ⟨y10, by show y1 ≤ 3; omega⟩, by have := HD.out; rwa [hki2] at this⟩
          have hib : i ≤ 1000000 := by omega
          have HA4 : Hid (a4 ≤ a1 + 2 + 3 * i ∧ i < 7) := by show _ ∧ _; omega
          clear hki hki2
          go_wp2_with (at_builtin; refine append_tk rfl _ _ rfl N (.slice (some ⟨gg, 0, none⟩) m c) i raw [.int .i64 y0, .int .i64 y1, vb, vl] rfl 1 rfl E.out.v rfl HONE.out HSB.out hib ?_; intro g5 c5 n5 w5 hn5 ho5 hg5; have E5 := Lib.hid (E.out.app HTK1.out ho5 hg5); have HN5 := Lib.hid hn5; clear ho5 hg5 hn5)
          go_roundw
          case rel =>
            obtain ⟨t1, t2, t3⟩ := HT.out
            obtain ⟨q1, q2⟩ := HA4.out
            refine ⟨i + 1, n5, g5, c5, w5.heap.size, a4, raw ++ [.int .i64 y0, .int .i64 y1, vb, vl], ts ++ [(y0, y1, bs, ls)], by omega, by go_num, HN5.out, rfl, E5.out, ⟨by rw [List.length_append, t1]; rfl, fun j hj => ?_, by omega⟩⟩
            rw [List.length_append, List.length_singleton] at hj
            by_cases hl : j < ts.length
            · rw [List.getElem_append_left hl]; exact t2 j hl
            · obtain rfl : j = ts.length := by omega
              rw [List.getElem_append_right (Nat.le_refl _)]
              simp only [Nat.sub_self, List.getElem_singleton]
              rw [t1]; exact HDT.out
          case measure => simp [intOf]; omega
    · have i1 : ¬ (i : Int) < (n : Int) := by omega
      have hin2 : i = n := by omega
      have HFIN : Hid (∃ ts raw X a', EnvD w g v a' N X (.slice (some ⟨gg, 0, none⟩) m c) n raw ts wr ∧ ts.length = n ∧ (∀ i (h : i < ts.length), DrTk i ts[i]) ∧ a' ≤ a + 20 * n) := by
        have h1 := E.out
        have h2 := HT.out
        rw [hin2] at h1 h2
        exact ⟨ts, raw, X0, a1, h1, h2⟩
      clear E HT hin2
      go_wp2
      go_ret
      obtain ⟨ts, raw, X, a', h⟩ := HFIN.out
      exact ⟨_, rfl, ts, raw, X, a', h⟩
end Go.Proofs.Ytcjeededlhdcbaa

namespace Go.Proofs.Ytcjeededlhdcbaa
open Go.RowKit
set_option linter.unusedVariables false
set_option linter.unusedSimpArgs false

def EarlR (ts : List Tk) (st : List Int) (i n : Nat) (w : World) (va vk : Value) (wr : World) : Prop :=
  ∃ (k : Nat), k ≤ n ∧ va = .int .i64 (leastTo ts st i k) ∧ vk = .int .i64 k ∧ Hid (∃ q, wr = w.drewN q)

set_option maxRecDepth 100000 in
set_option maxHeartbeats 2000000 in
theorem earliest_any (vt vs : Value) (ts : List Tk) (st : List Int) (i : Nat) (w : World) (ht : TasksR w vt ts) (hs : Ints w vs st) (hsm : SmTs ts) (hst : SmSt st ts.length) (hi : i < ts.length) :
    Calls Try.prog 75 #[vt, vs, .int .i64 i] w fun e w' => e = .returned (.int .i64 (leastN ts st i)) ∧ ∃ q, w' = w.drewN q := by
  obtain ⟨b, o, c, AB, CB, AL, CL, rfl, hcap, hbw, hV⟩ := ht.view hsm.n1
  obtain ⟨aS, cS, rfl, scap, hS⟩ := hs.view
  have HV := Lib.hid hV
  have HS := Lib.hid hS
  have HSM := Lib.hid hsm
  have HST := Lib.hid hst
  have e2 := (hV w (Below.refl _ _) i hi).bef
  have hbl := hsm.blen i hi
  have HBD : Hid (∀ k, k ≤ (befN ts i).length → 0 ≤ leastTo ts st i k ∧ leastTo ts st i k ≤ 1000200) := fun k hk => leastTo_bounds hsm hst hi k hk
  obtain ⟨n, hn⟩ : ∃ n, (befN ts i).length = n := ⟨_, rfl⟩
  obtain ⟨T, hT⟩ : ∃ T, ts.length = T := ⟨_, rfl⟩
  have HN : Hid ((befN ts i).length = n) := hn
  have HT : Hid (ts.length = T) := hT
  have HLN : Hid (leastN ts st i = leastTo ts st i n) := by show _ = _; rw [← hn]; rfl
  rw [show (tkN ts i).2.2.1.length = n from hn] at e2
  obtain ⟨ab, hab0⟩ : ∃ ab, AB i = ab := ⟨_, rfl⟩
  rw [hab0] at e2
  have HAB : Hid (AB i = ab) := hab0
  clear hab0
  rw [hn] at hbl HBD
  rw [hst.1, hT]
  rw [hT] at hcap hi
  have hT16 : T ≤ 16 := by rw [← hT]; exact hsm.n16
  have i0 : (0 : Int) ≤ (i : Int) := by omega
  have i1 : (i : Int) < (T : Int) := by omega
  clear ht hs hV hS hsm hst hn hT scap
  go_enter Try.func75, Try.ntmps75
  go_wp2
  go_loopw [7, 16] (fun va vk wr => EarlR ts st i n w va vk wr) (fun _ vk _ => n - (intOf vk).toNat)
  case atStart => exact ⟨0, Nat.zero_le _, rfl, rfl, 0, rfl⟩
  case round =>
    obtain ⟨k, hk, rfl, rfl, hwr⟩ := hrel
    by_cases hkn : k < n
    · have k1 : (k : Int) < (n : Int) := by omega
      have k0 : (0 : Int) ≤ (k : Int) := by omega
      have hW : Below w.heap.size w wr := by obtain ⟨q, hq⟩ := hwr.out; rw [hq]; exact below_drewN q (Below.refl _ _)
      have hC := HV.out wr hW i (by rw [HT.out]; exact hi)
      have hbb := HSM.out.bef i (by rw [HT.out]; exact hi) k (by rw [HN.out]; exact hkn)
      have hll := HSM.out.lag i (by rw [HT.out]; exact hi) k (by rw [HN.out]; exact hkn)
      obtain ⟨b1, o1, hab, cb⟩ := hC.befAt k (by show k < (befN ts i).length; rw [HN.out]; exact hkn)
      obtain ⟨b2, o2, hal, cl⟩ := hC.lagAt k (by show k < (lagN ts i).length; rw [HSM.out.len i (by rw [HT.out]; exact hi), HN.out]; exact hkn)
      have e2 := hC.bef
      have e3 := hC.lag
      rw [hab, show (tkN ts i).2.2.1.length = n from HN.out] at e2
      rw [hal, show (tkN ts i).2.2.2.length = n from by rw [HSM.out.len i (by rw [HT.out]; exact hi)]; exact HN.out] at e3
      obtain ⟨j, hj⟩ : ∃ j : Nat, nth (befN ts i) k = j := ⟨(nth (befN ts i) k).toNat, by omega⟩
      have hjT : j < T := by omega
      have hts := HSM.out.time j (by rw [HT.out]; exact hjT)
      have hss := HST.out.2 j (by rw [HT.out]; exact hjT)
      have et := (HV.out wr hW j (by rw [HT.out]; exact hjT)).time
      obtain ⟨b3, o3, has, cs'⟩ := HS.out wr hW j (by rw [HST.out.1, HT.out]; exact hjT)
      have HNX : Hid (leastTo ts st i (k + 1) = max (leastTo ts st i k) (nth st j + timeN ts j + nth (lagN ts i) k)) := by
        show max _ _ = _; rw [hj, Int.toNat_natCast]
      rw [show nth (tkN ts i).2.2.1 k = (j : Int) from hj] at cb
      have hbd := HBD.out k hk
      obtain ⟨s, hs⟩ : ∃ s, nth st j = s := ⟨_, rfl⟩
      obtain ⟨t, ht⟩ : ∃ t, timeN ts j = t := ⟨_, rfl⟩
      obtain ⟨l, hl⟩ : ∃ l, nth (lagN ts i) k = l := ⟨_, rfl⟩
      obtain ⟨R, hR⟩ : ∃ R, leastTo ts st i k = R := ⟨_, rfl⟩
      rw [hs] at hss cs' HNX
      rw [show (tkN ts j).1 = t from ht] at et
      rw [ht] at hts HNX
      rw [show nth (tkN ts i).2.2.2 k = l from hl] at cl
      rw [hl] at hll HNX
      rw [hR] at hbd HNX ⊢
      subst has
      have hab1 : ab = some ⟨b1, o1, none⟩ := HAB.out.symm.trans hab
      subst hab1
      have HWQ : Hid (∀ n, ∃ q', wr.drewN n = w.drewN q') := fun n => by obtain ⟨q, hq⟩ := hwr.out; exact ⟨_, by rw [hq]; exact World.drewN_drewN _ _ _⟩
      have j0 : (0 : Int) ≤ (j : Int) := by omega
      have j1 : (j : Int) < (T : Int) := by omega
      have w1 : IntKind.i64.wrap (s + t) = s + t := IntWalk.i64_in _ (by omega)
      have w2 : IntKind.i64.wrap (s + t + l) = s + t + l := IntWalk.i64_in _ (by omega)
      clear hs ht hl hR hC hab hal hbb hj hW
      by_cases hmx : R < s + t + l
      · have HM : Hid (max R (s + t + l) = s + t + l) := by show _ = _; omega
        go_wp2
        go_quiet (fail)
        go_wp2
        go_roundw
        case rel => exact ⟨k + 1, by omega, by rw [HNX.out, HM.out], by go_num, HWQ.out _⟩
        case measure => simp [intOf]; omega
      · have HM : Hid (max R (s + t + l) = R) := by show _ = _; omega
        go_wp2
        go_quiet (fail)
        go_wp2
        go_roundw
        case rel => exact ⟨k + 1, by omega, by rw [HNX.out, HM.out], by go_num, HWQ.out _⟩
        case measure => simp [intOf]; omega
    · have k1 : ¬ (k : Int) < (n : Int) := by omega
      have HE : Hid (leastTo ts st i k = leastN ts st i) := by show _ = _; rw [HLN.out]; congr 1; omega
      have HWE := hwr
      clear hkn
      go_wp2
      go_ret
      exact ⟨ret_int HE.out, HWE.out⟩

def EndR (ts : List Tk) (st : List Int) (n : Nat) (w : World) (va vk : Value) (wr : World) : Prop :=
  ∃ (k : Nat), k ≤ n ∧ va = .int .i64 (endTo ts st k) ∧ vk = .int .i64 k ∧ Hid (Below w.heap.size w wr)

set_option maxRecDepth 100000 in
set_option maxHeartbeats 2000000 in
theorem lastEnd_any (vt vs : Value) (ts : List Tk) (st : List Int) (w : World) (ht : TasksR w vt ts) (hs : Ints w vs st) (hsm : SmTs ts) (hst : SmSt st ts.length) :
    Calls Try.prog 78 #[vt, vs] w fun e w' => e = .returned (.int .i64 (endTo ts st ts.length)) ∧ Below w.heap.size w w' := by
  obtain ⟨b, o, c, AB, CB, AL, CL, rfl, hcap, hbw, hV⟩ := ht.view hsm.n1
  obtain ⟨aS, cS, rfl, scap, hS⟩ := hs.view
  have HV := Lib.hid hV
  have HS := Lib.hid hS
  have HSM := Lib.hid hsm
  have HST := Lib.hid hst
  have HBD : Hid (∀ k, k ≤ ts.length → 0 ≤ endTo ts st k ∧ endTo ts st k ≤ 1000100) := fun k hk => endTo_bounds hsm hst k hk
  obtain ⟨T, hT⟩ : ∃ T, ts.length = T := ⟨_, rfl⟩
  have HT : Hid (ts.length = T) := hT
  rw [hst.1, hT]
  rw [hT] at hcap HBD
  have hT16 : T ≤ 16 := by rw [← hT]; exact hsm.n16
  clear ht hs hV hS hsm hst hT scap
  go_enter Try.func78, Try.ntmps78
  go_wp2
  go_loopw [5, 10] (fun va vk wr => EndR ts st T w va vk wr) (fun _ vk _ => T - (intOf vk).toNat)
  case atStart => exact ⟨0, Nat.zero_le _, rfl, rfl, Below.refl _ _⟩
  case round =>
    obtain ⟨k, hk, rfl, rfl, hW⟩ := hrel
    by_cases hkT : k < T
    · have k1 : (k : Int) < (T : Int) := by omega
      have k0 : (0 : Int) ≤ (k : Int) := by omega
      have hC := HV.out wr hW.out k (by rw [HT.out]; exact hkT)
      have e0 := hC.time
      have e1 := hC.need
      have e2 := hC.bef
      have e3 := hC.lag
      have hts := HSM.out.time k (by rw [HT.out]; exact hkT)
      have hss := HST.out.2 k (by rw [HT.out]; exact hkT)
      obtain ⟨b3, o3, haS, cs'⟩ := HS.out wr hW.out k (by rw [HST.out.1, HT.out]; exact hkT)
      subst haS
      have hb3 : b3 < wr.heap.size := lt_of_cell cs'
      have HNX : Hid (endTo ts st (k + 1) = max (endTo ts st k) (nth st k + timeN ts k)) := rfl
      have hbd := HBD.out k hk
      obtain ⟨s, hs⟩ : ∃ s, nth st k = s := ⟨_, rfl⟩
      obtain ⟨t, ht⟩ : ∃ t, timeN ts k = t := ⟨_, rfl⟩
      obtain ⟨R, hR⟩ : ∃ R, endTo ts st k = R := ⟨_, rfl⟩
      rw [hs] at hss cs' HNX
      rw [show (tkN ts k).1 = t from ht] at e0
      rw [ht] at hts HNX
      rw [hR] at hbd HNX ⊢
      have w1 : IntKind.i64.wrap (s + t) = s + t := IntWalk.i64_in _ (by omega)
      have HW2 : Hid (∀ q o, Below w.heap.size w ((wr.alloc o).drewN q)) := fun q o => below_drewN q (hW.out.alloc hW.out.size o)
      clear hs ht hR hC
      by_cases hmx : R < s + t
      · have HM : Hid (max R (s + t) = s + t) := by show _ = _; omega
        go_wp2
        go_quiet (fail)
        go_wp2
        go_roundw
        case rel => exact ⟨k + 1, by omega, by rw [HNX.out, HM.out], by go_num, HW2.out _ _⟩
        case measure => simp [intOf]; omega
      · have HM : Hid (max R (s + t) = R) := by show _ = _; omega
        go_wp2
        go_quiet (fail)
        go_wp2
        go_roundw
        case rel => exact ⟨k + 1, by omega, by rw [HNX.out, HM.out], by go_num, HW2.out _ _⟩
        case measure => simp [intOf]; omega
    · have k1 : ¬ (k : Int) < (T : Int) := by omega
      have HE : Hid (k = T) := by show _ = _; omega
      clear hkT
      go_wp2
      go_ret
      exact ⟨ret_int (by rw [HE.out]), hW.out⟩
end Go.Proofs.Ytcjeededlhdcbaa
