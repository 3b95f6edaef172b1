
/- Slices of texts that a call itself makes and appends to. Conditions: lengths at most 2^40. -/
import Derived.Test.YtcjeededlhdcbaaDoorAppendStep
namespace Go.Proofs.YtcjeededlhdcbaaDoor
open Go.RowKit
set_option linter.unusedVariables false
set_option linter.unusedSimpArgs false

theorem info_str : (Tryd.prog.info? 9).map (fun i => (i.zero, i.size, i.bytes)) = some (some (.string ByteArray.empty), 1, 16) := by kernel_rfl
/-- v is a slice of the call's own (in a block from B on, or nil), and it holds the texts xs. -/
def OwnT (w : World) (B : Nat) (v : Value) (xs : List ByteArray) : Prop := w.ownsRow B 9 1 v xs.length (xs.map Value.string)

theorem OwnT.alloc {w : World} {B : Nat} {v : Value} {xs : List ByteArray} (h : OwnT w B v xs) (o : Obj) : OwnT (w.alloc o) B v xs := World.ownsRow.alloc h o
theorem OwnT.kept {w w' : World} {B : Nat} {v : Value} {xs : List ByteArray} {row : Option Nat} (h : OwnT w B v xs) (hg : w.grownBy w' row) (hne : v.ownBlock = none ∨ v.ownBlock ≠ row) : OwnT w' B v xs := World.ownsRow.kept h hg hne
theorem OwnT.lt {w : World} {B : Nat} {v : Value} {xs : List ByteArray} (h : OwnT w B v xs) : ∀ k, v.ownBlock = some k → B ≤ k ∧ k < w.heap.size := World.ownsRow.lt h
theorem OwnT.below {w w' : World} {B N : Nat} {v : Value} {xs : List ByteArray} (h : OwnT w B v xs) (hb : Below N w w') (hN : w.heap.size ≤ N) : OwnT w' B v xs := by
  refine h.kept (row := none) ⟨hb.os, hb.tape, hb.output, hb.size, fun k hk _ => hb.block k (by omega)⟩ ?_
  cases v.ownBlock <;> simp
theorem OwnT.drewN {w : World} {B : Nat} {v : Value} {xs : List ByteArray} (h : OwnT w B v xs) (q : Nat) : OwnT (w.drewN q) B v xs := h.below (below_drewN q (Below.refl w.heap.size w)) (Nat.le_refl _)
theorem OwnT.mono {w : World} {B B' : Nat} {v : Value} {xs : List ByteArray} (h : OwnT w B v xs) (hB : B' ≤ B) : OwnT w B' v xs := by
  refine ⟨h.1, ?_⟩
  rcases h.2 with h2 | ⟨g, cap, cur, hv, hg, r⟩
  · exact .inl h2
  · exact .inr ⟨g, cap, cur, hv, by omega, r⟩
theorem OwnT.setCell {w : World} {B : Nat} {v : Value} {xs : List ByteArray} (h : OwnT w B v xs) {p : Addr} (u : Value) (hne : v.ownBlock ≠ some p.block) : OwnT (w.setCell p u) B v xs :=
  h.kept (row := some p.block) ⟨rfl, rfl, rfl, by simp [World.setCell], fun k hk hk' => Below.heap_setCell _ _ _ _ (fun e => hk' (by rw [e]))⟩ (.inr hne)

/-- A slice literal. -/
theorem OwnT.lit (w : World) (B : Nat) (xs : List ByteArray) (hB : B ≤ w.heap.size) (hx : xs.length ≤ maxLen) : OwnT (w.alloc (.cells (xs.map Value.string).toArray 9)) B (.slice (some ⟨w.heap.size, 0, none⟩) xs.length xs.length) xs := by
  have := World.ownsRow_lit (e := 9) (size := 1) w (xs.map Value.string).toArray xs.length hB hx (by simp)
  simpa [OwnT] using this

/-- What is known behind an append of at least one element. -/
theorem app_shapeT {W w' : World} {B : Nat} {v v' : Value} {xs ys : List ByteArray} {t : TypeId} (hy : 0 < ys.length) (hown : OwnT W B v xs)
    (h1 : w'.ownsRow B 9 1 v' (xs.length + ys.length) (xs.map Value.string ++ ys.map Value.string)) (h2 : (W.alloc (.cells (ys.map Value.string).toArray t)).grownBy w' v.ownBlock) :
    ∃ g c, v' = .slice (some ⟨g, 0, none⟩) (xs.length + ys.length) c ∧ OwnT w' B (.slice (some ⟨g, 0, none⟩) (xs.length + ys.length) c) (xs ++ ys) ∧ W.grownBy w' v.ownBlock := by
  have hg : W.grownBy w' v.ownBlock := ⟨h2.os, h2.tape, h2.output, Nat.le_trans (by simp) h2.size, fun k hk hne => (h2.block k (by simp; omega) hne).trans (Below.heap_alloc _ _ _ hk)⟩
  have h1' : OwnT w' B v' (xs ++ ys) := by unfold OwnT; simpa using h1
  rcases h1.2 with ⟨_, h0⟩ | ⟨g, cap, cur, rfl, _⟩
  · omega
  · exact ⟨g, cap, rfl, h1', hg⟩

theorem append_t {ops : Array Oper} {rest : List Oper} {o : Oper} {a : Act} {Q : Exit → Act → World → Prop} {W : World} (hgd : o.guard = none) (s x : Operand)
    (ho : o.op = .call { callee := .builtin .append, args := #[s, x], argTypes := #[38, 38] }) (B : Nat) (v : Value) (xs ys : List ByteArray) (hy : 0 < ys.length)
    (hs : a.eval s = v) (c : Nat) (hx : a.eval x = .slice (some ⟨W.heap.size, 0, none⟩) ys.length c) (hown : OwnT W B v xs) (hB : B ≤ W.heap.size) (hsmall : xs.length + ys.length ≤ 1099511627776)
    (hK : ∀ g c w', OwnT w' B (.slice (some ⟨g, 0, none⟩) (xs.length + ys.length) c) (xs ++ ys) → W.grownBy w' v.ownBlock → wpList Tryd.prog ops Q rest (a.put o.dst (.slice (some ⟨g, 0, none⟩) (xs.length + ys.length) c)) w') :
    wpList Tryd.prog ops Q (o :: rest) a (W.alloc (.cells (ys.map Value.string).toArray 9)) := by
  obtain ⟨i0, hi, hz0, hz1, hz2⟩ := info_parts info_str
  refine wpList_append_own _ hgd s x 38 ho B 9 i0 (.string ByteArray.empty) 1 16 Tryd.underlying38 hi hz0 hz1 hz2 rfl (by decide) v xs.length _ hs (World.ownsRow.alloc hown _) ⟨W.heap.size, 0, none⟩ ys.length c (ys.map Value.string) hx (by simp) (cells_lit W _ _) ?_ (by unfold maxLen; omega) (by omega) (by simp; omega) ?_
  · intro u hu; obtain ⟨y, _, rfl⟩ := List.mem_map.1 hu; rfl
  · intro v' w' h1 h2 _
    obtain ⟨g, c', rfl, h3, h4⟩ := app_shapeT hy hown h1 h2
    exact hK g c' w' h3 h4


theorem append_tN {ops : Array Oper} {rest : List Oper} {o : Oper} {a : Act} {Q : Exit → Act → World → Prop} {W : World} (hgd : o.guard = none) (s x : Operand)
    (ho : o.op = .call { callee := .builtin .append, args := #[s, x], argTypes := #[38, 38] }) (B : Nat) (v : Value) (xs ys : List ByteArray) (hy : 0 < ys.length)
    (hs : a.eval s = v) (c : Nat) (hx : a.eval x = .slice (some ⟨W.heap.size, 0, none⟩) ys.length c) (hown : OwnT W B v xs) (hB : B ≤ W.heap.size) (hsmall : xs.length + ys.length ≤ 1099511627776)
    (hK : ∀ g c n w', Hid (n = (xs ++ ys).length) → OwnT w' B (.slice (some ⟨g, 0, none⟩) n c) (xs ++ ys) → W.grownBy w' v.ownBlock → wpList Tryd.prog ops Q rest (a.put o.dst (.slice (some ⟨g, 0, none⟩) n c)) w') :
    wpList Tryd.prog ops Q (o :: rest) a (W.alloc (.cells (ys.map Value.string).toArray 9)) :=
  append_t hgd s x ho B v xs ys hy hs c hx hown hB hsmall fun g c w' h1 h2 => by
    have := hK g c _ w' rfl (by rw [List.length_append]; exact h1) h2
    rwa [List.length_append] at this
end Go.Proofs.YtcjeededlhdcbaaDoor
