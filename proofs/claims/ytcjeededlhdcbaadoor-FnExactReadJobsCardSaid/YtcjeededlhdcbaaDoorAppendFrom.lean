
/- append(s, t...) where t is a slice that was there before. Conditions: t is not empty; lengths at most 2^40. -/
import Derived.Test.YtcjeededlhdcbaaDoorAppend
namespace Go.Proofs.YtcjeededlhdcbaaDoor
open Go.RowKit
set_option linter.unusedVariables false
set_option linter.unusedSimpArgs false

theorem append_from {ops : Array Oper} {rest : List Oper} {o : Oper} {a : Act} {Q : Exit → Act → World → Prop} {W : World} (hgd : o.guard = none) (s x : Operand)
    (ho : o.op = .call { callee := .builtin .append, args := #[s, x], argTypes := #[42, 42] }) (B : Nat) (v : Value) (xs ys : List Int) (hy : 0 < ys.length)
    (hs : a.eval s = v) (b off c : Nat) (hx : a.eval x = .slice (some ⟨b, off, none⟩) ys.length c) (hcells : ∀ i (h : i < ys.length), W.cell? ⟨b, off + i, none⟩ = some (.int .i64 ys[i])) (hown : OwnI W B v xs) (hB : B ≤ W.heap.size) (hsmall : xs.length + ys.length ≤ 1099511627776)
    (hK : ∀ g c w', OwnI w' B (.slice (some ⟨g, 0, none⟩) (xs.length + ys.length) c) (xs ++ ys) → W.grownBy w' v.ownBlock → wpList Tryd.prog ops Q rest (a.put o.dst (.slice (some ⟨g, 0, none⟩) (xs.length + ys.length) c)) w') :
    wpList Tryd.prog ops Q (o :: rest) a W := by
  obtain ⟨i0, hi, hz0, hz1, hz2⟩ := info_parts info_i64
  refine wpList_append_own _ hgd s x 42 ho B 2 i0 (.int .i64 0) 1 8 Tryd.underlying42 hi hz0 hz1 hz2 rfl (by decide) v xs.length _ hs hown ⟨b, off, none⟩ ys.length c (ys.map (Value.int .i64)) hx (by simp) ?_ ?_ (by unfold maxLen; omega) (by omega) hB ?_
  · intro j u hj
    rw [List.getElem?_map] at hj
    cases h : ys[j]? with
    | none => rw [h] at hj; cases hj
    | some y =>
      rw [h] at hj
      obtain ⟨h1, h2⟩ := List.getElem?_eq_some_iff.1 h
      have hadd : (⟨b, off, none⟩ : Addr).add j = ⟨b, off + j, none⟩ := by unfold Addr.add; split <;> simp_all
      rw [hadd, hcells j h1, h2]
      simpa using hj
  · intro u hu; obtain ⟨y, _, rfl⟩ := List.mem_map.1 hu; rfl
  · intro v' w' h1 h2 _
    have h1' : OwnI w' B v' (xs ++ ys) := by unfold OwnI; simpa using h1
    rcases h1.2 with ⟨_, h0⟩ | ⟨g, cap, cur, rfl, _⟩
    · omega
    · exact hK g cap w' h1' h2
end Go.Proofs.YtcjeededlhdcbaaDoor
