
/- The laws' own readers of bytes (a choice by a byte of a text). Conditions: small indexes and ranges. -/
import Derived.Test.YtmhepomjbaendaaSlices
namespace Go.Proofs.Ytmhepomjbaendaa
open Go.RowKit
set_option linter.unusedVariables false
set_option linter.unusedSimpArgs false

theorem b10Long_any (v u : Value) (xs ys : List Int) (w : World) (hv : Byts w v xs) (hu : Byts w u ys) :
    Calls Try.prog 10 #[v, u] w fun e w' => e = .returned (.bool (decide (1048576 < xs.length) || decide (1048576 < ys.length))) ∧ w = w' := by
  obtain ⟨hm, a, c, rfl, hcap, hc⟩ := hv
  obtain ⟨hm', a', c', rfl, hcap', hc'⟩ := hu
  unfold maxLen at hm hm'
  clear hc hc'
  by_cases h : 1048576 < xs.length
  · go_enter Try.func10, Try.ntmps10
    go_wp2
    go_ret
    exact ⟨ret_bool (by simp [h]), rfl⟩
  · have hd : decide (1048576 < xs.length) = false := by simpa using h
    by_cases h2 : 1048576 < ys.length
    · go_enter Try.func10, Try.ntmps10
      go_wp2
      go_ret
      exact ⟨ret_bool (by rw [hd]; first | rfl | (symm; simp; omega) | (rw [Bool.eq_iff_iff]; simp; omega)), rfl⟩
    · go_enter Try.func10, Try.ntmps10
      go_wp2
      go_ret
      exact ⟨ret_bool (by rw [hd]; first | rfl | (symm; simp; omega) | (rw [Bool.eq_iff_iff]; simp; omega)), rfl⟩

/-- A number from 0 to n - 1. -/
theorem b10At_any (v : Value) (xs : List Int) (i n : Int) (w : World) (hv : Byts w v xs) (hwf : ∀ x ∈ xs, (Lit.int .u8 x).wf = true) (hi : 0 ≤ i) (hi2 : i ≤ 100000000) (hn : 1 ≤ n) (hn2 : n ≤ 100000000) :
    Calls Try.prog 11 #[v, .int .i64 i, .int .i64 n] w fun e w' => (∃ x, e = .returned (.int .i64 x) ∧ 0 ≤ x ∧ x < n) ∧ w = w' := by
  obtain ⟨hm, a, c, rfl, hcap, hc⟩ := hv
  unfold maxLen at hm
  obtain ⟨k, rfl⟩ : ∃ k : Nat, i = k := ⟨i.toNat, by omega⟩
  by_cases h1 : n ≤ 1
  · clear hc
    go_enter Try.func11, Try.ntmps11
    go_wp2
    go_ret
    exact ⟨⟨0, rfl, by omega, by omega⟩, rfl⟩
  · by_cases hlt : k < xs.length
    · obtain ⟨b, o, rfl, hbs, hck⟩ := hc k hlt
      have hx := wf_u8_iff.1 (hwf xs[k] (List.getElem_mem _))
      obtain ⟨x, hxx⟩ : ∃ x, xs[k] = x := ⟨_, rfl⟩
      rw [hxx] at hck hx
      obtain ⟨hx1, hx2⟩ := hx
      clear hc hxx hwf
      go_enter Try.func11, Try.ntmps11
      go_wp2
      go_ret
      exact ⟨⟨x % n, rfl, Int.emod_nonneg _ (by omega), Int.emod_lt_of_pos _ (by omega)⟩, rfl⟩
    · clear hc
      go_enter Try.func11, Try.ntmps11
      go_wp2
      go_ret
      exact ⟨⟨((k : Int) * 37 + 11) % n, rfl, Int.emod_nonneg _ (by omega), Int.emod_lt_of_pos _ (by omega)⟩, rfl⟩
end Go.Proofs.Ytmhepomjbaendaa
