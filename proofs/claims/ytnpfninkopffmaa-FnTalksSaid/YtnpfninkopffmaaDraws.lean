
/- The reference's source of choices: next and pick. Conditions: fewer than 2^40 choices. -/
import Derived.Test.YtnpfninkopffmaaClone
import Derived.Test.YtnpfninkopffmaaGrownL
import Derived.Laws.BitsLemmas
namespace Go.Proofs.Ytnpfninkopffmaa
open Go.RowKit Go.Shelf Go.BigFrame
set_option linter.unusedVariables false
set_option linter.unusedSimpArgs false
attribute [local go_sem] Oper.semAt_some

/-- At g lies a source over the bytes v, of which a choices have been made. -/
structure Src (W : World) (g : Nat) (v : Value) (a : Nat) : Prop where
  c0 : W.cell? ⟨g, 0, none⟩ = some v
  c1 : W.cell? ⟨g, 1, none⟩ = some (.int .i64 a)
  c2 : ∃ s : Int, W.cell? ⟨g, 2, none⟩ = some (.int .u64 s)
  f1 : W.frozen? ⟨g, 1, none⟩ = false
  f2 : W.frozen? ⟨g, 2, none⟩ = false
theorem Src.lt {W : World} {g : Nat} {v : Value} {a : Nat} (h : Src W g v a) : g < W.heap.size := lt_of_cell h.c0
theorem Src.grown {W W' : World} {g : Nat} {v : Value} {a : Nat} {L : List Nat} (h : Src W g v a) (hg : GrownL L W W') (hn : g ∉ L) : Src W' g v a := by
  have hb := hg.block g h.lt hn
  have hc : ∀ o, W'.cell? ⟨g, o, none⟩ = W.cell? ⟨g, o, none⟩ := fun o => by simp only [World.cell?, hb]
  have hf : ∀ o, W'.frozen? ⟨g, o, none⟩ = W.frozen? ⟨g, o, none⟩ := fun o => by simp only [World.frozen?, hb]
  exact ⟨(hc _).trans h.c0, (hc _).trans h.c1, by obtain ⟨s, hs⟩ := h.c2; exact ⟨s, (hc _).trans hs⟩, (hf _).trans h.f1, (hf _).trans h.f2⟩

theorem and255 (s : Int) : 0 ≤ bits .and .u64 (IntKind.u64.wrap s / 1099511627776) 255 ∧ bits .and .u64 (IntKind.u64.wrap s / 1099511627776) 255 ≤ 255 := by
  have hw : IntKind.u64.wrap s = s % 18446744073709551616 := by simp [IntKind.wrap, IntKind.bits, IntKind.signed]
  obtain ⟨n, hn⟩ : ∃ n : Nat, IntKind.u64.wrap s / 1099511627776 = n := ⟨(IntKind.u64.wrap s / 1099511627776).toNat, by rw [hw]; omega⟩
  have hlt : n < 2 ^ 32 := by rw [hw] at hn; omega
  have h1 := (bits_nat .u64 32 (by decide) (fun m h0 h1 => by rw [show IntKind.u64.wrap m = m % 18446744073709551616 by simp [IntKind.wrap, IntKind.bits, IntKind.signed]]; omega) n 255 hlt (by decide)).1
  have h2 : ((255 : Nat) : Int) = 255 := rfl
  rw [h2] at h1
  rw [hn, h1]
  have := Nat.and_le_right (n := n) (m := 255)
  omega

theorem Src.drewN {w : World} {g a : Nat} {v : Value} (h : Src w g v a) (q : Nat) : Src (w.drewN q) g v a := by
  have hc : ∀ p, (w.drewN q).cell? p = w.cell? p := fun _ => rfl
  have hf : ∀ p, (w.drewN q).frozen? p = w.frozen? p := fun _ => rfl
  exact ⟨h.c0, h.c1, h.c2, h.f1, h.f2⟩
/-- What one choice leaves of the source. -/
theorem Src.next {w : World} {g a : Nat} {v : Value} (hs : Src w g v a) (s : Int) (p q : Nat) : Src ((((w.drewN p).setCell ⟨g, 1, none⟩ (.int .i64 ((a : Int) + 1))).setCell ⟨g, 2, none⟩ (.int .u64 s)).drewN q) g v (a + 1) ∧ GrownL [g] w ((((w.drewN p).setCell ⟨g, 1, none⟩ (.int .i64 ((a : Int) + 1))).setCell ⟨g, 2, none⟩ (.int .u64 s)).drewN q) := by
  have hs' := hs.drewN p
  obtain ⟨W, hW⟩ : ∃ W, w.drewN p = W := ⟨_, rfl⟩
  have hg : GrownL [g] w W := by rw [← hW]; exact (GrownL.refl [g] w).drewN p
  rw [hW] at hs' ⊢
  have c0 := hs'.c0
  have c1 := hs'.c1
  obtain ⟨s0, c2⟩ := hs'.c2
  have f1 := hs'.f1
  have f2 := hs'.f2
  refine ⟨Src.drewN ⟨?_, ?_, ⟨s, ?_⟩, ?_, ?_⟩ q, ((hg.setCell _ _ (.inl (by simp))).setCell _ _ (.inl (by simp))).drewN q⟩
  all_goals simp [go_sem, c0, c1, c2, f1, f2]

set_option maxHeartbeats 1000000 in
theorem next_any (v : Value) (xs : List Int) (g a : Nat) (w : World) (hv : Byts w v xs) (hb : ∀ n ∈ xs, (Lit.int .u8 n).wf = true) (hs : Src w g v a) (ha : a ≤ 1099511627776) :
    Calls Try.prog 111 #[.pointer (some ⟨g, 0, none⟩)] w fun e w' => (∃ x : Int, e = .returned (.int .i64 x) ∧ 0 ≤ x ∧ x ≤ 255) ∧ Src w' g v (a + 1) ∧ GrownL [g] w w' := by
  obtain ⟨hm, ad, c, rfl, hcap, hc⟩ := hv
  have c0 := hs.c0
  have c1 := hs.c1
  obtain ⟨s, c2⟩ := hs.c2
  have f1 := hs.f1
  have f2 := hs.f2
  have HC := Lib.hid hc
  unfold maxLen at hm
  clear hc
  go_enter Try.func111, Try.ntmps111
  have HN := Lib.hid (fun s p q => hs.next s p q)
  clear hs
  by_cases hlt : a < xs.length
  · obtain ⟨b, off, rfl, hbl, h1⟩ := HC.out a hlt
    have hlt' : (a : Int) < (xs.length : Int) := by omega
    have i0 : (0 : Int) ≤ (a : Int) := by omega
    have hx := wf_u8_iff.1 (hb _ (List.getElem_mem hlt))
    obtain ⟨x, hx'⟩ : ∃ x, xs[a] = x := ⟨_, rfl⟩
    rw [hx'] at hx h1
    have hw : wrap64 x = x := IntWalk.wrap64_in _ ⟨by omega, by omega⟩
    go_wp2
    go_quiet (fail)
    go_wp2
    go_quiet (fail)
    go_wp2
    go_quiet (fail)
    go_wp2
    go_ret
    exact ⟨⟨x, rfl, hx.1, hx.2⟩, HN.out _ _ _⟩
  · have hlt' : ¬ (a : Int) < (xs.length : Int) := by omega
    have hle : ¬ (a : Int) + 1 ≤ (xs.length : Int) := by omega
    go_wp2
    go_quiet (fail)
    go_wp2
    go_quiet (fail)
    go_wp2
    go_ret
    have h255 := and255 (IntKind.u64.wrap (IntKind.u64.wrap (s * 6364136223846793005)) + 1442695040888963407)
    refine ⟨⟨_, rfl, ?_, ?_⟩, HN.out _ _ _⟩
    · rw [IntWalk.wrap64_in _ ⟨by omega, by omega⟩]; exact h255.1
    · rw [IntWalk.wrap64_in _ ⟨by omega, by omega⟩]; exact h255.2

theorem from_any (v : Value) (xs : List Int) (w : World) (hv : Byts w v xs) :
    Calls Try.prog 71 #[v] w fun e w' => e = .returned (.pointer (some ⟨w.heap.size, 0, none⟩)) ∧ Src w' w.heap.size v 0 ∧ Below w.heap.size w w' ∧ w'.heap.size = w.heap.size + 1 := by
  obtain ⟨hm, ad, c, rfl, hcap, hc⟩ := hv
  clear hc
  go_enter Try.func71, Try.ntmps71
  go_wp2
  go_ret
  refine ⟨rfl, ⟨?_, ?_, ⟨0, ?_⟩, ?_, ?_⟩, (Below.refl _ _).alloc (Nat.le_refl _) _, by simp⟩
  all_goals simp [go_sem]

set_option maxHeartbeats 1000000 in
theorem pick_any (v : Value) (xs : List Int) (g a : Nat) (n : Int) (w : World) (hv : Byts w v xs) (hb : ∀ n ∈ xs, (Lit.int .u8 n).wf = true) (hs : Src w g v a) (ha : a ≤ 1099511627776) (hn : n ≤ 200) :
    Calls Try.prog 72 #[.pointer (some ⟨g, 0, none⟩), .int .i64 n] w fun e w' => (∃ x : Int, e = .returned (.int .i64 x) ∧ 0 ≤ x ∧ (1 ≤ n → x < n)) ∧ (∃ a', a' ≤ a + 1 ∧ Src w' g v a') ∧ GrownL [g] w w' := by
  have hcall := next_any v xs g a w hv hb hs ha
  have HC := Lib.hid hcall
  have HS := Lib.hid hs
  clear hcall hs hv hb
  by_cases h1 : n ≤ 1
  · go_enter Try.func72, Try.ntmps72
    go_wp2
    go_ret
    exact ⟨⟨0, rfl, Int.le_refl _, fun h => by omega⟩, ⟨a, by omega, HS.out⟩, GrownL.refl _ _⟩
  · have h2 : ¬ n > 200 := by omega
    have h3 : n ≠ 0 := by omega
    go_enter Try.func72, Try.ntmps72
    go_wp2_with fail
    refine HC.out.mono ?_
    rintro e w' ⟨⟨x, rfl, x0, x1⟩, hs', hg'⟩
    have HS' := Lib.hid hs'
    have HG' := Lib.hid hg'
    clear hs' hg'
    go_wp2
    go_ret
    exact ⟨⟨x % n, rfl, Int.emod_nonneg _ h3, fun _ => Int.emod_lt_of_pos _ (by omega)⟩, ⟨a + 1, Nat.le_refl _, HS'.out⟩, HG'.out⟩
end Go.Proofs.Ytnpfninkopffmaa
