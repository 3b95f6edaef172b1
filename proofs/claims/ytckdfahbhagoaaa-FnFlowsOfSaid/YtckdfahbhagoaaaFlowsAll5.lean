/- impl: gap, flow of shops. Conditions: valid times. With texts that it needs. -/
import Derived.Test.YtckdfahbhagoaaaFlowsAll4
import Derived.Test.YtckdfahbhagoaaaFlowsAll2
import Derived.Laws.BitsLemmas
import Derived.Test.YtckdfahbhagoaaaFlowsAll1
import Derived.Deep.AppendLies
import Derived.Deep.RegionHeld3
namespace Go.Proofs.Ytckdfahbhagoaaa
open Go.RowKit Go.Shelf
set_option linter.unusedVariables false
set_option linter.unusedSimpArgs false

theorem GrownL.keep2 {gs : List Nat} {A W : World} (h : GrownL gs A W) {Bs Bn : Nat} (h1 : Bs < A.heap.size) (h2 : Bn < A.heap.size) (n1 : Bs ∉ gs) (n2 : Bn ∉ gs) : Keep2 Bs Bn A W := ⟨h.block _ h1 n1, h.block _ h2 n2⟩
theorem GrownL.keepsFrom {gs : List Nat} {A W : World} (h : GrownL gs A W) {B : Nat} (hB : ∀ i, B ≤ i → i ∉ gs) : KeepsFrom B A W :=
  ⟨h.size, fun k o hk ho _ => (h.block k (Array.getElem?_eq_some_iff.1 ho).1 (hB k hk)).trans ho⟩
theorem ownFrom_grownL {β : Type} {B : Nat} {gs : List Nat} {A : World} (hA : A.heap.size ≤ B) : OwnFrom B (fun (_ : β) W => GrownL gs A W) :=
  fun s W W' row hs hg hr => hs.grown hg (fun j e => .inr (by have := (hr j e).1; omega))
theorem ownFrom_ownI {β : Type} {B N g n c : Nat} (f : β → List Int) : OwnFrom B (fun s W => OwnI W N (.slice (some ⟨g, 0, none⟩) n c) (f s)) := by
  intro s W W' row h2 hg hr
  refine h2.kept hg (.inr ?_)
  intro e
  obtain ⟨_, o, ho, hc⟩ := hr g e.symm
  obtain ⟨cur, hcur⟩ := h2.block
  rw [ho] at hcur
  cases hcur
  cases hc
end Go.Proofs.Ytckdfahbhagoaaa

namespace Go.Proofs.Ytckdfahbhagoaaa
open Go.RowKit Go.Shelf Go.BigFrame
set_option linter.unusedVariables false
set_option linter.unusedSimpArgs false
attribute [local go_sem] Oper.semAt_some

/-- At g lies a source over the bytes v, of which a choices have been made. -/
structure Src (W : World) (g : Nat) (v : Value) (a : Nat) : Prop where
  c0 : W.cell? ⟨g, 0, none⟩ = some v
  c1 : W.cell? ⟨g, 1, none⟩ = some (.int .i64 a)
  c2 : ∃ s : Int, W.cell? ⟨g, 2, none⟩ = some (.int .u64 s)
  f1 : W.frozen? ⟨g, 1, none⟩ = false
  f2 : W.frozen? ⟨g, 2, none⟩ = false
theorem Src.lt {W : World} {g : Nat} {v : Value} {a : Nat} (h : Src W g v a) : g < W.heap.size := lt_of_cell h.c0
theorem Src.grown {W W' : World} {g : Nat} {v : Value} {a : Nat} {L : List Nat} (h : Src W g v a) (hg : GrownL L W W') (hn : g ∉ L) : Src W' g v a := by
  have hb := hg.block g h.lt hn
  have hc : ∀ o, W'.cell? ⟨g, o, none⟩ = W.cell? ⟨g, o, none⟩ := fun o => by simp only [World.cell?, hb]
  have hf : ∀ o, W'.frozen? ⟨g, o, none⟩ = W.frozen? ⟨g, o, none⟩ := fun o => by simp only [World.frozen?, hb]
  exact ⟨(hc _).trans h.c0, (hc _).trans h.c1, by obtain ⟨s, hs⟩ := h.c2; exact ⟨s, (hc _).trans hs⟩, (hf _).trans h.f1, (hf _).trans h.f2⟩

theorem and255 (s : Int) : 0 ≤ bits .and .u64 (IntKind.u64.wrap s / 1099511627776) 255 ∧ bits .and .u64 (IntKind.u64.wrap s / 1099511627776) 255 ≤ 255 := by
  have hw : IntKind.u64.wrap s = s % 18446744073709551616 := by simp [IntKind.wrap, IntKind.bits, IntKind.signed]
  obtain ⟨n, hn⟩ : ∃ n : Nat, IntKind.u64.wrap s / 1099511627776 = n := ⟨(IntKind.u64.wrap s / 1099511627776).toNat, by rw [hw]; omega⟩
  have hlt : n < 2 ^ 32 := by rw [hw] at hn; omega
  have h1 := (bits_nat .u64 32 (by decide) (fun m h0 h1 => by rw [show IntKind.u64.wrap m = m % 18446744073709551616 by simp [IntKind.wrap, IntKind.bits, IntKind.signed]]; omega) n 255 hlt (by decide)).1
  have h2 : ((255 : Nat) : Int) = 255 := rfl
  rw [h2] at h1
  rw [hn, h1]
  have := Nat.and_le_right (n := n) (m := 255)
  omega

theorem Src.drewN {w : World} {g a : Nat} {v : Value} (h : Src w g v a) (q : Nat) : Src (w.drewN q) g v a := by
  have hc : ∀ p, (w.drewN q).cell? p = w.cell? p := fun _ => rfl
  have hf : ∀ p, (w.drewN q).frozen? p = w.frozen? p := fun _ => rfl
  exact ⟨h.c0, h.c1, h.c2, h.f1, h.f2⟩
/-- What one choice leaves of the source. -/
theorem Src.next {w : World} {g a : Nat} {v : Value} (hs : Src w g v a) (s : Int) (p q : Nat) : Src ((((w.drewN p).setCell ⟨g, 1, none⟩ (.int .i64 ((a : Int) + 1))).setCell ⟨g, 2, none⟩ (.int .u64 s)).drewN q) g v (a + 1) ∧ GrownL [g] w ((((w.drewN p).setCell ⟨g, 1, none⟩ (.int .i64 ((a : Int) + 1))).setCell ⟨g, 2, none⟩ (.int .u64 s)).drewN q) := by
  have hs' := hs.drewN p
  obtain ⟨W, hW⟩ : ∃ W, w.drewN p = W := ⟨_, rfl⟩
  have hg : GrownL [g] w W := by rw [← hW]; exact (GrownL.refl [g] w).drewN p
  rw [hW] at hs' ⊢
  have c0 := hs'.c0
  have c1 := hs'.c1
  obtain ⟨s0, c2⟩ := hs'.c2
  have f1 := hs'.f1
  have f2 := hs'.f2
  refine ⟨Src.drewN ⟨?_, ?_, ⟨s, ?_⟩, ?_, ?_⟩ q, ((hg.setCell _ _ (.inl (by simp))).setCell _ _ (.inl (by simp))).drewN q⟩
  all_goals simp [go_sem, c0, c1, c2, f1, f2]

set_option maxHeartbeats 1000000 in
theorem next_any (v : Value) (xs : List Int) (g a : Nat) (w : World) (hv : Byts w v xs) (hb : ∀ n ∈ xs, (Lit.int .u8 n).wf = true) (hs : Src w g v a) (ha : a ≤ 1099511627776) :
    Calls Try.prog 36 #[.pointer (some ⟨g, 0, none⟩)] w fun e w' => (∃ x : Int, e = .returned (.int .i64 x) ∧ 0 ≤ x ∧ x ≤ 255) ∧ Src w' g v (a + 1) ∧ GrownL [g] w w' := by
  obtain ⟨hm, ad, c, rfl, hcap, hc⟩ := hv
  have c0 := hs.c0
  have c1 := hs.c1
  obtain ⟨s, c2⟩ := hs.c2
  have f1 := hs.f1
  have f2 := hs.f2
  have HC := Lib.hid hc
  unfold maxLen at hm
  clear hc
  go_enter Try.func36, Try.ntmps36
  have HN := Lib.hid (fun s p q => hs.next s p q)
  clear hs
  by_cases hlt : a < xs.length
  · obtain ⟨b, off, rfl, hbl, h1⟩ := HC.out a hlt
    have hlt' : (a : Int) < (xs.length : Int) := by omega
    have i0 : (0 : Int) ≤ (a : Int) := by omega
    have hx := wf_u8_iff.1 (hb _ (List.getElem_mem hlt))
    obtain ⟨x, hx'⟩ : ∃ x, xs[a] = x := ⟨_, rfl⟩
    rw [hx'] at hx h1
    have hw : wrap64 x = x := IntWalk.wrap64_in _ ⟨by omega, by omega⟩
    go_wp2
    go_quiet (fail)
    go_wp2
    go_quiet (fail)
    go_wp2
    go_quiet (fail)
    go_wp2
    go_ret
    exact ⟨⟨x, rfl, hx.1, hx.2⟩, HN.out _ _ _⟩
  · have hlt' : ¬ (a : Int) < (xs.length : Int) := by omega
    have hle : ¬ (a : Int) + 1 ≤ (xs.length : Int) := by omega
    go_wp2
    go_quiet (fail)
    go_wp2
    go_quiet (fail)
    go_wp2
    go_ret
    have h255 := and255 (IntKind.u64.wrap (IntKind.u64.wrap (s * 6364136223846793005)) + 1442695040888963407)
    refine ⟨⟨_, rfl, ?_, ?_⟩, HN.out _ _ _⟩
    · rw [IntWalk.wrap64_in _ ⟨by omega, by omega⟩]; exact h255.1
    · rw [IntWalk.wrap64_in _ ⟨by omega, by omega⟩]; exact h255.2

theorem from_any (v : Value) (xs : List Int) (w : World) (hv : Byts w v xs) :
    Calls Try.prog 18 #[v] w fun e w' => e = .returned (.pointer (some ⟨w.heap.size, 0, none⟩)) ∧ Src w' w.heap.size v 0 ∧ Below w.heap.size w w' ∧ w'.heap.size = w.heap.size + 1 := by
  obtain ⟨hm, ad, c, rfl, hcap, hc⟩ := hv
  clear hc
  go_enter Try.func18, Try.ntmps18
  go_wp2
  go_ret
  refine ⟨rfl, ⟨?_, ?_, ⟨0, ?_⟩, ?_, ?_⟩, (Below.refl _ _).alloc (Nat.le_refl _) _, by simp⟩
  all_goals simp [go_sem]

set_option maxHeartbeats 1000000 in
theorem pick_any (v : Value) (xs : List Int) (g a : Nat) (n : Int) (w : World) (hv : Byts w v xs) (hb : ∀ n ∈ xs, (Lit.int .u8 n).wf = true) (hs : Src w g v a) (ha : a ≤ 1099511627776) (hn : n ≤ 200) :
    Calls Try.prog 19 #[.pointer (some ⟨g, 0, none⟩), .int .i64 n] w fun e w' => (∃ x : Int, e = .returned (.int .i64 x) ∧ 0 ≤ x ∧ (1 ≤ n → x < n)) ∧ (∃ a', a' ≤ a + 1 ∧ Src w' g v a') ∧ GrownL [g] w w' := by
  have hcall := next_any v xs g a w hv hb hs ha
  have HC := Lib.hid hcall
  have HS := Lib.hid hs
  clear hcall hs hv hb
  by_cases h1 : n ≤ 1
  · go_enter Try.func19, Try.ntmps19
    go_wp2
    go_ret
    exact ⟨⟨0, rfl, Int.le_refl _, fun h => by omega⟩, ⟨a, by omega, HS.out⟩, GrownL.refl _ _⟩
  · have h2 : ¬ n > 200 := by omega
    have h3 : n ≠ 0 := by omega
    go_enter Try.func19, Try.ntmps19
    go_wp2_with fail
    refine HC.out.mono ?_
    rintro e w' ⟨⟨x, rfl, x0, x1⟩, hs', hg'⟩
    have HS' := Lib.hid hs'
    have HG' := Lib.hid hg'
    clear hs' hg'
    go_wp2
    go_ret
    exact ⟨⟨x % n, rfl, Int.emod_nonneg _ h3, fun _ => Int.emod_lt_of_pos _ (by omega)⟩, ⟨a + 1, Nat.le_refl _, HS'.out⟩, HG'.out⟩
end Go.Proofs.Ytckdfahbhagoaaa

namespace Go.Proofs.Ytckdfahbhagoaaa
open Go.RowKit
set_option linter.unusedVariables false
set_option linter.unusedSimpArgs false

theorem subQ_len : ∀ (A B : List Int), A.Pairwise (fun x y => x ≠ y) → (∀ x ∈ A, x ∈ B) → A.length ≤ B.length
  | [], B, _, _ => Nat.zero_le _
  | a :: A, B, hd, hs => by
    rw [List.pairwise_cons] at hd
    have h1 := hs a List.mem_cons_self
    have h2 := subQ_len A (B.erase a) hd.2 (fun x hx => (List.mem_erase_of_ne (Ne.symm (hd.1 x hx))).2 (hs x (List.mem_cons_of_mem _ hx)))
    have h3 := (List.perm_cons_erase h1).length_eq
    simp only [List.length_cons] at h3 ⊢
    omega
theorem subQ_perm : ∀ (A B : List Int), A.Pairwise (fun x y => x ≠ y) → (∀ x ∈ A, x ∈ B) → B.length ≤ A.length → A.Perm B
  | [], B, _, _, hl => by rw [List.eq_nil_of_length_eq_zero (Nat.le_zero.1 hl)]
  | a :: A, B, hd, hs, hl => by
    rw [List.pairwise_cons] at hd
    have h1 := hs a List.mem_cons_self
    have h3 := (List.perm_cons_erase h1).length_eq
    simp only [List.length_cons] at h3 hl
    have h2 := subQ_perm A (B.erase a) hd.2 (fun x hx => (List.mem_erase_of_ne (Ne.symm (hd.1 x hx))).2 (hs x (List.mem_cons_of_mem _ hx))) (by omega)
    exact (h2.cons a).trans (List.perm_cons_erase h1).symm
theorem idQ_nodup (n : Nat) : (idL n).Pairwise fun x y => x ≠ y := by
  rw [List.pairwise_iff_getElem]
  intro i j hi hj hij
  rw [idL_length] at hi hj
  rw [← nth_eq, ← nth_eq, idL_get hi, idL_get hj]; omega
theorem permQ_nodup {E : List Int} {n : Nat} (h : E.Perm (idL n)) : E.Pairwise (fun x y => x ≠ y) := (h.pairwise_iff (fun h => Ne.symm h)).2 (idQ_nodup n)


/-- All orders that begin with p (d more numbers), handed to step one after another. -/
def permTo {σ : Type} (rec_ : List Int → σ → σ) (p : List Int) (s : σ) (m : Nat) : σ :=
  (List.range m).foldl (fun a (i : Nat) => if p.contains (i : Int) then a else rec_ (p ++ [(i : Int)]) a) s
def permF {σ : Type} (n : Nat) (step : σ → List Int → σ) : Nat → List Int → σ → σ
  | 0, p, s => step s p
  | d + 1, p, s => permTo (permF n step d) p s n
theorem permTo_succ {σ : Type} (rec_ : List Int → σ → σ) (p : List Int) (s : σ) (m : Nat) :
    permTo rec_ p s (m + 1) = if p.contains (m : Int) then permTo rec_ p s m else rec_ (p ++ [(m : Int)]) (permTo rec_ p s m) := by
  unfold permTo; rw [List.range_succ, List.foldl_append]; rfl
/-- All orders that begin with p. -/
def permL (n : Nat) : Nat → List Int → List (List Int)
  | 0, p => [p]
  | d + 1, p => (List.range n).flatMap fun (i : Nat) => if p.contains (i : Int) then [] else permL n d (p ++ [(i : Int)])
theorem foldl_flat {α β σ : Type} (f : α → List β) (g : σ → β → σ) : ∀ (l : List α) (s : σ), (l.flatMap f).foldl g s = l.foldl (fun a x => (f x).foldl g a) s
  | [], s => rfl
  | x :: l, s => by rw [List.flatMap_cons, List.foldl_append, foldl_flat f g l]; rfl
theorem foldl_same {α σ : Type} {f g : σ → α → σ} : ∀ (l : List α) (s : σ), (∀ a, ∀ x ∈ l, f a x = g a x) → l.foldl f s = l.foldl g s
  | [], s, _ => rfl
  | x :: l, s, h => by
    rw [List.foldl_cons, List.foldl_cons, h s x List.mem_cons_self]
    exact foldl_same l _ (fun a y hy => h a y (List.mem_cons_of_mem _ hy))
theorem permF_eq {σ : Type} (n : Nat) (step : σ → List Int → σ) : ∀ (d : Nat) (p : List Int) (s : σ), permF n step d p s = (permL n d p).foldl step s
  | 0, p, s => rfl
  | d + 1, p, s => by
    show permTo _ p s n = ((List.range n).flatMap _).foldl step s
    rw [foldl_flat]
    unfold permTo
    refine foldl_same _ _ fun a i _ => ?_
    by_cases h : p.contains (i : Int) = true
    · rw [if_pos h, if_pos h]; rfl
    · rw [if_neg h, if_neg h]; exact permF_eq n step d _ a
/-- Numbers below n, each once. -/
structure PreOk (n : Nat) (p : List Int) : Prop where
  nodup : p.Pairwise fun x y => x ≠ y
  lt : ∀ x ∈ p, 0 ≤ x ∧ x < (n : Int)
theorem PreOk.nil (n : Nat) : PreOk n [] := ⟨List.Pairwise.nil, fun x hx => by simp at hx⟩
theorem PreOk.push {n : Nat} {p : List Int} (h : PreOk n p) {i : Nat} (hi : i < n) (hc : p.contains (i : Int) = false) : PreOk n (p ++ [(i : Int)]) := by
  refine ⟨List.pairwise_append.2 ⟨h.nodup, by simp, fun x hx y hy => ?_⟩, fun x hx => ?_⟩
  · rw [List.mem_singleton] at hy
    subst hy
    rintro rfl
    rw [List.contains_iff_mem.2 hx] at hc
    cases hc
  · rcases List.mem_append.1 hx with h1 | h1
    · exact h.lt x h1
    · rw [List.mem_singleton] at h1
      omega
theorem PreOk.len {n : Nat} {p : List Int} (h : PreOk n p) : p.length ≤ n := by
  have := subQ_len p (idL n) h.nodup (fun x hx => idL_mem.2 (h.lt x hx))
  rwa [idL_length] at this
theorem PreOk.perm {n : Nat} {p : List Int} (h : PreOk n p) (hl : p.length = n) : p.Perm (idL n) :=
  subQ_perm p (idL n) h.nodup (fun x hx => idL_mem.2 (h.lt x hx)) (by rw [idL_length]; omega)
theorem PreOk.of_perm {n : Nat} {p : List Int} (h : p.Perm (idL n)) : PreOk n p :=
  ⟨permQ_nodup h, fun x hx => idL_mem.1 (h.mem_iff.1 hx)⟩
theorem PreOk.left {n : Nat} {p q : List Int} (h : PreOk n (p ++ q)) : PreOk n p :=
  ⟨(List.pairwise_append.1 h.nodup).1, fun x hx => h.lt x (List.mem_append_left _ hx)⟩
theorem permL_pre {n : Nat} : ∀ {d : Nat} {p E : List Int}, E ∈ permL n d p → ∃ q, E = p ++ q ∧ q.length = d
  | 0, p, E, h => ⟨[], by simpa [permL] using h, rfl⟩
  | d + 1, p, E, h => by
    obtain ⟨i, hi, h2⟩ := List.mem_flatMap.1 h
    split at h2
    · cases h2
    · obtain ⟨q, rfl, hq⟩ := permL_pre h2
      exact ⟨(i : Int) :: q, by simp, by simp [hq]⟩
theorem permL_ok {n : Nat} : ∀ {d : Nat} {p E : List Int}, PreOk n p → E ∈ permL n d p → PreOk n E
  | 0, p, E, hp, h => by
    have : E = p := by simpa [permL] using h
    rw [this]; exact hp
  | d + 1, p, E, hp, h => by
    obtain ⟨i, hi, h2⟩ := List.mem_flatMap.1 h
    split at h2
    · cases h2
    · rename_i hc
      exact permL_ok (hp.push (List.mem_range.1 hi) (by simpa using hc)) h2
theorem mem_permL {n : Nat} : ∀ (q p : List Int), PreOk n (p ++ q) → p ++ q ∈ permL n q.length p
  | [], p, h => by simp [permL]
  | x :: q, p, h => by
    have hx := h.lt x (by simp)
    obtain ⟨i, rfl⟩ : ∃ i : Nat, x = i := ⟨x.toNat, by omega⟩
    show _ ∈ (List.range n).flatMap _
    refine List.mem_flatMap.2 ⟨i, List.mem_range.2 (by omega), ?_⟩
    have hc : ¬ p.contains (i : Int) = true := by
      intro hc
      exact (List.pairwise_append.1 h.nodup).2.2 _ (List.contains_iff_mem.1 hc) _ List.mem_cons_self rfl
    rw [if_neg hc]
    have h2 : p ++ (i : Int) :: q = (p ++ [(i : Int)]) ++ q := by simp
    rw [h2] at h ⊢
    exact mem_permL q _ h
theorem permL_perm {n : Nat} {E : List Int} : E ∈ permL n n [] ↔ E.Perm (idL n) := by
  constructor
  · intro h
    obtain ⟨q, rfl, hq⟩ := permL_pre h
    exact (permL_ok (PreOk.nil n) h).perm (by simpa using hq)
  · intro h
    have hl : E.length = n := by rw [h.length_eq, idL_length]
    have := mem_permL E [] (by simpa using PreOk.of_perm h)
    rwa [hl, List.nil_append] at this

/-- The first one with the least number. -/
def flStep (f : List Int → Option Int) (s : Option (List Int × Int)) (E : List Int) : Option (List Int × Int) :=
  match f E with
  | none => s
  | some x => match s with
    | none => some (E, x)
    | some b => if x < b.2 then some (E, x) else s
theorem flStep_none {f : List Int → Option Int} {s : Option (List Int × Int)} {E : List Int} (h : f E = none) : flStep f s E = s := by unfold flStep; rw [h]
theorem fl_spec (f : List Int → Option Int) : ∀ (L : List (List Int)) (s : Option (List Int × Int)),
    (L.foldl (flStep f) s = none → s = none ∧ ∀ E ∈ L, f E = none) ∧
    ∀ b l, L.foldl (flStep f) s = some (b, l) → (s = some (b, l) ∨ (b ∈ L ∧ f b = some l)) ∧ (∀ E ∈ L, ∀ x, f E = some x → l ≤ x) ∧ ∀ b0 l0, s = some (b0, l0) → l ≤ l0
  | [], s => ⟨fun h => ⟨h, fun E hE => by simp at hE⟩, fun b l h => ⟨.inl h, fun E hE => by simp at hE, fun b0 l0 h0 => by
      have h1 : s = some (b, l) := h
      rw [h0] at h1; injection h1 with h1; injection h1 with h1 h2; omega⟩⟩
  | E :: L, s => by
    obtain ⟨h1, h2⟩ := fl_spec f L (flStep f s E)
    rw [List.foldl_cons]
    cases hf : f E with
    | none =>
      rw [flStep_none hf] at h1 h2 ⊢
      refine ⟨fun h => ⟨(h1 h).1, fun E' hE' => ?_⟩, fun b l h => ?_⟩
      · rcases List.mem_cons.1 hE' with rfl | h3
        · exact hf
        · exact (h1 h).2 _ h3
      · obtain ⟨a1, a2, a3⟩ := h2 b l h
        refine ⟨a1.imp id (fun q => ⟨List.mem_cons_of_mem _ q.1, q.2⟩), fun E' hE' x hx => ?_, a3⟩
        rcases List.mem_cons.1 hE' with rfl | h3
        · rw [hf] at hx; cases hx
        · exact a2 _ h3 x hx
    | some x =>
      have key : ∃ b1 l1, flStep f s E = some (b1, l1) ∧ l1 ≤ x ∧ ((s = some (b1, l1)) ∨ (b1 = E ∧ l1 = x)) ∧ ∀ b0 l0, s = some (b0, l0) → l1 ≤ l0 := by
        unfold flStep
        rw [hf]
        cases s with
        | none => exact ⟨E, x, rfl, Int.le_refl _, .inr ⟨rfl, rfl⟩, fun b0 l0 h => by cases h⟩
        | some b =>
          by_cases hb : x < b.2
          · refine ⟨E, x, if_pos hb, Int.le_refl _, .inr ⟨rfl, rfl⟩, fun b0 l0 h => ?_⟩
            injection h with h; subst h; exact Int.le_of_lt hb
          · refine ⟨b.1, b.2, if_neg hb, by omega, .inl rfl, fun b0 l0 h => ?_⟩
            injection h with h; subst h; exact Int.le_refl _
      obtain ⟨b1, l1, k1, k2, k3, k4⟩ := key
      rw [k1] at h1 h2 ⊢
      refine ⟨fun h => absurd (h1 h).1 (by simp), fun b l h => ?_⟩
      obtain ⟨a1, a2, a3⟩ := h2 b l h
      have hl1 := a3 b1 l1 rfl
      refine ⟨?_, fun E' hE' y hy => ?_, fun b0 l0 h0 => Int.le_trans hl1 (k4 b0 l0 h0)⟩
      · rcases a1 with e | ⟨e1, e2⟩
        · injection e with e; injection e with e1 e2; subst e1 e2
          rcases k3 with e | ⟨e1, e2⟩
          · exact .inl e
          · exact .inr ⟨by rw [e1]; exact List.mem_cons_self, by rw [e1, e2]; exact hf⟩
        · exact .inr ⟨List.mem_cons_of_mem _ e1, e2⟩
      · rcases List.mem_cons.1 hE' with rfl | h3
        · rw [hf] at hy; injection hy with hy; omega
        · exact a2 _ h3 y hy
/-- The first of the least ones of all orders. -/
def firstL (n : Nat) (f : List Int → Option Int) : Option (List Int × Int) := permF n (flStep f) n [] none
theorem firstL_spec {n : Nat} {f : List Int → Option Int} : (firstL n f = none → ∀ E : List Int, E.Perm (idL n) → f E = none) ∧
    ∀ b l, firstL n f = some (b, l) → b.Perm (idL n) ∧ f b = some l ∧ ∀ E : List Int, E.Perm (idL n) → ∀ x, f E = some x → l ≤ x := by
  have h := fl_spec f (permL n n []) none
  unfold firstL
  rw [permF_eq]
  refine ⟨fun h0 E hE => (h.1 h0).2 E (permL_perm.2 hE), fun b l h0 => ?_⟩
  obtain ⟨a1, a2, _⟩ := h.2 b l h0
  rcases a1 with e | ⟨e1, e2⟩
  · cases e
  · exact ⟨permL_perm.1 e1, e2, fun E hE x hx => a2 E (permL_perm.2 hE) x hx⟩
end Go.Proofs.Ytckdfahbhagoaaa

namespace Go.Proofs.Ytckdfahbhagoaaa
open Go.RowKit
set_option linter.unusedVariables false
set_option linter.unusedSimpArgs false

/-- 'append(s, y, ..)' where the region draws its order. -/
theorem step_append_i64 {ops : Array Oper} {o : Oper} {a : Act} {K : Act → World → Prop} {Q : Exit → Act → World → Prop} {E : Prop} {W : World} (hgd : o.guard = none) (s x : Operand)
    (ho : o.op = .call { callee := .builtin .append, args := #[s, x], argTypes := #[25, 25] }) (B : Nat) (v : Value) (xs ys : List Int) (hy : 0 < ys.length)
    (hs : a.eval s = v) (c : Nat) (hx : a.eval x = .slice (some ⟨W.heap.size, 0, none⟩) ys.length c) (hown : OwnI W B v xs) (hB : B ≤ W.heap.size) (hsmall : xs.length + ys.length ≤ 1099511627776)
    (hK : ∀ g c w', OwnI w' B (.slice (some ⟨g, 0, none⟩) (xs.length + ys.length) c) (xs ++ ys) → W.grownBy w' v.ownBlock → K (a.put o.dst (.slice (some ⟨g, 0, none⟩) (xs.length + ys.length) c)) w') :
    if Region.wanted o (yielded ops a.tmps) = true then Oper.wp Try.prog o a (W.alloc (.cells (ys.map (Value.int .i64)).toArray 2)).drew K Q else E := by
  obtain ⟨i0, hi, hz0, hz1, hz2⟩ := info_parts info_i64
  have hown' : (W.alloc (.cells (ys.map (Value.int .i64)).toArray 2)).drew.ownsRow B 2 1 v xs.length (xs.map (Value.int .i64)) := World.ownsRow.drew (World.ownsRow.alloc hown _)
  refine step_append_lies _ hgd s x 25 ho B 2 i0 (.int .i64 0) 1 8 Try.underlying25 hi hz0 hz1 hz2 rfl (by decide) v xs.length _ hs hown' ⟨W.heap.size, 0, none⟩ ys.length c (ys.map (Value.int .i64)) hx (by simp) (cells_lit W _ _) ?_ hy (by unfold maxLen; omega) (by omega) (by simp; omega) (W.heap.size + 1) (by simp) ?_
  · intro u hu; obtain ⟨y, _, rfl⟩ := List.mem_map.1 hu; rfl
  · intro g cap w' h1 h2 _ _
    have h2' : (W.alloc (.cells (ys.map (Value.int .i64)).toArray 2)).grownBy w' v.ownBlock := ⟨h2.os, h2.tape, h2.output, h2.size, h2.block⟩
    obtain ⟨g', c', he, h3, h4⟩ := app_shape hy hown h1 h2'
    obtain ⟨rfl, rfl⟩ : g = g' ∧ cap = c' := by simpa using he
    exact hK g cap w' h3 h4
end Go.Proofs.Ytckdfahbhagoaaa

namespace Go.Proofs.Ytckdfahbhagoaaa
open Go.RowKit
set_option linter.unusedVariables false
set_option linter.unusedSimpArgs false

/-- 'append(s, y, ..)' where the region draws its order; the new slice lies in the old block or in a new one. -/
theorem step_append_i64L {ops : Array Oper} {o : Oper} {a : Act} {K : Act → World → Prop} {Q : Exit → Act → World → Prop} {E : Prop} {W : World} (hgd : o.guard = none) (s x : Operand)
    (ho : o.op = .call { callee := .builtin .append, args := #[s, x], argTypes := #[25, 25] }) (B : Nat) (v : Value) (xs ys : List Int) (hy : 0 < ys.length)
    (hs : a.eval s = v) (c : Nat) (hx : a.eval x = .slice (some ⟨W.heap.size, 0, none⟩) ys.length c) (hown : OwnI W B v xs) (hB : B ≤ W.heap.size) (hsmall : xs.length + ys.length ≤ 1099511627776)
    (hK : ∀ g c w', OwnI w' B (.slice (some ⟨g, 0, none⟩) (xs.length + ys.length) c) (xs ++ ys) → W.grownBy w' v.ownBlock → (v.ownBlock = some g ∨ W.heap.size ≤ g) → K (a.put o.dst (.slice (some ⟨g, 0, none⟩) (xs.length + ys.length) c)) w') :
    if Region.wanted o (yielded ops a.tmps) = true then Oper.wp Try.prog o a (W.alloc (.cells (ys.map (Value.int .i64)).toArray 2)).drew K Q else E := by
  obtain ⟨i0, hi, hz0, hz1, hz2⟩ := info_parts info_i64
  have hown' : (W.alloc (.cells (ys.map (Value.int .i64)).toArray 2)).drew.ownsRow B 2 1 v xs.length (xs.map (Value.int .i64)) := World.ownsRow.drew (World.ownsRow.alloc hown _)
  refine step_append_lies _ hgd s x 25 ho B 2 i0 (.int .i64 0) 1 8 Try.underlying25 hi hz0 hz1 hz2 rfl (by decide) v xs.length _ hs hown' ⟨W.heap.size, 0, none⟩ ys.length c (ys.map (Value.int .i64)) hx (by simp) (cells_lit W _ _) ?_ hy (by unfold maxLen; omega) (by omega) (by simp; omega) (W.heap.size + 1) (by simp) ?_
  · intro u hu; obtain ⟨y, _, rfl⟩ := List.mem_map.1 hu; rfl
  · intro g cap w' h1 h2 h5 _
    have h2' : (W.alloc (.cells (ys.map (Value.int .i64)).toArray 2)).grownBy w' v.ownBlock := ⟨h2.os, h2.tape, h2.output, h2.size, h2.block⟩
    obtain ⟨g', c', he, h3, h4⟩ := app_shape hy hown h1 h2'
    obtain ⟨rfl, rfl⟩ : g = g' ∧ cap = c' := by simpa using he
    exact hK g cap w' h3 h4 (h5.imp id (fun e => by omega))
/-- .. in a plain list. -/
theorem append_i64L {ops : Array Oper} {rest : List Oper} {o : Oper} {a : Act} {Q : Exit → Act → World → Prop} {W : World} (hgd : o.guard = none) (s x : Operand)
    (ho : o.op = .call { callee := .builtin .append, args := #[s, x], argTypes := #[25, 25] }) (B : Nat) (v : Value) (xs ys : List Int) (hy : 0 < ys.length)
    (hs : a.eval s = v) (c : Nat) (hx : a.eval x = .slice (some ⟨W.heap.size, 0, none⟩) ys.length c) (hown : OwnI W B v xs) (hB : B ≤ W.heap.size) (hsmall : xs.length + ys.length ≤ 1099511627776)
    (hK : ∀ g c w', OwnI w' B (.slice (some ⟨g, 0, none⟩) (xs.length + ys.length) c) (xs ++ ys) → W.grownBy w' v.ownBlock → (v.ownBlock = some g ∨ W.heap.size ≤ g) → wpList Try.prog ops Q rest (a.put o.dst (.slice (some ⟨g, 0, none⟩) (xs.length + ys.length) c)) w') :
    wpList Try.prog ops Q (o :: rest) a (W.alloc (.cells (ys.map (Value.int .i64)).toArray 2)) := by
  obtain ⟨i0, hi, hz0, hz1, hz2⟩ := info_parts info_i64
  refine wpList_append_lies _ hgd s x 25 ho B 2 i0 (.int .i64 0) 1 8 Try.underlying25 hi hz0 hz1 hz2 rfl (by decide) v xs.length _ hs (World.ownsRow.alloc hown _) ⟨W.heap.size, 0, none⟩ ys.length c (ys.map (Value.int .i64)) hx (by simp) (cells_lit W _ _) ?_ hy (by unfold maxLen; omega) (by omega) (by simp; omega) (W.heap.size + 1) (by simp) ?_
  · intro u hu; obtain ⟨y, _, rfl⟩ := List.mem_map.1 hu; rfl
  · intro g cap w' h1 h2 h5 _
    obtain ⟨g', c', he, h3, h4⟩ := app_shape hy hown h1 h2
    obtain ⟨rfl, rfl⟩ : g = g' ∧ cap = c' := by simpa using he
    exact hK g cap w' h3 h4 (h5.imp id (fun e => by omega))
/-- A row of the call's own, cut to its first n elements. -/
theorem OwnI.cut {w : World} {B g n c : Nat} {xs : List Int} (h : OwnI w B (.slice (some ⟨g, 0, none⟩) n c) xs) (k : Nat) (hk : k ≤ xs.length) (hn : n = xs.length) : OwnI w B (.slice (some ⟨g, 0, none⟩) k c) (xs.take k) := by
  subst hn
  refine ⟨by simp, ?_⟩
  rcases h.2 with ⟨h1, _⟩ | ⟨g', cap, cur, h1, h2, h3, h4, h5, h6, h7⟩
  · cases h1
  · obtain ⟨rfl, rfl⟩ : g = g' ∧ c = cap := by simpa using h1
    have hl : (xs.take k).length = k := by simp; omega
    refine .inr ⟨g, c, cur, by rw [hl], h2, h3, by rw [hl]; omega, h5, h6, ?_⟩
    rw [hl, List.map_take, ← h7, List.take_take]
    congr 1; omega
end Go.Proofs.Ytckdfahbhagoaaa

namespace Go.Proofs.Ytckdfahbhagoaaa
open Go.RowKit Go.Shelf Go.BigFrame
set_option linter.unusedVariables false
set_option linter.unusedSimpArgs false

theorem idL_snoc2 (k : Nat) : idL k ++ [(k : Int)] = idL (k + 1) := by unfold idL; rw [List.range_succ, List.map_append]; rfl
def CntR (N T : Nat) (w : World) (vo vk : Value) (wr : World) : Prop :=
  ∃ (k g c : Nat), k ≤ T ∧ vk = .int .i64 k ∧ vo = .slice (some ⟨g, 0, none⟩) k c ∧ Hid (OwnI wr N (.slice (some ⟨g, 0, none⟩) k c) (idL k)) ∧ Hid (Below N w wr)
set_option maxRecDepth 100000 in
set_option maxHeartbeats 2000000 in
theorem l02Count_any (T : Nat) (w : World) (hT : T ≤ 1000) : Calls Try.prog 20 #[.int .i64 T] w fun e w' => (∃ g c, e = .returned (.slice (some ⟨g, 0, none⟩) T c) ∧ OwnI w' w.heap.size (.slice (some ⟨g, 0, none⟩) T c) (idL T)) ∧ Below w.heap.size w w' := by
  obtain ⟨N, hN⟩ : ∃ N, w.heap.size = N := ⟨_, rfl⟩
  have HN := Lib.hid hN
  obtain ⟨W2, hW2⟩ : ∃ W, w.alloc (.cells #[] 2) = W := ⟨_, rfl⟩
  have HR0 : Hid (CntR N T w (.slice (some ⟨N, 0, none⟩) 0 0) (.int .i64 0) W2) := by
    show CntR _ _ _ _ _ _
    rw [← hW2]
    have ho := OwnI.lit w N [] (by omega) (by unfold maxLen; simp)
    rw [hN] at ho
    exact ⟨0, N, 0, Nat.zero_le _, rfl, rfl, ho, by show Below _ _ _; rw [← hN]; exact (Below.refl _ _).alloc (Nat.le_refl _) _⟩
  have HW := Lib.hid hW2
  clear hW2
  go_enter Try.func20, Try.ntmps20
  rw [hN]
  clear hN
  go_wp2
  rw [HW.out]
  first | rw [HN.out] | skip
  go_loopw [3, 4] (fun vo vk wr => CntR N T w vo vk wr) (fun _ vk _ => T - (intOf vk).toNat)
  case atStart => exact HR0.out
  case round =>
    obtain ⟨k, g, c, hk, rfl, rfl, HO, HB⟩ := hrel
    clear HR0 HW
    by_cases hkT : k < T
    · have k0 : (0 : Int) ≤ (k : Int) := by omega
      have k1 : (k : Int) < (T : Int) := by omega
      have hNw : N ≤ wr.heap.size := by have h1 := HB.out.size; have h2 := HN.out; omega
      have HOW : Hid (OwnI wr N (.slice (some ⟨g, 0, none⟩) (idL k).length c) (idL k)) := by rw [idL_length]; exact HO.out
      go_wp2_with (at_builtin; refine append_i64L rfl _ _ rfl N (.slice (some ⟨g, 0, none⟩) k c) (idL k) [(k : Int)] (Nat.zero_lt_succ _) rfl _ rfl HO.out hNw (by rw [idL_length]; simp only [List.length_singleton]; omega) ?_; intro g1 c1 w5 ho5 hg5 hl5; rw [idL_length, idL_snoc2] at ho5; have HO5 := Lib.hid ho5; have HB5 : Hid (Below N w w5) := HB.out.grown hg5 hNw (fun j e => (HO.out.lt j e).1); simp only [idL_length, List.length_singleton]; clear ho5 hg5 hl5)
      go_roundw
      case rel => exact ⟨k + 1, g1, c1, by omega, by go_num, rfl, HO5.out, HB5.out⟩
      case measure => simp [intOf]; omega
    · obtain rfl : k = T := by omega
      have HF : Hid (OwnI wr w.heap.size (.slice (some ⟨g, 0, none⟩) k c) (idL k) ∧ Below w.heap.size w wr) := by rw [HN.out]; exact ⟨HO.out, HB.out⟩
      clear HO HB
      go_wp2
      go_ret
      first
        | exact ⟨⟨g, c, rfl, HF.out.1⟩, HF.out.2⟩
        | (rw [HN.out] at HF; exact ⟨⟨g, c, rfl, HF.out.1⟩, HF.out.2⟩)
def R8R (w : World) (T A : Nat) (v vi : Value) (g c : Nat) (wr : World) : Prop :=
  ∃ (i : Int) (a : Nat) (ys : List Int), vi = .int .i64 i ∧ 0 ≤ i ∧ i < T ∧ a + i ≤ T ∧ Hid (ys.Perm (idL T)) ∧ Hid (OwnI wr (A + 1) (.slice (some ⟨g, 0, none⟩) T c) ys) ∧ Hid (Src wr A v a) ∧ Hid (Below A w wr)
theorem r8_swap {T : Nat} {ys : List Int} (h : ys.Perm (idL T)) {i k : Nat} (hi : i < T) (hk : k < T) : ((ys.set i (nth ys k)).set k (nth ys i)).Perm (idL T) := by
  have hl : ys.length = T := by rw [h.length_eq, idL_length]
  rw [nth_eq (by omega), nth_eq (by omega)]
  exact (List.set_set_perm (by omega) (by omega)).trans h
set_option maxRecDepth 100000 in
set_option maxHeartbeats 2000000 in
theorem R8Order_any (v : Value) (xs : List Int) (T : Nat) (w : World) (hv : Byts w v xs) (hb : ∀ n ∈ xs, (Lit.int .u8 n).wf = true) (h1 : 1 ≤ T) (h2 : T ≤ 12) :
    Calls Try.prog 7 #[v, .int .i64 T] w fun e w' => (∃ g c, e = .returned (.slice (some ⟨g, 0, none⟩) T c) ∧ ∃ ys, OwnI w' w.heap.size (.slice (some ⟨g, 0, none⟩) T c) ys ∧ ys.Perm (idL T)) ∧ Below w.heap.size w w' := by
  have HFR := Lib.hid (from_any v xs w hv)
  have HPK : Hid (∀ g a (n : Int) W, Below w.heap.size w W → Src W g v a → a ≤ 1099511627776 → n ≤ 200 → Calls Try.prog 19 #[.pointer (some ⟨g, 0, none⟩), .int .i64 n] W fun e w' => (∃ x : Int, e = .returned (.int .i64 x) ∧ 0 ≤ x ∧ (1 ≤ n → x < n)) ∧ (∃ a', a' ≤ a + 1 ∧ Src w' g v a') ∧ GrownL [g] W w') := fun g a n W hW hs ha hn => pick_any v xs g a n W (hv.below hW (Nat.le_refl _)) hb hs ha hn
  have HCN : Hid (∀ W, Calls Try.prog 20 #[.int .i64 T] W fun e w' => (∃ g c, e = .returned (.slice (some ⟨g, 0, none⟩) T c) ∧ OwnI w' W.heap.size (.slice (some ⟨g, 0, none⟩) T c) (idL T)) ∧ Below W.heap.size W w') := fun W => l02Count_any T W (by omega)
  clear hv hb
  obtain ⟨A, hA⟩ : ∃ A, w.heap.size = A := ⟨_, rfl⟩
  have HA := Lib.hid hA
  have HSZ : Hid (∀ W, Below A w W → A ≤ W.heap.size) := fun W h => by rw [← hA]; exact h.size
  clear hA
  go_enter Try.func7, Try.ntmps7
  go_wp2_with fail
  refine HFR.out.mono ?_
  rintro e W1 ⟨rfl, hs1, hb1, hz1⟩
  rw [HA.out] at hs1 hb1 hz1 ⊢
  have HS1 := Lib.hid hs1
  have HB1 := Lib.hid hb1
  have HZ1 := Lib.hid hz1
  clear hs1 hb1 hz1 HFR
  go_wp2_with fail
  refine (HCN.out _).mono ?_
  rintro e W2 ⟨⟨g, c, rfl, ho2⟩, hb2⟩
  have hgA : A + 1 ≤ g := by have := (ho2.lt g rfl).1; have := HZ1.out; omega
  have HR0 : Hid (R8R w T A v (.int .i64 ((T : Int) - 1)) g c W2) := ⟨(T : Int) - 1, 0, idL T, rfl, by omega, by omega, by omega, List.Perm.refl _, ho2.mono (by have := HZ1.out; omega), HS1.out.grown ((GrownL.refl [] W1).below hb2 (Nat.le_refl _)) (by simp), HB1.out.trans (hb2.mono (by have := HZ1.out; omega))⟩
  clear ho2 hb2 HS1 HB1 HZ1 HCN
  have w1 : IntKind.i64.wrap ((T : Int) - 1) = (T : Int) - 1 := IntWalk.i64_in _ (by omega)
  go_wp2
  go_loopw [7] (fun vi wr => R8R w T A v vi g c wr) (fun vi _ => (intOf vi).toNat)
  case atStart => exact HR0.out
  case round =>
    obtain ⟨i, a, ys, rfl, hi0, hi1, hai, HP, HO, HS, HB⟩ := hrel
    clear HR0 w1
    have hl : T = ys.length := by rw [HP.out.length_eq, idL_length]
    have HL := Lib.hid hl
    clear hl
    by_cases hgo : 0 < i
    · have w2 : IntKind.i64.wrap (i + 1) = i + 1 := IntWalk.i64_in _ (by omega)
      have w3 : IntKind.i64.wrap (i - 1) = i - 1 := IntWalk.i64_in _ (by omega)
      have HPI := Lib.hid (HPK.out A a (i + 1) wr (by rw [HA.out]; exact HB.out) HS.out (by omega) (by omega))
      go_wp2_with fail
      refine HPI.out.mono ?_
      rintro e W3 ⟨⟨p, rfl, p0, p1⟩, ⟨a3, ha3, hs3⟩, hg3⟩
      have p1 := p1 (by omega)
      obtain ⟨k, rfl⟩ : ∃ k : Nat, p = k := ⟨p.toNat, by omega⟩
      obtain ⟨j, rfl⟩ : ∃ j : Nat, i = j := ⟨i.toNat, by omega⟩
      have hkT : k < T := by omega
      have hjT : j < T := by omega
      have p2 : (k : Int) < (T : Int) := by omega
      have HS3 := Lib.hid hs3
      have HO3 := Lib.hid (hg3.own HO.out (by simp; omega))
      have HB3 : Hid (Below A w W3) := hg3.toBelow HB.out (HSZ.out _ HB.out) (by simp; omega)
      clear hs3 hg3 HS HO HB HPI
      obtain ⟨cj, fj, _, _⟩ := HO3.out.store HL.out j (by rw [← HL.out]; exact hjT) 0
      obtain ⟨ck, fk, _, _⟩ := HO3.out.store HL.out k (by rw [← HL.out]; exact hkT) 0
      rw [← nth_eq] at cj ck
      have HF : Hid (R8R w T A v (.int .i64 ((j : Int) - 1)) g c ((W3.setCell ⟨g, j, none⟩ (.int .i64 (nth ys k))).setCell ⟨g, k, none⟩ (.int .i64 (nth ys j)))) := by
        obtain ⟨_, _, o4, g4⟩ := HO3.out.store HL.out j (by rw [← HL.out]; exact hjT) (nth ys k)
        obtain ⟨_, _, o5, g5⟩ := o4.store (by rw [List.length_set]; exact HL.out) k (by rw [List.length_set, ← HL.out]; exact hkT) (nth ys j)
        have hAw := HSZ.out _ HB3.out
        have hAw4 : A ≤ (W3.setCell ⟨g, j, none⟩ (.int .i64 (nth ys k))).heap.size := Nat.le_trans hAw g4.size
        have hGL : GrownL [] W3 W3 := GrownL.refl _ _
        refine ⟨(j : Int) - 1, a3, _, rfl, by omega, by omega, by omega, r8_swap HP.out hjT hkT, o5, ?_, (HB3.out.grown g4 hAw (fun q e => by injection e with e; omega)).grown g5 hAw4 (fun q e => by injection e with e; omega)⟩
        exact HS3.out.grown (((GrownL.refl [g] W3).grown g4 (fun q e => .inl (by injection e with e; simp [e]))).grown g5 (fun q e => .inl (by injection e with e; simp [e]))) (by simp; omega)
      obtain ⟨xj, hxj⟩ : ∃ x, nth ys j = x := ⟨_, rfl⟩
      obtain ⟨xk, hxk⟩ : ∃ x, nth ys k = x := ⟨_, rfl⟩
      rw [hxj] at cj HF
      rw [hxk] at ck HF
      by_cases hjk : j = k
      · subst hjk
        obtain rfl : xj = xk := by rw [← hxj, ← hxk]
        clear hxj hxk
        go_wp2
        go_roundw
        case rel =>
          obtain ⟨i', a', ys', e1, e2⟩ := HF.out
          exact ⟨i', a', ys', e1, e2⟩
        case measure => simp [intOf]; omega
      · have hkj : k ≠ j := fun e => hjk e.symm
        have hjk2 : ¬ (j : Int) = k := by omega
        clear hxj hxk
        go_wp2
        go_roundw
        case rel =>
          obtain ⟨i', a', ys', e1, e2⟩ := HF.out
          exact ⟨i', a', ys', e1, e2⟩
        case measure => simp [intOf]; omega
    · obtain rfl : i = 0 := by omega
      have HR : Hid (∃ ys, OwnI wr w.heap.size (.slice (some ⟨g, 0, none⟩) T c) ys ∧ ys.Perm (idL T)) := by
        rw [HA.out]
        exact ⟨ys, HO.out.mono (by omega), HP.out⟩
      have HBW : Hid (Below w.heap.size w wr) := by rw [HA.out]; exact HB.out
      clear HO HB HP HS
      go_wp2
      go_ret
      exact ⟨⟨g, c, rfl, HR.out⟩, HBW.out⟩
end Go.Proofs.Ytckdfahbhagoaaa

namespace Go.Proofs.Ytckdfahbhagoaaa
open Go.RowKit
set_option linter.unusedVariables false
set_option linter.unusedSimpArgs false

def gapG (ts : List Int) (M i k : Nat) : Int := if i = k then 0 else gapF ts M i k
def GapR (ts : List Int) (M i k : Nat) (w : World) (v7 v8 v9 v17 : Value) (wr : World) : Prop :=
  ∃ m : Nat, m ≤ M ∧ v17 = .int .i64 m ∧ v7 = .int .i64 (gMax (fun m => sF (tF ts M i) (m + 1) - sF (tF ts M k) m) m) ∧ v8 = .int .i64 (sF (tF ts M i) m) ∧ v9 = .int .i64 (sF (tF ts M k) m) ∧ Hid (Below w.heap.size w wr)
set_option maxRecDepth 100000 in
set_option maxHeartbeats 1000000 in
theorem shGap_any (b o T c M n i k : Nat) (ts : List Int) (w : World) (hv : ShW w b o T c ts) (hok : ShopOk ts M n) (hi : i < n) (hk : k < n) :
    Calls Try.prog 29 #[shV b o T c n M, .int .i64 i, .int .i64 k] w fun e w' => e = .returned (.int .i64 (gapG ts M i k)) ∧ Below w.heap.size w w' := by
  have HAT : Hid (∀ j m W, j < n → m < M → Below w.heap.size w W → Calls Try.prog 31 #[shV b o T c n M, .int .i64 j, .int .i64 m] W fun e w' => e = .returned (.int .i64 (tF ts M j m)) ∧ Below W.heap.size W w') := fun j m W hj hm hW => shAt_any b o T c M n j m ts W (hv.below hW) hok hj hm
  have HBD : Hid (∀ j m, j < n → m ≤ M → 0 ≤ sF (tF ts M j) m ∧ sF (tF ts M j) m ≤ 10000 * (m : Int)) := fun j m hj hm => sF_bound m (fun q hq => by have := hok.at_ hj (show q < M by omega); omega)
  have HTM : Hid (∀ j m, j < n → m < M → 1 ≤ tF ts M j m ∧ tF ts M j m ≤ 10000) := fun j m hj hm => hok.at_ hj hm
  have hm8 := hok.m8
  obtain ⟨W1, hW1⟩ : ∃ W, w.alloc (.cells #[.slice (some ⟨b, o, none⟩) T c, .int .i64 n, .int .i64 M] 43) = W := ⟨_, rfl⟩
  have HB1 : Hid (Below w.heap.size w W1) := by show Below _ _ _; rw [← hW1]; exact (Below.refl _ w).alloc (Nat.le_refl _) _
  have HX1 : Hid (BoxS W1 w.heap.size b o T c n M) := by show BoxS _ _ _ _ _ _ _ _; rw [← hW1]; exact BoxS.new w b o T c n M
  have hsz : W1.heap.size = w.heap.size + 1 := by rw [← hW1]; simp
  have HSZ := Lib.hid hsz
  have HW := Lib.hid hW1
  have c2 := HX1.out.c2
  clear hv hok hsz hW1
  unfold shV
  by_cases hik : i = k
  · subst hik
    have HG : Hid (gapG ts M i i = 0) := by show _ = _; unfold gapG; rw [if_pos rfl]
    go_enter Try.func29, Try.ntmps29
    go_wp2
    go_ret
    exact ⟨ret_int HG.out.symm, by rw [HW.out]; exact HB1.out⟩
  · have HG : Hid (gapG ts M i k = gMax (fun m => sF (tF ts M i) (m + 1) - sF (tF ts M k) m) M) := by show _ = _; unfold gapG; rw [if_neg hik]; rfl
    have hne : ¬ (i : Int) = (k : Int) := by omega
    have hnb : ((i : Int) == (k : Int)) = false := beq_eq_false_iff_ne.2 hne
    go_enter Try.func29, Try.ntmps29
    go_wp2
    simp only [HW.out]
    go_loopw [7, 8, 9, 17] (fun v7 v8 v9 v17 wr => GapR ts M i k W1 v7 v8 v9 v17 wr) (fun _ _ _ vk _ => M - (intOf vk).toNat)
    case atStart => exact ⟨0, Nat.zero_le _, rfl, rfl, rfl, rfl, Below.refl _ _⟩
    case round =>
      obtain ⟨m, hmM, rfl, rfl, rfl, rfl, HB⟩ := hrel
      clear c2
      have HBw : Hid (Below w.heap.size w wr) := HB1.out.trans (HB.out.mono (by rw [HSZ.out]; omega))
      by_cases hm2 : m < M
      · have k0 : (0 : Int) ≤ (m : Int) := by omega
        have k1 : (m : Int) < (M : Int) := by omega
        have hX := HX1.out.below HB.out (by rw [HSZ.out]; omega)
        have c0 := hX.c0
        have c1 := hX.c1
        have c2 := hX.c2
        have HA := Lib.hid (HAT.out i m wr hi hm2 HBw.out)
        unfold shV at HA
        have h1 := HBD.out i m hi hmM
        have h2 := HBD.out k m hk hmM
        have h3 := HTM.out i m hi hm2
        have h4 := HTM.out k m hk hm2
        have HU : Hid (sF (tF ts M i) (m + 1) = sF (tF ts M i) m + tF ts M i m) := rfl
        have HV : Hid (sF (tF ts M k) (m + 1) = sF (tF ts M k) m + tF ts M k m) := rfl
        have HGM : Hid (gMax (fun m => sF (tF ts M i) (m + 1) - sF (tF ts M k) m) (m + 1) = if m = 0 ∨ gMax (fun m => sF (tF ts M i) (m + 1) - sF (tF ts M k) m) m < sF (tF ts M i) (m + 1) - sF (tF ts M k) m then sF (tF ts M i) (m + 1) - sF (tF ts M k) m else gMax (fun m => sF (tF ts M i) (m + 1) - sF (tF ts M k) m) m) := rfl
        obtain ⟨G, hG⟩ : ∃ S, gMax (fun m => sF (tF ts M i) (m + 1) - sF (tF ts M k) m) m = S := ⟨_, rfl⟩
        obtain ⟨U, hU⟩ : ∃ S, sF (tF ts M i) m = S := ⟨_, rfl⟩
        obtain ⟨V, hV⟩ : ∃ S, sF (tF ts M k) m = S := ⟨_, rfl⟩
        obtain ⟨t, ht⟩ : ∃ t, tF ts M i m = t := ⟨_, rfl⟩
        obtain ⟨r, hr⟩ : ∃ t, tF ts M k m = t := ⟨_, rfl⟩
        rw [hG] at HGM ⊢
        rw [hU] at h1 HU ⊢
        rw [hV] at h2 HV HGM ⊢
        rw [ht] at h3 HU HA
        rw [hr] at h4 HV
        rw [HU.out] at HGM
        have HR : Hid (tF ts M k m = r) := hr
        have w1 : IntKind.i64.wrap (U + t) = U + t := IntWalk.i64_in _ (by omega)
        have w2 : IntKind.i64.wrap (U + t - V) = U + t - V := IntWalk.i64_in _ (by omega)
        have w3 : IntKind.i64.wrap (V + r) = V + r := IntWalk.i64_in _ (by omega)
        clear hX hG hU hV ht hr
        go_wp2_with fail
        refine HA.out.mono ?_
        rintro e W3 ⟨rfl, hb3⟩
        have HB3 : Hid (Below W1.heap.size W1 W3) := HB.out.trans (hb3.mono HB.out.size)
        have HBw3 : Hid (Below w.heap.size w W3) := HBw.out.trans (hb3.mono HBw.out.size)
        have hX := HX1.out.below HB3.out (by rw [HSZ.out]; omega)
        have d0 := hX.c0
        have d1 := hX.c1
        have d2 := hX.c2
        have HA2 := Lib.hid (HAT.out k m W3 hk hm2 HBw3.out)
        rw [HR.out] at HA2
        unfold shV at HA2
        clear hb3 hX HA
        by_cases hm0 : m = 0
        · subst hm0
          have HG2 : Hid (gMax (fun m => sF (tF ts M i) (m + 1) - sF (tF ts M k) m) (0 + 1) = U + t - V) := by show _ = _; rw [HGM.out, if_pos (.inl rfl)]
          go_wp2_with fail
          refine HA2.out.mono ?_
          rintro e W4 ⟨rfl, hb4⟩
          have HB4 : Hid (Below W1.heap.size W1 W4) := HB3.out.trans (hb4.mono HB3.out.size)
          clear hb4
          go_wp2
          go_roundw
          case rel => exact ⟨1, by omega, by go_num, by rw [← HG2.out], by rw [← HU.out], by rw [← HV.out], HB4.out⟩
          case measure => simp [intOf]; omega
        · have hmb : ((m : Int) == 0) = false := by simp [hm0]
          by_cases hgt : G < U + t - V
          · have HG2 : Hid (gMax (fun m => sF (tF ts M i) (m + 1) - sF (tF ts M k) m) (m + 1) = U + t - V) := by show _ = _; rw [HGM.out, if_pos (.inr hgt)]
            go_wp2_with fail
            refine HA2.out.mono ?_
            rintro e W4 ⟨rfl, hb4⟩
            have HB4 : Hid (Below W1.heap.size W1 W4) := HB3.out.trans (hb4.mono HB3.out.size)
            clear hb4
            go_wp2
            go_roundw
            case rel => exact ⟨m + 1, by omega, by go_num, by rw [HG2.out], by rw [HU.out], by rw [HV.out], HB4.out⟩
            case measure => simp [intOf]; omega
          · have HG2 : Hid (gMax (fun m => sF (tF ts M i) (m + 1) - sF (tF ts M k) m) (m + 1) = G) := by show _ = _; rw [HGM.out, if_neg (fun h => h.elim hm0 hgt)]
            go_wp2_with fail
            refine HA2.out.mono ?_
            rintro e W4 ⟨rfl, hb4⟩
            have HB4 : Hid (Below W1.heap.size W1 W4) := HB3.out.trans (hb4.mono HB3.out.size)
            clear hb4
            go_wp2
            go_roundw
            case rel => exact ⟨m + 1, by omega, by go_num, by rw [HG2.out], by rw [HU.out], by rw [HV.out], HB4.out⟩
            case measure => simp [intOf]; omega
      · obtain rfl : M = m := by omega
        go_wp2
        go_ret
        exact ⟨ret_int HG.out.symm, HBw.out⟩
end Go.Proofs.Ytckdfahbhagoaaa
