/- Orders: IsOrder and l02Orders. Conditions: at most 2^20 numbers. With texts that it needs. -/
import Derived.Test.YtcopjdhnmkfkfaaBestAll4
import Derived.Test.YtcopjdhnmkfkfaaBestAll2
import Derived.StillTailTactics
import Derived.Test.YtcopjdhnmkfkfaaBestAll1
import Derived.Deep.RegionWith
namespace Go.Proofs.Ytcopjdhnmkfkfaa
open Go.RowKit
set_option linter.unusedVariables false
set_option linter.unusedSimpArgs false

theorem subQ_len : ∀ (A B : List Int), A.Pairwise (fun x y => x ≠ y) → (∀ x ∈ A, x ∈ B) → A.length ≤ B.length
  | [], B, _, _ => Nat.zero_le _
  | a :: A, B, hd, hs => by
    rw [List.pairwise_cons] at hd
    have h1 := hs a List.mem_cons_self
    have h2 := subQ_len A (B.erase a) hd.2 (fun x hx => (List.mem_erase_of_ne (Ne.symm (hd.1 x hx))).2 (hs x (List.mem_cons_of_mem _ hx)))
    have h3 := (List.perm_cons_erase h1).length_eq
    simp only [List.length_cons] at h3 ⊢
    omega
theorem subQ_perm : ∀ (A B : List Int), A.Pairwise (fun x y => x ≠ y) → (∀ x ∈ A, x ∈ B) → B.length ≤ A.length → A.Perm B
  | [], B, _, _, hl => by rw [List.eq_nil_of_length_eq_zero (Nat.le_zero.1 hl)]
  | a :: A, B, hd, hs, hl => by
    rw [List.pairwise_cons] at hd
    have h1 := hs a List.mem_cons_self
    have h3 := (List.perm_cons_erase h1).length_eq
    simp only [List.length_cons] at h3 hl
    have h2 := subQ_perm A (B.erase a) hd.2 (fun x hx => (List.mem_erase_of_ne (Ne.symm (hd.1 x hx))).2 (hs x (List.mem_cons_of_mem _ hx))) (by omega)
    exact (h2.cons a).trans (List.perm_cons_erase h1).symm
theorem idQ_nodup (n : Nat) : (idL n).Pairwise fun x y => x ≠ y := by
  rw [List.pairwise_iff_getElem]
  intro i j hi hj hij
  rw [idL_length] at hi hj
  rw [← nth_eq, ← nth_eq, idL_get hi, idL_get hj]; omega
theorem permQ_nodup {E : List Int} {n : Nat} (h : E.Perm (idL n)) : E.Pairwise (fun x y => x ≠ y) := (h.pairwise_iff (fun h => Ne.symm h)).2 (idQ_nodup n)


/-- All orders that begin with p (d more numbers), handed to step one after another. -/
def permTo {σ : Type} (rec_ : List Int → σ → σ) (p : List Int) (s : σ) (m : Nat) : σ :=
  (List.range m).foldl (fun a (i : Nat) => if p.contains (i : Int) then a else rec_ (p ++ [(i : Int)]) a) s
def permF {σ : Type} (n : Nat) (step : σ → List Int → σ) : Nat → List Int → σ → σ
  | 0, p, s => step s p
  | d + 1, p, s => permTo (permF n step d) p s n
theorem permTo_succ {σ : Type} (rec_ : List Int → σ → σ) (p : List Int) (s : σ) (m : Nat) :
    permTo rec_ p s (m + 1) = if p.contains (m : Int) then permTo rec_ p s m else rec_ (p ++ [(m : Int)]) (permTo rec_ p s m) := by
  unfold permTo; rw [List.range_succ, List.foldl_append]; rfl
/-- All orders that begin with p. -/
def permL (n : Nat) : Nat → List Int → List (List Int)
  | 0, p => [p]
  | d + 1, p => (List.range n).flatMap fun (i : Nat) => if p.contains (i : Int) then [] else permL n d (p ++ [(i : Int)])
theorem foldl_flat {α β σ : Type} (f : α → List β) (g : σ → β → σ) : ∀ (l : List α) (s : σ), (l.flatMap f).foldl g s = l.foldl (fun a x => (f x).foldl g a) s
  | [], s => rfl
  | x :: l, s => by rw [List.flatMap_cons, List.foldl_append, foldl_flat f g l]; rfl
theorem foldl_same {α σ : Type} {f g : σ → α → σ} : ∀ (l : List α) (s : σ), (∀ a, ∀ x ∈ l, f a x = g a x) → l.foldl f s = l.foldl g s
  | [], s, _ => rfl
  | x :: l, s, h => by
    rw [List.foldl_cons, List.foldl_cons, h s x List.mem_cons_self]
    exact foldl_same l _ (fun a y hy => h a y (List.mem_cons_of_mem _ hy))
theorem permF_eq {σ : Type} (n : Nat) (step : σ → List Int → σ) : ∀ (d : Nat) (p : List Int) (s : σ), permF n step d p s = (permL n d p).foldl step s
  | 0, p, s => rfl
  | d + 1, p, s => by
    show permTo _ p s n = ((List.range n).flatMap _).foldl step s
    rw [foldl_flat]
    unfold permTo
    refine foldl_same _ _ fun a i _ => ?_
    by_cases h : p.contains (i : Int) = true
    · rw [if_pos h, if_pos h]; rfl
    · rw [if_neg h, if_neg h]; exact permF_eq n step d _ a
/-- Numbers below n, each once. -/
structure PreOk (n : Nat) (p : List Int) : Prop where
  nodup : p.Pairwise fun x y => x ≠ y
  lt : ∀ x ∈ p, 0 ≤ x ∧ x < (n : Int)
theorem PreOk.nil (n : Nat) : PreOk n [] := ⟨List.Pairwise.nil, fun x hx => by simp at hx⟩
theorem PreOk.push {n : Nat} {p : List Int} (h : PreOk n p) {i : Nat} (hi : i < n) (hc : p.contains (i : Int) = false) : PreOk n (p ++ [(i : Int)]) := by
  refine ⟨List.pairwise_append.2 ⟨h.nodup, by simp, fun x hx y hy => ?_⟩, fun x hx => ?_⟩
  · rw [List.mem_singleton] at hy
    subst hy
    rintro rfl
    rw [List.contains_iff_mem.2 hx] at hc
    cases hc
  · rcases List.mem_append.1 hx with h1 | h1
    · exact h.lt x h1
    · rw [List.mem_singleton] at h1
      omega
theorem PreOk.len {n : Nat} {p : List Int} (h : PreOk n p) : p.length ≤ n := by
  have := subQ_len p (idL n) h.nodup (fun x hx => idL_mem.2 (h.lt x hx))
  rwa [idL_length] at this
theorem PreOk.perm {n : Nat} {p : List Int} (h : PreOk n p) (hl : p.length = n) : p.Perm (idL n) :=
  subQ_perm p (idL n) h.nodup (fun x hx => idL_mem.2 (h.lt x hx)) (by rw [idL_length]; omega)
theorem PreOk.of_perm {n : Nat} {p : List Int} (h : p.Perm (idL n)) : PreOk n p :=
  ⟨permQ_nodup h, fun x hx => idL_mem.1 (h.mem_iff.1 hx)⟩
theorem PreOk.left {n : Nat} {p q : List Int} (h : PreOk n (p ++ q)) : PreOk n p :=
  ⟨(List.pairwise_append.1 h.nodup).1, fun x hx => h.lt x (List.mem_append_left _ hx)⟩
theorem permL_pre {n : Nat} : ∀ {d : Nat} {p E : List Int}, E ∈ permL n d p → ∃ q, E = p ++ q ∧ q.length = d
  | 0, p, E, h => ⟨[], by simpa [permL] using h, rfl⟩
  | d + 1, p, E, h => by
    obtain ⟨i, hi, h2⟩ := List.mem_flatMap.1 h
    split at h2
    · cases h2
    · obtain ⟨q, rfl, hq⟩ := permL_pre h2
      exact ⟨(i : Int) :: q, by simp, by simp [hq]⟩
theorem permL_ok {n : Nat} : ∀ {d : Nat} {p E : List Int}, PreOk n p → E ∈ permL n d p → PreOk n E
  | 0, p, E, hp, h => by
    have : E = p := by simpa [permL] using h
    rw [this]; exact hp
  | d + 1, p, E, hp, h => by
    obtain ⟨i, hi, h2⟩ := List.mem_flatMap.1 h
    split at h2
    · cases h2
    · rename_i hc
      exact permL_ok (hp.push (List.mem_range.1 hi) (by simpa using hc)) h2
theorem mem_permL {n : Nat} : ∀ (q p : List Int), PreOk n (p ++ q) → p ++ q ∈ permL n q.length p
  | [], p, h => by simp [permL]
  | x :: q, p, h => by
    have hx := h.lt x (by simp)
    obtain ⟨i, rfl⟩ : ∃ i : Nat, x = i := ⟨x.toNat, by omega⟩
    show _ ∈ (List.range n).flatMap _
    refine List.mem_flatMap.2 ⟨i, List.mem_range.2 (by omega), ?_⟩
    have hc : ¬ p.contains (i : Int) = true := by
      intro hc
      exact (List.pairwise_append.1 h.nodup).2.2 _ (List.contains_iff_mem.1 hc) _ List.mem_cons_self rfl
    rw [if_neg hc]
    have h2 : p ++ (i : Int) :: q = (p ++ [(i : Int)]) ++ q := by simp
    rw [h2] at h ⊢
    exact mem_permL q _ h
theorem permL_perm {n : Nat} {E : List Int} : E ∈ permL n n [] ↔ E.Perm (idL n) := by
  constructor
  · intro h
    obtain ⟨q, rfl, hq⟩ := permL_pre h
    exact (permL_ok (PreOk.nil n) h).perm (by simpa using hq)
  · intro h
    have hl : E.length = n := by rw [h.length_eq, idL_length]
    have := mem_permL E [] (by simpa using PreOk.of_perm h)
    rwa [hl, List.nil_append] at this

/-- The first one with the least number. -/
def flStep (f : List Int → Option Int) (s : Option (List Int × Int)) (E : List Int) : Option (List Int × Int) :=
  match f E with
  | none => s
  | some x => match s with
    | none => some (E, x)
    | some b => if x < b.2 then some (E, x) else s
theorem flStep_none {f : List Int → Option Int} {s : Option (List Int × Int)} {E : List Int} (h : f E = none) : flStep f s E = s := by unfold flStep; rw [h]
theorem fl_spec (f : List Int → Option Int) : ∀ (L : List (List Int)) (s : Option (List Int × Int)),
    (L.foldl (flStep f) s = none → s = none ∧ ∀ E ∈ L, f E = none) ∧
    ∀ b l, L.foldl (flStep f) s = some (b, l) → (s = some (b, l) ∨ (b ∈ L ∧ f b = some l)) ∧ (∀ E ∈ L, ∀ x, f E = some x → l ≤ x) ∧ ∀ b0 l0, s = some (b0, l0) → l ≤ l0
  | [], s => ⟨fun h => ⟨h, fun E hE => by simp at hE⟩, fun b l h => ⟨.inl h, fun E hE => by simp at hE, fun b0 l0 h0 => by
      have h1 : s = some (b, l) := h
      rw [h0] at h1; injection h1 with h1; injection h1 with h1 h2; omega⟩⟩
  | E :: L, s => by
    obtain ⟨h1, h2⟩ := fl_spec f L (flStep f s E)
    rw [List.foldl_cons]
    cases hf : f E with
    | none =>
      rw [flStep_none hf] at h1 h2 ⊢
      refine ⟨fun h => ⟨(h1 h).1, fun E' hE' => ?_⟩, fun b l h => ?_⟩
      · rcases List.mem_cons.1 hE' with rfl | h3
        · exact hf
        · exact (h1 h).2 _ h3
      · obtain ⟨a1, a2, a3⟩ := h2 b l h
        refine ⟨a1.imp id (fun q => ⟨List.mem_cons_of_mem _ q.1, q.2⟩), fun E' hE' x hx => ?_, a3⟩
        rcases List.mem_cons.1 hE' with rfl | h3
        · rw [hf] at hx; cases hx
        · exact a2 _ h3 x hx
    | some x =>
      have key : ∃ b1 l1, flStep f s E = some (b1, l1) ∧ l1 ≤ x ∧ ((s = some (b1, l1)) ∨ (b1 = E ∧ l1 = x)) ∧ ∀ b0 l0, s = some (b0, l0) → l1 ≤ l0 := by
        unfold flStep
        rw [hf]
        cases s with
        | none => exact ⟨E, x, rfl, Int.le_refl _, .inr ⟨rfl, rfl⟩, fun b0 l0 h => by cases h⟩
        | some b =>
          by_cases hb : x < b.2
          · refine ⟨E, x, if_pos hb, Int.le_refl _, .inr ⟨rfl, rfl⟩, fun b0 l0 h => ?_⟩
            injection h with h; subst h; exact Int.le_of_lt hb
          · refine ⟨b.1, b.2, if_neg hb, by omega, .inl rfl, fun b0 l0 h => ?_⟩
            injection h with h; subst h; exact Int.le_refl _
      obtain ⟨b1, l1, k1, k2, k3, k4⟩ := key
      rw [k1] at h1 h2 ⊢
      refine ⟨fun h => absurd (h1 h).1 (by simp), fun b l h => ?_⟩
      obtain ⟨a1, a2, a3⟩ := h2 b l h
      have hl1 := a3 b1 l1 rfl
      refine ⟨?_, fun E' hE' y hy => ?_, fun b0 l0 h0 => Int.le_trans hl1 (k4 b0 l0 h0)⟩
      · rcases a1 with e | ⟨e1, e2⟩
        · injection e with e; injection e with e1 e2; subst e1 e2
          rcases k3 with e | ⟨e1, e2⟩
          · exact .inl e
          · exact .inr ⟨by rw [e1]; exact List.mem_cons_self, by rw [e1, e2]; exact hf⟩
        · exact .inr ⟨List.mem_cons_of_mem _ e1, e2⟩
      · rcases List.mem_cons.1 hE' with rfl | h3
        · rw [hf] at hy; injection hy with hy; omega
        · exact a2 _ h3 y hy
/-- The first of the least ones of all orders. -/
def firstL (n : Nat) (f : List Int → Option Int) : Option (List Int × Int) := permF n (flStep f) n [] none
theorem firstL_spec {n : Nat} {f : List Int → Option Int} : (firstL n f = none → ∀ E : List Int, E.Perm (idL n) → f E = none) ∧
    ∀ b l, firstL n f = some (b, l) → b.Perm (idL n) ∧ f b = some l ∧ ∀ E : List Int, E.Perm (idL n) → ∀ x, f E = some x → l ≤ x := by
  have h := fl_spec f (permL n n []) none
  unfold firstL
  rw [permF_eq]
  refine ⟨fun h0 E hE => (h.1 h0).2 E (permL_perm.2 hE), fun b l h0 => ?_⟩
  obtain ⟨a1, a2, _⟩ := h.2 b l h0
  rcases a1 with e | ⟨e1, e2⟩
  · cases e
  · exact ⟨permL_perm.1 e1, e2, fun E hE x hx => a2 E (permL_perm.2 hE) x hx⟩
end Go.Proofs.Ytcopjdhnmkfkfaa

namespace Go.Proofs.Ytcopjdhnmkfkfaa
open Go.RowKit
set_option linter.unusedVariables false
set_option linter.unusedSimpArgs false

def jbN (js : List Jb) (i : Nat) : Jb := js.getD i (0, 0, 0, 0)
theorem jbN_eq {js : List Jb} {i : Nat} (h : i < js.length) : jbN js i = js[i] := by unfold jbN; rw [List.getD_eq_getElem?_getD, List.getElem?_eq_getElem h]; rfl
abbrev tmJ (js : List Jb) (i : Nat) : Int := (jbN js i).1
abbrev rlJ (js : List Jb) (i : Nat) : Int := (jbN js i).2.1
abbrev duJ (js : List Jb) (i : Nat) : Int := (jbN js i).2.2.1
abbrev wgJ (js : List Jb) (i : Nat) : Int := (jbN js i).2.2.2
/-- What a job that ends at e puts to a cost. -/
def shareB (kind : Int) (j : Jb) (e : Int) : Int :=
  if kind = 0 then e else if kind = 1 then j.2.2.2 * e else if kind = 2 then e - j.2.2.1 else if kind = 3 then j.2.2.2 * max 0 (e - j.2.2.1) else if j.2.2.1 < e then 1 else 0
def isGr (kind : Int) : Bool := kind == 0 || kind == 2
def bothB (g : Bool) (a b : Int) : Int := if g then max a b else a + b
theorem bothB_comm (g : Bool) (a b : Int) : bothB g a b = bothB g b a := by unfold bothB; split <;> omega
theorem bothB_assoc (g : Bool) (a b c : Int) : bothB g (bothB g a b) c = bothB g a (bothB g b c) := by unfold bothB; split <;> omega
theorem bothB_mono {g : Bool} {a b c : Int} (h : b ≤ c) : bothB g a b ≤ bothB g a c := by unfold bothB; split <;> omega
def obB (g : Bool) : Option Int → Int → Option Int
  | none, x => some x
  | some a, x => some (bothB g a x)
theorem obB_swap (g : Bool) (z : Option Int) (x y : Int) : obB g (obB g z x) y = obB g (obB g z y) x := by
  cases z with
  | none => show some _ = some _; rw [bothB_comm]
  | some a => show some _ = some _; rw [bothB_assoc, bothB_assoc, bothB_comm g x y]
def foldO (g : Bool) (l : List Int) : Option Int := l.foldl (obB g) none
theorem foldO_perm {g : Bool} {l k : List Int} (h : l.Perm k) : foldO g l = foldO g k := h.foldl_eq' (fun x _ y _ z => obB_swap g z x y) none

/-- The time behind the first k jobs of an order. -/
def atTo (js : List Jb) (E : List Int) : Nat → Int
  | 0 => 0
  | k + 1 => max (atTo js E k) (rlJ js (nth E k).toNat) + tmJ js (nth E k).toNat
def endsTo (js : List Jb) (E : List Int) : Nat → List Int
  | 0 => List.replicate js.length 0
  | k + 1 => (endsTo js E k).set (nth E k).toNat (atTo js E (k + 1))
theorem endsTo_len (js : List Jb) (E : List Int) : ∀ k, (endsTo js E k).length = js.length
  | 0 => by simp [endsTo]
  | k + 1 => by unfold endsTo; rw [List.length_set]; exact endsTo_len js E k
def endsE (js : List Jb) (E : List Int) : List Int := endsTo js E js.length
/-- The cost of the jobs 0 to k by their ends. -/
def costTo (kind : Int) (js : List Jb) (ends : List Int) : Nat → Int
  | 0 => shareB kind (jbN js 0) (nth ends 0)
  | k + 1 => bothB (isGr kind) (costTo kind js ends k) (shareB kind (jbN js (k + 1)) (nth ends (k + 1)))
def costE (kind : Int) (js : List Jb) (E : List Int) : Int := costTo kind js (endsE js E) (js.length - 1)
theorem costTo_fold (kind : Int) (js : List Jb) (ends : List Int) : ∀ k, some (costTo kind js ends k) = foldO (isGr kind) ((List.range (k + 1)).map fun i => shareB kind (jbN js i) (nth ends i))
  | 0 => rfl
  | k + 1 => by
    have h := costTo_fold kind js ends k
    rw [List.range_succ, List.map_append]
    unfold foldO at h ⊢
    rw [List.foldl_append, ← h]
    rfl
theorem nth_setJ {l : List Int} {m i : Nat} (v : Int) (hm : m < l.length) : nth (l.set m v) i = if m = i then v else nth l i := by
  unfold nth
  rw [List.getD_eq_getElem?_getD, List.getElem?_set, List.getD_eq_getElem?_getD]
  split
  · rename_i e'; subst e'; simp [hm]
  · rfl
/-- What stands at the place of the m-th job of the order. -/
theorem endsTo_at {js : List Jb} {E : List Int} (hE : E.Perm (idL js.length)) : ∀ k, k ≤ js.length → ∀ m, m < k → nth (endsTo js E k) (nth E m).toNat = atTo js E (m + 1)
  | 0, _, m, h => absurd h (Nat.not_lt_zero _)
  | k + 1, hk, m, hm => by
    have hl : E.length = js.length := by rw [hE.length_eq, idL_length]
    have hin : ∀ j, j < js.length → 0 ≤ nth E j ∧ nth E j < (js.length : Int) := fun j hj => idL_mem.1 (hE.mem_iff.1 (by rw [nth_eq (by omega)]; exact List.getElem_mem _))
    have h1 := hin k (by omega)
    have h2 := hin m (by omega)
    unfold endsTo
    rw [nth_setJ _ (by rw [endsTo_len]; omega)]
    by_cases e : m = k
    · subst e; rw [if_pos rfl]
    · rw [if_neg]
      · exact endsTo_at hE k (by omega) m (by omega)
      · intro h3
        have h4 : nth E k = nth E m := by omega
        rw [nth_eq (by omega), nth_eq (by omega)] at h4
        have hp := permQ_nodup hE
        have := List.pairwise_iff_getElem.1 hp m k (by omega) (by omega) (by omega)
        exact this h4.symm
/-- The cost along the order. -/
def seqO (kind : Int) (js : List Jb) (z : Option Int) (t : Int) : List Int → Option Int
  | [] => z
  | x :: q => seqO kind js (obB (isGr kind) z (shareB kind (jbN js x.toNat) (max t (rlJ js x.toNat) + tmJ js x.toNat))) (max t (rlJ js x.toNat) + tmJ js x.toNat) q
theorem seqO_drop (kind : Int) (js : List Jb) (E : List Int) : ∀ d k, k + d = E.length → ∀ z, seqO kind js z (atTo js E k) (E.drop k) = ((List.range d).map fun m => shareB kind (jbN js (nth E (k + m)).toNat) (atTo js E (k + m + 1))).foldl (obB (isGr kind)) z
  | 0, k, h, z => by
    rw [List.drop_eq_nil_of_le (by omega)]; rfl
  | d + 1, k, h, z => by
    rw [List.drop_eq_getElem_cons (by omega)]
    unfold seqO
    have e1 : max (atTo js E k) (rlJ js (E[k]'(by omega)).toNat) + tmJ js (E[k]'(by omega)).toNat = atTo js E (k + 1) := by
      show _ = max (atTo js E k) (rlJ js (nth E k).toNat) + tmJ js (nth E k).toNat
      rw [nth_eq (by omega)]
    rw [e1, seqO_drop kind js E d (k + 1) (by omega), List.range_succ_eq_map, List.map_cons, List.foldl_cons, List.map_map]
    have e2 : E[k]'(by omega) = nth E (k + 0) := by rw [Nat.add_zero, nth_eq (by omega)]
    rw [e2]
    congr 1
    apply List.map_congr_left
    intro m _
    show shareB kind (jbN js (nth E (k + 1 + m)).toNat) (atTo js E (k + 1 + m + 1)) = shareB kind (jbN js (nth E (k + (m + 1))).toNat) (atTo js E (k + (m + 1) + 1))
    rw [show k + 1 + m = k + (m + 1) by omega]
theorem costE_seq {kind : Int} {js : List Jb} {E : List Int} (hE : E.Perm (idL js.length)) (h1 : 1 ≤ js.length) : some (costE kind js E) = seqO kind js none 0 E := by
  have hl : E.length = js.length := by rw [hE.length_eq, idL_length]
  have h2 := seqO_drop kind js E E.length 0 (by omega) none
  rw [List.drop_zero] at h2
  rw [show (0 : Int) = atTo js E 0 from rfl, h2]
  unfold costE
  rw [costTo_fold, show js.length - 1 + 1 = js.length by omega]
  have h3 : ((List.range E.length).map fun m => shareB kind (jbN js (nth E (0 + m)).toNat) (atTo js E (0 + m + 1))) = E.map fun x => shareB kind (jbN js x.toNat) (nth (endsE js E) x.toNat) := by
    apply List.ext_getElem
    · simp
    · intro m p1 p2
      simp only [List.length_map, List.length_range] at p1
      simp only [List.getElem_map, List.getElem_range, Nat.zero_add]
      have h4 := endsTo_at hE js.length (Nat.le_refl _) m (by omega)
      rw [nth_eq p1] at h4 ⊢
      show _ = shareB kind (jbN js (E[m]).toNat) (nth (endsTo js E js.length) (E[m]).toNat)
      rw [h4]
  rw [h3]
  refine (foldO_perm ?_).symm
  have h5 := hE.map fun x => shareB kind (jbN js x.toNat) (nth (endsE js E) x.toNat)
  refine h5.trans (List.Perm.of_eq ?_)
  unfold idL
  rw [List.map_map]
  apply List.map_congr_left
  intro i _
  simp
/-- .. behind something. -/
theorem seqO_some (kind : Int) (js : List Jb) : ∀ (q : List Int) (a b t : Int), seqO kind js (some b) t q = (seqO kind js none t q).elim (some b) (fun c => some (bothB (isGr kind) b c)) ∧ (q ≠ [] → ∃ c, seqO kind js none t q = some c)
  | [], a, b, t => ⟨rfl, fun h => absurd rfl h⟩
  | x :: q, a, b, t => by
    unfold seqO
    obtain ⟨t', ht'⟩ : ∃ t', max t (rlJ js x.toNat) + tmJ js x.toNat = t' := ⟨_, rfl⟩
    obtain ⟨s, hs⟩ : ∃ s, shareB kind (jbN js x.toNat) t' = s := ⟨_, rfl⟩
    rw [ht', hs]
    show seqO kind js (some (bothB (isGr kind) b s)) t' q = (seqO kind js (some s) t' q).elim _ _ ∧ (_ → ∃ c, seqO kind js (some s) t' q = some c)
    obtain ⟨h1, h1'⟩ := seqO_some kind js q a (bothB (isGr kind) b s) t'
    obtain ⟨h2, _⟩ := seqO_some kind js q a s t'
    rw [h1, h2]
    cases seqO kind js none t' q with
    | none => exact ⟨rfl, fun _ => ⟨s, rfl⟩⟩
    | some c => exact ⟨by show some _ = some _; rw [bothB_assoc], fun _ => ⟨_, rfl⟩⟩
end Go.Proofs.Ytcopjdhnmkfkfaa

namespace Go.Proofs.Ytcopjdhnmkfkfaa
open Go.RowKit
set_option linter.unusedVariables false
set_option linter.unusedSimpArgs false

abbrev Tk := Int × Int × List Int × List Int
def rTask : Rdr Tk := rPair rInt (rPair rInt (rPair (rSl rInt) (rSl rInt)))
theorem task_cells {w : World} {cs : List Value} {x : Tk} : rTask.R w cs x ↔ ∃ vb vl, cs = [.int .i64 x.1, .int .i64 x.2.1, vb, vl] ∧ (Lit.int .i64 x.1).wf = true ∧ (Lit.int .i64 x.2.1).wf = true ∧ SlR rInt w vb x.2.2.1 ∧ SlR rInt w vl x.2.2.2 := by
  constructor
  · rintro ⟨c1, c2, rfl, ⟨rfl, h1⟩, c3, c4, rfl, ⟨rfl, h2⟩, c5, c6, rfl, ⟨vb, rfl, h3⟩, vl, rfl, h4⟩
    exact ⟨vb, vl, rfl, h1, h2, h3, h4⟩
  · rintro ⟨vb, vl, rfl, h1, h2, h3, h4⟩
    exact ⟨_, _, rfl, ⟨rfl, h1⟩, _, _, rfl, ⟨rfl, h2⟩, _, _, rfl, ⟨vb, rfl, h3⟩, vl, rfl, h4⟩
abbrev TasksR (w : World) (v : Value) (xs : List Tk) : Prop := SlR rTask w v xs
theorem rTask_size : rTask.size = 4 := rfl
/-- The four cells of a task. -/
theorem TasksR.at_ {w : World} {v : Value} {xs : List Tk} (h : TasksR w v xs) : ∃ a c, v = .slice a xs.length c ∧ xs.length ≤ c ∧ ∀ i (hi : i < xs.length), ∃ b o vb vl, a = some ⟨b, o, none⟩ ∧ b < w.heap.size ∧ SlR rInt w vb xs[i].2.2.1 ∧ SlR rInt w vl xs[i].2.2.2 ∧ (Lit.int .i64 xs[i].1).wf = true ∧ (Lit.int .i64 xs[i].2.1).wf = true ∧
    w.cell? ⟨b, o + i * 4, none⟩ = some (.int .i64 xs[i].1) ∧ w.cell? ⟨b, o + i * 4 + 1, none⟩ = some (.int .i64 xs[i].2.1) ∧ w.cell? ⟨b, o + i * 4 + 2, none⟩ = some vb ∧ w.cell? ⟨b, o + i * 4 + 3, none⟩ = some vl := by
  obtain ⟨hm, a, c, hv, hcap, hc⟩ := h
  refine ⟨a, c, hv, hcap, fun i hi => ?_⟩
  obtain ⟨b, o, cs, ha, hbs, hr, hcell⟩ := hc i hi
  obtain ⟨vb, vl, rfl, h1, h2, h3, h4⟩ := task_cells.1 hr
  refine ⟨b, o, vb, vl, ha, hbs, h3, h4, h1, h2, ?_, ?_, ?_, ?_⟩
  · exact hcell 0 (by simp)
  · exact hcell 1 (by simp)
  · exact hcell 2 (by simp)
  · exact hcell 3 (by simp)

/-- No more numbers than a machine can copy at once. -/
def smallTask (x : Tk) : Prop := x.2.2.1.length ≤ 1048576 ∧ x.2.2.2.length ≤ 1048576
def smallTasks (xs : List Tk) : Prop := xs.length ≤ 1048576 ∧ ∀ x ∈ xs, smallTask x


end Go.Proofs.Ytcopjdhnmkfkfaa

namespace Go.Proofs.Ytcopjdhnmkfkfaa
open Go.RowKit
set_option linter.unusedVariables false
set_option linter.unusedSimpArgs false

theorem OwnI.slR {w : World} {B : Nat} {v : Value} {xs : List Int} (h : OwnI w B v xs) (hw : ∀ n ∈ xs, (Lit.int .i64 n).wf = true) : SlR rInt w v xs := SlR.of_ints h.ints hw

end Go.Proofs.Ytcopjdhnmkfkfaa

namespace Go.Proofs.Ytcopjdhnmkfkfaa
open Go.RowKit
set_option linter.unusedVariables false
set_option linter.unusedSimpArgs false

def rJob : Rdr Jb := rPair rInt (rPair rInt (rPair rInt rInt))
def jobWf (j : Jb) : Prop := (Lit.int .i64 j.1).wf = true ∧ (Lit.int .i64 j.2.1).wf = true ∧ (Lit.int .i64 j.2.2.1).wf = true ∧ (Lit.int .i64 j.2.2.2).wf = true
theorem job_cells {w : World} {cs : List Value} {x : Jb} : rJob.R w cs x ↔ cs = jbCells x ∧ jobWf x := by
  constructor
  · rintro ⟨c1, c2, rfl, ⟨rfl, h1⟩, c3, c4, rfl, ⟨rfl, h2⟩, c5, c6, rfl, ⟨rfl, h3⟩, rfl, h4⟩
    exact ⟨rfl, h1, h2, h3, h4⟩
  · rintro ⟨rfl, h1, h2, h3, h4⟩
    exact ⟨_, _, rfl, ⟨rfl, h1⟩, _, _, rfl, ⟨rfl, h2⟩, _, _, rfl, ⟨rfl, h3⟩, rfl, h4⟩
abbrev JobsR (w : World) (v : Value) (xs : List Jb) : Prop := SlR rJob w v xs
theorem JobsR.jobs {w : World} {v : Value} {xs : List Jb} (h : JobsR w v xs) : Jobs w v xs := by
  obtain ⟨hm, a, c, hv, hcap, hc⟩ := h
  refine ⟨hm, a, c, hv, hcap, fun i hi => ?_⟩
  obtain ⟨b, o, cs, ha, hbs, hr, hcell⟩ := hc i hi
  obtain ⟨rfl, _⟩ := job_cells.1 hr
  exact ⟨b, o, ha, hbs, hcell⟩
theorem JobsR.wf {w : World} {v : Value} {xs : List Jb} (h : JobsR w v xs) : ∀ i (hi : i < xs.length), jobWf xs[i] := fun i hi => by
  obtain ⟨hm, a, c, hv, hcap, hc⟩ := h
  obtain ⟨b, o, cs, ha, hbs, hr, hcell⟩ := hc i hi
  exact (job_cells.1 hr).2
theorem Jobs.at_ {w : World} {v : Value} {xs : List Jb} (h : Jobs w v xs) : ∃ a c, v = .slice a xs.length c ∧ xs.length ≤ c ∧ ∀ i (hi : i < xs.length), ∃ b o, a = some ⟨b, o, none⟩ ∧ b < w.heap.size ∧
    w.cell? ⟨b, o + i * 4, none⟩ = some (.int .i64 xs[i].1) ∧ w.cell? ⟨b, o + i * 4 + 1, none⟩ = some (.int .i64 xs[i].2.1) ∧ w.cell? ⟨b, o + i * 4 + 2, none⟩ = some (.int .i64 xs[i].2.2.1) ∧ w.cell? ⟨b, o + i * 4 + 3, none⟩ = some (.int .i64 xs[i].2.2.2) := by
  obtain ⟨hm, a, c, hv, hcap, hc⟩ := h
  refine ⟨a, c, hv, hcap, fun i hi => ?_⟩
  obtain ⟨b, o, ha, hbs, hcell⟩ := hc i hi
  exact ⟨b, o, ha, hbs, hcell 0 (by simp [jbCells]), hcell 1 (by simp [jbCells]), hcell 2 (by simp [jbCells]), hcell 3 (by simp [jbCells])⟩
def rRule : Rdr Rl := rPair rInt (rPair rInt (rPair rInt (rPair rInt rInt)))
abbrev Dk := List Jb × Rl × List Int × ByteArray
def rDesk : Rdr Dk := rPair (rSl rJob) (rPair rRule (rPair (rSl rInt) rStr))
def deskCells (vj : Value) (r : Rl) (vc : Value) (p : ByteArray) : List Value := [vj, .int .i64 r.1, .int .i64 r.2.1, .int .i64 r.2.2.1, .int .i64 r.2.2.2.1, .int .i64 r.2.2.2.2, vc, .string p]
def ruleWf (r : Rl) : Prop := (Lit.int .i64 r.1).wf = true ∧ (Lit.int .i64 r.2.1).wf = true ∧ (Lit.int .i64 r.2.2.1).wf = true ∧ (Lit.int .i64 r.2.2.2.1).wf = true ∧ (Lit.int .i64 r.2.2.2.2).wf = true
theorem rule_cells {w : World} {cs : List Value} {r : Rl} : rRule.R w cs r ↔ cs = [.int .i64 r.1, .int .i64 r.2.1, .int .i64 r.2.2.1, .int .i64 r.2.2.2.1, .int .i64 r.2.2.2.2] ∧ ruleWf r := by
  constructor
  · rintro ⟨_, _, rfl, ⟨rfl, h1⟩, _, _, rfl, ⟨rfl, h2⟩, _, _, rfl, ⟨rfl, h3⟩, _, _, rfl, ⟨rfl, h4⟩, rfl, h5⟩
    exact ⟨rfl, h1, h2, h3, h4, h5⟩
  · rintro ⟨rfl, h1, h2, h3, h4, h5⟩
    exact ⟨_, _, rfl, ⟨rfl, h1⟩, _, _, rfl, ⟨rfl, h2⟩, _, _, rfl, ⟨rfl, h3⟩, _, _, rfl, ⟨rfl, h4⟩, rfl, h5⟩
theorem desk_cells {w : World} {cs : List Value} {x : Dk} : rDesk.R w cs x ↔ ∃ vj vc, cs = deskCells vj x.2.1 vc x.2.2.2 ∧ JobsR w vj x.1 ∧ ruleWf x.2.1 ∧ SlR rInt w vc x.2.2.1 ∧ x.2.2.2.size ≤ maxLen := by
  constructor
  · rintro ⟨_, _, rfl, ⟨vj, rfl, h1⟩, _, _, rfl, h2, _, _, rfl, ⟨vc, rfl, h3⟩, rfl, h4⟩
    obtain ⟨rfl, h5⟩ := rule_cells.1 h2
    exact ⟨vj, vc, rfl, h1, h5, h3, h4⟩
  · rintro ⟨vj, vc, rfl, h1, h2, h3, h4⟩
    exact ⟨_, _, rfl, ⟨vj, rfl, h1⟩, _, _, rfl, rule_cells.2 ⟨rfl, h2⟩, _, _, rfl, ⟨vc, rfl, h3⟩, rfl, h4⟩
theorem deskV_cells (vj : Value) (r : Rl) (vc : Value) (p : ByteArray) : deskV vj r vc p = .agg (deskCells vj r vc p).toArray := rfl
def smallDesk (x : Dk) : Prop := x.1.length ≤ 1048576 ∧ x.2.2.1.length ≤ 1048576 ∧ x.2.2.2.size ≤ 1048576

theorem info_job : (Try.prog.info? 37).map (fun i => (i.zero, i.size, i.bytes)) = some (some (.agg #[.int .i64 0, .int .i64 0, .int .i64 0, .int .i64 0]), 4, 32) := by kernel_rfl

end Go.Proofs.Ytcopjdhnmkfkfaa

namespace Go.Proofs.Ytcopjdhnmkfkfaa
open Go.RowKit
set_option linter.unusedVariables false
set_option linter.unusedSimpArgs false

end Go.Proofs.Ytcopjdhnmkfkfaa

namespace Go.Proofs.Ytcopjdhnmkfkfaa
open Go.RowKit
set_option linter.unusedVariables false
set_option linter.unusedSimpArgs false

def isLow (c : UInt8) : Bool := decide (97 ≤ (c.toNat : Int)) && decide ((c.toNat : Int) ≤ 122)
def nameOk (s : ByteArray) : Bool := s.data.toList.all isLow && decide (1 ≤ s.size) && decide (s.size ≤ 8)
theorem all_take_succ (s : ByteArray) (k : Nat) (h : k < s.size) : (s.data.toList.take (k + 1)).all isLow = ((s.data.toList.take k).all isLow && isLow s[k]) := by
  rw [List.take_succ_eq_append_getElem (by simpa using h), List.all_append]
  simp
  rfl
theorem all_bad (s : ByteArray) (k : Nat) (h : k < s.size) (hb : isLow s[k] = false) : s.data.toList.all isLow = false := by
  rw [List.all_eq_false]
  exact ⟨s[k], by
    have : s[k] = s.data.toList[k]'(by simpa using h) := by simp; rfl
    rw [this]; exact List.getElem_mem _, by rw [hb]; simp⟩
theorem all_full (s : ByteArray) : s.data.toList.take s.size = s.data.toList := List.take_of_length_le (by simp)

end Go.Proofs.Ytcopjdhnmkfkfaa

namespace Go.Proofs.Ytcopjdhnmkfkfaa
open Go.RowKit Go.BigFrame
set_option linter.unusedVariables false
set_option linter.unusedSimpArgs false

def many (xs : List Int) (few most : Int) (lo hi : Int) : Bool := decide (few ≤ (xs.length : Int)) && decide ((xs.length : Int) ≤ most) && xs.all fun n => win n lo hi

theorem many_true {xs : List Int} {few most lo hi : Int} : many xs few most lo hi = true ↔ few ≤ xs.length ∧ (xs.length : Int) ≤ most ∧ (xs.all fun n => win n lo hi) = true := by
  simp [many, and_assoc]
/-! Patterns. -/
def isDay (c : UInt8) : Bool := (c.toNat == 46) || isLow c
def patOk (s : ByteArray) (m : Int) : Bool := s.data.toList.all isDay && decide (1 ≤ s.size) && decide ((s.size : Int) ≤ m)
theorem day_take_succ (s : ByteArray) (k : Nat) (h : k < s.size) : (s.data.toList.take (k + 1)).all isDay = ((s.data.toList.take k).all isDay && isDay s[k]) := by
  rw [List.take_succ_eq_append_getElem (by simpa using h), List.all_append]
  simp
  rfl
theorem day_bad (s : ByteArray) (k : Nat) (h : k < s.size) (hb : isDay s[k] = false) : s.data.toList.all isDay = false := by
  rw [List.all_eq_false]
  exact ⟨s[k], by
    have : s[k] = s.data.toList[k]'(by simpa using h) := by simp; rfl
    rw [this]; exact List.getElem_mem _, by rw [hb]; simp⟩

/-! Counts. -/
def countsOk (cs : List Int) : Bool := many cs 1 8 0 16 && win cs.sum 1 64
theorem sum_take (cs : List Int) (k : Nat) (h : k < cs.length) : (cs.take (k + 1)).sum = (cs.take k).sum + nth cs k := by
  rw [List.take_succ_eq_append_getElem h, List.sum_append, nth_eq h]; simp
theorem sum_le (cs : List Int) (h : (cs.all fun n => win n 0 16) = true) : ∀ k, k ≤ cs.length → 0 ≤ (cs.take k).sum ∧ (cs.take k).sum ≤ 16 * k := by
  intro k
  induction k with
  | zero => intro _; simp
  | succ k ih =>
    intro hk
    have h1 := ih (by omega)
    rw [sum_take cs k (by omega), nth_eq (by omega)]
    have := win_true.1 (List.all_eq_true.1 h _ (List.getElem_mem (show k < cs.length by omega)))
    omega

end Go.Proofs.Ytcopjdhnmkfkfaa

namespace Go.Proofs.Ytcopjdhnmkfkfaa
open Go.RowKit Go.BigFrame
set_option linter.unusedVariables false
set_option linter.unusedSimpArgs false

theorem all16 {cs : List Int} (h : many cs 1 8 0 16 = true) : (cs.all fun n => win n 0 16) = true ∧ cs.length ≤ 8 := by
  obtain ⟨h1, h2, h3⟩ := many_true.1 h
  exact ⟨h3, by omega⟩
theorem counts_bad {cs : List Int} {k : Nat} (h : k < cs.length) (hb : win (nth cs k) 0 16 = false) : countsOk cs = false := by
  have : many cs 1 8 0 16 = false := by
    unfold many
    have : (cs.all fun n => win n 0 16) = false := by rw [List.all_eq_false]; exact ⟨cs[k], List.getElem_mem h, by rw [← nth_eq h, hb]; simp⟩
    rw [this]; simp
  unfold countsOk; rw [this]; rfl
theorem counts_end {cs : List Int} (h : ∀ k, k < cs.length → win (nth cs k) 0 16 = true) : (cs.all fun n => win n 0 16) = true ∧ countsOk cs = (decide (1 ≤ cs.length) && decide (cs.length ≤ 8) && win cs.sum 1 64) := by
  have : (cs.all fun n => win n 0 16) = true := by
    rw [List.all_eq_true]
    intro x hx
    obtain ⟨k, hk, rfl⟩ := List.mem_iff_getElem.1 hx
    rw [← nth_eq hk]; exact h k hk
  refine ⟨this, ?_⟩
  unfold countsOk many
  rw [this, Bool.and_true]
  congr 2
  · congr 1; simp; omega
  · simp; omega
/-! Jobs. -/
def jobOk (j : Jb) : Bool := win j.1 1 10000 && win j.2.1 0 10000 && win j.2.2.1 0 10000 && win j.2.2.2 0 10000
def jobsOk (js : List Jb) : Bool := js.all jobOk && decide (1 ≤ js.length) && decide (js.length ≤ 24)
theorem jobs_bad {js : List Jb} {k : Nat} (h : k < js.length) (hb : jobOk js[k] = false) : jobsOk js = false := by
  unfold jobsOk
  have : js.all jobOk = false := by rw [List.all_eq_false]; exact ⟨js[k], List.getElem_mem h, by rw [hb]; simp⟩
  rw [this]; rfl
theorem jobs_end {js : List Jb} (h : ∀ k (hk : k < js.length), jobOk js[k] = true) : jobsOk js = (decide (1 ≤ js.length) && decide (js.length ≤ 24)) := by
  unfold jobsOk
  have : js.all jobOk = true := by
    rw [List.all_eq_true]; intro x hx
    obtain ⟨k, hk, rfl⟩ := List.mem_iff_getElem.1 hx
    exact h k hk
  rw [this]; rfl
set_option maxHeartbeats 2000000 in
theorem areJobs_any (v : Value) (js : List Jb) (w : World) (hv : Jobs w v js) : Calls Try.prog 12 #[v] w fun e w' => e = .returned (.bool (jobsOk js)) ∧ Below w.heap.size w w' := by
  have hm := hv.1
  unfold maxLen at hm
  obtain ⟨a, c, rfl, hcap, hc⟩ := hv.at_
  have HC := Lib.hid hc
  have HBAD : Hid (∀ k (h : k < js.length), jobOk js[k] = false → jobsOk js = false) := fun k hk h => jobs_bad hk h
  have HEND : Hid ((∀ k (hk : k < js.length), jobOk js[k] = true) → jobsOk js = (decide (1 ≤ js.length) && decide (js.length ≤ 24))) := jobs_end
  clear hc hv
  go_enter Try.func12, Try.ntmps12
  go_wp2
  go_loopw [7] (fun i wr => ∃ k : Nat, k ≤ js.length ∧ i = .int .i64 k ∧ Below w.heap.size w wr ∧ Hid (∀ j (hj : j < js.length), j < k → jobOk js[j] = true)) (fun i _ => js.length - (intOf i).toNat)
  case atStart => exact ⟨0, Nat.zero_le _, rfl, Below.refl _ _, fun j hj h => by omega⟩
  case round =>
    obtain ⟨k, hk, rfl, hB, hok⟩ := hrel
    obtain ⟨wr', rfl⟩ : ∃ wr' : World, wr' = wr := ⟨_, rfl⟩
    by_cases hlt : k < js.length
    · obtain ⟨b, o, rfl, hbs, g0, g1, g2, g3⟩ := HC.out k hlt
      have c0 := (hB.cell (p := ⟨b, o + k * 4, none⟩) hbs).trans g0
      have c1 := (hB.cell (p := ⟨b, o + k * 4 + 1, none⟩) hbs).trans g1
      have c2 := (hB.cell (p := ⟨b, o + k * 4 + 2, none⟩) hbs).trans g2
      have c3 := (hB.cell (p := ⟨b, o + k * 4 + 3, none⟩) hbs).trans g3
      have HX : Hid (jobOk js[k] = (win js[k].1 1 10000 && win js[k].2.1 0 10000 && win js[k].2.2.1 0 10000 && win js[k].2.2.2 0 10000)) := rfl
      have HBD := Lib.hid (HBAD.out k hlt)
      have HOK : Hid (jobOk js[k] = true → ∀ j (hj : j < js.length), j < k + 1 → jobOk js[j] = true) := fun h j hj h1 => by
        rcases Nat.lt_succ_iff_lt_or_eq.1 h1 with h2 | rfl
        · exact hok.out j hj h2
        · exact h
      obtain ⟨Y, hY⟩ : ∃ Y, jobOk js[k] = Y := ⟨_, rfl⟩
      rw [hY] at HX HBD HOK
      obtain ⟨x0, hx0⟩ : ∃ z, js[k].1 = z := ⟨_, rfl⟩
      obtain ⟨x1, hx1⟩ : ∃ z, js[k].2.1 = z := ⟨_, rfl⟩
      obtain ⟨x2, hx2⟩ : ∃ z, js[k].2.2.1 = z := ⟨_, rfl⟩
      obtain ⟨x3, hx3⟩ : ∃ z, js[k].2.2.2 = z := ⟨_, rfl⟩
      rw [hx0] at c0 HX
      rw [hx1] at c1 HX
      rw [hx2] at c2 HX
      rw [hx3] at c3 HX
      have k0 : (0 : Int) ≤ (k : Int) := by omega
      have k1 : (k : Int) < (js.length : Int) := by omega
      have HB := Lib.hid hB
      have HBA : Hid (Below w.heap.size w (wr'.alloc (.cells #[.int .i64 x0, .int .i64 x1, .int .i64 x2, .int .i64 x3] 37))) := hB.alloc hB.size _
      have HAW : Hid (Calls Try.prog 31 #[.slice (some ⟨wr'.heap.size + 1, 0, none⟩) 3 3, .int .i64 0, .int .i64 10000] ((wr'.alloc (.cells #[.int .i64 x0, .int .i64 x1, .int .i64 x2, .int .i64 x3] 37)).alloc (.cells #[.int .i64 x1, .int .i64 x2, .int .i64 x3] 2)) fun e w' => e = .returned (.bool (win x1 0 10000 && win x2 0 10000 && win x3 0 10000)) ∧ ((wr'.alloc (.cells #[.int .i64 x0, .int .i64 x1, .int .i64 x2, .int .i64 x3] 37)).alloc (.cells #[.int .i64 x1, .int .i64 x2, .int .i64 x3] 2)) = w') := by
        refine Lib.hid ?_
        have hl := OwnI.lit (wr'.alloc (.cells #[.int .i64 x0, .int .i64 x1, .int .i64 x2, .int .i64 x3] 37)) 0 [x1, x2, x3] (Nat.zero_le _) (by unfold maxLen; simp)
        have := areWithin_any _ [x1, x2, x3] 0 10000 _ hl.ints
        simpa [Bool.and_assoc] using this
      clear hx0 hx1 hx2 hx3 g0 g1 g2 g3 hB hok hY
      cases z0 : win x0 1 10000
      · have hYf : Y = false := by rw [HX.out, z0]; rfl
        have HF := Lib.hid (HBD.out hYf)
        clear hYf
        go_wp2_with (first | (go_at_call 22; refine (within_any _ _ _ _).mono ?_; rintro e w' ⟨rfl, rfl⟩) | (go_at_call 31; refine HAW.out.mono ?_; rintro e w' ⟨rfl, rfl⟩))
        go_ret
        exact ⟨ret_bool HF.out.symm, HBA.out⟩
      · obtain ⟨q, hq⟩ : ∃ q, (win x1 0 10000 && win x2 0 10000 && win x3 0 10000) = q := ⟨_, rfl⟩
        have hYq : Y = q := by rw [HX.out, z0, ← hq]; simp [Bool.and_assoc]
        rw [hq] at HAW
        clear hq
        cases q
        · have HF := Lib.hid (HBD.out hYq)
          clear hYq
          go_wp2_with (first | (go_at_call 22; refine (within_any _ _ _ _).mono ?_; rintro e w' ⟨rfl, rfl⟩) | (go_at_call 31; refine HAW.out.mono ?_; rintro e w' ⟨rfl, rfl⟩))
          go_ret
          exact ⟨ret_bool HF.out.symm, HBA.out.alloc HBA.out.size _⟩
        · have HF := Lib.hid (HOK.out hYq)
          clear hYq
          go_wp2_with (first | (go_at_call 22; refine (within_any _ _ _ _).mono ?_; rintro e w' ⟨rfl, rfl⟩) | (go_at_call 31; refine HAW.out.mono ?_; rintro e w' ⟨rfl, rfl⟩))
          go_roundw
          case rel => exact ⟨k + 1, by omega, by go_num, HBA.out.alloc HBA.out.size _, HF.out⟩
          case measure => simp [intOf]; omega
    · have HE := Lib.hid (HEND.out fun j hj => hok.out j hj (by omega))
      clear hok
      by_cases h1 : 1 ≤ js.length
      · go_wp2
        go_ret
        exact ⟨ret_bool (by rw [HE.out]; simp [h1]; omega), hB⟩
      · have hd : decide ((1 : Int) ≤ (js.length : Int)) = false := by simp; omega
        go_wp2
        go_ret
        exact ⟨ret_bool (by rw [HE.out]; simp [h1]), hB⟩
/-! Rules. -/
def ruleOk (r : Rl) : Bool := win r.1 1 24 && win r.2.1 0 r.2.2.1 && decide (r.2.2.1 ≤ r.1) && win r.2.2.2.1 1 r.1 && win r.2.2.2.2 1 r.1
theorem ruleOk_spec (a0 a1 a2 a3 a4 : Int) : ruleOk (a0, a1, a2, a3, a4) = (win a0 1 24 && win a2 0 a0 && win a1 0 a2 && win a3 1 a0 && win a4 1 a0) := by
  unfold ruleOk win
  rw [Bool.eq_iff_iff]
  simp only [Bool.and_eq_true, decide_eq_true_eq]
  omega
end Go.Proofs.Ytcopjdhnmkfkfaa

namespace Go.Proofs.Ytcopjdhnmkfkfaa
open Go.RowKit
set_option linter.unusedVariables false
set_option linter.unusedSimpArgs false

theorem info_bool : (Try.prog.info? 4).map (fun i => (i.zero, i.size, i.bytes)) = some (some (.bool false), 1, 1) := by kernel_rfl

/-- v is a slice of the call's own (in a block from B on), and it holds the bools xs. -/
def OwnB (w : World) (B : Nat) (v : Value) (xs : List Bool) : Prop := w.ownsRow B 4 1 v xs.length (xs.map Value.bool)

theorem OwnB.store {w : World} {N g n c : Nat} {xs : List Bool} (h : OwnB w N (.slice (some ⟨g, 0, none⟩) n c) xs) (hn : n = xs.length) (j : Nat) (hj : j < xs.length) (y : Bool) :
    w.cell? ⟨g, j, none⟩ = some (.bool xs[j]) ∧ w.frozen? ⟨g, j, none⟩ = false ∧ OwnB (w.setCell ⟨g, j, none⟩ (.bool y)) N (.slice (some ⟨g, 0, none⟩) n c) (xs.set j y) ∧ w.grownBy (w.setCell ⟨g, j, none⟩ (.bool y)) (some g) := by
  subst hn
  have h' : w.ownsRow N 4 1 (.slice (some ⟨g, 0, none⟩) xs.length c) xs.length (xs.map Value.bool) := h
  obtain ⟨h1, h2⟩ := h'.stored j (.bool y)
  refine ⟨?_, h'.frozenAt j, ?_, h2⟩
  · rw [h'.cellAt j (by omega), List.getElem?_map, List.getElem?_eq_getElem hj]; rfl
  · unfold OwnB
    rw [List.length_set, List.map_set]; exact h1
theorem OwnB.alloc {w : World} {B : Nat} {v : Value} {xs : List Bool} (h : OwnB w B v xs) (o : Obj) : OwnB (w.alloc o) B v xs := World.ownsRow.alloc h o
theorem OwnB.kept {w w' : World} {B : Nat} {v : Value} {xs : List Bool} {row : Option Nat} (h : OwnB w B v xs) (hg : w.grownBy w' row) (hne : v.ownBlock = none ∨ v.ownBlock ≠ row) : OwnB w' B v xs := World.ownsRow.kept h hg hne
theorem OwnB.lt {w : World} {B : Nat} {v : Value} {xs : List Bool} (h : OwnB w B v xs) : ∀ k, v.ownBlock = some k → B ≤ k ∧ k < w.heap.size := World.ownsRow.lt h
theorem OwnB.below {w w' : World} {B N : Nat} {v : Value} {xs : List Bool} (h : OwnB w B v xs) (hb : Below N w w') (hN : w.heap.size ≤ N) : OwnB w' B v xs := by
  refine h.kept (row := none) ⟨hb.os, hb.tape, hb.output, hb.size, fun k hk _ => hb.block k (by omega)⟩ ?_
  cases v.ownBlock <;> simp
theorem OwnB.drewN {w : World} {B : Nat} {v : Value} {xs : List Bool} (h : OwnB w B v xs) (q : Nat) : OwnB (w.drewN q) B v xs := h.below (below_drewN q (Below.refl w.heap.size w)) (Nat.le_refl _)

abbrev Bools (w : World) (v : Value) (xs : List Bool) : Prop := Sl Value.bool w v xs
theorem OwnB.bools {w : World} {base : Nat} {v : Value} {xs : List Bool} (h : OwnB w base v xs) : Bools w v xs := by
  have h' : w.ownsRow base 4 1 v xs.length (xs.map Value.bool) := h
  rcases h'.2 with ⟨rfl, h0⟩ | ⟨g, cap, cur, rfl, hg, hh, hc, hm, hcs, ht⟩
  · exact ⟨by omega, none, 0, by rw [h0], by omega, fun i hi => by omega⟩
  · refine ⟨by omega, _, cap, rfl, by omega, fun i hi => ⟨g, 0, rfl, (Array.getElem?_eq_some_iff.1 hh).1, ?_⟩⟩
    have := h'.cellAt (g := g) (cap := cap) i (by omega)
    rw [Nat.zero_add, this]
    simp [hi]

/-- What make([]bool, n) leaves. -/
theorem OwnB.made {w : World} {base g : Nat} {n : Nat} (h : w.ownsRow base 4 1 (.slice (some ⟨g, 0, none⟩) n n) n (madeCells (Value.bool false).cells (n * 1)).toList) : OwnB w base (.slice (some ⟨g, 0, none⟩) n n) (List.replicate n false) := by
  have e : (madeCells (Value.bool false).cells (n * 1)).toList = (List.replicate n false).map Value.bool := by
    rw [Nat.mul_one]; exact (toList_madeCells_one _ _).trans (by simp)
  rw [e] at h
  unfold OwnB
  rwa [List.length_replicate]

def isAllB (ys : List Int) : Bool := (List.range ys.length).all fun i => win (nth ys i) 0 ((ys.length : Int) - 1) && !((ys.take i).any (· == nth ys i))
/-- What has been seen of the numbers from 0 on. -/
def seenAt (ys : List Int) (k : Nat) : List Bool := (List.range ys.length).map fun (v : Nat) => (ys.take k).any (· == (v : Int))
theorem seenAt_length (ys : List Int) (k : Nat) : (seenAt ys k).length = ys.length := by simp [seenAt]
theorem seenAt_get (ys : List Int) (k i : Nat) (h : i < (seenAt ys k).length) : (seenAt ys k)[i] = (ys.take k).any (· == (i : Int)) := by simp [seenAt]
theorem seenAt_zero (ys : List Int) : seenAt ys 0 = List.replicate ys.length false := by
  apply List.ext_getElem
  · simp [seenAt]
  · intro i h1 h2; simp [seenAt]
theorem seenAt_set (ys : List Int) (k p : Nat) (hk : k < ys.length) (hp : nth ys k = p) : (seenAt ys k).set p true = seenAt ys (k + 1) := by
  apply List.ext_getElem
  · simp [seenAt]
  · intro i h1 h2
    rw [List.getElem_set, seenAt_get _ _ _ h2, List.take_succ_eq_append_getElem hk, List.any_append]
    rw [nth_eq hk] at hp
    split
    · rename_i e; subst e; simp [hp]
    · rename_i e
      rw [seenAt_get]
      have : ((p : Int) == (i : Int)) = false := by simp; omega
      simp [hp, this]

set_option maxHeartbeats 1000000 in
theorem isAll_any (v : Value) (ys : List Int) (w : World) (hv : Ints w v ys) (hl : ys.length ≤ 1048576) :
    Calls Try.prog 52 #[v] w fun e w' => e = .returned (.bool (isAllB ys)) ∧ Below w.heap.size w w' := by
  obtain ⟨hm, a, c, rfl, hcap, hc⟩ := hv
  obtain ⟨i0, hi, hz0, hz1, hz2⟩ := info_parts info_bool
  go_enter Try.func52, Try.ntmps52
  go_wp2_with (at_make; refine wpList_make_full _ rfl _ _ 75 rfl w.heap.size 4 i0 (.bool false) 1 Try.underlying75 hi hz0 hz1 _ _ _ _ ys.length rfl rfl rfl rfl (by rw [hz2]; omega) (by unfold maxLen at *; omega) (Nat.le_refl _) ?_; intro w1 hown1 hgrow1)
  have hb1 : Below w.heap.size w w1 := (Below.refl _ _).grown hgrow1 (Nat.le_refl _) (fun k e => by cases e)
  have ho1 := OwnB.made hown1
  rw [← seenAt_zero] at ho1
  clear hown1 hgrow1 hi hz0 hz1 hz2
  have Ho1 := Lib.hid ho1
  clear ho1
  unfold maxLen at hm
  go_wp2
  go_loopw [5, 11] (fun _ i wr => ∃ k : Nat, k ≤ ys.length ∧ i = .int .i64 k ∧ Below w.heap.size w wr ∧ OwnB wr w.heap.size (.slice (some ⟨w.heap.size, 0, none⟩) ys.length ys.length) (seenAt ys k) ∧
      ∀ i, i < k → win (nth ys i) 0 ((ys.length : Int) - 1) = true ∧ (ys.take i).any (· == nth ys i) = false) (fun _ i _ => ys.length - (intOf i).toNat)
  case atStart => exact ⟨0, Nat.zero_le _, rfl, hb1, Ho1.out, fun i hi => by omega⟩
  case round =>
    obtain ⟨k, hk, rfl, hb, ho, hr⟩ := hrel
    have Hr := Lib.hid hr
    clear hr hb1
    by_cases hlt : k < ys.length
    · obtain ⟨b, o, rfl, hbs, hc1⟩ := hc k hlt
      have hck : wr.cell? ⟨b, o + k, none⟩ = some (.int .i64 (nth ys k)) := by rw [nth_eq hlt]; exact (hb.cell (p := ⟨b, o + k, none⟩) hbs).trans hc1
      obtain ⟨p, hp⟩ : ∃ p, nth ys k = p := ⟨_, rfl⟩
      rw [hp] at hck
      have Hp := Lib.hid hp
      clear hc hc1 hp
      have bad : ∀ (h : (win (nth ys k) 0 ((ys.length : Int) - 1) && !((ys.take k).any (· == nth ys k))) = false), isAllB ys = false := fun h => by
        unfold isAllB; rw [List.all_eq_false]; exact ⟨k, by simpa using hlt, by rw [h]; simp⟩
      have Bad := Lib.hid bad
      clear bad
      cases hw : win p 0 ((ys.length : Int) - 1)
      · clear ho
        go_wp2_with (go_at_call 22; refine (within_any _ _ _ _).mono ?_; rintro e w' ⟨rfl, rfl⟩)
        go_ret
        exact ⟨ret_bool (Bad.out (by rw [Hp.out, hw]; rfl)).symm, hb⟩
      · obtain ⟨hp1, hp2⟩ := win_true.1 hw
        obtain ⟨q, rfl⟩ : ∃ q : Nat, p = q := ⟨p.toNat, by omega⟩
        have hql : q < ys.length := by omega
        obtain ⟨s1, s2, s3, s4⟩ := ho.store (seenAt_length _ _).symm q (by rw [seenAt_length]; exact hql) true
        rw [seenAt_get] at s1
        rw [seenAt_set ys k q hlt Hp.out] at s3
        have hb2 := hb.grown s4 hb.size (fun j e => by cases e; exact Nat.le_refl _)
        have S3 := Lib.hid s3
        have HB2 := Lib.hid hb2
        obtain ⟨sn, hsn⟩ : ∃ sn, (ys.take k).any (· == (q : Int)) = sn := ⟨_, rfl⟩
        rw [hsn] at s1
        have Hsn := Lib.hid hsn
        clear ho s3 s4 hb2 hsn
        cases sn
        · go_wp2_with (go_at_call 22; refine (within_any _ _ _ _).mono ?_; rintro e w' ⟨rfl, rfl⟩)
          go_roundw
          case rel =>
            refine ⟨k + 1, by omega, by go_num, HB2.out, S3.out, fun i hi => ?_⟩
            rcases Nat.lt_succ_iff_lt_or_eq.1 hi with h | rfl
            · exact Hr.out i h
            · rw [Hp.out]; exact ⟨hw, Hsn.out⟩
          case measure => simp [intOf]; omega
        · go_wp2_with (go_at_call 22; refine (within_any _ _ _ _).mono ?_; rintro e w' ⟨rfl, rfl⟩)
          go_ret
          exact ⟨ret_bool (Bad.out (by rw [Hp.out, Hsn.out]; simp)).symm, hb⟩
    · clear hc ho
      go_wp2
      go_ret
      refine ⟨ret_bool ?_, hb⟩
      symm
      unfold isAllB
      rw [List.all_eq_true]
      intro i hi
      have := Hr.out i (by have := List.mem_range.1 hi; omega)
      rw [this.1, this.2]; rfl
end Go.Proofs.Ytcopjdhnmkfkfaa

namespace Go.Proofs.Ytcopjdhnmkfkfaa
open Go.RowKit Go.BigFrame
set_option linter.unusedVariables false
set_option linter.unusedSimpArgs false
attribute [local go_sem] Oper.semAt_some

/-- A list that has all numbers from 0 to n - 1, each once. -/
def orders (n : Int) (xs : List Int) : Bool := decide ((xs.length : Int) = n) && isAllB xs
/-- The first k numbers are different ones from 0 to n - 1. -/
def ordPre (n : Int) (xs : List Int) (k : Nat) : Prop := ∀ i, i < k → win (nth xs i) 0 (n - 1) = true ∧ (xs.take i).any (· == nth xs i) = false
theorem orders_yes {n : Int} {xs : List Int} (hl : (xs.length : Int) = n) (h : ordPre n xs xs.length) : orders n xs = true := by
  unfold orders isAllB
  rw [hl, decide_eq_true rfl, Bool.true_and, List.all_eq_true]
  intro i hi
  obtain ⟨h1, h2⟩ := h i (List.mem_range.1 hi)
  rw [h1, h2]; rfl
theorem orders_no {n : Int} {xs : List Int} {k : Nat} (hk : k < xs.length) (h : win (nth xs k) 0 (n - 1) = false ∨ (xs.take k).any (· == nth xs k) = true) : orders n xs = false := by
  unfold orders isAllB
  by_cases hl : (xs.length : Int) = n
  · rw [hl, decide_eq_true rfl, Bool.true_and, List.all_eq_false]
    refine ⟨k, List.mem_range.2 hk, ?_⟩
    rcases h with h | h <;> rw [h] <;> simp
  · rw [decide_eq_false hl, Bool.false_and]
theorem orders_pre {n : Int} {xs : List Int} (h : orders n xs = true) : (xs.length : Int) = n ∧ ordPre n xs xs.length := by
  unfold orders isAllB at h
  rw [Bool.and_eq_true, decide_eq_true_eq, List.all_eq_true] at h
  refine ⟨h.1, fun i hi => ?_⟩
  have := h.2 i (List.mem_range.2 hi)
  rw [h.1, Bool.and_eq_true] at this
  exact ⟨this.1, by simpa using this.2⟩

theorem isOrder_any (n : Int) (v : Value) (xs : List Int) (w : World) (hv : Ints w v xs) (hl : xs.length ≤ 1048576) :
    Calls Try.prog 39 #[v, .int .i64 n] w fun e w' => e = .returned (.bool (win n 1 24 && orders n xs)) ∧ Below w.heap.size w w' := by
  have hall := isAll_any v xs w hv hl
  have HALL := Lib.hid hall
  obtain ⟨_, a, c, rfl, _, _⟩ := hv
  clear hall
  cases hw : win n 1 24
  · go_enter Try.func39, Try.ntmps39
    go_wp2_with (first | (go_at_call 22; refine (within_any _ _ _ _).mono ?_; rintro e w' ⟨rfl, rfl⟩))
    go_ret
    exact ⟨rfl, Below.refl _ _⟩
  · by_cases hne : (xs.length : Int) = n
    · have HE := Lib.hid hne
      have hd : ((xs.length : Int) != n) = false := by simpa using hne
      clear hne
      go_enter Try.func39, Try.ntmps39
      go_wp2_with (first | (go_at_call 22; refine (within_any _ _ _ _).mono ?_; rintro e w' ⟨rfl, rfl⟩) | (go_at_call 52; refine HALL.out.mono ?_; rintro e w' ⟨rfl, hb⟩))
      go_ret
      exact ⟨ret_bool (by unfold orders; rw [HE.out]; simp), hb⟩
    · have HE := Lib.hid hne
      have hd : ((xs.length : Int) != n) = true := by simpa using hne
      clear hne
      go_enter Try.func39, Try.ntmps39
      go_wp2_with (first | (go_at_call 22; refine (within_any _ _ _ _).mono ?_; rintro e w' ⟨rfl, rfl⟩))
      go_ret
      exact ⟨ret_bool (by unfold orders; rw [decide_eq_false HE.out]; rfl), Below.refl _ _⟩
end Go.Proofs.Ytcopjdhnmkfkfaa
