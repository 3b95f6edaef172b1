
/- What FnRounds says of the circle's rounds, as a plain computation for each number of teams. Conditions: 2, 4, 6, 8 or 10 teams. -/
import Derived.Test.YtmhepomjbaendaaTripsImpl2
import Derived.Test.YtmhepomjbaendaaTripsSpec2
import Derived.Test.YtmhepomjbaendaaSpecHomes
import Derived.Test.YtmhepomjbaendaaBackImpl
import Derived.Test.YtmhepomjbaendaaTurned
import Derived.Test.YtmhepomjbaendaaBreaks
namespace Go.Proofs.Ytmhepomjbaendaa
open Go.RowKit
set_option linter.unusedVariables false
set_option linter.unusedSimpArgs false

def metStep (t : Nat) (G : List Int) (l : List Int) (j : Nat) : List Int :=
  let a := (nth G (2 * j)).toNat
  let b := (nth G (2 * j + 1)).toNat
  let l1 := l.set (a * t + b) (nth l (a * t + b) + 1)
  l1.set (b * t + a) (nth l1 (b * t + a) + 1)
def metL (t : Nat) (G : List Int) (m : Nat) : List Int := (List.range m).foldl (metStep t G) (List.replicate (t * t) 0)
theorem metL_succ (t : Nat) (G : List Int) (m : Nat) : metL t G (m + 1) = metStep t G (metL t G m) m := by
  unfold metL; rw [List.range_succ, List.foldl_append]; rfl
theorem metL_length (t : Nat) (G : List Int) (m : Nat) : (metL t G m).length = t * t := by
  induction m with
  | zero => simp [metL]
  | succ m ih => rw [metL_succ]; simp [metStep, ih]
def farL (t : Nat) : List Int := (List.range (t * t)).map fun k => if k / t = k % t then 0 else 1

def rlA (t : Nat) : Bool :=
  let G := circL t
  let B := backL t G
  let H := homesL t G
  teamsOk t && roundsOk t G && backOk t G && roundsOk t B && decide (G.length = t * (t - 1)) && decide (B.length = 2 * G.length) && decide (H.length = G.length) && tripsOk t G (farL t)
  && ((List.range (G.length / 2)).all fun m => decide (0 ≤ nth G (2 * m)) && decide (nth G (2 * m) < (t : Int)) && decide (0 ≤ nth G (2 * m + 1)) && decide (nth G (2 * m + 1) < (t : Int))
    && decide (nth B (G.length + 2 * m) = nth G (2 * m + 1)) && decide (nth B (G.length + 2 * m + 1) = nth G (2 * m))
    && H.getD (2 * m / t * t + (nth G (2 * m)).toNat) false && !H.getD (2 * m / t * t + (nth G (2 * m + 1)).toNat) true)
  && ((List.range t).all fun i => (List.range t).all fun k => decide (i = k) || decide (nth (metL t G (G.length / 2)) (i * t + k) = 1))
def rlB (t r : Nat) : Bool :=
  let G := circL t
  let T := turnL t G r
  turnOk t G r && decide (T.length = G.length) && roundsOk t T && ((List.range (G.length / 2)).all fun m => decide (nth T ((2 * m + G.length - r * t) % G.length) = nth G (2 * m)))
set_option maxRecDepth 1000000 in
theorem rlA_ok : ∀ t ∈ [2, 4, 6, 8, 10], rlA t = true := by decide +kernel
set_option maxRecDepth 1000000 in
theorem rlB_ok : ∀ t ∈ [2, 4, 6, 8, 10], ∀ r ∈ List.range (t - 1), rlB t r = true := by decide +kernel
theorem rlA_facts {t : Nat} (h : t ∈ [2, 4, 6, 8, 10]) : teamsOk t = true ∧ roundsOk t (circL t) = true ∧ backOk t (circL t) = true ∧ roundsOk t (backL t (circL t)) = true ∧ (circL t).length = t * (t - 1) ∧ (backL t (circL t)).length = 2 * (circL t).length ∧ (homesL t (circL t)).length = (circL t).length ∧ tripsOk t (circL t) (farL t) = true
    ∧ (∀ m, m < (circL t).length / 2 → 0 ≤ nth (circL t) (2 * m) ∧ nth (circL t) (2 * m) < (t : Int) ∧ 0 ≤ nth (circL t) (2 * m + 1) ∧ nth (circL t) (2 * m + 1) < (t : Int)
      ∧ nth (backL t (circL t)) ((circL t).length + 2 * m) = nth (circL t) (2 * m + 1) ∧ nth (backL t (circL t)) ((circL t).length + 2 * m + 1) = nth (circL t) (2 * m)
      ∧ (homesL t (circL t)).getD (2 * m / t * t + (nth (circL t) (2 * m)).toNat) false = true ∧ (homesL t (circL t)).getD (2 * m / t * t + (nth (circL t) (2 * m + 1)).toNat) true = false)
    ∧ (∀ i k, i < t → k < t → i ≠ k → nth (metL t (circL t) ((circL t).length / 2)) (i * t + k) = 1) := by
  have h1 := rlA_ok t h
  unfold rlA at h1
  simp only [Bool.and_eq_true, decide_eq_true_eq, List.all_eq_true, List.mem_range, Bool.or_eq_true, Bool.not_eq_true'] at h1
  obtain ⟨⟨⟨⟨⟨⟨⟨⟨⟨e1, e2⟩, e3⟩, e4⟩, e5⟩, e6⟩, e7⟩, e8⟩, e9⟩, e10⟩ := h1
  refine ⟨e1, e2, e3, e4, e5, e6, e7, e8, fun m hm => ?_, fun i k hi hk hne => ?_⟩
  · obtain ⟨⟨⟨⟨⟨⟨⟨f1, f2⟩, f3⟩, f4⟩, f5⟩, f6⟩, f7⟩, f8⟩ := e9 m hm
    exact ⟨f1, f2, f3, f4, f5, f6, f7, f8⟩
  · rcases e10 i hi k hk with h | h
    · exact absurd h hne
    · exact h
theorem rlB_facts {t r : Nat} (h : t ∈ [2, 4, 6, 8, 10]) (hr : r < t - 1) : turnOk t (circL t) r = true ∧ (turnL t (circL t) r).length = (circL t).length ∧ roundsOk t (turnL t (circL t) r) = true ∧ ∀ m, m < (circL t).length / 2 → nth (turnL t (circL t) r) ((2 * m + (circL t).length - r * t) % (circL t).length) = nth (circL t) (2 * m) := by
  have h1 := rlB_ok t h r (List.mem_range.2 hr)
  unfold rlB at h1
  simp only [Bool.and_eq_true, decide_eq_true_eq, List.all_eq_true, List.mem_range] at h1
  obtain ⟨⟨⟨e1, e2⟩, e3⟩, e4⟩ := h1
  exact ⟨e1, e2, e3, e4⟩
theorem nth_metStep (t : Nat) (G l : List Int) (j : Nat) (M : Int) (h : ∀ i, 0 ≤ nth l i ∧ nth l i ≤ M) : ∀ i, 0 ≤ nth (metStep t G l j) i ∧ nth (metStep t G l j) i ≤ M + 2 := by
  have key : ∀ (l : List Int) (M : Int) (p : Nat), (∀ i, 0 ≤ nth l i ∧ nth l i ≤ M) → ∀ i, 0 ≤ nth (l.set p (nth l p + 1)) i ∧ nth (l.set p (nth l p + 1)) i ≤ M + 1 := by
    intro l M p h i
    have h0 := h p
    have h1 := h i
    by_cases hp : p < l.length
    · rw [nth_set _ hp]; split <;> omega
    · rw [List.set_eq_of_length_le (by omega)]; omega
  intro i
  have := key _ _ ((nth G (2 * j + 1)).toNat * t + (nth G (2 * j)).toNat) (key l M ((nth G (2 * j)).toNat * t + (nth G (2 * j + 1)).toNat) h) i
  refine ⟨this.1, ?_⟩
  have h2 := this.2
  rw [Int.add_assoc] at h2
  exact h2
theorem metL_win (t : Nat) (G : List Int) (m : Nat) : ∀ i, 0 ≤ nth (metL t G m) i ∧ nth (metL t G m) i ≤ 2 * m := by
  induction m with
  | zero =>
    intro i
    unfold metL nth
    simp [List.getD_eq_getElem?_getD, List.getElem?_replicate]
    split <;> simp
  | succ m ih =>
    intro i
    rw [metL_succ]
    have := nth_metStep t G _ m (2 * (m : Int)) (by simpa using ih) i
    omega
theorem append_i64N {ops : Array Oper} {rest : List Oper} {o : Oper} {a : Act} {Q : Exit → Act → World → Prop} {W : World} (hgd : o.guard = none) (s x : Operand)
    (ho : o.op = .call { callee := .builtin .append, args := #[s, x], argTypes := #[25, 25] }) (B : Nat) (v : Value) (xs ys : List Int) (hy : 0 < ys.length)
    (hs : a.eval s = v) (c : Nat) (hx : a.eval x = .slice (some ⟨W.heap.size, 0, none⟩) ys.length c) (hown : OwnI W B v xs) (hB : B ≤ W.heap.size) (hsmall : xs.length + ys.length ≤ 1099511627776)
    (hK : ∀ g c n w', Hid (n = (xs ++ ys).length) → OwnI w' B (.slice (some ⟨g, 0, none⟩) n c) (xs ++ ys) → W.grownBy w' v.ownBlock → wpList Try.prog ops Q rest (a.put o.dst (.slice (some ⟨g, 0, none⟩) n c)) w') :
    wpList Try.prog ops Q (o :: rest) a (W.alloc (.cells (ys.map (Value.int .i64)).toArray 2)) :=
  append_i64 hgd s x ho B v xs ys hy hs c hx hown hB hsmall fun g c w' h1 h2 => by
    have := hK g c _ w' rfl (by rw [List.length_append]; exact h1) h2
    rwa [List.length_append] at this
def farTo (t n : Nat) : List Int := (List.range n).map fun k => if k / t = k % t then 0 else 1
theorem farTo_all (t : Nat) : farTo t (t * t) = farL t := rfl
theorem farTo_length (t n : Nat) : (farTo t n).length = n := by simp [farTo]
theorem farTo_succ (t i k : Nat) (hk : k < t) : farTo t (i * t + k + 1) = farTo t (i * t + k) ++ [if i = k then 0 else 1] := by
  have h1 : (i * t + k) / t = i := by rw [Nat.mul_comm, Nat.mul_add_div (by omega)]; simp [Nat.div_eq_of_lt hk]
  have h2 : (i * t + k) % t = k := by rw [Nat.mul_comm, Nat.mul_add_mod]; exact Nat.mod_eq_of_lt hk
  unfold farTo
  rw [List.range_succ, List.map_append]
  simp [h1, h2]
theorem Ints.rowOf {w : World} {v : Value} {xs : List Int} (h : Ints w v xs) (h0 : 0 < xs.length) : ∃ b o c, v = .slice (some ⟨b, o, none⟩) xs.length c ∧ b < w.heap.size ∧ xs.length ≤ c ∧ ∀ i, i < xs.length → w.cell? ⟨b, o + i, none⟩ = some (.int .i64 (nth xs i)) := by
  obtain ⟨_, a, c, rfl, hcap, hc⟩ := h
  obtain ⟨b, o, ha, hb, _⟩ := hc 0 h0
  subst ha
  refine ⟨b, o, c, rfl, hb, hcap, fun i hi => ?_⟩
  obtain ⟨b', o', he, _, hcell⟩ := hc i hi
  obtain ⟨rfl, rfl⟩ : b = b' ∧ o = o' := by simpa using he
  rw [hcell, nth_eq hi]
end Go.Proofs.Ytmhepomjbaendaa
