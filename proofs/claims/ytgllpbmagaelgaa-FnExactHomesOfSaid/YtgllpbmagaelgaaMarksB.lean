
/- The laws' own marks on a result that is a slice of bools. Conditions: lengths at most 2^26. -/
import Derived.Test.YtgllpbmagaelgaaMarks
import Derived.Test.YtgllpbmagaelgaaIsAll
namespace Go.Proofs.Ytgllpbmagaelgaa
open Go.RowKit
set_option linter.unusedVariables false
set_option linter.unusedSimpArgs false

def marksB (k : Int) (n : Nat) : List Bool := (List.range n).map fun (i : Nat) => (k + (i : Int)) % 3 == 0
theorem marksB_length (k : Int) (n : Nat) : (marksB k n).length = n := by simp [marksB]
theorem marksB_get (k : Int) (n i : Nat) (h : i < (marksB k n).length) : (marksB k n)[i] = ((k + i) % 3 == 0) := by simp [marksB]
def markToB (k : Int) (xs : List Bool) (j : Nat) : List Bool := marksB k j ++ xs.drop j
theorem markToB_length (k : Int) (xs : List Bool) (j : Nat) (h : j ≤ xs.length) : (markToB k xs j).length = xs.length := by simp [markToB, marksB_length]; omega
theorem markToB_set (k : Int) (xs : List Bool) (j : Nat) (h : j < xs.length) : (markToB k xs j).set j ((k + j) % 3 == 0) = markToB k xs (j + 1) := by
  unfold markToB
  apply List.ext_getElem
  · simp [marksB_length]; omega
  · intro i h1 h2
    have h1' : i < xs.length := by simp [marksB_length] at h1; omega
    rw [List.getElem_set]
    split
    · rename_i e; subst e
      rw [List.getElem_append_left (by rw [marksB_length]; omega), marksB_get]
    · rename_i e
      by_cases h3 : i < j
      · rw [List.getElem_append_left (by rw [marksB_length]; omega), List.getElem_append_left (by rw [marksB_length]; omega), marksB_get, marksB_get]
      · rw [List.getElem_append_right (by rw [marksB_length]; omega), List.getElem_append_right (by rw [marksB_length]; omega)]
        simp only [marksB_length, List.getElem_drop]
        congr 1; omega

theorem OwnB.nil_or {w : World} {N : Nat} {v : Value} {xs : List Bool} (h : OwnB w N v xs) : (v = .slice none 0 0 ∧ xs = []) ∨ ∃ g c, v = .slice (some ⟨g, 0, none⟩) xs.length c := by
  rcases h.2 with ⟨h1, h2⟩ | ⟨g, cap, cur, h1, _⟩
  · exact .inl ⟨h1, List.eq_nil_of_length_eq_zero h2⟩
  · exact .inr ⟨g, cap, h1⟩
theorem ownB_nil (w : World) (N : Nat) : OwnB w N (.slice none 0 0) [] := World.ownsRow_nil w N _ _

set_option maxHeartbeats 800000 in
theorem markBoolS_any (v : Value) (xs : List Bool) (k : Int) (N : Nat) (w : World) (h : OwnB w N v xs) (hk : 0 ≤ k) (hk2 : k ≤ 100000000) (hl : xs.length ≤ 100000000) :
    Calls Try.prog 31 #[v, .int .i64 k] w fun e w' => e = .returned (.int .i64 (k + xs.length)) ∧ OwnB w' N v (marksB k xs.length) ∧ w.grownBy w' v.ownBlock := by
  rcases h.nil_or with ⟨rfl, rfl⟩ | ⟨g, c, rfl⟩
  · go_enter Try.func31, Try.ntmps31
    go_wp2
    go_loop [1, 5] (fun kk i => i = .int .i64 0 ∧ kk = .int .i64 k) (fun _ _ => 0)
    case atStart => exact ⟨rfl, rfl⟩
    case round =>
      obtain ⟨rfl, rfl⟩ := hrel
      go_wp2
      go_ret
      exact ⟨ret_int (by simp), h, grownBy_refl _ _⟩
  · obtain ⟨L, hL⟩ : ∃ L, xs.length = L := ⟨_, rfl⟩
    have HL := Lib.hid hL
    rw [hL] at h hl ⊢
    have H0 : Hid (OwnB w N (.slice (some ⟨g, 0, none⟩) L c) (markToB k xs 0)) := by show OwnB w N _ _; simpa [markToB, marksB] using h
    clear h hL
    go_enter Try.func31, Try.ntmps31
    go_wp2
    go_loopw [1, 5] (fun kk i wr => ∃ j : Nat, j ≤ L ∧ i = .int .i64 j ∧ kk = .int .i64 (k + j) ∧ OwnB wr N (.slice (some ⟨g, 0, none⟩) L c) (markToB k xs j) ∧ w.grownBy wr (some g)) (fun _ i _ => L - (intOf i).toNat)
    case atStart => exact ⟨0, Nat.zero_le _, rfl, by simp, H0.out, grownBy_refl _ _⟩
    case round =>
      obtain ⟨j, hj, rfl, rfl, ho, hg⟩ := hrel
      by_cases hlt : j < L
      · have hlen := markToB_length k xs j (by have := HL.out; omega)
        obtain ⟨s1, s2, s3, s4⟩ := ho.store (by rw [hlen]; exact HL.out.symm) j (by rw [hlen]; have := HL.out; omega) ((k + j) % 3 == 0)
        rw [markToB_set k xs j (by have := HL.out; omega)] at s3
        have hg2 := grownBy_trans hg s4
        obtain ⟨u0, hu0⟩ : ∃ u0, wr.cell? ⟨g, j, none⟩ = some u0 := ⟨_, s1⟩
        clear s1
        have S3 := Lib.hid s3
        have G2 := Lib.hid hg2
        clear ho hg s3 s4 hg2 hlen
        go_wp2
        go_roundw
        case rel => exact ⟨j + 1, by omega, by go_num, by go_num, S3.out, G2.out⟩
        case measure => simp [intOf]; omega
      · obtain rfl : j = L := by omega
        have ho2 : OwnB wr N (.slice (some ⟨g, 0, none⟩) j c) (marksB k j) := by
          have := ho; unfold markToB at this; rwa [List.drop_of_length_le (by have := HL.out; omega), List.append_nil] at this
        have Ho2 := Lib.hid ho2
        clear ho ho2
        go_wp2
        go_ret
        exact ⟨rfl, Ho2.out, hg⟩

theorem heldBoolS_any (v : Value) (k : Int) (n : Nat) (w : World) (h : Bools w v (marksB k n)) (hk : 0 ≤ k) (hk2 : k ≤ 100000000) (hl : n ≤ 100000000) :
    Calls Try.prog 32 #[v, .int .i64 k] w fun e w' => e = .returned (.int .i64 (k + n)) ∧ w = w' := by
  obtain ⟨hm, a, c, rfl, hcap, hc⟩ := h
  rw [marksB_length] at hm hcap ⊢
  go_enter Try.func32, Try.ntmps32
  go_wp2
  go_loopw [1, 5] (fun kk i wr => ∃ j : Nat, j ≤ n ∧ i = .int .i64 j ∧ kk = .int .i64 (k + j) ∧ w = wr) (fun _ i _ => n - (intOf i).toNat)
  case atStart => exact ⟨0, Nat.zero_le _, rfl, by simp, rfl⟩
  case round =>
    obtain ⟨j, hj, rfl, rfl, rfl⟩ := hrel
    by_cases hlt : j < n
    · obtain ⟨b, o, rfl, hbs, hck⟩ := hc j (by rw [marksB_length]; exact hlt)
      rw [marksB_get] at hck
      clear hc
      cases hq : ((k + (j : Int)) % 3 == 0)
      all_goals
        rw [hq] at hck
        go_wp2
        go_roundw
        case rel => exact ⟨j + 1, by omega, by go_num, by go_num, trivial⟩
        case measure => simp [intOf]; omega
    · obtain rfl : j = n := by omega
      clear hc
      go_wp2
      go_ret
      exact ⟨rfl, rfl⟩

theorem eqBoolS_any (v u : Value) (xs ys : List Bool) (w : World) (hv : Bools w v xs) (hu : Bools w u ys) :
    Calls Try.prog 28 #[v, u] w fun e w' => e = .returned (.bool (xs == ys)) ∧ Below w.heap.size w w' := by
  obtain ⟨hm, a, c, rfl, hcap, hc⟩ := hv
  obtain ⟨hm', a', c', rfl, hcap', hc'⟩ := hu
  unfold maxLen at hm hm'
  by_cases hlen : xs.length = ys.length
  · have hl1 : ((xs.length : Int) != ys.length) = false := by simp [hlen]
    go_enter Try.func28, Try.ntmps28
    go_wp2
    go_loopw [5] (fun i wr => ∃ k : Nat, k ≤ xs.length ∧ i = .int .i64 k ∧ xs.take k = ys.take k ∧ Below w.heap.size w wr) (fun i _ => xs.length - (intOf i).toNat)
    case atStart => exact ⟨0, Nat.zero_le _, rfl, rfl, Below.refl _ _⟩
    case round =>
      obtain ⟨k, hk, rfl, heq, hb⟩ := hrel
      by_cases hlt : k < xs.length
      · have hlt' : k < ys.length := by omega
        obtain ⟨b, o, rfl, hbs, hc1⟩ := hc k hlt
        obtain ⟨b', o', rfl, hbs', hc1'⟩ := hc' k hlt'
        have hc2 : wr.cell? ⟨b, o + k, none⟩ = some (.bool xs[k]) := (hb.cell (p := ⟨b, o + k, none⟩) hbs).trans hc1
        have hc2' : wr.cell? ⟨b', o' + k, none⟩ = some (.bool ys[k]) := (hb.cell (p := ⟨b', o' + k, none⟩) hbs').trans hc1'
        have hk0 : (0 : Int) ≤ (k : Int) := by omega
        have hk1 : (k : Int) < (xs.length : Int) := by omega
        have hk2 : (k : Int) < (ys.length : Int) := by omega
        have Heq := Lib.hid heq
        have Hlen := Lib.hid hlen
        clear hc hc' hc1 hc1' heq hlen
        obtain ⟨p, hp⟩ : ∃ p, xs[k] = p := ⟨_, rfl⟩
        obtain ⟨q, hq⟩ : ∃ q, ys[k] = q := ⟨_, rfl⟩
        rw [hp] at hc2
        rw [hq] at hc2'
        have HP := Lib.hid hp
        have HQ := Lib.hid hq
        clear hp hq
        by_cases hpq : p = q
        · subst hpq
          have Hpq : Hid (xs[k] = ys[k]) := by show xs[k] = ys[k]; rw [HP.out, HQ.out]
          cases p
          all_goals
            go_wp2
            go_quiet (fail)
            go_wp2
            go_roundw
            case rel =>
              refine ⟨k + 1, by omega, by go_num, ?_, below_drewN _ hb⟩
              rw [List.take_succ_eq_append_getElem hlt, List.take_succ_eq_append_getElem hlt', Heq.out, Hpq.out]
            case measure => simp [intOf]; omega
        · have Hne : Hid (xs ≠ ys) := fun h => hpq (by rw [← HP.out, ← HQ.out]; simp [h])
          cases p <;> cases q <;> first
            | exact absurd rfl hpq
            | (clear hpq
               go_wp2
               go_quiet (fail)
               go_wp2
               go_ret
               refine ⟨ret_bool ?_, below_drewN _ hb⟩
               symm
               rw [beq_eq_false_iff_ne]
               exact Hne.out)
      · have hk' : k = xs.length := by omega
        clear hc hc'
        have Heq := Lib.hid heq
        have Hlen := Lib.hid hlen
        have Hk' := Lib.hid hk'
        clear heq hlen hk'
        go_wp2
        go_ret
        refine ⟨ret_bool ?_, hb⟩
        symm
        rw [beq_iff_eq]
        have h := Heq.out
        have h1 := Hk'.out
        have h2 := Hlen.out
        rwa [List.take_of_length_le (by omega), List.take_of_length_le (by omega)] at h
  · have hl1 : ((xs.length : Int) != ys.length) = true := by simp; omega
    have Hlen := Lib.hid hlen
    clear hlen
    go_enter Try.func28, Try.ntmps28
    go_wp2
    go_ret
    refine ⟨ret_bool ?_, Below.refl _ _⟩
    symm
    rw [beq_eq_false_iff_ne]
    rintro rfl
    exact Hlen.out rfl


/-- A slice of bools of the call's own whose block lies below hi. -/
structure Own2B (w : World) (lo hi : Nat) (v : Value) (xs : List Bool) : Prop where
  own : OwnB w lo v xs
  hi : ∀ k, v.ownBlock = some k → k < hi
theorem Own2B.of {w : World} {lo : Nat} {v : Value} {xs : List Bool} (h : OwnB w lo v xs) : Own2B w lo w.heap.size v xs := ⟨h, fun k hk => (h.lt k hk).2⟩
theorem Own2B.below {w w' : World} {lo hi : Nat} {v : Value} {xs : List Bool} (h : Own2B w lo hi v xs) (hb : Below w.heap.size w w') : Own2B w' lo hi v xs := ⟨h.own.below hb (Nat.le_refl _), h.hi⟩
theorem Own2B.grown {w w' : World} {lo hi lo' hi' : Nat} {v u : Value} {xs : List Bool} {ys : List Int} (h : Own2B w lo hi v xs) (k : Own2 w lo' hi' u ys) (hg : w.grownBy w' u.ownBlock) (hd : hi ≤ lo' ∨ hi' ≤ lo) : Own2B w' lo hi v xs := by
  refine ⟨h.own.kept hg ?_, h.hi⟩
  cases hv : v.ownBlock with
  | none => exact .inl rfl
  | some j =>
    refine .inr (fun e => ?_)
    have h1 := h.own.lt j hv
    have h2 := h.hi j hv
    have h3 := k.own.lt j e.symm
    have h4 := k.hi j e.symm
    omega
theorem Own2B.grownB {w w' : World} {lo hi lo' hi' : Nat} {v u : Value} {xs ys : List Bool} (h : Own2B w lo hi v xs) (k : Own2B w lo' hi' u ys) (hg : w.grownBy w' u.ownBlock) (hd : hi ≤ lo' ∨ hi' ≤ lo) : Own2B w' lo hi v xs := by
  refine ⟨h.own.kept hg ?_, h.hi⟩
  cases hv : v.ownBlock with
  | none => exact .inl rfl
  | some j =>
    refine .inr (fun e => ?_)
    have h1 := h.own.lt j hv
    have h2 := h.hi j hv
    have h3 := k.own.lt j e.symm
    have h4 := k.hi j e.symm
    omega
theorem Own2B.marked {w w' : World} {lo hi : Nat} {v : Value} {xs ys : List Bool} (h : Own2B w lo hi v xs) (k : OwnB w' lo v ys) : Own2B w' lo hi v ys := ⟨k, h.hi⟩
theorem Own2B.ints {w : World} {lo hi : Nat} {v : Value} {xs : List Bool} (h : Own2B w lo hi v xs) : Bools w v xs := h.own.bools
theorem Below.markedB {B : Nat} {w W W' : World} {lo hi : Nat} {v : Value} {xs : List Bool} (h : Below B w W) (k : Own2B W lo hi v xs) (hg : W.grownBy W' v.ownBlock) (hlo : B ≤ lo) (hB : B ≤ W.heap.size) : Below B w W' :=
  h.grown hg hB (fun j e => by have := (k.own.lt j e).1; omega)
end Go.Proofs.Ytgllpbmagaelgaa
