
/- isAll: whether a list holds each of its own indexes once; slices of bools that a call makes. Conditions: at most 2^20 numbers. -/
import Derived.Test.YtnpfninkopffmaaAppend
namespace Go.Proofs.Ytnpfninkopffmaa
open Go.RowKit
set_option linter.unusedVariables false
set_option linter.unusedSimpArgs false

theorem info_bool : (Try.prog.info? 4).map (fun i => (i.zero, i.size, i.bytes)) = some (some (.bool false), 1, 1) := by kernel_rfl

/-- v is a slice of the call's own (in a block from B on), and it holds the bools xs. -/
def OwnB (w : World) (B : Nat) (v : Value) (xs : List Bool) : Prop := w.ownsRow B 4 1 v xs.length (xs.map Value.bool)

theorem OwnB.store {w : World} {N g n c : Nat} {xs : List Bool} (h : OwnB w N (.slice (some ⟨g, 0, none⟩) n c) xs) (hn : n = xs.length) (j : Nat) (hj : j < xs.length) (y : Bool) :
    w.cell? ⟨g, j, none⟩ = some (.bool xs[j]) ∧ w.frozen? ⟨g, j, none⟩ = false ∧ OwnB (w.setCell ⟨g, j, none⟩ (.bool y)) N (.slice (some ⟨g, 0, none⟩) n c) (xs.set j y) ∧ w.grownBy (w.setCell ⟨g, j, none⟩ (.bool y)) (some g) := by
  subst hn
  have h' : w.ownsRow N 4 1 (.slice (some ⟨g, 0, none⟩) xs.length c) xs.length (xs.map Value.bool) := h
  obtain ⟨h1, h2⟩ := h'.stored j (.bool y)
  refine ⟨?_, h'.frozenAt j, ?_, h2⟩
  · rw [h'.cellAt j (by omega), List.getElem?_map, List.getElem?_eq_getElem hj]; rfl
  · unfold OwnB
    rw [List.length_set, List.map_set]; exact h1
theorem OwnB.alloc {w : World} {B : Nat} {v : Value} {xs : List Bool} (h : OwnB w B v xs) (o : Obj) : OwnB (w.alloc o) B v xs := World.ownsRow.alloc h o
theorem OwnB.kept {w w' : World} {B : Nat} {v : Value} {xs : List Bool} {row : Option Nat} (h : OwnB w B v xs) (hg : w.grownBy w' row) (hne : v.ownBlock = none ∨ v.ownBlock ≠ row) : OwnB w' B v xs := World.ownsRow.kept h hg hne
theorem OwnB.lt {w : World} {B : Nat} {v : Value} {xs : List Bool} (h : OwnB w B v xs) : ∀ k, v.ownBlock = some k → B ≤ k ∧ k < w.heap.size := World.ownsRow.lt h
theorem OwnB.below {w w' : World} {B N : Nat} {v : Value} {xs : List Bool} (h : OwnB w B v xs) (hb : Below N w w') (hN : w.heap.size ≤ N) : OwnB w' B v xs := by
  refine h.kept (row := none) ⟨hb.os, hb.tape, hb.output, hb.size, fun k hk _ => hb.block k (by omega)⟩ ?_
  cases v.ownBlock <;> simp
theorem OwnB.drewN {w : World} {B : Nat} {v : Value} {xs : List Bool} (h : OwnB w B v xs) (q : Nat) : OwnB (w.drewN q) B v xs := h.below (below_drewN q (Below.refl w.heap.size w)) (Nat.le_refl _)

abbrev Bools (w : World) (v : Value) (xs : List Bool) : Prop := Sl Value.bool w v xs
theorem OwnB.bools {w : World} {base : Nat} {v : Value} {xs : List Bool} (h : OwnB w base v xs) : Bools w v xs := by
  have h' : w.ownsRow base 4 1 v xs.length (xs.map Value.bool) := h
  rcases h'.2 with ⟨rfl, h0⟩ | ⟨g, cap, cur, rfl, hg, hh, hc, hm, hcs, ht⟩
  · exact ⟨by omega, none, 0, by rw [h0], by omega, fun i hi => by omega⟩
  · refine ⟨by omega, _, cap, rfl, by omega, fun i hi => ⟨g, 0, rfl, (Array.getElem?_eq_some_iff.1 hh).1, ?_⟩⟩
    have := h'.cellAt (g := g) (cap := cap) i (by omega)
    rw [Nat.zero_add, this]
    simp [hi]

/-- What make([]bool, n) leaves. -/
theorem OwnB.made {w : World} {base g : Nat} {n : Nat} (h : w.ownsRow base 4 1 (.slice (some ⟨g, 0, none⟩) n n) n (madeCells (Value.bool false).cells (n * 1)).toList) : OwnB w base (.slice (some ⟨g, 0, none⟩) n n) (List.replicate n false) := by
  have e : (madeCells (Value.bool false).cells (n * 1)).toList = (List.replicate n false).map Value.bool := by
    rw [Nat.mul_one]; exact (toList_madeCells_one _ _).trans (by simp)
  rw [e] at h
  unfold OwnB
  rwa [List.length_replicate]

def isAllB (ys : List Int) : Bool := (List.range ys.length).all fun i => win (nth ys i) 0 ((ys.length : Int) - 1) && !((ys.take i).any (· == nth ys i))
/-- What has been seen of the numbers from 0 on. -/
def seenAt (ys : List Int) (k : Nat) : List Bool := (List.range ys.length).map fun (v : Nat) => (ys.take k).any (· == (v : Int))
theorem seenAt_length (ys : List Int) (k : Nat) : (seenAt ys k).length = ys.length := by simp [seenAt]
theorem seenAt_get (ys : List Int) (k i : Nat) (h : i < (seenAt ys k).length) : (seenAt ys k)[i] = (ys.take k).any (· == (i : Int)) := by simp [seenAt]
theorem seenAt_zero (ys : List Int) : seenAt ys 0 = List.replicate ys.length false := by
  apply List.ext_getElem
  · simp [seenAt]
  · intro i h1 h2; simp [seenAt]
theorem seenAt_set (ys : List Int) (k p : Nat) (hk : k < ys.length) (hp : nth ys k = p) : (seenAt ys k).set p true = seenAt ys (k + 1) := by
  apply List.ext_getElem
  · simp [seenAt]
  · intro i h1 h2
    rw [List.getElem_set, seenAt_get _ _ _ h2, List.take_succ_eq_append_getElem hk, List.any_append]
    rw [nth_eq hk] at hp
    split
    · rename_i e; subst e; simp [hp]
    · rename_i e
      rw [seenAt_get]
      have : ((p : Int) == (i : Int)) = false := by simp; omega
      simp [hp, this]

set_option maxHeartbeats 1000000 in
theorem isAll_any (v : Value) (ys : List Int) (w : World) (hv : Ints w v ys) (hl : ys.length ≤ 1048576) :
    Calls Try.prog 142 #[v] w fun e w' => e = .returned (.bool (isAllB ys)) ∧ Below w.heap.size w w' := by
  obtain ⟨hm, a, c, rfl, hcap, hc⟩ := hv
  obtain ⟨i0, hi, hz0, hz1, hz2⟩ := info_parts info_bool
  go_enter Try.func142, Try.ntmps142
  go_wp2_with (at_make; refine wpList_make_full _ rfl _ _ 91 rfl w.heap.size 4 i0 (.bool false) 1 Try.underlying91 hi hz0 hz1 _ _ _ _ ys.length rfl rfl rfl rfl (by rw [hz2]; omega) (by unfold maxLen at *; omega) (Nat.le_refl _) ?_; intro w1 hown1 hgrow1)
  have hb1 : Below w.heap.size w w1 := (Below.refl _ _).grown hgrow1 (Nat.le_refl _) (fun k e => by cases e)
  have ho1 := OwnB.made hown1
  rw [← seenAt_zero] at ho1
  clear hown1 hgrow1 hi hz0 hz1 hz2
  have Ho1 := Lib.hid ho1
  clear ho1
  unfold maxLen at hm
  go_wp2
  go_loopw [5, 11] (fun _ i wr => ∃ k : Nat, k ≤ ys.length ∧ i = .int .i64 k ∧ Below w.heap.size w wr ∧ OwnB wr w.heap.size (.slice (some ⟨w.heap.size, 0, none⟩) ys.length ys.length) (seenAt ys k) ∧
      ∀ i, i < k → win (nth ys i) 0 ((ys.length : Int) - 1) = true ∧ (ys.take i).any (· == nth ys i) = false) (fun _ i _ => ys.length - (intOf i).toNat)
  case atStart => exact ⟨0, Nat.zero_le _, rfl, hb1, Ho1.out, fun i hi => by omega⟩
  case round =>
    obtain ⟨k, hk, rfl, hb, ho, hr⟩ := hrel
    have Hr := Lib.hid hr
    clear hr hb1
    by_cases hlt : k < ys.length
    · obtain ⟨b, o, rfl, hbs, hc1⟩ := hc k hlt
      have hck : wr.cell? ⟨b, o + k, none⟩ = some (.int .i64 (nth ys k)) := by rw [nth_eq hlt]; exact (hb.cell (p := ⟨b, o + k, none⟩) hbs).trans hc1
      obtain ⟨p, hp⟩ : ∃ p, nth ys k = p := ⟨_, rfl⟩
      rw [hp] at hck
      have Hp := Lib.hid hp
      clear hc hc1 hp
      have bad : ∀ (h : (win (nth ys k) 0 ((ys.length : Int) - 1) && !((ys.take k).any (· == nth ys k))) = false), isAllB ys = false := fun h => by
        unfold isAllB; rw [List.all_eq_false]; exact ⟨k, by simpa using hlt, by rw [h]; simp⟩
      have Bad := Lib.hid bad
      clear bad
      cases hw : win p 0 ((ys.length : Int) - 1)
      · clear ho
        go_wp2_with (go_at_call 57; refine (within_any _ _ _ _).mono ?_; rintro e w' ⟨rfl, rfl⟩)
        go_ret
        exact ⟨ret_bool (Bad.out (by rw [Hp.out, hw]; rfl)).symm, hb⟩
      · obtain ⟨hp1, hp2⟩ := win_true.1 hw
        obtain ⟨q, rfl⟩ : ∃ q : Nat, p = q := ⟨p.toNat, by omega⟩
        have hql : q < ys.length := by omega
        obtain ⟨s1, s2, s3, s4⟩ := ho.store (seenAt_length _ _).symm q (by rw [seenAt_length]; exact hql) true
        rw [seenAt_get] at s1
        rw [seenAt_set ys k q hlt Hp.out] at s3
        have hb2 := hb.grown s4 hb.size (fun j e => by cases e; exact Nat.le_refl _)
        have S3 := Lib.hid s3
        have HB2 := Lib.hid hb2
        obtain ⟨sn, hsn⟩ : ∃ sn, (ys.take k).any (· == (q : Int)) = sn := ⟨_, rfl⟩
        rw [hsn] at s1
        have Hsn := Lib.hid hsn
        clear ho s3 s4 hb2 hsn
        cases sn
        · go_wp2_with (go_at_call 57; refine (within_any _ _ _ _).mono ?_; rintro e w' ⟨rfl, rfl⟩)
          go_roundw
          case rel =>
            refine ⟨k + 1, by omega, by go_num, HB2.out, S3.out, fun i hi => ?_⟩
            rcases Nat.lt_succ_iff_lt_or_eq.1 hi with h | rfl
            · exact Hr.out i h
            · rw [Hp.out]; exact ⟨hw, Hsn.out⟩
          case measure => simp [intOf]; omega
        · go_wp2_with (go_at_call 57; refine (within_any _ _ _ _).mono ?_; rintro e w' ⟨rfl, rfl⟩)
          go_ret
          exact ⟨ret_bool (Bad.out (by rw [Hp.out, Hsn.out]; simp)).symm, hb⟩
    · clear hc ho
      go_wp2
      go_ret
      refine ⟨ret_bool ?_, hb⟩
      symm
      unfold isAllB
      rw [List.all_eq_true]
      intro i hi
      have := Hr.out i (by have := List.mem_range.1 hi; omega)
      rw [this.1, this.2]; rfl
end Go.Proofs.Ytnpfninkopffmaa
