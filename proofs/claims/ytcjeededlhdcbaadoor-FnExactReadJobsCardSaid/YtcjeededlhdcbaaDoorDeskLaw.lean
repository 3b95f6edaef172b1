
/- Rows of structs of integers that a call owns; the laws' eqDesk, markDesk, heldDesk. Conditions: lengths at most 2^24. -/
import Derived.Test.YtcjeededlhdcbaaDoorJobs
import Derived.Test.YtcjeededlhdcbaaDoorGrownC
namespace Go.Proofs.YtcjeededlhdcbaaDoor
open Go.RowKit
set_option linter.unusedVariables false
set_option linter.unusedSimpArgs false

/-- v is a row of n elements of type T, size integers each, of the call's own. -/
def OwnZ (T size : Nat) (w : World) (N : Nat) (v : Value) (n : Nat) (raw : List Int) : Prop := w.ownsRow N T size v n (raw.map (Value.int .i64))
theorem OwnZ.kept {T size n : Nat} {w w' : World} {B : Nat} {v : Value} {xs : List Int} {row : Option Nat} (h : OwnZ T size w B v n xs) (hg : w.grownBy w' row) (hne : v.ownBlock = none ∨ v.ownBlock ≠ row) : OwnZ T size w' B v n xs := World.ownsRow.kept h hg hne
theorem OwnZ.lt {T size n : Nat} {w : World} {B : Nat} {v : Value} {xs : List Int} (h : OwnZ T size w B v n xs) : ∀ k, v.ownBlock = some k → B ≤ k ∧ k < w.heap.size := World.ownsRow.lt h
theorem OwnZ.below {T size n : Nat} {w w' : World} {B N : Nat} {v : Value} {xs : List Int} (h : OwnZ T size w B v n xs) (hb : Below N w w') (hN : w.heap.size ≤ N) : OwnZ T size w' B v n xs := by
  refine h.kept (row := none) ⟨hb.os, hb.tape, hb.output, hb.size, fun k hk _ => hb.block k (by omega)⟩ ?_
  cases v.ownBlock <;> simp
theorem OwnZ.length {T size n : Nat} {w : World} {B : Nat} {v : Value} {xs : List Int} (h : OwnZ T size w B v n xs) : xs.length = n * size := by have := h.1; simpa using this
theorem OwnZ.store {T size n c g : Nat} {w : World} {N : Nat} {xs : List Int} (h : OwnZ T size w N (.slice (some ⟨g, 0, none⟩) n c) n xs) (j : Nat) (hj : j < xs.length) (y : Int) :
    w.cell? ⟨g, j, none⟩ = some (.int .i64 (nth xs j)) ∧ w.frozen? ⟨g, j, none⟩ = false ∧ OwnZ T size (w.setCell ⟨g, j, none⟩ (.int .i64 y)) N (.slice (some ⟨g, 0, none⟩) n c) n (xs.set j y) ∧ w.grownBy (w.setCell ⟨g, j, none⟩ (.int .i64 y)) (some g) := by
  have h' : w.ownsRow N T size (.slice (some ⟨g, 0, none⟩) n c) n (xs.map (Value.int .i64)) := h
  obtain ⟨h1, h2⟩ := h'.stored j (.int .i64 y)
  refine ⟨?_, h'.frozenAt j, ?_, h2⟩
  · rw [h'.cellAt j (by rw [← h.length]; exact hj), List.getElem?_map, List.getElem?_eq_getElem hj, nth_eq hj]; rfl
  · unfold OwnZ
    rw [List.map_set]; exact h1
theorem OwnZ.nil_or {T size n : Nat} {w : World} {N : Nat} {v : Value} {xs : List Int} (h : OwnZ T size w N v n xs) : (v = .slice none 0 0 ∧ n = 0) ∨ ∃ g c, v = .slice (some ⟨g, 0, none⟩) n c := by
  rcases h.2 with ⟨h1, h2⟩ | ⟨g, cap, cur, h1, _⟩
  · exact .inl ⟨h1, h2⟩
  · exact .inr ⟨g, cap, h1⟩

def jbInts (j : Jb) : List Int := [j.1, j.2.1, j.2.2.1, j.2.2.2]
theorem jbInts_cells (j : Jb) : (jbInts j).map (Value.int .i64) = jbCells j := rfl
def jbRaw (js : List Jb) : List Int := js.flatMap jbInts
theorem jbRaw_length (js : List Jb) : (jbRaw js).length = js.length * 4 := by
  induction js with
  | nil => rfl
  | cons a t ih => show (jbInts a ++ jbRaw t).length = _; rw [List.length_append, ih]; simp [jbInts]; omega
theorem jbRaw_get (js : List Jb) (i j : Nat) (hi : i < js.length) (hj : j < 4) : (jbRaw js)[i * 4 + j]? = some ((jbInts js[i])[j]'(by simp [jbInts]; omega)) := by
  induction js generalizing i with
  | nil => simp at hi
  | cons a t ih =>
    show (jbInts a ++ jbRaw t)[i * 4 + j]? = _
    cases i with
    | zero =>
      rw [List.getElem?_append_left (by simp [jbInts]; omega), List.getElem?_eq_getElem (by simp [jbInts]; omega)]
      simp
    | succ i =>
      rw [List.getElem?_append_right (by simp [jbInts]; omega), show (i + 1) * 4 + j - (jbInts a).length = i * 4 + j by simp [jbInts]; omega, ih i (by simpa using hi)]
      simp
theorem OwnZ.jobs {T : Nat} {w : World} {N : Nat} {v : Value} {js : List Jb} (h : OwnZ T 4 w N v js.length (jbRaw js)) : Jobs w v js := by
  have hr := h
  rcases h.2 with ⟨rfl, h0⟩ | ⟨g, cap, cur, rfl, hg, hh, hc, hm, hcs, ht⟩
  · exact ⟨by omega, none, 0, by rw [h0], by omega, fun i hi => by omega⟩
  · refine ⟨by omega, _, cap, rfl, by omega, fun i hi => ⟨g, 0, rfl, (Array.getElem?_eq_some_iff.1 hh).1, fun j hj => ?_⟩⟩
    have hj4 : j < 4 := by simpa [jbCells] using hj
    have := World.ownsRow.cellAt (g := g) (cap := cap) hr (i * 4 + j) (by omega)
    rw [Nat.zero_add, this, List.getElem?_map, jbRaw_get js i j hi hj4]
    simp only [← jbInts_cells, List.getElem_map, Option.map_some]

set_option maxRecDepth 100000 in
set_option maxHeartbeats 1000000 in
theorem markJobS_any (v : Value) (n : Nat) (raw : List Int) (k : Int) (N : Nat) (w : World) (h : OwnZ 60 4 w N v n raw) (hk : 0 ≤ k) (hk2 : k ≤ 100000000) (hl : n ≤ 10000000) :
    Calls Tryd.prog 12 #[v, .int .i64 k] w fun e w' => e = .returned (.int .i64 (k + ((n * 4 : Nat) : Int))) ∧ OwnZ 60 4 w' N v n (marks k (n * 4)) ∧ w.grownBy w' v.ownBlock := by
  have hlen := h.length
  rcases h.nil_or with ⟨rfl, rfl⟩ | ⟨g, c, rfl⟩
  · obtain rfl : raw = [] := List.eq_nil_of_length_eq_zero (by omega)
    go_enter Tryd.func12, Tryd.ntmps12
    go_wp2
    go_loop [1, 5] (fun kk i => i = .int .i64 0 ∧ kk = .int .i64 k) (fun _ _ => 0)
    case atStart => exact ⟨rfl, rfl⟩
    case round =>
      obtain ⟨rfl, rfl⟩ := hrel
      go_wp2
      go_ret
      exact ⟨ret_int (by simp), h, grownBy_refl _ _⟩
  · have H0 : Hid (OwnZ 60 4 w N (.slice (some ⟨g, 0, none⟩) n c) n (markTo k raw 0)) := by show OwnZ _ _ w N _ _ _; simpa [markTo, marks] using h
    have HLEN := Lib.hid hlen
    clear h hlen
    go_enter Tryd.func12, Tryd.ntmps12
    go_wp2
    go_loopw [1, 5] (fun kk i wr => ∃ j J : Nat, Hid (J = j * 4) ∧ J ≤ n * 4 ∧ j ≤ n ∧ i = .int .i64 j ∧ kk = .int .i64 (k + (J : Int)) ∧ OwnZ 60 4 wr N (.slice (some ⟨g, 0, none⟩) n c) n (markTo k raw J) ∧ w.grownBy wr (some g)) (fun _ i _ => n - (intOf i).toNat)
    case atStart => exact ⟨0, 0, rfl, Nat.zero_le _, Nat.zero_le _, rfl, by simp, H0.out, grownBy_refl _ _⟩
    case round =>
      obtain ⟨j, J, hJ, hJn, hj, rfl, rfl, ho, hg⟩ := hrel
      clear H0
      by_cases hlt : j < n
      · have hraw : j * 4 + 3 < raw.length := by have := HLEN.out; omega
        have hL : ∀ p, p ≤ raw.length → (markTo k raw p).length = raw.length := fun p hp => markTo_length k raw p hp
        have hJ' : J = j * 4 := hJ.out
        obtain ⟨s1, s2, s3, s4⟩ := ho.store (j * 4) (by rw [hL _ (by omega)]; omega) (k + (J : Int))
        have m1 : (markTo k raw J).set (j * 4) (k + (J : Int)) = markTo k raw (J + 1) := by rw [← hJ']; exact markTo_set k raw J (by omega)
        rw [m1] at s3
        obtain ⟨r1, r2, r3, r4⟩ := s3.store (j * 4 + 1) (by rw [hL _ (by omega)]; omega) (k + (J : Int) + 1)
        have m2 : (markTo k raw (J + 1)).set (j * 4 + 1) (k + (J : Int) + 1) = markTo k raw (J + 1 + 1) := by
          rw [← hJ', ← markTo_set k raw (J + 1) (by omega)]; congr 1; omega
        rw [m2] at r3
        obtain ⟨q1, q2, q3, q4⟩ := r3.store (j * 4 + 2) (by rw [hL _ (by omega)]; omega) (k + (J : Int) + 1 + 1)
        have m3 : (markTo k raw (J + 1 + 1)).set (j * 4 + 2) (k + (J : Int) + 1 + 1) = markTo k raw (J + 1 + 1 + 1) := by
          rw [← hJ', ← markTo_set k raw (J + 1 + 1) (by omega)]; congr 1; omega
        rw [m3] at q3
        obtain ⟨p1, p2, p3, p4⟩ := q3.store (j * 4 + 3) (by rw [hL _ (by omega)]; omega) (k + (J : Int) + 1 + 1 + 1)
        have m4 : (markTo k raw (J + 1 + 1 + 1)).set (j * 4 + 3) (k + (J : Int) + 1 + 1 + 1) = markTo k raw (J + 4) := by
          rw [← hJ', ← markTo_set k raw (J + 1 + 1 + 1) (by omega)]; congr 1; omega
        rw [m4] at p3
        have hg2 := grownBy_trans (grownBy_trans (grownBy_trans (grownBy_trans hg s4) r4) q4) p4
        have HP3 := Lib.hid p3
        have HG2 := Lib.hid hg2
        have t1 := (ho.store (j * 4 + 1) (by rw [hL _ (by omega)]; omega) 0).1
        have t2 := (ho.store (j * 4 + 2) (by rw [hL _ (by omega)]; omega) 0).1
        have t3 := (ho.store (j * 4 + 3) (by rw [hL _ (by omega)]; omega) 0).1
        have f1 := (ho.store (j * 4 + 1) (by rw [hL _ (by omega)]; omega) 0).2.1
        have f2 := (ho.store (j * 4 + 2) (by rw [hL _ (by omega)]; omega) 0).2.1
        have f3 := (ho.store (j * 4 + 3) (by rw [hL _ (by omega)]; omega) 0).2.1
        have hj0 : (0 : Int) ≤ (j : Int) := by omega
        have hj1 : (j : Int) < (n : Int) := by omega
        clear s3 s4 r1 r2 r3 r4 q1 q2 q3 q4 p1 p2 p3 p4 m1 m2 m3 m4 hg hg2 ho hL hJ'
        go_wp2
        go_roundw
        case rel => exact ⟨j + 1, J + 4, by have := hJ.out; show J + 4 = (j + 1) * 4; omega, by have := hJ.out; omega, by omega, by go_num, by go_num, HP3.out, HG2.out⟩
        case measure => simp [intOf]; omega
      · obtain rfl : j = n := by omega
        obtain rfl : J = j * 4 := hJ.out
        have ho2 : OwnZ 60 4 wr N (.slice (some ⟨g, 0, none⟩) j c) j (marks k (j * 4)) := by
          have := ho; unfold markTo at this; rwa [List.drop_of_length_le (by have := HLEN.out; omega), List.append_nil] at this
        have Ho2 := Lib.hid ho2
        clear ho ho2 hlt
        go_wp2
        go_ret
        exact ⟨rfl, Ho2.out, hg⟩

theorem heldJobS_any (v : Value) (n : Nat) (k : Int) (N : Nat) (w : World) (h : OwnZ 60 4 w N v n (marks k (n * 4))) (hk : 0 ≤ k) (hk2 : k ≤ 100000000) (hl : n ≤ 10000000) :
    Calls Tryd.prog 13 #[v, .int .i64 k] w fun e w' => e = .returned (.int .i64 (k + ((n * 4 : Nat) : Int))) ∧ w = w' := by
  rcases h.nil_or with ⟨rfl, rfl⟩ | ⟨g, c, rfl⟩
  · go_enter Tryd.func13, Tryd.ntmps13
    go_wp2
    go_loop [1, 5] (fun kk i => i = .int .i64 0 ∧ kk = .int .i64 k) (fun _ _ => 0)
    case atStart => exact ⟨rfl, rfl⟩
    case round =>
      obtain ⟨rfl, rfl⟩ := hrel
      go_wp2
      go_ret
      exact ⟨ret_int (by simp), rfl⟩
  · have H := Lib.hid h
    clear h
    go_enter Tryd.func13, Tryd.ntmps13
    go_wp2
    go_loopw [1, 5] (fun kk i wr => ∃ j J : Nat, Hid (J = j * 4) ∧ J ≤ n * 4 ∧ j ≤ n ∧ i = .int .i64 j ∧ kk = .int .i64 (k + (J : Int)) ∧ w = wr) (fun _ i _ => n - (intOf i).toNat)
    case atStart => exact ⟨0, 0, rfl, Nat.zero_le _, Nat.zero_le _, rfl, by simp, rfl⟩
    case round =>
      obtain ⟨j, J, hJ, hJn, hj, rfl, rfl, rfl⟩ := hrel
      by_cases hlt : j < n
      · have hJ' : J = j * 4 := hJ.out
        have hm : ∀ p, p < n * 4 → nth (marks k (n * 4)) p = k + (p : Int) := fun p hp => by rw [nth_eq (by rw [marks_length]; exact hp), marks_get]
        have t0 := (H.out.store (j * 4) (by rw [marks_length]; omega) 0).1
        have t1 := (H.out.store (j * 4 + 1) (by rw [marks_length]; omega) 0).1
        have t2 := (H.out.store (j * 4 + 2) (by rw [marks_length]; omega) 0).1
        have t3 := (H.out.store (j * 4 + 3) (by rw [marks_length]; omega) 0).1
        rw [hm _ (by omega), ← hJ'] at t0
        rw [hm _ (by omega), ← hJ', show k + ((J + 1 : Nat) : Int) = k + (J : Int) + 1 by omega] at t1
        rw [hm _ (by omega), ← hJ', show k + ((J + 2 : Nat) : Int) = k + (J : Int) + 1 + 1 by omega] at t2
        rw [hm _ (by omega), ← hJ', show k + ((J + 3 : Nat) : Int) = k + (J : Int) + 1 + 1 + 1 by omega] at t3
        rw [hJ'] at t0 t1 t2 t3
        rw [show ((j * 4 : Nat) : Int) = (J : Int) by omega] at t0 t1 t2 t3
        have hj0 : (0 : Int) ≤ (j : Int) := by omega
        have hj1 : (j : Int) < (n : Int) := by omega
        clear hm hJ'
        go_wp2
        go_roundw
        case rel => exact ⟨j + 1, J + 4, by have := hJ.out; show J + 4 = (j + 1) * 4; omega, by have := hJ.out; omega, by omega, by go_num, by go_num, trivial⟩
        case measure => simp [intOf]; omega
      · obtain rfl : j = n := by omega
        obtain rfl : J = j * 4 := hJ.out
        clear hlt
        go_wp2
        go_ret
        exact ⟨rfl, rfl⟩

/-- A rule's five numbers. -/
abbrev Rl := Int × Int × Int × Int × Int
/-- A desk's value. -/
def deskV (vj : Value) (r : Rl) (vc : Value) (p : ByteArray) : Value := .agg #[vj, .int .i64 r.1, .int .i64 r.2.1, .int .i64 r.2.2.1, .int .i64 r.2.2.2.1, .int .i64 r.2.2.2.2, vc, .string p]

theorem bcell {W w1 : World} (hb : Below W.heap.size W w1) : (∀ b o, b < W.heap.size → w1.cell? ⟨b, o, none⟩ = W.cell? ⟨b, o, none⟩) ∧ (∀ b o, b < W.heap.size → w1.frozen? ⟨b, o, none⟩ = W.frozen? ⟨b, o, none⟩) :=
  ⟨fun b o h => hb.cell (p := ⟨b, o, none⟩) h, fun b o h => hb.frozen (p := ⟨b, o, none⟩) h⟩

structure OwnDesk (w : World) (lo hi : Nat) (vj vc : Value) (n : Nat) (jr cr : List Int) : Prop where
  j : OwnZ 60 4 w lo vj n jr
  c : OwnI w lo vc cr
  hj : ∀ k, vj.ownBlock = some k → k < hi
  hc : ∀ k, vc.ownBlock = some k → k < hi
def deskBlocks (vj vc : Value) : List Nat := vj.ownBlock.toList ++ vc.ownBlock.toList

theorem own_ne {T size n : Nat} {w : World} {lo lo' : Nat} {vj vc : Value} {jr cr : List Int} (hT : T ≠ 2) (h : OwnZ T size w lo vj n jr) (k : OwnI w lo' vc cr) : vj.ownBlock = none ∨ vj.ownBlock ≠ vc.ownBlock := by
  rcases h.2 with ⟨rfl, _⟩ | ⟨g, cap, cur, rfl, _, hh, _⟩
  · exact .inl rfl
  · refine .inr ?_
    rcases k.2 with ⟨rfl, _⟩ | ⟨g', cap', cur', rfl, _, hh', _⟩
    · intro e; cases e
    · intro e
      have e2 : some g = some g' := e
      injection e2 with e2
      subst e2
      rw [hh] at hh'
      injection hh' with hh'
      injection hh' with _ h3
      exact hT h3
theorem own_ne' {T size n : Nat} {w : World} {lo lo' : Nat} {vj vc : Value} {jr cr : List Int} (hT : T ≠ 2) (h : OwnZ T size w lo vj n jr) (k : OwnI w lo' vc cr) : vc.ownBlock = none ∨ vc.ownBlock ≠ vj.ownBlock := by
  rcases own_ne hT h k with h1 | h1
  · cases hv : vc.ownBlock with
    | none => exact .inl rfl
    | some x => rw [h1]; exact .inr (by simp)
  · exact .inr (Ne.symm h1)

end Go.Proofs.YtcjeededlhdcbaaDoor
