/- GreedyCover. Conditions: a valid rule, as many needs as slots, from 0 to 3. With texts that it needs. -/
import Derived.Test.YtbocedlldaeanaaDoorShiftsAll7
import Derived.Test.YtbocedlldaeanaaDoorShiftsAll1
import Derived.Test.YtbocedlldaeanaaDoorShiftsAll6
namespace Go.Proofs.YtbocedlldaeanaaDoor
open Go.RowKit
set_option linter.unusedVariables false
set_option linter.unusedSimpArgs false

/-! The sorted list is one alone. -/
def lexLe (key : Int → Int) (x y : Int) : Bool := decide (key x < key y) || (decide (key x = key y) && decide (x ≤ y))
theorem lexLe_iff {key : Int → Int} {x y : Int} : lexLe key x y = true ↔ key x < key y ∨ key x = key y ∧ x ≤ y := by simp [lexLe]
def sortsL (key : Int → Int) (n : Nat) : List Int := (idL n).mergeSort (lexLe key)
theorem pairwise_of_on {key : Int → Int} {E : List Int} {n : Nat} (hl : E.length = n) (h : SortedOn key E 0 n) : E.Pairwise (lexLt key) := by
  rw [List.pairwise_iff_getElem]
  intro i j hi hj hij
  have := h i j (Nat.zero_le _) hij (by omega)
  rwa [nth_eq hi, nth_eq hj] at this
theorem on_of_pairwise {key : Int → Int} {E : List Int} {n : Nat} (hl : E.length = n) (h : E.Pairwise (lexLt key)) : SortedOn key E 0 n := fun i j _ hij hj => by
  rw [nth_eq (by omega), nth_eq (by omega)]
  exact List.pairwise_iff_getElem.1 h i j (by omega) (by omega) hij
theorem idL_nodup (n : Nat) : (idL n).Pairwise fun x y => x ≠ y := by
  rw [List.pairwise_iff_getElem]
  intro i j hi hj hij
  rw [idL_length] at hi hj
  rw [← nth_eq, ← nth_eq, idL_get hi, idL_get hj]; omega
theorem sortsL_ok (key : Int → Int) (n : Nat) : SortsBy key n (sortsL key n) := by
  have hp : (sortsL key n).Perm (idL n) := List.mergeSort_perm _ _
  refine ⟨hp, on_of_pairwise (by rw [hp.length_eq, idL_length]) ?_⟩
  have h1 : (sortsL key n).Pairwise fun a b => lexLe key a b = true := List.pairwise_mergeSort (fun a b c h k => by rw [lexLe_iff] at *; omega) (fun a b => by rw [Bool.or_eq_true, lexLe_iff, lexLe_iff]; omega) _
  have h2 : (sortsL key n).Pairwise fun x y => x ≠ y := (hp.pairwise_iff (fun h => Ne.symm h)).2 (idL_nodup n)
  exact (h1.and h2).imp fun ⟨h, k⟩ => by rw [lexLe_iff] at h; unfold lexLt; omega
theorem sorts_one {key : Int → Int} {n : Nat} {E F : List Int} (h : SortsBy key n E) (k : SortsBy key n F) : E = F := by
  refine List.Perm.eq_of_pairwise (le := lexLt key) (fun a b _ _ h1 h2 => ?_) (pairwise_of_on (by rw [h.1.length_eq, idL_length]) h.2) (pairwise_of_on (by rw [k.1.length_eq, idL_length]) k.2) (h.1.trans k.1.symm)
  unfold lexLt at h1 h2; omega

/-- The next to be taken. -/
theorem pick_next {key : Int → Int} {n : Nat} {E pre suf : List Int} {x : Int} {f : Nat → Bool} (hE : SortsBy key n E) (he : E = pre ++ x :: suf) (hp : ∀ y ∈ pre, f y.toNat = false) (hx : f x.toNat = true) : pickK f key n = x := by
  have hmem : ∀ x, x ∈ E ↔ 0 ≤ x ∧ x < (n : Int) := fun x => by rw [hE.1.mem_iff, idL_mem]
  have hx0 := (hmem x).1 (by rw [he]; simp)
  rcases pickK_spec f key n with ⟨_, h2⟩ | ⟨h1, h2, h3, h4⟩
  · rw [h2 _ (by omega)] at hx; cases hx
  · obtain ⟨b, hb⟩ : ∃ b, pickK f key n = b := ⟨_, rfl⟩
    rw [hb] at h1 h2 h3 h4 ⊢
    have h5 := h4 x.toNat (by omega) hx
    rw [show ((x.toNat : Nat) : Int) = x by omega] at h5
    rcases h5 with h5 | h5
    · exact h5.symm
    · exfalso
      have hbE := (hmem b).2 ⟨h1, h2⟩
      rw [he] at hbE
      rcases List.mem_append.1 hbE with hb1 | hb1
      · rw [hp b hb1] at h3; cases h3
      · rcases List.mem_cons.1 hb1 with hb1 | hb1
        · subst hb1; unfold lexLt at h5; omega
        · have h6 := sorts_after hE he hb1
          unfold lexLt at h5 h6; omega

/-! Rooms. -/
def clashR (xs out : List Int) (n i : Nat) (r : Int) : Bool := (idL n).any fun k => (nth out k.toNat == r) && meetB xs i k.toNat
def roomF (xs out : List Int) (n i : Nat) : Nat → Int → Int
  | 0, r => r
  | f + 1, r => if clashR xs out n i r then roomF xs out n i f (r + 1) else r
def roomAt (xs out : List Int) (n i : Nat) : Int := roomF xs out n i n 0
def roomStep (xs : List Int) (n : Nat) (out : List Int) (i : Int) : List Int := out.set i.toNat (roomAt xs out n i.toNat)
def noneL (n : Nat) : List Int := List.replicate n (-1)
def roomsTo (xs : List Int) (n t : Nat) : List Int := ((sortsL (begOf xs) n).take t).foldl (roomStep xs n) (noneL n)
/-- The greatest of the first k + 1. -/
def maxTo (xs : List Int) : Nat → Int
  | 0 => nth xs 0
  | k + 1 => if maxTo xs k < nth xs (k + 1) then nth xs (k + 1) else maxTo xs k

theorem clash_hit {xs out : List Int} {n i : Nat} {r : Int} (h : clashR xs out n i r = true) : ∃ k, k < n ∧ nth out k = r := by
  unfold clashR at h
  rw [List.any_eq_true] at h
  obtain ⟨k, hk, h⟩ := h
  rw [Bool.and_eq_true, beq_iff_eq] at h
  have := idL_mem.1 hk
  exact ⟨k.toNat, by omega, h.1⟩
theorem roomF_bounds {xs out : List Int} {n i : Nat} {t : Int} (ht : ∀ k, k < n → nth out k < t) : ∀ f r, r ≤ t → r ≤ roomF xs out n i f r ∧ roomF xs out n i f r ≤ t
  | 0, r, h => ⟨Int.le_refl _, h⟩
  | f + 1, r, h => by
    unfold roomF
    split
    · rename_i hc
      obtain ⟨k, hk, he⟩ := clash_hit hc
      have h1 := ht k hk
      have := roomF_bounds (xs := xs) (i := i) ht f (r + 1) (by omega)
      omega
    · exact ⟨Int.le_refl _, h⟩
theorem roomAt_bounds {xs out : List Int} {n i : Nat} {t : Int} (ht : ∀ k, k < n → nth out k < t) (h0 : 0 ≤ t) : 0 ≤ roomAt xs out n i ∧ roomAt xs out n i ≤ t := roomF_bounds ht n 0 h0
theorem roomF_stop {xs out : List Int} {n i : Nat} {r : Int} (f : Nat) (h : clashR xs out n i r = false) : roomF xs out n i f r = r := by
  cases f with
  | zero => rfl
  | succ f => unfold roomF; rw [if_neg (by rw [h]; simp)]
theorem roomF_next {xs out : List Int} {n i r : Nat} (hr : ∀ k, k < n → nth out k < (n : Int)) (hrn : r ≤ n) (h : clashR xs out n i (r : Int) = true) : r + 1 ≤ n ∧ roomF xs out n i (n - r) r = roomF xs out n i (n - (r + 1)) ((r + 1 : Nat) : Int) := by
  obtain ⟨k, hk, he⟩ := clash_hit h
  have := hr k hk
  refine ⟨by omega, ?_⟩
  obtain ⟨f, hf⟩ : ∃ f, n - r = f + 1 := ⟨n - r - 1, by omega⟩
  rw [hf, show n - (r + 1) = f by omega]
  conv => lhs; unfold roomF
  rw [if_pos h]
  congr 1

theorem nth_replicate {n k : Nat} (h : k < n) : nth (noneL n) k = -1 := by
  unfold noneL
  rw [nth_eq (by simpa using h)]; simp
/-- What is known of the rooms behind t steps. -/
structure RoomsOk (xs : List Int) (n t : Nat) (out : List Int) : Prop where
  len : out.length = n
  lo : ∀ k, k < n → -1 ≤ nth out k
  hi : ∀ k, k < n → nth out k < (t : Int)
  free : ∀ k : Nat, k < n → (nth out k < 0 ↔ (k : Int) ∉ (sortsL (begOf xs) n).take t)
theorem sortsL_len (key : Int → Int) (n : Nat) : (sortsL key n).length = n := by rw [(sortsL_ok key n).1.length_eq, idL_length]
theorem sortsL_mem (key : Int → Int) (n : Nat) (x : Int) : x ∈ sortsL key n ↔ 0 ≤ x ∧ x < (n : Int) := by rw [(sortsL_ok key n).1.mem_iff, idL_mem]
/-- The t-th in the order. -/
theorem sortsL_at {key : Int → Int} {n t : Nat} (h : t < n) : ∃ x suf, sortsL key n = (sortsL key n).take t ++ x :: suf ∧ (sortsL key n).take (t + 1) = (sortsL key n).take t ++ [x] ∧ nth (sortsL key n) t = x ∧ 0 ≤ x ∧ x < (n : Int) := by
  have hl : t < (sortsL key n).length := by rw [sortsL_len]; exact h
  have hx := (sortsL_mem key n _).1 (List.getElem_mem hl)
  exact ⟨(sortsL key n)[t], (sortsL key n).drop (t + 1), by rw [← List.drop_eq_getElem_cons hl, List.take_append_drop], List.take_succ_eq_append_getElem hl, nth_eq hl, hx⟩
theorem sortsL_new {key : Int → Int} {n t : Nat} (h : t < n) : nth (sortsL key n) t ∉ (sortsL key n).take t := by
  intro hm
  obtain ⟨j, hj, he⟩ := List.getElem_of_mem hm
  rw [List.getElem_take] at he
  have hl := sortsL_len key n
  rw [List.length_take] at hj
  have := (sortsL_ok key n).2 j t (Nat.zero_le _) (by omega) h
  rw [nth_eq (by omega), he] at this
  unfold lexLt at this; omega
theorem RoomsOk.zero (xs : List Int) (n : Nat) : RoomsOk xs n 0 (roomsTo xs n 0) := by
  have e : roomsTo xs n 0 = noneL n := rfl
  rw [e]
  refine ⟨by simp [noneL], fun k hk => ?_, fun k hk => ?_, fun k hk => ?_⟩
  · rw [nth_replicate hk]; omega
  · rw [nth_replicate hk]; omega
  · rw [nth_replicate hk]; simp
theorem roomsTo_succ {xs : List Int} {n t : Nat} (h : t < n) : roomsTo xs n (t + 1) = roomStep xs n (roomsTo xs n t) (nth (sortsL (begOf xs) n) t) := by
  obtain ⟨x, suf, _, h2, h3, _⟩ := sortsL_at (key := begOf xs) h
  unfold roomsTo
  rw [h2, List.foldl_append, h3]; rfl
theorem RoomsOk.next {xs : List Int} {n t : Nat} (h : RoomsOk xs n t (roomsTo xs n t)) (ht : t < n) : RoomsOk xs n (t + 1) (roomsTo xs n (t + 1)) := by
  obtain ⟨x, suf, h1, h2, h3, h4, h5⟩ := sortsL_at (key := begOf xs) ht
  rw [roomsTo_succ ht, h3]
  obtain ⟨out, ho⟩ : ∃ out, roomsTo xs n t = out := ⟨_, rfl⟩
  rw [ho] at h ⊢
  obtain ⟨b1, b2⟩ := roomAt_bounds (xs := xs) (i := x.toNat) h.hi (by omega)
  unfold roomStep
  have hn : ∀ k, nth (out.set x.toNat (roomAt xs out n x.toNat)) k = if x.toNat = k then roomAt xs out n x.toNat else nth out k := fun k => nth_set1 _ (by rw [h.len]; omega)
  refine ⟨by rw [List.length_set]; exact h.len, fun k hk => ?_, fun k hk => ?_, fun k hk => ?_⟩
  · rw [hn]; split
    · omega
    · exact h.lo k hk
  · rw [hn]; split
    · omega
    · have := h.hi k hk; omega
  · rw [hn, h2, List.mem_append, not_or]
    split
    · rename_i e
      subst e
      constructor
      · intro h; omega
      · rintro ⟨_, h⟩
        exact absurd (by simp; omega) h
    · rename_i e
      rw [h.free k hk]
      constructor
      · intro h; exact ⟨h, by simp; omega⟩
      · intro h; exact h.1
theorem rooms_ok (xs : List Int) (n : Nat) : ∀ t, t ≤ n → RoomsOk xs n t (roomsTo xs n t)
  | 0, _ => RoomsOk.zero xs n
  | t + 1, h => (rooms_ok xs n t (by omega)).next (by omega)
/-- The next talk by looking is the next in the order. -/
theorem rooms_pick {xs : List Int} {n t : Nat} (ht : t < n) : pickK (fun k => decide (nth (roomsTo xs n t) k < 0)) (begOf xs) n = nth (sortsL (begOf xs) n) t := by
  obtain ⟨x, suf, h1, h2, h3, h4, h5⟩ := sortsL_at (key := begOf xs) ht
  have hr := rooms_ok xs n t (by omega)
  rw [h3]
  refine pick_next (sortsL_ok _ _) h1 (fun y hy => ?_) ?_
  · have hy0 := (sortsL_mem (begOf xs) n y).1 (List.mem_of_mem_take hy)
    have h6 := hr.free y.toNat (by omega)
    rw [show ((y.toNat : Nat) : Int) = y by omega] at h6
    show decide (nth (roomsTo xs n t) y.toNat < 0) = false
    rw [decide_eq_false_iff_not]
    intro h; exact h6.1 h hy
  · have h6 := hr.free x.toNat (by omega)
    rw [show ((x.toNat : Nat) : Int) = x by omega] at h6
    show decide (nth (roomsTo xs n t) x.toNat < 0) = true
    rw [decide_eq_true_eq]
    refine h6.2 ?_
    have := sortsL_new (key := begOf xs) ht
    rwa [h3] at this
theorem maxTo_spec (xs : List Int) : ∀ m, (∀ k, k ≤ m → nth xs k ≤ maxTo xs m) ∧ ∃ k, k ≤ m ∧ nth xs k = maxTo xs m
  | 0 => ⟨fun k hk => by obtain rfl : k = 0 := by omega
                         exact Int.le_refl _, 0, Nat.le_refl _, rfl⟩
  | m + 1 => by
    obtain ⟨h1, k, h2, h3⟩ := maxTo_spec xs m
    unfold maxTo
    split
    · refine ⟨fun j hj => ?_, m + 1, Nat.le_refl _, rfl⟩
      by_cases e : j = m + 1
      · rw [e]; exact Int.le_refl _
      · have := h1 j (by omega); omega
    · refine ⟨fun j hj => ?_, k, by omega, h3⟩
      by_cases e : j = m + 1
      · rw [e]; omega
      · exact h1 j (by omega)
/-- How many rooms there are, as the reference counts them. -/
structure CountOk (n : Nat) (out : List Int) (c : Int) : Prop where
  all : ∀ k, k < n → nth out k < c
  some_ : c = 0 ∨ ∃ k, k < n ∧ nth out k = c - 1
  pos : 0 ≤ c
theorem CountOk.zero (n : Nat) : CountOk n (noneL n) 0 := ⟨fun k hk => by rw [nth_replicate hk]; omega, .inl rfl, Int.le_refl _⟩
theorem CountOk.next {n : Nat} {out : List Int} {c r : Int} {x : Nat} (h : CountOk n out c) (hl : out.length = n) (hx : x < n) (hf : nth out x < 0) (hr : 0 ≤ r) : CountOk n (out.set x r) (if c < r + 1 then r + 1 else c) := by
  have hn : ∀ k, nth (out.set x r) k = if x = k then r else nth out k := fun k => nth_set1 _ (by rw [hl]; omega)
  have hp := h.pos
  refine ⟨fun k hk => ?_, ?_, by split <;> omega⟩
  · have := h.all k hk
    rw [hn]; split <;> split <;> omega
  · right
    split
    · exact ⟨x, hx, by rw [hn, if_pos rfl]; omega⟩
    · rename_i hc
      rcases h.some_ with h0 | ⟨k, hk, he⟩
      · omega
      · refine ⟨k, hk, ?_⟩
        rw [hn, if_neg (fun e => by subst e; omega)]; exact he
theorem CountOk.done {n : Nat} {out : List Int} {c : Int} (h : CountOk n out c) (hn : 1 ≤ n) (h0 : ∀ k, k < n → 0 ≤ nth out k) : c = maxTo out (n - 1) + 1 := by
  obtain ⟨h1, k, h2, h3⟩ := maxTo_spec out (n - 1)
  have h4 := h.all k (by omega)
  rcases h.some_ with h5 | ⟨j, h5, h6⟩
  · have := h0 0 (by omega)
    have := h.all 0 (by omega)
    omega
  · have := h1 j (by omega)
    omega
def roomsR (xs : List Int) : List Int := if talksOk xs then roomsTo xs (xs.length / 2) (xs.length / 2) else []
def roomsC (xs : List Int) : Int := if talksOk xs then maxTo (roomsTo xs (xs.length / 2) (xs.length / 2)) (xs.length / 2 - 1) + 1 else 0
theorem roomsR_small (xs : List Int) : (roomsR xs).length ≤ 32 := by
  unfold roomsR
  split
  · rename_i h
    simp only [talksOk, talksHead, Bool.and_eq_true] at h
    have := many_true.1 h.1.1
    rw [(rooms_ok xs _ _ (Nat.le_refl _)).len]; omega
  · exact Nat.zero_le _
/-- All rooms are told at the end. -/
theorem rooms_all (xs : List Int) (n : Nat) : ∀ k, k < n → 0 ≤ nth (roomsTo xs n n) k := fun k hk => by
  have h := (rooms_ok xs n n (Nat.le_refl _)).free k hk
  have h2 : (k : Int) ∈ (sortsL (begOf xs) n).take n := by
    rw [List.take_of_length_le (by rw [sortsL_len]; exact Nat.le_refl _), sortsL_mem]; omega
  have : ¬ nth (roomsTo xs n n) k < 0 := fun h3 => h.1 h3 h2
  omega
end Go.Proofs.YtbocedlldaeanaaDoor

namespace Go.Proofs.YtbocedlldaeanaaDoor
open Go.RowKit
set_option linter.unusedVariables false
set_option linter.unusedSimpArgs false

def MaxR (xs : List Int) (w : World) (vm vk : Value) (wr : World) : Prop := ∃ k : Nat, 1 ≤ k ∧ k ≤ xs.length ∧ vm = .int .i64 (maxTo xs (k - 1)) ∧ vk = .int .i64 k ∧ w = wr

theorem maxI_any (v : Value) (xs : List Int) (w : World) (hv : Ints w v xs) (h1 : 1 ≤ xs.length) (hl : xs.length ≤ 1048576) :
    Calls Tryd.prog 29 #[v] w fun e w' => e = .returned (.int .i64 (maxTo xs (xs.length - 1))) ∧ w = w' := by
  obtain ⟨hm, a, c, rfl, hcap, hc⟩ := hv
  obtain ⟨b, o, ha, hbs, hcs⟩ := row_at hc
  obtain rfl := ha (by omega)
  have HCS : Hid (∀ j, j < xs.length → w.cell? ⟨b, o + j, none⟩ = some (.int .i64 (nth xs j))) := fun j hj => by rw [nth_eq hj]; exact hcs j hj
  have c0 : w.cell? ⟨b, o, none⟩ = some (.int .i64 (nth xs 0)) := HCS.out 0 (by omega)
  have i0 : ¬ (xs.length : Int) < 1 := by omega
  have i1 : (0 : Int) < (xs.length : Int) := by omega
  clear hc hcs ha hm
  go_enter Tryd.func29, Tryd.ntmps29
  go_wp2
  go_loopw [3, 4] (fun vm vk wr => MaxR xs w vm vk wr) (fun _ vk _ => xs.length - (intOf vk).toNat)
  case atStart => exact ⟨1, Nat.le_refl _, h1, rfl, rfl, rfl⟩
  case round =>
    obtain ⟨k, k1, kl, rfl, rfl, rfl⟩ := hrel
    by_cases hk : k < xs.length
    · have j1 : (k : Int) < (xs.length : Int) := by omega
      have j0 : (0 : Int) ≤ (k : Int) := by omega
      have ck := HCS.out k hk
      have HST : Hid (maxTo xs (k + 1 - 1) = if maxTo xs (k - 1) < nth xs k then nth xs k else maxTo xs (k - 1)) := by
        show _ = _
        obtain ⟨m, rfl⟩ : ∃ m, k = m + 1 := ⟨k - 1, by omega⟩
        rfl
      obtain ⟨M, hM⟩ : ∃ M, maxTo xs (k - 1) = M := ⟨_, rfl⟩
      obtain ⟨X, hX⟩ : ∃ X, nth xs k = X := ⟨_, rfl⟩
      rw [hM] at HST ⊢
      rw [hX] at HST ck
      have HM := Lib.hid hM
      clear hM hX
      by_cases hlt : M < X
      · skip
        go_wp2
        go_roundw
        case rel => exact ⟨k + 1, by omega, by omega, (by first | (rw [HST.out, if_pos hlt]; done) | (rw [HST.out, if_pos hlt, Int.max_eq_right (by omega)])), by go_num, rfl⟩
        case measure => simp [intOf]; omega
      · skip
        go_wp2
        go_roundw
        case rel => exact ⟨k + 1, by omega, by omega, (by first | (rw [HST.out, if_neg hlt]; done) | (rw [HST.out, if_neg hlt, Int.max_eq_left (by omega)])), by go_num, rfl⟩
        case measure => simp [intOf]; omega
    · have j1 : ¬ (k : Int) < (xs.length : Int) := by omega
      have HE : Hid (k = xs.length) := by show _ = _; omega
      clear hk
      go_wp2
      go_ret
      exact ⟨ret_int (by rw [HE.out]), rfl⟩
end Go.Proofs.YtbocedlldaeanaaDoor

namespace Go.Proofs.YtbocedlldaeanaaDoor
open Go.RowKit Go.Shelf
set_option linter.unusedVariables false
set_option linter.unusedSimpArgs false

/-- The texts that are gone through. -/
def allS (r : ShR) : List ByteArray := fitT 64 [] (lsW r r.slots.toNat s0 ⟨#[]⟩)
theorem allS_len (r : ShR) : (allS r).length ≤ 64 := fitT_len (by simp)
theorem allS_mem {r : ShR} {t : ByteArray} (h : t ∈ allS r) : t.size = r.slots.toNat ∧ t.data.toList.all isDW = true ∧ isT r s0 t.data.toList = true := by
  unfold allS fitT at h
  rw [List.nil_append] at h
  have h := List.mem_of_mem_take h
  unfold lsW at h
  obtain ⟨u, hu, rfl⟩ := List.mem_map.1 h
  have e : ((⟨#[]⟩ : ByteArray) ++ (⟨u.toArray⟩ : ByteArray)) = ⟨u.toArray⟩ := ByteArray.empty_append
  rw [e]
  obtain ⟨h1, h2, h3⟩ := (mem_wsS r _ s0 u).1 hu
  exact ⟨by show (u.toArray).size = _; simpa using h1, by simpa using h2, by simpa using h3⟩
/-- What the outer loop knows. -/
structure GrI (al : List ByteArray) (ns tk lf : List Int) (n : Nat) : Prop where
  tl : tk.length = al.length
  ll : lf.length = n
  sum : ∀ k, k < n → nth lf k = nth ns k - covL al tk k
  pos : ∀ c ∈ tk, 0 ≤ c ∧ c + posS lf ≤ posS ns
theorem GrI.start {al : List ByteArray} {ns : List Int} {n : Nat} (hn : ns.length = n) : GrI al ns (List.replicate al.length 0) ns n where
  tl := by rw [List.length_replicate]
  ll := hn
  sum := fun k _ => by rw [covL_zero]; omega
  pos := fun c hc => by
    have := (List.mem_replicate.1 hc).2
    subst this
    exact ⟨Int.le_refl _, by omega⟩
theorem GrI.step {al : List ByteArray} {ns tk lf : List Int} {n : Nat} (h : GrI al ns tk lf n) (i : Nat) (hi : i < al.length) (hg : 0 < gainS al[i] lf n) : GrI al ns (tk.set i (nth tk i + 1)) (decL al[i] lf 0) n ∧ posS (decL al[i] lf 0) + 1 ≤ posS lf := by
  obtain ⟨j, h1, h2, h3⟩ := gainS_pos al[i] lf n hg
  have hl : posS (decL al[i] lf 0) + 1 ≤ posS lf := posS_less al[i] lf 0 j (by rw [h.ll]; exact h1) (by rw [Nat.zero_add]; exact h3) h2
  refine ⟨⟨by rw [List.length_set]; exact h.tl, by rw [decL_length]; exact h.ll, fun k hk => ?_, fun c hc => ?_⟩, hl⟩
  · rw [decL_at al[i] lf 0 k (by rw [h.ll]; exact hk), Nat.zero_add, covL_set al tk i hi h.tl.symm, h.sum k hk]
    omega
  · rcases List.mem_or_eq_of_mem_set hc with hc | rfl
    · have := h.pos c hc
      omega
    · have hm : nth tk i ∈ tk := by rw [nth_eq (by rw [h.tl]; exact hi)]; exact List.getElem_mem _
      have := h.pos _ hm
      omega
theorem GrI.small {al : List ByteArray} {ns tk lf : List Int} {n : Nat} (h : GrI al ns tk lf n) (hal : al.length ≤ 64) (hns : ∀ x ∈ ns, 0 ≤ x ∧ x ≤ 3) (hn : ns.length = n) (h24 : n ≤ 24) : (∀ c ∈ tk, 0 ≤ c ∧ c ≤ 72) ∧ (∀ k, k < n → -70000 ≤ nth lf k ∧ nth lf k ≤ 3) ∧ posS lf ≤ 72 := by
  have h1 := posS_le 3 ns (by decide) (fun x hx => (hns x hx).2)
  have h2 := posS_nonneg lf
  have h3 : ∀ c ∈ tk, 0 ≤ c ∧ c ≤ 72 := fun c hc => by have := h.pos c hc; omega
  refine ⟨h3, fun k hk => ?_, ?_⟩
  · have h4 := covL_bound al tk k (fun c hc => by have := h3 c hc; omega)
    have h5 := h.sum k hk
    have h6 : nth ns k ∈ ns := by rw [nth_eq (by omega)]; exact List.getElem_mem _
    have h7 := hns _ h6
    omega
  · by_cases h0 : tk = []
    · have : posS lf ≤ 3 * n := by
        have h8 := posS_le 3 lf (by decide) (fun x hx => ?_)
        · rw [h.ll] at h8; exact h8
        · obtain ⟨k, hk, rfl⟩ := List.mem_iff_getElem.1 hx
          have h5 := h.sum k (by rw [← h.ll]; exact hk)
          rw [nth_eq hk, h0] at h5
          have h9 : covL al [] k = 0 := by cases al <;> simp [covL]
          have h6 : nth ns k ∈ ns := by rw [nth_eq (by rw [h.ll] at hk; omega)]; exact List.getElem_mem _
          have h7 := hns _ h6
          omega
      omega
    · obtain ⟨c, l, rfl⟩ := List.exists_cons_of_ne_nil h0
      have := h.pos c (by simp)
      omega
/-- What is left. -/
theorem max_none {lf : List Int} (h1 : 1 ≤ lf.length) (h : ¬ maxTo lf (lf.length - 1) > 0) : ∀ k, k < lf.length → nth lf k ≤ 0 := fun k hk => by
  have := (maxTo_spec lf (lf.length - 1)).1 k (by omega)
  omega
/-- The row behind the first j slots. -/
def dcN (t : ByteArray) (lf : List Int) (j : Nat) : List Int := (List.range lf.length).map fun i => if i < j then nth (decL t lf 0) i else nth lf i
theorem dcN_len (t : ByteArray) (lf : List Int) (j : Nat) : (dcN t lf j).length = lf.length := by unfold dcN; simp
theorem dcN_at {t : ByteArray} {lf : List Int} {j i : Nat} (hi : i < lf.length) : nth (dcN t lf j) i = if i < j then nth (decL t lf 0) i else nth lf i := by
  rw [nth_eq (by rw [dcN_len]; exact hi)]
  unfold dcN
  rw [List.getElem_map, List.getElem_range]
theorem dcN_zero (t : ByteArray) (lf : List Int) : dcN t lf 0 = lf := by
  refine nth_ext (dcN_len t lf 0) fun i hi => ?_
  rw [dcN_len] at hi
  rw [dcN_at hi, if_neg (by omega)]
theorem dcN_full (t : ByteArray) (lf : List Int) : dcN t lf lf.length = decL t lf 0 := by
  refine nth_ext (by rw [dcN_len, decL_length]) fun i hi => ?_
  rw [dcN_len] at hi
  rw [dcN_at hi, if_pos hi]
theorem dcN_set {t : ByteArray} {lf : List Int} {j : Nat} (hj : j < lf.length) (hw : isW t j = true) : (dcN t lf j).set j (nth lf j - 1) = dcN t lf (j + 1) := by
  refine nth_ext (by rw [List.length_set, dcN_len, dcN_len]) fun i hi => ?_
  rw [List.length_set, dcN_len] at hi
  rw [dcN_at hi]
  by_cases hij : i = j
  · subst hij
    rw [nth_eq (by rw [List.length_set, dcN_len]; exact hi), List.getElem_set_self, if_pos (by omega), decL_at t lf 0 i hi, Nat.zero_add, hw]
    simp
  · rw [nth_eq (by rw [List.length_set, dcN_len]; exact hi), List.getElem_set_ne (by omega), ← nth_eq, dcN_at hi]
    by_cases h1 : i < j
    · rw [if_pos h1, if_pos (by omega)]
    · rw [if_neg h1, if_neg (by omega)]
theorem dcN_same {t : ByteArray} {lf : List Int} {j : Nat} (hj : j < lf.length) (hw : isW t j = false) : dcN t lf j = dcN t lf (j + 1) := by
  refine nth_ext (by rw [dcN_len, dcN_len]) fun i hi => ?_
  rw [dcN_len] at hi
  rw [dcN_at hi, dcN_at hi]
  by_cases hij : i = j
  · subst hij
    rw [if_neg (by omega), if_pos (by omega), decL_at t lf 0 i hi, Nat.zero_add, hw]
    simp
  · by_cases h1 : i < j
    · rw [if_pos h1, if_pos (by omega)]
    · rw [if_neg h1, if_neg (by omega)]
end Go.Proofs.YtbocedlldaeanaaDoor

namespace Go.Proofs.YtbocedlldaeanaaDoor
open Go.RowKit Go.Shelf
set_option linter.unusedVariables false
set_option linter.unusedSimpArgs false

/-- What a row still needs, as it stands in memory. -/
def msW (w : World) (g : Nat) : Nat → Nat
  | 0 => 0
  | k + 1 => msW w g k + (match w.cell? ⟨g, k, none⟩ with | some (.int _ x) => x.toNat | _ => 0)
theorem posS_snoc : ∀ (l : List Int) (x : Int), posS (l ++ [x]) = posS l + max x 0
  | [], x => by simp [posS]
  | y :: l, x => by rw [List.cons_append, posS, posS, posS_snoc l x]; omega
theorem msW_eq {w : World} {g : Nat} {lf : List Int} (h : ∀ k, k < lf.length → w.cell? ⟨g, k, none⟩ = some (.int .i64 (nth lf k))) : ∀ k, k ≤ lf.length → (msW w g k : Int) = posS (lf.take k)
  | 0, _ => by rw [List.take_zero]; rfl
  | k + 1, hk => by
    rw [msW, h k (by omega), List.take_succ_eq_append_getElem (show k < lf.length by omega), posS_snoc, Int.natCast_add, msW_eq h k (by omega), nth_eq (by omega)]
    show _ + ((lf[k].toNat : Nat) : Int) = _
    omega
theorem msW_full {w : World} {B g n c : Nat} {lf : List Int} (h : OwnI w B (.slice (some ⟨g, 0, none⟩) n c) lf) (hn : n = lf.length) : msW w g n = (posS lf).toNat := by
  have h1 := msW_eq (g := g) (fun k hk => h.at_ hn k hk) lf.length (Nat.le_refl _)
  rw [List.take_length] at h1
  subst hn
  omega
theorem TxW.far {w : World} {g : Nat} {ss : List ByteArray} (h : TxW w g ss) {c j : Nat} (v : Value) (hne : g ≠ c) : TxW (w.setCell ⟨c, j, none⟩ v) g ss :=
  ⟨by have := h.1; simpa [World.setCell] using this, fun k hk => (World.cell?_of_block (w := w) (Below.heap_setCell _ _ _ _ hne)).trans (h.2 k hk)⟩
theorem TxW.grown {w w' : World} {g : Nat} {ss : List ByteArray} {row : Option Nat} (h : TxW w g ss) (hg : w.grownBy w' row) (hne : some g ≠ row) : TxW w' g ss :=
  ⟨Nat.lt_of_lt_of_le h.1 hg.size, fun k hk => (World.cell?_of_block (w := w) (hg.block g h.1 hne)).trans (h.2 k hk)⟩
theorem TxW.alloc {w : World} {g : Nat} {ss : List ByteArray} (h : TxW w g ss) (o : Obj) : TxW (w.alloc o) g ss := h.grown (row := none) ⟨rfl, rfl, rfl, by simp, fun j hj _ => Below.heap_alloc _ _ _ hj⟩ (by simp)
/-- What GreedyCover answers. -/
def GrQ (al : List ByteArray) (ns : List Int) (n A : Nat) (e : Ending) (w' : World) : Prop :=
  e = .returned (.tuple #[.slice none 0 0, .slice none 0 0, .bool false]) ∨
  ∃ (tk : List Int) (gS cS gC cC m : Nat), e = .returned (.tuple #[.slice (some ⟨gS, 0, none⟩) m cS, .slice (some ⟨gC, 0, none⟩) m cC, .bool true]) ∧ m = (filS al tk).length ∧ OwnT w' A (.slice (some ⟨gS, 0, none⟩) m cS) (filS al tk) ∧ OwnI w' A (.slice (some ⟨gC, 0, none⟩) m cC) (filC al tk) ∧
    tk.length = al.length ∧ (∀ c ∈ tk, 0 ≤ c ∧ c ≤ 72) ∧ (∀ k, k < n → nth ns k ≤ covL al tk k)
/-- The outer loop. -/
def GrO (al : List ByteArray) (ns : List Int) (n gA gT gL cL La A : Nat) (w : World) (v : Value) (wr : World) : Prop :=
  ∃ tk lf, GrI al ns tk lf n ∧ OwnI wr A (.slice (some ⟨gT, 0, none⟩) La La) tk ∧ OwnI wr (gT + 1) (.slice (some ⟨gL, 0, none⟩) n cL) lf ∧ TxW wr gA al ∧ Below A w wr
/-- The best of the first i texts. -/
def GrB (al : List ByteArray) (lf : List Int) (n La : Nat) (w : World) (vb vm vi : Value) (wr : World) : Prop :=
  ∃ i : Nat, i ≤ La ∧ vi = .int .i64 i ∧ ((vb = .int .i64 (-1) ∧ vm = .int .i64 0) ∨ ∃ (b : Nat) (hb : b < al.length), vb = .int .i64 b ∧ vm = .int .i64 (gainS al[b] lf n : Nat) ∧ 0 < gainS al[b] lf n) ∧ wr = w
def GrG (t : ByteArray) (lf : List Int) (n : Nat) (w : World) (vg vj : Value) (wr : World) : Prop :=
  ∃ j : Nat, j ≤ n ∧ vj = .int .i64 j ∧ vg = .int .i64 (gainS t lf j : Nat) ∧ wr = w
def GrD (al : List ByteArray) (t : ByteArray) (tk lf : List Int) (n gA gT gL cL La A : Nat) (w : World) (vj : Value) (wr : World) : Prop :=
  ∃ j : Nat, j ≤ n ∧ vj = .int .i64 j ∧ OwnI wr A (.slice (some ⟨gT, 0, none⟩) La La) tk ∧ OwnI wr (gT + 1) (.slice (some ⟨gL, 0, none⟩) n cL) (dcN t lf j) ∧ TxW wr gA al ∧ Below A w wr
def GrE (al : List ByteArray) (tk : List Int) (gA gT La A : Nat) (w : World) (vs vc vi : Value) (wr : World) : Prop :=
  ∃ (i g1 c1 g2 c2 m : Nat), i ≤ La ∧ vi = .int .i64 i ∧ vs = .slice (some ⟨g1, 0, none⟩) m c1 ∧ vc = .slice (some ⟨g2, 0, none⟩) m c2 ∧ m = (filS (al.take i) (tk.take i)).length ∧ OwnT wr (gT + 1) (.slice (some ⟨g1, 0, none⟩) m c1) (filS (al.take i) (tk.take i)) ∧ OwnI wr (gT + 1) (.slice (some ⟨g2, 0, none⟩) m c2) (filC (al.take i) (tk.take i)) ∧ g1 ≠ g2 ∧
    OwnI wr A (.slice (some ⟨gT, 0, none⟩) La La) tk ∧ TxW wr gA al ∧ Below A w wr
set_option maxRecDepth 100000 in
set_option maxHeartbeats 1000000 in
theorem GreedyCover_any (r : ShR) (hr : r.Ok) (gn cn n : Nat) (ns : List Int) (w : World) (hn : n = r.slots.toNat) (hns : Ints w (.slice (some ⟨gn, 0, none⟩) n cn) ns) (hl : ns.length = n) (hb3 : ∀ x ∈ ns, 0 ≤ x ∧ x ≤ 3) :
    Calls Tryd.prog 15 #[shV r, .slice (some ⟨gn, 0, none⟩) n cn] w fun e w' => GrQ (allS r) ns n w.heap.size e w' ∧ Below w.heap.size w w' := by
  have hn24 : n ≤ 24 := by have := hr.2.1; omega
  have hn1 : 1 ≤ n := by have := hr.1; omega
  have hnN : (n : Int) = r.slots := by have := hr.1; omega
  have HVR : Hid (∀ W, Calls Tryd.prog 10 #[shV r] W fun e w' => e = .returned (.bool true) ∧ Below W.heap.size W w') := fun W => by
    have h := validRule_any r.slots r.least r.most r.row r.pause W
    rw [ruleOk_of hr] at h
    exact h
  have HAM : Hid (∀ W, Below w.heap.size w W → Calls Tryd.prog 27 #[.slice (some ⟨gn, 0, none⟩) n cn, .int .i64 r.slots, .int .i64 r.slots, .int .i64 0, .int .i64 100] W fun e w' => e = .returned (.bool true) ∧ W = w') := fun W hW => by
    have h := areMany_any (.slice (some ⟨gn, 0, none⟩) n cn) ns r.slots r.slots 0 100 W (hns.below hW (Nat.le_refl _))
    have e1 : many ns r.slots r.slots 0 100 = true := by
      rw [many_true]
      refine ⟨by omega, by omega, ?_⟩
      rw [List.all_eq_true]
      intro x hx
      have := hb3 x hx
      unfold win
      simp; omega
    rw [e1] at h
    exact h
  have HFS : Hid (∀ W, Calls Tryd.prog 7 #[shV r, .int .i64 64] W fun e w' => (∃ g c k, e = .returned (.tuple #[.slice (some ⟨g, 0, none⟩) k c, .bool true]) ∧ k = (allS r).length ∧ OwnT w' W.heap.size (.slice (some ⟨g, 0, none⟩) k c) (allS r)) ∧ Below W.heap.size W w') := fun W => by
    have h := FirstShifts_any r hr 64 (by omega) W
    have e1 : ((64 : Nat) : Int) = 64 := rfl
    rw [e1] at h
    exact h
  have HCLN : Hid (∀ W, Below w.heap.size w W → Calls Tryd.prog 28 #[.slice (some ⟨gn, 0, none⟩) n cn] W fun e w' => (∃ g c, e = .returned (.slice (some ⟨g, 0, none⟩) n c) ∧ OwnI w' W.heap.size (.slice (some ⟨g, 0, none⟩) n c) ns) ∧ Below W.heap.size W w') := fun W hW => by
    have h := clone_any (.slice (some ⟨gn, 0, none⟩) n cn) ns W (hns.below hW (Nat.le_refl _)) (by omega) (by omega)
    rw [hl] at h
    exact h
  have HAL := Lib.hid (allS_len r)
  have HAM2 : Hid (∀ t ∈ allS r, t.size = n) := fun t ht => by rw [hn]; exact (allS_mem ht).1
  obtain ⟨al, hal⟩ : ∃ al, allS r = al := ⟨_, rfl⟩
  rw [hal] at HFS HAL HAM2 ⊢
  have HNS := Lib.hid hb3
  have HLN := Lib.hid hl
  clear hr hns hb3 hl hal hn
  obtain ⟨N, L, M, R, P⟩ := r
  unfold shV at HVR HFS ⊢
  dsimp only at HVR HFS HAM hnN ⊢
  obtain ⟨A, hA⟩ : ∃ A, w.heap.size = A := ⟨_, rfl⟩
  have HA := Lib.hid hA
  rw [hA] at HAM HCLN ⊢
  have KR0 : Hid (Blk (w.alloc (.cells #[.int .i64 N, .int .i64 L, .int .i64 M, .int .i64 R, .int .i64 P] 25)) w.heap.size 25 [.int .i64 N, .int .i64 L, .int .i64 M, .int .i64 R, .int .i64 P]) := Blk.new w _ _
  have B0 : Hid (Below A w (w.alloc (.cells #[.int .i64 N, .int .i64 L, .int .i64 M, .int .i64 R, .int .i64 P] 25))) := (Below.refl _ w).alloc (by omega) _
  have HV1 := Lib.hid (HVR.out (w.alloc (.cells #[.int .i64 N, .int .i64 L, .int .i64 M, .int .i64 R, .int .i64 P] 25)))
  clear HVR hA
  go_enter Tryd.func15, Tryd.ntmps15
  go_wp2_with fail
  refine HV1.out.mono ?_
  rintro e W1 ⟨rfl, hb1⟩
  have B1 : Hid (Below A w W1) := B0.out.trans (hb1.mono (by have := HA.out; simp; omega))
  have KR1 := Lib.hid (KR0.out.below hb1 (by simp))
  have c0 := KR1.out.cell 0 _ rfl
  have c1 := KR1.out.cell 1 _ rfl
  have c2 := KR1.out.cell 2 _ rfl
  have c3 := KR1.out.cell 3 _ rfl
  have c4 := KR1.out.cell 4 _ rfl
  have HAM1 := Lib.hid (HAM.out W1 B1.out)
  have HFS1 := Lib.hid (HFS.out W1)
  clear hb1 HV1 KR0 B0 HAM HFS
  go_wp2_with fail
  refine HAM1.out.mono ?_
  rintro e W1' ⟨rfl, hw1⟩
  subst hw1
  clear HAM1
  go_wp2_with fail
  refine HFS1.out.mono ?_
  rintro e W2 ⟨⟨gA, cA, La, rfl, hLa, ho2⟩, hb2⟩
  have hs1 : A ≤ W1.heap.size := by have := B1.out.size; have := HA.out; omega
  have B2 : Hid (Below A w W2) := B1.out.trans (hb2.mono hs1)
  have T2 := Lib.hid (ho2.txw hLa)
  have hgA := ho2.lt gA rfl
  have hLa64 : La ≤ 64 := by have := HAL.out; omega
  have HLA := Lib.hid hLa
  clear hb2 ho2 HFS1 KR1 c0 c1 c2 c3 c4 B1 hLa
  have hmk := run_make_row' (P := Tryd.prog) 33 2 (.int .i64 0) 8 Tryd.underlying33 (by kernel_rfl) rfl .i64 .i64 La (by omega) (by omega)
  obtain ⟨W3, hW3⟩ : ∃ W, W2.alloc (.cells (madeCells #[.int .i64 0] La) 2) = W := ⟨_, rfl⟩
  have O3 : Hid (OwnI W3 A (.slice (some ⟨W2.heap.size, 0, none⟩) La La) (List.replicate La 0)) := by show OwnI _ _ _ _; rw [← hW3]; exact OwnI.made0 W2 A La (by omega) (by omega)
  have B3 : Hid (Below A w W3) := by show Below _ _ _; rw [← hW3]; exact B2.out.alloc (by omega) _
  have T3 : Hid (TxW W3 gA al) := by show TxW _ _ _; rw [← hW3]; exact T2.out.grown (row := none) ⟨rfl, rfl, rfl, by simp, fun j hj _ => Below.heap_alloc _ _ _ hj⟩ (by simp)
  have hs3 : W2.heap.size < W3.heap.size := by rw [← hW3]; simp
  have HC3 := Lib.hid (HCLN.out W3 B3.out)
  obtain ⟨gT, hgT⟩ : ∃ g, W2.heap.size = g := ⟨_, rfl⟩
  have HGT := Lib.hid hgT
  rw [hgT] at O3 hgA hs3
  have HW3 := Lib.hid hW3
  clear HCLN hW3 hgT B2 T2
  go_wp2_with fail
  rw [HW3.out]
  refine HC3.out.mono ?_
  rintro e W4 ⟨⟨gL, cL, rfl, ho4⟩, hb4⟩
  rw [HGT.out]
  have hs4 := hb4.size
  have hgL := ho4.lt gL rfl
  have HR0 : Hid (∀ v, GrO al ns n gA gT gL cL La A w v W4) := by
    intro v
    have h := GrI.start (al := al) HLN.out
    rw [← HLA.out] at h
    exact ⟨List.replicate La 0, ns, h, O3.out.below hb4 (Nat.le_refl _), ho4.mono (by omega), T3.out.below hb4 T3.out.1, B3.out.trans (hb4.mono (by have := B3.out.size; have := HA.out; omega))⟩
  have hAT : A ≤ gT ∧ gA < gT ∧ gT < gL := by omega
  clear ho4 hb4 HC3 O3 B3 T3 HW3 HGT hmk hs4 hgL hs3 hgA hs1
  go_wp2
  go_loopw [45] (fun v wr => GrO al ns n gA gT gL cL La A w v wr) (fun _ wr => msW wr gL n)
  case atStart => exact HR0.out _
  case round =>
    obtain ⟨tk, lf, hgi, hoT, hoL, htx, hbl⟩ := hrel
    have HGI := Lib.hid hgi
    have OT := Lib.hid hoT
    have OL := Lib.hid hoL
    have TX := Lib.hid htx
    have BL := Lib.hid hbl
    clear hgi hoT hoL htx hbl HR0
    have HMS := Lib.hid (msW_full OL.out (by rw [HGI.out.ll]))
    have HMX := Lib.hid (maxI_any (.slice (some ⟨gL, 0, none⟩) n cL) lf wr OL.out.ints (by rw [HGI.out.ll]; exact hn1) (by rw [HGI.out.ll]; omega))
    obtain ⟨MX, hMX⟩ : ∃ m, maxTo lf (lf.length - 1) = m := ⟨_, rfl⟩
    rw [hMX] at HMX
    have HMXE := Lib.hid hMX
    have HSMALL := Lib.hid (HGI.out.small HAL.out HNS.out HLN.out hn24)
    clear hMX
    go_wp2_with fail
    refine HMX.out.mono ?_
    rintro e w1 ⟨rfl, rfl⟩
    clear HMX
    by_cases hgt : MX > 0
    · go_wp2
      have HB0 : Hid (GrB al lf n La wr (.int .i64 (-1)) (.int .i64 0) (.int .i64 0) wr) := ⟨0, Nat.zero_le _, rfl, .inl ⟨rfl, rfl⟩, rfl⟩
      go_loopw [11, 12, 50] (fun vb vm vi wj => GrB al lf n La wr vb vm vi wj) (fun _ _ vi _ => La - (intOf vi).toNat)
      case atStart => exact HB0.out
      case round =>
        obtain ⟨i, hi, rfl, hbm, rfl⟩ := hrel
        have HBM := Lib.hid hbm
        clear hbm HB0
        by_cases hlt : i < La
        · have i0 : (0 : Int) ≤ (i : Int) := by omega
          have i1 : (i : Int) < (La : Int) := by omega
          have hia : i < al.length := by rw [← HLA.out]; exact hlt
          have ct := TX.out.2 i hia
          have hts := HAM2 al[i] (List.getElem_mem hia)
          obtain ⟨t, hT⟩ : ∃ t, al[i] = t := ⟨_, rfl⟩
          rw [hT] at ct hts
          have HT := Lib.hid hT
          clear hT
          have HG0 : Hid (GrG t lf n wr (.int .i64 0) (.int .i64 0) wr) := ⟨0, Nat.zero_le _, rfl, rfl, rfl⟩
          go_wp2
          go_loopw [15, 57] (fun vg vj wj => GrG t lf n wr vg vj wj) (fun _ vj _ => n - (intOf vj).toNat)
          case atStart => exact HG0.out
          case round =>
            obtain ⟨j, hj, rfl, rfl, rfl⟩ := hrel
            clear HG0
            have hgn := gainS_le t lf j
            by_cases hjn : j < n
            · have j0 : (0 : Int) ≤ (j : Int) := by omega
              have j1 : (j : Int) < (n : Int) := by omega
              have j2 : (j : Int) < (t.size : Int) := by omega
              have j3 : j < t.size := by omega
              have cl := OL.out.at_ (by rw [HGI.out.ll]) j (by rw [HGI.out.ll]; exact hjn)
              have HW := Lib.hid (isW_at j3)
              have HGS : Hid (gainS t lf (j + 1) = gainS t lf j + (if 0 < nth lf j ∧ isW t j = true then 1 else 0)) := rfl
              obtain ⟨X, hX⟩ : ∃ X, nth lf j = X := ⟨_, rfl⟩
              rw [hX] at cl HGS
              clear hX
              obtain ⟨G, hG⟩ : ∃ G, gainS t lf j = G := ⟨_, rfl⟩
              rw [hG] at HGS hgn ⊢
              clear hG
              have w1 : IntKind.i64.wrap ((G : Int) + 1) = (G : Int) + 1 := IntWalk.i64_in _ (by omega)
              by_cases hx : X > 0
              · by_cases h119 : t[j].toNat = 119
                · have q1 : ((t[j].toNat : Int) == 119) = true := by rw [beq_iff_eq]; omega
                  have HGS1 : Hid (gainS t lf (j + 1) = G + 1) := by
                    show _ = _
                    rw [HGS.out, HW.out, if_pos ⟨hx, by simp; omega⟩]
                  clear HGS HW h119
                  go_wp2
                  go_roundw
                  case rel => exact ⟨j + 1, by omega, by go_num, by rw [HGS1.out]; go_num, rfl⟩
                  case measure => simp [intOf]; omega
                · have q1 : ((t[j].toNat : Int) == 119) = false := by rw [beq_eq_false_iff_ne]; omega
                  have HGS1 : Hid (gainS t lf (j + 1) = G) := by
                    show _ = _
                    rw [HGS.out, HW.out, if_neg (by rintro ⟨_, h⟩; simp at h; omega)]
                    rfl
                  clear HGS HW h119
                  go_wp2
                  go_roundw
                  case rel => exact ⟨j + 1, by omega, by go_num, by rw [HGS1.out], rfl⟩
                  case measure => simp [intOf]; omega
              · have HGS1 : Hid (gainS t lf (j + 1) = G) := by
                  show _ = _
                  rw [HGS.out, if_neg (by rintro ⟨h, _⟩; omega)]
                  rfl
                clear HGS HW
                go_wp2
                go_roundw
                case rel => exact ⟨j + 1, by omega, by go_num, by rw [HGS1.out], rfl⟩
                case measure => simp [intOf]; omega
            · obtain rfl : j = n := by omega
              obtain ⟨G, hG⟩ : ∃ G, gainS t lf j = G := ⟨_, rfl⟩
              have HG := Lib.hid hG
              rw [hG] at hgn ⊢
              clear hG
              rcases HBM.out with ⟨rfl, rfl⟩ | ⟨b, hb, rfl, rfl, hb0⟩
              · by_cases hG0 : (G : Int) > 0
                · have HNEW : Hid (gainS al[i] lf j = G ∧ 0 < G) := ⟨by rw [HT.out]; exact HG.out, by omega⟩
                  go_wp2
                  go_roundw
                  case rel => exact ⟨i + 1, by omega, by go_num, .inr ⟨i, hia, rfl, by rw [HNEW.out.1], by rw [HNEW.out.1]; exact HNEW.out.2⟩, rfl⟩
                  case measure => simp [intOf]; omega
                · go_wp2
                  go_roundw
                  case rel => exact ⟨i + 1, by omega, by go_num, .inl ⟨rfl, rfl⟩, rfl⟩
                  case measure => simp [intOf]; omega
              · have HB0 := Lib.hid hb0
                obtain ⟨GB, hGB⟩ : ∃ g, gainS al[b] lf j = g := ⟨_, rfl⟩
                have HGB := Lib.hid hGB
                rw [hGB]
                clear hGB hb0
                by_cases hG0 : (G : Int) > (GB : Int)
                · have HNEW : Hid (gainS al[i] lf j = G ∧ 0 < G) := ⟨by rw [HT.out]; exact HG.out, by omega⟩
                  go_wp2
                  go_roundw
                  case rel => exact ⟨i + 1, by omega, by go_num, .inr ⟨i, hia, rfl, by rw [HNEW.out.1], by rw [HNEW.out.1]; exact HNEW.out.2⟩, rfl⟩
                  case measure => simp [intOf]; omega
                · go_wp2
                  go_roundw
                  case rel => exact ⟨i + 1, by omega, by go_num, .inr ⟨b, hb, rfl, by rw [HGB.out], HB0.out⟩, rfl⟩
                  case measure => simp [intOf]; omega
        · obtain rfl : La = i := by omega
          rcases HBM.out with ⟨rfl, rfl⟩ | ⟨b, hb, rfl, rfl, hb0⟩
          · clear HGI OT OL TX
            go_wp2
            go_ret3
            exact ⟨.inl rfl, BL.out⟩
          · have HST := Lib.hid (HGI.out.step b hb hb0)
            have htlen : La = tk.length := by rw [HGI.out.tl]; exact HLA.out
            have hbt : b < tk.length := by rw [HGI.out.tl]; exact hb
            obtain ⟨hc1, hf1, ho1, _⟩ := OT.out.store htlen b hbt (nth tk b + 1)
            rw [← nth_eq] at hc1
            have hbnd := HSMALL.out.1 (nth tk b) (by rw [nth_eq hbt]; exact List.getElem_mem _)
            obtain ⟨TK, hTK⟩ : ∃ T, tk.set b (nth tk b + 1) = T := ⟨_, rfl⟩
            rw [hTK] at ho1 HST
            obtain ⟨X, hX⟩ : ∃ X, nth tk b = X := ⟨_, rfl⟩
            rw [hX] at hc1 hbnd ho1
            have b0 : (0 : Int) ≤ (b : Int) := by omega
            have b1 : (b : Int) < (La : Int) := by omega
            have b2 : ¬ ((b : Int) < 0) := by omega
            have w1 : IntKind.i64.wrap (X + 1) = X + 1 := IntWalk.i64_in _ (by omega)
            have hneL : (Value.slice (some ⟨gL, 0, none⟩) n cL).ownBlock ≠ some gT := by
              show some gL ≠ some gT
              intro e; injection e with e; omega
            obtain ⟨W5, hW5⟩ : ∃ W, wr.setCell ⟨gT, b, none⟩ (.int .i64 (X + 1)) = W := ⟨_, rfl⟩
            have OT5 : Hid (OwnI W5 A (.slice (some ⟨gT, 0, none⟩) La La) TK) := by show OwnI _ _ _ _; rw [← hW5]; exact ho1
            have OL5 : Hid (OwnI W5 (gT + 1) (.slice (some ⟨gL, 0, none⟩) n cL) lf) := by show OwnI _ _ _ _; rw [← hW5]; exact OL.out.setCell _ hneL
            have TX5 : Hid (TxW W5 gA al) := by show TxW _ _ _; rw [← hW5]; exact TX.out.far _ (by omega)
            have BL5 : Hid (Below A w W5) := by show Below _ _ _; rw [← hW5]; exact BL.out.setCell (by show A ≤ gT; omega) _
            obtain ⟨t, hT⟩ : ∃ t, al[b] = t := ⟨_, rfl⟩
            rw [hT] at HST
            have HT := Lib.hid hT
            have hts := HAM2 al[b] (List.getElem_mem hb)
            rw [hT] at hts
            have HTS := Lib.hid hts
            have hD0 : GrD al t TK lf n gA gT gL cL La A w (.int .i64 0) W5 := ⟨0, Nat.zero_le _, rfl, OT5.out, by rw [dcN_zero]; exact OL5.out, TX5.out, BL5.out⟩
            have HD0 := Lib.hid hD0
            have HW5 := Lib.hid hW5
            have HLL := Lib.hid HGI.out.ll
            have HMP := Lib.hid (posS_nonneg lf)
            clear htlen hbt hts hT hD0 ho1 hTK hX hb0 OT OL TX BL OT5 OL5 TX5 BL5 HGI HBM hW5 HMXE
            go_wp2
            rw [HW5.out]
            go_loopw [89] (fun vj wj => GrD al t TK lf n gA gT gL cL La A w vj wj) (fun vj _ => n - (intOf vj).toNat)
            case atStart => exact HD0.out
            case round =>
              obtain ⟨j, hj, rfl, hoT, hoL, htx, hbl⟩ := hrel
              have OT := Lib.hid hoT
              have OL := Lib.hid hoL
              have TX := Lib.hid htx
              have BL := Lib.hid hbl
              clear hoT hoL htx hbl HD0 hc1 hf1
              by_cases hjn : j < n
              · have j0 : (0 : Int) ≤ (j : Int) := by omega
                have j1 : (j : Int) < (n : Int) := by omega
                have j2 : (j : Int) < (t.size : Int) := by have := HTS.out; omega
                have j3 : j < t.size := by have := HTS.out; omega
                have ct := TX.out.2 b hb
                rw [HT.out] at ct
                have HW := Lib.hid (isW_at j3)
                have hjl : j < lf.length := by rw [HLL.out]; exact hjn
                have hjd : j < (dcN t lf j).length := by rw [dcN_len]; exact hjl
                have hbnd2 := HSMALL.out.2.1 j hjn
                by_cases h119 : t[j].toNat = 119
                · have q1 : ((t[j].toNat : Int) == 119) = true := by rw [beq_iff_eq]; omega
                  have hw : isW t j = true := by rw [HW.out]; simp; omega
                  obtain ⟨hc2, hf2, ho2, _⟩ := OL.out.store (by rw [dcN_len, HLL.out]) j hjd (nth lf j - 1)
                  rw [← nth_eq, dcN_at hjl, if_neg (Nat.lt_irrefl _)] at hc2
                  rw [dcN_set hjl hw] at ho2
                  obtain ⟨Y, hY⟩ : ∃ Y, nth lf j = Y := ⟨_, rfl⟩
                  rw [hY] at hc2 ho2 hbnd2
                  have w2 : IntKind.i64.wrap (Y - 1) = Y - 1 := IntWalk.i64_in _ (by omega)
                  have hneT : (Value.slice (some ⟨gT, 0, none⟩) La La).ownBlock ≠ some gL := by
                    show some gT ≠ some gL
                    intro e; injection e with e; omega
                  have HN : Hid (OwnI (wr.setCell ⟨gL, j, none⟩ (.int .i64 (Y - 1))) A (.slice (some ⟨gT, 0, none⟩) La La) TK ∧ OwnI (wr.setCell ⟨gL, j, none⟩ (.int .i64 (Y - 1))) (gT + 1) (.slice (some ⟨gL, 0, none⟩) n cL) (dcN t lf (j + 1)) ∧ TxW (wr.setCell ⟨gL, j, none⟩ (.int .i64 (Y - 1))) gA al ∧ Below A w (wr.setCell ⟨gL, j, none⟩ (.int .i64 (Y - 1)))) :=
                    ⟨OT.out.setCell _ hneT, ho2, TX.out.far _ (by omega), BL.out.setCell (by show A ≤ gL; omega) _⟩
                  clear ho2 hY OT OL TX BL HW h119 hw hneT
                  go_wp2
                  go_roundw
                  case rel => exact ⟨j + 1, by omega, by go_num, HN.out.1, HN.out.2.1, HN.out.2.2.1, HN.out.2.2.2⟩
                  case measure => simp [intOf]; omega
                · have q1 : ((t[j].toNat : Int) == 119) = false := by rw [beq_eq_false_iff_ne]; omega
                  have hw : isW t j = false := by rw [HW.out]; simp; omega
                  have HSM : Hid (dcN t lf j = dcN t lf (j + 1)) := dcN_same hjl hw
                  rw [HSM.out] at OL
                  clear HW h119 hw
                  go_wp2
                  go_roundw
                  case rel => exact ⟨j + 1, by omega, by go_num, OT.out, OL.out, TX.out, BL.out⟩
                  case measure => simp [intOf]; omega
              · obtain rfl : n = j := by omega
                have HFU : Hid (dcN t lf n = decL t lf 0) := by show _ = _; rw [← HLL.out]; exact dcN_full t lf
                rw [HFU.out] at OL
                have HLE : Hid (msW wr gL n < (posS lf).toNat) := by
                  show _ < _
                  rw [msW_full OL.out (by rw [decL_length, HLL.out])]
                  have h1 := HST.out.2
                  have h2 := posS_nonneg (decL t lf 0)
                  omega
                have HGN := Lib.hid HST.out.1
                clear HFU HST HSMALL
                go_wp2
                go_roundw
                case rel => exact ⟨TK, decL t lf 0, HGN.out, OT.out, OL.out, TX.out, BL.out⟩
                case measure => rw [HMS.out]; exact HLE.out
    · have HFIN : Hid (∀ k, k < n → nth ns k ≤ covL al tk k) := fun k hk => by
        have h1 := max_none (lf := lf) (by rw [HGI.out.ll]; exact hn1) (by rw [HMXE.out]; exact hgt) k (by rw [HGI.out.ll]; exact hk)
        have h2 := HGI.out.sum k hk
        omega
      have HTB := Lib.hid HSMALL.out.1
      have HTL : Hid (tk.length = al.length) := HGI.out.tl
      have hzw : A ≤ wr.heap.size := by have := BL.out.size; have := HA.out; omega
      have hgTl := (OT.out.lt gT rfl).2
      obtain ⟨g1, hg1⟩ : ∃ g, wr.heap.size = g := ⟨_, rfl⟩
      obtain ⟨W7, hW7⟩ : ∃ W, (wr.alloc (.cells #[] 9)).alloc (.cells #[] 2) = W := ⟨_, rfl⟩
      have HE0 : Hid (GrE al tk gA gT La A w (.slice (some ⟨g1, 0, none⟩) 0 0) (.slice (some ⟨g1 + 1, 0, none⟩) 0 0) (.int .i64 0) W7) := by
        show GrE _ _ _ _ _ _ _ _ _ _ _
        have h0 : filS (al.take 0) (tk.take 0) = [] := by rw [List.take_zero]; simp [filS]
        have h0c : filC (al.take 0) (tk.take 0) = [] := by rw [List.take_zero]; simp [filC]
        have e1 := (OwnT.lit wr (gT + 1) [] (by omega) (by unfold maxLen; simp)).alloc (.cells #[] 2)
        have e2 := OwnI.lit (wr.alloc (.cells #[] 9)) (gT + 1) [] (by simp; omega) (by unfold maxLen; simp)
        have hsz2 : (wr.alloc (.cells #[] 9)).heap.size = g1 + 1 := by simp; omega
        rw [hg1] at e1
        rw [hsz2] at e2
        refine ⟨0, g1, 0, g1 + 1, 0, 0, Nat.zero_le _, rfl, rfl, rfl, by rw [h0]; rfl, ?_, ?_, by omega, ?_, ?_, ?_⟩
        · rw [h0, ← hW7]; exact e1
        · rw [h0c, ← hW7]; exact e2
        · rw [← hW7]; exact (OT.out.alloc _).alloc _
        · rw [← hW7]
          exact (TX.out.alloc _).alloc _
        · rw [← hW7]; exact (BL.out.alloc hzw _).alloc (by simp; omega) _
      have HW7 := Lib.hid hW7
      have HG1 := Lib.hid hg1
      clear hW7 hg1 HGI OT OL TX BL HMXE HMS HSMALL hgTl hzw
      go_wp2
      rw [HW7.out, HG1.out]
      clear HW7 HG1
      go_loopw [19, 20, 110] (fun vs vc vi wj => GrE al tk gA gT La A w vs vc vi wj) (fun _ _ vi _ => La - (intOf vi).toNat)
      case atStart => exact HE0.out
      case round =>
        obtain ⟨i, g1, c1, g2, c2, m, hi, rfl, rfl, rfl, hm, hoS, hoC, hne, hoT, htx, hbl⟩ := hrel
        have OS := Lib.hid hoS
        have OC := Lib.hid hoC
        have OT := Lib.hid hoT
        have TX := Lib.hid htx
        have BL := Lib.hid hbl
        have HM := Lib.hid hm
        clear hoS hoC hoT htx hbl hm HE0
        by_cases hlt : i < La
        · have i0 : (0 : Int) ≤ (i : Int) := by omega
          have i1 : (i : Int) < (La : Int) := by omega
          have hia : i < al.length := by rw [← HLA.out]; exact hlt
          have hit : i < tk.length := by rw [HTL.out]; exact hia
          have ct := OT.out.at_ (by rw [HTL.out]; exact HLA.out) i hit
          have cx := TX.out.2 i hia
          obtain ⟨hf1, hf2⟩ := fil_snoc (al.take i) (tk.take i) al[i] tk[i] (by rw [List.length_take, List.length_take]; omega)
          rw [← List.take_succ_eq_append_getElem hia, ← List.take_succ_eq_append_getElem hit] at hf1 hf2
          rw [← nth_eq hit] at hf1 hf2
          have HF1 := Lib.hid hf1
          have HF2 := Lib.hid hf2
          obtain ⟨X, hX⟩ : ∃ X, nth tk i = X := ⟨_, rfl⟩
          rw [hX] at ct HF1 HF2
          obtain ⟨t, hT⟩ : ∃ t, al[i] = t := ⟨_, rfl⟩
          rw [hT] at cx HF1
          clear hX hT hf1 hf2
          by_cases hx : X > 0
          · have hgs := OS.out.lt g1 rfl
            have hgc := OC.out.lt g2 rfl
            have hw : gT + 1 ≤ wr.heap.size := by omega
            obtain ⟨fs, hfs⟩ : ∃ f, filS (al.take i) (tk.take i) = f := ⟨_, rfl⟩
            obtain ⟨fc, hfc⟩ : ∃ f, filC (al.take i) (tk.take i) = f := ⟨_, rfl⟩
            have hlen2 : fc.length = m := by rw [← hfc, ← fil_len, HM.out]
            have hlen1 : fs.length = m := by rw [HM.out, hfs]
            have hm64 : m ≤ 64 := by
              have h1 := filS_len (al.take i) (tk.take i)
              rw [List.length_take] at h1
              rw [HM.out]; omega
            rw [hfs] at OS HF1
            rw [hfc] at OC HF2
            have HL1 := Lib.hid hlen1
            have HL2 := Lib.hid hlen2
            have HE1 : Hid (filS (al.take (i + 1)) (tk.take (i + 1)) = fs ++ [t]) := by show _ = _; rw [HF1.out, if_pos hx]
            have HE2 : Hid (filC (al.take (i + 1)) (tk.take (i + 1)) = fc ++ [X]) := by show _ = _; rw [HF2.out, if_pos hx]
            have hne2 : (Value.slice (some ⟨g2, 0, none⟩) m c2).ownBlock ≠ some g1 := by
              show some g2 ≠ some g1
              intro e; injection e with e; exact hne e.symm
            have hneT1 : (Value.slice (some ⟨gT, 0, none⟩) La La).ownBlock ≠ some g1 := by
              show some gT ≠ some g1
              intro e; injection e with e; omega
            have hneT2 : (Value.slice (some ⟨gT, 0, none⟩) La La).ownBlock ≠ some g2 := by
              show some gT ≠ some g2
              intro e; injection e with e; omega
            clear hfs hfc hlen1 hlen2 HF1 HF2 HM hit
            go_wp2_with (first
              | (at_builtin; refine append_tL rfl _ _ rfl (gT + 1) (.slice (some ⟨g1, 0, none⟩) m c1) fs [t] (Nat.zero_lt_succ _) rfl _ rfl OS.out hw (by rw [HL1.out]; simp only [List.length_singleton]; omega) ?_; intro g3 c3 w5 ho3 hg3 hl3; have HA3 := Lib.hid (And.intro ho3 (And.intro hg3 hl3)); have OC5 := Lib.hid (OC.out.kept (row := some g1) hg3 (.inr hne2)); have hw5 : gT + 1 ≤ w5.heap.size := Nat.le_trans hw hg3.size; simp only [HL1.out, List.length_singleton] at HA3 ⊢; clear ho3 hg3 hl3)
              | (at_builtin; refine append_i64L rfl _ _ rfl (gT + 1) (.slice (some ⟨g2, 0, none⟩) m c2) fc [X] (Nat.zero_lt_succ _) rfl _ rfl OC5.out hw5 (by rw [HL2.out]; simp only [List.length_singleton]; omega) ?_; intro g4 c4 w6 ho4 hg4 hl4; have HA4 := Lib.hid (And.intro ho4 (And.intro hg4 hl4)); simp only [HL2.out, List.length_singleton] at HA4 ⊢; clear ho4 hg4 hl4))
            go_roundw
            case rel =>
              obtain ⟨ho3, hg3, hl3⟩ := HA3.out
              obtain ⟨ho4, hg4, hl4⟩ := HA4.out
              have hg3 : wr.grownBy w5 (some g1) := hg3
              have hg4 : w5.grownBy w6 (some g2) := hg4
              have hl3 : some g1 = some g3 ∨ wr.heap.size ≤ g3 := hl3
              have hl4 : some g2 = some g4 ∨ w5.heap.size ≤ g4 := hl4
              have hg3l := ho3.lt g3 rfl
              have hs5 := hg3.size
              have hne32 : g3 ≠ g2 := by
                rcases hl3 with h | h
                · injection h with h; omega
                · omega
              have hne34 : g3 ≠ g4 := by
                rcases hl4 with h | h
                · injection h with h; omega
                · omega
              have hOS6 : OwnT w6 (gT + 1) (.slice (some ⟨g3, 0, none⟩) (m + 1) c3) (fs ++ [t]) := ho3.kept hg4 (.inr (by show some g3 ≠ some g2; intro e; injection e with e; exact hne32 e))
              have hBL : ∀ j, j < A → w6.heap[j]? = w.heap[j]? := fun j hj => by
                have h1 := BL.out.size
                have h2 := HA.out
                rw [hg4.block j (by omega) (by intro e; injection e with e; omega), hg3.block j (by omega) (by intro e; injection e with e; omega), BL.out.block j hj]
              refine ⟨i + 1, g3, c3, g4, c4, m + 1, by omega, by go_num, rfl, rfl, by rw [HE1.out, List.length_append, HL1.out]; rfl, by rw [HE1.out]; exact hOS6, by rw [HE2.out]; exact ho4, hne34, (OT.out.kept hg3 (.inr hneT1)).kept hg4 (.inr hneT2), (TX.out.grown hg3 (by intro e; injection e with e; omega)).grown hg4 (by intro e; injection e with e; omega), ⟨hg4.os.trans (hg3.os.trans BL.out.os), hg4.tape.trans (hg3.tape.trans BL.out.tape), hg4.output.trans (hg3.output.trans BL.out.output), Nat.le_trans BL.out.size (Nat.le_trans hg3.size hg4.size), hBL⟩⟩
            case measure => simp [intOf]; omega
          · have HE1 : Hid (filS (al.take (i + 1)) (tk.take (i + 1)) = filS (al.take i) (tk.take i)) := by show _ = _; rw [HF1.out, if_neg hx, List.append_nil]
            have HE2 : Hid (filC (al.take (i + 1)) (tk.take (i + 1)) = filC (al.take i) (tk.take i)) := by show _ = _; rw [HF2.out, if_neg hx, List.append_nil]
            clear HF1 HF2 hit
            go_wp2
            go_roundw
            case rel => exact ⟨i + 1, g1, c1, g2, c2, m, by omega, by go_num, rfl, rfl, by rw [HE1.out]; exact HM.out, by rw [HE1.out]; exact OS.out, by rw [HE2.out]; exact OC.out, hne, OT.out, TX.out, BL.out⟩
            case measure => simp [intOf]; omega
        · obtain rfl : La = i := by omega
          have hta : al.take La = al := by rw [HLA.out, List.take_length]
          have htt : tk.take La = tk := by rw [HLA.out, ← HTL.out, List.take_length]
          rw [hta, htt] at HM OS OC
          have hgTA : A ≤ gT + 1 := by omega
          have hOS : OwnT wr A (.slice (some ⟨g1, 0, none⟩) m c1) (filS al tk) := OS.out.mono hgTA
          have hOC : OwnI wr A (.slice (some ⟨g2, 0, none⟩) m c2) (filC al tk) := OC.out.mono hgTA
          have HRES := Lib.hid (And.intro hOS hOC)
          clear hta htt hOS hOC OS OC
          go_wp2
          go_ret3
          exact ⟨.inr ⟨tk, g1, c1, g2, c2, m, rfl, HM.out, HRES.out.1, HRES.out.2, HTL.out, HTB.out, HFIN.out⟩, BL.out⟩
end Go.Proofs.YtbocedlldaeanaaDoor
