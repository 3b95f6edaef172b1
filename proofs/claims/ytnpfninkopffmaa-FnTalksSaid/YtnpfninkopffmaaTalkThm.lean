
/- Rooms are as many as there are talks at once; the greedy talks are as many as any that do not meet. The plain law. Conditions: valid talks. -/
import Derived.Test.YtnpfninkopffmaaRoomP
import Derived.Test.YtnpfninkopffmaaAtOnce
import Derived.Test.YtnpfninkopffmaaWorthPlain
namespace Go.Proofs.Ytnpfninkopffmaa
open Go.RowKit
set_option linter.unusedVariables false
set_option linter.unusedSimpArgs false

/-! Counting. -/
theorem len_sub {α : Type} [DecidableEq α] : ∀ {l m : List α}, l.Pairwise (fun x y => x ≠ y) → (∀ x ∈ l, x ∈ m) → l.length ≤ m.length
  | [], _, _, _ => Nat.zero_le _
  | a :: l, m, h, hs => by
    have hp := List.pairwise_cons.1 h
    have ha := hs a (List.mem_cons_self ..)
    have := len_sub (m := m.erase a) hp.2 (fun x hx => (List.mem_erase_of_ne (Ne.symm (hp.1 x hx))).2 (hs x (List.mem_cons_of_mem _ hx)))
    rw [List.length_erase_of_mem ha] at this
    have := List.length_pos_of_mem ha
    simp; omega
theorem len_map {α β : Type} [DecidableEq β] {l : List α} {m : List β} (f : α → β) (h : l.Pairwise (fun x y => x ≠ y)) (hi : ∀ x ∈ l, ∀ y ∈ l, f x = f y → x = y) (hm : ∀ x ∈ l, f x ∈ m) : l.length ≤ m.length := by
  rw [← List.length_map f]
  refine len_sub ?_ (fun y hy => by obtain ⟨x, hx, rfl⟩ := List.mem_map.1 hy; exact hm x hx)
  rw [List.pairwise_map]
  exact h.imp_of_mem fun hx hy hne e => hne (hi _ hx _ hy e)
theorem range_pair (n : Nat) : (List.range n).Pairwise fun x y => x ≠ y := List.nodup_range

/-! The time at which most talks are on. -/
theorem mostTo_spec (xs : List Int) : ∀ m, (∀ j, j < m → (cntAt xs (nth xs (2 * j)) (xs.length / 2) : Int) ≤ (mostTo xs m).1) ∧ (0 ≤ (mostTo xs m).1) ∧ ((mostTo xs m).1 = 0 ∨ (mostTo xs m).1 = (cntAt xs (mostTo xs m).2 (xs.length / 2) : Int))
  | 0 => ⟨fun j h => absurd h (Nat.not_lt_zero _), Int.le_refl _, .inl rfl⟩
  | m + 1 => by
    obtain ⟨h1, h2, h3⟩ := mostTo_spec xs m
    rw [mostTo_succ]
    unfold mostStep
    by_cases hm : more (mostTo xs m) (cntAt xs (nth xs (2 * m)) (xs.length / 2)) (nth xs (2 * m)) = true
    · rw [if_pos hm]
      have h4 : (mostTo xs m).1 ≤ (cntAt xs (nth xs (2 * m)) (xs.length / 2) : Int) := by
        simp only [more, Bool.or_eq_true, Bool.and_eq_true, decide_eq_true_eq, beq_iff_eq] at hm
        omega
      refine ⟨fun j hj => ?_, by simp only; omega, .inr rfl⟩
      by_cases e : j = m
      · subst e; exact Int.le_refl _
      · exact Int.le_trans (h1 j (by omega)) h4
    · rw [if_neg hm]
      refine ⟨fun j hj => ?_, h2, h3⟩
      by_cases e : j = m
      · subst e
        simp only [more, Bool.or_eq_true, decide_eq_true_eq] at hm
        omega
      · exact h1 j (by omega)

/-! Rooms. -/
theorem roomF_clash {xs out : List Int} {n i : Nat} : ∀ (f : Nat) (r s : Int), r ≤ s → s < roomF xs out n i f r → clashR xs out n i s = true
  | 0, r, s, h1, h2 => by unfold roomF at h2; omega
  | f + 1, r, s, h1, h2 => by
    unfold roomF at h2
    by_cases hc : clashR xs out n i r = true
    · rw [if_pos hc] at h2
      by_cases e : s = r
      · rw [e]; exact hc
      · exact roomF_clash f (r + 1) s (by omega) h2
    · rw [if_neg hc] at h2; omega
theorem roomF_free {xs out : List Int} {n i : Nat} (hr : ∀ k, k < n → nth out k < (n : Int)) : ∀ (f : Nat) (r : Int), (n : Int) ≤ r + f → clashR xs out n i (roomF xs out n i f r) = false
  | 0, r, h => by
    unfold roomF
    cases hc : clashR xs out n i r
    · rfl
    · obtain ⟨k, hk, he⟩ := clash_hit hc
      have := hr k hk; omega
  | f + 1, r, h => by
    unfold roomF
    by_cases hc : clashR xs out n i r = true
    · rw [if_pos hc]; exact roomF_free hr f (r + 1) (by omega)
    · rw [if_neg hc]; simpa using hc
theorem clash_meet {xs out : List Int} {n i : Nat} {r : Int} (h : clashR xs out n i r = true) : ∃ k, k < n ∧ nth out k = r ∧ meetB xs i k = true := by
  unfold clashR at h
  rw [List.any_eq_true] at h
  obtain ⟨k, hk, h⟩ := h
  rw [Bool.and_eq_true, beq_iff_eq] at h
  have := idL_mem.1 hk
  exact ⟨k.toNat, by omega, h.1, h.2⟩
theorem clash_none {xs out : List Int} {n i : Nat} {r : Int} (h : clashR xs out n i r = false) {k : Nat} (hk : k < n) (he : nth out k = r) : meetB xs i k = false := by
  cases hm : meetB xs i k
  · rfl
  · exfalso
    have : clashR xs out n i r = true := by
      unfold clashR
      rw [List.any_eq_true]
      exact ⟨(k : Int), idL_mem.2 ⟨by omega, by omega⟩, by rw [Int.toNat_natCast, he, hm]; simp⟩
    rw [this] at h; cases h
/-- What is known of the rooms given so far: those below are taken at that time; no two that meet share one. -/
structure RoomsTh (xs : List Int) (n : Nat) (out : List Int) : Prop where
  low : ∀ k, k < n → ∀ r, 0 ≤ r → r < nth out k → ∃ j, j < n ∧ nth out j = r ∧ onAt xs (nth xs (2 * k)) j = true
  apart : ∀ j k, j < n → k < n → j ≠ k → 0 ≤ nth out j → nth out j = nth out k → meetB xs j k = false
theorem rooms_th (xs : List Int) (n : Nat) : ∀ t, t ≤ n → RoomsTh xs n (roomsTo xs n t)
  | 0, _ => by
    have e : roomsTo xs n 0 = noneL n := rfl
    rw [e]
    refine ⟨fun k hk r h0 h1 => ?_, fun j k hj hk _ h0 _ => ?_⟩
    · rw [nth_replicate hk] at h1; omega
    · rw [nth_replicate hj] at h0; omega
  | t + 1, ht => by
    have ih := rooms_th xs n t (by omega)
    have hr := rooms_ok xs n t (by omega)
    obtain ⟨x, suf, h1, h2, h3, h4, h5⟩ := sortsL_at (key := begOf xs) (show t < n by omega)
    have hnew : nth (roomsTo xs n t) x.toNat < 0 := by
      have h6 := hr.free x.toNat (by omega)
      rw [show ((x.toNat : Nat) : Int) = x by omega] at h6
      refine h6.2 ?_
      have := sortsL_new (key := begOf xs) (show t < n by omega)
      rwa [h3] at this
    have hold : ∀ k, k < n → 0 ≤ nth (roomsTo xs n t) k → nth xs (2 * k) ≤ nth xs (2 * x.toNat) := fun k hk h0 => by
      have h6 := hr.free k hk
      have hin : (k : Int) ∈ (sortsL (begOf xs) n).take t := Classical.byContradiction fun hc => by have := h6.2 hc; omega
      obtain ⟨p, hp, he⟩ := List.getElem_of_mem hin
      rw [List.length_take] at hp
      rw [List.getElem_take] at he
      have hl := sortsL_len (begOf xs) n
      have hs := (sortsL_ok (begOf xs) n).2 p t (Nat.zero_le _) (by omega) (by omega)
      rw [nth_eq (by omega), he, h3] at hs
      unfold lexLt begOf at hs
      rw [Int.toNat_natCast] at hs
      omega
    rw [roomsTo_succ (by omega), h3]
    obtain ⟨out, ho⟩ : ∃ out, roomsTo xs n t = out := ⟨_, rfl⟩
    rw [ho] at ih hr hnew hold ⊢
    have hhi : ∀ k, k < n → nth out k < (n : Int) := fun k hk => by have := hr.hi k hk; omega
    have hfree := roomF_free (xs := xs) (i := x.toNat) hhi n 0 (by omega)
    have hlow := fun s a b => roomF_clash (xs := xs) (out := out) (n := n) (i := x.toNat) n 0 s a b
    have hb := roomAt_bounds (xs := xs) (i := x.toNat) hr.hi (by omega)
    unfold roomStep
    unfold roomAt at hb ⊢
    obtain ⟨R, hR⟩ : ∃ R, roomF xs out n x.toNat n 0 = R := ⟨_, rfl⟩
    rw [hR] at hfree hlow hb ⊢
    have hn : ∀ k, nth (out.set x.toNat R) k = if x.toNat = k then R else nth out k := fun k => nth_set1 _ (by rw [hr.len]; omega)
    refine ⟨fun k hk r r0 r1 => ?_, fun j k hj hk hjk j0 he => ?_⟩
    · rw [hn] at r1
      by_cases e : x.toNat = k
      · rw [if_pos e] at r1
        obtain ⟨j, j1, j2, j3⟩ := clash_meet (hlow r r0 r1)
        have hjx : x.toNat ≠ j := fun e2 => by rw [← e2] at j2; omega
        refine ⟨j, j1, by rw [hn, if_neg hjx]; exact j2, ?_⟩
        have h7 := hold j j1 (by omega)
        rw [← e]
        unfold meetB at j3
        unfold onAt
        simp only [Bool.and_eq_true, decide_eq_true_eq] at j3 ⊢
        exact ⟨h7, j3.1⟩
      · rw [if_neg e] at r1
        obtain ⟨j, j1, j2, j3⟩ := ih.low k hk r r0 r1
        exact ⟨j, j1, by rw [hn, if_neg (fun e2 => by rw [← e2] at j2; omega)]; exact j2, j3⟩
    · rw [hn, hn] at he
      rw [hn] at j0
      by_cases e1 : x.toNat = j
      · rw [if_pos e1, if_neg (fun e2 => hjk (by rw [← e1, ← e2]))] at he
        rw [← e1]
        exact clash_none hfree hk he.symm
      · rw [if_neg e1] at he j0
        by_cases e2 : x.toNat = k
        · rw [if_pos e2] at he
          rw [meetB_comm, ← e2]
          exact clash_none hfree hj he
        · rw [if_neg e2] at he
          exact ih.apart j k hj hk hjk j0 he
theorem on_meet {xs : List Int} {x : Int} {j k : Nat} (h1 : onAt xs x j = true) (h2 : onAt xs x k = true) : meetB xs j k = true := by
  unfold onAt at h1 h2
  unfold meetB
  simp only [Bool.and_eq_true, decide_eq_true_eq] at *
  omega
/-- Rooms are as many as there are talks at once. -/
theorem rooms_most {xs : List Int} (hok : talksOk xs = true) : roomsC xs = (atOnce xs).1 := by
  have hl := talksOk_len hok
  obtain ⟨n, hn⟩ : ∃ n, xs.length / 2 = n := ⟨_, rfl⟩
  unfold roomsC atOnce
  rw [if_pos hok, if_pos hok, hn]
  have hth := rooms_th xs n n (Nat.le_refl _)
  have hall := rooms_all xs n
  obtain ⟨out, ho⟩ : ∃ out, roomsTo xs n n = out := ⟨_, rfl⟩
  rw [ho] at hth hall ⊢
  obtain ⟨m1, k, m2, m3⟩ := maxTo_spec out (n - 1)
  obtain ⟨M, hM⟩ : ∃ M, maxTo out (n - 1) = M := ⟨_, rfl⟩
  rw [hM] at m1 m3 ⊢
  have hk : k < n := by omega
  have hM0 : 0 ≤ M := by rw [← m3]; exact hall k hk
  obtain ⟨s1, s2, s3⟩ := mostTo_spec xs n
  rw [hn] at s1 s3
  apply Int.le_antisymm
  · -- at the start of k there are as many talks
    refine Int.le_trans ?_ (s1 k hk)
    have hch : ∀ r : Nat, ∃ j, r < M.toNat → j < n ∧ nth out j = r ∧ onAt xs (nth xs (2 * k)) j = true := fun r => by
      by_cases h : r < M.toNat
      · obtain ⟨j, hj⟩ := hth.low k hk r (by omega) (by omega)
        exact ⟨j, fun _ => hj⟩
      · exact ⟨0, fun h' => absurd h' h⟩
    obtain ⟨g, hg⟩ := Classical.axiomOfChoice hch
    have hself : onAt xs (nth xs (2 * k)) k = true := by
      have hm := meet_self hok k (by omega)
      unfold meetB at hm; unfold onAt
      simp only [Bool.and_eq_true, decide_eq_true_eq] at hm ⊢
      exact ⟨Int.le_refl _, hm.1⟩
    have : (List.range (M.toNat + 1)).length ≤ ((List.range n).filter (onAt xs (nth xs (2 * k)))).length := by
      refine len_map (fun r => if r < M.toNat then g r else k) (range_pair _) (fun x hx y hy e => ?_) (fun x hx => ?_)
      · have hx := List.mem_range.1 hx
        have hy := List.mem_range.1 hy
        by_cases ex : x < M.toNat
        · have gx := hg x ex
          rw [if_pos ex] at e
          by_cases ey : y < M.toNat
          · have gy := hg y ey
            rw [if_pos ey] at e
            rw [e] at gx; omega
          · rw [if_neg ey] at e
            rw [e] at gx; omega
        · rw [if_neg ex] at e
          by_cases ey : y < M.toNat
          · have gy := hg y ey
            rw [if_pos ey] at e
            rw [← e] at gy; omega
          · omega
      · rw [List.mem_filter, List.mem_range]
        split
        · rename_i h
          exact ⟨(hg x h).1, (hg x h).2.2⟩
        · exact ⟨hk, hself⟩
    rw [List.length_range, ← List.countP_eq_length_filter] at this
    unfold cntAt; omega
  · -- those that are on at the time have rooms of their own
    rcases s3 with s3 | s3
    · omega
    · rw [s3]
      have : ((List.range n).filter (onAt xs (mostTo xs n).2)).length ≤ (List.range (M.toNat + 1)).length := by
        refine len_map (fun j => (nth out j).toNat) ((range_pair n).filter _) (fun x hx y hy e => ?_) (fun x hx => ?_)
        · rw [List.mem_filter, List.mem_range] at hx hy
          refine Classical.byContradiction fun hne => ?_
          have h0 := hall x hx.1
          have h1 := hall y hy.1
          have := hth.apart x y hx.1 hy.1 hne h0 (by omega)
          rw [on_meet hx.2 hy.2] at this
          cases this
        · rw [List.mem_filter, List.mem_range] at hx
          rw [List.mem_range]
          have := m1 x (by omega)
          have := hall x hx.1
          omega
      rw [← List.countP_eq_length_filter, List.length_range] at this
      unfold cntAt; omega
theorem most_count {xs : List Int} (hok : talksOk xs = true) : (atOnce xs).1 = (cntAt xs (atOnce xs).2 (xs.length / 2) : Int) := by
  have hl := talksOk_len hok
  unfold atOnce
  rw [if_pos hok]
  obtain ⟨s1, s2, s3⟩ := mostTo_spec xs (xs.length / 2)
  rcases s3 with s3 | s3
  · have h0 := s1 0 (by omega)
    have hself : onAt xs (nth xs (2 * 0)) 0 = true := by
      have hm := meet_self hok 0 (by omega)
      unfold meetB at hm; unfold onAt
      simp only [Bool.and_eq_true, decide_eq_true_eq] at hm ⊢
      exact ⟨Int.le_refl _, hm.1⟩
    have : 0 < cntAt xs (nth xs (2 * 0)) (xs.length / 2) := by
      unfold cntAt
      exact List.countP_pos_iff.2 ⟨0, List.mem_range.2 (by omega), hself⟩
    omega
  · exact s3

/-! The greedy talks. -/
structure Greedy (xs : List Int) (n : Nat) (done out : List Int) : Prop where
  sub : ∀ x ∈ out, x ∈ done
  apart : out.Pairwise fun x y => x ≠ y ∧ meetB xs x.toNat y.toNat = false
  block : ∀ x ∈ done, ∃ h ∈ out, meetB xs x.toNat h.toNat = true ∧ endOf xs h ≤ endOf xs x
theorem greedy_fold {xs : List Int} {n : Nat} {E : List Int} (hE : SortsBy (endOf xs) n E) (hself : ∀ i, i < n → meetB xs i i = true) :
    ∀ (suf pre out : List Int), E = pre ++ suf → Greedy xs n pre out → Greedy xs n E (suf.foldl (heardStep xs) out) := by
  intro suf
  induction suf with
  | nil => intro pre out he h; rw [List.append_nil] at he; rw [he]; exact h
  | cons x suf ih =>
    intro pre out he h
    rw [List.foldl_cons]
    refine ih (pre ++ [x]) _ (by rw [he]; simp) ?_
    have hx : 0 ≤ x ∧ x < (n : Int) := by
      have : x ∈ E := by rw [he]; simp
      rwa [hE.1.mem_iff, idL_mem] at this
    have hle : ∀ y ∈ pre, endOf xs y ≤ endOf xs x := fun y hy => by
      obtain ⟨p1, p2, hp⟩ := List.append_of_mem hy
      have := sorts_after hE (pre := p1) (x := y) (suf := p2 ++ x :: suf) (by rw [he, hp]; simp) (y := x) (by simp)
      unfold lexLt at this; omega
    unfold heardStep
    cases hm : meetsB xs out x
    · rw [if_neg (by simp)]
      unfold meetsB at hm
      rw [List.any_eq_false] at hm
      refine ⟨fun y hy => ?_, ?_, fun y hy => ?_⟩
      · rcases List.mem_append.1 hy with hy | hy
        · exact List.mem_append_left _ (h.sub y hy)
        · exact List.mem_append_right _ hy
      · rw [List.pairwise_append]
        refine ⟨h.apart, List.pairwise_singleton _ _, fun y hy z hz => ?_⟩
        obtain rfl : z = x := by simpa using hz
        have h1 : meetB xs z.toNat y.toNat = false := by simpa using hm y hy
        refine ⟨fun e => ?_, by rw [meetB_comm]; exact h1⟩
        rw [e, hself z.toNat (by omega)] at h1; cases h1
      · rcases List.mem_append.1 hy with hy | hy
        · obtain ⟨b, b1, b2, b3⟩ := h.block y hy
          exact ⟨b, List.mem_append_left _ b1, b2, b3⟩
        · obtain rfl : y = x := by simpa using hy
          exact ⟨y, by simp, hself y.toNat (by omega), Int.le_refl _⟩
    · rw [if_pos rfl]
      refine ⟨fun y hy => List.mem_append_left _ (h.sub y hy), h.apart, fun y hy => ?_⟩
      rcases List.mem_append.1 hy with hy | hy
      · exact h.block y hy
      · obtain rfl : y = x := by simpa using hy
        unfold meetsB at hm
        rw [List.any_eq_true] at hm
        obtain ⟨b, b1, b2⟩ := hm
        exact ⟨b, b1, b2, hle b (h.sub b b1)⟩
theorem heard_greedy {xs : List Int} (hok : talksOk xs = true) : Greedy xs (xs.length / 2) (sortsL (endOf xs) (xs.length / 2)) (heardL xs) := by
  have hs := sortsL_ok (endOf xs) (xs.length / 2)
  rw [← heardL_fold hs (meet_self hok)]
  exact greedy_fold hs (meet_self hok) _ [] [] rfl ⟨fun x h => (by cases h), List.Pairwise.nil, fun x h => (by cases h)⟩
/-- No more talks that do not meet than the greedy ones. -/
theorem greedy_best {xs : List Int} (hok : talksOk xs = true) {S : List Int} (hS : ∀ x ∈ S, 0 ≤ x ∧ x < ((xs.length / 2 : Nat) : Int)) (hp : S.Pairwise fun x y => x ≠ y) (hm : ∀ x ∈ S, ∀ y ∈ S, x ≠ y → meetB xs x.toNat y.toNat = false) : S.length ≤ (heardL xs).length := by
  have hg := heard_greedy hok
  have hch : ∀ x : Int, ∃ h, x ∈ S → h ∈ heardL xs ∧ meetB xs x.toNat h.toNat = true ∧ endOf xs h ≤ endOf xs x := fun x => by
    by_cases hx : x ∈ S
    · obtain ⟨h, h1, h2, h3⟩ := hg.block x ((sortsL_mem _ _ _).2 (hS x hx))
      exact ⟨h, fun _ => ⟨h1, h2, h3⟩⟩
    · exact ⟨0, fun h => absurd h hx⟩
  obtain ⟨g, hgg⟩ := Classical.axiomOfChoice hch
  refine len_map g hp (fun x hx y hy e => ?_) (fun x hx => (hgg x hx).1)
  refine Classical.byContradiction fun hne => ?_
  obtain ⟨_, x2, x3⟩ := hgg x hx
  obtain ⟨_, y2, y3⟩ := hgg y hy
  have := hm x hx y hy hne
  rw [← e] at y2 y3
  unfold meetB at this x2 y2
  unfold endOf at x3 y3
  simp only [Bool.and_eq_true, decide_eq_true_eq] at x2 y2
  rw [Bool.and_eq_false_iff] at this
  simp only [decide_eq_false_iff_not] at this
  omega

/-! Worths of one each. -/
theorem wPre_ones {xs : List Int} {n s : Nat} {ws : List Int} (hw : ∀ k, k < n → nth ws k = 1) : ∀ i, i ≤ n → ∀ q, wPre xs ws s i = some q → q = ((talksOf s i).length : Int) ∧ ∀ x ∈ talksOf s i, ∀ y ∈ talksOf s i, x ≠ y → meetB xs x.toNat y.toNat = false := by
  intro i
  induction i with
  | zero => intro _ q h; cases h; exact ⟨rfl, fun x hx => by simp [talksOf] at hx⟩
  | succ i ih =>
    intro hi q h
    cases hp : wPre xs ws s i with
    | none => have := wPre_none hp 1; rw [this] at h; cases h
    | some p =>
      obtain ⟨h1, h2⟩ := ih (by omega) p hp
      cases hb : s.testBit i
      · rw [wPre_skip hp hb] at h
        cases h
        rw [talksOf_succ, hb]
        simp only [Bool.false_eq_true, if_false, List.append_nil]
        exact ⟨h1, h2⟩
      · rw [wPre_put hp hb] at h
        cases hc : clashIn xs s i i
        · rw [hc, if_neg (by simp)] at h
          cases h
          rw [talksOf_succ, hb]
          simp only [if_true]
          refine ⟨by rw [hw i (by omega), h1]; simp, fun x hx y hy hne => ?_⟩
          have hfar : ∀ z ∈ talksOf s i, meetB xs i z.toNat = false := fun z hz => by
            unfold talksOf at hz
            obtain ⟨k, hk, rfl⟩ := List.mem_map.1 hz
            rw [List.mem_filter, List.mem_range] at hk
            unfold clashIn at hc
            rw [List.any_eq_false] at hc
            have := hc k (List.mem_range.2 hk.1)
            rw [hk.2] at this
            simpa using this
          rcases List.mem_append.1 hx with hx | hx
          · rcases List.mem_append.1 hy with hy | hy
            · exact h2 x hx y hy hne
            · obtain rfl : y = (i : Int) := by simpa using hy
              rw [Int.toNat_natCast, meetB_comm]; exact hfar x hx
          · obtain rfl : x = (i : Int) := by simpa using hx
            rcases List.mem_append.1 hy with hy | hy
            · rw [Int.toNat_natCast]; exact hfar y hy
            · obtain rfl : y = (i : Int) := by simpa using hy
              exact absurd rfl hne
        · rw [hc, if_pos rfl] at h; cases h
theorem wPre_can {xs : List Int} {n s : Nat} {ws : List Int} (hm : ∀ i k, i < n → k < n → i ≠ k → s.testBit i = true → s.testBit k = true → meetB xs i k = false) : ∀ i, i ≤ n → ∃ q, wPre xs ws s i = some q := by
  intro i
  induction i with
  | zero => intro _; exact ⟨0, rfl⟩
  | succ i ih =>
    intro hi
    obtain ⟨p, hp⟩ := ih (by omega)
    cases hb : s.testBit i
    · exact ⟨p, wPre_skip hp hb⟩
    · have hc : clashIn xs s i i = false := by
        unfold clashIn
        rw [List.any_eq_false]
        intro k hk
        have hk := List.mem_range.1 hk
        cases hbk : s.testBit k
        · simp
        · rw [hm i k (by omega) (by omega) (by omega) hb hbk]; simp
      rw [wPre_put hp hb, hc]
      exact ⟨_, rfl⟩
theorem bestTo_max (xs ws : List Int) (n : Nat) : ∀ m s, s ≤ m → ∀ q, wVal xs ws n s = some q → q ≤ (bestTo xs ws n m).2 := by
  intro m
  induction m with
  | zero =>
    intro s hs q h
    obtain rfl : s = 0 := by omega
    rw [wVal_zero] at h; cases h
    exact Int.le_refl _
  | succ m ih =>
    intro s hs q h
    by_cases e : s = m + 1
    · subst e
      rw [bestTo_some h]
      split
      · exact Int.le_refl _
      · omega
    · have := ih s (by omega) q h
      cases h2 : wVal xs ws n (m + 1) with
      | none => rw [bestTo_none h2]; exact this
      | some q2 =>
        rw [bestTo_some h2]
        split
        · simp only; omega
        · exact this
/-- A set as a number. -/
def setTo (p : Nat → Bool) (m : Nat) : Nat := (List.range m).foldl (fun a k => if p k then a ||| 2 ^ k else a) 0
theorem setTo_succ (p : Nat → Bool) (m : Nat) : setTo p (m + 1) = if p m then setTo p m ||| 2 ^ m else setTo p m := by
  unfold setTo; rw [List.range_succ, List.foldl_append]; rfl
theorem setTo_bit (p : Nat → Bool) (k : Nat) : ∀ m, (setTo p m).testBit k = (decide (k < m) && p k) := by
  intro m
  induction m with
  | zero => simp [setTo]
  | succ m ih =>
    rw [setTo_succ]
    split
    · rename_i h
      rw [Nat.testBit_or, ih, Nat.testBit_two_pow]
      by_cases hk : m = k
      · subst hk; simp [h]
      · by_cases hk2 : k < m
        · have : k < m + 1 := by omega
          simp [hk, hk2, this]
        · have : ¬ k < m + 1 := by omega
          simp [hk, hk2, this]
    · rename_i h
      rw [ih]
      by_cases hk : m = k
      · subst hk; simp [h]
      · by_cases hk2 : k < m
        · have : k < m + 1 := by omega
          simp [hk2, this]
        · have : ¬ k < m + 1 := by omega
          simp [hk2, this]
theorem setTo_lt (p : Nat → Bool) : ∀ m, setTo p m < 2 ^ m := by
  intro m
  induction m with
  | zero => simp [setTo]
  | succ m ih =>
    rw [setTo_succ]
    split
    · exact Nat.or_lt_two_pow (by rw [Nat.pow_succ]; omega) (by rw [Nat.pow_succ]; have := Nat.two_pow_pos m; omega)
    · rw [Nat.pow_succ]; omega
theorem talksOf_mem {s m : Nat} {x : Int} : x ∈ talksOf s m ↔ 0 ≤ x ∧ x < (m : Int) ∧ s.testBit x.toNat = true := by
  unfold talksOf
  rw [List.mem_map]
  constructor
  · rintro ⟨k, hk, rfl⟩
    rw [List.mem_filter, List.mem_range] at hk
    exact ⟨by omega, by omega, by rw [Int.toNat_natCast]; exact hk.2⟩
  · rintro ⟨h0, h1, h2⟩
    exact ⟨x.toNat, by rw [List.mem_filter, List.mem_range]; exact ⟨by omega, h2⟩, by omega⟩
theorem talksOf_pair (s m : Nat) : (talksOf s m).Pairwise fun x y => x ≠ y := by
  unfold talksOf
  rw [List.pairwise_map]
  exact ((range_pair m).filter _).imp fun h e => h (by omega)
/-- The greedy talks are as many as the best set of talks worth one each. -/
theorem greedy_worth {xs ws : List Int} {n : Nat} (hok : talksOk xs = true) (hn : xs.length / 2 = n) (hw : ∀ k, k < n → nth ws k = 1) :
    (bestTo xs ws n (2 ^ n - 1)).2 = ((heardL xs).length : Int) ∧ (bestTo xs ws n (2 ^ n - 1)).2 = ((talksOf (bestTo xs ws n (2 ^ n - 1)).1 n).length : Int) := by
  obtain ⟨b1, b2⟩ := bestTo_val xs ws n (2 ^ n - 1)
  obtain ⟨s1, s2⟩ := wPre_ones hw n (Nat.le_refl _) _ b1
  refine ⟨?_, s1⟩
  apply Int.le_antisymm
  · rw [s1]
    have := greedy_best hok (S := talksOf (bestTo xs ws n (2 ^ n - 1)).1 n) (fun x hx => by have := talksOf_mem.1 hx; rw [hn]; exact ⟨this.1, this.2.1⟩) (talksOf_pair _ _) s2
    omega
  · have hg := heard_greedy hok
    rw [hn] at hg
    have hin : ∀ x ∈ heardL xs, 0 ≤ x ∧ x < (n : Int) := fun x hx => (sortsL_mem _ _ _).1 (hg.sub x hx)
    obtain ⟨s, hs⟩ : ∃ s, setTo (fun k => (heardL xs).contains (k : Int)) n = s := ⟨_, rfl⟩
    have hbit : ∀ k, k < n → (s.testBit k = true ↔ (k : Int) ∈ heardL xs) := fun k hk => by
      rw [← hs, setTo_bit, decide_eq_true hk, Bool.true_and, List.contains_iff_mem]
    have hmeet : ∀ x ∈ heardL xs, ∀ y ∈ heardL xs, x ≠ y → meetB xs x.toNat y.toNat = false := fun x hx y hy hne => by
      have hs : ∀ (l : List Int), l.Pairwise (fun x y => x ≠ y ∧ meetB xs x.toNat y.toNat = false) → x ∈ l → y ∈ l → meetB xs x.toNat y.toNat = false := by
        intro l hl
        induction l with
        | nil => intro h; cases h
        | cons a l ih =>
          have hp := List.pairwise_cons.1 hl
          intro h1 h2
          rcases List.mem_cons.1 h1 with h1 | h1
          · rcases List.mem_cons.1 h2 with h2 | h2
            · exact absurd (h1.trans h2.symm) hne
            · rw [h1]; exact (hp.1 y h2).2
          · rcases List.mem_cons.1 h2 with h2 | h2
            · rw [h2, meetB_comm]; exact (hp.1 x h1).2
            · exact ih hp.2 h1 h2
      exact hs _ hg.apart hx hy
    obtain ⟨q, hq⟩ := wPre_can (xs := xs) (n := n) (s := s) (ws := ws) (fun i k hi hk hik hbi hbk => by
      have := hmeet i ((hbit i hi).1 hbi) k ((hbit k hk).1 hbk) (by omega)
      simpa using this) n (Nat.le_refl _)
    obtain ⟨q1, _⟩ := wPre_ones hw n (Nat.le_refl _) q hq
    have hle := bestTo_max xs ws n (2 ^ n - 1) s (by have := setTo_lt (fun k => (heardL xs).contains (k : Int)) n; rw [hs] at this; omega) q hq
    have hlen : (heardL xs).length ≤ (talksOf s n).length := len_sub (hg.apart.imp fun h => h.1) (fun x hx => talksOf_mem.2 ⟨(hin x hx).1, (hin x hx).2, (hbit x.toNat (by have := hin x hx; omega)).2 (by have := hin x hx; rw [show ((x.toNat : Nat) : Int) = x by omega]; exact hx)⟩)
    omega
end Go.Proofs.Ytnpfninkopffmaa
