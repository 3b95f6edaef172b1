/- MostAtOnce, program and reference: the contracts of both, by one plain function. Conditions: none. -/
import Derived.Test.YthnjbgncomoiiaaTalks
namespace Go.Proofs.Ythnjbgncomoiiaa
open Go.RowKit Go.Shelf Go.BigFrame
set_option linter.unusedVariables false
set_option linter.unusedSimpArgs false
attribute [local go_sem] Oper.semAt_some

/-- Talk k goes on at x. -/
def onAt (xs : List Int) (x : Int) (k : Nat) : Bool := decide (nth xs (2 * k) ≤ x) && decide (x < nth xs (2 * k + 1))
def cntAt (xs : List Int) (x : Int) (k : Nat) : Nat := (List.range k).countP (onAt xs x)
theorem cntAt_zero (xs : List Int) (x : Int) : cntAt xs x 0 = 0 := rfl
theorem cntAt_succ (xs : List Int) (x : Int) (k : Nat) : cntAt xs x (k + 1) = cntAt xs x k + if onAt xs x k then 1 else 0 := by
  unfold cntAt
  rw [List.range_succ, List.countP_append]
  simp [List.countP_cons]
theorem cntAt_le (xs : List Int) (x : Int) (k : Nat) : cntAt xs x k ≤ k := by
  unfold cntAt
  exact Nat.le_trans List.countP_le_length (by simp)
/-- Whether the time x is a better one. -/
def more (p : Int × Int) (c : Int) (x : Int) : Bool := decide (c > p.1) || (c == p.1 && decide (x < p.2))
def mostStep (xs : List Int) (p : Int × Int) (j : Nat) : Int × Int :=
  if more p (cntAt xs (nth xs (2 * j)) (xs.length / 2)) (nth xs (2 * j)) then ((cntAt xs (nth xs (2 * j)) (xs.length / 2) : Nat), nth xs (2 * j)) else p
def mostTo (xs : List Int) (j : Nat) : Int × Int := (List.range j).foldl (mostStep xs) (0, 0)
theorem mostTo_succ (xs : List Int) (j : Nat) : mostTo xs (j + 1) = mostStep xs (mostTo xs j) j := by
  unfold mostTo
  rw [List.range_succ, List.foldl_append]
  rfl
def atOnce (xs : List Int) : Int × Int := if talksOk xs then mostTo xs (xs.length / 2) else (0, 0)

theorem talksOk_len {xs : List Int} (h : talksOk xs = true) : 2 ≤ xs.length ∧ xs.length ≤ 64 ∧ xs.length % 2 = 0 := by
  simp only [talksOk, talksHead, many, Bool.and_eq_true, decide_eq_true_eq, beq_iff_eq] at h
  obtain ⟨⟨⟨⟨h1, h2⟩, _⟩, h3⟩, _⟩ := h
  omega

theorem specAtOnce_any (v : Value) (xs : List Int) (w : World) (hv : Ints w v xs) (hwf : ∀ n ∈ xs, (Lit.int .i64 n).wf = true) :
    Calls Try.prog 35 #[v] w fun e w' => e = .returned (.tuple #[.int .i64 (atOnce xs).1, .int .i64 (atOnce xs).2, .bool (talksOk xs)]) ∧ Below w.heap.size w w' := by
  have ht := Lib.hid (specTalks_any v xs w hv hwf)
  clear hwf
  cases hok : talksOk xs
  · rw [hok] at ht
    have hres : atOnce xs = (0, 0) := by unfold atOnce; rw [hok]; rfl
    rw [hres]
    clear hv hres
    go_enter Try.func35, Try.ntmps35
    go_wp2_with (go_at_call 52; refine ht.out.mono ?_; rintro e w' ⟨rfl, hb⟩)
    go_ret3
    exact ⟨rfl, hb⟩
  · rw [hok] at ht
    have hres : atOnce xs = mostTo xs (xs.length / 2) := by unfold atOnce; rw [hok]; rfl
    rw [hres]
    obtain ⟨hl2, hl64, hev⟩ := talksOk_len hok
    obtain ⟨M, hM⟩ : ∃ M, xs.length / 2 = M := ⟨_, rfl⟩
    have hxm : xs.length = 2 * M := by omega
    rw [hM]
    have hstep : ∀ p j, mostStep xs p j = if more p (cntAt xs (nth xs (2 * j)) M) (nth xs (2 * j)) then (((cntAt xs (nth xs (2 * j)) M : Nat) : Int), nth xs (2 * j)) else p := by
      intro p j; unfold mostStep; rw [hM]
    have HSTEP := Lib.hid hstep
    have HXM := Lib.hid hxm
    obtain ⟨hm, a, c, rfl, hcap, hc⟩ := hv
    obtain ⟨b, o, ha0, hbs, hcs⟩ := row_at hc
    obtain rfl := ha0 (by omega)
    have hbs := hbs (by omega)
    have hcs' : ∀ i, i < xs.length → w.cell? ⟨b, o + i, none⟩ = some (.int .i64 (nth xs i)) := fun i hi => by rw [nth_eq hi]; exact hcs i hi
    have HCS := Lib.hid hcs'
    clear hcs hcs' hc ha0 hM hres hok hev hstep hxm hm
    go_enter Try.func35, Try.ntmps35
    go_wp2_with (go_at_call 52; refine ht.out.mono ?_; rintro e W1 ⟨rfl, hb⟩)
    go_loopw [5, 6, 7, 8, 9, 10] (fun p q i _ _ _ wr => ∃ j I : Nat, Hid (I = 2 * j) ∧ I ≤ xs.length ∧ i = .int .i64 I ∧ p = .int .i64 (mostTo xs j).1 ∧ q = .int .i64 (mostTo xs j).2 ∧ W1 = wr) (fun _ _ i _ _ _ _ => xs.length - (intOf i).toNat)
    case atStart => exact ⟨0, 0, rfl, Nat.zero_le _, rfl, rfl, rfl, rfl⟩
    case round =>
      obtain ⟨j, I, hI, hIl, rfl, rfl, rfl, rfl⟩ := hrel
      obtain ⟨mp, hmp⟩ : ∃ mp, mostTo xs j = mp := ⟨_, rfl⟩
      obtain ⟨m1, m2⟩ := mp
      have hnext := mostTo_succ xs j
      rw [hmp] at hnext ⊢
      have HNEXT := Lib.hid hnext
      have HMP := Lib.hid hmp
      clear hmp hnext
      by_cases hlt : I < xs.length
      · have e0 : W1.cell? ⟨b, o + I, none⟩ = some (.int .i64 (nth xs I)) := (hb.cell (p := ⟨b, o + I, none⟩) hbs).trans (HCS.out I hlt)
        obtain ⟨x, hx⟩ : ∃ x, nth xs I = x := ⟨_, rfl⟩
        rw [hx] at e0
        have HX : Hid (nth xs (2 * j) = x) := by show nth xs (2 * j) = x; rw [← hI.out]; exact hx
        have i0 : (0 : Int) ≤ (I : Int) := by omega
        have i1 : (I : Int) < (xs.length : Int) := by omega
        clear hx
        go_wp2
        go_loopw [9, 10] (fun n i wr => ∃ k K : Nat, Hid (K = 2 * k) ∧ K ≤ xs.length ∧ i = .int .i64 K ∧ n = .int .i64 (cntAt xs x k : Nat) ∧ W1 = wr) (fun _ i _ => xs.length - (intOf i).toNat)
        case atStart => exact ⟨0, 0, rfl, Nat.zero_le _, rfl, rfl, rfl⟩
        case round =>
          obtain ⟨k, K, hK, hKl, rfl, rfl, rfl⟩ := hrel
          obtain ⟨n, hn⟩ : ∃ n, cntAt xs x k = n := ⟨_, rfl⟩
          have hnk : n ≤ k := by rw [← hn]; exact cntAt_le _ _ _
          have hcn := cntAt_succ xs x k
          rw [hn] at hcn ⊢
          by_cases hKlt : K < xs.length
          · have hK1 : K + 1 < xs.length := by have := HXM.out; have := hK.out; omega
            have f0 : W1.cell? ⟨b, o + K, none⟩ = some (.int .i64 (nth xs K)) := (hb.cell (p := ⟨b, o + K, none⟩) hbs).trans (HCS.out K hKlt)
            have f1 : W1.cell? ⟨b, o + (K + 1), none⟩ = some (.int .i64 (nth xs (K + 1))) := (hb.cell (p := ⟨b, o + (K + 1), none⟩) hbs).trans (HCS.out (K + 1) hK1)
            have hon : onAt xs x k = (decide (nth xs K ≤ x) && decide (x < nth xs (K + 1))) := by unfold onAt; rw [← hK.out]
            obtain ⟨s, hs⟩ : ∃ s, nth xs K = s := ⟨_, rfl⟩
            obtain ⟨t, ht⟩ : ∃ t, nth xs (K + 1) = t := ⟨_, rfl⟩
            rw [hs, ht] at hon
            rw [hs] at f0
            rw [ht] at f1
            have k0 : (0 : Int) ≤ (K : Int) := by omega
            have k1 : (K : Int) < (xs.length : Int) := by omega
            have k2 : (K : Int) + 1 < (xs.length : Int) := by omega
            have hn64 : n ≤ 64 := by have := hK.out; omega
            rw [hon] at hcn
            have HCN := Lib.hid hcn
            clear hs ht hn hcn hon hnk
            by_cases c1 : s ≤ x
            · by_cases c2 : x < t
              · have hc' : cntAt xs x (k + 1) = n + 1 := by rw [HCN.out]; simp [c1, c2]
                have HC' := Lib.hid hc'
                clear hc'
                go_wp2
                go_roundw
                case rel => exact ⟨k + 1, K + 2, by have := hK.out; show K + 2 = 2 * (k + 1); omega, by omega, by go_num, by rw [HC'.out]; go_num, trivial⟩
                case measure => simp [intOf]; omega
              · have hc' : cntAt xs x (k + 1) = n := by rw [HCN.out]; simp [c1, c2]
                have HC' := Lib.hid hc'
                clear hc'
                go_wp2
                go_roundw
                case rel => exact ⟨k + 1, K + 2, by have := hK.out; show K + 2 = 2 * (k + 1); omega, by omega, by go_num, by rw [HC'.out], trivial⟩
                case measure => simp [intOf]; omega
            · have hc' : cntAt xs x (k + 1) = n := by rw [HCN.out]; simp [c1]
              have HC' := Lib.hid hc'
              clear hc'
              go_wp2
              go_roundw
              case rel => exact ⟨k + 1, K + 2, by have := hK.out; show K + 2 = 2 * (k + 1); omega, by omega, by go_num, by rw [HC'.out], trivial⟩
              case measure => simp [intOf]; omega
          · obtain rfl : k = M := by have := HXM.out; have := hK.out; omega
            have hnx : mostTo xs (j + 1) = if more (m1, m2) n x then ((n : Int), x) else (m1, m2) := by
              rw [HNEXT.out, HSTEP.out, HX.out, hn]
            have HNX := Lib.hid hnx
            clear hcn hnx hn
            go_wp2_with fail
            all_goals
              refine ⟨⟨j + 1, I + 2, by have := hI.out; show I + 2 = 2 * (j + 1); omega, by have := HXM.out; have := hI.out; omega, by go_num, ?_, ?_, trivial⟩, by simp [intOf]; omega⟩
              all_goals
                rw [HNX.out]
                split <;> rename_i hh <;> simp [more] at hh <;> first | rfl | (exfalso; omega) | (congr 1; omega)
      · have hj : j = M := by have := HXM.out; have := hI.out; omega
        subst hj
        go_wp2
        go_ret3
        rw [HMP.out]
        exact ⟨rfl, hb⟩
end Go.Proofs.Ythnjbgncomoiiaa
