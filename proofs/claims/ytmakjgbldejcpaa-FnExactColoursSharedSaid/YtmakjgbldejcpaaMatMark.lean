
/- The laws' markInt64SS: it writes only the rows. Conditions: at most 2^20 numbers. -/
import Derived.Test.YtmakjgbldejcpaaMat
import Derived.Test.YtmakjgbldejcpaaGrownL
namespace Go.Proofs.Ytmakjgbldejcpaa
open Go.RowKit
set_option linter.unusedVariables false
set_option linter.unusedSimpArgs false

/-- The blocks between lo and hi. -/
abbrev span (lo hi : Nat) : List Nat := List.range' lo (hi - lo)
theorem mem_span {lo hi b : Nat} : b ∈ span lo hi ↔ lo ≤ b ∧ b < hi := by
  unfold span; rw [List.mem_range'_1]; omega
theorem Own2.spanned {w w' : World} {lo hi lo' hi' : Nat} {v : Value} {xs : List Int} (h : Own2 w lo' hi' v xs) (hg : GrownL (span lo hi) w w') (hd : hi' ≤ lo ∨ hi ≤ lo') : Own2 w' lo' hi' v xs := by
  refine ⟨?_, h.hi⟩
  rcases h.own.nil_or with ⟨rfl, rfl⟩ | ⟨g, c, rfl⟩
  · exact World.ownsRow_nil _ _ _ _
  · refine hg.own h.own fun e => ?_
    have h1 := h.own.lt g rfl
    have h2 := h.hi g rfl
    rw [mem_span] at e; omega

set_option maxHeartbeats 1000000 in
theorem markInt64SS_any (v : Value) (xs : List (List Int)) (lo hi : Nat) (w : World) (h : OwnM w lo hi v xs) (hs : smallMat xs) :
    Calls Try.prog 64 #[v, .int .i64 1] w fun e w' => e = .returned (.int .i64 (1 + matSum xs)) ∧ GrownL (span lo hi) w w' := by
  obtain ⟨⟨g, raw, rfl, hgh, hO, hR⟩, hwf, hl⟩ := h
  have HS := Lib.hid hs
  have HO := Lib.hid hO
  have hgl := (hO.lt g rfl)
  have hlen := hO.length
  have HSUM : Hid (matSum xs ≤ 1048576) := by show matSum xs ≤ _; unfold smallMat at hs; omega
  have hl2 : xs.length ≤ 1048576 := by unfold smallMat at hs; omega
  have HLEN := Lib.hid hlen
  -- what is kept of the rows: each is the call's own, with as many numbers
  have HR : Hid (∃ ys : List (List Int), ys.length = xs.length ∧ (∀ i (h : i < xs.length) (h' : i < ys.length), ys[i].length = xs[i].length) ∧ RowsM w (g + 1) hi raw ys xs.length) := ⟨xs, rfl, fun _ _ _ => rfl, hR⟩
  clear hs hO hR hlen hwf hl
  go_enter Try.func64, Try.ntmps64
  go_wp2
  go_loopw [1, 5] (fun vk vi wr => ∃ i : Nat, i ≤ xs.length ∧ vi = .int .i64 i ∧ vk = .int .i64 ((1 + matSum (xs.take i) : Nat) : Int) ∧ OwnV 32 1 wr lo (.slice (some ⟨g, 0, none⟩) xs.length xs.length) xs.length raw ∧ (∃ ys : List (List Int), ys.length = xs.length ∧ (∀ i (h : i < xs.length) (h' : i < ys.length), ys[i].length = xs[i].length) ∧ RowsM wr (g + 1) hi raw ys xs.length) ∧ GrownL (span lo hi) w wr) (fun _ vi _ => xs.length - (intOf vi).toNat)
  case atStart => exact ⟨0, Nat.zero_le _, rfl, by simp [matSum], HO.out, HR.out, GrownL.refl _ _⟩
  case round =>
    obtain ⟨i, hi2, rfl, rfl, ho, hr, hg⟩ := hrel
    obtain ⟨wr', rfl⟩ : ∃ wr' : World, wr' = wr := ⟨_, rfl⟩
    have HOW := Lib.hid ho
    have HRW := Lib.hid hr
    have HG := Lib.hid hg
    clear ho hr hg
    by_cases hlt : i < xs.length
    · obtain ⟨ys, hy1, hy2, hy3⟩ := HRW.out
      obtain ⟨u, q1, q2, q3⟩ := hy3 i (by omega) hlt
      have hyl := hy2 i hlt (by omega)
      have hT := matSum_take xs i hlt
      have hle := matSum_le xs (i + 1)
      have hsum := HSUM.out
      obtain ⟨s0, f0, _, _⟩ := HOW.out.store i (by rw [HLEN.out]; omega) (.bool true)
      rw [List.getElem?_eq_getElem (by rw [HLEN.out]; omega)] at q1
      obtain ⟨r, hr⟩ : ∃ r, raw[i]'(by rw [HLEN.out]; omega) = r := ⟨_, rfl⟩
      rw [hr] at s0 q1
      obtain rfl : r = u := by simpa using q1
      have hmk := markInt64S_any r ys[i] ((1 + matSum (xs.take i) : Nat) : Int) (g + 1) wr' q2 (by omega) (by omega) (by omega)
      rw [hyl, show ((1 + matSum (xs.take i) : Nat) : Int) + (xs[i].length : Int) = ((1 + matSum (xs.take (i + 1)) : Nat) : Int) by rw [hT]; omega] at hmk
      have HMK := Lib.hid hmk
      have i0 : (0 : Int) ≤ (i : Int) := by omega
      have i1 : (i : Int) < (xs.length : Int) := by omega
      have HQ2 := Lib.hid q2
      have HQ3 := Lib.hid q3
      have HY1 := Lib.hid hy1
      have HY2 := Lib.hid hy2
      have HY3 := Lib.hid hy3
      have HRR := Lib.hid hr
      obtain ⟨S, hS⟩ : ∃ S, 1 + matSum (xs.take i) = S := ⟨_, rfl⟩
      rw [hS] at HMK ⊢
      obtain ⟨S', hS'⟩ : ∃ S', 1 + matSum (xs.take (i + 1)) = S' := ⟨_, rfl⟩
      rw [hS'] at HMK
      have HS' := Lib.hid hS'
      have HSS := Lib.hid hS
      clear hmk q1 q2 q3 hy2 hy3 hyl hT hle hr hS hsum hS'
      go_wp2_with fail
      refine HMK.out.mono ?_
      rintro e w' ⟨rfl, ho', hg'⟩
      have HO' := Lib.hid ho'
      have HG' := Lib.hid hg'
      clear ho' hg'
      go_wp2_with fail
      go_roundw
      case rel =>
        refine ⟨i + 1, by omega, by go_num, by rw [HS'.out], HOW.out.kept HG'.out ?_, ⟨ys.set i (marks (S : Int) xs[i].length), by rw [List.length_set]; exact HY1.out, fun j hj hj' => ?_, ?_⟩, HG.out.grown HG'.out fun j e => .inl ?_⟩
        · refine .inr fun e => ?_
          have := (HQ2.out.lt g (by rw [← e]; rfl)).1
          omega
        · by_cases hij : j = i
          · subst hij; simp [marks_length]
          · rw [List.getElem_set_ne (fun e => hij e.symm)]; exact HY2.out j hj _
        · intro j hj hjk
          have hjy : j < ys.length := by simpa using hj
          obtain ⟨u, q1, q2, q3⟩ := HY3.out j hjy hjk
          refine ⟨u, q1, ?_, q3⟩
          by_cases hij : j = i
          · subst hij
            rw [List.getElem?_eq_getElem (by rw [HLEN.out]; omega), HRR.out] at q1
            obtain rfl : r = u := by simpa using q1
            rw [List.getElem_set_self]
            exact HO'.out
          · rw [List.getElem_set_ne (fun e => hij e.symm)]
            refine q2.kept HG'.out ?_
            cases hb : u.ownBlock with
            | none => exact .inl rfl
            | some b =>
              refine .inr fun e => ?_
              by_cases hji : j < i
              · exact (HQ3.out b e.symm).2 j hji u q1 hb
              · exact (q3 b hb).2 i (by omega) r (by rw [List.getElem?_eq_getElem (by rw [HLEN.out]; omega), HRR.out]) e.symm
        · have h1 := HQ2.out.lt j e
          have h2 := HQ3.out j e
          rw [mem_span]; omega
      case measure => simp [intOf]; omega
    · obtain rfl : i = xs.length := by omega
      have hf := matSum_full xs
      have HF := Lib.hid hf
      clear hf
      go_wp2_with fail
      go_ret
      exact ⟨ret_int (by rw [HF.out]; omega), HG.out⟩
end Go.Proofs.Ytmakjgbldejcpaa
