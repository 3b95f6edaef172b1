/- The reference's draws of needs and of a rule: R8Below (below 4), R8Rule. Conditions: at most 200 needs. With texts that it needs. -/
import Derived.Test.YtbocedlldaeanaaDoorShiftsAll3
import Derived.StillTailTactics
import Derived.Deep.RegionHeld3
import Derived.Test.YtbocedlldaeanaaDoorShiftsAll1
import Derived.Test.YtbocedlldaeanaaDoorShiftsAll2
namespace Go.Proofs.YtbocedlldaeanaaDoor
open Go.RowKit
set_option linter.unusedVariables false
set_option linter.unusedSimpArgs false

theorem GrownL.two {b g g1 : Nat} {w w1 w2 : World} (h1 : GrownL [b, g] w w1) (h2 : GrownL [b, g1] w1 w2) (hg : g1 = g ∨ w.heap.size ≤ g1) : GrownL [b, g] w w2 :=
  ⟨h2.os.trans h1.os, h2.tape.trans h1.tape, h2.output.trans h1.output, Nat.le_trans h1.size h2.size, fun k hk hn => by
    simp only [List.mem_cons, List.not_mem_nil, or_false, not_or] at hn
    have hs := h1.size
    rw [h2.block k (by omega) (by simp only [List.mem_cons, List.not_mem_nil, or_false, not_or]; omega), h1.block k hk (by simp only [List.mem_cons, List.not_mem_nil, or_false, not_or]; exact hn)]⟩
theorem GrownL.wide {b g : Nat} {w w1 : World} (h : GrownL [b] w w1) : GrownL [b, g] w w1 :=
  ⟨h.os, h.tape, h.output, h.size, fun k hk hn => h.block k hk (by simp only [List.mem_cons, List.not_mem_nil, or_false, not_or] at hn ⊢; exact hn.1)⟩
theorem GrownL.undrawn {gs : List Nat} {w w' : World} {q : Nat} (h : GrownL gs (w.drewN q) w') : GrownL gs w w' := ⟨h.os, h.tape, h.output, h.size, h.block⟩
theorem KnI.drewN {w : World} {b : Nat} {r : ShR} (h : KnI w b r) (q : Nat) : KnI (w.drewN q) b r := h
theorem OwnT.grownL {w w' : World} {B g n c : Nat} {xs : List ByteArray} {gs : List Nat} (h : OwnT w B (.slice (some ⟨g, 0, none⟩) n c) xs) (hg : GrownL gs w w') (hn : g ∉ gs) : OwnT w' B (.slice (some ⟨g, 0, none⟩) n c) xs := by
  have hlt := (h.lt g rfl).2
  refine ⟨h.1, ?_⟩
  rcases h.2 with h2 | ⟨g', cap, cur, hv, h3, h4, h5⟩
  · exact .inl h2
  · obtain ⟨rfl, hn', rfl⟩ : g = g' ∧ n = xs.length ∧ c = cap := by simpa using hv
    exact .inr ⟨g, c, cur, hv, h3, (hg.block g hlt hn).trans h4, h5⟩

theorem chB_0 : chB false = (⟨#[46, 119]⟩ : ByteArray).extract 0 1 := by decide
theorem chB_1 : chB true = (⟨#[46, 119]⟩ : ByteArray).extract 1 2 := by decide
/-- What a round knows. -/
def LsR (r : ShR) (n : Nat) (s : ShS) (t : ByteArray) (m : Nat) (xs : List ByteArray) (b g B : Nat) (W0 : World) (vo vk : Value) (wr : World) : Prop :=
  ∃ (k g1 c1 KL : Nat), k ≤ 2 ∧ vk = .int .i64 k ∧ vo = .slice (some ⟨g1, 0, none⟩) KL c1 ∧ KL = (lsTo r n s t m xs k).length ∧ OwnT wr B (.slice (some ⟨g1, 0, none⟩) KL c1) (lsTo r n s t m xs k) ∧ KnI wr b r ∧ GrownL [b, g] W0 wr ∧ (g1 = g ∨ W0.heap.size ≤ g1)

set_option maxRecDepth 100000 in
set_option maxHeartbeats 4000000 in
theorem list_any (r : ShR) (hr : r.Ok) (b B m : Nat) (hm : m ≤ 64) : ∀ (n : Nat) (s : ShS) (t : ByteArray) (w : World) (g c K : Nat) (xs : List ByteArray), s.slot + (n : Int) = r.slots → StI s → KnI w b r → OwnT w B (.slice (some ⟨g, 0, none⟩) K c) xs → K = xs.length → b ≠ g → B ≤ w.heap.size → xs.length ≤ m → t.size + n ≤ 100 →
    Calls Tryd.prog 22 #[cV r b, .slice (some ⟨g, 0, none⟩) K c, .string t, stV s, .int .i64 m] w fun e w' => ∃ g' c' n', e = .returned (.slice (some ⟨g', 0, none⟩) n' c') ∧ OwnT w' B (.slice (some ⟨g', 0, none⟩) n' c') (fitT m xs (lsW r n s t)) ∧ n' = (fitT m xs (lsW r n s t)).length ∧ KnI w' b r ∧ GrownL [b, g] w w' ∧ (g' = g ∨ w.heap.size ≤ g') := by
  have HR := Lib.hid hr
  clear hr
  intro n
  induction n with
  | zero =>
    intro s t w g c K xs hn hs hk hown hK hbg hB hxm htn
    have HK := Lib.hid hk
    have hlt := hk.lt
    have hgl := hown.lt g rfl
    have HO := Lib.hid hown
    have HLL : Hid (K = xs.length) := hK
    have HS := Lib.hid hs
    have HN : Hid (s.slot + ((0 : Nat) : Int) = r.slots) := hn
    have HCT : Hid (∀ W, KnI W b r → Calls Tryd.prog 20 #[cV r b, stV s] W fun e w' => e = .returned (.int .i64 (cntS r (0) s : Nat)) ∧ KnI w' b r ∧ GrownL [b] W w') := fun W hW => count_any r HR.out b (0) s W hn hs hW
    have HXL := Lib.hid (lsW_len r (0) s t)
    have HFU : Hid (xs.length = m → fitT m xs (lsW r (0) s t) = xs) := fun h => fitT_full _ h
    have HF0 : Hid (lsW r (0) s t = [] → fitT m xs (lsW r (0) s t) = xs) := fun h => by rw [h]; exact fitT_nil m xs
    have HZ := Lib.hid (lsW_zero r s t)
    clear hk hown hs hn hK
    obtain ⟨N, L, M, R, P⟩ := r
    obtain ⟨X, hX⟩ : ∃ X, cntS ⟨N, L, M, R, P⟩ (0) s = X := ⟨_, rfl⟩
    rw [hX] at HCT HXL
    obtain ⟨FT, hFT⟩ : ∃ FT, fitT m xs (lsW ⟨N, L, M, R, P⟩ (0) s t) = FT := ⟨_, rfl⟩
    rw [hFT] at HFU HF0 ⊢
    have HFT := Lib.hid hFT
    unfold stV cV at HCT
    show Calls _ _ #[.agg #[.int .i64 N, .int .i64 L, .int .i64 M, .int .i64 R, .int .i64 P, .map (some b)], .slice (some ⟨g, 0, none⟩) K c, .string t, .agg #[.int .i64 s.slot, .int .i64 s.worked, .int .i64 s.row, .int .i64 s.pause, .bool s.begun], .int .i64 m] _ _
    clear hX hFT
    go_enter Tryd.func22, Tryd.ntmps22
    obtain ⟨BB, hBB⟩ : ∃ BB, w.heap.size = BB := ⟨_, rfl⟩
    obtain ⟨W0, hW0⟩ : ∃ W, (w.alloc (.cells #[.int .i64 N, .int .i64 L, .int .i64 M, .int .i64 R, .int .i64 P, .map (some b)] 53)).alloc (.cells #[.int .i64 s.slot, .int .i64 s.worked, .int .i64 s.row, .int .i64 s.pause, .bool s.begun] 57) = W := ⟨_, rfl⟩
    have K0 : Hid (KnI W0 b ⟨N, L, M, R, P⟩) := by show KnI _ _ _; rw [← hW0]; exact (HK.out.alloc _).alloc _
    have G0 : Hid (GrownL [b, g] w W0) := by show GrownL _ _ _; rw [← hW0]; exact ((GrownL.refl [b, g] w).alloc _).alloc _
    have O0 : Hid (OwnT W0 B (.slice (some ⟨g, 0, none⟩) K c) xs) := by show OwnT _ _ _ _; rw [← hW0]; exact (HO.out.alloc _).alloc _
    have C1 : Hid (Blk W0 BB 53 [.int .i64 N, .int .i64 L, .int .i64 M, .int .i64 R, .int .i64 P, .map (some b)]) := by
      show Blk _ _ _ _; rw [← hW0, ← hBB]; exact (Blk.new w _ _).alloc _
    have C2 : Hid (Blk W0 (BB + 1) 57 [.int .i64 s.slot, .int .i64 s.worked, .int .i64 s.row, .int .i64 s.pause, .bool s.begun]) := by
      show Blk _ _ _ _
      have h := Blk.new (w.alloc (.cells #[.int .i64 N, .int .i64 L, .int .i64 M, .int .i64 R, .int .i64 P, .map (some b)] 53)) 57 [.int .i64 s.slot, .int .i64 s.worked, .int .i64 s.row, .int .i64 s.pause, .bool s.begun]
      rw [← hW0, ← hBB]
      simpa using h
    have HSZ : Hid (BB ≤ W0.heap.size) := by show _ ≤ _; rw [← hW0, ← hBB]; simp; omega
    have HBG : Hid (b < BB ∧ g < BB) := by show _ ∧ _; omega
    have d0 := C1.out.cell 0 _ rfl
    have d1 := C1.out.cell 1 _ rfl
    have d2 := C1.out.cell 2 _ rfl
    have d3 := C1.out.cell 3 _ rfl
    have d4 := C1.out.cell 4 _ rfl
    have d5 := C1.out.cell 5 _ rfl
    have e0 := C2.out.cell 0 _ rfl
    have e1 := C2.out.cell 1 _ rfl
    have e2 := C2.out.cell 2 _ rfl
    have e3 := C2.out.cell 3 _ rfl
    have e4 := C2.out.cell 4 _ rfl
    by_cases hfull : K = m
    · have HE : Hid (FT = xs) := HFU.out (by rw [← HLL.out]; exact hfull)
      subst hfull
      clear hlt hgl HCT HXL HFU HF0 HFT HK HO HZ
      go_wp2
      go_ret
      exact ⟨g, c, K, rfl, by rw [HE.out]; exact O0.out, by rw [HE.out]; exact HLL.out, K0.out, G0.out, .inl rfl⟩
    have i1 : ((K : Int) == (m : Int)) = false := by simp; omega
    have HLT : Hid (xs.length < m) := by show _ < _; have := HLL.out; omega
    have HBB := Lib.hid hBB
    have HC1 := Lib.hid (HCT.out W0 K0.out)
    clear HCT HFU HK HO hfull
    go_wp2_with fail
    refine HC1.out.mono ?_
    rintro e W1 ⟨rfl, hk1, hg1⟩
    have K1 := Lib.hid hk1
    have G1 : Hid (GrownL [b, g] w W1) := G0.out.trans hg1.wide
    have O1 : Hid (OwnT W1 B (.slice (some ⟨g, 0, none⟩) K c) xs) := O0.out.grownL hg1 (by simp; exact fun h => hbg h.symm)
    have D1 : Hid (Blk W1 BB 53 [.int .i64 N, .int .i64 L, .int .i64 M, .int .i64 R, .int .i64 P, .map (some b)]) := C1.out.grownL hg1 (by have := HBG.out; simp; omega)
    have D2 : Hid (Blk W1 (BB + 1) 57 [.int .i64 s.slot, .int .i64 s.worked, .int .i64 s.row, .int .i64 s.pause, .bool s.begun]) := C2.out.grownL hg1 (by have := HBG.out; simp; omega)
    have HSZ1 : Hid (BB ≤ W1.heap.size) := Nat.le_trans HSZ.out hg1.size
    clear hk1 hg1 HC1 K0 G0 O0 C1 C2 HSZ hW0 d0 d1 d2 d3 d4 d5 e0 e1 e2 e3 e4
    by_cases hx0 : X = 0
    · have HE : Hid (FT = xs) := HF0.out (List.length_eq_zero_iff.1 (by rw [HXL.out]; exact hx0))
      subst hx0
      clear hlt hgl HXL HF0 HFT HZ
      go_wp2
      go_ret
      exact ⟨g, c, K, rfl, by rw [HE.out]; exact O1.out, by rw [HE.out]; exact HLL.out, K1.out, G1.out, .inl rfl⟩
    have i2 : ((X : Int) == 0) = false := by simp; omega
    have d0 := D1.out.cell 0 _ rfl
    have e0 := D2.out.cell 0 _ rfl

    have hsl : s.slot = N := by have := HN.out; simpa using this
    have i3 : (s.slot == N) = true := by simpa using hsl
    have HE : Hid (FT = xs ++ [t]) := by
      show _ = _
      have h1 : lsW ⟨N, L, M, R, P⟩ 0 s t = [t] := by
        have h := HXL.out
        rw [HZ.out] at h ⊢
        split at h
        · rename_i hh; rw [if_pos hh]
        · simp at h; omega
      rw [← HFT.out, h1, fitT_one _ HLT.out]
    have HBW : Hid (B ≤ W1.heap.size) := by show _ ≤ _; have := HSZ1.out; omega
    clear hlt hgl HXL HF0 HFT HZ HN hsl
    obtain rfl := HLL.out
    go_wp2_with (at_builtin; refine append_tL rfl _ _ rfl B (.slice (some ⟨g, 0, none⟩) xs.length c) xs [t] (Nat.zero_lt_succ _) rfl _ rfl O1.out HBW.out (by simp only [List.length_singleton]; omega) ?_; intro g1 c1 w5 ho1 hg1 hl1; have HA1 := Lib.hid (And.intro ho1 (And.intro hg1 hl1)); simp only [List.length_singleton] at HA1 ⊢; clear ho1 hg1 hl1)
    go_ret
    obtain ⟨ho1, hg1, hl1⟩ := HA1.out
    have hob : (Value.slice (some ⟨g, 0, none⟩) xs.length c).ownBlock = some g := rfl
    rw [hob] at hg1 hl1
    have hl2 : g1 = g ∨ w.heap.size ≤ g1 := hl1.elim (fun h => .inl (by injection h with h; exact h.symm)) (fun h => .inr (by have := HSZ1.out; have := HBB.out; omega))
    refine ⟨g1, c1, xs.length + 1, rfl, by rw [HE.out]; exact ho1, by rw [HE.out]; simp, K1.out.grown (L := [g]) ⟨hg1.os, hg1.tape, hg1.output, hg1.size, fun k hk hn => hg1.block k hk (fun h => hn (by injection h with h; simp [h]))⟩ (by simpa using hbg), G1.out.grown hg1 (fun j hj => .inl (by injection hj with hj; simp [hj])), hl2⟩
  | succ n ih =>
    intro s t w g c K xs hn hs hk hown hK hbg hB hxm htn
    have HK := Lib.hid hk
    have hlt := hk.lt
    have hgl := hown.lt g rfl
    have HO := Lib.hid hown
    have HLL : Hid (K = xs.length) := hK
    have HS := Lib.hid hs
    have HN : Hid (s.slot + ((n + 1 : Nat) : Int) = r.slots) := hn
    have HCT : Hid (∀ W, KnI W b r → Calls Tryd.prog 20 #[cV r b, stV s] W fun e w' => e = .returned (.int .i64 (cntS r (n + 1) s : Nat)) ∧ KnI w' b r ∧ GrownL [b] W w') := fun W hW => count_any r HR.out b (n + 1) s W hn hs hW
    have HXL := Lib.hid (lsW_len r (n + 1) s t)
    have HFU : Hid (xs.length = m → fitT m xs (lsW r (n + 1) s t) = xs) := fun h => fitT_full _ h
    have HF0 : Hid (lsW r (n + 1) s t = [] → fitT m xs (lsW r (n + 1) s t) = xs) := fun h => by rw [h]; exact fitT_nil m xs
    have HNX : Hid (∀ k W, Calls Tryd.prog 25 #[shV r, stV s, .bool k] W fun e w' => (∃ s', e = .returned (.tuple #[stV s', .bool (nxB r s k)]) ∧ (nxB r s k = true → s' = nxS r s k)) ∧ Below W.heap.size W w') := fun k W => ruleNext_any r s k W (hs.sm HR.out hn)
    have HIH : Hid (∀ k W g1 c1 K1 xs1, KnI W b r → OwnT W B (.slice (some ⟨g1, 0, none⟩) K1 c1) xs1 → K1 = xs1.length → b ≠ g1 → B ≤ W.heap.size → xs1.length ≤ m → Calls Tryd.prog 22 #[cV r b, .slice (some ⟨g1, 0, none⟩) K1 c1, .string (t ++ chB k), stV (nxS r s k), .int .i64 m] W fun e w' => ∃ g' c' n', e = .returned (.slice (some ⟨g', 0, none⟩) n' c') ∧ OwnT w' B (.slice (some ⟨g', 0, none⟩) n' c') (fitT m xs1 (lsW r n (nxS r s k) (t ++ chB k))) ∧ n' = (fitT m xs1 (lsW r n (nxS r s k) (t ++ chB k))).length ∧ KnI w' b r ∧ GrownL [b, g1] W w' ∧ (g' = g1 ∨ W.heap.size ≤ g')) := fun k W g1 c1 K1 xs1 a1 a2 a3 a4 a5 a6 => by
      have hsz : (t ++ chB k).size = t.size + 1 := by rw [ByteArray.size_append]; cases k <;> rfl
      exact ih (nxS r s k) (t ++ chB k) W g1 c1 K1 xs1 (by rw [nxS_slot]; omega) (hs.nxS HR.out k) a1 a2 a3 a4 a5 a6 (by omega)
    have HTO : Hid (∀ k : Bool, lsTo r n s t m xs ((if k then 1 else 0) + 1) = (if nxB r s k then fitT m (lsTo r n s t m xs (if k then 1 else 0)) (lsW r n (nxS r s k) (t ++ chB k)) else lsTo r n s t m xs (if k then 1 else 0))) := lsTo_one r n s t hxm
    have HTL : Hid (∀ k, (lsTo r n s t m xs k).length ≤ m) := lsTo_len r n s t hxm
    have HT2 : Hid (lsTo r n s t m xs 2 = fitT m xs (lsW r (n + 1) s t)) := rfl
    have hns : ¬ s.slot = r.slots := by omega
    clear ih
    clear hk hown hs hn hK
    obtain ⟨N, L, M, R, P⟩ := r
    obtain ⟨X, hX⟩ : ∃ X, cntS ⟨N, L, M, R, P⟩ (n + 1) s = X := ⟨_, rfl⟩
    rw [hX] at HCT HXL
    obtain ⟨FT, hFT⟩ : ∃ FT, fitT m xs (lsW ⟨N, L, M, R, P⟩ (n + 1) s t) = FT := ⟨_, rfl⟩
    rw [hFT] at HFU HF0 ⊢
    have HFT := Lib.hid hFT
    unfold stV cV at HCT
    show Calls _ _ #[.agg #[.int .i64 N, .int .i64 L, .int .i64 M, .int .i64 R, .int .i64 P, .map (some b)], .slice (some ⟨g, 0, none⟩) K c, .string t, .agg #[.int .i64 s.slot, .int .i64 s.worked, .int .i64 s.row, .int .i64 s.pause, .bool s.begun], .int .i64 m] _ _
    clear hX hFT
    go_enter Tryd.func22, Tryd.ntmps22
    obtain ⟨BB, hBB⟩ : ∃ BB, w.heap.size = BB := ⟨_, rfl⟩
    obtain ⟨W0, hW0⟩ : ∃ W, (w.alloc (.cells #[.int .i64 N, .int .i64 L, .int .i64 M, .int .i64 R, .int .i64 P, .map (some b)] 53)).alloc (.cells #[.int .i64 s.slot, .int .i64 s.worked, .int .i64 s.row, .int .i64 s.pause, .bool s.begun] 57) = W := ⟨_, rfl⟩
    have K0 : Hid (KnI W0 b ⟨N, L, M, R, P⟩) := by show KnI _ _ _; rw [← hW0]; exact (HK.out.alloc _).alloc _
    have G0 : Hid (GrownL [b, g] w W0) := by show GrownL _ _ _; rw [← hW0]; exact ((GrownL.refl [b, g] w).alloc _).alloc _
    have O0 : Hid (OwnT W0 B (.slice (some ⟨g, 0, none⟩) K c) xs) := by show OwnT _ _ _ _; rw [← hW0]; exact (HO.out.alloc _).alloc _
    have C1 : Hid (Blk W0 BB 53 [.int .i64 N, .int .i64 L, .int .i64 M, .int .i64 R, .int .i64 P, .map (some b)]) := by
      show Blk _ _ _ _; rw [← hW0, ← hBB]; exact (Blk.new w _ _).alloc _
    have C2 : Hid (Blk W0 (BB + 1) 57 [.int .i64 s.slot, .int .i64 s.worked, .int .i64 s.row, .int .i64 s.pause, .bool s.begun]) := by
      show Blk _ _ _ _
      have h := Blk.new (w.alloc (.cells #[.int .i64 N, .int .i64 L, .int .i64 M, .int .i64 R, .int .i64 P, .map (some b)] 53)) 57 [.int .i64 s.slot, .int .i64 s.worked, .int .i64 s.row, .int .i64 s.pause, .bool s.begun]
      rw [← hW0, ← hBB]
      simpa using h
    have HSZ : Hid (BB ≤ W0.heap.size) := by show _ ≤ _; rw [← hW0, ← hBB]; simp; omega
    have HBG : Hid (b < BB ∧ g < BB) := by show _ ∧ _; omega
    have d0 := C1.out.cell 0 _ rfl
    have d1 := C1.out.cell 1 _ rfl
    have d2 := C1.out.cell 2 _ rfl
    have d3 := C1.out.cell 3 _ rfl
    have d4 := C1.out.cell 4 _ rfl
    have d5 := C1.out.cell 5 _ rfl
    have e0 := C2.out.cell 0 _ rfl
    have e1 := C2.out.cell 1 _ rfl
    have e2 := C2.out.cell 2 _ rfl
    have e3 := C2.out.cell 3 _ rfl
    have e4 := C2.out.cell 4 _ rfl
    by_cases hfull : K = m
    · have HE : Hid (FT = xs) := HFU.out (by rw [← HLL.out]; exact hfull)
      subst hfull
      clear hlt hgl HCT HXL HFU HF0 HFT HK HO HNX HIH HTO HTL HT2
      go_wp2
      go_ret
      exact ⟨g, c, K, rfl, by rw [HE.out]; exact O0.out, by rw [HE.out]; exact HLL.out, K0.out, G0.out, .inl rfl⟩
    have i1 : ((K : Int) == (m : Int)) = false := by simp; omega
    have HLT : Hid (xs.length < m) := by show _ < _; have := HLL.out; omega
    have HBB := Lib.hid hBB
    have HC1 := Lib.hid (HCT.out W0 K0.out)
    clear HCT HFU HK HO hfull
    go_wp2_with fail
    refine HC1.out.mono ?_
    rintro e W1 ⟨rfl, hk1, hg1⟩
    have K1 := Lib.hid hk1
    have G1 : Hid (GrownL [b, g] w W1) := G0.out.trans hg1.wide
    have O1 : Hid (OwnT W1 B (.slice (some ⟨g, 0, none⟩) K c) xs) := O0.out.grownL hg1 (by simp; exact fun h => hbg h.symm)
    have D1 : Hid (Blk W1 BB 53 [.int .i64 N, .int .i64 L, .int .i64 M, .int .i64 R, .int .i64 P, .map (some b)]) := C1.out.grownL hg1 (by have := HBG.out; simp; omega)
    have D2 : Hid (Blk W1 (BB + 1) 57 [.int .i64 s.slot, .int .i64 s.worked, .int .i64 s.row, .int .i64 s.pause, .bool s.begun]) := C2.out.grownL hg1 (by have := HBG.out; simp; omega)
    have HSZ1 : Hid (BB ≤ W1.heap.size) := Nat.le_trans HSZ.out hg1.size
    clear hk1 hg1 HC1 K0 G0 O0 C1 C2 HSZ hW0 d0 d1 d2 d3 d4 d5 e0 e1 e2 e3 e4
    by_cases hx0 : X = 0
    · have HE : Hid (FT = xs) := HF0.out (List.length_eq_zero_iff.1 (by rw [HXL.out]; exact hx0))
      subst hx0
      clear hlt hgl HXL HF0 HFT HNX HIH HTO HTL HT2
      go_wp2
      go_ret
      exact ⟨g, c, K, rfl, by rw [HE.out]; exact O1.out, by rw [HE.out]; exact HLL.out, K1.out, G1.out, .inl rfl⟩
    have i2 : ((X : Int) == 0) = false := by simp; omega
    have d0 := D1.out.cell 0 _ rfl
    have e0 := D2.out.cell 0 _ rfl
    have hsl : ¬ s.slot = N := hns
    have i3 : (s.slot == N) = false := by simpa using hsl
    have d1 := D1.out.cell 1 _ rfl
    have d2 := D1.out.cell 2 _ rfl
    have d3 := D1.out.cell 3 _ rfl
    have d4 := D1.out.cell 4 _ rfl
    have d5 := D1.out.cell 5 _ rfl
    have e1 := D2.out.cell 1 _ rfl
    have e2 := D2.out.cell 2 _ rfl
    have e3 := D2.out.cell 3 _ rfl
    have e4 := D2.out.cell 4 _ rfl
    go_wp2
    obtain ⟨B3, hB3⟩ : ∃ B3, W1.heap.size = B3 := ⟨_, rfl⟩
    obtain ⟨W2, hW2⟩ : ∃ W, W1.alloc (.cells #[.bool false, .bool true] 4) = W := ⟨_, rfl⟩
    have K2 : Hid (KnI W2 b ⟨N, L, M, R, P⟩) := by show KnI _ _ _; rw [← hW2]; exact K1.out.alloc _
    have G2 : Hid (GrownL [b, g] w W2) := by show GrownL _ _ _; rw [← hW2]; exact G1.out.alloc _
    have O2 : Hid (OwnT W2 B (.slice (some ⟨g, 0, none⟩) K c) xs) := by show OwnT _ _ _ _; rw [← hW2]; exact O1.out.alloc _
    have HF1 : Hid (Blk W2 BB 53 [.int .i64 N, .int .i64 L, .int .i64 M, .int .i64 R, .int .i64 P, .map (some b)]) := by show Blk _ _ _ _; rw [← hW2]; exact D1.out.alloc _
    have HF2 : Hid (Blk W2 (BB + 1) 57 [.int .i64 s.slot, .int .i64 s.worked, .int .i64 s.row, .int .i64 s.pause, .bool s.begun]) := by show Blk _ _ _ _; rw [← hW2]; exact D2.out.alloc _
    have D3 : Hid (Blk W2 B3 4 [.bool false, .bool true]) := by show Blk _ _ _ _; rw [← hW2, ← hB3]; exact Blk.new W1 _ _
    have HBG2 : Hid (b < BB ∧ g < BB ∧ BB ≤ B3 ∧ W2.heap.size = B3 + 1 ∧ B ≤ BB ∧ BB = w.heap.size ∧ b ≠ g) := by
      show _ ∧ _
      have h1 := HBG.out; have h2 := HSZ1.out; have h3 := HBB.out
      refine ⟨h1.1, h1.2, by omega, by rw [← hW2]; simp; omega, by omega, h3.symm, hbg⟩
    rw [hB3, hW2]
    clear hW2 hB3 D1 D2 HBG HSZ1 K1 G1 O1 d0 d1 d2 d3 d4 d5 e0 e1 e2 e3 e4 hlt hgl hx0 i1 i2 hsl hns HF0 HXL hBB
    have D1 := HF1
    have D2 := HF2
    clear HF1 HF2
    have HR0 : Hid (LsR ⟨N, L, M, R, P⟩ n s t m xs b g B W2 (.slice (some ⟨g, 0, none⟩) K c) (.int .i64 0) W2) := ⟨0, g, c, K, by omega, rfl, rfl, HLL.out, O2.out, K2.out, GrownL.refl _ _, .inl rfl⟩
    clear K2 O2 HLL
    go_loopw [1, 38] (fun vo vk wr => LsR ⟨N, L, M, R, P⟩ n s t m xs b g B W2 vo vk wr) (fun _ vk _ => 2 - (intOf vk).toNat)
    case atStart => exact HR0.out
    case round =>
      obtain ⟨k, g1, c1, KL, hk, rfl, rfl, hKL, how, hkn, hg, hgg⟩ := hrel
      have HKL := Lib.hid hKL
      have HOW := Lib.hid how
      have HKN := Lib.hid hkn
      have HG := Lib.hid hg
      have HGG := Lib.hid hgg
      clear HR0 hKL how hkn hg hgg
      have E1 := Lib.hid (D1.out.grownL HG.out (by have := HBG2.out; simp; omega))
      have E2 := Lib.hid (D2.out.grownL HG.out (by have := HBG2.out; simp; omega))
      have d0 := E1.out.cell 0 _ rfl
      have d1 := E1.out.cell 1 _ rfl
      have d2 := E1.out.cell 2 _ rfl
      have d3 := E1.out.cell 3 _ rfl
      have d4 := E1.out.cell 4 _ rfl
      have d5 := E1.out.cell 5 _ rfl
      have e0 := E2.out.cell 0 _ rfl
      have e1 := E2.out.cell 1 _ rfl
      have e2 := E2.out.cell 2 _ rfl
      have e3 := E2.out.cell 3 _ rfl
      have e4 := E2.out.cell 4 _ rfl
      clear E1 E2
      obtain rfl | rfl | rfl : k = 0 ∨ k = 1 ∨ k = 2 := by omega
      · skip
        have HNXq := Lib.hid (HNX.out false wr)
        have HTOq := Lib.hid (HTO.out false)
        have HIHq := Lib.hid (HIH.out false)
        have l1 := HTL.out 0
        have l2 := HTL.out (0 + 1)
        unfold stV shV at HNXq
        unfold stV cV at HIHq
        clear HNX HTO HIH HTL HT2
        simp only [if_pos, if_neg, Bool.false_eq_true, ite_true, ite_false, Nat.zero_add] at HTOq
        obtain ⟨XB, hXB⟩ : ∃ X, nxB ⟨N, L, M, R, P⟩ s false = X := ⟨_, rfl⟩
        rw [hXB] at HNXq HTOq
        clear hXB
        have c3 := (D3.out.grownL HG.out (by have := HBG2.out; simp; omega)).cell 0 (.bool false) rfl
        go_wp2_with fail
        refine HNXq.out.mono ?_
        rintro e W3 ⟨⟨s', rfl, hs'⟩, hb3⟩
        have KN3 := Lib.hid (HKN.out.below hb3 HKN.out.lt)
        have G3 : Hid (GrownL [b, g] W2 W3) := HG.out.below hb3 HG.out.size
        have O3 := Lib.hid (HOW.out.below hb3 (Nat.le_refl _))
        have hg1w := HOW.out.lt g1 rfl
        have hsz3 : wr.heap.size ≤ W3.heap.size := hb3.size
        have E1 := Lib.hid (D1.out.grownL G3.out (by have := HBG2.out; simp; omega))
        have E2 := Lib.hid (D2.out.grownL G3.out (by have := HBG2.out; simp; omega))
        clear hb3 HNXq HKN HG HOW c3 d0 d1 d2 d3 d4 d5 e0 e1 e2 e3 e4
        have d0 := E1.out.cell 0 _ rfl
        have d1 := E1.out.cell 1 _ rfl
        have d2 := E1.out.cell 2 _ rfl
        have d3 := E1.out.cell 3 _ rfl
        have d4 := E1.out.cell 4 _ rfl
        have d5 := E1.out.cell 5 _ rfl
        have dl := E1.out.lt
        clear E2
        cases XB with
        | false =>
          have HQ : Hid (lsTo ⟨N, L, M, R, P⟩ n s t m xs (0 + 1) = lsTo ⟨N, L, M, R, P⟩ n s t m xs 0) := by show _ = _; rw [HTOq.out]; rfl
          go_wp2
          go_roundw
          case rel => exact ⟨0 + 1, g1, c1, KL, by omega, by go_num, rfl, by rw [HQ.out]; exact HKL.out, by rw [HQ.out]; exact O3.out.alloc _, KN3.out.alloc _, G3.out.alloc _, HGG.out⟩
          case measure => simp [intOf]
        | true =>
          have hs' := hs' rfl
          subst hs'
          have HQ : Hid (lsTo ⟨N, L, M, R, P⟩ n s t m xs (0 + 1) = fitT m (lsTo ⟨N, L, M, R, P⟩ n s t m xs 0) (lsW ⟨N, L, M, R, P⟩ n (nxS ⟨N, L, M, R, P⟩ s false) (t ++ chB false))) := by show _ = _; rw [HTOq.out]; rfl
          obtain ⟨W4, hW4⟩ : ∃ W, W3.alloc (.cells #[.int .i64 (nxS ⟨N, L, M, R, P⟩ s false).slot, .int .i64 (nxS ⟨N, L, M, R, P⟩ s false).worked, .int .i64 (nxS ⟨N, L, M, R, P⟩ s false).row, .int .i64 (nxS ⟨N, L, M, R, P⟩ s false).pause, .bool (nxS ⟨N, L, M, R, P⟩ s false).begun] 57) = W := ⟨_, rfl⟩
          have K4 : Hid (KnI W4 b ⟨N, L, M, R, P⟩) := by show KnI _ _ _; rw [← hW4]; exact KN3.out.alloc _
          have G4 : Hid (GrownL [b, g] W2 W4) := by show GrownL _ _ _; rw [← hW4]; exact G3.out.alloc _
          have O4 : Hid (OwnT W4 B (.slice (some ⟨g1, 0, none⟩) KL c1) (lsTo ⟨N, L, M, R, P⟩ n s t m xs 0)) := by show OwnT _ _ _ _; rw [← hW4]; exact O3.out.alloc _
          have HSZ4 : Hid (W3.heap.size < W4.heap.size) := by show _ < _; rw [← hW4]; simp
          have hF1 : Hid (Blk W4 W3.heap.size 57 [.int .i64 (nxS ⟨N, L, M, R, P⟩ s false).slot, .int .i64 (nxS ⟨N, L, M, R, P⟩ s false).worked, .int .i64 (nxS ⟨N, L, M, R, P⟩ s false).row, .int .i64 (nxS ⟨N, L, M, R, P⟩ s false).pause, .bool (nxS ⟨N, L, M, R, P⟩ s false).begun]) := by show Blk _ _ _ _; rw [← hW4]; exact Blk.new W3 _ _
          have hF2 : Hid (Blk W4 BB 53 [.int .i64 N, .int .i64 L, .int .i64 M, .int .i64 R, .int .i64 P, .map (some b)]) := by show Blk _ _ _ _; rw [← hW4]; exact E1.out.alloc _
          clear d0 d1 d2 d3 d4 d5
          have d0 := hF2.out.cell 0 _ rfl
          have d1 := hF2.out.cell 1 _ rfl
          have d2 := hF2.out.cell 2 _ rfl
          have d3 := hF2.out.cell 3 _ rfl
          have d4 := hF2.out.cell 4 _ rfl
          have d5 := hF2.out.cell 5 _ rfl
          have f0 := hF1.out.cell 0 _ rfl
          have f1 := hF1.out.cell 1 _ rfl
          have f2 := hF1.out.cell 2 _ rfl
          have f3 := hF1.out.cell 3 _ rfl
          have f4 := hF1.out.cell 4 _ rfl
          have hgN : g1 < W3.heap.size := by omega
          have hbN : BB < W3.heap.size := dl
          have HXC : Hid (∀ W, GrownL [b, g1] (W4.drewN 1) W → (W.cell? ⟨BB, 0, none⟩ = some (.int .i64 N) ∧ W.cell? ⟨BB, 1, none⟩ = some (.int .i64 L) ∧ W.cell? ⟨BB, 2, none⟩ = some (.int .i64 M) ∧ W.cell? ⟨BB, 3, none⟩ = some (.int .i64 R) ∧ W.cell? ⟨BB, 4, none⟩ = some (.int .i64 P) ∧ W.cell? ⟨BB, 5, none⟩ = some (.map (some b)) ∧ W.cell? ⟨W3.heap.size, 0, none⟩ = some (.int .i64 (nxS ⟨N, L, M, R, P⟩ s false).slot) ∧ W.cell? ⟨W3.heap.size, 1, none⟩ = some (.int .i64 (nxS ⟨N, L, M, R, P⟩ s false).worked) ∧ W.cell? ⟨W3.heap.size, 2, none⟩ = some (.int .i64 (nxS ⟨N, L, M, R, P⟩ s false).row) ∧ W.cell? ⟨W3.heap.size, 3, none⟩ = some (.int .i64 (nxS ⟨N, L, M, R, P⟩ s false).pause) ∧ W.cell? ⟨W3.heap.size, 4, none⟩ = some (.bool (nxS ⟨N, L, M, R, P⟩ s false).begun))) := fun W hW => by
            have q1 := HBG2.out
            have q2 := HGG.out
            have h1 := (hF2.out.drewN 1).grownL hW (by simp; omega)
            have h2 := (hF1.out.drewN 1).grownL hW (by simp; omega)
            exact ⟨h1.cell 0 _ rfl, h1.cell 1 _ rfl, h1.cell 2 _ rfl, h1.cell 3 _ rfl, h1.cell 4 _ rfl, h1.cell 5 _ rfl, h2.cell 0 _ rfl, h2.cell 1 _ rfl, h2.cell 2 _ rfl, h2.cell 3 _ rfl, h2.cell 4 _ rfl⟩
          clear E1 hF2 hF1 KN3 G3 O3 hgN hbN
          have hbg1 : b ≠ g1 := by have h1 := HGG.out; have h2 := HBG2.out; omega
          have hBW4 : B ≤ W4.heap.size := by have h1 := G4.out.size; have h2 := HBG2.out; omega
          have HC4 : Hid (∀ q, _) := fun q => HIHq.out (W4.drewN q) g1 c1 KL (lsTo ⟨N, L, M, R, P⟩ n s t m xs 0) (K4.out.drewN q) (O4.out.drewN q) HKL.out hbg1 hBW4 l1
          rw [chB_0] at HC4 HQ
          have hw2 : IntKind.i64.wrap (0 + 1) = 1 := by decide
          have hw3 : IntKind.i64.wrap 1 = 1 := by decide
          have hta : ¬ 9223372036854775807 < t.size + 1 := by omega
          go_wp2
          go_region_held3 (fun w' => w'.cell? ⟨BB, 0, none⟩ = some (.int .i64 N) ∧ w'.cell? ⟨BB, 1, none⟩ = some (.int .i64 L) ∧ w'.cell? ⟨BB, 2, none⟩ = some (.int .i64 M) ∧ w'.cell? ⟨BB, 3, none⟩ = some (.int .i64 R) ∧ w'.cell? ⟨BB, 4, none⟩ = some (.int .i64 P) ∧ w'.cell? ⟨BB, 5, none⟩ = some (.map (some b)) ∧ w'.cell? ⟨W3.heap.size, 0, none⟩ = some (.int .i64 (nxS ⟨N, L, M, R, P⟩ s false).slot) ∧ w'.cell? ⟨W3.heap.size, 1, none⟩ = some (.int .i64 (nxS ⟨N, L, M, R, P⟩ s false).worked) ∧ w'.cell? ⟨W3.heap.size, 2, none⟩ = some (.int .i64 (nxS ⟨N, L, M, R, P⟩ s false).row) ∧ w'.cell? ⟨W3.heap.size, 3, none⟩ = some (.int .i64 (nxS ⟨N, L, M, R, P⟩ s false).pause) ∧ w'.cell? ⟨W3.heap.size, 4, none⟩ = some (.bool (nxS ⟨N, L, M, R, P⟩ s false).begun)) (first | go_keep)
            ((go_at_call 22; refine (HC4.out 1).mono ?_; rintro e W5 ⟨g2, c2, n2, rfl, ho5, hn5, hk5, hg5, hl5⟩; obtain ⟨z0, z1, z2, z3, z4, z5, z6, z7, z8, z9, z10⟩ := HXC.out W5 hg5; have HA5 := Lib.hid (And.intro ho5 (And.intro hn5 (And.intro hk5 (And.intro hg5 hl5)))); clear ho5 hn5 hk5 hg5 hl5))
          go_wp2
          go_roundw
          case rel =>
            obtain ⟨ho5, hn5, hk5, hg5, hl5⟩ := HA5.out
            have hs4 := G4.out.size
            have hg5' : GrownL [b, g1] W4 W5 := hg5.undrawn
            have hl5' : g2 = g1 ∨ W4.heap.size ≤ g2 := hl5
            have hgg : g1 = g ∨ W2.heap.size ≤ g1 := HGG.out
            exact ⟨0 + 1, g2, c2, n2, by omega, by go_num, rfl, by rw [HQ.out]; exact hn5, by rw [HQ.out]; exact ho5, hk5, G4.out.two hg5' hgg, by omega⟩
          case measure => simp [intOf]
      · skip
        have HNXq := Lib.hid (HNX.out true wr)
        have HTOq := Lib.hid (HTO.out true)
        have HIHq := Lib.hid (HIH.out true)
        have l1 := HTL.out 1
        have l2 := HTL.out (1 + 1)
        unfold stV shV at HNXq
        unfold stV cV at HIHq
        clear HNX HTO HIH HTL HT2
        simp only [if_pos, if_neg, Bool.false_eq_true, ite_true, ite_false, Nat.zero_add] at HTOq
        obtain ⟨XB, hXB⟩ : ∃ X, nxB ⟨N, L, M, R, P⟩ s true = X := ⟨_, rfl⟩
        rw [hXB] at HNXq HTOq
        clear hXB
        have c3 := (D3.out.grownL HG.out (by have := HBG2.out; simp; omega)).cell 1 (.bool true) rfl
        go_wp2_with fail
        refine HNXq.out.mono ?_
        rintro e W3 ⟨⟨s', rfl, hs'⟩, hb3⟩
        have KN3 := Lib.hid (HKN.out.below hb3 HKN.out.lt)
        have G3 : Hid (GrownL [b, g] W2 W3) := HG.out.below hb3 HG.out.size
        have O3 := Lib.hid (HOW.out.below hb3 (Nat.le_refl _))
        have hg1w := HOW.out.lt g1 rfl
        have hsz3 : wr.heap.size ≤ W3.heap.size := hb3.size
        have E1 := Lib.hid (D1.out.grownL G3.out (by have := HBG2.out; simp; omega))
        have E2 := Lib.hid (D2.out.grownL G3.out (by have := HBG2.out; simp; omega))
        clear hb3 HNXq HKN HG HOW c3 d0 d1 d2 d3 d4 d5 e0 e1 e2 e3 e4
        have d0 := E1.out.cell 0 _ rfl
        have d1 := E1.out.cell 1 _ rfl
        have d2 := E1.out.cell 2 _ rfl
        have d3 := E1.out.cell 3 _ rfl
        have d4 := E1.out.cell 4 _ rfl
        have d5 := E1.out.cell 5 _ rfl
        have dl := E1.out.lt
        clear E2
        cases XB with
        | false =>
          have HQ : Hid (lsTo ⟨N, L, M, R, P⟩ n s t m xs (1 + 1) = lsTo ⟨N, L, M, R, P⟩ n s t m xs 1) := by show _ = _; rw [HTOq.out]; rfl
          go_wp2
          go_roundw
          case rel => exact ⟨1 + 1, g1, c1, KL, by omega, by go_num, rfl, by rw [HQ.out]; exact HKL.out, by rw [HQ.out]; exact O3.out.alloc _, KN3.out.alloc _, G3.out.alloc _, HGG.out⟩
          case measure => simp [intOf]
        | true =>
          have hs' := hs' rfl
          subst hs'
          have HQ : Hid (lsTo ⟨N, L, M, R, P⟩ n s t m xs (1 + 1) = fitT m (lsTo ⟨N, L, M, R, P⟩ n s t m xs 1) (lsW ⟨N, L, M, R, P⟩ n (nxS ⟨N, L, M, R, P⟩ s true) (t ++ chB true))) := by show _ = _; rw [HTOq.out]; rfl
          obtain ⟨W4, hW4⟩ : ∃ W, W3.alloc (.cells #[.int .i64 (nxS ⟨N, L, M, R, P⟩ s true).slot, .int .i64 (nxS ⟨N, L, M, R, P⟩ s true).worked, .int .i64 (nxS ⟨N, L, M, R, P⟩ s true).row, .int .i64 (nxS ⟨N, L, M, R, P⟩ s true).pause, .bool (nxS ⟨N, L, M, R, P⟩ s true).begun] 57) = W := ⟨_, rfl⟩
          have K4 : Hid (KnI W4 b ⟨N, L, M, R, P⟩) := by show KnI _ _ _; rw [← hW4]; exact KN3.out.alloc _
          have G4 : Hid (GrownL [b, g] W2 W4) := by show GrownL _ _ _; rw [← hW4]; exact G3.out.alloc _
          have O4 : Hid (OwnT W4 B (.slice (some ⟨g1, 0, none⟩) KL c1) (lsTo ⟨N, L, M, R, P⟩ n s t m xs 1)) := by show OwnT _ _ _ _; rw [← hW4]; exact O3.out.alloc _
          have HSZ4 : Hid (W3.heap.size < W4.heap.size) := by show _ < _; rw [← hW4]; simp
          have hF1 : Hid (Blk W4 W3.heap.size 57 [.int .i64 (nxS ⟨N, L, M, R, P⟩ s true).slot, .int .i64 (nxS ⟨N, L, M, R, P⟩ s true).worked, .int .i64 (nxS ⟨N, L, M, R, P⟩ s true).row, .int .i64 (nxS ⟨N, L, M, R, P⟩ s true).pause, .bool (nxS ⟨N, L, M, R, P⟩ s true).begun]) := by show Blk _ _ _ _; rw [← hW4]; exact Blk.new W3 _ _
          have hF2 : Hid (Blk W4 BB 53 [.int .i64 N, .int .i64 L, .int .i64 M, .int .i64 R, .int .i64 P, .map (some b)]) := by show Blk _ _ _ _; rw [← hW4]; exact E1.out.alloc _
          clear d0 d1 d2 d3 d4 d5
          have d0 := hF2.out.cell 0 _ rfl
          have d1 := hF2.out.cell 1 _ rfl
          have d2 := hF2.out.cell 2 _ rfl
          have d3 := hF2.out.cell 3 _ rfl
          have d4 := hF2.out.cell 4 _ rfl
          have d5 := hF2.out.cell 5 _ rfl
          have f0 := hF1.out.cell 0 _ rfl
          have f1 := hF1.out.cell 1 _ rfl
          have f2 := hF1.out.cell 2 _ rfl
          have f3 := hF1.out.cell 3 _ rfl
          have f4 := hF1.out.cell 4 _ rfl
          have hgN : g1 < W3.heap.size := by omega
          have hbN : BB < W3.heap.size := dl
          have HXC : Hid (∀ W, GrownL [b, g1] (W4.drewN 1) W → (W.cell? ⟨BB, 0, none⟩ = some (.int .i64 N) ∧ W.cell? ⟨BB, 1, none⟩ = some (.int .i64 L) ∧ W.cell? ⟨BB, 2, none⟩ = some (.int .i64 M) ∧ W.cell? ⟨BB, 3, none⟩ = some (.int .i64 R) ∧ W.cell? ⟨BB, 4, none⟩ = some (.int .i64 P) ∧ W.cell? ⟨BB, 5, none⟩ = some (.map (some b)) ∧ W.cell? ⟨W3.heap.size, 0, none⟩ = some (.int .i64 (nxS ⟨N, L, M, R, P⟩ s true).slot) ∧ W.cell? ⟨W3.heap.size, 1, none⟩ = some (.int .i64 (nxS ⟨N, L, M, R, P⟩ s true).worked) ∧ W.cell? ⟨W3.heap.size, 2, none⟩ = some (.int .i64 (nxS ⟨N, L, M, R, P⟩ s true).row) ∧ W.cell? ⟨W3.heap.size, 3, none⟩ = some (.int .i64 (nxS ⟨N, L, M, R, P⟩ s true).pause) ∧ W.cell? ⟨W3.heap.size, 4, none⟩ = some (.bool (nxS ⟨N, L, M, R, P⟩ s true).begun))) := fun W hW => by
            have q1 := HBG2.out
            have q2 := HGG.out
            have h1 := (hF2.out.drewN 1).grownL hW (by simp; omega)
            have h2 := (hF1.out.drewN 1).grownL hW (by simp; omega)
            exact ⟨h1.cell 0 _ rfl, h1.cell 1 _ rfl, h1.cell 2 _ rfl, h1.cell 3 _ rfl, h1.cell 4 _ rfl, h1.cell 5 _ rfl, h2.cell 0 _ rfl, h2.cell 1 _ rfl, h2.cell 2 _ rfl, h2.cell 3 _ rfl, h2.cell 4 _ rfl⟩
          clear E1 hF2 hF1 KN3 G3 O3 hgN hbN
          have hbg1 : b ≠ g1 := by have h1 := HGG.out; have h2 := HBG2.out; omega
          have hBW4 : B ≤ W4.heap.size := by have h1 := G4.out.size; have h2 := HBG2.out; omega
          have HC4 : Hid (∀ q, _) := fun q => HIHq.out (W4.drewN q) g1 c1 KL (lsTo ⟨N, L, M, R, P⟩ n s t m xs 1) (K4.out.drewN q) (O4.out.drewN q) HKL.out hbg1 hBW4 l1
          rw [chB_1] at HC4 HQ
          have hw2 : IntKind.i64.wrap (1 + 1) = 2 := by decide
          have hw3 : IntKind.i64.wrap 2 = 2 := by decide
          have hta : ¬ 9223372036854775807 < t.size + 1 := by omega
          go_wp2
          go_region_held3 (fun w' => w'.cell? ⟨BB, 0, none⟩ = some (.int .i64 N) ∧ w'.cell? ⟨BB, 1, none⟩ = some (.int .i64 L) ∧ w'.cell? ⟨BB, 2, none⟩ = some (.int .i64 M) ∧ w'.cell? ⟨BB, 3, none⟩ = some (.int .i64 R) ∧ w'.cell? ⟨BB, 4, none⟩ = some (.int .i64 P) ∧ w'.cell? ⟨BB, 5, none⟩ = some (.map (some b)) ∧ w'.cell? ⟨W3.heap.size, 0, none⟩ = some (.int .i64 (nxS ⟨N, L, M, R, P⟩ s true).slot) ∧ w'.cell? ⟨W3.heap.size, 1, none⟩ = some (.int .i64 (nxS ⟨N, L, M, R, P⟩ s true).worked) ∧ w'.cell? ⟨W3.heap.size, 2, none⟩ = some (.int .i64 (nxS ⟨N, L, M, R, P⟩ s true).row) ∧ w'.cell? ⟨W3.heap.size, 3, none⟩ = some (.int .i64 (nxS ⟨N, L, M, R, P⟩ s true).pause) ∧ w'.cell? ⟨W3.heap.size, 4, none⟩ = some (.bool (nxS ⟨N, L, M, R, P⟩ s true).begun)) (first | go_keep)
            ((go_at_call 22; refine (HC4.out 1).mono ?_; rintro e W5 ⟨g2, c2, n2, rfl, ho5, hn5, hk5, hg5, hl5⟩; obtain ⟨z0, z1, z2, z3, z4, z5, z6, z7, z8, z9, z10⟩ := HXC.out W5 hg5; have HA5 := Lib.hid (And.intro ho5 (And.intro hn5 (And.intro hk5 (And.intro hg5 hl5)))); clear ho5 hn5 hk5 hg5 hl5))
          go_wp2
          go_roundw
          case rel =>
            obtain ⟨ho5, hn5, hk5, hg5, hl5⟩ := HA5.out
            have hs4 := G4.out.size
            have hg5' : GrownL [b, g1] W4 W5 := hg5.undrawn
            have hl5' : g2 = g1 ∨ W4.heap.size ≤ g2 := hl5
            have hgg : g1 = g ∨ W2.heap.size ≤ g1 := HGG.out
            exact ⟨1 + 1, g2, c2, n2, by omega, by go_num, rfl, by rw [HQ.out]; exact hn5, by rw [HQ.out]; exact ho5, hk5, G4.out.two hg5' hgg, by omega⟩
          case measure => simp [intOf]
      · have HE : Hid (lsTo ⟨N, L, M, R, P⟩ n s t m xs 2 = FT) := by show _ = _; rw [HT2.out, HFT.out]
        rw [HE.out] at HKL HOW
        clear HNX HIH HTO HTL HT2 HE HFT
        go_wp2
        go_ret
        have hG := G2.out.two HG.out (.inl rfl)
        refine ⟨g1, c1, KL, rfl, HOW.out, HKL.out, HKN.out, hG, ?_⟩
        have h1 := HGG.out; have h2 := HBG2.out
        omega
end Go.Proofs.YtbocedlldaeanaaDoor

namespace Go.Proofs.YtbocedlldaeanaaDoor
open Go.RowKit Go.Shelf Go.BigFrame
set_option linter.unusedVariables false
set_option linter.unusedSimpArgs false

theorem GrownL.set1 (W : World) (p : Addr) (v : Value) : GrownL [p.block] W (W.setCell p v) := (GrownL.refl _ W).setCell p v (.inl (by simp))
theorem minR_any (a b : Int) (w : World) : Calls Tryd.prog 31 #[.int .i64 a, .int .i64 b] w fun e w' => e = .returned (.int .i64 (min a b)) ∧ w = w' := by
  by_cases h : a < b
  · have HM : Hid (min a b = a) := by show _ = _; omega
    go_enter Tryd.func31, Tryd.ntmps31
    go_wp2
    go_ret
    exact ⟨ret_int HM.out.symm, rfl⟩
  · have HM : Hid (min a b = b) := by show _ = _; omega
    go_enter Tryd.func31, Tryd.ntmps31
    go_wp2
    go_ret
    exact ⟨ret_int HM.out.symm, rfl⟩
set_option maxRecDepth 100000 in
set_option maxHeartbeats 4000000 in
theorem drawRule_any (v : Value) (xs : List Int) (g a : Nat) (w : World) (hv : ∀ W, GrownL [g] w W → Byts W v xs) (hb : ∀ n ∈ xs, (Lit.int .u8 n).wf = true) (hs : Src w g v a) (ha : a ≤ 1000000) :
    Calls Tryd.prog 18 #[.pointer (some ⟨g, 0, none⟩)] w fun e w' => (∃ r : ShR, e = .returned (shV r) ∧ r.Ok ∧ r.slots ≤ 8) ∧ GrownL [g] w w' := by
  have hgl := hs.lt
  have HPK : Hid (∀ a (n : Int) W, GrownL [g] w W → Src W g v a → a ≤ 1099511627776 → n ≤ 200 → Calls Tryd.prog 26 #[.pointer (some ⟨g, 0, none⟩), .int .i64 n] W fun e w' => (∃ x : Int, e = .returned (.int .i64 x) ∧ 0 ≤ x ∧ (1 ≤ n → x < n)) ∧ (∃ a', a' ≤ a + 1 ∧ Src w' g v a') ∧ GrownL [g] W w') := fun a n W hW h1 h2 h3 => pick_any v xs g a n W (hv W hW) hb h1 h2 h3
  obtain ⟨R2, hR2⟩ : ∃ R, w.heap.size = R := ⟨_, rfl⟩
  have HR2 := Lib.hid hR2
  obtain ⟨W0, hW0⟩ : ∃ W, w.alloc (.cells #[.int .i64 0, .int .i64 0, .int .i64 0, .int .i64 0, .int .i64 0] 25) = W := ⟨_, rfl⟩
  have G0 : Hid (GrownL [g] w W0) := by show GrownL _ _ _; rw [← hW0]; exact (GrownL.refl _ _).alloc _
  have S0 : Hid (Src W0 g v a) := by show Src _ _ _ _; rw [← hW0]; exact hs.grown ((GrownL.refl [] w).alloc _) (by simp)
  have KR0 : Hid (Blk W0 R2 25 [.int .i64 0, .int .i64 0, .int .i64 0, .int .i64 0, .int .i64 0]) := by show Blk _ _ _ _; rw [← hW0, ← hR2]; exact Blk.new w _ _
  have hgR : g < R2 := by omega
  clear hv hb hs hgl
  go_enter Tryd.func18, Tryd.ntmps18
  go_wp2_with fail
  refine (HPK.out a 8 W0 G0.out S0.out (by omega) (by omega)).mono ?_
  rintro e W1 ⟨⟨x1, rfl, p1, q1⟩, ⟨a1, ha1, hs1⟩, hg1⟩
  have q1 := q1 (by omega)
  have KR1 := Lib.hid (KR0.out.grownL hg1 (by simp; omega))
  have hG1 : Hid (GrownL [g] w W1) := G0.out.trans hg1
  have hRB : R2 < W1.heap.size := KR1.out.lt
  have w1 : IntKind.i64.wrap (1 + x1) = 1 + x1 := IntWalk.i64_in _ (by omega)
  have w2 : IntKind.i64.wrap (1 + x1 + 1) = 1 + x1 + 1 := IntWalk.i64_in _ (by omega)
  have G2 : Hid (GrownL [g] w (W1.alloc (.cells #[.int .i64 (1 + x1), .int .i64 0, .int .i64 0, .int .i64 0, .int .i64 0] 25))) := hG1.out.alloc _
  have S2 : Hid (Src (W1.alloc (.cells #[.int .i64 (1 + x1), .int .i64 0, .int .i64 0, .int .i64 0, .int .i64 0] 25)) g v a1) := hs1.grown ((GrownL.refl [] W1).alloc _) (by simp)
  have KR2 : Hid (Blk (W1.alloc (.cells #[.int .i64 (1 + x1), .int .i64 0, .int .i64 0, .int .i64 0, .int .i64 0] 25)) R2 25 [.int .i64 0, .int .i64 0, .int .i64 0, .int .i64 0, .int .i64 0]) := KR1.out.alloc _
  have KB2 : Hid (Blk (W1.alloc (.cells #[.int .i64 (1 + x1), .int .i64 0, .int .i64 0, .int .i64 0, .int .i64 0] 25)) W1.heap.size 25 [.int .i64 (1 + x1), .int .i64 0, .int .i64 0, .int .i64 0, .int .i64 0]) := Blk.new W1 _ _
  have hgB : g < W1.heap.size := by omega
  have HP2 := Lib.hid (HPK.out a1 (1 + x1 + 1) _ G2.out S2.out (by omega) (by omega))
  clear hs1 hg1 G0 S0 KR0 KR1 hG1 hR2 hW0
  go_wp2_with fail
  refine HP2.out.mono ?_
  rintro e W3 ⟨⟨x2, rfl, p2, q2⟩, ⟨a2, ha2, hs2⟩, hg2⟩
  have q2 := q2 (by omega)
  have KR3 := Lib.hid (KR2.out.grownL hg2 (by simp; omega))
  have KB3 := Lib.hid (KB2.out.grownL hg2 (by simp; omega))
  have G3 : Hid (GrownL [g] w W3) := G2.out.trans hg2
  have c0 := KB3.out.cell 0 _ rfl
  have c1 := KB3.out.cell 1 _ rfl
  have c2 := KB3.out.cell 2 _ rfl
  have c3 := KB3.out.cell 3 _ rfl
  have c4 := KB3.out.cell 4 _ rfl
  have f0 := KB3.out.frozen 0
  have f1 := KB3.out.frozen 1
  have f2 := KB3.out.frozen 2
  have f3 := KB3.out.frozen 3
  have f4 := KB3.out.frozen 4
  have GS3 : Hid (GrownL [g] w (W3.setCell ⟨W1.heap.size, 2, none⟩ (.int .i64 x2))) := G3.out.setCell _ _ (.inr (by have := HR2.out; show w.heap.size ≤ W1.heap.size; omega))
  have SS3 : Hid (Src (W3.setCell ⟨W1.heap.size, 2, none⟩ (.int .i64 x2)) g v a2) := hs2.grown (GrownL.set1 W3 _ _) (by simp; omega)
  have KRS3 : Hid (Blk (W3.setCell ⟨W1.heap.size, 2, none⟩ (.int .i64 x2)) R2 25 [.int .i64 0, .int .i64 0, .int .i64 0, .int .i64 0, .int .i64 0]) := KR3.out.far _ _ (by show R2 ≠ W1.heap.size; omega)
  have KBS3 : Hid (Blk (W3.setCell ⟨W1.heap.size, 2, none⟩ (.int .i64 x2)) W1.heap.size 25 [.int .i64 (1 + x1), .int .i64 0, .int .i64 x2, .int .i64 0, .int .i64 0]) := KB3.out.set 2 _
  have w3 : IntKind.i64.wrap (x2 + 1) = x2 + 1 := IntWalk.i64_in _ (by omega)
  have HP3 := Lib.hid (HPK.out a2 (x2 + 1) _ GS3.out SS3.out (by omega) (by omega))
  clear hs2 hg2 HP2 KR2 KB2 G2 S2 KR3 KB3 G3
  go_wp2_with fail
  refine HP3.out.mono ?_
  rintro e W4 ⟨⟨x3, rfl, p3, q3⟩, ⟨a3, ha3, hs3⟩, hg3⟩
  have q3 := q3 (by omega)
  clear c0 c1 c2 c3 c4 f0 f1 f2 f3 f4
  have KR4 := Lib.hid (KRS3.out.grownL hg3 (by simp; omega))
  have KB4 := Lib.hid (KBS3.out.grownL hg3 (by simp; omega))
  have G4 : Hid (GrownL [g] w W4) := GS3.out.trans hg3
  have c0 := KB4.out.cell 0 _ rfl
  have c1 := KB4.out.cell 1 _ rfl
  have c2 := KB4.out.cell 2 _ rfl
  have c3 := KB4.out.cell 3 _ rfl
  have c4 := KB4.out.cell 4 _ rfl
  have f0 := KB4.out.frozen 0
  have f1 := KB4.out.frozen 1
  have f2 := KB4.out.frozen 2
  have f3 := KB4.out.frozen 3
  have f4 := KB4.out.frozen 4
  have GS4 : Hid (GrownL [g] w (W4.setCell ⟨W1.heap.size, 1, none⟩ (.int .i64 x3))) := G4.out.setCell _ _ (.inr (by have := HR2.out; show w.heap.size ≤ W1.heap.size; omega))
  have SS4 : Hid (Src (W4.setCell ⟨W1.heap.size, 1, none⟩ (.int .i64 x3)) g v a3) := hs3.grown (GrownL.set1 W4 _ _) (by simp; omega)
  have KRS4 : Hid (Blk (W4.setCell ⟨W1.heap.size, 1, none⟩ (.int .i64 x3)) R2 25 [.int .i64 0, .int .i64 0, .int .i64 0, .int .i64 0, .int .i64 0]) := KR4.out.far _ _ (by show R2 ≠ W1.heap.size; omega)
  have KBS4 : Hid (Blk (W4.setCell ⟨W1.heap.size, 1, none⟩ (.int .i64 x3)) W1.heap.size 25 [.int .i64 (1 + x1), .int .i64 x3, .int .i64 x2, .int .i64 0, .int .i64 0]) := KB4.out.set 1 _
  have HP4 := Lib.hid (HPK.out a3 (1 + x1) _ GS4.out SS4.out (by omega) (by omega))
  clear hs3 hg3 HP3 KRS3 KBS3 GS3 SS3 KR4 KB4 G4
  go_wp2_with fail
  refine HP4.out.mono ?_
  rintro e W5 ⟨⟨x4, rfl, p4, q4⟩, ⟨a4, ha4, hs4⟩, hg4⟩
  have q4 := q4 (by omega)
  have w4 : IntKind.i64.wrap (1 + x4) = 1 + x4 := IntWalk.i64_in _ (by omega)
  clear c0 c1 c2 c3 c4 f0 f1 f2 f3 f4
  have KR5 := Lib.hid (KRS4.out.grownL hg4 (by simp; omega))
  have KB5 := Lib.hid (KBS4.out.grownL hg4 (by simp; omega))
  have G5 : Hid (GrownL [g] w W5) := GS4.out.trans hg4
  have c0 := KB5.out.cell 0 _ rfl
  have c1 := KB5.out.cell 1 _ rfl
  have c2 := KB5.out.cell 2 _ rfl
  have c3 := KB5.out.cell 3 _ rfl
  have c4 := KB5.out.cell 4 _ rfl
  have f0 := KB5.out.frozen 0
  have f1 := KB5.out.frozen 1
  have f2 := KB5.out.frozen 2
  have f3 := KB5.out.frozen 3
  have f4 := KB5.out.frozen 4
  have GS5 : Hid (GrownL [g] w (W5.setCell ⟨W1.heap.size, 3, none⟩ (.int .i64 (1 + x4)))) := G5.out.setCell _ _ (.inr (by have := HR2.out; show w.heap.size ≤ W1.heap.size; omega))
  have SS5 : Hid (Src (W5.setCell ⟨W1.heap.size, 3, none⟩ (.int .i64 (1 + x4))) g v a4) := hs4.grown (GrownL.set1 W5 _ _) (by simp; omega)
  have KRS5 : Hid (Blk (W5.setCell ⟨W1.heap.size, 3, none⟩ (.int .i64 (1 + x4))) R2 25 [.int .i64 0, .int .i64 0, .int .i64 0, .int .i64 0, .int .i64 0]) := KR5.out.far _ _ (by show R2 ≠ W1.heap.size; omega)
  have KBS5 : Hid (Blk (W5.setCell ⟨W1.heap.size, 3, none⟩ (.int .i64 (1 + x4))) W1.heap.size 25 [.int .i64 (1 + x1), .int .i64 x3, .int .i64 x2, .int .i64 (1 + x4), .int .i64 0]) := KB5.out.set 3 _
  have HP5 := Lib.hid (HPK.out a4 (min 3 (1 + x1)) _ GS5.out SS5.out (by omega) (by omega))
  have HMIN := Lib.hid (minR_any 3 (1 + x1) (W5.setCell ⟨W1.heap.size, 3, none⟩ (.int .i64 (1 + x4))))
  clear hs4 hg4 HP4 KRS4 KBS4 GS4 SS4 KR5 KB5 G5
  go_wp2_with fail
  refine HMIN.out.mono ?_
  rintro e W5' ⟨rfl, hw5⟩
  subst hw5
  go_wp2_with fail
  refine HP5.out.mono ?_
  rintro e W6 ⟨⟨x5, rfl, p5, q5⟩, ⟨a5, ha5, hs5⟩, hg5⟩
  have q5 := q5 (by omega)
  have w5 : IntKind.i64.wrap (1 + x5) = 1 + x5 := IntWalk.i64_in _ (by omega)
  clear c0 c1 c2 c3 c4 f0 f1 f2 f3 f4
  have KR6 := Lib.hid (KRS5.out.grownL hg5 (by simp; omega))
  have KB6 := Lib.hid (KBS5.out.grownL hg5 (by simp; omega))
  have G6 : Hid (GrownL [g] w W6) := GS5.out.trans hg5
  have c0 := KB6.out.cell 0 _ rfl
  have c1 := KB6.out.cell 1 _ rfl
  have c2 := KB6.out.cell 2 _ rfl
  have c3 := KB6.out.cell 3 _ rfl
  have c4 := KB6.out.cell 4 _ rfl
  have f4 := KB6.out.frozen 4
  have r0 := KR6.out.cell 0 _ rfl
  have r1 := KR6.out.cell 1 _ rfl
  have r2 := KR6.out.cell 2 _ rfl
  have r3 := KR6.out.cell 3 _ rfl
  have r4 := KR6.out.cell 4 _ rfl
  have g0 := KR6.out.frozen 0
  have g1 := KR6.out.frozen 1
  have g2 := KR6.out.frozen 2
  have g3 := KR6.out.frozen 3
  have g4 := KR6.out.frozen 4
  have hne : ¬ R2 = W1.heap.size := by omega
  have hne' : ¬ W1.heap.size = R2 := by omega
  have hrl := KR6.out.lt
  have HOK : Hid (ShR.Ok ⟨1 + x1, x3, x2, 1 + x4, 1 + x5⟩ ∧ 1 + x1 ≤ 8) := by
    show ShR.Ok _ ∧ _
    refine ⟨⟨?_, ?_, ?_, ?_, ?_, ?_, ?_, ?_, ?_⟩, ?_⟩ <;> first | omega | (dsimp only; omega)
  clear hs5 HP5 KRS5 KBS5 GS5 SS5 HMIN
  go_wp2
  refine bodyPost_ret (v := shV ⟨1 + x1, x3, x2, 1 + x4, 1 + x5⟩) (by simp [results, Tryd.results18, go_sem, shV, r0, r1, r2, r3, r4, hrl]) rfl ⟨⟨_, rfl, HOK.out.1, HOK.out.2⟩, ?_⟩
  have hw := HR2.out
  refine (((((G6.out.setCell _ _ (.inr ?_)).setCell _ _ (.inr ?_)).setCell _ _ (.inr ?_)).setCell _ _ (.inr ?_)).setCell _ _ (.inr ?_)).setCell _ _ (.inr ?_) <;> (dsimp only; omega)

set_option maxRecDepth 100000 in
set_option maxHeartbeats 800000 in
theorem R8Rule_any (v : Value) (xs : List Int) (w : World) (hv : Byts w v xs) (hb : ∀ n ∈ xs, (Lit.int .u8 n).wf = true) :
    Calls Tryd.prog 5 #[v] w fun e w' => (∃ r : ShR, e = .returned (shV r) ∧ r.Ok ∧ r.slots ≤ 8) ∧ Below w.heap.size w w' := by
  have B0 : Hid (Below w.heap.size w (w.alloc (.cells #[.int .i64 0, .int .i64 0, .int .i64 0, .int .i64 0, .int .i64 0] 25))) := (Below.refl _ w).alloc (Nat.le_refl _) _
  have KR0 : Hid (Blk (w.alloc (.cells #[.int .i64 0, .int .i64 0, .int .i64 0, .int .i64 0, .int .i64 0] 25)) w.heap.size 25 [.int .i64 0, .int .i64 0, .int .i64 0, .int .i64 0, .int .i64 0]) := Blk.new w _ _
  have HFR := Lib.hid (from_any v xs _ (hv.below B0.out (Nat.le_refl _)))
  have HDR : Hid (∀ W g, Below w.heap.size w W → w.heap.size ≤ g → Src W g v 0 → Calls Tryd.prog 18 #[.pointer (some ⟨g, 0, none⟩)] W fun e w' => (∃ r : ShR, e = .returned (shV r) ∧ r.Ok ∧ r.slots ≤ 8) ∧ GrownL [g] W w') := fun W g hW hg hs => drawRule_any v xs g 0 W (fun W' hW' => hv.below (hW'.toBelow hW hW.size (by simp; omega)) (Nat.le_refl _)) hb hs (by omega)
  have hsz : (w.alloc (.cells #[.int .i64 0, .int .i64 0, .int .i64 0, .int .i64 0, .int .i64 0] 25)).heap.size = w.heap.size + 1 := by simp
  rw [hsz] at HFR
  obtain ⟨hm, ad, c, rfl, hcap, hc⟩ := hv
  clear hc hb hsz
  go_enter Tryd.func5, Tryd.ntmps5
  go_wp2_with fail
  refine HFR.out.mono ?_
  rintro e W1 ⟨rfl, hs1, hb1, hz1⟩
  have B1 : Hid (Below w.heap.size w W1) := B0.out.trans (hb1.mono (by omega))
  have KR1 := Lib.hid (KR0.out.below hb1 (by omega))
  have HD1 := Lib.hid (HDR.out W1 _ B1.out (by omega) hs1)
  clear hs1 hb1 hz1 HFR HDR B0 KR0
  go_wp2_with fail
  refine HD1.out.mono ?_
  rintro e W2 ⟨⟨⟨N, L, M, R, P⟩, rfl, hok, h8⟩, hg2⟩
  have B2 : Hid (Below w.heap.size w W2) := hg2.toBelow B1.out B1.out.size (by intro i hi; simp; omega)
  have KR2 := Lib.hid (KR1.out.grownL hg2 (by simp))
  have HOK := Lib.hid (And.intro hok h8)
  clear hok h8 hg2 HD1 B1 KR1
  unfold shV
  have r0 := KR2.out.cell 0 _ rfl
  have r1 := KR2.out.cell 1 _ rfl
  have r2 := KR2.out.cell 2 _ rfl
  have r3 := KR2.out.cell 3 _ rfl
  have r4 := KR2.out.cell 4 _ rfl
  have g0 := KR2.out.frozen 0
  have g1 := KR2.out.frozen 1
  have g2 := KR2.out.frozen 2
  have g3 := KR2.out.frozen 3
  have g4 := KR2.out.frozen 4
  have hrl := KR2.out.lt
  go_wp2
  refine bodyPost_ret (v := shV ⟨N, L, M, R, P⟩) (by simp [results, Tryd.results5, go_sem, shV, r0, r1, r2, r3, r4, hrl]) rfl ⟨⟨⟨N, L, M, R, P⟩, rfl, HOK.out.1, HOK.out.2⟩, ?_⟩
  exact ((((B2.out.setCell (Nat.le_refl _) _).setCell (Nat.le_refl _) _).setCell (Nat.le_refl _) _).setCell (Nat.le_refl _) _).setCell (Nat.le_refl _) _
def BelD (A t : Nat) (v : Value) (w : World) (vo vn : Value) (wr : World) : Prop :=
  ∃ (n k g c a : Nat) (ys : List Int), n ≤ t ∧ vn = .int .i64 n ∧ vo = .slice (some ⟨g, 0, none⟩) k c ∧ k + n = t ∧ a ≤ k ∧ Hid (k = ys.length) ∧ Hid (∀ x ∈ ys, 0 ≤ x ∧ x < 4) ∧ Hid (OwnI wr (A + 1) (.slice (some ⟨g, 0, none⟩) k c) ys) ∧ Hid (Src wr A v a) ∧ Hid (Below A w wr)
set_option maxRecDepth 100000 in
set_option maxHeartbeats 2000000 in
theorem R8Below_any (v : Value) (xs : List Int) (t : Nat) (w : World) (hv : Byts w v xs) (hb : ∀ n ∈ xs, (Lit.int .u8 n).wf = true) (h2 : t ≤ 200) :
    Calls Tryd.prog 14 #[v, .int .i64 (t : Int), .int .i64 4] w fun e w' => (∃ g c, e = .returned (.slice (some ⟨g, 0, none⟩) t c) ∧ ∃ ys, OwnI w' w.heap.size (.slice (some ⟨g, 0, none⟩) t c) ys ∧ t = ys.length ∧ ∀ x ∈ ys, 0 ≤ x ∧ x < 4) ∧ Below w.heap.size w w' := by
  have HFR := Lib.hid (from_any v xs w hv)
  have HPK : Hid (∀ g a (n : Int) W, Below w.heap.size w W → Src W g v a → a ≤ 1099511627776 → n ≤ 200 → Calls Tryd.prog 26 #[.pointer (some ⟨g, 0, none⟩), .int .i64 n] W fun e w' => (∃ x : Int, e = .returned (.int .i64 x) ∧ 0 ≤ x ∧ (1 ≤ n → x < n)) ∧ (∃ a', a' ≤ a + 1 ∧ Src w' g v a') ∧ GrownL [g] W w') := fun g a n W hW hs ha hn => pick_any v xs g a n W (hv.below hW (Nat.le_refl _)) hb hs ha hn
  clear hv hb
  obtain ⟨A, hA⟩ : ∃ A, w.heap.size = A := ⟨_, rfl⟩
  have HA := Lib.hid hA
  have HSZ : Hid (∀ W, Below A w W → A ≤ W.heap.size) := fun W h => by rw [← hA]; exact h.size
  clear hA
  go_enter Tryd.func14, Tryd.ntmps14
  go_wp2_with fail
  refine HFR.out.mono ?_
  rintro e W1 ⟨rfl, hs1, hb1, hz1⟩
  rw [HA.out] at hs1 hb1 hz1
  obtain ⟨W2, hW2⟩ : ∃ W, W1.alloc (.cells #[] 2) = W := ⟨_, rfl⟩
  have HR0 : Hid (BelD A t v w (.slice (some ⟨W1.heap.size, 0, none⟩) 0 0) (.int .i64 t) W2) := by
    show BelD _ _ _ _ _ _ _
    rw [← hW2]
    exact ⟨t, 0, W1.heap.size, 0, 0, [], Nat.le_refl _, rfl, rfl, by omega, Nat.le_refl _, rfl, (fun x hx => by cases hx), OwnI.lit W1 (A + 1) [] (by omega) (by unfold maxLen; simp), hs1.grown ((GrownL.refl [] W1).alloc _) (by simp), hb1.alloc (by omega) _⟩
  clear hs1 hb1 hz1
  rw [HA.out]
  go_wp2
  go_loopw [8, 1] (fun vo vn wr => BelD A t v w vo vn wr) (fun _ vn _ => (intOf vn).toNat)
  case atStart => exact HR0.out
  case round =>
    obtain ⟨n, k, g, c, a, ys, hn, rfl, rfl, hkn, ha, HK, HP, HO, HS, HB⟩ := hrel
    clear HR0 hW2
    by_cases hgo : 0 < n
    · have i1 : (n : Int) > 0 := by omega
      have hgA : A + 1 ≤ g ∧ g < wr.heap.size := HO.out.lt g rfl
      go_wp2_with fail
      refine (HPK.out _ _ _ _ (by rw [HA.out]; exact HB.out) HS.out (by omega) (by omega)).mono ?_
      rintro e W3 ⟨⟨p, rfl, p0, p1⟩, ⟨a3, ha3, hs3⟩, hg3⟩
      have p1 := p1 (by omega)
      have HS3 := Lib.hid hs3
      have HO3 := Lib.hid (hg3.own HO.out (by simp; omega))
      have HB3 : Hid (Below A w W3) := hg3.toBelow HB.out (HSZ.out _ HB.out) (by simp; omega)
      clear hs3 hg3 HS HO HB
      have hA4 : A + 1 ≤ W3.heap.size := by have := HS3.out.lt; omega
      have HKL : Hid (ys.length = k) := HK.out.symm
      go_wp2_with (at_builtin; refine append_i64L rfl _ _ rfl (A + 1) (.slice (some ⟨g, 0, none⟩) k c) ys [p] (Nat.zero_lt_succ _) rfl _ rfl HO3.out hA4 (by rw [HKL.out]; simp only [List.length_singleton]; omega) ?_; intro g1 c1 w5 ho1 hg1 hl1; have HA1 := Lib.hid (And.intro ho1 hg1); simp only [HKL.out, List.length_singleton] at HA1 ⊢; clear ho1 hg1 hl1)
      go_roundw
      case rel =>
        obtain ⟨ho1, hg1⟩ := HA1.out
        refine ⟨n - 1, k + 1, g1, c1, a3, ys ++ [p], by omega, by go_num, rfl, by omega, by omega, by show _ = _; rw [List.length_append, HKL.out]; rfl, fun x hx => ?_, ho1, ?_, Below.app HB3.out (HO3.out.mono (by omega)) hg1 (HSZ.out _ HB3.out)⟩
        · rcases List.mem_append.1 hx with h | h
          · exact HP.out x h
          · rw [List.mem_singleton] at h; subst h; omega
        · exact HS3.out.grown ((GrownL.refl [g] W3).grown hg1 (fun j e => .inl (by rw [ownBlock_slice] at e; injection e with e; simp [e]))) (by simp; omega)
      case measure => simp [intOf]; omega
    · have i1 : ¬ (n : Int) > 0 := by omega
      obtain rfl : k = t := by omega
      have HR : Hid (∃ ys, OwnI wr w.heap.size (.slice (some ⟨g, 0, none⟩) k c) ys ∧ k = ys.length ∧ ∀ x ∈ ys, 0 ≤ x ∧ x < 4) := by
        rw [HA.out]
        exact ⟨ys, HO.out.mono (by omega), HK.out, HP.out⟩
      have HBW : Hid (Below w.heap.size w wr) := by rw [HA.out]; exact HB.out
      clear HO HB HP HS
      go_wp2
      go_ret
      exact ⟨⟨g, c, rfl, HR.out⟩, HBW.out⟩
end Go.Proofs.YtbocedlldaeanaaDoor
