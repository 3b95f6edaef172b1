
/- MostAtOnce, the program. Conditions: none. -/
import Derived.Test.YtnpfninkopffmaaAtOnce
import Derived.Test.YtnpfninkopffmaaRounds
namespace Go.Proofs.Ytnpfninkopffmaa
open Go.RowKit Go.Shelf Go.BigFrame
set_option linter.unusedVariables false
set_option linter.unusedSimpArgs false
attribute [local go_sem] Oper.semAt_some

def mostL (xs : List Int) (l : List Nat) : Int × Int := l.foldl (mostStep xs) (0, 0)
theorem mostL_snoc (xs : List Int) (l : List Nat) (j : Nat) : mostL xs (l ++ [j]) = mostStep xs (mostL xs l) j := by
  unfold mostL; rw [List.foldl_append]; rfl
def cntL (xs : List Int) (x : Int) (l : List Nat) : Nat := l.countP (onAt xs x)
theorem cntL_snoc (xs : List Int) (x : Int) (l : List Nat) (k : Nat) : cntL xs x (l ++ [k]) = cntL xs x l + if onAt xs x k then 1 else 0 := by
  unfold cntL; rw [List.countP_append]; simp [List.countP_cons]
theorem cntL_le (xs : List Int) (x : Int) (l : List Nat) : cntL xs x l ≤ l.length := List.countP_le_length

theorem ownFrom_size {β : Type} (B n : Nat) : OwnFrom B (fun (_ : β) W => n ≤ W.heap.size) := fun s W W' row hs hg hr => Nat.le_trans hs hg.size

/-- The law of a loop over chunks whose loop variable lies in a block of its own. -/
theorem chunk_loopB {g : Operand} {ps : Array Tmp} {assign body : Code} {Q : Exit → Act → World → Prop} {a : Act} {w : World} {k : Nat} (hk : 2 ≤ k)
    {Bs Bn : Nat} (hg : a.eval g = .func (.func 104) #[] #[.pointer (some ⟨Bs, 0, none⟩), .pointer (some ⟨Bn, 0, none⟩)])
    (b off c n m L : Nat) (ad : Option Addr) (hL : L = n * m) (hn : 1 ≤ n) (hm : L ≤ 1048576) (ha : 0 < L → ad = some ⟨b, off, none⟩)
    (hBs : w.cell? ⟨Bs, 0, none⟩ = some (.slice ad L c)) (hc : L ≤ c) (hBn : w.cell? ⟨Bn, 0, none⟩ = some (.int .i64 n)) (hps : ps.size = 1)
    (I : List (Fin m) → World → Prop) (Ix : Code → List (Fin m) → World → Prop) (hI : OwnFrom w.heap.size I) (hIx : ∀ c, OwnFrom w.heap.size (Ix c)) (h0 : I [] w) (hsz : ∀ pre W, I pre W → w.heap.size ≤ W.heap.size) (a₁ : Fin m → Nat → Act)
    (hassign : ∀ (l : Nat) (x : Fin m) (W : World) (B : Nat) (K : Act → World → Prop), W.heap.size = B → K (a₁ x B) (W.alloc (.cells #[chunkAt b off n x.1] 29)) →
      assign.wpIn (Fence.wide.inRound l) (k - 1 - 1) Try.prog (Exit.then K (fun _ _ _ => False)) { tmps := (ps.zip #[chunkAt b off n x.1]).foldl (fun t (p, v) => t.setIfInBounds p v) a.tmps, defers := [] } W)
    (hbody : ∀ (l : Nat) (pre : List (Fin m)) (x : Fin m) (B : Nat) (W : World), w.heap.size ≤ l → (∃ r, W.heap[l]? = some (.loop r)) → pre.length < m → I pre W → w.heap.size ≤ B → Boxed W B 29 (chunkAt b off n x.1) → body.wpIn (Fence.wide.inRound l) (k - 1 - 1) Try.prog (ownPostG w.heap.size (Keep2 Bs Bn) I Ix (pre ++ [x]) W) (a₁ x B) W)
    (hdone : ∀ (D : Nat) (W : World), w.heap.size ≤ D → I (List.finRange m) W → W.heap[D]? = some (.deferred (some [])) → Q .normal { a with defers := { target := .collected D, args := #[] } :: a.defers } W)
    (hstop : ∀ (D : Nat) (c : Code) (pre : List (Fin m)) (W : World), w.heap.size ≤ D → pre <+: List.finRange m → Ix c pre W → W.heap[D]? = some (.deferred (some [])) → c.wp Try.prog Q { a with defers := { target := .collected D, args := #[] } :: a.defers } W) :
    (Code.rangeFunc g ps assign body).wp Try.prog Q a w :=
  chunk_loopH hk hg b off c n m L ad hL hn hm ha hBs hc hBn hps I Ix hI hIx h0 (fun x a' W => ∃ B, w.heap.size ≤ B ∧ a' = a₁ x B ∧ Boxed W B 29 (chunkAt b off n x.1))
    (fun x a' _ W W' row hs hg hr => by
      obtain ⟨B, h1, h2, h3⟩ := hs
      exact ⟨B, h1, h2, ownFrom_boxed (β := Unit) w.heap.size B _ (fun _ => chunkAt b off n x.1) () W W' row h3 hg hr⟩)
    (fun l pre x W K hi hK => hassign l x W W.heap.size K rfl (hK _ _ ((KeepsFrom.refl _ _).alloc _) ((Keep2.refl _ _ _).alloc (Nat.lt_of_lt_of_le (lt_of_cell hBs) (hsz _ _ hi)) (Nat.lt_of_lt_of_le (lt_of_cell hBn) (hsz _ _ hi)) _) (hI.alloc _ hi) ⟨_, hsz _ _ hi, rfl, Boxed.new _ _ _⟩))
    (fun l pre x a' W hl hr hi hax hlen => by
      obtain ⟨B, h1, rfl, h3⟩ := hax
      exact hbody l pre x B W hl hr hlen hi h1 h3) hdone hstop

/-- The law of such a loop IN A ROUND of loop l₀; with the number of rounds so far. -/
theorem chunk_loopNL {g : Operand} {ps : Array Tmp} {assign body : Code} {Q : Exit → Act → World → Prop} {a : Act} {w : World} {k : Nat} (hk : 2 ≤ k) {l₀ : Nat} (hl₀ : ∃ r₀, w.heap[l₀]? = some (.loop r₀))
    {Bs Bn : Nat} (hg : a.eval g = .func (.func 104) #[] #[.pointer (some ⟨Bs, 0, none⟩), .pointer (some ⟨Bn, 0, none⟩)])
    (b off c n m L : Nat) (ad : Option Addr) (hL : L = n * m) (hn : 1 ≤ n) (hm : L ≤ 1048576) (ha : 0 < L → ad = some ⟨b, off, none⟩)
    (hBs : w.cell? ⟨Bs, 0, none⟩ = some (.slice ad L c)) (hc : L ≤ c) (hBn : w.cell? ⟨Bn, 0, none⟩ = some (.int .i64 n)) (hps : ps.size = 1)
    (I : List (Fin m) → World → Prop) (Ix : Code → List (Fin m) → World → Prop) (hI : OwnFrom w.heap.size I) (hIx : ∀ c, OwnFrom w.heap.size (Ix c)) (h0 : I [] w) (a₁ : Fin m → Act)
    (hassign : ∀ (l : Nat) (x : Fin m) (W : World) (K : Act → World → Prop), K (a₁ x) W →
      assign.wpIn (Fence.wide.inRound l) (k - 1 - 1) Try.prog (Exit.then K (fun _ _ _ => False)) { tmps := (ps.zip #[chunkAt b off n x.1]).foldl (fun t (p, v) => t.setIfInBounds p v) a.tmps, defers := [] } W)
    (hbody : ∀ (l : Nat) (pre : List (Fin m)) (x : Fin m) (W : World), w.heap.size ≤ l → (∃ r, W.heap[l]? = some (.loop r)) → pre.length < m → I pre W → body.wpIn (Fence.wide.inRound l) (k - 1 - 1) Try.prog (ownPostG w.heap.size (Keep2 Bs Bn) I Ix (pre ++ [x]) W) (a₁ x) W)
    (hdone : ∀ (W : World), I (List.finRange m) W → Q .normal a W)
    (hstop : ∀ (c : Code) (pre : List (Fin m)) (W : World), pre <+: List.finRange m → Ix c pre W → c.wpIn (Fence.wide.inRound l₀) k Try.prog Q a W) :
    (Code.rangeFunc g ps assign body).wpIn (Fence.wide.inRound l₀) k Try.prog Q a w := by
  obtain ⟨r₀, hr₀⟩ := hl₀
  exact wpIn_rangeFunc_ownN (F := Fence.wide.inRound l₀) (n := k) rfl hr₀ (by omega) hg trivial (enters_of Try.func104 (by kernel_rfl) rfl)
    ((chunk_stops (k - 1) (by omega) Bs Bn b off c n m L ad hL hn hm ha w hBs hc hBn).inRound l₀) (fun h k => h.trans k) (keep2_b (lt_of_cell hBs) (lt_of_cell hBn)) (Below.refl _ _) (fun _ => by rw [hps]; rfl) I Ix hI hIx h0
    (fun x a' _ => a' = a₁ x) (fun _ _ _ _ _ _ hs _ _ => hs)
    (fun l pre x W K hi hK => hassign l x W K (hK _ _ (KeepsFrom.refl _ _) (Keep2.refl _ _ _) hi rfl)) (fun l pre x a' W hl hr hi e hlen => by subst e; exact hbody l pre x W hl hr hlen hi)
    (fun xs W hS hi => by subst hS; exact hdone W hi) (fun c pre W hSp hi => hstop c pre W hSp hi)

set_option maxHeartbeats 2000000 in
theorem implAtOnce_yes (v : Value) (xs : List Int) (w : World) (M : Nat) (hv : Ints w v xs) (hok : talksOk xs = true) (hxm : xs.length = 2 * M) :
    Calls Try.prog 26 #[v] w fun e w' => e = .returned (.tuple #[.int .i64 (mostL xs (List.range M)).1, .int .i64 (mostL xs (List.range M)).2, .bool true]) ∧ Below w.heap.size w w' := by
  obtain ⟨hl2, hl64, hev⟩ := talksOk_len hok
  have hT := Lib.hid (fun w' (h : Ints w' v xs) => implTalks_any v xs w' h)
  have hV := Lib.hid hv
  obtain ⟨hm, a, c, rfl, hcap, hc⟩ := hv
  obtain ⟨b, o, ha0, hbs, hcs⟩ := row_at hc
  obtain rfl := ha0 (by omega)
  have hbs' := hbs (by omega)
  have HXM := Lib.hid hxm
  have HOK := Lib.hid hok
  have HBS := Lib.hid hbs
  have HCS := Lib.hid hcs
  clear hc hxm hok hev hcs hbs ha0 hm
  refine (callsIn_wide (n := 9)).1 ?_
  refine callsIn_of_wp_marks Try.func26 rfl trivial ?_ rfl
  simp only [Try.ntmps26, List.size_toArray, List.length_cons, List.length_nil, Nat.reduceAdd, Nat.reduceSub, Array.replicate_succ, Array.replicate_zero, List.push_toArray, List.append_toArray, List.nil_append, List.cons_append]
  refine wpIn_wide.2 ?_
  go_wp2_with fail
  have hB1 : Below w.heap.size w (w.alloc (.cells #[.slice (some ⟨b, o, none⟩) xs.length c] 29)) := (Below.refl _ w).alloc (Nat.le_refl _) _
  refine (hT.out _ (hV.out.below hB1 (Nat.le_refl _))).mono ?_
  rw [HOK.out]
  rintro e W1 ⟨rfl, hb1⟩
  have hB2 := hB1.trans (hb1.mono (by simp))
  have hR0 : Boxed W1 w.heap.size 29 _ := (hb1.block _ (by simp)).trans (Boxed.new w 29 (.slice (some ⟨b, o, none⟩) xs.length c))
  have hs1 : w.heap.size + 1 ≤ W1.heap.size := by have := hb1.size; simpa using this
  have hRc := hR0.cell
  have hRf := hR0.frozen
  obtain ⟨N, hN⟩ : ∃ N, w.heap.size = N := ⟨_, rfl⟩
  have HN := Lib.hid hN
  have HR0 := Lib.hid hR0
  have HB2 := Lib.hid hB2
  have hR0' := (hR0.alloc (.cells #[.int .i64 0] 2)).alloc (.cells #[.int .i64 0] 2)
  have hRc' := hR0'.cell
  clear hT hV hR0 hB1 hB2 hb1
  rw [hN] at hRc' hR0'
  have HR0' := Lib.hid hR0'
  clear hR0'
  rw [hN] at hs1 hRc hRf
  obtain ⟨N1, hN1⟩ : ∃ N1, W1.heap.size = N1 := ⟨_, rfl⟩
  have HN1 := Lib.hid hN1
  rw [hN1] at hs1
  go_wp2_with (go_at_call 58; refine (chunk_call _ _ _ _ _ (by omega)).mono ?_; rintro e W2 ⟨rfl, hW2⟩)
  have hsz2 : W2.heap.size = N1 + 4 := by have := hW2.size; simp at this; omega
  have hm1 : Boxed W2 N1 2 (.int .i64 0) := (hW2.below.block _ (by simp; omega)).trans (by
    have := (Boxed.new W1 2 (.int .i64 0)).alloc (.cells #[.int .i64 0] 2); rwa [hN1] at this)
  have hm2 : Boxed W2 (N1 + 1) 2 (.int .i64 0) := (hW2.below.block _ (by simp; omega)).trans (by
    have := Boxed.new (W1.alloc (.cells #[.int .i64 0] 2)) 2 (.int .i64 0); simp only [World.size_alloc, hN1] at this; exact this)
  have hR2 : Boxed W2 N 29 (.slice (some ⟨b, o, none⟩) xs.length c) := (hW2.below.block _ (by simp; omega)).trans HR0'.out
  have hB3 : Below N w W2 := by
    have h := HB2.out; rw [hN] at h
    exact ((h.alloc (by omega) _).alloc (by simp; omega) _).trans (hW2.below.mono (by simp; omega))
  have hs2 := hW2.s
  have hn2 := hW2.n
  simp only [World.size_alloc, hN1] at hs2 hn2
  have HM1 := Lib.hid hm1
  have HM2 := Lib.hid hm2
  have HR2 := Lib.hid hR2
  have HB3 := Lib.hid hB3
  have HSZ2 := Lib.hid hsz2
  clear hm1 hm2 hR2 hB3 hW2 hRc hRf hRc' hN1
  refine chunk_loopB (k := 9) (by omega) (Bs := N1 + 1 + 1) (Bn := N1 + 1 + 1 + 1) rfl b o c 2 M xs.length (some ⟨b, o, none⟩) HXM.out (by omega) (by omega) (fun _ => rfl) hs2 hcap hn2 rfl
    (fun pre W => Boxed W N 29 (.slice (some ⟨b, o, none⟩) xs.length c) ∧ Boxed W N1 2 (.int .i64 (mostL xs (pre.map (·.1))).1) ∧ Boxed W (N1 + 1) 2 (.int .i64 (mostL xs (pre.map (·.1))).2) ∧ Below N w W ∧ N1 + 4 ≤ W.heap.size)
    (fun _ _ _ => False)
    ?hI ?hIx ?h0 ?hsz ?a1 ?hassign ?hbody ?hdone ?hstop
  case hassign =>
    intro l x W B K hB hK
    have HB := Lib.hid hB
    have HK := Lib.hid hK
    clear hB hK
    unfold chunkAt
    gi_wp2
    have hB := HB.out
    have hK := HK.out
    rw [hB]
    exact hK
  case hI => exact OwnFrom.and (ownFrom_boxed _ _ _ _) (OwnFrom.and (ownFrom_boxed _ _ _ (fun (s : List (Fin M)) => .int .i64 (mostL xs (s.map (·.1))).1)) (OwnFrom.and (ownFrom_boxed _ _ _ (fun (s : List (Fin M)) => .int .i64 (mostL xs (s.map (·.1))).2)) (OwnFrom.and (ownFrom_below (by rw [HN.out]; omega) (by have := HSZ2.out; omega)) (ownFrom_size _ _))))
  case hIx => exact fun _ _ _ _ _ h _ _ => h
  case h0 => exact ⟨HR2.out, HM1.out, HM2.out, HB3.out, by rw [HSZ2.out]; exact Nat.le_refl _⟩
  case hsz => rintro pre W ⟨_, _, _, _, h⟩; rw [HSZ2.out]; exact h
  case hbody =>
    rintro l pre x B W hl hr hlen ⟨hR, hM1, hM2, hB, hsz⟩ hBN hBx
    have hNW : N < W.heap.size := by omega
    have hBW : B < W.heap.size := by have h : W.heap[B]? = _ := hBx; exact (Array.getElem?_eq_some_iff.1 h).1
    have hlW : l < W.heap.size := by obtain ⟨r, hr⟩ := hr; exact (Array.getElem?_eq_some_iff.1 hr).1
    obtain ⟨mm, hmm⟩ : ∃ mm, mostL xs (pre.map (·.1)) = mm := ⟨_, rfl⟩
    obtain ⟨m1, m2⟩ := mm
    have hnext := mostL_snoc xs (pre.map (·.1)) x.1
    rw [hmm] at hM1 hM2 hnext
    have hmap : (pre ++ [x]).map (·.1) = pre.map (·.1) ++ [x.1] := by simp
    rw [← hmap] at hnext
    have HNEXT := Lib.hid hnext
    have hRa := (hR.alloc (.cells #[.int .i64 0] 2)).cell
    have HR := Lib.hid hR
    have HM1' := Lib.hid hM1
    have HM2' := Lib.hid hM2
    have HB := Lib.hid hB
    have HBX := Lib.hid hBx
    have HRR := Lib.hid hr
    clear hR hM1 hM2 hB hBx hr hmm hnext hmap hs2 hn2
    gi_wp2_with fail
    refine ⟨trivial, ?_⟩
    refine (CallsIn.inRound l (callsIn_wide.2 (chunk_call (some ⟨b, o, none⟩) xs.length c 2 _ (by omega)))).mono ?_
    rintro e W3 ⟨rfl, hW3⟩
    have hbl : ∀ i, i < W.heap.size → W3.heap[i]? = W.heap[i]? := fun i hi => (hW3.below.block i (by simp; omega)).trans (Below.heap_alloc _ _ _ hi)
    have hsz3 := hW3.size
    have hC : Boxed W3 W.heap.size 2 (.int .i64 0) := (hW3.below.block _ (by simp)).trans (Boxed.new W 2 (.int .i64 0))
    have hbel : Below W.heap.size W W3 := ((Below.refl _ W).alloc (Nat.le_refl _) _).trans (hW3.below.mono (by simp))
    have hs3 := hW3.s
    have hn3 := hW3.n
    simp only [World.size_alloc] at hs3 hn3 hsz3
    obtain ⟨C, hCC⟩ : ∃ C, W.heap.size = C := ⟨_, rfl⟩
    have HC : Hid (Boxed W3 C 2 (.int .i64 0)) := by rw [← hCC]; exact hC
    have HL3 : Hid (∃ r, W3.heap[l]? = some (.loop r)) := by
      obtain ⟨r, hr⟩ := HRR.out
      exact ⟨r, (hbl l hlW).trans hr⟩
    have HR3 : Hid (Boxed W3 N _ _) := (hbl _ hNW).trans HR.out
    have HA3 : Hid (Boxed W3 N1 _ _) := (hbl _ (by omega)).trans HM1'.out
    have HD3 : Hid (Boxed W3 (N1 + 1) _ _) := (hbl _ (by omega)).trans HM2'.out
    have HBX3 : Hid (Boxed W3 B _ _) := (hbl _ hBW).trans HBX.out
    have HB3' : Hid (Below N w W3) := HB.out.trans (hbel.mono (by omega))
    have HKF3 : Hid (KeepsFrom W2.heap.size W W3) := (KeepsFrom.refl _ _).below hbel (Nat.le_refl _)
    have HKK3 : Hid (Keep2 (N1 + 1 + 1) (N1 + 1 + 1 + 1) W W3) := (Keep2.refl _ _ _).below hbel (by omega) (by omega)
    have HCW := Lib.hid hCC
    simp only [World.size_alloc]
    rw [hCC] at hs3 hn3 hsz3 hNW hBW hlW hsz ⊢
    clear hC hbl hbel hW3 hRa
    have hsz2 : W2.heap.size = N1 + 4 := HSZ2.out
    clear hCC
    gi_wp2_with fail
    refine chunk_loopNL (k := 9 - 1 - 1) (by omega) HL3.out (Bs := C + 1) (Bn := C + 1 + 1) rfl b o c 2 M xs.length (some ⟨b, o, none⟩) HXM.out (by omega) (by omega) (fun _ => rfl) hs3 hcap hn3 rfl
      (fun pre2 V => Boxed V N1 2 (.int .i64 m1) ∧ Boxed V (N1 + 1) 2 (.int .i64 m2) ∧ Boxed V B 29 (chunkAt b o 2 x.1) ∧ Boxed V C 2 (.int .i64 (cntL xs (nth xs (2 * x.1)) (pre2.map (·.1)) : Nat)) ∧ Below N w V ∧ KeepsFrom W2.heap.size W V ∧ Keep2 (N1 + 1 + 1) (N1 + 1 + 1 + 1) W V ∧ C + 3 ≤ V.heap.size ∧ Boxed V N 29 (.slice (some ⟨b, o, none⟩) xs.length c))
      (fun _ _ _ => False) ?hI2 ?hIx2 ?h02 ?a2 ?hassign2 ?hbody2 ?hdone2 ?hstop2
    case hassign2 =>
      intro l x W K hK
      gi_wp2
      exact hK
    case hI2 =>
      have hCW : W.heap.size = C := HCW.out
      exact OwnFrom.and (ownFrom_boxed _ _ _ _) (OwnFrom.and (ownFrom_boxed _ _ _ _) (OwnFrom.and (ownFrom_boxed _ _ _ _) (OwnFrom.and (ownFrom_boxed _ _ _ (fun (s : List (Fin M)) => .int .i64 (cntL xs (nth xs (2 * x.1)) (s.map (·.1)) : Nat))) (OwnFrom.and (ownFrom_below (by rw [HN.out]; omega) (by omega)) (OwnFrom.and (ownFrom_keeps (by omega)) (OwnFrom.and (ownFrom_keep2 (by omega) (by omega) (by omega) (by omega)) (OwnFrom.and (ownFrom_size _ _) (ownFrom_boxed _ _ _ _))))))))
    case hIx2 => exact fun _ _ _ _ _ h _ _ => h
    case h02 => exact ⟨HA3.out, HD3.out, HBX3.out, HC.out, HB3'.out, HKF3.out, HKK3.out, by omega, HR3.out⟩
    case hstop2 => exact fun _ _ _ _ h => h.elim
    case hbody2 =>
      rintro l2 pre2 y V hl2' hr2 hlen2 ⟨hA, hD, hBX, hC, hB, hkf, hkk, hszV, hR⟩
      have hbs0 : 0 < xs.length → b < w.heap.size := HBS.out
      obtain ⟨e0, _⟩ := pair_cells (N := N) hbs0 HCS.out hB (by rw [HN.out]; exact Nat.le_refl _) HXM.out x
      obtain ⟨f0, f1⟩ := pair_cells (N := N) hbs0 HCS.out hB (by rw [HN.out]; exact Nat.le_refl _) HXM.out y
      obtain ⟨X, hX⟩ : ∃ X, nth xs (2 * x.1) = X := ⟨_, rfl⟩
      obtain ⟨s, hs⟩ : ∃ s, nth xs (2 * y.1) = s := ⟨_, rfl⟩
      obtain ⟨t, ht⟩ : ∃ t, nth xs (2 * y.1 + 1) = t := ⟨_, rfl⟩
      have hcnt := cntL_snoc xs X (pre2.map (·.1)) y.1
      have hmap : (pre2 ++ [y]).map (·.1) = pre2.map (·.1) ++ [y.1] := by simp
      rw [← hmap] at hcnt
      have hcle := cntL_le xs X (pre2.map (·.1))
      rw [List.length_map] at hcle
      have hon : onAt xs X y.1 = (decide (s ≤ X) && decide (X < t)) := by unfold onAt; rw [hs, ht]
      rw [hX] at e0 hC
      rw [hs] at f0
      rw [ht] at f1
      rw [hon] at hcnt
      rw [hX]
      obtain ⟨n, hn⟩ : ∃ n, cntL xs X (pre2.map (·.1)) = n := ⟨_, rfl⟩
      rw [hn] at hC hcnt hcle
      have hn64 : n ≤ 64 := by have := HXM.out; omega
      have HCNT := Lib.hid hcnt
      have hBc := hBX.cell
      have hCc := hC.cell
      have hCf := hC.frozen
      have HA := Lib.hid hA
      have HD := Lib.hid hD
      have HBX2 := Lib.hid hBX
      have HC2 := Lib.hid hC
      have HB2' := Lib.hid hB
      have HKF := Lib.hid hkf
      have HKK := Lib.hid hkk
      have HR' := Lib.hid hR
      clear hA hD hBX hC hB hkf hkk hR hX hs ht hcnt hmap hcle hon hn hs3 hn3 hbs0
      unfold chunkAt at hBc ⊢
      have hko : Keep2 (C + 1) (C + 1 + 1) V V := Keep2.refl _ _ _
      by_cases c1 : s ≤ X
      · by_cases c2 : X < t
        · have hc' : cntL xs X ((pre2 ++ [y]).map (·.1)) = n + 1 := by rw [HCNT.out]; simp [c1, c2]
          have HC' := Lib.hid hc'
          clear hc'
          gi_wp2
          refine round_quiet_lit (by kernel_rfl) (by kernel_rfl) (by kernel_rfl) ?_
          repeat (gi_big_quiet_step (fail))
          refine wpQuietIn_nil ?_
          intro _ hw'
          obtain ⟨nq, hw''⟩ := hw'
          subst hw''
          gi_wp2
          have hset : ∀ i, i ≠ C → ((V.drewN nq).setCell ⟨C, 0, none⟩ (.int .i64 ((n : Int) + 1))).heap[i]? = V.heap[i]? := fun i hi => Below.heap_setCell _ _ _ _ hi
          refine ⟨((KeepsFrom.refl _ _).drewN _).setCell _ _, (hko.drewN _).setCell (show C + 1 ≠ C by omega) (show C + 1 + 1 ≠ C by omega) _, (hset _ (by omega)).trans HA.out, (hset _ (by omega)).trans HD.out, (hset _ (by omega)).trans HBX2.out, ?_, (below_drewN _ HB2'.out).setCell (show N ≤ C by omega) _, (HKF.out.drewN _).setCell _ _, (HKK.out.drewN _).setCell (show N1 + 1 + 1 ≠ C by omega) (show N1 + 1 + 1 + 1 ≠ C by omega) _, by rw [World.size_setCell]; exact hszV, (hset _ (by omega)).trans HR'.out⟩
          rw [HC'.out, Int.natCast_add]
          exact Boxed.set _ (show Boxed (V.drewN nq) C _ _ from HC2.out)
        · have hc' : cntL xs X ((pre2 ++ [y]).map (·.1)) = n := by rw [HCNT.out]; simp [c1, c2]
          have HC' := Lib.hid hc'
          clear hc'
          gi_wp2
          refine round_quiet_lit (by kernel_rfl) (by kernel_rfl) (by kernel_rfl) ?_
          repeat (gi_big_quiet_step (fail))
          refine wpQuietIn_nil ?_
          intro _ hw'
          obtain ⟨nq, hw''⟩ := hw'
          subst hw''
          gi_wp2
          refine ⟨(KeepsFrom.refl _ _).drewN _, hko.drewN _, HA.out, HD.out, HBX2.out, ?_, below_drewN _ HB2'.out, HKF.out.drewN _, HKK.out.drewN _, hszV, HR'.out⟩
          rw [HC'.out]; exact HC2.out
      · have hc' : cntL xs X ((pre2 ++ [y]).map (·.1)) = n := by rw [HCNT.out]; simp [c1]
        have c1d : decide (s ≤ X) = false := decide_eq_false c1
        have HC' := Lib.hid hc'
        clear hc'
        gi_wp2
        refine round_quiet_lit (by kernel_rfl) (by kernel_rfl) (by kernel_rfl) ?_
        repeat (gi_big_quiet_step (fail))
        refine wpQuietIn_nil ?_
        intro _ hw'
        obtain ⟨nq, hw''⟩ := hw'
        subst hw''
        gi_wp2
        refine ⟨(KeepsFrom.refl _ _).drewN _, hko.drewN _, HA.out, HD.out, HBX2.out, ?_, below_drewN _ HB2'.out, HKF.out.drewN _, HKK.out.drewN _, hszV, HR'.out⟩
        rw [HC'.out]; exact HC2.out
    case hdone2 =>
      rintro V ⟨hA, hD, hBX, hC, hB, hkf, hkk, hszV, hR⟩
      have hbs0 : 0 < xs.length → b < w.heap.size := HBS.out
      obtain ⟨e0, _⟩ := pair_cells (N := N) hbs0 HCS.out hB (by rw [HN.out]; exact Nat.le_refl _) HXM.out x
      obtain ⟨X, hX⟩ : ∃ X, nth xs (2 * x.1) = X := ⟨_, rfl⟩
      rw [hX] at e0 hC
      rw [finRange_val] at hC
      have hhalf : xs.length / 2 = M := by have := HXM.out; omega
      have hnx := HNEXT.out
      unfold mostStep at hnx
      rw [hhalf, hX, show cntAt xs X M = cntL xs X (List.range M) from rfl] at hnx
      obtain ⟨n, hn⟩ : ∃ n, cntL xs X (List.range M) = n := ⟨_, rfl⟩
      rw [hn] at hC hnx
      have HNX := Lib.hid hnx
      have hAc := hA.cell
      have hDc := hD.cell
      have hBc := hBX.cell
      have hCc := hC.cell
      have hAf := hA.frozen
      have hDf := hD.frozen
      have HA := Lib.hid hA
      have HD := Lib.hid hD
      have HBX2 := Lib.hid hBX
      have HC2 := Lib.hid hC
      have HB2' := Lib.hid hB
      have HKF := Lib.hid hkf
      have HKK := Lib.hid hkk
      have HR' := Lib.hid hR
      clear hA hD hBX hC hB hkf hkk hR hX hn hs3 hn3 hbs0 hnx hhalf
      unfold chunkAt at hBc
      have hmix : Try.prog.follows .mixedOrders = true := rfl
      have fin : ∀ (kk : Nat) V', (V' = ((V.drewN kk).setCell ⟨N1, 0, none⟩ (.int .i64 n)).setCell ⟨N1 + 1, 0, none⟩ (.int .i64 X) ∨ V' = ((V.drewN kk).setCell ⟨N1 + 1, 0, none⟩ (.int .i64 X)).setCell ⟨N1, 0, none⟩ (.int .i64 n)) → mostL xs ((pre ++ [x]).map (·.1)) = ((n : Int), X) →
          KeepsFrom W2.heap.size W V' ∧ Keep2 (N1 + 1 + 1) (N1 + 1 + 1 + 1) W V' ∧ Boxed V' N 29 (.slice (some ⟨b, o, none⟩) xs.length c) ∧ Boxed V' N1 2 (.int .i64 (mostL xs ((pre ++ [x]).map (·.1))).1) ∧ Boxed V' (N1 + 1) 2 (.int .i64 (mostL xs ((pre ++ [x]).map (·.1))).2) ∧ Below N w V' ∧ N1 + 4 ≤ V'.heap.size := by
        intro kk V' hV' hnew
        rw [hnew]
        have hh : ∀ (U : World) (p : Addr) (v : Value) (i : Nat), i ≠ p.block → (U.setCell p v).heap[i]? = U.heap[i]? := fun U p v i h => Below.heap_setCell _ _ _ _ h
        rcases hV' with rfl | rfl
        · refine ⟨((HKF.out.drewN _).setCell _ _).setCell _ _, ((HKK.out.drewN _).setCell (show N1 + 1 + 1 ≠ N1 by omega) (show N1 + 1 + 1 + 1 ≠ N1 by omega) _).setCell (show N1 + 1 + 1 ≠ N1 + 1 by omega) (show N1 + 1 + 1 + 1 ≠ N1 + 1 by omega) _,
            ((hh _ _ _ _ (show N ≠ N1 + 1 by omega)).trans (hh _ _ _ _ (show N ≠ N1 by omega))).trans HR'.out, (hh _ _ _ _ (show N1 ≠ N1 + 1 by omega)).trans (Boxed.set _ (show Boxed (V.drewN kk) N1 _ _ from HA.out)), Boxed.set _ ((hh _ _ _ _ (show N1 + 1 ≠ N1 by omega)).trans HD.out), ((below_drewN _ HB2'.out).setCell (show N ≤ N1 by omega) _).setCell (show N ≤ N1 + 1 by omega) _, by rw [World.size_setCell, World.size_setCell]; show N1 + 4 ≤ V.heap.size; omega⟩
        · refine ⟨((HKF.out.drewN _).setCell _ _).setCell _ _, ((HKK.out.drewN _).setCell (show N1 + 1 + 1 ≠ N1 + 1 by omega) (show N1 + 1 + 1 + 1 ≠ N1 + 1 by omega) _).setCell (show N1 + 1 + 1 ≠ N1 by omega) (show N1 + 1 + 1 + 1 ≠ N1 by omega) _,
            ((hh _ _ _ _ (show N ≠ N1 by omega)).trans (hh _ _ _ _ (show N ≠ N1 + 1 by omega))).trans HR'.out, Boxed.set _ ((hh _ _ _ _ (show N1 ≠ N1 + 1 by omega)).trans HA.out), (hh _ _ _ _ (show N1 + 1 ≠ N1 by omega)).trans (Boxed.set _ (show Boxed (V.drewN kk) (N1 + 1) _ _ from HD.out)), ((below_drewN _ HB2'.out).setCell (show N ≤ N1 + 1 by omega) _).setCell (show N ≤ N1 by omega) _, by rw [World.size_setCell, World.size_setCell]; show N1 + 4 ≤ V.heap.size; omega⟩
      by_cases g : (n : Int) > m1
      · have hg : decide ((n : Int) > m1) = true := decide_eq_true g
        have hnew : mostL xs ((pre ++ [x]).map (·.1)) = ((n : Int), X) := by rw [HNX.out]; simp [more, g]
        have HNEW := Lib.hid hnew
        clear hnew
        gi_wp2
        refine round_quiet_lit (by kernel_rfl) (by kernel_rfl) (by kernel_rfl) ?_
        repeat (gi_big_quiet_step (fail))
        refine wpQuietIn_nil ?_
        intro _ hw'
        obtain ⟨nq, hw''⟩ := hw'
        subst hw''
        gi_wp2
        gi_region_with_o (fail)
        all_goals
          gi_wp2
          exact fin _ _ (Or.inl rfl) HNEW.out
      · have hg : decide ((n : Int) > m1) = false := decide_eq_false g
        by_cases g2 : (n : Int) = m1
        · have hg2 : ((n : Int) == m1) = true := by simpa using g2
          by_cases g3 : X < m2
          · have hg3 : decide (X < m2) = true := decide_eq_true g3
            have hnew : mostL xs ((pre ++ [x]).map (·.1)) = ((n : Int), X) := by rw [HNX.out]; simp [more, g2, g3]
            have HNEW := Lib.hid hnew
            clear hnew g2
            gi_wp2
            refine round_quiet_lit (by kernel_rfl) (by kernel_rfl) (by kernel_rfl) ?_
            repeat (gi_big_quiet_step (fail))
            refine wpQuietIn_nil ?_
            intro _ hw'
            obtain ⟨nq, hw''⟩ := hw'
            subst hw''
            gi_wp2
            gi_region_with_o (fail)
            all_goals
              gi_wp2
              exact fin _ _ (Or.inl rfl) HNEW.out
          · have hg3 : decide (X < m2) = false := decide_eq_false g3
            have hnew : mostL xs ((pre ++ [x]).map (·.1)) = (m1, m2) := by rw [HNX.out]; simp [more, g, g2, g3]
            clear g2
            have HNEW := Lib.hid hnew
            clear hnew
            gi_wp2
            refine round_quiet_lit (by kernel_rfl) (by kernel_rfl) (by kernel_rfl) ?_
            repeat (gi_big_quiet_step (fail))
            refine wpQuietIn_nil ?_
            intro _ hw'
            obtain ⟨nq, hw''⟩ := hw'
            subst hw''
            gi_wp2
            refine ⟨HKF.out.drewN _, HKK.out.drewN _, HR'.out, ?_, ?_, below_drewN _ HB2'.out, by show N1 + 4 ≤ V.heap.size; omega⟩
            · rw [HNEW.out]; exact HA.out
            · rw [HNEW.out]; exact HD.out
        · have hg2 : ((n : Int) == m1) = false := by simpa using g2
          have hnew : mostL xs ((pre ++ [x]).map (·.1)) = (m1, m2) := by rw [HNX.out]; simp [more, g, g2]
          have HNEW := Lib.hid hnew
          clear hnew
          gi_wp2
          refine round_quiet_lit (by kernel_rfl) (by kernel_rfl) (by kernel_rfl) ?_
          repeat (gi_big_quiet_step (fail))
          refine wpQuietIn_nil ?_
          intro _ hw'
          obtain ⟨nq, hw''⟩ := hw'
          subst hw''
          gi_wp2
          refine ⟨HKF.out.drewN _, HKK.out.drewN _, HR'.out, ?_, ?_, below_drewN _ HB2'.out, by show N1 + 4 ≤ V.heap.size; omega⟩
          · rw [HNEW.out]; exact HA.out
          · rw [HNEW.out]; exact HD.out
  case hdone =>
    rintro D W hD ⟨hR, hM1, hM2, hB, hsz⟩ hK
    have hND : N ≤ D := by have := HSZ2.out; omega
    rw [finRange_val] at hM1 hM2
    obtain ⟨m, hm⟩ : ∃ m, mostL xs (List.range M) = m := ⟨_, rfl⟩
    rw [hm] at hM1 hM2
    have HMM := Lib.hid hm
    obtain ⟨m1, m2⟩ := m
    have c1 := hM1.cell
    have c2 := hM2.cell
    clear hR hM1 hM2 hs2 hn2 hm
    go_wp2
    go_quiet (fail)
    go_wp2
    refine bodyM_ret (v := .tuple #[.int .i64 m1, .int .i64 m2, .bool true]) rfl (show (W.drewN nq).heap[D]? = _ from hK) (by simp [results, Try.results26, go_sem]) ⟨by rw [HMM.out], by rw [HN.out]; exact below_putObj (below_drewN _ hB) hND hK⟩
  case hstop => exact fun _ _ _ _ _ _ h _ => h.elim

theorem implAtOnce_no (v : Value) (xs : List Int) (w : World) (hv : Ints w v xs) (hok : talksOk xs = false) :
    Calls Try.prog 26 #[v] w fun e w' => e = .returned (.tuple #[.int .i64 0, .int .i64 0, .bool false]) ∧ Below w.heap.size w w' := by
  obtain ⟨hm, a, c, rfl, hcap, hc⟩ := hv
  have hB1 : Below w.heap.size w (w.alloc (.cells #[.slice a xs.length c] 29)) := (Below.refl _ w).alloc (Nat.le_refl _) _
  have hT := Lib.hid (implTalks_any (.slice a xs.length c) xs _ ((show Ints w _ xs from ⟨hm, a, c, rfl, hcap, hc⟩).below hB1 (Nat.le_refl _)))
  have HOK := Lib.hid hok
  clear hc hok hm
  go_enter Try.func26, Try.ntmps26
  go_wp2_with fail
  refine hT.out.mono ?_
  rw [HOK.out]
  rintro e W1 ⟨rfl, hb1⟩
  have HB2 := Lib.hid (hB1.trans (hb1.mono (by simp)))
  clear hT hB1 hb1
  go_wp2
  exact bodyPost_ret (v := .tuple #[.int .i64 0, .int .i64 0, .bool false]) (by simp [results, Try.results26, go_sem]) rfl ⟨rfl, HB2.out⟩

theorem implAtOnce_any (v : Value) (xs : List Int) (w : World) (hv : Ints w v xs) :
    Calls Try.prog 26 #[v] w fun e w' => e = .returned (.tuple #[.int .i64 (atOnce xs).1, .int .i64 (atOnce xs).2, .bool (talksOk xs)]) ∧ Below w.heap.size w w' := by
  unfold atOnce
  cases h : talksOk xs
  · exact implAtOnce_no v xs w hv h
  · have := talksOk_len h
    exact implAtOnce_yes v xs w (xs.length / 2) hv h (by omega)
end Go.Proofs.Ytnpfninkopffmaa
