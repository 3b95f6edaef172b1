
/- The walk of FnStoredOfAll. Conditions: none. -/
import Derived.Test.YtmhepomjbaendaaStoredP
import Derived.Test.YtmhepomjbaendaaBigSaved
import Derived.Test.YtmhepomjbaendaaOwnInt
namespace Go.Proofs.Ytmhepomjbaendaa
open Go.RowKit Go.Shelf Go.BigFrame
set_option linter.unusedVariables false
set_option linter.unusedSimpArgs false

/-- Where the first k stored end. -/
def endsL (xs : List Sv) (k : Nat) : List Int := (List.range (k + 1)).map fun i => (jS xs i : Int)
theorem endsL_len (xs : List Sv) (k : Nat) : (endsL xs k).length = k + 1 := by simp [endsL]
theorem endsL_get (xs : List Sv) (k i : Nat) (h : i ≤ k) : nth (endsL xs k) i = jS xs i := by
  rw [nth_eq (by rw [endsL_len]; omega)]
  simp [endsL]
theorem endsL_succ (xs : List Sv) (k : Nat) : endsL xs (k + 1) = endsL xs k ++ [(jS xs (k + 1) : Int)] := by
  unfold endsL
  rw [List.range_succ, List.map_append]; rfl

theorem OwnJ.lit (w : World) (B : Nat) (xs : List Int) (hB : B ≤ w.heap.size) (hx : xs.length ≤ maxLen) : OwnJ (w.alloc (.cells (xs.map (Value.int .i64)).toArray 3)) B (.slice (some ⟨w.heap.size, 0, none⟩) xs.length xs.length) xs := by
  have := World.ownsRow_lit (e := 3) (size := 1) w (xs.map (Value.int .i64)).toArray xs.length hB hx (by simp)
  simpa [OwnJ] using this
theorem append_jN {ops : Array Oper} {rest : List Oper} {o : Oper} {a : Act} {Q : Exit → Act → World → Prop} {W : World} (hgd : o.guard = none) (s x : Operand)
    (ho : o.op = .call { callee := .builtin .append, args := #[s, x], argTypes := #[39, 39] }) (B : Nat) (v : Value) (xs : List Int) (y : Int)
    (hs : a.eval s = v) (c : Nat) (hx : a.eval x = .slice (some ⟨W.heap.size, 0, none⟩) 1 c) (hown : OwnJ W B v xs) (hB : B ≤ W.heap.size) (hsmall : xs.length ≤ 1000000)
    (hK : ∀ g c n w', Hid (n = xs.length + 1) → OwnJ w' B (.slice (some ⟨g, 0, none⟩) n c) (xs ++ [y]) → W.grownBy w' v.ownBlock → wpList Try.prog ops Q rest (a.put o.dst (.slice (some ⟨g, 0, none⟩) n c)) w') :
    wpList Try.prog ops Q (o :: rest) a (W.alloc (.cells #[.int .i64 y] 3)) := by
  obtain ⟨i0, hi, hz0, hz1, hz2⟩ := info_parts info_gint
  have hcl := cells_lit W [Value.int .i64 y] 3
  refine wpList_append_own _ hgd s x 39 ho B 3 i0 (.int .i64 0) 1 8 Try.underlying39 hi hz0 hz1 hz2 rfl (by decide) v xs.length _ hs (World.ownsRow.alloc hown _) ⟨W.heap.size, 0, none⟩ 1 c [Value.int .i64 y] hx (by simp) hcl ?_ (by unfold maxLen; omega) (by omega) (by simp; omega) ?_
  · intro u hu
    obtain rfl : u = Value.int .i64 y := by simpa using hu
    rfl
  · intro v' w' h2 h3 _
    have h3' : W.grownBy w' v.ownBlock := ⟨h3.os, h3.tape, h3.output, Nat.le_trans (by simp) h3.size, fun k hk hne => (h3.block k (by simp; omega) hne).trans (Below.heap_alloc _ _ _ hk)⟩
    rcases h2.2 with ⟨_, h0⟩ | ⟨g, cap, cur, rfl, _⟩
    · omega
    · refine hK g cap _ w' rfl ?_ h3'
      unfold OwnJ
      rw [List.length_append, List.map_append]
      exact h2
/-- The text with another byte at place m. -/
def bentS (T : ByteArray) (m : Nat) (Y : Int) : ByteArray := strOfNums ((chs T).set m Y)
theorem bent_size (T : ByteArray) (m : Nat) (Y : Int) : (bentS T m Y).size = T.size := by
  unfold bentS
  rw [Go.Lib.size_eq, nums_bytes, List.length_map, List.length_set, chs_length]
theorem chs_back (T : ByteArray) : (chs T).map (fun n => UInt8.ofNat n.toNat) = T.data.toList := by
  unfold chs
  rw [List.map_map]
  refine List.ext_getElem (by simp) fun i h1 h2 => ?_
  simp
theorem bent_pre {T : ByteArray} {m K : Nat} {Y : Int} (h : K ≤ m) : (bentS T m Y).extract 0 K = T.extract 0 K := by
  refine bytes_eq ?_
  rw [ext_data, ext_data, List.drop_zero, List.drop_zero, Nat.sub_zero]
  unfold bentS
  rw [nums_bytes, List.map_set, chs_back, List.take_set_of_le h]
theorem nums_take (l : List Int) (o : Nat) : strOfNums (l.take o) = (strOfNums l).extract 0 o := by
  refine bytes_eq ?_
  rw [ext_data, List.drop_zero, Nat.sub_zero, nums_bytes, nums_bytes, List.map_take]
theorem conv_cells {w : World} {b c n : Nat} {l : List Int} (hn : l.length = n) (h : ∀ i, i < n → w.cell? ⟨b, i, none⟩ = some (.int .u8 (l.getD i 0))) : (convert 22 9 (.slice (some ⟨b, 0, none⟩) n c)).run Try.prog w = .ok (.string (strOfNums l)) w :=
  run_convert_bytes_arg w 22 5 Try.underlying22 Try.underlying5 b 0 n c l hn (fun i hi => by rw [Nat.zero_add]; exact h i hi) 9 Try.underlying9
/-- '[]byte(T)'. -/
theorem conv_to (T : ByteArray) (W : World) (hs : T.size ≤ 1000000) : ∃ CP W7, (convert 9 22 (.string T)).run Try.prog W = .ok (.slice (some ⟨W.heap.size, 0, none⟩) T.size CP) W7 ∧ T.size ≤ CP ∧ Below W.heap.size W W7 ∧ W.heap.size < W7.heap.size ∧ ∀ i, i < T.size → W7.cell? ⟨W.heap.size, i, none⟩ = some (.int .u8 ((chs T).getD i 0)) ∧ W7.frozen? ⟨W.heap.size, i, none⟩ = false := by
  obtain ⟨CP, hCP⟩ : ∃ CP, grownCap W T.size 0 5 = CP := ⟨_, rfl⟩
  have h := run_bytes_of_string W 9 22 5 T Try.underlying9 Try.underlying22 Try.underlying5
  rw [hCP] at h
  have hr : (bytesRow T CP).size = T.size + (CP - T.size) := by
    unfold bytesRow
    rw [Array.size_append, Array.size_map, Array.size_replicate]
    rfl
  refine ⟨CP, _, h, ?_, ?_, by simp, fun i hi => ?_⟩
  · rw [← hCP]; exact grownCap_ge _ _ _ _
  · exact ((Below.refl _ W).drew).alloc (Nat.le_refl _) _
  · have hn : (W.drew.alloc (.cells (bytesRow T CP) 5 ((bytesRow T CP).size, (bytesRow T CP).size + 1))).heap[W.heap.size]? = some (.cells (bytesRow T CP) 5 ((bytesRow T CP).size, (bytesRow T CP).size + 1)) := World.alloc_heap_new W.drew _
    constructor
    · unfold World.cell?
      simp only [hn]
      have hl : T.data.toList.length = T.size := (Go.Lib.size_eq T).symm
      have h1 : (bytesRow T CP)[i]? = some (.int .u8 ((T.data.toList.getD i 0).toNat : Int)) := by
        unfold bytesRow
        rw [Array.getElem?_append_left (by rw [Array.size_map]; exact hi), Array.getElem?_map, List.getD_eq_getElem?_getD, Array.getElem?_toList]
        have hd : T.data[i]? = some (T.data[i]'hi) := Array.getElem?_eq_getElem hi
        rw [hd]; rfl
      have h2 : (chs T).getD i 0 = ((T.data.toList.getD i 0).toNat : Int) := by
        unfold chs
        rw [List.getD_eq_getElem?_getD, List.getD_eq_getElem?_getD, List.getElem?_map, List.getElem?_eq_getElem (by omega)]
        rfl
      rw [h2]
      simpa using h1
    · unfold World.frozen?
      simp only [hn]
      simp
      omega
theorem endsJ_at {w : World} {N g n c : Nat} {xs : List Sv} {k i : Nat} (h : OwnJ w N (.slice (some ⟨g, 0, none⟩) n c) (endsL xs k)) (hn : n = k + 1) (hi : i ≤ k) : w.cell? ⟨g, i, none⟩ = some (.int .i64 (jS xs i : Int)) := by
  rw [h.at_ (by rw [endsL_len]; exact hn) i (by rw [endsL_len]; omega), endsL_get xs k i hi]

set_option maxRecDepth 100000 in
set_option maxHeartbeats 8000000 in
theorem walkFnStoredOfAll (v0 : Value) (xs : List Sv) (cut bit : Int) (w : World) (w0 : SlR rSaved w v0 xs) (hcut : (Lit.int .i64 cut).wf = true) (hbit : (Lit.int .u8 bit).wf = true) :
    Calls Try.prog 4 #[v0, .int .i64 cut, .int .u8 bit] w fun e w' => e = .returned (.bool true) ∧ Below w.heap.size w w' := by
  have hcw := wf_i64_iff.1 hcut
  have hv0 : SavedsR w v0 xs := w0
  have hm := hv0.1
  unfold maxLen at hm
  obtain ⟨a, c, rfl, hcap, _⟩ := hv0.at_
  obtain ⟨A, hA⟩ : ∃ A, w.heap.size = A := ⟨_, rfl⟩
  have HSZ : Hid (∀ W, Below A w W → A ≤ W.heap.size) := fun W h => by rw [← hA]; exact h.size
  have HV : Hid (∀ W, Below A w W → SavedsR W (.slice a xs.length c) xs) := fun W hW => hv0.below (by rw [hA]; exact hW) (Nat.le_refl _)
  have HC : Hid (∀ k (h : k < xs.length), ∃ b o vt vs, a = some ⟨b, o, none⟩ ∧ b < A ∧ w.cell? ⟨b, o + k * 3, none⟩ = some (.string xs[k].1) ∧ w.cell? ⟨b, o + k * 3 + 1, none⟩ = some vt ∧ w.cell? ⟨b, o + k * 3 + 2, none⟩ = some vs ∧
      (∀ W, Below A w W → Calls Try.prog 22 #[.agg #[.string xs[k].1, vt, vs]] W fun e w' => e = .returned (.tuple #[.string (storeR xs[k]), .bool (savedOk xs[k])]) ∧ Below W.heap.size W w') ∧
      (∀ W, Below A w W → Calls Try.prog 23 #[.agg #[.string xs[k].1, vt, vs]] W fun e w' => e = .returned (.tuple #[.string (storeR xs[k]), .bool (savedOk xs[k])]) ∧ Below W.heap.size W w')) := fun k hk => by
    obtain ⟨a3, c3, hsl3, _, hc⟩ := hv0.at_
    obtain ⟨rfl, rfl⟩ : a = a3 ∧ c = c3 := by simpa using hsl3
    obtain ⟨b, o, vt, vs, e1, hbs, h0, h1, h2, g0, g1, g2⟩ := hc k hk
    refine ⟨b, o, vt, vs, e1, by omega, g0, g1, g2, fun W hW => ?_, fun W hW => ?_⟩
    · exact implStore_v xs[k].1 vt vs xs[k].2.1 xs[k].2.2 W h0 (h1.below hW (by omega)) (h2.ints.1.below hW (by omega))
    · exact specStore_v xs[k].1 vt vs xs[k].2.1 xs[k].2.2 W h0 (h1.below hW (by omega)) (h2.ints.1.below hW (by omega))
  have HA := Lib.hid hA
  clear hv0 w0 hcut hA
  by_cases hbig : xs.length ≤ 1000
  · have i0 : ¬ (xs.length : Int) > 1000 := by omega
    go_enter Try.func4, Try.ntmps4
    go_wp2
    go_loopw [7, 8] (fun ve vi wr => ∃ (k n g c' : Nat), k ≤ xs.length ∧ Hid (n = k + 1) ∧ vi = .int .i64 k ∧ ve = .slice (some ⟨g, 0, none⟩) n c' ∧ Hid (OwnJ wr A (.slice (some ⟨g, 0, none⟩) n c') (endsL xs k)) ∧ Hid (∀ i (h : i < xs.length), i < k → savedOk xs[i] = true) ∧ Hid (Below A w wr)) (fun _ vi _ => xs.length - (intOf vi).toNat)
    case atStart =>
      refine ⟨0, 1, w.heap.size, 1, Nat.zero_le _, rfl, rfl, rfl, ?_, fun i _ h => by omega, ?_⟩
      · show OwnJ _ _ _ _
        exact OwnJ.lit w A [0] (by rw [HA.out]; exact Nat.le_refl _) (by unfold maxLen; simp)
      · show Below _ _ _
        rw [← HA.out]; exact (Below.refl _ w).alloc (Nat.le_refl _) _
    case round =>
      obtain ⟨k, n, g, c', hk, HN, rfl, rfl, HE, HK, HB⟩ := hrel
      have hA1 : A ≤ wr.heap.size := HSZ.out _ HB.out
      by_cases hlt : k < xs.length
      · obtain ⟨b, o, vt, vs, rfl, hbA, g0, g1, g2, hsi, hss⟩ := HC.out k hlt
        have c0 := (HB.out.cell (p := ⟨b, o + k * 3, none⟩) hbA).trans g0
        have c1 := (HB.out.cell (p := ⟨b, o + k * 3 + 1, none⟩) hbA).trans g1
        have c2 := (HB.out.cell (p := ⟨b, o + k * 3 + 2, none⟩) hbA).trans g2
        have HG := Lib.hid (And.intro hbA (And.intro g0 (And.intro g1 g2)))
        have HSI := Lib.hid hsi
        have HSS := Lib.hid hss
        have HKS : Hid (savedOk xs[k] = true → ∀ i (h : i < xs.length), i < k + 1 → savedOk xs[i] = true) := fun h i hi hik => by
          rcases Nat.lt_succ_iff_lt_or_eq.1 hik with h2 | rfl
          · exact HK.out i hi h2
          · exact h
        have HYS : Hid (savedOk xs[k] = true → storeR xs[k] = storeS xs[k] ∧ (storeS xs[k]).size ≤ 10000 ∧ jS xs (k + 1) = jS xs k + (storeS xs[k]).size ∧ ldB (storeS xs[k]) = true ∧ ldX (storeS xs[k]) = xs[k]) := fun h => ⟨storeR_yes h, storeS_small h, jS_succ hlt, (ld_store h).1, (ld_store h).2⟩
        have HJS : Hid (jS xs k ≤ k * 10000) := jS_small' (fun i hi hik => HK.out i hi hik) hk
        obtain ⟨x, hx⟩ : ∃ x, xs[k] = x := ⟨_, rfl⟩
        rw [hx] at c0 HSI HSS HKS HYS HG
        obtain ⟨ok, hok⟩ : ∃ y, savedOk x = y := ⟨_, rfl⟩
        rw [hok] at HSI HSS HKS HYS
        obtain ⟨Q, hQ⟩ : ∃ y, storeR x = y := ⟨_, rfl⟩
        rw [hQ] at HSI HSS HYS
        have HOKX := Lib.hid hok
        have k0 : (0 : Int) ≤ (k : Int) := by omega
        have k1 : (k : Int) < (xs.length : Int) := by omega
        clear g0 g1 g2 hsi hss hx hok hQ hbA HC HV
        go_wp2_with fail
        refine (HSI.out wr HB.out).mono ?_
        rintro e W1 ⟨rfl, hb1⟩
        have B1 := Lib.hid (HB.out.trans (hb1.mono hA1))
        have HE1 := Lib.hid (HE.out.below hb1 (Nat.le_refl _))
        have hA2 : A ≤ W1.heap.size := HSZ.out _ B1.out
        clear hb1 HB HE c0 c1 c2
        have c0 := (B1.out.cell (p := ⟨b, o + k * 3, none⟩) HG.out.1).trans HG.out.2.1
        have c1 := (B1.out.cell (p := ⟨b, o + k * 3 + 1, none⟩) HG.out.1).trans HG.out.2.2.1
        have c2 := (B1.out.cell (p := ⟨b, o + k * 3 + 2, none⟩) HG.out.1).trans HG.out.2.2.2
        go_wp2_with fail
        refine (HSS.out W1 B1.out).mono ?_
        rintro e W2 ⟨rfl, hb2⟩
        have B2 := Lib.hid (B1.out.trans (hb2.mono hA2))
        have HE2 := Lib.hid (HE1.out.below hb2 (Nat.le_refl _))
        have hA3 : A ≤ W2.heap.size := HSZ.out _ B2.out
        clear hb2 B1 HE1 c0 c1 c2 HSI HSS HG
        cases ok
        · clear HYS HKS HJS
          go_wp2
          go_ret
          rw [HA.out]
          exact ⟨rfl, B2.out⟩
        · obtain ⟨y1, y2, y3, y4, y5⟩ := HYS.out rfl
          rw [← y1] at y2 y3 y4 y5
          have HL : Hid (Calls Try.prog 24 #[.string Q] W2 fun e w' => (∃ vt vs, e = .returned (.tuple #[savedV x.1 vt vs, .bool true]) ∧ OwnSv w' W2.heap.size vt vs x) ∧ Below W2.heap.size W2 w') := by
            have := implLoad_any Q W2 (by omega)
            rw [y4, y5] at this
            exact this
          have HSW : Hid (SvW x) := by rw [← y5]; exact ldX_w (by omega)
          have HSR : Hid (storeR x = Q) := by show _ = _; rw [storeR_yes HOKX.out]; exact y1.symm
          have HK2 := Lib.hid (HKS.out rfl)
          have hQs := y2
          have HJ := Lib.hid y3
          obtain ⟨S, hS⟩ : ∃ S, jS xs k = S := ⟨_, rfl⟩
          have hend := endsJ_at HE2.out HN.out (Nat.le_refl k)
          rw [hS] at HJ HJS hend
          have hJb : S ≤ 10000000 := Nat.le_trans HJS.out (by omega)
          clear y1 y2 y3 y4 y5 HYS HKS HJS hend
          go_wp2_with fail
          refine HL.out.mono ?_
          rintro e W3 ⟨⟨vt', vs', rfl, ho3⟩, hb3⟩
          have B3 := Lib.hid (B2.out.trans (hb3.mono hA3))
          have HE3 := Lib.hid (HE2.out.below hb3 (Nat.le_refl _))
          have hA4 : A ≤ W3.heap.size := HSZ.out _ B3.out
          unfold savedV
          obtain ⟨ta, tl, tc, rfl⟩ := (show ∃ a l c, vt' = .slice a l c from by obtain ⟨raw, mid, h1, _⟩ := ho3; exact h1.form)
          obtain ⟨sa, sl, sc, rfl⟩ := (show ∃ a l c, vs' = .slice a l c from by obtain ⟨raw, mid, _, _, _, h1, _⟩ := ho3; exact h1.form)
          have al4 : Below W3.heap.size W3 (W3.alloc (.cells #[.string x.1, .slice ta tl tc, .slice sa sl sc] 44)) := (Below.refl _ W3).alloc (Nat.le_refl _) _
          have B4 : Hid (Below A w (W3.alloc (.cells #[.string x.1, .slice ta tl tc, .slice sa sl sc] 44))) := B3.out.alloc hA4 _
          have HE4 := Lib.hid (HE3.out.below al4 (Nat.le_refl _))
          have HS4 : Hid (Calls Try.prog 22 #[.agg #[.string x.1, .slice ta tl tc, .slice sa sl sc]] (W3.alloc (.cells #[.string x.1, .slice ta tl tc, .slice sa sl sc] 44)) fun e w' => e = .returned (.tuple #[.string Q, .bool true]) ∧ Below (W3.alloc (.cells #[.string x.1, .slice ta tl tc, .slice sa sl sc] 44)).heap.size (W3.alloc (.cells #[.string x.1, .slice ta tl tc, .slice sa sl sc] 44)) w') := by
            obtain ⟨r1, r2⟩ := (ho3.below al4).reads HSW.out
            have := implStore_v x.1 _ _ x.2.1 x.2.2 _ (by have := HSW.out.1; unfold maxLen; omega) r1 r2.ints.1
            rw [show (x.1, x.2.1, x.2.2) = x from rfl, HSR.out, HOKX.out] at this
            exact this
          have hA5 : A ≤ (W3.alloc (.cells #[.string x.1, .slice ta tl tc, .slice sa sl sc] 44)).heap.size := HSZ.out _ B4.out
          have HA5 := Lib.hid hA5
          clear ho3 hb3 HL B2 HE2 B3 HE3 al4 hA5
          go_wp2_with fail
          refine HS4.out.mono ?_
          rintro e W5 ⟨rfl, hb5⟩
          have B5 := Lib.hid (B4.out.trans (hb5.mono HA5.out))
          have HE5 := Lib.hid (HE4.out.below hb5 (Nat.le_refl _))
          have HA6 := Lib.hid (HSZ.out _ B5.out)
          have hend := endsJ_at HE5.out HN.out (Nat.le_refl k)
          rw [hS] at hend
          have hnk := HN.out
          have hn1 : (n : Int) - 1 = (k : Int) := by omega
          have hkn : k < n := by omega
          have hkn2 : (k : Int) < (n : Int) := by omega
          have HEN : Hid (endsL xs k ++ [(S : Int) + (Q.size : Int)] = endsL xs (k + 1)) := by
            show _ = _
            rw [endsL_succ, HJ.out]
            congr 2
          have hel : Hid ((endsL xs k).length ≤ 1000000) := by show _ ≤ _; rw [endsL_len]; omega
          have HELN : Hid ((endsL xs k).length = k + 1) := endsL_len xs k
          clear hb5 HS4 B4 HE4 hS hnk
          go_wp2_with (at_builtin; refine append_jN rfl _ _ rfl A (.slice (some ⟨g, 0, none⟩) n c') (endsL xs k) ((S : Int) + (Q.size : Int)) rfl 1 rfl HE5.out HA6.out hel.out ?_; intro g6 c6 n6 w6 hn6 ho6 hg6; rw [HEN.out] at ho6; have HO6 := Lib.hid ho6; have HN6 := hn6; have B6 : Hid (Below A w w6) := B5.out.grown hg6 HA6.out (fun j e => (HE5.out.lt j e).1); clear ho6 hg6)
          go_roundw
          case rel => exact ⟨k + 1, n6, g6, c6, by omega, by have h1 := HN6.out; have h2 := HELN.out; show n6 = k + 1 + 1; omega, by go_num, rfl, HO6.out, HK2.out, B6.out⟩
          case measure => simp [intOf]; omega
      · have hkl : k = xs.length := by omega
        have hall : ∀ x ∈ xs, savedOk x = true := fun x hx => by
          obtain ⟨i, hi, rfl⟩ := List.mem_iff_getElem.1 hx
          exact HK.out i hi (by omega)
        have HSM := Lib.hid (all_small (xs := xs) (by omega) hall)
        have HSI : Hid (∀ v W, SavedsR W v xs → Calls Try.prog 25 #[v] W fun e w' => e = .returned (.tuple #[.string (storeAllR xs), .bool (allOk xs)]) ∧ Below W.heap.size W w') := fun v W hv => implStoreAll_u v xs W hv HSM.out
        have HSS : Hid (∀ v W, SavedsR W v xs → Calls Try.prog 26 #[v] W fun e w' => e = .returned (.tuple #[.string (storeAllR xs), .bool (allOk xs)]) ∧ Below W.heap.size W w') := fun v W hv => specStoreAll_u v xs W hv HSM.out
        have HYES : Hid (allOk xs = true → storeAllR xs = joined xs xs.length ∧ xs.length ≤ 8 ∧ (joined xs xs.length).size ≤ 80000 ∧ rvL (joined xs xs.length) = xs ∧ rvN (joined xs xs.length) = (joined xs xs.length).size) := fun h => by
          have h8 : xs.length ≤ 8 := by
            unfold allOk at h
            simp only [Bool.and_eq_true, decide_eq_true_eq] at h
            exact h.1
          refine ⟨storeAllR_yes h, h8, ?_, (rv_whole h).1, (rv_whole h).2⟩
          have := jS_small hall xs.length (Nat.le_refl _)
          unfold jS at this
          omega
        have HN2 : Hid (n = xs.length + 1) := by show _ = _; rw [HN.out, hkl]
        have HE0 : Hid (OwnJ wr A (.slice (some ⟨g, 0, none⟩) n c') (endsL xs xs.length)) := by
          show OwnJ _ _ _ _
          rw [← hkl]; exact HE.out
        have HOKA : Hid (allOk xs = true → allOk xs = true) := id
        obtain ⟨F, hF⟩ : ∃ F, allOk xs = F := ⟨_, rfl⟩
        have HFF := Lib.hid hF
        rw [hF] at HSI HSS HYES
        obtain ⟨T, hT⟩ : ∃ T, storeAllR xs = T := ⟨_, rfl⟩
        rw [hT] at HSI HSS HYES
        have i2 : ¬ (k : Int) < (xs.length : Int) := by omega
        have hv1 := HV.out wr HB.out
        have HI1 := Lib.hid (HSI.out _ wr hv1)
        clear hF hT HK HE HN hall hkl hv1 HC HOKA
        go_wp2_with fail
        refine HI1.out.mono ?_
        rintro e W1 ⟨rfl, hb1⟩
        have B1 := Lib.hid (HB.out.trans (hb1.mono hA1))
        have HE1 := Lib.hid (HE0.out.below hb1 (Nat.le_refl _))
        have HA2 := Lib.hid (HSZ.out _ B1.out)
        have HS1 := Lib.hid (HSS.out _ W1 (HV.out W1 B1.out))
        clear hb1 HI1 HB HE0 HSS
        go_wp2_with fail
        refine HS1.out.mono ?_
        rintro e W2 ⟨rfl, hb2⟩
        have B2 := Lib.hid (B1.out.trans (hb2.mono HA2.out))
        have HE2 := Lib.hid (HE1.out.below hb2 (Nat.le_refl _))
        have HA3 := Lib.hid (HSZ.out _ B2.out)
        clear hb2 HS1 B1 HE1 HA2
        cases F
        · go_wp2
          go_ret
          rw [HA.out]
          exact ⟨rfl, B2.out⟩
        obtain ⟨y1, y2, y3, y4, y5⟩ := HYES.out rfl
        have HTJ : Hid (T = joined xs xs.length) := y1
        rw [← y1] at y3 y4 y5
        have HRV : Hid (Calls Try.prog 27 #[.string T] W2 fun e w' => (∃ v, e = .returned (.tuple #[v, .int .i64 T.size, .bool true]) ∧ SavedsR w' v xs) ∧ Below W2.heap.size W2 w') := by
          have := implRecover_any T W2 (by omega)
          rw [y4, y5] at this
          exact this
        have HY3 := Lib.hid y3
        have HJN : Hid (jS xs xs.length = T.size) := by show (joined xs xs.length).size = _; rw [HTJ.out]
        clear y1 y3 y4 y5 HYES
        go_wp2_with fail
        refine HRV.out.mono ?_
        rintro e W3 ⟨⟨v3, rfl, hv3⟩, hb3⟩
        have B3 := Lib.hid (B2.out.trans (hb3.mono HA3.out))
        have HE3 := Lib.hid (HE2.out.below hb3 (Nat.le_refl _))
        have HA4 := Lib.hid (HSZ.out _ B3.out)
        have HI3 := Lib.hid (HSI.out v3 W3 hv3)
        obtain ⟨p3, q3, rfl, _⟩ := hv3.at_
        clear hb3 hv3 HRV B2 HE2 HA3
        go_wp2_with fail
        refine HI3.out.mono ?_
        rintro e W4 ⟨rfl, hb4⟩
        have B4 := Lib.hid (B3.out.trans (hb4.mono HA4.out))
        have HE4 := Lib.hid (HE3.out.below hb4 (Nat.le_refl _))
        have HA5 := Lib.hid (HSZ.out _ B4.out)
        have hend := endsJ_at HE4.out HN2.out (Nat.le_refl xs.length)
        rw [HJN.out] at hend
        have hts := HY3.out
        have hn2 := HN2.out
        have hln : xs.length < n := by omega
        have hln2 : (xs.length : Int) < (n : Int) := by omega
        clear hb4 HI3 B3 HE3 HA4 hn2
        by_cases hc0 : cut < 0
        · go_wp2
          go_ret
          rw [HA.out]
          exact ⟨rfl, B4.out⟩
        by_cases hc1 : cut ≥ (T.size : Int)
        · go_wp2
          go_ret
          rw [HA.out]
          exact ⟨rfl, B4.out⟩
        obtain ⟨m, rfl⟩ : ∃ m : Nat, cut = m := ⟨cut.toNat, by omega⟩
        have hmT : m < T.size := by omega
        have hmT2 : (m : Int) < (T.size : Int) := by omega
        clear hend hc0 hc1
        have hend := endsJ_at HE4.out HN2.out (Nat.le_refl xs.length)
        rw [HJN.out] at hend
        go_wp2
        go_loop [26] (fun vk => ∃ (q : Nat), q ≤ xs.length ∧ vk = .int .i64 q ∧ Hid (jS xs q ≤ m)) (fun vk => xs.length - (intOf vk).toNat)
        case atStart => exact ⟨0, Nat.zero_le _, rfl, Nat.zero_le _⟩
        case round =>
          obtain ⟨q, hq, rfl, HQM⟩ := hrel
          have hqn : q < xs.length := by
            rcases Nat.lt_or_eq_of_le hq with h | h
            · exact h
            · have := HQM.out; rw [h, HJN.out] at this; omega
          have hcell := endsJ_at HE4.out HN2.out (show q + 1 ≤ xs.length by omega)
          have q1 : (q : Int) < (xs.length : Int) := by omega
          have q2 : (q : Int) + 1 < (n : Int) := by omega
          have q3 : (0 : Int) ≤ (q : Int) + 1 := by omega
          have q4 : q + 1 < n := by omega
          by_cases hle : jS xs (q + 1) ≤ m
          · have HLE := Lib.hid hle
            obtain ⟨J, hJ⟩ : ∃ J, jS xs (q + 1) = J := ⟨_, rfl⟩
            rw [hJ] at hcell hle
            have hle2 : (J : Int) ≤ (m : Int) := by omega
            clear hJ hle HQM hend
            go_wp2
            go_round
            case rel => exact ⟨q + 1, by omega, by go_num, HLE.out⟩
            case measure => simp [intOf]; omega
          · have hlt2 : m < jS xs (q + 1) := by omega
            have hqq := HQM.out
            have HOK : Hid (allOk xs = true) := HFF.out
            have hcut := rv_cut HFF.out hqn hqq hlt2
            rw [← HTJ.out] at hcut
            have hall := rv_all (T.extract 0 m)
            rw [hcut.1, hcut.2] at hall
            have hex : (T.extract 0 m).extract 0 (jS xs q) = T.extract 0 (jS xs q) := by
              refine bytes_eq ?_
              rw [ext_data, ext_data, ext_data, List.drop_zero, List.drop_zero, Nat.sub_zero, Nat.sub_zero, List.take_take, Nat.min_eq_left hqq]
            rw [hex] at hall
            have hlen5 : (xs.take q).length = q := by rw [List.length_take]; omega
            have HRV : Hid (Calls Try.prog 27 #[.string (T.extract 0 m)] W4 fun e w' => (∃ v, e = .returned (.tuple #[v, .int .i64 (jS xs q), .bool true]) ∧ SavedsR w' v (xs.take q)) ∧ Below W4.heap.size W4 w') := by
              have hsz : (T.extract 0 m).size ≤ 1048576 := by
                rw [Go.Lib.size_eq, ext_data, List.length_take, List.drop_zero, data_len]; omega
              have := implRecover_any (T.extract 0 m) W4 hsz
              rw [hcut.1, hcut.2] at this
              exact this
            have HSA : Hid (∀ v W, SavedsR W v (xs.take q) → Calls Try.prog 25 #[v] W fun e w' => e = .returned (.tuple #[.string (T.extract 0 (jS xs q)), .bool true]) ∧ Below W.heap.size W w') := fun v W hv => by
              have := implStoreAll_u v (xs.take q) W hv (allOk_small hall.1)
              rw [hall.1, hall.2.1] at this
              exact this
            have hck := endsJ_at HE4.out HN2.out (show q ≤ xs.length by omega)
            have HLT2 := Lib.hid hlt2
            have HQQ := Lib.hid hqq
            have HL5 := Lib.hid hlen5
            obtain ⟨J, hJ⟩ : ∃ J, jS xs (q + 1) = J := ⟨_, rfl⟩
            rw [hJ] at hcell hle hlt2
            have hle2 : ¬ (J : Int) ≤ (m : Int) := by omega
            obtain ⟨K, hK⟩ : ∃ J, jS xs q = J := ⟨_, rfl⟩
            rw [hK] at HRV HSA hck hqq
            have HKK := Lib.hid hK
            have hKT : (K : Int) ≤ (T.size : Int) := by omega
            have m0 : (0 : Int) ≤ (m : Int) := by omega
            have m1 : (m : Int) ≤ (T.size : Int) := by omega
            clear hJ hK hcut hall hex hlen5 hle HQM hend hck
            go_wp2_with fail
            refine HRV.out.mono ?_
            rintro e W5 ⟨⟨v5, rfl, hv5⟩, hb5⟩
            have B5 := Lib.hid (B4.out.trans (hb5.mono HA5.out))
            have HE5 := Lib.hid (HE4.out.below hb5 (Nat.le_refl _))
            have HA6 := Lib.hid (HSZ.out _ B5.out)
            have HI5 := Lib.hid (HSA.out v5 W5 hv5)
            obtain ⟨p5, q5, rfl, _⟩ := hv5.at_
            rw [HL5.out] at HI5
            rw [HL5.out]
            clear hb5 hv5 HRV B4 HE4 HA5 HSA hcell
            go_wp2_with fail
            refine HI5.out.mono ?_
            rintro e W6 ⟨rfl, hb6⟩
            have B6 := Lib.hid (B5.out.trans (hb6.mono HA6.out))
            have HE6 := Lib.hid (HE5.out.below hb6 (Nat.le_refl _))
            have HA7 := Lib.hid (HSZ.out _ B6.out)
            have hck := endsJ_at HE6.out HN2.out (show q ≤ xs.length by omega)
            rw [HKK.out] at hck
            have q6 : q < n := by omega
            have q7 : (q : Int) < (n : Int) := by omega
            clear hb6 HI5 B5 HE5 HA6
            obtain ⟨CP, W7, hcv, hcp, hb7, hs7, hc7⟩ := conv_to T W6 (by omega)
            obtain ⟨b0, hb0⟩ : ∃ b, W6.heap.size = b := ⟨_, rfl⟩
            rw [hb0] at hcv hb7 hs7 hc7
            have HC7 := Lib.hid hc7
            have B7 := Lib.hid (B6.out.trans (hb7.mono (by rw [← hb0]; exact HA7.out)))
            have HAB : Hid (A ≤ b0) := by rw [← hb0]; exact HA7.out
            have cm := (hc7 m hmT).1
            have fm := (hc7 m hmT).2
            have HCP := Lib.hid hcp
            have m3 : (m : Int) < (T.size : Int) := hmT2
            clear hc7 hb7 hb0
            have hc8 : ∀ (Y : Int) i, i < T.size → (W7.setCell ⟨b0, m, none⟩ (.int .u8 Y)).cell? ⟨b0, i, none⟩ = some (.int .u8 (((chs T).set m Y).getD i 0)) := fun Y i hi => by
              obtain ⟨h1, _⟩ := HC7.out i hi
              by_cases him : i = m
              · subst him
                rw [List.getD_eq_getElem?_getD, List.getElem?_set_self (by rw [chs_length]; exact hi)]
                exact World.cell?_setCell_same _ _ _ h1
              · rw [List.getD_eq_getElem?_getD, List.getElem?_set_ne (Ne.symm him), ← List.getD_eq_getElem?_getD]
                refine Eq.trans ?_ h1
                first
                  | exact World.cell?_setCell_other _ _ _ _ (by intro e; cases e; exact him rfl)
                  | exact World.cell?_setCell_other _ _ (by intro e; cases e; exact him rfl)
                  | exact World.cell?_setCell_other (by intro e; cases e; exact him rfl)
                  | exact World.cell?_setCell_other _ (by intro e; cases e; exact him rfl)
            have hcv2 : ∀ Y : Int, (convert 22 9 (.slice (some ⟨b0, 0, none⟩) T.size CP)).run Try.prog (W7.setCell ⟨b0, m, none⟩ (.int .u8 Y)) = .ok (.string (bentS T m Y)) (W7.setCell ⟨b0, m, none⟩ (.int .u8 Y)) := fun Y => conv_cells (by rw [List.length_set, chs_length]) (hc8 Y)
            have HC8 := Lib.hid hc8
            clear hc8
            go_wp2_with fail
            generalize bits BinOp.xor IntKind.u8 ((chs T)[m]?.getD 0) bit = Y
            obtain ⟨W8, hW8⟩ : ∃ W, W7.setCell ⟨b0, m, none⟩ (.int .u8 Y) = W := ⟨_, rfl⟩
            have B8 : Hid (Below A w W8) := by rw [← hW8]; exact B7.out.setCell (p := ⟨b0, m, none⟩) HAB.out _
            have HC9 : Hid (b0 < W8.heap.size ∧ ∀ i, i < T.size → W8.cell? ⟨b0, i, none⟩ = some (.int .u8 (((chs T).set m Y).getD i 0))) := by
              rw [← hW8]
              exact ⟨by simpa [World.setCell] using hs7, HC8.out Y⟩
            obtain ⟨V, hV⟩ : ∃ V, bentS T m Y = V := ⟨_, rfl⟩
            have hvs : V.size = T.size := by rw [← hV, bent_size]
            have hq8 : q ≤ 8 := by omega
            have hall8 := HFF.out
            have hp : Pre V xs q := Pre.of (by omega) (fun i hi _ => by
              unfold allOk at hall8
              simp only [Bool.and_eq_true, decide_eq_true_eq, List.all_eq_true] at hall8
              exact hall8.2 _ (List.getElem_mem hi)) (by
              rw [← hV, bent_pre HQQ.out, HTJ.out]
              obtain ⟨r0, hr0⟩ := joined_pre (xs := xs) (k := q) (m := xs.length) (by omega) (Nat.le_refl _)
              refine bytes_eq ?_
              have hjk : (joined xs q).data.toList.length = jS xs q := data_len _
              rw [ext_data, List.drop_zero, Nat.sub_zero, hr0, List.take_append_of_le_length (by omega), List.take_of_length_le (by omega)])
            have hmany := rv_many hp hq8
            have hal := rv_all V
            have HRV : Hid (Calls Try.prog 27 #[.string V] W8 fun e w' => (∃ v, e = .returned (.tuple #[v, .int .i64 (rvN V), .bool true]) ∧ SavedsR w' v (rvL V)) ∧ Below W8.heap.size W8 w') := implRecover_any V W8 (by omega)
            have HSA : Hid (∀ v W, SavedsR W v (rvL V) → Calls Try.prog 25 #[v] W fun e w' => e = .returned (.tuple #[.string (V.extract 0 (rvN V)), .bool true]) ∧ Below W.heap.size W w') := fun v W hv => by
              have := implStoreAll_u v (rvL V) W hv (allOk_small hal.1)
              rw [hal.1, hal.2.1] at this
              exact this
            have hLle := hal.2.2.1
            have hole := hal.2.2.2
            obtain ⟨o, ho⟩ : ∃ o, rvN V = o := ⟨_, rfl⟩
            obtain ⟨L, hL⟩ : ∃ o, rvL V = o := ⟨_, rfl⟩
            rw [ho] at HRV HSA hole
            rw [hL] at HRV HSA hmany hLle
            have HVV := Lib.hid hV
            rw [hW8, hV]
            clear hp hal ho hL hV hW8 hcv hcv2 HC8 cm fm hs7 hall8
            refine HRV.out.mono ?_
            rintro e W9 ⟨⟨v9, rfl, hv9⟩, hb9⟩
            have HA8 : Hid (A ≤ W8.heap.size) := HSZ.out _ B8.out
            have B9 := Lib.hid (B8.out.trans (hb9.mono HA8.out))
            have HC10 : Hid (b0 < W9.heap.size ∧ ∀ i, i < T.size → W9.cell? ⟨b0, i, none⟩ = some (.int .u8 (((chs T).set m Y).getD i 0))) := ⟨by have := hb9.size; have := HC9.out.1; omega, fun i hi => (hb9.cell (p := ⟨b0, i, none⟩) HC9.out.1).trans (HC9.out.2 i hi)⟩
            have HI9 := Lib.hid (HSA.out v9 W9 hv9)
            obtain ⟨p9, q9, rfl, _⟩ := hv9.at_
            clear hb9 hv9 HRV B8 HC9 HSA
            go_wp2_with fail
            refine HI9.out.mono ?_
            rintro e W10 ⟨rfl, hb10⟩
            have B10 := Lib.hid (B9.out.trans (hb10.mono (HSZ.out _ B9.out)))
            have hcv3 : (convert 22 9 (.slice (some ⟨b0, 0, none⟩) o CP)).run Try.prog W10 = .ok (.string (V.extract 0 o)) W10 := by
              have h1 := conv_cells (w := W10) (b := b0) (c := CP) (n := o) (l := ((chs T).set m Y).take o) (by rw [List.length_take, List.length_set, chs_length]; omega) (fun i hi => by
                rw [(hb10.cell (p := ⟨b0, i, none⟩) HC10.out.1).trans (HC10.out.2 i (by omega))]
                rw [List.getD_eq_getElem?_getD, List.getD_eq_getElem?_getD, List.getElem?_take, if_pos hi])
              rw [nums_take] at h1
              rw [← HVV.out]
              exact h1
            have o1 : (q : Int) ≤ (L.length : Int) := by omega
            have o2 : (o : Int) ≤ (T.size : Int) := by omega
            have o3 : (0 : Int) ≤ (o : Int) := by omega
            have o4 : (o : Int) ≤ (CP : Int) := by omega
            have o5 : o ≤ CP := by omega
            clear hb10 HI9 B9 HC10
            go_wp2
            go_ret
            rw [HA.out]
            exact ⟨rfl, B10.out⟩
  · have i0 : (xs.length : Int) > 1000 := by omega
    go_enter Try.func4, Try.ntmps4
    go_wp2
    go_ret
    exact ⟨rfl, Below.refl _ _⟩
end Go.Proofs.Ytmhepomjbaendaa
