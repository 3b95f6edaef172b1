
/- impl.RoomsOf. Conditions: none. -/
import Derived.Test.YtnpfninkopffmaaMostImpl
import Derived.Test.YtnpfninkopffmaaMaxI
import Derived.Test.YtnpfninkopffmaaNone
namespace Go.Proofs.Ytnpfninkopffmaa
open Go.RowKit Go.Shelf
set_option linter.unusedVariables false
set_option linter.unusedSimpArgs false

/-- The key: where a talk begins. -/
theorem begKey_any (a : Option Addr) (c : Nat) (xs : List Int) (bx : Nat) (x : Int) (W : World) (hb : Boxed W bx 29 (.slice a xs.length c)) (hv : Ints W (.slice a xs.length c) xs) (hl : xs.length ≤ 64) (h0 : 0 ≤ x) (hx : 2 * x + 1 < xs.length) :
    KeyAt 67 #[.pointer (some ⟨bx, 0, none⟩)] (begOf xs) x W := by
  obtain ⟨i, rfl⟩ : ∃ i : Nat, x = i := ⟨x.toNat, by omega⟩
  obtain ⟨hm, a', c', he, hcap, hc⟩ := hv
  injection he with e1 e2 e3
  subst e1 e3
  obtain ⟨b, o, ha0, hbs, hcs⟩ := row_at hc
  obtain rfl := ha0 (by omega)
  have e1 := hcs (2 * i) (by omega)
  rw [← nth_eq] at e1
  have hE : Hid (begOf xs (i : Int) = nth xs (2 * i)) := by show _ = _; unfold begOf; rw [Int.toNat_natCast]
  obtain ⟨I, hI⟩ : ∃ I, 2 * i = I := ⟨_, rfl⟩
  rw [hI] at e1 hE
  have hIi : 2 * (i : Int) = (I : Int) := by omega
  have w0 : IntKind.i64.wrap (2 * (i : Int)) = (I : Int) := by rw [hIi]; exact IntWalk.i64_in _ (by omega)
  have i2 : (0 : Int) ≤ (I : Int) := by omega
  have i3 : (I : Int) < (xs.length : Int) := by omega
  have hbc := hb.cell
  clear hc hcs ha0 hI hb
  unfold KeyAt
  go_enter Try.func67, Try.ntmps67
  go_wp2
  go_ret
  exact ⟨ret_int hE.out.symm, 0, rfl⟩

set_option maxRecDepth 100000 in
theorem roomMeet_any (v : Value) (xs out : List Int) (bo br bx bi g n : Nat) (x i r : Int) (W : World) (N : Nat) (hbo : Boxed W bo 29 (.slice (some ⟨g, 0, none⟩) n n)) (hbr : Boxed W br 2 (.int .i64 r)) (hbx : Boxed W bx 29 v) (hbi : Boxed W bi 2 (.int .i64 i)) (ho : OwnI W N (.slice (some ⟨g, 0, none⟩) n n) out) (hn : n = out.length) (hv : Ints W v xs) (hl : xs.length ≤ 64) (hn2 : 2 * n ≤ xs.length) (h0 : 0 ≤ x) (hx : x < n) (i0 : 0 ≤ i) (hi1 : i < n) :
    Calls Try.prog 69 #[.int .i64 x, .pointer (some ⟨bo, 0, none⟩), .pointer (some ⟨br, 0, none⟩), .pointer (some ⟨bx, 0, none⟩), .pointer (some ⟨bi, 0, none⟩)] W fun e w' => e = .returned (.bool ((nth out x.toNat == r) && meetB xs i.toNat x.toNat)) ∧ Below W.heap.size W w' := by
  obtain ⟨k, rfl⟩ : ∃ k : Nat, x = k := ⟨x.toNat, by omega⟩
  have HC : Hid (∀ m, Calls Try.prog 64 #[v, .int .i64 i, .int .i64 k] (W.drewN m) fun e w' => e = .returned (.bool (meetB xs i.toNat k)) ∧ ∃ q, w' = (W.drewN m).drewN q) := fun m => meet_any v xs i.toNat k (W.drewN m) (hv.below (below_drewN m (Below.refl W.heap.size W)) (Nat.le_refl _)) (by omega) (by omega) hl i k (by show _ = _; omega) (by show _ = _; omega)
  have co := ho.at_ hn k (by omega)
  have c1 := hbo.cell
  have c2 := hbr.cell
  have c3 := hbx.cell
  have c4 := hbi.cell
  have k0 : (0 : Int) ≤ (k : Int) := by omega
  rw [Int.toNat_natCast]
  obtain ⟨A, hA⟩ : ∃ A, nth out k = A := ⟨_, rfl⟩
  obtain ⟨M, hM⟩ : ∃ M, meetB xs i.toNat k = M := ⟨_, rfl⟩
  rw [hA] at co ⊢
  simp only [hM] at HC ⊢
  clear hbo hbr hbx hbi ho hv hA hM
  by_cases he : A = r
  · have hd : (A == r) = true := by simpa using he
    have HD : Hid (((A == r) && M) = M) := by show _ = _; rw [hd]; rfl
    clear he
    go_enter Try.func69, Try.ntmps69
    go_wp2
    go_quiet ((first | (go_at_call 64; exact quiet_drewI (HC.out _))))
    go_wp2
    go_ret
    exact ⟨ret_bool HD.out.symm, below_drewN _ (Below.refl _ _)⟩
  · have hd : (A == r) = false := by simpa using he
    have HD : Hid (((A == r) && M) = false) := by show _ = _; rw [hd]; rfl
    clear he
    go_enter Try.func69, Try.ntmps69
    go_wp2
    go_quiet ((first | (go_at_call 64; exact quiet_drewI (HC.out _))))
    go_wp2
    go_ret
    exact ⟨ret_bool HD.out.symm, below_drewN _ (Below.refl _ _)⟩

/-- The rounds of RoomsOf. -/
def RoomR (N bx bo g n ge ce : Nat) (v : Value) (xs : List Int) (w : World) (vk : Value) (wr : World) : Prop :=
  ∃ t : Nat, vk = .int .i64 t ∧ t ≤ n ∧ Hid (OwnI wr N (.slice (some ⟨g, 0, none⟩) n n) (roomsTo xs n t)) ∧ Hid (OwnI wr N (.slice (some ⟨ge, 0, none⟩) n ce) (sortsL (begOf xs) n)) ∧ Hid (Boxed wr bx 29 v ∧ Boxed wr bo 29 (.slice (some ⟨g, 0, none⟩) n n) ∧ Below N w wr)
/-- The rounds of the search for a room. -/
def RoomW (br n i : Nat) (R : Int) (xs out : List Int) (Wb wr : World) : Prop :=
  ∃ r : Nat, r ≤ n ∧ Hid (Boxed wr br 2 (.int .i64 r)) ∧ Hid (GrownL [br] Wb wr) ∧ Hid (roomF xs out n i (n - r) r = R)
def boxNat (b : Nat) (w : World) : Nat := match w.cell? ⟨b, 0, none⟩ with
  | some v => (intOf v).toNat
  | none => 0
theorem boxNat_eq {b n : Nat} {w : World} {t : TypeId} (h : Boxed w b t (.int .i64 n)) : boxNat b w = n := by unfold boxNat; rw [h.cell]; simp [intOf]

set_option maxRecDepth 100000 in
set_option maxHeartbeats 4000000 in
theorem implRooms_any (v : Value) (xs : List Int) (w : World) (hv : Ints w v xs) :
    Calls Try.prog 22 #[v] w fun e w' => (∃ u, e = .returned (.tuple #[u, .int .i64 (roomsC xs), .bool (talksOk xs)]) ∧ OwnI w' w.heap.size u (roomsR xs)) ∧ Below w.heap.size w w' := by
  obtain ⟨hm, a, c, hvv, hcap, hcz⟩ := id hv
  subst hvv
  obtain ⟨W0, hW0⟩ : ∃ W, w.alloc (.cells #[.slice a xs.length c] 29) = W := ⟨_, rfl⟩
  have HB0 : Hid (Below w.heap.size w W0) := by show Below _ _ _; rw [← hW0]; exact (Below.refl _ w).alloc (Nat.le_refl _) _
  have HBX : Boxed W0 w.heap.size 29 (.slice a xs.length c) := by rw [← hW0]; exact Boxed.new _ _ _
  have HSZ : Hid (W0.heap.size = w.heap.size + 1) := by show _ = _; rw [← hW0]; simp
  have hbc := HBX.cell
  have HV := Lib.hid hv
  have HT := Lib.hid (implTalks_any (.slice a xs.length c) xs W0 (hv.below HB0.out (Nat.le_refl _)))
  have HX := Lib.hid HBX
  clear hcz hv HBX
  go_enter Try.func22, Try.ntmps22
  go_wp2_with fail
  refine HT.out.mono ?_
  rintro e W1 ⟨rfl, hb⟩
  have HB1 : Hid (Below w.heap.size w W1 ∧ W0.heap.size ≤ W1.heap.size ∧ Boxed W1 w.heap.size 29 (.slice a xs.length c)) := ⟨HB0.out.trans (hb.mono (by have := HSZ.out; omega)), hb.size, boxed_blw HX.out hb (by have := HSZ.out; omega)⟩
  clear hb HT
  cases hok : talksOk xs
  · have HN : Hid (OwnI W1 w.heap.size (.slice none 0 0) (roomsR xs) ∧ roomsC xs = 0) := by
      show OwnI _ _ _ _ ∧ _
      unfold roomsR roomsC; rw [hok]; exact ⟨⟨rfl, .inl ⟨rfl, rfl⟩⟩, rfl⟩
    go_wp2
    go_ret3
    exact ⟨⟨_, by rw [hok, HN.out.2]; rfl, HN.out.1⟩, HB1.out.1⟩
  · have h2 : 2 ≤ xs.length ∧ xs.length ≤ 64 := by
      have h := hok
      simp only [talksOk, talksHead, Bool.and_eq_true] at h
      have := many_true.1 h.1.1
      omega
    obtain ⟨n, hn⟩ : ∃ n, xs.length / 2 = n := ⟨_, rfl⟩
    have hnI : (xs.length : Int) / 2 = (n : Int) := by omega
    have hnI2 : (xs.length : Int).tdiv 2 = (n : Int) := by rw [Int.tdiv_eq_ediv_of_nonneg (by omega)]; exact hnI
    have hn32 : n ≤ 32 := by omega
    have hn1 : 1 ≤ n := by omega
    have hbc1 := HB1.out.2.2.cell
    have HLEN : Hid (2 * n ≤ xs.length ∧ xs.length ≤ 64 ∧ xs.length / 2 = n) := by show _ ∧ _; omega
    have HNONE := Lib.hid (none_any n W1 hn1 (by omega))
    have HOK := Lib.hid (rooms_ok xs n)
    clear h2 hn
    go_wp2_with fail
    refine HNONE.out.mono ?_
    rintro e W2 ⟨⟨g, rfl, ho⟩, hb⟩
    obtain ⟨W3, hW3⟩ : ∃ W, W2.alloc (.cells #[.slice (some ⟨g, 0, none⟩) n n] 29) = W := ⟨_, rfl⟩
    have hb3 : Below W2.heap.size W2 W3 ∧ W3.heap.size = W2.heap.size + 1 := by rw [← hW3]; exact ⟨(Below.refl _ W2).alloc (Nat.le_refl _) _, by simp⟩
    have hX2 := boxed_blw HB1.out.2.2 hb HB1.out.2.2.lt
    have hX3 := boxed_blw hX2 hb3.1 hX2.lt
    have hO3 : Boxed W3 W2.heap.size 29 (.slice (some ⟨g, 0, none⟩) n n) := by rw [← hW3]; exact Boxed.new _ _ _
    have hBW3 : Below w.heap.size w W3 := (HB1.out.1.trans (hb.mono HB1.out.1.size)).trans (hb3.1.mono (Nat.le_trans HB1.out.1.size hb.size))
    have hg3 : OwnI W3 w.heap.size (.slice (some ⟨g, 0, none⟩) n n) (noneL n) := (ho.mono HB1.out.1.size).below hb3.1 (Nat.le_refl _)
    have HS := Lib.hid (sortedBy_any n 67 #[.pointer (some ⟨w.heap.size, 0, none⟩)] (begOf xs) W3 (by omega) (fun W x h0 hx hW => begKey_any a c xs w.heap.size x W (boxed_blw hX3 hW hX3.lt) (HV.out.below (hBW3.trans (hW.mono hBW3.size)) (Nat.le_refl _)) HLEN.out.2.1 h0 (by have := HLEN.out; omega))
      (enters_of Try.func67 (by kernel_rfl) rfl))
    have HX3 := Lib.hid (And.intro hX3 (And.intro hO3 (And.intro hBW3 hg3)))
    obtain ⟨bo, hbo⟩ : ∃ bo, W2.heap.size = bo := ⟨_, rfl⟩
    rw [hbo] at HX3
    have HBO : Hid (W2.heap.size = bo ∧ w.heap.size < bo) := ⟨hbo, by have := hX2.lt; omega⟩
    clear hb ho hb3 hX2 hX3 hO3 hBW3 hg3 hbc1
    go_wp2_with fail
    refine HS.out.mono ?_
    rintro e W4 ⟨⟨ge, ce, E, rfl, ho, hlE, hsort⟩, hb⟩
    obtain rfl : E = sortsL (begOf xs) n := sorts_one hsort (sortsL_ok _ _)
    have HGE : Hid (g ≠ ge ∧ g < W4.heap.size) := by
      have h1 := (ho.lt ge rfl).1
      have h2 := (HX3.out.2.2.2.lt g rfl).2
      have := hb.size
      show _ ∧ _; omega
    have HR0 : Hid (RoomR w.heap.size w.heap.size bo g n ge ce (.slice a xs.length c) xs w (.int .i64 0) W4) :=
      ⟨0, rfl, Nat.zero_le _, HX3.out.2.2.2.below hb (Nat.le_refl _), ho.mono HX3.out.2.2.1.size, boxed_blw HX3.out.1 hb HX3.out.1.lt, boxed_blw HX3.out.2.1 hb HX3.out.2.1.lt, HX3.out.2.2.1.trans (hb.mono HX3.out.2.2.1.size)⟩
    clear ho hb hlE hsort HS HX3 HNONE HB1 HX HSZ HB0 hbc hW0
    clear hW3 hbo
    go_wp2
    go_loopw [22] (fun vk wr => RoomR w.heap.size w.heap.size bo g n ge ce (.slice a xs.length c) xs w vk wr) (fun vk _ => n - (intOf vk).toNat)
    case atStart => exact HR0.out
    case round =>
      obtain ⟨t, rfl, htn, HO, HE, HB⟩ := hrel
      clear HR0
      obtain ⟨Wt, hWt⟩ : ∃ W : World, W = wr := ⟨_, rfl⟩
      subst hWt
      by_cases ht : t < n
      · have t1 : (t : Int) < (n : Int) := by omega
        have t0 : (0 : Int) ≤ (t : Int) := by omega
        have ct := HE.out.at_ (sortsL_len _ _).symm t (by rw [sortsL_len]; exact ht)
        obtain ⟨x, suf, hx1, hx2, hx3, hx4, hx5⟩ := sortsL_at (key := begOf xs) ht
        rw [hx3] at ct
        obtain ⟨i, rfl⟩ : ∃ i : Nat, x = i := ⟨x.toNat, by omega⟩
        have hin : i < n := by omega
        have HRK := HOK.out t htn
        have HNEXT : Hid (roomsTo xs n (t + 1) = (roomsTo xs n t).set i (roomAt xs (roomsTo xs n t) n i)) := by
          show _ = _
          rw [roomsTo_succ ht, hx3]; unfold roomStep; rw [Int.toNat_natCast]
        obtain ⟨out, hout⟩ : ∃ out, roomsTo xs n t = out := ⟨_, rfl⟩
        rw [hout] at HO HRK HNEXT
        have HRK := Lib.hid HRK
        obtain ⟨R, hR⟩ : ∃ R, roomAt xs out n i = R := ⟨_, rfl⟩
        rw [hR] at HNEXT
        have HR : Hid (roomF xs out n i (n - 0) ((0 : Nat) : Int) = R) := by show _ = _; rw [← hR]; rfl
        have hb6 : 6 = 6 := rfl
        clear hx1 hx2 hx3 hx4 hx5 hout hR hb6
        go_wp2
        obtain ⟨Wb, hWb⟩ : ∃ W, (Wt.alloc (.cells #[.int .i64 i] 2)).alloc (.cells #[.int .i64 0] 2) = W := ⟨_, rfl⟩
        rw [hWb]
        have HWB : Hid (Below Wt.heap.size Wt Wb ∧ Boxed Wb Wt.heap.size 2 (.int .i64 i) ∧ Boxed Wb (Wt.heap.size + 1) 2 (.int .i64 0) ∧ Wb.heap.size = Wt.heap.size + 2) := by
          show Below _ _ _ ∧ Boxed _ _ _ _ ∧ Boxed _ _ _ _ ∧ _
          rw [← hWb]
          refine ⟨((Below.refl _ Wt).alloc (Nat.le_refl _) _).alloc (by simp) _, (Boxed.new _ _ _).alloc _, ?_, by simp⟩
          have := Boxed.new (Wt.alloc (.cells #[.int .i64 i] 2)) 2 (.int .i64 0)
          simpa using this
        clear hWb
        go_loopw [31] (fun _ wi => RoomW (Wt.heap.size + 1) n i R xs out Wb wi) (fun _ wi => n - boxNat (Wt.heap.size + 1) wi)
        case atStart => exact ⟨0, Nat.zero_le _, HWB.out.2.2.1, GrownL.refl _ _, HR.out⟩
        case round =>
          obtain ⟨r, hrn, HBr, HGr, HRF⟩ := hrel
          have hbrs := HBr.out
          have HALL : Hid (∀ W, GrownL [Wt.heap.size + 1] Wb W → OwnI W w.heap.size (.slice (some ⟨g, 0, none⟩) n n) out ∧ Boxed W bo 29 (.slice (some ⟨g, 0, none⟩) n n) ∧ Boxed W w.heap.size 29 (.slice a xs.length c) ∧ Boxed W Wt.heap.size 2 (.int .i64 i) ∧ Below w.heap.size w W ∧ OwnI W w.heap.size (.slice (some ⟨ge, 0, none⟩) n ce) (sortsL (begOf xs) n)) := fun W hW => by
            obtain ⟨x1, x2, x3, x4⟩ := HWB.out
            have y1 := (HO.out.lt g rfl).2
            have y2 := (HE.out.lt ge rfl).2
            obtain ⟨z1, z2, z3⟩ := HB.out
            have z4 := z1.lt
            have z5 := z2.lt
            refine ⟨hW.own (HO.out.below x1 (Nat.le_refl _)) (by simp; omega), hW.boxed (boxed_blw z2 x1 z5) (by simp; omega), hW.boxed (boxed_blw z1 x1 z4) (by simp; omega), hW.boxed x2 (by simp), hW.toBelow (z3.trans (x1.mono z3.size)) (by have := z3.size; omega) (fun q hq => by simp; omega), hW.own (HE.out.below x1 (Nat.le_refl _)) (by simp; omega)⟩
          have HCN := Lib.hid (counting_any n wr (by omega))
          go_wp2_with fail
          refine HCN.out.mono ?_
          rintro e W7 ⟨⟨gc, cc, rfl, hoc⟩, hb7⟩
          have hG7 : GrownL [Wt.heap.size + 1] Wb W7 := HGr.out.below hb7 HGr.out.size
          have hR7 := boxed_blw HBr.out hb7 hbrs.lt
          have hCF := containsFunc_any (.slice (some ⟨gc, 0, none⟩) n cc) (idL n) 69 #[.pointer (some ⟨bo, 0, none⟩), .pointer (some ⟨Wt.heap.size + 1, 0, none⟩), .pointer (some ⟨w.heap.size, 0, none⟩), .pointer (some ⟨Wt.heap.size, 0, none⟩)] (fun k => (nth out k.toNat == (r : Int)) && meetB xs i k.toNat) W7 hoc.ints
            (fun W hW y hy => by
              have hy2 := idL_mem.1 hy
              obtain ⟨z1, z2, z3, z4, z5, z6⟩ := HALL.out W (hG7.below hW hG7.size)
              exact roomMeet_any (.slice a xs.length c) xs out bo (Wt.heap.size + 1) w.heap.size Wt.heap.size g n y i r W w.heap.size z2 (boxed_blw hR7 hW hR7.lt) z3 z4 z1 HRK.out.len.symm (HV.out.below z5 (Nat.le_refl _)) HLEN.out.2.1 HLEN.out.1 hy2.1 hy2.2 (by omega) (by omega))
            (enters_of Try.func69 (by kernel_rfl) rfl)
          have HCF := Lib.hid hCF
          have HG7 := Lib.hid (And.intro hG7 hR7)
          clear hb7 hG7 hR7 hCF HCN hoc
          go_wp2_with fail
          refine HCF.out.mono ?_
          rintro e W8 ⟨rfl, hb8⟩
          have HG8 : Hid (GrownL [Wt.heap.size + 1] Wb W8 ∧ Boxed W8 (Wt.heap.size + 1) 2 (.int .i64 r)) := ⟨HG7.out.1.below hb8 HG7.out.1.size, boxed_blw HG7.out.2 hb8 HG7.out.2.lt⟩
          have hcl : clashR xs out n i (r : Int) = (idL n).any fun k => (nth out k.toNat == (r : Int)) && meetB xs i k.toNat := rfl
          rw [← hcl]
          obtain ⟨C, hC⟩ : ∃ C, clashR xs out n i (r : Int) = C := ⟨_, rfl⟩
          rw [hC]
          have HC := Lib.hid hC
          have crc := HG8.out.2.cell
          have crf := HG8.out.2.frozen
          clear hcl hC hb8 HCF HG7 hbrs
          cases C
          · have hA := HALL.out W8 HG8.out.1
            have c1 := hA.2.1.cell
            have c2 := hA.2.2.2.1.cell
            have hlen := HRK.out.len
            have ci := hA.1.at_ hlen.symm i (by rw [hlen]; exact hin)
            have fi := (hA.1.store hlen.symm i (by rw [hlen]; exact hin) (r : Int)).2.1
            have HST := Lib.hid (hA.1.store hlen.symm i (by rw [hlen]; exact hin) (r : Int)).2.2
            have HA := Lib.hid hA
            have HRr : Hid (R = (r : Int)) := by show _ = _; rw [← HRF.out, roomF_stop _ HC.out]
            have i0 : (0 : Int) ≤ (i : Int) := by omega
            have i1 : (i : Int) < (n : Int) := by omega
            clear hA hlen HALL HC HRF HG8
            go_wp2
            go_roundw
            case rel =>
              obtain ⟨z1, z2, z3, z4, z5, z6⟩ := HA.out
              have ne1 := z1.ne_box z2 (by decide)
              have ne2 := z1.ne_box z3 (by decide)
              have hgg := HGE.out
              refine ⟨t + 1, by go_num, by omega, ?_, z6.kept HST.out.2 (.inr (by rw [ownBlock_slice]; intro e; injection e with e; omega)), z3.kept HST.out.2 (by intro e; injection e with e; exact ne2 e), z2.kept HST.out.2 (by intro e; injection e with e; exact ne1 e), z5.setCell (z1.lt g rfl).1 _⟩
              show OwnI _ _ _ _
              rw [HNEXT.out, HRr.out]
              exact HST.out.1
            case measure => simp [intOf]; omega
          · have HNX := Lib.hid (roomF_next (xs := xs) (out := out) (i := i) (fun k hk => by have := HRK.out.hi k hk; omega) hrn HC.out)
            have hr1 : r + 1 ≤ n := HNX.out.1
            have hrw : IntKind.i64.wrap ((r : Int) + 1) = (r : Int) + 1 := IntWalk.i64_in _ (by omega)
            clear HALL HC
            go_wp2
            go_roundw
            case rel =>
              have hbs := Boxed.set (.int .i64 ((r : Int) + 1)) HG8.out.2
              exact ⟨r + 1, hr1, hbs, HG8.out.1.setCell _ _ (.inl (by simp)), by show _ = _; rw [← HNX.out.2]; exact HRF.out⟩
            case measure =>
              rw [boxNat_eq HBr.out, boxNat_eq (n := r + 1) (Boxed.set (.int .i64 ((r : Int) + 1)) HG8.out.2)]
              omega
      · have t1 : ¬ (t : Int) < (n : Int) := by omega
        obtain rfl : t = n := by omega
        have c1 := HB.out.2.1.cell
        have HMX : Hid (∀ q, Calls Try.prog 70 #[.slice (some ⟨g, 0, none⟩) t t] (Wt.drewN q) fun e w' => e = .returned (.int .i64 (maxTo (roomsTo xs t t) (t - 1))) ∧ Wt.drewN q = w') := fun q => by
          have hl := (HOK.out t (Nat.le_refl _)).len
          have := maxI_any (.slice (some ⟨g, 0, none⟩) t t) (roomsTo xs t t) (Wt.drewN q) (HO.out.drewN q).ints (by omega) (by omega)
          rwa [hl] at this
        have HFIN : Hid (OwnI Wt w.heap.size (.slice (some ⟨g, 0, none⟩) t t) (roomsR xs) ∧ roomsC xs = maxTo (roomsTo xs t t) (t - 1) + 1 ∧ Below w.heap.size w Wt) := by
          show OwnI _ _ _ _ ∧ _
          unfold roomsR roomsC
          rw [hok, if_pos rfl, if_pos rfl, HLEN.out.2.2]
          exact ⟨HO.out, rfl, HB.out.2.2⟩
        have hmx : maxTo (roomsTo xs t t) (t - 1) < 1048576 ∧ -1048576 ≤ maxTo (roomsTo xs t t) (t - 1) := by
          obtain ⟨_, k, hk, he⟩ := maxTo_spec (roomsTo xs t t) (t - 1)
          have h1 := (HOK.out t (Nat.le_refl _)).hi k (by omega)
          have h2 := (HOK.out t (Nat.le_refl _)).lo k (by omega)
          omega
        obtain ⟨M, hM⟩ : ∃ M, maxTo (roomsTo xs t t) (t - 1) = M := ⟨_, rfl⟩
        rw [hM] at HFIN hmx
        simp only [hM] at HMX
        have hMw : IntKind.i64.wrap (M + 1) = M + 1 := IntWalk.i64_in _ (by omega)
        clear hM HO HE HB HOK
        go_wp2
        go_quiet ((first | (go_at_call 70; exact quiet_eq (HMX.out _))))
        go_wp2
        go_ret3
        exact ⟨⟨_, by rw [hok, HFIN.out.2.1]; rfl, HFIN.out.1.drewN _⟩, below_drewN _ HFIN.out.2.2⟩
end Go.Proofs.Ytnpfninkopffmaa
