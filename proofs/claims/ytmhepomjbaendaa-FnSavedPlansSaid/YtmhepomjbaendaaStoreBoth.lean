
/- StoreSaved, both sides: one plain result. Conditions: at most 2^20 numbers. -/
import Derived.Test.YtmhepomjbaendaaStoreImpl
import Derived.Test.YtmhepomjbaendaaStoreSpec
namespace Go.Proofs.Ytmhepomjbaendaa
open Go.RowKit Go.BigFrame
set_option linter.unusedVariables false
set_option linter.unusedSimpArgs false

def storeR (x : Sv) : ByteArray := if savedOk x = true then storeS x else ⟨#[]⟩
theorem storeR_yes {x : Sv} (h : savedOk x = true) : storeR x = storeS x := by unfold storeR; rw [if_pos h]
theorem storeR_no {x : Sv} (h : savedOk x = false) : storeR x = ⟨#[]⟩ := by unfold storeR; rw [h]; rfl

set_option maxRecDepth 100000 in
set_option maxHeartbeats 1000000 in
theorem implStore_u (s : ByteArray) (vt vs : Value) (ts : List Tk) (st : List Int) (w : World) (hsz : s.size ≤ maxLen) (ht : TasksR w vt ts) (hs : Ints w vs st) (hsm : ∀ x ∈ ts, x.2.2.1.length ≤ 1048576) :
    Calls Try.prog 22 #[savedV s vt vs] w fun e w' => e = .returned (.tuple #[.string (storeR (s, ts, st)), .bool (savedOk (s, ts, st))]) ∧ Below w.heap.size w w' := by
  cases hok : savedOk (s, ts, st)
  · have HVS : Hid (∀ W, Below w.heap.size w W → Calls Try.prog 29 #[savedV s vt vs] W fun e w' => e = .returned (.bool false) ∧ Below W.heap.size W w') := fun W hW => by
      have := validSaved_any s vt vs ts st W hsz (ht.below hW (Nat.le_refl _)) (hs.below hW (Nat.le_refl _)); rwa [hok] at this
    have HR := Lib.hid (storeR_no hok)
    obtain ⟨t1, t2, rfl⟩ : ∃ t1 t2, vt = .slice t1 ts.length t2 := by obtain ⟨_, t1, t2, h, _⟩ := ht; exact ⟨t1, t2, h⟩
    obtain ⟨s1, s2, rfl⟩ : ∃ t1 t2, vs = .slice t1 st.length t2 := by obtain ⟨_, t1, t2, h, _⟩ := hs; exact ⟨t1, t2, h⟩
    have hB0 : Below w.heap.size w (w.alloc (.cells #[.string s, .slice t1 ts.length t2, .slice s1 st.length s2] 44)) := (Below.refl _ w).alloc (Nat.le_refl _) _
    have HV := Lib.hid (HVS.out _ hB0)
    have HB0 := Lib.hid hB0
    unfold savedV at HV ⊢
    clear ht hs hok HVS hB0
    go_enter Try.func22, Try.ntmps22
    go_wp2_with (go_at_call 29; refine HV.out.mono ?_; rintro e w' ⟨rfl, hb⟩; have HB := Lib.hid hb; clear hb)
    go_ret2
    exact ⟨by rw [HR.out]; rfl, HB0.out.trans (HB.out.mono HB0.out.size)⟩
  · rw [storeR_yes hok]
    exact implStore_yes s vt vs ts st w hsz ht hs hok hsm

set_option maxRecDepth 100000 in
set_option maxHeartbeats 1000000 in
theorem specStore_u (s : ByteArray) (vt vs : Value) (ts : List Tk) (st : List Int) (w : World) (hsz : s.size ≤ maxLen) (ht : TasksR w vt ts) (hs : Ints w vs st) (htl : ts.length ≤ 1048576) (hsm : ∀ x ∈ ts, x.2.2.1.length ≤ 1048576) :
    Calls Try.prog 23 #[savedV s vt vs] w fun e w' => e = .returned (.tuple #[.string (storeR (s, ts, st)), .bool (savedOk (s, ts, st))]) ∧ Below w.heap.size w w' := by
  obtain ⟨t1, t2, rfl⟩ : ∃ t1 t2, vt = .slice t1 ts.length t2 := by obtain ⟨_, t1, t2, h, _⟩ := ht; exact ⟨t1, t2, h⟩
  obtain ⟨s1, s2, rfl⟩ : ∃ t1 t2, vs = .slice t1 st.length t2 := by obtain ⟨_, t1, t2, h, _⟩ := hs; exact ⟨t1, t2, h⟩
  have hB0 : Below w.heap.size w (w.alloc (.cells #[.string s, .slice t1 ts.length t2, .slice s1 st.length s2] 44)) := (Below.refl _ w).alloc (Nat.le_refl _) _
  have k1 : Blk (w.alloc (.cells #[.string s, .slice t1 ts.length t2, .slice s1 st.length s2] 44)) w.heap.size 44 [.string s, .slice t1 ts.length t2, .slice s1 st.length s2] := Blk.new w _ _
  have H := Lib.hid (l07Saved_any w.heap.size 0 s _ _ ts st _ hsz (ht.below hB0 (Nat.le_refl _)) (hs.below hB0 (Nat.le_refl _)) htl (k1.cell 0 _ rfl) (k1.cell 1 _ rfl) (k1.cell 2 _ rfl))
  have HB0 := Lib.hid hB0
  cases hok : savedOk (s, ts, st)
  · rw [hok] at H
    have HR := Lib.hid (storeR_no hok)
    unfold savedV
    clear hB0 k1 ht hs hsz hok
    go_enter Try.func23, Try.ntmps23
    go_wp2_with (go_at_call 71; refine H.out.mono ?_; rintro e w' ⟨rfl, q, rfl⟩)
    go_ret2
    exact ⟨by rw [HR.out]; rfl, below_drewN q HB0.out⟩
  · rw [hok] at H
    have HR := Lib.hid (storeR_yes hok)
    have hlt := k1.lt
    have HST : Hid (∀ q, Calls Try.prog 72 #[.pointer (some ⟨w.heap.size, 0, none⟩)] ((w.alloc (.cells #[.string s, .slice t1 ts.length t2, .slice s1 st.length s2] 44)).drewN q) fun e w' => e = .returned (.string (storeS (s, ts, st))) ∧ Below w.heap.size w w') := fun q => by
      have hq : Below (w.alloc (.cells #[.string s, .slice t1 ts.length t2, .slice s1 st.length s2] 44)).heap.size _ ((w.alloc (.cells #[.string s, .slice t1 ts.length t2, .slice s1 st.length s2] 44)).drewN q) := below_drewN q (Below.refl _ _)
      have hB1 := hB0.trans (hq.mono hB0.size)
      have kq := k1.below hq hlt
      refine (l07Store_yes w.heap.size 0 s _ _ ts st _ (ht.below hB1 (Nat.le_refl _)) (hs.below hB1 (Nat.le_refl _)) hok hsm kq.lt (kq.cell 0 _ rfl) (kq.cell 1 _ rfl) (kq.cell 2 _ rfl)).mono ?_
      rintro e w' ⟨rfl, hb⟩
      exact ⟨rfl, hB1.trans (hb.mono hB1.size)⟩
    unfold savedV
    clear hB0 k1 ht hs hsz hok hlt hsm
    go_enter Try.func23, Try.ntmps23
    go_wp2_with (first
      | (go_at_call 71; refine H.out.mono ?_; rintro e w' ⟨rfl, q, rfl⟩)
      | (go_at_call 72; refine (HST.out q).mono ?_; rintro e w' ⟨rfl, hb⟩; have HB := Lib.hid hb; clear hb))
    go_ret2
    exact ⟨by rw [HR.out]; rfl, HB.out⟩
end Go.Proofs.Ytmhepomjbaendaa
