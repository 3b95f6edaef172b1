/- The laws' small helpers: r8Long, r8At, r8Same, r8Has. Conditions: none of weight. With texts that it needs. -/
import Derived.Test.YtbocedlldaeanaaDoorShiftsAll9
import Derived.Test.YtbocedlldaeanaaDoorShiftsAll6
import Derived.Test.YtbocedlldaeanaaDoorShiftsAll8
import Derived.Test.YtbocedlldaeanaaDoorShiftsAll2
import Derived.Test.YtbocedlldaeanaaDoorShiftsAll1
import Derived.Deep.QuietTactic
import Derived.BigQuiet
namespace Go.Proofs.YtbocedlldaeanaaDoor
open Go.RowKit Go.Shelf
set_option linter.unusedVariables false
set_option linter.unusedSimpArgs false

/-- The first k letters of the text of the bits of x. -/
def txB (n x k : Nat) : ByteArray := ⟨((bitT n x).take k).toArray⟩
theorem txB_zero (n x : Nat) : txB n x 0 = ⟨#[]⟩ := by unfold txB; rw [List.take_zero]
theorem txB_size {n x k : Nat} (h : k ≤ n) : (txB n x k).size = k := by
  show ((bitT n x).take k).toArray.size = k
  rw [List.size_toArray, List.length_take, bitT_length]; omega
theorem txB_step {n x k : Nat} (h : k < n) : txB n x (k + 1) = txB n x k ++ (⟨#[if x / 2 ^ k % 2 = 1 then 119 else 46]⟩ : ByteArray) := by
  have h1 := bitT_at n x k h
  unfold txB
  rw [List.take_add_one, h1]
  apply ByteArray.ext
  rw [ByteArray.data_append]
  simp
theorem txB_all (n x : Nat) : (txB n x n).data.toList = bitT n x := by
  show ((bitT n x).take n).toArray.toList = _
  have e := bitT_length n x
  rw [List.take_of_length_le (by omega)]
/-- Whether the text of the bits of x is a shift. -/
def okB (r : ShR) (n x : Nat) : Bool := isT r s0 (bitT n x)
theorem okB_is {r : ShR} {n : Nat} (x : Nat) (h : r.slots = (n : Int)) : isSh r (txB n x n) = okB r n x := by
  unfold isSh okB
  rw [txB_all, txB_size (Nat.le_refl _), bitT_all, h]
  simp
theorem okB_r8 {r : ShR} {n : Nat} (x : Nat) (hr : r.Ok) (h : r.slots = (n : Int)) : r8S r 0 0 0 (txB n x n).data.toList = okB r n x := by
  rw [txB_all]
  unfold okB
  have e := bitT_length n x
  refine r8S_isT r hr (bitT n x) s0 0 (by rw [e, h]; show (0 : Int) + _ = _; omega) (by show (0 : Int) ≤ _; have := hr.2.2.1; have := hr.2.2.2.1; omega) (by show (0 : Int) ≤ _; have := hr.2.2.2.2.2.1; omega) (by decide) (by decide) (by decide) ?_ (by decide) (by decide) (by decide)
  show (0 : Int) = min 0 r.pause
  have := hr.2.2.2.2.2.2.2.1
  omega
def numB (r : ShR) (n x : Nat) : Nat := cntX (fun y => okB r n y) x
theorem numB_zero (r : ShR) (n : Nat) : numB r n 0 = 0 := rfl
theorem numB_succ (r : ShR) (n x : Nat) : numB r n (x + 1) = numB r n x + (if okB r n x then 1 else 0) := rfl
theorem numB_full (r : ShR) (n : Nat) : numB r n (2 ^ n) = cntS r n s0 := cntX_ws r n s0
theorem numB_le (r : ShR) (n x : Nat) : numB r n x ≤ x := cntX_le _ x
theorem bitW {n x k : Nat} (hx : x < 2 ^ n) (hn : n ≤ 8) : bits .and .i64 ((x : Int) / 2 ^ k) 1 = if x / 2 ^ k % 2 = 1 then 1 else 0 := by
  have h2 : 2 ^ n ≤ 2 ^ 8 := Nat.pow_le_pow_right (by decide) hn
  rw [bitJ_of x k (by omega), Nat.testBit_eq_decide_div_mod_eq]
  simp
theorem pow8 {n Q : Nat} (hn : n ≤ 8) (hQ : 2 ^ n = Q) : Q ≤ 256 := by
  have h2 : 2 ^ n ≤ 2 ^ 8 := Nat.pow_le_pow_right (by decide) hn
  omega
theorem shlQ {n Q : Nat} (hn : n ≤ 8) (hQ : 2 ^ n = Q) : wrap64 ((2 : Int) ^ n) = (Q : Int) := by
  have h2 := pow8 hn hQ
  have e : (2 : Int) ^ n = (Q : Int) := by rw [← hQ]; simp
  rw [e]
  exact IntWalk.wrap64_in (Q : Int) ⟨by omega, by omega⟩
/-- What the second loop knows. -/
def ShX (r : ShR) (n Q B5 A : Nat) (w : World) (va vx : Value) (wr : World) : Prop :=
  ∃ x : Nat, x ≤ Q ∧ vx = .int .i64 x ∧ va = .int .i64 (numB r n x : Nat) ∧ Blk wr B5 25 [.int .i64 r.slots, .int .i64 r.least, .int .i64 r.most, .int .i64 r.row, .int .i64 r.pause] ∧ Below A w wr
/-- What the loop within it knows. -/
def ShY (n x : Nat) (w : World) (vt vk : Value) (wr : World) : Prop :=
  ∃ k : Nat, k ≤ n ∧ vk = .int .i64 k ∧ vt = .string (txB n x k) ∧ wr = w
/-- A block that holds the numbers of a list. -/
def IntN (w : World) (g : Nat) (xs : List Int) (n : Nat) : Prop := g < w.heap.size ∧ ∀ k, k < n → w.cell? ⟨g, k, none⟩ = some (.int .i64 (nth xs k))
theorem IntN.of_own {w : World} {B g n c : Nat} {xs : List Int} (h : OwnI w B (.slice (some ⟨g, 0, none⟩) n c) xs) (hn : n = xs.length) : IntN w g xs n :=
  ⟨(h.lt g rfl).2, fun k hk => h.at_ hn k (by omega)⟩
theorem IntN.below {w w' : World} {g N n : Nat} {xs : List Int} (h : IntN w g xs n) (hb : Below N w w') (hN : g < N) : IntN w' g xs n :=
  ⟨Nat.lt_of_lt_of_le h.1 hb.size, fun k hk => (hb.cell (p := ⟨g, k, none⟩) hN).trans (h.2 k hk)⟩
/-- Where nothing is told, nothing is needed. -/
theorem needs_none {al : List ByteArray} {tk zs : List Int} {n m : Nat} (hl : tk.length = al.length) (hc : ∀ c ∈ tk, 0 ≤ c ∧ c ≤ 72) (hn : ∀ k, k < n → nth zs k ≤ covL al tk k) (hz : ∀ x ∈ zs, 0 ≤ x ∧ x < 4) (hnz : n = zs.length) (hm : m = (filS al tk).length) (h0 : m = 0) : ∀ k, k < n → nth zs k = 0 := fun k hk => by
  have h1 := fil_none al tk hl.symm (fun c hc2 => (hc c hc2).1) (List.length_eq_zero_iff.1 (by omega)) k
  have h2 := hn k hk
  have h3 := (hz _ (nth_mem (show k < zs.length by omega))).1
  omega
/-- A cover has what is needed. -/
theorem covers {al : List ByteArray} {tk zs : List Int} {n : Nat} (hc : ∀ c ∈ tk, 0 ≤ c ∧ c ≤ 72) (hn : ∀ k, k < n → nth zs k ≤ covL al tk k) : ∀ k, k < n → nth zs k ≤ nth (cvN (filS al tk) (filC al tk) n (filS al tk).length 0) k := fun k hk => by
  rw [cvN_at hk, if_neg (by omega), List.take_length, show (filC al tk).take (filS al tk).length = filC al tk by rw [fil_len]; exact List.take_length, covL_fil al tk k (fun c h => (hc c h).1)]
  exact hn k hk
/-- The loop over the needs. -/
def ShZ (n A : Nat) (w W : World) (vk : Value) (wr : World) : Prop := ∃ k : Nat, k ≤ n ∧ vk = .int .i64 k ∧ wr = W
/-- The loop over the cover. -/
def ShV (n gn gc A : Nat) (zs cv : List Int) (w : World) (vk : Value) (wr : World) : Prop := ∃ k : Nat, k ≤ n ∧ vk = .int .i64 k ∧ IntN wr gn zs n ∧ IntN wr gc cv n ∧ Below A w wr
end Go.Proofs.YtbocedlldaeanaaDoor

namespace Go.Proofs.YtbocedlldaeanaaDoor
open Go.RowKit Go.ChangeShapes Go.WideShapes Go.Deep
set_option linter.unusedVariables false
set_option linter.unusedSimpArgs false

def rByte : Rdr Int := ⟨1, fun _ cs n => cs = [.int .u8 n] ∧ (Lit.int .u8 n).wf = true, fun h => by rw [h.1]; rfl, fun h _ _ => h⟩
theorem opens_byte {t : TypeId} (ht : Tryd.prog.underlying t = some (.int .u8)) (hc : Tryd.prog.cellsOf t = 1) : Opens t rByte := ⟨hc, fun h => by
  obtain ⟨n, h1, _, h2⟩ := DataW.trod_int ht h
  exact ⟨n, h1, h2⟩⟩
theorem SlR.byts {w : World} {v : Value} {xs : List Int} (h : SlR rByte w v xs) : Byts w v xs ∧ ∀ n ∈ xs, (Lit.int .u8 n).wf = true := by
  obtain ⟨hm, a, c, hv, hcap, hc⟩ := h
  refine ⟨⟨hm, a, c, hv, hcap, fun i hi => ?_⟩, fun n hn => ?_⟩
  · obtain ⟨b, o, cs, ha, hbs, ⟨rfl, _⟩, hcell⟩ := hc i hi
    have := hcell 0 (by simp)
    exact ⟨b, o, ha, hbs, by simpa [rByte] using this⟩
  · obtain ⟨i, hi, rfl⟩ := List.mem_iff_getElem.1 hn
    obtain ⟨b, o, cs, ha, hbs, ⟨rfl, hw⟩, hcell⟩ := hc i hi
    exact hw
end Go.Proofs.YtbocedlldaeanaaDoor

namespace Go.Proofs.YtbocedlldaeanaaDoor
open Go.RowKit
set_option linter.unusedVariables false
set_option linter.unusedSimpArgs false

theorem r8Long_any (v u : Value) (xs ys : List Int) (w : World) (hv : Byts w v xs) (hu : Byts w u ys) :
    Calls Tryd.prog 4 #[v, u] w fun e w' => e = .returned (.bool (decide (48 < xs.length) || decide (48 < ys.length))) ∧ w = w' := by
  obtain ⟨hm, a, c, rfl, hcap, hc⟩ := hv
  obtain ⟨hm', a', c', rfl, hcap', hc'⟩ := hu
  unfold maxLen at hm hm'
  clear hc hc'
  by_cases h : 48 < xs.length
  · go_enter Tryd.func4, Tryd.ntmps4
    go_wp2
    go_ret
    exact ⟨ret_bool (by simp [h]), rfl⟩
  · have hd : decide (48 < xs.length) = false := by simpa using h
    by_cases h2 : 48 < ys.length
    · go_enter Tryd.func4, Tryd.ntmps4
      go_wp2
      go_ret
      exact ⟨ret_bool (by rw [hd]; first | rfl | (symm; simp; omega) | (rw [Bool.eq_iff_iff]; simp; omega)), rfl⟩
    · go_enter Tryd.func4, Tryd.ntmps4
      go_wp2
      go_ret
      exact ⟨ret_bool (by rw [hd]; first | rfl | (symm; simp; omega) | (rw [Bool.eq_iff_iff]; simp; omega)), rfl⟩

/-- A number from 0 to n - 1. -/
theorem r8At_any (v : Value) (xs : List Int) (i n : Int) (w : World) (hv : Byts w v xs) (hwf : ∀ x ∈ xs, (Lit.int .u8 x).wf = true) (hi : 0 ≤ i) (hi2 : i ≤ 100000000) (hn : 1 ≤ n) (hn2 : n ≤ 100000000) :
    Calls Tryd.prog 8 #[v, .int .i64 i, .int .i64 n] w fun e w' => (∃ x, e = .returned (.int .i64 x) ∧ 0 ≤ x ∧ x < n) ∧ w = w' := by
  obtain ⟨hm, a, c, rfl, hcap, hc⟩ := hv
  unfold maxLen at hm
  obtain ⟨k, rfl⟩ : ∃ k : Nat, i = k := ⟨i.toNat, by omega⟩
  by_cases h1 : n ≤ 1
  · clear hc
    go_enter Tryd.func8, Tryd.ntmps8
    go_wp2
    go_ret
    exact ⟨⟨0, rfl, by omega, by omega⟩, rfl⟩
  · by_cases hlt : k < xs.length
    · obtain ⟨b, o, rfl, hbs, hck⟩ := hc k hlt
      have hx := wf_u8_iff.1 (hwf xs[k] (List.getElem_mem _))
      obtain ⟨x, hxx⟩ : ∃ x, xs[k] = x := ⟨_, rfl⟩
      rw [hxx] at hck hx
      obtain ⟨hx1, hx2⟩ := hx
      clear hc hxx hwf
      go_enter Tryd.func8, Tryd.ntmps8
      go_wp2
      go_ret
      exact ⟨⟨x % n, rfl, Int.emod_nonneg _ (by omega), Int.emod_lt_of_pos _ (by omega)⟩, rfl⟩
    · clear hc
      go_enter Tryd.func8, Tryd.ntmps8
      go_wp2
      go_ret
      exact ⟨⟨0, rfl, by omega, by omega⟩, rfl⟩
end Go.Proofs.YtbocedlldaeanaaDoor
