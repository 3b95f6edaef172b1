
/- slices.Max of integers. Conditions: one at least. -/
import Derived.Test.YtnpfninkopffmaaRoomP
import Derived.Test.YtnpfninkopffmaaSlices
namespace Go.Proofs.Ytnpfninkopffmaa
open Go.RowKit
set_option linter.unusedVariables false
set_option linter.unusedSimpArgs false

def MaxR (xs : List Int) (w : World) (vm vk : Value) (wr : World) : Prop := ∃ k : Nat, 1 ≤ k ∧ k ≤ xs.length ∧ vm = .int .i64 (maxTo xs (k - 1)) ∧ vk = .int .i64 k ∧ w = wr

theorem maxI_any (v : Value) (xs : List Int) (w : World) (hv : Ints w v xs) (h1 : 1 ≤ xs.length) (hl : xs.length ≤ 1048576) :
    Calls Try.prog 70 #[v] w fun e w' => e = .returned (.int .i64 (maxTo xs (xs.length - 1))) ∧ w = w' := by
  obtain ⟨hm, a, c, rfl, hcap, hc⟩ := hv
  obtain ⟨b, o, ha, hbs, hcs⟩ := row_at hc
  obtain rfl := ha (by omega)
  have HCS : Hid (∀ j, j < xs.length → w.cell? ⟨b, o + j, none⟩ = some (.int .i64 (nth xs j))) := fun j hj => by rw [nth_eq hj]; exact hcs j hj
  have c0 : w.cell? ⟨b, o, none⟩ = some (.int .i64 (nth xs 0)) := HCS.out 0 (by omega)
  have i0 : ¬ (xs.length : Int) < 1 := by omega
  have i1 : (0 : Int) < (xs.length : Int) := by omega
  clear hc hcs ha hm
  go_enter Try.func70, Try.ntmps70
  go_wp2
  go_loopw [3, 4] (fun vm vk wr => MaxR xs w vm vk wr) (fun _ vk _ => xs.length - (intOf vk).toNat)
  case atStart => exact ⟨1, Nat.le_refl _, h1, rfl, rfl, rfl⟩
  case round =>
    obtain ⟨k, k1, kl, rfl, rfl, rfl⟩ := hrel
    by_cases hk : k < xs.length
    · have j1 : (k : Int) < (xs.length : Int) := by omega
      have j0 : (0 : Int) ≤ (k : Int) := by omega
      have ck := HCS.out k hk
      have HST : Hid (maxTo xs (k + 1 - 1) = if maxTo xs (k - 1) < nth xs k then nth xs k else maxTo xs (k - 1)) := by
        show _ = _
        obtain ⟨m, rfl⟩ : ∃ m, k = m + 1 := ⟨k - 1, by omega⟩
        rfl
      obtain ⟨M, hM⟩ : ∃ M, maxTo xs (k - 1) = M := ⟨_, rfl⟩
      obtain ⟨X, hX⟩ : ∃ X, nth xs k = X := ⟨_, rfl⟩
      rw [hM] at HST ⊢
      rw [hX] at HST ck
      have HM := Lib.hid hM
      clear hM hX
      by_cases hlt : M < X
      · skip
        go_wp2
        go_roundw
        case rel => exact ⟨k + 1, by omega, by omega, by rw [HST.out, if_pos hlt], by go_num, rfl⟩
        case measure => simp [intOf]; omega
      · skip
        go_wp2
        go_roundw
        case rel => exact ⟨k + 1, by omega, by omega, by rw [HST.out, if_neg hlt], by go_num, rfl⟩
        case measure => simp [intOf]; omega
    · have j1 : ¬ (k : Int) < (xs.length : Int) := by omega
      have HE : Hid (k = xs.length) := by show _ = _; omega
      clear hk
      go_wp2
      go_ret
      exact ⟨ret_int (by rw [HE.out]), rfl⟩
end Go.Proofs.Ytnpfninkopffmaa
