
/- Numbers and lists read from texts: the plain law. Conditions: none. -/
import Derived.Test.YtcjeededlhdcbaaDoorTxtP
import Derived.Test.YtcjeededlhdcbaaDoorCutP
import Derived.Lib.ParseIntBCases
import Derived.Lib.ItoaMem
namespace Go.Proofs.YtcjeededlhdcbaaDoor
set_option linter.unusedVariables false
set_option linter.unusedSimpArgs false

def valStep (a c : Int) : Int := if 48 ≤ c ∧ c ≤ 57 then 10 * a + (c - 48) else a
/-- The digits' number. -/
def valL (l : List Int) : Int := l.foldl valStep 0
theorem valL_snoc (l : List Int) (c : Int) : valL (l ++ [c]) = valStep (valL l) c := by unfold valL; rw [List.foldl_append]; rfl
theorem valL_digI : ∀ (n u : Nat), u < n → valL (digI u) = u
  | 0, u, h => by omega
  | n + 1, u, h => by
    by_cases hu : u < 10
    · rw [digI_small hu]
      show valStep 0 _ = _
      unfold valStep; rw [if_pos (by omega)]; omega
    · rw [digI_big hu, valL_snoc, valL_digI n (u / 10) (by omega)]
      unfold valStep; rw [if_pos (by omega)]; omega
theorem digI_head : ∀ (n u : Nat), u < n → ∃ d r, digI u = d :: r ∧ 48 ≤ d ∧ d ≤ 57
  | 0, u, h => by omega
  | n + 1, u, h => by
    by_cases hu : u < 10
    · exact ⟨48 + u, [], digI_small hu, by omega, by omega⟩
    · obtain ⟨d, r, h1, h2, h3⟩ := digI_head n (u / 10) (by omega)
      rw [digI_big hu, h1]
      exact ⟨d, _, rfl, h2, h3⟩
/-- The number of a text, by its digits and its first byte. -/
def valS (l : List Int) : Int := if l.head? = some 45 then -valL l else valL l
theorem valS_decI (n : Int) : valS (decI n) = n := by
  by_cases h : n < 0
  · obtain ⟨r, rfl⟩ : ∃ r : Nat, n = -(r : Int) := ⟨(-n).toNat, by omega⟩
    rw [decI_neg (by omega)]
    unfold valS
    rw [if_pos (by rfl)]
    have : valL (45 :: digI r) = valL (digI r) := by show List.foldl valStep (valStep 0 45) _ = _; unfold valStep; rw [if_neg (by omega)]; rfl
    rw [this, valL_digI (r + 1) r (by omega)]
  · obtain ⟨r, rfl⟩ : ∃ r : Nat, n = r := ⟨n.toNat, by omega⟩
    rw [decI_pos]
    obtain ⟨d, t, h1, h2, h3⟩ := digI_head (r + 1) r (by omega)
    unfold valS
    rw [h1, if_neg (by simp; omega), ← h1, valL_digI (r + 1) r (by omega)]
/-- The bytes of a text as numbers. -/
def bytI (s : ByteArray) : List Int := s.data.toList.map fun b => (b.toNat : Int)
theorem bytI_decS (n : Int) : bytI (decS n) = decI n := rfl
theorem bytI_len (s : ByteArray) : (bytI s).length = s.size := by
  unfold bytI; rw [List.length_map]; rfl
theorem decS_inj {n m : Int} (h : decS n = decS m) : n = m := by
  rw [← valS_decI n, ← valS_decI m, ← bytI_decS, ← bytI_decS, h]
/-- The greatest value. -/
def maxV : Int := 1000000000000000
/-- The number with a decimal text. -/
def rdD (s : ByteArray) : Option Int := if -maxV ≤ valS (bytI s) ∧ valS (bytI s) ≤ maxV ∧ decS (valS (bytI s)) = s then some (valS (bytI s)) else none
theorem rdD_iff {s : ByteArray} {n : Int} : rdD s = some n ↔ -maxV ≤ n ∧ n ≤ maxV ∧ decS n = s := by
  unfold rdD
  constructor
  · intro h
    split at h
    · rename_i q
      injection h with h
      subst h
      exact q
    · cases h
  · rintro ⟨h1, h2, h3⟩
    have e : valS (bytI s) = n := by rw [← h3, bytI_decS, valS_decI]
    rw [e, if_pos ⟨h1, h2, h3⟩]
theorem rdD_bounds {s : ByteArray} {n : Int} (h : rdD s = some n) : -maxV ≤ n ∧ n ≤ maxV := ⟨(rdD_iff.1 h).1, (rdD_iff.1 h).2.1⟩
theorem decI_len {n : Int} (h0 : -maxV ≤ n) (h1 : n ≤ maxV) : 1 ≤ (decI n).length ∧ (decI n).length ≤ 17 := by
  unfold maxV at *
  by_cases h : n < 0
  · obtain ⟨r, rfl⟩ : ∃ r : Nat, n = -(r : Int) := ⟨(-n).toNat, by omega⟩
    rw [decI_neg (by omega), List.length_cons]
    have := digI_len 15 r (by omega)
    omega
  · obtain ⟨r, rfl⟩ : ∃ r : Nat, n = r := ⟨n.toNat, by omega⟩
    rw [decI_pos]
    obtain ⟨d, t, h2, _⟩ := digI_head (r + 1) r (by omega)
    have h3 := digI_len 15 r (by omega)
    rw [h2] at h3 ⊢
    simp only [List.length_cons] at h3 ⊢
    omega
theorem rdD_len {s : ByteArray} {n : Int} (h : rdD s = some n) : 1 ≤ s.size ∧ s.size ≤ 17 := by
  obtain ⟨h1, h2, h3⟩ := rdD_iff.1 h
  have := decI_len h1 h2
  rw [← bytI_decS, bytI_len, h3] at this
  exact this
/-! The library's own reading. -/
theorem parseM_app (M : Nat) (c : UInt8) : ∀ (l : List UInt8) (a u : Nat), Go.Lib.parseUintM M a l = .ok u → Go.Lib.parseUintM M a (l ++ [c]) = Go.Lib.parseUintM M u [c]
  | [], a, u, h => by
    simp only [Go.Lib.parseUintM] at h
    injection h with h
    subst h; rfl
  | d :: l, a, u, h => by
    rw [List.cons_append]
    simp only [Go.Lib.parseUintM] at h ⊢
    split at h
    · rename_i q
      split at h
      · cases h
      · rename_i q2
        split at h
        · cases h
        · rename_i q3
          rw [if_pos q, if_neg q2, if_neg q3]
          have := parseM_app M c l _ u h
          simpa only [Go.Lib.parseUintM] using this
    · cases h
theorem parseM_dec : ∀ (n u : Nat), u < n → u ≤ 1000000000000000 → Go.Lib.parseUintM (2 ^ 64 - 1) 0 (Go.Lib.decDigits u) = .ok u
  | 0, u, h, _ => by omega
  | n + 1, u, h, hu => by
    by_cases h10 : u < 10
    · rw [Go.Lib.decDigits_one h10]
      have e : (UInt8.ofNat (48 + u)).toNat = 48 + u := by rw [UInt8.toNat_ofNat']; omega
      simp only [Go.Lib.parseUintM]
      rw [if_pos (by rw [e]; omega), if_neg (by omega), if_neg (by rw [e]; omega), e]
      congr 1; omega
    · rw [Go.Lib.decDigits, dif_neg h10]
      rw [parseM_app _ _ _ _ (u / 10) (parseM_dec n (u / 10) (by omega) (by omega))]
      have e : (UInt8.ofNat (48 + u % 10)).toNat = 48 + u % 10 := by rw [UInt8.toNat_ofNat']; omega
      simp only [Go.Lib.parseUintM]
      rw [if_pos (by rw [e]; omega), if_neg (by omega), if_neg (by rw [e]; omega), e]
      congr 1; omega
theorem decDigits_ne (u : Nat) : Go.Lib.decDigits u ≠ [] := by
  rw [Go.Lib.decDigits]
  split <;> simp
theorem decDigits_hd : ∀ (n u : Nat), u < n → ∃ c r, Go.Lib.decDigits u = c :: r ∧ c.toNat ≠ 43 ∧ c.toNat ≠ 45
  | 0, u, h => by omega
  | n + 1, u, h => by
    by_cases h10 : u < 10
    · refine ⟨_, _, Go.Lib.decDigits_one h10, ?_, ?_⟩ <;> (rw [UInt8.toNat_ofNat']; omega)
    · obtain ⟨c, r, h1, h2, h3⟩ := decDigits_hd n (u / 10) (by omega)
      rw [Go.Lib.decDigits, dif_neg h10, h1]
      exact ⟨c, _, rfl, h2, h3⟩
theorem parse_decS {n : Int} (h0 : -maxV ≤ n) (h1 : n ≤ maxV) : Go.Lib.parseIntB 64 (decS n).data.toList = .ok n := by
  unfold maxV at *
  rw [decS_data]
  by_cases h : n < 0
  · obtain ⟨r, rfl⟩ : ∃ r : Nat, n = -(r : Int) := ⟨(-n).toNat, by omega⟩
    rw [Go.Lib.itoa_neg r (by omega), Go.Lib.parseIntB_minus]
    unfold Go.Lib.parseUintB
    rw [if_neg (decDigits_ne r), parseM_dec (r + 1) r (by omega) (by omega)]
    unfold Go.Lib.signedC
    simp only
    rw [if_neg (by omega)]
  · obtain ⟨r, rfl⟩ : ∃ r : Nat, n = r := ⟨n.toNat, by omega⟩
    rw [Go.Lib.itoa_nonneg r]
    obtain ⟨c, t, h2, h3, h4⟩ := decDigits_hd (r + 1) r (by omega)
    rw [h2, Go.Lib.parseIntB_plain 64 c t h3 h4, ← h2]
    unfold Go.Lib.parseUintB
    rw [if_neg (decDigits_ne r), parseM_dec (r + 1) r (by omega) (by omega)]
    unfold Go.Lib.signlessC
    simp only
    rw [if_neg (by omega)]
theorem rdD_ok {s : ByteArray} {v : Int} (h : Go.Lib.parseIntB 64 s.data.toList = .ok v) : rdD s = if -maxV ≤ v ∧ v ≤ maxV ∧ decS v = s then some v else none := by
  split
  · rename_i q
    exact rdD_iff.2 q
  · rename_i q
    cases hr : rdD s with
    | none => rfl
    | some n =>
      exfalso
      obtain ⟨h1, h2, h3⟩ := rdD_iff.1 hr
      have h4 := parse_decS h1 h2
      rw [h3, h] at h4
      injection h4 with h4
      subst h4
      exact q ⟨h1, h2, h3⟩
theorem rdD_no {s : ByteArray} (h : ∀ v, Go.Lib.parseIntB 64 s.data.toList ≠ .ok v) : rdD s = none := by
  cases hr : rdD s with
  | none => rfl
  | some n =>
    exfalso
    obtain ⟨h1, h2, h3⟩ := rdD_iff.1 hr
    have h4 := parse_decS h1 h2
    rw [h3] at h4
    exact h n h4
/-! Lists. -/
def noneS : ByteArray := ⟨#[110, 111, 110, 101]⟩
/-- The numbers of pieces. -/
def rdAll : List ByteArray → Option (List Int)
  | [] => some []
  | p :: ps => match rdD p with
    | none => none
    | some n => match rdAll ps with
      | none => none
      | some l => some (n :: l)
theorem rdAll_snoc (p : ByteArray) : ∀ (ps : List ByteArray), rdAll (ps ++ [p]) = match rdAll ps with
    | none => none
    | some l => match rdD p with
      | none => none
      | some n => some (l ++ [n])
  | [] => by
    show (match rdD p with | none => none | some n => match rdAll [] with | none => none | some l => some (n :: l)) = _
    cases rdD p <;> rfl
  | q :: ps => by
    rw [List.cons_append]
    unfold rdAll
    rw [rdAll_snoc p ps]
    cases rdD q with
    | none => rfl
    | some n =>
      cases rdAll ps with
      | none => rfl
      | some l => cases rdD p <;> rfl
theorem rdAll_len : ∀ (ps : List ByteArray) (l : List Int), rdAll ps = some l → l.length = ps.length
  | [], l, h => by injection h with h; subst h; rfl
  | p :: ps, l, h => by
    unfold rdAll at h
    cases hp : rdD p with
    | none => rw [hp] at h; cases h
    | some n =>
      rw [hp] at h
      cases hq : rdAll ps with
      | none => rw [hq] at h; cases h
      | some r =>
        rw [hq] at h
        injection h with h
        subst h
        rw [List.length_cons, List.length_cons, rdAll_len ps r hq]
theorem rdAll_bounds : ∀ (ps : List ByteArray) (l : List Int), rdAll ps = some l → ∀ x ∈ l, -maxV ≤ x ∧ x ≤ maxV
  | [], l, h, x, hx => by injection h with h; subst h; cases hx
  | p :: ps, l, h, x, hx => by
    unfold rdAll at h
    cases hp : rdD p with
    | none => rw [hp] at h; cases h
    | some n =>
      rw [hp] at h
      cases hq : rdAll ps with
      | none => rw [hq] at h; cases h
      | some r =>
        rw [hq] at h
        injection h with h
        subst h
        rcases List.mem_cons.1 hx with e | e
        · subst e; exact rdD_bounds hp
        · exact rdAll_bounds ps r hq x e
/-- A prefix that cannot be read. -/
theorem rdAll_bad (q : List ByteArray) : ∀ (ps : List ByteArray), rdAll ps = none → rdAll (ps ++ q) = none
  | [], h => by cases h
  | p :: ps, h => by
    rw [List.cons_append]
    unfold rdAll at h ⊢
    cases hp : rdD p with
    | none => rfl
    | some n =>
      rw [hp] at h
      cases hq : rdAll ps with
      | none => rw [rdAll_bad q ps hq]
      | some r => rw [hq] at h; cases h
def piecesL (s : ByteArray) : List ByteArray := if s = noneS then [] else cutB 44 s
/-- The list with a text. -/
def rdL (s : ByteArray) (most : Nat) : Option (List Int) := if (piecesL s).length ≤ most then rdAll (piecesL s) else none
end Go.Proofs.YtcjeededlhdcbaaDoor
