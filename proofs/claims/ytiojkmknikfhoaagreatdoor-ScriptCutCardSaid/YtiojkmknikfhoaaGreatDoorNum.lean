/- Numbers as digits: what a numeral is, its value, and that Atoi and Itoa agree with it. No program in this text. -/
import Derived.Lib.AtoiAll
import Derived.Lib.ItoaNum
namespace Go.Proofs.YtiojkmknikfhoaaGreatDoor.Num
set_option linter.unusedVariables false
set_option linter.unusedSimpArgs false
open Go.Lib

def isDig (c : UInt8) : Bool := decide (48 ≤ c.toNat) && decide (c.toNat ≤ 57)
def dstep (acc : Nat) (c : UInt8) : Nat := acc * 10 + (c.toNat - 48)
def dval (acc : Nat) (l : List UInt8) : Nat := l.foldl dstep acc
theorem dval_nil (acc : Nat) : dval acc [] = acc := rfl
theorem dval_cons (acc : Nat) (c : UInt8) (r : List UInt8) : dval acc (c :: r) = dval (acc * 10 + (c.toNat - 48)) r := List.foldl_cons ..
/-- One to nine digits, no leading zero. -/
def isNum (l : List UInt8) : Bool := !l.isEmpty && decide (l.length ≤ 9) && l.all isDig && (l == [48] || !(l.head? == some 48))

theorem isDig_iff {c : UInt8} : isDig c = true ↔ 48 ≤ c.toNat ∧ c.toNat ≤ 57 := by unfold isDig; rw [Bool.and_eq_true, decide_eq_true_eq, decide_eq_true_eq]
theorem dval_append (l r : List UInt8) : ∀ acc, dval acc (l ++ r) = dval (dval acc l) r := by
  induction l with
  | nil => intro acc; rfl
  | cons c l ih => intro acc; exact ih (dstep acc c)
theorem dval_snoc (l : List UInt8) (c : UInt8) (acc : Nat) : dval acc (l ++ [c]) = dval acc l * 10 + (c.toNat - 48) := by
  rw [dval_append]; rfl
theorem dval_ge (l : List UInt8) : ∀ acc, acc ≤ dval acc l := by
  induction l with
  | nil => intro acc; exact Nat.le_refl _
  | cons c l ih => intro acc; simp only [dval_cons, dval_nil]; have := ih (acc * 10 + (c.toNat - 48)); omega
theorem dval_lt (l : List UInt8) : ∀ acc, l.all isDig = true → dval acc l < (acc + 1) * 10 ^ l.length := by
  induction l with
  | nil => intro acc _; simp [dval_cons, dval_nil]
  | cons c l ih =>
    intro acc h
    simp only [List.all_cons, Bool.and_eq_true] at h
    have hc := isDig_iff.1 h.1
    have := ih (acc * 10 + (c.toNat - 48)) h.2
    simp only [dval_cons, dval_nil, List.length_cons, Nat.pow_succ]
    refine Nat.lt_of_lt_of_le this ?_
    rw [show (acc + 1) * (10 ^ l.length * 10) = ((acc + 1) * 10) * 10 ^ l.length by rw [Nat.mul_assoc, Nat.mul_comm 10]]
    exact Nat.mul_le_mul_right _ (by omega)

theorem parse_ok (l : List UInt8) : ∀ acc, l.all isDig = true → (acc + 1) * 10 ^ l.length ≤ 10000000000000000000 → parseUint10 acc l = .ok (dval acc l) := by
  induction l with
  | nil => intro acc _ _; rfl
  | cons c l ih =>
    intro acc h hb
    simp only [List.all_cons, Bool.and_eq_true] at h
    have hc := isDig_iff.1 h.1
    have hp : 1 ≤ 10 ^ l.length := Nat.one_le_pow _ _ (by decide)
    have hb' : (acc * 10 + (c.toNat - 48) + 1) * 10 ^ l.length ≤ 10000000000000000000 := by
      refine Nat.le_trans ?_ hb
      rw [List.length_cons, Nat.pow_succ, show (acc + 1) * (10 ^ l.length * 10) = ((acc + 1) * 10) * 10 ^ l.length by rw [Nat.mul_assoc, Nat.mul_comm 10]]
      exact Nat.mul_le_mul_right _ (by omega)
    have h1 : acc * 10 + (c.toNat - 48) + 1 ≤ 10000000000000000000 := Nat.le_trans (Nat.le_mul_of_pos_right _ hp) hb'
    simp only [parseUint10, dval_cons]
    rw [if_pos hc, if_neg (by omega), if_neg (by omega)]
    exact ih _ h.2 hb'
theorem parse_back (l : List UInt8) : ∀ acc n, parseUint10 acc l = .ok n → l.all isDig = true ∧ n = dval acc l := by
  induction l with
  | nil => intro acc n h; simp only [parseUint10] at h; injection h with h; exact ⟨rfl, h.symm⟩
  | cons c l ih =>
    intro acc n h
    simp only [parseUint10] at h
    split at h
    · rename_i hc
      split at h
      · cases h
      · split at h
        · cases h
        · obtain ⟨h1, h2⟩ := ih _ _ h
          exact ⟨by simp [isDig_iff.2 hc, h1], h2⟩
    · cases h

/-! ### decDigits -/
theorem ofNat_digit (c : UInt8) (h : isDig c = true) : UInt8.ofNat (48 + (c.toNat - 48)) = c := by
  have := isDig_iff.1 h
  rw [show 48 + (c.toNat - 48) = c.toNat by omega]
  exact UInt8.ofNat_toNat
theorem digit_ofNat (u : Nat) (h : u < 10) : isDig (UInt8.ofNat (48 + u)) = true ∧ (UInt8.ofNat (48 + u)).toNat - 48 = u := by
  have : (UInt8.ofNat (48 + u)).toNat = 48 + u := by rw [UInt8.toNat_ofNat']; omega
  exact ⟨isDig_iff.2 (by omega), by omega⟩
theorem decDigits_all (u : Nat) : (decDigits u).all isDig = true := by
  induction u using Nat.strongRecOn with
  | _ u ih =>
    by_cases h : u < 10
    · rw [decDigits, dif_pos h]; exact by simpa only [List.all_cons, List.all_nil, Bool.and_true] using (digit_ofNat u h).1
    · rw [decDigits, dif_neg h]; simp only [List.all_append, ih (u / 10) (by omega), List.all_cons, List.all_nil, Bool.and_true, Bool.true_and]; exact (digit_ofNat _ (Nat.mod_lt _ (by decide))).1
theorem decDigits_ne (u : Nat) : decDigits u ≠ [] := by
  by_cases h : u < 10
  · rw [decDigits, dif_pos h]; simp
  · rw [decDigits, dif_neg h]; simp
theorem dval_decDigits (u : Nat) : dval 0 (decDigits u) = u := by
  induction u using Nat.strongRecOn with
  | _ u ih =>
    by_cases h : u < 10
    · rw [decDigits, dif_pos h]; simp only [dval_cons, dval_nil]; have := (digit_ofNat u h).2; omega
    · rw [decDigits, dif_neg h, dval_snoc, ih (u / 10) (by omega), (digit_ofNat _ (Nat.mod_lt _ (by decide))).2]; omega
theorem head_decDigits (u : Nat) : u = 0 ∨ ¬ (decDigits u).head? = some 48 := by
  induction u using Nat.strongRecOn with
  | _ u ih =>
    by_cases h : u < 10
    · rw [decDigits, dif_pos h]
      by_cases h0 : u = 0
      · exact .inl h0
      · refine .inr fun e => ?_
        simp only [List.head?_cons, Option.some.injEq] at e
        have := congrArg UInt8.toNat e
        rw [UInt8.toNat_ofNat'] at this
        simp at this
        omega
    · refine .inr ?_
      rw [decDigits, dif_neg h]
      rcases ih (u / 10) (by omega) with h0 | h0
      · omega
      · intro e
        apply h0
        cases hd : decDigits (u / 10) with
        | nil => exact absurd hd (decDigits_ne _)
        | cons a t => rw [hd] at e; simpa using e
/-- A numeral without a leading zero is that of its value. -/
theorem decDigits_dval (n : Nat) : ∀ l : List UInt8, l.length = n → l ≠ [] → l.all isDig = true → (l = [48] ∨ ¬ l.head? = some 48) → decDigits (dval 0 l) = l := by
  induction n with
  | zero => intro l hl hne; exact absurd (List.eq_nil_of_length_eq_zero hl) hne
  | succ n ih =>
    intro l hl hne hall hh
    obtain ⟨r, c, rfl⟩ : ∃ r c, l = r ++ [c] := ⟨l.dropLast, l.getLast hne, (List.dropLast_concat_getLast hne).symm⟩
    simp only [List.all_append, List.all_cons, List.all_nil, Bool.and_true, Bool.and_eq_true] at hall
    have hc := isDig_iff.1 hall.2
    rw [dval_snoc]
    by_cases hr : r = []
    · subst hr
      simp only [dval_cons, dval_nil, Nat.zero_mul, Nat.zero_add]
      rw [decDigits, dif_pos (by omega), ofNat_digit c hall.2]
      rfl
    · have hh' : ¬ r.head? = some 48 := by
        rcases hh with h | h
        · have : r ++ [c] = [] ++ [48] := h
          exact absurd (List.append_inj' this rfl).1 hr
        · cases r with
          | nil => exact absurd rfl hr
          | cons a t => simpa using h
      have ihr := ih r (by simpa using hl) hr hall.1 (.inr hh')
      have hpos : 1 ≤ dval 0 r := by
        cases r with
        | nil => exact absurd rfl hr
        | cons a t =>
          simp only [List.all_cons, Bool.and_eq_true] at hall
          have ha := isDig_iff.1 hall.1.1
          have hne : a.toNat ≠ 48 := fun e => hh' (by simp only [List.head?_cons, Option.some.injEq]; exact UInt8.toNat_inj.1 e)
          have := dval_ge t (0 * 10 + (a.toNat - 48))
          simp only [dval_cons, dval_nil]
          omega
      rw [decDigits, dif_neg (by omega), show (dval 0 r * 10 + (c.toNat - 48)) / 10 = dval 0 r by omega, show (dval 0 r * 10 + (c.toNat - 48)) % 10 = c.toNat - 48 by omega, ihr, ofNat_digit c hall.2]

theorem isNum_iff (l : List UInt8) : isNum l = true ↔ l ≠ [] ∧ l.length ≤ 9 ∧ l.all isDig = true ∧ (l = [48] ∨ ¬ l.head? = some 48) := by
  unfold isNum
  simp only [Bool.and_eq_true, Bool.not_eq_true', List.isEmpty_eq_false_iff, decide_eq_true_eq, Bool.or_eq_true, beq_iff_eq, beq_eq_false_iff_ne, ne_eq, and_assoc]
theorem dval_num {l : List UInt8} (h : isNum l = true) : dval 0 l < 1000000000 := by
  obtain ⟨_, h2, h3, _⟩ := (isNum_iff l).1 h
  have := dval_lt l 0 h3
  have h9 : 10 ^ l.length ≤ 10 ^ 9 := Nat.pow_le_pow_right (by decide) h2
  omega
theorem itoa_num {l : List UInt8} (h : isNum l = true) : itoa (dval 0 l : Nat) = l := by
  obtain ⟨h1, _, h3, h4⟩ := (isNum_iff l).1 h
  unfold itoa
  rw [if_neg (by omega), Int.toNat_natCast]
  exact decDigits_dval _ l rfl h1 h3 h4
theorem atoi_num {l : List UInt8} (h : isNum l = true) : atoiAll l = .ok (dval 0 l : Nat) := by
  obtain ⟨h1, h2, h3, _⟩ := (isNum_iff l).1 h
  have hlt := dval_num h
  cases l with
  | nil => exact absurd rfl h1
  | cons c r =>
    have hc : 48 ≤ c.toNat ∧ c.toNat ≤ 57 := by simp only [List.all_cons, Bool.and_eq_true] at h3; exact isDig_iff.1 h3.1
    have hp : parseUint10 0 (c :: r) = .ok (dval 0 (c :: r)) := parse_ok _ _ h3 (by
      have h9 : 10 ^ (c :: r).length ≤ 10 ^ 9 := Nat.pow_le_pow_right (by decide) h2
      omega)
    unfold atoiAll parseMag
    simp only
    rw [if_neg (show ¬ (c.toNat = 43 ∨ c.toNat = 45) by omega), if_neg (by simp), hp]
    simp only
    rw [if_neg (by omega), if_neg (by omega), if_neg (by omega)]
theorem num_of_itoa {l : List UInt8} {n : Int} (h0 : 0 ≤ n) (hl : l.length ≤ 9) (h : itoa n = l) : isNum l = true ∧ n = (dval 0 l : Nat) := by
  subst h
  unfold itoa at hl ⊢
  rw [if_neg (by omega)] at hl ⊢
  refine ⟨(isNum_iff _).2 ⟨decDigits_ne _, hl, decDigits_all _, ?_⟩, by rw [dval_decDigits]; omega⟩
  rcases head_decDigits n.toNat with h | h
  · left; rw [h, decDigits, dif_pos (by omega)]; rfl
  · exact .inr h
end Go.Proofs.YtiojkmknikfhoaaGreatDoor.Num
