/- A script's text as lines, and that they are taken: plain. -/
import Derived.Test.YtiojkmknikfhoaaGreatDoorY1
import Derived.Test.YtiojkmknikfhoaaGreatDoorH
namespace Go.Proofs.YtiojkmknikfhoaaGreatDoor
set_option linter.unusedVariables false
set_option linter.unusedSimpArgs false
open Go

/-! ### Numbers as words -/
theorem itoa_digits {n : Int} (h : 0 ≤ n) : (Lib.itoa n).all Num.isDig = true := by
  unfold Lib.itoa; rw [if_neg (by omega)]; exact Num.decDigits_all _
theorem dig_range {c : UInt8} (h : Num.isDig c = true) : c ≠ 32 ∧ c ≠ 10 := by
  have := Num.isDig_iff.1 h
  constructor <;> (rintro rfl; simp at this)
theorem itoa_no {n : Int} (h : 0 ≤ n) : (32 : UInt8) ∉ Lib.itoa n ∧ (10 : UInt8) ∉ Lib.itoa n := by
  have hd := itoa_digits h
  rw [List.all_eq_true] at hd
  exact ⟨fun hm => (dig_range (hd _ hm)).1 rfl, fun hm => (dig_range (hd _ hm)).2 rfl⟩
theorem itoa_word {n : Int} (h0 : 0 ≤ n) (h1 : n < 1000000000) : isN (mkB (Lib.itoa n)) = true ∧ valN (mkB (Lib.itoa n)) = n := by
  have hl : (Lib.itoa n).length ≤ 9 := by
    have key : ∀ k u : Nat, u < 10 ^ (k + 1) → (Lib.decDigits u).length ≤ k + 1 := by
      intro k
      induction k with
      | zero => intro u hu; rw [Lib.decDigits, dif_pos (by omega)]; simp
      | succ k ih =>
        intro u hu
        by_cases h : u < 10
        · rw [Lib.decDigits, dif_pos h]; simp
        · rw [Lib.decDigits, dif_neg h]
          have := ih (u / 10) (by rw [Nat.pow_succ] at hu; omega)
          simp; omega
    unfold Lib.itoa
    rw [if_neg (by omega)]
    exact key 8 n.toNat (by omega)
  obtain ⟨q1, q2⟩ := Num.num_of_itoa h0 hl rfl
  unfold isN valN
  rw [mkB_data]
  exact ⟨q1, q2.symm⟩
theorem num_back {x : ByteArray} (h : isN x = true) : Lib.itoa (valN x) = x.data.toList := Num.itoa_num h

/-! ### The lines -/
def lineT (t : Int × Int × Int) : List UInt8 := wordOf t.1 ++ (if t.1 = 0 then numW t.2.1 else []) ++ (if t.1 = 0 ∨ t.1 = 1 then numW t.2.2 else [])
theorem turnL_line (t : Int × Int × Int) : turnL t = 10 :: lineT t := rfl
def hexs (l : List UInt8) : List UInt8 := l.flatMap (fun c => [hexD (c.toNat / 16), hexD (c.toNat % 16)])
def rowLine (l : List UInt8) : List UInt8 := [98, 121, 116, 101, 115, 32] ++ hexs l
/-- A module's lines, by pieces of 24. -/
def rowsF : Nat → List UInt8 → List (List UInt8)
  | 0, _ => []
  | k + 1, l => if l = [] then [] else rowLine (l.take 24) :: rowsF k (l.drop 24)
theorem hexFrom_app (l r : List UInt8) : ∀ i, hexFrom i (l ++ r) = hexFrom i l ++ hexFrom (i + l.length) r := by
  induction l with
  | nil => intro i; rfl
  | cons a l ih => intro i; rw [List.cons_append, hexFrom, hexFrom, ih, List.append_assoc, List.length_cons, show i + 1 + l.length = i + (l.length + 1) by omega]
theorem hexFrom_tail : ∀ (l : List UInt8) (i : Nat), i % 24 ≠ 0 → i % 24 + l.length ≤ 24 → hexFrom i l = hexs l
  | [], i, _, _ => rfl
  | c :: r, i, h, hl => by
    rw [hexFrom, hexAt, if_neg h]
    simp only [List.length_cons] at hl
    cases r with
    | nil => simp [hexFrom, hexs]
    | cons d r =>
      rw [hexFrom_tail (d :: r) (i + 1) (by simp only [List.length_cons] at hl; omega) (by simp only [List.length_cons] at hl ⊢; omega)]
      simp [hexs]
theorem hexFrom_piece {l : List UInt8} {i : Nat} (h : i % 24 = 0) (hl : l.length ≤ 24) (hn : l ≠ []) : hexFrom i l = 10 :: rowLine l := by
  cases l with
  | nil => exact absurd rfl hn
  | cons c r =>
    rw [hexFrom, hexAt, if_pos h]
    simp only [List.length_cons] at hl
    cases r with
    | nil => simp [hexFrom, rowLine, hexs, nlBytes]
    | cons d r =>
      rw [hexFrom_tail (d :: r) (i + 1) (by omega) (by simp only [List.length_cons] at hl ⊢; omega)]
      simp [rowLine, hexs, nlBytes]
theorem hexFrom_rows : ∀ (k : Nat) (l : List UInt8) (i : Nat), i % 24 = 0 → l.length ≤ k → hexFrom i l = (rowsF k l).flatMap (10 :: ·)
  | 0, l, i, _, hk => by
    have : l = [] := List.eq_nil_of_length_eq_zero (by omega)
    subst this; rfl
  | k + 1, l, i, h, hk => by
    unfold rowsF
    by_cases hn : l = []
    · subst hn; rfl
    · rw [if_neg hn]
      have hsplit := List.take_append_drop 24 l
      conv => lhs; rw [← hsplit]
      have hlen : 1 ≤ l.length := by cases l with | nil => exact absurd rfl hn | cons => simp
      have hp : l.take 24 ≠ [] := by intro e; have := congrArg List.length e; rw [List.length_take] at this; simp only [List.length_nil] at this; omega
      rw [hexFrom_app, hexFrom_piece h (by rw [List.length_take]; omega) hp, List.flatMap_cons]
      congr 1
      by_cases hlong : 24 ≤ l.length
      · rw [List.length_take, Nat.min_eq_left hlong]
        exact hexFrom_rows k _ _ (by omega) (by rw [List.length_drop]; omega)
      · have : l.drop 24 = [] := List.drop_eq_nil_of_le (by omega)
        rw [this]
        cases k <;> rfl
def linesOf (c a q : Int) (tw : Bool) (m : List UInt8) (ts : List (Int × Int × Int)) : List (List UInt8) := headL c a q tw :: (rowsF m.length m ++ ts.map lineT)
theorem shift_nl : ∀ (x : List UInt8) (ls : List (List UInt8)), x ++ ls.flatMap (10 :: ·) ++ [10] = (x :: ls).flatMap (· ++ [10])
  | x, [] => by simp
  | x, l :: ls => by
    have := shift_nl l ls
    rw [List.flatMap_cons, List.flatMap_cons, ← this]
    simp
theorem text_lines (c a q : Int) (tw : Bool) (m : List UInt8) (ts : List (Int × Int × Int)) : textL c a q tw m ts = (linesOf c a q tw m ts).flatMap (· ++ [10]) := by
  unfold textL linesOf
  rw [hexFrom_rows m.length m 0 rfl (Nat.le_refl _), ← shift_nl, List.flatMap_append, List.append_assoc (headL c a q tw)]
  congr 3
  induction ts with
  | nil => rfl
  | cons t ts ih => rw [List.flatMap_cons, List.map_cons, List.flatMap_cons, ih, turnL_line]

/-! ### What the lines hold -/
theorem wordOf_no {k : Int} : (32 : UInt8) ∉ wordOf k ∧ (10 : UInt8) ∉ wordOf k := by
  unfold wordOf
  split
  · decide
  · split
    · decide
    · split <;> decide
theorem hexD_no (n : Nat) (h : n < 16) : hexD n ≠ 32 ∧ hexD n ≠ 10 := by
  have : ∀ i : Fin 16, hexD i ≠ 32 ∧ hexD i ≠ 10 := by decide +kernel
  exact this ⟨n, h⟩
theorem hexs_no (l : List UInt8) : (32 : UInt8) ∉ hexs l ∧ (10 : UInt8) ∉ hexs l := by
  unfold hexs
  constructor
  · intro h
    obtain ⟨c, _, hc⟩ := List.mem_flatMap.1 h
    have hlt : c.toNat < 256 := UInt8.toNat_lt c
    simp only [List.mem_cons, List.not_mem_nil, or_false] at hc
    rcases hc with e | e
    · exact (hexD_no _ (by omega)).1 e.symm
    · exact (hexD_no _ (by omega)).1 e.symm
  · intro h
    obtain ⟨c, _, hc⟩ := List.mem_flatMap.1 h
    have hlt : c.toNat < 256 := UInt8.toNat_lt c
    simp only [List.mem_cons, List.not_mem_nil, or_false] at hc
    rcases hc with e | e
    · exact (hexD_no _ (by omega)).2 e.symm
    · exact (hexD_no _ (by omega)).2 e.symm
theorem mem_numW {n : Int} (h : 0 ≤ n) : (10 : UInt8) ∉ numW n := by
  unfold numW
  simp only [List.mem_cons, not_or]
  exact ⟨by decide, (itoa_no h).2⟩
theorem line_no10 {t : Int × Int × Int} (h : trnOk t = true) : (10 : UInt8) ∉ lineT t := by
  have hk := trnOk_le h
  unfold lineT
  simp only [List.mem_append, not_or]
  refine ⟨⟨wordOf_no.2, ?_⟩, ?_⟩
  · split
    · exact mem_numW (by omega)
    · simp
  · split
    · exact mem_numW (by omega)
    · simp
theorem head_no10 {c a q : Int} {tw : Bool} (h : cfgB c a q = true) : (10 : UInt8) ∉ headL c a q tw := by
  have hk := cfg_le h
  unfold headL
  simp only [List.mem_append, not_or]
  refine ⟨⟨⟨⟨by decide, mem_numW (by omega)⟩, mem_numW (by omega)⟩, mem_numW (by omega)⟩, ?_⟩
  split <;> decide
theorem rows_no10 : ∀ (k : Nat) (m : List UInt8), ∀ l ∈ rowsF k m, (10 : UInt8) ∉ l
  | 0, m, l, h => by simp [rowsF] at h
  | k + 1, m, l, h => by
    unfold rowsF at h
    split at h
    · simp at h
    · rcases List.mem_cons.1 h with rfl | h
      · unfold rowLine
        simp only [List.mem_append, not_or]
        exact ⟨by decide, (hexs_no _).2⟩
      · exact rows_no10 k _ l h
theorem lines_no10 {c a q : Int} {tw : Bool} {m : List UInt8} {ts : List (Int × Int × Int)} (hc : cfgB c a q = true) (ht : ts.all trnOk = true) : ∀ l ∈ linesOf c a q tw m ts, (10 : UInt8) ∉ l := by
  intro l hl
  unfold linesOf at hl
  rcases List.mem_cons.1 hl with rfl | hl
  · exact head_no10 hc
  · rcases List.mem_append.1 hl with hl | hl
    · exact rows_no10 _ _ l hl
    · obtain ⟨t, htm, rfl⟩ := List.mem_map.1 hl
      exact line_no10 (List.all_eq_true.1 ht t htm)
end Go.Proofs.YtiojkmknikfhoaaGreatDoor
