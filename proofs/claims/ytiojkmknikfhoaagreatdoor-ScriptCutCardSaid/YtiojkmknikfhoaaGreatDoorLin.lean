/- Lines, as Go's strings.Lines gives them: plain. -/
import Derived.Lib.Strings
import Derived.Lib.Bytealg
import Derived.Lib.IndexLaws
namespace Go.Proofs.YtiojkmknikfhoaaGreatDoor
set_option linter.unusedVariables false
set_option linter.unusedSimpArgs false
open Go

/-- The lines, each with its newline. -/
def linesL : List UInt8 → List (List UInt8)
  | [] => []
  | c :: r => if c = 10 then [10] :: linesL r else match linesL r with
    | [] => [[c]]
    | h :: t => (c :: h) :: t
theorem linesL_ne {c : UInt8} {r : List UInt8} : linesL (c :: r) ≠ [] := by
  unfold linesL
  split
  · simp
  · split <;> simp
theorem linesL_hit : ∀ {l : List UInt8} {o : Nat}, Lib.indexByte l 10 = (o : Int) → linesL l = l.take (o + 1) :: linesL (l.drop (o + 1))
  | [], o, h => by
    unfold Lib.indexByte at h
    have := Int.natCast_nonneg o
    omega
  | c :: r, o, h => by
    unfold Lib.indexByte at h
    by_cases hc : c = 10
    · rw [if_pos (by simpa using hc)] at h
      obtain rfl : o = 0 := by omega
      subst hc
      simp [linesL]
    · rw [if_neg (by simpa using hc)] at h
      split at h
      · have := Int.natCast_nonneg o
        omega
      · obtain ⟨p, rfl⟩ : ∃ p, o = p + 1 := by
          have := Lib.indexByte_ge r 10
          rename_i hn
          have hn' : Lib.indexByte r 10 ≠ -1 := by simpa using hn
          exact ⟨o - 1, by omega⟩
        have hp : Lib.indexByte r 10 = (p : Int) := by omega
        have ih := linesL_hit hp
        conv => lhs; unfold linesL
        rw [if_neg hc, ih]
        rfl
theorem linesL_none : ∀ {l : List UInt8}, Lib.indexByte l 10 = -1 → l ≠ [] → linesL l = [l]
  | [], _, h => absurd rfl h
  | c :: r, h, _ => by
    unfold Lib.indexByte at h
    by_cases hc : c = 10
    · rw [if_pos (by simpa using hc)] at h
      omega
    · rw [if_neg (by simpa using hc)] at h
      have hr : Lib.indexByte r 10 = -1 := by
        split at h
        · rename_i hn; simpa using hn
        · have := Lib.indexByte_ge r 10
          omega
      unfold linesL
      rw [if_neg hc]
      cases r with
      | nil => rfl
      | cons d r => rw [linesL_none hr (by simp)]
theorem indexByte_lt {l : List UInt8} {c : UInt8} {o : Nat} (h : Lib.indexByte l c = (o : Int)) : o < l.length := (List.getElem?_eq_some_iff.1 (Lib.indexByte_some h).1).1
theorem linesL_join : ∀ (l : List UInt8), (linesL l).flatten = l
  | [] => rfl
  | c :: r => by
    have ih := linesL_join r
    unfold linesL
    split
    · rename_i h; simp [ih, h]
    · split
      · rename_i h; rw [h] at ih; simp at ih; simp [← ih]
      · rename_i h; rw [h] at ih; simp at ih; simp [ih]
/-- As strings. -/
def linesB (s : ByteArray) : List ByteArray := (linesL s.data.toList).map (fun l => ⟨l.toArray⟩)
theorem linesB_nil {s : ByteArray} (h : s.size = 0) : linesB s = [] := by
  unfold linesB
  have : s.data.toList = [] := List.eq_nil_of_length_eq_zero (by simpa using h)
  rw [this]; rfl
theorem linesB_hit {s : ByteArray} {o : Nat} (h : Lib.indexByte s.data.toList 10 = (o : Int)) : linesB s = s.extract 0 (o + 1) :: linesB (s.extract (o + 1) s.size) := by
  unfold linesB
  rw [linesL_hit h, List.map_cons]
  congr 1
  · rw [Lib.extract_eq]; simp
  · rw [Lib.extract_data]
    have : s.size - (o + 1) = (s.data.toList.drop (o + 1)).length := by simp
    rw [this, List.take_length]
theorem linesB_none {s : ByteArray} (h : Lib.indexByte s.data.toList 10 = -1) (h0 : s.size ≠ 0) : linesB s = [s] := by
  unfold linesB
  rw [linesL_none h (fun e => h0 (by have := congrArg List.length e; simpa using this))]
  simp
end Go.Proofs.YtiojkmknikfhoaaGreatDoor
