/- What stands between bytes of one kind: plain. -/
import Derived.Lib.SplitLaws
namespace Go.Proofs.YtiojkmknikfhoaaGreatDoor
set_option linter.unusedVariables false
set_option linter.unusedSimpArgs false
open Go

def spC (c : UInt8) : List UInt8 → List (List UInt8)
  | [] => [[]]
  | x :: r => if x = c then [] :: spC c r else match spC c r with
    | [] => [[x]]
    | h :: t => (x :: h) :: t
theorem spC_ne (c : UInt8) (l : List UInt8) : spC c l ≠ [] := by
  cases l with
  | nil => simp [spC]
  | cons x r =>
    unfold spC
    split
    · simp
    · split <;> simp
theorem index_none {c : UInt8} : ∀ {l : List UInt8}, Lib.index l [c] = -1 → spC c l = [l]
  | [], _ => rfl
  | x :: r, h => by
    unfold Lib.index at h
    by_cases hx : x = c
    · subst hx; simp [List.isPrefixOf] at h
    · have hp : List.isPrefixOf [c] (x :: r) = false := by simp [List.isPrefixOf]; exact fun e => hx e.symm
      rw [hp] at h
      simp only [Bool.false_eq_true, if_false] at h
      have hr : Lib.index r [c] = -1 := by
        split at h
        · rename_i hn; simpa using hn
        · have := Lib.index_ge r [c]
          omega
      unfold spC
      rw [if_neg hx, index_none hr]
theorem index_some {c : UInt8} : ∀ {l : List UInt8} {i : Nat}, Lib.index l [c] = (i : Int) → spC c l = l.take i :: spC c (l.drop (i + 1)) ∧ i < l.length
  | [], i, h => by simp [Lib.index] at h
  | x :: r, i, h => by
    unfold Lib.index at h
    by_cases hx : x = c
    · subst hx
      simp [List.isPrefixOf] at h
      obtain rfl : i = 0 := by omega
      exact ⟨by simp [spC], by simp⟩
    · have hp : List.isPrefixOf [c] (x :: r) = false := by simp [List.isPrefixOf]; exact fun e => hx e.symm
      rw [hp] at h
      simp only [Bool.false_eq_true, if_false] at h
      have hg := Lib.index_ge r [c]
      split at h
      · omega
      · obtain ⟨j, rfl⟩ : ∃ j, i = j + 1 := ⟨i - 1, by
          rename_i hn
          have : Lib.index r [c] ≠ -1 := by simpa using hn
          omega⟩
        have ih := index_some (c := c) (l := r) (i := j) (by omega)
        refine ⟨?_, by simp; exact ih.2⟩
        conv => lhs; unfold spC
        rw [if_neg hx, ih.1]
        simp
def mkB (l : List UInt8) : ByteArray := ⟨l.toArray⟩
theorem mkB_data (l : List UInt8) : (mkB l).data.toList = l := by simp [mkB]
theorem mkB_size (l : List UInt8) : (mkB l).size = l.length := rfl
theorem mkB_of (s : ByteArray) : mkB s.data.toList = s := by simp [mkB]
theorem splitB_spC (c : UInt8) : ∀ (k : Nat) (s : ByteArray), Lib.countB s ⟨#[c]⟩ = k → Lib.splitB ⟨#[c]⟩ 0 k s = (spC c s.data.toList).map mkB := by
  intro k
  induction k with
  | zero =>
    intro s hk
    rw [Lib.splitB_zero]
    have : Lib.index s.data.toList [c] = -1 := by
      rcases Lib.indexB_cases s ⟨#[c]⟩ with hix | ⟨i, hix, _⟩
      · exact hix
      · have := Lib.countB_hit s ⟨#[c]⟩ i (Nat.le_refl 1) hix; omega
    rw [index_none this]
    simp [mkB_of]
  | succ k ih =>
    intro s hk
    rcases Lib.indexB_cases s ⟨#[c]⟩ with hix | ⟨i, hix, _⟩
    · rw [Lib.countB_miss s _ hix] at hk; omega
    · have hh := Lib.countB_hit s ⟨#[c]⟩ i (Nat.le_refl 1) hix
      have h1 := index_some (l := s.data.toList) (i := i) hix
      rw [Lib.splitB_hit _ 0 k s i hix, ih _ (by omega), h1.1]
      have hsz : (⟨#[c]⟩ : ByteArray).size = 1 := rfl
      rw [List.map_cons, hsz, Lib.extract_to_end]
      congr 1
      rw [Lib.extract_eq]; simp [mkB]
end Go.Proofs.YtiojkmknikfhoaaGreatDoor
