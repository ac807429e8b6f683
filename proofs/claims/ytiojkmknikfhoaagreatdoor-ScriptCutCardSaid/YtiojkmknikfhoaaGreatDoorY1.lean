/- A script's text and its reading: plain. -/
import Derived.Test.YtiojkmknikfhoaaGreatDoorN
import Derived.Test.YtiojkmknikfhoaaGreatDoorP1
import Derived.Test.YtiojkmknikfhoaaGreatDoorSpl
namespace Go.Proofs.YtiojkmknikfhoaaGreatDoor
set_option linter.unusedVariables false
set_option linter.unusedSimpArgs false
open Go

/-! ### Words -/
theorem spC_one {l : List UInt8} {c : UInt8} (h : c ∉ l) : spC c l = [l] := by
  induction l with
  | nil => rfl
  | cons x r ih =>
    have hx : x ≠ c := fun e => h (by rw [e]; simp)
    have hr := ih (fun hm => h (List.mem_cons_of_mem _ hm))
    rw [spC, if_neg hx, hr]
theorem spC_app {l r : List UInt8} {c : UInt8} (h : c ∉ l) : spC c (l ++ c :: r) = l :: spC c r := by
  induction l with
  | nil => rw [List.nil_append, spC, if_pos rfl]
  | cons x t ih =>
    have hx : x ≠ c := fun e => h (by rw [e]; simp)
    have hr := ih (fun hm => h (List.mem_cons_of_mem _ hm))
    rw [List.cons_append, spC, if_neg hx, hr]
def joinC (c : UInt8) : List (List UInt8) → List UInt8
  | [] => []
  | [w] => w
  | w :: r => w ++ c :: joinC c r
theorem join_spC (c : UInt8) : ∀ l : List UInt8, joinC c (spC c l) = l
  | [] => rfl
  | x :: r => by
    have ih := join_spC c r
    rw [spC]
    split
    · rename_i h
      subst h
      cases hs : spC x r with
      | nil => exact absurd hs (spC_ne _ _)
      | cons a t => rw [hs] at ih; rw [joinC, ih]; rfl; simp
    · cases hs : spC c r with
      | nil => exact absurd hs (spC_ne _ _)
      | cons a t =>
        rw [hs] at ih
        simp only
        cases t with
        | nil => rw [joinC] at ih ⊢; rw [ih]
        | cons b t => rw [joinC] at ih ⊢ <;> simp_all
theorem spC_mem {c : UInt8} : ∀ {l w : List UInt8}, w ∈ spC c l → c ∉ w
  | [], w, h => by simp [spC] at h; subst h; simp
  | x :: r, w, h => by
    rw [spC] at h
    split at h
    · rcases List.mem_cons.1 h with rfl | h
      · simp
      · exact spC_mem h
    · rename_i hx
      cases hs : spC c r with
      | nil => exact absurd hs (spC_ne _ _)
      | cons a t =>
        rw [hs] at h
        simp only at h
        rcases List.mem_cons.1 h with rfl | h
        · have := spC_mem (c := c) (l := r) (w := a) (by rw [hs]; simp)
          simp only [List.mem_cons, not_or]
          exact ⟨fun e => hx e.symm, this⟩
        · exact spC_mem (l := r) (by rw [hs]; simp [h])
def wordsL (l : List UInt8) : List ByteArray := (spC 32 l).map mkB
theorem wordsS_mk (l : List UInt8) : wordsS (mkB l) = wordsL l := by
  unfold wordsS wordsL
  rw [show spB = ⟨#[32]⟩ from rfl, splitB_spC 32 _ (mkB l) rfl, mkB_data]

/-! ### Lines -/
theorem linesL_app {l : List UInt8} {r : List UInt8} (h : (10 : UInt8) ∉ l) : linesL (l ++ 10 :: r) = (l ++ [10]) :: linesL r := by
  induction l with
  | nil => simp [linesL]
  | cons x t ih =>
    have hx : x ≠ 10 := fun e => h (by rw [e]; simp)
    have hr := ih (fun hm => h (List.mem_cons_of_mem _ hm))
    rw [List.cons_append, linesL, if_neg hx, hr]
    rfl
theorem linesL_text : ∀ {ls : List (List UInt8)} (r : List UInt8), (∀ l ∈ ls, (10 : UInt8) ∉ l) → linesL (ls.flatMap (· ++ [10]) ++ r) = ls.map (· ++ [10]) ++ linesL r
  | [], r, _ => rfl
  | l :: ls, r, h => by
    rw [List.flatMap_cons, List.append_assoc, List.append_assoc, List.singleton_append, linesL_app (h l (by simp)), linesL_text r (fun x hx => h x (by simp [hx]))]
    rfl
theorem linesL_rest {l : List UInt8} (h : (10 : UInt8) ∉ l) : linesL l = if l = [] then [] else [l] := by
  induction l with
  | nil => rfl
  | cons x t ih =>
    have hx : x ≠ 10 := fun e => h (by rw [e]; simp)
    have hr := ih (fun hm => h (List.mem_cons_of_mem _ hm))
    rw [linesL, if_neg hx, hr]
    by_cases ht : t = []
    · subst ht; rfl
    · rw [if_neg ht]; rfl
theorem suff (l : List UInt8) : Lib.hasSuffix (l ++ [10]) [10] = true := by
  unfold Lib.hasSuffix
  exact List.isSuffixOf_iff_suffix.2 ⟨_, rfl⟩
theorem stepL_line (st : St) (l : List UInt8) : stepL st (mkB (l ++ [10])) = stepW st (wordsL l) := by
  unfold stepL
  rw [mkB_data, suff, if_pos rfl]
  have hc : cutL (mkB (l ++ [10])) = mkB l := by
    unfold cutL Lib.trimSuffix
    rw [mkB_data, suff]
    simp [mkB]
  rw [hc, wordsS_mk]
theorem stepL_part (st : St) {l : List UInt8} (h : (10 : UInt8) ∉ l) : stepL st (mkB l) = (5, st) := by
  unfold stepL
  rw [mkB_data]
  have : Lib.hasSuffix l [10] = false := by
    cases hs : Lib.hasSuffix l [10] with
    | false => rfl
    | true =>
      unfold Lib.hasSuffix at hs
      obtain ⟨t, ht⟩ := List.isSuffixOf_iff_suffix.1 hs
      exact absurd (by rw [← ht]; simp) h
  rw [this]; rfl
/-- Lines, one by one. -/
def runL : St → List (List UInt8) → Option St
  | st, [] => some st
  | st, l :: r => if (stepW st (wordsL l)).1 = 0 then runL (stepW st (wordsL l)).2 r else none
theorem runL_app {st st' : St} : ∀ {ls : List (List UInt8)} {rs : List (List UInt8)} {st : St}, runL st ls = some st' → runL st (ls ++ rs) = runL st' rs
  | [], rs, st, h => by simp [runL] at h; subst h; rfl
  | l :: ls, rs, st, h => by
    unfold runL at h
    split at h
    · rename_i h0
      rw [List.cons_append, runL, if_pos h0]
      exact runL_app (st := st) h
    · cases h
theorem parseF_run : ∀ {ls : List (List UInt8)} {st st' : St} {k : Nat} (rest : List ByteArray), runL st ls = some st' → parseF st k (ls.map (fun l => mkB (l ++ [10])) ++ rest) = parseF st' (k + ls.length) rest
  | [], st, st', k, rest, h => by simp [runL] at h; subst h; rfl
  | l :: ls, st, st', k, rest, h => by
    unfold runL at h
    split at h
    · rename_i h0
      rw [List.map_cons, List.cons_append, parseF, stepL_line, if_pos h0, parseF_run rest h, List.length_cons, show k + 1 + ls.length = k + (ls.length + 1) by omega]
    · cases h
/-- Whole lines that are all taken. -/
theorem parse_whole {ls : List (List UInt8)} {st : St} (h10 : ∀ l ∈ ls, (10 : UInt8) ∉ l) (h : runL st0 ls = some st) (hn : ls ≠ []) : parseR (mkB (ls.flatMap (· ++ [10]))) = .ok st := by
  unfold parseR
  have hl : linesB (mkB (ls.flatMap (· ++ [10]))) = ls.map (fun l => mkB (l ++ [10])) ++ [] := by
    show (linesL (mkB (ls.flatMap (· ++ [10]))).data.toList).map mkB = _
    rw [mkB_data]
    have := linesL_text (ls := ls) [] h10
    rw [List.append_nil] at this
    rw [this]
    simp [linesL]
  rw [hl, parseF_run [] h, parseF, if_neg]
  intro e
  exact hn (List.eq_nil_of_length_eq_zero (by omega))
/-- Whole lines, and a line that is cut. -/
theorem parse_part {ls : List (List UInt8)} {p : List UInt8} {st : St} (h10 : ∀ l ∈ ls, (10 : UInt8) ∉ l) (hp : (10 : UInt8) ∉ p) (h : runL st0 ls = some st) (hn : p ≠ [] ∨ ls = []) : parseR (mkB (ls.flatMap (· ++ [10]) ++ p)) = .error (5, ls.length) := by
  unfold parseR
  have hl : linesB (mkB (ls.flatMap (· ++ [10]) ++ p)) = ls.map (fun l => mkB (l ++ [10])) ++ (if p = [] then [] else [mkB p]) := by
    show (linesL (mkB (ls.flatMap (· ++ [10]) ++ p)).data.toList).map mkB = _
    rw [mkB_data, linesL_text _ h10, linesL_rest hp]
    split <;> simp
  rw [hl, parseF_run _ h]
  by_cases hp0 : p = []
  · subst hp0
    have : ls = [] := by simpa using hn
    subst this
    rfl
  · rw [if_neg hp0, parseF, stepL_part _ hp, if_neg (show ¬ ((5 : Int), st).1 = 0 by simp)]
    simp
end Go.Proofs.YtiojkmknikfhoaaGreatDoor
