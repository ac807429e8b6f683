/- told: is an error this fault? -/
import Derived.Test.YtiojkmknikfhoaaGreatDoorQ
import Derived.Deep.RegionWith
namespace Go.Proofs.YtiojkmknikfhoaaGreatDoor
set_option linter.unusedVariables false
set_option linter.unusedSimpArgs false
open Go.RowKit

set_option maxHeartbeats 1000000 in
theorem told_nil (code k : Int) (w : World) : Calls Tryz.prog 16 #[.nilIface, .agg #[.int .i64 code, .int .i64 k]] w fun e w' => e = .returned (.bool (code == 0)) ∧ Below w.heap.size w w' := by
  cases h : (code == 0) with
  | true =>
    go_enter Tryz.func16, Tryz.ntmps16
    go_wp2_with fail
    go_ret
    exact ⟨rfl, (Below.refl _ w).alloc (Nat.le_refl _) _⟩
  | false =>
    go_enter Tryz.func16, Tryz.ntmps16
    go_wp2_with fail
    go_ret
    exact ⟨rfl, (Below.refl _ w).alloc (Nat.le_refl _) _⟩
theorem as_any (e : Addr) (tb : Nat) (w : World) (hg : w.cell? ⟨1, 0, none⟩ = some (.iface 142 (.agg #[.pointer (some ⟨9, 45, none⟩)]))) (ht0 : w.heap[tb]? = some (.cells #[.pointer none] 92 (0, 0))) :
    Calls Tryz.prog 41 #[.iface 92 (.pointer (some e)), .iface 96 (.pointer (some ⟨tb, 0, none⟩))] w fun ev w' => ev = .returned (.bool true) ∧ w.grownBy w' (some tb) ∧ w'.heap[tb]? = some (.cells #[.pointer (some e)] 92 (0, 0)) := by
  have hlt := (Array.getElem?_eq_some_iff.1 ht0).1
  refine (as_hit e ⟨tb, 0, none⟩ (.pointer none) w hg (by rw [Lib.cell_of_heap ht0]; rfl) (Lib.frozen_of_heap ht0 0)).mono ?_
  rintro ev w' ⟨rfl, rfl⟩
  refine ⟨rfl, grown_setCell ((((World.grownBy_alloc w _ none).but _).trans ((World.grownBy_alloc _ _ none).but _)).trans (((World.grownBy_alloc _ _ none).but _).trans ((World.grownBy_alloc _ _ none).but _))) _, ?_⟩
  refine (heap_setCell_same (j := 0) (cs := #[.pointer none]) ?_ (.pointer (some e))).trans rfl
  refine (Below.heap_alloc _ _ _ (by simp; omega)).trans ((Below.heap_alloc _ _ _ (by simp; omega)).trans ((Below.heap_alloc _ _ _ (by simp; omega)).trans ((Below.heap_alloc _ _ _ hlt).trans ht0)))
set_option maxRecDepth 100000 in
set_option maxHeartbeats 4000000 in
theorem told_err (b : Nat) (E j code k : Int) (w : World) (hE : Env w) (hg : w.cell? ⟨1, 0, none⟩ = some (.iface 142 (.agg #[.pointer (some ⟨9, 45, none⟩)]))) (hb : w.heap[b]? = some (.cells #[.int .i64 E, .int .i64 j] 53 (0, 0))) :
    Calls Tryz.prog 16 #[.iface 92 (.pointer (some ⟨b, 0, none⟩)), .agg #[.int .i64 code, .int .i64 k]] w fun e w' => e = .returned (.bool (!(code == 0) && (E == code) && (j == k))) ∧ Below w.heap.size w w' := by
  have hbl : b < w.heap.size := (Array.getElem?_eq_some_iff.1 hb).1
  cases h : (code == 0) with
  | true =>
    go_enter Tryz.func16, Tryz.ntmps16
    go_wp2_with fail
    go_ret
    exact ⟨rfl, (Below.refl _ w).alloc (Nat.le_refl _) _⟩
  | false =>
    have hB := hE.big
    have hbb : Below w.heap.size w ((w.alloc (.cells #[.int .i64 code, .int .i64 k] 53)).alloc (.cells #[.pointer none] 92)) := ((Below.refl _ w).alloc (Nat.le_refl _) _).alloc (by simp) _
    obtain ⟨W2, hW2⟩ : ∃ W2, (w.alloc (.cells #[.int .i64 code, .int .i64 k] 53)).alloc (.cells #[.pointer none] 92) = W2 := ⟨_, rfl⟩
    have hs2 : W2.heap.size = w.heap.size + 2 := by rw [← hW2]; simp
    have hg2 : W2.cell? ⟨1, 0, none⟩ = some (.iface 142 (.agg #[.pointer (some ⟨9, 45, none⟩)])) := by
      rw [hW2] at hbb; exact (hbb.cell (p := ⟨1, 0, none⟩) (by show 1 < w.heap.size; omega)).trans hg
    have ht2 : W2.heap[w.heap.size + 1]? = some (.cells #[.pointer none] 92 (0, 0)) := by rw [← hW2]; exact at_new _ _ _ (by simp)
    have hf2 : W2.heap[w.heap.size]? = some (.cells #[.int .i64 code, .int .i64 k] 53 (0, 0)) := by rw [← hW2]; exact (Below.heap_alloc _ _ _ (by simp)).trans (at_new _ _ _ rfl)
    have hb2 : W2.heap[b]? = some (.cells #[.int .i64 E, .int .i64 j] 53 (0, 0)) := by rw [hW2] at hbb; exact (hbb.block b hbl).trans hb
    rw [hW2] at hbb
    replace hs2 := Lib.hid hs2
    replace hW2 := Lib.hid hW2
    replace ht2 := Lib.hid ht2
    replace hf2 := Lib.hid hf2
    replace hb2 := Lib.hid hb2
    replace hb := Lib.hid hb
    clear hE hg
    go_enter Tryz.func16, Tryz.ntmps16
    go_wp2_with fail
    rw [hW2.out]
    have key : ∀ w3 : World, W2.grownBy w3 (some (w.heap.size + 1)) ∧ w3.heap[w.heap.size + 1]? = some (.cells #[.pointer (some ⟨b, 0, none⟩)] 92 (0, 0)) →
        w3.cell? ⟨w.heap.size + 1, 0, none⟩ = some (.pointer (some ⟨b, 0, none⟩)) ∧ w3.cell? ⟨w.heap.size, 0, none⟩ = some (.int .i64 code) ∧ w3.cell? ⟨w.heap.size, 1, none⟩ = some (.int .i64 k) ∧ w3.cell? ⟨b, 0, none⟩ = some (.int .i64 E) ∧ w3.cell? ⟨b, 1, none⟩ = some (.int .i64 j) ∧ Below w.heap.size w w3 := by
      rintro w3 ⟨h1, h2⟩
      have f3 := (h1.block w.heap.size (by rw [hs2.out]; omega) (by simp)).trans hf2.out
      have b3 := (h1.block b (by rw [hs2.out]; omega) (by simp; omega)).trans hb2.out
      refine ⟨by rw [Lib.cell_of_heap h2]; rfl, by rw [Lib.cell_of_heap f3]; rfl, by rw [Lib.cell_of_heap f3]; rfl, by rw [Lib.cell_of_heap b3]; rfl, by rw [Lib.cell_of_heap b3]; rfl, ?_⟩
      exact hbb.grown h1 (by rw [hs2.out]; omega) (fun k e => by cases e; omega)
    replace key := Lib.hid key
    cases h1 : (E == code) with
    | false =>
      first
        | (go_region_with (go_at_call 41; refine (as_any ⟨b, 0, none⟩ (w.heap.size + 1) _ (by exact hg2) (by exact ht2.out)).mono ?_; rintro e w3 ⟨rfl, hk, hk2⟩; obtain ⟨q1, q2, q3, q4, q5, q6⟩ := key.out w3 ⟨⟨hk.os, hk.tape, hk.output, hk.size, hk.block⟩, hk2⟩; clear hk hk2))
        | fail
      all_goals go_wp2_with fail
      all_goals go_ret
      all_goals (refine ⟨?_, q6⟩; rw [h1]; rfl)
    | true =>
      cases h2 : (j == k) with
      | false =>
        first
        | (go_region_with (go_at_call 41; refine (as_any ⟨b, 0, none⟩ (w.heap.size + 1) _ (by exact hg2) (by exact ht2.out)).mono ?_; rintro e w3 ⟨rfl, hk, hk2⟩; obtain ⟨q1, q2, q3, q4, q5, q6⟩ := key.out w3 ⟨⟨hk.os, hk.tape, hk.output, hk.size, hk.block⟩, hk2⟩; clear hk hk2))
        | fail
        all_goals go_wp2_with fail
        all_goals go_ret
        all_goals (refine ⟨?_, q6⟩; rw [h1, h2]; rfl)
      | true =>
        first
        | (go_region_with (go_at_call 41; refine (as_any ⟨b, 0, none⟩ (w.heap.size + 1) _ (by exact hg2) (by exact ht2.out)).mono ?_; rintro e w3 ⟨rfl, hk, hk2⟩; obtain ⟨q1, q2, q3, q4, q5, q6⟩ := key.out w3 ⟨⟨hk.os, hk.tape, hk.output, hk.size, hk.block⟩, hk2⟩; clear hk hk2))
        | fail
        all_goals go_wp2_with fail
        all_goals go_ret
        all_goals (refine ⟨?_, q6⟩; rw [h1, h2]; rfl)
end Go.Proofs.YtiojkmknikfhoaaGreatDoor
