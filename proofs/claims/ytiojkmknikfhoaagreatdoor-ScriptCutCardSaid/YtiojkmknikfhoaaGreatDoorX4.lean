/- works: the chapter's first row. -/
import Derived.Test.YtiojkmknikfhoaaGreatDoorP
import Derived.Test.YtiojkmknikfhoaaGreatDoorR
import Derived.Test.YtiojkmknikfhoaaGreatDoorW1
import Derived.KernelRfl
namespace Go.Proofs.YtiojkmknikfhoaaGreatDoor
set_option linter.unusedVariables false
set_option linter.unusedSimpArgs false
open Go.RowKit

def firstB : ByteArray := ⟨#[109, 97, 99, 104, 105, 110, 101, 32, 56, 32, 52, 32, 50, 10, 98, 121, 116, 101, 115, 32, 52, 51, 52, 99, 53, 49, 53, 57, 10, 112, 105, 99, 107, 32, 48, 32, 51, 10, 114, 111, 117, 110, 100, 32, 49, 48, 10, 114, 111, 119, 115, 10]⟩
def badB : ByteArray := ⟨#[109, 97, 99, 104, 105, 110, 101, 32, 56, 32, 52, 32, 50, 10, 112, 105, 99, 107, 32, 48, 32, 48, 10]⟩
def wantT : List (Int × Int × Int) := [(0, 0, 3), (1, 0, 10), (3, 0, 0)]
theorem parse_first : parseR firstB = .ok ⟨2, 8, 4, 2, false, ⟨#[67, 76, 81, 89]⟩, wantT⟩ := by kernel_rfl
theorem parse_bad : parseR badB = .error (2, 1) := by kernel_rfl
theorem text_first : textL 8 4 2 false [67, 76, 81, 89] wantT = firstB.data.toList := by kernel_rfl
theorem want_ok : wantT.all trnOk = true := by kernel_rfl
theorem errTy0.below {w w' : World} (h : w.cell? ⟨1, 0, none⟩ = some (.iface 142 (.agg #[.pointer (some ⟨9, 45, none⟩)]))) (hE : Env w) (hb : Below w.heap.size w w') : w'.cell? ⟨1, 0, none⟩ = some (.iface 142 (.agg #[.pointer (some ⟨9, 45, none⟩)])) := (hb.cell (p := ⟨1, 0, none⟩) (by have := hE.big; show 1 < w.heap.size; omega)).trans h
theorem six_of {w : World} {b : Nat} {x0 x1 x2 x3 x4 x5 : Value} {T : TypeId} (h : w.heap[b]? = some (.cells #[x0, x1, x2, x3, x4, x5] T (0, 0))) :
    w.cell? ⟨b, 0, none⟩ = some x0 ∧ w.cell? ⟨b, 1, none⟩ = some x1 ∧ w.cell? ⟨b, 2, none⟩ = some x2 ∧ w.cell? ⟨b, 3, none⟩ = some x3 ∧ w.cell? ⟨b, 4, none⟩ = some x4 ∧ w.cell? ⟨b, 5, none⟩ = some x5 := by
  refine ⟨?_, ?_, ?_, ?_, ?_, ?_⟩ <;> rw [Lib.cell_of_heap h] <;> rfl
theorem want_turns {w : World} {b : Nat} (h : w.heap[b]? = some (.cells #[.int .i64 0, .int .i64 0, .int .i64 3, .int .i64 1, .int .i64 0, .int .i64 10, .int .i64 3, .int .i64 0, .int .i64 0] 59 (0, 0))) : Turns w b 0 wantT := by
  intro j t hj
  match j, hj with
  | 0, hj => simp [wantT] at hj; subst hj; exact ⟨Lib.cell_of_heap h 0, Lib.cell_of_heap h 1, Lib.cell_of_heap h 2⟩
  | 1, hj => simp [wantT] at hj; subst hj; exact ⟨Lib.cell_of_heap h 3, Lib.cell_of_heap h 4, Lib.cell_of_heap h 5⟩
  | 2, hj => simp [wantT] at hj; subst hj; exact ⟨Lib.cell_of_heap h 6, Lib.cell_of_heap h 7, Lib.cell_of_heap h 8⟩
set_option maxRecDepth 100000 in
set_option maxHeartbeats 4000000 in
theorem works_any (w : World) (hE : Env w) (hT : w.cell? ⟨1, 0, none⟩ = some (.iface 142 (.agg #[.pointer (some ⟨9, 45, none⟩)]))) : Calls Tryz.prog 11 #[] w fun e w' => e = .returned (.bool true) ∧ Below w.heap.size w w' := by
  obtain ⟨N, hN⟩ : ∃ N, w.heap.size = N := ⟨_, rfl⟩
  go_enter Tryz.func11, Tryz.ntmps11
  go_wp2_with fail
  skip
  obtain ⟨w0, hw0⟩ : ∃ w0, (w.alloc (.cells #[.int .i64 0, .int .i64 0, .int .i64 3, .int .i64 1, .int .i64 0, .int .i64 10, .int .i64 3, .int .i64 0, .int .i64 0] 59)).alloc (.cells #[.int .i64 8, .int .i64 4, .int .i64 2, .bool false, .string ⟨#[67, 76, 81, 89]⟩, .slice (some ⟨N, 0, none⟩) 3 3] 36) = w0 := ⟨_, rfl⟩
  have b0 : Below N w w0 := by rw [← hw0]; exact ((Below.refl N w).alloc (by omega) _).alloc (by simp; omega) _
  have n0 : w0.heap[N]? = some (.cells #[.int .i64 0, .int .i64 0, .int .i64 3, .int .i64 1, .int .i64 0, .int .i64 10, .int .i64 3, .int .i64 0, .int .i64 0] 59 (0, 0)) := by rw [← hw0]; exact (Below.heap_alloc _ _ _ (by simp; omega)).trans (at_new _ _ _ hN)
  have n1 : w0.heap[N + 1]? = some (.cells #[.int .i64 8, .int .i64 4, .int .i64 2, .bool false, .string ⟨#[67, 76, 81, 89]⟩, .slice (some ⟨N, 0, none⟩) 3 3] 36 (0, 0)) := by rw [← hw0]; exact at_new _ _ _ (by simp; omega)
  have s0 : w0.heap.size = N + 2 := by rw [← hw0]; simp; omega
  rw [hw0]
  clear hw0
  have E0 := hE.below (hN ▸ b0)
  have T0 := errTy0.below hT hE (hN ▸ b0)
  refine (parse_any firstB (by decide) w0 E0).mono ?_
  intro e w1 hP
  obtain ⟨hb1, hP⟩ := hP
  rw [parse_first] at hP
  obtain ⟨A1, c1, rfl, ho1, hf1⟩ := hP
  have hV1 := TurnsV.of_own ho1
  clear ho1 hf1
  have hs1 := hb1.size
  have m0 := (hb1.block N (by omega)).trans n0
  have m1 := (hb1.block (N + 1) (by omega)).trans n1
  obtain ⟨w2, hw2⟩ : ∃ w2, w1.alloc (.cells #[.int .i64 8, .int .i64 4, .int .i64 2, .bool false, .string ⟨#[67, 76, 81, 89]⟩, .slice A1 3 c1] 36) = w2 := ⟨_, rfl⟩
  have hb2 : Below w1.heap.size w1 w2 := by rw [← hw2]; exact (Below.refl _ w1).alloc (Nat.le_refl _) _
  have l2 : w2.heap[w1.heap.size]? = some (.cells #[.int .i64 8, .int .i64 4, .int .i64 2, .bool false, .string ⟨#[67, 76, 81, 89]⟩, .slice A1 3 c1] 36 (0, 0)) := by rw [← hw2]; exact at_new _ _ _ rfl
  have l0 := (hb2.block N (by omega)).trans m0
  have l1 := (hb2.block (N + 1) (by omega)).trans m1
  have hB2 : Below w.heap.size w w2 := by rw [hN]; exact b0.trans ((hb1.trans (hb2.mono hs1)).mono (by omega))
  have E2 := hE.below hB2
  have T2 := errTy0.below hT hE hB2
  have hV2 := hV1.below hb2
  have hs2 := (Array.getElem?_eq_some_iff.1 l2).1
  obtain ⟨x0, x1, x2, x3, x4, x5⟩ := six_of m1
  have hN1 : N + 1 < w1.heap.size := by omega
  have hTu := want_turns l0
  clear n0 n1 m0 b0 hb1 E0 T0 hV1
  unfold scriptV
  replace hw2 := Lib.hid hw2; replace l0 := Lib.hid l0; replace l1 := Lib.hid l1; replace l2 := Lib.hid l2; replace hV2 := Lib.hid hV2; replace hN := Lib.hid hN; replace s0 := Lib.hid s0; replace hTu := Lib.hid hTu; replace m1 := Lib.hid m1
  go_wp2_with fail
  rw [show (w1.alloc (.cells #[.int .i64 8, .int .i64 4, .int .i64 2, .bool false, .string ⟨#[67, 76, 81, 89]⟩, .slice A1 wantT.length c1] 36)) = w2 from hw2.out]
  refine (print_ok 8 4 2 false ⟨#[67, 76, 81, 89]⟩ (some ⟨N, 0, none⟩) N 0 3 wantT (fun _ => rfl) w2 E2 hTu.out (by decide) want_ok (by decide) (by decide)).mono ?_
  rintro e w3 ⟨he, hb3⟩
  have hlit : e = .returned (.tuple #[.string ⟨#[109, 97, 99, 104, 105, 110, 101, 32, 56, 32, 52, 32, 50, 10, 98, 121, 116, 101, 115, 32, 52, 51, 52, 99, 53, 49, 53, 57, 10, 112, 105, 99, 107, 32, 48, 32, 51, 10, 114, 111, 117, 110, 100, 32, 49, 48, 10, 114, 111, 119, 115, 10]⟩, .int .i64 0]) := by
    rw [he, show (⟨#[67, 76, 81, 89]⟩ : ByteArray).data.toList = [67, 76, 81, 89] from rfl, text_first]
    rfl
  subst hlit
  clear he
  have hs3 := hb3.size
  have E3 := hE.below (hB2.trans (hb3.mono hB2.size))
  have T3 := errTy0.below hT hE (hB2.trans (hb3.mono hB2.size))
  have hB3 := hB2.trans (hb3.mono hB2.size)
  have p0 := (hb3.block N (by omega)).trans l0.out
  have p1 := (hb3.block (N + 1) (by omega)).trans l1.out
  have p2 := (hb3.block w1.heap.size hs2).trans l2.out
  have hV3 := hV2.out.below hb3
  clear x0 x1 x2 x3 x4 x5 hb3 hTu
  replace p0 := Lib.hid p0; replace p1 := Lib.hid p1; replace p2 := Lib.hid p2; replace hV3 := Lib.hid hV3
  go_wp2_with fail
  refine (parse_any badB (by decide) w3 E3).mono ?_
  intro e w4 hP
  obtain ⟨hb4, hP⟩ := hP
  rw [parse_bad] at hP
  obtain ⟨be, rfl, hbe, hcell⟩ := hP
  unfold zeroS
  obtain ⟨w5, hw5⟩ : ∃ w5, w4.alloc (.cells #[.int .i64 0, .int .i64 0, .int .i64 0, .bool false, .string ⟨#[]⟩, .slice none 0 0] 36) = w5 := ⟨_, rfl⟩
  have hb45 : Below w4.heap.size w4 w5 := by rw [← hw5]; exact (Below.refl _ w4).alloc (Nat.le_refl _) _
  have hs4 := hb4.size
  have hs5 := hb45.size
  have hb35 := hb4.trans (hb45.mono hs4)
  have q0 := (hb35.block N (by omega)).trans p0.out
  have q1 := (hb35.block (N + 1) (by omega)).trans p1.out
  have q2 := (hb35.block w1.heap.size (by omega)).trans p2.out
  have hbel := (Array.getElem?_eq_some_iff.1 hcell).1
  have qe := (hb45.block be hbel).trans hcell
  have hV5 := hV3.out.below hb35
  have hB5 := hB3.trans (hb35.mono hB3.size)
  have E5 := hE.below hB5
  have T5 := errTy0.below hT hE hB5
  have hTu5 := want_turns q0
  obtain ⟨x0, x1, x2, x3, x4, x5⟩ := six_of ((hb4.block (N + 1) (by omega)).trans p1.out)
  obtain ⟨y0, y1, y2, y3, y4, y5⟩ := six_of ((hb4.block w1.heap.size (by omega)).trans p2.out)
  have hN4 : N + 1 < w4.heap.size := by omega
  have hw14 : w1.heap.size < w4.heap.size := by omega
  replace hw5 := Lib.hid hw5
  clear hb4 hb45 hb35 E3 T3 E2 T2 hcell
  replace q0 := Lib.hid q0; replace q1 := Lib.hid q1; replace q2 := Lib.hid q2; replace qe := Lib.hid qe; replace hV5 := Lib.hid hV5; replace hTu5 := Lib.hid hTu5
  have hsame := same_eq 8 4 2 false ⟨#[67, 76, 81, 89]⟩ (.slice A1 3 c1) (.slice (some ⟨N, 0, none⟩) 3 3) wantT (by decide) w5 hV5.out ⟨_, _, rfl, by decide, fun _ => ⟨N, 0, rfl, hTu5.out⟩⟩
  replace hsame := Lib.hid hsame
  go_wp2_with fail
  rw [hw5.out]
  refine hsame.out.mono ?_
  rintro e w6 ⟨rfl, hb6⟩
  have E6 := hE.below (hB5.trans (hb6.mono hB5.size))
  have T6 := errTy0.below hT hE (hB5.trans (hb6.mono hB5.size))
  have hB6 := hB5.trans (hb6.mono hB5.size)
  have q6 := (hb6.block be (by omega)).trans qe.out
  clear hb6 E5 T5 hsame x0 x1 x2 x3 x4 x5 y0 y1 y2 y3 y4 y5
  replace q6 := Lib.hid q6
  go_wp2_with fail
  refine (told_err be 2 1 2 1 w6 E6 T6 q6.out).mono ?_
  rintro e w7 ⟨rfl, hb7⟩
  go_wp2_with fail
  go_ret
  exact ⟨rfl, hB6.trans (hb7.mono hB6.size)⟩
end Go.Proofs.YtiojkmknikfhoaaGreatDoor
