/- Scripts that are alike: 'same', 'Same' answer true. -/
import Derived.Test.YtiojkmknikfhoaaGreatDoorP1
import Derived.Test.YtiojkmknikfhoaaGreatDoorWWords
import Derived.Test.YtiojkmknikfhoaaGreatDoorWEqStruct
namespace Go.Proofs.YtiojkmknikfhoaaGreatDoor
set_option linter.unusedVariables false
set_option linter.unusedSimpArgs false
open Go.RowKit Go.Proofs.YtiojkmknikfhoaaGreatDoorW.PrintWords

theorem eqA33 (d : Nat) (w : World) (x0 y0 : Int) (x1 y1 : Int) (x2 y2 : Int) :
    (Op.equalIn (d + 2) 33 (.agg #[.int .i64 x0, .int .i64 x1, .int .i64 x2]) (.agg #[.int .i64 y0, .int .i64 y1, .int .i64 y2])).run Tryz.prog w = .ok (x0 == y0 && (x1 == y1 && (x2 == y2))) w := by
  refine eqA_of Tryz.underlying33 (by kernel_rfl) ?_
  refine eqf_cons (by rfl) (by go_simp; rfl) (by go_simp; rfl) (by go_simp) ?_
  refine eqf_cons (by rfl) (by go_simp; rfl) (by go_simp; rfl) (by go_simp) ?_
  exact eqf_last (by rfl) (by go_simp; rfl) (by go_simp; rfl) (by go_simp)
theorem eqA59 (d : Nat) (w : World) (x0 y0 : Int) (x1 y1 : Int) (x2 y2 : Int) :
    (Op.equalIn (d + 2) 59 (.agg #[.int .i64 x0, .int .i64 x1, .int .i64 x2]) (.agg #[.int .i64 y0, .int .i64 y1, .int .i64 y2])).run Tryz.prog w = .ok (x0 == y0 && (x1 == y1 && (x2 == y2))) w := by
  refine eqA_of Tryz.underlying59 (by kernel_rfl) ?_
  refine eqf_cons (by rfl) (by go_simp; rfl) (by go_simp; rfl) (by go_simp) ?_
  refine eqf_cons (by rfl) (by go_simp; rfl) (by go_simp; rfl) (by go_simp) ?_
  exact eqf_last (by rfl) (by go_simp; rfl) (by go_simp; rfl) (by go_simp)
/-- A slice of turns, at whatever address. -/
def TurnsV (w : World) (v : Value) (ts : List (Int × Int × Int)) : Prop := ∃ A c, v = .slice A ts.length c ∧ ts.length ≤ c ∧ (ts ≠ [] → ∃ g o, A = some ⟨g, o, none⟩ ∧ Turns w g o ts)
theorem TurnsV.below {w w' : World} {v : Value} {ts : List (Int × Int × Int)} (h : TurnsV w v ts) (hb : Below w.heap.size w w') : TurnsV w' v ts := by
  obtain ⟨A, c, hv, hc, hr⟩ := h
  exact ⟨A, c, hv, hc, fun hne => by obtain ⟨g, o, hA, hi⟩ := hr hne; exact ⟨g, o, hA, hi.below hb⟩⟩
theorem tCells_at {ts : List (Int × Int × Int)} : ∀ {j : Nat} {t : Int × Int × Int}, ts[j]? = some t → (tCells ts)[j * 3]? = some (.int .i64 t.1) ∧ (tCells ts)[j * 3 + 1]? = some (.int .i64 t.2.1) ∧ (tCells ts)[j * 3 + 2]? = some (.int .i64 t.2.2) := by
  induction ts with
  | nil => intro j t h; simp at h
  | cons x ts ih =>
    intro j t h
    have hx : tCells (x :: ts) = .int .i64 x.1 :: .int .i64 x.2.1 :: .int .i64 x.2.2 :: tCells ts := by simp [tCells, trnC]
    rw [hx]
    cases j with
    | zero =>
      simp at h
      subst h
      exact ⟨rfl, rfl, rfl⟩
    | succ j =>
      have := ih (j := j) (t := t) (by simpa using h)
      have e : (j + 1) * 3 = j * 3 + 1 + 1 + 1 := by omega
      rw [e]
      simpa using this
theorem TurnsV.of_own {w : World} {base : Nat} {A : Option Addr} {c : Nat} {ts : List (Int × Int × Int)} (h : w.ownsRow base 59 3 (.slice A ts.length c) ts.length (tCells ts)) : TurnsV w (.slice A ts.length c) ts := by
  rcases h.2 with ⟨h1, h2⟩ | ⟨g, cp, cur, he, hg, hh, hc1, _⟩
  · injection h1 with e1 e2 e3
    refine ⟨A, c, rfl, by omega, fun hne => absurd (List.eq_nil_of_length_eq_zero h2) hne⟩
  · injection he with e1 e2 e3
    subst e1; subst e3
    refine ⟨_, _, rfl, hc1, fun _ => ⟨g, 0, rfl, fun j t hj => ?_⟩⟩
    obtain ⟨q1, q2, q3⟩ := tCells_at hj
    have ha : ∀ k : Nat, (⟨g, 0, none⟩ : Addr).add k = ⟨g, k, none⟩ := fun k => by unfold Addr.add; split <;> simp_all
    have r1 := h.cells (g := g) rfl _ _ q1
    have r2 := h.cells (g := g) rfl _ _ q2
    have r3 := h.cells (g := g) rfl _ _ q3
    rw [ha] at r1 r2 r3
    rw [Nat.zero_add]
    exact ⟨r1, r2, r3⟩

attribute [local go_sem high] eqA33 eqA59
set_option maxRecDepth 100000 in
set_option maxHeartbeats 2000000 in
theorem same_eq (c a q : Int) (tw : Bool) (m : ByteArray) (v1 v2 : Value) (ts : List (Int × Int × Int)) (hl : ts.length ≤ 1000000) (w : World) (h1 : TurnsV w v1 ts) (h2 : TurnsV w v2 ts) :
    Calls Tryz.prog 14 #[.agg #[.int .i64 c, .int .i64 a, .int .i64 q, .bool tw, .string m, v1], .agg #[.int .i64 c, .int .i64 a, .int .i64 q, .bool tw, .string m, v2]] w fun e w' => e = .returned (.bool true) ∧ Below w.heap.size w w' := by
  obtain ⟨A1, c1, rfl, hc1, hr1⟩ := h1
  obtain ⟨A2, c2, rfl, hc2, hr2⟩ := h2
  have hu36 := Tryz.underlying36
  have hu33 := Tryz.underlying33
  have hu59 := Tryz.underlying59
  have e33 : (!(c == c && (a == a && q == q))) = false := by simp
  replace hr1 := Lib.hid hr1
  replace hr2 := Lib.hid hr2
  go_enter Tryz.func14, Tryz.ntmps14
  go_wp2_with fail
  go_loopw [5] (fun i wr => ∃ k : Nat, k ≤ ts.length ∧ i = .int .i64 k ∧ Below w.heap.size w wr ∧
      wr.heap[w.heap.size]? = some (.cells #[.int .i64 c, .int .i64 a, .int .i64 q, .bool tw, .string m, .slice A1 ts.length c1] 36 (0, 0)) ∧ wr.heap[w.heap.size + 1]? = some (.cells #[.int .i64 c, .int .i64 a, .int .i64 q, .bool tw, .string m, .slice A2 ts.length c2] 36 (0, 0)))
    (fun i _ => ts.length - (intOf i).toNat)
  case atStart => exact ⟨0, Nat.zero_le _, rfl, ((Below.refl _ w).alloc (Nat.le_refl _) _).alloc (by simp) _, (Below.heap_alloc _ _ _ (by simp)).trans (at_new _ _ _ rfl), at_new _ _ _ (by simp)⟩
  case round =>
    obtain ⟨k, hk, rfl, hb, hA, hB⟩ := hrel
    have a5 : wr.cell? ⟨w.heap.size, 5, none⟩ = some (.slice A1 ts.length c1) := by rw [Lib.cell_of_heap hA]; rfl
    have b5 : wr.cell? ⟨w.heap.size + 1, 5, none⟩ = some (.slice A2 ts.length c2) := by rw [Lib.cell_of_heap hB]; rfl
    replace hA := Lib.hid hA; replace hB := Lib.hid hB
    by_cases hlt : k < ts.length
    · have hne : ts ≠ [] := fun e => by rw [e] at hlt; simp at hlt
      obtain ⟨g1, o1, rfl, hT1⟩ := hr1.out hne
      obtain ⟨g2, o2, rfl, hT2⟩ := hr2.out hne
      obtain ⟨x, hx⟩ : ∃ x, ts[k]? = some x := ⟨ts[k], List.getElem?_eq_getElem hlt⟩
      obtain ⟨p0, p1, p2⟩ := hT1.below hb k x hx
      obtain ⟨q0, q1, q2⟩ := hT2.below hb k x hx
      obtain ⟨x0, x1, x2⟩ := x
      simp only at p0 p1 p2 q0 q1 q2
      have i0 : (0 : Int) ≤ (k : Int) := by omega
      have i1 : (k : Int) < (ts.length : Int) := by omega
      have e59 : (!(x0 == x0 && (x1 == x1 && x2 == x2))) = false := by simp
      replace hx := Lib.hid hx; replace hne := Lib.hid hne
      go_wp2_with fail
      go_quiet (fail)
      go_wp2_with fail
      go_roundw
      case rel => exact ⟨k + 1, by omega, by go_num, below_drewN hb nq, hA.out, hB.out⟩
      case measure => simp [intOf]; omega
    · go_wp2_with fail
      go_ret
      exact ⟨rfl, hb⟩
set_option maxRecDepth 100000 in
set_option maxHeartbeats 2000000 in
theorem Same_eq (c a q : Int) (tw : Bool) (m : ByteArray) (v1 v2 : Value) (ts : List (Int × Int × Int)) (hl : ts.length ≤ 1000000) (w : World) (h1 : TurnsV w v1 ts) (h2 : TurnsV w v2 ts) :
    Calls Tryz.prog 19 #[.agg #[.int .i64 c, .int .i64 a, .int .i64 q, .bool tw, .string m, v1], .agg #[.int .i64 c, .int .i64 a, .int .i64 q, .bool tw, .string m, v2]] w fun e w' => e = .returned (.bool true) ∧ Below w.heap.size w w' := by
  obtain ⟨A1, c1, rfl, hc1, hr1⟩ := h1
  obtain ⟨A2, c2, rfl, hc2, hr2⟩ := h2
  have hu36 := Tryz.underlying36
  have hu33 := Tryz.underlying33
  have hu59 := Tryz.underlying59
  have e33 : (!(c == c && (a == a && q == q))) = false := by simp
  replace hr1 := Lib.hid hr1
  replace hr2 := Lib.hid hr2
  go_enter Tryz.func19, Tryz.ntmps19
  go_wp2_with fail
  go_loopw [5] (fun i wr => ∃ k : Nat, k ≤ ts.length ∧ i = .int .i64 k ∧ Below w.heap.size w wr ∧
      wr.heap[w.heap.size]? = some (.cells #[.int .i64 c, .int .i64 a, .int .i64 q, .bool tw, .string m, .slice A1 ts.length c1] 36 (0, 0)) ∧ wr.heap[w.heap.size + 1]? = some (.cells #[.int .i64 c, .int .i64 a, .int .i64 q, .bool tw, .string m, .slice A2 ts.length c2] 36 (0, 0)))
    (fun i _ => ts.length - (intOf i).toNat)
  case atStart => exact ⟨0, Nat.zero_le _, rfl, ((Below.refl _ w).alloc (Nat.le_refl _) _).alloc (by simp) _, (Below.heap_alloc _ _ _ (by simp)).trans (at_new _ _ _ rfl), at_new _ _ _ (by simp)⟩
  case round =>
    obtain ⟨k, hk, rfl, hb, hA, hB⟩ := hrel
    have a5 : wr.cell? ⟨w.heap.size, 5, none⟩ = some (.slice A1 ts.length c1) := by rw [Lib.cell_of_heap hA]; rfl
    have b5 : wr.cell? ⟨w.heap.size + 1, 5, none⟩ = some (.slice A2 ts.length c2) := by rw [Lib.cell_of_heap hB]; rfl
    replace hA := Lib.hid hA; replace hB := Lib.hid hB
    by_cases hlt : k < ts.length
    · have hne : ts ≠ [] := fun e => by rw [e] at hlt; simp at hlt
      obtain ⟨g1, o1, rfl, hT1⟩ := hr1.out hne
      obtain ⟨g2, o2, rfl, hT2⟩ := hr2.out hne
      obtain ⟨x, hx⟩ : ∃ x, ts[k]? = some x := ⟨ts[k], List.getElem?_eq_getElem hlt⟩
      obtain ⟨p0, p1, p2⟩ := hT1.below hb k x hx
      obtain ⟨q0, q1, q2⟩ := hT2.below hb k x hx
      obtain ⟨x0, x1, x2⟩ := x
      simp only at p0 p1 p2 q0 q1 q2
      have i0 : (0 : Int) ≤ (k : Int) := by omega
      have i1 : (k : Int) < (ts.length : Int) := by omega
      have e59 : (!(x0 == x0 && (x1 == x1 && x2 == x2))) = false := by simp
      replace hx := Lib.hid hx; replace hne := Lib.hid hne
      go_wp2_with fail
      go_quiet (fail)
      go_wp2_with fail
      go_roundw
      case rel => exact ⟨k + 1, by omega, by go_num, below_drewN hb nq, hA.out, hB.out⟩
      case measure => simp [intOf]; omega
    · go_wp2_with fail
      go_ret
      exact ⟨rfl, hb⟩
end Go.Proofs.YtiojkmknikfhoaaGreatDoor
