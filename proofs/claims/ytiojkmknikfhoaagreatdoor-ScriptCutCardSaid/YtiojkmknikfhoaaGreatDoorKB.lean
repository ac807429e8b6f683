/- A draft that is handed in by value, opened to its cells. -/
import Derived.Test.YtiojkmknikfhoaaGreatDoorKA
import Derived.Test.YtiojkmknikfhoaaGreatDoorZ1
import Derived.Deep.Slices
import Derived.ChangeSlices
namespace Go.Proofs.YtiojkmknikfhoaaGreatDoor
set_option linter.unusedVariables false
set_option linter.unusedSimpArgs false
open Go.ChangeShapes Go.WideShapes Go.ChangeAt Go.RowKit Go.Lib

theorem ownK : ownKnob Tryz.prog.godebug = none := by kernel_rfl
theorem laidOut0 : laidOutB Tryz.prog = true := by kernel_rfl
section
variable {H : Type} {enc : TypeId × Value → H} {W : World} {b : Nat} {sp : Nat → Bool} {hd : Bool}
theorem c22 : Tryz.prog.cellsOf 22 = 3 := by kernel_rfl
theorem c5 : Tryz.prog.cellsOf 5 = 1 := by kernel_rfl
theorem c26 : Tryz.prog.cellsOf 26 = 7 := by kernel_rfl
theorem c4 : Tryz.prog.cellsOf 4 = 1 := by kernel_rfl
theorem c23 : Tryz.prog.cellsOf 23 = 1 := by kernel_rfl
theorem c24 : Tryz.prog.cellsOf 24 = 1 := by kernel_rfl
set_option maxRecDepth 100000 in
theorem arr3 {fuel : Nat} {cs : List Value} {x : DataW H × List MemPlace} (h : DataW.trod enc Tryz.prog W b sp hd fuel 22 cs = some x) :
    ∃ n0 n1 n2 : Int, cs = [.int .u8 n0, .int .u8 n1, .int .u8 n2] ∧ 0 ≤ n0 ∧ n0 ≤ 255 ∧ 0 ≤ n1 ∧ n1 ≤ 255 ∧ 0 ≤ n2 ∧ n2 ≤ 255 := by
  obtain ⟨xs, m, _, hx, hl, hxl, hi⟩ := DataW.trod_array Tryz.underlying22 h
  rw [c22] at hl
  match cs, hl with
  | [a0, a1, a2], _ =>
    match xs, hxl with
    | [y0, y1, y2], _ =>
      have h0 := hi 0 (by decide)
      have h1 := hi 1 (by decide)
      have h2 := hi 2 (by decide)
      simp only [c5, Nat.zero_mul, Nat.one_mul, Nat.mul_one, List.drop_zero, List.drop_succ_cons, List.take_succ_cons, List.take_zero, List.getElem?_cons_zero, List.getElem?_cons_succ] at h0 h1 h2
      obtain ⟨n0, e0, _, w0⟩ := DataW.trod_int Tryz.underlying5 h0
      obtain ⟨n1, e1, _, w1⟩ := DataW.trod_int Tryz.underlying5 h1
      obtain ⟨n2, e2, _, w2⟩ := DataW.trod_int Tryz.underlying5 h2
      injection e0 with e0 _
      injection e1 with e1 _
      injection e2 with e2 _
      subst e0; subst e1; subst e2
      exact ⟨n0, n1, n2, rfl, (bounds_u8 w0).1, (bounds_u8 w0).2, (bounds_u8 w1).1, (bounds_u8 w1).2, (bounds_u8 w2).1, (bounds_u8 w2).2⟩
theorem maxLen_le : maxLen ≤ 9223372036854775807 := by decide
theorem cell_lt {w : World} {a : Addr} {v : Value} (h : w.cell? a = some v) : a.block < w.heap.size := by
  unfold World.cell? at h
  split at h
  · rename_i hb; exact (Array.getElem?_eq_some_iff.1 hb).1
  · cases h
theorem bytes_open {fuel : Nat} {c : Value} {x : DataW H × List MemPlace} (h : DataW.trod enc Tryz.prog W b sp hd fuel 23 [c] = some x) :
    ∃ ms : List UInt8, ms.length ≤ 9223372036854775807 ∧ BytesV W c ms := by
  rcases open_ints Tryz.underlying23 Tryz.underlying5 c5 h with ⟨hcs, _⟩ | ⟨a, len, cap, zs, hcs, _, hl, hm, hz, _, hcell, hw⟩
  · injection hcs with hcs _
    subst hcs
    exact ⟨[], by decide, none, 0, rfl, by decide, fun h => absurd rfl h⟩
  · injection hcs with hcs _
    subst hcs
    have hlz : len ≤ zs.length := by rw [hz]; split <;> omega
    have hml := maxLen_le
    have hlen : ((zs.take len).map fun z => UInt8.ofNat z.toNat).length = len := by simp; omega
    refine ⟨(zs.take len).map fun z => UInt8.ofNat z.toNat, by omega, some a, cap, by rw [hlen], by omega, fun hne => ?_⟩
    have hp : 0 < zs.length := by
      rcases Nat.eq_zero_or_pos zs.length with h0 | h0
      · exact absurd (by rw [List.length_eq_zero_iff.1 h0]; simp) hne
      · exact h0
    obtain ⟨g, o, rfl, hc⟩ := ints_at hcell hp
    refine ⟨g, o, rfl, cell_lt (hc 0 hp), fun j bb hj => ?_⟩
    rw [List.getElem?_map] at hj
    obtain ⟨z, hz1, rfl⟩ := Option.map_eq_some_iff.1 hj
    rw [List.getElem?_take] at hz1
    split at hz1
    · rw [hc j (List.getElem?_eq_some_iff.1 hz1).1, List.getD, hz1]
      obtain ⟨b0, b1⟩ := bounds_u8 (hw z (List.mem_of_getElem? hz1))
      show some (Value.int .u8 z) = some (Value.int .u8 ((UInt8.ofNat z.toNat).toNat : Int))
      rw [show ((UInt8.ofNat z.toNat).toNat : Int) = z by rw [UInt8.toNat_ofNat_of_lt' (by show z.toNat < 256; omega)]; omega]
    · cases hz1
def numOf (v : Option Value) : Int := match v with | some (.int _ n) => n | _ => 0
theorem rows_open {fuel : Nat} {c : Value} {x : DataW H × List MemPlace} (h : DataW.trod enc Tryz.prog W b sp hd fuel 24 [c] = some x) :
    ∃ rs : List (Int × Int × Int), rs.length ≤ 9223372036854775807 ∧ RowsV W c rs := by
  rcases Go.Deep.open_slice Tryz.underlying24 h with ⟨hcs, _⟩ | ⟨a, len, cap, m, n, D, Pl, hcs, _, hl, hm, hmm, _, hi⟩
  · injection hcs with hcs _
    subst hcs
    exact ⟨[], by decide, none, 0, rfl, by decide, fun t ht => (by cases ht), fun h => absurd rfl h⟩
  · injection hcs with hcs _
    subst hcs
    have hlm : len ≤ m := by rw [hmm]; split <;> omega
    have hml := maxLen_le
    rw [c22] at hi
    have key : ∀ i, i < len → ∃ n0 n1 n2 : Int, W.cell? (a.add (i * 3)) = some (.int .u8 n0) ∧ W.cell? (a.add (i * 3 + 1)) = some (.int .u8 n1) ∧ W.cell? (a.add (i * 3 + 2)) = some (.int .u8 n2) ∧ 0 ≤ n0 ∧ n0 ≤ 255 ∧ 0 ≤ n1 ∧ n1 ≤ 255 ∧ 0 ≤ n2 ∧ n2 ≤ 255 := by
      intro i hilt
      obtain ⟨cs', hc, ht⟩ := hi i (by omega)
      obtain ⟨n0, n1, n2, rfl, hb⟩ := arr3 ht
      obtain ⟨_, _, hat⟩ := World.cells?_some hc
      have a0 := hat 0 (by decide)
      have a1 := hat 1 (by decide)
      have a2 := hat 2 (by decide)
      rw [Go.Deep.add_add] at a0 a1 a2
      exact ⟨n0, n1, n2, a0, a1, a2, hb⟩
    let f : Nat → Int × Int × Int := fun i => (numOf (W.cell? (a.add (i * 3))), numOf (W.cell? (a.add (i * 3 + 1))), numOf (W.cell? (a.add (i * 3 + 2))))
    have hf : ∀ i, f i = (numOf (W.cell? (a.add (i * 3))), numOf (W.cell? (a.add (i * 3 + 1))), numOf (W.cell? (a.add (i * 3 + 2)))) := fun _ => rfl
    have hlen : ((List.range len).map f).length = len := by simp
    refine ⟨(List.range len).map f, by omega, some a, cap, by rw [hlen], by omega, fun t ht => ?_, fun hne => ?_⟩
    · obtain ⟨i, hi1, rfl⟩ := List.mem_map.1 ht
      obtain ⟨n0, n1, n2, k0, k1, k2, hb⟩ := key i (List.mem_range.1 hi1)
      rw [hf, k0, k1, k2]
      exact hb
    · have hp : 0 < len := by
        rcases Nat.eq_zero_or_pos len with h0 | h0
        · subst h0; exact absurd rfl hne
        · exact h0
      obtain ⟨g, o, spot⟩ := a
      obtain ⟨_, _, _, k0, _⟩ := key 0 hp
      have hspot : spot = none := by simpa [Addr.add] using World.cell?_spot k0
      subst hspot
      refine ⟨g, o, rfl, cell_lt k0, fun j t hj => ?_⟩
      rw [List.getElem?_map] at hj
      obtain ⟨i, hi1, rfl⟩ := Option.map_eq_some_iff.1 hj
      obtain ⟨hjl, rfl⟩ := List.getElem?_eq_some_iff.1 hi1
      rw [List.length_range] at hjl
      rw [List.getElem_range, hf]
      obtain ⟨n0, n1, n2, k0, k1, k2, _⟩ := key j hjl
      rw [k0, k1, k2]
      rw [Go.WideShapes.add_plain] at k0 k1 k2
      exact ⟨k0, by rw [Nat.add_assoc]; exact k1, by rw [Nat.add_assoc]; exact k2⟩
set_option maxRecDepth 100000 in
theorem draft_open {base : Nat} {v : Value} {d : DataW H} {p : List MemPlace} (hv : Value.okWide Tryz.prog W .any base 26 v) (h : DataW.Trod enc Tryz.prog W b sp hd 26 v d p) :
    ∃ (s0 s1 s2 odd : Int) (tw : Bool) (v1 v2 : Value) (ms : List UInt8) (rs : List (Int × Int × Int)), v = .agg #[.int .u8 s0, .int .u8 s1, .int .u8 s2, .bool tw, v1, v2, .int .u8 odd] ∧ DraftIn W s0 s1 s2 odd v1 v2 ms rs := by
  obtain ⟨cs, rfl, hsz⟩ := okWide_struct Tryz.underlying26 hv
  rw [c26] at hsz
  obtain ⟨l⟩ := cs
  match l, hsz with
  | [a0, a1, a2, a3, a4, a5, a6], _ =>
    obtain ⟨fuel, hf⟩ := h
    obtain ⟨xs, n, _, hx, _, hlen, hg⟩ := DataW.trod_struct Tryz.underlying26 hf
    match xs, hlen with
    | [y0, y1, y2, y3, y4], _ =>
      have q0 : DataW.trod enc Tryz.prog W b sp hd n 22 (List.take (Tryz.prog.cellsOf 22) (List.drop 0 [a0, a1, a2, a3, a4, a5, a6])) = some y0 := hg 0 _ rfl
      rw [c22] at q0
      have g0 : DataW.trod enc Tryz.prog W b sp hd n 22 [a0, a1, a2] = some y0 := q0
      have q1 : DataW.trod enc Tryz.prog W b sp hd n 4 (List.take (Tryz.prog.cellsOf 4) (List.drop 3 [a0, a1, a2, a3, a4, a5, a6])) = some y1 := hg 1 _ rfl
      rw [c4] at q1
      have g1 : DataW.trod enc Tryz.prog W b sp hd n 4 [a3] = some y1 := q1
      have q2 : DataW.trod enc Tryz.prog W b sp hd n 23 (List.take (Tryz.prog.cellsOf 23) (List.drop 4 [a0, a1, a2, a3, a4, a5, a6])) = some y2 := hg 2 _ rfl
      rw [c23] at q2
      have g2 : DataW.trod enc Tryz.prog W b sp hd n 23 [a4] = some y2 := q2
      have q3 : DataW.trod enc Tryz.prog W b sp hd n 24 (List.take (Tryz.prog.cellsOf 24) (List.drop 5 [a0, a1, a2, a3, a4, a5, a6])) = some y3 := hg 3 _ rfl
      rw [c24] at q3
      have g3 : DataW.trod enc Tryz.prog W b sp hd n 24 [a5] = some y3 := q3
      have q4 : DataW.trod enc Tryz.prog W b sp hd n 5 (List.take (Tryz.prog.cellsOf 5) (List.drop 6 [a0, a1, a2, a3, a4, a5, a6])) = some y4 := hg 4 _ rfl
      rw [c5] at q4
      have g4 : DataW.trod enc Tryz.prog W b sp hd n 5 [a6] = some y4 := q4
      obtain ⟨n0, n1, n2, e0, p0, p1, p2, p3, p4, p5⟩ := arr3 g0
      obtain ⟨tw, e1, _⟩ := DataW.trod_bool Tryz.underlying4 g1
      obtain ⟨ms, hms, hB⟩ := bytes_open g2
      obtain ⟨rs, hrs, hR⟩ := rows_open g3
      obtain ⟨od, e4, _, w4⟩ := DataW.trod_int Tryz.underlying5 g4
      obtain ⟨o0, o1⟩ := bounds_u8 w4
      injection e1 with e1 _
      injection e4 with e4 _
      simp only [List.cons.injEq, and_true] at e0
      obtain ⟨rfl, rfl, rfl⟩ := e0
      subst e1; subst e4
      exact ⟨n0, n1, n2, od, tw, a4, a5, ms, rs, rfl, ⟨p0, p1⟩, ⟨p2, p3⟩, ⟨p4, p5⟩, ⟨o0, o1⟩, hms, hrs, hB, hR⟩
end
end Go.Proofs.YtiojkmknikfhoaaGreatDoor
