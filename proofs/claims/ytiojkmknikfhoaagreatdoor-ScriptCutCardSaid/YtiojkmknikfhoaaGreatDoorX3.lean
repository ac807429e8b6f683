/- drafted: a script, as it is drawn. -/
import Derived.Test.YtiojkmknikfhoaaGreatDoorW1
import Derived.Lib.BufferRead
namespace Go.Proofs.YtiojkmknikfhoaaGreatDoor
set_option linter.unusedVariables false
set_option linter.unusedSimpArgs false
open Go.RowKit

/-- Bytes that are read, at whatever address. -/
def BytesV (w : World) (v : Value) (l : List UInt8) : Prop := ∃ A c, v = .slice A l.length c ∧ l.length ≤ c ∧ (l ≠ [] → ∃ g o, A = some ⟨g, o, none⟩ ∧ g < w.heap.size ∧ ∀ j b, l[j]? = some b → w.cell? ⟨g, o + j, none⟩ = some (.int .u8 (b.toNat : Int)))
/-- Rows of three bytes. -/
def RowsV (w : World) (v : Value) (l : List (Int × Int × Int)) : Prop := ∃ A c, v = .slice A l.length c ∧ l.length ≤ c ∧ (∀ t ∈ l, 0 ≤ t.1 ∧ t.1 ≤ 255 ∧ 0 ≤ t.2.1 ∧ t.2.1 ≤ 255 ∧ 0 ≤ t.2.2 ∧ t.2.2 ≤ 255) ∧
  (l ≠ [] → ∃ g o, A = some ⟨g, o, none⟩ ∧ g < w.heap.size ∧ ∀ j t, l[j]? = some t → w.cell? ⟨g, o + j * 3, none⟩ = some (.int .u8 t.1) ∧ w.cell? ⟨g, o + j * 3 + 1, none⟩ = some (.int .u8 t.2.1) ∧ w.cell? ⟨g, o + j * 3 + 2, none⟩ = some (.int .u8 t.2.2))
def mkB' (l : List UInt8) : ByteArray := ⟨l.toArray⟩
set_option maxRecDepth 100000 in
theorem BytesV.conv {w W : World} {A : Option Addr} {c : Nat} {l : List UInt8} (h : BytesV w (.slice A l.length c) l) (hb : Below w.heap.size w W) (n : Nat) (hn : n ≤ l.length) :
    (convert 23 9 (.slice A n c)).run Tryz.prog W = .ok (.string (mkB' (l.take n))) W := by
  obtain ⟨A', c', he, hc, hr⟩ := h
  injection he with e1 e2 e3
  subst e1; subst e3
  by_cases h0 : l = []
  · subst h0
    obtain rfl : n = 0 := by simpa using hn
    cases A with
    | none => exact Lib.run_convert_nil_bytes W 23 9 5 c Tryz.underlying23 Tryz.underlying5 Tryz.underlying9
    | some a => exact run_convert_bytes_back (P := Tryz.prog) W 23 9 5 a c [] Tryz.underlying23 Tryz.underlying5 Tryz.underlying9 (fun j hj => by simp at hj)
  · obtain ⟨g, o, rfl, hg, hcell⟩ := hr h0
    have hl : (l.take n).length = n := by rw [List.length_take]; omega
    have := run_convert_bytes_back (P := Tryz.prog) W 23 9 5 ⟨g, o, none⟩ c (l.take n) Tryz.underlying23 Tryz.underlying5 Tryz.underlying9 (fun j hj => by
      have ha : (⟨g, o, none⟩ : Addr).add j = ⟨g, o + j, none⟩ := by unfold Addr.add; split <;> simp_all
      rw [ha]
      have hj' : l[j]? = some (l.take n)[j] := by
        rw [List.getElem_take, List.getElem?_eq_getElem]
      exact (hb.cell (p := ⟨g, o + j, none⟩) hg).trans (hcell j _ hj'))
    rwa [hl] at this
/-- A script of the call's own. -/
def DraftPost (w : World) (e : Ending) (w' : World) : Prop := Below w.heap.size w w' ∧ ∃ (c a q : Int) (tw : Bool) (m : ByteArray) (A : Option Addr) (cap : Nat) (ts : List (Int × Int × Int)),
  e = .returned (.agg #[.int .i64 c, .int .i64 a, .int .i64 q, .bool tw, .string m, .slice A ts.length cap]) ∧ m.size ≤ 3000 ∧ ts.length ≤ 101 ∧ w'.ownsRow w.heap.size 59 3 (.slice A ts.length cap) ts.length (tCells ts)
/-- What lies in memory while a script is made. -/
structure DM (w W : World) (N : Nat) (box : Array Value) (c a q : Int) (tw : Bool) (m : ByteArray) (v : Value) (ts : List (Int × Int × Int)) : Prop where
  below : Below N w W
  box : W.heap[N]? = some (.cells box 26 (0, 0))
  res : W.heap[N + 1]? = some (.cells zeroC 36 (0, 0))
  scr : W.heap[N + 2]? = some (.cells #[.int .i64 c, .int .i64 a, .int .i64 q, .bool tw, .string m, v] 36 (0, 0))
  own : W.ownsRow (N + 3) 59 3 v ts.length (tCells ts)
theorem DM.size {w W : World} {N : Nat} {box : Array Value} {c a q : Int} {tw : Bool} {m : ByteArray} {v : Value} {ts : List (Int × Int × Int)} (h : DM w W N box c a q tw m v ts) : N + 3 ≤ W.heap.size := by
  have := (Array.getElem?_eq_some_iff.1 h.scr).1
  omega
theorem DM.push {w W W2 W5 : World} {N : Nat} {box : Array Value} {c a q : Int} {tw : Bool} {m : ByteArray} {v v' : Value} {ts : List (Int × Int × Int)} {t : Int × Int × Int} (h : DM w W N box c a q tw m v ts) (hb : Below W.heap.size W W2) (hg : W2.grownBy W5 v.ownBlock)
    (ho : W5.ownsRow (N + 3) 59 3 v' (ts.length + 1) (tCells ts ++ trnC t)) : DM w (W5.setCell ⟨N + 2, 5, none⟩ v') N box c a q tw m v' (ts ++ [t]) := by
  have hs := h.size
  have hs2 := hb.size
  have keep : ∀ k, k < N + 3 → W5.heap[k]? = W.heap[k]? := fun k hk => (hg.block k (by omega) (fun e => by have := (h.own.lt k e.symm).1; omega)).trans (hb.block k (by omega))
  refine ⟨?_, ?_, ?_, ?_, ?_⟩
  · have : Below N w W5 := (h.below.trans (hb.mono (by omega))).grown hg (by omega) (fun k e => by have := (h.own.lt k e).1; omega)
    exact this.setCell (p := ⟨N + 2, 5, none⟩) (by simp) _
  · exact (Below.heap_setCell _ _ _ _ (by simp)).trans ((keep N (by omega)).trans h.box)
  · exact (Below.heap_setCell _ _ _ _ (by simp)).trans ((keep (N + 1) (by omega)).trans h.res)
  · exact heap_setCell_same (j := 5) ((keep (N + 2) (by omega)).trans h.scr) v'
  · have := ho.kept (w' := W5.setCell ⟨N + 2, 5, none⟩ v') (row := some (N + 2)) (grown_setCell (grown_refl W5 _) _) (by
      cases h : v'.ownBlock with
      | none => exact .inl rfl
      | some g => exact .inr (fun e => by have := (ho.lt g h).1; rw [Option.some.inj e] at this; omega))
    simpa [tCells] using this

theorem DM.drew {w W : World} {N : Nat} {box : Array Value} {c a q : Int} {tw : Bool} {m : ByteArray} {v : Value} {ts : List (Int × Int × Int)} (h : DM w W N box c a q tw m v ts) : DM w W.drew N box c a q tw m v ts := ⟨h.below.drew, h.box, h.res, h.scr, h.own⟩
theorem dm_init {w W : World} {N : Nat} {box : Array Value} (hb : Below N w W) (h1 : W.heap[N]? = some (.cells box 26 (0, 0))) (h2 : W.heap[N + 1]? = some (.cells zeroC 36 (0, 0))) (hz : W.heap.size = N + 2) (c a q : Int) (tw : Bool) (m : ByteArray) :
    DM w (W.alloc (.cells #[.int .i64 c, .int .i64 a, .int .i64 q, .bool tw, .string m, .slice none 0 0] 36)) N box c a q tw m (.slice none 0 0) [] :=
  ⟨hb.alloc (by omega) _, (Below.heap_alloc _ _ _ (by omega)).trans h1, (Below.heap_alloc _ _ _ (by omega)).trans h2, at_new _ _ _ hz, World.ownsRow_nil _ _ _ _⟩

theorem cellsG {W : World} {sb : Nat} {T : TypeId} {cs : Array Value} (h0 : W.heap[sb]? = some (.cells cs T (0, 0))) (x0 x1 x2 x3 x4 x5 : Value) :
    ((((((W.setCell ⟨sb, 0, none⟩ x0).setCell ⟨sb, 1, none⟩ x1).setCell ⟨sb, 2, none⟩ x2).setCell ⟨sb, 3, none⟩ x3).setCell ⟨sb, 4, none⟩ x4).setCell ⟨sb, 5, none⟩ x5).heap[sb]? = some (.cells ((((((cs.setIfInBounds 0 x0).setIfInBounds 1 x1).setIfInBounds 2 x2).setIfInBounds 3 x3).setIfInBounds 4 x4).setIfInBounds 5 x5) T (0, 0)) :=
  heap_setCell_same (j := 5) (heap_setCell_same (j := 4) (heap_setCell_same (j := 3) (heap_setCell_same (j := 2) (heap_setCell_same (j := 1) (heap_setCell_same (j := 0) h0 x0) x1) x2) x3) x4) x5
theorem DM.out {w W : World} {N : Nat} {box : Array Value} {c a q : Int} {tw : Bool} {m : ByteArray} {v : Value} {ts : List (Int × Int × Int)} (h : DM w W N box c a q tw m v ts) :
    ∃ W', (((((W.setCell ⟨N + 1, 0, none⟩ (.int .i64 c)).setCell ⟨N + 1, 1, none⟩ (.int .i64 a)).setCell ⟨N + 1, 2, none⟩ (.int .i64 q)).setCell ⟨N + 1, 3, none⟩ (.bool tw)).setCell ⟨N + 1, 4, none⟩ (.string m)).setCell ⟨N + 1, 5, none⟩ v = W' ∧
      W'.heap[N + 1]? = some (.cells #[.int .i64 c, .int .i64 a, .int .i64 q, .bool tw, .string m, v] 36 (0, 0)) ∧ Below N w W' ∧ W'.ownsRow (N + 3) 59 3 v ts.length (tCells ts) := by
  refine ⟨_, rfl, ?_, ?_, ?_⟩
  · rw [cellsG h.res]; simp [zeroC]
  · have hb := h.below
    exact (((((hb.setCell (p := ⟨N + 1, 0, none⟩) (by simp) _).setCell (p := ⟨N + 1, 1, none⟩) (by simp) _).setCell (p := ⟨N + 1, 2, none⟩) (by simp) _).setCell (p := ⟨N + 1, 3, none⟩) (by simp) _).setCell (p := ⟨N + 1, 4, none⟩) (by simp) _).setCell (p := ⟨N + 1, 5, none⟩) (by simp) _
  · have step : ∀ (X : World) (j : Nat) (u : Value), X.ownsRow (N + 3) 59 3 v ts.length (tCells ts) → (X.setCell ⟨N + 1, j, none⟩ u).ownsRow (N + 3) 59 3 v ts.length (tCells ts) := fun X j u ho =>
      ho.kept (row := some (N + 1)) (grown_setCell (grown_refl X _) _) (by
        cases h : v.ownBlock with
        | none => exact .inl rfl
        | some g => exact .inr (fun e => by have := (ho.lt g h).1; rw [Option.some.inj e] at this; omega))
    exact step _ 5 _ (step _ 4 _ (step _ 3 _ (step _ 2 _ (step _ 1 _ (step _ 0 _ h.own)))))
theorem DM.field {w W : World} {N : Nat} {box : Array Value} {c a q c' a' q' : Int} {tw : Bool} {m : ByteArray} {v : Value} {ts : List (Int × Int × Int)} (h : DM w W N box c a q tw m v ts) (j : Nat) (u : Value)
    (hj : (#[.int .i64 c, .int .i64 a, .int .i64 q, .bool tw, .string m, v] : Array Value).setIfInBounds j u = #[.int .i64 c', .int .i64 a', .int .i64 q', .bool tw, .string m, v]) : DM w (W.setCell ⟨N + 2, j, none⟩ u) N box c' a' q' tw m v ts :=
  ⟨h.below.setCell (p := ⟨N + 2, j, none⟩) (by simp) _, (Below.heap_setCell _ _ _ _ (by simp)).trans h.box, (Below.heap_setCell _ _ _ _ (by simp)).trans h.res, by rw [heap_setCell_same h.scr u, hj],
    h.own.kept (row := some (N + 2)) (grown_setCell (grown_refl W _) _) (by
      cases e : v.ownBlock with
      | none => exact .inl rfl
      | some g => exact .inr (fun e' => by have := (h.own.lt g e).1; rw [Option.some.inj e'] at this; omega))⟩
theorem DM.keep5 {w W W2 W5 : World} {N : Nat} {box : Array Value} {c a q : Int} {tw : Bool} {m : ByteArray} {v : Value} {ts : List (Int × Int × Int)} (h : DM w W N box c a q tw m v ts) (hb : Below W.heap.size W W2) (hg : W2.grownBy W5 v.ownBlock) : ∀ k, k < N + 3 → W5.heap[k]? = W.heap[k]? := fun k hk => by
  have hs := h.size
  have hs2 := hb.size
  exact (hg.block k (by omega) (fun e => by have := (h.own.lt k e.symm).1; omega)).trans (hb.block k (by omega))
theorem draft_end {w W' : World} {N : Nat} {tmps : Array Value} {c a q : Int} {tw : Bool} {m : ByteArray} {A : Option Addr} {cap : Nat} {ts : List (Int × Int × Int)} (hN : w.heap.size = N) (h1 : W'.heap[N + 1]? = some (.cells #[.int .i64 c, .int .i64 a, .int .i64 q, .bool tw, .string m, .slice A ts.length cap] 36 (0, 0))) (hb : Below N w W') (ho : W'.ownsRow (N + 3) 59 3 (.slice A ts.length cap) ts.length (tCells ts))
    (hm : m.size ≤ 3000) (ht : ts.length ≤ 101) (h2 : tmps.getD 2 undef = .pointer (some ⟨N + 1, 0, none⟩)) : bodyPost Tryz.prog Tryz.f9 (DraftPost w) .ret { tmps := tmps, defers := [] } W' := by
  have h2' : tmps[2]?.getD undef = .pointer (some ⟨N + 1, 0, none⟩) := by simpa using h2
  have hl : (loadVar 36 ⟨N + 1, 0, none⟩).run Tryz.prog W' = .ok (.agg #[.int .i64 c, .int .i64 a, .int .i64 q, .bool tw, .string m, .slice A ts.length cap]) W' := run_loadVar_row W' (N + 1) 36 36 _ (0, 0) _ h1 Tryz.underlying36 rfl (by kernel_rfl)
  refine bodyPost_ret (v := .agg #[.int .i64 c, .int .i64 a, .int .i64 q, .bool tw, .string m, .slice A ts.length cap]) (by
    have hr : Tryz.f9.results = #[.cell 2 36] := rfl
    simp [results, hr, h2', asAddr, hl, Sem.run_bind, Result.andThen]) rfl ?_
  subst hN
  exact ⟨hb, c, a, q, tw, m, A, cap, ts, rfl, hm, ht, own_mono ho (by omega)⟩

set_option maxRecDepth 100000 in
set_option maxHeartbeats 4000000 in
theorem drafted_any (s0 s1 s2 odd : Int) (hs0 : 0 ≤ s0 ∧ s0 ≤ 255) (hs1 : 0 ≤ s1 ∧ s1 ≤ 255) (hs2 : 0 ≤ s2 ∧ s2 ≤ 255) (ho : 0 ≤ odd ∧ odd ≤ 255) (tw : Bool) (v1 v2 : Value) (ms : List UInt8) (rs : List (Int × Int × Int)) (hml : ms.length ≤ 9223372036854775807) (hrl : rs.length ≤ 9223372036854775807) (w : World) (hM : BytesV w v1 ms) (hR : RowsV w v2 rs) :
    Calls Tryz.prog 9 #[.agg #[.int .u8 s0, .int .u8 s1, .int .u8 s2, .bool tw, v1, v2, .int .u8 odd]] w (DraftPost w) := by
  obtain ⟨Am, cm, rfl, hcm, _⟩ := id hM
  obtain ⟨Ar, cr, rfl, hcr, hrb, hra⟩ := id hR
  have hcv := fun (W : World) (hb : Below w.heap.size w W) => hM.conv hb (min (ms.length : Int) 3000).toNat (by omega)
  have hmn : (mkB' (ms.take (min (ms.length : Int) 3000).toNat)).size ≤ 3000 := by
    show (ms.take _).length ≤ 3000
    rw [List.length_take]; omega
  obtain ⟨mB, hmB⟩ : ∃ mB, mkB' (ms.take (min (ms.length : Int) 3000).toNat) = mB := ⟨_, rfl⟩
  rw [hmB] at hcv hmn
  have hm0 : 0 ≤ min (ms.length : Int) 3000 := by omega
  have hm1 : min (ms.length : Int) 3000 ≤ (cm : Int) := by omega
  obtain ⟨hs00, hs01⟩ := hs0
  obtain ⟨hs10, hs11⟩ := hs1
  obtain ⟨hs20, hs21⟩ := hs2
  obtain ⟨ho0, ho1⟩ := ho
  replace hcv := Lib.hid hcv
  replace hM := Lib.hid hM; replace hR := Lib.hid hR; replace hrb := Lib.hid hrb; replace hra := Lib.hid hra; replace hmB := Lib.hid hmB
  go_enter Tryz.func9, Tryz.ntmps9
  go_wp2_with fail
  obtain ⟨N, hN⟩ : ∃ N, w.heap.size = N := ⟨_, rfl⟩
  obtain ⟨W1, hW1⟩ : ∃ W1, ((w.alloc (.cells #[.int .u8 s0, .int .u8 s1, .int .u8 s2, .bool tw, .slice Am ms.length cm, .slice Ar rs.length cr, .int .u8 odd] 26)).alloc (.cells zeroC 36)) = W1 := ⟨_, rfl⟩
  have hb1 : Below w.heap.size w W1 := by rw [← hW1]; exact ((Below.refl _ w).alloc (Nat.le_refl _) _).alloc (by simp) _
  have k1 : W1.heap[w.heap.size]? = some (.cells #[.int .u8 s0, .int .u8 s1, .int .u8 s2, .bool tw, .slice Am ms.length cm, .slice Ar rs.length cr, .int .u8 odd] 26 (0, 0)) := by rw [← hW1]; exact (Below.heap_alloc _ _ _ (by simp)).trans (at_new _ _ _ rfl)
  have k2 : W1.heap[w.heap.size + 1]? = some (.cells zeroC 36 (0, 0)) := by rw [← hW1]; exact at_new _ _ _ (by simp)
  have hz1 : W1.heap.size = w.heap.size + 2 := by rw [← hW1]; simp
  rw [show ((w.alloc (.cells #[.int .u8 s0, .int .u8 s1, .int .u8 s2, .bool tw, .slice Am ms.length cm, .slice Ar rs.length cr, .int .u8 odd] 26)).alloc (.cells #[.int .i64 0, .int .i64 0, .int .i64 0, .bool false, .string ⟨#[]⟩, .slice none 0 0] 36)) = W1 from hW1]
  rw [hN] at hcv hb1 k1 k2 hz1 ⊢
  have hwz : N < W1.heap.size := by omega
  have c0 : W1.cell? ⟨N, 0, none⟩ = some (.int .u8 s0) := by rw [Lib.cell_of_heap k1]; rfl
  have c1 : W1.cell? ⟨N, 1, none⟩ = some (.int .u8 s1) := by rw [Lib.cell_of_heap k1]; rfl
  have c2 : W1.cell? ⟨N, 2, none⟩ = some (.int .u8 s2) := by rw [Lib.cell_of_heap k1]; rfl
  have c3 : W1.cell? ⟨N, 3, none⟩ = some (.bool tw) := by rw [Lib.cell_of_heap k1]; rfl
  have c4 : W1.cell? ⟨N, 4, none⟩ = some (.slice Am ms.length cm) := by rw [Lib.cell_of_heap k1]; rfl
  clear hW1
  replace k1 := Lib.hid k1; replace k2 := Lib.hid k2; replace hz1 := Lib.hid hz1
  have hcvA := hcv.out W1.drew hb1.drew
  have hcvB := hcv.out (W1.alloc (.cells zeroC 36)).drew (hb1.alloc (by omega) _).drew
  unfold zeroC at hcvB
  go_upto_region 1 with fail
  go_cut [3] (fun p WX => ∃ c a q : Int, p = .pointer (some ⟨N + 2, 0, none⟩) ∧ DM w WX N #[.int .u8 s0, .int .u8 s1, .int .u8 s2, .bool tw, .slice Am ms.length cm, .slice Ar rs.length cr, .int .u8 odd] c a q tw mB (.slice none 0 0) [])
  case first =>
    go_region_held3 (fun w' => w'.cell? ⟨N, 0, none⟩ = some (.int .u8 s0) ∧ w'.cell? ⟨N, 1, none⟩ = some (.int .u8 s1) ∧ w'.cell? ⟨N, 2, none⟩ = some (.int .u8 s2) ∧ w'.cell? ⟨N, 3, none⟩ = some (.bool tw) ∧ w'.cell? ⟨N, 4, none⟩ = some (.slice Am ms.length cm) ∧ (convert 23 9 (.slice Am (min (ms.length : Int) 3000).toNat cm)).run Tryz.prog w' = .ok (.string mB) w') ((first | (refine ⟨?_, ?_, ?_, ?_, ?_, ?_⟩; (go_keep); (go_keep); (go_keep); (go_keep); (go_keep); (refine hcv.out _ ?_; repeat' (first | exact hb1 | refine Below.drew ?_ | refine Below.alloc ?_ ?_ _ | refine Below.setCell ?_ ?_ _ | omega | (simp; omega)))))) (first | fail)
    all_goals go_wp2_with fail
    all_goals go_meet
    all_goals
      first
        | exact ⟨_, _, _, by rw [hz1.out], dm_init hb1 k1.out k2.out hz1.out _ _ _ _ _⟩
        | exact ⟨_, _, _, by rw [hz1.out], (dm_init hb1 k1.out k2.out hz1.out _ _ _ _ _).drew⟩
  case rest =>
    obtain ⟨c, a, q, rfl, hD⟩ := hcut
    replace hD := Lib.hid hD
    clear hcv hcvA hcvB c0 c1 c2 c3 c4 hwz hb1 hm0 hm1
    obtain ⟨i0, hi0, hz0, hzz1, hz2⟩ := info_parts info59
    replace hi0 := Lib.hid hi0; replace hz0 := Lib.hid hz0; replace hzz1 := Lib.hid hzz1; replace hz2 := Lib.hid hz2
    go_wp2_with fail
    go_loopw [4] (fun p wr => ∃ (k : Nat) (v : Value) (ts : List (Int × Int × Int)), k ≤ 100 ∧ k ≤ rs.length ∧ p = .int .i64 k ∧ ts.length = k ∧ DM w wr N #[.int .u8 s0, .int .u8 s1, .int .u8 s2, .bool tw, .slice Am ms.length cm, .slice Ar rs.length cr, .int .u8 odd] c a q tw mB v ts)
      (fun p _ => 100 - (intOf p).toNat)
    case atStart => exact ⟨0, _, [], by omega, Nat.zero_le _, rfl, rfl, hD.out⟩
    case round =>
      obtain ⟨k, v, ts, hk, hkr, rfl, htl, hM1⟩ := hrel
      have d5 : wr.cell? ⟨N, 5, none⟩ = some (.slice Ar rs.length cr) := by rw [Lib.cell_of_heap hM1.box]; rfl
      have d6 : wr.cell? ⟨N, 6, none⟩ = some (.int .u8 odd) := by rw [Lib.cell_of_heap hM1.box]; rfl
      have hsz := hM1.size
      have hN0 : N < wr.heap.size := by omega
      have hN2 : N + 2 < wr.heap.size := by omega
      obtain ⟨Av, cv, rfl⟩ := own_slice hM1.own
      have e5 : wr.cell? ⟨N + 2, 5, none⟩ = some (.slice Av ts.length cv) := by rw [Lib.cell_of_heap hM1.scr]; rfl
      have f5 : wr.frozen? ⟨N + 2, 5, none⟩ = false := Lib.frozen_of_heap hM1.scr 5
      have hown := hM1.own
      have htle : ts.length ≤ 100 := by omega
      replace hM1 := Lib.hid hM1; replace hown := Lib.hid hown; replace htl := Lib.hid htl
      by_cases hlt : k < rs.length ∧ k < 100
      · obtain ⟨hlt1, hlt2⟩ := hlt
        have hne : rs ≠ [] := fun e => by rw [e] at hlt1; simp at hlt1
        obtain ⟨g, o, rfl, hg, hcell⟩ := hra.out hne
        obtain ⟨x, hx⟩ : ∃ x, rs[k]? = some x := ⟨rs[k], List.getElem?_eq_getElem hlt1⟩
        obtain ⟨p0, p1, p2⟩ := hcell k x hx
        obtain ⟨b00, b01, b10, b11, b20, b21⟩ := hrb.out x (List.mem_of_getElem? hx)
        obtain ⟨x0, x1, x2⟩ := x
        simp only at p0 p1 p2 b00 b01 b10 b11 b20 b21
        rw [hN] at hg
        have hbb := hM1.out.below
        have q0 := (hbb.cell (p := ⟨g, o + k * 3, none⟩) hg).trans p0
        have q1 := (hbb.cell (p := ⟨g, o + k * 3 + 1, none⟩) hg).trans p1
        have q2 := (hbb.cell (p := ⟨g, o + k * 3 + 2, none⟩) hg).trans p2
        have hgs : g < wr.heap.size := by omega
        have i0' : (0 : Int) ≤ (k : Int) := by omega
        have i1 : (k : Int) < (rs.length : Int) := by omega
        clear p0 p1 p2 hcell
        replace hx := Lib.hid hx; replace hne := Lib.hid hne
        have hk100 : (k : Int) < 100 := by omega
        by_cases k0 : x0 % 4 = 0
        · have t0 : (x0 % 4 == 0) = true := by rw [k0]; rfl
          replace k0 := Lib.hid k0
          go_wp2_with (at_builtin; refine wpList_append_own _ rfl _ _ 34 rfl (N + 3) 59 i0 (.agg #[.int .i64 0, .int .i64 0, .int .i64 0]) 3 24 Tryz.underlying34 hi0.out hz0.out hzz1.out hz2.out rfl (by decide) _ _ _ rfl (((hown.out.alloc _).alloc _).alloc _) ⟨wr.heap.size + 1 + 1, 0, none⟩ 1 1 [.int .i64 (x0 % 4), .int .i64 (x1 % 100), .int .i64 (1 + 3 * x2)] rfl rfl (World.news_of_block (cs := #[.int .i64 (x0 % 4), .int .i64 (x1 % 100), .int .i64 (1 + 3 * x2)]) (t := 59) (fr := (0, 0)) (at_new _ _ _ (by simp))) (by simp [Value.oneCell']) (by unfold maxLen; omega) (by omega) (by simp; omega) ?_)
          intro v' w5 hown' hgrow hnn
          obtain ⟨g5, cap5, rfl⟩ := ownsRow_succ hown'
          have hb2 : Below wr.heap.size wr (((wr.alloc (.cells #[.int .u8 x0, .int .u8 x1, .int .u8 x2] 22)).alloc (.cells #[.int .i64 (x0 % 4), .int .i64 (x1 % 100), .int .i64 (1 + 3 * x2)] 59)).alloc (.cells #[.int .i64 (x0 % 4), .int .i64 (x1 % 100), .int .i64 (1 + 3 * x2)] 59)) := (((Below.refl _ wr).alloc (Nat.le_refl _) _).alloc (by simp) _).alloc (by simp; omega) _
          have hfin := hM1.out.push (t := ((x0 % 4), (x1 % 100), (1 + 3 * x2))) hb2 hgrow hown'
          have hfr : w5.frozen? ⟨N + 2, 5, none⟩ = false := (hgrow.frozen_far ⟨N + 2, 5, none⟩ (by simp; omega) (fun e => by have := (hown.out.lt _ e.symm).1; simp at this)).trans ((hb2.frozen (p := ⟨N + 2, 5, none⟩) hN2).trans f5)
          have hce : w5.cell? ⟨N + 2, 5, none⟩ = some (.slice Av ts.length cv) := (hgrow.cell_far ⟨N + 2, 5, none⟩ (by simp; omega) (fun e => by have := (hown.out.lt _ e.symm).1; simp at this)).trans ((hb2.cell (p := ⟨N + 2, 5, none⟩) hN2).trans e5)
          replace hfin := Lib.hid hfin; replace hown' := Lib.hid hown'
          go_wp2_with fail
          go_roundw
          case rel => exact ⟨k + 1, _, ts ++ [((x0 % 4), (x1 % 100), (1 + 3 * x2))], by omega, by omega, by go_num, by simp [htl.out], by simpa using hfin.out⟩
          case measure => simp [intOf]; omega
        · have t0 : (x0 % 4 == 0) = false := by rw [beq_eq_false_iff_ne]; exact k0
          replace k0 := Lib.hid k0
          by_cases k1' : x0 % 4 = 1
          · have t1 : (x0 % 4 == 1) = true := by rw [k1']; rfl
            replace k1' := Lib.hid k1'
            go_wp2_with (at_builtin; refine wpList_append_own _ rfl _ _ 34 rfl (N + 3) 59 i0 (.agg #[.int .i64 0, .int .i64 0, .int .i64 0]) 3 24 Tryz.underlying34 hi0.out hz0.out hzz1.out hz2.out rfl (by decide) _ _ _ rfl (((hown.out.alloc _).alloc _).alloc _) ⟨wr.heap.size + 1 + 1, 0, none⟩ 1 1 [.int .i64 (x0 % 4), .int .i64 0, .int .i64 (1 + 3 * x2)] rfl rfl (World.news_of_block (cs := #[.int .i64 (x0 % 4), .int .i64 0, .int .i64 (1 + 3 * x2)]) (t := 59) (fr := (0, 0)) (at_new _ _ _ (by simp))) (by simp [Value.oneCell']) (by unfold maxLen; omega) (by omega) (by simp; omega) ?_)
            intro v' w5 hown' hgrow hnn
            obtain ⟨g5, cap5, rfl⟩ := ownsRow_succ hown'
            have hb2 : Below wr.heap.size wr (((wr.alloc (.cells #[.int .u8 x0, .int .u8 x1, .int .u8 x2] 22)).alloc (.cells #[.int .i64 (x0 % 4), .int .i64 0, .int .i64 (1 + 3 * x2)] 59)).alloc (.cells #[.int .i64 (x0 % 4), .int .i64 0, .int .i64 (1 + 3 * x2)] 59)) := (((Below.refl _ wr).alloc (Nat.le_refl _) _).alloc (by simp) _).alloc (by simp; omega) _
            have hfin := hM1.out.push (t := ((x0 % 4), 0, (1 + 3 * x2))) hb2 hgrow hown'
            have hfr : w5.frozen? ⟨N + 2, 5, none⟩ = false := (hgrow.frozen_far ⟨N + 2, 5, none⟩ (by simp; omega) (fun e => by have := (hown.out.lt _ e.symm).1; simp at this)).trans ((hb2.frozen (p := ⟨N + 2, 5, none⟩) hN2).trans f5)
            have hce : w5.cell? ⟨N + 2, 5, none⟩ = some (.slice Av ts.length cv) := (hgrow.cell_far ⟨N + 2, 5, none⟩ (by simp; omega) (fun e => by have := (hown.out.lt _ e.symm).1; simp at this)).trans ((hb2.cell (p := ⟨N + 2, 5, none⟩) hN2).trans e5)
            replace hfin := Lib.hid hfin; replace hown' := Lib.hid hown'
            go_wp2_with fail
            go_roundw
            case rel => exact ⟨k + 1, _, ts ++ [((x0 % 4), 0, (1 + 3 * x2))], by omega, by omega, by go_num, by simp [htl.out], by simpa using hfin.out⟩
            case measure => simp [intOf]; omega
          · have t1 : (x0 % 4 == 1) = false := by rw [beq_eq_false_iff_ne]; exact k1'
            replace k1' := Lib.hid k1'
            go_wp2_with (at_builtin; refine wpList_append_own _ rfl _ _ 34 rfl (N + 3) 59 i0 (.agg #[.int .i64 0, .int .i64 0, .int .i64 0]) 3 24 Tryz.underlying34 hi0.out hz0.out hzz1.out hz2.out rfl (by decide) _ _ _ rfl (((hown.out.alloc _).alloc _).alloc _) ⟨wr.heap.size + 1 + 1, 0, none⟩ 1 1 [.int .i64 (x0 % 4), .int .i64 0, .int .i64 0] rfl rfl (World.news_of_block (cs := #[.int .i64 (x0 % 4), .int .i64 0, .int .i64 0]) (t := 59) (fr := (0, 0)) (at_new _ _ _ (by simp))) (by simp [Value.oneCell']) (by unfold maxLen; omega) (by omega) (by simp; omega) ?_)
            intro v' w5 hown' hgrow hnn
            obtain ⟨g5, cap5, rfl⟩ := ownsRow_succ hown'
            have hb2 : Below wr.heap.size wr (((wr.alloc (.cells #[.int .u8 x0, .int .u8 x1, .int .u8 x2] 22)).alloc (.cells #[.int .i64 (x0 % 4), .int .i64 0, .int .i64 0] 59)).alloc (.cells #[.int .i64 (x0 % 4), .int .i64 0, .int .i64 0] 59)) := (((Below.refl _ wr).alloc (Nat.le_refl _) _).alloc (by simp) _).alloc (by simp; omega) _
            have hfin := hM1.out.push (t := ((x0 % 4), 0, 0)) hb2 hgrow hown'
            have hfr : w5.frozen? ⟨N + 2, 5, none⟩ = false := (hgrow.frozen_far ⟨N + 2, 5, none⟩ (by simp; omega) (fun e => by have := (hown.out.lt _ e.symm).1; simp at this)).trans ((hb2.frozen (p := ⟨N + 2, 5, none⟩) hN2).trans f5)
            have hce : w5.cell? ⟨N + 2, 5, none⟩ = some (.slice Av ts.length cv) := (hgrow.cell_far ⟨N + 2, 5, none⟩ (by simp; omega) (fun e => by have := (hown.out.lt _ e.symm).1; simp at this)).trans ((hb2.cell (p := ⟨N + 2, 5, none⟩) hN2).trans e5)
            replace hfin := Lib.hid hfin; replace hown' := Lib.hid hown'
            go_wp2_with fail
            go_roundw
            case rel => exact ⟨k + 1, _, ts ++ [((x0 % 4), 0, 0)], by omega, by omega, by go_num, by simp [htl.out], by simpa using hfin.out⟩
            case measure => simp [intOf]; omega
      · have hM1' := hM1.out
        have s0' : wr.cell? ⟨N + 2, 0, none⟩ = some (.int .i64 c) := by rw [Lib.cell_of_heap hM1'.scr]; rfl
        have s1' : wr.cell? ⟨N + 2, 1, none⟩ = some (.int .i64 a) := by rw [Lib.cell_of_heap hM1'.scr]; rfl
        have s2' : wr.cell? ⟨N + 2, 2, none⟩ = some (.int .i64 q) := by rw [Lib.cell_of_heap hM1'.scr]; rfl
        have s3' : wr.cell? ⟨N + 2, 3, none⟩ = some (.bool tw) := by rw [Lib.cell_of_heap hM1'.scr]; rfl
        have s4' : wr.cell? ⟨N + 2, 4, none⟩ = some (.string mB) := by rw [Lib.cell_of_heap hM1'.scr]; rfl
        have u0' : wr.frozen? ⟨N + 2, 0, none⟩ = false := Lib.frozen_of_heap hM1'.scr 0
        have u1' : wr.frozen? ⟨N + 2, 1, none⟩ = false := Lib.frozen_of_heap hM1'.scr 1
        have u2' : wr.frozen? ⟨N + 2, 2, none⟩ = false := Lib.frozen_of_heap hM1'.scr 2
        have r0' : wr.cell? ⟨N + 1, 0, none⟩ = some (.int .i64 0) := by rw [Lib.cell_of_heap hM1'.res]; rfl
        have y0' : wr.frozen? ⟨N + 1, 0, none⟩ = false := Lib.frozen_of_heap hM1'.res 0
        have r1' : wr.cell? ⟨N + 1, 1, none⟩ = some (.int .i64 0) := by rw [Lib.cell_of_heap hM1'.res]; rfl
        have y1' : wr.frozen? ⟨N + 1, 1, none⟩ = false := Lib.frozen_of_heap hM1'.res 1
        have r2' : wr.cell? ⟨N + 1, 2, none⟩ = some (.int .i64 0) := by rw [Lib.cell_of_heap hM1'.res]; rfl
        have y2' : wr.frozen? ⟨N + 1, 2, none⟩ = false := Lib.frozen_of_heap hM1'.res 2
        have r3' : wr.cell? ⟨N + 1, 3, none⟩ = some (.bool false) := by rw [Lib.cell_of_heap hM1'.res]; rfl
        have y3' : wr.frozen? ⟨N + 1, 3, none⟩ = false := Lib.frozen_of_heap hM1'.res 3
        have r4' : wr.cell? ⟨N + 1, 4, none⟩ = some (.string ⟨#[]⟩) := by rw [Lib.cell_of_heap hM1'.res]; rfl
        have y4' : wr.frozen? ⟨N + 1, 4, none⟩ = false := Lib.frozen_of_heap hM1'.res 4
        have r5' : wr.cell? ⟨N + 1, 5, none⟩ = some (.slice none 0 0) := by rw [Lib.cell_of_heap hM1'.res]; rfl
        have y5' : wr.frozen? ⟨N + 1, 5, none⟩ = false := Lib.frozen_of_heap hM1'.res 5
        have hN1 : N + 1 < wr.heap.size := by omega
        clear hM1'
        by_cases hk1 : k < rs.length
        all_goals
          have hk2 : k < rs.length → ¬ (k : Int) < 100 := fun h => by omega
          first | (have hk3 := hk2 hk1) | skip
          clear hk2
          rcases (show odd % 12 = 1 ∨ odd % 12 = 2 ∨ odd % 12 = 3 ∨ odd % 12 = 4 ∨ odd % 12 = 5 ∨ odd % 12 = 6 ∨ (odd % 12 ≠ 1 ∧ odd % 12 ≠ 2 ∧ odd % 12 ≠ 3 ∧ odd % 12 ≠ 4 ∧ odd % 12 ≠ 5 ∧ odd % 12 ≠ 6) by omega) with ho | ho | ho | ho | ho | ho | ho
          · have t1 : (odd % 12 == 1) = true := by rw [ho]; rfl
            replace ho := Lib.hid ho
            go_wp2_with fail
            obtain ⟨W', e1, e2, e3, e4⟩ := (hM1.out.field (c' := 0) (a' := a) (q' := q) 0 (.int .i64 0) (by simp)).out
            rw [e1]
            exact draft_end hN e2 e3 e4 hmn (by omega) rfl
          · have t1 : (odd % 12 == 1) = false := by rw [ho]; rfl
            have t2 : (odd % 12 == 2) = true := by rw [ho]; rfl
            replace ho := Lib.hid ho
            go_wp2_with fail
            obtain ⟨W', e1, e2, e3, e4⟩ := (hM1.out.field (c' := c) (a' := 33) (q' := q) 1 (.int .i64 33) (by simp)).out
            rw [e1]
            exact draft_end hN e2 e3 e4 hmn (by omega) rfl
          · have t1 : (odd % 12 == 1) = false := by rw [ho]; rfl
            have t2 : (odd % 12 == 2) = false := by rw [ho]; rfl
            have t3 : (odd % 12 == 3) = true := by rw [ho]; rfl
            replace ho := Lib.hid ho
            go_wp2_with fail
            obtain ⟨W', e1, e2, e3, e4⟩ := (hM1.out.field (c' := c) (a' := a) (q' := -1) 2 (.int .i64 (-1)) (by simp)).out
            rw [e1]
            exact draft_end hN e2 e3 e4 hmn (by omega) rfl
          · have t1 : (odd % 12 == 1) = false := by rw [ho]; rfl
            have t2 : (odd % 12 == 2) = false := by rw [ho]; rfl
            have t3 : (odd % 12 == 3) = false := by rw [ho]; rfl
            have t4 : (odd % 12 == 4) = true := by rw [ho]; rfl
            replace ho := Lib.hid ho
            go_wp2_with (at_builtin; refine wpList_append_own _ rfl _ _ 34 rfl (N + 3) 59 i0 (.agg #[.int .i64 0, .int .i64 0, .int .i64 0]) 3 24 Tryz.underlying34 hi0.out hz0.out hzz1.out hz2.out rfl (by decide) _ _ _ rfl (hown.out.alloc _) ⟨wr.heap.size, 0, none⟩ 1 1 [.int .i64 1, .int .i64 0, .int .i64 0] rfl rfl (World.news_of_block (cs := #[.int .i64 1, .int .i64 0, .int .i64 0]) (t := 59) (fr := (0, 0)) (at_new _ _ _ (by simp))) (by simp [Value.oneCell']) (by unfold maxLen; omega) (by omega) (by simp; omega) ?_)
            intro v' w5 hown' hgrow hnn
            obtain ⟨g5, cap5, rfl⟩ := ownsRow_succ hown'
            have hb2 : Below wr.heap.size wr (wr.alloc (.cells #[.int .i64 1, .int .i64 0, .int .i64 0] 59)) := (Below.refl _ wr).alloc (Nat.le_refl _) _
            have hfin := hM1.out.push (t := (1, 0, 0)) hb2 hgrow hown'
            have hkp := hM1.out.keep5 hb2 hgrow
            have z2 := (hkp (N + 2) (by omega)).trans hM1.out.scr
            have z1 := (hkp (N + 1) (by omega)).trans hM1.out.res
            have m0 : w5.cell? ⟨N + 2, 0, none⟩ = some (.int .i64 c) := by rw [Lib.cell_of_heap z2]; rfl
            have m1 : w5.cell? ⟨N + 2, 1, none⟩ = some (.int .i64 a) := by rw [Lib.cell_of_heap z2]; rfl
            have m2 : w5.cell? ⟨N + 2, 2, none⟩ = some (.int .i64 q) := by rw [Lib.cell_of_heap z2]; rfl
            have m3 : w5.cell? ⟨N + 2, 3, none⟩ = some (.bool tw) := by rw [Lib.cell_of_heap z2]; rfl
            have m4 : w5.cell? ⟨N + 2, 4, none⟩ = some (.string mB) := by rw [Lib.cell_of_heap z2]; rfl
            have m5 : w5.cell? ⟨N + 2, 5, none⟩ = some (.slice Av ts.length cv) := by rw [Lib.cell_of_heap z2]; rfl
            have mf5 : w5.frozen? ⟨N + 2, 5, none⟩ = false := Lib.frozen_of_heap z2 5
            have n0 : w5.cell? ⟨N + 1, 0, none⟩ = some (.int .i64 0) := by rw [Lib.cell_of_heap z1]; rfl
            have nf0 : w5.frozen? ⟨N + 1, 0, none⟩ = false := Lib.frozen_of_heap z1 0
            have n1 : w5.cell? ⟨N + 1, 1, none⟩ = some (.int .i64 0) := by rw [Lib.cell_of_heap z1]; rfl
            have nf1 : w5.frozen? ⟨N + 1, 1, none⟩ = false := Lib.frozen_of_heap z1 1
            have n2 : w5.cell? ⟨N + 1, 2, none⟩ = some (.int .i64 0) := by rw [Lib.cell_of_heap z1]; rfl
            have nf2 : w5.frozen? ⟨N + 1, 2, none⟩ = false := Lib.frozen_of_heap z1 2
            have n3 : w5.cell? ⟨N + 1, 3, none⟩ = some (.bool false) := by rw [Lib.cell_of_heap z1]; rfl
            have nf3 : w5.frozen? ⟨N + 1, 3, none⟩ = false := Lib.frozen_of_heap z1 3
            have n4 : w5.cell? ⟨N + 1, 4, none⟩ = some (.string ⟨#[]⟩) := by rw [Lib.cell_of_heap z1]; rfl
            have nf4 : w5.frozen? ⟨N + 1, 4, none⟩ = false := Lib.frozen_of_heap z1 4
            have n5 : w5.cell? ⟨N + 1, 5, none⟩ = some (.slice none 0 0) := by rw [Lib.cell_of_heap z1]; rfl
            have nf5 : w5.frozen? ⟨N + 1, 5, none⟩ = false := Lib.frozen_of_heap z1 5
            have hs5 : N + 3 ≤ w5.heap.size := by have := (Array.getElem?_eq_some_iff.1 z2).1; omega
            have hs52 : N + 2 < w5.heap.size := by omega
            have hs51 : N + 1 < w5.heap.size := by omega
            replace hfin := Lib.hid hfin; replace hown' := Lib.hid hown'; replace z1 := Lib.hid z1; replace z2 := Lib.hid z2; replace hkp := Lib.hid hkp
            go_wp2_with fail
            have hfin2 := hfin.out
            rw [show ts.length + 1 = (ts ++ [((1 : Int), (0 : Int), (0 : Int))]).length by simp] at hfin2
            obtain ⟨W', e1, e2, e3, e4⟩ := hfin2.out
            rw [show (ts ++ [((1 : Int), (0 : Int), (0 : Int))]).length = ts.length + 1 by simp] at e1
            rw [e1]
            exact draft_end hN e2 e3 e4 hmn (by simp; omega) rfl
          · have t1 : (odd % 12 == 1) = false := by rw [ho]; rfl
            have t2 : (odd % 12 == 2) = false := by rw [ho]; rfl
            have t3 : (odd % 12 == 3) = false := by rw [ho]; rfl
            have t4 : (odd % 12 == 4) = false := by rw [ho]; rfl
            have t5 : (odd % 12 == 5) = true := by rw [ho]; rfl
            replace ho := Lib.hid ho
            go_wp2_with (at_builtin; refine wpList_append_own _ rfl _ _ 34 rfl (N + 3) 59 i0 (.agg #[.int .i64 0, .int .i64 0, .int .i64 0]) 3 24 Tryz.underlying34 hi0.out hz0.out hzz1.out hz2.out rfl (by decide) _ _ _ rfl (hown.out.alloc _) ⟨wr.heap.size, 0, none⟩ 1 1 [.int .i64 3, .int .i64 1, .int .i64 0] rfl rfl (World.news_of_block (cs := #[.int .i64 3, .int .i64 1, .int .i64 0]) (t := 59) (fr := (0, 0)) (at_new _ _ _ (by simp))) (by simp [Value.oneCell']) (by unfold maxLen; omega) (by omega) (by simp; omega) ?_)
            intro v' w5 hown' hgrow hnn
            obtain ⟨g5, cap5, rfl⟩ := ownsRow_succ hown'
            have hb2 : Below wr.heap.size wr (wr.alloc (.cells #[.int .i64 3, .int .i64 1, .int .i64 0] 59)) := (Below.refl _ wr).alloc (Nat.le_refl _) _
            have hfin := hM1.out.push (t := (3, 1, 0)) hb2 hgrow hown'
            have hkp := hM1.out.keep5 hb2 hgrow
            have z2 := (hkp (N + 2) (by omega)).trans hM1.out.scr
            have z1 := (hkp (N + 1) (by omega)).trans hM1.out.res
            have m0 : w5.cell? ⟨N + 2, 0, none⟩ = some (.int .i64 c) := by rw [Lib.cell_of_heap z2]; rfl
            have m1 : w5.cell? ⟨N + 2, 1, none⟩ = some (.int .i64 a) := by rw [Lib.cell_of_heap z2]; rfl
            have m2 : w5.cell? ⟨N + 2, 2, none⟩ = some (.int .i64 q) := by rw [Lib.cell_of_heap z2]; rfl
            have m3 : w5.cell? ⟨N + 2, 3, none⟩ = some (.bool tw) := by rw [Lib.cell_of_heap z2]; rfl
            have m4 : w5.cell? ⟨N + 2, 4, none⟩ = some (.string mB) := by rw [Lib.cell_of_heap z2]; rfl
            have m5 : w5.cell? ⟨N + 2, 5, none⟩ = some (.slice Av ts.length cv) := by rw [Lib.cell_of_heap z2]; rfl
            have mf5 : w5.frozen? ⟨N + 2, 5, none⟩ = false := Lib.frozen_of_heap z2 5
            have n0 : w5.cell? ⟨N + 1, 0, none⟩ = some (.int .i64 0) := by rw [Lib.cell_of_heap z1]; rfl
            have nf0 : w5.frozen? ⟨N + 1, 0, none⟩ = false := Lib.frozen_of_heap z1 0
            have n1 : w5.cell? ⟨N + 1, 1, none⟩ = some (.int .i64 0) := by rw [Lib.cell_of_heap z1]; rfl
            have nf1 : w5.frozen? ⟨N + 1, 1, none⟩ = false := Lib.frozen_of_heap z1 1
            have n2 : w5.cell? ⟨N + 1, 2, none⟩ = some (.int .i64 0) := by rw [Lib.cell_of_heap z1]; rfl
            have nf2 : w5.frozen? ⟨N + 1, 2, none⟩ = false := Lib.frozen_of_heap z1 2
            have n3 : w5.cell? ⟨N + 1, 3, none⟩ = some (.bool false) := by rw [Lib.cell_of_heap z1]; rfl
            have nf3 : w5.frozen? ⟨N + 1, 3, none⟩ = false := Lib.frozen_of_heap z1 3
            have n4 : w5.cell? ⟨N + 1, 4, none⟩ = some (.string ⟨#[]⟩) := by rw [Lib.cell_of_heap z1]; rfl
            have nf4 : w5.frozen? ⟨N + 1, 4, none⟩ = false := Lib.frozen_of_heap z1 4
            have n5 : w5.cell? ⟨N + 1, 5, none⟩ = some (.slice none 0 0) := by rw [Lib.cell_of_heap z1]; rfl
            have nf5 : w5.frozen? ⟨N + 1, 5, none⟩ = false := Lib.frozen_of_heap z1 5
            have hs5 : N + 3 ≤ w5.heap.size := by have := (Array.getElem?_eq_some_iff.1 z2).1; omega
            have hs52 : N + 2 < w5.heap.size := by omega
            have hs51 : N + 1 < w5.heap.size := by omega
            replace hfin := Lib.hid hfin; replace hown' := Lib.hid hown'; replace z1 := Lib.hid z1; replace z2 := Lib.hid z2; replace hkp := Lib.hid hkp
            go_wp2_with fail
            have hfin2 := hfin.out
            rw [show ts.length + 1 = (ts ++ [((3 : Int), (1 : Int), (0 : Int))]).length by simp] at hfin2
            obtain ⟨W', e1, e2, e3, e4⟩ := hfin2.out
            rw [show (ts ++ [((3 : Int), (1 : Int), (0 : Int))]).length = ts.length + 1 by simp] at e1
            rw [e1]
            exact draft_end hN e2 e3 e4 hmn (by simp; omega) rfl
          · have t1 : (odd % 12 == 1) = false := by rw [ho]; rfl
            have t2 : (odd % 12 == 2) = false := by rw [ho]; rfl
            have t3 : (odd % 12 == 3) = false := by rw [ho]; rfl
            have t4 : (odd % 12 == 4) = false := by rw [ho]; rfl
            have t5 : (odd % 12 == 5) = false := by rw [ho]; rfl
            have t6 : (odd % 12 == 6) = true := by rw [ho]; rfl
            replace ho := Lib.hid ho
            go_wp2_with (at_builtin; refine wpList_append_own _ rfl _ _ 34 rfl (N + 3) 59 i0 (.agg #[.int .i64 0, .int .i64 0, .int .i64 0]) 3 24 Tryz.underlying34 hi0.out hz0.out hzz1.out hz2.out rfl (by decide) _ _ _ rfl (hown.out.alloc _) ⟨wr.heap.size, 0, none⟩ 1 1 [.int .i64 0, .int .i64 100, .int .i64 1] rfl rfl (World.news_of_block (cs := #[.int .i64 0, .int .i64 100, .int .i64 1]) (t := 59) (fr := (0, 0)) (at_new _ _ _ (by simp))) (by simp [Value.oneCell']) (by unfold maxLen; omega) (by omega) (by simp; omega) ?_)
            intro v' w5 hown' hgrow hnn
            obtain ⟨g5, cap5, rfl⟩ := ownsRow_succ hown'
            have hb2 : Below wr.heap.size wr (wr.alloc (.cells #[.int .i64 0, .int .i64 100, .int .i64 1] 59)) := (Below.refl _ wr).alloc (Nat.le_refl _) _
            have hfin := hM1.out.push (t := (0, 100, 1)) hb2 hgrow hown'
            have hkp := hM1.out.keep5 hb2 hgrow
            have z2 := (hkp (N + 2) (by omega)).trans hM1.out.scr
            have z1 := (hkp (N + 1) (by omega)).trans hM1.out.res
            have m0 : w5.cell? ⟨N + 2, 0, none⟩ = some (.int .i64 c) := by rw [Lib.cell_of_heap z2]; rfl
            have m1 : w5.cell? ⟨N + 2, 1, none⟩ = some (.int .i64 a) := by rw [Lib.cell_of_heap z2]; rfl
            have m2 : w5.cell? ⟨N + 2, 2, none⟩ = some (.int .i64 q) := by rw [Lib.cell_of_heap z2]; rfl
            have m3 : w5.cell? ⟨N + 2, 3, none⟩ = some (.bool tw) := by rw [Lib.cell_of_heap z2]; rfl
            have m4 : w5.cell? ⟨N + 2, 4, none⟩ = some (.string mB) := by rw [Lib.cell_of_heap z2]; rfl
            have m5 : w5.cell? ⟨N + 2, 5, none⟩ = some (.slice Av ts.length cv) := by rw [Lib.cell_of_heap z2]; rfl
            have mf5 : w5.frozen? ⟨N + 2, 5, none⟩ = false := Lib.frozen_of_heap z2 5
            have n0 : w5.cell? ⟨N + 1, 0, none⟩ = some (.int .i64 0) := by rw [Lib.cell_of_heap z1]; rfl
            have nf0 : w5.frozen? ⟨N + 1, 0, none⟩ = false := Lib.frozen_of_heap z1 0
            have n1 : w5.cell? ⟨N + 1, 1, none⟩ = some (.int .i64 0) := by rw [Lib.cell_of_heap z1]; rfl
            have nf1 : w5.frozen? ⟨N + 1, 1, none⟩ = false := Lib.frozen_of_heap z1 1
            have n2 : w5.cell? ⟨N + 1, 2, none⟩ = some (.int .i64 0) := by rw [Lib.cell_of_heap z1]; rfl
            have nf2 : w5.frozen? ⟨N + 1, 2, none⟩ = false := Lib.frozen_of_heap z1 2
            have n3 : w5.cell? ⟨N + 1, 3, none⟩ = some (.bool false) := by rw [Lib.cell_of_heap z1]; rfl
            have nf3 : w5.frozen? ⟨N + 1, 3, none⟩ = false := Lib.frozen_of_heap z1 3
            have n4 : w5.cell? ⟨N + 1, 4, none⟩ = some (.string ⟨#[]⟩) := by rw [Lib.cell_of_heap z1]; rfl
            have nf4 : w5.frozen? ⟨N + 1, 4, none⟩ = false := Lib.frozen_of_heap z1 4
            have n5 : w5.cell? ⟨N + 1, 5, none⟩ = some (.slice none 0 0) := by rw [Lib.cell_of_heap z1]; rfl
            have nf5 : w5.frozen? ⟨N + 1, 5, none⟩ = false := Lib.frozen_of_heap z1 5
            have hs5 : N + 3 ≤ w5.heap.size := by have := (Array.getElem?_eq_some_iff.1 z2).1; omega
            have hs52 : N + 2 < w5.heap.size := by omega
            have hs51 : N + 1 < w5.heap.size := by omega
            replace hfin := Lib.hid hfin; replace hown' := Lib.hid hown'; replace z1 := Lib.hid z1; replace z2 := Lib.hid z2; replace hkp := Lib.hid hkp
            go_wp2_with fail
            have hfin2 := hfin.out
            rw [show ts.length + 1 = (ts ++ [((0 : Int), (100 : Int), (1 : Int))]).length by simp] at hfin2
            obtain ⟨W', e1, e2, e3, e4⟩ := hfin2.out
            rw [show (ts ++ [((0 : Int), (100 : Int), (1 : Int))]).length = ts.length + 1 by simp] at e1
            rw [e1]
            exact draft_end hN e2 e3 e4 hmn (by simp; omega) rfl
          · obtain ⟨o1, o2, o3, o4, o5, o6⟩ := ho
            have t1 : (odd % 12 == 1) = false := beq_eq_false_iff_ne.2 o1
            have t2 : (odd % 12 == 2) = false := beq_eq_false_iff_ne.2 o2
            have t3 : (odd % 12 == 3) = false := beq_eq_false_iff_ne.2 o3
            have t4 : (odd % 12 == 4) = false := beq_eq_false_iff_ne.2 o4
            have t5 : (odd % 12 == 5) = false := beq_eq_false_iff_ne.2 o5
            have t6 : (odd % 12 == 6) = false := beq_eq_false_iff_ne.2 o6
            have ho := Lib.hid o1; clear o1 o2 o3 o4 o5 o6
            go_wp2_with fail
            obtain ⟨W', e1, e2, e3, e4⟩ := hM1.out.out
            rw [e1]
            exact draft_end hN e2 e3 e4 hmn (by omega) rfl
end Go.Proofs.YtiojkmknikfhoaaGreatDoor
