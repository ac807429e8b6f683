/- Walks over package script: Print of a script that may be. -/
import Derived.Test.YtiojkmknikfhoaaGreatDoorG
namespace Go.Proofs.YtiojkmknikfhoaaGreatDoor
set_option linter.unusedVariables false
set_option linter.unusedSimpArgs false
open Go.RowKit

theorem cfg_le {c a q : Int} (h : cfgB c a q = true) : 0 < c ∧ c ≤ 64 ∧ 0 < a ∧ a ≤ 32 ∧ 0 < q ∧ q ≤ 16 := by simpa [cfgB] using h
theorem trnOk_le {t : Int × Int × Int} (h : trnOk t = true) : 0 ≤ t.1 ∧ t.1 ≤ 3 ∧ 0 ≤ t.2.1 ∧ t.2.1 ≤ 99 ∧ 0 ≤ t.2.2 ∧ t.2.2 ≤ 1000 := by
  simp [trnOk, turnB] at h; omega

set_option maxRecDepth 100000 in
set_option maxHeartbeats 2000000 in
theorem print_long (c a q : Int) (tw : Bool) (m : ByteArray) (A : Option Addr) (b o cap : Nat) (ts : List (Int × Int × Int)) (hA : ts ≠ [] → A = some ⟨b, o, none⟩) (hl : ts.length ≤ 1000000) (w : World) (hT : Turns w b o ts)
    (hc : cfgB c a q = true) (hall : ts.all trnOk = true) (h : 65536 < m.size ∨ 4096 < ts.length) :
    Calls Tryz.prog 12 #[.agg #[.int .i64 c, .int .i64 a, .int .i64 q, .bool tw, .string m, .slice A ts.length cap]] w fun e w' => e = .returned (.tuple #[.string ⟨#[]⟩, .int .i64 4]) ∧ Below w.heap.size w w' := by
  have hAH := Lib.hid hA
  have hcH := Lib.hid hc
  have hallH := Lib.hid hall
  clear hc hall hA
  go_enter Tryz.func12, Tryz.ntmps12
  go_wp2_with fail
  refine (config_any c a q _).mono ?_
  rintro e w1 ⟨rfl, hb1⟩
  rw [hcH.out]
  have hb2 : Below w.heap.size w w1 := ((Below.refl _ w).alloc (Nat.le_refl _) _).trans (hb1.mono (by simp))
  have hT1 := hT.below hb2
  have c4 : w1.cell? ⟨w.heap.size, 4, none⟩ = some (.string m) := by
    refine (hb1.cell (p := ⟨w.heap.size, 4, none⟩) (by simp)).trans ?_
    go_simp
  have c5 : w1.cell? ⟨w.heap.size, 5, none⟩ = some (.slice A ts.length cap) := by
    refine (hb1.cell (p := ⟨w.heap.size, 5, none⟩) (by simp)).trans ?_
    go_simp
  go_wp2_with fail
  refine (containsFunc_any A b o cap ts hAH.out hl _ hT1).mono ?_
  rintro e w2 ⟨rfl, hb3⟩
  rw [hallH.out]
  have d4 := cell_below c4 hb3
  have d5 := cell_below c5 hb3
  by_cases hm : 65536 < m.size
  · go_wp2_with fail
    go_ret2
    exact ⟨rfl, hb2.trans (hb3.mono hb2.size)⟩
  · have h4 : 4096 < ts.length := by omega
    go_wp2_with fail
    go_ret2
    exact ⟨rfl, hb2.trans (hb3.mono hb2.size)⟩

theorem writeByte_u8 (B b : Nat) (l : List UInt8) (x : UInt8) (w : World) (h : Bld B b l w) (hlen : l.length ≤ 140737488355327) (hBw : B ≤ w.heap.size) :
    Calls Tryz.prog 31 #[.pointer (some ⟨b, 0, none⟩), .int .u8 (x.toNat : Int)] w fun e w' => e = .returned .nilIface ∧ (Bld B b (l ++ [x]) w' ∧ Below B w w' ∧ Lib.OthersKept 5 (some b) w w') := by
  have := writeByte_any B b l (x.toNat : Int) (by omega) (by have := UInt8.toNat_lt x; omega) w h hlen hBw
  rwa [Int.toNat_natCast, UInt8.ofNat_toNat] at this
theorem hexGet (i : Nat) (h : i < 16) (h' : i < (⟨#[48, 49, 50, 51, 52, 53, 54, 55, 56, 57, 97, 98, 99, 100, 101, 102]⟩ : ByteArray).size) : (⟨#[48, 49, 50, 51, 52, 53, 54, 55, 56, 57, 97, 98, 99, 100, 101, 102]⟩ : ByteArray)[i]'h' = hexD i := by
  have : i = 0 ∨ i = 1 ∨ i = 2 ∨ i = 3 ∨ i = 4 ∨ i = 5 ∨ i = 6 ∨ i = 7 ∨ i = 8 ∨ i = 9 ∨ i = 10 ∨ i = 11 ∨ i = 12 ∨ i = 13 ∨ i = 14 ∨ i = 15 := by omega
  rcases this with rfl | rfl | rfl | rfl | rfl | rfl | rfl | rfl | rfl | rfl | rfl | rfl | rfl | rfl | rfl | rfl <;> rfl
theorem alloc3 (w : World) (a b c : Obj) : (((w.alloc a).alloc b).alloc c).drew.heap[w.heap.size]? = some a ∧ (((w.alloc a).alloc b).alloc c).drew.heap[w.heap.size + 1]? = some b ∧ (((w.alloc a).alloc b).alloc c).drew.heap[w.heap.size + 1 + 1]? = some c ∧ (((w.alloc a).alloc b).alloc c).drew.heap.size = w.heap.size + 3 ∧ Below w.heap.size w (((w.alloc a).alloc b).alloc c).drew := by
  refine ⟨?_, ?_, ?_, ?_, ((((Below.refl _ w).alloc (Nat.le_refl _) _).alloc (by simp) _).alloc (by simp; omega) _).drew⟩
  · exact (Below.heap_alloc _ _ _ (by simp; omega)).trans ((Below.heap_alloc _ _ _ (by simp)).trans (heap_alloc_new w a))
  · refine (Below.heap_alloc _ _ _ (by simp)).trans ?_
    have := heap_alloc_new (w.alloc a) b
    simpa using this
  · show (((w.alloc a).alloc b).alloc c).heap[_]? = _
    have := heap_alloc_new ((w.alloc a).alloc b) c
    simpa using this
  · show (((w.alloc a).alloc b).alloc c).heap.size = _
    simp
def slOf (k : Int) : Bool := k == 0
def tmOf (k : Int) : Bool := k == 0 || k == 1
theorem wordOf_arr (k : Int) : (⟨(wordOf k).toArray⟩ : ByteArray).data.toList = wordOf k := by simp
theorem turnL_eq (t : Int × Int × Int) : turnL t = [10] ++ wordOf t.1 ++ (if slOf t.1 then numW t.2.1 else []) ++ (if tmOf t.1 then numW t.2.2 else []) := by
  simp [turnL, slOf, tmOf]
theorem turnL_len {t : Int × Int × Int} (h : trnOk t = true) : (turnL t).length ≤ 40 := by
  have hk := trnOk_le h
  rw [turnL_eq]
  have h1 := wordOf_len t.1
  have h2 := numW_len t.2.1 (by omega) (by omega)
  have h3 := numW_len t.2.2 (by omega) (by omega)
  simp only [List.length_append, List.length_cons, List.length_nil]
  split <;> split <;> simp <;> omega
theorem turnsL_len (ts : List (Int × Int × Int)) (h : ts.all trnOk = true) : (ts.flatMap turnL).length ≤ 40 * ts.length := by
  induction ts with
  | nil => simp
  | cons t ts ih =>
    simp only [List.all_cons, Bool.and_eq_true] at h
    have := turnL_len h.1
    have := ih h.2
    simp only [List.flatMap_cons, List.length_append, List.length_cons]; omega
theorem idxAny {k : Int} (h0 : 0 ≤ k) (h3 : k ≤ 3) (w : World) : (Instr.index 78 (.agg kindsA) (.int .i64 k)).run Tryz.prog w = .ok (.agg #[.string ⟨(wordOf k).toArray⟩, .bool (slOf k), .bool (tmOf k)]) w := by
  have : k = 0 ∨ k = 1 ∨ k = 2 ∨ k = 3 := by omega
  rcases this with rfl | rfl | rfl | rfl
  · exact idx0 w
  · exact idx1 w
  · exact idx2 w
  · exact idx3 w
theorem words_one (x : Int) : (wordsB ⟨#[]⟩ [x]).data.toList = numW x := by rw [wordsB_data]; simp
theorem words_one_size (x : Int) (h0 : 0 ≤ x) (h1 : x < 1000000000) : (wordsB ⟨#[]⟩ [x]).size ≤ 11 := by
  rw [Lib.size_eq, words_one]; exact numW_len x h0 h1
theorem ints_one (w : World) (x : Int) : Ints (w.alloc (.cells #[.int .i64 x] 3)) w.heap.size 0 [x] := by
  intro j y hj
  rw [Nat.zero_add, Lib.cell_of_heap (heap_alloc_new w _)]
  match j, hj with
  | 0, hj => simp at hj; subst hj; rfl
set_option maxRecDepth 100000 in
set_option maxHeartbeats 8000000 in
theorem print_ok (c a q : Int) (tw : Bool) (m : ByteArray) (A : Option Addr) (b o cap : Nat) (ts : List (Int × Int × Int)) (hA : ts ≠ [] → A = some ⟨b, o, none⟩) (w : World) (hE : Env w) (hT : Turns w b o ts)
    (hc : cfgB c a q = true) (hall : ts.all trnOk = true) (hm : m.size ≤ 65536) (hl : ts.length ≤ 4096) :
    Calls Tryz.prog 12 #[.agg #[.int .i64 c, .int .i64 a, .int .i64 q, .bool tw, .string m, .slice A ts.length cap]] w fun e w' => e = .returned (.tuple #[.string ⟨(textL c a q tw m.data.toList ts).toArray⟩, .int .i64 0]) ∧ Below w.heap.size w w' := by
  obtain ⟨l1, l2, l3, l4, l5, l6⟩ := cfg_le hc
  have hAH := Lib.hid hA
  have hcH := Lib.hid hc
  have hallH := Lib.hid hall
  clear hc hall hA
  go_enter Tryz.func12, Tryz.ntmps12
  go_wp2_with fail
  refine (config_any c a q _).mono ?_
  rintro e w1 ⟨rfl, hb1⟩
  rw [hcH.out]
  have hb2 : Below w.heap.size w w1 := ((Below.refl _ w).alloc (Nat.le_refl _) _).trans (hb1.mono (by simp))
  have hT1 := hT.below hb2
  have hk1 : w1.heap[w.heap.size]? = some (.cells #[.int .i64 c, .int .i64 a, .int .i64 q, .bool tw, .string m, .slice A ts.length cap] 36 (0, 0)) := by
    rw [hb1.block w.heap.size (by simp)]; exact heap_alloc_new w _
  have hs1 : w.heap.size < w1.heap.size := (Array.getElem?_eq_some_iff.1 hk1).1
  have c4 : w1.cell? ⟨w.heap.size, 4, none⟩ = some (.string m) := by rw [Lib.cell_of_heap hk1]; rfl
  have c5 : w1.cell? ⟨w.heap.size, 5, none⟩ = some (.slice A ts.length cap) := by rw [Lib.cell_of_heap hk1]; rfl
  have hk1H := Lib.hid hk1
  clear hk1
  go_wp2_with fail
  refine (containsFunc_any A b o cap ts hAH.out (by omega) _ hT1).mono ?_
  rintro e w2 ⟨rfl, hb3⟩
  rw [hallH.out]
  have d4 := cell_below c4 hb3
  have d5 := cell_below c5 hb3
  have hk2 : w2.heap[w.heap.size]? = some (.cells #[.int .i64 c, .int .i64 a, .int .i64 q, .bool tw, .string m, .slice A ts.length cap] 36 (0, 0)) := by
    rw [hb3.block w.heap.size hs1]; exact hk1H.out
  have hb23 : Below w.heap.size w w2 := hb2.trans (hb3.mono hb2.size)
  have hs2 : w.heap.size < w2.heap.size := (Array.getElem?_eq_some_iff.1 hk2).1
  have d0 : w2.cell? ⟨w.heap.size, 0, none⟩ = some (.int .i64 c) := by rw [Lib.cell_of_heap hk2]; rfl
  have d1 : w2.cell? ⟨w.heap.size, 1, none⟩ = some (.int .i64 a) := by rw [Lib.cell_of_heap hk2]; rfl
  have d2 : w2.cell? ⟨w.heap.size, 2, none⟩ = some (.int .i64 q) := by rw [Lib.cell_of_heap hk2]; rfl
  have hk2H := Lib.hid hk2
  clear hk2 hb1 hb2 hb3 hT1 c4 c5 hk1H hs1
  have hE2 := hE.below hb23
  have hw0 : ∀ W : World, W.heap.size = w2.heap.size + 2 → True := fun _ _ => trivial
  clear hw0
  go_wp2_with fail
  have hbB : Below w2.heap.size w2 ((w2.alloc (.cells #[.pointer none, .slice none 0 0] 70)).alloc (.cells #[.int .i64 c, .int .i64 a, .int .i64 q] 3)) :=
    ((Below.refl _ w2).alloc (Nat.le_refl _) _).alloc (by simp) _
  have hI : Ints ((w2.alloc (.cells #[.pointer none, .slice none 0 0] 70)).alloc (.cells #[.int .i64 c, .int .i64 a, .int .i64 q] 3)) (w2.heap.size + 1) 0 [c, a, q] := by
    intro j x hj
    have hh : ((w2.alloc (.cells #[.pointer none, .slice none 0 0] 70)).alloc (.cells #[.int .i64 c, .int .i64 a, .int .i64 q] 3)).heap[w2.heap.size + 1]? = some (.cells #[.int .i64 c, .int .i64 a, .int .i64 q] 3 (0, 0)) := by
      have := heap_alloc_new (w2.alloc (.cells #[.pointer none, .slice none 0 0] 70)) (.cells #[.int .i64 c, .int .i64 a, .int .i64 q] 3)
      simpa using this
    rw [Nat.zero_add, Lib.cell_of_heap hh]
    match j, hj with
    | 0, hj => simp at hj; subst hj; rfl
    | 1, hj => simp at hj; subst hj; rfl
    | 2, hj => simp at hj; subst hj; rfl
  have hbld : Bld w2.heap.size w2.heap.size [] ((w2.alloc (.cells #[.pointer none, .slice none 0 0] 70)).alloc (.cells #[.int .i64 c, .int .i64 a, .int .i64 q] 3)) :=
    Bld.fresh (Nat.le_refl _) ((Below.heap_alloc _ _ _ (by simp)).trans (heap_alloc_new w2 _))
  refine (words_any ⟨#[109, 97, 99, 104, 105, 110, 101]⟩ (w2.heap.size + 1) 0 3 [c, a, q] (by decide) (by simp) (by intro n hn; simp at hn; rcases hn with rfl | rfl | rfl <;> omega) _ (hE2.below hbB) hI).mono ?_
  rintro e w3 ⟨rfl, hb3⟩
  have hbB3 : Below w2.heap.size w2 w3 := hbB.trans (hb3.mono (by simp; omega))
  have hbld3 := hbld.below hb3
  clear hI hbld hb3
  have hhead : (wordsB ⟨#[109, 97, 99, 104, 105, 110, 101]⟩ [c, a, q]).data.toList = machineL ++ numW c ++ numW a ++ numW q := by rw [wordsB_data]; simp [machineL]
  have hhl : (machineL ++ numW c ++ numW a ++ numW q).length ≤ 40 := by
    have := numW_len c (by omega) (by omega); have := numW_len a (by omega) (by omega); have := numW_len q (by omega) (by omega)
    simp [machineL]; omega
  obtain ⟨hd, hhd⟩ : ∃ hd, wordsB ⟨#[109, 97, 99, 104, 105, 110, 101]⟩ [c, a, q] = hd := ⟨_, rfl⟩
  rw [hhd] at hhead ⊢
  replace hhead := Lib.hid hhead
  have hds : hd.size ≤ 40 := by rw [Lib.size_eq, hhead.out]; exact hhl
  replace hhl := Lib.hid hhl
  clear hhd
  have hcs : ∀ W : World, Below w2.heap.size w2 W → W.heap[w.heap.size]? = some (.cells #[.int .i64 c, .int .i64 a, .int .i64 q, .bool tw, .string m, .slice A ts.length cap] 36 (0, 0)) := fun W hW => (hW.block _ hs2).trans hk2H.out
  replace hcs := Lib.hid hcs
  go_wp2_with fail
  refine (writeString_any w2.heap.size w2.heap.size [] hd w3 hbld3 (by simp; omega) hbB3.size).mono ?_
  rintro e w4 ⟨rfl, hbld4, hb4, _⟩
  have hbB4 : Below w2.heap.size w2 w4 := hbB3.trans hb4
  rw [List.nil_append, hhead.out] at hbld4
  have e3 : w4.cell? ⟨w.heap.size, 3, none⟩ = some (.bool tw) := by rw [Lib.cell_of_heap (hcs.out _ hbB4)]; rfl
  have e4 : w4.cell? ⟨w.heap.size, 4, none⟩ = some (.string m) := by rw [Lib.cell_of_heap (hcs.out _ hbB4)]; rfl
  have e5 : w4.cell? ⟨w.heap.size, 5, none⟩ = some (.slice A ts.length cap) := by rw [Lib.cell_of_heap (hcs.out _ hbB4)]; rfl
  clear hbB3 hbld3 hb4 hbB
  have hln4 : (machineL ++ numW c ++ numW a ++ numW q).length ≤ 40 := hhl.out
  obtain ⟨L0, hL0⟩ : ∃ L0, machineL ++ numW c ++ numW a ++ numW q = L0 := ⟨_, rfl⟩
  rw [hL0] at hbld4 hln4
  replace hL0 := Lib.hid hL0
  go_upto_if 43 with fail
  go_cut [43] (fun _ wx => Bld w2.heap.size w2.heap.size (headL c a q tw) wx ∧ Below w2.heap.size w2 wx)
  case first =>
    cases tw with
    | true =>
      go_wp2_with fail
      refine (writeString_any w2.heap.size w2.heap.size L0 ⟨#[32, 116, 119, 105, 110]⟩ w4 hbld4 (by have h2 : (⟨#[32, 116, 119, 105, 110]⟩ : ByteArray).size = 5 := rfl; omega) hbB4.size).mono ?_
      rintro e w5 ⟨rfl, hbld5, hb5, _⟩
      go_wp2_with fail
      go_meet
      refine ⟨?_, hbB4.trans hb5⟩
      rw [show headL c a q true = L0 ++ twinL by unfold headL; rw [hL0.out]; rfl]
      exact hbld5
    | false =>
      go_wp2_with fail
      go_meet
      refine ⟨?_, hbB4⟩
      rw [show headL c a q false = L0 by unfold headL; rw [hL0.out]; simp]
      exact hbld4
  case rest =>
    obtain ⟨hbld5, hbB5⟩ := hcut
    have e4 : wc.cell? ⟨w.heap.size, 4, none⟩ = some (.string m) := by rw [Lib.cell_of_heap (hcs.out _ hbB5)]; rfl
    clear hbld4 hbB4 e3 e5 hds d0 d1 d2 d4 d5
    obtain ⟨L1, hL1⟩ : ∃ L1, headL c a q tw = L1 := ⟨_, rfl⟩
    have hL1l : L1.length ≤ 45 := by
      rw [← hL1]; unfold headL; rw [hL0.out]; cases tw <;> simp [twinL] <;> omega
    rw [hL1] at hbld5
    replace hL1 := Lib.hid hL1
    clear hln4
    go_wp2_with fail
    go_loopw [6, 48] (fun _ i wr => ∃ k : Nat, k ≤ m.size ∧ i = .int .i64 k ∧ Bld w2.heap.size w2.heap.size (L1 ++ hexFrom 0 (m.data.toList.take k)) wr ∧ Below w2.heap.size w2 wr)
      (fun _ i _ => m.size - (intOf i).toNat)
    case atStart => exact ⟨0, Nat.zero_le _, rfl, by simpa [hexFrom] using hbld5, hbB5⟩
    case round =>
      obtain ⟨k, hk, rfl, hbld, hbw⟩ := hrel
      have e4 : wr.cell? ⟨w.heap.size, 4, none⟩ = some (.string m) := by rw [Lib.cell_of_heap (hcs.out _ hbw)]; rfl
      have hlen := hexFrom_len (m.data.toList.take k) 0
      have hlen2 : (hexFrom 0 (m.data.toList.take k)).length ≤ 600000 := by
        rw [List.length_take] at hlen; have : m.data.toList.length = m.size := by simp
        omega
      clear hlen
      by_cases hlt : k < m.size
      · obtain ⟨x, hx⟩ : ∃ x, m[k] = x := ⟨_, rfl⟩
        have hx8 : m[k].toNat < 256 := UInt8.toNat_lt _
        have hxd : m[k].toNat / 16 < 16 := by omega
        have hxm : m[k].toNat % 16 < 16 := by omega
        have hnext : hexFrom 0 (m.data.toList.take (k + 1)) = hexFrom 0 (m.data.toList.take k) ++ hexAt k x := by
          have : m.data.toList[k]? = some x := by rw [← hx]; simp [hlt]; rfl
          rw [take_snoc this, hexFrom_snoc, List.length_take, show 0 + min k m.data.toList.length = k by simp; omega]
        replace hx := Lib.hid hx
        have hL10 : ([10, 98, 121, 116, 101, 115, 32] : List UInt8).length = 7 := rfl
        by_cases h24 : k % 24 = 0
        · go_wp2_with fail
          refine (writeString_any w2.heap.size w2.heap.size _ ⟨#[10, 98, 121, 116, 101, 115, 32]⟩ wr hbld (by have h2 : (⟨#[10, 98, 121, 116, 101, 115, 32]⟩ : ByteArray).size = 7 := rfl; rw [List.length_append]; omega) hbw.size).mono ?_
          rintro e wa ⟨rfl, hba, hwa, _⟩
          have hA1 := hbw.trans hwa
          have e4a : wa.cell? ⟨w.heap.size, 4, none⟩ = some (.string m) := by rw [Lib.cell_of_heap (hcs.out _ hA1)]; rfl
          go_wp2_with fail
          refine (writeByte_u8 w2.heap.size w2.heap.size _ _ wa hba (by simp only [List.length_append]; omega) hA1.size).mono ?_
          rintro e wb ⟨rfl, hbb, hwb, _⟩
          have hB1 := hA1.trans hwb
          have e4b : wb.cell? ⟨w.heap.size, 4, none⟩ = some (.string m) := by rw [Lib.cell_of_heap (hcs.out _ hB1)]; rfl
          go_wp2_with fail
          refine (writeByte_u8 w2.heap.size w2.heap.size _ _ wb hbb (by simp only [List.length_append, List.length_cons, List.length_nil]; omega) hB1.size).mono ?_
          rintro e wc' ⟨rfl, hbc, hwc, _⟩
          go_wp2_with fail
          go_roundw
          case rel =>
            refine ⟨k + 1, by omega, by go_num, ?_, hB1.trans hwc⟩
            rw [hexGet _ (by omega), hexGet _ (by omega), hx.out] at hbc
            rw [hnext, hexAt, if_pos h24]
            simpa only [nlBytes, List.append_assoc, List.cons_append, List.nil_append, List.singleton_append] using hbc
          case measure => simp [intOf]; omega
        · go_wp2_with fail
          refine (writeByte_u8 w2.heap.size w2.heap.size _ _ wr hbld (by simp only [List.length_append]; omega) hbw.size).mono ?_
          rintro e wb ⟨rfl, hbb, hwb, _⟩
          have hB1 := hbw.trans hwb
          have e4b : wb.cell? ⟨w.heap.size, 4, none⟩ = some (.string m) := by rw [Lib.cell_of_heap (hcs.out _ hB1)]; rfl
          go_wp2_with fail
          refine (writeByte_u8 w2.heap.size w2.heap.size _ _ wb hbb (by simp only [List.length_append, List.length_cons, List.length_nil]; omega) hB1.size).mono ?_
          rintro e wc' ⟨rfl, hbc, hwc, _⟩
          go_wp2_with fail
          go_roundw
          case rel =>
            refine ⟨k + 1, by omega, by go_num, ?_, hB1.trans hwc⟩
            rw [hexGet _ (by omega), hexGet _ (by omega), hx.out] at hbc
            rw [hnext, hexAt, if_neg h24]
            simpa only [nlBytes, List.append_assoc, List.cons_append, List.nil_append, List.singleton_append] using hbc
          case measure => simp [intOf]; omega
      · have e5 : wr.cell? ⟨w.heap.size, 5, none⟩ = some (.slice A ts.length cap) := by rw [Lib.cell_of_heap (hcs.out _ hbw)]; rfl
        obtain rfl : k = m.size := by omega
        rw [List.take_of_length_le (by simp)] at hbld hlen2
        obtain ⟨L2, hL2⟩ : ∃ L2, L1 ++ hexFrom 0 m.data.toList = L2 := ⟨_, rfl⟩
        have hL2l : L2.length ≤ 600100 := by rw [← hL2, List.length_append]; omega
        rw [hL2] at hbld
        replace hL2 := Lib.hid hL2
        clear hlen2 hk hlt
        go_wp2_with fail
        go_loopw [73] (fun i wr => ∃ k : Nat, k ≤ ts.length ∧ i = .int .i64 k ∧ Bld w2.heap.size w2.heap.size (L2 ++ (ts.take k).flatMap turnL) wr ∧ Below w2.heap.size w2 wr)
          (fun i _ => ts.length - (intOf i).toNat)
        case atStart => exact ⟨0, Nat.zero_le _, rfl, by simpa using hbld, hbw⟩
        case round =>
          clear hbld hbw
          obtain ⟨k, hk, rfl, hbld, hbw⟩ := hrel
          have hlen : (L2 ++ (ts.take k).flatMap turnL).length ≤ 900000 := by
            have := turnsL_len (ts.take k) (List.all_eq_true.2 fun x hx => List.all_eq_true.1 hallH.out x (List.mem_of_mem_take hx))
            rw [List.length_append]; rw [List.length_take] at this; omega
          by_cases hlt : k < ts.length
          · obtain ⟨x, hx0⟩ : ∃ x, ts[k]? = some x := ⟨ts[k], List.getElem?_eq_getElem hlt⟩
            obtain rfl := hAH.out (fun e => by rw [e] at hlt; simp at hlt)
            obtain ⟨c0, c1, c2⟩ := (hT.below (hb23.trans (hbw.mono (by omega)))) k x hx0
            have hxok : trnOk x = true := List.all_eq_true.1 hallH.out x (List.mem_of_getElem? hx0)
            obtain ⟨x0, x1, x2⟩ := x
            obtain ⟨b0, b1, b2, b3, b4, b5⟩ := trnOk_le hxok
            have hnext : L2 ++ (ts.take (k + 1)).flatMap turnL = (L2 ++ (ts.take k).flatMap turnL) ++ turnL (x0, x1, x2) := by
              rw [take_snoc hx0, List.flatMap_append]; simp
            obtain ⟨L3, hL3⟩ : ∃ L3, L2 ++ (ts.take k).flatMap turnL = L3 := ⟨_, rfl⟩
            rw [hL3] at hbld hlen hnext
            simp only at c0 c1 c2 b0 b1 b2 b3 b4 b5
            replace hnext := Lib.hid hnext
            replace hxok := Lib.hid hxok
            clear hL3 hx0
            have hlt8 := hbld.lt
            have hidx := idxAny b0 b1
            go_upto_region 21 with fail
            go_cut [9] (fun p wx => ∃ g, p = .pointer (some ⟨g, 0, none⟩) ∧ w2.heap.size < g ∧ g < wx.heap.size ∧ wx.heap[g]? = some (.cells #[.string ⟨(wordOf x0).toArray⟩, .bool (slOf x0), .bool (tmOf x0)] 77 (0, 0)) ∧ wx.heap[wr.heap.size]? = some (.cells #[.int .i64 x0, .int .i64 x1, .int .i64 x2] 59 (0, 0)) ∧ Bld w2.heap.size w2.heap.size L3 wx ∧ Below w2.heap.size w2 wx)
            case first =>
              go_region_held3 (fun w' => w'.cell? ⟨wr.heap.size, 0, none⟩ = some (.int .i64 x0)) (go_keep) (first | (go_at_call 32; refine (kinds_any _).mono ?_; rintro e w' ⟨rfl, rfl⟩))
              all_goals (go_wp2_with fail; go_meet)
              all_goals first
                | exact ⟨_, rfl, by omega, by rw [(alloc3 _ _ _ _).2.2.2.1]; omega, (alloc3 _ _ _ _).2.2.1, (alloc3 _ _ _ _).1, hbld.below (alloc3 _ _ _ _).2.2.2.2, hbw.trans ((alloc3 _ _ _ _).2.2.2.2.mono hbw.size)⟩
                | exact ⟨_, rfl, by omega, by rw [(alloc3 _ _ _ _).2.2.2.1]; omega, (alloc3 _ _ _ _).2.1, (alloc3 _ _ _ _).1, hbld.below (alloc3 _ _ _ _).2.2.2.2, hbw.trans ((alloc3 _ _ _ _).2.2.2.2.mono hbw.size)⟩
            case rest =>
              obtain ⟨g, rfl, hg1, hg2, hg3, ht, hbld4, hbw4⟩ := hcut
              clear c0 c1 c2 hidx
              go_wp2_with fail
              refine (writeByte_any w2.heap.size w2.heap.size L3 10 (by decide) (by decide) wc hbld4 (by omega) hbw4.size).mono ?_
              rintro e wa ⟨rfl, hba, hwa, hka⟩
              have hg3a := others_cells hka hg3 (by omega) (by decide)
              have hta := others_cells hka ht (by omega) (by decide)
              have hA1 := hbw4.trans hwa
              have ca0 : wa.cell? ⟨g, 0, none⟩ = some (.string ⟨(wordOf x0).toArray⟩) := by rw [Lib.cell_of_heap hg3a]; rfl
              clear hg3 ht hbld4 hbw4
              replace hg3a := Lib.hid hg3a
              replace hta := Lib.hid hta
              go_wp2_with fail
              refine (writeString_any w2.heap.size w2.heap.size _ ⟨(wordOf x0).toArray⟩ wa hba (by have := wordOf_len x0; have h2 : (⟨(wordOf x0).toArray⟩ : ByteArray).size = (wordOf x0).length := by simp [ByteArray.size]
                                                                                                   simp only [List.length_append, List.length_cons, List.length_nil]; omega) hA1.size).mono ?_
              rintro e wb ⟨rfl, hbb, hwb, hkb⟩
              have hg3b := others_cells hkb hg3a.out (by omega) (by decide)
              have htb := others_cells hkb hta.out (by omega) (by decide)
              have hB1 := hA1.trans hwb
              have cb1 : wb.cell? ⟨g, 1, none⟩ = some (.bool (slOf x0)) := by rw [Lib.cell_of_heap hg3b]; rfl
              clear hg3a hta hba hA1 ca0
              have hsl : slOf x0 = true ∨ slOf x0 = false := by cases slOf x0 <;> simp
              have htm : tmOf x0 = true ∨ tmOf x0 = false := by cases tmOf x0 <;> simp
              have himp : slOf x0 = true → tmOf x0 = true := by unfold slOf tmOf; intro h; rw [h]; rfl
              have hfin : ∀ sl tm, slOf x0 = sl → tmOf x0 = tm → turnL (x0, x1, x2) = [10] ++ wordOf x0 ++ (if sl then numW x1 else []) ++ (if tm then numW x2 else []) := by
                intro sl tm h1 h2; rw [turnL_eq]; simp only [h1, h2]
              replace himp := Lib.hid himp
              replace hfin := Lib.hid hfin
              rcases hsl with hsl | hsl
              · have htm : tmOf x0 = true := himp.out hsl
                have hfin := Lib.hid (hfin.out _ _ hsl htm)
                rw [hsl] at cb1 hg3b
                rw [htm] at hg3b
                clear hsl htm himp
                replace hg3b := Lib.hid hg3b
                replace htb := Lib.hid htb
                have cya1 : wb.cell? ⟨wr.heap.size, 1, none⟩ = some (.int .i64 x1) := by rw [Lib.cell_of_heap htb.out]; rfl
                go_wp2_with fail
                refine (words_any ⟨#[]⟩ wb.heap.size 0 1 [x1] (by decide) (by simp) (by intro n hn; simp at hn; subst hn; omega) _ ((hE2.below hB1).below ((Below.refl _ _).alloc (Nat.le_refl _) _)) (ints_one _ _)).mono ?_
                rintro e vya ⟨rfl, hvya⟩
                have hpya : Below wb.heap.size wb vya := ((Below.refl _ wb).alloc (Nat.le_refl _) _).trans (hvya.mono (by simp))
                have hblya := hbb.below hpya
                have hstya : (wordsB ⟨#[]⟩ [x1]).size ≤ 11 := words_one_size x1 (by omega) (by omega)
                have hgvya := (hpya.block g (Array.getElem?_eq_some_iff.1 hg3b.out).1).trans hg3b.out
                have htvya := (hpya.block wr.heap.size (Array.getElem?_eq_some_iff.1 htb.out).1).trans htb.out
                have hBvya := hB1.trans (hpya.mono hB1.size)
                go_wp2_with fail
                refine (writeString_any w2.heap.size w2.heap.size _ _ vya hblya (by have := wordOf_len x0; have := numW_len x1 (by omega) (by omega); simp only [List.length_append, List.length_cons, List.length_nil]; omega) hBvya.size).mono ?_
                rintro e ya ⟨rfl, hbya, hwya, hkya⟩
                have hgya := others_cells hkya hgvya (by omega) (by decide)
                have htya := others_cells hkya htvya (by omega) (by decide)
                have hBya := hBvya.trans hwya
                rw [words_one] at hbya
                have ct2 : ya.cell? ⟨g, 2, none⟩ = some (.bool true) := by rw [Lib.cell_of_heap hgya]; rfl
                replace hgya := Lib.hid hgya
                replace htya := Lib.hid htya
                clear hgvya htvya hBvya hblya hvya hpya
                have cyb1 : ya.cell? ⟨wr.heap.size, 2, none⟩ = some (.int .i64 x2) := by rw [Lib.cell_of_heap htya.out]; rfl
                go_wp2_with fail
                refine (words_any ⟨#[]⟩ ya.heap.size 0 1 [x2] (by decide) (by simp) (by intro n hn; simp at hn; subst hn; omega) _ ((hE2.below hBya).below ((Below.refl _ _).alloc (Nat.le_refl _) _)) (ints_one _ _)).mono ?_
                rintro e vyb ⟨rfl, hvyb⟩
                have hpyb : Below ya.heap.size ya vyb := ((Below.refl _ ya).alloc (Nat.le_refl _) _).trans (hvyb.mono (by simp))
                have hblyb := hbya.below hpyb
                have hstyb : (wordsB ⟨#[]⟩ [x2]).size ≤ 11 := words_one_size x2 (by omega) (by omega)
                have hgvyb := (hpyb.block g (Array.getElem?_eq_some_iff.1 hgya.out).1).trans hgya.out
                have htvyb := (hpyb.block wr.heap.size (Array.getElem?_eq_some_iff.1 htya.out).1).trans htya.out
                have hBvyb := hBya.trans (hpyb.mono hBya.size)
                go_wp2_with fail
                refine (writeString_any w2.heap.size w2.heap.size _ _ vyb hblyb (by have := wordOf_len x0; have := numW_len x1 (by omega) (by omega); simp only [List.length_append, List.length_cons, List.length_nil]; omega) hBvyb.size).mono ?_
                rintro e yb ⟨rfl, hbyb, hwyb, hkyb⟩
                have hgyb := others_cells hkyb hgvyb (by omega) (by decide)
                have htyb := others_cells hkyb htvyb (by omega) (by decide)
                have hByb := hBvyb.trans hwyb
                rw [words_one] at hbyb
                go_wp2_with fail
                go_roundw
                case rel =>
                  refine ⟨k + 1, by omega, by go_num, ?_, hByb⟩
                  rw [hnext.out, hfin.out]
                  simpa using hbyb
                case measure => simp [intOf]; omega
              · rcases htm with htm | htm
                · have hfin := Lib.hid (hfin.out _ _ hsl htm)
                  rw [hsl] at cb1 hg3b
                  rw [htm] at hg3b
                  have cb2 : wb.cell? ⟨g, 2, none⟩ = some (.bool true) := by rw [Lib.cell_of_heap hg3b]; rfl
                  clear hsl htm himp
                  replace hg3b := Lib.hid hg3b
                  replace htb := Lib.hid htb
                  have cyb1 : wb.cell? ⟨wr.heap.size, 2, none⟩ = some (.int .i64 x2) := by rw [Lib.cell_of_heap htb.out]; rfl
                  go_wp2_with fail
                  refine (words_any ⟨#[]⟩ wb.heap.size 0 1 [x2] (by decide) (by simp) (by intro n hn; simp at hn; subst hn; omega) _ ((hE2.below hB1).below ((Below.refl _ _).alloc (Nat.le_refl _) _)) (ints_one _ _)).mono ?_
                  rintro e vyb ⟨rfl, hvyb⟩
                  have hpyb : Below wb.heap.size wb vyb := ((Below.refl _ wb).alloc (Nat.le_refl _) _).trans (hvyb.mono (by simp))
                  have hblyb := hbb.below hpyb
                  have hstyb : (wordsB ⟨#[]⟩ [x2]).size ≤ 11 := words_one_size x2 (by omega) (by omega)
                  have hgvyb := (hpyb.block g (Array.getElem?_eq_some_iff.1 hg3b.out).1).trans hg3b.out
                  have htvyb := (hpyb.block wr.heap.size (Array.getElem?_eq_some_iff.1 htb.out).1).trans htb.out
                  have hBvyb := hB1.trans (hpyb.mono hB1.size)
                  go_wp2_with fail
                  refine (writeString_any w2.heap.size w2.heap.size _ _ vyb hblyb (by have := wordOf_len x0; have := numW_len x1 (by omega) (by omega); simp only [List.length_append, List.length_cons, List.length_nil]; omega) hBvyb.size).mono ?_
                  rintro e yb ⟨rfl, hbyb, hwyb, hkyb⟩
                  have hgyb := others_cells hkyb hgvyb (by omega) (by decide)
                  have htyb := others_cells hkyb htvyb (by omega) (by decide)
                  have hByb := hBvyb.trans hwyb
                  rw [words_one] at hbyb
                  go_wp2_with fail
                  go_roundw
                  case rel =>
                    refine ⟨k + 1, by omega, by go_num, ?_, hByb⟩
                    rw [hnext.out, hfin.out]
                    simpa using hbyb
                  case measure => simp [intOf]; omega
                · have hfin := Lib.hid (hfin.out _ _ hsl htm)
                  rw [hsl] at cb1 hg3b
                  rw [htm] at hg3b
                  have cb2 : wb.cell? ⟨g, 2, none⟩ = some (.bool false) := by rw [Lib.cell_of_heap hg3b]; rfl
                  clear hsl htm himp
                  replace hg3b := Lib.hid hg3b
                  replace htb := Lib.hid htb
                  go_wp2_with fail
                  go_roundw
                  case rel =>
                    refine ⟨k + 1, by omega, by go_num, ?_, hB1⟩
                    rw [hnext.out, hfin.out]
                    simpa using hbb
                  case measure => simp [intOf]; omega
          · go_wp2_with fail
            refine (writeByte_any w2.heap.size w2.heap.size _ 10 (by decide) (by decide) wr hbld (by omega) hbw.size).mono ?_
            rintro e wa ⟨rfl, hba, hwa, _⟩
            go_wp2_with fail
            refine (string_any w2.heap.size w2.heap.size _ wa hba (hbw.trans hwa).size).mono ?_
            rintro e wb ⟨rfl, hwb⟩
            go_wp2_with fail
            go_ret2
            obtain rfl : k = ts.length := by omega
            refine ⟨?_, hb23.trans (((hbw.trans hwa).trans hwb).mono hb23.size)⟩
            rw [List.take_length] 
            rw [show textL c a q tw m.data.toList ts = L2 ++ ts.flatMap turnL ++ [10] by unfold textL; rw [hL1.out, hL2.out]]
            rw [List.append_assoc]
            rfl
end Go.Proofs.YtiojkmknikfhoaaGreatDoor
