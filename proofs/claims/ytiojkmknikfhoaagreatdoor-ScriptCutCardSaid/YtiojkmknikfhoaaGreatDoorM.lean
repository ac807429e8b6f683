/- strings.Lines: its contract. -/
import Derived.Test.YtiojkmknikfhoaaGreatDoorL
import Derived.Test.YtiojkmknikfhoaaGreatDoorLin
namespace Go.Proofs.YtiojkmknikfhoaaGreatDoor
set_option linter.unusedVariables false
set_option linter.unusedSimpArgs false
open Go.RowKit Go.Shelf
attribute [local go_sem] Oper.semAt_some

def boxLen (B : Nat) (w : World) : Nat := match w.heap[B]? with | some (.cells #[.string r] _ _) => r.size | _ => 0
theorem boxLen_at {B : Nat} {w : World} {r : ByteArray} {T : TypeId} {f : Nat × Nat} (h : w.heap[B]? = some (.cells #[.string r] T f)) : boxLen B w = r.size := by unfold boxLen; rw [h]; rfl
set_option maxHeartbeats 1000000 in
theorem lines_make (n : Nat) (s : ByteArray) (w : World) :
    CallsIn Fence.wide n Tryz.prog 35 #[.string s] w fun e w' => e = .returned (.func (.func 55) #[] #[.pointer (some ⟨w.heap.size, 0, none⟩)]) ∧ w' = w.alloc (.cells #[.string s] 9) := by
  refine callsIn_of_wp Tryz.func35 rfl trivial ?_ rfl
  simp only [Tryz.ntmps35, List.size_toArray, List.length_cons, List.length_nil, Nat.reduceAdd, Nat.reduceSub, Array.replicate_succ, Array.replicate_zero, List.push_toArray, List.append_toArray, List.nil_append, List.cons_append]
  gi_wp2
  go_ret
  exact ⟨rfl, rfl⟩

set_option maxRecDepth 100000 in
set_option maxHeartbeats 1000000 in
theorem lines_seq (n : Nat) (hn : 2 ≤ n) (B : Nat) (s : ByteArray) (hs : s.size ≤ 1000000) (w : World)
    (hB : w.heap[B]? = some (.cells #[.string s] 9 (0, 0))) :
    SeqBox Fence.wide n Tryz.prog 55 #[.pointer (some ⟨B, 0, none⟩)] (fun x : ByteArray => #[Value.string x]) B (linesB s) w := by
  intro l J Jx W hBW hsz hJ hJx hY h0
  refine callsIn_of_wp Tryz.func55 rfl trivial ?_ rfl
  simp only [Tryz.ntmps55, List.size_toArray, List.length_cons, List.length_nil, Nat.reduceAdd, Nat.reduceSub, Array.replicate_succ, Array.replicate_zero, List.push_toArray, List.append_toArray, List.nil_append, List.cons_append]
  replace hB := hBW.trans hB
  clear hBW hsz
  gi_wp2
  gi_loopw [3] (fun p wr => ∃ (pre : List ByteArray) (rest : ByteArray), linesB s = pre ++ linesB rest ∧ rest.size ≤ s.size ∧ wr.heap[B]? = some (.cells #[.string rest] 9 (0, 0)) ∧ J pre wr)
    (fun _ wr => boxLen B wr)
  case atStart => exact ⟨[], s, rfl, Nat.le_refl _, hB, h0⟩
  case round =>
    obtain ⟨pre, rest, hx, hle, hb, hJs⟩ := hrel
    have hc : wr.cell? ⟨B, 0, none⟩ = some (.string rest) := by rw [Lib.cell_of_heap hb]; rfl
    have hf : wr.frozen? ⟨B, 0, none⟩ = false := Lib.frozen_of_heap hb 0
    replace hx := Lib.hid hx
    replace hb := Lib.hid hb
    by_cases h0' : rest.size = 0
    · have hz : (rest.size : Int) = 0 := by omega
      gi_wp2
      go_end0
      exact ⟨⟨_, rfl⟩, .inl (by rw [hx.out, linesB_nil h0', List.append_nil]; exact hJs)⟩
    · have hz : 0 < (rest.size : Int) := by omega
      obtain ⟨i, hi⟩ : ∃ i, Lib.indexByte rest.data.toList 10 = i := ⟨_, rfl⟩
      have hcall : ∀ w, Calls Tryz.prog 56 #[.string rest, .int .u8 10] w fun e w' => e = .returned (.int .i64 i) ∧ w' = w := fun w => by
        have := Tryz.strings_IndexByte rest 10 w
        rw [show ((10 : Int).toNat.toUInt8) = 10 from rfl, hi] at this
        exact this
      have hge := Lib.indexByte_ge rest.data.toList 10
      rw [hi] at hge
      replace hi := Lib.hid hi
      replace hcall := Lib.hid hcall
      by_cases hneg : i < 0
      · obtain rfl : i = -1 := by omega
        clear hneg hge
        have hln := linesB_none hi.out h0'
        replace hln := Lib.hid hln
        have hJ1 := hJ _ _ (wr.setCell ⟨B, 0, none⟩ (.string ⟨#[]⟩)) hJs (grown_setCell (grown_refl wr _) _)
        obtain ⟨fn, tmps, assign, body, hy, hR⟩ := hY pre rest _ hJ1 (by rw [hx.out, hln.out]; exact List.prefix_rfl)
        have hbl : (wr.setCell ⟨B, 0, none⟩ (.string ⟨#[]⟩)).heap[B]? = some (.cells #[.string ⟨#[]⟩] 9 (0, 0)) := heap_setCell_same hb.out _
        replace hbl := Lib.hid hbl
        gi_wp2_with (refine ⟨trivial, fun h => (by cases h), ?_⟩; gi_at_call 56; refine (callsIn_wide.2 (hcall.out _)).mono ?_; rintro e w' ⟨rfl, rfl⟩)
        refine ⟨fun h => (by cases h), hR.mono ?_⟩
        rintro e W3 (⟨rfl, hJ3, hsz3, hB3⟩ | ⟨rfl, hJx3⟩)
        · have hb3 := hB3.trans hbl.out
          replace hb3 := Lib.hid hb3
          gi_wp2
          go_roundw
          case rel => exact ⟨pre ++ [rest], ⟨#[]⟩, by rw [hx.out, hln.out, linesB_nil (s := ⟨#[]⟩) rfl, List.append_nil], Nat.zero_le _, hb3.out, hJ3⟩
          case measure => rw [boxLen_at hb3.out, boxLen_at hb.out]; show 0 < rest.size; omega
        · gi_wp2
          refine bodyPost_ret (results_none rfl _ _ _) rfl ?_
          exact ⟨⟨_, rfl⟩, .inr ⟨_, hJx3⟩⟩
      · obtain ⟨o, rfl⟩ : ∃ o : Nat, i = o := ⟨i.toNat, by omega⟩
        have hol : o < rest.size := by have := indexByte_lt hi.out; simpa using this
        have hlh := linesB_hit hi.out
        replace hlh := Lib.hid hlh
        gi_wp2_with (refine ⟨trivial, fun h => (by cases h), ?_⟩; gi_at_call 56; refine (callsIn_wide.2 (hcall.out _)).mono ?_; rintro e w' ⟨rfl, rfl⟩)
        gi_region
        have hJ1 := hJ _ _ ((w'.setCell ⟨B, 0, none⟩ (.string (rest.extract (o + 1) rest.size))).drew) hJs (grown_drew (grown_setCell (grown_refl w' _) _))
        obtain ⟨fn, tmps, assign, body, hy, hR⟩ := hY pre (rest.extract 0 (o + 1)) _ hJ1 (by rw [hx.out, hlh.out]; exact ⟨linesB (rest.extract (o + 1) rest.size), by simp⟩)
        have hbl : ((w'.setCell ⟨B, 0, none⟩ (.string (rest.extract (o + 1) rest.size))).drew).heap[B]? = some (.cells #[.string (rest.extract (o + 1) rest.size)] 9 (0, 0)) := heap_setCell_same hb.out _
        replace hbl := Lib.hid hbl
        gi_wp2
        refine ⟨fun h => (by cases h), hR.mono ?_⟩
        rintro e W3 (⟨rfl, hJ3, hsz3, hB3⟩ | ⟨rfl, hJx3⟩)
        · have hb3 := hB3.trans hbl.out
          replace hb3 := Lib.hid hb3
          have hsr : (rest.extract (o + 1) rest.size).size = rest.size - (o + 1) := by simp [ByteArray.size_extract]
          replace hsr := Lib.hid hsr
          gi_wp2
          go_roundw
          case rel => exact ⟨pre ++ [rest.extract 0 (o + 1)], rest.extract (o + 1) rest.size, by rw [hx.out, hlh.out]; simp, by rw [hsr.out]; omega, hb3.out, hJ3⟩
          case measure => rw [boxLen_at hb3.out, boxLen_at hb.out, hsr.out]; omega
        · gi_wp2
          refine bodyPost_ret (results_none rfl _ _ _) rfl ?_
          exact ⟨⟨_, rfl⟩, .inr ⟨_, hJx3⟩⟩
end Go.Proofs.YtiojkmknikfhoaaGreatDoor
