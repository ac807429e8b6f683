/- Walks over package script: config; the search for a turn that may not be. -/
import Derived.Test.YtiojkmknikfhoaaGreatDoorD
namespace Go.Proofs.YtiojkmknikfhoaaGreatDoor
set_option linter.unusedVariables false
set_option linter.unusedSimpArgs false
open Go.RowKit

def cfgB (c a q : Int) : Bool := decide (0 < c ∧ c ≤ 64 ∧ 0 < a ∧ a ≤ 32 ∧ 0 < q ∧ q ≤ 16)
set_option maxRecDepth 100000 in
set_option maxHeartbeats 1000000 in
theorem config_any (c a q : Int) (w : World) :
    Calls Tryz.prog 27 #[.agg #[.int .i64 c, .int .i64 a, .int .i64 q]] w fun e w' => e = .returned (.bool (cfgB c a q)) ∧ Below w.heap.size w w' := by
  have hB : Below w.heap.size w (w.alloc (.cells #[.int .i64 c, .int .i64 a, .int .i64 q] 33)) := (Below.refl _ _).alloc (Nat.le_refl _) _
  go_enter Tryz.func27, Tryz.ntmps27
  go_wp2
  all_goals (go_ret; refine ⟨ret_bool ?_, hB⟩)
  all_goals first | (simp [cfgB, *]; done) | (simp [cfgB]; omega)

def Trn := Int × Int × Int
def trnC (t : Int × Int × Int) : List Value := [.int .i64 t.1, .int .i64 t.2.1, .int .i64 t.2.2]
def trnOk (t : Int × Int × Int) : Bool := turnB t.1 t.2.1 t.2.2
/-- A slice of turns that is read. -/
def Turns (w : World) (b o : Nat) (ts : List (Int × Int × Int)) : Prop := ∀ j t, ts[j]? = some t →
  w.cell? ⟨b, o + j * 3, none⟩ = some (.int .i64 t.1) ∧ w.cell? ⟨b, o + j * 3 + 1, none⟩ = some (.int .i64 t.2.1) ∧ w.cell? ⟨b, o + j * 3 + 2, none⟩ = some (.int .i64 t.2.2)
theorem cell_below {w w' : World} {p : Addr} {v : Value} (h : w.cell? p = some v) (hb : Below w.heap.size w w') : w'.cell? p = some v := (hb.cell (World.block_lt_of_cell? w _ h)).trans h
theorem Turns.below {w w' : World} {b o : Nat} {ts : List (Int × Int × Int)} (h : Turns w b o ts) (hb : Below w.heap.size w w') : Turns w' b o ts := fun j t hj => by
  obtain ⟨h1, h2, h3⟩ := h j t hj
  exact ⟨cell_below h1 hb, cell_below h2 hb, cell_below h3 hb⟩

set_option maxHeartbeats 400000 in
theorem wrong_any (k s t : Int) (w : World) :
    Calls Tryz.prog 25 #[.agg #[.int .i64 k, .int .i64 s, .int .i64 t]] w fun e w' => e = .returned (.bool (!turnB k s t)) ∧ Below w.heap.size w w' := by
  go_enter Tryz.func25, Tryz.ntmps25
  go_wp2_with fail
  refine (turn_any k s t _).mono ?_
  rintro e w' ⟨rfl, hb⟩
  go_wp2_with fail
  go_ret
  exact ⟨rfl, (((Below.refl _ w).alloc (Nat.le_refl _) _)).trans (hb.mono (by simp))⟩

def idxBad (ts : List (Int × Int × Int)) : Int := match ts.findIdx? (fun t => !trnOk t) with | some i => i | none => -1
theorem findIdx_at {ts : List (Int × Int × Int)} {i : Nat} {x : Int × Int × Int} (hx : ts[i]? = some x) (hb : trnOk x = false) (hp : (ts.take i).all trnOk = true) : ts.findIdx? (fun t => !trnOk t) = some i := by
  rw [List.findIdx?_eq_some_iff_getElem]
  have hi : i < ts.length := (List.getElem?_eq_some_iff.1 hx).1
  refine ⟨hi, ?_, fun j hj => ?_⟩
  · rw [(List.getElem?_eq_some_iff.1 hx).2, hb]; rfl
  · have hm : ts[j] ∈ ts.take i := by
      refine List.mem_iff_getElem.2 ⟨j, by rw [List.length_take]; omega, ?_⟩
      rw [List.getElem_take]
    rw [List.all_eq_true.1 hp _ hm]; simp
theorem idxBad_none {ts : List (Int × Int × Int)} (h : ts.all trnOk = true) : idxBad ts = -1 := by
  unfold idxBad
  rw [List.findIdx?_eq_none_iff.2 (fun x hx => by rw [List.all_eq_true.1 h x hx]; rfl)]
theorem idxBad_sign (ts : List (Int × Int × Int)) : decide (0 ≤ idxBad ts) = !ts.all trnOk := by
  unfold idxBad
  cases h : ts.findIdx? (fun t => !trnOk t) with
  | none =>
    have : ts.all trnOk = true := List.all_eq_true.2 fun x hx => by have := List.findIdx?_eq_none_iff.1 h x hx; simpa using this
    rw [this]; rfl
  | some i =>
    obtain ⟨hi, h1, _⟩ := List.findIdx?_eq_some_iff_getElem.1 h
    have : ts.all trnOk = false := by
      cases ha : ts.all trnOk with
      | false => rfl
      | true => rw [List.all_eq_true.1 ha _ (List.getElem_mem hi)] at h1; cases h1
    rw [this]; simp
set_option maxRecDepth 100000 in
set_option maxHeartbeats 1000000 in
theorem indexFunc_any (A : Option Addr) (b o cap : Nat) (ts : List (Int × Int × Int)) (hA : ts ≠ [] → A = some ⟨b, o, none⟩) (hl : ts.length ≤ 1000000) (w : World) (hT : Turns w b o ts) :
    Calls Tryz.prog 50 #[.slice A ts.length cap, .func (.func 25) #[] #[]] w fun e w' => e = .returned (.int .i64 (idxBad ts)) ∧ Below w.heap.size w w' := by
  have hA := Lib.hid hA
  go_enter Tryz.func50, Tryz.ntmps50
  go_wp2_with fail
  go_loopw [5, 8] (fun _ i wr => ∃ k : Nat, k ≤ ts.length ∧ i = .int .i64 k ∧ Below w.heap.size w wr ∧ (ts.take k).all trnOk = true)
    (fun _ i _ => ts.length - (intOf i).toNat)
  case atStart => exact ⟨0, Nat.zero_le _, rfl, Below.refl _ _, rfl⟩
  case round =>
    obtain ⟨k, hk, rfl, hbw, hall0⟩ := hrel
    have hall := Lib.hid hall0; clear hall0
    by_cases hlt : k < ts.length
    · obtain ⟨x, hx0⟩ : ∃ x, ts[k]? = some x := ⟨ts[k], List.getElem?_eq_getElem hlt⟩
      obtain ⟨c0, c1, c2⟩ := hT.below hbw k x hx0
      obtain ⟨x0, x1, x2⟩ := x
      obtain rfl := hA.out (fun e => by rw [e] at hlt; simp at hlt)
      have hx := Lib.hid hx0; clear hx0
      simp only at c0 c1 c2
      go_wp2_with fail
      refine (wrong_any x0 x1 x2 _).mono ?_
      rintro e w2 ⟨rfl, hb2⟩
      have hb3 := hbw.trans (hb2.mono hbw.size)
      cases hq0 : turnB x0 x1 x2 with
      | true =>
        have hq := Lib.hid hq0; clear hq0
        go_wp2_with fail
        go_roundw
        case rel => exact ⟨k + 1, by omega, by go_num, hb3, by rw [take_snoc hx.out, List.all_append, hall.out]; simp only [List.all_cons, List.all_nil, trnOk, hq.out, Bool.and_true]⟩
        case measure => simp [intOf]; omega
      | false =>
        have hq := Lib.hid hq0; clear hq0
        go_wp2_with fail
        go_ret
        refine ⟨?_, hb3⟩
        have : idxBad ts = (k : Int) := by
          unfold idxBad
          rw [findIdx_at (i := k) hx.out (by simp only [trnOk, hq.out]) hall.out]
        rw [this]; rfl
    · go_wp2_with fail
      go_ret
      obtain rfl : k = ts.length := by omega
      have hall := hall.out
      rw [List.take_length] at hall
      refine ⟨?_, hbw⟩
      rw [show idxBad ts = -1 from idxBad_none hall]; rfl
set_option maxHeartbeats 400000 in
theorem containsFunc_any (A : Option Addr) (b o cap : Nat) (ts : List (Int × Int × Int)) (hA : ts ≠ [] → A = some ⟨b, o, none⟩) (hl : ts.length ≤ 1000000) (w : World) (hT : Turns w b o ts) :
    Calls Tryz.prog 28 #[.slice A ts.length cap, .func (.func 25) #[] #[]] w fun e w' => e = .returned (.bool (!ts.all trnOk)) ∧ Below w.heap.size w w' := by
  go_enter Tryz.func28, Tryz.ntmps28
  go_wp2_with fail
  refine (indexFunc_any A b o cap ts hA hl _ hT).mono ?_
  rintro e w' ⟨rfl, hb⟩
  go_wp2_with fail
  go_ret
  exact ⟨ret_bool (idxBad_sign ts), hb⟩
end Go.Proofs.YtiojkmknikfhoaaGreatDoor
