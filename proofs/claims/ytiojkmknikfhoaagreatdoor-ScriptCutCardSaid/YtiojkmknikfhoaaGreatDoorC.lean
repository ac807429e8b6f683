/- Walks over package script: numbers. -/
import Derived.Test.YtiojkmknikfhoaaGreatDoorB
namespace Go.Proofs.YtiojkmknikfhoaaGreatDoor
set_option linter.unusedVariables false
set_option linter.unusedSimpArgs false
open Go.RowKit

def Strs (w : World) (b o : Nat) (ws : List ByteArray) : Prop := ∀ j x, ws[j]? = some x → w.cell? ⟨b, o + j, none⟩ = some (.string x)
theorem Strs.below {w w' : World} {b o : Nat} {ws : List ByteArray} (h : Strs w b o ws) (hb : Below w.heap.size w w') : Strs w' b o ws := fun j x hj => by
  have := h j x hj
  exact (hb.cell (p := ⟨b, o + j, none⟩) (World.block_lt_of_cell? w _ this)).trans this
def isN (s : ByteArray) : Bool := Num.isNum s.data.toList
def valN (s : ByteArray) : Int := (Num.dval 0 s.data.toList : Nat)
def NumsPost (ws : List ByteArray) (w : World) (e : Ending) (w' : World) : Prop :=
  (ws.all isN = true ∧ ∃ v, e = .returned (.tuple #[v, .bool true]) ∧ w'.ownsRow w.heap.size 3 1 v ws.length ((ws.map valN).map (Value.int .i64)) ∧ Below w.heap.size w w') ∨
  (ws.all isN = false ∧ e = .returned (.tuple #[.slice none 0 0, .bool false]) ∧ Below w.heap.size w w')
theorem info3 : (Tryz.prog.info? 3).map (fun i => (i.zero, i.size, i.bytes)) = some (some (.int .i64 0), 1, 8) := by kernel_rfl

theorem all_false_of {ws : List ByteArray} {k : Nat} {x : ByteArray} (hk : ws[k]? = some x) (h : isN x = false) : ws.all isN = false := by
  cases hall : ws.all isN with
  | false => rfl
  | true => rw [List.all_eq_true.1 hall _ (List.mem_of_getElem? hk)] at h; cases h
theorem take_snoc {α : Type} {ws : List α} {k : Nat} {x : α} (hk : ws[k]? = some x) : ws.take (k + 1) = ws.take k ++ [x] := by
  rw [List.take_add_one, hk]; rfl
theorem take_succ_all {ws : List ByteArray} {k : Nat} {x : ByteArray} (hk : ws[k]? = some x) (h : isN x = true) (hp : (ws.take k).all isN = true) : (ws.take (k + 1)).all isN = true := by
  rw [take_snoc hk, List.all_append, hp]; simp [h]
theorem take_succ_vals {ws : List ByteArray} {k : Nat} {x : ByteArray} (hk : ws[k]? = some x) : ((ws.take (k + 1)).map valN).map (Value.int .i64) = ((ws.take k).map valN).map (Value.int .i64) ++ [.int .i64 (valN x)] := by
  rw [take_snoc hk]; simp only [List.map_append, List.map_cons, List.map_nil]
theorem own_below {w w1 : World} {base : Nat} {e : TypeId} {size n : Nat} {v : Value} {xs : List Value} (h : w.ownsRow base e size v n xs) (hb : Below w.heap.size w w1) : w1.ownsRow base e size v n xs :=
  h.kept (row := none) ⟨hb.os, hb.tape, hb.output, hb.size, fun i hi _ => hb.block i hi⟩ (by cases v.ownBlock <;> simp)

set_option maxHeartbeats 1000000 in
theorem numbers_any (b o cap : Nat) (ws : List ByteArray) (hb47 : ws.length ≤ 1000000) (hsz : ∀ s ∈ ws, s.size ≤ 281474976710656) (w : World) (hE : Env w) (hS : Strs w b o ws) :
    Calls Tryz.prog 53 #[.slice (some ⟨b, o, none⟩) ws.length cap] w (NumsPost ws w) := by
  obtain ⟨i0, hi, hz0, hz1, hz2⟩ := info_parts info3
  go_enter Tryz.func53, Tryz.ntmps53
  go_wp2_with fail
  go_loopw [4, 11] (fun v i wr => ∃ k : Nat, k ≤ ws.length ∧ i = .int .i64 k ∧ wr.ownsRow w.heap.size 3 1 v k (((ws.take k).map valN).map (Value.int .i64)) ∧ Below w.heap.size w wr ∧ (ws.take k).all isN = true)
    (fun _ i _ => ws.length - (intOf i).toNat)
  case atStart => exact ⟨0, Nat.zero_le _, rfl, World.ownsRow_nil _ _ _ _, Below.refl _ _, rfl⟩
  case round =>
    obtain ⟨k, hk, rfl, hown, hbw, hall0⟩ := hrel
    have hall := Lib.hid hall0; clear hall0
    by_cases hlt : k < ws.length
    · have hEr := hE.below hbw
      obtain ⟨x, hx0⟩ : ∃ x, ws[k]? = some x := ⟨ws[k], List.getElem?_eq_getElem hlt⟩
      have hc := hS.below hbw k x hx0
      have hx := Lib.hid hx0; clear hx0
      go_wp2_with fail
      refine (number_any x (hsz _ (List.mem_of_getElem? hx.out)) _ hEr).mono ?_
      rintro e w2 ⟨n, rfl, hn, hb2⟩
      cases hq0 : Num.isNum x.data.toList with
      | false =>
        have hq := Lib.hid hq0; clear hq0 hn
        go_wp2_with fail
        go_ret2
        exact .inr ⟨all_false_of hx.out hq.out, rfl, hbw.trans (hb2.mono hbw.size)⟩
      | true =>
        obtain ⟨m, hm⟩ : ∃ m : Int, (Num.dval 0 x.data.toList : Nat) = m := ⟨_, rfl⟩
        obtain rfl : n = m := (hn hq0).trans hm
        have hm := Lib.hid hm
        have hown2 := own_below hown hb2
        have hq := Lib.hid hq0; clear hq0 hn
        have hb3 := hbw.trans (hb2.mono hbw.size)
        go_wp2_with (at_builtin; refine wpList_append_own _ rfl _ _ 109 rfl w.heap.size 3 i0 (.int .i64 0) 1 8 Tryz.underlying109 hi hz0 hz1 hz2 rfl (by decide) _ _ _ rfl (hown2.alloc _) ⟨w2.heap.size, 0, none⟩ 1 1 [.int .i64 n] rfl rfl ?c1 ?c2 ?c3 ?c4 ?c5 ?_)
        case c1 => exact cell_one_new _ _ _
        case c2 => intro u hu; simp at hu; subst hu; rfl
        case c3 => unfold maxLen; omega
        case c4 => omega
        case c5 => have := hb3.size; simp; omega
        intro v' w3 hown' hgrow _
        go_wp2_with fail
        go_roundw
        case rel =>
          refine ⟨k + 1, by omega, by go_num, ?_, ?_, take_succ_all hx.out hq.out hall.out⟩
          · rw [take_succ_vals hx.out, show valN x = n from hm.out]; simpa only [List.map_map, List.map_take] using hown'
          · exact (hb3.alloc hb3.size _).grown hgrow (by have := hb3.size; simp; omega) (fun g hg => (hown2.lt g hg).1)
        case measure => simp [intOf]; omega
    · go_wp2_with fail
      go_ret2
      obtain rfl : k = ws.length := by omega
      rw [List.take_length] at hown
      have hall := hall.out
      rw [List.take_length] at hall
      exact .inl ⟨hall, _, rfl, hown, hbw⟩
end Go.Proofs.YtiojkmknikfhoaaGreatDoor
