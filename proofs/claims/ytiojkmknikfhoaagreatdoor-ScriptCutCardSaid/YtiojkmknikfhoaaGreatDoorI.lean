/- Walks over package script: the reader's first line. -/
import Derived.Test.YtiojkmknikfhoaaGreatDoorH
import Derived.BigRegion
import Derived.Laws.EntriesVeiled
namespace Go.Proofs.YtiojkmknikfhoaaGreatDoor
set_option linter.unusedVariables false
set_option linter.unusedSimpArgs false
open Go.RowKit

/-- A reader, in a block of its own. -/
def Rd (w : World) (rb : Nat) (c a q : Int) (tw : Bool) (m : ByteArray) (v fn : Value) : Prop :=
  w.heap[rb]? = some (.cells #[.int .i64 c, .int .i64 a, .int .i64 q, .bool tw, .string m, v, fn] 84 (0, 0))
theorem Rd.cell {w : World} {rb : Nat} {c a q : Int} {tw : Bool} {m : ByteArray} {v fn : Value} (h : Rd w rb c a q tw m v fn) (j : Nat) : w.cell? ⟨rb, j, none⟩ = #[.int .i64 c, .int .i64 a, .int .i64 q, .bool tw, .string m, v, fn][j]? := Lib.cell_of_heap h j
theorem Rd.frozen {w : World} {rb : Nat} {c a q : Int} {tw : Bool} {m : ByteArray} {v fn : Value} (h : Rd w rb c a q tw m v fn) (j : Nat) : w.frozen? ⟨rb, j, none⟩ = false := Lib.frozen_of_heap h j
theorem Rd.lt {w : World} {rb : Nat} {c a q : Int} {tw : Bool} {m : ByteArray} {v fn : Value} (h : Rd w rb c a q tw m v fn) : rb < w.heap.size := (Array.getElem?_eq_some_iff.1 h).1
theorem Rd.below {w w' : World} {rb : Nat} {c a q : Int} {tw : Bool} {m : ByteArray} {v fn : Value} (h : Rd w rb c a q tw m v fn) (hb : Below w.heap.size w w') : Rd w' rb c a q tw m v fn := (hb.block rb h.lt).trans h
theorem heap_setCell_same {w : World} {b j : Nat} {cs : Array Value} {T : TypeId} {fz : Nat × Nat} (h : w.heap[b]? = some (.cells cs T fz)) (v : Value) : (w.setCell ⟨b, j, none⟩ v).heap[b]? = some (.cells (cs.setIfInBounds j v) T fz) := by
  simp [World.setCell, Array.getElem?_modify, h]
theorem grown_refl (w : World) (r : Option Nat) : w.grownBy w r := ⟨rfl, rfl, rfl, Nat.le_refl _, fun _ _ _ => rfl⟩
theorem grown_of_below {w w' : World} (h : Below w.heap.size w w') (r : Option Nat) : w.grownBy w' r := ⟨h.os, h.tape, h.output, h.size, fun k hk _ => h.block k hk⟩
theorem grown_trans {w w1 w2 : World} {r : Option Nat} (h : w.grownBy w1 r) (k : w1.grownBy w2 r) : w.grownBy w2 r :=
  ⟨k.os.trans h.os, k.tape.trans h.tape, k.output.trans h.output, Nat.le_trans h.size k.size, fun i hi hr => (k.block i (Nat.lt_of_lt_of_le hi h.size) hr).trans (h.block i hi hr)⟩
theorem grown_setCell {w w1 : World} {b j : Nat} (h : w.grownBy w1 (some b)) (v : Value) : w.grownBy (w1.setCell ⟨b, j, none⟩ v) (some b) :=
  grown_trans h ⟨rfl, rfl, rfl, by simp [World.setCell], fun i _ hr => Below.heap_setCell _ _ _ _ (fun e => hr (by rw [e]))⟩
theorem grown_drew {w w1 : World} {r : Option Nat} (h : w.grownBy w1 r) : w.grownBy w1.drew r := ⟨h.os, h.tape, h.output, h.size, h.block⟩

def twinW : List UInt8 := [116, 119, 105, 110]
def isTwin (ws : List ByteArray) : Bool := match ws[4]? with | some x => ws.length == 5 && x.toList == twinW | none => false
def bodyW (ws : List ByteArray) : List ByteArray := if isTwin ws then ws.take 4 else ws

theorem five {ws : List ByteArray} (h : ws.length = 5) : ∃ a b c d e, ws = [a, b, c, d, e] := by
  match ws, h with
  | [a, b, c, d, e], _ => exact ⟨a, b, c, d, e, rfl⟩
theorem four {ws : List ByteArray} (h : ws.length = 4) : ∃ a b c d, ws = [a, b, c, d] := by
  match ws, h with
  | [a, b, c, d], _ => exact ⟨a, b, c, d, rfl⟩
theorem Strs.take {w : World} {b o : Nat} {ws : List ByteArray} (h : Strs w b o ws) (k : Nat) : Strs w b o (ws.take k) := fun j x hj => h j x (by rw [List.getElem?_take] at hj; split at hj <;> simp_all)
theorem Strs.drop {w : World} {b o : Nat} {ws : List ByteArray} (h : Strs w b o ws) (k : Nat) : Strs w b (o + k) (ws.drop k) := fun j x hj => by
  rw [List.getElem?_drop] at hj
  have := h (k + j) x hj
  rwa [show o + k + j = o + (k + j) by omega]
theorem Strs.grown {w w' : World} {b o rb : Nat} {ws : List ByteArray} (h : Strs w b o ws) (hg : w.grownBy w' (some rb)) (hne : b ≠ rb) : Strs w' b o ws := fun j x hj => by
  have hc := h j x hj
  have hlt := World.block_lt_of_cell? w _ hc
  rw [← hc]
  simp only [World.cell?]
  rw [hg.block b hlt (fun e => hne (Option.some.inj e))]

def machineW : List UInt8 := [109, 97, 99, 104, 105, 110, 101]
def machNums (ws : List ByteArray) : List Int := ((bodyW ws).drop 1).map valN
def machForm (ws : List ByteArray) : Bool := ((bodyW ws).drop 1).all isN && (bodyW ws).length == 4 && (match ws[0]? with | some x => x.toList == machineW | none => false)
def machE (ws : List ByteArray) : Int := if machForm ws then (match machNums ws with | [c, a, q] => if cfgB c a q then 0 else 2 | _ => 5) else 5
def nextBytes (rb : Nat) : Value := .func (.func 54) #[.pointer (some ⟨rb, 0, none⟩)] #[]
def MachPost (ws : List ByteArray) (rb : Nat) (v : Value) (w : World) (e : Ending) (w' : World) : Prop :=
  w.grownBy w' (some rb) ∧ e = .returned (.int .i64 (machE ws)) ∧ (machE ws = 0 → ∃ c a q, machNums ws = [c, a, q] ∧ Rd w' rb c a q (isTwin ws) ⟨#[]⟩ v (nextBytes rb))
theorem own_slice {w : World} {base n : Nat} {e : TypeId} {size : Nat} {v : Value} {xs : List Value} (h : w.ownsRow base e size v n xs) : ∃ A c, v = .slice A n c := by
  rcases h.2 with ⟨rfl, rfl⟩ | ⟨g, cap, cur, rfl, _⟩
  · exact ⟨none, 0, rfl⟩
  · exact ⟨_, _, rfl⟩
theorem bodyW_len (ws : List ByteArray) (h : 1 ≤ ws.length) : 1 ≤ (bodyW ws).length ∧ (bodyW ws).length ≤ ws.length := by
  unfold bodyW
  split
  · rw [List.length_take]; omega
  · omega
theorem bodyW_mem {ws : List ByteArray} {s : ByteArray} (h : s ∈ (bodyW ws).drop 1) : s ∈ ws := by
  have := List.mem_of_mem_drop h
  unfold bodyW at this
  split at this
  · exact List.mem_of_mem_take this
  · exact this
theorem Strs.body {w : World} {b o : Nat} {ws : List ByteArray} (h : Strs w b o ws) : Strs w b o (bodyW ws) := by
  unfold bodyW
  split
  · exact h.take 4
  · exact h
theorem twin_len {ws : List ByteArray} (ht : isTwin ws = true) : ws.length = 5 := by
  unfold isTwin at ht
  split at ht
  · simp at ht; exact ht.1
  · cases ht
theorem bodyW_false {ws : List ByteArray} (h : isTwin ws = false) : bodyW ws = ws := by unfold bodyW; rw [h]; rfl
theorem bodyW_true {ws : List ByteArray} (h : isTwin ws = true) : (bodyW ws).length = 4 := by
  have := twin_len h
  unfold bodyW; rw [if_pos h, List.length_take]; omega

set_option maxRecDepth 100000 in
set_option maxHeartbeats 1000000 in
theorem machine_any (rb wb cap : Nat) (ws : List ByteArray) (v fn : Value) (hn : 1 ≤ ws.length) (hl : ws.length ≤ 1000000) (hcap : ws.length ≤ cap) (hsz : ∀ s ∈ ws, s.size ≤ 281474976710656) (w : World) (hE : Env w) (hS : Strs w wb 0 ws)
    (hR : Rd w rb 0 0 0 false ⟨#[]⟩ v fn) (hwb : wb ≠ rb) (hrb : 9 ≤ rb) :
    Calls Tryz.prog 34 #[.pointer (some ⟨rb, 0, none⟩), .slice (some ⟨wb, 0, none⟩) ws.length cap] w (MachPost ws rb v w) := by
  have r3 := hR.frozen 3
  have r3c := hR.cell 3
  simp only [List.getElem?_toArray, List.getElem?_cons_succ, List.getElem?_cons_zero] at r3c
  replace hR := Lib.hid hR
  obtain ⟨bw, hbw⟩ : ∃ bw, bodyW ws = bw := ⟨_, rfl⟩
  replace hbw := Lib.hid hbw
  obtain ⟨dw, hdw⟩ : ∃ dw, bw.drop 1 = dw := ⟨_, rfl⟩
  have hd : dw.length = bw.length - 1 := by rw [← hdw]; simp
  replace hdw := Lib.hid hdw
  replace hd := Lib.hid hd
  go_enter Tryz.func34, Tryz.ntmps34
  go_upto_region 1 with fail
  go_cut [15] (fun p wx => p = .bool (isTwin ws) ∧ w = wx)
  case first =>
    by_cases h5 : ws.length = 5
    · obtain ⟨a, b, c, d, e, rfl⟩ := five h5
      have c4 := hS 4 e rfl
      by_cases he : e.toList = twinW
      · have hq : (e.toList == [116, 119, 105, 110]) = true := by rw [he]; rfl
        go_wp2_with fail
        go_meet
        exact ⟨by simp [isTwin, he, twinW], rfl⟩
      · have hq : (e.toList == [116, 119, 105, 110]) = false := by rw [beq_eq_false_iff_ne]; exact he
        go_wp2_with fail
        go_meet
        exact ⟨by simp [isTwin, he], rfl⟩
    · have h5' : ((ws.length : Int) == 5) = false := by rw [beq_eq_false_iff_ne]; omega
      have ht : isTwin ws = false := by unfold isTwin; split <;> simp [h5]
      replace ht := Lib.hid ht
      go_wp2_with fail
      go_meet
      exact ⟨by rw [ht.out], rfl⟩
  case rest =>
    obtain ⟨rfl, rfl⟩ := hcut
    go_upto_if 15 with fail
    go_cut [1] (fun p wx => ∃ cap', p = .slice (some ⟨wb, 0, none⟩) bw.length cap' ∧ bw.length ≤ cap' ∧ Rd wx rb 0 0 0 (isTwin ws) ⟨#[]⟩ v fn ∧ w.grownBy wx (some rb))
    case first =>
      cases ht : isTwin ws with
      | false =>
        have hb : bw = ws := hbw.out.symm.trans (bodyW_false ht)
        replace hb := Lib.hid hb
        go_wp2_with fail
        go_meet
        rw [hb.out, ht]
        exact ⟨cap, rfl, hcap, hR.out, grown_refl _ _⟩
      | true =>
        have hb4 : bw.length = 4 := by rw [← hbw.out]; exact bodyW_true ht
        have h4c : 4 ≤ cap := by have := twin_len ht; omega
        replace hb4 := Lib.hid hb4
        go_wp2_with fail
        go_region
        all_goals (go_wp2_with fail; go_meet)
        rw [hb4.out, ht]
        exact ⟨cap, rfl, h4c, heap_setCell_same hR.out _, grown_drew (grown_setCell (grown_refl _ _) _)⟩
    case rest =>
      obtain ⟨w1, rfl⟩ : ∃ w1 : World, w1 = wc := ⟨_, rfl⟩
      obtain ⟨cap', rfl, hcap', hR2, hg2⟩ := hcut
      have hbn : 1 ≤ bw.length := by rw [← hbw.out]; exact (bodyW_len ws hn).1
      have hbl : bw.length ≤ 1000000 := by have := (bodyW_len ws hn).2; rw [hbw.out] at this; omega
      have hS2 : Strs w1 wb 0 bw := by rw [← hbw.out]; exact (hS.grown hg2 hwb).body
      have hszb : ∀ s ∈ dw, s.size ≤ 281474976710656 := fun s hs => hsz s (bodyW_mem (by rw [hbw.out, hdw.out]; exact hs))
      have hSd : Strs w1 wb 1 dw := by rw [← hdw.out]; exact hS2.drop 1
      have hE2 : Env w1 := hE.keep hg2.size (fun k hk => hg2.block k (Nat.lt_of_lt_of_le hk hE.big) (fun e => by injection e with e; omega))
      replace hR2 := Lib.hid hR2
      go_upto_region 3 with fail
      go_cut [5, 6] (fun p q wx => ∃ vv : Value, p = vv ∧ q = .bool (dw.all isN) ∧ ((dw.all isN = true ∧ wx.ownsRow w1.heap.size 3 1 vv (bw.length - 1) ((dw.map valN).map (Value.int .i64))) ∨ (dw.all isN = false ∧ vv = .slice none 0 0)) ∧ Below w1.heap.size w1 wx)
      case first =>
        have fin : ∀ (e : Ending) W, NumsPost dw w1 e W → ∃ vv, e = .returned (.tuple #[vv, .bool (dw.all isN)]) ∧ ((dw.all isN = true ∧ W.ownsRow w1.heap.size 3 1 vv (bw.length - 1) ((dw.map valN).map (Value.int .i64))) ∨ (dw.all isN = false ∧ vv = .slice none 0 0)) ∧ Below w1.heap.size w1 W := by
          rintro e W (⟨h1, vv, rfl, ho, hb⟩ | ⟨h1, rfl, hb⟩)
          · exact ⟨vv, by rw [h1], .inl ⟨h1, by rwa [hd.out] at ho⟩, hb⟩
          · exact ⟨_, by rw [h1], .inr ⟨h1, rfl⟩, hb⟩
        replace fin := Lib.hid fin
        by_cases h1 : cap' = 1
        · subst h1
          have hd0 : dw.length = 0 := by rw [hd.out]; omega
          have hnum := numbers_any wb 0 0 dw (by omega) hszb w1 hE2 (fun j x hj => by rw [List.getElem?_eq_none (by omega)] at hj; cases hj)
          rw [hd0] at hnum
          replace hnum := Lib.hid hnum
          replace hd0 := Lib.hid hd0
          go_wp2_with fail
          refine hnum.out.mono ?_
          intro e W hP
          obtain ⟨vv, rfl, h2, hb⟩ := fin.out e W hP
          go_wp2_with fail
          go_meet
          exact ⟨vv, rfl, rfl, h2, hb⟩
        · have hnum := numbers_any wb 1 (cap' - 1) dw (by rw [hd.out]; omega) hszb w1 hE2 hSd
          rw [hd.out] at hnum
          replace hnum := Lib.hid hnum
          go_wp2_with fail
          refine hnum.out.mono ?_
          intro e W hP
          obtain ⟨vv, rfl, h2, hb⟩ := fin.out e W hP
          go_wp2_with fail
          go_meet
          exact ⟨vv, rfl, rfl, h2, hb⟩
      case rest =>
        obtain ⟨w2, rfl⟩ : ∃ w2 : World, w2 = wc := ⟨_, rfl⟩
        obtain ⟨vv, hvv, rfl, hall, hB⟩ := hcut
        subst hvv
        have hG : w.grownBy w2 (some rb) := grown_trans hg2 (grown_of_below hB _)
        have hR3 : Rd w2 rb 0 0 0 (isTwin ws) ⟨#[]⟩ v fn := hR2.out.below hB
        have hS3 : Strs w2 wb 0 ws := hS.grown hG hwb
        have hE3 := hE2.below hB
        obtain ⟨x0, hx0⟩ : ∃ x0, ws[0]? = some x0 := ⟨ws[0], List.getElem?_eq_getElem (by omega)⟩
        have cx0 := hS3 0 x0 hx0
        rcases hall with ⟨hall, hown⟩ | ⟨hall, rfl⟩
        · replace hown := Lib.hid hown
          obtain ⟨A5, cc5, rfl⟩ := own_slice hown.out
          by_cases h4 : bw.length = 4
          · by_cases hm : x0.toList = machineW
            · have hm' : (x0.toList == [109, 97, 99, 104, 105, 110, 101]) = true := by rw [hm]; rfl
              obtain ⟨c, a, q, hnums⟩ : ∃ c a q, dw.map valN = [c, a, q] := by
                have hl3 : dw.length = 3 := by rw [hd.out, h4]
                match dw, hl3 with
                | [s1, s2, s3], _ => exact ⟨_, _, _, rfl⟩
              have hmf : machE ws = if cfgB c a q then 0 else 2 := by
                have hb4 : (bw.length == 4) = true := by rw [h4]; rfl
                unfold machE machForm machNums
                rw [hbw.out, hdw.out, hall, hx0, hnums, hb4]; simp [hm]
              have hmn : machNums ws = [c, a, q] := by unfold machNums; rw [hbw.out, hdw.out, hnums]
              have hown3 : w2.ownsRow w1.heap.size 3 1 (.slice A5 (bw.length - 1) cc5) 3 [.int .i64 c, .int .i64 a, .int .i64 q] := by have := hown.out; rw [hnums, h4] at this; rw [h4]; exact this
              have hown4 := hown3
              obtain ⟨g, rfl⟩ : ∃ g, A5 = some ⟨g, 0, none⟩ := by
                rcases hown3.2 with ⟨_, h⟩ | ⟨g, cp, cur, he, _⟩
                · cases h
                · injection he with e1 _ _; exact ⟨g, e1⟩
              have k0 : w2.cell? ⟨g, 0, none⟩ = some (.int .i64 c) := by have := hown3.cells (g := g) rfl 0 _ rfl; simpa [Addr.add] using this
              have k1 : w2.cell? ⟨g, 1, none⟩ = some (.int .i64 a) := by have := hown3.cells (g := g) rfl 1 _ rfl; simpa [Addr.add] using this
              have k2 : w2.cell? ⟨g, 2, none⟩ = some (.int .i64 q) := by have := hown3.cells (g := g) rfl 2 _ rfl; simpa [Addr.add] using this
              have n0 : ((2 : Nat) : Int) < ((bw.length - 1 : Nat) : Int) := by omega
              have f0 := hR3.frozen 0
              have f1 := hR3.frozen 1
              have f2 := hR3.frozen 2
              have d0 := hR3.cell 0
              have d1 := hR3.cell 1
              have d2 := hR3.cell 2
              simp only [List.getElem?_toArray, List.getElem?_cons_succ, List.getElem?_cons_zero] at d0 d1 d2
              replace hall := Lib.hid hall
              replace hmf := Lib.hid hmf
              replace hmn := Lib.hid hmn
              replace hm := Lib.hid hm
              replace hnums := Lib.hid hnums
              replace hx0 := Lib.hid hx0
              have h4e : bw.length - 1 = 3 := by omega
              clear n0 hown3 hown hown4
              rw [hall.out]
              rw [h4e]
              replace h4 := Lib.hid h4
              replace h4e := Lib.hid h4e
              go_wp2_with fail
              go_region
              have hR4 : Rd (((w2.setCell ⟨rb, 0, none⟩ (.int .i64 c)).setCell ⟨rb, 1, none⟩ (.int .i64 a)).setCell ⟨rb, 2, none⟩ (.int .i64 q)).drew rb c a q (isTwin ws) ⟨#[]⟩ v fn :=
                heap_setCell_same (heap_setCell_same (heap_setCell_same hR3 _) _) _
              have hG4 : w.grownBy (((w2.setCell ⟨rb, 0, none⟩ (.int .i64 c)).setCell ⟨rb, 1, none⟩ (.int .i64 a)).setCell ⟨rb, 2, none⟩ (.int .i64 q)).drew (some rb) := grown_drew (grown_setCell (grown_setCell (grown_setCell hG _) _) _)
              go_wp2_with fail
              refine (config_any c a q _).mono ?_
              rintro e w5 ⟨rfl, hb5⟩
              have hR5 := hR4.below hb5
              have hG5 := grown_trans hG4 (grown_of_below hb5 _)
              have f6 := hR5.frozen 6
              have k6 := hR5.cell 6
              simp only [List.getElem?_toArray, List.getElem?_cons_succ, List.getElem?_cons_zero] at k6
              replace hR5 := Lib.hid hR5
              clear hR4 hG4 d0 d1 d2 f0 f1 f2 k0 k1 k2 hb5
              cases hc : cfgB c a q with
              | false =>
                have hmf2 : machE ws = 2 := by rw [hmf.out, hc]; rfl
                replace hmf2 := Lib.hid hmf2
                clear hc
                go_wp2_with fail
                go_ret
                exact ⟨hG5, by rw [hmf2.out]; rfl, fun h => (by rw [hmf2.out] at h; cases h)⟩
              | true =>
                have hmf2 : machE ws = 0 := by rw [hmf.out, hc]; rfl
                replace hmf2 := Lib.hid hmf2
                clear hc
                go_wp2_with fail
                go_ret
                exact ⟨grown_setCell hG5 _, by rw [hmf2.out]; rfl, fun _ => ⟨c, a, q, hmn.out, heap_setCell_same hR5.out _⟩⟩
            · have hf : machE ws = 5 := by unfold machE machForm; rw [hbw.out, hdw.out, hall, hx0]; simp [hm]
              have hm' : (x0.toList == [109, 97, 99, 104, 105, 110, 101]) = false := by rw [beq_eq_false_iff_ne]; exact hm
              replace hf := Lib.hid hf
              replace hall := Lib.hid hall
              rw [hall.out]
              go_wp2_with fail
              go_ret
              exact ⟨hG, by rw [hf.out]; rfl, fun h => (by rw [hf.out] at h; cases h)⟩
          · have hf : machE ws = 5 := by unfold machE machForm; rw [hbw.out, hdw.out, hall]; simp [h4]
            have h4' : (((bw.length - 1 : Nat) : Int) != 3) = true := by rw [bne_iff_ne]; omega
            replace hf := Lib.hid hf
            replace hall := Lib.hid hall
            rw [hall.out]
            go_wp2_with fail
            go_ret
            exact ⟨hG, by rw [hf.out]; rfl, fun h => (by rw [hf.out] at h; cases h)⟩
        · have hf : machE ws = 5 := by unfold machE machForm; rw [hbw.out, hdw.out, hall]; rfl
          replace hf := Lib.hid hf
          replace hall := Lib.hid hall
          rw [hall.out]
          go_wp2_with fail
          go_ret
          exact ⟨hG, by rw [hf.out]; rfl, fun h => (by rw [hf.out] at h; cases h)⟩
end Go.Proofs.YtiojkmknikfhoaaGreatDoor
