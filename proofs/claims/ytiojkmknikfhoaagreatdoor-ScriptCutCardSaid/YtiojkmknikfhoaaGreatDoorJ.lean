/- Walks over package script: the reader's turn of a line. -/
import Derived.Test.YtiojkmknikfhoaaGreatDoorI
import Derived.Deep.LoopGhost
import Derived.Deep.AppendLies
import Derived.Deep.RegionHeld3
import Derived.Deep.RegionLaw
import Derived.KernelRfl
namespace Go.Proofs.YtiojkmknikfhoaaGreatDoor
set_option linter.unusedVariables false
set_option linter.unusedSimpArgs false
open Go.RowKit

def turnForm (hd : List UInt8) (vals : List Int) : Option (Int × Int × Int) :=
  if hd = wordOf 0 then (match vals with | [s, t] => some (0, s, t) | _ => none)
  else if hd = wordOf 1 then (match vals with | [t] => some (1, 0, t) | _ => none)
  else if hd = wordOf 2 then (match vals with | [] => some (2, 0, 0) | _ => none)
  else if hd = wordOf 3 then (match vals with | [] => some (3, 0, 0) | _ => none)
  else none
def turnOf (ws : List ByteArray) : Option (Int × Int × Int) :=
  if (ws.drop 1).all isN then (match ws[0]? with | some x => turnForm x.toList ((ws.drop 1).map valN) | none => none) else none
def turnE (ws : List ByteArray) (n : Nat) : Int := match turnOf ws with
  | none => 5
  | some t => if trnOk t then (if 4096 ≤ n then 4 else 0) else 2
/-- The cells of turns. -/
def tCells (ts : List (Int × Int × Int)) : List Value := ts.flatMap trnC
def TurnPost (ws : List ByteArray) (rb base : Nat) (c a q : Int) (tw : Bool) (m : ByteArray) (fn v : Value) (ts : List (Int × Int × Int)) (w : World) (e : Ending) (w' : World) : Prop :=
  e = .returned (.int .i64 (turnE ws ts.length)) ∧ w.heap.size ≤ w'.heap.size ∧ (∀ k, k < w.heap.size → k ≠ rb → some k ≠ v.ownBlock → w'.heap[k]? = w.heap[k]?) ∧ w'.os = w.os ∧ w'.tape = w.tape ∧ w'.output = w.output ∧
  (turnE ws ts.length = 0 → ∃ t v', turnOf ws = some t ∧ trnOk t = true ∧ Rd w' rb c a q tw m v' fn ∧ w'.ownsRow base 59 3 v' (ts.length + 1) (tCells (ts ++ [t])))

theorem TurnPost.err {ws : List ByteArray} {rb base : Nat} {c a q : Int} {tw : Bool} {m : ByteArray} {fn v : Value} {ts : List (Int × Int × Int)} {w W : World} {E : Int} (hE : turnE ws ts.length = E) (h0 : E ≠ 0) (hb : Below w.heap.size w W) : TurnPost ws rb base c a q tw m fn v ts w (.returned (.int .i64 E)) W :=
  ⟨by rw [hE], hb.size, fun k hk _ _ => hb.block k hk, hb.os, hb.tape, hb.output, fun h => absurd (hE.symm.trans h) h0⟩
theorem turnForm_none {hd : List UInt8} {vals : List Int} (h : ∀ j : Nat, j < 4 → hd ≠ wordOf j) : turnForm hd vals = none := by
  unfold turnForm
  rw [if_neg (show ¬ hd = wordOf 0 from h 0 (by decide)), if_neg (show ¬ hd = wordOf 1 from h 1 (by decide)), if_neg (show ¬ hd = wordOf 2 from h 2 (by decide)), if_neg (show ¬ hd = wordOf 3 from h 3 (by decide))]
theorem wordOf_inj (i j : Nat) (hi : i < 4) (hj : j < 4) (h : wordOf i = wordOf j) : i = j := by
  have h1 : i = 0 ∨ i = 1 ∨ i = 2 ∨ i = 3 := by omega
  have h2 : j = 0 ∨ j = 1 ∨ j = 2 ∨ j = 3 := by omega
  rcases h1 with rfl | rfl | rfl | rfl <;> rcases h2 with rfl | rfl | rfl | rfl <;> first | rfl | (exact absurd h (by decide))
/-- How far the numbers were handed out. -/
def Fill (f0 f1 : Bool) (vals : List Int) : Nat → List Int → Int → Int → Prop
  | 0, r, s, t => r = vals ∧ s = 0 ∧ t = 0
  | 1, r, s, t => t = 0 ∧ (if f0 then vals = s :: r else r = vals ∧ s = 0)
  | _, r, s, t => if f0 then (if f1 then vals = s :: t :: r else vals = s :: r ∧ t = 0) else (if f1 then vals = t :: r ∧ s = 0 else r = vals ∧ s = 0 ∧ t = 0)
theorem fill_short0 {f0 f1 : Bool} {vals : List Int} {s t : Int} (h : Fill f0 f1 vals 0 [] s t) : vals = [] := h.1.symm
theorem fill_short1 {f0 f1 : Bool} {vals : List Int} {s t : Int} (h : Fill f0 f1 vals 1 [] s t) : vals.length = if f0 then 1 else 0 := by
  cases f0
  · have := h.2.1; subst this; rfl
  · have := h.2; simp only [if_true] at this; subst this; rfl
theorem turnForm_at {hd : List UInt8} {k : Nat} (hk : k < 4) (h : hd = wordOf k) (vals : List Int) :
    turnForm hd vals = if k = 0 then (match vals with | [s, t] => some (0, s, t) | _ => none) else if k = 1 then (match vals with | [t] => some (1, 0, t) | _ => none) else (match vals with | [] => some ((k : Int), 0, 0) | _ => none) := by
  subst h
  have h1 : k = 0 ∨ k = 1 ∨ k = 2 ∨ k = 3 := by omega
  rcases h1 with rfl | rfl | rfl | rfl
  · rfl
  · unfold turnForm; rw [if_neg (show ¬ wordOf ((1 : Nat) : Int) = wordOf 0 by decide), if_pos rfl]; rfl
  · unfold turnForm; rw [if_neg (show ¬ wordOf ((2 : Nat) : Int) = wordOf 0 by decide), if_neg (show ¬ wordOf ((2 : Nat) : Int) = wordOf 1 by decide), if_pos (show wordOf ((2 : Nat) : Int) = wordOf 2 from rfl)]; rfl
  · unfold turnForm; rw [if_neg (show ¬ wordOf ((3 : Nat) : Int) = wordOf 0 by decide), if_neg (show ¬ wordOf ((3 : Nat) : Int) = wordOf 1 by decide), if_neg (show ¬ wordOf ((3 : Nat) : Int) = wordOf 2 by decide), if_pos (show wordOf ((3 : Nat) : Int) = wordOf 3 from rfl)]; rfl
/-- What 'turnForm' makes of the numbers, as they are handed out. -/
def fitL (f0 f1 : Bool) (k : Nat) (vals : List Int) : Option (Int × Int × Int) := match f0, f1, vals with
  | true, true, [s, t] => some ((k : Int), s, t)
  | false, true, [t] => some ((k : Int), 0, t)
  | false, false, [] => some ((k : Int), 0, 0)
  | _, _, _ => none
theorem turnForm_fit {hd : List UInt8} {k : Nat} (hk : k < 4) (h : hd = wordOf k) (vals : List Int) : turnForm hd vals = fitL (slOf k) (tmOf k) k vals := by
  rw [turnForm_at hk h]
  have h1 : k = 0 ∨ k = 1 ∨ k = 2 ∨ k = 3 := by omega
  rcases h1 with rfl | rfl | rfl | rfl
  all_goals
    match vals with
    | [] => rfl
    | [_] => rfl
    | [_, _] => rfl
    | _ :: _ :: _ :: _ => rfl
theorem fit_none0 {f0 f1 : Bool} {k : Nat} {vals : List Int} {s t : Int} (h : Fill f0 f1 vals 0 [] s t) (hf : f0 = true) : fitL f0 f1 k vals = none := by
  rw [fill_short0 h]; subst hf; cases f1 <;> rfl
theorem fit_none1 {f0 f1 : Bool} {k : Nat} {vals : List Int} {s t : Int} (h : Fill f0 f1 vals 1 [] s t) (hf : f1 = true) : fitL f0 f1 k vals = none := by
  have := fill_short1 h
  subst hf
  cases f0
  · rw [List.eq_nil_of_length_eq_zero this]; rfl
  · match vals, this with
    | [_], _ => rfl
theorem fit_none2 {f0 f1 : Bool} {k : Nat} {vals r : List Int} {s t x : Int} (h : Fill f0 f1 vals 2 (x :: r) s t) : fitL f0 f1 k vals = none := by
  cases f0 <;> cases f1 <;> simp [Fill] at h
  · obtain ⟨h1, _⟩ := h; subst h1; rfl
  · obtain ⟨h1, _⟩ := h; subst h1; rfl
  · obtain ⟨h1, _⟩ := h; subst h1; rfl
  · subst h; rfl
theorem fit_some2 {f0 f1 : Bool} {k : Nat} {vals : List Int} {s t : Int} (h : Fill f0 f1 vals 2 [] s t) (hi : f0 = true → f1 = true) : fitL f0 f1 k vals = some ((k : Int), s, t) := by
  cases f0 <;> cases f1 <;> simp [Fill] at h
  · obtain ⟨h1, h2, h3⟩ := h; subst h1; subst h2; subst h3; rfl
  · obtain ⟨h1, h2⟩ := h; subst h1; subst h2; rfl
  · exact absurd (hi rfl) (by decide)
  · subst h; rfl
theorem fill_next0 {f0 f1 : Bool} {vals r : List Int} {s t x : Int} (h : Fill f0 f1 vals 0 (x :: r) s t) (hf : f0 = true) : Fill f0 f1 vals 1 r x t := by
  obtain ⟨h1, _, h3⟩ := h; subst hf; exact ⟨h3, by simp [h1]⟩
theorem fill_skip0 {f0 f1 : Bool} {vals r : List Int} {s t : Int} (h : Fill f0 f1 vals 0 r s t) (hf : f0 = false) : Fill f0 f1 vals 1 r s t := by
  obtain ⟨h1, h2, h3⟩ := h; subst hf; exact ⟨h3, by simp [h1, h2]⟩
theorem fill_next1 {f0 f1 : Bool} {vals r : List Int} {s t x : Int} (h : Fill f0 f1 vals 1 (x :: r) s t) (hf : f1 = true) : Fill f0 f1 vals 2 r s x := by
  obtain ⟨h1, h2⟩ := h; subst hf
  cases f0 <;> simp at h2 <;> simp [Fill]
  · exact ⟨h2.1.symm, h2.2⟩
  · exact h2
theorem fill_skip1 {f0 f1 : Bool} {vals r : List Int} {s t : Int} (h : Fill f0 f1 vals 1 r s t) (hf : f1 = false) : Fill f0 f1 vals 2 r s t := by
  obtain ⟨h1, h2⟩ := h; subst hf
  cases f0 <;> simp at h2 <;> simp [Fill]
  · exact ⟨h2.1, h2.2, h1⟩
  · exact ⟨h2, h1⟩
theorem turnE_of {ws dw : List ByteArray} {x0 : ByteArray} {vals : List Int} {k n : Nat} (hk : k < 4) (hdw : ws.drop 1 = dw) (hx : ws[0]? = some x0) (hm : x0.toList = wordOf k) (ha : dw.all isN = true) (hv : dw.map valN = vals) :
    turnOf ws = fitL (slOf k) (tmOf k) k vals := by
  unfold turnOf; rw [hdw, ha, if_pos rfl, hx, hv]; exact turnForm_fit hk hm vals
theorem turnE_none {ws : List ByteArray} {n : Nat} (h : turnOf ws = none) : turnE ws n = 5 := by unfold turnE; rw [h]
/-- A slice of numbers that is read, at whatever address. -/
def IntsV (w : World) (v : Value) (r : List Int) : Prop := ∃ A c, v = .slice A r.length c ∧ r.length ≤ c ∧ (r ≠ [] → ∃ g o, g < w.heap.size ∧ A = some ⟨g, o, none⟩ ∧ Ints w g o r)
theorem IntsV.below {w w' : World} {v : Value} {r : List Int} (h : IntsV w v r) (hb : Below w.heap.size w w') : IntsV w' v r := by
  obtain ⟨A, c, hv, hc, hr⟩ := h
  exact ⟨A, c, hv, hc, fun hne => by obtain ⟨g, o, hg, hA, hi⟩ := hr hne; exact ⟨g, o, Nat.lt_of_lt_of_le hg hb.size, hA, hi.below hb⟩⟩
theorem ints_tail {w : World} {g o : Nat} {x : Int} {r : List Int} (h : Ints w g o (x :: r)) : Ints w g (o + 1) r := fun j y hj => by
  have := h (j + 1) y hj
  rwa [show o + 1 + j = o + (j + 1) by omega]
theorem IntsV.of_own {w : World} {base n : Nat} {A : Option Addr} {c : Nat} {xs : List Int} (h : w.ownsRow base 3 1 (.slice A n c) n (xs.map (Value.int .i64))) (hl : xs.length = n) : IntsV w (.slice A n c) xs := by
  rcases h.2 with ⟨h1, h2⟩ | ⟨g, cp, cur, he, hg, hh, hc1, _⟩
  · injection h1 with e1 e2 e3
    subst e1; subst h2; subst e3
    have : xs = [] := List.eq_nil_of_length_eq_zero hl
    subst this
    exact ⟨none, 0, rfl, Nat.le_refl _, fun h => absurd rfl h⟩
  · injection he with e1 e2 e3
    subst e1; subst e3
    refine ⟨_, _, by rw [hl], by omega, fun _ => ⟨g, 0, (Array.getElem?_eq_some_iff.1 hh).1, rfl, fun j x hj => ?_⟩⟩
    have := h.cells (g := g) rfl j (.int .i64 x) (by rw [List.getElem?_map, hj]; rfl)
    rw [Nat.zero_add]
    have ha : (⟨g, 0, none⟩ : Addr).add j = ⟨g, j, none⟩ := by unfold Addr.add; split <;> simp_all
    rwa [ha] at this
theorem turn_done {ws : List ByteArray} {rb base : Nat} {c a q : Int} {tw : Bool} {m : ByteArray} {fn v v' : Value} {ts : List (Int × Int × Int)} {t : Int × Int × Int} {w W : World} (hT : turnE ws ts.length = 0) (hTT : turnOf ws = some t) (hk : trnOk t = true)
    (hv : v.ownBlock ≠ some rb) (hrb : rb < base) (hR : Rd w rb c a q tw m v fn) (hg : w.grownBy W v.ownBlock) (hown : W.ownsRow base 59 3 v' (ts.length + 1) (tCells ts ++ trnC t)) :
    TurnPost ws rb base c a q tw m fn v ts w (.returned (.int .i64 0)) (W.setCell ⟨rb, 5, none⟩ v') := by
  have hrl := hR.lt
  have hRW : W.heap[rb]? = _ := (hg.block rb hrl (Ne.symm hv)).trans hR
  refine ⟨by rw [hT], by simpa [World.setCell] using hg.size, fun k hk h1 h2 => (Below.heap_setCell _ _ _ _ (by simpa using h1)).trans (hg.block k hk h2), hg.os, hg.tape, hg.output, fun _ => ⟨t, v', hTT, hk, heap_setCell_same hRW v', ?_⟩⟩
  have := hown.kept (w' := W.setCell ⟨rb, 5, none⟩ v') (row := some rb) (grown_setCell (grown_refl W _) _) (by
    cases h : v'.ownBlock with
    | none => exact .inl rfl
    | some g => exact .inr (fun e => by have := (hown.lt g h).1; rw [Option.some.inj e] at this; omega))
  simpa [tCells] using this
theorem info59 : (Tryz.prog.info? 59).map (fun i => (i.zero, i.size, i.bytes)) = some (some (.agg #[.int .i64 0, .int .i64 0, .int .i64 0]), 3, 24) := by kernel_rfl
set_option maxRecDepth 100000 in
set_option maxHeartbeats 1000000 in
theorem rturn_any (rb wb cap base : Nat) (ws : List ByteArray) (c a q : Int) (tw : Bool) (m : ByteArray) (v fn : Value) (ts : List (Int × Int × Int)) (hn : 1 ≤ ws.length) (hl : ws.length ≤ 1000000) (hcap : ws.length ≤ cap) (hsz : ∀ s ∈ ws, s.size ≤ 281474976710656)
    (hts : ts.length ≤ 4096) (w : World) (hE : Env w) (hS : Strs w wb 0 ws) (hR : Rd w rb c a q tw m v fn) (hwb : wb ≠ rb) (hrb : 9 ≤ rb) (hown : w.ownsRow base 59 3 v ts.length (tCells ts)) (hrbb : rb < base) (hbw0 : base ≤ w.heap.size) :
    Calls Tryz.prog 74 #[.pointer (some ⟨rb, 0, none⟩), .slice (some ⟨wb, 0, none⟩) ws.length cap] w (TurnPost ws rb base c a q tw m fn v ts w) := by
  obtain ⟨Av, cv, rfl⟩ := own_slice hown
  obtain ⟨i0, hi0, hz0, hz1, hz2⟩ := info_parts info59
  replace hi0 := Lib.hid hi0; replace hz0 := Lib.hid hz0; replace hz1 := Lib.hid hz1; replace hz2 := Lib.hid hz2
  go_enter Tryz.func74, Tryz.ntmps74
  go_wp2_with (go_at_call 32; refine (kinds_any _).mono ?_; rintro e w' ⟨rfl, rfl⟩)
  have hB0 : Below w.heap.size w (w.alloc (.cells kindsA 78)) := (Below.refl _ w).alloc (Nat.le_refl _) _
  obtain ⟨x0, hx0⟩ : ∃ x0, ws[0]? = some x0 := ⟨ws[0], List.getElem?_eq_getElem (by omega)⟩
  obtain ⟨dw, hdw⟩ : ∃ dw, ws.drop 1 = dw := ⟨_, rfl⟩
  have hd : dw.length = ws.length - 1 := by rw [← hdw]; simp
  have hszb : ∀ s ∈ dw, s.size ≤ 281474976710656 := fun s hs => hsz s (List.mem_of_mem_drop (by rw [hdw]; exact hs))
  have hSd : Strs w wb 1 dw := by rw [← hdw]; exact hS.drop 1
  replace hx0 := Lib.hid hx0
  replace hdw := Lib.hid hdw
  replace hd := Lib.hid hd
  replace hR := Lib.hid hR
  replace hown := Lib.hid hown
  go_loopw [13] (fun i wr => ∃ k : Nat, k ≤ 4 ∧ i = .int .i64 k ∧ Below w.heap.size w wr ∧ (dw.all isN = true → ∀ j : Nat, j < k → x0.toList ≠ wordOf j))
    (fun i _ => 4 - (intOf i).toNat)
  case atStart => exact ⟨0, by omega, rfl, hB0, fun _ j hj => by omega⟩
  case round =>
    obtain ⟨k, hk, rfl, hbw, hno⟩ := hrel
    replace hno := Lib.hid hno
    by_cases hlt : k < 4
    · have hidx := fun W => idxAny (k := (k : Int)) (by omega) (by omega) W
      have hEr := hE.below hbw
      go_upto_region 4 with fail
      obtain ⟨w1, hw1⟩ : ∃ w1 : World, w1 = wr.alloc (.cells #[.string ⟨(wordOf k).toArray⟩, .bool (slOf k), .bool (tmOf k)] 77) := ⟨_, rfl⟩
      have hb1 : Below wr.heap.size wr w1 := by rw [hw1]; exact (Below.refl _ wr).alloc (Nat.le_refl _) _
      have hk6 : w1.heap[wr.heap.size]? = some (.cells #[.string ⟨(wordOf k).toArray⟩, .bool (slOf k), .bool (tmOf k)] 77 (0, 0)) := by rw [hw1]; exact heap_alloc_new wr _
      rw [← hw1]
      clear hw1 hidx
      have hE1 := hEr.below hb1
      have hS1 : Strs w1 wb 0 ws := (hS.below hbw).below hb1
      have hSd1 : Strs w1 wb 1 dw := (hSd.below hbw).below hb1
      replace hk6 := Lib.hid hk6
      go_cut [7, 8] (fun p q wx => ∃ vv : Value, p = vv ∧ q = .bool (dw.all isN) ∧ ((dw.all isN = true ∧ wx.ownsRow w1.heap.size 3 1 vv (ws.length - 1) ((dw.map valN).map (Value.int .i64))) ∨ (dw.all isN = false ∧ vv = .slice none 0 0)) ∧ Below w1.heap.size w1 wx)
      case first =>
        have fin : ∀ (e : Ending) W, NumsPost dw w1 e W → ∃ vv, e = .returned (.tuple #[vv, .bool (dw.all isN)]) ∧ ((dw.all isN = true ∧ W.ownsRow w1.heap.size 3 1 vv (ws.length - 1) ((dw.map valN).map (Value.int .i64))) ∨ (dw.all isN = false ∧ vv = .slice none 0 0)) ∧ Below w1.heap.size w1 W := by
          rintro e W (⟨h1, vv, rfl, ho, hb⟩ | ⟨h1, rfl, hb⟩)
          · exact ⟨vv, by rw [h1], .inl ⟨h1, by rwa [hd.out] at ho⟩, hb⟩
          · exact ⟨_, by rw [h1], .inr ⟨h1, rfl⟩, hb⟩
        replace fin := Lib.hid fin
        by_cases h1 : cap = 1
        · subst h1
          have hd0 : dw.length = 0 := by rw [hd.out]; omega
          have hnum := numbers_any wb 0 0 dw (by omega) hszb w1 hE1 (fun j x hj => by rw [List.getElem?_eq_none (by omega)] at hj; cases hj)
          rw [hd0] at hnum
          replace hnum := Lib.hid hnum
          replace hd0 := Lib.hid hd0
          go_wp2_with fail
          refine hnum.out.mono ?_
          intro e W hP
          obtain ⟨vv, rfl, h2, hb⟩ := fin.out e W hP
          go_wp2_with fail
          go_meet
          exact ⟨vv, rfl, rfl, h2, hb⟩
        · have hnum := numbers_any wb 1 (cap - 1) dw (by rw [hd.out]; omega) hszb w1 hE1 hSd1
          rw [hd.out] at hnum
          replace hnum := Lib.hid hnum
          go_wp2_with fail
          refine hnum.out.mono ?_
          intro e W hP
          obtain ⟨vv, rfl, h2, hb⟩ := fin.out e W hP
          go_wp2_with fail
          go_meet
          exact ⟨vv, rfl, rfl, h2, hb⟩
      case rest =>
        obtain ⟨w2, rfl⟩ : ∃ w2 : World, w2 = wc := ⟨_, rfl⟩
        obtain ⟨vv, hvv, rfl, hall, hB⟩ := hcut
        subst hvv
        have hb2 : Below w.heap.size w w2 := (hbw.trans (hb1.mono hbw.size)).trans (hB.mono (Nat.le_trans hbw.size hb1.size))
        have hk6' := (hB.block wr.heap.size (Array.getElem?_eq_some_iff.1 hk6.out).1).trans hk6.out
        have c60 : w2.cell? ⟨wr.heap.size, 0, none⟩ = some (.string ⟨(wordOf k).toArray⟩) := by rw [Lib.cell_of_heap hk6']; rfl
        have hcx := (hS1.below hB) 0 x0 hx0.out
        replace hk6' := Lib.hid hk6'
        clear hS1 hSd1
        rcases hall with ⟨hall, hown1⟩ | ⟨hall, rfl⟩
        · replace hown1 := Lib.hid hown1
          obtain ⟨A7, c7, rfl⟩ := own_slice hown1.out
          by_cases hm : x0.toList = wordOf k
          · have hm' : (wordOf k == x0.toList) = true := by rw [hm]; simp
            rw [hall]
            replace hall := Lib.hid hall
            go_upto_region 5 with fail
            go_quiet (fail)
            replace hb2 := below_drewN hb2 nq
            have hk8 : (w2.drewN nq).heap[wr.heap.size]? = some (.cells #[.string ⟨(wordOf k).toArray⟩, .bool (slOf k), .bool (tmOf k)] 77 (0, 0)) := hk6'.out
            have hown8 : (w2.drewN nq).ownsRow w1.heap.size 3 1 (.slice A7 (ws.length - 1) c7) (ws.length - 1) ((dw.map valN).map (Value.int .i64)) := hown1.out
            obtain ⟨w3, hw3⟩ : ∃ w3 : World, w2.drewN nq = w3 := ⟨_, rfl⟩
            rw [hw3] at hb2 hk8 hown8 ⊢
            clear hcx c60 hw3 hown1 hk6 hk6'
            have hlt8 : wr.heap.size < w3.heap.size := (Array.getElem?_eq_some_iff.1 hk8).1
            have c81 : w3.cell? ⟨wr.heap.size, 1, none⟩ = some (.bool (slOf k)) := by rw [Lib.cell_of_heap hk8]; rfl
            have c82 : w3.cell? ⟨wr.heap.size, 2, none⟩ = some (.bool (tmOf k)) := by rw [Lib.cell_of_heap hk8]; rfl
            go_wp2_with fail
            obtain ⟨vals, hvals⟩ : ∃ vals, dw.map valN = vals := ⟨_, rfl⟩
            have hvl : vals.length = ws.length - 1 := by rw [← hvals, List.length_map]; exact hd.out
            rw [hvals] at hown8
            have hIV : IntsV w3 (.slice A7 (ws.length - 1) c7) vals := IntsV.of_own hown8 hvl
            replace hvals := Lib.hid hvals
            have hvL := Lib.hid hvl
            have hBB : Below w3.heap.size w3 ((w3.alloc (Obj.cells #[.int .i64 k, .int .i64 0, .int .i64 0] 59)).alloc (Obj.cells #[.bool (slOf k), .pointer (some ⟨w3.heap.size, 1, none⟩), .bool (tmOf k), .pointer (some ⟨w3.heap.size, 2, none⟩)] 159)) :=
              ((Below.refl _ w3).alloc (Nat.le_refl _) _).alloc (by simp) _
            have h9 : ((w3.alloc (Obj.cells #[.int .i64 k, .int .i64 0, .int .i64 0] 59)).alloc (Obj.cells #[.bool (slOf k), .pointer (some ⟨w3.heap.size, 1, none⟩), .bool (tmOf k), .pointer (some ⟨w3.heap.size, 2, none⟩)] 159)).heap[w3.heap.size]? = some (.cells #[.int .i64 k, .int .i64 0, .int .i64 0] 59 (0, 0)) :=
              (Below.heap_alloc _ _ _ (by simp)).trans (heap_alloc_new w3 _)
            have h10 : ((w3.alloc (Obj.cells #[.int .i64 k, .int .i64 0, .int .i64 0] 59)).alloc (Obj.cells #[.bool (slOf k), .pointer (some ⟨w3.heap.size, 1, none⟩), .bool (tmOf k), .pointer (some ⟨w3.heap.size, 2, none⟩)] 159)).heap[w3.heap.size + 1]? = some (.cells #[.bool (slOf k), .pointer (some ⟨w3.heap.size, 1, none⟩), .bool (tmOf k), .pointer (some ⟨w3.heap.size, 2, none⟩)] 159 (0, 0)) := by
              have := heap_alloc_new (w3.alloc (Obj.cells #[.int .i64 k, .int .i64 0, .int .i64 0] 59)) (Obj.cells #[.bool (slOf k), .pointer (some ⟨w3.heap.size, 1, none⟩), .bool (tmOf k), .pointer (some ⟨w3.heap.size, 2, none⟩)] 159)
              simpa using this
            clear hown8 hk8 c81 c82 hvl hn hSd
            obtain ⟨wo, rfl⟩ : ∃ wo : World, wo = wr := ⟨_, rfl⟩
            go_loopw [7, 45] (fun l i wx => ∃ (j : Nat) (r : List Int) (s t : Int), j ≤ 2 ∧ i = .int .i64 j ∧ IntsV w3 l r ∧ Fill (slOf k) (tmOf k) vals j r s t ∧ wx.heap[w3.heap.size]? = some (.cells #[.int .i64 k, .int .i64 s, .int .i64 t] 59 (0, 0)) ∧
                wx.heap[w3.heap.size + 1]? = some (.cells #[.bool (slOf k), .pointer (some ⟨w3.heap.size, 1, none⟩), .bool (tmOf k), .pointer (some ⟨w3.heap.size, 2, none⟩)] 159 (0, 0)) ∧ Below w3.heap.size w3 wx)
              (fun _ i _ => 2 - (intOf i).toNat)
            case atStart => exact ⟨0, vals, 0, 0, by omega, rfl, hIV, ⟨rfl, rfl, rfl⟩, h9, h10, hBB⟩
            case round =>
              clear h9 h10 hBB hIV
              obtain ⟨j, r, s, t, hj, rfl, hI, hF, h9, h10, hbx⟩ := hrel
              have l9 := (Array.getElem?_eq_some_iff.1 h9).1
              have l10 := (Array.getElem?_eq_some_iff.1 h10).1
              have hbw4 : Below w.heap.size w wr := hb2.trans (hbx.mono hb2.size)
              have hTO := turnE_of (n := ts.length) hlt hdw.out hx0.out hm hall.out hvals.out
              replace hTO := Lib.hid hTO
              rcases (show j = 0 ∨ j = 1 ∨ j = 2 by omega) with rfl | rfl | rfl
              · have cb : wr.cell? ⟨w3.heap.size + 1, 0, none⟩ = some (.bool (slOf k)) := by rw [Lib.cell_of_heap h10]; rfl
                have cp : wr.cell? ⟨w3.heap.size + 1, 1, none⟩ = some (.pointer (some ⟨w3.heap.size, 1, none⟩)) := by rw [Lib.cell_of_heap h10]; rfl
                have ct : wr.cell? ⟨w3.heap.size, 1, none⟩ = some (.int .i64 s) := by rw [Lib.cell_of_heap h9]; rfl
                have cf : wr.frozen? ⟨w3.heap.size, 1, none⟩ = false := Lib.frozen_of_heap h9 1
                replace h9 := Lib.hid h9
                replace h10 := Lib.hid h10
                replace hF := Lib.hid hF
                obtain ⟨A, cc, rfl, hcc, hr⟩ := hI
                replace hr := Lib.hid hr
                rcases (show slOf k = true ∨ slOf k = false by cases slOf k <;> simp) with hfl | hfl
                · rw [hfl] at cb
                  replace hfl := Lib.hid hfl
                  cases r with
                  | nil =>
                    have hT : turnE ws ts.length = 5 := turnE_none (hTO.out.trans (fit_none0 hF.out hfl.out))
                    replace hT := Lib.hid hT
                    go_wp2_with fail
                    go_ret
                    exact TurnPost.err hT.out (by decide) (hbw4.alloc hbw4.size _)
                  | cons x r =>
                    obtain ⟨g, o, hg, rfl, hi⟩ := hr.out (by simp)
                    have hgw : g < wr.heap.size := Nat.lt_of_lt_of_le hg hbx.size
                    have hi0 := (hbx.cell (p := ⟨g, o, none⟩) hg).trans (hi 0 x rfl)
                    have hi := Lib.hid hi
                    have hrl : (x :: r).length = r.length + 1 := rfl
                    rw [hrl] at hcc ⊢
                    clear hrl
                    go_upto_region 11 with fail
                    go_region
                    go_wp2_with fail
                    go_roundw
                    case rel =>
                      refine ⟨1, r, x, t, by omega, by go_num, ⟨_, cc - 1, rfl, by omega, fun hne => ⟨g, o + 1, hg, by rw [if_neg (by have := List.length_pos_iff.2 hne; omega)], ints_tail hi.out⟩⟩, fill_next0 hF.out hfl.out, ?_, ?_, ?_⟩
                      · exact (Below.heap_alloc _ _ _ (by simpa using l9)).trans (heap_setCell_same h9.out _)
                      · exact (Below.heap_alloc _ _ _ (by simpa using l10)).trans ((Below.heap_setCell _ _ _ _ (by simp)).trans h10.out)
                      · exact ((hbx.setCell (p := ⟨w3.heap.size, 1, none⟩) (Nat.le_refl _) _).alloc (by simpa using hbx.size) _).drew
                    case measure => simp [intOf]
                · rw [hfl] at cb
                  replace hfl := Lib.hid hfl
                  go_wp2_with fail
                  go_roundw
                  case rel => exact ⟨1, r, s, t, by omega, by go_num, ⟨A, cc, rfl, hcc, hr.out⟩, fill_skip0 hF.out hfl.out, (Below.heap_alloc _ _ _ l9).trans h9.out, (Below.heap_alloc _ _ _ l10).trans h10.out, hbx.alloc hbx.size _⟩
                  case measure => simp [intOf]
              · have cb : wr.cell? ⟨w3.heap.size + 1, 2, none⟩ = some (.bool (tmOf k)) := by rw [Lib.cell_of_heap h10]; rfl
                have cp : wr.cell? ⟨w3.heap.size + 1, 3, none⟩ = some (.pointer (some ⟨w3.heap.size, 2, none⟩)) := by rw [Lib.cell_of_heap h10]; rfl
                have ct : wr.cell? ⟨w3.heap.size, 2, none⟩ = some (.int .i64 t) := by rw [Lib.cell_of_heap h9]; rfl
                have cf : wr.frozen? ⟨w3.heap.size, 2, none⟩ = false := Lib.frozen_of_heap h9 2
                replace h9 := Lib.hid h9
                replace h10 := Lib.hid h10
                replace hF := Lib.hid hF
                obtain ⟨A, cc, rfl, hcc, hr⟩ := hI
                replace hr := Lib.hid hr
                rcases (show tmOf k = true ∨ tmOf k = false by cases tmOf k <;> simp) with hfl | hfl
                · rw [hfl] at cb
                  replace hfl := Lib.hid hfl
                  cases r with
                  | nil =>
                    have hT : turnE ws ts.length = 5 := turnE_none (hTO.out.trans (fit_none1 hF.out hfl.out))
                    replace hT := Lib.hid hT
                    go_wp2_with fail
                    go_ret
                    exact TurnPost.err hT.out (by decide) (hbw4.alloc hbw4.size _)
                  | cons x r =>
                    obtain ⟨g, o, hg, rfl, hi⟩ := hr.out (by simp)
                    have hgw : g < wr.heap.size := Nat.lt_of_lt_of_le hg hbx.size
                    have hi0 := (hbx.cell (p := ⟨g, o, none⟩) hg).trans (hi 0 x rfl)
                    have hi := Lib.hid hi
                    have hrl : (x :: r).length = r.length + 1 := rfl
                    rw [hrl] at hcc ⊢
                    clear hrl
                    go_upto_region 11 with fail
                    go_region
                    go_wp2_with fail
                    go_roundw
                    case rel =>
                      refine ⟨2, r, s, x, by omega, by go_num, ⟨_, cc - 1, rfl, by omega, fun hne => ⟨g, o + 1, hg, by rw [if_neg (by have := List.length_pos_iff.2 hne; omega)], ints_tail hi.out⟩⟩, fill_next1 hF.out hfl.out, ?_, ?_, ?_⟩
                      · exact (Below.heap_alloc _ _ _ (by simpa using l9)).trans (heap_setCell_same h9.out _)
                      · exact (Below.heap_alloc _ _ _ (by simpa using l10)).trans ((Below.heap_setCell _ _ _ _ (by simp)).trans h10.out)
                      · exact ((hbx.setCell (p := ⟨w3.heap.size, 2, none⟩) (Nat.le_refl _) _).alloc (by simpa using hbx.size) _).drew
                    case measure => simp [intOf]
                · rw [hfl] at cb
                  replace hfl := Lib.hid hfl
                  go_wp2_with fail
                  go_roundw
                  case rel => exact ⟨2, r, s, t, by omega, by go_num, ⟨A, cc, rfl, hcc, hr.out⟩, fill_skip1 hF.out hfl.out, (Below.heap_alloc _ _ _ l9).trans h9.out, (Below.heap_alloc _ _ _ l10).trans h10.out, hbx.alloc hbx.size _⟩
                  case measure => simp [intOf]
              · obtain ⟨A, cc, rfl, hcc, hr⟩ := hI
                have c90 : wr.cell? ⟨w3.heap.size, 0, none⟩ = some (.int .i64 k) := by rw [Lib.cell_of_heap h9]; rfl
                have c91 : wr.cell? ⟨w3.heap.size, 1, none⟩ = some (.int .i64 s) := by rw [Lib.cell_of_heap h9]; rfl
                have c92 : wr.cell? ⟨w3.heap.size, 2, none⟩ = some (.int .i64 t) := by rw [Lib.cell_of_heap h9]; rfl
                replace h9 := Lib.hid h9
                replace h10 := Lib.hid h10
                replace hF := Lib.hid hF
                replace hr := Lib.hid hr
                cases r with
                | cons x r =>
                  have hT : turnE ws ts.length = 5 := turnE_none (hTO.out.trans (fit_none2 hF.out))
                  replace hT := Lib.hid hT
                  have hrl : (x :: r).length = r.length + 1 := rfl
                  rw [hrl]
                  clear hrl
                  go_wp2_with fail
                  go_ret
                  exact TurnPost.err hT.out (by decide) hbw4
                | nil =>
                  have hTT : turnOf ws = some ((k : Int), s, t) := hTO.out.trans (fit_some2 hF.out (by unfold slOf tmOf; intro h; rw [h]; rfl))
                  replace hTT := Lib.hid hTT
                  have htk : turnB k s t = trnOk ((k : Int), s, t) := rfl
                  replace htk := Lib.hid htk
                  rw [show ([] : List Int).length = 0 from rfl]
                  go_wp2_with fail
                  refine (turn_any _ _ _ _).mono ?_
                  rintro e w4 ⟨rfl, hb4⟩
                  have hbw5 := hbw4.trans (hb4.mono hbw4.size)
                  rcases (show turnB k s t = true ∨ turnB k s t = false by cases turnB k s t <;> simp) with hq | hq
                  · rw [hq]
                    replace hq := Lib.hid hq
                    have hR4 := hR.out.below hbw5
                    have r5 := hR4.cell 5
                    simp only [List.getElem?_toArray, List.getElem?_cons_succ, List.getElem?_cons_zero] at r5
                    have rf := hR4.frozen 5
                    have hrl4 := hR4.lt
                    replace hR4 := Lib.hid hR4
                    have d90 := (hb4.cell (p := ⟨w3.heap.size, 0, none⟩) l9).trans c90
                    have d91 := (hb4.cell (p := ⟨w3.heap.size, 1, none⟩) l9).trans c91
                    have d92 := (hb4.cell (p := ⟨w3.heap.size, 2, none⟩) l9).trans c92
                    have l94 := Nat.lt_of_lt_of_le l9 hb4.size
                    clear c90 c91 c92
                    have hown5 : w4.ownsRow base 59 3 (.slice Av ts.length cv) ts.length (tCells ts) := own_below hown.out hbw5
                    have hlt5 := hown.out.lt
                    replace hlt5 := Lib.hid hlt5
                    replace hown5 := Lib.hid hown5
                    by_cases h4 : 4096 ≤ ts.length
                    · have h4' : (4096 : Int) ≤ (ts.length : Int) := by omega
                      have hT : turnE ws ts.length = 4 := by unfold turnE; rw [hTT.out]; simp only [← htk.out, hq.out, if_pos h4, if_true]
                      replace hT := Lib.hid hT
                      go_wp2_with fail
                      go_ret
                      exact TurnPost.err hT.out (by decide) hbw5
                    · have hT : turnE ws ts.length = 0 := by unfold turnE; rw [hTT.out]; simp only [← htk.out, hq.out, if_neg h4, if_true]
                      replace hT := Lib.hid hT
                      have hrbs : (Value.slice Av ts.length cv).ownBlock ≠ some rb := fun e => by have := (hlt5.out _ e).1; omega
                      have hrb3 : (Value.slice Av ts.length cv).ownBlock ≠ some w3.heap.size := fun e => by have := (hlt5.out _ e).2; have := hb2.size; omega
                      replace hrbs := Lib.hid hrbs
                      replace hrb3 := Lib.hid hrb3
                      go_wp2_with fail
                      go_region_law
                        ((refine step_append_lies _ (by rfl) _ _ _ (by rfl) base 59 i0 _ 3 24 Tryz.underlying34 hi0.out hz0.out hz1.out hz2.out rfl (by omega) _ _ _ (by rfl) ((hown5.out.alloc _).drew)
                            ⟨w4.heap.size, 0, none⟩ 1 1 [.int .i64 k, .int .i64 s, .int .i64 t] (by rfl) (by rfl) (World.news_of_block (cs := #[.int .i64 k, .int .i64 s, .int .i64 t]) (t := 59) (fr := (0, 0)) (heap_alloc_new w4 _)) (by simp [Value.oneCell'])
                            (by omega) (by unfold maxLen; omega) (by omega) (by have := hbw5.size; simp; omega) (w4.heap.size + 1) (by simp) ?_; intro gg cap1 w5 hown6 hgrow hat hlt6;
                          have hfr5 : w5.frozen? ⟨rb, 5, none⟩ = false := (hgrow.frozen_far ⟨rb, 5, none⟩ (by simp; omega) (Ne.symm hrbs.out)).trans ((((Below.refl w4.heap.size w4).alloc (Nat.le_refl _) _).frozen hrl4).trans rf);
                          have hce5 : w5.cell? ⟨rb, 5, none⟩ = some (.slice Av ts.length cv) := (hgrow.cell_far ⟨rb, 5, none⟩ (by simp; omega) (Ne.symm hrbs.out)).trans ((((Below.refl w4.heap.size w4).alloc (Nat.le_refl _) _).cell hrl4).trans r5)))
                      all_goals
                        go_wp2_with fail
                        go_ret
                        have gA := grown_trans (grown_of_below ((hbw5.alloc hbw5.size (Obj.cells #[.int .i64 k, .int .i64 s, .int .i64 t] 59)).drew) _) hgrow
                        exact turn_done hT.out hTT.out (htk.out.symm.trans hq.out) hrbs.out hrbb hR.out gA hown6
                  · rw [hq]
                    have hT : turnE ws ts.length = 2 := by unfold turnE; rw [hTT.out]; simp only [← htk.out, hq]; rfl
                    replace hT := Lib.hid hT
                    go_wp2_with fail
                    go_ret
                    exact TurnPost.err hT.out (by decide) hbw5
          · have hm' : (wordOf k == x0.toList) = false := by rw [beq_eq_false_iff_ne]; exact fun h => hm h.symm
            rw [hall]
            replace hall := Lib.hid hall
            go_upto_region 5 with fail
            go_quiet (fail)
            go_wp2_with fail
            go_roundw
            case rel =>
              refine ⟨k + 1, by omega, by go_num, below_drewN hb2 nq, fun h j hj => ?_⟩
              by_cases hjk : j = k
              · subst hjk; exact hm
              · exact hno.out h j (by omega)
            case measure => simp [intOf]; omega
        · replace hall := Lib.hid hall
          rw [hall.out]
          by_cases hm : x0.toList = wordOf k
          · have hm' : (wordOf k == x0.toList) = true := by rw [hm]; simp
            go_upto_region 5 with fail
            go_quiet (fail)
            go_wp2_with fail
            go_roundw
            case rel => exact ⟨k + 1, by omega, by go_num, below_drewN hb2 nq, fun h => (by rw [hall.out] at h; cases h)⟩
            case measure => simp [intOf]; omega
          · have hm' : (wordOf k == x0.toList) = false := by rw [beq_eq_false_iff_ne]; exact fun h => hm h.symm
            go_upto_region 5 with fail
            go_quiet (fail)
            go_wp2_with fail
            go_roundw
            case rel => exact ⟨k + 1, by omega, by go_num, below_drewN hb2 nq, fun h => (by rw [hall.out] at h; cases h)⟩
            case measure => simp [intOf]; omega
    · go_wp2_with fail
      obtain rfl : k = 4 := by omega
      have hT : turnE ws ts.length = 5 := by
        have : turnOf ws = none := by
          unfold turnOf
          rw [hdw.out]
          split
          · rename_i h
            rw [hx0.out]
            exact turnForm_none (hno.out h)
          · rfl
        unfold turnE; rw [this]
      replace hT := Lib.hid hT
      go_ret
      exact TurnPost.err hT.out (by decide) hbw
end Go.Proofs.YtiojkmknikfhoaaGreatDoor
