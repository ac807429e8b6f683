/- Walks over package script: Print. -/
import Derived.Test.YtiojkmknikfhoaaGreatDoorF
namespace Go.Proofs.YtiojkmknikfhoaaGreatDoor
set_option linter.unusedVariables false
set_option linter.unusedSimpArgs false
open Go.RowKit

theorem Bld.below {B b : Nat} {l : List UInt8} {w w' : World} (h : Bld B b l w) (hb : Below w.heap.size w w') : Bld B b l w' := by
  have key : ∀ p, Lib.BuilderAtF 70 5 B b p (Lib.byteCells l) w → Lib.BuilderAtF 70 5 B b p (Lib.byteCells l) w' := by
    rintro p ⟨hB, v, hk, hown, hne⟩
    have hlt : b < w.heap.size := (Array.getElem?_eq_some_iff.1 hk).1
    exact ⟨hB, v, (hb.block b hlt).trans hk, hown.kept (row := none) ⟨hb.os, hb.tape, hb.output, hb.size, fun i hi _ => hb.block i hi⟩ (by cases v.ownBlock <;> simp), hne⟩
  exact h.elim (fun x => .inl (key _ x)) (fun x => .inr (key _ x))
theorem Bld.lt {B b : Nat} {l : List UInt8} {w : World} (h : Bld B b l w) : b < w.heap.size := h.elim (fun x => x.lt) (fun x => x.lt)
theorem Bld.base {B b : Nat} {l : List UInt8} {w : World} (h : Bld B b l w) : B ≤ b := h.elim (fun x => x.1) (fun x => x.1)
theorem others_cells {b g : Nat} {cs : Array Value} {T : TypeId} {fz : Nat × Nat} {w w' : World} (hk : Lib.OthersKept 5 (some b) w w') (h : w.heap[g]? = some (.cells cs T fz)) (hg : g ≠ b) (hT : T ≠ 5) : w'.heap[g]? = some (.cells cs T fz) :=
  hk g _ h (fun e => hg (Option.some.inj e)) (fun c f e => by cases e; exact hT rfl)

/-! ### What is printed -/
def hexD (n : Nat) : UInt8 := if n < 10 then UInt8.ofNat (48 + n) else UInt8.ofNat (87 + n)
def nlBytes : List UInt8 := [10, 98, 121, 116, 101, 115, 32]
def hexAt (i : Nat) (c : UInt8) : List UInt8 := (if i % 24 = 0 then nlBytes else []) ++ [hexD (c.toNat / 16), hexD (c.toNat % 16)]
def hexFrom : Nat → List UInt8 → List UInt8
  | _, [] => []
  | i, c :: r => hexAt i c ++ hexFrom (i + 1) r
theorem hexFrom_snoc (l : List UInt8) (c : UInt8) : ∀ i, hexFrom i (l ++ [c]) = hexFrom i l ++ hexAt (i + l.length) c := by
  induction l with
  | nil => intro i; simp [hexFrom]
  | cons a l ih => intro i; rw [List.cons_append, hexFrom, hexFrom, ih, List.append_assoc, List.length_cons, show i + 1 + l.length = i + (l.length + 1) by omega]
theorem hexAt_len (i : Nat) (c : UInt8) : (hexAt i c).length ≤ 9 := by unfold hexAt nlBytes; split <;> simp
theorem hexFrom_len (l : List UInt8) : ∀ i, (hexFrom i l).length ≤ 9 * l.length := by
  induction l with
  | nil => intro i; simp [hexFrom]
  | cons a l ih => intro i; have := ih (i + 1); have := hexAt_len i a; rw [hexFrom]; simp; omega
def numW (n : Int) : List UInt8 := 32 :: Lib.itoa n
def wordOf (k : Int) : List UInt8 := if k = 0 then [112, 105, 99, 107] else if k = 1 then [114, 111, 117, 110, 100] else if k = 2 then [115, 104, 111, 119] else [114, 111, 119, 115]
def turnL (t : Int × Int × Int) : List UInt8 := 10 :: (wordOf t.1 ++ (if t.1 = 0 then numW t.2.1 else []) ++ (if t.1 = 0 ∨ t.1 = 1 then numW t.2.2 else []))
def machineL : List UInt8 := [109, 97, 99, 104, 105, 110, 101]
def twinL : List UInt8 := [32, 116, 119, 105, 110]
def headL (c a q : Int) (tw : Bool) : List UInt8 := machineL ++ numW c ++ numW a ++ numW q ++ (if tw then twinL else [])
def textL (c a q : Int) (tw : Bool) (m : List UInt8) (ts : List (Int × Int × Int)) : List UInt8 := headL c a q tw ++ hexFrom 0 m ++ ts.flatMap turnL ++ [10]

theorem wordsB_data (ns : List Int) : ∀ word : ByteArray, (wordsB word ns).data.toList = word.data.toList ++ ns.flatMap numW := by
  induction ns with
  | nil => intro word; simp [wordsB]
  | cons n ns ih =>
    intro word
    have := ih (wordStep word n)
    unfold wordsB at this ⊢
    rw [List.foldl_cons, this]
    simp [wordStep, itoaB, numW]
theorem hexDig (c : Nat) (h : c < 16) : (#[48, 49, 50, 51, 52, 53, 54, 55, 56, 57, 97, 98, 99, 100, 101, 102] : Array UInt8)[c]? = some (hexD c) := by
  have : c = 0 ∨ c = 1 ∨ c = 2 ∨ c = 3 ∨ c = 4 ∨ c = 5 ∨ c = 6 ∨ c = 7 ∨ c = 8 ∨ c = 9 ∨ c = 10 ∨ c = 11 ∨ c = 12 ∨ c = 13 ∨ c = 14 ∨ c = 15 := by omega
  rcases this with rfl | rfl | rfl | rfl | rfl | rfl | rfl | rfl | rfl | rfl | rfl | rfl | rfl | rfl | rfl | rfl <;> decide
theorem wordOf_len (k : Int) : (wordOf k).length ≤ 5 := by unfold wordOf; split <;> (try split) <;> (try split) <;> decide
theorem numW_len (n : Int) (h0 : 0 ≤ n) (h1 : n < 1000000000) : (numW n).length ≤ 11 := by have := itoa_len n h0 h1; simp [numW]; omega

/-- What a text of an own script holds. -/
structure ScrOk (c a q : Int) (m : ByteArray) (ts : List (Int × Int × Int)) : Prop where
  cfg : cfgB c a q = true
  turns : ts.all trnOk = true
  mod : m.size ≤ 65536
  few : ts.length ≤ 4096

set_option maxRecDepth 100000 in
set_option maxHeartbeats 2000000 in
/-- A script that may not be: no text. -/
theorem print_arg (c a q : Int) (tw : Bool) (m : ByteArray) (A : Option Addr) (b o cap : Nat) (ts : List (Int × Int × Int)) (hA : ts ≠ [] → A = some ⟨b, o, none⟩) (hl : ts.length ≤ 1000000) (w : World) (hT : Turns w b o ts)
    (h : (cfgB c a q && ts.all trnOk) = false) :
    Calls Tryz.prog 12 #[.agg #[.int .i64 c, .int .i64 a, .int .i64 q, .bool tw, .string m, .slice A ts.length cap]] w fun e w' => e = .returned (.tuple #[.string ⟨#[]⟩, .int .i64 2]) ∧ Below w.heap.size w w' := by
  have hA := Lib.hid hA
  cases hc : cfgB c a q with
  | false =>
    have hc := Lib.hid hc
    clear h
    go_enter Tryz.func12, Tryz.ntmps12
    go_wp2_with fail
    refine (config_any c a q _).mono ?_
    rintro e w1 ⟨rfl, hb1⟩
    rw [hc.out]
    go_wp2_with fail
    go_ret2
    exact ⟨rfl, ((Below.refl _ w).alloc (Nat.le_refl _) _).trans (hb1.mono (by simp))⟩
  | true =>
    have hall : ts.all trnOk = false := by rw [hc] at h; simpa using h
    have hcH := Lib.hid hc
    have hall := Lib.hid hall
    clear h hc
    go_enter Tryz.func12, Tryz.ntmps12
    go_wp2_with fail
    refine (config_any c a q _).mono ?_
    rintro e w1 ⟨rfl, hb1⟩
    rw [hcH.out]
    have hb2 : Below w.heap.size w w1 := ((Below.refl _ w).alloc (Nat.le_refl _) _).trans (hb1.mono (by simp))
    have hT1 := hT.below hb2
    have c5 : w1.cell? ⟨w.heap.size, 5, none⟩ = some (.slice A ts.length cap) := by
      refine (hb1.cell (p := ⟨w.heap.size, 5, none⟩) (by simp)).trans ?_
      go_simp
    go_wp2_with fail
    refine (containsFunc_any A b o cap ts hA.out hl _ hT1).mono ?_
    rintro e w2 ⟨rfl, hb3⟩
    rw [hall.out]
    go_wp2_with fail
    go_ret2
    exact ⟨rfl, hb2.trans (hb3.mono hb2.size)⟩
end Go.Proofs.YtiojkmknikfhoaaGreatDoor
