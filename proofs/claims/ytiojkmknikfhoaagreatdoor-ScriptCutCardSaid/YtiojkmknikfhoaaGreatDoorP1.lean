/- Package script's Parse: what it computes, and the lemmas that its walk uses. -/
import Derived.Test.YtiojkmknikfhoaaGreatDoorN
import Derived.Sort.CutIn
namespace Go.Proofs.YtiojkmknikfhoaaGreatDoor
set_option linter.unusedVariables false
set_option linter.unusedSimpArgs false
open Go.RowKit Go.Shelf
attribute [local go_sem] Oper.semAt_some

def spB : ByteArray := ⟨#[32]⟩
def wordsS (b : ByteArray) : List ByteArray := Lib.splitB spB 0 (Lib.countB b spB) b
def cutL (line : ByteArray) : ByteArray := ⟨(Lib.trimSuffix line.data.toList [10]).toArray⟩
def stepL (st : St) (line : ByteArray) : Int × St := if Lib.hasSuffix line.data.toList [10] then stepW st (wordsS (cutL line)) else (5, st)
/-- The state behind lines that all were taken. -/
def goodL : List ByteArray → Option St := List.foldl (fun o x => match o with | some st => if (stepL st x).1 = 0 then some (stepL st x).2 else none | none => none) (some st0)
theorem goodL_snoc {pre : List ByteArray} {x : ByteArray} {st : St} (h : goodL pre = some st) (h0 : (stepL st x).1 = 0) : goodL (pre ++ [x]) = some (stepL st x).2 := by
  unfold goodL at h ⊢
  rw [List.foldl_append, h]
  simp only [List.foldl_cons, List.foldl_nil, if_pos h0]
def parseF (st : St) (k : Nat) : List ByteArray → Except (Int × Nat) St
  | [] => if k = 0 then .error (5, 0) else .ok st
  | x :: r => if (stepL st x).1 = 0 then parseF (stepL st x).2 (k + 1) r else .error ((stepL st x).1, k)
def parseR (s : ByteArray) : Except (Int × Nat) St := parseF st0 0 (linesB s)
theorem parseF_good : ∀ (pre : List ByteArray) (st st' : St) (k : Nat) (r : List ByteArray), List.foldl (fun o x => match o with | some st => if (stepL st x).1 = 0 then some (stepL st x).2 else none | none => none) (some st) pre = some st' → parseF st k (pre ++ r) = parseF st' (k + pre.length) r
  | [], st, st', k, r, h => by simp at h; subst h; rfl
  | x :: pre, st, st', k, r, h => by
    rw [List.foldl_cons] at h
    by_cases h0 : (stepL st x).1 = 0
    · simp only [if_pos h0] at h
      rw [List.cons_append, parseF, if_pos h0, parseF_good pre _ _ (k + 1) r h, List.length_cons, show k + 1 + pre.length = k + (pre.length + 1) by omega]
    · simp only [if_neg h0] at h
      exfalso
      have : ∀ l : List ByteArray, List.foldl (fun o x => match o with | some st => if (stepL st x).1 = 0 then some (stepL st x).2 else none | none => none) (none : Option St) l = none := fun l => by
        induction l with
        | nil => rfl
        | cons y l ih => rw [List.foldl_cons]; exact ih
      rw [this] at h
      cases h
theorem parseR_good {s : ByteArray} {pre r : List ByteArray} {st : St} (hx : linesB s = pre ++ r) (h : goodL pre = some st) : parseR s = parseF st pre.length r := by
  unfold parseR
  rw [hx, parseF_good pre st0 st 0 r h, Nat.zero_add]
theorem parseR_bad {s : ByteArray} {pre : List ByteArray} {x : ByteArray} {st : St} {E : Int} (hg : goodL pre = some st) (hpre : pre ++ [x] <+: linesB s) (h : (stepL st x).1 = E) (h0 : E ≠ 0) : parseR s = .error (E, pre.length) := by
  obtain ⟨r, hr⟩ := hpre
  rw [parseR_good (pre := pre) (r := x :: r) (by rw [← hr]; simp) hg, parseF, if_neg (by rw [h]; exact h0), h]
def scriptV (st : St) (A : Option Addr) (cap : Nat) : Value := .agg #[.int .i64 st.c, .int .i64 st.a, .int .i64 st.q, .bool st.tw, .string st.m, .slice A st.ts.length cap]
def zeroS : Value := .agg #[.int .i64 0, .int .i64 0, .int .i64 0, .bool false, .string ⟨#[]⟩, .slice none 0 0]
def ParsePost (s : ByteArray) (w : World) (e : Ending) (w' : World) : Prop :=
  Below w.heap.size w w' ∧ match parseR s with
  | .ok st => ∃ A cap, e = .returned (.tuple #[scriptV st A cap, .nilIface]) ∧ w'.ownsRow w.heap.size 59 3 (.slice A st.ts.length cap) st.ts.length (tCells st.ts) ∧ Fit st
  | .error (E, k) => ∃ b, e = .returned (.tuple #[zeroS, .iface 92 (.pointer (some ⟨b, 0, none⟩))]) ∧ w.heap.size ≤ b ∧ w'.heap[b]? = some (.cells #[.int .i64 E, .int .i64 k] 53 (0, 0))

theorem lax_block {W W' : World} {B lo r j : Nat} {o : Obj} (hg : W.grownBy W' (some r)) (hr : r = B ∨ (lo ≤ r ∧ ∃ o : Obj, W.heap[r]? = some o ∧ o.isCells = false)) (hj : j < lo) (hB : j ≠ B) (h : W.heap[j]? = some o) : W'.heap[j]? = some o :=
  (hg.block j (Array.getElem?_eq_some_iff.1 h).1 (fun e => by cases e; rcases hr with e | e; exact hB e; omega)).trans h
theorem lax_below {n₀ : Nat} {w W W' : World} {B lo r : Nat} (h : Below n₀ w W) (hn : n₀ ≤ W.heap.size) (hg : W.grownBy W' (some r)) (hr : r = B ∨ (lo ≤ r ∧ ∃ o : Obj, W.heap[r]? = some o ∧ o.isCells = false)) (h1 : n₀ ≤ B) (h2 : n₀ ≤ lo) : Below n₀ w W' :=
  h.grown hg hn (fun k e => by cases e; rcases hr with e | e <;> omega)
theorem lax_st {W W' : World} {B lo r rb base : Nat} {st : St} (hg : W.grownBy W' (some r)) (hr : r = B ∨ (lo ≤ r ∧ ∃ o : Obj, W.heap[r]? = some o ∧ o.isCells = false)) (h1 : rb < lo) (h2 : rb ≠ B) (h3 : B < base) (h : StAt W rb base st) : StAt W' rb base st := by
  obtain ⟨v, hR, hown⟩ := h
  refine ⟨v, lax_block hg hr h1 h2 hR, hown.kept (row := some r) hg ?_⟩
  cases hv : v.ownBlock with
  | none => exact .inl rfl
  | some g =>
    refine .inr (fun e => ?_)
    obtain rfl : g = r := Option.some.inj e
    rcases hr with e | ⟨_, o, ho, hc⟩
    · have := (hown.lt g hv).1; omega
    · obtain ⟨o', ho', hc'⟩ := own_cells hown hv
      rw [ho] at ho'; cases ho'; rw [hc] at hc'; cases hc'
theorem at_new (w : World) (o : Obj) (k : Nat) (h : w.heap.size = k) : (w.alloc o).heap[k]? = some o := by subst h; exact World.alloc_heap_new w o
theorem chain6 (w : World) (a b c d e f : Obj) (N : Nat) (hN : w.heap.size = N) :
    ((((((w.alloc a).alloc b).alloc c).alloc d).alloc e).alloc f).heap.size = N + 6 ∧ ((((((w.alloc a).alloc b).alloc c).alloc d).alloc e).alloc f).heap[N]? = some a ∧ ((((((w.alloc a).alloc b).alloc c).alloc d).alloc e).alloc f).heap[N + 1]? = some b ∧
    ((((((w.alloc a).alloc b).alloc c).alloc d).alloc e).alloc f).heap[N + 2]? = some c ∧ ((((((w.alloc a).alloc b).alloc c).alloc d).alloc e).alloc f).heap[N + 3]? = some d ∧ ((((((w.alloc a).alloc b).alloc c).alloc d).alloc e).alloc f).heap[N + 4]? = some e ∧
    ((((((w.alloc a).alloc b).alloc c).alloc d).alloc e).alloc f).heap[N + 5]? = some f ∧ Below N w ((((((w.alloc a).alloc b).alloc c).alloc d).alloc e).alloc f) := by
  subst hN
  refine ⟨by simp, ?_, ?_, ?_, ?_, ?_, ?_, ?_⟩
  iterate 6 (repeat (first | exact at_new _ _ _ (by simp) | refine (Below.heap_alloc _ _ _ (by simp <;> omega)).trans ?_))
  exact ((((((Below.refl _ w).alloc (Nat.le_refl _) _).alloc (by simp) _).alloc (by simp; omega) _).alloc (by simp; omega) _).alloc (by simp; omega) _).alloc (by simp; omega) _
theorem mem_flat {l : List (List UInt8)} {x : List UInt8} (h : x ∈ l) : x.length ≤ l.flatten.length := by
  induction l with
  | nil => cases h
  | cons y l ih =>
    rw [List.flatten_cons, List.length_append]
    rcases List.mem_cons.1 h with rfl | h
    · omega
    · have := ih h; omega
theorem linesL_len : ∀ (l : List UInt8), (linesL l).length ≤ l.length
  | [] => Nat.le_refl _
  | c :: r => by
    have ih := linesL_len r
    unfold linesL
    split
    · simp; exact ih
    · split
      · simp
      · rename_i h; rw [h] at ih; simp at ih ⊢; omega
theorem lines_len (s : ByteArray) : (linesB s).length ≤ s.size := by
  unfold linesB
  have := linesL_len s.data.toList
  simpa using this
theorem splitB_size (sep : ByteArray) : ∀ (k : Nat) (s y : ByteArray), y ∈ Lib.splitB sep 0 k s → y.size ≤ s.size
  | 0, s, y, h => by simp [Lib.splitB] at h; rw [h]; exact Nat.le_refl _
  | k + 1, s, y, h => by
    unfold Lib.splitB at h
    split at h
    · simp at h; rw [h]; exact Nat.le_refl _
    · rcases List.mem_cons.1 h with rfl | h
      · simp [ByteArray.size_extract]; omega
      · have := splitB_size sep k _ y h
        simp [ByteArray.size_extract] at this
        omega
theorem wordsS_len (b : ByteArray) : (wordsS b).length = Lib.countB b spB + 1 := Lib.splitB_all spB (by decide) 0 _ b rfl
theorem words_count (b : ByteArray) : Lib.countB b spB ≤ b.size := Lib.countB_le spB (by decide) _ b (Nat.le_refl _)
theorem cutL_size (x : ByteArray) : (cutL x).size ≤ x.size := by
  unfold cutL Lib.trimSuffix
  split
  · rw [show ∀ l : List UInt8, (⟨l.toArray⟩ : ByteArray).size = l.length from fun _ => rfl]; simp
  · simp
theorem line_size {s x : ByteArray} (h : x ∈ linesB s) : x.size ≤ s.size := by
  unfold linesB at h
  obtain ⟨l, hl, rfl⟩ := List.mem_map.1 h
  have := mem_flat hl
  rw [linesL_join] at this
  rw [show (⟨l.toArray⟩ : ByteArray).size = l.length from rfl]
  simpa using this
def zeroC : Array Value := #[.int .i64 0, .int .i64 0, .int .i64 0, .bool false, .string ⟨#[]⟩, .slice none 0 0]
def PI (w : World) (N : Nat) (pre : List ByteArray) (W : World) : Prop := ∃ st, goodL pre = some st ∧ Fit st ∧ StAt W (N + 2) (N + 6) st ∧ W.heap[N]? = some (.cells zeroC 36 (0, 0)) ∧ W.heap[N + 1]? = some (.cells #[.nilIface] 45 (0, 0)) ∧
  W.heap[N + 3]? = some (.cells #[.pointer (some ⟨N + 2, 0, none⟩)] 81 (0, 0)) ∧ W.heap[N + 4]? = some (.cells #[.int .i64 pre.length] 3 (0, 0)) ∧ Below N w W ∧ N + 6 ≤ W.heap.size
def PX (s : ByteArray) (w : World) (N : Nat) (_ : List ByteArray) (W : World) : Prop := ∃ (E : Int) (k b : Nat), parseR s = .error (E, k) ∧ W.heap[N]? = some (.cells zeroC 36 (0, 0)) ∧ W.heap[N + 1]? = some (.cells #[.iface 92 (.pointer (some ⟨b, 0, none⟩))] 45 (0, 0)) ∧
  N + 6 ≤ b ∧ W.heap[b]? = some (.cells #[.int .i64 E, .int .i64 k] 53 (0, 0)) ∧ Below N w W ∧ N + 6 ≤ W.heap.size
theorem pi_lax (w : World) (N : Nat) : LaxL (N + 5) (N + 6) (PI w N) := by
  rintro pre W W' r ⟨st, hg, hf, hs, h0, h1, h3, h4, hb, hz⟩ hgr hr
  exact ⟨st, hg, hf, lax_st hgr hr (by omega) (by omega) (by omega) hs, lax_block hgr hr (by omega) (by omega) h0, lax_block hgr hr (by omega) (by omega) h1, lax_block hgr hr (by omega) (by omega) h3, lax_block hgr hr (by omega) (by omega) h4, lax_below hb (by omega) hgr hr (by omega) (by omega), Nat.le_trans hz hgr.size⟩
theorem px_lax (s : ByteArray) (w : World) (N : Nat) : LaxL (N + 5) (N + 6) (PX s w N) := by
  rintro pre W W' r ⟨E, k, b, hp, h0, h1, hbN, hb, hB, hz⟩ hgr hr
  refine ⟨E, k, b, hp, lax_block hgr hr (by omega) (by omega) h0, lax_block hgr hr (by omega) (by omega) h1, hbN, ?_, lax_below hB (by omega) hgr hr (by omega) (by omega), Nat.le_trans hz hgr.size⟩
  refine (hgr.block b (Array.getElem?_eq_some_iff.1 hb).1 (fun e => ?_)).trans hb
  cases e
  rcases hr with e | ⟨_, o, ho, hc⟩
  · omega
  · rw [hb] at ho; cases ho; cases hc
/-- The cells of 'return Script{}, &Error{E, k}'. -/
def errW0 (W : World) (N : Nat) (E k : Int) : World := (((((((W.setCell ⟨N, 0, none⟩ (.int .i64 0)).setCell ⟨N, 1, none⟩ (.int .i64 0)).setCell ⟨N, 2, none⟩ (.int .i64 0)).setCell ⟨N, 3, none⟩ (.bool false)).setCell ⟨N, 4, none⟩ (.string ⟨#[]⟩)).setCell ⟨N, 5, none⟩ (.slice none 0 0)).setCell
  ⟨N + 1, 0, none⟩ (.iface 92 (.pointer (some ⟨W.heap.size, 0, none⟩)))).alloc (.cells #[.int .i64 E, .int .i64 k] 53)
def errW (W : World) (N : Nat) (E k : Int) : World := (errW0 W N E k).drew
theorem fit_stepL {st : St} {x : ByteArray} (h : Fit st) (h0 : (stepL st x).1 = 0) : Fit (stepL st x).2 := by
  unfold stepL at h0 ⊢
  split
  · rename_i hs
    rw [if_pos hs] at h0
    exact fit_stepW h h0
  · exact h
theorem size_set (W : World) (p : Addr) (v : Value) : (W.setCell p v).heap.size = W.heap.size := by simp [World.setCell]
theorem px_end0 {s : ByteArray} {w W : World} {N : Nat} {l : List ByteArray} {E : Int} {k : Nat} (hp : parseR s = .error (E, k)) (h0 : W.heap[N]? = some (.cells zeroC 36 (0, 0))) (h1 : W.heap[N + 1]? = some (.cells #[.nilIface] 45 (0, 0))) (hb : Below N w W) (hz : N + 6 ≤ W.heap.size) :
    KeepsOthers W (errW0 W N E k) ∧ PX s w N l (errW0 W N E k) := by
  have a0 := heap_setCell_same (j := 5) (heap_setCell_same (j := 4) (heap_setCell_same (j := 3) (heap_setCell_same (j := 2) (heap_setCell_same (j := 1) (heap_setCell_same (j := 0) h0 (.int .i64 0)) (.int .i64 0)) (.int .i64 0)) (.bool false)) (.string ⟨#[]⟩)) (.slice none 0 0)
  obtain ⟨X, hX⟩ : ∃ X, ((((((W.setCell ⟨N, 0, none⟩ (.int .i64 0)).setCell ⟨N, 1, none⟩ (.int .i64 0)).setCell ⟨N, 2, none⟩ (.int .i64 0)).setCell ⟨N, 3, none⟩ (.bool false)).setCell ⟨N, 4, none⟩ (.string ⟨#[]⟩)).setCell ⟨N, 5, none⟩ (.slice none 0 0)) = X := ⟨_, rfl⟩
  have hXs : X.heap.size = W.heap.size := by rw [← hX]; simp only [size_set]
  have hX1 : X.heap[N + 1]? = some (.cells #[.nilIface] 45 (0, 0)) := by
    rw [← hX]
    iterate 6 rw [Below.heap_setCell _ _ _ _ (by simp)]
    exact h1
  have hXK : KeepsOthers W X := by
    rw [← hX]
    exact (((((KeepsOthers.setCell _ _ _).trans (KeepsOthers.setCell _ _ _)).trans (KeepsOthers.setCell _ _ _)).trans (KeepsOthers.setCell _ _ _)).trans (KeepsOthers.setCell _ _ _)).trans (KeepsOthers.setCell _ _ _)
  have hXB : Below N w X := by
    rw [← hX]
    exact (((((hb.setCell (p := ⟨N, 0, none⟩) (Nat.le_refl _) _).setCell (p := ⟨N, 1, none⟩) (Nat.le_refl _) _).setCell (p := ⟨N, 2, none⟩) (Nat.le_refl _) _).setCell (p := ⟨N, 3, none⟩) (Nat.le_refl _) _).setCell (p := ⟨N, 4, none⟩) (Nat.le_refl _) _).setCell (p := ⟨N, 5, none⟩) (Nat.le_refl _) _
  rw [hX] at a0
  unfold errW0
  rw [hX]
  have hY1 := heap_setCell_same (j := 0) hX1 (.iface 92 (.pointer (some ⟨W.heap.size, 0, none⟩)))
  have hY0 : (X.setCell ⟨N + 1, 0, none⟩ (.iface 92 (.pointer (some ⟨W.heap.size, 0, none⟩)))).heap[N]? = some (.cells zeroC 36 (0, 0)) := (Below.heap_setCell _ _ _ _ (by simp)).trans a0
  have hYs : (X.setCell ⟨N + 1, 0, none⟩ (.iface 92 (.pointer (some ⟨W.heap.size, 0, none⟩)))).heap.size = W.heap.size := by rw [size_set, hXs]
  have hYB := hXB.setCell (p := ⟨N + 1, 0, none⟩) (by simp) (.iface 92 (.pointer (some ⟨W.heap.size, 0, none⟩)))
  refine ⟨(hXK.trans (KeepsOthers.setCell _ _ _)).trans (KeepsOthers.alloc _ _), E, k, W.heap.size, hp, ?_, ?_, hz, ?_, ?_, ?_⟩
  · exact (Below.heap_alloc _ _ _ (by rw [hYs]; omega)).trans hY0
  · exact (Below.heap_alloc _ _ _ (by rw [hYs]; omega)).trans hY1
  · exact at_new _ _ _ hYs
  · exact hYB.alloc (by rw [hYs]; omega) _
  · show N + 6 ≤ (World.alloc _ _).heap.size
    rw [World.size_alloc, hYs]; omega
theorem px_end {s : ByteArray} {w W : World} {N : Nat} {l : List ByteArray} {E : Int} {k : Nat} (hp : parseR s = .error (E, k)) (h0 : W.heap[N]? = some (.cells zeroC 36 (0, 0))) (h1 : W.heap[N + 1]? = some (.cells #[.nilIface] 45 (0, 0))) (hb : Below N w W) (hz : N + 6 ≤ W.heap.size) :
    KeepsOthers W (errW W N E k) ∧ PX s w N l (errW W N E k) := by
  obtain ⟨h, E', k', b, p1, p2, p3, p4, p5, p6, p7⟩ := px_end0 (l := l) hp h0 h1 hb hz
  exact ⟨h.trans (KeepsOthers.drew _), E', k', b, p1, p2, p3, p4, p5, p6.drew, p7⟩
theorem results_two (fn : Func) {p q : Tmp} {ty ty2 : TypeId} (h : fn.results = #[.cell p ty, .cell q ty2]) (tmps : Array Value) (P : Program) (v : Nat) (g k : Nat) (hp : tmps.getD p undef = .pointer (some ⟨g, 0, none⟩)) (hq : tmps.getD q undef = .pointer (some ⟨k, 0, none⟩)) (x y : Value) (w : World)
    (h1 : (loadVar ty ⟨g, 0, none⟩).run P w = .ok x w) (h2 : (loadVar ty2 ⟨k, 0, none⟩).run P w = .ok y w) : (results fn tmps).run P w = .ok (.tuple #[x, y]) w := by
  have hp' : tmps[p]?.getD undef = .pointer (some ⟨g, 0, none⟩) := by simpa using hp
  have hq' : tmps[q]?.getD undef = .pointer (some ⟨k, 0, none⟩) := by simpa using hq
  simp [results, h, hp', hq', asAddr, h1, h2, Sem.run_bind, Result.andThen]
theorem own_mono {w : World} {base base' : Nat} {e : TypeId} {size : Nat} {v : Value} {n : Nat} {xs : List Value} (h : w.ownsRow base e size v n xs) (hb : base' ≤ base) : w.ownsRow base' e size v n xs :=
  ⟨h.1, h.2.imp id fun ⟨g, cap, cur, h1, h2, h3⟩ => ⟨g, cap, cur, h1, Nat.le_trans hb h2, h3⟩⟩
theorem px_leave {s : ByteArray} {w X : World} {N D : Nat} {l : List ByteArray} {tmps : Array Value} (h : PX s w N l X) (hK : X.heap[D]? = some (.deferred (some []))) (hD : N + 6 ≤ D) (hN : w.heap.size = N) (h2 : tmps.getD 2 undef = .pointer (some ⟨N, 0, none⟩)) (h3 : tmps.getD 3 undef = .pointer (some ⟨N + 1, 0, none⟩)) :
    LeavesInM Fence.wide 8 Tryz.prog Tryz.f13 tmps (ParsePost s w) [] .returning (X.putObj D (.deferred none)) := by
  obtain ⟨E, k, b, hp, h0, h1, hbN, hb, hbW, hz⟩ := h
  have far : ∀ {j : Nat} {o : Obj}, X.heap[j]? = some o → o.isCells = true → (X.putObj D (.deferred none)).heap[j]? = some o := fun {j} {o} hj hc =>
    (World.putObj_heap_other (by rintro rfl; rw [hK] at hj; cases hj; cases hc)).trans hj
  have g0 := far h0 rfl
  have g1 := far h1 rfl
  have gb := far hb rfl
  have hB : Below N w (X.putObj D (.deferred none)) := hbW.grown (grownBy_putObj' X D _) (by omega) (fun k e => by cases e; omega)
  have c1 : (X.putObj D (.deferred none)).cell? ⟨N + 1, 0, none⟩ = some (.iface 92 (.pointer (some ⟨b, 0, none⟩))) := by rw [Lib.cell_of_heap g1]; rfl
  generalize X.putObj D (.deferred none) = Y at g0 g1 gb hB c1 ⊢
  refine ⟨.tuple #[zeroS, .iface 92 (.pointer (some ⟨b, 0, none⟩))], ?_, ?_⟩
  · exact results_two Tryz.f13 rfl tmps _ 0 N (N + 1) h2 h3 _ _ Y (run_loadVar_row Y N 36 36 zeroC (0, 0) _ g0 Tryz.underlying36 rfl (by kernel_rfl)) (by simp [go_sem, c1])
  · subst hN
    unfold ParsePost
    rw [hp]
    exact ⟨hB, b, rfl, by omega, gb⟩
/-- The script that was read, handed back. -/
theorem ps_leave {s : ByteArray} {w X : World} {N D : Nat} {st : St} {Av : Option Addr} {cv : Nat} {tmps : Array Value} (hp : parseR s = .ok st) (hfit : Fit st)
    (h0 : X.heap[N]? = some (.cells #[.int .i64 st.c, .int .i64 st.a, .int .i64 st.q, .bool st.tw, .string st.m, .slice Av st.ts.length cv] 36 (0, 0))) (h1 : X.heap[N + 1]? = some (.cells #[.nilIface] 45 (0, 0)))
    (hown : X.ownsRow (N + 6) 59 3 (.slice Av st.ts.length cv) st.ts.length (tCells st.ts)) (hbW : Below N w X) (hz : N + 6 ≤ X.heap.size)
    (hK : X.heap[D]? = some (.deferred (some []))) (hD : N + 6 ≤ D) (hN : w.heap.size = N) (h2 : tmps.getD 2 undef = .pointer (some ⟨N, 0, none⟩)) (h3 : tmps.getD 3 undef = .pointer (some ⟨N + 1, 0, none⟩)) :
    LeavesInM Fence.wide 8 Tryz.prog Tryz.f13 tmps (ParsePost s w) [] .returning (X.putObj D (.deferred none)) := by
  have far : ∀ {j : Nat} {o : Obj}, X.heap[j]? = some o → o.isCells = true → (X.putObj D (.deferred none)).heap[j]? = some o := fun {j} {o} hj hc =>
    (World.putObj_heap_other (by rintro rfl; rw [hK] at hj; cases hj; cases hc)).trans hj
  have g0 := far h0 rfl
  have g1 := far h1 rfl
  have hB : Below N w (X.putObj D (.deferred none)) := hbW.grown (grownBy_putObj' X D _) (by omega) (fun k e => by cases e; omega)
  have c1 : (X.putObj D (.deferred none)).cell? ⟨N + 1, 0, none⟩ = some .nilIface := by rw [Lib.cell_of_heap g1]; rfl
  have ho : (X.putObj D (.deferred none)).ownsRow (N + 6) 59 3 (.slice Av st.ts.length cv) st.ts.length (tCells st.ts) := ownsRow_putObj hown _ hK rfl
  generalize X.putObj D (.deferred none) = Y at g0 g1 hB c1 ho ⊢
  refine ⟨.tuple #[scriptV st Av cv, .nilIface], ?_, ?_⟩
  · exact results_two Tryz.f13 rfl tmps _ 0 N (N + 1) h2 h3 _ _ Y (run_loadVar_row Y N 36 36 _ (0, 0) _ g0 Tryz.underlying36 rfl (by kernel_rfl)) (by simp [go_sem, c1])
  · subst hN
    unfold ParsePost
    rw [hp]
    exact ⟨hB, Av, cv, rfl, own_mono ho (by omega), hfit⟩
/-- The cells of 'return r.s, nil'. -/
def okW (W : World) (N : Nat) (st : St) (Av : Option Addr) (cv : Nat) : World := ((((((W.setCell ⟨N, 0, none⟩ (.int .i64 st.c)).setCell ⟨N, 1, none⟩ (.int .i64 st.a)).setCell ⟨N, 2, none⟩ (.int .i64 st.q)).setCell ⟨N, 3, none⟩ (.bool st.tw)).setCell ⟨N, 4, none⟩ (.string st.m)).setCell ⟨N, 5, none⟩ (.slice Av st.ts.length cv)).setCell ⟨N + 1, 0, none⟩ .nilIface
theorem okW_has {w W : World} {N : Nat} {st : St} {Av : Option Addr} {cv : Nat} (h0 : W.heap[N]? = some (.cells zeroC 36 (0, 0))) (h1 : W.heap[N + 1]? = some (.cells #[.nilIface] 45 (0, 0))) (hb : Below N w W) (hz : N + 6 ≤ W.heap.size)
    (hown : W.ownsRow (N + 6) 59 3 (.slice Av st.ts.length cv) st.ts.length (tCells st.ts)) :
    (okW W N st Av cv).heap[N]? = some (.cells #[.int .i64 st.c, .int .i64 st.a, .int .i64 st.q, .bool st.tw, .string st.m, .slice Av st.ts.length cv] 36 (0, 0)) ∧ (okW W N st Av cv).heap[N + 1]? = some (.cells #[.nilIface] 45 (0, 0)) ∧
    (okW W N st Av cv).ownsRow (N + 6) 59 3 (.slice Av st.ts.length cv) st.ts.length (tCells st.ts) ∧ Below N w (okW W N st Av cv) ∧ N + 6 ≤ (okW W N st Av cv).heap.size ∧ KeepsOthers W (okW W N st Av cv) := by
  have a0 := heap_setCell_same (j := 5) (heap_setCell_same (j := 4) (heap_setCell_same (j := 3) (heap_setCell_same (j := 2) (heap_setCell_same (j := 1) (heap_setCell_same (j := 0) h0 (.int .i64 st.c)) (.int .i64 st.a)) (.int .i64 st.q)) (.bool st.tw)) (.string st.m)) (.slice Av st.ts.length cv)
  have own1 : ∀ {X : World} {b j : Nat} {v : Value}, b < N + 6 → X.ownsRow (N + 6) 59 3 (.slice Av st.ts.length cv) st.ts.length (tCells st.ts) → (X.setCell ⟨b, j, none⟩ v).ownsRow (N + 6) 59 3 (.slice Av st.ts.length cv) st.ts.length (tCells st.ts) := fun {X} {b} {j} {v} hp h =>
    h.kept (row := some b) (grown_setCell (grown_refl X _) _) (by
      cases he : (Value.slice Av st.ts.length cv).ownBlock with
      | none => exact .inl rfl
      | some g => exact .inr (fun e => by have := (h.lt g he).1; rw [Option.some.inj e] at this; omega))
  unfold okW
  obtain ⟨X, hX⟩ : ∃ X, ((((((W.setCell ⟨N, 0, none⟩ (.int .i64 st.c)).setCell ⟨N, 1, none⟩ (.int .i64 st.a)).setCell ⟨N, 2, none⟩ (.int .i64 st.q)).setCell ⟨N, 3, none⟩ (.bool st.tw)).setCell ⟨N, 4, none⟩ (.string st.m)).setCell ⟨N, 5, none⟩ (.slice Av st.ts.length cv)) = X := ⟨_, rfl⟩
  have hXs : X.heap.size = W.heap.size := by rw [← hX]; simp only [size_set]
  have hX1 : X.heap[N + 1]? = some (.cells #[.nilIface] 45 (0, 0)) := by
    rw [← hX]
    iterate 6 rw [Below.heap_setCell _ _ _ _ (by simp)]
    exact h1
  have hXK : KeepsOthers W X := by
    rw [← hX]
    exact (((((KeepsOthers.setCell _ _ _).trans (KeepsOthers.setCell _ _ _)).trans (KeepsOthers.setCell _ _ _)).trans (KeepsOthers.setCell _ _ _)).trans (KeepsOthers.setCell _ _ _)).trans (KeepsOthers.setCell _ _ _)
  have hXB : Below N w X := by
    rw [← hX]
    exact (((((hb.setCell (p := ⟨N, 0, none⟩) (Nat.le_refl _) _).setCell (p := ⟨N, 1, none⟩) (Nat.le_refl _) _).setCell (p := ⟨N, 2, none⟩) (Nat.le_refl _) _).setCell (p := ⟨N, 3, none⟩) (Nat.le_refl _) _).setCell (p := ⟨N, 4, none⟩) (Nat.le_refl _) _).setCell (p := ⟨N, 5, none⟩) (Nat.le_refl _) _
  have hXo : X.ownsRow (N + 6) 59 3 (.slice Av st.ts.length cv) st.ts.length (tCells st.ts) := by
    rw [← hX]
    iterate 6 refine own1 (by omega) ?_
    exact hown
  rw [hX] at a0 ⊢
  refine ⟨(Below.heap_setCell _ _ _ _ (by simp)).trans a0, heap_setCell_same (j := 0) hX1 .nilIface, own1 (by omega) hXo, hXB.setCell (p := ⟨N + 1, 0, none⟩) (by simp) _, by rw [size_set, hXs]; exact hz, hXK.trans (KeepsOthers.setCell _ _ _)⟩
end Go.Proofs.YtiojkmknikfhoaaGreatDoor
