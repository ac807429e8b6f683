/- A range over a function whose iterator keeps its state in one box: the law, and strings.Lines. -/
import Derived.RangeFuncNested
import Derived.RangeFuncBound
import Derived.RangeFuncCalls
import Derived.RangeFuncLeaves
import Derived.Shelf.Abstract
import Derived.Shelf.RegionOpen
import Derived.WalkKit
import Derived.OwnWalkIn
import Derived.TacticsInMore
import Derived.LoopNIn
import Derived.LoopIn
import Derived.Test.YtiojkmknikfhoaaGreatDoorK
namespace Go.Proofs.YtiojkmknikfhoaaGreatDoor
set_option linter.unusedVariables false
set_option linter.unusedSimpArgs false
open Go.RowKit Go.Shelf

/-- J does not mind what becomes of block B, nor new blocks. -/
def LaxB {α : Type} (B : Nat) (J : List α → World → Prop) : Prop := ∀ s W W', J s W → W.grownBy W' (some B) → J s W'
/-- Nor blocks from lo on that hold no cells. -/
def LaxL {α : Type} (B lo : Nat) (I : List α → World → Prop) : Prop := ∀ s W W' r, I s W → W.grownBy W' (some r) → (r = B ∨ (lo ≤ r ∧ ∃ o : Obj, W.heap[r]? = some o ∧ o.isCells = false)) → I s W'

/-- The contract of an iterator that hands out xs and keeps its place in block B. -/
def SeqBox {α : Type} (F : Fence) (n : Nat) (P : Program) (gf : Nat) (lb : Array Value) (encs : α → Array Value) (B : Nat) (xs : List α) (w : World) : Prop :=
  ∀ (l : Nat) (J Jx : List α → World → Prop) (W : World), W.heap[B]? = w.heap[B]? → w.heap.size ≤ W.heap.size → LaxB B J → LaxB B Jx →
    (∀ pre x W1, J pre W1 → pre ++ [x] <+: xs → YieldAt F (n - 1) P l (encs x) W1 fun e W' =>
      (e = .returned (.bool true) ∧ J (pre ++ [x]) W' ∧ W1.heap.size ≤ W'.heap.size ∧ W'.heap[B]? = W1.heap[B]?) ∨ (e = .returned (.bool false) ∧ Jx (pre ++ [x]) W')) →
    J [] W →
    CallsIn F n P gf (#[.func (.yield l) #[] #[]] ++ lb) W fun e W' => (∃ v, e = .returned v) ∧ (J xs W' ∨ ∃ pre, Jx pre W')

/-- How a round's body is left: off its end, or by 'return'. -/
def boxPost {α : Type} (B : Nat) (I Ix : List α → World → Prop) (s : List α) (W : World) : Exit → Act → World → Prop
  | .normal, _, W' => KeepsOthers W W' ∧ W'.heap[B]? = W.heap[B]? ∧ I s W'
  | .ret, _, W' => KeepsOthers W W' ∧ Ix s W'
  | _, _, _ => False

theorem LaxL.put {α : Type} {B lo : Nat} {I : List α → World → Prop} (h : LaxL B lo I) {s : List α} {W : World} {l : Nat} {o : Obj} (o' : Obj) (hs : I s W) (hlo : lo ≤ l) (hl : W.heap[l]? = some o) (ho : o.isCells = false) : I s (W.putObj l o') :=
  h s W _ l hs (grownBy_putObj' W l o') (.inr ⟨hlo, o, hl, ho⟩)
theorem LaxL.alloc {α : Type} {B lo : Nat} {I : List α → World → Prop} (h : LaxL B lo I) {s : List α} {W : World} (o : Obj) (hs : I s W) : I s (W.alloc o) :=
  h s W _ B hs ((World.grownBy_alloc W o none).but _) (.inl rfl)

variable {F : Fence} {n : Nat} {P : Program}
theorem wpIn_rangeFunc_box {α : Type} {g : Operand} {ps : Array Tmp} {assign body : Code} {Q : Exit → Act → World → Prop} {a : Act} {w : World}
    (hro : F.round = none) (h1 : 1 ≤ n) {gf : Nat} {lb : Array Value} (hg : a.eval g = .func (.func gf) #[] lb) (hFg : F.fn gf) (eg : ∀ args w, (callFunc gf args).run P w = .ok (.enter gf args) w)
    {encs : α → Array Value} {B : Nat} {xs : List α} (hB : B < w.heap.size) (hseq : SeqBox F (n - 1) P gf lb encs B xs w) (hps : ∀ x, (encs x).size = ps.size)
    (I Ix : List α → World → Prop) (hI : LaxL B w.heap.size I) (hIx : LaxL B w.heap.size Ix) (h0 : I [] w) (a₁ : α → Act)
    (hassign : ∀ (l : Nat) (x : α) (W : World) (K : Act → World → Prop), K (a₁ x) W →
      assign.wpIn (F.inRound l) (n - 1 - 1) P (Exit.then K (fun _ _ _ => False)) { tmps := (ps.zip (encs x)).foldl (fun t (p, v) => t.setIfInBounds p v) a.tmps, defers := [] } W)
    (hbody : ∀ (l : Nat) (pre : List α) (x : α) (W : World), I pre W → pre ++ [x] <+: xs → body.wpIn (F.inRound l) (n - 1 - 1) P (boxPost B I Ix (pre ++ [x]) W) (a₁ x) W)
    (hdone : ∀ (D : Nat) (W : World), w.heap.size ≤ D → I xs W → W.heap[D]? = some (.deferred (some [])) → Q .normal { a with defers := { target := .collected D, args := #[] } :: a.defers } W)
    (hstop : ∀ (D : Nat) (pre : List α) (W : World), w.heap.size ≤ D → Ix pre W → W.heap[D]? = some (.deferred (some [])) → Code.ret.wpIn F n P Q { a with defers := { target := .collected D, args := #[] } :: a.defers } W) :
    (Code.rangeFunc g ps assign body).wpIn F n P Q a w := by
  refine wpIn_rangeFunc fun fn hfn => ?_
  rw [hro]
  let rec' : LoopState → Option Code → Loop := fun st pe => { state := st, pending := pe, fn, tmps := a.tmps, params := ps, assign, body, defers := w.heap.size }
  obtain ⟨rec, hrec⟩ : ∃ rec, rec = rec' := ⟨_, rfl⟩
  let D := w.heap.size
  let l := w.heap.size + 1
  obtain ⟨W0, hW0⟩ : ∃ W0, (w.alloc (.deferred (some []))).alloc (.loop (rec .ready none)) = W0 := ⟨_, rfl⟩
  have hD0 : W0.heap[D]? = some (.deferred (some [])) := by rw [← hW0]; exact (Below.heap_alloc _ _ _ (by simp [D])).trans (World.alloc_heap_new w _)
  have hl0 : W0.heap[l]? = some (.loop (rec .ready none)) := by
    rw [← hW0]; have := World.alloc_heap_new (w.alloc (.deferred (some []))) (.loop (rec .ready none)); rwa [World.size_alloc] at this
  have hBW : W0.heap[B]? = w.heap[B]? := by rw [← hW0]; exact (Below.heap_alloc _ _ _ (by simp; omega)).trans (Below.heap_alloc _ _ _ hB)
  have hsz : w.heap.size ≤ W0.heap.size := by rw [← hW0]; simp; omega
  have hI0 : I [] W0 := by rw [← hW0]; exact hI.alloc _ (hI.alloc _ h0)
  have far : ∀ {A C : World} {k : Nat} {o : Obj}, A.grownBy C (some B) → D ≤ k → A.heap[k]? = some o → C.heap[k]? = some o := fun hg hk ho =>
    (hg.block _ (Array.getElem?_eq_some_iff.1 ho).1 (by intro e; cases e; simp only [D] at hk; omega)).trans ho
  refine ⟨l, [{ target := .collected D, args := #[] }], W0, { target := .fn (.func gf) lb, args := #[.func (.yield l) #[] #[]] }, W0, gf, #[.func (.yield l) #[] #[]] ++ lb, W0, ?_, ?_, ?_, ?_, fun _ => h1, ?_⟩
  · rw [← hW0, hrec]; exact run_enterLoop_outer _ _ _ _ _
  · simp only [resolve, hg]
    simp [go_sem]
  · intro f' hf'; simp [Target.leads] at hf'; subst hf'; exact hFg
  · simp [invoke, go_sem, eg]
  · have main := hseq l
      (fun s W => I s W ∧ W.heap[l]? = some (.loop (rec .ready none)) ∧ W.heap[D]? = some (.deferred (some [])))
      (fun s W => Ix s W ∧ W.heap[l]? = some (.loop (rec .done (some .ret))) ∧ W.heap[D]? = some (.deferred (some [])))
      W0 hBW hsz
      (fun s A C hs hg' => ⟨hI s A C B hs.1 hg' (.inl rfl), far hg' (by simp [D, l]) hs.2.1, far hg' (Nat.le_refl _) hs.2.2⟩)
      (fun s A C hs hg' => ⟨hIx s A C B hs.1 hg' (.inl rfl), far hg' (by simp [D, l]) hs.2.1, far hg' (Nat.le_refl _) hs.2.2⟩)
      ?round ⟨hI0, hl0, hD0⟩
    case round =>
      rintro pre x W ⟨hi, hl, hd⟩ hpre
      have hy := run_yield (P := P) (args := encs x) hl (by rw [hrec]; exact hps x)
      rw [hrec] at hy
      refine ⟨fn, _, assign, body, hy, roundIn_of_wpIn hfn (hassign l x W _ ⟨_, run_beginRound hl (by rw [hrec]), ?_⟩)⟩
      obtain ⟨W1, hW1⟩ : ∃ W1, W.putObj l (.loop { rec .ready none with state := .busy }) = W1 := ⟨_, rfl⟩
      have hl1 : W1.heap[l]? = some (.loop { rec .ready none with state := .busy }) := by rw [← hW1]; exact World.putObj_heap_same (Array.getElem?_eq_some_iff.1 hl).1
      have hd1 : W1.heap[D]? = some (.deferred (some [])) := by rw [← hW1]; exact (World.putObj_heap_other (by simp [D, l])).trans hd
      have hB1 : W1.heap[B]? = W.heap[B]? := by rw [← hW1]; exact World.putObj_heap_other (by simp [l]; omega)
      have hs1 : W.heap.size ≤ W1.heap.size := by rw [← hW1]; simp
      have hi1 : I pre W1 := by rw [← hW1]; exact hI.put _ hi (by simp [l]) hl rfl
      have hbd := hbody l pre x W1 hi1 hpre
      rw [← hW1] at hbd
      refine wpIn_mono hbd ?_
      rw [hW1]
      have turn : ∀ (jump : Option Code) (W3 : World), KeepsOthers W1 W3 →
          (Instr.endRound l jump).run P W3 = .ok (.bool jump.isNone) (W3.putObj l (.loop (rec (if jump.isNone then .ready else .done) jump))) ∧ W3.heap[l]? = some (.loop { rec .ready none with state := .busy }) ∧
          (W3.putObj l (.loop (rec (if jump.isNone then .ready else .done) jump))).heap[l]? = some (.loop (rec (if jump.isNone then .ready else .done) jump)) ∧
          (W3.putObj l (.loop (rec (if jump.isNone then .ready else .done) jump))).heap[D]? = some (.deferred (some [])) := fun jump W3 hk => by
        have hl3 := hk.same _ _ hl1 rfl
        have hr := run_endRound (P := P) jump hl3
        rw [hrec] at hr hl3 ⊢
        exact ⟨hr, hl3, World.putObj_heap_same (Array.getElem?_eq_some_iff.1 hl3).1, (World.putObj_heap_other (by simp [D, l])).trans (hk.same _ _ hd1 rfl)⟩
      rintro e a3 W3 hp
      cases e with
      | normal =>
        obtain ⟨hk, hb3, hi3⟩ := hp
        obtain ⟨hr, hl3, hl4, hd4⟩ := turn none W3 hk
        exact ⟨_, _, hr, .inl ⟨rfl, ⟨hI.put _ hi3 (by simp [l]) hl3 rfl, hl4, hd4⟩, Nat.le_trans hs1 (Nat.le_trans hk.size (by simp)), (World.putObj_heap_other (by simp [l]; omega)).trans (hb3.trans hB1)⟩⟩
      | ret =>
        obtain ⟨hk, hi3⟩ := hp
        obtain ⟨hr, hl3, hl4, hd4⟩ := turn (some .ret) W3 hk
        exact ⟨_, _, hr, .inr ⟨rfl, hIx.put _ hi3 (by simp [l]) hl3 rfl, hl4, hd4⟩⟩
      | exit id => exact hp.elim
      | goto t => exact hp.elim
      | panic ch => exact hp.elim
      | outgrown => exact hp.elim
    refine main.mono ?_
    rintro e W2 ⟨⟨v, rfl⟩, (⟨hi, hl, hd⟩ | ⟨pre, hi, hl, hd⟩)⟩
    · have hr := run_endLoop (P := P) hl (by rw [hrec]; simp [rec'])
      rw [hrec] at hr
      exact ⟨none, _, hr, hdone D _ (Nat.le_refl _) (hI.put _ hi (by simp [l]) hl rfl) ((World.putObj_heap_other (by simp [D, l])).trans hd)⟩
    · have hr := run_endLoop (P := P) hl (by rw [hrec]; simp [rec'])
      rw [hrec] at hr
      exact ⟨some .ret, _, hr, hstop D pre _ (Nat.le_refl _) (hIx.put _ hi (by simp [l]) hl rfl) ((World.putObj_heap_other (by simp [D, l])).trans hd)⟩
end Go.Proofs.YtiojkmknikfhoaaGreatDoor
