/- The base of the walks over package script: what is known of the library's variables, and how it is kept; the builder's writers. -/
import Derived.Test.YtiojkmknikfhoaaGreatDoorShelf
import Derived.WalkKit
import Derived.WalkSpells
import Derived.WalkLawsBesides
import Derived.Deep.RegionHeld3
import Derived.Deep.QuietTactic
import Derived.BigQuiet
import Derived.Lib.Hide
namespace Go.Proofs.YtiojkmknikfhoaaGreatDoor
set_option linter.unusedVariables false
set_option linter.unusedSimpArgs false
open Go.RowKit

/-- What the library's variables hold. -/
structure Env (w : World) : Prop where
  ml : ∃ m, w.cell? ⟨0, 0, none⟩ = some (.int .i64 m)
  pow : Lib.TabIs Tryz.prog w "internal/strconv.uint64pow10" .u64 Lib.pow10Tab
  syn : ∃ te pe, w.cell? ⟨5, 0, none⟩ = some (.iface te pe)
  rng : ∃ te pe, w.cell? ⟨6, 0, none⟩ = some (.iface te pe)
  utf : Lib.Utf8Tabs 3 4 w
  big : 9 ≤ w.heap.size

theorem gPow : Tryz.prog.globalNamed "internal/strconv.uint64pow10" = some 2 := by kernel_rfl
theorem cell_of_block {w w' : World} {k : Nat} (h : w'.heap[k]? = w.heap[k]?) (j : Nat) : w'.cell? ⟨k, j, none⟩ = w.cell? ⟨k, j, none⟩ := by
  simp only [World.cell?]; rw [h]
theorem Env.keep {w w' : World} (h : Env w) (hs : w.heap.size ≤ w'.heap.size) (hk : ∀ k, k < 9 → w'.heap[k]? = w.heap[k]?) : Env w' where
  ml := by obtain ⟨m, hm⟩ := h.ml; exact ⟨m, (cell_of_block (hk 0 (by decide)) 0).trans hm⟩
  pow := by
    have := h.pow
    unfold Lib.TabIs World.var? at this ⊢
    rw [gPow] at this ⊢
    simpa [hk 2 (by decide)] using this
  syn := by obtain ⟨a, b, hm⟩ := h.syn; exact ⟨a, b, (cell_of_block (hk 5 (by decide)) 0).trans hm⟩
  rng := by obtain ⟨a, b, hm⟩ := h.rng; exact ⟨a, b, (cell_of_block (hk 6 (by decide)) 0).trans hm⟩
  utf := by
    have := h.utf
    unfold Lib.Utf8Tabs at this ⊢
    simpa only [cell_of_block (hk 3 (by decide)), cell_of_block (hk 4 (by decide))] using this
  big := Nat.le_trans h.big hs
theorem Env.below {w w' : World} (h : Env w) (hb : Below w.heap.size w w') : Env w' := h.keep hb.size (fun k hk => hb.block k (Nat.lt_of_lt_of_le hk h.big))
theorem Env.below_at {w w' : World} {B : Nat} (h : Env w) (hB : 9 ≤ B) (hb : Below B w w') : Env w' := h.keep hb.size (fun k hk => hb.block k (Nat.lt_of_lt_of_le hk hB))

end Go.Proofs.YtiojkmknikfhoaaGreatDoor
