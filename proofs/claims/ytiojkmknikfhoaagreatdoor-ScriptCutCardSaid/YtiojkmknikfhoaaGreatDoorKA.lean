/- What the rows' listed variables give the walks, and a world that holds them. -/
import Derived.Test.YtiojkmknikfhoaaGreatDoorA
import Derived.Test.YtiojkmknikfhoaaGreatDoorTie
import Derived.Test.YtiojkmknikfhoaaGreatDoorCards
import Derived.ProofKit
import Derived.OpenShut
import Derived.Lay
import Derived.LaidHandle
import Derived.LaidSub
import Derived.Lib.LaidU8T
import Derived.Stop.LaidErr
import Derived.Deep.DeepHandedRow
import Derived.SevenTiedAt
import Derived.Carry
namespace Go.Proofs.YtiojkmknikfhoaaGreatDoor
set_option linter.unusedVariables false
set_option linter.unusedSimpArgs false
open Go.ChangeShapes Go.WideShapes Go.ChangeAt Go.RowKit Go.Lib

abbrev L0 : List (String × DataW Unit) := Rows.scriptBackRow.laid
theorem gMax : (((begin Tryz.prog (fun _ _ => 0) default).world.heap[0]?).bind Obj.row?) = some (#[.int .i64 0], 3) := by kernel_rfl
theorem tySize : Tryz.prog.types.size = 222 := by kernel_rfl
theorem oneRow : ((List.range 222).filter fun t => Tryz.prog.rowNamed t [101, 114, 114, 111, 114]) = [45] := by kernel_rfl
theorem rtypeNo : (Tryz.prog.cutTypes.find? (·.1 == "internal/reflectlite.rtype")).map (·.2) = some 142 := by kernel_rfl
theorem gErrT : Tryz.prog.globalNamed "errors.errorType" = some 1 := by kernel_rfl
theorem handle45 : typeHandle Tryz.prog 45 = .pointer (some ⟨9, 45, none⟩) := by kernel_rfl
/-- The handle's cell. -/
theorem handle_of_laid {W : World} (h : laidMetH Tryz.prog L0 W) : W.cell? ⟨1, 0, none⟩ = some (.iface 142 (.agg #[.pointer (some ⟨9, 45, none⟩)])) := by
  obtain ⟨_, h2⟩ := laidMetH_iff.1 h
  have hm : ("errors.errorType", (Rows.laid_errors_errorType : DataW Unit)) ∈ L0.filter fun x => x.2.handleName?.isSome := List.mem_filter.2 ⟨by simp [L0, Rows.scriptBackRow], by rfl⟩
  obtain ⟨name, u, ty, e1, e2, e3, e4, e5⟩ := h2 _ hm
  have en : name = [101, 114, 114, 111, 114] := (Option.some.inj e1).symm
  subst en
  obtain rfl := Option.some.inj (rtypeNo.symm.trans e2)
  have hm : ty ∈ (List.range 222).filter fun t => Tryz.prog.rowNamed t [101, 114, 114, 111, 114] := List.mem_filter.2 ⟨List.mem_range.2 (by rw [← tySize]; exact e3), e4⟩
  rw [oneRow] at hm
  obtain rfl := List.mem_singleton.1 hm
  rw [handle45] at e5
  simpa using World.var?_cell gErrT e5 0
theorem plainPart {W : World} (h : laidMetH Tryz.prog L0 W) : laidMet Tryz.prog (L0.filter fun x => x.2.handleName?.isNone) W := (laidMetH_iff.1 h).1
theorem inPlain {x : String × DataW Unit} (h : x ∈ L0) (hn : x.2.handleName?.isNone = true) : x ∈ L0.filter fun x => x.2.handleName?.isNone := List.mem_filter.2 ⟨h, hn⟩
theorem gPowT : (Tryz.prog.globals[2]?).map (·.type) = some 171 := by kernel_rfl
theorem powData : (Rows.laid_internal_strconv_uint64pow10 : DataW Unit) = tabData .u64 pow10Tab := by kernel_rfl
theorem firstD : Rows.laid_unicode_utf8_first = firstData := by kernel_rfl
theorem acceptD : (Rows.laid_unicode_utf8_acceptRanges : DataW Unit) = acceptData := by kernel_rfl
theorem reads_iface {W : World} {n : String} {nm : String} {d : DataW Unit} {g : Nat} {t : TypeId} {ms : Array (String × TypeId)} (h : VarReads Tryz.prog W n (.iface nm d)) (hg : Tryz.prog.globalNamed n = some g) (ht : (Tryz.prog.globals[g]?).map (·.type) = some t)
    (hi : Tryz.prog.underlying t = some (.interface ms)) : ∃ te pe, W.cell? ⟨g, 0, none⟩ = some (.iface te pe) := by
  obtain ⟨g', t', cs, fuel, p, hg', hty, hvar, hd⟩ := h
  obtain rfl := Option.some.inj (hg.symm.trans hg')
  obtain rfl := Option.some.inj (ht.symm.trans hty)
  obtain ⟨f1, u, v, hcs, hn, h1⟩ := iface_of_trod hi hd
  refine ⟨u, v, ?_⟩
  rw [World.var?_cell hg hvar 0, ← Array.getElem?_toList, hcs]
  rfl
theorem gSyn : Tryz.prog.globalNamed "strconv.ErrSyntax" = some 5 := by kernel_rfl
theorem gRng : Tryz.prog.globalNamed "strconv.ErrRange" = some 6 := by kernel_rfl
theorem gSynT : (Tryz.prog.globals[5]?).map (·.type) = some 45 := by kernel_rfl
theorem gRngT : (Tryz.prog.globals[6]?).map (·.type) = some 45 := by kernel_rfl
def ren0 : Go.Shelf.Ren := ⟨fun x => x, fun t => if t = 119 then 181 else if t = 138 then 183 else if t = 139 then 184 else t, fun x => x⟩
theorem u8T : U8Types Tryz.prog ren0 := ⟨Tryz.underlying5, Tryz.underlying181, Tryz.underlying183, Tryz.underlying184⟩
theorem u8X : U8Extra Tryz.prog ren0 := ⟨by kernel_rfl, by kernel_rfl, by kernel_rfl, by kernel_rfl, by kernel_rfl, by kernel_rfl, by kernel_rfl⟩
set_option maxRecDepth 100000 in
theorem max_of_shape {W : World} (h : W.ShapedOpen Tryz.prog) : ∃ m, W.cell? ⟨0, 0, none⟩ = some (.int .i64 m) := by
  obtain ⟨cs, hh, hs, hr⟩ := h.1 0 _ _ (of_decide_eq_true (by kernel_rfl)) gMax
  obtain ⟨ts, hts, _, hall⟩ := hr (by kernel_rfl)
  rw [show Tryz.prog.cellTypes Tryz.prog.depth 3 = some [3] by kernel_rfl] at hts
  cases hts
  have h1 : 0 < cs.size := Nat.lt_of_lt_of_eq Nat.zero_lt_one hs.symm
  obtain ⟨u, hu', hok⟩ := hall 0 cs[0] (by simp [h1])
  have : u = 3 := by simpa using hu'.symm
  subst this
  have hcell : W.cell? ⟨0, 0, none⟩ = some cs[0] := by simp [World.cell?, hh, h1]
  rw [hcell]
  unfold Cell.ok at hok
  rw [Tryz.underlying3] at hok
  generalize cs[0] = v at hok
  match v, hok with
  | .int k n, hok => obtain ⟨rfl, _⟩ := hok; exact ⟨_, rfl⟩
theorem g8 : ∃ z t, (((begin Tryz.prog (fun _ _ => 0) default).world.heap[8]?).bind Obj.row?) = some (z, t) := by
  have h : ((((begin Tryz.prog (fun _ _ => 0) default).world.heap[8]?).bind Obj.row?).isSome) = true := by kernel_rfl
  obtain ⟨x, hx⟩ := Option.isSome_iff_exists.1 h
  exact ⟨x.1, x.2, hx⟩
theorem env_of {W : World} (hL : laidMetH Tryz.prog L0 W) (hS : W.ShapedOpen Tryz.prog) : Env W where
  ml := max_of_shape hS
  pow := by
    obtain ⟨g', t', cs, fuel, p, hg', hty, hvar, hd⟩ := laidMet.reads (plainPart hL) (n := "internal/strconv.uint64pow10") (d := Rows.laid_internal_strconv_uint64pow10) (inPlain (by simp [L0, Rows.scriptBackRow]) (by rfl))
    obtain rfl := Option.some.inj (gPow.symm.trans hg')
    obtain rfl := Option.some.inj (gPowT.symm.trans hty)
    unfold Lib.TabIs
    rw [powData] at hd
    rw [hvar, ← cells_of_tab Tryz.underlying171 Tryz.underlying129 (by kernel_rfl) (by kernel_rfl) hd]
  syn := reads_iface (laidMet.reads (plainPart hL) (n := "strconv.ErrSyntax") (d := Rows.laid_strconv_ErrSyntax) (inPlain (by simp [L0, Rows.scriptBackRow]) (by rfl))) gSyn gSynT Tryz.underlying45
  rng := reads_iface (laidMet.reads (plainPart hL) (n := "strconv.ErrRange") (d := Rows.laid_strconv_ErrRange) (inPlain (by simp [L0, Rows.scriptBackRow]) (by rfl))) gRng gRngT Tryz.underlying45
  utf := utf8Tabs_of_readsT (ρ := ren0) u8T u8X
    (by rw [← firstD]; exact laidMet.reads (plainPart hL) (inPlain (by simp [L0, Rows.scriptBackRow]) (by kernel_rfl)))
    (by rw [← acceptD]; exact laidMet.reads (plainPart hL) (inPlain (by simp [L0, Rows.scriptBackRow]) (by rfl)))
  big := by
    obtain ⟨z, t, h⟩ := g8
    obtain ⟨cs, hh, _⟩ := hS.1 8 z t (of_decide_eq_true (by kernel_rfl)) h
    have := (Array.getElem?_eq_some_iff.1 hh).1
    omega

/-! ### a world that holds them -/
noncomputable def world0 (os : Os) : World :=
  { World.holding Tryz.prog os ⟨#[], #[], []⟩ with heap := (World.holding Tryz.prog os ⟨#[], #[], []⟩).heap.modify 1 fun
      | .cells _ t frozen => .cells #[.iface 142 (.agg #[.pointer (some ⟨9, 45, none⟩)])] t frozen
      | o => o }
noncomputable def worldL (os : Os) : World := (world0 os).layVars Tryz.prog (L0.filter fun x => x.2.handleName?.isNone)
theorem worldL_os (os : Os) : (worldL os).os = os := World.layVars_os _ _ _
theorem filt0 (l : List (String × DataW Unit)) (ns : List String) (h : (l.all fun x => ns.contains x.1) = true) : (l.filter fun x => ns.contains x.1) = l := List.filter_eq_self.2 fun x hx => List.all_eq_true.1 h x hx
theorem filt1 (l : List (String × DataW Unit)) (ns : List String) (h : (l.all fun x => ns.contains x.1) = true) : (l.filter fun x => !ns.contains x.1) = [] := List.filter_eq_nil_iff.2 fun x hx => by rw [List.all_eq_true.1 h x hx]; decide
theorem worldL_met (os : Os) (args : Array Value) : laidMetH Tryz.prog L0 ((worldL os).forCall (fun _ _ => 0) ⟨#[], args, []⟩).memory := by
  refine laidMetH_of_parts ?_ (by kernel_rfl)
  have ha : ((L0.filter fun x => x.2.handleName?.isNone).all fun x => (L0.map (·.1)).contains x.1) = true := by kernel_rfl
  have h : laidMet Tryz.prog (L0.filter fun x => x.2.handleName?.isNone) (worldL os) :=
    laidMet_layVars (w0 := world0 os) (L0.map (·.1)) [] (by rw [filt0 _ _ ha]; rfl) (by rw [filt0 _ _ ha]; kernel_rfl) (by rw [filt0 _ _ ha]; kernel_rfl) (by rw [filt1 _ _ ha]; exact LaidIn.none)
  exact h.of_heap (by simp [World.memory, World.forCall, Input.heap])
end Go.Proofs.YtiojkmknikfhoaaGreatDoor
