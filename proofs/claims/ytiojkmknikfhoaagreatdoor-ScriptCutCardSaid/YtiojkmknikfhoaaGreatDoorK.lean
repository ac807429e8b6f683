/- Walks over package script: the reader's bytes of a line. -/
import Derived.Test.YtiojkmknikfhoaaGreatDoorJ
import Derived.BigQuiet
namespace Go.Proofs.YtiojkmknikfhoaaGreatDoor
set_option linter.unusedVariables false
set_option linter.unusedSimpArgs false
open Go.RowKit Go.BigFrame

def bytesHd : List UInt8 := [98, 121, 116, 101, 115]
def hexL : List UInt8 := [48, 49, 50, 51, 52, 53, 54, 55, 56, 57, 97, 98, 99, 100, 101, 102]
def hexI (b : UInt8) : Int := Lib.indexByte hexL b
def rowD : List UInt8 → Option (List UInt8)
  | [] => some []
  | [_] => none
  | a :: b :: r => if hexI a < 0 ∨ hexI b < 0 then none else (rowD r).map (UInt8.ofNat (16 * (hexI a).toNat + (hexI b).toNat) :: ·)
def rowForm (ws : List ByteArray) (m : ByteArray) : Bool := match ws with
  | [_, x] => m.size % 24 == 0 && x.size != 0 && x.size % 2 == 0 && decide (x.size ≤ 48)
  | _ => false
def rowOf (ws : List ByteArray) (m : ByteArray) : Option (List UInt8) := if rowForm ws m then (match ws[1]? with | some x => rowD x.toList | none => none) else none
def rowE (ws : List ByteArray) (m : ByteArray) : Int := match rowOf ws m with
  | none => 5
  | some bs => if 65536 < m.size + bs.length then 4 else 0
def nextTurn (rb : Nat) : Value := .func (.func 74) #[.pointer (some ⟨rb, 0, none⟩)] #[]
def isBytes (ws : List ByteArray) : Bool := match ws[0]? with | some x => x.toList == bytesHd | none => false
def RowPost (ws : List ByteArray) (rb : Nat) (c a q : Int) (tw : Bool) (m : ByteArray) (v : Value) (w : World) (e : Ending) (w' : World) : Prop :=
  e = .returned (.int .i64 (rowE ws m)) ∧ w.grownBy w' (some rb) ∧ (rowE ws m = 0 → ∃ bs, rowOf ws m = some bs ∧ Rd w' rb c a q tw (m ++ ⟨bs.toArray⟩) v (nextBytes rb))
def BytesPost (ws : List ByteArray) (rb base : Nat) (c a q : Int) (tw : Bool) (m : ByteArray) (v : Value) (ts : List (Int × Int × Int)) (w : World) (e : Ending) (w' : World) : Prop :=
  if isBytes ws then RowPost ws rb c a q tw m v w e w' else TurnPost ws rb base c a q tw m (nextTurn rb) v ts w e w'

theorem RowPost.err {ws : List ByteArray} {rb : Nat} {c a q : Int} {tw : Bool} {m : ByteArray} {v : Value} {w W : World} {E : Int} (hE : rowE ws m = E) (h0 : E ≠ 0) (hb : Below w.heap.size w W) : RowPost ws rb c a q tw m v w (.returned (.int .i64 E)) W :=
  ⟨by rw [hE], grown_of_below hb _, fun h => absurd (hE.symm.trans h) h0⟩
theorem row_done {ws : List ByteArray} {rb : Nat} {c a q : Int} {tw : Bool} {m : ByteArray} {v : Value} {bs : List UInt8} {w W : World} (hT : rowE ws m = 0) (hd : rowOf ws m = some bs) (hb : Below w.heap.size w W) (hR : Rd W rb c a q tw m v (nextBytes rb)) :
    RowPost ws rb c a q tw m v w (.returned (.int .i64 0)) (W.setCell ⟨rb, 4, none⟩ (.string (m ++ ⟨bs.toArray⟩))).drew :=
  ⟨by rw [hT], grown_drew (grown_setCell (grown_of_below hb _) _), fun _ => ⟨bs, hd, heap_setCell_same hR _⟩⟩
theorem two {ws : List ByteArray} (h : ws.length = 2) : ∃ a b, ws = [a, b] := by
  match ws, h with
  | [a, b], _ => exact ⟨a, b, rfl⟩
theorem rowForm_ne {ws : List ByteArray} {m : ByteArray} (h : ws.length ≠ 2) : rowForm ws m = false := by
  unfold rowForm
  split
  · exact absurd rfl h
  · rfl
theorem u8_back (b : UInt8) : ((b.toNat : Int).toNat.toUInt8) = b := by simp
theorem hexI_lt (b : UInt8) : -1 ≤ hexI b ∧ hexI b ≤ 15 := by
  refine ⟨Lib.indexByte_ge _ _, ?_⟩
  rcases Int.lt_or_le (hexI b) 0 with h | h
  · omega
  · obtain ⟨o, ho⟩ : ∃ o : Nat, hexI b = o := ⟨(hexI b).toNat, by omega⟩
    have := (Lib.indexByte_some ho).1
    have := (List.getElem?_eq_some_iff.1 this).1
    have h16 : hexL.length = 16 := rfl
    omega
theorem drop_two (x : ByteArray) (l : Nat) (h : l + 1 < x.size) : x.toList.drop l = x[l] :: x[l + 1] :: x.toList.drop (l + 2) := by
  have hl : x.toList.length = x.size := by rw [Lib.toList_data]; simp
  have hg : ∀ (k : Nat) (hk : k < x.size), x.toList[k]'(by omega) = x[k] := fun k hk => by simp only [Lib.toList_data]; rfl
  rw [List.drop_eq_getElem_cons (by omega), List.drop_eq_getElem_cons (by omega), hg l (by omega), hg (l + 1) (by omega)]
theorem nib_fin : ∀ a : Fin 16, ∀ b : Fin 16, bits BinOp.or IntKind.i64 (((a : Nat) : Int) * 16) ((b : Nat) : Int) % 256 = ((UInt8.ofNat (16 * (a : Nat) + (b : Nat))).toNat : Int) := by decide +kernel
theorem nib (v1 v2 : Int) (h1 : 0 ≤ v1) (h2 : v1 ≤ 15) (h3 : 0 ≤ v2) (h4 : v2 ≤ 15) : bits BinOp.or IntKind.i64 (v1 * 16) v2 % 256 = ((UInt8.ofNat (16 * v1.toNat + v2.toNat)).toNat : Int) := by
  have := nib_fin ⟨v1.toNat, by omega⟩ ⟨v2.toNat, by omega⟩
  simp only [show ((v1.toNat : Nat) : Int) = v1 by omega, show ((v2.toNat : Nat) : Int) = v2 by omega] at this
  exact this
theorem size_zero (x : ByteArray) : x = ByteArray.empty ↔ x.size = 0 := ⟨fun h => by rw [h]; rfl, fun h => by cases x with | mk d => exact congrArg ByteArray.mk (Array.eq_empty_of_size_eq_zero h)⟩
theorem rowD_step {r bs : List UInt8} {a b : UInt8} {t : List UInt8} (h : r = a :: b :: t) (ha : ¬ hexI a < 0) (hb : ¬ hexI b < 0) : (rowD r).map (bs ++ ·) = (rowD t).map ((bs ++ [UInt8.ofNat (16 * (hexI a).toNat + (hexI b).toNat)]) ++ ·) := by
  subst h
  rw [show rowD (a :: b :: t) = if hexI a < 0 ∨ hexI b < 0 then none else (rowD t).map (UInt8.ofNat (16 * (hexI a).toNat + (hexI b).toNat) :: ·) from rfl, if_neg (by omega)]
  cases rowD t <;> simp
theorem rowForm_two {a x m : ByteArray} (h : rowForm [a, x] m = true) : x.size ≠ 0 ∧ x.size % 2 = 0 ∧ x.size ≤ 48 := by
  have hz := size_zero x
  simp [rowForm] at h
  simp only [hz] at h
  omega
set_option maxRecDepth 100000 in
set_option maxHeartbeats 1000000 in
theorem row_any (rb wb cap base : Nat) (ws : List ByteArray) (c a q : Int) (tw : Bool) (m : ByteArray) (v fn : Value) (hb : isBytes ws = true) (hcap : ws.length ≤ cap) (hl : ws.length ≤ 1000000) (hsz : ∀ s ∈ ws, s.size ≤ 281474976710656) (hm : m.size ≤ 65536)
    (w : World) (hE : Env w) (hS : Strs w wb 0 ws) (hR : Rd w rb c a q tw m v (nextBytes rb)) (hwb : wb ≠ rb) (hrb : 9 ≤ rb) :
    Calls Tryz.prog 54 #[.pointer (some ⟨rb, 0, none⟩), .slice (some ⟨wb, 0, none⟩) ws.length cap] w (RowPost ws rb c a q tw m v w) := by
  have hn : 1 ≤ ws.length := by cases ws with | nil => simp [isBytes] at hb | cons => simp
  obtain ⟨x0, hx0⟩ : ∃ x0, ws[0]? = some x0 := ⟨ws[0], List.getElem?_eq_getElem (by omega)⟩
  have hq : (x0.toList == [98, 121, 116, 101, 115]) = true := by unfold isBytes at hb; rw [hx0] at hb; exact hb
  have c0 := hS 0 x0 hx0
  have r4 := hR.cell 4
  simp only [List.getElem?_toArray, List.getElem?_cons_succ, List.getElem?_cons_zero] at r4
  have rf := hR.frozen 4
  have hrl := hR.lt
  replace hR := Lib.hid hR
  replace hx0 := Lib.hid hx0
  clear hb
  obtain ⟨i0, hi0, hz0, hz1, hz2⟩ := info_parts infoByte
  replace hi0 := Lib.hid hi0; replace hz0 := Lib.hid hz0; replace hz1 := Lib.hid hz1; replace hz2 := Lib.hid hz2
  go_enter Tryz.func54, Tryz.ntmps54
  go_upto_region 4 with fail
  go_cut [55] (fun p wx => p = .bool (!rowForm ws m) ∧ w = wx)
  case first =>
    by_cases h2 : ws.length = 2
    · obtain ⟨a0, x1, rfl⟩ := two h2
      have c1 := hS 1 x1 rfl
      go_wp2_with fail
      all_goals go_meet
      all_goals refine ⟨?_, rfl⟩
      all_goals (congr 1; rw [Bool.eq_iff_iff]; have hz := size_zero x1; simp [rowForm]; try simp only [hz] at *; omega)
    · have h2' : ((ws.length : Int) == 2) = false := by rw [beq_eq_false_iff_ne]; omega
      have hf := rowForm_ne (m := m) h2
      replace hf := Lib.hid hf
      go_wp2_with fail
      go_meet
      exact ⟨by rw [hf.out]; rfl, rfl⟩
  case rest =>
    obtain ⟨rfl, rfl⟩ := hcut
    cases hf : rowForm ws m with
    | false =>
      have hT : rowE ws m = 5 := by unfold rowE rowOf; rw [hf]; rfl
      replace hT := Lib.hid hT
      replace hf := Lib.hid hf
      go_wp2_with fail
      go_ret
      exact RowPost.err hT.out (by decide) (Below.refl _ _)
    | true =>
      have h2 : ws.length = 2 := by
        by_cases h2 : ws.length = 2
        · exact h2
        · rw [rowForm_ne h2] at hf; cases hf
      obtain ⟨a0, x1, rfl⟩ := two h2
      obtain ⟨z0, z1, z2⟩ := rowForm_two hf
      have c1 := hS 1 x1 rfl
      have hro : rowOf [a0, x1] m = rowD x1.toList := by unfold rowOf; rw [hf]; rfl
      replace hro := Lib.hid hro
      replace hf := Lib.hid hf
      have hxl : x1.toList.length = x1.size := by rw [Lib.toList_data]; simp
      replace hxl := Lib.hid hxl
      rw [show ([a0, x1] : List ByteArray).length = 2 from rfl, show (!true) = false from rfl]
      go_wp2_with fail
      go_loopw [5, 6] (fun v i wr => ∃ (k l : Nat) (bs r : List UInt8), l ≤ x1.size ∧ i = .int .i64 l ∧ l = 2 * k ∧ x1.toList.drop l = r ∧ bs.length = k ∧ rowD x1.toList = (rowD r).map (bs ++ ·) ∧ wr.ownsRow w.heap.size 5 1 v k (Lib.byteCells bs) ∧ Below w.heap.size w wr)
        (fun _ i _ => x1.size - (intOf i).toNat)
      case atStart => exact ⟨0, 0, [], x1.toList, by omega, rfl, rfl, rfl, rfl, by simp, World.ownsRow_nil _ _ _ _, Below.refl _ _⟩
      case round =>
        obtain ⟨k, l, bs, r, hk, rfl, hlk, hr, hbl, hrow, hown, hbw⟩ := hrel
        replace hr := Lib.hid hr
        replace hrow := Lib.hid hrow
        replace hbl := Lib.hid hbl
        replace hown := Lib.hid hown
        have d4 := (hbw.cell (p := ⟨rb, 4, none⟩) hrl).trans r4
        have df := (hbw.frozen (p := ⟨rb, 4, none⟩) hrl).trans rf
        have dl := Nat.lt_of_lt_of_le hrl hbw.size
        have d1 := (hbw.cell (p := ⟨wb, 1, none⟩) (World.block_lt_of_cell? w _ c1)).trans c1
        by_cases hlt : l < x1.size
        · have hlt1 : l + 1 < x1.size := by omega
          replace hlk := Lib.hid hlk
          go_upto_region 10 with fail
          have hj0 : (0 : Int) ≤ (l : Int) + 1 := by omega
          have hj1 : (l : Int) + 1 < (x1.size : Int) := by omega
          go_quiet (first | (go_at_call 56; refine Calls.quiet_of_same (Tryz.strings_IndexByte _ _ _)))
          have e1 : Lib.indexByte (ByteArray.mk #[48, 49, 50, 51, 52, 53, 54, 55, 56, 57, 97, 98, 99, 100, 101, 102]).data.toList ((x1[l].toNat : Int).toNat.toUInt8) = hexI x1[l] := by rw [u8_back]; rfl
          have e2 : Lib.indexByte (ByteArray.mk #[48, 49, 50, 51, 52, 53, 54, 55, 56, 57, 97, 98, 99, 100, 101, 102]).data.toList ((x1[l + 1].toNat : Int).toNat.toUInt8) = hexI x1[l + 1] := by rw [u8_back]; rfl
          rw [e1, e2]
          clear e1 e2
          have hr2 := (hr.out.symm.trans (drop_two x1 l hlt1))
          obtain ⟨b1, hb1⟩ : ∃ b1, x1[l] = b1 := ⟨_, rfl⟩
          obtain ⟨b2, hb2⟩ : ∃ b2, x1[l + 1] = b2 := ⟨_, rfl⟩
          rw [hb1, hb2] at hr2 ⊢
          clear hb1 hb2
          replace hr2 := Lib.hid hr2
          have g1 := hexI_lt b1
          have g2 := hexI_lt b2
          obtain ⟨v1, hv1⟩ : ∃ v1, hexI b1 = v1 := ⟨_, rfl⟩
          obtain ⟨v2, hv2⟩ : ∃ v2, hexI b2 = v2 := ⟨_, rfl⟩
          rw [hv1] at g1 ⊢
          rw [hv2] at g2 ⊢
          replace hv1 := Lib.hid hv1
          replace hv2 := Lib.hid hv2
          have bad : v1 < 0 ∨ v2 < 0 → rowE [a0, x1] m = 5 := fun hlt0 => by
            unfold rowE
            rw [hro.out, hrow.out, hr2.out, show rowD (b1 :: b2 :: x1.toList.drop (l + 2)) = if hexI b1 < 0 ∨ hexI b2 < 0 then none else (rowD (x1.toList.drop (l + 2))).map (UInt8.ofNat (16 * (hexI b1).toNat + (hexI b2).toNat) :: ·) from rfl, hv1.out, hv2.out, if_pos hlt0]
            rfl
          replace bad := Lib.hid bad
          by_cases n1 : v1 < 0
          · go_wp2_with fail
            go_ret
            exact RowPost.err (bad.out (.inl n1)) (by decide) (below_drewN hbw nq)
          · by_cases n2 : v2 < 0
            · go_wp2_with fail
              go_ret
              exact RowPost.err (bad.out (.inr n2)) (by decide) (below_drewN hbw nq)
            · obtain ⟨z, hz⟩ : ∃ z, bits BinOp.or IntKind.i64 (v1 * 16) v2 % 256 = z := ⟨_, rfl⟩
              have hzz : z = ((UInt8.ofNat (16 * v1.toNat + v2.toNat)).toNat : Int) := hz.symm.trans (nib v1 v2 (by omega) g1.2 (by omega) g2.2)
              replace hzz := Lib.hid hzz
              have hown3 : (wr.drewN nq).ownsRow w.heap.size 5 1 u5 k (Lib.byteCells bs) := hown.out
              have hb3 := below_drewN hbw nq
              obtain ⟨w3, hw3⟩ : ∃ w3 : World, wr.drewN nq = w3 := ⟨_, rfl⟩
              rw [hw3] at hown3 hb3 ⊢
              clear hw3
              have hklt : k ≤ 100 := by have := hlk.out; omega
              go_wp2_with (at_builtin; refine wpList_append_own _ rfl _ _ 23 rfl w.heap.size 5 i0 (.int .u8 0) 1 1 Tryz.underlying23 hi0.out hz0.out hz1.out hz2.out rfl (by decide) _ _ _ rfl (hown3.alloc _) ⟨w3.heap.size, 0, none⟩ 1 1 [.int .u8 z] rfl rfl ?c1 ?c2 ?c3 ?c4 ?c5 ?_)
              case c2 => rfl
              case c3 => unfold maxLen; omega
              case c4 => omega
              case c5 => have := hb3.size; simp; omega
              intro v' w4 hown' hgrow _
              go_wp2_with fail
              go_roundw
              case rel =>
                refine ⟨k + 1, l + 2, bs ++ [UInt8.ofNat (16 * v1.toNat + v2.toNat)], x1.toList.drop (l + 2), by omega, by go_num, by have := hlk.out; omega, rfl, by simp [hbl.out], ?_, ?_, ?_⟩
                · rw [hrow.out, rowD_step hr2.out (by rw [hv1.out]; omega) (by rw [hv2.out]; omega), hv1.out, hv2.out]
                · rw [hzz.out] at hown'
                  simpa [Lib.byteCells] using hown'
                · exact (hb3.alloc hb3.size _).grown hgrow (by have := hb3.size; simp; omega) (fun g hg => (hown3.lt g hg).1)
              case measure => simp [intOf]; omega
        · obtain ⟨gb, cv, rfl, _, hgb⟩ := hown.out.form (by omega)
          have hcv : (convert 23 9 (.slice (some ⟨gb, 0, none⟩) k cv)).run Tryz.prog wr.drew = .ok (.string ⟨bs.toArray⟩) wr.drew := by
            have := run_convert_bytes_back (P := Tryz.prog) wr.drew 23 9 5 ⟨gb, 0, none⟩ cv bs Tryz.underlying23 Tryz.underlying5 Tryz.underlying9 (fun j hj => hown.out.cells (g := gb) rfl j _ (by simp [Lib.byteCells, hj]))
            rwa [hbl.out] at this
          replace hgb := Lib.hid hgb
          have hcat : ¬ 9223372036854775807 < m.size + bs.length := by rw [hbl.out]; omega
          have hdec : rowOf [a0, x1] m = some bs := by
            rw [hro.out, hrow.out, show r = [] from by rw [← hr.out, List.drop_of_length_le (by rw [hxl.out]; omega)]]; simp [rowD]
          replace hdec := Lib.hid hdec
          by_cases hbig : 65536 < m.size + k
          · have hT : rowE [a0, x1] m = 4 := by unfold rowE; rw [hdec.out]; simp only [hbl.out, if_pos hbig]
            replace hT := Lib.hid hT
            have hbi : (65536 : Int) < (m.size : Int) + (k : Int) := by omega
            go_wp2_with fail
            go_ret
            exact RowPost.err hT.out (by decide) hbw
          · have hT : rowE [a0, x1] m = 0 := by unfold rowE; rw [hdec.out]; simp only [hbl.out, if_neg hbig]
            replace hT := Lib.hid hT
            have hbi : ¬ (65536 : Int) < (m.size : Int) + (k : Int) := by omega
            go_wp2_with fail
            go_region
            go_wp2_with fail
            go_ret
            exact row_done hT.out hdec.out hbw (hR.out.below hbw)

theorem TurnPost.pre {ws : List ByteArray} {rb base : Nat} {c a q : Int} {tw : Bool} {m : ByteArray} {fn v u : Value} {ts : List (Int × Int × Int)} {w w' : World} {j : Nat} {e : Ending} (h : TurnPost ws rb base c a q tw m fn v ts (w.setCell ⟨rb, j, none⟩ u) e w') : TurnPost ws rb base c a q tw m fn v ts w e w' := by
  obtain ⟨h1, h2, h3, h4, h5, h6, h7⟩ := h
  have hs : (w.setCell ⟨rb, j, none⟩ u).heap.size = w.heap.size := by simp [World.setCell]
  exact ⟨h1, by rw [← hs]; exact h2, fun k hk hne hno => (h3 k (by rw [hs]; exact hk) hne hno).trans (Below.heap_setCell _ _ _ _ (by simpa using hne)), h4, h5, h6, h7⟩
theorem Strs.setCell {w : World} {b o rb j : Nat} {ws : List ByteArray} {u : Value} (h : Strs w b o ws) (hne : b ≠ rb) : Strs (w.setCell ⟨rb, j, none⟩ u) b o ws := h.grown (rb := rb) (grown_setCell (grown_refl w _) _) hne
set_option maxRecDepth 100000 in
set_option maxHeartbeats 1000000 in
theorem bytes_any (rb wb cap base : Nat) (ws : List ByteArray) (c a q : Int) (tw : Bool) (m : ByteArray) (v : Value) (ts : List (Int × Int × Int)) (hn : 1 ≤ ws.length) (hcap : ws.length ≤ cap) (hl : ws.length ≤ 1000000) (hsz : ∀ s ∈ ws, s.size ≤ 281474976710656) (hm : m.size ≤ 65536) (hts : ts.length ≤ 4096)
    (w : World) (hE : Env w) (hS : Strs w wb 0 ws) (hR : Rd w rb c a q tw m v (nextBytes rb)) (hwb : wb ≠ rb) (hrb : 9 ≤ rb) (hown : w.ownsRow base 59 3 v ts.length (tCells ts)) (hrbb : rb < base) (hbw0 : base ≤ w.heap.size) :
    Calls Tryz.prog 54 #[.pointer (some ⟨rb, 0, none⟩), .slice (some ⟨wb, 0, none⟩) ws.length cap] w (BytesPost ws rb base c a q tw m v ts w) := by
  cases hb : isBytes ws with
  | true =>
    have hP : ∀ e w', RowPost ws rb c a q tw m v w e w' → BytesPost ws rb base c a q tw m v ts w e w' := fun e w' h => by unfold BytesPost; rw [if_pos hb]; exact h
    exact (row_any rb wb cap base ws c a q tw m v (nextBytes rb) hb hcap hl hsz hm w hE hS hR hwb hrb).mono hP
  | false =>
    have hP : ∀ e w', TurnPost ws rb base c a q tw m (nextTurn rb) v ts w e w' → BytesPost ws rb base c a q tw m v ts w e w' := fun e w' h => by unfold BytesPost; rw [if_neg (by rw [hb]; decide)]; exact h
    refine Calls.mono ?_ hP
    clear hP
    obtain ⟨x0, hx0⟩ : ∃ x0, ws[0]? = some x0 := ⟨ws[0], List.getElem?_eq_getElem (by omega)⟩
    have hq : (x0.toList == [98, 121, 116, 101, 115]) = false := by unfold isBytes at hb; rw [hx0] at hb; exact hb
    have c0 := hS 0 x0 hx0
    have r6 := hR.cell 6
    simp only [List.getElem?_toArray, List.getElem?_cons_succ, List.getElem?_cons_zero] at r6
    have rf := hR.frozen 6
    have hrl := hR.lt
    have hR2 : Rd (w.setCell ⟨rb, 6, none⟩ (nextTurn rb)) rb c a q tw m v (nextTurn rb) := heap_setCell_same hR _
    have hS2 : Strs (w.setCell ⟨rb, 6, none⟩ (nextTurn rb)) wb 0 ws := hS.setCell hwb
    have hE2 : Env (w.setCell ⟨rb, 6, none⟩ (nextTurn rb)) := hE.keep (by simp [World.setCell]) (fun k hk => Below.heap_setCell _ _ _ _ (by simp; omega))
    have hown2 : (w.setCell ⟨rb, 6, none⟩ (nextTurn rb)).ownsRow base 59 3 v ts.length (tCells ts) := hown.kept (row := some rb) (grown_setCell (grown_refl w _) _) (by
      cases h : v.ownBlock with
      | none => exact .inl rfl
      | some g => exact .inr (fun e => by have := (hown.lt g h).1; rw [Option.some.inj e] at this; omega))
    have hturn := rturn_any rb wb cap base ws c a q tw m v (nextTurn rb) ts hn hl hcap hsz hts _ hE2 hS2 hR2 hwb hrb hown2 hrbb (by simpa [World.setCell] using hbw0)
    replace hturn := Lib.hid hturn
    clear hR2 hS2 hE2 hown2
    replace hx0 := Lib.hid hx0
    replace hR := Lib.hid hR
    clear hb
    go_enter Tryz.func54, Tryz.ntmps54
    go_wp2_with fail
    refine hturn.out.mono ?_
    intro e w' hP
    have hP := hP.pre
    obtain ⟨E, rfl⟩ : ∃ E, e = .returned (.int .i64 E) := ⟨_, hP.1⟩
    replace hP := Lib.hid hP
    go_wp2_with fail
    go_ret
    exact hP.out
end Go.Proofs.YtiojkmknikfhoaaGreatDoor
