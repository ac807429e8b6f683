/- The reader as a machine of states: one step. -/
import Derived.Test.YtiojkmknikfhoaaGreatDoorM
namespace Go.Proofs.YtiojkmknikfhoaaGreatDoor
set_option linter.unusedVariables false
set_option linter.unusedSimpArgs false
open Go.RowKit Go.Shelf

structure St where
  ph : Nat
  c : Int
  a : Int
  q : Int
  tw : Bool
  m : ByteArray
  ts : List (Int × Int × Int)
def st0 : St := ⟨0, 0, 0, 0, false, ⟨#[]⟩, []⟩
def fnOf (ph : Nat) : Nat := if ph = 0 then 34 else if ph = 1 then 54 else 74
def fnV (rb ph : Nat) : Value := .func (.func (fnOf ph)) #[.pointer (some ⟨rb, 0, none⟩)] #[]
def stepT (st : St) (ws : List ByteArray) : Int × St := (turnE ws st.ts.length, match turnOf ws with | some t => { st with ph := 2, ts := st.ts ++ [t] } | none => st)
def stepW (st : St) (ws : List ByteArray) : Int × St := match st.ph with
  | 0 => (machE ws, match machNums ws with | [c, a, q] => ⟨1, c, a, q, isTwin ws, ⟨#[]⟩, []⟩ | _ => st)
  | 1 => if isBytes ws then (rowE ws st.m, match rowOf ws st.m with | some bs => { st with m := st.m ++ ⟨bs.toArray⟩ } | none => st) else stepT st ws
  | _ => stepT st ws
theorem stepW_two {st : St} (e : st.ph = 2) (ws : List ByteArray) : stepW st ws = stepT st ws := by
  obtain ⟨ph, c, a, q, tw, m, ts⟩ := st
  simp only at e; subst e; rfl
theorem stepW_turn {st : St} (e : st.ph = 1) {ws : List ByteArray} (h : ¬ isBytes ws = true) : stepW st ws = stepT st ws := by
  obtain ⟨ph, c, a, q, tw, m, ts⟩ := st
  simp only at e; subst e; exact if_neg h
theorem stepW_row {st : St} (e : st.ph = 1) {ws : List ByteArray} (h : isBytes ws = true) : stepW st ws = (rowE ws st.m, match rowOf ws st.m with | some bs => { st with m := st.m ++ ⟨bs.toArray⟩ } | none => st) := by
  obtain ⟨ph, c, a, q, tw, m, ts⟩ := st
  simp only at e; subst e; exact if_pos h
/-- What holds of a state on the way. -/
structure Fit (st : St) : Prop where
  zero : st.ph = 0 → st = st0
  two : st.ph ≤ 2
  m : st.m.size ≤ 65536
  ts : st.ts.length ≤ 4096
theorem fit_st0 : Fit st0 := ⟨fun _ => rfl, by decide, by decide, by decide⟩
theorem fit_stepT {st : St} {ws : List ByteArray} (h : Fit st) (h0 : (stepT st ws).1 = 0) : Fit (stepT st ws).2 := by
  unfold stepT turnE at h0
  unfold stepT
  cases ht : turnOf ws with
  | none => rw [ht] at h0; exact h
  | some t =>
    rw [ht] at h0
    simp only at h0
    refine ⟨fun e => (by cases e), Nat.le_refl 2, h.m, ?_⟩
    split at h0
    · split at h0
      · omega
      · simp; omega
    · omega
theorem fit_stepW {st : St} {ws : List ByteArray} (h : Fit st) (h0 : (stepW st ws).1 = 0) : Fit (stepW st ws).2 := by
  have hp := h.two
  rcases (show st.ph = 0 ∨ st.ph = 1 ∨ st.ph = 2 by omega) with e | e | e
  · have hs := h.zero e
    subst hs
    unfold stepW
    simp only [st0]
    split
    · exact ⟨fun e => (by cases e), (show 1 ≤ 2 by decide), (show 0 ≤ 65536 by decide), (show 0 ≤ 4096 by decide)⟩
    · exact fit_st0
  · by_cases hb : isBytes ws = true
    · rw [stepW_row e hb] at h0 ⊢
      unfold rowE at h0
      simp only at h0 ⊢
      cases hr : rowOf ws st.m with
      | none => exact h
      | some bs =>
        rw [hr] at h0
        simp only at h0
        refine ⟨fun e' => (by simp only at e'; omega), (show st.ph ≤ 2 from hp), ?_, h.ts⟩
        have hsz : (st.m ++ (⟨bs.toArray⟩ : ByteArray)).size = st.m.size + bs.length := by rw [ByteArray.size_append]; rfl
        show (st.m ++ (⟨bs.toArray⟩ : ByteArray)).size ≤ 65536
        rw [hsz]
        split at h0
        · omega
        · omega
    · rw [stepW_turn e hb] at h0 ⊢
      exact fit_stepT h h0
  · rw [stepW_two e] at h0 ⊢
    exact fit_stepT h h0

def StAt (w : World) (rb base : Nat) (st : St) : Prop := ∃ v, Rd w rb st.c st.a st.q st.tw st.m v (fnV rb st.ph) ∧ w.ownsRow base 59 3 v st.ts.length (tCells st.ts)
def NextPost (st : St) (ws : List ByteArray) (rb base : Nat) (w : World) (e : Ending) (w' : World) : Prop :=
  e = .returned (.int .i64 (stepW st ws).1) ∧ w.heap.size ≤ w'.heap.size ∧ (∀ k, k < w.heap.size → k < base → k ≠ rb → w'.heap[k]? = w.heap[k]?) ∧ w'.os = w.os ∧ w'.tape = w.tape ∧ w'.output = w.output ∧ KeepsOthers w w' ∧
  ((stepW st ws).1 = 0 → StAt w' rb base (stepW st ws).2)

theorem own_cells {w : World} {base n : Nat} {e : TypeId} {size g : Nat} {v : Value} {xs : List Value} (h : w.ownsRow base e size v n xs) (hg : v.ownBlock = some g) : ∃ o : Obj, w.heap[g]? = some o ∧ o.isCells = true := by
  rcases h.2 with ⟨rfl, _⟩ | ⟨g', cap, cur, rfl, _, hh, _⟩
  · cases hg
  · obtain rfl : g' = g := by simpa [Value.ownBlock] using hg
    exact ⟨_, hh, rfl⟩
theorem keeps_of {w w' : World} {rb : Nat} {cs : Array Value} {T : TypeId} {fz : Nat × Nat} (hr : w.heap[rb]? = some (.cells cs T fz)) (hg : w.grownBy w' (some rb)) : KeepsOthers w w' :=
  .of_grownBy hg (fun j o e ho => by cases e; rw [hr] at ho; cases ho; rfl)

theorem next_of_turn {st : St} {ws : List ByteArray} {rb base : Nat} {v : Value} {w w' : World} {e : Ending} {fn : Value} (hS : stepW st ws = stepT st ws) (hR : ∃ fn', Rd w rb st.c st.a st.q st.tw st.m v fn') (hown : w.ownsRow base 59 3 v st.ts.length (tCells st.ts))
    (hfn : fn = fnV rb 2) (h : TurnPost ws rb base st.c st.a st.q st.tw st.m fn v st.ts w e w') : NextPost st ws rb base w e w' := by
  subst hfn
  obtain ⟨h1, h2, h3, h4, h5, h6, h7⟩ := h
  obtain ⟨fn', hR⟩ := hR
  refine ⟨by rw [h1, hS]; rfl, h2, fun k hk hkb hne => h3 k hk hne (fun e => by have := (hown.lt k e.symm).1; omega), h4, h5, h6, ⟨h2, fun k o hk ho => ?_⟩, fun h0 => ?_⟩
  · refine (h3 k (Array.getElem?_eq_some_iff.1 hk).1 ?_ ?_).trans hk
    · intro e; subst e; unfold Rd at hR; rw [hR] at hk; cases hk; cases ho
    · intro e
      obtain ⟨o', ho', hc⟩ := own_cells hown e.symm
      rw [hk] at ho'; cases ho'; rw [hc] at ho; cases ho
  · rw [hS] at h0 ⊢
    obtain ⟨t, v', ht, hok, hR', hown'⟩ := h7 h0
    unfold stepT
    rw [ht]
    exact ⟨v', hR', by simpa using hown'⟩

theorem next_any (st : St) (rb wb cap base : Nat) (ws : List ByteArray) (hF : Fit st) (hn : 1 ≤ ws.length) (hl : ws.length ≤ 1000000) (hcap : ws.length ≤ cap) (hsz : ∀ s ∈ ws, s.size ≤ 281474976710656)
    (w : World) (hE : Env w) (hS : Strs w wb 0 ws) (hA : StAt w rb base st) (hwb : wb ≠ rb) (hrb : 9 ≤ rb) (hrbb : rb < base) (hbw0 : base ≤ w.heap.size) :
    Calls Tryz.prog (fnOf st.ph) #[.pointer (some ⟨rb, 0, none⟩), .slice (some ⟨wb, 0, none⟩) ws.length cap] w (NextPost st ws rb base w) := by
  obtain ⟨v, hR, hown⟩ := hA
  have hp := hF.two
  rcases (show st.ph = 0 ∨ st.ph = 1 ∨ st.ph = 2 by omega) with e | e | e
  · have hs := hF.zero e
    subst hs
    refine (machine_any rb wb cap ws v _ hn hl hcap hsz w hE hS hR hwb hrb).mono ?_
    rintro e w' ⟨hg, rfl, h0⟩
    refine ⟨rfl, hg.size, fun k hk _ hne => hg.block k hk (by simpa using hne), hg.os, hg.tape, hg.output, keeps_of hR hg, fun hz => ?_⟩
    obtain ⟨c, a, q, hm, hR'⟩ := h0 hz
    have hkept : w'.ownsRow base 59 3 v 0 [] := hown.kept (row := some rb) hg (by
      cases h : v.ownBlock with
      | none => exact .inl rfl
      | some g => exact .inr (fun e => by have := (hown.lt g h).1; rw [Option.some.inj e] at this; omega))
    have h2 : (stepW st0 ws).2 = ⟨1, c, a, q, isTwin ws, ⟨#[]⟩, []⟩ := by unfold stepW; simp only [st0]; rw [hm]
    rw [h2]
    exact ⟨v, hR', hkept⟩
  · rw [e] at hR ⊢
    refine (bytes_any rb wb cap base ws st.c st.a st.q st.tw st.m v st.ts hn hcap hl hsz hF.m hF.ts w hE hS hR hwb hrb hown hrbb hbw0).mono ?_
    intro en w' h
    unfold BytesPost at h
    by_cases hb : isBytes ws = true
    · rw [if_pos hb] at h
      obtain ⟨rfl, hg, h0⟩ := h
      have h1 := stepW_row e hb
      refine ⟨by rw [h1], hg.size, fun k hk _ hne => hg.block k hk (by simpa using hne), hg.os, hg.tape, hg.output, keeps_of hR hg, fun hz => ?_⟩
      rw [h1] at hz ⊢
      obtain ⟨bs, hr, hR'⟩ := h0 hz
      rw [hr]
      refine ⟨v, by show Rd w' rb st.c st.a st.q st.tw _ v (fnV rb st.ph); rw [e]; exact hR', hown.kept (row := some rb) hg (by
        cases h : v.ownBlock with
        | none => exact .inl rfl
        | some g => exact .inr (fun e => by have := (hown.lt g h).1; rw [Option.some.inj e] at this; omega))⟩
    · rw [if_neg hb] at h
      exact next_of_turn (stepW_turn e hb) ⟨_, hR⟩ hown rfl h
  · rw [e] at hR ⊢
    refine (rturn_any rb wb cap base ws st.c st.a st.q st.tw st.m v (fnV rb 2) st.ts hn hl hcap hsz hF.ts w hE hS hR hwb hrb hown hrbb hbw0).mono ?_
    intro en w' h
    exact next_of_turn (stepW_two e ws) ⟨_, hR⟩ hown rfl h
end Go.Proofs.YtiojkmknikfhoaaGreatDoor
