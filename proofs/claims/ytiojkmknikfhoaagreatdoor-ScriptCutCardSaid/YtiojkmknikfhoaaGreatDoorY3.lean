/- The lines of a script are taken: plain. -/
import Derived.Test.YtiojkmknikfhoaaGreatDoorY2
namespace Go.Proofs.YtiojkmknikfhoaaGreatDoor
set_option linter.unusedVariables false
set_option linter.unusedSimpArgs false
open Go

theorem mk_toList (l : List UInt8) : (mkB l).toList = l := by rw [Lib.toList_data, mkB_data]
/-! ### The first line -/
theorem words_head {c a q : Int} {tw : Bool} (h : cfgB c a q = true) : wordsL (headL c a q tw) = [mkB machineL, mkB (Lib.itoa c), mkB (Lib.itoa a), mkB (Lib.itoa q)] ++ (if tw then [mkB twinW] else []) := by
  have hk := cfg_le h
  have hm : (32 : UInt8) ∉ machineL := by decide
  have ht : (32 : UInt8) ∉ twinW := by decide
  have hc := (itoa_no (n := c) (by omega)).1
  have ha := (itoa_no (n := a) (by omega)).1
  have hq := (itoa_no (n := q) (by omega)).1
  unfold wordsL headL numW
  cases tw with
  | true =>
    rw [show (if true = true then twinL else []) = 32 :: twinW from rfl]
    rw [show machineL ++ 32 :: Lib.itoa c ++ 32 :: Lib.itoa a ++ 32 :: Lib.itoa q ++ 32 :: twinW = machineL ++ 32 :: (Lib.itoa c ++ 32 :: (Lib.itoa a ++ 32 :: (Lib.itoa q ++ 32 :: twinW))) by simp]
    rw [spC_app hm, spC_app hc, spC_app ha, spC_app hq, spC_one ht]
    rfl
  | false =>
    rw [show (if false = true then twinL else []) = [] from rfl]
    rw [show machineL ++ 32 :: Lib.itoa c ++ 32 :: Lib.itoa a ++ 32 :: Lib.itoa q ++ [] = machineL ++ 32 :: (Lib.itoa c ++ 32 :: (Lib.itoa a ++ 32 :: Lib.itoa q)) by simp]
    rw [spC_app hm, spC_app hc, spC_app ha, spC_one hq]
    rfl
theorem head_step {c a q : Int} {tw : Bool} (h : cfgB c a q = true) : stepW st0 (wordsL (headL c a q tw)) = (0, ⟨1, c, a, q, tw, ⟨#[]⟩, []⟩) := by
  have hk := cfg_le h
  obtain ⟨c1, c2⟩ := itoa_word (n := c) (by omega) (by omega)
  obtain ⟨a1, a2⟩ := itoa_word (n := a) (by omega) (by omega)
  obtain ⟨q1, q2⟩ := itoa_word (n := q) (by omega) (by omega)
  have hw := words_head (tw := tw) h
  obtain ⟨ws, hws⟩ : ∃ ws, wordsL (headL c a q tw) = ws := ⟨_, rfl⟩
  rw [hws] at hw ⊢
  have htw : isTwin ws = tw := by
    rw [hw]
    cases tw with
    | true => simp [isTwin, mk_toList]
    | false => rfl
  have hbw : bodyW ws = [mkB machineL, mkB (Lib.itoa c), mkB (Lib.itoa a), mkB (Lib.itoa q)] := by
    unfold bodyW
    rw [htw, hw]
    cases tw <;> rfl
  have hw0 : ws[0]? = some (mkB machineL) := by rw [hw]; cases tw <;> rfl
  have hnums : machNums ws = [c, a, q] := by
    unfold machNums
    rw [hbw]
    simp [c2, a2, q2]
  have hE : machE ws = 0 := by
    unfold machE machForm
    rw [hnums, hbw, hw0]
    simp [c1, a1, q1, mk_toList, h]
    decide
  unfold stepW
  simp only [st0]
  rw [hnums, hE, htw]

/-! ### A row of bytes -/
theorem hexI_hexD (n : Nat) (h : n < 16) : hexI (hexD n) = n := by
  have : ∀ i : Fin 16, hexI (hexD i) = ((i : Nat) : Int) := by decide +kernel
  exact this ⟨n, h⟩
theorem rowD_hexs : ∀ l : List UInt8, rowD (hexs l) = some l
  | [] => rfl
  | c :: r => by
    have hlt : c.toNat < 256 := UInt8.toNat_lt c
    have h1 := hexI_hexD (c.toNat / 16) (by omega)
    have h2 := hexI_hexD (c.toNat % 16) (by omega)
    have hh : hexs (c :: r) = hexD (c.toNat / 16) :: hexD (c.toNat % 16) :: hexs r := by simp [hexs]
    rw [hh, show rowD (hexD (c.toNat / 16) :: hexD (c.toNat % 16) :: hexs r) = if hexI (hexD (c.toNat / 16)) < 0 ∨ hexI (hexD (c.toNat % 16)) < 0 then none else (rowD (hexs r)).map (UInt8.ofNat (16 * (hexI (hexD (c.toNat / 16))).toNat + (hexI (hexD (c.toNat % 16))).toNat) :: ·) from rfl]
    rw [h1, h2, if_neg (by omega), rowD_hexs r]
    simp only [Int.toNat_natCast, Option.map_some]
    rw [show 16 * (c.toNat / 16) + c.toNat % 16 = c.toNat by omega, UInt8.ofNat_toNat]
theorem hexs_len (l : List UInt8) : (hexs l).length = 2 * l.length := by
  induction l with
  | nil => rfl
  | cons c r ih =>
    have hh : hexs (c :: r) = hexD (c.toNat / 16) :: hexD (c.toNat % 16) :: hexs r := by simp [hexs]
    rw [hh]; simp [ih]; omega
theorem words_row (l : List UInt8) : wordsL (rowLine l) = [mkB [98, 121, 116, 101, 115], mkB (hexs l)] := by
  unfold wordsL rowLine
  rw [show ([98, 121, 116, 101, 115, 32] : List UInt8) ++ hexs l = [98, 121, 116, 101, 115] ++ 32 :: hexs l by simp, spC_app (by decide), spC_one (hexs_no l).1]
  rfl
theorem row_step {st : St} {l : List UInt8} (hp : st.ph = 1) (h24 : st.m.size % 24 = 0) (h1 : l ≠ []) (h2 : l.length ≤ 24) (h3 : st.m.size + l.length ≤ 65536) :
    stepW st (wordsL (rowLine l)) = (0, { st with m := st.m ++ mkB l }) := by
  have hb : isBytes [mkB [98, 121, 116, 101, 115], mkB (hexs l)] = true := by simp [isBytes, mk_toList, bytesHd]
  have hlen : 1 ≤ l.length := by cases l with | nil => exact absurd rfl h1 | cons => simp
  have hz : (mkB (hexs l)).size = 2 * l.length := by rw [mkB_size, hexs_len]
  have hf : rowForm [mkB [98, 121, 116, 101, 115], mkB (hexs l)] st.m = true := by
    show (st.m.size % 24 == 0 && (mkB (hexs l)).size != 0 && (mkB (hexs l)).size % 2 == 0 && decide ((mkB (hexs l)).size ≤ 48)) = true
    rw [hz, h24]
    have e1 : (2 * l.length != 0) = true := by rw [bne_iff_ne]; omega
    have e2 : (2 * l.length % 2 == 0) = true := by rw [beq_iff_eq]; omega
    rw [e1, e2, decide_eq_true (by omega)]
    rfl
  have hro : rowOf [mkB [98, 121, 116, 101, 115], mkB (hexs l)] st.m = some l := by
    unfold rowOf
    rw [hf]
    simp [mk_toList, rowD_hexs]
  rw [words_row, stepW_row hp hb]
  unfold rowE
  rw [hro]
  simp only
  rw [if_neg (by omega)]
  rfl

/-! ### A turn -/
theorem words_turn {t : Int × Int × Int} (h : trnOk t = true) : wordsL (lineT t) = mkB (wordOf t.1) :: ((if t.1 = 0 then [mkB (Lib.itoa t.2.1)] else []) ++ (if t.1 = 0 ∨ t.1 = 1 then [mkB (Lib.itoa t.2.2)] else [])) := by
  have hk := trnOk_le h
  have hw := (wordOf_no (k := t.1)).1
  have h1 := (itoa_no (n := t.2.1) (by omega)).1
  have h2 := (itoa_no (n := t.2.2) (by omega)).1
  unfold wordsL lineT numW
  by_cases h0 : t.1 = 0
  · rw [if_pos h0, if_pos h0, if_pos (.inl h0), if_pos (.inl h0)]
    rw [show wordOf t.1 ++ 32 :: Lib.itoa t.2.1 ++ 32 :: Lib.itoa t.2.2 = wordOf t.1 ++ 32 :: (Lib.itoa t.2.1 ++ 32 :: Lib.itoa t.2.2) by simp, spC_app hw, spC_app h1, spC_one h2]
    rfl
  · rw [if_neg h0, if_neg h0]
    by_cases h1' : t.1 = 1
    · rw [if_pos (.inr h1'), if_pos (.inr h1')]
      rw [show wordOf t.1 ++ [] ++ 32 :: Lib.itoa t.2.2 = wordOf t.1 ++ 32 :: Lib.itoa t.2.2 by simp, spC_app hw, spC_one h2]
      rfl
    · rw [if_neg (by omega), if_neg (by omega)]
      rw [show wordOf t.1 ++ [] ++ [] = wordOf t.1 by simp, spC_one hw]
      rfl
theorem turn_words {t : Int × Int × Int} (h : trnOk t = true) : turnOf (wordsL (lineT t)) = some t ∧ isBytes (wordsL (lineT t)) = false := by
  have hk := trnOk_le h
  obtain ⟨k, s, u⟩ := t
  simp only at hk
  obtain ⟨s1, s2⟩ := itoa_word (n := s) (by omega) (by omega)
  obtain ⟨u1, u2⟩ := itoa_word (n := u) (by omega) (by omega)
  have hw := words_turn h
  simp only at hw
  rw [hw]
  have hb : ∀ r, isBytes (mkB (wordOf k) :: r) = false := by
    intro r
    simp only [isBytes, List.getElem?_cons_zero, mk_toList, bytesHd]
    rcases (show k = 0 ∨ k = 1 ∨ k = 2 ∨ k = 3 by omega) with rfl | rfl | rfl | rfl <;> decide
  refine ⟨?_, hb _⟩
  have hu : trnOk (k, s, u) = true := h
  unfold trnOk turnB at hu
  simp only at hu
  rcases (show k = 0 ∨ k = 1 ∨ k = 2 ∨ k = 3 by omega) with rfl | rfl | rfl | rfl
  · simp [turnOf, turnForm, s1, u1, s2, u2, mk_toList]
  · have hs : s = 0 := by simp at hu; omega
    subst hs
    simp [turnOf, turnForm, u1, u2, mk_toList]
    decide
  · have hs : s = 0 ∧ u = 0 := by simp at hu; omega
    obtain ⟨rfl, rfl⟩ := hs
    simp [turnOf, turnForm, mk_toList]
    decide
  · have hs : s = 0 ∧ u = 0 := by simp at hu; omega
    obtain ⟨rfl, rfl⟩ := hs
    simp [turnOf, turnForm, mk_toList]
    decide
theorem turn_step {st : St} {t : Int × Int × Int} (hp : st.ph = 1 ∨ st.ph = 2) (h : trnOk t = true) (hl : st.ts.length < 4096) :
    stepW st (wordsL (lineT t)) = (0, { st with ph := 2, ts := st.ts ++ [t] }) := by
  obtain ⟨h1, h2⟩ := turn_words h
  have hs : stepW st (wordsL (lineT t)) = stepT st (wordsL (lineT t)) := by
    rcases hp with hp | hp
    · exact stepW_turn hp (by rw [h2]; decide)
    · exact stepW_two hp _
  rw [hs]
  unfold stepT turnE
  rw [h1]
  simp only [h, if_true]
  rw [if_neg (by omega)]

/-! ### All of it -/
theorem run_rows : ∀ (k : Nat) (l : List UInt8) (st : St), st.ph = 1 → st.m.size % 24 = 0 → st.m.size + l.length ≤ 65536 → l.length ≤ k → runL st (rowsF k l) = some { st with m := st.m ++ mkB l }
  | 0, l, st, _, _, _, hk => by
    have : l = [] := List.eq_nil_of_length_eq_zero (by omega)
    subst this
    simp only [rowsF, runL]
    have : st.m ++ mkB [] = st.m := by
      rw [show mkB [] = ByteArray.empty from rfl]; simp
    rw [this]
  | k + 1, l, st, hp, h24, hb, hk => by
    unfold rowsF
    by_cases hn : l = []
    · subst hn
      simp only [if_true, runL]
      have : st.m ++ mkB [] = st.m := by
        rw [show mkB [] = ByteArray.empty from rfl]; simp
      rw [this]
    · rw [if_neg hn]
      have hlen : 1 ≤ l.length := by cases l with | nil => exact absurd rfl hn | cons => simp
      have htl : (l.take 24).length = min 24 l.length := List.length_take
      have hp' : l.take 24 ≠ [] := by intro e; rw [e] at htl; simp only [List.length_nil] at htl; omega
      have hst := row_step (st := st) (l := l.take 24) hp h24 hp' (by omega) (by omega)
      unfold runL
      rw [hst]
      simp only [if_true]
      have hz : (st.m ++ mkB (l.take 24)).size = st.m.size + min 24 l.length := by rw [ByteArray.size_append, mkB_size, htl]
      have happ : st.m ++ mkB (l.take 24) ++ mkB (l.drop 24) = st.m ++ mkB l := by
        rw [ByteArray.append_assoc]
        congr 1
        have : mkB (l.take 24) ++ mkB (l.drop 24) = mkB (l.take 24 ++ l.drop 24) := by
          apply ByteArray.ext
          simp [mkB]
        rw [this, List.take_append_drop]
      by_cases hlong : 24 ≤ l.length
      · rw [run_rows k (l.drop 24) { st with m := st.m ++ mkB (l.take 24) } hp (by show (st.m ++ mkB (l.take 24)).size % 24 = 0; rw [hz]; omega) (by show (st.m ++ mkB (l.take 24)).size + _ ≤ _; rw [hz, List.length_drop]; omega) (by rw [List.length_drop]; omega)]
        simp only
        rw [happ]
      · have hd : l.drop 24 = [] := List.drop_eq_nil_of_le (by omega)
        have ht : l.take 24 = l := List.take_of_length_le (by omega)
        rw [hd, ht]
        cases k <;> rfl
theorem run_turns : ∀ (ts : List (Int × Int × Int)) (st : St), st.ph = 1 ∨ st.ph = 2 → ts.all trnOk = true → st.ts.length + ts.length ≤ 4096 → runL st (ts.map lineT) = some { st with ph := if ts = [] then st.ph else 2, ts := st.ts ++ ts }
  | [], st, _, _, _ => by simp [runL]
  | t :: ts, st, hp, ht, hl => by
    simp only [List.all_cons, Bool.and_eq_true] at ht
    simp only [List.length_cons] at hl
    have hst := turn_step (st := st) hp ht.1 (by omega)
    rw [List.map_cons]
    unfold runL
    rw [hst]
    simp only [if_true]
    rw [run_turns ts { st with ph := 2, ts := st.ts ++ [t] } (.inr rfl) ht.2 (by simp; omega)]
    simp
def endSt (c a q : Int) (tw : Bool) (m : List UInt8) (ts : List (Int × Int × Int)) : St := ⟨if ts = [] then 1 else 2, c, a, q, tw, mkB m, ts⟩
theorem run_lines {c a q : Int} {tw : Bool} {m : List UInt8} {ts : List (Int × Int × Int)} (hc : cfgB c a q = true) (ht : ts.all trnOk = true) (hm : m.length ≤ 65536) (hl : ts.length ≤ 4096) : runL st0 (linesOf c a q tw m ts) = some (endSt c a q tw m ts) := by
  unfold linesOf runL
  rw [head_step hc]
  simp only [if_true]
  have h1 := run_rows m.length m ⟨1, c, a, q, tw, ⟨#[]⟩, []⟩ rfl rfl (by show 0 + _ ≤ _; omega) (Nat.le_refl _)
  rw [runL_app (st := st0) h1, run_turns ts _ (.inl rfl) ht (by simpa using hl)]
  simp [endSt]
  show ByteArray.empty ++ mkB m = mkB m
  simp
end Go.Proofs.YtiojkmknikfhoaaGreatDoor
