/- What is read is the text's: plain. -/
import Derived.Test.YtiojkmknikfhoaaGreatDoorY4
namespace Go.Proofs.YtiojkmknikfhoaaGreatDoor
set_option linter.unusedVariables false
set_option linter.unusedSimpArgs false
open Go

theorem text_snoc_turn (c a q : Int) (tw : Bool) (m : List UInt8) (ts : List (Int × Int × Int)) (t : Int × Int × Int) : textL c a q tw m (ts ++ [t]) = textL c a q tw m ts ++ (lineT t ++ [10]) := by
  unfold textL
  rw [List.flatMap_append, List.flatMap_cons, List.flatMap_nil, turnL_line]
  simp
theorem text_snoc_row (c a q : Int) (tw : Bool) (m bs : List UInt8) (h24 : m.length % 24 = 0) (h1 : bs ≠ []) (h2 : bs.length ≤ 24) : textL c a q tw (m ++ bs) [] = textL c a q tw m [] ++ (rowLine bs ++ [10]) := by
  unfold textL
  rw [hexFrom_app, hexFrom_piece (by omega) h2 h1]
  simp
theorem rowD_len : ∀ (n : Nat) (x bs : List UInt8), x.length ≤ n → rowD x = some bs → x.length = 2 * bs.length := by
  intro n x bs hn h
  have := hexs_rowD n x bs hn h
  rw [← this, hexs_len]
theorem back_row {st : St} {l txt : List UInt8} (hT : Told st txt) (hp : st.ph = 1) (hb : isBytes (wordsL l) = true) (h : (stepW st (wordsL l)).1 = 0) : Told (stepW st (wordsL l)).2 (txt ++ (l ++ [10])) := by
  have hj := join_words l
  rw [stepW_row hp hb] at h ⊢
  obtain ⟨ws, hws⟩ : ∃ ws, wordsL l = ws := ⟨_, rfl⟩
  rw [hws] at hj h hb ⊢
  unfold rowE at h
  cases hr : rowOf ws st.m with
  | none => rw [hr] at h; cases h
  | some bs =>
    simp only
    have hr2 := hr
    unfold rowOf at hr2
    cases hf : rowForm ws st.m with
    | false => rw [hf] at hr2; cases hr2
    | true =>
      rw [hf] at hr2
      have hlen : ws.length = 2 := by
        rcases Nat.decEq ws.length 2 with h' | h'
        · rw [rowForm_ne h'] at hf; cases hf
        · exact h'
      obtain ⟨y0, y1, rfl⟩ := two hlen
      simp only [if_true, List.getElem?_cons_succ, List.getElem?_cons_zero] at hr2
      have h0 : y0.data.toList = [98, 121, 116, 101, 115] := by
        simp only [isBytes, List.getElem?_cons_zero, bytesHd, beq_iff_eq] at hb
        rw [← Lib.toList_data]; exact hb
      have hy := hexs_rowD y1.toList.length y1.toList bs (Nat.le_refl _) hr2
      have hyl := rowD_len y1.toList.length y1.toList bs (Nat.le_refl _) hr2
      have h24 : st.m.size % 24 = 0 := by
        simp only [rowForm, Bool.and_eq_true, beq_iff_eq] at hf
        exact hf.1.1.1
      obtain ⟨f1, f2, f3⟩ := rowForm_two hf
      have hsz : y1.toList.length = y1.size := by rw [Lib.toList_data]; simp
      have hll : l = rowLine bs := by
        rw [hj]
        simp only [List.map_cons, List.map_nil, joinC]
        rw [h0, ← Lib.toList_data, ← hy]
        rfl
      have hts := hT.one hp
      refine ⟨by simp only; omega, fun _ => hts, hT.cfg, hT.trn, ?_⟩
      simp only
      rw [hT.txt, hts, hll]
      have hd : (st.m ++ (⟨bs.toArray⟩ : ByteArray)).data.toList = st.m.data.toList ++ bs := by simp
      rw [hd]
      refine (text_snoc_row _ _ _ _ _ _ ?_ ?_ ?_).symm
      · have : st.m.data.toList.length = st.m.size := by simp
        omega
      · intro e; rw [e] at hyl; simp only [List.length_nil] at hyl; omega
      · omega
theorem back_turn {st : St} {l txt : List UInt8} (hT : Told st txt) (hs : stepW st (wordsL l) = stepT st (wordsL l)) (h : (stepW st (wordsL l)).1 = 0) : Told (stepW st (wordsL l)).2 (txt ++ (l ++ [10])) := by
  have hj := join_words l
  rw [hs] at h ⊢
  obtain ⟨ws, hws⟩ : ∃ ws, wordsL l = ws := ⟨_, rfl⟩
  rw [hws] at hj h ⊢
  unfold stepT turnE at h
  unfold stepT
  cases ht : turnOf ws with
  | none => rw [ht] at h; cases h
  | some t =>
    rw [ht] at h
    simp only at h ⊢
    have hok : trnOk t = true := by
      cases ho : trnOk t with
      | true => rfl
      | false => rw [ho] at h; cases h
    have hll : l = lineT t := by
      rw [hj]
      unfold turnOf at ht
      split at ht
      · rename_i hall
        cases hx : ws[0]? with
        | none => rw [hx] at ht; cases ht
        | some x =>
          rw [hx] at ht
          simp only at ht
          obtain ⟨r, rfl⟩ : ∃ r, ws = x :: r := by
            cases ws with
            | nil => simp at hx
            | cons y r => simp at hx; exact ⟨r, by rw [hx]⟩
          simp only [List.drop_one, List.tail_cons] at hall ht
          have hxd : x.toList = x.data.toList := Lib.toList_data x
          unfold turnForm at ht
          split at ht
          · rename_i h0
            match r, hall, ht with
            | [y1, y2], hall, ht =>
              simp only [List.all_cons, List.all_nil, Bool.and_true, Bool.and_eq_true] at hall
              simp only [List.map_cons, List.map_nil, Option.some.injEq] at ht
              subst ht
              simp [joinC, lineT, numW, num_back hall.1, num_back hall.2, ← hxd, h0]
          · split at ht
            · rename_i h0
              match r, hall, ht with
              | [y1], hall, ht =>
                simp only [List.all_cons, List.all_nil, Bool.and_true] at hall
                simp only [List.map_cons, List.map_nil, Option.some.injEq] at ht
                subst ht
                simp [joinC, lineT, numW, num_back hall, ← hxd, h0]
            · split at ht
              · rename_i h0
                match r, hall, ht with
                | [], hall, ht =>
                  simp only [List.map_nil, Option.some.injEq] at ht
                  subst ht
                  simp [joinC, lineT, ← hxd, h0]
              · split at ht
                · rename_i h0
                  match r, hall, ht with
                  | [], hall, ht =>
                    simp only [List.map_nil, Option.some.injEq] at ht
                    subst ht
                    simp [joinC, lineT, ← hxd, h0]
                · cases ht
      · cases ht
    refine ⟨(by decide : 1 ≤ 2), fun e => by simp at e, hT.cfg, ?_, ?_⟩
    · simp only [List.all_append, List.all_cons, List.all_nil, Bool.and_true, hT.trn, hok]
    · rw [text_snoc_turn, hT.txt, hll]
theorem back_step {st : St} {l txt : List UInt8} (hf : Fit st) (hT : Told st txt) (h : (stepW st (wordsL l)).1 = 0) : Told (stepW st (wordsL l)).2 (txt ++ (l ++ [10])) := by
  have hp := hT.ph
  rcases (show st.ph = 1 ∨ st.ph = 2 by have := hf.two; omega) with e | e
  · by_cases hb : isBytes (wordsL l) = true
    · exact back_row hT e hb h
    · exact back_turn hT (stepW_turn e hb) h
  · exact back_turn hT (stepW_two e _) h
/-- A line that was taken ends in its newline. -/
theorem taken_line {st : St} {x : ByteArray} (h : (stepL st x).1 = 0) : ∃ l, x = mkB (l ++ [10]) ∧ stepL st x = stepW st (wordsL l) := by
  cases hs : Lib.hasSuffix x.data.toList [10] with
  | false => unfold stepL at h; rw [hs] at h; cases h
  | true =>
    unfold Lib.hasSuffix at hs
    obtain ⟨l, hl⟩ := List.isSuffixOf_iff_suffix.1 hs
    have hx : x = mkB (l ++ [10]) := by rw [hl]; exact (mkB_of x).symm
    exact ⟨l, hx, by rw [hx, stepL_line]⟩
theorem back_run : ∀ (xs : List ByteArray) (st st' : St) (txt : List UInt8) (k : Nat), Fit st → Told st txt → parseF st (k + 1) xs = .ok st' → Told st' (txt ++ (xs.flatMap (·.data.toList)))
  | [], st, st', txt, k, hf, hT, h => by
    unfold parseF at h
    rw [if_neg (by omega)] at h
    cases h
    simpa using hT
  | x :: xs, st, st', txt, k, hf, hT, h => by
    unfold parseF at h
    split at h
    · rename_i h0
      obtain ⟨l, rfl, hst⟩ := taken_line h0
      have hfit := fit_stepL hf h0
      rw [hst] at h h0 hfit
      have hT' := back_step hf hT h0
      have := back_run xs _ st' _ (k + 1) hfit hT' h
      simpa [mkB_data] using this
    · cases h
theorem lines_flat (s : ByteArray) : (linesB s).flatMap (·.data.toList) = s.data.toList := by
  unfold linesB
  rw [List.flatMap_map]
  have : (linesL s.data.toList).flatMap (fun a => (⟨a.toArray⟩ : ByteArray).data.toList) = (linesL s.data.toList).flatten := by
    simp [List.flatMap_def]
  rw [this, linesL_join]
/-- What is read is the text's. -/
theorem parse_back {s : ByteArray} {st : St} (h : parseR s = .ok st) : Told st s.data.toList := by
  have hl := lines_flat s
  unfold parseR at h
  cases hx : linesB s with
  | nil => rw [hx] at h; simp [parseF] at h
  | cons x xs =>
    rw [hx] at h hl
    unfold parseF at h
    split at h
    · rename_i h0
      obtain ⟨l, rfl, hst⟩ := taken_line h0
      have hfit := fit_stepL fit_st0 h0
      rw [hst] at h h0 hfit
      have hT := back_head h0
      have := back_run xs _ st _ 0 hfit hT h
      rw [← hl]
      simpa [mkB_data] using this
    · cases h
end Go.Proofs.YtiojkmknikfhoaaGreatDoor
