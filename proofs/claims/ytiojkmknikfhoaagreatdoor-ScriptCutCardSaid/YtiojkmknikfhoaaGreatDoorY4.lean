/- A script comes back from its text; what is read is the text's; a text cut off: plain. -/
import Derived.Test.YtiojkmknikfhoaaGreatDoorY3
namespace Go.Proofs.YtiojkmknikfhoaaGreatDoor
set_option linter.unusedVariables false
set_option linter.unusedSimpArgs false
open Go

theorem parse_text {c a q : Int} {tw : Bool} {m : List UInt8} {ts : List (Int × Int × Int)} (hc : cfgB c a q = true) (ht : ts.all trnOk = true) (hm : m.length ≤ 65536) (hl : ts.length ≤ 4096) : parseR (mkB (textL c a q tw m ts)) = .ok (endSt c a q tw m ts) := by
  rw [text_lines]
  exact parse_whole (lines_no10 hc ht) (run_lines hc ht hm hl) (by simp [linesOf])

/-! ### Cut off -/
theorem cut_lines : ∀ (ls : List (List UInt8)), (∀ l ∈ ls, (10 : UInt8) ∉ l) → ∀ n : Nat, n ≤ (ls.flatMap (· ++ [10])).length →
    ∃ k q, k ≤ ls.length ∧ (ls.flatMap (· ++ [10])).take n = (ls.take k).flatMap (· ++ [10]) ++ q ∧ (10 : UInt8) ∉ q
  | [], _, n, hn => ⟨0, [], Nat.le_refl _, by simp, by simp⟩
  | l :: ls, h, n, hn => by
    rw [List.flatMap_cons] at hn ⊢
    have h10 := h l (by simp)
    by_cases hnl : n ≤ l.length
    · refine ⟨0, l.take n, Nat.zero_le _, ?_, fun hm => h10 (List.mem_of_mem_take hm)⟩
      rw [List.append_assoc, List.take_append_of_le_length hnl]
      rfl
    · obtain ⟨n', rfl⟩ : ∃ n', n = (l ++ [10]).length + n' := ⟨n - (l.length + 1), by simp; omega⟩
      obtain ⟨k, q, h1, h2, h3⟩ := cut_lines ls (fun x hx => h x (by simp [hx])) n' (by simp at hn ⊢; omega)
      refine ⟨k + 1, q, by simp; exact h1, ?_, h3⟩
      rw [List.take_length_add_append, h2, List.take_succ_cons, List.flatMap_cons]
      simp
theorem runL_take {st st' : St} : ∀ {ls : List (List UInt8)} {st : St} (k : Nat), runL st ls = some st' → ∃ st2, runL st (ls.take k) = some st2
  | [], st, k, h => ⟨st, by simp [runL]⟩
  | l :: ls, st, 0, h => ⟨st, rfl⟩
  | l :: ls, st, k + 1, h => by
    unfold runL at h
    split at h
    · rename_i h0
      obtain ⟨st2, h2⟩ := runL_take (st := st) k h
      exact ⟨st2, by rw [List.take_succ_cons, runL, if_pos h0]; exact h2⟩
    · cases h
theorem spC_lines : ∀ (ls : List (List UInt8)) (q : List UInt8), (∀ l ∈ ls, (10 : UInt8) ∉ l) → (10 : UInt8) ∉ q → spC 10 (ls.flatMap (· ++ [10]) ++ q) = ls ++ [q]
  | [], q, _, hq => spC_one hq
  | l :: ls, q, h, hq => by
    rw [List.flatMap_cons, List.append_assoc, List.append_assoc, List.singleton_append, spC_app (h l (by simp)), spC_lines ls q (fun x hx => h x (by simp [hx])) hq]
    rfl
theorem count_nl (p : List UInt8) : Lib.countB (mkB p) ⟨#[10]⟩ + 1 = (spC 10 p).length := by
  have h1 := Lib.splitB_all ⟨#[10]⟩ (Nat.le_refl 1) 0 _ (mkB p) rfl
  rw [splitB_spC 10 _ (mkB p) rfl, mkB_data, List.length_map] at h1
  omega
/-- A text cut off, wherever. -/
theorem parse_cut {c a q : Int} {tw : Bool} {m : List UInt8} {ts : List (Int × Int × Int)} (hc : cfgB c a q = true) (ht : ts.all trnOk = true) (hm : m.length ≤ 65536) (hl : ts.length ≤ 4096) {n : Nat} (hn : n ≤ (textL c a q tw m ts).length) :
    ((textL c a q tw m ts).take n = [] ∨ ∃ l b, (textL c a q tw m ts).take n = l ++ [b] ∧ b ≠ 10) ∧ parseR (mkB ((textL c a q tw m ts).take n)) = .error (5, Lib.countB (mkB ((textL c a q tw m ts).take n)) ⟨#[10]⟩) ∨
    (∃ l, (textL c a q tw m ts).take n = l ++ [10]) ∧ ∃ st, parseR (mkB ((textL c a q tw m ts).take n)) = .ok st := by
  have h10 := lines_no10 (tw := tw) (m := m) hc ht
  have hrun := run_lines (tw := tw) hc ht hm hl
  rw [text_lines] at hn ⊢
  obtain ⟨k, p, hk, hp, hp10⟩ := cut_lines _ h10 n hn
  rw [hp]
  obtain ⟨st2, hst2⟩ := runL_take (st := st0) k hrun
  have h10k : ∀ l ∈ (linesOf c a q tw m ts).take k, (10 : UInt8) ∉ l := fun l hl => h10 l (List.mem_of_mem_take hl)
  have hlk : ((linesOf c a q tw m ts).take k).length = k := by rw [List.length_take]; omega
  have hcount : Lib.countB (mkB (((linesOf c a q tw m ts).take k).flatMap (· ++ [10]) ++ p)) ⟨#[10]⟩ = k := by
    have := count_nl (((linesOf c a q tw m ts).take k).flatMap (· ++ [10]) ++ p)
    rw [spC_lines _ _ h10k hp10, List.length_append, hlk] at this
    simpa using this
  rw [hcount]
  by_cases hp0 : p = []
  · subst hp0
    cases k with
    | zero =>
      refine .inl ⟨.inl (by simp), ?_⟩
      have := parse_part (ls := []) (p := []) (st := st0) (by simp) (by simp) rfl (.inr rfl)
      simpa using this
    | succ k =>
      refine .inr ⟨?_, st2, ?_⟩
      · rw [List.append_nil]
        have hne : (linesOf c a q tw m ts).take (k + 1) ≠ [] := by intro e; rw [e] at hlk; simp at hlk
        rw [← List.dropLast_concat_getLast hne, List.flatMap_append]
        exact ⟨((linesOf c a q tw m ts).take (k + 1)).dropLast.flatMap (· ++ [10]) ++ ((linesOf c a q tw m ts).take (k + 1)).getLast hne, by simp⟩
      · rw [List.append_nil]
        exact parse_whole h10k hst2 (by intro e; rw [e] at hlk; simp at hlk)
  · refine .inl ⟨.inr ?_, ?_⟩
    · refine ⟨((linesOf c a q tw m ts).take k).flatMap (· ++ [10]) ++ p.dropLast, p.getLast hp0, ?_, fun e => hp10 (by rw [← e]; exact List.getLast_mem hp0)⟩
      rw [List.append_assoc, List.dropLast_concat_getLast]
    · have := parse_part h10k hp10 hst2 (.inl hp0)
      rw [hlk] at this
      exact this

/-! ### What is read is the text's -/
theorem join_words (l : List UInt8) : l = joinC 32 ((wordsL l).map (·.data.toList)) := by
  unfold wordsL
  rw [List.map_map, show ((fun x : ByteArray => x.data.toList) ∘ mkB) = id from by funext x; exact mkB_data x, List.map_id, join_spC]
theorem hexD_hexI {b : UInt8} (h : ¬ hexI b < 0) : hexD (hexI b).toNat = b := by
  have : ∀ i : Fin 256, ¬ hexI (UInt8.ofNat i) < 0 → hexD (hexI (UInt8.ofNat i)).toNat = UInt8.ofNat i := by decide +kernel
  have h2 := this ⟨b.toNat, UInt8.toNat_lt b⟩
  simp only [UInt8.ofNat_toNat] at h2
  exact h2 h
theorem hexs_cons (c : UInt8) (r : List UInt8) : hexs (c :: r) = hexD (c.toNat / 16) :: hexD (c.toNat % 16) :: hexs r := by simp [hexs]
theorem hexs_rowD : ∀ (n : Nat) (x bs : List UInt8), x.length ≤ n → rowD x = some bs → hexs bs = x
  | _, [], bs, _, h => by simp [rowD] at h; subst h; rfl
  | _, [_], bs, _, h => by simp [rowD] at h
  | 0, a :: b :: r, bs, hn, h => by simp at hn
  | n + 1, a :: b :: r, bs, hn, h => by
    rw [show rowD (a :: b :: r) = if hexI a < 0 ∨ hexI b < 0 then none else (rowD r).map (UInt8.ofNat (16 * (hexI a).toNat + (hexI b).toNat) :: ·) from rfl] at h
    split at h
    · cases h
    · rename_i hab
      cases hr : rowD r with
      | none => rw [hr] at h; simp at h
      | some bs' =>
        rw [hr, Option.map_some] at h
        have h := Option.some.inj h
        subst h
        have ih := hexs_rowD n r bs' (by simp at hn; omega) hr
        have ra := hexI_lt a
        have rb := hexI_lt b
        have hv : (UInt8.ofNat (16 * (hexI a).toNat + (hexI b).toNat)).toNat = 16 * (hexI a).toNat + (hexI b).toNat := by rw [UInt8.toNat_ofNat']; omega
        rw [hexs_cons, hv, ih, show (16 * (hexI a).toNat + (hexI b).toNat) / 16 = (hexI a).toNat by omega, show (16 * (hexI a).toNat + (hexI b).toNat) % 16 = (hexI b).toNat by omega, hexD_hexI (by omega), hexD_hexI (by omega)]
/-- What holds of a state behind lines that were taken. -/
structure Told (st : St) (txt : List UInt8) : Prop where
  ph : 1 ≤ st.ph
  one : st.ph = 1 → st.ts = []
  cfg : cfgB st.c st.a st.q = true
  trn : st.ts.all trnOk = true
  txt : txt = textL st.c st.a st.q st.tw st.m.data.toList st.ts
theorem back_head {l : List UInt8} (h : (stepW st0 (wordsL l)).1 = 0) : Told (stepW st0 (wordsL l)).2 (l ++ [10]) := by
  have hE : machE (wordsL l) = 0 := by have := h; unfold stepW at this; exact this
  have hj := join_words l
  obtain ⟨ws, hws⟩ : ∃ ws, wordsL l = ws := ⟨_, rfl⟩
  rw [hws] at hE hj h ⊢
  have hE' := hE
  unfold machE at hE
  cases hf : machForm ws with
  | false => rw [hf] at hE; simp at hE
  | true =>
    rw [hf] at hE
    simp only [if_true] at hE
    have hf2 := hf
    unfold machForm at hf2
    simp only [Bool.and_eq_true, beq_iff_eq] at hf2
    obtain ⟨⟨hall, h4⟩, h0⟩ := hf2
    obtain ⟨x0, x1, x2, x3, hbw⟩ := four h4
    have hnums : machNums ws = [valN x1, valN x2, valN x3] := by unfold machNums; rw [hbw]; rfl
    rw [hbw] at hall
    simp only [List.drop_one, List.tail_cons, List.all_cons, List.all_nil, Bool.and_true, Bool.and_eq_true] at hall
    rw [hnums] at hE
    simp only at hE
    have hcfg : cfgB (valN x1) (valN x2) (valN x3) = true := by
      cases hc : cfgB (valN x1) (valN x2) (valN x3) with
      | true => rfl
      | false => rw [hc] at hE; simp at hE
    have hs2 : (stepW st0 ws).2 = ⟨1, valN x1, valN x2, valN x3, isTwin ws, ⟨#[]⟩, []⟩ := by unfold stepW; simp only [st0]; rw [hnums]
    have hx0 : ws[0]? = some x0 := by
      have : (bodyW ws)[0]? = some x0 := by rw [hbw]; rfl
      unfold bodyW at this
      split at this
      · rwa [List.getElem?_take] at this
      · exact this
    have hm0 : x0.data.toList = machineL := by
      rw [hx0] at h0
      have : x0.toList = machineW := by simpa using h0
      rw [← Lib.toList_data, this]; rfl
    rw [hs2]
    refine ⟨Nat.le_refl _, fun _ => rfl, hcfg, rfl, ?_⟩
    have e1 := num_back hall.1
    have e2 := num_back hall.2.1
    have e3 := num_back hall.2.2
    have hlist : ws = [x0, x1, x2, x3] ++ (if isTwin ws then [mkB twinW] else []) := by
      cases ht : isTwin ws with
      | false => rw [bodyW_false ht] at hbw; rw [hbw]; rfl
      | true =>
        have h5 := twin_len ht
        obtain ⟨a, b, c, d, e, rfl⟩ := five h5
        have he : e.toList = twinW := by simpa [isTwin] using ht
        unfold bodyW at hbw
        rw [if_pos ht] at hbw
        simp only [List.take_succ_cons, List.take_zero, List.cons.injEq, and_true] at hbw
        obtain ⟨rfl, rfl, rfl, rfl⟩ := hbw
        have : e = mkB twinW := by rw [← he, Lib.toList_data, mkB_of]
        rw [this]; rfl
    simp only [textL, headL, numW, e1, e2, e3, List.flatMap_nil, List.append_nil, show hexFrom 0 (⟨#[]⟩ : ByteArray).data.toList = [] from rfl]
    obtain ⟨tw, htw⟩ : ∃ tw, isTwin ws = tw := ⟨_, rfl⟩
    rw [htw] at hlist ⊢
    rw [hj, hlist]
    cases tw with
    | true => simp [joinC, hm0, mkB_data, twinL, twinW]
    | false => simp [joinC, hm0]
end Go.Proofs.YtiojkmknikfhoaaGreatDoor
