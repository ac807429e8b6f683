/- ScriptBack: its walk. -/
import Derived.Test.YtiojkmknikfhoaaGreatDoorX3
import Derived.Test.YtiojkmknikfhoaaGreatDoorX4
import Derived.Test.YtiojkmknikfhoaaGreatDoorY5
namespace Go.Proofs.YtiojkmknikfhoaaGreatDoor
set_option linter.unusedVariables false
set_option linter.unusedSimpArgs false
open Go.RowKit

def PrintPost (c a q : Int) (tw : Bool) (m : ByteArray) (ts : List (Int × Int × Int)) (w : World) (e : Ending) (w' : World) : Prop :=
  ∃ (t : ByteArray) (E : Int), e = .returned (.tuple #[.string t, .int .i64 E]) ∧ Below w.heap.size w w' ∧ ((E = 0 ∧ cfgB c a q = true ∧ ts.all trnOk = true ∧ m.size ≤ 65536 ∧ ts.length ≤ 4096 ∧ t = mkB (textL c a q tw m.data.toList ts)) ∨ (E ≠ 0 ∧ t = ⟨#[]⟩ ∧ ¬ (cfgB c a q = true ∧ ts.all trnOk = true ∧ m.size ≤ 65536 ∧ ts.length ≤ 4096)))
theorem print_any (c a q : Int) (tw : Bool) (m : ByteArray) (v : Value) (ts : List (Int × Int × Int)) (hl : ts.length ≤ 1000000) (w : World) (hE : Env w) (hT : TurnsV w v ts) :
    Calls Tryz.prog 12 #[.agg #[.int .i64 c, .int .i64 a, .int .i64 q, .bool tw, .string m, v]] w (PrintPost c a q tw m ts w) := by
  obtain ⟨A, cap, rfl, hc, hr⟩ := hT
  obtain ⟨b, o, hA, hTu⟩ : ∃ b o, (ts ≠ [] → A = some ⟨b, o, none⟩) ∧ Turns w b o ts := by
    by_cases h0 : ts = []
    · exact ⟨0, 0, fun h => absurd h0 h, fun j t hj => by rw [h0] at hj; simp at hj⟩
    · obtain ⟨g, o, hA, hTu⟩ := hr h0
      exact ⟨g, o, fun _ => hA, hTu⟩
  cases h1 : (cfgB c a q && ts.all trnOk) with
  | false =>
    refine (print_arg c a q tw m A b o cap ts hA hl w hTu h1).mono ?_
    rintro e w' ⟨rfl, hb⟩
    exact ⟨_, _, rfl, hb, .inr ⟨by decide, rfl, fun h => by rw [h.1, h.2.1] at h1; cases h1⟩⟩
  | true =>
    simp only [Bool.and_eq_true] at h1
    by_cases h2 : 65536 < m.size ∨ 4096 < ts.length
    · refine (print_long c a q tw m A b o cap ts hA hl w hTu h1.1 h1.2 h2).mono ?_
      rintro e w' ⟨rfl, hb⟩
      exact ⟨_, _, rfl, hb, .inr ⟨by decide, rfl, fun h => by omega⟩⟩
    · refine (print_ok c a q tw m A b o cap ts hA w hE hTu h1.1 h1.2 (by omega) (by omega)).mono ?_
      rintro e w' ⟨rfl, hb⟩
      exact ⟨_, _, rfl, hb, .inl ⟨rfl, h1.1, h1.2, by omega, by omega, rfl⟩⟩
theorem text_size {c a q : Int} {tw : Bool} {m : List UInt8} {ts : List (Int × Int × Int)} (hc : cfgB c a q = true) (ht : ts.all trnOk = true) : (textL c a q tw m ts).length ≤ 100 + 9 * m.length + 40 * ts.length := by
  have hk := cfg_le hc
  have h1 := numW_len c (by omega) (by omega)
  have h2 := numW_len a (by omega) (by omega)
  have h3 := numW_len q (by omega) (by omega)
  have h4 := hexFrom_len m 0
  have h5 := turnsL_len ts ht
  unfold textL headL
  simp only [List.length_append, List.length_cons, List.length_nil, show machineL.length = 7 from rfl]
  have : (if tw = true then twinL else []).length ≤ 5 := by split <;> decide
  omega
def errT (w : World) : Prop := w.cell? ⟨1, 0, none⟩ = some (.iface 142 (.agg #[.pointer (some ⟨9, 45, none⟩)]))
theorem errT.below {w w' : World} (h : errT w) (hE : Env w) (hb : Below w.heap.size w w') : errT w' := errTy0.below h hE hb
/-- A draft, as it is handed over. -/
structure DraftIn (w : World) (s0 s1 s2 odd : Int) (v1 v2 : Value) (ms : List UInt8) (rs : List (Int × Int × Int)) : Prop where
  h0 : 0 ≤ s0 ∧ s0 ≤ 255
  h1 : 0 ≤ s1 ∧ s1 ≤ 255
  h2 : 0 ≤ s2 ∧ s2 ≤ 255
  ho : 0 ≤ odd ∧ odd ≤ 255
  ml : ms.length ≤ 9223372036854775807
  rl : rs.length ≤ 9223372036854775807
  m : BytesV w v1 ms
  r : RowsV w v2 rs
theorem BytesV.below {w w' : World} {v : Value} {l : List UInt8} (h : BytesV w v l) (hb : Below w.heap.size w w') : BytesV w' v l := by
  obtain ⟨A, c, hv, hc, hr⟩ := h
  exact ⟨A, c, hv, hc, fun hne => by obtain ⟨g, o, hA, hg, hi⟩ := hr hne; exact ⟨g, o, hA, Nat.lt_of_lt_of_le hg hb.size, fun j b hj => (hb.cell (p := ⟨g, o + j, none⟩) hg).trans (hi j b hj)⟩⟩
theorem RowsV.below {w w' : World} {v : Value} {l : List (Int × Int × Int)} (h : RowsV w v l) (hb : Below w.heap.size w w') : RowsV w' v l := by
  obtain ⟨A, c, hv, hc, hbd, hr⟩ := h
  exact ⟨A, c, hv, hc, hbd, fun hne => by
    obtain ⟨g, o, hA, hg, hi⟩ := hr hne
    exact ⟨g, o, hA, Nat.lt_of_lt_of_le hg hb.size, fun j t hj => by
      obtain ⟨q1, q2, q3⟩ := hi j t hj
      exact ⟨(hb.cell (p := ⟨g, _, none⟩) hg).trans q1, (hb.cell (p := ⟨g, _, none⟩) hg).trans q2, (hb.cell (p := ⟨g, _, none⟩) hg).trans q3⟩⟩⟩
theorem DraftIn.below {w w' : World} {s0 s1 s2 odd : Int} {v1 v2 : Value} {ms : List UInt8} {rs : List (Int × Int × Int)} (h : DraftIn w s0 s1 s2 odd v1 v2 ms rs) (hb : Below w.heap.size w w') : DraftIn w' s0 s1 s2 odd v1 v2 ms rs :=
  ⟨h.h0, h.h1, h.h2, h.ho, h.ml, h.rl, h.m.below hb, h.r.below hb⟩
theorem drafted_c {w : World} {s0 s1 s2 odd : Int} {tw : Bool} {v1 v2 : Value} {ms : List UInt8} {rs : List (Int × Int × Int)} (h : DraftIn w s0 s1 s2 odd v1 v2 ms rs) :
    Calls Tryz.prog 9 #[.agg #[.int .u8 s0, .int .u8 s1, .int .u8 s2, .bool tw, v1, v2, .int .u8 odd]] w (DraftPost w) :=
  drafted_any s0 s1 s2 odd h.h0 h.h1 h.h2 h.ho tw v1 v2 ms rs h.ml h.rl w h.m h.r
theorem seven_of {w : World} {b : Nat} {x0 x1 x2 x3 x4 x5 x6 : Value} {T : TypeId} (h : w.heap[b]? = some (.cells #[x0, x1, x2, x3, x4, x5, x6] T (0, 0))) :
    w.cell? ⟨b, 0, none⟩ = some x0 ∧ w.cell? ⟨b, 1, none⟩ = some x1 ∧ w.cell? ⟨b, 2, none⟩ = some x2 ∧ w.cell? ⟨b, 3, none⟩ = some x3 ∧ w.cell? ⟨b, 4, none⟩ = some x4 ∧ w.cell? ⟨b, 5, none⟩ = some x5 ∧ w.cell? ⟨b, 6, none⟩ = some x6 := by
  refine ⟨?_, ?_, ?_, ?_, ?_, ?_, ?_⟩ <;> rw [Lib.cell_of_heap h] <;> rfl
set_option maxRecDepth 100000 in
set_option maxHeartbeats 4000000 in
theorem back_any (s0 s1 s2 odd : Int) (tw : Bool) (v1 v2 : Value) (ms : List UInt8) (rs : List (Int × Int × Int)) (txt : ByteArray) (htx : txt.size ≤ 9223372036854775807) (w : World) (hE : Env w) (hT : errT w) (hD : DraftIn w s0 s1 s2 odd v1 v2 ms rs) :
    Calls Tryz.prog 4 #[.agg #[.int .u8 s0, .int .u8 s1, .int .u8 s2, .bool tw, v1, v2, .int .u8 odd], .string txt] w fun e w' => e = .returned (.bool true) ∧ Below w.heap.size w w' := by
  obtain ⟨A1, c1, rfl, _⟩ := id hD.m
  obtain ⟨A2, c2, rfl, _⟩ := id hD.r
  have b0 : Below w.heap.size w (w.alloc (.cells #[.int .u8 s0, .int .u8 s1, .int .u8 s2, .bool tw, .slice A1 ms.length c1, .slice A2 rs.length c2, .int .u8 odd] 26)) := (Below.refl _ w).alloc (Nat.le_refl _) _
  have hW := works_any _ (hE.below b0) (hT.below hE b0)
  replace hW := Lib.hid hW
  go_enter Tryz.func4, Tryz.ntmps4
  go_wp2_with fail
  refine hW.out.mono ?_
  rintro e w1 ⟨rfl, hb1⟩
  have n1 := (hb1.block w.heap.size (by simp)).trans (at_new _ _ _ rfl)
  have hB1 : Below w.heap.size w w1 := b0.trans (hb1.mono (by simp))
  obtain ⟨x0, x1, x2, x3, x4, x5, x6⟩ := seven_of n1
  have hD1 := hD.below hB1
  replace hD1 := Lib.hid hD1
  clear n1 b0 hb1
  go_wp2_with fail
  refine (drafted_c hD1.out).mono ?_
  rintro e w2 ⟨hb2, c, a, q, tw2, m, A, cap, ts, rfl, hm, hts, hown⟩
  have hB2 := hB1.trans (hb2.mono hB1.size)
  have hV2 := TurnsV.of_own hown
  replace hV2 := Lib.hid hV2
  clear hown x0 x1 x2 x3 x4 x5 x6 hb2
  obtain ⟨w3, hw3⟩ : ∃ w3, w2.alloc (.cells #[.int .i64 c, .int .i64 a, .int .i64 q, .bool tw2, .string m, .slice A ts.length cap] 36) = w3 := ⟨_, rfl⟩
  have hb3 : Below w2.heap.size w2 w3 := by rw [← hw3]; exact (Below.refl _ w2).alloc (Nat.le_refl _) _
  have n3 : w3.heap[w2.heap.size]? = some (.cells #[.int .i64 c, .int .i64 a, .int .i64 q, .bool tw2, .string m, .slice A ts.length cap] 36 (0, 0)) := by rw [← hw3]; exact at_new _ _ _ rfl
  have hB3 := hB2.trans (hb3.mono hB2.size)
  have hP := print_any c a q tw2 m _ ts (by omega) w3 (hE.below hB3) (hV2.out.below hb3)
  have hs3 := (Array.getElem?_eq_some_iff.1 n3).1
  replace hP := Lib.hid hP; replace hw3 := Lib.hid hw3; replace n3 := Lib.hid n3
  go_wp2_with fail
  rw [hw3.out]
  refine hP.out.mono ?_
  rintro e w4 ⟨t, E, rfl, hb4, hcase⟩
  have hs4 := hb4.size
  have n4 := (hb4.block w2.heap.size hs3).trans n3.out
  have hB4 := hB3.trans (hb4.mono hB3.size)
  have hV4 := (hV2.out.below hb3).below hb4
  replace hV4 := Lib.hid hV4; replace n4 := Lib.hid n4; replace hcase := Lib.hid hcase
  clear hb3 hb4 hV2
  go_upto_if 24 with fail
  go_cut [4] (fun p WX => Below w.heap.size w WX)
  case first =>
    rcases hcase.out with ⟨h0, hcf, hal, hmz, htl, ht0⟩ | ⟨h0, rfl, _⟩
    · subst h0
      have hts2 := text_size (tw := tw2) (m := m.data.toList) hcf hal
      have hmd : m.data.toList.length = m.size := by simp
      have hpar := parse_text (tw := tw2) (m := m.data.toList) hcf hal (by omega) htl
      have hsz : t.size ≤ 900000 := by rw [ht0, mkB_size]; omega
      have hpp := parse_any t hsz w4 (hE.below hB4)
      rw [← ht0] at hpar
      replace hpp := Lib.hid hpp; replace hpar := Lib.hid hpar; replace ht0 := Lib.hid ht0; replace hcf := Lib.hid hcf; replace hal := Lib.hid hal; replace hmd := Lib.hid hmd
      go_wp2_with fail
      refine hpp.out.mono ?_
      intro e w5 hP
      obtain ⟨hb5, hP⟩ := hP
      rw [hpar.out] at hP
      obtain ⟨A5, c5, rfl, ho5, hf5⟩ := hP
      have hV5 := TurnsV.of_own ho5
      have hV45 := hV4.out.below hb5
      have n5 := (hb5.block w2.heap.size (by omega)).trans n4.out
      obtain ⟨x0, x1, x2, x3, x4, x5⟩ := six_of n5
      have hs5 := hb5.size
      have hlt5 : w2.heap.size < w5.heap.size := by omega
      have hB5 := hB4.trans (hb5.mono hB4.size)
      unfold scriptV endSt
      simp only [mkB_of]
      have b6 : Below w5.heap.size w5 (w5.alloc (.cells #[.int .i64 c, .int .i64 a, .int .i64 q, .bool tw2, .string m, .slice A5 ts.length c5] 36)) := (Below.refl _ w5).alloc (Nat.le_refl _) _
      have hsame := same_eq c a q tw2 m (.slice A5 ts.length c5) (.slice A ts.length cap) ts (by omega) _ (hV5.below b6) (hV45.below b6)
      replace hsame := Lib.hid hsame; replace hV5 := Lib.hid hV5; replace hV45 := Lib.hid hV45; replace n5 := Lib.hid n5
      clear ho5 hf5 hb5
      go_wp2_with fail
      refine hsame.out.mono ?_
      rintro e w6 ⟨rfl, hb6⟩
      have hB6 : Below w.heap.size w w6 := hB5.trans ((b6.trans (hb6.mono b6.size)).mono hB5.size)
      clear hb6 b6 hsame
      go_wp2_with fail
      go_meet
      exact hB6
    · have h0' : (E == 0) = false := by rw [beq_eq_false_iff_ne]; exact h0
      replace h0 := Lib.hid h0
      go_wp2_with fail
      go_meet
      exact hB4
  case rest =>
    obtain ⟨w7, rfl⟩ : ∃ w7 : World, w7 = wc := ⟨_, rfl⟩
    have hB7 : Below w.heap.size w w7 := hcut
    clear hcut
    obtain ⟨n, hn⟩ : ∃ n : Int, min (txt.size : Int) 20000 = n := ⟨_, rfl⟩
    have hn0 : 0 ≤ n := by omega
    have hn1 : n ≤ 20000 := by omega
    have hn2 : n ≤ (txt.size : Int) := by omega
    obtain ⟨t2, ht2⟩ : ∃ t2, txt.extract 0 n.toNat = t2 := ⟨_, rfl⟩
    have ht2s : t2.size ≤ 900000 := by rw [← ht2, ByteArray.size_extract]; omega
    have hpp := parse_any t2 ht2s w7 (hE.below hB7)
    replace hpp := Lib.hid hpp; replace ht2 := Lib.hid ht2
    go_wp2_with fail
    rw [ht2.out]
    refine hpp.out.mono ?_
    intro e w8 hP
    obtain ⟨hb8, hP⟩ := hP
    have hB8 := hB7.trans (hb8.mono hB7.size)
    cases hres : parseR t2 with
    | error x =>
      obtain ⟨E2, k2⟩ := x
      rw [hres] at hP
      obtain ⟨b2, rfl, _⟩ := hP
      replace hres := Lib.hid hres
      have b9 : Below w8.heap.size w8 (w8.alloc (.cells #[.int .i64 0, .int .i64 0, .int .i64 0, .bool false, .string ⟨#[]⟩, .slice none 0 0] 36)) := (Below.refl _ w8).alloc (Nat.le_refl _) _
      have hsame := same_eq 0 0 0 false ⟨#[]⟩ (.slice none 0 0) (.slice none 0 0) [] (by decide) (w8.alloc (.cells #[.int .i64 0, .int .i64 0, .int .i64 0, .bool false, .string ⟨#[]⟩, .slice none 0 0] 36)) ⟨none, 0, rfl, Nat.le_refl _, fun h => absurd rfl h⟩ ⟨none, 0, rfl, Nat.le_refl _, fun h => absurd rfl h⟩
      replace hsame := Lib.hid hsame
      unfold zeroS
      clear hb8
      go_wp2_with fail
      refine hsame.out.mono ?_
      rintro e w9 ⟨rfl, hb9⟩
      go_wp2_with fail
      go_ret
      exact ⟨rfl, hB8.trans ((b9.trans (hb9.mono b9.size)).mono hB8.size)⟩
    | ok st =>
      rw [hres] at hP
      obtain ⟨A8, c8, rfl, ho8, hf8⟩ := hP
      have hV8 := TurnsV.of_own ho8
      have hTold := parse_back hres
      have htl8 := hf8.ts
      have hm8 := hf8.m
      have b9 : Below w8.heap.size w8 (w8.alloc (.cells #[.int .i64 st.c, .int .i64 st.a, .int .i64 st.q, .bool st.tw, .string st.m, .slice A8 st.ts.length c8] 36)) := (Below.refl _ w8).alloc (Nat.le_refl _) _
      have hB9 := hB8.trans (b9.mono hB8.size)
      have hP9 := print_any st.c st.a st.q st.tw st.m (.slice A8 st.ts.length c8) st.ts (by omega) _ (hE.below hB9) (hV8.below b9)
      replace hP9 := Lib.hid hP9; replace hV8 := Lib.hid hV8; replace hTold := Lib.hid hTold; replace hres := Lib.hid hres
      clear ho8 hf8 hb8
      unfold scriptV
      go_wp2_with fail
      refine hP9.out.mono ?_
      rintro e w9 ⟨t9, E9, rfl, hb9, hcase9⟩
      have hB10 := hB9.trans (hb9.mono hB9.size)
      have hgood : E9 = 0 ∧ t9 = t2 := by
        rcases hcase9 with ⟨h0, _, _, _, _, h9⟩ | ⟨h0, _, hbad⟩
        · refine ⟨h0, ?_⟩
          rw [h9, ← hTold.out.txt, mkB_of]
        · exfalso
          exact hbad ⟨hTold.out.cfg, hTold.out.trn, hm8, htl8⟩
      obtain ⟨rfl, rfl⟩ := hgood
      clear hb9 b9 hcase9
      go_wp2_with fail
      go_ret
      exact ⟨rfl, hB10⟩
end Go.Proofs.YtiojkmknikfhoaaGreatDoor
