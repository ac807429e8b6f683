/- ScriptCut: its walk. -/
import Derived.Test.YtiojkmknikfhoaaGreatDoorZ1
namespace Go.Proofs.YtiojkmknikfhoaaGreatDoor
set_option linter.unusedVariables false
set_option linter.unusedSimpArgs false
open Go.RowKit

theorem last_byte {s : ByteArray} {l : List UInt8} {b : UInt8} (h : s.data.toList.take (l.length + 1) = l ++ [b]) (hl : l.length < s.size) : s[l.length] = b := by
  have h2 : (s.data.toList.take (l.length + 1))[l.length]? = some s[l.length] := by
    rw [List.getElem?_take]
    simp only [Nat.lt_succ_self, if_true]
    rw [List.getElem?_eq_getElem (by simpa using hl)]; rfl
  rw [h] at h2
  simp at h2
  exact h2.symm
set_option maxRecDepth 100000 in
set_option maxHeartbeats 4000000 in
theorem cut_any (s0 s1 s2 odd : Int) (tw : Bool) (v1 v2 : Value) (ms : List UInt8) (rs : List (Int × Int × Int)) (at0 : Int) (ha : 0 ≤ at0 ∧ at0 ≤ 65535) (w : World) (hE : Env w) (hT : errT w) (hD : DraftIn w s0 s1 s2 odd v1 v2 ms rs) :
    Calls Tryz.prog 5 #[.agg #[.int .u8 s0, .int .u8 s1, .int .u8 s2, .bool tw, v1, v2, .int .u8 odd], .int .u16 at0] w fun e w' => e = .returned (.bool true) ∧ Below w.heap.size w w' := by
  obtain ⟨ha0, ha1⟩ := ha
  obtain ⟨A1, c1, rfl, _⟩ := id hD.m
  obtain ⟨A2, c2, rfl, _⟩ := id hD.r
  have b0 : Below w.heap.size w (w.alloc (.cells #[.int .u8 s0, .int .u8 s1, .int .u8 s2, .bool tw, .slice A1 ms.length c1, .slice A2 rs.length c2, .int .u8 odd] 26)) := (Below.refl _ w).alloc (Nat.le_refl _) _
  have hW := works_any _ (hE.below b0) (hT.below hE b0)
  replace hW := Lib.hid hW
  go_enter Tryz.func5, Tryz.ntmps5
  go_wp2_with fail
  refine hW.out.mono ?_
  rintro e w1 ⟨rfl, hb1⟩
  have n1 := (hb1.block w.heap.size (by simp)).trans (at_new _ _ _ rfl)
  have hB1 : Below w.heap.size w w1 := b0.trans (hb1.mono (by simp))
  obtain ⟨x0, x1, x2, x3, x4, x5, x6⟩ := seven_of n1
  have hD1 := hD.below hB1
  replace hD1 := Lib.hid hD1
  clear n1 b0 hb1
  go_wp2_with fail
  refine (drafted_c hD1.out).mono ?_
  rintro e w2 ⟨hb2, c, a, q, tw2, m, A, cap, ts, rfl, hm, hts, hown⟩
  have hB2 := hB1.trans (hb2.mono hB1.size)
  have hV2 := TurnsV.of_own hown
  have hP := print_any c a q tw2 m _ ts (by omega) w2 (hE.below hB2) hV2
  replace hP := Lib.hid hP
  clear hown hV2 x0 x1 x2 x3 x4 x5 x6 hb2
  go_wp2_with fail
  refine hP.out.mono ?_
  rintro e w4 ⟨t, E, rfl, hb4, hcase⟩
  have hB4 := hB2.trans (hb4.mono hB2.size)
  rcases hcase with ⟨h0, hcf, hal, hmz, htl, ht0⟩ | ⟨h0, ht0, _⟩
  · subst h0
    have hts2 := text_size (tw := tw2) (m := m.data.toList) hcf hal
    have hmd : m.data.toList.length = m.size := by simp
    have htd : t.data.toList = textL c a q tw2 m.data.toList ts := by rw [ht0, mkB_data]
    have htz : t.size = (textL c a q tw2 m.data.toList ts).length := by rw [ht0, mkB_size]
    have hne : 1 ≤ t.size := by rw [htz]; unfold textL; rw [List.length_append]; exact Nat.le_add_left 1 _
    have htle : t.size ≤ 800000 := by omega
    obtain ⟨n, hn⟩ : ∃ n : Int, at0 % ((t.size : Int) + 1) = n := ⟨_, rfl⟩
    have hn0 : 0 ≤ n := by rw [← hn]; exact Int.emod_nonneg _ (by omega)
    have hn1 : n < (t.size : Int) + 1 := by rw [← hn]; exact Int.emod_lt_of_pos _ (by omega)
    have hcut := parse_cut (tw := tw2) (m := m.data.toList) hcf hal (by omega) htl (n := n.toNat) (by omega)
    rw [← htd] at hcut
    obtain ⟨p, hp⟩ : ∃ p, t.extract 0 n.toNat = p := ⟨_, rfl⟩
    have hpp0 : p = mkB (t.data.toList.take n.toNat) := by rw [← hp, Lib.extract_eq]; simp [mkB]
    rw [← hpp0] at hcut
    have hpz : p.size ≤ 900000 := by rw [← hp, ByteArray.size_extract]; omega
    have hpp := parse_any p hpz w4 (hE.below hB4)
    have hE4 := hE.below hB4
    have hT4 := hT.below hE hB4
    have hteq : ((t.size : Int) == 0) = false := by rw [beq_eq_false_iff_ne]; omega
    have hnle : n ≤ (t.size : Int) := by omega
    replace hpp := Lib.hid hpp; replace hpp0 := Lib.hid hpp0; replace ht0 := Lib.hid ht0; replace htd := Lib.hid htd; replace htz := Lib.hid htz; replace hcf := Lib.hid hcf; replace hal := Lib.hid hal; replace hmd := Lib.hid hmd
    go_wp2_with fail
    refine hpp.out.mono ?_
    intro e w5 hP5
    obtain ⟨hb5, hP5⟩ := hP5
    have hB5 := hB4.trans (hb5.mono hB4.size)
    rcases hcut with ⟨hend, hpar⟩ | ⟨⟨l, hl⟩, st, hpar⟩
    · rw [hpar] at hP5
      obtain ⟨be, rfl, hbe, hcell⟩ := hP5
      have b6 : Below w5.heap.size w5 (w5.alloc (.cells #[.int .i64 0, .int .i64 0, .int .i64 0, .bool false, .string ⟨#[]⟩, .slice none 0 0] 36)) := (Below.refl _ w5).alloc (Nat.le_refl _) _
      have hB6 := hB5.trans (b6.mono hB5.size)
      have hE6 := hE.below hB6
      obtain ⟨m0, hm0⟩ := hE6.ml
      have hcnt := Tryz.strings_Count_any p ⟨#[10]⟩ m0 _ (by omega) hm0 (by decide)
      have hbe6 := (b6.block be (Array.getElem?_eq_some_iff.1 hcell).1).trans hcell
      obtain ⟨k, hk⟩ : ∃ k, Lib.countB p ⟨#[10]⟩ = k := ⟨_, rfl⟩
      rw [hk] at hcnt hbe6
      have htold := told_err be 5 k 5 k _ hE6 (hT.below hE hB6) hbe6
      replace hcnt := Lib.hid hcnt; replace hbe6 := Lib.hid hbe6; replace htold := Lib.hid htold; replace hk := Lib.hid hk; replace hpar := Lib.hid hpar
      clear hm0 hcell hb5
      unfold zeroS
      by_cases hz : n = 0
      · have hz1 : (n == 0) = true := by rw [hz]; rfl
        replace hz := Lib.hid hz
        replace hend := Lib.hid hend
        go_wp2_with fail
        refine hcnt.out.mono ?_
        rintro e w6 ⟨rfl, rfl⟩
        go_wp2_with fail
        refine htold.out.mono ?_
        rintro e w7 ⟨rfl, hb7⟩
        go_wp2_with fail
        go_ret
        exact ⟨by simp, hB6.trans (hb7.mono hB6.size)⟩
      · have hz1 : (n == 0) = false := by rw [beq_eq_false_iff_ne]; exact hz
        have hbyte : ∃ i, ∃ hi : i < t.size, (n - 1).toNat = i ∧ n - 1 = (i : Int) ∧ ((t[i].toNat : Int) != 10) = true := by
          rcases hend with hnil | ⟨l, b, hlb, hb10⟩
          · exfalso
            have := congrArg List.length hnil
            rw [List.length_take] at this
            simp only [List.length_nil] at this
            have htl2 : t.data.toList.length = t.size := by simp
            omega
          · have hlen := congrArg List.length hlb
            rw [List.length_take] at hlen
            simp at hlen
            have hll : l.length + 1 = n.toNat := by omega
            refine ⟨l.length, by omega, by omega, by omega, ?_⟩
            have := last_byte (s := t) (l := l) (b := b) (by rw [hll]; exact hlb) (by omega)
            rw [this, bne_iff_ne]
            intro e
            exact hb10 (UInt8.toNat_inj.1 (by simpa using Int.ofNat.inj e))
        obtain ⟨i, hi, hi1, hi2, hi3⟩ := hbyte
        replace hz := Lib.hid hz; replace hend := Lib.hid hend; replace hi1 := Lib.hid hi1
        go_wp2_with fail
        refine hcnt.out.mono ?_
        rintro e w6 ⟨rfl, rfl⟩
        go_wp2_with fail
        refine htold.out.mono ?_
        rintro e w7 ⟨rfl, hb7⟩
        go_wp2_with fail
        go_ret
        exact ⟨by simp, hB6.trans (hb7.mono hB6.size)⟩
    · rw [hpar] at hP5
      obtain ⟨A8, c8, rfl, ho8, hf8⟩ := hP5
      have hV8 := TurnsV.of_own ho8
      have hTold := parse_back hpar
      have htl8 := hf8.ts
      have hm8 := hf8.m
      have b9 : Below w5.heap.size w5 (w5.alloc (.cells #[.int .i64 st.c, .int .i64 st.a, .int .i64 st.q, .bool st.tw, .string st.m, .slice A8 st.ts.length c8] 36)) := (Below.refl _ w5).alloc (Nat.le_refl _) _
      have hB9 := hB5.trans (b9.mono hB5.size)
      have hE9 := hE.below hB9
      have hP9 := print_any st.c st.a st.q st.tw st.m (.slice A8 st.ts.length c8) st.ts (by omega) _ hE9 (hV8.below b9)
      obtain ⟨m0, hm0⟩ := hE9.ml
      have hcnt := Tryz.strings_Count_any p ⟨#[10]⟩ m0 _ (by omega) hm0 (by decide)
      have hz : n ≠ 0 := by
        intro e
        rw [e] at hl
        simp at hl
      have hz1 : (n == 0) = false := by rw [beq_eq_false_iff_ne]; exact hz
      have hbyte : ∃ i, ∃ hi : i < t.size, (n - 1).toNat = i ∧ n - 1 = (i : Int) ∧ ((t[i].toNat : Int) != 10) = false := by
        have hlen := congrArg List.length hl
        rw [List.length_take] at hlen
        simp at hlen
        have hll : l.length + 1 = n.toNat := by omega
        refine ⟨l.length, by omega, by omega, by omega, ?_⟩
        have := last_byte (s := t) (l := l) (b := 10) (by rw [hll]; exact hl) (by omega)
        rw [this]; rfl
      obtain ⟨i, hi, hi1, hi2, hi3⟩ := hbyte
      replace hP9 := Lib.hid hP9; replace hV8 := Lib.hid hV8; replace hTold := Lib.hid hTold; replace hpar := Lib.hid hpar; replace hcnt := Lib.hid hcnt; replace hl := Lib.hid hl; replace hi1 := Lib.hid hi1; replace hz := Lib.hid hz
      clear ho8 hf8 hb5 hm0
      unfold scriptV
      go_wp2_with fail
      refine hcnt.out.mono ?_
      rintro e w6 ⟨rfl, rfl⟩
      go_wp2_with fail
      refine hP9.out.mono ?_
      rintro e w9 ⟨t9, E9, rfl, hb9, hcase9⟩
      have hB10 := hB9.trans (hb9.mono hB9.size)
      have hgood : E9 = 0 ∧ t9 = p := by
        rcases hcase9 with ⟨h0, _, _, _, _, h9⟩ | ⟨h0, _, hbad⟩
        · refine ⟨h0, ?_⟩
          rw [h9, ← hTold.out.txt, mkB_of]
        · exfalso
          exact hbad ⟨hTold.out.cfg, hTold.out.trn, hm8, htl8⟩
      obtain ⟨rfl, ht9⟩ := hgood
      have ht9' : (t9.toList == p.toList) = true := by rw [ht9]; simp
      replace ht9 := Lib.hid ht9
      clear hb9 b9 hcase9
      go_wp2_with fail
      go_ret
      exact ⟨by first | rfl | simp [ht9'], hB10⟩
  · have h0' : (E != 0) = true := by rw [bne_iff_ne]; exact h0
    replace h0 := Lib.hid h0; replace ht0 := Lib.hid ht0
    go_wp2_with fail
    go_ret
    exact ⟨rfl, hB4⟩
end Go.Proofs.YtiojkmknikfhoaaGreatDoor
