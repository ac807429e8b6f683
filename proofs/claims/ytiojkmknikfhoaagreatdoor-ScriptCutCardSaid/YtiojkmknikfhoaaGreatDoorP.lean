/- Package script's Parse: its walk. -/
import Derived.Test.YtiojkmknikfhoaaGreatDoorP1
import Derived.Sort.CutIn
namespace Go.Proofs.YtiojkmknikfhoaaGreatDoor
set_option linter.unusedVariables false
set_option linter.unusedSimpArgs false
open Go.RowKit Go.Shelf
attribute [local go_sem] Oper.semAt_some

set_option maxRecDepth 100000 in
set_option maxHeartbeats 8000000 in
theorem parse_any (s : ByteArray) (hs : s.size ≤ 900000) (w : World) (hE : Env w) : Calls Tryz.prog 13 #[.string s] w (ParsePost s w) := by
  rw [← callsIn_wide (n := 8)]
  refine callsIn_of_wp_marks Tryz.func13 rfl trivial ?_ rfl
  simp only [Tryz.ntmps13, List.size_toArray, List.length_cons, List.length_nil, Nat.reduceAdd, Nat.reduceSub, Array.replicate_succ, Array.replicate_zero, List.push_toArray, List.append_toArray, List.nil_append, List.cons_append]
  gi_wp2
  refine ⟨trivial, (lines_make _ _ _).mono ?_⟩
  rintro e w' ⟨rfl, rfl⟩
  gi_wp2
  obtain ⟨N, hN⟩ : ∃ N, w.heap.size = N := ⟨_, rfl⟩
  rw [hN]
  have hch := chain6 w (.cells zeroC 36) (.cells #[.nilIface] 45) (.cells #[.int .i64 0, .int .i64 0, .int .i64 0, .bool false, .string ⟨#[]⟩, .slice none 0 0, fnV (N + 2) 0] 84) (.cells #[.pointer (some ⟨N + 2, 0, none⟩)] 81) (.cells #[.int .i64 0] 3) (.cells #[.string s] 9) N hN
  generalize hW : World.alloc (World.alloc (World.alloc _ _) _) _ = W0
  rw [show World.alloc (World.alloc (World.alloc (World.alloc (World.alloc (World.alloc w (.cells zeroC 36)) (.cells #[.nilIface] 45)) (.cells #[.int .i64 0, .int .i64 0, .int .i64 0, .bool false, .string ⟨#[]⟩, .slice none 0 0, fnV (N + 2) 0] 84)) (.cells #[.pointer (some ⟨N + 2, 0, none⟩)] 81)) (.cells #[.int .i64 0] 3)) (.cells #[.string s] 9) = W0 from hW] at hch
  obtain ⟨hz, k0, k1, k2, k3, k4, k5, hb0⟩ := hch
  clear hW
  simp only [Nat.add_assoc, Nat.reduceAdd]
  have hE0 := hE.below (hN ▸ hb0)
  refine wpIn_rangeFunc_box rfl (by decide) (gf := 55) (lb := #[.pointer (some ⟨N + 5, 0, none⟩)]) rfl trivial (enters_of Tryz.func55 (by kernel_rfl) rfl) (B := N + 5) (by omega) (lines_seq 7 (by decide) (N + 5) s (by omega) W0 k5) (fun _ => rfl)
    (PI w N) (PX s w N) (by rw [hz]; exact pi_lax w N) (by rw [hz]; exact px_lax s w N)
    ⟨st0, rfl, fit_st0, ⟨_, k2, World.ownsRow_nil _ _ _ _⟩, k0, k1, k3, k4, hb0, by omega⟩
    (fun x => { tmps := #[.string s, undef, .pointer (some ⟨N, 0, none⟩), .pointer (some ⟨N + 1, 0, none⟩), .pointer (some ⟨N + 3, 0, none⟩), .pointer (some ⟨N + 4, 0, none⟩), .string x, undef, undef, undef, .agg #[.int .i64 0, .int .i64 0, .int .i64 0, .bool false, .string ⟨#[]⟩, .slice none 0 0, .nilFunc], .pointer (some ⟨N + 2, 0, none⟩), .pointer (some ⟨N + 2, 0, none⟩), .pointer (some ⟨N + 2, 0, none⟩), .func (.func 34) #[.pointer (some ⟨N + 2, 0, none⟩)] #[], .pointer (some ⟨N + 2, 0, none⟩), .pointer (some ⟨N + 2, 6, none⟩), .string s, .func (.func 55) #[] #[.pointer (some ⟨N + 5, 0, none⟩)], .string x, undef, undef, undef, undef, undef, undef, undef, undef, undef, undef, undef, undef, undef, undef, undef, undef, undef, undef, undef, undef, undef, undef, undef, undef, undef, undef, undef, undef, undef, undef, undef, undef, undef], defers := [] }) ?assign ?body ?done ?stop
  case assign =>
    intro l x W K hK
    gi_wp2
    exact hK
  case body =>
    rintro l pre x W ⟨st, hg, hfit, hst, h0, h1, h3, h4, hbW, hzW⟩ hpre
    have hpl : pre.length ≤ 1000000 := by
      have h1 := hpre.length_le
      have h2 := lines_len s
      rw [List.length_append] at h1
      omega
    have hxs : x.size ≤ s.size := line_size (hpre.subset (by simp))
    have c3 : W.cell? ⟨N + 3, 0, none⟩ = some (.pointer (some ⟨N + 2, 0, none⟩)) := by rw [Lib.cell_of_heap h3]; rfl
    have c4 : W.cell? ⟨N + 4, 0, none⟩ = some (.int .i64 pre.length) := by rw [Lib.cell_of_heap h4]; rfl
    have f4 : W.frozen? ⟨N + 4, 0, none⟩ = false := Lib.frozen_of_heap h4 0
    have c1 : W.cell? ⟨N + 1, 0, none⟩ = some .nilIface := by rw [Lib.cell_of_heap h1]; rfl
    have f1 : W.frozen? ⟨N + 1, 0, none⟩ = false := Lib.frozen_of_heap h1 0
    have c00 : W.cell? ⟨N, 0, none⟩ = some (.int .i64 0) := by rw [Lib.cell_of_heap h0]; rfl
    have c01 : W.cell? ⟨N, 1, none⟩ = some (.int .i64 0) := by rw [Lib.cell_of_heap h0]; rfl
    have c02 : W.cell? ⟨N, 2, none⟩ = some (.int .i64 0) := by rw [Lib.cell_of_heap h0]; rfl
    have c03 : W.cell? ⟨N, 3, none⟩ = some (.bool false) := by rw [Lib.cell_of_heap h0]; rfl
    have c04 : W.cell? ⟨N, 4, none⟩ = some (.string ⟨#[]⟩) := by rw [Lib.cell_of_heap h0]; rfl
    have c05 : W.cell? ⟨N, 5, none⟩ = some (.slice none 0 0) := by rw [Lib.cell_of_heap h0]; rfl
    have f00 : W.frozen? ⟨N, 0, none⟩ = false := Lib.frozen_of_heap h0 0
    have f01 : W.frozen? ⟨N, 1, none⟩ = false := Lib.frozen_of_heap h0 1
    have f02 : W.frozen? ⟨N, 2, none⟩ = false := Lib.frozen_of_heap h0 2
    have f03 : W.frozen? ⟨N, 3, none⟩ = false := Lib.frozen_of_heap h0 3
    have f04 : W.frozen? ⟨N, 4, none⟩ = false := Lib.frozen_of_heap h0 4
    have f05 : W.frozen? ⟨N, 5, none⟩ = false := Lib.frozen_of_heap h0 5
    have hN0 : N < W.heap.size := by omega
    have hN1 : N + 1 < W.heap.size := by omega
    have hN4 : N + 4 < W.heap.size := by omega
    have hmx : Tryz.prog.follows .mixedOrders = true := by kernel_rfl
    replace h0 := Lib.hid h0
    replace h1 := Lib.hid h1
    replace h3 := Lib.hid h3
    replace h4 := Lib.hid h4
    replace hg := Lib.hid hg
    gi_wp2
    refine ⟨trivial, (CallsIn.inRound l (callsIn_wide.2 (Tryz.strings_CutSuffix _ _ _ (by omega)))).mono ?_⟩
    rintro e w' ⟨rfl, rfl⟩
    have hcl : (⟨(Lib.trimSuffix x.data.toList (ByteArray.mk #[10]).data.toList).toArray⟩ : ByteArray) = cutL x := rfl
    have hsx : Lib.hasSuffix x.data.toList (ByteArray.mk #[10]).data.toList = Lib.hasSuffix x.data.toList [10] := rfl
    rw [hcl, hsx]
    clear hcl hsx
    obtain ⟨bz, hsuf⟩ : ∃ bz, Lib.hasSuffix x.data.toList [10] = bz := ⟨_, rfl⟩
    rw [hsuf]
    replace hsuf := Lib.hid hsuf
    gi_upto_if 25 with fail
    gi_cut [9] from 25 (fun p WX => ∃ (E : Int) (st' : St), p = .int .i64 E ∧ stepL st x = (E, st') ∧ w'.heap.size ≤ WX.heap.size ∧ (∀ k, k < N + 6 → k ≠ N + 2 → WX.heap[k]? = w'.heap[k]?) ∧ KeepsOthers w' WX ∧ Below N w WX ∧ (E = 0 → StAt WX (N + 2) (N + 6) st'))
    case first =>
      cases bz with
      | false =>
        have hst0 : stepL st x = (5, st) := by unfold stepL; rw [hsuf.out]; rfl
        replace hst0 := Lib.hid hst0
        gi_wp2
        gi_meet
        exact ⟨5, st, rfl, hst0.out, Nat.le_refl _, fun _ _ _ => rfl, KeepsOthers.refl _, hbW, fun h => (by cases h)⟩
      | true =>
        have hstw : stepL st x = stepW st (wordsS (cutL x)) := by unfold stepL; rw [hsuf.out]; rfl
        replace hstw := Lib.hid hstw
        have hEw : Env w' := hE.below (hN ▸ hbW)
        obtain ⟨m0, hm0⟩ := hEw.ml
        obtain ⟨v, hR, hown⟩ := hst
        have c26 : w'.cell? ⟨N + 2, 6, none⟩ = some (fnV (N + 2) st.ph) := Lib.cell_of_heap hR 6
        have hN2 : N + 2 < w'.heap.size := by omega
        have hN3 : N + 3 < w'.heap.size := by omega
        have hcs : (cutL x).size ≤ s.size := Nat.le_trans (cutL_size x) hxs
        have hcc := words_count (cutL x)
        have hwl := wordsS_len (cutL x)
        obtain ⟨kk, hkk⟩ : ∃ kk, Lib.countB (cutL x) spB = kk := ⟨_, rfl⟩
        obtain ⟨Wd, hWd⟩ : ∃ Wd, (w'.drew.alloc (.cells ((wordsS (cutL x)).map Value.string).toArray 9)) = Wd := ⟨_, rfl⟩
        have hbd : Below w'.heap.size w' Wd := by rw [← hWd]; exact ((Below.refl _ w').drew).alloc (Nat.le_refl _) _
        have hSd : Strs Wd w'.heap.size 0 (wordsS (cutL x)) := by
          intro j y hj
          rw [← hWd]
          show World.cell? _ ⟨w'.drew.heap.size, 0 + j, none⟩ = _
          rw [Lib.cell_of_heap (World.alloc_heap_new w'.drew _)]
          simp [hj]
        have hsplit : ∀ W : World, W.cell? ⟨0, 0, none⟩ = some (.int .i64 m0) → Calls Tryz.prog 37 #[.string (cutL x), .string ⟨#[32]⟩] W fun e W' => e = .returned (.slice (some ⟨W.heap.size, 0, none⟩) (kk + 1) (kk + 1)) ∧ W' = W.alloc (.cells ((wordsS (cutL x)).map Value.string).toArray 9) := fun W h => by
          have := Tryz.strings_Split (cutL x) spB m0 W (by omega) h (by decide)
          rw [hkk] at this
          have hw : wordsS (cutL x) = Lib.splitB spB 0 kk (cutL x) := by unfold wordsS; rw [hkk]
          rw [hw]
          exact this
        rw [hkk] at hwl hcc
        have hnext := next_any st (N + 2) w'.heap.size (kk + 1) (N + 6) (wordsS (cutL x)) hfit (by omega) (by omega) (by omega) (fun y hy => by have := splitB_size spB _ _ y hy; omega) Wd (hEw.below hbd) hSd
          ⟨v, (hbd.block _ hN2).trans hR, own_below hown hbd⟩ (by omega) (by have := hE.big; omega) (by omega) (by have := hbd.size; omega)
        rw [hwl] at hnext
        have hfin : ∀ (e : Ending) (w3 : World), NextPost st (wordsS (cutL x)) (N + 2) (N + 6) Wd e w3 → ∃ E : Int, e = .returned (.int .i64 E) ∧ ∃ st', stepL st x = (E, st') ∧ w'.heap.size ≤ w3.heap.size ∧ (∀ k, k < N + 6 → k ≠ N + 2 → w3.heap[k]? = w'.heap[k]?) ∧ KeepsOthers w' w3 ∧ Below N w w3 ∧ (E = 0 → StAt w3 (N + 2) (N + 6) st') := by
          rintro e w3 ⟨rfl, p1, p2, p3, p4, p5, p6, p7⟩
          refine ⟨_, rfl, (stepW st (wordsS (cutL x))).2, by rw [hstw.out], Nat.le_trans hbd.size p1, fun k hk hne => (p2 k (by have := hbd.size; omega) hk hne).trans (hbd.block k (by omega)), ?_, ?_, p7⟩
          · refine KeepsOthers.trans ?_ p6
            rw [← hWd]; exact (KeepsOthers.drew w').trans (KeepsOthers.alloc _ _)
          · exact ⟨p3.trans (hbd.os.trans hbW.os), p4.trans (hbd.tape.trans hbW.tape), p5.trans (hbd.output.trans hbW.output), Nat.le_trans hbW.size (Nat.le_trans hbd.size p1), fun k hk => ((p2 k (by have := hbd.size; omega) (by omega) (by omega)).trans (hbd.block k (by omega))).trans (hbW.block k hk)⟩
        subst hWd
        replace hfin := Lib.hid hfin
        replace hnext := Lib.hid hnext
        replace hsplit := Lib.hid hsplit
        replace hR := Lib.hid hR
        replace hwl := Lib.hid hwl
        clear hSd hown
        have htwo := hfit.two
        rcases (show st.ph = 0 ∨ st.ph = 1 ∨ st.ph = 2 by omega) with e | e | e
        · have c26' : w'.cell? ⟨N + 2, 6, none⟩ = some (.func (.func 34) #[.pointer (some ⟨N + 2, 0, none⟩)] #[]) := by rw [c26, e]; rfl
          have hn := hnext.out
          rw [e] at hn
          replace hn : Calls Tryz.prog 34 _ _ _ := hn
          replace hn := Lib.hid hn
          replace e := Lib.hid e
          clear c26 hnext
          gi_wp2
          gi_region_with_o (first
            | (refine ⟨trivial, ?_⟩; gi_at_call 37; refine (CallsIn.inRound l (callsIn_wide.2 (hsplit.out _ (by exact hm0)))).mono ?_; rintro e1 w1 ⟨rfl, rfl⟩)
            | (refine ⟨trivial, ?_⟩; gi_at_call 34; refine (CallsIn.inRound l (callsIn_wide.2 hn.out)).mono ?_; intro e3 w3 hP; obtain ⟨E, rfl, hQ⟩ := hfin.out _ _ hP; clear hP; replace hQ := Lib.hid hQ))
          all_goals gi_wp2
          all_goals gi_meet
          all_goals (obtain ⟨st', q1, q2, q3, q4, q5, q6⟩ := hQ.out; exact ⟨E, st', rfl, q1, q2, q3, q4, q5, q6⟩)
        · have c26' : w'.cell? ⟨N + 2, 6, none⟩ = some (.func (.func 54) #[.pointer (some ⟨N + 2, 0, none⟩)] #[]) := by rw [c26, e]; rfl
          have hn := hnext.out
          rw [e] at hn
          replace hn : Calls Tryz.prog 54 _ _ _ := hn
          replace hn := Lib.hid hn
          replace e := Lib.hid e
          clear c26 hnext
          gi_wp2
          gi_region_with_o (first
            | (refine ⟨trivial, ?_⟩; gi_at_call 37; refine (CallsIn.inRound l (callsIn_wide.2 (hsplit.out _ (by exact hm0)))).mono ?_; rintro e1 w1 ⟨rfl, rfl⟩)
            | (refine ⟨trivial, ?_⟩; gi_at_call 54; refine (CallsIn.inRound l (callsIn_wide.2 hn.out)).mono ?_; intro e3 w3 hP; obtain ⟨E, rfl, hQ⟩ := hfin.out _ _ hP; clear hP; replace hQ := Lib.hid hQ))
          all_goals gi_wp2
          all_goals gi_meet
          all_goals (obtain ⟨st', q1, q2, q3, q4, q5, q6⟩ := hQ.out; exact ⟨E, st', rfl, q1, q2, q3, q4, q5, q6⟩)
        · have c26' : w'.cell? ⟨N + 2, 6, none⟩ = some (.func (.func 74) #[.pointer (some ⟨N + 2, 0, none⟩)] #[]) := by rw [c26, e]; rfl
          have hn := hnext.out
          rw [e] at hn
          replace hn : Calls Tryz.prog 74 _ _ _ := hn
          replace hn := Lib.hid hn
          replace e := Lib.hid e
          clear c26 hnext
          gi_wp2
          gi_region_with_o (first
            | (refine ⟨trivial, ?_⟩; gi_at_call 37; refine (CallsIn.inRound l (callsIn_wide.2 (hsplit.out _ (by exact hm0)))).mono ?_; rintro e1 w1 ⟨rfl, rfl⟩)
            | (refine ⟨trivial, ?_⟩; gi_at_call 74; refine (CallsIn.inRound l (callsIn_wide.2 hn.out)).mono ?_; intro e3 w3 hP; obtain ⟨E, rfl, hQ⟩ := hfin.out _ _ hP; clear hP; replace hQ := Lib.hid hQ))
          all_goals gi_wp2
          all_goals gi_meet
          all_goals (obtain ⟨st', q1, q2, q3, q4, q5, q6⟩ := hQ.out; exact ⟨E, st', rfl, q1, q2, q3, q4, q5, q6⟩)
    case rest =>
      obtain ⟨E, st', rfl, hst1, hsz1, hfr1, hK1, hB1, hS1⟩ := hcut
      obtain ⟨w2, rfl⟩ : ∃ w2 : World, w2 = wc := ⟨_, rfl⟩
      have g0 := (hfr1 N (by omega) (by omega)).trans h0.out
      have g1 := (hfr1 (N + 1) (by omega) (by omega)).trans h1.out
      have g3 := (hfr1 (N + 3) (by omega) (by omega)).trans h3.out
      have g4 := (hfr1 (N + 4) (by omega) (by omega)).trans h4.out
      have g5 := hfr1 (N + 5) (by omega) (by omega)
      clear c3 c4 f4 c1 f1 c00 c01 c02 c03 c04 c05 f00 f01 f02 f03 f04 f05 hN0 hN1 hN4
      have c4 : w2.cell? ⟨N + 4, 0, none⟩ = some (.int .i64 pre.length) := by rw [Lib.cell_of_heap g4]; rfl
      have f4 : w2.frozen? ⟨N + 4, 0, none⟩ = false := Lib.frozen_of_heap g4 0
      have c1 : w2.cell? ⟨N + 1, 0, none⟩ = some .nilIface := by rw [Lib.cell_of_heap g1]; rfl
      have f1 : w2.frozen? ⟨N + 1, 0, none⟩ = false := Lib.frozen_of_heap g1 0
      have c00 : w2.cell? ⟨N, 0, none⟩ = some (.int .i64 0) := by rw [Lib.cell_of_heap g0]; rfl
      have c01 : w2.cell? ⟨N, 1, none⟩ = some (.int .i64 0) := by rw [Lib.cell_of_heap g0]; rfl
      have c02 : w2.cell? ⟨N, 2, none⟩ = some (.int .i64 0) := by rw [Lib.cell_of_heap g0]; rfl
      have c03 : w2.cell? ⟨N, 3, none⟩ = some (.bool false) := by rw [Lib.cell_of_heap g0]; rfl
      have c04 : w2.cell? ⟨N, 4, none⟩ = some (.string ⟨#[]⟩) := by rw [Lib.cell_of_heap g0]; rfl
      have c05 : w2.cell? ⟨N, 5, none⟩ = some (.slice none 0 0) := by rw [Lib.cell_of_heap g0]; rfl
      have f00 : w2.frozen? ⟨N, 0, none⟩ = false := Lib.frozen_of_heap g0 0
      have f01 : w2.frozen? ⟨N, 1, none⟩ = false := Lib.frozen_of_heap g0 1
      have f02 : w2.frozen? ⟨N, 2, none⟩ = false := Lib.frozen_of_heap g0 2
      have f03 : w2.frozen? ⟨N, 3, none⟩ = false := Lib.frozen_of_heap g0 3
      have f04 : w2.frozen? ⟨N, 4, none⟩ = false := Lib.frozen_of_heap g0 4
      have f05 : w2.frozen? ⟨N, 5, none⟩ = false := Lib.frozen_of_heap g0 5
      have hz2 : N + 6 ≤ w2.heap.size := by omega
      have hN0 : N < w2.heap.size := by omega
      have hN1 : N + 1 < w2.heap.size := by omega
      have hN4 : N + 4 < w2.heap.size := by omega
      replace g0 := Lib.hid g0
      replace g1 := Lib.hid g1
      replace g3 := Lib.hid g3
      replace g4 := Lib.hid g4
      replace g5 := Lib.hid g5
      replace hst1 := Lib.hid hst1
      by_cases hE : E = 0
      · subst hE
        gi_wp2
        have hst2 : (stepL st x).1 = 0 := by rw [hst1.out]
        have hfit2 := fit_stepL hfit hst2
        have hgood2 := goodL_snoc hg.out hst2
        rw [show (stepL st x).2 = st' by rw [hst1.out]] at hfit2 hgood2
        refine ⟨hK1.trans (KeepsOthers.setCell _ _ _), (Below.heap_setCell _ _ _ _ (by simp)).trans g5.out, st', hgood2, hfit2, lax_st (B := N + 4) (lo := N + 6) (grown_setCell (grown_refl w2 _) _) (.inl rfl) (by omega) (by omega) (by omega) (hS1 (by simp)), ?_, ?_, ?_, ?_, ?_, ?_⟩
        · exact (Below.heap_setCell _ _ _ _ (by simp)).trans g0.out
        · exact (Below.heap_setCell _ _ _ _ (by simp)).trans g1.out
        · exact (Below.heap_setCell _ _ _ _ (by simp)).trans g3.out
        · rw [heap_setCell_same g4.out]; simp
        · exact hB1.setCell (p := ⟨N + 4, 0, none⟩) (by simp) _
        · rw [size_set]; exact hz2
      · have hEb : (E == 0) = false := by rw [beq_eq_false_iff_ne]; exact hE
        replace hE := Lib.hid hE
        gi_wp2
        gi_region
        all_goals gi_wp2
        all_goals
          have e := px_end (l := pre ++ [x]) (parseR_bad hg.out hpre (by rw [hst1.out]) hE.out) g0.out g1.out hB1 hz2
          exact ⟨hK1.trans e.1, e.2⟩
  case done =>
    rintro D W hD ⟨st, hg, hfit, hst, h0, h1, h3, h4, hbW, hzW⟩ hK
    have hpar := parseR_good (s := s) (pre := linesB s) (r := []) (by simp) hg
    have hll := lines_len s
    have c4 : W.cell? ⟨N + 4, 0, none⟩ = some (.int .i64 (linesB s).length) := by rw [Lib.cell_of_heap h4]; rfl
    have c3 : W.cell? ⟨N + 3, 0, none⟩ = some (.pointer (some ⟨N + 2, 0, none⟩)) := by rw [Lib.cell_of_heap h3]; rfl
    have c1 : W.cell? ⟨N + 1, 0, none⟩ = some .nilIface := by rw [Lib.cell_of_heap h1]; rfl
    have f1 : W.frozen? ⟨N + 1, 0, none⟩ = false := Lib.frozen_of_heap h1 0
    have c00 : W.cell? ⟨N, 0, none⟩ = some (.int .i64 0) := by rw [Lib.cell_of_heap h0]; rfl
    have c01 : W.cell? ⟨N, 1, none⟩ = some (.int .i64 0) := by rw [Lib.cell_of_heap h0]; rfl
    have c02 : W.cell? ⟨N, 2, none⟩ = some (.int .i64 0) := by rw [Lib.cell_of_heap h0]; rfl
    have c03 : W.cell? ⟨N, 3, none⟩ = some (.bool false) := by rw [Lib.cell_of_heap h0]; rfl
    have c04 : W.cell? ⟨N, 4, none⟩ = some (.string ⟨#[]⟩) := by rw [Lib.cell_of_heap h0]; rfl
    have c05 : W.cell? ⟨N, 5, none⟩ = some (.slice none 0 0) := by rw [Lib.cell_of_heap h0]; rfl
    have f00 : W.frozen? ⟨N, 0, none⟩ = false := Lib.frozen_of_heap h0 0
    have f01 : W.frozen? ⟨N, 1, none⟩ = false := Lib.frozen_of_heap h0 1
    have f02 : W.frozen? ⟨N, 2, none⟩ = false := Lib.frozen_of_heap h0 2
    have f03 : W.frozen? ⟨N, 3, none⟩ = false := Lib.frozen_of_heap h0 3
    have f04 : W.frozen? ⟨N, 4, none⟩ = false := Lib.frozen_of_heap h0 4
    have f05 : W.frozen? ⟨N, 5, none⟩ = false := Lib.frozen_of_heap h0 5
    have hN0 : N < W.heap.size := by omega
    have hN1 : N + 1 < W.heap.size := by omega
    have hlen : ((linesB s).length : Int) ≤ 900000 := by omega
    replace h0 := Lib.hid h0
    replace h1 := Lib.hid h1
    replace h3 := Lib.hid h3
    replace h4 := Lib.hid h4
    replace hg := Lib.hid hg
    replace hpar := Lib.hid hpar
    replace hK := Lib.hid hK
    by_cases hz0 : (linesB s).length = 0
    · have hzi : ((linesB s).length : Int) = 0 := by omega
      gi_wp2
      have e := px_end0 (l := []) (s := s) (E := 5) (k := 0) (by rw [hpar.out]; simp [parseF, hz0]) h0.out h1.out hbW hzW
      have hKD := e.1.same D _ hK.out rfl
      refine ⟨by simp, .inl ⟨_, _, rfl, run_takeDeferred hKD, ?_⟩⟩
      exact px_leave e.2 hKD (by omega) hN rfl rfl
    · obtain ⟨v, hR, hown⟩ := hst
      obtain ⟨Av, cv, rfl⟩ := own_slice hown
      have hzi : (((linesB s).length : Int) == 0) = false := by rw [beq_eq_false_iff_ne]; omega
      have d0 : W.cell? ⟨N + 2, 0, none⟩ = some (.int .i64 st.c) := hR.cell 0
      have d1 : W.cell? ⟨N + 2, 1, none⟩ = some (.int .i64 st.a) := hR.cell 1
      have d2 : W.cell? ⟨N + 2, 2, none⟩ = some (.int .i64 st.q) := hR.cell 2
      have d3 : W.cell? ⟨N + 2, 3, none⟩ = some (.bool st.tw) := hR.cell 3
      have d4 : W.cell? ⟨N + 2, 4, none⟩ = some (.string st.m) := hR.cell 4
      have d5 : W.cell? ⟨N + 2, 5, none⟩ = some (.slice Av st.ts.length cv) := hR.cell 5
      replace hR := Lib.hid hR
      replace hown := Lib.hid hown
      gi_wp2
      have e := okW_has (w := w) (st := st) (Av := Av) (cv := cv) h0.out h1.out hbW hzW hown.out
      have hKD := e.2.2.2.2.2.same D _ hK.out rfl
      refine ⟨by simp, .inl ⟨_, _, rfl, run_takeDeferred hKD, ?_⟩⟩
      exact ps_leave (by rw [hpar.out]; simp [parseF, hz0]) hfit e.1 e.2.1 e.2.2.1 e.2.2.2.1 e.2.2.2.2.1 hKD (by omega) hN rfl rfl
  case stop =>
    rintro D pre W hD hX hK
    gi_wp2
    refine ⟨by simp, .inl ⟨_, _, rfl, run_takeDeferred hK, ?_⟩⟩
    exact px_leave hX hK (by omega) hN rfl rfl
end Go.Proofs.YtiojkmknikfhoaaGreatDoor
