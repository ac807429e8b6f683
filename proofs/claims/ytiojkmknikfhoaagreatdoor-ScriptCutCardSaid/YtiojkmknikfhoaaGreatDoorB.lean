/- Walks over package script: numbers of words, turns, configs. -/
import Derived.Test.YtiojkmknikfhoaaGreatDoorA
import Derived.Test.YtiojkmknikfhoaaGreatDoorNum
import Derived.Lib.SmallJoins
namespace Go.Proofs.YtiojkmknikfhoaaGreatDoor
set_option linter.unusedVariables false
set_option linter.unusedSimpArgs false
open Go.RowKit

theorem below_grow (w : World) (k : Nat) (os : Array Obj) : Below w.heap.size w (Go.Sort.grow (w.drewN k) os) :=
  ⟨rfl, rfl, rfl, by simp [Go.Sort.grow], fun i hi => by rw [Go.Sort.heap_grow_old _ _ (by simpa using hi)]; rfl⟩

theorem itoa_c (n : Int) (h0 : -9223372036854775808 ≤ n) (h1 : n ≤ 9223372036854775807) (w : World) (hE : Env w) :
    Calls Tryz.prog 52 #[.int .i64 n] w fun e w' => e = .returned (.string ⟨(Lib.itoa n).toArray⟩) ∧ Below w.heap.size w w' := by
  refine (Tryz.strconv_Itoa n h0 h1 w hE.pow).mono ?_
  rintro e w' ⟨rfl, k, os, rfl⟩
  exact ⟨rfl, below_grow w k os⟩

def AtoiPost (s : ByteArray) (w : World) (e : Ending) (w' : World) : Prop :=
  (∃ n, Lib.atoiAll s.data.toList = .ok n ∧ e = .returned (.tuple #[.int .i64 n, .nilIface]) ∧ Below w.heap.size w w') ∨
  ((∀ n, Lib.atoiAll s.data.toList ≠ .ok n) ∧ ∃ n N, e = .returned (.tuple #[.int .i64 n, .iface 178 (.pointer (some ⟨N, 0, none⟩))]) ∧ Below w.heap.size w w')
theorem atoi_c (s : ByteArray) (hs : s.size ≤ 281474976710656) (w : World) (hE : Env w) : Calls Tryz.prog 88 #[.string s] w (AtoiPost s w) := by
  cases h : Lib.atoiAll s.data.toList
  · rename_i v
    refine (Tryz.strconv_Atoi_ok s (by omega) v h w).mono ?_
    rintro e w' ⟨rfl, hw⟩
    refine .inl ⟨v, h, rfl, ?_⟩
    rcases hw with rfl | ⟨t, rfl⟩
    · exact Below.refl _ _
    · exact Joins.below_bytesWorld _ _ _ _ (Nat.le_refl _)
  · obtain ⟨te, pe, hv⟩ := hE.syn
    refine (Any.strconv_Atoi_syntax Tryz.laysC172 s hs h _ w hv (.inr ⟨te, pe, rfl⟩)).mono ?_
    rintro e w' ⟨N, rfl, _, _, hb⟩
    exact .inr ⟨fun n e => (by rw [h] at e; cases e), 0, N, rfl, hb⟩
  · obtain ⟨te, pe, hv⟩ := hE.rng
    refine (Tryz.strconv_Atoi_range s hs h _ w hv (.inr ⟨te, pe, rfl⟩)).mono ?_
    rintro e w' ⟨N, rfl, _, _, hb⟩
    exact .inr ⟨fun n e => (by rw [h] at e; cases e), _, N, rfl, hb⟩

def NumPost (s : ByteArray) (w : World) (e : Ending) (w' : World) : Prop :=
  ∃ n : Int, e = .returned (.tuple #[.int .i64 n, .bool (Num.isNum s.data.toList)]) ∧ (Num.isNum s.data.toList = true → n = (Num.dval 0 s.data.toList : Nat)) ∧ Below w.heap.size w w'

theorem atoi_range {l : List UInt8} {n : Int} (h : Lib.atoiAll l = .ok n) : -9223372036854775808 ≤ n ∧ n ≤ 9223372036854775807 := by
  cases l with
  | nil => cases h
  | cons c r =>
    unfold Lib.atoiAll at h
    simp only at h
    split at h
    · cases h
    · cases h
    · split at h
      · cases h
      · split at h
        · cases h
        · injection h with h
          subst h
          split <;> omega

theorem notNum_of {l : List UInt8} (h : ∀ n : Int, Lib.atoiAll l = .ok n → 0 ≤ n → l.length ≤ 9 → Lib.itoa n ≠ l) : Num.isNum l = false := by
  cases hn : Num.isNum l with
  | false => rfl
  | true => exact absurd (Num.itoa_num hn) (h _ (Num.atoi_num hn) (by omega) ((Num.isNum_iff l).1 hn).2.1)
set_option maxHeartbeats 400000 in
/-- 'number': of any text. -/
theorem number_any (s : ByteArray) (hs : s.size ≤ 281474976710656) (w : World) (hE : Env w) : Calls Tryz.prog 73 #[.string s] w (NumPost s w) := by
  have hsz : s.data.toList.length = s.size := by simp
  have hsz := Lib.hid hsz
  go_enter Tryz.func73, Tryz.ntmps73
  go_wp2_with fail
  refine (atoi_c s hs _ hE).mono ?_
  rintro e w1 (⟨n, hn, rfl, hb1⟩ | ⟨hn, n, N, rfl, hb1⟩)
  · have hr := atoi_range hn
    have hn := Lib.hid hn
    by_cases h0 : 0 ≤ n
    · by_cases h9 : s.size ≤ 9
      · have hE1 := hE.below hb1
        go_wp2_with fail
        refine (itoa_c n hr.1 hr.2 _ hE1).mono ?_
        rintro e w2 ⟨rfl, hb2⟩
        go_wp2_with fail
        go_ret2
        have hb := hb1.trans (hb2.mono hb1.size)
        by_cases he : Lib.itoa n = s.data.toList
        · obtain ⟨q1, q2⟩ := Num.num_of_itoa h0 (by rw [hsz.out]; exact h9) he
          exact ⟨n, by rw [q1]; simp [he, Lib.toList_data], fun _ => q2, hb⟩
        · have q1 : Num.isNum s.data.toList = false := notNum_of fun m hm _ _ => by rw [hn.out] at hm; injection hm with hm; subst hm; exact he
          exact ⟨n, by rw [q1]; simp [he, Lib.toList_data], fun h => (by rw [q1] at h; cases h), hb⟩
      · have q1 : Num.isNum s.data.toList = false := notNum_of fun m hm _ h9' => absurd h9' (by rw [hsz.out]; exact h9)
        have q1 := Lib.hid q1
        go_wp2_with fail
        go_ret2
        exact ⟨n, by rw [q1.out]; rfl, fun h => (by rw [q1.out] at h; cases h), hb1⟩
    · have q1 : Num.isNum s.data.toList = false := notNum_of fun m hm h0' _ => by rw [hn.out] at hm; injection hm with hm; subst hm; exact absurd h0' h0
      have q1 := Lib.hid q1
      go_wp2_with fail
      go_ret2
      exact ⟨n, by rw [q1.out]; rfl, fun h => (by rw [q1.out] at h; cases h), hb1⟩
  · have q1 : Num.isNum s.data.toList = false := notNum_of fun m hm _ _ => absurd hm (hn m)
    have q1 := Lib.hid q1
    go_wp2_with fail
    go_ret2
    exact ⟨n, by rw [q1.out]; rfl, fun h => (by rw [q1.out] at h; cases h), hb1⟩
end Go.Proofs.YtiojkmknikfhoaaGreatDoor
