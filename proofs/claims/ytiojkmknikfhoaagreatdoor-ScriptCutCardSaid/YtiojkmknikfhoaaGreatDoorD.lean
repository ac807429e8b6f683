/- Walks over package script: words, kinds, turns, configs. -/
import Derived.Test.YtiojkmknikfhoaaGreatDoorC
import Derived.Deep.DeepCutAuto
namespace Go.Proofs.YtiojkmknikfhoaaGreatDoor
set_option linter.unusedVariables false
set_option linter.unusedSimpArgs false
open Go.RowKit

def Ints (w : World) (b o : Nat) (ns : List Int) : Prop := ∀ j x, ns[j]? = some x → w.cell? ⟨b, o + j, none⟩ = some (.int .i64 x)
theorem Ints.below {w w' : World} {b o : Nat} {ns : List Int} (h : Ints w b o ns) (hb : Below w.heap.size w w') : Ints w' b o ns := fun j x hj => by
  have := h j x hj
  exact (hb.cell (p := ⟨b, o + j, none⟩) (World.block_lt_of_cell? w _ this)).trans this
def itoaB (n : Int) : ByteArray := ⟨(Lib.itoa n).toArray⟩
def wordStep (acc : ByteArray) (n : Int) : ByteArray := acc ++ ((⟨#[32]⟩ : ByteArray) ++ itoaB n)
def wordsB (word : ByteArray) (ns : List Int) : ByteArray := ns.foldl wordStep word

theorem itoa_len (n : Int) (h0 : 0 ≤ n) (h1 : n < 1000000000) : (Lib.itoa n).length ≤ 10 := by
  unfold Lib.itoa
  rw [if_neg (by omega)]
  have h : ∀ k u : Nat, u < 10 ^ (k + 1) → (Lib.decDigits u).length ≤ k + 1 := by
    intro k
    induction k with
    | zero => intro u hu; rw [Lib.decDigits, dif_pos (by omega)]; simp
    | succ k ih =>
      intro u hu
      by_cases h : u < 10
      · rw [Lib.decDigits, dif_pos h]; simp
      · rw [Lib.decDigits, dif_neg h]
        have := ih (u / 10) (by rw [Nat.pow_succ] at hu; omega)
        simp; omega
  exact h 9 n.toNat (by omega)
theorem itoaB_size (n : Int) (h0 : 0 ≤ n) (h1 : n < 1000000000) : (itoaB n).size ≤ 10 := by
  have := itoa_len n h0 h1
  simpa [itoaB, ByteArray.size] using this
theorem wordStep_size (acc : ByteArray) (n : Int) (h0 : 0 ≤ n) (h1 : n < 1000000000) : (wordStep acc n).size ≤ acc.size + 11 := by
  have := itoaB_size n h0 h1
  have h2 : (⟨#[32]⟩ : ByteArray).size = 1 := rfl
  unfold wordStep
  rw [ByteArray.size_append, ByteArray.size_append, h2]; omega
theorem foldl_take_snoc {α β : Type} {f : β → α → β} {z : β} {ns : List α} {k : Nat} {x : α} (hk : ns[k]? = some x) : (ns.take (k + 1)).foldl f z = f ((ns.take k).foldl f z) x := by
  rw [take_snoc hk, List.foldl_append]; rfl
theorem wordsB_size (word : ByteArray) : ∀ ns : List Int, (∀ n ∈ ns, 0 ≤ n ∧ n < 1000000000) → (wordsB word ns).size ≤ word.size + 11 * ns.length := by
  intro ns
  induction ns generalizing word with
  | nil => intro _; simp [wordsB]
  | cons n ns ih =>
    intro h
    have h1 := wordStep_size word n (h n (by simp)).1 (h n (by simp)).2
    have h2 := ih (wordStep word n) (fun m hm => h m (by simp [hm]))
    unfold wordsB at h2 ⊢
    simp only [List.foldl_cons, List.length_cons]
    omega

set_option maxRecDepth 100000 in
set_option maxHeartbeats 1000000 in
theorem words_any (word : ByteArray) (b o cap : Nat) (ns : List Int) (hw : word.size ≤ 1000000) (hl : ns.length ≤ 100) (hn : ∀ n ∈ ns, 0 ≤ n ∧ n < 1000000000) (w : World) (hE : Env w) (hI : Ints w b o ns) :
    Calls Tryz.prog 30 #[.string word, .slice (some ⟨b, o, none⟩) ns.length cap] w fun e w' => e = .returned (.string (wordsB word ns)) ∧ Below w.heap.size w w' := by
  go_enter Tryz.func30, Tryz.ntmps30
  go_wp2_with fail
  go_loopw [0, 9] (fun v i wr => ∃ k : Nat, k ≤ ns.length ∧ i = .int .i64 k ∧ v = .string (wordsB word (ns.take k)) ∧ Below w.heap.size w wr)
    (fun _ i _ => ns.length - (intOf i).toNat)
  case atStart => exact ⟨0, Nat.zero_le _, rfl, rfl, Below.refl _ _⟩
  case round =>
    obtain ⟨k, hk, rfl, rfl, hbw⟩ := hrel
    have hsz := wordsB_size word (ns.take k) (fun n hm => hn n (List.mem_of_mem_take hm))
    have hsz1 : (wordsB word (ns.take k)).size ≤ 1000000 + 11 * 100 := by
      have : (ns.take k).length ≤ 100 := by rw [List.length_take]; omega
      omega
    clear hsz
    by_cases hlt : k < ns.length
    · have hEr := hE.below hbw
      obtain ⟨x, hx0⟩ : ∃ x, ns[k]? = some x := ⟨ns[k], List.getElem?_eq_getElem hlt⟩
      have hc := hI.below hbw k x hx0
      have hxb := hn x (List.mem_of_getElem? hx0)
      have his := itoaB_size x hxb.1 hxb.2
      obtain ⟨acc, hacc⟩ : ∃ acc, wordsB word (ns.take k) = acc := ⟨_, rfl⟩
      have hnext : wordsB word (ns.take (k + 1)) = wordStep acc x := by rw [← hacc]; exact foldl_take_snoc hx0
      rw [hacc] at hsz1 ⊢
      have hnext := Lib.hid hnext
      clear hx0 hacc
      go_wp2_with fail
      refine (itoa_c x (by omega) (by omega) _ hEr).mono ?_
      rintro e w2 ⟨rfl, hb2⟩
      have hb3 := hbw.trans (hb2.mono hbw.size)
      have hsz2 : ((⟨(Lib.itoa x).toArray⟩ : ByteArray)).size ≤ 10 := his
      have hsz3 : ((⟨#[32]⟩ : ByteArray) ++ ⟨(Lib.itoa x).toArray⟩).size ≤ 11 := by rw [ByteArray.size_append]; have h2 : (⟨#[32]⟩ : ByteArray).size = 1 := rfl; omega
      have hsz4 : ((⟨#[32]⟩ : ByteArray)).size + ((⟨(Lib.itoa x).toArray⟩ : ByteArray)).size ≤ 9223372036854775807 := by have h2 : (⟨#[32]⟩ : ByteArray).size = 1 := rfl; omega
      go_wp2_with fail
      go_roundw
      case rel => exact ⟨k + 1, by omega, by go_num, by rw [hnext.out]; rfl, hb3⟩
      case measure => simp [intOf]; omega
    · go_wp2_with fail
      go_ret
      obtain rfl : k = ns.length := by omega
      rw [List.take_length]
      exact ⟨rfl, hbw⟩
def kindsA : Array Value := #[.string ⟨#[112, 105, 99, 107]⟩, .bool true, .bool true, .string ⟨#[114, 111, 117, 110, 100]⟩, .bool false, .bool true, .string ⟨#[115, 104, 111, 119]⟩, .bool false, .bool false, .string ⟨#[114, 111, 119, 115]⟩, .bool false, .bool false]
set_option maxHeartbeats 400000 in
theorem kinds_any (w : World) : Calls Tryz.prog 32 #[] w fun e w' => e = .returned (.agg kindsA) ∧ w' = w.alloc (.cells kindsA 78) := by
  go_enter Tryz.func32, Tryz.ntmps32
  go_wp2
  exact bodyPost_ret (v := .agg kindsA) (by simp [results, Tryz.results32, go_sem, kindsA]) rfl ⟨rfl, rfl⟩

def kind0 : Array Value := #[.string ⟨#[112, 105, 99, 107]⟩, .bool true, .bool true]
def kind1 : Array Value := #[.string ⟨#[114, 111, 117, 110, 100]⟩, .bool false, .bool true]
def kind2 : Array Value := #[.string ⟨#[115, 104, 111, 119]⟩, .bool false, .bool false]
def kind3 : Array Value := #[.string ⟨#[114, 111, 119, 115]⟩, .bool false, .bool false]
theorem idx0 (w : World) : (Instr.index 78 (.agg kindsA) (.int .i64 0)).run Tryz.prog w = .ok (.agg #[.string ⟨#[112, 105, 99, 107]⟩, .bool true, .bool true]) w := by kernel_rfl
theorem idx1 (w : World) : (Instr.index 78 (.agg kindsA) (.int .i64 1)).run Tryz.prog w = .ok (.agg #[.string ⟨#[114, 111, 117, 110, 100]⟩, .bool false, .bool true]) w := by kernel_rfl
theorem idx2 (w : World) : (Instr.index 78 (.agg kindsA) (.int .i64 2)).run Tryz.prog w = .ok (.agg #[.string ⟨#[115, 104, 111, 119]⟩, .bool false, .bool false]) w := by kernel_rfl
theorem idx3 (w : World) : (Instr.index 78 (.agg kindsA) (.int .i64 3)).run Tryz.prog w = .ok (.agg #[.string ⟨#[114, 111, 119, 115]⟩, .bool false, .bool false]) w := by kernel_rfl
def turnB (k s t : Int) : Bool := (k == 0 && decide (0 ≤ s ∧ s ≤ 99) && decide (1 ≤ t ∧ t ≤ 1000)) || (k == 1 && s == 0 && decide (1 ≤ t ∧ t ≤ 1000)) || ((k == 2 || k == 3) && s == 0 && t == 0)

theorem ret_bool {x y : Bool} (h : x = y) : Ending.returned (.bool x) = .returned (.bool y) := by rw [h]
def turnCore (a b : Bool) (s t : Int) : Bool :=
  if b then (decide (1 ≤ t) && decide (t ≤ 1000)) && ((a && decide (0 ≤ s) && decide (s ≤ 99)) || s == 0) else ((a && decide (0 ≤ s) && decide (s ≤ 99)) || s == 0) && t == 0
set_option maxRecDepth 100000 in
set_option maxHeartbeats 1000000 in
theorem turn_core (k s t : Int) (h0 : 0 ≤ k) (h3 : k ≤ 3) (nm : ByteArray) (a b : Bool) (w : World)
    (hidx : ∀ w, (Instr.index 78 (.agg kindsA) (.int .i64 k)).run Tryz.prog w = .ok (.agg #[.string nm, .bool a, .bool b]) w) :
    Calls Tryz.prog 26 #[.agg #[.int .i64 k, .int .i64 s, .int .i64 t]] w fun e w' => e = .returned (.bool (turnCore a b s t)) ∧ Below w.heap.size w w' := by
  go_enter Tryz.func26, Tryz.ntmps26
  go_upto_region 3 with fail
  go_cut [3] (fun p wx => ∃ g, p = .pointer (some ⟨g, 0, none⟩) ∧ g ≠ w.heap.size ∧ w.heap.size ≤ g ∧ wx.cell? ⟨g, 1, none⟩ = some (.bool a) ∧ wx.cell? ⟨g, 2, none⟩ = some (.bool b) ∧ (wx.cell? ⟨w.heap.size, 0, none⟩ = some (.int .i64 k) ∧ wx.cell? ⟨w.heap.size, 1, none⟩ = some (.int .i64 s) ∧ wx.cell? ⟨w.heap.size, 2, none⟩ = some (.int .i64 t)) ∧ (wx.frozen? ⟨w.heap.size, 1, none⟩ = false ∧ wx.frozen? ⟨w.heap.size, 2, none⟩ = false) ∧ Below w.heap.size w wx)
  case first =>
    go_region_held3 (fun w' => w'.cell? ⟨w.heap.size, 0, none⟩ = some (.int .i64 k)) (go_keep) (first | (go_at_call 32; refine (kinds_any _).mono ?_; rintro e w' ⟨rfl, rfl⟩))
    all_goals (go_wp2_with fail; go_meet)
    all_goals refine ⟨_, rfl, by omega, by omega, ?_, ?_, ⟨?_, ?_, ?_⟩, ⟨?_, ?_⟩, ((((Below.refl _ _).alloc (Nat.le_refl _) _).alloc (by simp) _).alloc (by simp; omega) _).drew⟩
    all_goals go_simp
  case rest =>
    obtain ⟨g, rfl, hg, hgb, ha, hb, ⟨c0, c1, c2⟩, ⟨f1, f2⟩, hB⟩ := hcut
    cases a <;> cases b
    all_goals go_wp2
    all_goals (go_ret; refine ⟨ret_bool ?_, by repeat (first | exact hB | refine Below.setCell ?_ (by exact Nat.le_refl _) _)⟩)
    all_goals first | (simp [turnCore, *]; done) | (simp [turnCore]; omega)
theorem turnCore0 (s t : Int) : turnCore true true s t = turnB 0 s t := by
  rw [Bool.eq_iff_iff]; simp [turnCore, turnB]; omega
theorem turnCore1 (s t : Int) : turnCore false true s t = turnB 1 s t := by
  rw [Bool.eq_iff_iff]; simp [turnCore, turnB]; omega
theorem turnCore2 (s t : Int) : turnCore false false s t = turnB 2 s t := by
  simp [turnCore, turnB]
theorem turnCore3 (s t : Int) : turnCore false false s t = turnB 3 s t := by
  simp [turnCore, turnB]
set_option maxHeartbeats 1000000 in
theorem turn_any (k s t : Int) (w : World) :
    Calls Tryz.prog 26 #[.agg #[.int .i64 k, .int .i64 s, .int .i64 t]] w fun e w' => e = .returned (.bool (turnB k s t)) ∧ Below w.heap.size w w' := by
  by_cases h0 : 0 ≤ k
  · by_cases h3 : k ≤ 3
    · have h : k = 0 ∨ k = 1 ∨ k = 2 ∨ k = 3 := by omega
      rcases h with rfl | rfl | rfl | rfl
      · rw [← turnCore0]; exact turn_core 0 s t h0 h3 _ true true w idx0
      · rw [← turnCore1]; exact turn_core 1 s t h0 h3 _ false true w idx1
      · rw [← turnCore2]; exact turn_core 2 s t h0 h3 _ false false w idx2
      · rw [← turnCore3]; exact turn_core 3 s t h0 h3 _ false false w idx3
    · have e : turnB k s t = false := by simp [turnB]; omega
      rw [e]
      go_enter Tryz.func26, Tryz.ntmps26
      go_wp2_with fail
      go_ret
      exact ⟨rfl, (Below.refl _ _).alloc (Nat.le_refl _) _⟩
  · have e : turnB k s t = false := by simp [turnB]; omega
    rw [e]
    go_enter Tryz.func26, Tryz.ntmps26
    go_wp2_with fail
    go_ret
    exact ⟨rfl, (Below.refl _ _).alloc (Nat.le_refl _) _⟩
end Go.Proofs.YtiojkmknikfhoaaGreatDoor
