/- Contracts of NetKeeps' own: into, num, tag. -/
import Derived.Test.YtfmggmpllggbnaaNet5
namespace Go.Proofs.Ytfmggmpllggbnaa.Net
open Go.RowKit Go.Proofs.YtfmggmpllggbnaaW.PrintWords
set_option linter.unusedVariables false
set_option linter.unusedSimpArgs false
abbrev I (n : Int) : Value := .int .u8 n
theorem num_calls (e : Int) (w : World) : Calls Try.prog 23 #[.int .i64 e] w fun x w' => x = .returned (.int .i64 e) ∧ w' = w := by
  go_enter Try.func23, Try.ntmps23
  go_wp2_with fail
  go_ret
  exact ⟨by simp, rfl⟩
set_option maxRecDepth 20000 in
theorem tag_calls (i : Nat) (w : World) (base : Nat) (hb : base ≤ w.heap.size) (hi : i < 65536) :
    Calls Try.prog 26 #[.int .i64 i] w fun e w' => e = .returned (.slice (some ⟨w.heap.size, 0, none⟩) 2 2) ∧ w'.heap[w.heap.size]? = some (.cells #[.int .u8 ((i % 256 : Nat) : Int), .int .u8 ((i / 256 : Nat) : Int)] 5 (0, 0)) ∧ Below w.heap.size w w' := by
  obtain ⟨a, ha⟩ : ∃ a, a = i % 256 := ⟨_, rfl⟩
  obtain ⟨b, hbb⟩ : ∃ b, b = i / 256 := ⟨_, rfl⟩
  have q1 : (i : Int) % 256 = (a : Int) := by omega
  have q2 : (i : Int) / 256 = (b : Int) := by omega
  have q3 : (b : Int) ≤ 255 := by omega
  have q4 : (i : Int) ≤ 65535 := by omega
  rw [← ha, ← hbb]
  clear ha hbb
  go_enter Try.func26, Try.ntmps26
  go_wp2_with fail
  go_ret
  exact ⟨rfl, blk_new w _, (Below.refl _ _).alloc (Nat.le_refl _) _⟩
theorem into_gen (i n : Int) (w : World) (hn : 0 < n) (hn2 : n ≤ 1073741824) (h1 : -9223372036854775808 ≤ i) (h2 : i ≤ 9223372036854775807) :
    Calls Try.prog 21 #[.int .i64 i, .int .i64 n] w fun e w' => e = .returned (.int .i64 (i % n)) ∧ w' = w := by
  have r1 : ¬ n = 0 := by omega
  have b1 := Int.tmod_lt_of_pos i hn
  have b2 := Int.lt_tmod_of_pos i hn
  by_cases hi : i.tmod n < 0
  · have e : i % n = wrap64 (i.tmod n + n) := by
      rw [show wrap64 (i.tmod n + n) = i.tmod n + n by unfold wrap64; omega]
      have h := Int.mul_tdiv_add_tmod i n
      rw [← Int.emod_eq_of_lt (a := i.tmod n + n) (b := n) (by omega) (by omega)]
      conv => lhs; rw [← h]
      rw [Int.mul_add_emod_self_left, Int.add_emod_right]
    rw [e]
    clear e b1 b2
    go_enter Try.func21, Try.ntmps21
    go_wp2_with fail
    go_ret
    exact ⟨rfl, rfl⟩
  · have e : i % n = i.tmod n := by
      have h := Int.mul_tdiv_add_tmod i n
      rw [← Int.emod_eq_of_lt (a := i.tmod n) (b := n) (by omega) b1]
      conv => lhs; rw [← h]
      rw [Int.mul_add_emod_self_left]
    rw [e]
    clear e b1 b2
    go_enter Try.func21, Try.ntmps21
    go_wp2_with fail
    go_ret
    exact ⟨rfl, rfl⟩
end Go.Proofs.Ytfmggmpllggbnaa.Net
