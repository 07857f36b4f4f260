/- Contracts of tilllaw1's Other and Into. -/
import Derived.Test.YtoeiaimoppmjdaaBytes
import Derived.Laws.Closers25b
namespace Go.Proofs.Ytoeiaimoppmjdaa.Bytes
open Go.RowKit Go.Proofs.YtoeiaimoppmjdaaW.PrintWords
set_option linter.unusedVariables false
set_option linter.unusedSimpArgs false
abbrev Byt (xs : List Int) : Prop := ∀ a, a ∈ xs → 0 ≤ a ∧ a ≤ 255
theorem reads_at {w : World} {A : Option Addr} {xs : List Int} (h : ReadsOf I 0 w A xs.length xs) (k : Nat) (hk : k < xs.length) : ∃ ad, A = some ad ∧ w.cell? (ad.add k) = some (.int .u8 (xs.getD k 0)) := by
  obtain ⟨ad, e, hc⟩ := h.2.2 (by omega)
  exact ⟨ad, e, hc k hk⟩
theorem byt_get {xs : List Int} (h : Byt xs) (k : Nat) (hk : k < xs.length) : 0 ≤ xs.getD k 0 ∧ xs.getD k 0 ≤ 255 := by
  rw [List.getD_eq_getElem?_getD, List.getElem?_eq_getElem hk]; exact h _ (List.getElem_mem hk)
theorem rev_take (xs : List Int) (k : Nat) (hk : k < xs.length) : xs.reverse.take (k + 1) = xs.reverse.take k ++ [xs.getD (xs.length - 1 - k) 0] := by
  have hk' : k < xs.reverse.length := by simpa using hk
  rw [List.take_succ_eq_append_getElem hk', List.getElem_reverse, List.getD_eq_getElem?_getD, List.getElem?_eq_getElem (by omega)]; rfl
theorem Closers25b_u8 (b : Int) : 0 ≤ Go.bits .xor .u8 b 1 ∧ Go.bits .xor .u8 b 1 ≤ 255 := by
  exact ⟨bits_lo_u8 _ _ _, bits_hi_u8 _ _ _⟩
end Go.Proofs.Ytoeiaimoppmjdaa.Bytes
