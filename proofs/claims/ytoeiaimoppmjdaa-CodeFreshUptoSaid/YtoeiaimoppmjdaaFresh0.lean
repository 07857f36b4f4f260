/- What is written: its length, its bytes. -/
import Derived.Test.YtoeiaimoppmjdaaWtrSt
import Derived.Test.YtoeiaimoppmjdaaPlayed2
namespace Go.Proofs.Ytoeiaimoppmjdaa.Fr
open Go.RowKit Go.Proofs.YtoeiaimoppmjdaaW.PrintWords Go.Proofs.Ytoeiaimoppmjdaa.Mem Go.Proofs.Ytoeiaimoppmjdaa.Wr Go.Proofs.Ytoeiaimoppmjdaa.Bytes
set_option linter.unusedVariables false
set_option linter.unusedSimpArgs false
theorem fixL_byt (n size : Nat) : Byt (fixL n size) := by
  intro a ha
  simp only [fixL, List.mem_map, List.mem_range] at ha
  obtain ⟨j, _, rfl⟩ := ha
  constructor <;> omega
theorem opBytes_len (kind : Int) (n : Nat) (b : List Int) (hn : n < 18446744073709551616) (hb : b.length ≤ 1048576) : (opBytes kind n b).length ≤ b.length + 10 := by
  have h1 := vr_length n 9 (by omega)
  have h2 := vr_length b.length 9 (by omega)
  unfold opBytes
  split
  · rw [fixL_length]; omega
  split
  · rw [fixL_length]; omega
  split
  · rw [fixL_length]; omega
  split
  · omega
  split
  · simp; omega
  split
  · omega
  · simp
theorem opBytes_byt (kind : Int) (n : Nat) (b : List Int) (hb : Byt b) : Byt (opBytes kind n b) := by
  unfold opBytes
  split
  · exact fixL_byt _ _
  split
  · exact fixL_byt _ _
  split
  · exact fixL_byt _ _
  split
  · exact vr_byt n
  split
  · intro a ha
    rcases List.mem_append.1 ha with h | h
    · exact vr_byt _ a h
    · exact hb a h
  split
  · exact hb
  · intro a ha; cases ha
theorem byt_app {xs ys : List Int} (h1 : Byt xs) (h2 : Byt ys) : Byt (xs ++ ys) := fun a ha => by
  rcases List.mem_append.1 ha with h | h
  · exact h1 a h
  · exact h2 a h
theorem laidB_take (ps : List Stp) (k : Nat) (hk : k < ps.length) : laidB (ps.take (k + 1)) = laidB (ps.take k) + (ps[k]).b.length := by
  rw [List.take_succ_eq_append_getElem hk, laidB_snoc]
theorem laidB_take_le (ps : List Stp) (k : Nat) : laidB (ps.take k) ≤ laidB ps := by
  have h : laidB ps = laidB (ps.take k) + laidB (ps.drop k) := by
    unfold laidB
    rw [← List.sum_append, ← List.map_append, List.take_append_drop]
  omega
end Go.Proofs.Ytoeiaimoppmjdaa.Fr
