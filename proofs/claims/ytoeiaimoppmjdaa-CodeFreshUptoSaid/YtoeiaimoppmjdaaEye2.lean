/- The document's Reader: numbers of a fixed size. -/
import Derived.Test.YtoeiaimoppmjdaaEye
namespace Go.Proofs.Ytoeiaimoppmjdaa.Wr
open Go.RowKit Go.Proofs.YtoeiaimoppmjdaaW.PrintWords Go.Proofs.Ytoeiaimoppmjdaa.Bytes
open Go.Sort (grow)
set_option linter.unusedVariables false
set_option linter.unusedSimpArgs false
theorem erRaw_byt {xs : List Int} (h : Byt xs) (s : RS) (n : Int) : Byt (rRaw xs s n).1 := by
  unfold rRaw rNext
  split
  · intro a ha; cases ha
  · split
    · split
      · exact byt_take (byt_drop h _) _
      · intro a ha; cases ha
    · intro a ha; cases ha
theorem erRaw_len (xs : List Int) (s : RS) (n : Nat) : (rRaw xs s (n : Int)).1.length ≤ n := by
  unfold rRaw rNext
  split
  · simp
  · split
    · split
      · simp; omega
      · simp
    · simp
end Go.Proofs.Ytoeiaimoppmjdaa.Wr
