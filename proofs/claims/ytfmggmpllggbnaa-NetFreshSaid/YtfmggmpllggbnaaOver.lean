/- A row of one's own, written over in a stretch. -/
import Derived.Test.YtfmggmpllggbnaaNet2
import Derived.Laws.IdiomCopy
namespace Go.Proofs.Ytfmggmpllggbnaa.Net
open Go.RowKit Go.Proofs.YtfmggmpllggbnaaW.PrintWords
set_option linter.unusedVariables false
set_option linter.unusedSimpArgs false
def over (xs : List Value) : Nat → List Value → List Value
  | _, [] => xs
  | o, v :: r => over (xs.set o v) (o + 1) r
theorem over_eq (vs : List Value) : ∀ (xs : List Value) (o : Nat), o + vs.length ≤ xs.length → over xs o vs = xs.take o ++ vs ++ xs.drop (o + vs.length) := by
  induction vs with
  | nil => intro xs o h; simp [over]
  | cons v r ih =>
    intro xs o h
    simp only [over]
    simp at h
    rw [ih (xs.set o v) (o + 1) (by simp; omega)]
    have e1 : (xs.set o v).take (o + 1) = xs.take o ++ [v] := by
      rw [List.take_succ_eq_append_getElem (by simp; omega), List.take_set_of_le (by omega)]
      simp
    have e2 : (xs.set o v).drop (o + 1 + r.length) = xs.drop (o + (v :: r).length) := by
      rw [List.drop_set_of_lt (by omega), show o + 1 + r.length = o + (v :: r).length by simp; omega]
    rw [e1, e2]
    simp
theorem own_over {g cap base n size : Nat} {e : TypeId} (vs : List Value) : ∀ (W : World) (xs : List Value) (o : Nat), W.ownsRow base e size (.slice (some ⟨g, 0, none⟩) n cap) n xs →
    (W.setCells g o vs).ownsRow base e size (.slice (some ⟨g, 0, none⟩) n cap) n (over xs o vs) ∧ W.grownBy (W.setCells g o vs) (some g) := by
  induction vs with
  | nil => intro W xs o h; exact ⟨h, World.grownBy.refl _ _⟩
  | cons v r ih =>
    intro W xs o h
    have h1 := h.stored o v
    have h2 := ih (W.setCell ⟨g, o, none⟩ v) (xs.set o v) (o + 1) h1.1
    exact ⟨h2.1, World.grownBy.trans h1.2 h2.2⟩
theorem over_erase (ms : List (Int × ByteArray)) (i : Nat) (hi : i < ms.length) (a b : Value) :
    (over (over (cellsOf ms) (0 + i * 2) ((cellsOf ms).drop ((i + 1) * 2))) ((ms.length - 1) * 2) [a, b]).take ((ms.length - 1) * 2) = cellsOf (ms.eraseIdx i) := by
  have hl := cellsOf_length ms
  have hd : ((cellsOf ms).drop ((i + 1) * 2)).length = (ms.length - (i + 1)) * 2 := by rw [List.length_drop, hl]; omega
  have e1 : over (cellsOf ms) (0 + i * 2) ((cellsOf ms).drop ((i + 1) * 2)) = (cellsOf ms).take (0 + i * 2) ++ (cellsOf ms).drop ((i + 1) * 2) ++ (cellsOf ms).drop (0 + i * 2 + ((cellsOf ms).drop ((i + 1) * 2)).length) := over_eq _ _ _ (by rw [hd, hl]; omega)
  have hle : (over (cellsOf ms) (0 + i * 2) ((cellsOf ms).drop ((i + 1) * 2))).length = ms.length * 2 := by
    rw [e1]; simp [hl]; omega
  rw [over_eq _ _ _ (by rw [hle]; simp; omega), List.append_assoc, List.take_append_of_le_length (by rw [List.length_take, hle]; omega), List.take_take, Nat.min_self, e1]
  rw [List.take_append_of_le_length (by simp [hl]; omega), List.take_of_length_le (by simp [hl]; omega)]
  have hsplit : ms.eraseIdx i = ms.take i ++ ms.drop (i + 1) := List.eraseIdx_eq_take_drop_succ ms i
  rw [hsplit, cellsOf_append, Nat.zero_add]
  have hms : cellsOf ms = cellsOf (ms.take i) ++ cellsOf (ms.drop i) := by rw [← cellsOf_append, List.take_append_drop]
  have hms2 : cellsOf ms = cellsOf (ms.take (i + 1)) ++ cellsOf (ms.drop (i + 1)) := by rw [← cellsOf_append, List.take_append_drop]
  have l1 : (cellsOf (ms.take i)).length = i * 2 := by rw [cellsOf_length, List.length_take]; congr 1; omega
  have l2 : (cellsOf (ms.take (i + 1))).length = (i + 1) * 2 := by rw [cellsOf_length, List.length_take]; congr 1; omega
  congr 1
  · conv => lhs; rw [hms]
    rw [List.take_append_of_le_length (by omega), List.take_of_length_le (by omega)]
  · conv => lhs; rw [hms2]
    rw [List.drop_append_of_le_length (by omega), List.drop_of_length_le (by omega), List.nil_append]
end Go.Proofs.Ytfmggmpllggbnaa.Net
