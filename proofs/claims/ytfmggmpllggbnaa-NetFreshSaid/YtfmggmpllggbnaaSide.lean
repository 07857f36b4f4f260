/- A side of the stage: the program's net and the document's over the same messages. -/
import Derived.Test.YtfmggmpllggbnaaOver2
import Derived.Test.YtfmggmpllggbnaaNetA
namespace Go.Proofs.Ytfmggmpllggbnaa.RNet
open Go.RowKit Go.Proofs.YtfmggmpllggbnaaW.PrintWords Go.Proofs.Ytfmggmpllggbnaa.Net
set_option linter.unusedVariables false
set_option linter.unusedSimpArgs false
abbrev Byt (xs : List Int) : Prop := ∀ a, a ∈ xs → 0 ≤ a ∧ a ≤ 255
/-- What was told out of a string is the list of its bytes. -/
theorem told_reads {w : World} {g c : Nat} {xs : List Int} {m : Nat × Nat} (h : w.heap[g]? = some (.cells (bytesRow (strOfNums xs) c) 5 m)) (hx : Byt xs) (hl : xs.length ≤ 140737488355328) : ReadsOf U 0 w (some ⟨g, 0, none⟩) xs.length xs :=
  ⟨rfl, by omega, fun h0 => ⟨⟨g, 0, none⟩, rfl, fun j hj => by
    have hs : j < (strOfNums xs).data.size := by have := strOfNums_size xs; simp only [ByteArray.size] at this; omega
    have h1 : w.cell? ⟨g, j, none⟩ = (bytesRow (strOfNums xs) c)[j]? := cell_of_row w g j _ 5 m h
    have e : (⟨g, 0, none⟩ : Addr).add j = ⟨g, j, none⟩ := add_plain _ _
    rw [e, h1, bytesRow_at _ _ _ hs]
    have hb := hx (xs[j]) (List.getElem_mem hj)
    have e2 : (strOfNums xs).data[j] = UInt8.ofNat (xs[j]).toNat := by simp [strOfNums]
    rw [e2]
    have e3 : xs.getD j 0 = xs[j] := by simp [List.getD, List.getElem?_eq_getElem hj]
    rw [e3]
    show some (Value.int .u8 _) = some (Value.int .u8 _)
    congr 2
    simp
    omega⟩⟩
/-- The same messages. -/
def tell (rs : List RM) : List (Int × ByteArray) := rs.map fun r => (r.1, strOfNums r.2.2)
end Go.Proofs.Ytfmggmpllggbnaa.RNet
