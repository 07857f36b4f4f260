/- Merged by merge.py out of the texts: LinkTurnedC. -/
import Derived.Test.YtoeiaimoppmjdaaDoorZt5
import Derived.Test.YtoeiaimoppmjdaaDoorErrTab
/- LinkTurned over the form's reading. -/
namespace Go.Proofs.YtoeiaimoppmjdaaDoor.LinkTurned
open Go Go.ChangeShapes Go.WideShapes Go.RowKit Go.Deep Go.Proofs.YtoeiaimoppmjdaaDoorW.PrintWords Go.Proofs.YtoeiaimoppmjdaaDoor.OpnS Go.Proofs.YtoeiaimoppmjdaaDoor.Args Go.Proofs.YtoeiaimoppmjdaaDoor.Lk
set_option linter.unusedVariables false
set_option linter.unusedSimpArgs false
theorem few {n b : Nat} (h : n * b ≤ reachBytes) (hb : 1 ≤ b) : n ≤ 140737488355328 := by
  have h1 : n * 1 ≤ n * b := Nat.mul_le_mul_left n hb
  have h2 : reachBytes ≤ 140737488355328 := by decide
  omega
set_option maxRecDepth 20000 in
theorem contract {H : Type} {enc : TypeId × Value → H} (W : World) (base : Nat) (v0 : Value) (d0 : DataW H) (p0 : List MemPlace) (hok : Value.okWide Tryd.prog W .any base 65 v0)
    (h0 : DataW.Trod enc Tryd.prog W 0 (fun _ => true) true 65 v0 d0 p0) (hlt : ∀ x ∈ p0, x.block < W.heap.size) (hsz : (DataW.weightsEach Tryd.prog [65] [d0]).all (· ≤ reachBytes) = true)
    (hL : laidMetH Tryd.prog [("till/code.errnos", Rows.laid_till_code_errnos)] W) :
    Calls Tryd.prog 8 #[v0] W fun e W' => e = .returned (.bool true) ∧ Below W.heap.size W W' := by
  obtain ⟨⟨⟨fs, bs⟩, bit⟩, cs, rfl, ⟨c1, c2, hcs, ⟨c3, c4, rfl, hK1, hK2⟩, hK3⟩, ⟨⟨⟨hvf, hlf⟩, ⟨hvb, hlb⟩⟩, hbit⟩, hB⟩ := open_arg Tryd.underlying65 opens_Turned hok h0 hsz
  obtain ⟨A1, n1, rfl, _, hC1⟩ := hK1
  obtain ⟨A2, n2, rfl, _, hC2⟩ := hK2
  have hb1 : 1 ≤ Tryd.prog.bytesOf 69 := by
    have : (Nat.ble 1 (Tryd.prog.bytesOf 69)) = true := by kernel_rfl
    exact Nat.le_of_ble_eq_true this
  have hb2 : 1 ≤ Tryd.prog.bytesOf 22 := by
    have : (Nat.ble 1 (Tryd.prog.bytesOf 22)) = true := by kernel_rfl
    exact Nat.le_of_ble_eq_true this
  obtain rfl : cs = tuC A1 fs.length n1 A2 bs.length n2 bit := by
    have hK3' : c2 = [Value.int .i64 bit] := hK3
    cases cs; simp at hcs; rw [hcs, hK3']
  obtain ⟨ht, hz⟩ := Wr.errtab hL
  exact turned_walk W fs bs bit A1 n1 A2 n2 hC1 hvf hC2 hvb (few hlf hb1) (few hlb hb2) (in64 hbit) ht hz
end Go.Proofs.YtoeiaimoppmjdaaDoor.LinkTurned
