/- Merged by merge2.py out of the texts: PArgs, LinkQuietC. -/
import Derived.Test.YtoeiaimoppmjdaaDoorZq2
import Derived.Test.YtoeiaimoppmjdaaDoorZq3
import Derived.Test.YtoeiaimoppmjdaaDoorErrTab
/- A play as it comes in: what its cells say. -/
namespace Go.Proofs.YtoeiaimoppmjdaaDoor.Lk
open Go Go.ChangeShapes Go.WideShapes Go.RowKit Go.Deep Go.Proofs.YtoeiaimoppmjdaaDoorW.PrintWords Go.Proofs.YtoeiaimoppmjdaaDoor.OpnS Go.Proofs.YtoeiaimoppmjdaaDoor.Bytes Go.Proofs.YtoeiaimoppmjdaaDoor.Args
set_option linter.unusedVariables false
set_option linter.unusedSimpArgs false
abbrev KStep := Kd.pair KI (Kd.pair KI (Kd.pair KBy (Kd.pair KI KI)))
abbrev CStep := Int × Int × List Int × Int × Int
abbrev VStep (x : CStep) : Prop := (Lit.int .i64 x.1).wf = true ∧ (Lit.int .i64 x.2.1).wf = true ∧ WB x.2.2.1 ∧ (Lit.int .i64 x.2.2.2.1).wf = true ∧ (Lit.int .i64 x.2.2.2.2).wf = true
abbrev BStep (x : CStep) : Nat := 1 + (1 + ((sumB (fun _ => 1) x.2.2.1 + 1) + (1 + 1))) + 1
theorem opens_Step : Opens Tryd.prog 98 KStep VStep BStep := by
  have ho := opens_struct (P := Tryd.prog) Tryd.underlying98 (by kernel_rfl) (opensF_cons (opens_int Tryd.underlying3 (by kernel_rfl)) (opensF_cons (opens_int Tryd.underlying3 (by kernel_rfl)) (opensF_cons opens_bytes (opensF_cons (opens_int Tryd.underlying3 (by kernel_rfl)) (opensF_one (opens_int Tryd.underlying3 (by kernel_rfl))) rfl) rfl) rfl) rfl)
  exact ho
abbrev KPlay := Kd.pair KI (Kd.pair KI (Kd.slice 98 KStep))
theorem opens_Play : Opens Tryd.prog 77 KPlay
    (fun x => (Lit.int .i64 x.1).wf = true ∧ (Lit.int .i64 x.2.1).wf = true ∧ (∀ o, o ∈ x.2.2 → VStep o) ∧ x.2.2.length * Tryd.prog.bytesOf 98 ≤ reachBytes)
    (fun x => 1 + (1 + (sumB BStep x.2.2 + 1)) + 1) := by
  have ho := opens_struct (P := Tryd.prog) Tryd.underlying77 (by kernel_rfl) (opensF_cons (opens_int Tryd.underlying3 (by kernel_rfl)) (opensF_cons (opens_int Tryd.underlying3 (by kernel_rfl)) (opensF_one (opens_slice Tryd.underlying75 (by kernel_rfl) opens_Step)) rfl) rfl)
  exact ho
end Go.Proofs.YtoeiaimoppmjdaaDoor.Lk
/- LinkQuiet over the form's reading. -/
namespace Go.Proofs.YtoeiaimoppmjdaaDoor.LinkQuiet
open Go Go.ChangeShapes Go.WideShapes Go.RowKit Go.Deep Go.Proofs.YtoeiaimoppmjdaaDoorW.PrintWords Go.Proofs.YtoeiaimoppmjdaaDoor.OpnS Go.Proofs.YtoeiaimoppmjdaaDoor.Args Go.Proofs.YtoeiaimoppmjdaaDoor.Lk
set_option linter.unusedVariables false
set_option linter.unusedSimpArgs false
set_option maxRecDepth 20000 in
theorem contract {H : Type} {enc : TypeId × Value → H} (W : World) (base : Nat) (v0 : Value) (d0 : DataW H) (p0 : List MemPlace) (hok : Value.okWide Tryd.prog W .any base 77 v0)
    (h0 : DataW.Trod enc Tryd.prog W 0 (fun _ => true) true 77 v0 d0 p0) (hlt : ∀ x ∈ p0, x.block < W.heap.size) (hsz : (DataW.weightsEach Tryd.prog [77] [d0]).all (· ≤ reachBytes) = true)
    (hL : laidMetH Tryd.prog [("till/code.errnos", Rows.laid_till_code_errnos)] W) :
    Calls Tryd.prog 9 #[v0] W fun e W' => e = .returned (.bool true) ∧ Below W.heap.size W W' := by
  obtain ⟨⟨a, b, os⟩, cs, rfl, ⟨c1, c2, hcs, hK1, ⟨c3, c4, rfl, hK2, hK3⟩⟩, ⟨ha, hb, _, _⟩, hB⟩ := open_arg Tryd.underlying77 opens_Play hok h0 hsz
  obtain ⟨A1, n1, rfl, _, hC1⟩ := hK3
  obtain rfl : c1 = [Value.int .i64 a] := hK1
  obtain rfl : c3 = [Value.int .i64 b] := hK2
  obtain rfl : cs = #[.int .i64 a, .int .i64 b, .slice A1 os.length n1] := by
    cases cs; simp at hcs; rw [hcs]
  obtain ⟨ht, hz⟩ := Wr.errtab hL
  exact quiet_walk W a b A1 os.length n1 (in64 ha) (in64 hb) ht hz
end Go.Proofs.YtoeiaimoppmjdaaDoor.LinkQuiet
