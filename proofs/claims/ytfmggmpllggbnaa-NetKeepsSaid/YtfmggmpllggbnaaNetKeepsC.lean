/- NetKeeps: the contract over the form's reading. -/
import Derived.Test.YtfmggmpllggbnaaNetKeeps
namespace Go.Proofs.Ytfmggmpllggbnaa.NetKeeps
open Go Go.ChangeShapes Go.WideShapes Go.RowKit Go.Deep Go.Proofs.YtfmggmpllggbnaaW.PrintWords Go.Proofs.Ytfmggmpllggbnaa.Opn
set_option linter.unusedVariables false
set_option linter.unusedSimpArgs false
theorem in64 {n : Int} (h : (Lit.int .i64 n).wf = true) : I64 n := by
  simpa [Lit.wf, IntKind.min, IntKind.max, IntKind.signed, IntKind.bits, I64] using h
abbrev V (n : Int) : Prop := (Lit.int .i64 n).wf = true
theorem opens_Move : Opens Try.prog 60 KM (fun x => V x.1 ∧ V x.2) (fun x => 1 + 1 + 1) := by
  have ho := opens_struct (P := Try.prog) Try.underlying60 (by kernel_rfl) (opensF_cons (opens_int Try.underlying3 (by kernel_rfl)) (opensF_one (opens_int Try.underlying3 (by kernel_rfl))) rfl)
  exact ho
theorem opens_Run : Opens Try.prog 53 (Kd.pair (Kd.int .i64) (Kd.slice 60 KM)) (fun x => V x.1 ∧ ∀ q, q ∈ x.2 → V q.1 ∧ V q.2) (fun x => 1 + (sumB (fun _ => 1 + 1 + 1) x.2 + 1) + 1) := by
  have ho := opens_struct (P := Try.prog) Try.underlying53 (by kernel_rfl) (opensF_cons (opens_int Try.underlying3 (by kernel_rfl)) (opensF_one (opens_slice Try.underlying51 (by kernel_rfl) opens_Move)) rfl)
  exact ho
set_option maxRecDepth 20000 in
theorem contract {H : Type} {enc : TypeId × Value → H} (W : World) (base : Nat) (v0 : Value) (d0 : DataW H) (p0 : List MemPlace) (hok : Value.okWide Try.prog W .any base 53 v0)
    (h0 : DataW.Trod enc Try.prog W 0 (fun _ => true) true 53 v0 d0 p0) (hlt : ∀ x ∈ p0, x.block < W.heap.size) (hsz : (DataW.weightsEach Try.prog [53] [d0]).all (· ≤ reachBytes) = true) :
    Calls Try.prog 8 #[v0] W fun e W' => e = .returned (.bool true) ∧ Below W.heap.size W W' := by
  obtain ⟨⟨room, mv⟩, cs, rfl, hK, hV, _⟩ := open_arg Try.underlying53 opens_Run hok h0
  obtain ⟨_, _, hcs, rfl, ⟨A1, c, rfl, _, hC1⟩⟩ := hK
  obtain rfl : cs = #[.int .i64 room, .slice A1 mv.length c] := by cases cs; simp at hcs; rw [hcs]
  exact walk room mv A1 c W hC1 (fun q h => ⟨in64 (hV.2 q h).1, in64 (hV.2 q h).2⟩) (in64 hV.1)
end Go.Proofs.Ytfmggmpllggbnaa.NetKeeps
