/- CodeFresh over the form's reading. -/
import Derived.Test.YtoeiaimoppmjdaaCodeFresh
import Derived.Test.YtoeiaimoppmjdaaArgs
namespace Go.Proofs.Ytoeiaimoppmjdaa.CodeFresh
open Go Go.ChangeShapes Go.WideShapes Go.RowKit Go.Deep Go.Proofs.YtoeiaimoppmjdaaW.PrintWords Go.Proofs.Ytoeiaimoppmjdaa.OpnS
set_option linter.unusedVariables false
set_option linter.unusedSimpArgs false
set_option maxRecDepth 20000 in
theorem contract {H : Type} {enc : TypeId × Value → H} (W : World) (base : Nat) (v0 : Value) (d0 : DataW H) (p0 : List MemPlace) (hok : Value.okWide Try.prog W .any base 26 v0)
    (h0 : DataW.Trod enc Try.prog W 0 (fun _ => true) true 26 v0 d0 p0) (hlt : ∀ x ∈ p0, x.block < W.heap.size) (hsz : (DataW.weightsEach Try.prog [26] [d0]).all (· ≤ reachBytes) = true) (hk : Rows.uptoSmall H [d0] = true) :
    Calls Try.prog 3 #[v0] W fun e W' => e = .returned (.bool true) ∧ Below W.heap.size W W' := by
  obtain ⟨⟨⟨xa, xb⟩, os⟩, cs, rfl, ⟨c1, c2, hcs, ⟨c3, c4, rfl, hK1, hK2⟩, hK3⟩, ⟨⟨hva, hvb⟩, hVO, _⟩, hB⟩ := open_arg Try.underlying26 Args.opens_Script hok h0 hsz
  obtain ⟨A1, n1, rfl, hcap1, hC1⟩ := hK1
  obtain ⟨A2, n2, rfl, _, hC2⟩ := hK2
  obtain ⟨A, c, rfl, hl, hC⟩ := hK3
  obtain rfl : cs = #[.slice A1 xa.length n1, .slice A2 xb.length n2, .slice A os.length c] := by cases cs; simp at hcs; rw [hcs]
  have hb : Rows.uptoBulk d0 ≤ 1048576 := by
    have := of_decide_eq_true hk
    simpa [Rows.uptoBulkAll] using this
  have h2 := sumB_length (B := fun _ : Int => 1) (fun _ => Nat.le_refl _) xa
  simp only at hB
  refine Fr.walk xa xb os A1 A2 A n1 n2 c W (Args.by_reads hC1) (by omega) (Args.wb_byt hva) (by omega) hC (fun o ho => ?_)
  have hv := hVO o ho
  have h1 := sumB_mem (B := Args.BOp) ho
  have h4 := sumB_length (B := fun _ : Int => 1) (fun _ => Nat.le_refl _) o.2.2.2.2
  have h3 : sumB (fun _ => 1) o.2.2.2.2 ≤ Args.BOp o := by
    show sumB (fun _ => 1) o.2.2.2.2 ≤ 1 + (1 + (1 + (1 + (sumB (fun _ => 1) o.2.2.2.2 + 1)))) + 1
    omega
  exact ⟨⟨Args.in64 hv.2.1, Args.inu64 hv.2.2.2.1, Args.wb_byt hv.2.2.2.2, by omega⟩, Args.in64 hv.2.2.1⟩
end Go.Proofs.Ytoeiaimoppmjdaa.CodeFresh
