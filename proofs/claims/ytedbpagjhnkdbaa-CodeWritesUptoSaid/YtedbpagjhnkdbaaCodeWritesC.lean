/- CodeWrites over the form's reading. -/
import Derived.Test.YtedbpagjhnkdbaaCodeWrites
namespace Go.Proofs.Ytedbpagjhnkdbaa.CodeWrites
open Go.RowKit Go.Proofs.YtedbpagjhnkdbaaW.PrintWords Go.Proofs.Ytedbpagjhnkdbaa.Crc Go.Proofs.Ytedbpagjhnkdbaa.Bytes Go.Proofs.Ytedbpagjhnkdbaa.Opn Go.Proofs.Ytedbpagjhnkdbaa.Wr
set_option linter.unusedVariables false
set_option linter.unusedSimpArgs false
theorem in8 {n : Int} (h : (Lit.int .u8 n).wf = true) : 0 ≤ n ∧ n ≤ 255 := by
  simpa [Lit.wf, IntKind.min, IntKind.max, IntKind.signed, IntKind.bits] using h
theorem inu64 {n : Int} (h : (Lit.int .u64 n).wf = true) : 0 ≤ n ∧ n ≤ 18446744073709551615 := by
  simpa [Lit.wf, IntKind.min, IntKind.max, IntKind.signed, IntKind.bits] using h
theorem in64 {n : Int} (h : (Lit.int .i64 n).wf = true) : -9223372036854775808 ≤ n ∧ n ≤ 9223372036854775807 := by
  simpa [Lit.wf, IntKind.min, IntKind.max, IntKind.signed, IntKind.bits] using h
theorem opens_bytes : Opens Try.prog 27 (Kd.slice 5 (Kd.int .u8)) (fun l => ∀ a, a ∈ l → (Lit.int .u8 a).wf = true) (fun l => sumB (fun _ => 1) l + 1) := opens_slice Try.underlying27 (by kernel_rfl) (opens_int Try.underlying5 (by kernel_rfl))
theorem opens_Op : Opens Try.prog 48 KOp
    (fun x => (Lit.int .i64 x.1).wf = true ∧ (Lit.int .i64 x.2.1).wf = true ∧ (Lit.int .i64 x.2.2.1).wf = true ∧ (Lit.int .u64 x.2.2.2.1).wf = true ∧ ∀ a, a ∈ x.2.2.2.2 → (Lit.int .u8 a).wf = true)
    (fun x => 1 + (1 + (1 + (1 + (sumB (fun _ => 1) x.2.2.2.2 + 1)))) + 1) := by
  have ho := opens_struct (P := Try.prog) Try.underlying48 (by kernel_rfl) (opensF_cons (opens_int Try.underlying3 (by kernel_rfl)) (opensF_cons (opens_int Try.underlying3 (by kernel_rfl)) (opensF_cons (opens_int Try.underlying3 (by kernel_rfl)) (opensF_cons (opens_int Try.underlying46 (by kernel_rfl)) (opensF_one opens_bytes) rfl) rfl) rfl) rfl)
  exact ho
abbrev VOp (x : Int × Int × Int × Int × List Int) : Prop := (Lit.int .i64 x.1).wf = true ∧ (Lit.int .i64 x.2.1).wf = true ∧ (Lit.int .i64 x.2.2.1).wf = true ∧ (Lit.int .u64 x.2.2.2.1).wf = true ∧ ∀ a, a ∈ x.2.2.2.2 → (Lit.int .u8 a).wf = true
abbrev BOp (x : Int × Int × Int × Int × List Int) : Nat := 1 + (1 + (1 + (1 + (sumB (fun _ => 1) x.2.2.2.2 + 1)))) + 1
theorem opens_Script : Opens Try.prog 41 (Kd.pair (Kd.pair (Kd.slice 5 (Kd.int .u8)) (Kd.slice 5 (Kd.int .u8))) (Kd.slice 48 KOp))
    (fun x => ((∀ a, a ∈ x.1.1 → (Lit.int .u8 a).wf = true) ∧ (∀ a, a ∈ x.1.2 → (Lit.int .u8 a).wf = true)) ∧ ∀ o, o ∈ x.2 → VOp o)
    (fun x => sumB (fun _ => 1) x.1.1 + 1 + (sumB (fun _ => 1) x.1.2 + 1) + 1 + (sumB BOp x.2 + 1) + 1) := by
  have ho := opens_struct (P := Try.prog) Try.underlying41 (by kernel_rfl) (opensF_cons (opens_two Try.underlying38 (by kernel_rfl) opens_bytes) (opensF_one (opens_slice Try.underlying39 (by kernel_rfl) opens_Op)) rfl)
  exact ho
set_option maxRecDepth 20000 in
theorem contract {H : Type} {enc : TypeId × Value → H} (W : World) (base : Nat) (v0 : Value) (d0 : DataW H) (p0 : List MemPlace) (hok : Value.okWide Try.prog W .any base 41 v0)
    (h0 : DataW.Trod enc Try.prog W 0 (fun _ => true) true 41 v0 d0 p0) (hlt : ∀ x ∈ p0, x.block < W.heap.size) (hsz : (DataW.weightsEach Try.prog [41] [d0]).all (· ≤ reachBytes) = true) (hk : Rows.uptoSmall H [d0] = true) :
    Calls Try.prog 6 #[v0] W fun e W' => e = .returned (.bool true) ∧ Below W.heap.size W W' := by
  obtain ⟨⟨⟨xa, xb⟩, os⟩, cs, rfl, ⟨c1, c2, hcs, ⟨c3, c4, rfl, hK1, hK2⟩, hK3⟩, ⟨_, hVO⟩, hB⟩ := open_arg Try.underlying41 opens_Script hok h0
  obtain ⟨A1, n1, rfl, _, _⟩ := hK1
  obtain ⟨A2, n2, rfl, _, _⟩ := hK2
  obtain ⟨A, c, rfl, hl, hC⟩ := hK3
  obtain rfl : cs = #[.slice A1 xa.length n1, .slice A2 xb.length n2, .slice A os.length c] := by cases cs; simp at hcs; rw [hcs]
  have hb : Rows.uptoBulk d0 ≤ 1048576 := by
    have := of_decide_eq_true hk
    simpa [Rows.uptoBulkAll] using this
  refine walk os _ _ A c W hC (fun o ho => ?_)
  have hv := hVO o ho
  have h1 := sumB_mem (B := BOp) ho
  have h2 := sumB_length (B := fun _ : Int => 1) (fun _ => Nat.le_refl _) o.2.2.2.2
  have h3 : sumB (fun _ => 1) o.2.2.2.2 ≤ BOp o := by
    show sumB (fun _ => 1) o.2.2.2.2 ≤ 1 + (1 + (1 + (1 + (sumB (fun _ => 1) o.2.2.2.2 + 1)))) + 1
    omega
  simp only at hB h1
  exact ⟨in64 hv.2.1, inu64 hv.2.2.2.1, fun a ha => in8 (hv.2.2.2.2 a ha), by omega⟩
end Go.Proofs.Ytedbpagjhnkdbaa.CodeWrites
