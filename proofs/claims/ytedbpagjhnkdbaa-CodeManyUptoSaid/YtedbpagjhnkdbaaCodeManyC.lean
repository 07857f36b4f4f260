/- CodeMany over the form's reading. -/
import Derived.Test.YtedbpagjhnkdbaaCodeMany
namespace Go.Proofs.Ytedbpagjhnkdbaa.CodeMany
open Go.RowKit Go.Proofs.YtedbpagjhnkdbaaW.PrintWords Go.Proofs.Ytedbpagjhnkdbaa.Crc Go.Proofs.Ytedbpagjhnkdbaa.Bytes Go.Proofs.Ytedbpagjhnkdbaa.Opn Go.Proofs.Ytedbpagjhnkdbaa.Wr
set_option linter.unusedVariables false
set_option linter.unusedSimpArgs false
theorem in8 {n : Int} (h : (Lit.int .u8 n).wf = true) : 0 ≤ n ∧ n ≤ 255 := by
  simpa [Lit.wf, IntKind.min, IntKind.max, IntKind.signed, IntKind.bits] using h
theorem in64 {n : Int} (h : (Lit.int .i64 n).wf = true) : -9223372036854775808 ≤ n ∧ n ≤ 9223372036854775807 := by
  simpa [Lit.wf, IntKind.min, IntKind.max, IntKind.signed, IntKind.bits] using h
theorem opens_bytes : Opens Try.prog 27 (Kd.slice 5 (Kd.int .u8)) (fun l => ∀ a, a ∈ l → (Lit.int .u8 a).wf = true) (fun l => sumB (fun _ => 1) l + 1) := opens_slice Try.underlying27 (by kernel_rfl) (opens_int Try.underlying5 (by kernel_rfl))
theorem opens_rows : Opens Try.prog 22 (Kd.slice 27 (Kd.slice 5 (Kd.int .u8))) (fun ll => ∀ l, l ∈ ll → ∀ a, a ∈ l → (Lit.int .u8 a).wf = true) (fun ll => sumB (fun l => sumB (fun _ => 1) l + 1) ll + 1) := opens_slice Try.underlying22 (by kernel_rfl) opens_bytes
theorem opens_Crowd : Opens Try.prog 55 (Kd.pair (Kd.int .i64) (Kd.slice 27 (Kd.slice 5 (Kd.int .u8)))) (fun x => (Lit.int .i64 x.1).wf = true ∧ ∀ l, l ∈ x.2 → ∀ a, a ∈ l → (Lit.int .u8 a).wf = true)
    (fun x => 1 + (sumB (fun l => sumB (fun _ => 1) l + 1) x.2 + 1) + 1) := by
  have ho := opens_struct (P := Try.prog) Try.underlying55 (by kernel_rfl) (opensF_cons (opens_int Try.underlying3 (by kernel_rfl)) (opensF_one opens_rows) rfl)
  exact ho
set_option maxRecDepth 20000 in
theorem contract {H : Type} {enc : TypeId × Value → H} (W : World) (base : Nat) (v0 : Value) (d0 : DataW H) (p0 : List MemPlace) (hok : Value.okWide Try.prog W .any base 55 v0)
    (h0 : DataW.Trod enc Try.prog W 0 (fun _ => true) true 55 v0 d0 p0) (hlt : ∀ x ∈ p0, x.block < W.heap.size) (hsz : (DataW.weightsEach Try.prog [55] [d0]).all (· ≤ reachBytes) = true) (hk : Rows.uptoSmall H [d0] = true) :
    Calls Try.prog 7 #[v0] W fun e W' => e = .returned (.bool true) ∧ Below W.heap.size W W' := by
  obtain ⟨⟨N, ll⟩, cs, rfl, ⟨c1, c2, hcs, hK1, hK2⟩, ⟨hVN, hV⟩, hB⟩ := open_arg Try.underlying55 opens_Crowd hok h0
  obtain rfl : c1 = [.int .i64 N] := hK1
  obtain ⟨A, c, rfl, hl, hC⟩ := hK2
  obtain rfl : cs = #[.int .i64 N, .slice A ll.length c] := by cases cs; simp at hcs; rw [hcs]
  have hb : Rows.uptoBulk d0 ≤ 1048576 := by
    have := of_decide_eq_true hk
    simpa [Rows.uptoBulkAll] using this
  refine walk N ll A c W (in64 hVN) hC (fun l hl a ha => in8 (hV l hl a ha)) (fun l hl => ?_)
  have h1 := sumB_mem (B := fun l : List Int => sumB (fun _ => 1) l + 1) hl
  have h2 := sumB_length (B := fun _ : Int => 1) (fun _ => Nat.le_refl _) l
  simp only at hB
  omega
end Go.Proofs.Ytedbpagjhnkdbaa.CodeMany
