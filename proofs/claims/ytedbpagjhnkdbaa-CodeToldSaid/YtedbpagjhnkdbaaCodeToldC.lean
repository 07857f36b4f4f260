/- CodeTold over the form's reading. -/
import Derived.Test.YtedbpagjhnkdbaaCodeTold
namespace Go.Proofs.Ytedbpagjhnkdbaa.CodeTold
open Go.RowKit Go.Proofs.YtedbpagjhnkdbaaW.PrintWords Go.Proofs.Ytedbpagjhnkdbaa.Crc Go.Proofs.Ytedbpagjhnkdbaa.Bytes Go.Proofs.Ytedbpagjhnkdbaa.Opn
set_option linter.unusedVariables false
set_option linter.unusedSimpArgs false
theorem in8 {n : Int} (h : (Lit.int .u8 n).wf = true) : 0 ≤ n ∧ n ≤ 255 := by
  simpa [Lit.wf, IntKind.min, IntKind.max, IntKind.signed, IntKind.bits] using h
theorem in32 {n : Int} (h : (Lit.int .u32 n).wf = true) : 0 ≤ n ∧ n ≤ 4294967295 := by
  simpa [Lit.wf, IntKind.min, IntKind.max, IntKind.signed, IntKind.bits] using h
theorem in64 {n : Int} (h : (Lit.int .i64 n).wf = true) : -9223372036854775808 ≤ n ∧ n ≤ 9223372036854775807 := by
  simpa [Lit.wf, IntKind.min, IntKind.max, IntKind.signed, IntKind.bits] using h
theorem opens_bytes : Opens Try.prog 27 (Kd.slice 5 (Kd.int .u8)) (fun l => ∀ a, a ∈ l → (Lit.int .u8 a).wf = true) (fun l => sumB (fun _ => 1) l + 1) := opens_slice Try.underlying27 (by kernel_rfl) (opens_int Try.underlying5 (by kernel_rfl))
theorem opens_Hurt : Opens Try.prog 33 (Kd.pair (Kd.slice 5 (Kd.int .u8)) (Kd.pair (Kd.int .i64) (Kd.pair (Kd.int .u32) (Kd.pair (Kd.int .i64) (Kd.int .i64)))))
    (fun x => (∀ a, a ∈ x.1 → (Lit.int .u8 a).wf = true) ∧ (Lit.int .i64 x.2.1).wf = true ∧ (Lit.int .u32 x.2.2.1).wf = true ∧ (Lit.int .i64 x.2.2.2.1).wf = true ∧ (Lit.int .i64 x.2.2.2.2).wf = true)
    (fun x => sumB (fun _ => 1) x.1 + 1 + (1 + (1 + (1 + 1))) + 1) := by
  have ho := opens_struct (P := Try.prog) Try.underlying33 (by kernel_rfl) (opensF_cons opens_bytes (opensF_cons (opens_int Try.underlying3 (by kernel_rfl)) (opensF_cons (opens_int Try.underlying25 (by kernel_rfl)) (opensF_cons (opens_int Try.underlying3 (by kernel_rfl)) (opensF_one (opens_int Try.underlying3 (by kernel_rfl))) rfl) rfl) rfl) rfl)
  exact ho
set_option maxRecDepth 20000 in
theorem contract {H : Type} {enc : TypeId × Value → H} (W : World) (base : Nat) (v0 : Value) (d0 : DataW H) (p0 : List MemPlace) (hok : Value.okWide Try.prog W .any base 33 v0)
    (h0 : DataW.Trod enc Try.prog W 0 (fun _ => true) true 33 v0 d0 p0) (hlt : ∀ x ∈ p0, x.block < W.heap.size) (hsz : (DataW.weightsEach Try.prog [33] [d0]).all (· ≤ reachBytes) = true) :
    Calls Try.prog 4 #[v0] W fun e W' => e = .returned (.bool true) ∧ Below W.heap.size W W' := by
  obtain ⟨⟨xs, at_, bt, one, two⟩, cs, rfl, ⟨c1, c2, hcs, hK1, c3, c4, rfl, hK2, c5, c6, rfl, hK3, c7, c8, rfl, hK4, hK5⟩, ⟨hV1, hV2, hV3, hV4, hV5⟩, hB⟩ := open_arg Try.underlying33 opens_Hurt hok h0
  obtain ⟨A, c, rfl, hl, hC⟩ := hK1
  obtain rfl : c3 = [.int .i64 at_] := hK2
  obtain rfl : c5 = [.int .u32 bt] := hK3
  obtain rfl : c7 = [.int .i64 one] := hK4
  obtain rfl : c8 = [.int .i64 two] := hK5
  obtain rfl : cs = #[.slice A xs.length c, .int .i64 at_, .int .u32 bt, .int .i64 one, .int .i64 two] := by cases cs; simp at hcs; rw [hcs]
  have hr := Kd.reads_of_C (enc := I) (d := (0 : Int)) (h1 := fun _ => rfl) hC
  have e2 := in64 hV2
  have e3 := in32 hV3
  have e4 := in64 hV4
  have e5 := in64 hV5
  exact walk xs A c at_ one two bt W hr (fun a ha => in8 (hV1 a ha)) hr.2.1 e2.1 e2.2 e4.1 e4.2 e5.1 e5.2 e3.1 e3.2
end Go.Proofs.Ytedbpagjhnkdbaa.CodeTold
