/- Proved: for every pair of int64 numbers, sum.Add, Sub, Neg and Mul answer what the document's arithmetic answers, asked twice. No condition. -/
import Derived.Test.YtidofjmflpcglaaAdd
import Derived.Test.YtidofjmflpcglaaRows
import Derived.ProofKit
import Derived.Lib.SmallJoins
import Derived.SizedLaws
namespace Go.Proofs.Ytidofjmflpcglaa.SumPairs
open Go.ChangeShapes Go.WideShapes Go.ChangeAt Go.RowKit Go.Joins
open Go.Proofs.Ytidofjmflpcglaa.SumPlain Go.Proofs.Ytidofjmflpcglaa.Mul
set_option linter.unusedVariables false
set_option linter.unusedSimpArgs false

set_option maxHeartbeats 1600000 in
set_option maxRecDepth 100000 in
theorem walk (a b : Int) (ha : I64 a) (hb : I64 b) (w : World) :
    Calls Try.prog 11 #[.agg #[.int .i64 a, .int .i64 b]] w fun e w' => e = .returned (.bool true) ∧ Below w.heap.size w w' := by
  have C26 := Lib.hid (add_calls a b ha hb)
  have C31 := Lib.hid (radd_calls a b ha hb)
  have C32 := Lib.hid (sub_calls a b ha hb)
  have C33 := Lib.hid (rsub_calls a b ha hb)
  have C34 := Lib.hid (neg_calls a ha)
  have C35 := Lib.hid (rneg_calls a ha)
  have C36 := Lib.hid (mul_calls a b ha hb)
  have C37 := Lib.hid (rmul_calls a b ha hb)
  have HB : Hid (Below w.heap.size w (w.alloc (.cells #[.int .i64 a, .int .i64 b] 42))) := (Below.refl _ _).alloc (Nat.le_refl _) _
  clear ha hb
  go_enter Try.func11, Try.ntmps11
  go_wp2
  go_loop [3] (fun i => ∃ k : Nat, k ≤ 2 ∧ i = .int .i64 k) (fun i => 2 - (intOf i).toNat)
  case atStart => exact ⟨0, by omega, rfl⟩
  case round =>
    obtain ⟨k, hk, rfl⟩ := hrel
    by_cases hlt : k < 2
    · go_wp2_with (first
        | (go_at_call 26; refine (C26.out _).mono ?_; rintro e w' ⟨rfl, rfl⟩)
        | (go_at_call 31; refine (C31.out _).mono ?_; rintro e w' ⟨rfl, rfl⟩)
        | (go_at_call 32; refine (C32.out _).mono ?_; rintro e w' ⟨rfl, rfl⟩)
        | (go_at_call 33; refine (C33.out _).mono ?_; rintro e w' ⟨rfl, rfl⟩)
        | (go_at_call 34; refine (C34.out _).mono ?_; rintro e w' ⟨rfl, rfl⟩)
        | (go_at_call 35; refine (C35.out _).mono ?_; rintro e w' ⟨rfl, rfl⟩)
        | (go_at_call 36; refine (C36.out _).mono ?_; rintro e w' ⟨rfl, rfl⟩)
        | (go_at_call 37; refine (C37.out _).mono ?_; rintro e w' ⟨rfl, rfl⟩)
        | (go_at_call 24; refine (same_calls _ _ _).mono ?_; rintro e w' ⟨rfl, rfl⟩))
      go_round
      case rel => exact ⟨k + 1, by omega, by go_num⟩
      case measure => simp [intOf]; omega
    · go_wp2
      go_ret
      exact ⟨rfl, HB.out⟩

theorem cells42 : Try.prog.cellsOf 42 = 2 := by kernel_rfl
theorem in64 {n : Int} (h : (Lit.int .i64 n).wf = true) : I64 n := by
  simpa [Lit.wf, IntKind.min, IntKind.max, IntKind.signed, IntKind.bits, I64] using h
theorem contract {H : Type} {enc : TypeId × Value → H} (W : World) (base : Nat) (v0 : Value) (d0 : DataW H) (p0 : List MemPlace) (hok : Value.okWide Try.prog W .any base 42 v0)
    (h0 : DataW.Trod enc Try.prog W 0 (fun _ => true) true 42 v0 d0 p0) (_hlt : ∀ x ∈ p0, x.block < W.heap.size) (_hsz : (DataW.weightsEach Try.prog [42] [d0]).all (· ≤ reachBytes) = true) :
    Calls Try.prog 11 #[v0] W fun e W' => e = .returned (.bool true) ∧ Below W.heap.size W W' := by
  obtain ⟨c0, c1, y0, y1, m, rfl, rfl, rfl, hy0, hy1⟩ := open_agg2 Try.underlying42 (by kernel_rfl) cells42 hok h0
  obtain ⟨a, e0, rfl, wa⟩ := DataW.trod_int Try.underlying2 hy0
  obtain ⟨b, e1, rfl, wb⟩ := DataW.trod_int Try.underlying2 hy1
  simp at e0 e1
  subst e0 e1
  exact walk a b (in64 wa) (in64 wb) W
end Go.Proofs.Ytidofjmflpcglaa.SumPairs
