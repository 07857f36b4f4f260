/- NetExact: the contract over the form's reading. -/
import Derived.Test.YtfmggmpllggbnaaPlay
namespace Go.Proofs.Ytfmggmpllggbnaa.NetExact
open Go Go.ChangeShapes Go.WideShapes Go.RowKit Go.Deep Go.Proofs.YtfmggmpllggbnaaW.PrintWords Go.Proofs.Ytfmggmpllggbnaa.Opn Go.Proofs.Ytfmggmpllggbnaa.RNet Go.Proofs.Ytfmggmpllggbnaa.Mem
set_option linter.unusedVariables false
set_option linter.unusedSimpArgs false
theorem in64 {n : Int} (h : (Lit.int .i64 n).wf = true) : I64 n := by
  simpa [Lit.wf, IntKind.min, IntKind.max, IntKind.signed, IntKind.bits, I64] using h
theorem in8 {n : Int} (h : (Lit.int .u8 n).wf = true) : 0 ≤ n ∧ n ≤ 255 := by
  simpa [Lit.wf, IntKind.min, IntKind.max, IntKind.signed, IntKind.bits] using h
theorem opens_bytes : Opens Try.prog 62 KBy (fun l => ∀ a, a ∈ l → (Lit.int .u8 a).wf = true) (fun l => sumB (fun _ => 1) l + 1) := opens_slice Try.underlying62 (by kernel_rfl) (opens_int Try.underlying5 (by kernel_rfl))
abbrev V (n : Int) : Prop := (Lit.int .i64 n).wf = true
abbrev VOp (x : CO) : Prop := V x.1 ∧ V x.2.1 ∧ V x.2.2.1 ∧ V x.2.2.2.1 ∧ ∀ a, a ∈ x.2.2.2.2 → (Lit.int .u8 a).wf = true
abbrev BOp (x : CO) : Nat := 1 + (1 + (1 + (1 + (sumB (fun _ => 1) x.2.2.2.2 + 1)))) + 1
theorem opens_Op : Opens Try.prog 116 KOp VOp BOp := by
  have ho := opens_struct (P := Try.prog) Try.underlying116 (by kernel_rfl) (opensF_cons (opens_int Try.underlying3 (by kernel_rfl)) (opensF_cons (opens_int Try.underlying3 (by kernel_rfl)) (opensF_cons (opens_int Try.underlying3 (by kernel_rfl)) (opensF_cons (opens_int Try.underlying3 (by kernel_rfl)) (opensF_one opens_bytes) rfl) rfl) rfl) rfl)
  exact ho
theorem opens_Script : Opens Try.prog 48 (Kd.pair (Kd.pair KI KI) (Kd.slice 116 KOp)) (fun x => (V x.1.1 ∧ V x.1.2) ∧ ∀ o, o ∈ x.2 → VOp o) (fun x => (1 + 1 + 1) + (sumB BOp x.2 + 1) + 1) := by
  have ho := opens_struct (P := Try.prog) Try.underlying48 (by kernel_rfl) (opensF_cons (opens_two Try.underlying22 (by kernel_rfl) (opens_int Try.underlying3 (by kernel_rfl))) (opensF_one (opens_slice Try.underlying46 (by kernel_rfl) opens_Op)) rfl)
  exact ho
set_option maxRecDepth 20000 in
theorem walk (w : World) (r0 r1 : Int) (A : Option Addr) (os : List CO) (c : Nat) (hr : KOp.C w A os.length os) (hm : os.length ≤ 9223372036854775807)
    (hv : ∀ o, o ∈ os → I64 o.2.1 ∧ I64 o.2.2.1 ∧ Byt o.2.2.2.2) :
    Calls Try.prog 6 #[.agg (scr r0 r1 A os.length c)] w fun e w' => e = .returned (.bool true) ∧ Below w.heap.size w w' := by
  have CP := Lib.hid (play_calls w (w.alloc (.cells (scr r0 r1 A os.length c) 48)) [] r0 r1 A os c ((St.start w).below ((Below.refl _ _).alloc (Nat.le_refl _) _)) hr hm hv)
  clear hr hm hv
  go_enter Try.func6, Try.ntmps6
  go_wp2_with fail
  refine CP.out.mono ?_; rintro e w1 ⟨rfl, hs⟩
  have HS := Lib.hid hs
  clear hs
  go_wp2_with fail
  go_ret
  exact ⟨rfl, HS.out.bl⟩
set_option maxRecDepth 20000 in
theorem contract {H : Type} {enc : TypeId × Value → H} (W : World) (base : Nat) (v0 : Value) (d0 : DataW H) (p0 : List MemPlace) (hok : Value.okWide Try.prog W .any base 48 v0)
    (h0 : DataW.Trod enc Try.prog W 0 (fun _ => true) true 48 v0 d0 p0) (hlt : ∀ x ∈ p0, x.block < W.heap.size) (hsz : (DataW.weightsEach Try.prog [48] [d0]).all (· ≤ reachBytes) = true) :
    Calls Try.prog 6 #[v0] W fun e W' => e = .returned (.bool true) ∧ Below W.heap.size W W' := by
  obtain ⟨⟨⟨r0, r1⟩, os⟩, cs, rfl, ⟨c1, c2, hcs, ⟨c3, c4, rfl, hK1, hK2⟩, hK3⟩, ⟨_, hVO⟩, _⟩ := open_arg Try.underlying48 opens_Script hok h0
  obtain rfl := hK1
  obtain rfl := hK2
  obtain ⟨A, c, rfl, hl, hC⟩ := hK3
  obtain rfl : cs = scr r0 r1 A os.length c := by cases cs; simp at hcs; rw [hcs]
  have hm := Kd.C_max hC
  exact walk W r0 r1 A os c hC hm (fun o ho => ⟨in64 (hVO o ho).2.1, in64 (hVO o ho).2.2.1, fun a ha => in8 ((hVO o ho).2.2.2.2 a ha)⟩)
end Go.Proofs.Ytfmggmpllggbnaa.NetExact
