/- NetFresh: the contract over the form's reading. -/
import Derived.Test.YtfmggmpllggbnaaHeld
import Derived.Test.YtfmggmpllggbnaaNetExact
namespace Go.Proofs.Ytfmggmpllggbnaa.NetFresh
open Go Go.ChangeShapes Go.WideShapes Go.RowKit Go.Deep Go.Proofs.YtfmggmpllggbnaaW.PrintWords Go.Proofs.Ytfmggmpllggbnaa.Opn Go.Proofs.Ytfmggmpllggbnaa.RNet Go.Proofs.Ytfmggmpllggbnaa.Mem Go.Proofs.Ytfmggmpllggbnaa.NetExact
set_option linter.unusedVariables false
set_option linter.unusedSimpArgs false
set_option maxRecDepth 20000 in
theorem walk (w : World) (r0 r1 : Int) (A : Option Addr) (os : List CO) (c : Nat) (hr : KOp.C w A os.length os) (hm : os.length ≤ 9223372036854775807)
    (hv : ∀ o, o ∈ os → I64 o.2.1 ∧ I64 o.2.2.1 ∧ Byt o.2.2.2.2) :
    Calls Try.prog 7 #[.agg (scr r0 r1 A os.length c)] w fun e w' => e = .returned (.bool true) ∧ Below w.heap.size w w' := by
  obtain ⟨W1, hW1⟩ : ∃ W1, W1 = w.alloc (.cells (scr r0 r1 A os.length c) 48) := ⟨_, rfl⟩
  have h1 := (St.start w).newB (scr r0 r1 A os.length c) 48
  rw [← hW1] at h1
  have CP := Lib.hid (playM_calls w W1 _ r0 r1 A os c h1 hr hm hv)
  have CH : Hid (∀ W2, St w W2 [B w.heap.size (scr r0 r1 A os.length c) 48] → _) := fun W2 h2 => held_calls w W2 _ r0 r1 A os c h2 hr hm hv
  have HW1 := Lib.hid hW1
  clear hr hm hv h1 hW1
  go_enter Try.func7, Try.ntmps7
  go_wp2_with fail
  rw [← HW1.out]
  refine CP.out.mono ?_; rintro e w1 ⟨rfl, hs⟩
  have x0 := hs.cellOf (g := w.heap.size) (cs := scr r0 r1 A os.length c) (t := 48) (by simp) 0 rfl
  have x1 := hs.cellOf (g := w.heap.size) (cs := scr r0 r1 A os.length c) (t := 48) (by simp) 1 rfl
  have x2 := hs.cellOf (g := w.heap.size) (cs := scr r0 r1 A os.length c) (t := 48) (by simp) 2 rfl
  have HS := Lib.hid hs
  clear hs
  go_wp2_with fail
  refine (CH.out w1 HS.out).mono ?_; rintro e w2 ⟨rfl, hs2⟩
  have HS2 := Lib.hid hs2
  clear hs2
  go_wp2_with fail
  go_ret
  exact ⟨rfl, HS2.out.bl⟩
set_option maxRecDepth 20000 in
theorem contract {H : Type} {enc : TypeId × Value → H} (W : World) (base : Nat) (v0 : Value) (d0 : DataW H) (p0 : List MemPlace) (hok : Value.okWide Try.prog W .any base 48 v0)
    (h0 : DataW.Trod enc Try.prog W 0 (fun _ => true) true 48 v0 d0 p0) (hlt : ∀ x ∈ p0, x.block < W.heap.size) (hsz : (DataW.weightsEach Try.prog [48] [d0]).all (· ≤ reachBytes) = true) :
    Calls Try.prog 7 #[v0] W fun e W' => e = .returned (.bool true) ∧ Below W.heap.size W W' := by
  obtain ⟨⟨⟨r0, r1⟩, os⟩, cs, rfl, ⟨c1, c2, hcs, ⟨c3, c4, rfl, hK1, hK2⟩, hK3⟩, ⟨_, hVO⟩, _⟩ := open_arg Try.underlying48 opens_Script hok h0
  obtain rfl := hK1
  obtain rfl := hK2
  obtain ⟨A, c, rfl, hl, hC⟩ := hK3
  obtain rfl : cs = scr r0 r1 A os.length c := by cases cs; simp at hcs; rw [hcs]
  have hm := Kd.C_max hC
  exact walk W r0 r1 A os c hC hm (fun o ho => ⟨in64 (hVO o ho).2.1, in64 (hVO o ho).2.2.1, fun a ha => in8 ((hVO o ho).2.2.2.2 a ha)⟩)
end Go.Proofs.Ytfmggmpllggbnaa.NetFresh
