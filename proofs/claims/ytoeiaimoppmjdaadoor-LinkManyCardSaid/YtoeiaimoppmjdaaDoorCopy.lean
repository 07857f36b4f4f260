/- Contract of tillref0's Copy. -/
import Derived.Test.YtoeiaimoppmjdaaDoorWriters
import Derived.BigRegion
namespace Go.Proofs.YtoeiaimoppmjdaaDoor.Wr
open Go.RowKit Go.Proofs.YtoeiaimoppmjdaaDoorW.PrintWords Go.Proofs.YtoeiaimoppmjdaaDoor.Bytes
set_option linter.unusedVariables false
set_option linter.unusedSimpArgs false
set_option maxHeartbeats 1600000 in
set_option maxRecDepth 20000 in
theorem copy_calls (xs : List Int) (A : Option Addr) (c : Nat) (w : World) (base : Nat) (hbase : base ≤ w.heap.size) (hr : ReadsOf I 0 w A xs.length xs) (hm : xs.length ≤ 140737488355328) :
    Calls Tryd.prog 15 #[.slice A xs.length c] w fun e w' => ∃ v, e = .returned v ∧ w'.ownsRow base 5 1 v xs.length (encs I xs) ∧ Below base w w' := by
  have HBS := Lib.hid hbase
  have HR := Lib.hid hr
  have HM := Lib.hid hm
  clear hr hm hbase
  go_enter Tryd.func15, Tryd.ntmps15
  go_wp2_with (at_builtin; refine print_append_row_of I 0 (w0 := w) base rfl (.tmp 4) (.tmp 5) 22 5 (.int .u8 0) 1 rfl Tryd.underlying22 info5 rfl (by omega) (fun _ => rfl) (.slice none 0 0) [] xs A xs.length c rfl rfl ?h1 HR.out ?h2 HBS.out ?h3 ?_; (case h1 => exact own_nil w base 5 1); (case h2 => exact Below.refl _ _); (case h3 => have := HM.out; simp; omega); intro v1 w1 ho1 hb1 hg1 hat1; have HO1 := Lib.hid ho1; have HB1 := Lib.hid hb1; clear ho1 hb1 hg1 hat1)
  go_wp2_with fail
  go_ret
  exact ⟨_, rfl, by simpa using HO1.out, HB1.out⟩
end Go.Proofs.YtoeiaimoppmjdaaDoor.Wr
