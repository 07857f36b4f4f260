/- Contracts: may a frame be (fit); EncodeFrame. -/
import Derived.Test.YtoeiaimoppmjdaaDoorLkSt
import Derived.Test.YtoeiaimoppmjdaaDoorFrPlain
import Derived.Deep.DeepCutAuto
namespace Go.Proofs.YtoeiaimoppmjdaaDoor.Lk
open Go.RowKit Go.Proofs.YtoeiaimoppmjdaaDoorW.PrintWords Go.Proofs.YtoeiaimoppmjdaaDoor.Mem Go.Proofs.YtoeiaimoppmjdaaDoor.Wr Go.Proofs.YtoeiaimoppmjdaaDoor.Bytes Go.Proofs.YtoeiaimoppmjdaaDoor.Crc
set_option linter.unusedVariables false
set_option linter.unusedSimpArgs false
abbrev frC (f : Frm) (A : Option Addr) (c : Nat) : Array Value := #[.int .i64 f.src, .int .i64 f.dst, .int .u64 (f.mine : Int), .int .u64 (f.yours : Int), .int .u64 (f.seq : Int), .int .u64 (f.ack : Int), .slice A f.body.length c]
theorem ends_of {f : Frm} {b : Bool} (h : b = true ↔ (0 ≤ f.src ∧ f.src ≤ 8 ∧ 0 ≤ f.dst ∧ f.dst ≤ 8)) : endsB f = b := by
  rw [Bool.eq_iff_iff, h]; simp [endsB, and_assoc]
theorem lives_of {f : Frm} {b : Bool} (h : b = true ↔ (1 ≤ f.mine ∧ f.mine ≤ 1099511627776 ∧ f.yours ≤ 1099511627776)) : livesB f = b := by
  rw [Bool.eq_iff_iff, h]; simp [livesB, and_assoc]
theorem bool_eq {a b : Bool} (h : b = a) : Value.bool a = Value.bool b := by rw [h]
theorem bool_end {a b : Bool} (h : b = a) : Ending.returned (Value.bool a) = Ending.returned (Value.bool b) := by rw [h]
set_option maxRecDepth 20000 in
set_option maxHeartbeats 3200000 in
theorem fit_calls (f : Frm) (A : Option Addr) (c : Nat) (W : World) : Calls Tryd.prog 84 #[.agg (frC f A c)] W fun e w' => e = .returned (.bool (fitB f)) ∧ Below W.heap.size W w' := by
  obtain ⟨W1, hW1⟩ : ∃ W1, W1 = W.alloc (.cells (frC f A c) 69) := ⟨_, rfl⟩
  obtain ⟨bo, hbo⟩ : ∃ bo, bo = W.heap.size := ⟨_, rfl⟩
  have h1 := (St.start W).newB (frC f A c) 69
  rw [← hW1, ← hbo] at h1
  have x0 := h1.cellOf (g := bo) (cs := frC f A c) (t := 69) (by simp) 0 rfl
  have x1 := h1.cellOf (g := bo) (cs := frC f A c) (t := 69) (by simp) 1 rfl
  have x2 := h1.cellOf (g := bo) (cs := frC f A c) (t := 69) (by simp) 2 rfl
  have x3 := h1.cellOf (g := bo) (cs := frC f A c) (t := 69) (by simp) 3 rfl
  have x4 := h1.cellOf (g := bo) (cs := frC f A c) (t := 69) (by simp) 4 rfl
  have x5 := h1.cellOf (g := bo) (cs := frC f A c) (t := 69) (by simp) 5 rfl
  have x6 := h1.cellOf (g := bo) (cs := frC f A c) (t := 69) (by simp) 6 rfl
  have HB1 := Lib.hid h1.bl
  have HW1 := Lib.hid hW1
  have HBO := Lib.hid hbo
  clear h1 hW1 hbo
  go_enter Tryd.func84, Tryd.ntmps84
  go_upto_region 1 with fail
  rw [← HW1.out, ← HBO.out]
  go_cut [3] (fun s3 wx => s3 = .bool (endsB f) ∧ wx = W1)
  case first =>
    go_wp2_with fail
    all_goals
      go_meet
      refine ⟨?_, rfl⟩
      exact bool_eq (ends_of (f := f) (by simp only [decide_eq_true_eq, Bool.false_eq_true, true_iff, false_iff]; omega))
  case rest =>
    obtain ⟨hs, hw⟩ := hcut
    subst hs
    rw [hw]
    clear hw
    go_upto_region 2 with fail
    go_cut [4] (fun s4 wx => s4 = .bool (livesB f) ∧ wx = W1)
    case first =>
      go_wp2_with fail
      all_goals
        go_meet
        refine ⟨?_, rfl⟩
        exact bool_eq (lives_of (f := f) (by simp only [decide_eq_true_eq, Bool.false_eq_true, true_iff, false_iff]; omega))
    case rest =>
      obtain ⟨hs, hw⟩ := hcut
      subst hs
      rw [hw]
      clear hw
      have hfit : fitB f = (endsB f && livesB f && decide (f.seq ≤ 1099511627776) && decide (f.ack ≤ 1099511627776) && decide (f.body.length ≤ 2048) && (decide (0 < f.seq) || decide (f.body.length = 0))) := rfl
      obtain ⟨be, hbe⟩ : ∃ be, be = endsB f := ⟨_, rfl⟩
      obtain ⟨bl, hbl⟩ : ∃ bl, bl = livesB f := ⟨_, rfl⟩
      rw [← hbe, ← hbl] at hfit
      rw [← hbe, ← hbl]
      have HF := Lib.hid hfit
      clear hfit hbe hbl
      cases be <;> cases bl
      all_goals
        go_wp2_with fail
        all_goals
          go_ret
          refine ⟨bool_end ?_, HB1.out⟩
          rw [HF.out, Bool.eq_iff_iff]
          simp only [Bool.and_eq_true, Bool.or_eq_true, decide_eq_true_eq, beq_iff_eq, Bool.false_and, Bool.and_false, Bool.true_and, Bool.false_eq_true, false_and, true_and, false_iff, true_iff, iff_true, iff_false, not_false_eq_true]
          try omega
end Go.Proofs.YtoeiaimoppmjdaaDoor.Lk
