/- Contract of Double: one like the message at a place, at the end. -/
import Derived.Test.YtfmggmpllggbnaaNet4
namespace Go.Proofs.Ytfmggmpllggbnaa.Net
open Go.RowKit Go.Proofs.YtfmggmpllggbnaaW.PrintWords
set_option linter.unusedVariables false
set_option linter.unusedSimpArgs false
theorem double_none (i : Int) (W : World) (base g : Nat) (v : Value) (room : Int) (lost : Nat) (ms : List (Int × ByteArray)) (h : Nt W base g v room lost ms) (hi : i < 0 ∨ (ms.length : Int) ≤ i) :
    Calls Try.prog 30 #[.pointer (some ⟨g, 0, none⟩), .int .i64 i] W fun e w' => e = .returned (.bool false) ∧ w' = W := by
  obtain ⟨A, c, rfl⟩ := slice_form h.own
  have hc := blk_cell h.blk 0
  simp at hc
  clear h
  by_cases h0 : i < 0
  · have i1 : ¬ 0 ≤ i := by omega
    go_enter Try.func30, Try.ntmps30
    go_wp2_with fail
    go_ret
    exact ⟨rfl, rfl⟩
  · have i1 : 0 ≤ i := by omega
    have i2 : ¬ i < (ms.length : Int) := by omega
    go_enter Try.func30, Try.ntmps30
    go_wp2_with fail
    go_ret
    exact ⟨rfl, rfl⟩
theorem msg_cell {W : World} {base gv cap : Nat} {ms : List (Int × ByteArray)} (h : W.ownsRow base 130 2 (.slice (some ⟨gv, 0, none⟩) ms.length cap) ms.length (cellsOf ms)) (k j : Nat) (hk : k < ms.length) (hj : j < 2) : W.cell? ⟨gv, k * 2 + j, none⟩ = (msg (ms[k]'hk))[j]? := by
  rw [h.cellAt (k * 2 + j) (by omega), cellsOf_get ms k j hk hj]
set_option maxRecDepth 20000 in
set_option maxHeartbeats 1600000 in
theorem double_room (i : Nat) (W : World) (base g : Nat) (v : Value) (room : Int) (lost : Nat) (ms : List (Int × ByteArray)) (h : Nt W base g v room lost ms) (hbase : base ≤ W.heap.size) (hi : i < ms.length) (hr : (ms.length : Int) < room) (hm : ms.length ≤ 1099511627776) :
    Calls Try.prog 30 #[.pointer (some ⟨g, 0, none⟩), .int .i64 i] W fun e w' => e = .returned (.bool true) ∧ ∃ v', NtPut W w' base g v v' room lost (ms ++ [ms[i]]) := by
  have HP := Lib.hid (put_room (ms[i]) W base g v room lost ms h hbase hr hm)
  obtain ⟨gv, cap, rfl, _, _⟩ := h.own.form (by omega)
  have hc := blk_cell h.blk 0
  simp at hc
  have q0 := msg_cell h.own i 0 hi (by omega)
  have q1 := msg_cell h.own i 1 hi (by omega)
  obtain ⟨m, hmm⟩ : ∃ m, m = ms[i] := ⟨_, rfl⟩
  rw [← hmm] at HP q0 q1 ⊢
  simp [msg] at q0 q1
  have i1 : (0 : Int) ≤ (i : Int) := by omega
  have i2 : (i : Int) < (ms.length : Int) := by omega
  clear h hbase hr hm hmm
  go_enter Try.func30, Try.ntmps30
  go_wp2_with fail
  refine HP.out.mono ?_; rintro e w1 ⟨rfl, v1, hp1⟩
  have HP1 := Lib.hid hp1
  clear hp1
  go_wp2_with fail
  go_ret
  exact ⟨rfl, _, HP1.out⟩
set_option maxRecDepth 20000 in
set_option maxHeartbeats 1600000 in
theorem double_full (i : Nat) (W : World) (base g : Nat) (v : Value) (room : Int) (lost : Nat) (ms : List (Int × ByteArray)) (h : Nt W base g v room lost ms) (hi : i < ms.length) (hr : room ≤ (ms.length : Int)) :
    Calls Try.prog 30 #[.pointer (some ⟨g, 0, none⟩), .int .i64 i] W fun e w' => e = .returned (.bool false) ∧ Below W.heap.size W w' := by
  have HP := Lib.hid (put_full (ms[i]) W base g v room lost ms h hr)
  obtain ⟨gv, cap, rfl, _, _⟩ := h.own.form (by omega)
  have hc := blk_cell h.blk 0
  simp at hc
  have q0 := msg_cell h.own i 0 hi (by omega)
  have q1 := msg_cell h.own i 1 hi (by omega)
  obtain ⟨m, hmm⟩ : ∃ m, m = ms[i] := ⟨_, rfl⟩
  rw [← hmm] at HP q0 q1
  simp [msg] at q0 q1
  have i1 : (0 : Int) ≤ (i : Int) := by omega
  have i2 : (i : Int) < (ms.length : Int) := by omega
  clear h hr hmm
  go_enter Try.func30, Try.ntmps30
  go_wp2_with fail
  refine HP.out.mono ?_; rintro e w1 ⟨rfl, hb1⟩
  have HB1 := Lib.hid hb1
  clear hb1
  go_wp2_with fail
  go_ret
  exact ⟨rfl, HB1.out⟩
end Go.Proofs.Ytfmggmpllggbnaa.Net
