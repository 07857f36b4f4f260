/- Contracts of the package pace: a pace is a block of cap, left, gap and what the next tick does. -/
import Derived.Test.YtoeiaimoppmjdaaDoorProg
import Derived.WalkKit
import Derived.WalkSpells
import Derived.WalkLawsBesides
import Derived.Below
import Derived.Outline
import Derived.Lib.Hide
import Derived.LoopTactic
import Derived.Deep.QuietTactic
import Derived.BigQuiet
import Derived.BigRegion
import Derived.Laws.EntriesVeiled
import Derived.Laws.Rows
import Derived.KernelRfl
import Derived.Test.YtoeiaimoppmjdaaDoorWMore
namespace Go.Proofs.YtoeiaimoppmjdaaDoor.Pace
open Go.RowKit
set_option linter.unusedVariables false
set_option linter.unusedSimpArgs false
abbrev ptr (g : Nat) : Value := .pointer (some ⟨g, 0, none⟩)
/-- What the next tick does: send (it is time) or wait. -/
def nxt (g : Nat) (s : Bool) : Value := .func (.func (if s = true then 104 else 107)) #[ptr g] #[]
def IsP (w : World) (g : Nat) (cap left gap : Int) (s : Bool) : Prop := w.heap[g]? = some (.cells #[.int .i64 cap, .int .i64 left, .int .i64 gap, nxt g s] 135 (0, 0))
theorem IsP.cell {w : World} {g : Nat} {cap left gap : Int} {s : Bool} (h : IsP w g cap left gap s) (i : Nat) : w.cell? ⟨g, i, none⟩ = (#[Value.int .i64 cap, .int .i64 left, .int .i64 gap, nxt g s])[i]? := cell_of_row w g i _ 135 (0, 0) h
theorem IsP.frozen {w : World} {g : Nat} {cap left gap : Int} {s : Bool} (h : IsP w g cap left gap s) (i : Nat) : w.frozen? ⟨g, i, none⟩ = false := by
  unfold IsP at h; simp [World.frozen?, h]
theorem IsP.lt {w : World} {g : Nat} {cap left gap : Int} {s : Bool} (h : IsP w g cap left gap s) : g < w.heap.size := (Array.getElem?_eq_some_iff.1 h).1
theorem IsP.set1 {w : World} {g : Nat} {cap left gap : Int} {s : Bool} (h : IsP w g cap left gap s) (x : Int) : IsP (w.setCell ⟨g, 1, none⟩ (.int .i64 x)) g cap x gap s := by
  unfold IsP at *; simp [World.setCell, Array.getElem?_modify, h]
theorem IsP.set2 {w : World} {g : Nat} {cap left gap : Int} {s : Bool} (h : IsP w g cap left gap s) (x : Int) : IsP (w.setCell ⟨g, 2, none⟩ (.int .i64 x)) g cap left x s := by
  unfold IsP at *; simp [World.setCell, Array.getElem?_modify, h]
theorem IsP.set3 {w : World} {g : Nat} {cap left gap : Int} {s : Bool} (h : IsP w g cap left gap s) (x : Bool) : IsP (w.setCell ⟨g, 3, none⟩ (nxt g x)) g cap left gap x := by
  unfold IsP at *; simp [World.setCell, Array.getElem?_modify, h]
/-- Only block g has turned. -/
theorem only_refl (w : World) (g : Nat) : w.grownBy w (some g) := ⟨rfl, rfl, rfl, Nat.le_refl _, fun _ _ _ => rfl⟩
theorem only_set {a w : World} {g : Nat} (h : a.grownBy w (some g)) (i : Nat) (u : Value) : a.grownBy (w.setCell ⟨g, i, none⟩ u) (some g) :=
  ⟨h.os, h.tape, h.output, by simpa [World.setCell] using h.size, fun k hk hne => (Below.heap_setCell w ⟨g, i, none⟩ u k (by rintro rfl; exact hne rfl)).trans (h.block k hk hne)⟩
theorem only_drew {a w : World} {g : Nat} (h : a.grownBy w (some g)) : a.grownBy w.drew (some g) := ⟨h.os, h.tape, h.output, h.size, h.block⟩
theorem only_drewN {a w : World} {g : Nat} (h : a.grownBy w (some g)) (n : Nat) : a.grownBy (w.drewN n) (some g) := ⟨h.os, h.tape, h.output, h.size, h.block⟩

theorem wait_calls (g : Nat) (cap left gap : Int) (s : Bool) (w : World) (h : IsP w g cap left gap s) (h0 : 1 ≤ left) (h1 : left ≤ 64) :
    Calls Tryd.prog 107 #[ptr g] w fun e w' => e = .returned (.bool false) ∧ IsP w' g cap (left - 1) gap (if left = 2 then true else s) ∧ w.grownBy w' (some g) := by
  have c1 : w.cell? ⟨g, 1, none⟩ = some (.int .i64 left) := h.cell 1
  have c3 : w.cell? ⟨g, 3, none⟩ = some (nxt g s) := h.cell 3
  have f1 := h.frozen 1
  have f3 := h.frozen 3
  have H := Lib.hid h
  clear h
  by_cases hl : left = 2
  · subst hl
    go_enter Tryd.func107, Tryd.ntmps107
    go_wp2
    go_ret
    exact ⟨rfl, (H.out.set1 1).set3 true, only_set (only_set (only_refl _ _) _ _) _ _⟩
  · have hb : (left - 1 == 1) = false := by rw [beq_eq_false_iff_ne]; omega
    rw [if_neg hl]
    go_enter Tryd.func107, Tryd.ntmps107
    go_wp2
    go_ret
    exact ⟨rfl, H.out.set1 _, only_set (only_refl _ _) _ _⟩

theorem IsP.world {w w' : World} {g : Nat} {cap left gap : Int} {s : Bool} (h : IsP w g cap left gap s) (hw : w'.heap[g]? = w.heap[g]?) : IsP w' g cap left gap s := hw.trans h
section
attribute [local go_sem] Go.Proofs.YtoeiaimoppmjdaaDoorW.PrintMore.max2_int Go.Proofs.YtoeiaimoppmjdaaDoorW.PrintMore.min2_int Go.Proofs.YtoeiaimoppmjdaaDoorW.PrintMore.max_two Go.Proofs.YtoeiaimoppmjdaaDoorW.PrintMore.min_two
set_option maxHeartbeats 3200000 in
theorem send_calls (g : Nat) (cap left gap gap' : Int) (s : Bool) (w : World) (h : IsP w g cap left gap s) (h0 : 1 ≤ gap) (h1 : gap ≤ 64) (hg : gap' = if cap < 2 * gap then cap else 2 * gap) :
    Calls Tryd.prog 104 #[ptr g] w fun e w' => e = .returned (.bool true) ∧ IsP w' g cap gap gap' (if 1 < gap then false else s) ∧ w.grownBy w' (some g) := by
  have c0 : w.cell? ⟨g, 0, none⟩ = some (.int .i64 cap) := h.cell 0
  have c1 : w.cell? ⟨g, 1, none⟩ = some (.int .i64 left) := h.cell 1
  have c2 : w.cell? ⟨g, 2, none⟩ = some (.int .i64 gap) := h.cell 2
  have c3 : w.cell? ⟨g, 3, none⟩ = some (nxt g s) := h.cell 3
  have f1 := h.frozen 1
  have f2 := h.frozen 2
  have f3 := h.frozen 3
  have H := Lib.hid h
  clear h
  have e2 : IntKind.i64.wrap (2 * gap) = 2 * gap := by rw [IntKind.wrap_i64]; omega
  by_cases hc : cap < 2 * gap
  · rw [if_pos hc] at hg
    subst hg
    by_cases hb : 1 < gap
    · skip
      have hb' : decide (1 < gap) = true := decide_eq_true hb
      rw [if_pos hb]
      go_enter Tryd.func104, Tryd.ntmps104
      go_wp2_with fail
      go_region
      go_wp2
      go_ret
      exact ⟨rfl, ((H.out.set1 gap).set2 _).set3 false, only_drew (only_set (only_set (only_set (only_refl _ _) _ _) _ _) _ _)⟩
    · skip
      have hb' : decide (1 < gap) = false := decide_eq_false hb
      rw [if_neg hb]
      go_enter Tryd.func104, Tryd.ntmps104
      go_wp2_with fail
      go_region
      go_wp2
      go_ret
      exact ⟨rfl, (H.out.set1 gap).set2 _, only_drew (only_set (only_set (only_refl _ _) _ _) _ _)⟩
  · rw [if_neg hc] at hg
    subst hg
    by_cases hb : 1 < gap
    · skip
      have hb' : decide (1 < gap) = true := decide_eq_true hb
      rw [if_pos hb]
      go_enter Tryd.func104, Tryd.ntmps104
      go_wp2_with fail
      go_region
      go_wp2
      go_ret
      exact ⟨rfl, ((H.out.set1 gap).set2 _).set3 false, only_drew (only_set (only_set (only_set (only_refl _ _) _ _) _ _) _ _)⟩
    · skip
      have hb' : decide (1 < gap) = false := decide_eq_false hb
      rw [if_neg hb]
      go_enter Tryd.func104, Tryd.ntmps104
      go_wp2_with fail
      go_region
      go_wp2
      go_ret
      exact ⟨rfl, (H.out.set1 gap).set2 _, only_drew (only_set (only_set (only_refl _ _) _ _) _ _)⟩
end
/-- The pace's own order: behind send it waits just where left is above 1. -/
structure IsO (w : World) (g : Nat) (cap left gap : Int) : Prop where
  p : IsP w g cap left gap (decide (left ≤ 1))
  c : 1 ≤ cap ∧ cap ≤ 64
  g : 1 ≤ gap ∧ gap ≤ cap
  l : 0 ≤ left ∧ left ≤ cap
def dbl (cap gap : Int) : Int := if cap < 2 * gap then cap else 2 * gap
theorem dbl_range (cap gap : Int) (hc : 1 ≤ cap ∧ cap ≤ 64) (hg : 1 ≤ gap ∧ gap ≤ cap) : 1 ≤ dbl cap gap ∧ dbl cap gap ≤ cap := by unfold dbl; split <;> omega
theorem tick_yes (g : Nat) (cap left gap : Int) (w : World) (h : IsO w g cap left gap) (hl : left ≤ 1) :
    Calls Tryd.prog 96 #[ptr g] w fun e w' => e = .returned (.bool true) ∧ IsO w' g cap gap (dbl cap gap) ∧ w.grownBy w' (some g) := by
  have hp := h.p
  have hd : decide (left ≤ 1) = true := decide_eq_true hl
  rw [hd] at hp
  have c3 : w.cell? ⟨g, 3, none⟩ = some (.func (.func 104) #[ptr g] #[]) := hp.cell 3
  have C := Lib.hid (send_calls g cap left gap (dbl cap gap) true w hp h.g.1 (by have := h.g; have := h.c; omega) rfl)
  have H := Lib.hid h
  clear h hp hd
  go_enter Tryd.func96, Tryd.ntmps96
  go_wp2_with (go_at_call 104; refine C.out.mono ?_; rintro e w' ⟨rfl, hi, hw⟩; have HI := Lib.hid hi; have HWW := Lib.hid hw; clear hi hw)
  go_ret
  have hh := H.out
  refine ⟨rfl, ⟨?_, hh.c, dbl_range _ _ hh.c hh.g, by have := hh.g; omega⟩, HWW.out⟩
  have := HI.out
  by_cases hb : 1 < gap
  · rw [if_pos hb] at this; rw [decide_eq_false (by omega)]; exact this
  · rw [if_neg hb] at this; rw [decide_eq_true (by omega)]; exact this
theorem tick_no (g : Nat) (cap left gap : Int) (w : World) (h : IsO w g cap left gap) (hl : 1 < left) :
    Calls Tryd.prog 96 #[ptr g] w fun e w' => e = .returned (.bool false) ∧ IsO w' g cap (left - 1) gap ∧ w.grownBy w' (some g) := by
  have hp := h.p
  have hd : decide (left ≤ 1) = false := decide_eq_false (by omega)
  rw [hd] at hp
  have c3 : w.cell? ⟨g, 3, none⟩ = some (.func (.func 107) #[ptr g] #[]) := hp.cell 3
  have C := Lib.hid (wait_calls g cap left gap false w hp (by omega) (by have := h.l; have := h.c; omega))
  have H := Lib.hid h
  clear h hp hd
  go_enter Tryd.func96, Tryd.ntmps96
  go_wp2_with (go_at_call 107; refine C.out.mono ?_; rintro e w' ⟨rfl, hi, hw⟩; have HI := Lib.hid hi; have HWW := Lib.hid hw; clear hi hw)
  go_ret
  have hh := H.out
  refine ⟨rfl, ⟨?_, hh.c, hh.g, by have := hh.l; omega⟩, HWW.out⟩
  have := HI.out
  by_cases hb : left = 2
  · rw [if_pos hb] at this; rw [decide_eq_true (by omega)]; exact this
  · rw [if_neg hb] at this; rw [decide_eq_false (by omega)]; exact this
theorem new_no (most : Int) (w : World) (h : most < 1 ∨ 64 < most) : Calls Tryd.prog 90 #[.int .i64 most] w fun e w' => e = .returned (.tuple #[.pointer none, .int .i64 70]) ∧ w = w' := by
  rcases h with h | h
  · have d : decide (most < 1) = true := decide_eq_true h
    clear h
    go_enter Tryd.func90, Tryd.ntmps90
    go_wp2
    go_ret2
    exact ⟨rfl, rfl⟩
  · have d : decide (most < 1) = false := decide_eq_false (by omega)
    have d2 : decide (64 < most) = true := decide_eq_true h
    clear h
    go_enter Tryd.func90, Tryd.ntmps90
    go_wp2
    go_ret2
    exact ⟨rfl, rfl⟩
theorem new_yes (most : Int) (w : World) (h : 1 ≤ most ∧ most ≤ 64) : Calls Tryd.prog 90 #[.int .i64 most] w fun e w' => e = .returned (.tuple #[ptr w.heap.size, .int .i64 0]) ∧ IsO w' w.heap.size most 0 1 ∧ Below w.heap.size w w' := by
  have d : decide (most < 1) = false := decide_eq_false (by omega)
  have d2 : decide (64 < most) = false := decide_eq_false (by omega)
  go_enter Tryd.func90, Tryd.ntmps90
  go_wp2
  go_ret2
  refine ⟨rfl, ⟨?_, h, by omega, by omega⟩, ?_⟩
  · exact heap_alloc_new w _
  · exact (Below.refl _ _).alloc (Nat.le_refl _) _
theorem reset_calls (g : Nat) (cap left gap : Int) (w : World) (h : IsO w g cap left gap) :
    Calls Tryd.prog 91 #[ptr g] w fun e w' => e = .returned (.tuple #[]) ∧ IsO w' g cap 0 1 ∧ w.grownBy w' (some g) := by
  have hp := h.p
  have c1 : w.cell? ⟨g, 1, none⟩ = some (.int .i64 left) := hp.cell 1
  have c2 : w.cell? ⟨g, 2, none⟩ = some (.int .i64 gap) := hp.cell 2
  have c3 : w.cell? ⟨g, 3, none⟩ = some (nxt g (decide (left ≤ 1))) := hp.cell 3
  have f1 := hp.frozen 1
  have f2 := hp.frozen 2
  have f3 := hp.frozen 3
  have H := Lib.hid h
  clear h hp
  go_enter Tryd.func91, Tryd.ntmps91
  go_wp2
  go_end0
  have hh := H.out
  refine ⟨rfl, ⟨((hh.p.set1 0).set2 1).set3 true, hh.c, by have := hh.c; omega, by have := hh.c; omega⟩, only_set (only_set (only_set (only_refl _ _) _ _) _ _) _ _⟩
end Go.Proofs.YtoeiaimoppmjdaaDoor.Pace
