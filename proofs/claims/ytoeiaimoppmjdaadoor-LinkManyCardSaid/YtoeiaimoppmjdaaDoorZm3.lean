/- Merged by merge2.py out of the texts: Pace, RowApp, RowO, Link, Enc. -/
import Derived.Test.YtoeiaimoppmjdaaDoorProg
import Derived.WalkKit
import Derived.WalkSpells
import Derived.WalkLawsBesides
import Derived.Below
import Derived.Outline
import Derived.Lib.Hide
import Derived.LoopTactic
import Derived.Deep.QuietTactic
import Derived.BigQuiet
import Derived.BigRegion
import Derived.Laws.EntriesVeiled
import Derived.Laws.Rows
import Derived.KernelRfl
import Derived.Test.YtoeiaimoppmjdaaDoorWMore
import Derived.Test.YtoeiaimoppmjdaaDoorMem
import Derived.OwnWalk
import Derived.Deep.AppendLies
import Derived.Deep.RegionLaw
import Derived.Deep.RegionLawGrows
import Derived.Test.YtoeiaimoppmjdaaDoorZm2
import Derived.Deep.DeepCutAuto
/- Contracts of the package pace: a pace is a block of cap, left, gap and what the next tick does. -/
namespace Go.Proofs.YtoeiaimoppmjdaaDoor.Pace
open Go.RowKit
set_option linter.unusedVariables false
set_option linter.unusedSimpArgs false
abbrev ptr (g : Nat) : Value := .pointer (some ⟨g, 0, none⟩)
/-- What the next tick does: send (it is time) or wait. -/
def nxt (g : Nat) (s : Bool) : Value := .func (.func (if s = true then 104 else 107)) #[ptr g] #[]
def IsP (w : World) (g : Nat) (cap left gap : Int) (s : Bool) : Prop := w.heap[g]? = some (.cells #[.int .i64 cap, .int .i64 left, .int .i64 gap, nxt g s] 135 (0, 0))
theorem IsP.cell {w : World} {g : Nat} {cap left gap : Int} {s : Bool} (h : IsP w g cap left gap s) (i : Nat) : w.cell? ⟨g, i, none⟩ = (#[Value.int .i64 cap, .int .i64 left, .int .i64 gap, nxt g s])[i]? := cell_of_row w g i _ 135 (0, 0) h
theorem IsP.frozen {w : World} {g : Nat} {cap left gap : Int} {s : Bool} (h : IsP w g cap left gap s) (i : Nat) : w.frozen? ⟨g, i, none⟩ = false := by
  unfold IsP at h; simp [World.frozen?, h]
theorem IsP.lt {w : World} {g : Nat} {cap left gap : Int} {s : Bool} (h : IsP w g cap left gap s) : g < w.heap.size := (Array.getElem?_eq_some_iff.1 h).1
theorem IsP.set1 {w : World} {g : Nat} {cap left gap : Int} {s : Bool} (h : IsP w g cap left gap s) (x : Int) : IsP (w.setCell ⟨g, 1, none⟩ (.int .i64 x)) g cap x gap s := by
  unfold IsP at *; simp [World.setCell, Array.getElem?_modify, h]
theorem IsP.set2 {w : World} {g : Nat} {cap left gap : Int} {s : Bool} (h : IsP w g cap left gap s) (x : Int) : IsP (w.setCell ⟨g, 2, none⟩ (.int .i64 x)) g cap left x s := by
  unfold IsP at *; simp [World.setCell, Array.getElem?_modify, h]
theorem IsP.set3 {w : World} {g : Nat} {cap left gap : Int} {s : Bool} (h : IsP w g cap left gap s) (x : Bool) : IsP (w.setCell ⟨g, 3, none⟩ (nxt g x)) g cap left gap x := by
  unfold IsP at *; simp [World.setCell, Array.getElem?_modify, h]
/-- Only block g has turned. -/
theorem only_refl (w : World) (g : Nat) : w.grownBy w (some g) := ⟨rfl, rfl, rfl, Nat.le_refl _, fun _ _ _ => rfl⟩
theorem only_set {a w : World} {g : Nat} (h : a.grownBy w (some g)) (i : Nat) (u : Value) : a.grownBy (w.setCell ⟨g, i, none⟩ u) (some g) :=
  ⟨h.os, h.tape, h.output, by simpa [World.setCell] using h.size, fun k hk hne => (Below.heap_setCell w ⟨g, i, none⟩ u k (by rintro rfl; exact hne rfl)).trans (h.block k hk hne)⟩
theorem only_drew {a w : World} {g : Nat} (h : a.grownBy w (some g)) : a.grownBy w.drew (some g) := ⟨h.os, h.tape, h.output, h.size, h.block⟩
theorem only_drewN {a w : World} {g : Nat} (h : a.grownBy w (some g)) (n : Nat) : a.grownBy (w.drewN n) (some g) := ⟨h.os, h.tape, h.output, h.size, h.block⟩

theorem wait_calls (g : Nat) (cap left gap : Int) (s : Bool) (w : World) (h : IsP w g cap left gap s) (h0 : 1 ≤ left) (h1 : left ≤ 64) :
    Calls Tryd.prog 107 #[ptr g] w fun e w' => e = .returned (.bool false) ∧ IsP w' g cap (left - 1) gap (if left = 2 then true else s) ∧ w.grownBy w' (some g) := by
  have c1 : w.cell? ⟨g, 1, none⟩ = some (.int .i64 left) := h.cell 1
  have c3 : w.cell? ⟨g, 3, none⟩ = some (nxt g s) := h.cell 3
  have f1 := h.frozen 1
  have f3 := h.frozen 3
  have H := Lib.hid h
  clear h
  by_cases hl : left = 2
  · subst hl
    go_enter Tryd.func107, Tryd.ntmps107
    go_wp2
    go_ret
    exact ⟨rfl, (H.out.set1 1).set3 true, only_set (only_set (only_refl _ _) _ _) _ _⟩
  · have hb : (left - 1 == 1) = false := by rw [beq_eq_false_iff_ne]; omega
    rw [if_neg hl]
    go_enter Tryd.func107, Tryd.ntmps107
    go_wp2
    go_ret
    exact ⟨rfl, H.out.set1 _, only_set (only_refl _ _) _ _⟩

theorem IsP.world {w w' : World} {g : Nat} {cap left gap : Int} {s : Bool} (h : IsP w g cap left gap s) (hw : w'.heap[g]? = w.heap[g]?) : IsP w' g cap left gap s := hw.trans h
section
attribute [local go_sem] Go.Proofs.YtoeiaimoppmjdaaDoorW.PrintMore.max2_int Go.Proofs.YtoeiaimoppmjdaaDoorW.PrintMore.min2_int Go.Proofs.YtoeiaimoppmjdaaDoorW.PrintMore.max_two Go.Proofs.YtoeiaimoppmjdaaDoorW.PrintMore.min_two
set_option maxHeartbeats 3200000 in
theorem send_calls (g : Nat) (cap left gap gap' : Int) (s : Bool) (w : World) (h : IsP w g cap left gap s) (h0 : 1 ≤ gap) (h1 : gap ≤ 64) (hg : gap' = if cap < 2 * gap then cap else 2 * gap) :
    Calls Tryd.prog 104 #[ptr g] w fun e w' => e = .returned (.bool true) ∧ IsP w' g cap gap gap' (if 1 < gap then false else s) ∧ w.grownBy w' (some g) := by
  have c0 : w.cell? ⟨g, 0, none⟩ = some (.int .i64 cap) := h.cell 0
  have c1 : w.cell? ⟨g, 1, none⟩ = some (.int .i64 left) := h.cell 1
  have c2 : w.cell? ⟨g, 2, none⟩ = some (.int .i64 gap) := h.cell 2
  have c3 : w.cell? ⟨g, 3, none⟩ = some (nxt g s) := h.cell 3
  have f1 := h.frozen 1
  have f2 := h.frozen 2
  have f3 := h.frozen 3
  have H := Lib.hid h
  clear h
  have e2 : IntKind.i64.wrap (2 * gap) = 2 * gap := by rw [IntKind.wrap_i64]; omega
  by_cases hc : cap < 2 * gap
  · rw [if_pos hc] at hg
    subst hg
    by_cases hb : 1 < gap
    · skip
      have hb' : decide (1 < gap) = true := decide_eq_true hb
      rw [if_pos hb]
      go_enter Tryd.func104, Tryd.ntmps104
      go_wp2_with fail
      go_region
      go_wp2
      go_ret
      exact ⟨rfl, ((H.out.set1 gap).set2 _).set3 false, only_drew (only_set (only_set (only_set (only_refl _ _) _ _) _ _) _ _)⟩
    · skip
      have hb' : decide (1 < gap) = false := decide_eq_false hb
      rw [if_neg hb]
      go_enter Tryd.func104, Tryd.ntmps104
      go_wp2_with fail
      go_region
      go_wp2
      go_ret
      exact ⟨rfl, (H.out.set1 gap).set2 _, only_drew (only_set (only_set (only_refl _ _) _ _) _ _)⟩
  · rw [if_neg hc] at hg
    subst hg
    by_cases hb : 1 < gap
    · skip
      have hb' : decide (1 < gap) = true := decide_eq_true hb
      rw [if_pos hb]
      go_enter Tryd.func104, Tryd.ntmps104
      go_wp2_with fail
      go_region
      go_wp2
      go_ret
      exact ⟨rfl, ((H.out.set1 gap).set2 _).set3 false, only_drew (only_set (only_set (only_set (only_refl _ _) _ _) _ _) _ _)⟩
    · skip
      have hb' : decide (1 < gap) = false := decide_eq_false hb
      rw [if_neg hb]
      go_enter Tryd.func104, Tryd.ntmps104
      go_wp2_with fail
      go_region
      go_wp2
      go_ret
      exact ⟨rfl, (H.out.set1 gap).set2 _, only_drew (only_set (only_set (only_refl _ _) _ _) _ _)⟩
end
/-- The pace's own order: behind send it waits just where left is above 1. -/
structure IsO (w : World) (g : Nat) (cap left gap : Int) : Prop where
  p : IsP w g cap left gap (decide (left ≤ 1))
  c : 1 ≤ cap ∧ cap ≤ 64
  g : 1 ≤ gap ∧ gap ≤ cap
  l : 0 ≤ left ∧ left ≤ cap
def dbl (cap gap : Int) : Int := if cap < 2 * gap then cap else 2 * gap
theorem dbl_range (cap gap : Int) (hc : 1 ≤ cap ∧ cap ≤ 64) (hg : 1 ≤ gap ∧ gap ≤ cap) : 1 ≤ dbl cap gap ∧ dbl cap gap ≤ cap := by unfold dbl; split <;> omega
theorem tick_yes (g : Nat) (cap left gap : Int) (w : World) (h : IsO w g cap left gap) (hl : left ≤ 1) :
    Calls Tryd.prog 96 #[ptr g] w fun e w' => e = .returned (.bool true) ∧ IsO w' g cap gap (dbl cap gap) ∧ w.grownBy w' (some g) := by
  have hp := h.p
  have hd : decide (left ≤ 1) = true := decide_eq_true hl
  rw [hd] at hp
  have c3 : w.cell? ⟨g, 3, none⟩ = some (.func (.func 104) #[ptr g] #[]) := hp.cell 3
  have C := Lib.hid (send_calls g cap left gap (dbl cap gap) true w hp h.g.1 (by have := h.g; have := h.c; omega) rfl)
  have H := Lib.hid h
  clear h hp hd
  go_enter Tryd.func96, Tryd.ntmps96
  go_wp2_with (go_at_call 104; refine C.out.mono ?_; rintro e w' ⟨rfl, hi, hw⟩; have HI := Lib.hid hi; have HWW := Lib.hid hw; clear hi hw)
  go_ret
  have hh := H.out
  refine ⟨rfl, ⟨?_, hh.c, dbl_range _ _ hh.c hh.g, by have := hh.g; omega⟩, HWW.out⟩
  have := HI.out
  by_cases hb : 1 < gap
  · rw [if_pos hb] at this; rw [decide_eq_false (by omega)]; exact this
  · rw [if_neg hb] at this; rw [decide_eq_true (by omega)]; exact this
theorem tick_no (g : Nat) (cap left gap : Int) (w : World) (h : IsO w g cap left gap) (hl : 1 < left) :
    Calls Tryd.prog 96 #[ptr g] w fun e w' => e = .returned (.bool false) ∧ IsO w' g cap (left - 1) gap ∧ w.grownBy w' (some g) := by
  have hp := h.p
  have hd : decide (left ≤ 1) = false := decide_eq_false (by omega)
  rw [hd] at hp
  have c3 : w.cell? ⟨g, 3, none⟩ = some (.func (.func 107) #[ptr g] #[]) := hp.cell 3
  have C := Lib.hid (wait_calls g cap left gap false w hp (by omega) (by have := h.l; have := h.c; omega))
  have H := Lib.hid h
  clear h hp hd
  go_enter Tryd.func96, Tryd.ntmps96
  go_wp2_with (go_at_call 107; refine C.out.mono ?_; rintro e w' ⟨rfl, hi, hw⟩; have HI := Lib.hid hi; have HWW := Lib.hid hw; clear hi hw)
  go_ret
  have hh := H.out
  refine ⟨rfl, ⟨?_, hh.c, hh.g, by have := hh.l; omega⟩, HWW.out⟩
  have := HI.out
  by_cases hb : left = 2
  · rw [if_pos hb] at this; rw [decide_eq_true (by omega)]; exact this
  · rw [if_neg hb] at this; rw [decide_eq_false (by omega)]; exact this
theorem new_no (most : Int) (w : World) (h : most < 1 ∨ 64 < most) : Calls Tryd.prog 90 #[.int .i64 most] w fun e w' => e = .returned (.tuple #[.pointer none, .int .i64 70]) ∧ w = w' := by
  rcases h with h | h
  · have d : decide (most < 1) = true := decide_eq_true h
    clear h
    go_enter Tryd.func90, Tryd.ntmps90
    go_wp2
    go_ret2
    exact ⟨rfl, rfl⟩
  · have d : decide (most < 1) = false := decide_eq_false (by omega)
    have d2 : decide (64 < most) = true := decide_eq_true h
    clear h
    go_enter Tryd.func90, Tryd.ntmps90
    go_wp2
    go_ret2
    exact ⟨rfl, rfl⟩
theorem new_yes (most : Int) (w : World) (h : 1 ≤ most ∧ most ≤ 64) : Calls Tryd.prog 90 #[.int .i64 most] w fun e w' => e = .returned (.tuple #[ptr w.heap.size, .int .i64 0]) ∧ IsO w' w.heap.size most 0 1 ∧ Below w.heap.size w w' := by
  have d : decide (most < 1) = false := decide_eq_false (by omega)
  have d2 : decide (64 < most) = false := decide_eq_false (by omega)
  go_enter Tryd.func90, Tryd.ntmps90
  go_wp2
  go_ret2
  refine ⟨rfl, ⟨?_, h, by omega, by omega⟩, ?_⟩
  · exact heap_alloc_new w _
  · exact (Below.refl _ _).alloc (Nat.le_refl _) _
theorem reset_calls (g : Nat) (cap left gap : Int) (w : World) (h : IsO w g cap left gap) :
    Calls Tryd.prog 91 #[ptr g] w fun e w' => e = .returned (.tuple #[]) ∧ IsO w' g cap 0 1 ∧ w.grownBy w' (some g) := by
  have hp := h.p
  have c1 : w.cell? ⟨g, 1, none⟩ = some (.int .i64 left) := hp.cell 1
  have c2 : w.cell? ⟨g, 2, none⟩ = some (.int .i64 gap) := hp.cell 2
  have c3 : w.cell? ⟨g, 3, none⟩ = some (nxt g (decide (left ≤ 1))) := hp.cell 3
  have f1 := hp.frozen 1
  have f2 := hp.frozen 2
  have f3 := hp.frozen 3
  have H := Lib.hid h
  clear h hp
  go_enter Tryd.func91, Tryd.ntmps91
  go_wp2
  go_end0
  have hh := H.out
  refine ⟨rfl, ⟨((hh.p.set1 0).set2 1).set3 true, hh.c, by have := hh.c; omega, by have := hh.c; omega⟩, only_set (only_set (only_set (only_refl _ _) _ _) _ _) _ _⟩
end Go.Proofs.YtoeiaimoppmjdaaDoor.Pace
/- append to a row of one's own, by what it comes to. -/
namespace Go.Proofs.YtoeiaimoppmjdaaDoor.App
open Go.RowKit Go.Proofs.YtoeiaimoppmjdaaDoorW.PrintWords Go.Proofs.YtoeiaimoppmjdaaDoor.Mem
set_option linter.unusedVariables false
set_option linter.unusedSimpArgs false
theorem infoL : (Tryd.prog.info? 22).map (fun i => (i.zero, i.size, i.bytes)) = some (some (.slice none 0 0), 1, 24) := by kernel_rfl
/-- One more element behind a row of one's own. -/
theorem row_append {P : Program} {w0 W : World} {R : List Ent} {v : Value} {e : TypeId} {n : Nat} {xs : List Value} (h : St w0 W (rowE v e 1 n xs ++ R)) (hV : rowV v 1 n xs) (t ty : TypeId) (z : Value) (bytes : Nat) (ht : P.underlying t = some (.slice e)) (hinfo : (P.info? e).map (fun i => (i.zero, i.size, i.bytes)) = some (some z, 1, bytes)) (hz : z.cells.size = 1)
    (hl : (n + 1) * bytes ≤ 140737488355328) (hl2 : n + 1 ≤ 140737488355328) (ad : Addr) (c1 : Nat) (u : Value) (hx : W.cell? ad = some u) (hu : u.oneCell' = true) :
    ∃ (v' : Value) (W' : World), (Builtin.append_ #[t, t] ty #[v, .slice (some ad) 1 c1]).run P W = .ok v' W' ∧ St w0 W' (rowE v' e 1 (n + 1) (xs ++ [u]) ++ R) ∧ rowV v' 1 (n + 1) (xs ++ [u]) := by
  obtain ⟨i0, hi, hzz⟩ := Option.map_eq_some_iff.1 hinfo
  simp only [Prod.mk.injEq] at hzz
  obtain ⟨hz0, hz1, hz2⟩ := hzz
  have hnews : ∀ j w, [u][j]? = some w → W.cell? (ad.add j) = some w := by
    intro j w hw
    have : j = 0 := by
      rcases Nat.eq_zero_or_pos j with h0 | h0
      · exact h0
      · rw [List.getElem?_eq_none (by simp; omega)] at hw; cases hw
    subst this
    simp at hw
    have e : ad.add 0 = ad := by unfold Addr.add; split <;> first | rfl | (rename_i h0; exact absurd rfl h0)
    rw [e, hx, hw]
  obtain ⟨v1, w1, hr, h2, h3, _, h5⟩ := run_append_own_at (P := P) W w0.heap.size t ty e i0 z 1 bytes ht hi hz0 hz1 hz2 hz (by omega) v n xs (h.own hV) ad 1 c1 [u] (by simp) hnews
    (by intro q hq; simp at hq; subst hq; exact hu) (by simp only [maxLen]; omega) hl h.bl.size
  obtain ⟨k1, k2⟩ := h.grown hV h3 h2 (by
    rcases h5 with h5 | h5
    · exact .inl h5
    · right; intro k hk; rw [h5] at hk; injection hk with hk; omega)
  exact ⟨v1, w1, hr, k1, k2⟩
section
variable {P : Program}
/-- append at a list of operations, by what it comes to. -/
theorem wpList_append_run {ops : Array Oper} {rest : List Oper} {o : Oper} {a : Act} {W : World} {Q : Exit → Act → World → Prop} (hgd : o.guard = none) (s x : Operand) (t : TypeId)
    (ho : o.op = .call { callee := .builtin .append, args := #[s, x], argTypes := #[t, t] }) (v y v' : Value) (W' : World) (hs : a.eval s = v) (hx : a.eval x = y) (hr : (Builtin.append_ #[t, t] o.type #[v, y]).run P W = .ok v' W') (h : wpList P ops Q rest (a.put o.dst v') W') :
    wpList P ops Q (o :: rest) a W :=
  wpList_plain hgd fun K hK => by
    unfold Oper.wp execOp
    simp only [ho, resolve, invoke, builtin, Sem.run_bind, Sem.run_pure, Result.andThen_ok, List.map_toArray, List.map_cons, List.map_nil, hs, hx, hr]
    exact hK _ _ h
theorem step_append_run {ops : Array Oper} {o : Oper} {a : Act} {W : World} {K : Act → World → Prop} {Q : Exit → Act → World → Prop} {E : Prop} (hgd : o.guard = none) (s x : Operand) (t : TypeId)
    (ho : o.op = .call { callee := .builtin .append, args := #[s, x], argTypes := #[t, t] }) (v y v' : Value) (W' : World) (hs : a.eval s = v) (hx : a.eval x = y) (hr : (Builtin.append_ #[t, t] o.type #[v, y]).run P W = .ok v' W') (h : K (a.put o.dst v') W') :
    if Region.wanted o (yielded ops a.tmps) = true then Oper.wp P o a W K Q else E := by
  have hw : Region.wanted o (yielded ops a.tmps) = true := by simp [Region.wanted, hgd]
  rw [if_pos hw]
  unfold Oper.wp execOp
  simp only [ho, resolve, invoke, builtin, Sem.run_bind, Sem.run_pure, Result.andThen_ok, List.map_toArray, List.map_cons, List.map_nil, hs, hx, hr]
  exact h
end
end Go.Proofs.YtoeiaimoppmjdaaDoor.App
/- A row of one's own that begins anywhere in its block: what is left when its first ones have gone. -/
namespace Go.Proofs.YtoeiaimoppmjdaaDoor.App
open Go.RowKit Go.Proofs.YtoeiaimoppmjdaaDoorW.PrintWords Go.Proofs.YtoeiaimoppmjdaaDoor.Mem
set_option linter.unusedVariables false
set_option linter.unusedSimpArgs false
def oP (off cap : Nat) (e : TypeId) (n : Nat) (xs : List Value) (o : Obj) : Prop := ∃ cur : Array Value, o = .cells cur e (0, 0) ∧ off + cap ≤ cur.size ∧ (cur.toList.drop off).take n = xs
def oE (v : Value) (e : TypeId) (n : Nat) (xs : List Value) : List Ent :=
  match v with
  | .slice (some ad) _ cap => [(ad.block, oP ad.off cap e n xs)]
  | _ => []
def oV (v : Value) (n : Nat) (xs : List Value) : Prop := xs.length = n ∧ ((v = .slice none 0 0 ∧ n = 0) ∨ ∃ g off cap, v = .slice (some ⟨g, off, none⟩) n cap ∧ n ≤ cap ∧ cap ≤ maxLen)
theorem oE_nil (e : TypeId) (n : Nat) (xs : List Value) : oE (.slice none 0 0) e n xs = [] := rfl
theorem oV_nil : oV (.slice none 0 0) 0 [] := ⟨rfl, .inl ⟨rfl, rfl⟩⟩
theorem oV_form {v : Value} {n : Nat} {xs : List Value} (h : oV v n xs) : ∃ A c, v = .slice A n c := by
  rcases h.2 with ⟨rfl, rfl⟩ | ⟨g, off, cap, rfl, _⟩
  · exact ⟨none, 0, rfl⟩
  · exact ⟨_, _, rfl⟩
theorem mem_o (g off m cap : Nat) (e : TypeId) (n : Nat) (xs : List Value) : (g, oP off cap e n xs) ∈ oE (.slice (some ⟨g, off, none⟩) m cap) e n xs := List.mem_singleton.2 rfl
/-- A row that begins where its block does is such a one. -/
theorem o_of_row {w0 W : World} {R : List Ent} {v : Value} {e : TypeId} {n : Nat} {xs : List Value} (h : St w0 W (rowE v e 1 n xs ++ R)) (hV : rowV v 1 n xs) : St w0 W (oE v e n xs ++ R) ∧ oV v n xs := by
  have hl : xs.length = n := by rw [hV.1]; omega
  rcases hV.2 with ⟨rfl, h0⟩ | ⟨g, cap, rfl, h1, h2⟩
  · exact ⟨by simpa [oE, rowE] using h, hl, .inl ⟨rfl, h0⟩⟩
  · refine ⟨?_, hl, .inr ⟨g, 0, cap, rfl, h1, h2⟩⟩
    exact St.weak (P := rowP cap e 1 n xs) h (fun o ⟨cur, e1, e2, e3⟩ => ⟨cur, e1, by show 0 + cap ≤ _; omega, by simpa using e3⟩)
theorem o_blk {w0 W : World} {R : List Ent} {g off m cap n : Nat} {e : TypeId} {xs : List Value} (h : St w0 W (oE (.slice (some ⟨g, off, none⟩) m cap) e n xs ++ R)) :
    ∃ cur : Array Value, W.heap[g]? = some (.cells cur e (0, 0)) ∧ off + cap ≤ cur.size ∧ (cur.toList.drop off).take n = xs := by
  obtain ⟨o, ho, cur, rfl, h1, h2⟩ := h.has _ (List.mem_append_left _ (mem_o g off m cap e n xs))
  exact ⟨cur, ho, h1, h2⟩
/-- What stands in it. -/
theorem o_at {w0 W : World} {R : List Ent} {g off m cap n : Nat} {e : TypeId} {xs : List Value} (h : St w0 W (oE (.slice (some ⟨g, off, none⟩) m cap) e n xs ++ R)) (hn : xs.length = n) (j : Nat) (hj : j < n) : W.cell? ⟨g, off + j, none⟩ = xs[j]? := by
  obtain ⟨cur, hg, h1, h2⟩ := o_blk h
  rw [cell_of_row W g (off + j) cur e (0, 0) hg, ← h2, List.getElem?_take_of_lt hj, List.getElem?_drop]
  simp
/-- Its first one goes. -/
theorem o_cut {w0 W : World} {R : List Ent} {g off cap n : Nat} {e : TypeId} {x : Value} {xs : List Value} (h : St w0 W (oE (.slice (some ⟨g, off, none⟩) (n + 1) cap) e (n + 1) (x :: xs) ++ R)) (hV : oV (.slice (some ⟨g, off, none⟩) (n + 1) cap) (n + 1) (x :: xs)) :
    St w0 W (oE (.slice (if cap = 1 then some ⟨g, off, none⟩ else some ⟨g, off + 1, none⟩) n (cap - 1)) e n xs ++ R) ∧ oV (.slice (if cap = 1 then some ⟨g, off, none⟩ else some ⟨g, off + 1, none⟩) n (cap - 1)) n xs := by
  have hl : xs.length = n := by have := hV.1; simp at this; exact this
  have hc : n + 1 ≤ cap ∧ cap ≤ maxLen := by
    rcases hV.2 with ⟨h1, _⟩ | ⟨_, _, _, h1, h2, h3⟩
    · cases h1
    · injection h1 with _ _ h1; subst h1; exact ⟨h2, h3⟩
  by_cases h1 : cap = 1
  · subst h1
    obtain rfl : n = 0 := by omega
    obtain rfl : xs = [] := List.eq_nil_of_length_eq_zero hl
    rw [if_pos rfl]
    refine ⟨St.weak (P := oP off 1 e 1 [x]) h (fun o ⟨cur, e1, e2, e3⟩ => ⟨cur, e1, by show off + 0 ≤ _; omega, by simp⟩), rfl, .inr ⟨g, off, 0, rfl, Nat.le_refl _, Nat.zero_le _⟩⟩
  · rw [if_neg h1]
    refine ⟨St.weak (P := oP off cap e (n + 1) (x :: xs)) h (fun o ⟨cur, e1, e2, e3⟩ => ⟨cur, e1, by show off + 1 + (cap - 1) ≤ _; omega, ?_⟩), hl, .inr ⟨g, off + 1, cap - 1, rfl, by omega, by omega⟩⟩
    show (cur.toList.drop (off + 1)).take n = xs
    rw [← List.drop_drop]
    have h4 : cur.toList.drop off = x :: ((cur.toList.drop off).drop 1) := by
      cases e5 : cur.toList.drop off with
      | nil => rw [e5] at e3; simp at e3
      | cons a l => rw [e5] at e3; simp at e3; rw [e3.1]; rfl
    rw [h4] at e3
    simpa using e3
/-- One more element behind it. -/
theorem o_append {P : Program} {w0 W : World} {R : List Ent} {v : Value} {e : TypeId} {n : Nat} {xs : List Value} (h : St w0 W (oE v e n xs ++ R)) (hV : oV v n xs) (t ty : TypeId) (z : Value) (bytes : Nat) (ht : P.underlying t = some (.slice e)) (hinfo : (P.info? e).map (fun i => (i.zero, i.size, i.bytes)) = some (some z, 1, bytes)) (hz : z.cells.size = 1)
    (hl : (n + 1) * bytes ≤ 140737488355328) (hl2 : n + 1 ≤ 140737488355328) (ad : Addr) (c1 : Nat) (u : Value) (hx : W.cell? ad = some u) (hu : u.oneCell' = true) :
    ∃ (v' : Value) (W' : World), (Builtin.append_ #[t, t] ty #[v, .slice (some ad) 1 c1]).run P W = .ok v' W' ∧ St w0 W' (oE v' e (n + 1) (xs ++ [u]) ++ R) ∧ oV v' (n + 1) (xs ++ [u]) := by
  have hlen := hV.1
  rcases hV.2 with ⟨rfl, rfl⟩ | ⟨g, off, cap, rfl, hc1, hc2⟩
  · obtain rfl : xs = [] := List.eq_nil_of_length_eq_zero hlen
    obtain ⟨v', W', hr, h1, h2⟩ := row_append (P := P) (xs := []) (v := .slice none 0 0) (n := 0) (e := e) (by simpa [oE, rowE] using h) (rowV_nil 1) t ty z bytes ht hinfo hz hl hl2 ad c1 u hx hu
    obtain ⟨k1, k2⟩ := o_of_row h1 h2
    exact ⟨v', W', hr, k1, k2⟩
  obtain ⟨i0, hi, hzz⟩ := Option.map_eq_some_iff.1 hinfo
  simp only [Prod.mk.injEq] at hzz
  obtain ⟨hz0, hz1, hz2⟩ := hzz
  have hnews : ∀ j w, [u][j]? = some w → W.cell? (ad.add j) = some w := by
    intro j w hw
    have : j = 0 := by
      rcases Nat.eq_zero_or_pos j with h0 | h0
      · exact h0
      · rw [List.getElem?_eq_none (by simp; omega)] at hw; cases hw
    subst this
    simp at hw
    have e : ad.add 0 = ad := by unfold Addr.add; split <;> first | rfl | (rename_i h0; exact absurd rfl h0)
    rw [e, hx, hw]
  obtain ⟨cur, hg, q1, q2⟩ := o_blk h
  by_cases hroom : n + 1 ≤ cap
  · have hrun := run_append_room_cells (P := P) W t ty e i0 ht hi g off n cap ad 1 c1 [u] (by rw [hz1]; rfl) hnews (by intro q hq; simp at hq; subst hq; exact hu) hroom
      (fun j hj => by
        have : j = 0 := by simp at hj; exact hj
        subst this
        rw [hz1, cell_of_row W g _ cur e (0, 0) hg, Array.getElem?_eq_getElem (by omega)]; rfl)
      (fun j hj => blk_frozen hg _)
    rw [hz1, Nat.mul_one] at hrun
    refine ⟨_, _, hrun, ?_, by simp [hlen], .inr ⟨g, off, cap, rfl, hroom, hc2⟩⟩
    show St w0 (W.setCell ⟨g, off + n, none⟩ u) _
    have hge := h.ge _ (List.mem_append_left _ (mem_o g off n cap e n xs))
    refine h.step (h.bl.setCell hge u) (by simp [World.setCell]) (fun k hk hne => Below.heap_setCell W _ u k (fun e1 => hne _ (mem_o g off n cap e n xs) e1.symm)) (by simp [oE]) (fun p hp => ?_) (fun p hp => .inl ⟨_, mem_o g off n cap e n xs, ?_⟩)
    · simp [oE] at hp
      subst hp
      refine ⟨_, blk_put hg (off + n) u rfl, _, rfl, by simpa using q1, ?_⟩
      have hn2 : off + n < cur.size := by omega
      simp only [Array.toList_setIfInBounds]
      rw [← q2]
      have e1 : ((cur.toList.set (off + n) u).drop off) = (cur.toList.drop off).set n u := by
        rw [List.drop_set, if_neg (by omega)]; simp
      rw [e1]
      have e2 : n < (cur.toList.drop off).length := by simp; omega
      rw [List.take_succ_eq_append_getElem (by simpa using e2), List.take_set_of_le (Nat.le_refl _)]
      simp
    · simp [oE] at hp; subst hp; rfl
  · obtain rfl : n = cap := by omega
    obtain ⟨v', W', hrun, r1, r2⟩ := run_append_arg_grows (P := P) W t ty e i0 z 1 bytes ht hi hz0 hz1 hz2 hz (by omega) ⟨g, off, none⟩ n n xs (by omega)
      (fun j w hw => by
        have hj : j < n := by
          rcases Nat.lt_or_ge j n with h0 | h0
          · exact h0
          · rw [List.getElem?_eq_none (by omega)] at hw; cases hw
        have := o_at h hlen j hj
        rw [hw] at this
        rw [← this]
        simp [Addr.add]; split <;> first | rfl | simp_all)
      ad 1 c1 [u] (by simp) hnews (by omega) (by simp only [maxLen]; omega) hl
    have hb : Below W.heap.size W W' := (Below.refl _ _).grown r2 (Nat.le_refl _) (fun k hk => by cases hk)
    obtain ⟨k1, k2⟩ := (St.tail h).fresh hb r1
    obtain ⟨j1, j2⟩ := o_of_row k1 k2
    exact ⟨v', W', hrun, j1, j2⟩
end Go.Proofs.YtoeiaimoppmjdaaDoor.App
/- A link in memory; New, Known, Len, Life, Owe. -/
namespace Go.Proofs.YtoeiaimoppmjdaaDoor.Lk
open Go.RowKit Go.Proofs.YtoeiaimoppmjdaaDoorW.PrintWords Go.Proofs.YtoeiaimoppmjdaaDoor.Mem Go.Proofs.YtoeiaimoppmjdaaDoor.Wr Go.Proofs.YtoeiaimoppmjdaaDoor.Bytes
open Go.Proofs.YtoeiaimoppmjdaaDoor.App (oE oV oE_nil oV_nil oV_form)
open Go.Proofs.YtoeiaimoppmjdaaDoor.Pace (nxt IsP IsO dbl dbl_range new_yes new_no tick_yes tick_no reset_calls)
set_option linter.unusedVariables false
set_option linter.unusedSimpArgs false
/-- A body in the row: its value, its bytes. -/
abbrev BI := Value × List Int
/-- What a link is. -/
structure LS where
  me : Int
  other : Int
  life : Nat
  known : Nat
  window : Int
  iv : Value
  items : List BI
  gone : Nat
  out : Nat
  heard : Nat
  gp : Nat
  cap : Int
  left : Int
  gap : Int
  ack : Bool
  asked : Bool
  word : Bool
def lkC (s : LS) : Array Value := #[.int .i64 s.me, .int .i64 s.other, .int .u64 (s.life : Int), .int .u64 (s.known : Int), .int .i64 s.window, s.iv, .int .u64 (s.gone : Int), .int .u64 (s.out : Int), .int .u64 (s.heard : Int), pt s.gp, .bool s.ack, .bool s.asked, .bool s.word]
def pcC (s : LS) : Array Value := #[.int .i64 s.cap, .int .i64 s.left, .int .i64 s.gap, nxt s.gp (decide (s.left ≤ 1))]
def itemsE (s : LS) : List Ent := oE s.iv 22 s.items.length (s.items.map fun i => i.1) ++ s.items.flatMap fun i => byR i.1 i.2
def lkE (g : Nat) (s : LS) : List Ent := B g (lkC s) 128 :: (B s.gp (pcC s) 135 :: itemsE s)
structure LkV (s : LS) : Prop where
  c : 1 ≤ s.cap ∧ s.cap ≤ 64
  g : 1 ≤ s.gap ∧ s.gap ≤ s.cap
  l : 0 ≤ s.left ∧ s.left ≤ s.cap
  row : oV s.iv s.items.length (s.items.map fun i => i.1)
  by_ : ∀ i, i ∈ s.items → byV i.1 i.2 ∧ Byt i.2 ∧ i.2.length ≤ 2048
theorem St.pace {w0 W : World} {R : List Ent} {g : Nat} {s : LS} (h : St w0 W (lkE g s ++ R)) (hV : LkV s) : IsO W s.gp s.cap s.left s.gap :=
  ⟨h.blk (g := s.gp) (cs := pcC s) (t := 135) (by simp [lkE]), hV.c, hV.g, hV.l⟩
/-- Behind a call of the pace. -/
theorem St.paced {w0 W W' : World} {R : List Ent} {g : Nat} {s : LS} {left gap : Int} (h : St w0 W (lkE g s ++ R)) (hV : LkV s) (ho : IsO W' s.gp s.cap left gap) (hg : W.grownBy W' (some s.gp)) :
    St w0 W' (lkE g { s with left := left, gap := gap } ++ R) ∧ LkV { s with left := left, gap := gap } := by
  have h1 : St w0 W (B s.gp (pcC s) 135 :: (B g (lkC s) 128 :: (itemsE s ++ R))) := h.re (fun x => by simp only [lkE, cnt_append, cnt_cons]; omega)
  have hgp := h1.ge _ (List.mem_cons_self ..)
  refine ⟨?_, ⟨hV.c, ho.g, ho.l, hV.row, hV.by_⟩⟩
  have h2 := St.step (F := [B s.gp (pcC s) 135]) (G := [B s.gp (pcC { s with left := left, gap := gap }) 135]) (R := B g (lkC s) 128 :: (itemsE s ++ R)) h1
    (h1.bl.grown hg h1.bl.size (fun k hk => by cases hk; exact hgp)) hg.size (fun k hk hne => hg.block k hk (fun e => hne _ (List.mem_singleton.2 rfl) (by injection e with e; exact e.symm))) (by simp)
    (fun p hp => by obtain rfl := List.mem_singleton.1 hp; exact ⟨_, ho.p, rfl⟩) (fun p hp => .inl ⟨_, List.mem_singleton.2 rfl, by obtain rfl := List.mem_singleton.1 hp; rfl⟩)
  exact h2.re (fun x => by simp only [lkE, lkC, itemsE, cnt_append, cnt_cons, cnt_nil]; omega)
/-- A link that knows nothing. -/
def ls0 (me other : Int) (life : Nat) (window : Int) (gp : Nat) (cap : Int) : LS := ⟨me, other, life, 0, window, NL, [], 0, 0, 0, gp, cap, 0, 1, false, false, true⟩
theorem ls0V (me other : Int) (life : Nat) (window : Int) (gp : Nat) (cap : Int) (h : 1 ≤ cap ∧ cap ≤ 64) : LkV (ls0 me other life window gp cap) :=
  ⟨h, ⟨Int.le_refl _, h.1⟩, ⟨Int.le_refl _, by show 0 ≤ cap; omega⟩, oV_nil, fun i hi => (by cases hi)⟩
set_option maxRecDepth 20000 in
set_option maxHeartbeats 1600000 in
theorem lnew_calls (w0 w : World) (R : List Ent) (me other window cap : Int) (life : Nat) (h : St w0 w R) :
    Calls Tryd.prog 53 #[.int .i64 me, .int .i64 other, .int .u64 (life : Int), .int .i64 window, .int .i64 cap] w fun e w' => ∃ g gp c, e = .returned (pt g) ∧ (1 ≤ c ∧ c ≤ 64) ∧ (1 ≤ cap ∧ cap ≤ 64 → c = cap) ∧ St w0 w' (lkE g (ls0 me other life window gp c) ++ R) := by
  by_cases hc : 1 ≤ cap ∧ cap ≤ 64
  · have CN := Lib.hid (new_yes cap w hc)
    have H := Lib.hid h
    have HC := Lib.hid hc
    clear h hc
    go_enter Tryd.func53, Tryd.ntmps53
    go_wp2_with fail
    refine CN.out.mono ?_; rintro e w1 ⟨rfl, ho, hb⟩
    have h1 : St w0 w1 (B w.heap.size (pcC (ls0 me other life window w.heap.size cap)) 135 :: R) := H.out.made hb (Nat.le_refl _) ho.p rfl
    obtain ⟨gp, hgp⟩ : ∃ gp, gp = w.heap.size := ⟨_, rfl⟩
    rw [← hgp] at h1 ⊢
    have h2 := h1.newB (lkC (ls0 me other life window gp cap)) 128
    have H2 := Lib.hid h2
    clear ho hb h1 h2 hgp
    go_wp2_with fail
    go_ret
    exact ⟨w1.heap.size, gp, cap, rfl, HC.out, fun _ => rfl, H2.out.re (fun x => by simp only [lkE, itemsE, ls0, oE_nil, List.flatMap_nil, List.length_nil, List.map_nil, cnt_append, cnt_cons, cnt_nil]; omega)⟩
  · have hn : cap < 1 ∨ 64 < cap := by omega
    have CN := Lib.hid (new_no cap w hn)
    have CY := fun w' => Lib.hid (new_yes 1 w' (by omega))
    have H := Lib.hid h
    have HC := Lib.hid hc
    clear h hc hn
    go_enter Tryd.func53, Tryd.ntmps53
    go_wp2_with fail
    refine CN.out.mono ?_; rintro e w1 ⟨rfl, rfl⟩
    go_wp2_with fail
    refine (CY w).out.mono ?_; rintro e w1 ⟨rfl, ho, hb⟩
    have h1 : St w0 w1 (B w.heap.size (pcC (ls0 me other life window w.heap.size 1)) 135 :: R) := H.out.made hb (Nat.le_refl _) ho.p rfl
    obtain ⟨gp, hgp⟩ : ∃ gp, gp = w.heap.size := ⟨_, rfl⟩
    rw [← hgp] at h1 ⊢
    have h2 := h1.newB (lkC (ls0 me other life window gp 1)) 128
    have H2 := Lib.hid h2
    clear ho hb h1 h2 hgp
    go_wp2_with fail
    go_ret
    exact ⟨w1.heap.size, gp, 1, rfl, ⟨by omega, by omega⟩, fun h => absurd h HC.out, H2.out.re (fun x => by simp only [lkE, itemsE, ls0, oE_nil, List.flatMap_nil, List.length_nil, List.map_nil, cnt_append, cnt_cons, cnt_nil]; omega)⟩
section
variable {w0 W : World} {R : List Ent} {g : Nat} {s : LS}
theorem lk_cell (h : St w0 W (lkE g s ++ R)) (j : Nat) {v : Value} (hj : (lkC s)[j]? = some v) : W.cell? ⟨g, j, none⟩ = some v := h.cellOf (g := g) (cs := lkC s) (t := 128) (by simp [lkE]) j hj
theorem lk_free (h : St w0 W (lkE g s ++ R)) (j : Nat) : W.frozen? ⟨g, j, none⟩ = false := h.freeOf (g := g) (cs := lkC s) (t := 128) (by simp [lkE]) j
theorem lknown_calls (h : St w0 W (lkE g s ++ R)) : Calls Tryd.prog 83 #[pt g] W fun e w' => e = .returned (.bool (decide (0 < s.known))) ∧ W = w' := by
  have x3 : W.cell? ⟨g, 3, none⟩ = some (.int .u64 (s.known : Int)) := lk_cell h 3 rfl
  clear h
  by_cases hk : 0 < s.known
  · have h1 : (0 : Int) < (s.known : Int) := by omega
    rw [decide_eq_true hk]
    go_enter Tryd.func83, Tryd.ntmps83
    go_wp2_with fail
    go_ret
    exact ⟨rfl, rfl⟩
  · have h1 : s.known = 0 := by omega
    rw [decide_eq_false hk]
    rw [h1] at x3
    clear hk
    go_enter Tryd.func83, Tryd.ntmps83
    go_wp2_with fail
    go_ret
    exact ⟨rfl, rfl⟩
theorem llife_calls (h : St w0 W (lkE g s ++ R)) : Calls Tryd.prog 59 #[pt g] W fun e w' => e = .returned (.int .u64 (s.known : Int)) ∧ W = w' := by
  have x3 := lk_cell h 3 rfl
  clear h
  go_enter Tryd.func59, Tryd.ntmps59
  go_wp2_with fail
  go_ret
  exact ⟨rfl, rfl⟩
theorem llen_calls (h : St w0 W (lkE g s ++ R)) (hV : LkV s) : Calls Tryd.prog 60 #[pt g] W fun e w' => e = .returned (.int .i64 (s.items.length : Int)) ∧ W = w' := by
  have x5 : W.cell? ⟨g, 5, none⟩ = some s.iv := lk_cell h 5 rfl
  obtain ⟨A, c, e⟩ := oV_form hV.row
  rw [e] at x5
  clear h hV e
  go_enter Tryd.func60, Tryd.ntmps60
  go_wp2_with fail
  go_ret
  exact ⟨rfl, rfl⟩
theorem lowe_calls (h : St w0 W (lkE g s ++ R)) : Calls Tryd.prog 51 #[pt g] W fun e w' => e = .returned (.tuple #[]) ∧ St w0 w' (lkE g { s with asked := true } ++ R) := by
  have x := lk_cell h 11 rfl
  have f := lk_free h 11
  have h2 := (h.re (M := B g (lkC s) 128 :: (B s.gp (pcC s) 135 :: (itemsE s ++ R))) (fun x => by simp only [lkE, cnt_append, cnt_cons]; omega)).put (cs' := lkC { s with asked := true }) 11 (.bool true) rfl
  have H := Lib.hid h2
  clear h h2
  go_enter Tryd.func51, Tryd.ntmps51
  go_wp2_with fail
  go_end0
  exact ⟨rfl, H.out.re (fun x => by simp only [lkE, pcC, itemsE, cnt_append, cnt_cons]; omega)⟩
end
end Go.Proofs.YtoeiaimoppmjdaaDoor.Lk
/- Contracts: may a frame be (fit); EncodeFrame. -/
namespace Go.Proofs.YtoeiaimoppmjdaaDoor.Lk
open Go.RowKit Go.Proofs.YtoeiaimoppmjdaaDoorW.PrintWords Go.Proofs.YtoeiaimoppmjdaaDoor.Mem Go.Proofs.YtoeiaimoppmjdaaDoor.Wr Go.Proofs.YtoeiaimoppmjdaaDoor.Bytes Go.Proofs.YtoeiaimoppmjdaaDoor.Crc
set_option linter.unusedVariables false
set_option linter.unusedSimpArgs false
abbrev frC (f : Frm) (A : Option Addr) (c : Nat) : Array Value := #[.int .i64 f.src, .int .i64 f.dst, .int .u64 (f.mine : Int), .int .u64 (f.yours : Int), .int .u64 (f.seq : Int), .int .u64 (f.ack : Int), .slice A f.body.length c]
theorem ends_of {f : Frm} {b : Bool} (h : b = true ↔ (0 ≤ f.src ∧ f.src ≤ 8 ∧ 0 ≤ f.dst ∧ f.dst ≤ 8)) : endsB f = b := by
  rw [Bool.eq_iff_iff, h]; simp [endsB, and_assoc]
theorem lives_of {f : Frm} {b : Bool} (h : b = true ↔ (1 ≤ f.mine ∧ f.mine ≤ 1099511627776 ∧ f.yours ≤ 1099511627776)) : livesB f = b := by
  rw [Bool.eq_iff_iff, h]; simp [livesB, and_assoc]
theorem bool_eq {a b : Bool} (h : b = a) : Value.bool a = Value.bool b := by rw [h]
theorem bool_end {a b : Bool} (h : b = a) : Ending.returned (Value.bool a) = Ending.returned (Value.bool b) := by rw [h]
set_option maxRecDepth 20000 in
set_option maxHeartbeats 3200000 in
theorem fit_calls (f : Frm) (A : Option Addr) (c : Nat) (W : World) : Calls Tryd.prog 84 #[.agg (frC f A c)] W fun e w' => e = .returned (.bool (fitB f)) ∧ Below W.heap.size W w' := by
  obtain ⟨W1, hW1⟩ : ∃ W1, W1 = W.alloc (.cells (frC f A c) 69) := ⟨_, rfl⟩
  obtain ⟨bo, hbo⟩ : ∃ bo, bo = W.heap.size := ⟨_, rfl⟩
  have h1 := (St.start W).newB (frC f A c) 69
  rw [← hW1, ← hbo] at h1
  have x0 := h1.cellOf (g := bo) (cs := frC f A c) (t := 69) (by simp) 0 rfl
  have x1 := h1.cellOf (g := bo) (cs := frC f A c) (t := 69) (by simp) 1 rfl
  have x2 := h1.cellOf (g := bo) (cs := frC f A c) (t := 69) (by simp) 2 rfl
  have x3 := h1.cellOf (g := bo) (cs := frC f A c) (t := 69) (by simp) 3 rfl
  have x4 := h1.cellOf (g := bo) (cs := frC f A c) (t := 69) (by simp) 4 rfl
  have x5 := h1.cellOf (g := bo) (cs := frC f A c) (t := 69) (by simp) 5 rfl
  have x6 := h1.cellOf (g := bo) (cs := frC f A c) (t := 69) (by simp) 6 rfl
  have HB1 := Lib.hid h1.bl
  have HW1 := Lib.hid hW1
  have HBO := Lib.hid hbo
  clear h1 hW1 hbo
  go_enter Tryd.func84, Tryd.ntmps84
  go_upto_region 1 with fail
  rw [← HW1.out, ← HBO.out]
  go_cut [3] (fun s3 wx => s3 = .bool (endsB f) ∧ wx = W1)
  case first =>
    go_wp2_with fail
    all_goals
      go_meet
      refine ⟨?_, rfl⟩
      exact bool_eq (ends_of (f := f) (by simp only [decide_eq_true_eq, Bool.false_eq_true, true_iff, false_iff]; omega))
  case rest =>
    obtain ⟨hs, hw⟩ := hcut
    subst hs
    rw [hw]
    clear hw
    go_upto_region 2 with fail
    go_cut [4] (fun s4 wx => s4 = .bool (livesB f) ∧ wx = W1)
    case first =>
      go_wp2_with fail
      all_goals
        go_meet
        refine ⟨?_, rfl⟩
        exact bool_eq (lives_of (f := f) (by simp only [decide_eq_true_eq, Bool.false_eq_true, true_iff, false_iff]; omega))
    case rest =>
      obtain ⟨hs, hw⟩ := hcut
      subst hs
      rw [hw]
      clear hw
      have hfit : fitB f = (endsB f && livesB f && decide (f.seq ≤ 1099511627776) && decide (f.ack ≤ 1099511627776) && decide (f.body.length ≤ 2048) && (decide (0 < f.seq) || decide (f.body.length = 0))) := rfl
      obtain ⟨be, hbe⟩ : ∃ be, be = endsB f := ⟨_, rfl⟩
      obtain ⟨bl, hbl⟩ : ∃ bl, bl = livesB f := ⟨_, rfl⟩
      rw [← hbe, ← hbl] at hfit
      rw [← hbe, ← hbl]
      have HF := Lib.hid hfit
      clear hfit hbe hbl
      cases be <;> cases bl
      all_goals
        go_wp2_with fail
        all_goals
          go_ret
          refine ⟨bool_end ?_, HB1.out⟩
          rw [HF.out, Bool.eq_iff_iff]
          simp only [Bool.and_eq_true, Bool.or_eq_true, decide_eq_true_eq, beq_iff_eq, Bool.false_and, Bool.and_false, Bool.true_and, Bool.false_eq_true, false_and, true_and, false_iff, true_iff, iff_true, iff_false, not_false_eq_true]
          try omega
end Go.Proofs.YtoeiaimoppmjdaaDoor.Lk
