/- Merged by merge2.py out of the texts: Pace, RowApp, RowO, Link, RegL, LkRow, Send, RWPlain, FrPlain, Enc, HearP. -/
import Derived.Test.YtoeiaimoppmjdaaDoorProg
import Derived.WalkKit
import Derived.WalkSpells
import Derived.WalkLawsBesides
import Derived.Below
import Derived.Outline
import Derived.Lib.Hide
import Derived.LoopTactic
import Derived.Deep.QuietTactic
import Derived.BigQuiet
import Derived.BigRegion
import Derived.Laws.EntriesVeiled
import Derived.Laws.Rows
import Derived.KernelRfl
import Derived.Test.YtoeiaimoppmjdaaDoorTrim
import Derived.Test.YtoeiaimoppmjdaaDoorZu1
import Derived.OwnWalk
import Derived.Deep.AppendLies
import Derived.Deep.RegionLaw
import Derived.Deep.RegionLawGrows
import Derived.OrdersHeld
import Derived.RegionTactic
import Derived.Deep.RegionWith
import Derived.Deep.DeepCutAuto
import Derived.Deep.CutBlock
import Derived.Deep.MidRow
/- Contracts of the package pace: a pace is a block of cap, left, gap and what the next tick does. -/
namespace Go.Proofs.YtoeiaimoppmjdaaDoor.Pace
open Go.RowKit
set_option linter.unusedVariables false
set_option linter.unusedSimpArgs false
abbrev ptr (g : Nat) : Value := .pointer (some ⟨g, 0, none⟩)
/-- What the next tick does: send (it is time) or wait. -/
def nxt (g : Nat) (s : Bool) : Value := .func (.func (if s = true then 104 else 107)) #[ptr g] #[]
def IsP (w : World) (g : Nat) (cap left gap : Int) (s : Bool) : Prop := w.heap[g]? = some (.cells #[.int .i64 cap, .int .i64 left, .int .i64 gap, nxt g s] 135 (0, 0))
theorem IsP.cell {w : World} {g : Nat} {cap left gap : Int} {s : Bool} (h : IsP w g cap left gap s) (i : Nat) : w.cell? ⟨g, i, none⟩ = (#[Value.int .i64 cap, .int .i64 left, .int .i64 gap, nxt g s])[i]? := cell_of_row w g i _ 135 (0, 0) h
theorem IsP.frozen {w : World} {g : Nat} {cap left gap : Int} {s : Bool} (h : IsP w g cap left gap s) (i : Nat) : w.frozen? ⟨g, i, none⟩ = false := by
  unfold IsP at h; simp [World.frozen?, h]
theorem IsP.lt {w : World} {g : Nat} {cap left gap : Int} {s : Bool} (h : IsP w g cap left gap s) : g < w.heap.size := (Array.getElem?_eq_some_iff.1 h).1
theorem IsP.set1 {w : World} {g : Nat} {cap left gap : Int} {s : Bool} (h : IsP w g cap left gap s) (x : Int) : IsP (w.setCell ⟨g, 1, none⟩ (.int .i64 x)) g cap x gap s := by
  unfold IsP at *; simp [World.setCell, Array.getElem?_modify, h]
theorem IsP.set2 {w : World} {g : Nat} {cap left gap : Int} {s : Bool} (h : IsP w g cap left gap s) (x : Int) : IsP (w.setCell ⟨g, 2, none⟩ (.int .i64 x)) g cap left x s := by
  unfold IsP at *; simp [World.setCell, Array.getElem?_modify, h]
theorem IsP.set3 {w : World} {g : Nat} {cap left gap : Int} {s : Bool} (h : IsP w g cap left gap s) (x : Bool) : IsP (w.setCell ⟨g, 3, none⟩ (nxt g x)) g cap left gap x := by
  unfold IsP at *; simp [World.setCell, Array.getElem?_modify, h]
/-- Only block g has turned. -/
theorem only_refl (w : World) (g : Nat) : w.grownBy w (some g) := ⟨rfl, rfl, rfl, Nat.le_refl _, fun _ _ _ => rfl⟩
theorem only_set {a w : World} {g : Nat} (h : a.grownBy w (some g)) (i : Nat) (u : Value) : a.grownBy (w.setCell ⟨g, i, none⟩ u) (some g) :=
  ⟨h.os, h.tape, h.output, by simpa [World.setCell] using h.size, fun k hk hne => (Below.heap_setCell w ⟨g, i, none⟩ u k (by rintro rfl; exact hne rfl)).trans (h.block k hk hne)⟩
theorem only_drew {a w : World} {g : Nat} (h : a.grownBy w (some g)) : a.grownBy w.drew (some g) := ⟨h.os, h.tape, h.output, h.size, h.block⟩
theorem only_drewN {a w : World} {g : Nat} (h : a.grownBy w (some g)) (n : Nat) : a.grownBy (w.drewN n) (some g) := ⟨h.os, h.tape, h.output, h.size, h.block⟩

theorem wait_calls (g : Nat) (cap left gap : Int) (s : Bool) (w : World) (h : IsP w g cap left gap s) (h0 : 1 ≤ left) (h1 : left ≤ 64) :
    Calls Tryd.prog 107 #[ptr g] w fun e w' => e = .returned (.bool false) ∧ IsP w' g cap (left - 1) gap (if left = 2 then true else s) ∧ w.grownBy w' (some g) := by
  have c1 : w.cell? ⟨g, 1, none⟩ = some (.int .i64 left) := h.cell 1
  have c3 : w.cell? ⟨g, 3, none⟩ = some (nxt g s) := h.cell 3
  have f1 := h.frozen 1
  have f3 := h.frozen 3
  have H := Lib.hid h
  clear h
  by_cases hl : left = 2
  · subst hl
    go_enter Tryd.func107, Tryd.ntmps107
    go_wp2
    go_ret
    exact ⟨rfl, (H.out.set1 1).set3 true, only_set (only_set (only_refl _ _) _ _) _ _⟩
  · have hb : (left - 1 == 1) = false := by rw [beq_eq_false_iff_ne]; omega
    rw [if_neg hl]
    go_enter Tryd.func107, Tryd.ntmps107
    go_wp2
    go_ret
    exact ⟨rfl, H.out.set1 _, only_set (only_refl _ _) _ _⟩

theorem IsP.world {w w' : World} {g : Nat} {cap left gap : Int} {s : Bool} (h : IsP w g cap left gap s) (hw : w'.heap[g]? = w.heap[g]?) : IsP w' g cap left gap s := hw.trans h
section
attribute [local go_sem] Go.Proofs.YtoeiaimoppmjdaaDoorW.PrintMore.max2_int Go.Proofs.YtoeiaimoppmjdaaDoorW.PrintMore.min2_int Go.Proofs.YtoeiaimoppmjdaaDoorW.PrintMore.max_two Go.Proofs.YtoeiaimoppmjdaaDoorW.PrintMore.min_two
set_option maxHeartbeats 3200000 in
theorem send_calls (g : Nat) (cap left gap gap' : Int) (s : Bool) (w : World) (h : IsP w g cap left gap s) (h0 : 1 ≤ gap) (h1 : gap ≤ 64) (hg : gap' = if cap < 2 * gap then cap else 2 * gap) :
    Calls Tryd.prog 104 #[ptr g] w fun e w' => e = .returned (.bool true) ∧ IsP w' g cap gap gap' (if 1 < gap then false else s) ∧ w.grownBy w' (some g) := by
  have c0 : w.cell? ⟨g, 0, none⟩ = some (.int .i64 cap) := h.cell 0
  have c1 : w.cell? ⟨g, 1, none⟩ = some (.int .i64 left) := h.cell 1
  have c2 : w.cell? ⟨g, 2, none⟩ = some (.int .i64 gap) := h.cell 2
  have c3 : w.cell? ⟨g, 3, none⟩ = some (nxt g s) := h.cell 3
  have f1 := h.frozen 1
  have f2 := h.frozen 2
  have f3 := h.frozen 3
  have H := Lib.hid h
  clear h
  have e2 : IntKind.i64.wrap (2 * gap) = 2 * gap := by rw [IntKind.wrap_i64]; omega
  by_cases hc : cap < 2 * gap
  · rw [if_pos hc] at hg
    subst hg
    by_cases hb : 1 < gap
    · skip
      have hb' : decide (1 < gap) = true := decide_eq_true hb
      rw [if_pos hb]
      go_enter Tryd.func104, Tryd.ntmps104
      go_wp2_with fail
      go_region
      go_wp2
      go_ret
      exact ⟨rfl, ((H.out.set1 gap).set2 _).set3 false, only_drew (only_set (only_set (only_set (only_refl _ _) _ _) _ _) _ _)⟩
    · skip
      have hb' : decide (1 < gap) = false := decide_eq_false hb
      rw [if_neg hb]
      go_enter Tryd.func104, Tryd.ntmps104
      go_wp2_with fail
      go_region
      go_wp2
      go_ret
      exact ⟨rfl, (H.out.set1 gap).set2 _, only_drew (only_set (only_set (only_refl _ _) _ _) _ _)⟩
  · rw [if_neg hc] at hg
    subst hg
    by_cases hb : 1 < gap
    · skip
      have hb' : decide (1 < gap) = true := decide_eq_true hb
      rw [if_pos hb]
      go_enter Tryd.func104, Tryd.ntmps104
      go_wp2_with fail
      go_region
      go_wp2
      go_ret
      exact ⟨rfl, ((H.out.set1 gap).set2 _).set3 false, only_drew (only_set (only_set (only_set (only_refl _ _) _ _) _ _) _ _)⟩
    · skip
      have hb' : decide (1 < gap) = false := decide_eq_false hb
      rw [if_neg hb]
      go_enter Tryd.func104, Tryd.ntmps104
      go_wp2_with fail
      go_region
      go_wp2
      go_ret
      exact ⟨rfl, (H.out.set1 gap).set2 _, only_drew (only_set (only_set (only_refl _ _) _ _) _ _)⟩
end
/-- The pace's own order: behind send it waits just where left is above 1. -/
structure IsO (w : World) (g : Nat) (cap left gap : Int) : Prop where
  p : IsP w g cap left gap (decide (left ≤ 1))
  c : 1 ≤ cap ∧ cap ≤ 64
  g : 1 ≤ gap ∧ gap ≤ cap
  l : 0 ≤ left ∧ left ≤ cap
def dbl (cap gap : Int) : Int := if cap < 2 * gap then cap else 2 * gap
theorem dbl_range (cap gap : Int) (hc : 1 ≤ cap ∧ cap ≤ 64) (hg : 1 ≤ gap ∧ gap ≤ cap) : 1 ≤ dbl cap gap ∧ dbl cap gap ≤ cap := by unfold dbl; split <;> omega
theorem tick_yes (g : Nat) (cap left gap : Int) (w : World) (h : IsO w g cap left gap) (hl : left ≤ 1) :
    Calls Tryd.prog 96 #[ptr g] w fun e w' => e = .returned (.bool true) ∧ IsO w' g cap gap (dbl cap gap) ∧ w.grownBy w' (some g) := by
  have hp := h.p
  have hd : decide (left ≤ 1) = true := decide_eq_true hl
  rw [hd] at hp
  have c3 : w.cell? ⟨g, 3, none⟩ = some (.func (.func 104) #[ptr g] #[]) := hp.cell 3
  have C := Lib.hid (send_calls g cap left gap (dbl cap gap) true w hp h.g.1 (by have := h.g; have := h.c; omega) rfl)
  have H := Lib.hid h
  clear h hp hd
  go_enter Tryd.func96, Tryd.ntmps96
  go_wp2_with (go_at_call 104; refine C.out.mono ?_; rintro e w' ⟨rfl, hi, hw⟩; have HI := Lib.hid hi; have HWW := Lib.hid hw; clear hi hw)
  go_ret
  have hh := H.out
  refine ⟨rfl, ⟨?_, hh.c, dbl_range _ _ hh.c hh.g, by have := hh.g; omega⟩, HWW.out⟩
  have := HI.out
  by_cases hb : 1 < gap
  · rw [if_pos hb] at this; rw [decide_eq_false (by omega)]; exact this
  · rw [if_neg hb] at this; rw [decide_eq_true (by omega)]; exact this
theorem tick_no (g : Nat) (cap left gap : Int) (w : World) (h : IsO w g cap left gap) (hl : 1 < left) :
    Calls Tryd.prog 96 #[ptr g] w fun e w' => e = .returned (.bool false) ∧ IsO w' g cap (left - 1) gap ∧ w.grownBy w' (some g) := by
  have hp := h.p
  have hd : decide (left ≤ 1) = false := decide_eq_false (by omega)
  rw [hd] at hp
  have c3 : w.cell? ⟨g, 3, none⟩ = some (.func (.func 107) #[ptr g] #[]) := hp.cell 3
  have C := Lib.hid (wait_calls g cap left gap false w hp (by omega) (by have := h.l; have := h.c; omega))
  have H := Lib.hid h
  clear h hp hd
  go_enter Tryd.func96, Tryd.ntmps96
  go_wp2_with (go_at_call 107; refine C.out.mono ?_; rintro e w' ⟨rfl, hi, hw⟩; have HI := Lib.hid hi; have HWW := Lib.hid hw; clear hi hw)
  go_ret
  have hh := H.out
  refine ⟨rfl, ⟨?_, hh.c, hh.g, by have := hh.l; omega⟩, HWW.out⟩
  have := HI.out
  by_cases hb : left = 2
  · rw [if_pos hb] at this; rw [decide_eq_true (by omega)]; exact this
  · rw [if_neg hb] at this; rw [decide_eq_false (by omega)]; exact this
theorem new_no (most : Int) (w : World) (h : most < 1 ∨ 64 < most) : Calls Tryd.prog 90 #[.int .i64 most] w fun e w' => e = .returned (.tuple #[.pointer none, .int .i64 70]) ∧ w = w' := by
  rcases h with h | h
  · have d : decide (most < 1) = true := decide_eq_true h
    clear h
    go_enter Tryd.func90, Tryd.ntmps90
    go_wp2
    go_ret2
    exact ⟨rfl, rfl⟩
  · have d : decide (most < 1) = false := decide_eq_false (by omega)
    have d2 : decide (64 < most) = true := decide_eq_true h
    clear h
    go_enter Tryd.func90, Tryd.ntmps90
    go_wp2
    go_ret2
    exact ⟨rfl, rfl⟩
theorem new_yes (most : Int) (w : World) (h : 1 ≤ most ∧ most ≤ 64) : Calls Tryd.prog 90 #[.int .i64 most] w fun e w' => e = .returned (.tuple #[ptr w.heap.size, .int .i64 0]) ∧ IsO w' w.heap.size most 0 1 ∧ Below w.heap.size w w' := by
  have d : decide (most < 1) = false := decide_eq_false (by omega)
  have d2 : decide (64 < most) = false := decide_eq_false (by omega)
  go_enter Tryd.func90, Tryd.ntmps90
  go_wp2
  go_ret2
  refine ⟨rfl, ⟨?_, h, by omega, by omega⟩, ?_⟩
  · exact heap_alloc_new w _
  · exact (Below.refl _ _).alloc (Nat.le_refl _) _
theorem reset_calls (g : Nat) (cap left gap : Int) (w : World) (h : IsO w g cap left gap) :
    Calls Tryd.prog 91 #[ptr g] w fun e w' => e = .returned (.tuple #[]) ∧ IsO w' g cap 0 1 ∧ w.grownBy w' (some g) := by
  have hp := h.p
  have c1 : w.cell? ⟨g, 1, none⟩ = some (.int .i64 left) := hp.cell 1
  have c2 : w.cell? ⟨g, 2, none⟩ = some (.int .i64 gap) := hp.cell 2
  have c3 : w.cell? ⟨g, 3, none⟩ = some (nxt g (decide (left ≤ 1))) := hp.cell 3
  have f1 := hp.frozen 1
  have f2 := hp.frozen 2
  have f3 := hp.frozen 3
  have H := Lib.hid h
  clear h hp
  go_enter Tryd.func91, Tryd.ntmps91
  go_wp2
  go_end0
  have hh := H.out
  refine ⟨rfl, ⟨((hh.p.set1 0).set2 1).set3 true, hh.c, by have := hh.c; omega, by have := hh.c; omega⟩, only_set (only_set (only_set (only_refl _ _) _ _) _ _) _ _⟩
end Go.Proofs.YtoeiaimoppmjdaaDoor.Pace
/- append to a row of one's own, by what it comes to. -/
namespace Go.Proofs.YtoeiaimoppmjdaaDoor.App
open Go.RowKit Go.Proofs.YtoeiaimoppmjdaaDoorW.PrintWords Go.Proofs.YtoeiaimoppmjdaaDoor.Mem
set_option linter.unusedVariables false
set_option linter.unusedSimpArgs false
theorem infoL : (Tryd.prog.info? 22).map (fun i => (i.zero, i.size, i.bytes)) = some (some (.slice none 0 0), 1, 24) := by kernel_rfl
/-- One more element behind a row of one's own. -/
theorem row_append {P : Program} {w0 W : World} {R : List Ent} {v : Value} {e : TypeId} {n : Nat} {xs : List Value} (h : St w0 W (rowE v e 1 n xs ++ R)) (hV : rowV v 1 n xs) (t ty : TypeId) (z : Value) (bytes : Nat) (ht : P.underlying t = some (.slice e)) (hinfo : (P.info? e).map (fun i => (i.zero, i.size, i.bytes)) = some (some z, 1, bytes)) (hz : z.cells.size = 1)
    (hl : (n + 1) * bytes ≤ 140737488355328) (hl2 : n + 1 ≤ 140737488355328) (ad : Addr) (c1 : Nat) (u : Value) (hx : W.cell? ad = some u) (hu : u.oneCell' = true) :
    ∃ (v' : Value) (W' : World), (Builtin.append_ #[t, t] ty #[v, .slice (some ad) 1 c1]).run P W = .ok v' W' ∧ St w0 W' (rowE v' e 1 (n + 1) (xs ++ [u]) ++ R) ∧ rowV v' 1 (n + 1) (xs ++ [u]) := by
  obtain ⟨i0, hi, hzz⟩ := Option.map_eq_some_iff.1 hinfo
  simp only [Prod.mk.injEq] at hzz
  obtain ⟨hz0, hz1, hz2⟩ := hzz
  have hnews : ∀ j w, [u][j]? = some w → W.cell? (ad.add j) = some w := by
    intro j w hw
    have : j = 0 := by
      rcases Nat.eq_zero_or_pos j with h0 | h0
      · exact h0
      · rw [List.getElem?_eq_none (by simp; omega)] at hw; cases hw
    subst this
    simp at hw
    have e : ad.add 0 = ad := by unfold Addr.add; split <;> first | rfl | (rename_i h0; exact absurd rfl h0)
    rw [e, hx, hw]
  obtain ⟨v1, w1, hr, h2, h3, _, h5⟩ := run_append_own_at (P := P) W w0.heap.size t ty e i0 z 1 bytes ht hi hz0 hz1 hz2 hz (by omega) v n xs (h.own hV) ad 1 c1 [u] (by simp) hnews
    (by intro q hq; simp at hq; subst hq; exact hu) (by simp only [maxLen]; omega) hl h.bl.size
  obtain ⟨k1, k2⟩ := h.grown hV h3 h2 (by
    rcases h5 with h5 | h5
    · exact .inl h5
    · right; intro k hk; rw [h5] at hk; injection hk with hk; omega)
  exact ⟨v1, w1, hr, k1, k2⟩
section
variable {P : Program}
/-- append at a list of operations, by what it comes to. -/
theorem wpList_append_run {ops : Array Oper} {rest : List Oper} {o : Oper} {a : Act} {W : World} {Q : Exit → Act → World → Prop} (hgd : o.guard = none) (s x : Operand) (t : TypeId)
    (ho : o.op = .call { callee := .builtin .append, args := #[s, x], argTypes := #[t, t] }) (v y v' : Value) (W' : World) (hs : a.eval s = v) (hx : a.eval x = y) (hr : (Builtin.append_ #[t, t] o.type #[v, y]).run P W = .ok v' W') (h : wpList P ops Q rest (a.put o.dst v') W') :
    wpList P ops Q (o :: rest) a W :=
  wpList_plain hgd fun K hK => by
    unfold Oper.wp execOp
    simp only [ho, resolve, invoke, builtin, Sem.run_bind, Sem.run_pure, Result.andThen_ok, List.map_toArray, List.map_cons, List.map_nil, hs, hx, hr]
    exact hK _ _ h
theorem step_append_run {ops : Array Oper} {o : Oper} {a : Act} {W : World} {K : Act → World → Prop} {Q : Exit → Act → World → Prop} {E : Prop} (hgd : o.guard = none) (s x : Operand) (t : TypeId)
    (ho : o.op = .call { callee := .builtin .append, args := #[s, x], argTypes := #[t, t] }) (v y v' : Value) (W' : World) (hs : a.eval s = v) (hx : a.eval x = y) (hr : (Builtin.append_ #[t, t] o.type #[v, y]).run P W = .ok v' W') (h : K (a.put o.dst v') W') :
    if Region.wanted o (yielded ops a.tmps) = true then Oper.wp P o a W K Q else E := by
  have hw : Region.wanted o (yielded ops a.tmps) = true := by simp [Region.wanted, hgd]
  rw [if_pos hw]
  unfold Oper.wp execOp
  simp only [ho, resolve, invoke, builtin, Sem.run_bind, Sem.run_pure, Result.andThen_ok, List.map_toArray, List.map_cons, List.map_nil, hs, hx, hr]
  exact h
end
end Go.Proofs.YtoeiaimoppmjdaaDoor.App
/- A row of one's own that begins anywhere in its block: what is left when its first ones have gone. -/
namespace Go.Proofs.YtoeiaimoppmjdaaDoor.App
open Go.RowKit Go.Proofs.YtoeiaimoppmjdaaDoorW.PrintWords Go.Proofs.YtoeiaimoppmjdaaDoor.Mem
set_option linter.unusedVariables false
set_option linter.unusedSimpArgs false
def oP (off cap : Nat) (e : TypeId) (n : Nat) (xs : List Value) (o : Obj) : Prop := ∃ cur : Array Value, o = .cells cur e (0, 0) ∧ off + cap ≤ cur.size ∧ (cur.toList.drop off).take n = xs
def oE (v : Value) (e : TypeId) (n : Nat) (xs : List Value) : List Ent :=
  match v with
  | .slice (some ad) _ cap => [(ad.block, oP ad.off cap e n xs)]
  | _ => []
def oV (v : Value) (n : Nat) (xs : List Value) : Prop := xs.length = n ∧ ((v = .slice none 0 0 ∧ n = 0) ∨ ∃ g off cap, v = .slice (some ⟨g, off, none⟩) n cap ∧ n ≤ cap ∧ cap ≤ maxLen)
theorem oE_nil (e : TypeId) (n : Nat) (xs : List Value) : oE (.slice none 0 0) e n xs = [] := rfl
theorem oV_nil : oV (.slice none 0 0) 0 [] := ⟨rfl, .inl ⟨rfl, rfl⟩⟩
theorem oV_form {v : Value} {n : Nat} {xs : List Value} (h : oV v n xs) : ∃ A c, v = .slice A n c := by
  rcases h.2 with ⟨rfl, rfl⟩ | ⟨g, off, cap, rfl, _⟩
  · exact ⟨none, 0, rfl⟩
  · exact ⟨_, _, rfl⟩
theorem mem_o (g off m cap : Nat) (e : TypeId) (n : Nat) (xs : List Value) : (g, oP off cap e n xs) ∈ oE (.slice (some ⟨g, off, none⟩) m cap) e n xs := List.mem_singleton.2 rfl
/-- A row that begins where its block does is such a one. -/
theorem o_of_row {w0 W : World} {R : List Ent} {v : Value} {e : TypeId} {n : Nat} {xs : List Value} (h : St w0 W (rowE v e 1 n xs ++ R)) (hV : rowV v 1 n xs) : St w0 W (oE v e n xs ++ R) ∧ oV v n xs := by
  have hl : xs.length = n := by rw [hV.1]; omega
  rcases hV.2 with ⟨rfl, h0⟩ | ⟨g, cap, rfl, h1, h2⟩
  · exact ⟨by simpa [oE, rowE] using h, hl, .inl ⟨rfl, h0⟩⟩
  · refine ⟨?_, hl, .inr ⟨g, 0, cap, rfl, h1, h2⟩⟩
    exact St.weak (P := rowP cap e 1 n xs) h (fun o ⟨cur, e1, e2, e3⟩ => ⟨cur, e1, by show 0 + cap ≤ _; omega, by simpa using e3⟩)
theorem o_blk {w0 W : World} {R : List Ent} {g off m cap n : Nat} {e : TypeId} {xs : List Value} (h : St w0 W (oE (.slice (some ⟨g, off, none⟩) m cap) e n xs ++ R)) :
    ∃ cur : Array Value, W.heap[g]? = some (.cells cur e (0, 0)) ∧ off + cap ≤ cur.size ∧ (cur.toList.drop off).take n = xs := by
  obtain ⟨o, ho, cur, rfl, h1, h2⟩ := h.has _ (List.mem_append_left _ (mem_o g off m cap e n xs))
  exact ⟨cur, ho, h1, h2⟩
/-- What stands in it. -/
theorem o_at {w0 W : World} {R : List Ent} {g off m cap n : Nat} {e : TypeId} {xs : List Value} (h : St w0 W (oE (.slice (some ⟨g, off, none⟩) m cap) e n xs ++ R)) (hn : xs.length = n) (j : Nat) (hj : j < n) : W.cell? ⟨g, off + j, none⟩ = xs[j]? := by
  obtain ⟨cur, hg, h1, h2⟩ := o_blk h
  rw [cell_of_row W g (off + j) cur e (0, 0) hg, ← h2, List.getElem?_take_of_lt hj, List.getElem?_drop]
  simp
/-- Its first one goes. -/
theorem o_cut {w0 W : World} {R : List Ent} {g off cap n : Nat} {e : TypeId} {x : Value} {xs : List Value} (h : St w0 W (oE (.slice (some ⟨g, off, none⟩) (n + 1) cap) e (n + 1) (x :: xs) ++ R)) (hV : oV (.slice (some ⟨g, off, none⟩) (n + 1) cap) (n + 1) (x :: xs)) :
    St w0 W (oE (.slice (if cap = 1 then some ⟨g, off, none⟩ else some ⟨g, off + 1, none⟩) n (cap - 1)) e n xs ++ R) ∧ oV (.slice (if cap = 1 then some ⟨g, off, none⟩ else some ⟨g, off + 1, none⟩) n (cap - 1)) n xs := by
  have hl : xs.length = n := by have := hV.1; simp at this; exact this
  have hc : n + 1 ≤ cap ∧ cap ≤ maxLen := by
    rcases hV.2 with ⟨h1, _⟩ | ⟨_, _, _, h1, h2, h3⟩
    · cases h1
    · injection h1 with _ _ h1; subst h1; exact ⟨h2, h3⟩
  by_cases h1 : cap = 1
  · subst h1
    obtain rfl : n = 0 := by omega
    obtain rfl : xs = [] := List.eq_nil_of_length_eq_zero hl
    rw [if_pos rfl]
    refine ⟨St.weak (P := oP off 1 e 1 [x]) h (fun o ⟨cur, e1, e2, e3⟩ => ⟨cur, e1, by show off + 0 ≤ _; omega, by simp⟩), rfl, .inr ⟨g, off, 0, rfl, Nat.le_refl _, Nat.zero_le _⟩⟩
  · rw [if_neg h1]
    refine ⟨St.weak (P := oP off cap e (n + 1) (x :: xs)) h (fun o ⟨cur, e1, e2, e3⟩ => ⟨cur, e1, by show off + 1 + (cap - 1) ≤ _; omega, ?_⟩), hl, .inr ⟨g, off + 1, cap - 1, rfl, by omega, by omega⟩⟩
    show (cur.toList.drop (off + 1)).take n = xs
    rw [← List.drop_drop]
    have h4 : cur.toList.drop off = x :: ((cur.toList.drop off).drop 1) := by
      cases e5 : cur.toList.drop off with
      | nil => rw [e5] at e3; simp at e3
      | cons a l => rw [e5] at e3; simp at e3; rw [e3.1]; rfl
    rw [h4] at e3
    simpa using e3
/-- One more element behind it. -/
theorem o_append {P : Program} {w0 W : World} {R : List Ent} {v : Value} {e : TypeId} {n : Nat} {xs : List Value} (h : St w0 W (oE v e n xs ++ R)) (hV : oV v n xs) (t ty : TypeId) (z : Value) (bytes : Nat) (ht : P.underlying t = some (.slice e)) (hinfo : (P.info? e).map (fun i => (i.zero, i.size, i.bytes)) = some (some z, 1, bytes)) (hz : z.cells.size = 1)
    (hl : (n + 1) * bytes ≤ 140737488355328) (hl2 : n + 1 ≤ 140737488355328) (ad : Addr) (c1 : Nat) (u : Value) (hx : W.cell? ad = some u) (hu : u.oneCell' = true) :
    ∃ (v' : Value) (W' : World), (Builtin.append_ #[t, t] ty #[v, .slice (some ad) 1 c1]).run P W = .ok v' W' ∧ St w0 W' (oE v' e (n + 1) (xs ++ [u]) ++ R) ∧ oV v' (n + 1) (xs ++ [u]) := by
  have hlen := hV.1
  rcases hV.2 with ⟨rfl, rfl⟩ | ⟨g, off, cap, rfl, hc1, hc2⟩
  · obtain rfl : xs = [] := List.eq_nil_of_length_eq_zero hlen
    obtain ⟨v', W', hr, h1, h2⟩ := row_append (P := P) (xs := []) (v := .slice none 0 0) (n := 0) (e := e) (by simpa [oE, rowE] using h) (rowV_nil 1) t ty z bytes ht hinfo hz hl hl2 ad c1 u hx hu
    obtain ⟨k1, k2⟩ := o_of_row h1 h2
    exact ⟨v', W', hr, k1, k2⟩
  obtain ⟨i0, hi, hzz⟩ := Option.map_eq_some_iff.1 hinfo
  simp only [Prod.mk.injEq] at hzz
  obtain ⟨hz0, hz1, hz2⟩ := hzz
  have hnews : ∀ j w, [u][j]? = some w → W.cell? (ad.add j) = some w := by
    intro j w hw
    have : j = 0 := by
      rcases Nat.eq_zero_or_pos j with h0 | h0
      · exact h0
      · rw [List.getElem?_eq_none (by simp; omega)] at hw; cases hw
    subst this
    simp at hw
    have e : ad.add 0 = ad := by unfold Addr.add; split <;> first | rfl | (rename_i h0; exact absurd rfl h0)
    rw [e, hx, hw]
  obtain ⟨cur, hg, q1, q2⟩ := o_blk h
  by_cases hroom : n + 1 ≤ cap
  · have hrun := run_append_room_cells (P := P) W t ty e i0 ht hi g off n cap ad 1 c1 [u] (by rw [hz1]; rfl) hnews (by intro q hq; simp at hq; subst hq; exact hu) hroom
      (fun j hj => by
        have : j = 0 := by simp at hj; exact hj
        subst this
        rw [hz1, cell_of_row W g _ cur e (0, 0) hg, Array.getElem?_eq_getElem (by omega)]; rfl)
      (fun j hj => blk_frozen hg _)
    rw [hz1, Nat.mul_one] at hrun
    refine ⟨_, _, hrun, ?_, by simp [hlen], .inr ⟨g, off, cap, rfl, hroom, hc2⟩⟩
    show St w0 (W.setCell ⟨g, off + n, none⟩ u) _
    have hge := h.ge _ (List.mem_append_left _ (mem_o g off n cap e n xs))
    refine h.step (h.bl.setCell hge u) (by simp [World.setCell]) (fun k hk hne => Below.heap_setCell W _ u k (fun e1 => hne _ (mem_o g off n cap e n xs) e1.symm)) (by simp [oE]) (fun p hp => ?_) (fun p hp => .inl ⟨_, mem_o g off n cap e n xs, ?_⟩)
    · simp [oE] at hp
      subst hp
      refine ⟨_, blk_put hg (off + n) u rfl, _, rfl, by simpa using q1, ?_⟩
      have hn2 : off + n < cur.size := by omega
      simp only [Array.toList_setIfInBounds]
      rw [← q2]
      have e1 : ((cur.toList.set (off + n) u).drop off) = (cur.toList.drop off).set n u := by
        rw [List.drop_set, if_neg (by omega)]; simp
      rw [e1]
      have e2 : n < (cur.toList.drop off).length := by simp; omega
      rw [List.take_succ_eq_append_getElem (by simpa using e2), List.take_set_of_le (Nat.le_refl _)]
      simp
    · simp [oE] at hp; subst hp; rfl
  · obtain rfl : n = cap := by omega
    obtain ⟨v', W', hrun, r1, r2⟩ := run_append_arg_grows (P := P) W t ty e i0 z 1 bytes ht hi hz0 hz1 hz2 hz (by omega) ⟨g, off, none⟩ n n xs (by omega)
      (fun j w hw => by
        have hj : j < n := by
          rcases Nat.lt_or_ge j n with h0 | h0
          · exact h0
          · rw [List.getElem?_eq_none (by omega)] at hw; cases hw
        have := o_at h hlen j hj
        rw [hw] at this
        rw [← this]
        simp [Addr.add]; split <;> first | rfl | simp_all)
      ad 1 c1 [u] (by simp) hnews (by omega) (by simp only [maxLen]; omega) hl
    have hb : Below W.heap.size W W' := (Below.refl _ _).grown r2 (Nat.le_refl _) (fun k hk => by cases hk)
    obtain ⟨k1, k2⟩ := (St.tail h).fresh hb r1
    obtain ⟨j1, j2⟩ := o_of_row k1 k2
    exact ⟨v', W', hrun, j1, j2⟩
end Go.Proofs.YtoeiaimoppmjdaaDoor.App
/- A link in memory; New, Known, Len, Life, Owe. -/
namespace Go.Proofs.YtoeiaimoppmjdaaDoor.Lk
open Go.RowKit Go.Proofs.YtoeiaimoppmjdaaDoorW.PrintWords Go.Proofs.YtoeiaimoppmjdaaDoor.Mem Go.Proofs.YtoeiaimoppmjdaaDoor.Wr Go.Proofs.YtoeiaimoppmjdaaDoor.Bytes
open Go.Proofs.YtoeiaimoppmjdaaDoor.App (oE oV oE_nil oV_nil oV_form)
open Go.Proofs.YtoeiaimoppmjdaaDoor.Pace (nxt IsP IsO dbl dbl_range new_yes new_no tick_yes tick_no reset_calls)
set_option linter.unusedVariables false
set_option linter.unusedSimpArgs false
/-- A body in the row: its value, its bytes. -/
abbrev BI := Value × List Int
/-- What a link is. -/
structure LS where
  me : Int
  other : Int
  life : Nat
  known : Nat
  window : Int
  iv : Value
  items : List BI
  gone : Nat
  out : Nat
  heard : Nat
  gp : Nat
  cap : Int
  left : Int
  gap : Int
  ack : Bool
  asked : Bool
  word : Bool
def lkC (s : LS) : Array Value := #[.int .i64 s.me, .int .i64 s.other, .int .u64 (s.life : Int), .int .u64 (s.known : Int), .int .i64 s.window, s.iv, .int .u64 (s.gone : Int), .int .u64 (s.out : Int), .int .u64 (s.heard : Int), pt s.gp, .bool s.ack, .bool s.asked, .bool s.word]
def pcC (s : LS) : Array Value := #[.int .i64 s.cap, .int .i64 s.left, .int .i64 s.gap, nxt s.gp (decide (s.left ≤ 1))]
def itemsE (s : LS) : List Ent := oE s.iv 22 s.items.length (s.items.map fun i => i.1) ++ s.items.flatMap fun i => byR i.1 i.2
def lkE (g : Nat) (s : LS) : List Ent := B g (lkC s) 128 :: (B s.gp (pcC s) 135 :: itemsE s)
structure LkV (s : LS) : Prop where
  c : 1 ≤ s.cap ∧ s.cap ≤ 64
  g : 1 ≤ s.gap ∧ s.gap ≤ s.cap
  l : 0 ≤ s.left ∧ s.left ≤ s.cap
  row : oV s.iv s.items.length (s.items.map fun i => i.1)
  by_ : ∀ i, i ∈ s.items → byV i.1 i.2 ∧ Byt i.2 ∧ i.2.length ≤ 2048
theorem St.pace {w0 W : World} {R : List Ent} {g : Nat} {s : LS} (h : St w0 W (lkE g s ++ R)) (hV : LkV s) : IsO W s.gp s.cap s.left s.gap :=
  ⟨h.blk (g := s.gp) (cs := pcC s) (t := 135) (by simp [lkE]), hV.c, hV.g, hV.l⟩
/-- Behind a call of the pace. -/
theorem St.paced {w0 W W' : World} {R : List Ent} {g : Nat} {s : LS} {left gap : Int} (h : St w0 W (lkE g s ++ R)) (hV : LkV s) (ho : IsO W' s.gp s.cap left gap) (hg : W.grownBy W' (some s.gp)) :
    St w0 W' (lkE g { s with left := left, gap := gap } ++ R) ∧ LkV { s with left := left, gap := gap } := by
  have h1 : St w0 W (B s.gp (pcC s) 135 :: (B g (lkC s) 128 :: (itemsE s ++ R))) := h.re (fun x => by simp only [lkE, cnt_append, cnt_cons]; omega)
  have hgp := h1.ge _ (List.mem_cons_self ..)
  refine ⟨?_, ⟨hV.c, ho.g, ho.l, hV.row, hV.by_⟩⟩
  have h2 := St.step (F := [B s.gp (pcC s) 135]) (G := [B s.gp (pcC { s with left := left, gap := gap }) 135]) (R := B g (lkC s) 128 :: (itemsE s ++ R)) h1
    (h1.bl.grown hg h1.bl.size (fun k hk => by cases hk; exact hgp)) hg.size (fun k hk hne => hg.block k hk (fun e => hne _ (List.mem_singleton.2 rfl) (by injection e with e; exact e.symm))) (by simp)
    (fun p hp => by obtain rfl := List.mem_singleton.1 hp; exact ⟨_, ho.p, rfl⟩) (fun p hp => .inl ⟨_, List.mem_singleton.2 rfl, by obtain rfl := List.mem_singleton.1 hp; rfl⟩)
  exact h2.re (fun x => by simp only [lkE, lkC, itemsE, cnt_append, cnt_cons, cnt_nil]; omega)
/-- A link that knows nothing. -/
def ls0 (me other : Int) (life : Nat) (window : Int) (gp : Nat) (cap : Int) : LS := ⟨me, other, life, 0, window, NL, [], 0, 0, 0, gp, cap, 0, 1, false, false, true⟩
theorem ls0V (me other : Int) (life : Nat) (window : Int) (gp : Nat) (cap : Int) (h : 1 ≤ cap ∧ cap ≤ 64) : LkV (ls0 me other life window gp cap) :=
  ⟨h, ⟨Int.le_refl _, h.1⟩, ⟨Int.le_refl _, by show 0 ≤ cap; omega⟩, oV_nil, fun i hi => (by cases hi)⟩
set_option maxRecDepth 20000 in
set_option maxHeartbeats 1600000 in
theorem lnew_calls (w0 w : World) (R : List Ent) (me other window cap : Int) (life : Nat) (h : St w0 w R) :
    Calls Tryd.prog 53 #[.int .i64 me, .int .i64 other, .int .u64 (life : Int), .int .i64 window, .int .i64 cap] w fun e w' => ∃ g gp c, e = .returned (pt g) ∧ (1 ≤ c ∧ c ≤ 64) ∧ (1 ≤ cap ∧ cap ≤ 64 → c = cap) ∧ St w0 w' (lkE g (ls0 me other life window gp c) ++ R) := by
  by_cases hc : 1 ≤ cap ∧ cap ≤ 64
  · have CN := Lib.hid (new_yes cap w hc)
    have H := Lib.hid h
    have HC := Lib.hid hc
    clear h hc
    go_enter Tryd.func53, Tryd.ntmps53
    go_wp2_with fail
    refine CN.out.mono ?_; rintro e w1 ⟨rfl, ho, hb⟩
    have h1 : St w0 w1 (B w.heap.size (pcC (ls0 me other life window w.heap.size cap)) 135 :: R) := H.out.made hb (Nat.le_refl _) ho.p rfl
    obtain ⟨gp, hgp⟩ : ∃ gp, gp = w.heap.size := ⟨_, rfl⟩
    rw [← hgp] at h1 ⊢
    have h2 := h1.newB (lkC (ls0 me other life window gp cap)) 128
    have H2 := Lib.hid h2
    clear ho hb h1 h2 hgp
    go_wp2_with fail
    go_ret
    exact ⟨w1.heap.size, gp, cap, rfl, HC.out, fun _ => rfl, H2.out.re (fun x => by simp only [lkE, itemsE, ls0, oE_nil, List.flatMap_nil, List.length_nil, List.map_nil, cnt_append, cnt_cons, cnt_nil]; omega)⟩
  · have hn : cap < 1 ∨ 64 < cap := by omega
    have CN := Lib.hid (new_no cap w hn)
    have CY := fun w' => Lib.hid (new_yes 1 w' (by omega))
    have H := Lib.hid h
    have HC := Lib.hid hc
    clear h hc hn
    go_enter Tryd.func53, Tryd.ntmps53
    go_wp2_with fail
    refine CN.out.mono ?_; rintro e w1 ⟨rfl, rfl⟩
    go_wp2_with fail
    refine (CY w).out.mono ?_; rintro e w1 ⟨rfl, ho, hb⟩
    have h1 : St w0 w1 (B w.heap.size (pcC (ls0 me other life window w.heap.size 1)) 135 :: R) := H.out.made hb (Nat.le_refl _) ho.p rfl
    obtain ⟨gp, hgp⟩ : ∃ gp, gp = w.heap.size := ⟨_, rfl⟩
    rw [← hgp] at h1 ⊢
    have h2 := h1.newB (lkC (ls0 me other life window gp 1)) 128
    have H2 := Lib.hid h2
    clear ho hb h1 h2 hgp
    go_wp2_with fail
    go_ret
    exact ⟨w1.heap.size, gp, 1, rfl, ⟨by omega, by omega⟩, fun h => absurd h HC.out, H2.out.re (fun x => by simp only [lkE, itemsE, ls0, oE_nil, List.flatMap_nil, List.length_nil, List.map_nil, cnt_append, cnt_cons, cnt_nil]; omega)⟩
section
variable {w0 W : World} {R : List Ent} {g : Nat} {s : LS}
theorem lk_cell (h : St w0 W (lkE g s ++ R)) (j : Nat) {v : Value} (hj : (lkC s)[j]? = some v) : W.cell? ⟨g, j, none⟩ = some v := h.cellOf (g := g) (cs := lkC s) (t := 128) (by simp [lkE]) j hj
theorem lk_free (h : St w0 W (lkE g s ++ R)) (j : Nat) : W.frozen? ⟨g, j, none⟩ = false := h.freeOf (g := g) (cs := lkC s) (t := 128) (by simp [lkE]) j
theorem lknown_calls (h : St w0 W (lkE g s ++ R)) : Calls Tryd.prog 83 #[pt g] W fun e w' => e = .returned (.bool (decide (0 < s.known))) ∧ W = w' := by
  have x3 : W.cell? ⟨g, 3, none⟩ = some (.int .u64 (s.known : Int)) := lk_cell h 3 rfl
  clear h
  by_cases hk : 0 < s.known
  · have h1 : (0 : Int) < (s.known : Int) := by omega
    rw [decide_eq_true hk]
    go_enter Tryd.func83, Tryd.ntmps83
    go_wp2_with fail
    go_ret
    exact ⟨rfl, rfl⟩
  · have h1 : s.known = 0 := by omega
    rw [decide_eq_false hk]
    rw [h1] at x3
    clear hk
    go_enter Tryd.func83, Tryd.ntmps83
    go_wp2_with fail
    go_ret
    exact ⟨rfl, rfl⟩
theorem llife_calls (h : St w0 W (lkE g s ++ R)) : Calls Tryd.prog 59 #[pt g] W fun e w' => e = .returned (.int .u64 (s.known : Int)) ∧ W = w' := by
  have x3 := lk_cell h 3 rfl
  clear h
  go_enter Tryd.func59, Tryd.ntmps59
  go_wp2_with fail
  go_ret
  exact ⟨rfl, rfl⟩
theorem llen_calls (h : St w0 W (lkE g s ++ R)) (hV : LkV s) : Calls Tryd.prog 60 #[pt g] W fun e w' => e = .returned (.int .i64 (s.items.length : Int)) ∧ W = w' := by
  have x5 : W.cell? ⟨g, 5, none⟩ = some s.iv := lk_cell h 5 rfl
  obtain ⟨A, c, e⟩ := oV_form hV.row
  rw [e] at x5
  clear h hV e
  go_enter Tryd.func60, Tryd.ntmps60
  go_wp2_with fail
  go_ret
  exact ⟨rfl, rfl⟩
theorem lowe_calls (h : St w0 W (lkE g s ++ R)) : Calls Tryd.prog 51 #[pt g] W fun e w' => e = .returned (.tuple #[]) ∧ St w0 w' (lkE g { s with asked := true } ++ R) := by
  have x := lk_cell h 11 rfl
  have f := lk_free h 11
  have h2 := (h.re (M := B g (lkC s) 128 :: (B s.gp (pcC s) 135 :: (itemsE s ++ R))) (fun x => by simp only [lkE, cnt_append, cnt_cons]; omega)).put (cs' := lkC { s with asked := true }) 11 (.bool true) rfl
  have H := Lib.hid h2
  clear h h2
  go_enter Tryd.func51, Tryd.ntmps51
  go_wp2_with fail
  go_end0
  exact ⟨rfl, H.out.re (fun x => by simp only [lkE, pcC, itemsE, cnt_append, cnt_cons]; omega)⟩
end
end Go.Proofs.YtoeiaimoppmjdaaDoor.Lk
/- A region that draws its order, in which a cell is loaded that the region itself stores into at its end: the condition on the world may fall when a named operation (which waits for that load) has come up. -/
namespace Go.Proofs.YtoeiaimoppmjdaaDoor.RegL
open Go
section
variable {P : Program} {ops : Array Oper} {Q : Exit → Act → World → Prop} {md : Region.Mode} {S : Bool → World → Prop} {k : Nat}
/-- Whatever order is picked from here on; behind each operation S holds of the world, its flag telling whether number k has come up. -/
def anyL (P : Program) (md : Region.Mode) (ops : Array Oper) (Q : Exit → Act → World → Prop) (S : Bool → World → Prop) (k : Nat) : Nat → Array Bool → Act → World → Prop
  | 0, listed, a, w => Region.ready md ops listed = [] ∧ Q .normal a w
  | n + 1, listed, a, w => (Region.ready md ops listed = [] → Q .normal a w) ∧
      ∀ i ∈ Region.ready md ops listed, wpOp P ops Q i (fun a' w' => S ((listed.setIfInBounds i true).getD k true) w' ∧ anyL P md ops Q S k n (listed.setIfInBounds i true) a' w') a w
theorem any_of : ∀ (n : Nat) (listed : Array Bool) (a : Act) (w : World), anyL P md ops Q S k n listed a w → wpAny P md ops Q n listed a w
  | 0, _, _, _, h => h
  | n + 1, _, _, _, h => ⟨h.1, fun i hi => wpOp_mono (fun a' w' q => any_of n _ a' w' q.2) (h.2 i hi)⟩
theorem first_of {i : Nat} {oi : Oper} {v : Value} {T : World → Prop} {G : Array Bool → Prop} (hi : ops[i]? = some oi) (hsel : ∀ (j : Nat) (o : Oper) cs b, ops[j]? = some o → o.op ≠ .select cs b)
    (hQ : ∀ c a w, Q (.panic c) (a.put oi.dst v) w → Q (.panic c) a w) (hik : i ≠ k)
    (hT : ∀ (listed : Array Bool) (j : Nat) (w' : World), i ∈ Region.ready md ops listed → j ∈ Region.ready md ops listed → j ≠ i → G listed → S ((listed.setIfInBounds j true).getD k true) w' → T w' ∧ G (listed.setIfInBounds j true)) :
    ∀ (n : Nat) (listed : Array Bool) (a : Act) (w : World),
      (∀ j oj, ops[j]? = some oj → j ≠ i → listed.getD j true = false → (∀ e ∈ oj.after, Region.binds md e = true → e.on ≠ i) → oi.apart ops oj = true) →
      i ∈ Region.ready md ops listed → G listed → YieldsIf P ops T oi v a → T w → S (listed.getD k true) w →
      anyL P md ops Q S k n (listed.setIfInBounds i true) (a.put oi.dst v) w → anyL P md ops Q S k (n + 1) listed a w := by
  intro n
  induction n with
  | zero =>
    intro listed a w _ hr _ hy hTw hS H
    refine ⟨fun h => (by rw [h] at hr; cases hr), fun j hj => ?_⟩
    by_cases hji : j = i
    · subst hji
      exact hy.wpOp hi hTw ⟨by rw [getD_set_ne true hik]; exact hS, H⟩
    · have := ready_mono hj hji
      rw [H.1] at this
      cases this
  | succ n ih =>
    intro listed a w hfree hr hG hy hTw hS H
    refine ⟨fun h => (by rw [h] at hr; cases hr), fun j hj => ?_⟩
    by_cases hji : j = i
    · subst hji
      exact hy.wpOp hi hTw ⟨by rw [getD_set_ne true hik]; exact hS, H⟩
    · have h1 := H.2 j (ready_mono hj hji)
      obtain ⟨hjun, oj, hoj, hall⟩ := mem_ready.1 hj
      have hnot : ∀ e ∈ oj.after, Region.binds md e = true → e.on ≠ i := by
        intro e he hb heq
        have q1 := hall e he hb
        have q0 := (mem_ready.1 hr).1
        rw [heq] at q1
        rcases Nat.lt_or_ge i listed.size with h' | h'
        · simp [h'] at q0 q1; rw [q0] at q1; cases q1
        · simp [Array.getElem?_eq_none h'] at q1
      have h2 := wpOp_putIf hoj (hfree j oj hoj hji hjun hnot) (fun cs b => hsel i oi cs b hi) (fun cs b => hsel j oj cs b hoj) hQ hy h1
      refine wpOp_mono (fun a' w' h3 => ?_) h2
      have e1 : ((listed.setIfInBounds i true).setIfInBounds j true).getD k true = (listed.setIfInBounds j true).getD k true := by
        rw [Array.setIfInBounds_comm _ _ (Ne.symm hji), getD_set_ne true hik]
      have hS' : S ((listed.setIfInBounds j true).getD k true) w' := by rw [← e1]; exact h3.2.1
      obtain ⟨hT', hG'⟩ := hT listed j w' hr hj hji hG hS'
      refine ⟨hS', ih (listed.setIfInBounds j true) a' w' (fun q oq hq hqi hun hno => ?_) (ready_mono hr (Ne.symm hji)) hG' h3.1 hT' hS' ?_⟩
      · refine hfree q oq hq hqi ?_ hno
        by_cases hjq : j = q
        · subst hjq; exact hjun
        · rw [getD_set_ne true hjq] at hun; exact hun
      · rw [Array.setIfInBounds_comm _ _ hji]
        exact h3.2.2
/-- A load of a cell that nobody in the region writes. -/
theorem take_w {i : Nat} {oi : Oper} {v : Value} {n : Nat} {listed : Array Bool} {a : Act} {w : World} (hm : ∀ b w, S b w → S true w) (hi : ops[i]? = some oi) (hik : i ≠ k)
    (hs : Region.noSelect ops = true) (hf : Region.free md ops listed i = true) (hr : (Region.ready md ops listed).contains i = true)
    (hQ : ∀ c a w, Q (.panic c) (a.put oi.dst v) w → Q (.panic c) a w) (hy : YieldsIf P ops (S true) oi v a) (hS : S (listed.getD k true) w)
    (h : anyL P md ops Q S k n (listed.setIfInBounds i true) (a.put oi.dst v) w) : anyL P md ops Q S k (n + 1) listed a w :=
  first_of (T := S true) (G := fun _ => True) hi (Region.noSelect_spec hs) hQ hik (fun _ _ w' _ _ _ _ q => ⟨hm _ _ q, trivial⟩) n listed a w (Region.free_spec hi hf) (by simpa using hr) trivial hy (hm _ _ hS) hS h
/-- A load of the cell that is stored into behind number k, which waits for it. -/
theorem take_s {i : Nat} {oi ok : Oper} {v : Value} {n : Nat} {listed : Array Bool} {a : Act} {w : World} (hi : ops[i]? = some oi) (hik : i ≠ k) (hok : ops[k]? = some ok) (hw : (ok.after.any fun e => Region.binds md e && e.on == i) = true)
    (hs : Region.noSelect ops = true) (hf : Region.free md ops listed i = true) (hr : (Region.ready md ops listed).contains i = true) (hk : listed.getD k true = false)
    (hQ : ∀ c a w, Q (.panic c) (a.put oi.dst v) w → Q (.panic c) a w) (hy : YieldsIf P ops (S false) oi v a) (hS : S false w)
    (h : anyL P md ops Q S k n (listed.setIfInBounds i true) (a.put oi.dst v) w) : anyL P md ops Q S k (n + 1) listed a w := by
  refine first_of (T := S false) (G := fun l => l.getD k true = false) hi (Region.noSelect_spec hs) hQ hik (fun l j w' hir hjr hji hG q => ?_) n listed a w (Region.free_spec hi hf) (by simpa using hr) hk hy hS (by rw [hk]; exact hS) h
  have hjk : j ≠ k := by
    rintro rfl
    obtain ⟨_, oj, hoj, hall⟩ := mem_ready.1 hjr
    rw [hok] at hoj
    injection hoj with hoj
    subst hoj
    rw [Array.any_eq_true] at hw
    obtain ⟨x, hx, hb⟩ := hw
    simp only [Bool.and_eq_true, beq_iff_eq] at hb
    have q1 := hall ok.after[x] (Array.getElem_mem hx) hb.1
    have q0 := (mem_ready.1 hir).1
    rw [hb.2] at q1
    rcases Nat.lt_or_ge i l.size with h' | h'
    · simp [h'] at q0 q1; rw [q0] at q1; cases q1
    · simp [Array.getElem?_eq_none h'] at q1
  have e : (l.setIfInBounds j true).getD k true = false := by rw [getD_set_ne true hjk]; exact hG
  rw [e] at q
  exact ⟨q, e⟩
theorem all_of {rs : List Nat} {n : Nat} {listed : Array Bool} {a : Act} {w : World} (hr : Region.ready md ops listed = rs) (hne : rs ≠ [])
    (h : ∀ i ∈ rs, wpOp P ops Q i (fun a' w' => S ((listed.setIfInBounds i true).getD k true) w' ∧ anyL P md ops Q S k n (listed.setIfInBounds i true) a' w') a w) : anyL P md ops Q S k (n + 1) listed a w :=
  ⟨fun h0 => absurd (hr ▸ h0) hne, hr ▸ h⟩
theorem done_of {listed : Array Bool} {a : Act} {w : World} (hr : Region.ready md ops listed = []) (h : Q .normal a w) : ∀ n, anyL P md ops Q S k n listed a w
  | 0 => ⟨hr, h⟩
  | _ + 1 => ⟨fun _ => h, by rw [hr]; simp⟩
/-- One that alone may come up: it is carried out; S behind it. -/
theorem step_of {i n : Nat} {o : Oper} {listed : Array Bool} {a : Act} {w : World} (hr : Region.ready md ops listed = [i]) (ho : ops[i]? = some o)
    (h : ∀ K' : Act → World → Prop, (∀ a' w', S ((listed.setIfInBounds i true).getD k true) w' → anyL P md ops Q S k n (listed.setIfInBounds i true) a' w' → K' a' w') → if Region.wanted o (yielded ops a.tmps) = true then Oper.wp P o a w K' Q else K' (a.put o.dst undef) w) :
    anyL P md ops Q S k (n + 1) listed a w :=
  all_of hr (by simp) (fun j hj => by
    obtain rfl := List.mem_singleton.1 hj
    exact wpOp_step ho (fun K' hK => h K' (fun a' w' q1 q2 => hK a' w' ⟨q1, q2⟩)))
theorem begin_of {id : Nat} {a : Act} {w : World} (hm : P.follows .mixedOrders = true) (h : anyL P .any ops Q S k ops.size (Array.replicate ops.size false) a w.drew) : (Code.region id ops true).wp P Q a w :=
  wp_region_any hm (any_of _ _ _ _ h)
end
end Go.Proofs.YtoeiaimoppmjdaaDoor.RegL
/- A link's row: last, put, drop; bytes.Clone. -/
namespace Go.Proofs.YtoeiaimoppmjdaaDoor.Lk
open Go.RowKit Go.Proofs.YtoeiaimoppmjdaaDoorW.PrintWords Go.Proofs.YtoeiaimoppmjdaaDoor.Mem Go.Proofs.YtoeiaimoppmjdaaDoor.Wr Go.Proofs.YtoeiaimoppmjdaaDoor.Bytes Go.Proofs.YtoeiaimoppmjdaaDoor.App
set_option linter.unusedVariables false
set_option linter.unusedSimpArgs false
set_option maxRecDepth 20000 in
/-- Bytes put behind bytes of one's own. -/
theorem by_appends {w0 W : World} {R : List Ent} {v : Value} {ys : List Int} (h : St w0 W (byR v ys ++ R)) (hV : byV v ys) (xs : List Int) (ad : Addr) (c1 : Nat) (hr : ReadsOf I 0 W (some ad) xs.length xs) (hl : ys.length + xs.length ≤ 140737488355328) :
    ∃ (v' : Value) (W' : World), (Builtin.append_ #[22, 22] 22 #[v, .slice (some ad) xs.length c1]).run Tryd.prog W = .ok v' W' ∧ St w0 W' (byR v' (ys ++ xs) ++ R) ∧ byV v' (ys ++ xs) := by
  obtain ⟨i0, hi, hzz⟩ := Option.map_eq_some_iff.1 info5
  simp only [Prod.mk.injEq] at hzz
  obtain ⟨hz0, hz1, hz2⟩ := hzz
  have hnews : ∀ j u, (encs I xs)[j]? = some u → W.cell? (ad.add j) = some u := by
    intro j u hu
    have hj : j < xs.length := by
      rcases Nat.lt_or_ge j xs.length with h0 | h0
      · exact h0
      · rw [List.getElem?_eq_none (by simp [encs]; omega)] at hu; cases hu
    obtain ⟨ad', e, hc⟩ := hr.2.2 (by omega)
    injection e with e
    subst e
    rw [hc j hj, ← hu]
    simp [encs, List.getD_eq_getElem?_getD, List.getElem?_eq_getElem hj]
  obtain ⟨v1, w1, hrun, h2, h3, _, h5⟩ := run_append_own_at (P := Tryd.prog) W w0.heap.size 22 22 5 i0 (.int .u8 0) 1 1 Tryd.underlying22 hi hz0 hz1 hz2 rfl (by omega) v ys.length (encs I ys) (h.own hV) ad xs.length c1 (encs I xs) (by simp [encs]) hnews
    (by intro q hq; simp [encs] at hq; obtain ⟨a, _, rfl⟩ := hq; rfl) (by simp only [maxLen]; omega) (by omega) h.bl.size
  obtain ⟨k1, k2⟩ := h.grown hV h3 h2 (by
    rcases h5 with h5 | h5
    · exact .inl h5
    · right; intro k hk; rw [h5] at hk; injection hk with hk; omega)
  have e1 : encs I ys ++ encs I xs = encs I (ys ++ xs) := by simp [encs]
  have e2 : ys.length + xs.length = (ys ++ xs).length := by simp
  rw [e1, e2] at k1 k2
  exact ⟨v1, w1, hrun, k1, k2⟩
set_option maxRecDepth 20000 in
set_option maxHeartbeats 1600000 in
theorem clone_calls {w0 W : World} {R : List Ent} (xs : List Int) (A : Option Addr) (c : Nat) (h : St w0 W R) (hr : ReadsOf I 0 W A xs.length xs) (hl : xs.length ≤ 140737488355328) :
    Calls Tryd.prog 93 #[.slice A xs.length c] W fun e w' => ∃ v, e = .returned v ∧ byV v xs ∧ St w0 w' (byR v xs ++ R) := by
  cases A with
  | none =>
    obtain rfl : xs = [] := by
      rcases Nat.eq_zero_or_pos xs.length with h0 | h0
      · exact List.eq_nil_of_length_eq_zero h0
      · obtain ⟨ad, e, _⟩ := hr.2.2 h0; cases e
    have H := Lib.hid h
    have qn : (binOp .eql 22 (.slice none 0 c) (.slice none 0 0)).run Tryd.prog W = .ok (.bool true) W := Lib.run_eql_slice_nil W _ _ none 0 c 0 0 Tryd.underlying22
    clear h hr hl
    go_enter Tryd.func93, Tryd.ntmps93
    go_wp2_with fail
    go_ret
    exact ⟨NL, rfl, byV_nil, H.out⟩
  | some ad =>
    obtain ⟨W1, hW1⟩ : ∃ W1, W1 = W.alloc (.cells #[] 5) := ⟨_, rfl⟩
    obtain ⟨g, hg⟩ : ∃ g, g = W.heap.size := ⟨_, rfl⟩
    have h1 : St w0 W1 (byR (.slice (some ⟨g, 0, none⟩) 0 0) [] ++ R) := by
      rw [hW1, hg]
      exact h.new (.cells #[] 5) (P := rowP 0 5 1 0 []) ⟨#[], rfl, rfl, rfl⟩
    have hv1 : byV (.slice (some ⟨g, 0, none⟩) 0 0) [] := ⟨rfl, .inr ⟨g, 0, rfl, Nat.le_refl _, Nat.zero_le _⟩⟩
    have hr1 : ReadsOf I 0 W1 (some ad) xs.length xs := by rw [hW1]; exact hr.below ((Below.refl _ _).alloc (Nat.le_refl _) _)
    obtain ⟨v', W', hrun, h2, hv2⟩ := by_appends h1 hv1 xs ad c hr1 (by simp; exact hl)
    rw [List.nil_append] at h2 hv2
    have H := Lib.hid h2
    have qn : (binOp .eql 22 (.slice (some ad) xs.length c) (.slice none 0 0)).run Tryd.prog W = .ok (.bool false) W := Lib.run_eql_slice_nil W _ _ (some ad) xs.length c 0 0 Tryd.underlying22
    have HV := Lib.hid hv2
    have HR := Lib.hid hrun
    have HW1 := Lib.hid hW1
    have HG := Lib.hid hg
    clear h h1 hv1 hr hr1 h2 hv2 hrun hW1 hg hl
    go_enter Tryd.func93, Tryd.ntmps93
    go_wp2_with (at_builtin; rw [← HW1.out, ← HG.out]; refine wpList_append_run (o := ⟨some 7, _, _, _, _, _⟩) rfl (.tmp 5) (.tmp 6) 22 rfl (.slice (some ⟨g, 0, none⟩) 0 0) (.slice (some ad) xs.length c) v' W' rfl rfl HR.out ?_)
    go_ret
    exact ⟨v', rfl, HV.out, H.out⟩
set_option maxRecDepth 20000 in
set_option maxHeartbeats 1600000 in
theorem last_calls {w0 W : World} {R : List Ent} {g : Nat} {s : LS} (h : St w0 W (lkE g s ++ R)) (hV : LkV s) (hb : s.gone + s.items.length < 18446744073709551616) :
    Calls Tryd.prog 94 #[.pointer (some ⟨g, 5, none⟩)] W fun e w' => e = .returned (.int .u64 ((s.gone + s.items.length : Nat) : Int)) ∧ Below W.heap.size W w' := by
  obtain ⟨n, hn⟩ : ∃ n, n = s.items.length := ⟨_, rfl⟩
  obtain ⟨A5, c5, e5⟩ := oV_form hV.row
  have k5 : W.drew.cell? ⟨g, 5, none⟩ = some s.iv := lk_cell h.drew 5 rfl
  have k6 : W.drew.cell? ⟨g, 6, none⟩ = some (.int .u64 (s.gone : Int)) := lk_cell h.drew 6 rfl
  rw [← hn] at e5 hb ⊢
  rw [e5] at k5
  have u1 : IntKind.u64.wrap (n : Int) = (n : Int) := IntWalk.u64_in _ ⟨by omega, by omega⟩
  have u2 : IntKind.u64.wrap ((s.gone : Int) + (n : Int)) = (s.gone : Int) + (n : Int) := IntWalk.u64_in _ ⟨by omega, by omega⟩
  obtain ⟨m, hm⟩ : ∃ m, m = s.gone + n := ⟨_, rfl⟩
  have HALL : Hid (W.drew.cell? ⟨g, 5, none⟩ = some (.slice A5 n c5) ∧ W.drew.cell? ⟨g, 6, none⟩ = some (.int .u64 (s.gone : Int))) := ⟨k5, k6⟩
  clear h hV e5 k5 k6 hb hn hm m
  go_enter Tryd.func94, Tryd.ntmps94
  go_upto_region 1 with fail
  have SM : ∀ (bb0 : Bool) (w9 : World), (fun (_ : Bool) (w9 : World) => w9.cell? ⟨g, 5, none⟩ = some (.slice A5 n c5) ∧ w9.cell? ⟨g, 6, none⟩ = some (.int .u64 (s.gone : Int))) bb0 w9 → (fun (_ : Bool) (w9 : World) => w9.cell? ⟨g, 5, none⟩ = some (.slice A5 n c5) ∧ w9.cell? ⟨g, 6, none⟩ = some (.int .u64 (s.gone : Int))) true w9 := fun _ _ h => h
  refine RegL.begin_of (k := 99) (S := fun (_ : Bool) (w9 : World) => w9.cell? ⟨g, 5, none⟩ = some (.slice A5 n c5) ∧ w9.cell? ⟨g, 6, none⟩ = some (.int .u64 (s.gone : Int))) (by kernel_rfl) ?_
  refine RegL.take_w (i := 0) (oi := ⟨some 3, _, _, _, _, _⟩) (v := ?_) SM rfl (by decide) (by kernel_rfl) (by kernel_rfl) (by kernel_rfl) (fun _ _ _ h => h) (Or.inl ⟨by rfl, ?_⟩) (HALL.out) ?_
  rotate_left
  · intro w9 hw9; obtain ⟨q1, q2⟩ := hw9; go_simp; try with_reducible rfl
  try simp only [Act.put, List.setIfInBounds_toArray, List.set_cons_zero, List.set_cons_succ]
  refine RegL.take_w (i := 1) (oi := ⟨some 4, _, _, _, _, _⟩) (v := ?_) SM rfl (by decide) (by kernel_rfl) (by kernel_rfl) (by kernel_rfl) (fun _ _ _ h => h) (Or.inl ⟨by rfl, ?_⟩) (HALL.out) ?_
  rotate_left
  · intro w9 hw9; obtain ⟨q1, q2⟩ := hw9; go_simp; try with_reducible rfl
  try simp only [Act.put, List.setIfInBounds_toArray, List.set_cons_zero, List.set_cons_succ]
  refine RegL.take_w (i := 2) (oi := ⟨some 5, _, _, _, _, _⟩) (v := ?_) SM rfl (by decide) (by kernel_rfl) (by kernel_rfl) (by kernel_rfl) (fun _ _ _ h => h) (Or.inl ⟨by rfl, ?_⟩) (HALL.out) ?_
  rotate_left
  · intro w9 hw9; obtain ⟨q1, q2⟩ := hw9; go_simp; try with_reducible rfl
  try simp only [Act.put, List.setIfInBounds_toArray, List.set_cons_zero, List.set_cons_succ]
  refine RegL.take_w (i := 3) (oi := ⟨some 6, _, _, _, _, _⟩) (v := ?_) SM rfl (by decide) (by kernel_rfl) (by kernel_rfl) (by kernel_rfl) (fun _ _ _ h => h) (Or.inl ⟨by rfl, ?_⟩) (HALL.out) ?_
  rotate_left
  · intro w9 hw9; obtain ⟨q1, q2⟩ := hw9; go_simp; try with_reducible rfl
  try simp only [Act.put, List.setIfInBounds_toArray, List.set_cons_zero, List.set_cons_succ]
  refine RegL.take_w (i := 4) (oi := ⟨some 7, _, _, _, _, _⟩) (v := ?_) SM rfl (by decide) (by kernel_rfl) (by kernel_rfl) (by kernel_rfl) (fun _ _ _ h => h) (Or.inl ⟨by rfl, ?_⟩) (HALL.out) ?_
  rotate_left
  · intro w9 hw9; obtain ⟨q1, q2⟩ := hw9; go_simp; try with_reducible rfl
  try simp only [Act.put, List.setIfInBounds_toArray, List.set_cons_zero, List.set_cons_succ]
  refine RegL.take_w (i := 5) (oi := ⟨some 8, _, _, _, _, _⟩) (v := ?_) SM rfl (by decide) (by kernel_rfl) (by kernel_rfl) (by kernel_rfl) (fun _ _ _ h => h) (Or.inl ⟨by rfl, ?_⟩) (HALL.out) ?_
  rotate_left
  · intro w9 hw9; obtain ⟨q1, q2⟩ := hw9; go_simp; try with_reducible rfl
  try simp only [Act.put, List.setIfInBounds_toArray, List.set_cons_zero, List.set_cons_succ]
  refine RegL.take_w (i := 6) (oi := ⟨some 9, _, _, _, _, _⟩) (v := ?_) SM rfl (by decide) (by kernel_rfl) (by kernel_rfl) (by kernel_rfl) (fun _ _ _ h => h) (Or.inl ⟨by rfl, ?_⟩) (HALL.out) ?_
  rotate_left
  · intro w9 hw9; obtain ⟨q1, q2⟩ := hw9; go_simp; try with_reducible rfl
  try simp only [Act.put, List.setIfInBounds_toArray, List.set_cons_zero, List.set_cons_succ]
  refine RegL.take_w (i := 7) (oi := ⟨some 10, _, _, _, _, _⟩) (v := ?_) SM rfl (by decide) (by kernel_rfl) (by kernel_rfl) (by kernel_rfl) (fun _ _ _ h => h) (Or.inl ⟨by rfl, ?_⟩) (HALL.out) ?_
  rotate_left
  · intro w9 hw9; obtain ⟨q1, q2⟩ := hw9; go_simp; try with_reducible rfl
  try simp only [Act.put, List.setIfInBounds_toArray, List.set_cons_zero, List.set_cons_succ]
  refine RegL.take_w (i := 8) (oi := ⟨some 11, _, _, _, _, _⟩) (v := ?_) SM rfl (by decide) (by kernel_rfl) (by kernel_rfl) (by kernel_rfl) (fun _ _ _ h => h) (Or.inl ⟨by rfl, ?_⟩) (HALL.out) ?_
  rotate_left
  · intro w9 hw9; obtain ⟨q1, q2⟩ := hw9; go_simp; try with_reducible rfl
  try simp only [Act.put, List.setIfInBounds_toArray, List.set_cons_zero, List.set_cons_succ]
  refine RegL.take_w (i := 9) (oi := ⟨some 12, _, _, _, _, _⟩) (v := ?_) SM rfl (by decide) (by kernel_rfl) (by kernel_rfl) (by kernel_rfl) (fun _ _ _ h => h) (Or.inl ⟨by rfl, ?_⟩) (HALL.out) ?_
  rotate_left
  · intro w9 hw9; obtain ⟨q1, q2⟩ := hw9; go_simp; try with_reducible rfl
  try simp only [Act.put, List.setIfInBounds_toArray, List.set_cons_zero, List.set_cons_succ]
  refine RegL.take_w (i := 10) (oi := ⟨some 13, _, _, _, _, _⟩) (v := ?_) SM rfl (by decide) (by kernel_rfl) (by kernel_rfl) (by kernel_rfl) (fun _ _ _ h => h) (Or.inl ⟨by rfl, ?_⟩) (HALL.out) ?_
  rotate_left
  · intro w9 hw9; obtain ⟨q1, q2⟩ := hw9; go_simp; try with_reducible rfl
  try simp only [Act.put, List.setIfInBounds_toArray, List.set_cons_zero, List.set_cons_succ]
  refine RegL.take_w (i := 11) (oi := ⟨some 2, _, _, _, _, _⟩) (v := ?_) SM rfl (by decide) (by kernel_rfl) (by kernel_rfl) (by kernel_rfl) (fun _ _ _ h => h) (Or.inl ⟨by rfl, ?_⟩) (HALL.out) ?_
  rotate_left
  · intro w9 hw9; obtain ⟨q1, q2⟩ := hw9; go_simp; try with_reducible rfl
  try simp only [Act.put, List.setIfInBounds_toArray, List.set_cons_zero, List.set_cons_succ]
  refine RegL.done_of (by kernel_rfl) ?_ _
  go_wp2_with fail
  go_ret
  exact ⟨by simp, (Below.refl _ _).drew⟩
set_option maxRecDepth 20000 in
set_option maxHeartbeats 1600000 in
theorem put_calls {w0 W : World} {R : List Ent} {g : Nat} {s : LS} {v : Value} {xs : List Int} (h : St w0 W (lkE g s ++ (byR v xs ++ R))) (hV : LkV s) (hv : byV v xs) (hy : Byt xs) (hx : xs.length ≤ 2048) (hn : s.items.length ≤ 1000000) :
    Calls Tryd.prog 95 #[.pointer (some ⟨g, 5, none⟩), v] W fun e w' => e = .returned (.tuple #[]) ∧ ∃ iv', LkV { s with iv := iv', items := s.items ++ [(v, xs)] } ∧ St w0 w' (lkE g { s with iv := iv', items := s.items ++ [(v, xs)] } ++ R) := by
  obtain ⟨A5, c5, e5⟩ := oV_form hV.row
  obtain ⟨Av, cv, rfl⟩ := byV_form hv
  obtain ⟨W1, hW1⟩ : ∃ W1, W1 = W.alloc (.cells #[.slice Av xs.length cv] 22) := ⟨_, rfl⟩
  obtain ⟨bx, hbx⟩ : ∃ bx, bx = W.heap.size := ⟨_, rfl⟩
  have k5 : W.cell? ⟨g, 5, none⟩ = some s.iv := lk_cell h 5 rfl
  have h1 := h.newB #[.slice Av xs.length cv] 22
  rw [← hW1, ← hbx] at h1
  have hx1 := h1.cellOf (g := bx) (cs := #[.slice Av xs.length cv]) (t := 22) (by simp) 0 rfl
  obtain ⟨iv', W2, hrun, h2, hv2⟩ := o_append (P := Tryd.prog) (h1.re (M := oE s.iv 22 s.items.length (s.items.map fun i => i.1) ++ (B g (lkC s) 128 :: (B s.gp (pcC s) 135 :: ((s.items.flatMap fun i => byR i.1 i.2) ++ (byR (.slice Av xs.length cv) xs ++ R))))) (fun x => by simp only [lkE, itemsE, cnt_append, cnt_cons]; omega)) hV.row 61 61 (.slice none 0 0) 24 Tryd.underlying61 infoL rfl (by omega) (by omega) ⟨bx, 0, none⟩ 1 (.slice Av xs.length cv) hx1 rfl
  have k5' : W2.cell? ⟨g, 5, none⟩ = some s.iv := h2.cellOf (g := g) (cs := lkC s) (t := 128) (by simp) 5 rfl
  have f5 : W2.frozen? ⟨g, 5, none⟩ = false := h2.freeOf (g := g) (cs := lkC s) (t := 128) (by simp) 5
  have h3 := (h2.re (M := B g (lkC s) 128 :: (oE iv' 22 (s.items.length + 1) ((s.items.map fun i => i.1) ++ [.slice Av xs.length cv]) ++ (B s.gp (pcC s) 135 :: ((s.items.flatMap fun i => byR i.1 i.2) ++ (byR (.slice Av xs.length cv) xs ++ R))))) (fun x => by simp only [cnt_append, cnt_cons]; omega)).put (cs' := lkC { s with iv := iv', items := s.items ++ [(.slice Av xs.length cv, xs)] }) 5 iv' rfl
  obtain ⟨A6, c6, rfl⟩ := oV_form hv2
  have H3 := Lib.hid h3
  have HV2 := Lib.hid hv2
  have HV := Lib.hid hV
  have HBV := Lib.hid hv
  have HBY := Lib.hid hy
  have HX := Lib.hid hx
  have HRUN := Lib.hid hrun
  have HW1 := Lib.hid hW1
  have HBX := Lib.hid hbx
  rw [e5] at k5 k5'
  rw [e5] at HRUN
  obtain ⟨n, hnn⟩ : ∃ n, n = s.items.length := ⟨_, rfl⟩
  rw [← hnn] at k5 k5' HRUN H3 HV2
  have HN := Lib.hid hnn
  clear h h1 h2 h3 hv2 hV hv hy hx hrun hW1 hbx e5 hx1 hn hnn
  go_enter Tryd.func95, Tryd.ntmps95
  go_wp2_with (at_builtin; rw [← HW1.out, ← HBX.out]; refine wpList_append_run (o := ⟨some 11, _, _, _, _, _⟩) rfl (.tmp 8) (.tmp 10) 61 rfl (.slice A5 n c5) (.slice (some ⟨bx, 0, none⟩) 1 1) (.slice A6 (n + 1) c6) W2 rfl rfl HRUN.out ?_)
  go_end0
  refine ⟨rfl, .slice A6 (n + 1) c6, ⟨HV.out.c, HV.out.g, HV.out.l, ?_, fun i hi => ?_⟩, ?_⟩
  · have := HV2.out
    simpa [HN.out] using this
  · rcases List.mem_append.1 hi with hi | hi
    · exact HV.out.by_ i hi
    · obtain rfl := List.mem_singleton.1 hi; exact ⟨HBV.out, HBY.out, HX.out⟩
  · exact H3.out.re (fun x => by simp only [lkE, pcC, itemsE, List.length_append, List.length_cons, List.length_nil, Nat.zero_add, List.map_append, List.map_cons, List.map_nil, List.flatMap_append, List.flatMap_cons, List.flatMap_nil, HN.out, cnt_append, cnt_cons, cnt_nil]; omega)
set_option maxRecDepth 20000 in
set_option maxHeartbeats 3200000 in
theorem drop_calls {w W : World} {R : List Ent} {g : Nat} {s : LS} (n : Nat) (h : St w W (lkE g s ++ R)) (hV : LkV s) (hb : s.gone + s.items.length < 18446744073709551616) :
    Calls Tryd.prog 92 #[.pointer (some ⟨g, 5, none⟩), .int .u64 (n : Int)] W fun e w' => e = .returned (.tuple #[]) ∧ ∃ iv', LkV { s with iv := iv', items := s.items.drop (min (n - s.gone) s.items.length), gone := s.gone + min (n - s.gone) s.items.length } ∧ St w w' (lkE g { s with iv := iv', items := s.items.drop (min (n - s.gone) s.items.length), gone := s.gone + min (n - s.gone) s.items.length } ++ R) := by
  obtain ⟨k, hk⟩ : ∃ k, k = min (n - s.gone) s.items.length := ⟨_, rfl⟩
  rw [← hk]
  have H := Lib.hid h
  have HV := Lib.hid hV
  have HK := Lib.hid hk
  have HB := Lib.hid hb
  clear h hV hk hb
  go_enter Tryd.func92, Tryd.ntmps92
  go_wp2_with fail
  go_loopg [] k (fun gk wr => ∃ j : Nat, gk = k - j ∧ j ≤ k ∧ ∃ iv', LkV { s with iv := iv', items := s.items.drop j, gone := s.gone + j } ∧ St w wr (lkE g { s with iv := iv', items := s.items.drop j, gone := s.gone + j } ++ R))
  case atStart => exact ⟨0, rfl, Nat.zero_le _, s.iv, HV.out, H.out⟩
  case round =>
    obtain ⟨j, hgk, hj, iv', hv, hs⟩ := hrel
    have hlen : (s.items.drop j).length = s.items.length - j := List.length_drop
    obtain ⟨A5, c5, e5⟩ := oV_form hv.row
    simp only at e5
    have k5 : wr.cell? ⟨g, 5, none⟩ = some iv' := lk_cell hs 5 rfl
    have k6 : wr.cell? ⟨g, 6, none⟩ = some (.int .u64 ((s.gone + j : Nat) : Int)) := lk_cell hs 6 rfl
    have f5 := lk_free hs 5
    have f6 := lk_free hs 6
    obtain ⟨gj, hgj⟩ : ∃ gj, gj = s.gone + j := ⟨_, rfl⟩
    rw [← hgj] at k6
    have HGK := Lib.hid hgk
    by_cases hlt : j < k
    · have hk' : k ≤ n - s.gone ∧ k ≤ s.items.length := by rw [HK.out]; exact ⟨Nat.min_le_left _ _, Nat.min_le_right _ _⟩
      have hb := HB.out
      have i1 : (gj : Int) < (n : Int) := by omega
      obtain ⟨m, hm⟩ : ∃ m, m = (s.items.drop (j + 1)).length := ⟨_, rfl⟩
      have hm2 : s.items.length - j = m + 1 := by rw [hm, List.length_drop]; omega
      have hd : s.items.drop j = s.items[j] :: s.items.drop (j + 1) := List.drop_eq_getElem_cons (by omega)
      have hrow := hv.row
      simp only at hrow
      rw [hlen, hm2] at e5
      rw [e5] at hrow k5
      rw [hlen, hm2, hd, List.map_cons] at hrow
      obtain ⟨g5, off, rfl, hcap, hcm⟩ : ∃ g5 off, A5 = some ⟨g5, off, none⟩ ∧ m + 1 ≤ c5 ∧ c5 ≤ maxLen := by
        rcases hrow.2 with ⟨q1, q2⟩ | ⟨g5, off, _, q1, q2, q3⟩
        · omega
        · injection q1 with q1 _ q4; subst q4; exact ⟨g5, off, q1, q2, q3⟩
      have h1 : St w wr (oE (.slice (some ⟨g5, off, none⟩) (m + 1) c5) 22 (m + 1) ((s.items[j]).1 :: (s.items.drop (j + 1)).map fun i => i.1) ++ (B g (lkC { s with iv := .slice (some ⟨g5, off, none⟩) (m + 1) c5, items := s.items.drop j, gone := s.gone + j }) 128 :: (B s.gp (pcC s) 135 :: (((s.items.drop (j + 1)).flatMap fun i => byR i.1 i.2) ++ R)))) := by
        have := hs
        rw [e5] at this
        have hl2 : (s.items[j] :: s.items.drop (j + 1)).length = m + 1 := by rw [← hd, hlen, hm2]
        exact this.re (fun x => by simp only [lkE, pcC, itemsE, hd, hl2, List.map_cons, List.flatMap_cons, cnt_append, cnt_cons]; omega)
      obtain ⟨h2, hv2⟩ := o_cut h1 hrow
      have hby : ∀ i, i ∈ s.items.drop (j + 1) → byV i.1 i.2 ∧ Byt i.2 ∧ i.2.length ≤ 2048 := fun i hi => HV.out.by_ i (List.mem_of_mem_drop hi)
      have u1 : IntKind.u64.wrap ((gj : Int) + 1) = (gj : Int) + 1 := IntWalk.u64_in _ ⟨by omega, by omega⟩
      have i3 : (1 : Int) ≤ ((m : Int) + 1) := by omega
      have i4 : (0 : Int) < ((m : Int) + 1) := by omega
      have i5 : ((m : Int) + 1) ≤ (c5 : Int) := by omega
      by_cases hc1 : c5 = 1
      · subst hc1
        obtain rfl : m = 0 := by omega
        rw [if_pos rfl] at h2 hv2
        simp only [Nat.sub_self] at h2 hv2
        have H2 := Lib.hid h2
        have HV2 := Lib.hid hv2
        have HM := Lib.hid hm
        have HBY := Lib.hid hby
        have HLT := Lib.hid hlt
        have HGJ := Lib.hid hgj
        clear h1 h2 hv2 hrow hs hv hd hm hm2 e5 hlen hk' hb hby hlt hgj hgk hcap hcm
        go_wp2_with fail
        go_roundg (k - (j + 1))
        case measure => have := HGK.out; have := HLT.out; omega
        case rel =>
          have e6 : ((gj : Int) + 1) = ((s.gone + (j + 1) : Nat) : Int) := by rw [HGJ.out]; omega
          refine ⟨j + 1, rfl, by have := HLT.out; omega, .slice (some ⟨g5, off, none⟩) 0 0, ⟨HV.out.c, HV.out.g, HV.out.l, by show oV _ (s.items.drop (j + 1)).length _; rw [← HM.out]; exact HV2.out, HBY.out⟩, ?_⟩
          rw [e6]
          exact (((H2.out.re (M := B g (lkC { s with iv := .slice (some ⟨g5, off, none⟩) (0 + 1) 1, items := s.items.drop j, gone := s.gone + j }) 128 :: (oE (.slice (some ⟨g5, off, none⟩) 0 0) 22 (0) ((s.items.drop (j + 1)).map fun i => i.1) ++ (B s.gp (pcC s) 135 :: (((s.items.drop (j + 1)).flatMap fun i => byR i.1 i.2) ++ R)))) (fun x => by simp only [cnt_append, cnt_cons]; omega)).put (cs' := lkC { s with iv := .slice (some ⟨g5, off, none⟩) 0 0, items := s.items.drop j, gone := s.gone + j }) 5 (.slice (some ⟨g5, off, none⟩) 0 0) rfl).put (cs' := lkC { s with iv := .slice (some ⟨g5, off, none⟩) 0 0, items := s.items.drop (j + 1), gone := s.gone + (j + 1) }) 6 (.int .u64 ((s.gone + (j + 1) : Nat) : Int)) rfl).re (fun x => by simp only [lkE, pcC, itemsE, ← HM.out, cnt_append, cnt_cons]; omega)
      · rw [if_neg hc1] at h2 hv2
        have H2 := Lib.hid h2
        have HV2 := Lib.hid hv2
        have HM := Lib.hid hm
        have HBY := Lib.hid hby
        have HLT := Lib.hid hlt
        have HGJ := Lib.hid hgj
        clear h1 h2 hv2 hrow hs hv hd hm hm2 e5 hlen hk' hb hby hlt hgj hgk hcap hcm
        go_wp2_with fail
        go_roundg (k - (j + 1))
        case measure => have := HGK.out; have := HLT.out; omega
        case rel =>
          have e6 : ((gj : Int) + 1) = ((s.gone + (j + 1) : Nat) : Int) := by rw [HGJ.out]; omega
          refine ⟨j + 1, rfl, by have := HLT.out; omega, .slice (some ⟨g5, off + 1, none⟩) m (c5 - 1), ⟨HV.out.c, HV.out.g, HV.out.l, by show oV _ (s.items.drop (j + 1)).length _; rw [← HM.out]; exact HV2.out, HBY.out⟩, ?_⟩
          rw [e6]
          exact (((H2.out.re (M := B g (lkC { s with iv := .slice (some ⟨g5, off, none⟩) (m + 1) c5, items := s.items.drop j, gone := s.gone + j }) 128 :: (oE (.slice (some ⟨g5, off + 1, none⟩) m (c5 - 1)) 22 (m) ((s.items.drop (j + 1)).map fun i => i.1) ++ (B s.gp (pcC s) 135 :: (((s.items.drop (j + 1)).flatMap fun i => byR i.1 i.2) ++ R)))) (fun x => by simp only [cnt_append, cnt_cons]; omega)).put (cs' := lkC { s with iv := .slice (some ⟨g5, off + 1, none⟩) m (c5 - 1), items := s.items.drop j, gone := s.gone + j }) 5 (.slice (some ⟨g5, off + 1, none⟩) m (c5 - 1)) rfl).put (cs' := lkC { s with iv := .slice (some ⟨g5, off + 1, none⟩) m (c5 - 1), items := s.items.drop (j + 1), gone := s.gone + (j + 1) }) 6 (.int .u64 ((s.gone + (j + 1) : Nat) : Int)) rfl).re (fun x => by simp only [lkE, pcC, itemsE, ← HM.out, cnt_append, cnt_cons]; omega)
    · have hjk : j = k := by omega
      have hk' := HK.out
      by_cases hgn : gj < n
      · have i1 : (gj : Int) < (n : Int) := by omega
        have h0 : s.items.length - j = 0 := by omega
        rw [hlen, h0] at e5
        rw [e5] at k5
        have HV' := Lib.hid hv
        have HS := Lib.hid hs
        clear hs hv hlen e5 hk' hgn hgj hgk
        go_wp2_with fail
        go_end0
        subst hjk
        exact ⟨rfl, iv', HV'.out, HS.out⟩
      · have i1 : ¬ (gj : Int) < (n : Int) := by omega
        have HV' := Lib.hid hv
        have HS := Lib.hid hs
        clear hs hv hlen e5 hk' hgn hgj hgk
        go_wp2_with fail
        go_end0
        subst hjk
        exact ⟨rfl, iv', HV'.out, HS.out⟩
end Go.Proofs.YtoeiaimoppmjdaaDoor.Lk
/- Send of a link. Printed by gen_hear.py. -/
namespace Go.Proofs.YtoeiaimoppmjdaaDoor.Lk
open Go.RowKit Go.Proofs.YtoeiaimoppmjdaaDoorW.PrintWords Go.Proofs.YtoeiaimoppmjdaaDoor.Mem Go.Proofs.YtoeiaimoppmjdaaDoor.Wr Go.Proofs.YtoeiaimoppmjdaaDoor.Bytes Go.Proofs.YtoeiaimoppmjdaaDoor.App
open Go.Proofs.YtoeiaimoppmjdaaDoor.Pace (nxt IsO dbl reset_calls)
set_option linter.unusedVariables false
set_option linter.unusedSimpArgs false
/-- The pace begins anew. -/
abbrev freshP (s : LS) : LS := { s with left := 0, gap := 1 }
theorem freshV {s : LS} (h : LkV s) : LkV (freshP s) := ⟨h.c, ⟨Int.le_refl _, h.c.1⟩, ⟨Int.le_refl _, by have := h.c; show 0 ≤ s.cap; omega⟩, h.row, h.by_⟩
theorem St.reset {w0 W W' : World} {R : List Ent} {g : Nat} {s : LS} (h : St w0 W (lkE g s ++ R)) (hV : LkV s) (ho : IsO W' s.gp s.cap 0 1) (hg : W.grownBy W' (some s.gp)) : St w0 W' (lkE g (freshP s) ++ R) := (St.paced h hV ho hg).1
def sentP (s : LS) : LS := if s.items.length = 0 then freshP s else s
theorem sentV {s : LS} (h : LkV s) : LkV (sentP s) := by unfold sentP; split; exact freshV h; exact h
theorem sent_items (s : LS) : (sentP s).items = s.items := by unfold sentP; split <;> rfl
/-- Bytes that can be read as long as R is held. -/
def RdR (w0 : World) (R : List Ent) (A : Option Addr) (xs : List Int) : Prop := ∀ (W' : World) (E : List Ent), St w0 W' (E ++ R) → ReadsOf I 0 W' A xs.length xs
theorem rdR_below {w0 : World} {R : List Ent} {A : Option Addr} {xs : List Int} (h : ReadsOf I 0 w0 A xs.length xs) : RdR w0 R A xs := fun W' E hs => hs.reads h
theorem rdR_held {w0 : World} {R : List Ent} {A : Option Addr} {c : Nat} {xs : List Int} (hV : byV (.slice A xs.length c) xs) (hc : ∀ a, cnt a (byR (.slice A xs.length c) xs) ≤ cnt a R) : RdR w0 R A xs := fun W' E hs => by_reads hs (fun a => by have := hc a; rw [cnt_append]; omega) hV
theorem rdR_nil {w0 : World} {R : List Ent} : RdR w0 R none [] := fun W' E hs => ReadsOf.nil I 0 W'
set_option maxRecDepth 100000 in
set_option maxHeartbeats 3200000 in
theorem send_yes {w0 W : World} {R : List Ent} {g : Nat} {s : LS} (xs : List Int) (A : Option Addr) (c : Nat) (h : St w0 W (lkE g s ++ R)) (hV : LkV s) (hr : RdR w0 R A xs) (hy : Byt xs) (hx : xs.length ≤ 2048) (hni : s.items.length ≤ 1000000) (hl : s.gone + s.items.length < 1099511627776) :
    Calls Tryd.prog 55 #[pt g, .slice A xs.length c] W fun e w' => e = .returned (.int .i64 0) ∧ ∃ iv' v, LkV { sentP s with iv := iv', items := s.items ++ [(v, xs)] } ∧ St w0 w' (lkE g { sentP s with iv := iv', items := s.items ++ [(v, xs)] } ++ R) := by
  obtain ⟨n, hn⟩ : ∃ n, n = s.items.length := ⟨_, rfl⟩
  obtain ⟨A5, c5, e5⟩ := oV_form hV.row
  have CL := Lib.hid (last_calls h hV (by omega))
  rw [← hn] at hni hl e5 CL
  have k1 : ¬ (2048 : Int) < (xs.length : Int) := by omega
  obtain ⟨m, hm⟩ : ∃ m, m = s.gone + n := ⟨_, rfl⟩
  rw [← hm] at CL hl
  have k2 := Lib.hid (decide_eq_false (p := (1099511627776 : Int) ≤ (m : Int)) (by omega))
  have HS := Lib.hid h
  have HV := Lib.hid hV
  have HR := Lib.hid hr
  have HBY := Lib.hid hy
  have HX := Lib.hid hx
  have HNI := Lib.hid hni
  have HN := Lib.hid hn
  have E5 := Lib.hid e5
  clear h hV hr hy hx hni hn hm hl e5
  go_enter Tryd.func55, Tryd.ntmps55
  go_wp2_with fail
  refine CL.out.mono ?_; rintro e w1 ⟨rfl, hb1⟩
  have h1 := HS.out.below hb1
  have k5 : w1.cell? ⟨g, 5, none⟩ = some s.iv := lk_cell h1 5 rfl
  have k9 : w1.cell? ⟨g, 9, none⟩ = some (pt s.gp) := lk_cell h1 9 rfl
  rw [E5.out] at k5
  have H1 := Lib.hid h1
  clear hb1 h1
  replace k2 := k2.out
  go_upto_region 3 with fail
  clear k2
  go_cut [21] (fun s21 wx => s21 = .bool (decide (n = 0)) ∧ wx = w1)
  case first =>
    by_cases h0 : n = 0
    · have hd := Lib.hid (decide_eq_true h0)
      rw [h0] at k5
      clear h0
      go_wp2_with fail
      go_meet
      exact ⟨by rw [hd.out], rfl⟩
    · have j1 : ((n : Int) == 0) = false := by rw [beq_eq_false_iff_ne]; omega
      have hd := Lib.hid (decide_eq_false h0)
      clear h0
      go_wp2_with fail
      go_meet
      exact ⟨by rw [hd.out], rfl⟩
  case rest =>
    obtain ⟨hs21, hw1⟩ := hcut
    subst hs21
    rw [hw1]
    clear hw1 k5
    go_upto_if 21 with fail
    go_cut [] (fun wx => St w0 wx (lkE g (sentP s) ++ R))
    case first =>
      by_cases h0 : n = 0
      · rw [decide_eq_true h0]
        have es : sentP s = freshP s := by unfold sentP; rw [if_pos (by rw [← HN.out]; exact h0)]
        have ES := Lib.hid es
        have CR := Lib.hid (reset_calls s.gp s.cap s.left s.gap w1 (St.pace H1.out HV.out))
        clear es h0
        go_wp2_with fail
        refine CR.out.mono ?_; rintro e w2 ⟨rfl, ho, hg⟩
        have H2 := Lib.hid (St.reset H1.out HV.out ho hg)
        clear ho hg
        go_wp2_with fail
        go_meet
        rw [ES.out]
        exact H2.out
      · rw [decide_eq_false h0]
        have es : sentP s = s := by unfold sentP; rw [if_neg (by rw [← HN.out]; exact h0)]
        have ES := Lib.hid es
        clear es h0
        go_wp2_with fail
        go_meet
        rw [ES.out]
        exact H1.out
    case rest =>
      obtain ⟨w3, hw3⟩ : ∃ w3, w3 = wc := ⟨_, rfl⟩
      rw [← hw3] at hcut ⊢
      obtain ⟨s1, hs1⟩ : ∃ s1, s1 = sentP s := ⟨_, rfl⟩
      rw [← hs1] at hcut
      have HV1 : Hid (LkV s1) := by show LkV s1; rw [hs1]; exact sentV HV.out
      have HN1 : Hid (s1.items.length = n) := by show _ = _; rw [hs1, sent_items, HN.out]
      have HS1 := Lib.hid hs1
      have CC := Lib.hid (clone_calls xs A c hcut.drew (HR.out _ _ hcut.drew) (by have := HX.out; omega))
      clear hcut hw3 hs1 k9
      go_upto_region 5 with fail
      have SM : ∀ (bb0 : Bool) (w9 : World), (fun (_ : Bool) (_ : World) => True) bb0 w9 → (fun (_ : Bool) (_ : World) => True) true w9 := fun _ _ h => h
      refine RegL.begin_of (k := 99) (S := fun (_ : Bool) (_ : World) => True) (by kernel_rfl) ?_
      refine RegL.take_w (i := 0) (oi := ⟨some 27, _, _, _, _, _⟩) (v := ?_) SM rfl (by decide) (by kernel_rfl) (by kernel_rfl) (by kernel_rfl) (fun _ _ _ h => h) (Or.inl ⟨by rfl, ?_⟩) (trivial) ?_
      rotate_left
      · intro w9 hw9; have q1 := hw9; go_simp; try with_reducible rfl
      try simp only [Act.put, List.setIfInBounds_toArray, List.set_cons_zero, List.set_cons_succ]
      refine RegL.take_w (i := 1) (oi := ⟨some 28, _, _, _, _, _⟩) (v := ?_) SM rfl (by decide) (by kernel_rfl) (by kernel_rfl) (by kernel_rfl) (fun _ _ _ h => h) (Or.inl ⟨by rfl, ?_⟩) (trivial) ?_
      rotate_left
      · intro w9 hw9; have q1 := hw9; go_simp; try with_reducible rfl
      try simp only [Act.put, List.setIfInBounds_toArray, List.set_cons_zero, List.set_cons_succ]
      refine RegL.take_w (i := 2) (oi := ⟨some 29, _, _, _, _, _⟩) (v := ?_) SM rfl (by decide) (by kernel_rfl) (by kernel_rfl) (by kernel_rfl) (fun _ _ _ h => h) (Or.inl ⟨by rfl, ?_⟩) (trivial) ?_
      rotate_left
      · intro w9 hw9; have q1 := hw9; go_simp; try with_reducible rfl
      try simp only [Act.put, List.setIfInBounds_toArray, List.set_cons_zero, List.set_cons_succ]
      refine RegL.take_w (i := 3) (oi := ⟨some 30, _, _, _, _, _⟩) (v := ?_) SM rfl (by decide) (by kernel_rfl) (by kernel_rfl) (by kernel_rfl) (fun _ _ _ h => h) (Or.inl ⟨by rfl, ?_⟩) (trivial) ?_
      rotate_left
      · intro w9 hw9; have q1 := hw9; go_simp; try with_reducible rfl
      try simp only [Act.put, List.setIfInBounds_toArray, List.set_cons_zero, List.set_cons_succ]
      refine RegL.step_of (i := 4) (o := ⟨some 31, _, _, _, _, _⟩) (by kernel_rfl) rfl (fun K' hK => ?_)
      go_simp
      go_at_call 93
      (with_reducible refine CC.out.mono ?_)
      rintro e w4 ⟨v, rfl, hv4, h4⟩
      have CP := Lib.hid (put_calls (h4.re (M := lkE g s1 ++ (byR v xs ++ R)) (fun x => by simp only [cnt_append]; omega)) HV1.out hv4 HBY.out HX.out (by rw [HN1.out]; exact HNI.out))
      obtain ⟨Av, cv, rfl⟩ := byV_form hv4
      clear hv4 h4
      refine hK _ _ (trivial) ?_
      clear hK K'
      try simp only [Act.put, List.setIfInBounds_toArray, List.set_cons_zero, List.set_cons_succ]
      refine RegL.step_of (i := 5) (o := ⟨some 32, _, _, _, _, _⟩) (by kernel_rfl) rfl (fun K' hK => ?_)
      go_simp
      go_at_call 95
      (with_reducible refine CP.out.mono ?_)
      rintro e w5 ⟨rfl, iv', hv5, h5⟩
      have HV5 := Lib.hid hv5
      have H5 := Lib.hid h5
      clear hv5 h5
      refine hK _ _ (trivial) ?_
      clear hK K'
      try simp only [Act.put, List.setIfInBounds_toArray, List.set_cons_zero, List.set_cons_succ]
      refine RegL.done_of (by kernel_rfl) ?_ _
      go_wp2_with fail
      go_ret
      refine ⟨rfl, iv', .slice Av xs.length cv, ?_⟩
      have e1 := sent_items s
      rw [← HS1.out] at e1 ⊢
      rw [← e1]
      exact ⟨HV5.out, H5.out⟩
set_option maxRecDepth 20000 in
set_option maxHeartbeats 3200000 in
/-- What is too long is refused. -/
theorem send_long {w0 W : World} {R : List Ent} {g : Nat} {s : LS} (xs : List Int) (A : Option Addr) (c : Nat) (h : St w0 W (lkE g s ++ R)) (hx : 2048 < xs.length) (hm : xs.length ≤ 140737488355328) :
    Calls Tryd.prog 55 #[pt g, .slice A xs.length c] W fun e w' => e = .returned (.int .i64 140) ∧ W = w' := by
  have k1 : (2048 : Int) < (xs.length : Int) := by omega
  clear h hx
  go_enter Tryd.func55, Tryd.ntmps55
  go_wp2_with fail
  go_ret
  exact ⟨rfl, rfl⟩
end Go.Proofs.YtoeiaimoppmjdaaDoor.Lk
/- Plain: what is read, written anew, is what was read. -/
namespace Go.Proofs.YtoeiaimoppmjdaaDoor.Wr
open Go.RowKit Go.Proofs.YtoeiaimoppmjdaaDoor.Bytes
set_option linter.unusedVariables false
set_option linter.unusedSimpArgs false
theorem fixL_snoc (m c n : Nat) (hc : c < 256) : fixL (m * 256 + c) (n + 1) = fixL m n ++ [(c : Int)] := by
  apply List.ext_getElem
  · simp [fixL]
  · intro i h1 h2
    have hi : i < n + 1 := by simpa [fixL] using h1
    by_cases hn : i < n
    · rw [List.getElem_append_left (by simpa [fixL] using hn)]
      simp only [fixL, List.getElem_map, List.getElem_range]
      have e : n + 1 - 1 - i = (n - 1 - i) + 1 := by omega
      rw [e, Nat.pow_succ, Nat.mul_comm (256 ^ _) 256, ← Nat.div_div_eq_div_mul]
      congr 2
      have : (m * 256 + c) / 256 = m := by omega
      rw [this]
    · obtain rfl : i = n := by omega
      rw [List.getElem_append_right (by simp [fixL])]
      simp [fixL]
      omega
theorem fixL_numBE {l : List Int} (h : Byt l) : fixL (numBE l) l.length = l := by
  induction hl : l.length generalizing l with
  | zero => obtain rfl := List.eq_nil_of_length_eq_zero hl; simp [fixL]
  | succ n ih =>
    have hne : l ≠ [] := fun e => by rw [e] at hl; cases hl
    have e := (List.dropLast_concat_getLast hne).symm
    have h1 := ih (l := l.dropLast) (fun a ha => h a ((List.dropLast_sublist l).subset ha)) (by simp [hl])
    have h2 := h (l.getLast hne) (List.getLast_mem hne)
    rw [e, numBE_snoc, fixL_snoc _ _ _ (by omega), h1]
    congr 2
    omega
theorem numBE_fixL (n size : Nat) (h : n < 256 ^ size) : numBE (fixL n size) = n := by
  induction size generalizing n with
  | zero => simp at h; subst h; simp [fixL, numBE]
  | succ k ih =>
    have e : n = n / 256 * 256 + n % 256 := by omega
    rw [e, fixL_snoc _ _ _ (by omega), numBE_snoc, ih (n / 256) (by rw [Nat.pow_succ] at h; omega)]
    simp
    omega
theorem varR_vr (most : Nat) (l : List Int) (hb : Byt l) : ∀ (i n r k : Nat), varR most l i n = .ok r k → ∃ m, r = n + m * 128 ^ i ∧ i < k ∧ vr m = l.take (k - i) ∧ (0 < i → 0 < m) := by
  induction l with
  | nil => intro i n r k h; simp [varR] at h
  | cons c t ih =>
    intro i n r k h
    have hc := hb c (List.mem_cons_self)
    rw [varR] at h
    split at h
    · cases h
    split at h
    · cases h
    split at h
    · rename_i h1 h2 h128
      obtain ⟨m, hr, hk, hv, hm⟩ := ih (fun a ha => hb a (List.mem_cons_of_mem _ ha)) _ _ _ _ h
      have hm0 := hm (by omega)
      refine ⟨c.toNat % 128 + 128 * m, ?_, by omega, ?_, fun _ => by omega⟩
      · rw [hr, Nat.pow_succ, Nat.add_mul, Nat.add_assoc]
        congr 2
        rw [Nat.mul_comm 128 m, Nat.mul_assoc, Nat.mul_comm 128]
      · rw [vr_great (by omega), show k - i = (k - (i + 1)) + 1 by omega, List.take_succ_cons]
        congr 1
        · omega
        · rw [← hv]; congr 1; omega
    · rename_i h1 h2 h128
      split at h
      · cases h
      · rename_i hz
        split at h
        · cases h
        · injection h with hr hk
          subst hk
          refine ⟨c.toNat, ?_, by omega, ?_, fun h0 => by omega⟩
          · rw [← hr, Nat.mod_eq_of_lt (by omega)]
          · rw [vr_small (by omega), show i + 1 - i = 1 by omega]
            simp
            omega
theorem rVar_vr {xs : List Int} (hb : Byt xs) (s : RS) (most : Nat) (hs : s.met = 0) (h : (rVar xs s most).2.met = 0) :
    s.at_ < (rVar xs s most).2.at_ ∧ vr (rVar xs s most).1 = (xs.drop s.at_).take ((rVar xs s most).2.at_ - s.at_) := by
  unfold rVar at h ⊢
  rw [if_pos hs] at h ⊢
  split
  · rename_i n k hv
    obtain ⟨m, hr, hk, hm, _⟩ := varR_vr most _ (fun a ha => hb a (List.mem_of_mem_drop ha)) 0 0 n k hv
    simp only [Nat.pow_zero, Nat.mul_one, Nat.zero_add] at hr
    subst hr
    refine ⟨by simp; omega, ?_⟩
    rw [hm]
    simp
  · rename_i m hv
    rw [hv] at h
    have := varR_bad _ _ _ _ _ hv
    simp at h
    omega
theorem rVar_at {xs : List Int} (s : RS) (most : Nat) (h : (rVar xs s most).2.met ≠ 0) : (rVar xs s most).2.at_ = s.at_ := by
  unfold rVar at h ⊢
  split
  · rename_i h0
    rw [if_pos h0] at h
    split
    · rename_i n k hv; rw [hv] at h; simp at h
    · rfl
  · rfl
theorem rFix_at {xs : List Int} (s : RS) (size : Nat) (h : (rFix xs s size).2.met ≠ 0) : (rFix xs s size).2.at_ = s.at_ := by
  unfold rFix at h ⊢
  split
  · split
    · rename_i h0 h1; rw [if_pos h0, if_pos h1] at h; simp at h
    · rfl
  · rfl
theorem rNext_at {xs : List Int} (s : RS) (n : Int) (h : (rNext xs s n).2.met ≠ 0) : (rNext xs s n).2.at_ = s.at_ := by
  unfold rNext at h ⊢
  split
  · split
    · rename_i h0 h1; rw [if_pos h0, if_pos h1] at h; simp at h
    · rfl
  · rfl
theorem take_more (xs : List Int) (a b : Nat) (h : a ≤ b) : xs.take a ++ (xs.drop a).take (b - a) = xs.take b := by
  rw [← List.take_add, show a + (b - a) = b by omega]
/-- What a call reads, written anew: the bytes, and the state behind it. -/
structure Again (xs : List Int) (s : RS) (b : List Int) (s1 : RS) : Prop where
  bad : s1.met ≠ 0 → s1.at_ = s.at_
  good : s1.met = 0 → s.at_ ≤ s1.at_ ∧ s1.at_ ≤ xs.length ∧ b = (xs.drop s.at_).take (s1.at_ - s.at_)
theorem again_fix {xs : List Int} (hb : Byt xs) (s : RS) (size : Nat) (hs : s.met = 0) : Again xs s (fixL (rFix xs s size).1 size) (rFix xs s size).2 := by
  refine ⟨rFix_at s size, fun h => ?_⟩
  unfold rFix at h ⊢
  rw [if_pos hs] at h ⊢
  split at h
  · rename_i hle
    rw [if_pos hle]
    refine ⟨by simp, hle, ?_⟩
    have hl : ((xs.drop s.at_).take size).length = size := by simp; omega
    have := fixL_numBE (l := (xs.drop s.at_).take size) (fun a ha => hb a (List.mem_of_mem_drop (List.mem_of_mem_take ha)))
    rw [hl] at this
    simp only [Nat.add_sub_cancel_left]
    exact this
  · simp at h
theorem again_var {xs : List Int} (hb : Byt xs) (s : RS) (most : Nat) (hs : s.met = 0) (hok : s.Ok xs) : Again xs s (vr (rVar xs s most).1) (rVar xs s most).2 :=
  ⟨rVar_at s most, fun h => by
    have h2 := rVar_vr hb s most hs h
    exact ⟨by omega, (rVar_ok hok most).1.at_, h2.2⟩⟩
theorem rNext_good {xs : List Int} {s : RS} {n : Int} (hs : s.met = 0) (hok : s.Ok xs) (h : (rNext xs s n).2.met = 0) : s.at_ ≤ (rNext xs s n).2.at_ ∧ (rNext xs s n).2.at_ ≤ xs.length ∧ (rNext xs s n).1 = (xs.drop s.at_).take ((rNext xs s n).2.at_ - s.at_) := by
  unfold rNext at h ⊢
  rw [if_pos hs] at h ⊢
  split at h
  · rename_i hle
    rw [if_pos hle]
    have := hok.at_
    refine ⟨by simp, by simp; omega, ?_⟩
    simp only [Nat.add_sub_cancel_left]
  · simp at h
theorem again_raw {xs : List Int} (s : RS) (n : Int) (hs : s.met = 0) (hok : s.Ok xs) : Again xs s (rRaw xs s n).1 (rRaw xs s n).2 := by
  unfold rRaw
  split
  · exact ⟨fun _ => rfl, fun h => by simp at h⟩
  · exact ⟨rNext_at s n, fun h => rNext_good hs hok h⟩
theorem again_bytes {xs : List Int} (hb : Byt xs) (s : RS) (most : Int) (hs : s.met = 0) (hok : s.Ok xs) : Again xs s (vr (rBytes xs s most).1.length ++ (rBytes xs s most).1) (rBytes xs s most).2 := by
  unfold rBytes
  split
  · exact ⟨fun _ => rfl, fun h => by simp at h⟩
  · rename_i hov
    have hav := again_var hb s most.toNat hs hok
    obtain ⟨q, hq⟩ : ∃ q, q = rVar xs s most.toNat := ⟨_, rfl⟩
    rw [← hq] at hav hov ⊢
    obtain ⟨n, s1⟩ := q
    have hok1 : s1.Ok xs := by have := (rVar_ok hok most.toNat).1; rw [← hq] at this; exact this
    by_cases h1 : s1.met = 0
    · obtain ⟨g1, g2, g3⟩ := hav.good h1
      simp only at hov g1 g2 g3 ⊢
      have hle : ¬ xs.length < s1.at_ + n := fun e => hov ⟨h1, e⟩
      have e : rNext xs s1 (n : Int) = ((xs.drop s1.at_).take n, ⟨s1.at_ + n, 0⟩) := by
        unfold rNext
        rw [if_pos h1, if_pos (by omega), Int.toNat_natCast]
      rw [e]
      refine ⟨fun h => absurd rfl h, fun _ => ⟨by simp; omega, by simp; omega, ?_⟩⟩
      have hl : ((xs.drop s1.at_).take n).length = n := by simp; omega
      simp only
      rw [hl, g3]
      have : (xs.drop s1.at_) = (xs.drop s.at_).drop (s1.at_ - s.at_) := by rw [List.drop_drop]; congr 1; omega
      rw [this, show s1.at_ + n - s.at_ = (s1.at_ - s.at_) + n by omega, List.take_add]
    · have e := rNext_stopped (xs := xs) h1 (n : Int)
      simp only
      rw [e]
      exact ⟨fun _ => hav.bad h1, fun h => absurd h h1⟩
end Go.Proofs.YtoeiaimoppmjdaaDoor.Wr
/- Frames in bytes: plain. -/
namespace Go.Proofs.YtoeiaimoppmjdaaDoor.Lk
open Go.Proofs.YtoeiaimoppmjdaaDoor.Wr Go.Proofs.YtoeiaimoppmjdaaDoor.Bytes Go.Proofs.YtoeiaimoppmjdaaDoor.Crc
structure Frm where
  src : Int
  dst : Int
  mine : Nat
  yours : Nat
  seq : Nat
  ack : Nat
  body : List Int
/-- May a frame be? -/
def endsB (f : Frm) : Bool := decide (0 ≤ f.src) && decide (f.src ≤ 8) && decide (0 ≤ f.dst) && decide (f.dst ≤ 8)
def livesB (f : Frm) : Bool := decide (1 ≤ f.mine) && decide (f.mine ≤ 1099511627776) && decide (f.yours ≤ 1099511627776)
def fitB (f : Frm) : Bool := endsB f && livesB f && decide (f.seq ≤ 1099511627776) && decide (f.ack ≤ 1099511627776) && decide (f.body.length ≤ 2048) && (decide (0 < f.seq) || decide (f.body.length = 0))
structure Fit (f : Frm) : Prop where
  f0 : 0 ≤ f.src
  f1 : f.src ≤ 8
  t0 : 0 ≤ f.dst
  t1 : f.dst ≤ 8
  m0 : 1 ≤ f.mine
  m1 : f.mine ≤ 1099511627776
  y : f.yours ≤ 1099511627776
  s : f.seq ≤ 1099511627776
  a : f.ack ≤ 1099511627776
  b : f.body.length ≤ 2048
  sb : 0 < f.seq ∨ f.body.length = 0
theorem fit_iff (f : Frm) : fitB f = true ↔ Fit f := by
  unfold fitB endsB livesB
  simp only [Bool.and_eq_true, Bool.or_eq_true, decide_eq_true_eq]
  constructor
  · rintro ⟨⟨⟨⟨⟨⟨⟨⟨h1, h2⟩, h3⟩, h4⟩, ⟨h5, h6⟩, h7⟩, h8⟩, h9⟩, h10⟩, h11⟩
    exact ⟨h1, h2, h3, h4, h5, h6, h7, h8, h9, h10, h11⟩
  · rintro ⟨h1, h2, h3, h4, h5, h6, h7, h8, h9, h10, h11⟩
    exact ⟨⟨⟨⟨⟨⟨⟨⟨h1, h2⟩, h3⟩, h4⟩, ⟨h5, h6⟩, h7⟩, h8⟩, h9⟩, h10⟩, h11⟩
def nums (f : Frm) : List Nat := [f.mine, f.yours, f.seq, f.ack]
/-- The bytes ahead of the sum. -/
def ahead (f : Frm) : List Int := [f.src, f.dst] ++ (nums f).flatMap vr ++ (vr f.body.length ++ f.body)
def encF (f : Frm) : List Int := if fitB f = true then ahead f ++ fixL (crc (ahead f)).toNat 4 else []
theorem nums_len (f : Frm) : (nums f).length = 4 := rfl
theorem vrs_len (f : Frm) (h : Fit f) (k : Nat) : (((nums f).take k).flatMap vr).length ≤ 40 := by
  have h1 := vr_length f.mine 9 (by have := h.m1; omega)
  have h2 := vr_length f.yours 9 (by have := h.y; omega)
  have h3 := vr_length f.seq 9 (by have := h.s; omega)
  have h4 := vr_length f.ack 9 (by have := h.a; omega)
  have e : k = 0 ∨ k = 1 ∨ k = 2 ∨ k = 3 ∨ 4 ≤ k := by omega
  rcases e with rfl | rfl | rfl | rfl | e
  · simp [nums]
  · simp [nums]; omega
  · simp [nums]; omega
  · simp [nums]; omega
  · rw [List.take_of_length_le (by rw [nums_len]; exact e)]; simp [nums]; omega
theorem ahead_byt (f : Frm) (h : Fit f) (hb : Byt f.body) : Byt (ahead f) := by
  have := h.f0; have := h.f1; have := h.t0; have := h.t1
  intro a ha
  simp only [ahead, nums, List.flatMap_cons, List.flatMap_nil, List.mem_append, List.mem_cons, List.not_mem_nil, or_false, List.append_nil] at ha
  rcases ha with (((rfl | rfl) | ha | ha | ha | ha) | ha | ha)
  · omega
  · omega
  · exact vr_byt _ a ha
  · exact vr_byt _ a ha
  · exact vr_byt _ a ha
  · exact vr_byt _ a ha
  · exact vr_byt _ a ha
  · exact hb a ha
theorem ahead_len (f : Frm) (h : Fit f) : (ahead f).length ≤ 2100 := by
  have h1 := vrs_len f h 4
  rw [List.take_of_length_le (by rw [nums_len]; exact Nat.le_refl _)] at h1
  have h2 := vr_length f.body.length 9 (by have := h.b; omega)
  have := h.b
  simp only [ahead, List.length_append, List.length_cons, List.length_nil]
  omega
end Go.Proofs.YtoeiaimoppmjdaaDoor.Lk
/- Contracts: may a frame be (fit); EncodeFrame. -/
namespace Go.Proofs.YtoeiaimoppmjdaaDoor.Lk
open Go.RowKit Go.Proofs.YtoeiaimoppmjdaaDoorW.PrintWords Go.Proofs.YtoeiaimoppmjdaaDoor.Mem Go.Proofs.YtoeiaimoppmjdaaDoor.Wr Go.Proofs.YtoeiaimoppmjdaaDoor.Bytes Go.Proofs.YtoeiaimoppmjdaaDoor.Crc
set_option linter.unusedVariables false
set_option linter.unusedSimpArgs false
abbrev frC (f : Frm) (A : Option Addr) (c : Nat) : Array Value := #[.int .i64 f.src, .int .i64 f.dst, .int .u64 (f.mine : Int), .int .u64 (f.yours : Int), .int .u64 (f.seq : Int), .int .u64 (f.ack : Int), .slice A f.body.length c]
theorem ends_of {f : Frm} {b : Bool} (h : b = true ↔ (0 ≤ f.src ∧ f.src ≤ 8 ∧ 0 ≤ f.dst ∧ f.dst ≤ 8)) : endsB f = b := by
  rw [Bool.eq_iff_iff, h]; simp [endsB, and_assoc]
theorem lives_of {f : Frm} {b : Bool} (h : b = true ↔ (1 ≤ f.mine ∧ f.mine ≤ 1099511627776 ∧ f.yours ≤ 1099511627776)) : livesB f = b := by
  rw [Bool.eq_iff_iff, h]; simp [livesB, and_assoc]
theorem bool_eq {a b : Bool} (h : b = a) : Value.bool a = Value.bool b := by rw [h]
theorem bool_end {a b : Bool} (h : b = a) : Ending.returned (Value.bool a) = Ending.returned (Value.bool b) := by rw [h]
set_option maxRecDepth 20000 in
set_option maxHeartbeats 3200000 in
theorem fit_calls (f : Frm) (A : Option Addr) (c : Nat) (W : World) : Calls Tryd.prog 84 #[.agg (frC f A c)] W fun e w' => e = .returned (.bool (fitB f)) ∧ Below W.heap.size W w' := by
  obtain ⟨W1, hW1⟩ : ∃ W1, W1 = W.alloc (.cells (frC f A c) 69) := ⟨_, rfl⟩
  obtain ⟨bo, hbo⟩ : ∃ bo, bo = W.heap.size := ⟨_, rfl⟩
  have h1 := (St.start W).newB (frC f A c) 69
  rw [← hW1, ← hbo] at h1
  have x0 := h1.cellOf (g := bo) (cs := frC f A c) (t := 69) (by simp) 0 rfl
  have x1 := h1.cellOf (g := bo) (cs := frC f A c) (t := 69) (by simp) 1 rfl
  have x2 := h1.cellOf (g := bo) (cs := frC f A c) (t := 69) (by simp) 2 rfl
  have x3 := h1.cellOf (g := bo) (cs := frC f A c) (t := 69) (by simp) 3 rfl
  have x4 := h1.cellOf (g := bo) (cs := frC f A c) (t := 69) (by simp) 4 rfl
  have x5 := h1.cellOf (g := bo) (cs := frC f A c) (t := 69) (by simp) 5 rfl
  have x6 := h1.cellOf (g := bo) (cs := frC f A c) (t := 69) (by simp) 6 rfl
  have HB1 := Lib.hid h1.bl
  have HW1 := Lib.hid hW1
  have HBO := Lib.hid hbo
  clear h1 hW1 hbo
  go_enter Tryd.func84, Tryd.ntmps84
  go_upto_region 1 with fail
  rw [← HW1.out, ← HBO.out]
  go_cut [3] (fun s3 wx => s3 = .bool (endsB f) ∧ wx = W1)
  case first =>
    go_wp2_with fail
    all_goals
      go_meet
      refine ⟨?_, rfl⟩
      exact bool_eq (ends_of (f := f) (by simp only [decide_eq_true_eq, Bool.false_eq_true, true_iff, false_iff]; omega))
  case rest =>
    obtain ⟨hs, hw⟩ := hcut
    subst hs
    rw [hw]
    clear hw
    go_upto_region 2 with fail
    go_cut [4] (fun s4 wx => s4 = .bool (livesB f) ∧ wx = W1)
    case first =>
      go_wp2_with fail
      all_goals
        go_meet
        refine ⟨?_, rfl⟩
        exact bool_eq (lives_of (f := f) (by simp only [decide_eq_true_eq, Bool.false_eq_true, true_iff, false_iff]; omega))
    case rest =>
      obtain ⟨hs, hw⟩ := hcut
      subst hs
      rw [hw]
      clear hw
      have hfit : fitB f = (endsB f && livesB f && decide (f.seq ≤ 1099511627776) && decide (f.ack ≤ 1099511627776) && decide (f.body.length ≤ 2048) && (decide (0 < f.seq) || decide (f.body.length = 0))) := rfl
      obtain ⟨be, hbe⟩ : ∃ be, be = endsB f := ⟨_, rfl⟩
      obtain ⟨bl, hbl⟩ : ∃ bl, bl = livesB f := ⟨_, rfl⟩
      rw [← hbe, ← hbl] at hfit
      rw [← hbe, ← hbl]
      have HF := Lib.hid hfit
      clear hfit hbe hbl
      cases be <;> cases bl
      all_goals
        go_wp2_with fail
        all_goals
          go_ret
          refine ⟨bool_end ?_, HB1.out⟩
          rw [HF.out, Bool.eq_iff_iff]
          simp only [Bool.and_eq_true, Bool.or_eq_true, decide_eq_true_eq, beq_iff_eq, Bool.false_and, Bool.and_false, Bool.true_and, Bool.false_eq_true, false_and, true_and, false_iff, true_iff, iff_true, iff_false, not_false_eq_true]
          try omega
end Go.Proofs.YtoeiaimoppmjdaaDoor.Lk
/- What a link does when it hears a frame: plain. Printed by gen_hear.py. -/
namespace Go.Proofs.YtoeiaimoppmjdaaDoor.Lk
open Go.RowKit Go.Proofs.YtoeiaimoppmjdaaDoorW.PrintWords Go.Proofs.YtoeiaimoppmjdaaDoor.Mem Go.Proofs.YtoeiaimoppmjdaaDoor.Wr Go.Proofs.YtoeiaimoppmjdaaDoor.Bytes Go.Proofs.YtoeiaimoppmjdaaDoor.App
open Go.Proofs.YtoeiaimoppmjdaaDoor.Pace (nxt IsO dbl reset_calls)
set_option linter.unusedVariables false
set_option linter.unusedSimpArgs false
/-- Is the frame of no use to it? -/
def badP (s : LS) (f : Frm) : Bool := !(fitB f) || !(f.src == s.other) || !(f.dst == s.me) || decide (f.mine < s.known)
def newP (s : LS) (f : Frm) : LS := if s.known < f.mine then { s with known := f.mine, iv := NL, items := [], gone := 0, out := 0, heard := 0, ack := false, left := 0, gap := 1 } else s
def goneN (s : LS) (n : Nat) : Nat := min (n - s.gone) s.items.length
def dropP (s : LS) (n : Nat) : LS := { s with items := s.items.drop (goneN s n), gone := s.gone + goneN s n }
def ackP (s : LS) (f : Frm) : LS := if f.ack ≤ s.out then dropP s f.ack else s
def seqP (s : LS) (f : Frm) : LS := if 0 < f.seq then { s with ack := true } else s
def upB (s : LS) (f : Frm) : Bool := decide (f.seq = s.heard + 1)
def upP (s : LS) (f : Frm) : LS := if upB s f = true then { s with heard := s.heard + 1 } else s
def rightP (s : LS) (f : Frm) : LS := ackP { s with word := false } f
def hearP (s : LS) (f : Frm) : LS := if badP s f = true then s else if f.yours = s.life then upP (seqP (rightP (newP s f) f) f) f else { newP s f with word := true }
def handedP (s : LS) (f : Frm) : Bool := !(badP s f) && decide (f.yours = s.life) && upB (newP s f) f
def anewP (s : LS) (f : Frm) : Bool := !(badP s f) && decide (s.known < f.mine)
def fineP (s : LS) (f : Frm) : Bool := !(badP s f) && decide (f.yours = s.life)
def bodyP (s : LS) (f : Frm) : List Int := if handedP s f = true then f.body else []
/-- Two states that differ in the row's slice alone. -/
def Same (s t : LS) : Prop := ∃ iv, t = { s with iv := iv }
theorem newP_V {s : LS} (h : LkV s) (f : Frm) : LkV (newP s f) := by
  unfold newP; split
  · exact ⟨h.c, ⟨Int.le_refl _, h.c.1⟩, ⟨Int.le_refl _, by have := h.c; show 0 ≤ s.cap; omega⟩, oV_nil, fun i hi => (by cases hi)⟩
  · exact h
theorem newP_life (s : LS) (f : Frm) : (newP s f).life = s.life := by unfold newP; split <;> rfl
theorem newP_word (s : LS) (f : Frm) : (newP s f).gp = s.gp ∧ (newP s f).me = s.me ∧ (newP s f).other = s.other ∧ (newP s f).window = s.window ∧ (newP s f).cap = s.cap := by unfold newP; split <;> exact ⟨rfl, rfl, rfl, rfl, rfl⟩
theorem heard_right (s : LS) (f : Frm) : (seqP (rightP s f) f).heard = s.heard := by
  unfold seqP rightP ackP dropP; split <;> split <;> rfl
theorem newP_small {s : LS} {f : Frm} (h : s.gone + s.items.length < 18446744073709551616) (h2 : s.heard + 1 < 18446744073709551616) : (newP s f).gone + (newP s f).items.length < 18446744073709551616 ∧ (newP s f).heard + 1 < 18446744073709551616 := by
  unfold newP; split
  · exact ⟨by show 0 + 0 < _; omega, by show 0 + 1 < _; omega⟩
  · exact ⟨h, h2⟩
theorem results_cell {fn : Func} {a : Nat} {t : TypeId} (h : fn.results = #[.cell a t]) (tmps : Array Value) (P : Program) (w : World) (ad : Addr) (v : Value) (ha : tmps.getD a undef = .pointer (some ad)) (hl : (loadVar t ad).run P w = .ok v w) :
    (results fn tmps).run P w = .ok v w := by
  rw [Array.getD_eq_getD_getElem?] at ha
  simp [results, h, ha, asAddr, hl]
theorem infoF : (Tryd.prog.info? 69).map (·.size) = some 7 := by kernel_rfl
theorem range7 {w : World} {b : Nat} {v0 v1 v2 v3 v4 v5 v6 : Value} (q0 : w.cell? ⟨b, 0, none⟩ = some v0) (q1 : w.cell? ⟨b, 1, none⟩ = some v1) (q2 : w.cell? ⟨b, 2, none⟩ = some v2) (q3 : w.cell? ⟨b, 3, none⟩ = some v3) (q4 : w.cell? ⟨b, 4, none⟩ = some v4) (q5 : w.cell? ⟨b, 5, none⟩ = some v5) (q6 : w.cell? ⟨b, 6, none⟩ = some v6) : w.rangeAt b 0 [v0, v1, v2, v3, v4, v5, v6] := by
  intro j v hj
  rw [Nat.zero_add]
  match j, hj with
  | 0, hj => injection hj with hj; rw [← hj]; exact q0
  | 1, hj => injection hj with hj; rw [← hj]; exact q1
  | 2, hj => injection hj with hj; rw [← hj]; exact q2
  | 3, hj => injection hj with hj; rw [← hj]; exact q3
  | 4, hj => injection hj with hj; rw [← hj]; exact q4
  | 5, hj => injection hj with hj; rw [← hj]; exact q5
  | 6, hj => injection hj with hj; rw [← hj]; exact q6
  | n + 7, hj => cases hj
theorem St.self4 {w0 W : World} {R : List Ent} {g : Nat} {v0 v1 v2 v3 : Value} {t : TypeId} (h : St w0 W (B g #[v0, v1, v2, v3] t :: R)) :
    St w0 ((((W.setCell ⟨g, 0, none⟩ v0).setCell ⟨g, 1, none⟩ v1).setCell ⟨g, 2, none⟩ v2).setCell ⟨g, 3, none⟩ v3) (B g #[v0, v1, v2, v3] t :: R) :=
  (((h.put (cs' := #[v0, v1, v2, v3]) 0 v0 rfl).put (cs' := #[v0, v1, v2, v3]) 1 v1 rfl).put (cs' := #[v0, v1, v2, v3]) 2 v2 rfl).put (cs' := #[v0, v1, v2, v3]) 3 v3 rfl
end Go.Proofs.YtoeiaimoppmjdaaDoor.Lk
