/- Contracts of Look and of which. -/
import Derived.Test.YtfmggmpllggbnaaNet7
namespace Go.Proofs.Ytfmggmpllggbnaa.Net
open Go.RowKit Go.Proofs.YtfmggmpllggbnaaW.PrintWords
set_option linter.unusedVariables false
set_option linter.unusedSimpArgs false
theorem results_cell2 {fn : Func} {a u : Nat} {t : TypeId} (h : fn.results = #[.cell a t, .tmp u]) (tmps : Array Value) (P : Program) (w : World) (ad : Addr) (v x : Value) (ha : tmps.getD a undef = .pointer (some ad)) (hl : (loadVar t ad).run P w = .ok v w) (hx : tmps.getD u undef = x) :
    (results fn tmps).run P w = .ok (.tuple #[v, x]) w := by
  rw [results_cell_tmp h, ha]
  simp [asAddr, Result.andThen, hl, hx]
set_option maxRecDepth 20000 in
theorem which_other (t : Int) (A : Option Addr) (n c : Nat) (w : World) (h : ¬ n = 2) :
    Calls Try.prog 29 #[.agg #[.int .i64 t, .slice A n c]] w fun e w' => e = .returned (.int .i64 (-1)) ∧ Below w.heap.size w w' := by
  have h1 : ¬ (n : Int) = 2 := by omega
  go_enter Try.func29, Try.ntmps29
  go_wp2_with fail
  go_ret
  exact ⟨rfl, (Below.refl _ _).alloc (Nat.le_refl _) _⟩
set_option maxRecDepth 20000 in
theorem which_calls (t : Int) (g c : Nat) (a b : Nat) (w : World) (ha : a ≤ 255) (hb : b ≤ 255) (h0 : w.cell? ⟨g, 0, none⟩ = some (.int .u8 (a : Int))) (h1 : w.cell? ⟨g, 1, none⟩ = some (.int .u8 (b : Int))) :
    Calls Try.prog 29 #[.agg #[.int .i64 t, .slice (some ⟨g, 0, none⟩) 2 c]] w fun e w' => e = .returned (.int .i64 (a + 256 * b : Nat)) ∧ Below w.heap.size w w' := by
  have q0 : ∀ o, (w.alloc o).cell? ⟨g, 0, none⟩ = some (.int .u8 (a : Int)) := fun o => by rw [World.cell?_alloc_some _ _ _ (by rw [h0]; rfl)]; exact h0
  have q1 : ∀ o, (w.alloc o).cell? ⟨g, 1, none⟩ = some (.int .u8 (b : Int)) := fun o => by rw [World.cell?_alloc_some _ _ _ (by rw [h1]; rfl)]; exact h1
  have k1 : IntKind.i64.wrap (a : Int) = (a : Int) := IntWalk.i64_in _ ⟨by omega, by omega⟩
  have k2 : IntKind.i64.wrap (b : Int) = (b : Int) := IntWalk.i64_in _ ⟨by omega, by omega⟩
  have k3 : IntKind.i64.wrap (256 * (b : Int)) = 256 * (b : Int) := IntWalk.i64_in _ ⟨by omega, by omega⟩
  have k4 : IntKind.i64.wrap ((a : Int) + 256 * (b : Int)) = (a : Int) + 256 * (b : Int) := IntWalk.i64_in _ ⟨by omega, by omega⟩
  clear h0 h1
  go_enter Try.func29, Try.ntmps29
  go_wp2_with fail
  go_quiet (fail)
  go_wp2_with fail
  go_ret
  exact ⟨by simp, pw_below_drewN ((Below.refl _ _).alloc (Nat.le_refl _) _) _⟩
set_option maxRecDepth 20000 in
set_option maxHeartbeats 1600000 in
theorem look_none (i : Int) (W : World) (base g : Nat) (v : Value) (room : Int) (lost : Nat) (ms : List (Int × ByteArray)) (h : Nt W base g v room lost ms) (hi : i < 0 ∨ (ms.length : Int) ≤ i) :
    Calls Try.prog 44 #[.pointer (some ⟨g, 0, none⟩), .int .i64 i] W fun e w' => e = .returned (.tuple #[.agg #[.int .i64 0, .slice none 0 0], .bool false]) ∧ Below W.heap.size W w' := by
  obtain ⟨A, c, rfl⟩ := slice_form h.own
  have hc : ∀ o, (W.alloc o).cell? ⟨g, 0, none⟩ = some (.slice A ms.length c) := fun o => by simpa using blk_cell (blk_alloc h.blk o) 0
  clear h
  by_cases h0 : i < 0
  · go_enter Try.func44, Try.ntmps44
    go_wp2_with fail
    refine bodyPost_ret (results_cell2 rfl _ _ _ ⟨W.heap.size, 0, none⟩ (.agg #[.int .i64 0, .slice none 0 0]) (.bool false) rfl (by go_simp) rfl) rfl ?_
    exact ⟨rfl, (Below.refl _ _).alloc (Nat.le_refl _) _⟩
  · have i2 : (ms.length : Int) ≤ i := by omega
    go_enter Try.func44, Try.ntmps44
    go_wp2_with fail
    refine bodyPost_ret (results_cell2 rfl _ _ _ ⟨W.heap.size, 0, none⟩ (.agg #[.int .i64 0, .slice none 0 0]) (.bool false) rfl (by go_simp) rfl) rfl ?_
    exact ⟨rfl, (Below.refl _ _).alloc (Nat.le_refl _) _⟩
set_option maxRecDepth 20000 in
set_option maxHeartbeats 1600000 in
theorem look_calls (i : Nat) (W : World) (base g : Nat) (v : Value) (room : Int) (lost : Nat) (ms : List (Int × ByteArray)) (h : Nt W base g v room lost ms) (hi : i < ms.length) (n : Int) (s : ByteArray) (hm : ms[i] = (n, s)) :
    Calls Try.prog 44 #[.pointer (some ⟨g, 0, none⟩), .int .i64 i] W fun e w' => ∃ g c, e = .returned (.tuple #[.agg #[.int .i64 n, .slice (some ⟨g, 0, none⟩) s.size c], .bool true]) ∧ (∃ m, w'.heap[g]? = some (.cells (bytesRow s c) 5 ((bytesRow s c).size, m))) ∧ W.heap.size ≤ g ∧ Below W.heap.size W w' := by
  obtain ⟨gv, cap, rfl, _, _⟩ := h.own.form (by omega)
  have hc : ∀ o, (W.alloc o).cell? ⟨g, 0, none⟩ = some (.slice (some ⟨gv, 0, none⟩) ms.length cap) := fun o => by simpa using blk_cell (blk_alloc h.blk o) 0
  have q0 : ∀ o, (W.alloc o).cell? ⟨gv, i * 2, none⟩ = some (.int .i64 n) := fun o => by have := msg_cell (h.own.alloc o) i 0 hi (by omega); rw [hm] at this; simpa [msg] using this
  have q1 : ∀ o, (W.alloc o).cell? ⟨gv, i * 2 + 1, none⟩ = some (.string s) := fun o => by have := msg_cell (h.own.alloc o) i 1 hi (by omega); rw [hm] at this; simpa [msg] using this
  have i1 : ¬ (i : Int) < 0 := by omega
  have i2 : ¬ (ms.length : Int) ≤ (i : Int) := by omega
  have i3 : (i : Int) < (ms.length : Int) := by omega
  clear h hm hi
  go_enter Try.func44, Try.ntmps44
  go_wp2_with fail
  refine (told_calls n s _).mono ?_
  rintro e w1 ⟨g1, c1, rfl, hg1, hl1, hb1⟩
  have hblk := blk_below (blk_new W (.cells #[.int .i64 0, .slice none 0 0] 71)) hb1
  have c0 := blk_cell hblk 0
  have c2 := blk_cell hblk 1
  have f0 := blk_frozen hblk 0
  have f2 := blk_frozen hblk 1
  simp at c0 c2 hb1 hl1
  have HG := Lib.hid hg1
  have HB := Lib.hid hb1
  have HL := Lib.hid hl1
  have HK := Lib.hid hblk
  clear hg1 hb1 hl1 hblk
  go_wp2_with fail
  have hk2 : (w1.setCells W.heap.size 0 [.int .i64 n, .slice (some ⟨g1, 0, none⟩) s.size c1]).heap[W.heap.size]? = some (.cells #[.int .i64 n, .slice (some ⟨g1, 0, none⟩) s.size c1] 71 (0, 0)) := blk_put (blk_put HK.out 0 _ rfl) 1 _ rfl
  have e0 := blk_cell hk2 0
  have e2 := blk_cell hk2 1
  simp at e0 e2
  refine bodyPost_ret (results_cell2 rfl _ _ _ ⟨W.heap.size, 0, none⟩ (.agg #[.int .i64 n, .slice (some ⟨g1, 0, none⟩) s.size c1]) (.bool true) rfl (by go_simp) rfl) rfl ?_
  have hlt := HL.out
  refine ⟨g1, c1, rfl, ?_, by omega, ?_⟩
  · obtain ⟨m, hm⟩ := HG.out
    refine ⟨m, ?_⟩
    show ((w1.setCell _ _).setCell _ _).heap[g1]? = _
    rw [Below.heap_setCell _ _ _ _ (by simp; omega), Below.heap_setCell _ _ _ _ (by simp; omega)]
    exact hm
  · have hb0 := (((Below.refl W.heap.size W).alloc (Nat.le_refl _) (.cells #[.int .i64 0, .slice none 0 0] 71)).trans (HB.out.mono (by simp)))
    exact (hb0.setCell (Nat.le_refl _) _).setCell (Nat.le_refl _) _
end Go.Proofs.Ytfmggmpllggbnaa.Net
