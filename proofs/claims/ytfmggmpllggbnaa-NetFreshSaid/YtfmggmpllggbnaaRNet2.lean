/- Contracts of Twin, Look of the document's net. -/
import Derived.Test.YtfmggmpllggbnaaRNet
import Derived.Test.YtfmggmpllggbnaaNet8
namespace Go.Proofs.Ytfmggmpllggbnaa.RNet
open Go.RowKit Go.Proofs.YtfmggmpllggbnaaW.PrintWords Go.Proofs.Ytfmggmpllggbnaa.Net
set_option linter.unusedVariables false
set_option linter.unusedSimpArgs false
set_option maxRecDepth 20000 in
set_option maxHeartbeats 3200000 in
theorem twin_calls (tt : Int) (xs : List Int) (B : Option Addr) (cb : Nat) (W : World) (hx : ReadsOf U 0 W B xs.length xs) (hxl : xs.length ≤ 140737488355328) :
    Calls Try.prog 68 #[.agg #[.int .i64 tt, .slice B xs.length cb]] W fun e w' => ∃ Au cu, e = .returned (.agg #[.int .i64 tt, .slice Au xs.length cu]) ∧ w'.ownsRow W.heap.size 5 1 (.slice Au xs.length cu) xs.length (encs U xs) ∧ Below W.heap.size W w' := by
  obtain ⟨W2, hW2⟩ : ∃ W2, W2 = (W.alloc (.cells #[.int .i64 tt, .slice B xs.length cb] 71)).alloc (.cells #[.int .i64 0, .slice none 0 0] 71) := ⟨_, rfl⟩
  have hb2 : Below W.heap.size W W2 := by rw [hW2]; exact ((Below.refl _ _).alloc (Nat.le_refl _) _).alloc (by simp) _
  have hbx : W2.heap[W.heap.size]? = some (.cells #[.int .i64 tt, .slice B xs.length cb] 71 (0, 0)) := by rw [hW2]; exact blk_alloc (blk_new W _) _
  have hby : W2.heap[W.heap.size + 1]? = some (.cells #[.int .i64 0, .slice none 0 0] 71 (0, 0)) := by
    have h := blk_new (W.alloc (.cells #[.int .i64 tt, .slice B xs.length cb] 71)) (.cells #[.int .i64 0, .slice none 0 0] 71)
    rw [show (W.alloc (.cells #[.int .i64 tt, .slice B xs.length cb] 71)).heap.size = W.heap.size + 1 by simp] at h
    rw [hW2]; exact h
  have x0 := blk_cell hbx 0
  have x1 := blk_cell hbx 1
  simp at x0 x1
  have HBX := Lib.hid hbx
  have HBY := Lib.hid hby
  have HB2 := Lib.hid hb2
  have HW2 := Lib.hid hW2
  have HS2 : Hid (W2.heap.size = W.heap.size + 2) := by rw [hW2]; show _ = _; simp
  have CC : Hid (∀ W', Below W2.heap.size W2 W' → Calls Try.prog 66 #[.slice B xs.length cb] W' fun e w' => ∃ v, e = .returned v ∧ w'.ownsRow W'.heap.size 5 1 v xs.length (encs U xs) ∧ Below W'.heap.size W' w') := fun W' hw => copy_calls xs B cb W' W'.heap.size (Nat.le_refl _) (hx.below (hb2.trans (hw.mono hb2.size))) hxl
  clear hx hxl hbx hby hb2 hW2
  go_enter Try.func68, Try.ntmps68
  go_wp2_with fail
  rw [← HW2.out]
  first | (go_region_law (first | (go_simp; go_at_call 66; refine (CC.out _ (by first | exact Below.refl _ _ | exact (Below.refl _ _).drew | exact pw_below_drewN (Below.refl _ _) _)).mono ?_; rintro e w3 ⟨u3, rfl, hu3, hb3⟩; obtain ⟨Au, cu, rfl⟩ := slice_form hu3; have hbw : Below W2.heap.size W2 w3 := (Below.refl _ W2).drew.trans hb3; have h3 := blk_below HBX.out hbw; have y0 := blk_cell h3 0; have y1 := blk_cell h3 1; have h4 := blk_below HBY.out hbw; have z0 := blk_cell h4 0; have z1 := blk_cell h4 1; have f0 := blk_frozen h4 0; have f1 := blk_frozen h4 1; simp at y0 y1 z0 z1; have HU3 := Lib.hid hu3; have HB3 := Lib.hid hbw; have H4 := Lib.hid h4; clear hu3 hb3 hbw h3 h4))) | fail
  all_goals go_wp2_with fail
  all_goals
    refine bodyPost_ret (results_cell rfl _ _ _ ⟨W.heap.size + 1, 0, none⟩ (.agg #[.int .i64 tt, .slice Au xs.length cu]) rfl (by go_simp)) rfl ?_
    have k1 : w3.ownsRow W.heap.size 5 1 (.slice Au xs.length cu) xs.length (encs U xs) := own_less HU3.out HB2.out.size
    have k2 := own_other k1 (grown_set w3 (W.heap.size + 1) 0 (.int .i64 tt)) (.inr (own_ne_t k1 H4.out (by decide)))
    have h5 := blk_put H4.out 0 (.int .i64 tt) rfl
    have k3 := own_other k2 (grown_set _ (W.heap.size + 1) 1 (.slice Au xs.length cu)) (.inr (own_ne_t k2 h5 (by decide)))
    exact ⟨Au, cu, rfl, k3, ((HB2.out.trans (HB3.out.mono HB2.out.size)).setCell (Nat.le_succ _) _).setCell (Nat.le_succ _) _⟩
set_option maxRecDepth 20000 in
set_option maxHeartbeats 1600000 in
theorem rlook_none (i : Int) (W : World) (base g : Nat) (v : Value) (room : Int) (gone : Nat) (rs : List RM) (h : Rn W base g v room gone rs) (hi : i < 0 ∨ (rs.length : Int) ≤ i) :
    Calls Try.prog 46 #[.pointer (some ⟨g, 0, none⟩), .int .i64 i] W fun e w' => e = .returned (.tuple #[.agg #[.int .i64 0, .slice none 0 0], .bool false]) ∧ Below W.heap.size W w' := by
  obtain ⟨A, c, rfl⟩ := slice_form h.own
  have hc : ∀ o, (W.alloc o).cell? ⟨g, 0, none⟩ = some (.slice A rs.length c) := fun o => by simpa using blk_cell (blk_alloc h.blk o) 0
  clear h
  by_cases h0 : i < 0
  · go_enter Try.func46, Try.ntmps46
    go_wp2_with fail
    refine bodyPost_ret (results_cell2 rfl _ _ _ ⟨W.heap.size, 0, none⟩ (.agg #[.int .i64 0, .slice none 0 0]) (.bool false) rfl (by go_simp) rfl) rfl ?_
    exact ⟨rfl, (Below.refl _ _).alloc (Nat.le_refl _) _⟩
  · have i2 : (rs.length : Int) ≤ i := by omega
    go_enter Try.func46, Try.ntmps46
    go_wp2_with fail
    refine bodyPost_ret (results_cell2 rfl _ _ _ ⟨W.heap.size, 0, none⟩ (.agg #[.int .i64 0, .slice none 0 0]) (.bool false) rfl (by go_simp) rfl) rfl ?_
    exact ⟨rfl, (Below.refl _ _).alloc (Nat.le_refl _) _⟩
theorem rmsg_cell {W : World} {base gv cap : Nat} {ms : List RM} (h : W.ownsRow base 71 2 (.slice (some ⟨gv, 0, none⟩) ms.length cap) ms.length (rCells ms)) (k j : Nat) (hk : k < ms.length) (hj : j < 2) : W.cell? ⟨gv, k * 2 + j, none⟩ = (rmc (ms[k]'hk))[j]? := by
  rw [h.cellAt (k * 2 + j) (by omega), rCells_get ms k j hk hj]
set_option maxRecDepth 20000 in
set_option maxHeartbeats 1600000 in
theorem rlook_calls (i : Nat) (W : World) (base g : Nat) (v : Value) (room : Int) (gone : Nat) (rs : List RM) (h : Rn W base g v room gone rs) (hi : i < rs.length) (hxl : (rs[i]).2.2.length ≤ 140737488355328) :
    Calls Try.prog 46 #[.pointer (some ⟨g, 0, none⟩), .int .i64 i] W fun e w' => ∃ Au cu, e = .returned (.tuple #[.agg #[.int .i64 (rs[i]).1, .slice Au (rs[i]).2.2.length cu], .bool true]) ∧ w'.ownsRow W.heap.size 5 1 (.slice Au (rs[i]).2.2.length cu) (rs[i]).2.2.length (encs U (rs[i]).2.2) ∧ Below W.heap.size W w' := by
  obtain ⟨gv, cap, rfl, _, _⟩ := h.own.form (by omega)
  have hc : ∀ o, (W.alloc o).cell? ⟨g, 0, none⟩ = some (.slice (some ⟨gv, 0, none⟩) rs.length cap) := fun o => by simpa using blk_cell (blk_alloc h.blk o) 0
  obtain ⟨W1, hW1⟩ : ∃ W1, W1 = W.alloc (.cells #[.int .i64 0, .slice none 0 0] 71) := ⟨_, rfl⟩
  have hb1 : Below W.heap.size W W1 := by rw [hW1]; exact (Below.refl _ _).alloc (Nat.le_refl _) _
  have hby : W1.heap[W.heap.size]? = some (.cells #[.int .i64 0, .slice none 0 0] 71 (0, 0)) := by rw [hW1]; exact blk_new W _
  have h1 := rn_below h hb1
  have c0 := blk_cell h1.blk 0
  have q0 := rmsg_cell h1.own i 0 hi (by omega)
  have q1 := rmsg_cell h1.own i 1 hi (by omega)
  obtain ⟨r, hrr⟩ : ∃ r, r = rs[i] := ⟨_, rfl⟩
  have hmem : r ∈ rs := by rw [hrr]; exact List.getElem_mem hi
  have hby2 := h1.by_ r hmem
  rw [← hrr] at hxl q0 q1 ⊢
  obtain ⟨tt, u, xs⟩ := r
  have hby3 : W1.ownsRow base 5 1 u xs.length (encs U xs) := hby2
  clear hby2
  simp only at hxl ⊢
  obtain ⟨Ab, cb, rfl, hrd⟩ := own_reads_of (d := (0 : Int)) hby3
  simp [rmc] at c0 q0 q1
  have CT := Lib.hid (twin_calls tt xs Ab cb W1 hrd hxl)
  have HB1 := Lib.hid hb1
  have HBY := Lib.hid hby
  have HW1 := Lib.hid hW1
  have i1 : (0 : Int) ≤ (i : Int) := by omega
  have i2 : (i : Int) < (rs.length : Int) := by omega
  have i3 : ¬ (rs.length : Int) ≤ (i : Int) := by omega
  rw [hW1] at c0 q0 q1
  clear h h1 hb1 hby hrr hmem hby3 hrd hxl hW1 hc
  go_enter Try.func46, Try.ntmps46
  go_wp2_with fail
  rw [← HW1.out]
  refine CT.out.mono ?_; rintro e w3 ⟨Au, cu, rfl, hu3, hb3⟩
  have h4 := blk_below HBY.out hb3
  have z0 := blk_cell h4 0
  have z1 := blk_cell h4 1
  have f0 := blk_frozen h4 0
  have f1 := blk_frozen h4 1
  simp at z0 z1
  have HU3 := Lib.hid hu3
  have HB3 := Lib.hid hb3
  have H4 := Lib.hid h4
  clear hu3 hb3 h4
  go_wp2_with fail
  refine bodyPost_ret (results_cell2 rfl _ _ _ ⟨W.heap.size, 0, none⟩ (.agg #[.int .i64 tt, .slice Au xs.length cu]) (.bool true) rfl (by go_simp) rfl) rfl ?_
  have k1 : w3.ownsRow W.heap.size 5 1 (.slice Au xs.length cu) xs.length (encs U xs) := own_less HU3.out HB1.out.size
  have k2 := own_other k1 (grown_set w3 W.heap.size 0 (.int .i64 tt)) (.inr (own_ne_t k1 H4.out (by decide)))
  have h5 := blk_put H4.out 0 (.int .i64 tt) rfl
  have k3 := own_other k2 (grown_set _ W.heap.size 1 (.slice Au xs.length cu)) (.inr (own_ne_t k2 h5 (by decide)))
  exact ⟨Au, cu, rfl, k3, ((HB1.out.trans (HB3.out.mono HB1.out.size)).setCell (Nat.le_refl _) _).setCell (Nat.le_refl _) _⟩
end Go.Proofs.Ytfmggmpllggbnaa.RNet
