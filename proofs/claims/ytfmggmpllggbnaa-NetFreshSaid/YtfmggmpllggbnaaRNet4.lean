/- Contract of Double of the document's net. -/
import Derived.Test.YtfmggmpllggbnaaRNet3
namespace Go.Proofs.Ytfmggmpllggbnaa.RNet
open Go.RowKit Go.Proofs.YtfmggmpllggbnaaW.PrintWords Go.Proofs.Ytfmggmpllggbnaa.Net
set_option linter.unusedVariables false
set_option linter.unusedSimpArgs false
set_option maxRecDepth 20000 in
theorem rdouble_none (i : Int) (W : World) (base g : Nat) (v : Value) (room : Int) (gone : Nat) (rs : List RM) (h : Rn W base g v room gone rs) (hi : i < 0 ∨ (rs.length : Int) ≤ i) :
    Calls Try.prog 60 #[.pointer (some ⟨g, 0, none⟩), .int .i64 i] W fun e w' => e = .returned (.bool false) ∧ Below W.heap.size W w' := by
  obtain ⟨A, c, rfl⟩ := slice_form h.own
  have d0 := blk_cell h.blk 0
  have d1 := blk_cell h.blk 1
  simp at d0 d1
  clear h
  by_cases h0 : i < 0
  · have t1 : decide (i < 0) = true := decide_eq_true h0
    clear h0
    go_enter Try.func60, Try.ntmps60
    go_wp2_with fail
    go_quiet (fail)
    go_wp2_with fail
    go_ret
    exact ⟨rfl, pw_below_drewN (Below.refl _ _) _⟩
  · have t1 : decide (i < 0) = false := decide_eq_false h0
    have t2 : decide ((rs.length : Int) ≤ i) = true := decide_eq_true (by omega)
    clear h0 hi
    go_enter Try.func60, Try.ntmps60
    go_wp2_with fail
    go_quiet (fail)
    go_wp2_with fail
    go_ret
    exact ⟨rfl, pw_below_drewN (Below.refl _ _) _⟩
set_option maxRecDepth 20000 in
theorem rdouble_full (i : Nat) (W : World) (base g : Nat) (v : Value) (room : Int) (gone : Nat) (rs : List RM) (h : Rn W base g v room gone rs) (hi : i < rs.length) (hr : room ≤ (rs.length : Int)) :
    Calls Try.prog 60 #[.pointer (some ⟨g, 0, none⟩), .int .i64 i] W fun e w' => e = .returned (.bool false) ∧ Below W.heap.size W w' := by
  obtain ⟨A, c, rfl⟩ := slice_form h.own
  have d0 := blk_cell h.blk 0
  have d1 := blk_cell h.blk 1
  simp at d0 d1
  have t1 : decide ((i : Int) < 0) = false := decide_eq_false (by omega)
  have t2 : decide ((rs.length : Int) ≤ (i : Int)) = false := decide_eq_false (by omega)
  have t3 : decide (room ≤ (rs.length : Int)) = true := decide_eq_true hr
  clear h hr
  go_enter Try.func60, Try.ntmps60
  go_wp2_with fail
  go_quiet (fail)
  go_wp2_with fail
  go_ret
  exact ⟨rfl, pw_below_drewN (Below.refl _ _) _⟩
set_option maxRecDepth 20000 in
set_option maxHeartbeats 3200000 in
theorem rdouble_room (i : Nat) (W : World) (base g : Nat) (v : Value) (room : Int) (gone : Nat) (rs : List RM) (h : Rn W base g v room gone rs) (hb : base ≤ W.heap.size) (hi : i < rs.length) (hr : (rs.length : Int) < room) (hm : rs.length ≤ 1099511627776) (hxl : (rs[i]).2.2.length ≤ 140737488355328) :
    Calls Try.prog 60 #[.pointer (some ⟨g, 0, none⟩), .int .i64 i] W fun e w' => e = .returned (.bool true) ∧ ∃ v' u, RPut W w' base g v v' room gone (rs ++ [((rs[i]).1, u, (rs[i]).2.2)]) ∧ ∀ k, u.ownBlock = some k → W.heap.size ≤ k := by
  obtain ⟨gv, cap, rfl, _, _⟩ := h.own.form (by omega)
  have d0 := blk_cell h.blk 0
  have d1 := blk_cell h.blk 1
  simp at d0 d1
  have H := Lib.hid h
  have HBS := Lib.hid hb
  have HM := Lib.hid hm
  have t1 : decide ((i : Int) < 0) = false := decide_eq_false (by omega)
  have t2 : decide ((rs.length : Int) ≤ (i : Int)) = false := decide_eq_false (by omega)
  have t3 : decide (room ≤ (rs.length : Int)) = false := decide_eq_false (by omega)
  have j1 : (0 : Int) ≤ (i : Int) := by omega
  have j2 : (i : Int) < (rs.length : Int) := by omega
  obtain ⟨r, hrr⟩ : ∃ r, r = rs[i] := ⟨_, rfl⟩
  have HQ : Hid (∀ w', Below W.heap.size W w' → w'.cell? ⟨gv, i * 2, none⟩ = some (.int .i64 r.1) ∧ w'.cell? ⟨gv, i * 2 + 1, none⟩ = some r.2.1) := fun w' hw => by
    have q0 := rmsg_cell (rn_below h hw).own i 0 hi (by omega)
    have q1 := rmsg_cell (rn_below h hw).own i 1 hi (by omega)
    rw [← hrr] at q0 q1
    simp [rmc] at q0 q1
    exact ⟨q0, q1⟩
  have hby := h.by_ r (by rw [hrr]; exact List.getElem_mem hi)
  rw [← hrr] at hxl ⊢
  obtain ⟨tt, u, xs⟩ := r
  have hby3 : W.ownsRow base 5 1 u xs.length (encs U xs) := hby
  simp only at hxl HQ ⊢
  clear hby hrr
  obtain ⟨Ab, cb, rfl, hrd⟩ := own_reads_of (d := (0 : Int)) hby3
  have CT : Hid (∀ W', Below W.heap.size W W' → _) := fun W' hw => twin_calls tt xs Ab cb W' (hrd.below hw) hxl
  obtain ⟨i0, hi0, hzz⟩ := Option.map_eq_some_iff.1 info71
  simp only [Prod.mk.injEq] at hzz
  obtain ⟨hz0, hs0, hb0⟩ := hzz
  clear h hr hm hb hby3 hrd hxl
  go_enter Try.func60, Try.ntmps60
  go_wp2_with fail
  go_quiet (fail)
  go_wp2_with fail
  obtain ⟨W1, hW1⟩ : ∃ W1, W1 = W.drewN nq := ⟨_, rfl⟩
  rw [← hW1]
  have hb1 : Below W.heap.size W W1 := by rw [hW1]; exact pw_below_drewN (Below.refl _ _) nq
  have h1 := rn_below H.out hb1
  have d0 := blk_cell h1.blk 0
  simp at d0
  have q0 := (HQ.out W1 hb1).1
  have q1 := (HQ.out W1 hb1).2
  have H1 := Lib.hid h1
  have HB1 := Lib.hid hb1
  have HBW : Hid (base ≤ W1.heap.size) := Nat.le_trans HBS.out hb1.size
  clear h1 hb1 hW1
  go_region_law (first
    | (refine step_append_lies _ rfl (.tmp 32) (.tmp 41) 141 rfl base 71 i0 (.agg #[.int .i64 0, .slice none 0 0]) 2 32 Try.underlying141 hi0 hz0 hs0 hb0 rfl (by omega) (.slice (some ⟨gv, 0, none⟩) rs.length cap) rs.length (rCells rs) rfl ?h1 ⟨w3.heap.size, 0, none⟩ 1 1 (rmc (tt, .slice Au xs.length cu, xs)) rfl rfl ?h2 ?h3 (by omega) ?h4 ?h5 ?h6 _ rfl ?_; (case h1 => exact own_alloc H3.out.own _); (case h2 => exact World.news_of_block (blk_new w3 _)); (case h3 => simp [rmc, Value.oneCell']); (case h4 => have := HM.out; simp [maxLen]; omega); (case h5 => have := HM.out; omega); (case h6 => have := HBW.out; have := HB3.out.size; simp at this ⊢; omega); intro g2 cap2 w2 ho2 hg2 hat2 hlt2; have HP2 := Lib.hid (rput_lies (m := (tt, .slice Au xs.length cu, xs)) H1.out HBW.out rfl ho2 (own_alloc HU3.out _) (World.grownBy.trans (grown_of_below HB3.out _) (World.grownBy_alloc w3 _ _)) hg2 hat2); have hblk := blk_grown H3.out.blk (World.grownBy.trans (World.grownBy_alloc w3 _ _) hg2) H1.out.ne; have f0 := blk_frozen hblk 0; have c0 := blk_cell hblk 0; simp at c0; clear ho2 hg2 hat2 hlt2 hblk)
    | (go_simp; go_at_call 68; refine (CT.out _ (HB1.out.trans ((Below.refl _ W1).drew.mono HB1.out.size))).mono ?_; rintro e w3 ⟨Au, cu, rfl, hu3, hb3⟩; have hbw : Below W1.heap.size W1 w3 := (Below.refl _ W1).drew.trans hb3; have h3 := rn_below H1.out hbw; have x0 := blk_cell h3.blk 0; simp at x0; have x0a : ∀ o, (w3.alloc o).cell? ⟨g, 0, none⟩ = some (.slice (some ⟨gv, 0, none⟩) rs.length cap) := (fun o => by simpa using blk_cell (blk_alloc h3.blk o) 0); have y0 := (HQ.out w3 (HB1.out.trans (hbw.mono HB1.out.size))).1; have y1 := (HQ.out w3 (HB1.out.trans (hbw.mono HB1.out.size))).2; have HU3 := Lib.hid hu3; have HB3 := Lib.hid hbw; have H3 := Lib.hid h3; clear hu3 hb3 hbw h3))
  all_goals (go_wp2_with fail; go_ret; exact ⟨rfl, _, _, ((RPut.refl H.out).below HBS.out HB1.out).trans HP2.out, fun k hk => Nat.le_trans HB1.out.size (own_base HU3.out k hk)⟩)
end Go.Proofs.Ytfmggmpllggbnaa.RNet
