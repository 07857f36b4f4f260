/- Contracts of Take. -/
import Derived.Test.YtfmggmpllggbnaaNet8
import Derived.Deep.RegionHeld3
namespace Go.Proofs.Ytfmggmpllggbnaa.Net
open Go.RowKit Go.Proofs.YtfmggmpllggbnaaW.PrintWords
set_option linter.unusedVariables false
set_option linter.unusedSimpArgs false
theorem KeepBut.far {W W1 : World} {g : Nat} {row : Option Nat} (h : KeepBut W W1 g row) (p : Addr) (hp : W.heap.size ≤ p.block) (u : Value) : KeepBut W (W1.setCell p u) g row :=
  ⟨by simpa [World.setCell] using h.1, fun i hi hg hr => (Below.heap_setCell W1 p u i (by omega)).trans (h.2 i hi hg hr)⟩
/-- A cell of another block, made since, is written. -/
theorem NtPut.far {W W1 : World} {base g b j : Nat} {v v' : Value} {room : Int} {lost : Nat} {ms : List (Int × ByteArray)} (h : NtPut W W1 base g v v' room lost ms) (hb : W.heap.size ≤ b) (hbase : base ≤ b) (hg : b ≠ g) (hv : v'.ownBlock ≠ some b) (u : Value) : NtPut W (W1.setCell ⟨b, j, none⟩ u) base g v v' room lost ms :=
  ⟨⟨(Below.heap_setCell W1 _ u g (fun e => hg e.symm)).trans h.nt.blk, h.nt.le, own_other h.nt.own (grown_set W1 b j u) (.inr hv)⟩, h.bl.setCell hbase u, KeepBut.far h.kb _ hb u, h.hat⟩
set_option maxRecDepth 20000 in
set_option maxHeartbeats 1600000 in
theorem take_none (i : Int) (W : World) (base g : Nat) (v : Value) (room : Int) (lost : Nat) (ms : List (Int × ByteArray)) (h : Nt W base g v room lost ms) (hi : i < 0 ∨ (ms.length : Int) ≤ i) :
    Calls Try.prog 28 #[.pointer (some ⟨g, 0, none⟩), .int .i64 i] W fun e w' => e = .returned (.tuple #[.agg #[.int .i64 0, .slice none 0 0], .bool false]) ∧ Below W.heap.size W w' := by
  have LK := fun o => Lib.hid (look_none i (W.alloc o) base g v room lost ms (nt_below h ((Below.refl _ _).alloc (Nat.le_refl _) _)) hi)
  clear h hi
  go_enter Try.func28, Try.ntmps28
  go_wp2_with fail
  refine (LK _).out.mono ?_; rintro e w1 ⟨rfl, hb1⟩
  clear LK
  have hblk := blk_below (blk_new W (.cells #[.int .i64 0, .slice none 0 0] 71)) hb1
  have HB := Lib.hid hb1
  have hs1 := hb1.size
  simp at hs1
  have HS : Hid (W.heap.size < w1.heap.size) := hs1
  clear hb1 hs1
  go_wp2_with fail
  obtain ⟨W2, hW2⟩ : ∃ W2, W2 = w1.alloc (.cells #[.int .i64 0, .slice none 0 0] 71) := ⟨_, rfl⟩
  rw [← hW2]
  have hblk2 := blk_alloc hblk (.cells #[.int .i64 0, .slice none 0 0] 71)
  have hblk3 := blk_new w1 (.cells #[.int .i64 0, .slice none 0 0] 71)
  rw [← hW2] at hblk2 hblk3
  have c0 := blk_cell hblk2 0
  have c2 := blk_cell hblk2 1
  have f0 := blk_frozen hblk2 0
  have f2 := blk_frozen hblk2 1
  have x0 := blk_cell hblk3 0
  have x2 := blk_cell hblk3 1
  have hne : ¬ w1.heap.size = W.heap.size := by have := HS.out; omega
  have hne2 : ¬ W.heap.size = w1.heap.size := by have := HS.out; omega
  simp at c0 c2 x0 x2
  have HW2 := Lib.hid hW2
  have HK := Lib.hid hblk2
  clear hW2 hblk2 hblk3 hblk
  first | go_region_law (fail) | fail
  all_goals
    go_wp2_with fail
    refine bodyPost_ret (results_cell2 rfl _ _ _ ⟨W.heap.size, 0, none⟩ (.agg #[.int .i64 0, .slice none 0 0]) (.bool false) rfl (by go_simp) rfl) rfl ?_
    refine ⟨rfl, ?_⟩
    have hb0 : Below W.heap.size W W2 := by
      rw [HW2.out]
      exact (((Below.refl W.heap.size W).alloc (Nat.le_refl _) (.cells #[.int .i64 0, .slice none 0 0] 71)).trans (HB.out.mono (by simp))).alloc (Nat.le_of_lt HS.out) _
    exact ((hb0.setCell (Nat.le_refl _) _).setCell (Nat.le_refl _) _).drew
set_option maxRecDepth 20000 in
set_option maxHeartbeats 1600000 in
theorem take_calls (i : Nat) (W : World) (base g : Nat) (v : Value) (room : Int) (lost : Nat) (ms : List (Int × ByteArray)) (h : Nt W base g v room lost ms) (hbase : base ≤ W.heap.size) (hi : i < ms.length) (hm : ms.length ≤ 1099511627776) (n : Int) (s : ByteArray) (hms : ms[i] = (n, s)) :
    Calls Try.prog 28 #[.pointer (some ⟨g, 0, none⟩), .int .i64 i] W fun e w' => ∃ g2 c v', e = .returned (.tuple #[.agg #[.int .i64 n, .slice (some ⟨g2, 0, none⟩) s.size c], .bool true]) ∧ (∃ m, w'.heap[g2]? = some (.cells (bytesRow s c) 5 ((bytesRow s c).size, m))) ∧ W.heap.size ≤ g2 ∧ NtPut W w' base g v v' room lost (ms.eraseIdx i) := by
  have LK := fun o => Lib.hid (look_calls i (W.alloc o) base g v room lost ms (nt_below h ((Below.refl _ _).alloc (Nat.le_refl _) _)) hi n s hms)
  have H := Lib.hid h
  have HBS := Lib.hid hbase
  have DR := fun W' h' hb => Lib.hid (drop_calls i W' base g v room lost ms h' hb hi hm)
  have HD := Lib.hid DR
  clear h hi hm hms hbase DR
  go_enter Try.func28, Try.ntmps28
  go_wp2_with fail
  refine (LK _).out.mono ?_; rintro e w1 ⟨g1, c1, rfl, hg1, hl1, hb1⟩
  clear LK
  have hblk := blk_below (blk_new W (.cells #[.int .i64 0, .slice none 0 0] 71)) hb1
  have HB := Lib.hid hb1
  have HG := Lib.hid hg1
  have hs1 := hb1.size
  simp at hs1 hl1
  have HS : Hid (W.heap.size < w1.heap.size) := hs1
  have HL : Hid (W.heap.size < g1) := hl1
  clear hb1 hs1 hg1 hl1
  go_wp2_with fail
  obtain ⟨W2, hW2⟩ : ∃ W2, W2 = w1.alloc (.cells #[.int .i64 n, .slice (some ⟨g1, 0, none⟩) s.size c1] 71) := ⟨_, rfl⟩
  rw [← hW2]
  have hblk2 := blk_alloc hblk (.cells #[.int .i64 n, .slice (some ⟨g1, 0, none⟩) s.size c1] 71)
  have hblk3 := blk_new w1 (.cells #[.int .i64 n, .slice (some ⟨g1, 0, none⟩) s.size c1] 71)
  have hb02 : Below W.heap.size W W2 := by
    rw [hW2]
    exact (((Below.refl W.heap.size W).alloc (Nat.le_refl _) (.cells #[.int .i64 0, .slice none 0 0] 71)).trans (HB.out.mono (by simp))).alloc (Nat.le_of_lt HS.out) _
  rw [← hW2] at hblk2 hblk3
  have HDR := Lib.hid (HD.out W2.drew (nt_below H.out hb02.drew) (Nat.le_trans HBS.out hb02.size))
  have x0 := blk_cell hblk3 0
  have x2 := blk_cell hblk3 1
  have hne : ¬ w1.heap.size = W.heap.size := by have := HS.out; omega
  have hne2 : ¬ W.heap.size = w1.heap.size := by have := HS.out; omega
  simp at x0 x2
  have HW2 := Lib.hid hW2
  have HK := Lib.hid hblk2
  have HK3 := Lib.hid hblk3
  have HB02 := Lib.hid hb02
  have hbv := fun b (hb : v.ownBlock = some b) => (own_lt H.out.own b hb)
  have HBV := Lib.hid hbv
  have hgl : g < W.heap.size := blk_lt H.out.blk
  have HGL := Lib.hid hgl
  clear hW2 hblk2 hblk3 hblk hb02 hbv hgl
  first | (go_region_held3 (fun w' => w'.cell? ⟨w1.heap.size, 0, none⟩ = some (.int .i64 n) ∧ w'.cell? ⟨w1.heap.size, 1, none⟩ = some (.slice (some ⟨g1, 0, none⟩) s.size c1)) (first | exact ⟨x0, x2⟩ | exact ⟨y0, y2⟩ | go_keep) (first | (go_at_call 27; refine HDR.out.mono ?_; rintro e w3 ⟨rfl, v3, hp3⟩; have hblk3 := hp3.kb.blk (blk_drew HK3.out) (by have := HGL.out; have := HS.out; omega) (fun e => by have := HBV.out _ e.symm; have := HS.out; omega); have hblk4 := hp3.kb.blk (blk_drew HK.out) (by have := HGL.out; omega) (fun e => by have := HBV.out _ e.symm; omega); have y0 := blk_cell hblk3 0; have y2 := blk_cell hblk3 1; have z0 := blk_cell hblk4 0; have z2 := blk_cell hblk4 1; have f0 := blk_frozen hblk4 0; have f2 := blk_frozen hblk4 1; simp at y0 y2 z0 z2; have HP3 := Lib.hid hp3; have HK4 := Lib.hid hblk4; clear hp3 hblk3 hblk4))) | fail
  all_goals
    go_wp2_with fail
    refine bodyPost_ret (results_cell2 rfl _ _ _ ⟨W.heap.size, 0, none⟩ (.agg #[.int .i64 n, .slice (some ⟨g1, 0, none⟩) s.size c1]) (.bool true) rfl (by go_simp) rfl) rfl ?_
    have hG := HGL.out
    have hS := HS.out
    have hP := ((NtPut.refl H.out).below (Nat.le_trans HBS.out (Nat.le_refl _)) HB02.out.drew).trans HP3.out
    have hv3 : v3.ownBlock ≠ some W.heap.size := by
      intro e
      rcases HP3.out.hat with h' | ⟨b, h', hb⟩
      · rw [h'] at e; have := HBV.out _ e; omega
      · rw [h'] at e; injection e with e; have h2 := HB02.out.size; have h3 := blk_lt HK3.out; simp at hb; omega
    refine ⟨g1, c1, v3, rfl, ?_, by have := HL.out; omega, (hP.far (Nat.le_refl _) HBS.out (by omega) hv3 _).far (Nat.le_refl _) HBS.out (by omega) hv3 _⟩
    obtain ⟨m, hm⟩ := HG.out
    refine ⟨m, ?_⟩
    have hL := HL.out
    show ((w3.setCell _ _).setCell _ _).heap[g1]? = _
    rw [Below.heap_setCell _ _ _ _ (by simp; omega), Below.heap_setCell _ _ _ _ (by simp; omega)]
    have h1 : W2.drew.heap[g1]? = some (.cells (bytesRow s c1) 5 ((bytesRow s c1).size, m)) := by rw [HW2.out]; exact blk_drew (blk_alloc hm _)
    exact HP3.out.kb.blk h1 (by omega) (fun e => by have := HBV.out _ e.symm; omega)
end Go.Proofs.Ytfmggmpllggbnaa.Net
