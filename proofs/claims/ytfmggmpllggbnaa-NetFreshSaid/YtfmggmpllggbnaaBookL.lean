/- A book of byte lists: grow, holds, Look. -/
import Derived.Test.YtfmggmpllggbnaaBookI
namespace Go.Proofs.Ytfmggmpllggbnaa.Book
open Go.RowKit Go.Proofs.YtfmggmpllggbnaaW.PrintWords Go.Proofs.Ytfmggmpllggbnaa.Mem
set_option linter.unusedVariables false
set_option linter.unusedSimpArgs false
theorem bkv_done {s : BkS} (h : BkV s) : BkV { s with done := s.turn } := ⟨h.v, h.vo, h.good, h.at_, h.num, h.used, h.sz, h.new, Nat.le_refl _⟩
set_option maxRecDepth 20000 in
set_option maxHeartbeats 6400000 in
theorem grow_calls (w0 W : World) (R : List Ent) (b : Nat) (s : BkS) (h : St w0 W (bkE b s ++ R)) (hV : BkV s) (ht : s.turn ≤ 1099511627776) : Calls Try.prog 64 #[pt b] W fun e w' => e = .returned (.tuple #[]) ∧ ∃ s' : BkS, BkV s' ∧ s'.turn = s.turn ∧ St w0 w' (bkE b s' ++ R) := by
  have CB := Lib.hid (growBytes_calls w0 W R b s h hV ht)
  clear h hV
  go_enter Try.func64, Try.ntmps64
  go_wp2_with fail
  refine CB.out.mono ?_; rintro e w1 ⟨rfl, s1, hv1, ht1, hd1, hs1⟩
  have h1 := hs1.re (M := B b (bkC s1) 107 :: (bkR s1 ++ (blkE s1.Bs ++ R))) (fun x => by simp only [bkE, cnt_append, cnt_cons]; omega)
  have H1 := Lib.hid h1
  have HV1 := Lib.hid hv1
  have HT1 := Lib.hid ht1
  clear hv1 ht1 hd1 hs1 h1
  go_wp2_with fail
  refine (growRows_calls w0 _ _ b s1 H1.out).mono ?_; rintro e w2 ⟨rfl, hs⟩
  have H2 := Lib.hid hs
  clear hs
  go_wp2_with fail
  refine (growTexts_calls w0 _ _ b s1 H2.out).mono ?_; rintro e w3 ⟨rfl, hs⟩
  have H3 := Lib.hid hs
  clear hs
  go_wp2_with fail
  refine (growInts_calls w0 _ _ b s1 H3.out).mono ?_; rintro e w4 ⟨rfl, hs⟩
  have H4 := Lib.hid hs
  clear hs
  go_wp2_with fail
  refine (growWords_calls w0 _ _ b s1 H4.out).mono ?_; rintro e w5 ⟨rfl, hs⟩
  have H5 := Lib.hid hs
  clear hs
  go_wp2_with fail
  refine (growBools_calls w0 _ _ b s1 H5.out).mono ?_; rintro e w6 ⟨rfl, hs⟩
  have H6 := Lib.hid hs
  clear hs
  go_wp2_with fail
  refine (growLines_calls w0 _ _ b s1 H6.out).mono ?_; rintro e w7 ⟨rfl, hs⟩
  have H7 := Lib.hid hs
  clear hs
  go_wp2_with fail
  refine (growGuards_calls w0 _ _ b s1 H7.out).mono ?_; rintro e w8 ⟨rfl, hs⟩
  have H8 := Lib.hid hs
  clear hs
  go_wp2_with fail
  refine (growSets_calls w0 _ _ b s1 H8.out).mono ?_; rintro e w9 ⟨rfl, hs⟩
  have H9 := Lib.hid hs
  clear hs
  go_wp2_with fail
  refine (growRights_calls w0 _ _ b s1 H9.out).mono ?_; rintro e w10 ⟨rfl, hs⟩
  have H10 := Lib.hid hs
  clear hs
  go_wp2_with fail
  refine (growPrices_calls w0 _ _ b s1 H10.out).mono ?_; rintro e w11 ⟨rfl, hs⟩
  have H11 := Lib.hid hs
  clear hs
  go_wp2_with fail
  refine (growHelds_calls w0 _ _ b s1 H11.out).mono ?_; rintro e w12 ⟨rfl, hs⟩
  have H12 := Lib.hid hs
  clear hs
  go_wp2_with fail
  refine (growPools_calls w0 _ _ b s1 H12.out).mono ?_; rintro e w13 ⟨rfl, hs⟩
  have H13 := Lib.hid hs
  clear hs
  go_wp2_with fail
  refine (growActs_calls w0 _ _ b s1 H13.out).mono ?_; rintro e w14 ⟨rfl, hs⟩
  have H14 := Lib.hid hs
  clear hs
  go_wp2_with fail
  refine (growEntries_calls w0 _ _ b s1 H14.out).mono ?_; rintro e w15 ⟨rfl, hs⟩
  have H15 := Lib.hid hs
  clear hs
  go_wp2_with fail
  refine (growFlights_calls w0 _ _ b s1 H15.out).mono ?_; rintro e w16 ⟨rfl, hs⟩
  have H16 := Lib.hid hs
  clear hs
  go_wp2_with fail
  refine (growFiles_calls w0 _ _ b s1 H16.out).mono ?_; rintro e w17 ⟨rfl, hs⟩
  have H17 := Lib.hid hs
  clear hs
  go_wp2_with fail
  refine (growItems_calls w0 _ _ b s1 H17.out).mono ?_; rintro e w18 ⟨rfl, hs⟩
  have H18 := Lib.hid hs
  clear hs
  have x54 : w18.cell? ⟨b, 54, none⟩ = some (.int .i64 (s1.turn : Int)) := blk_cell H18.out.hd 54
  have x55 : w18.cell? ⟨b, 55, none⟩ = some (.int .i64 (s1.done : Int)) := blk_cell H18.out.hd 55
  have f55 := blk_frozen H18.out.hd 55
  have hp := H18.out.put (cs' := bkC { s1 with done := s1.turn }) 55 (.int .i64 (s1.turn : Int)) rfl
  have HP := Lib.hid hp
  clear hp
  go_wp2_with fail
  go_end0
  exact ⟨rfl, { s1 with done := s1.turn }, bkv_done HV1.out, HT1.out, HP.out.re (fun x => by simp only [bkE, bkR, cnt_append, cnt_cons]; omega)⟩
set_option maxRecDepth 20000 in
set_option maxHeartbeats 3200000 in
theorem holds_calls (w0 W : World) (R : List Ent) (b : Nat) (s : BkS) (h : St w0 W (bkE b s ++ R)) (hV : BkV s) (ht : s.turn ≤ 1099511627776) : Calls Try.prog 63 #[pt b] W fun e w' => e = .returned (.bool true) ∧ St w0 w' (bkE b s ++ R) := by
  have CP := Lib.hid (plain_calls w0 W R b s h hV ht)
  clear h hV
  go_enter Try.func63, Try.ntmps63
  go_wp2_with fail
  refine CP.out.mono ?_; rintro e w1 ⟨rfl, hs⟩
  have hb := hs.blk (g := b) (cs := bkC s) (t := 107) (by simp [bkE])
  have C1 := Lib.hid (kept_calls w1 b s hb)
  have C2 := Lib.hid (told_calls w1 b s hb)
  have C3 := Lib.hid (held_calls w1 b s hb)
  have C4 := Lib.hid (sent_calls w1 b s hb)
  have HS := Lib.hid hs
  clear hs hb
  go_wp2_with fail
  refine C1.out.mono ?_; rintro e w2 ⟨rfl, hw⟩
  rw [hw]; clear hw
  go_wp2_with fail
  refine C2.out.mono ?_; rintro e w3 ⟨rfl, hw⟩
  rw [hw]; clear hw
  go_wp2_with fail
  refine C3.out.mono ?_; rintro e w4 ⟨rfl, hw⟩
  rw [hw]; clear hw
  go_wp2_with fail
  refine C4.out.mono ?_; rintro e w5 ⟨rfl, hw⟩
  rw [hw]; clear hw
  go_wp2_with fail
  go_ret
  exact ⟨rfl, HS.out⟩
set_option maxRecDepth 20000 in
set_option maxHeartbeats 3200000 in
theorem look_calls (w0 W : World) (R : List Ent) (b : Nat) (s : BkS) (h : St w0 W (bkE b s ++ R)) (hV : BkV s) (ht : s.turn ≤ 1099511627776) : Calls Try.prog 39 #[pt b] W fun e w' => e = .returned (.bool true) ∧ ∃ s' : BkS, BkV s' ∧ s'.turn = s.turn ∧ St w0 w' (bkE b s' ++ R) := by
  have CH := Lib.hid (holds_calls w0 W R b s h hV ht)
  have HV := Lib.hid hV
  clear h hV
  by_cases hd : s.done = s.turn
  · have HD := Lib.hid hd
    clear hd
    go_enter Try.func39, Try.ntmps39
    go_wp2_with fail
    refine CH.out.mono ?_; rintro e w1 ⟨rfl, hs⟩
    have x54 : w1.cell? ⟨b, 54, none⟩ = some (.int .i64 (s.turn : Int)) := hs.cellOf (g := b) (cs := bkC s) (t := 107) (by simp [bkE]) 54 rfl
    have x55 : w1.cell? ⟨b, 55, none⟩ = some (.int .i64 (s.turn : Int)) := by rw [← HD.out]; exact hs.cellOf (g := b) (cs := bkC s) (t := 107) (by simp [bkE]) 55 rfl
    have HS := Lib.hid hs
    clear hs
    go_wp2_with fail
    go_quiet (fail)
    go_wp2_with fail
    go_ret
    exact ⟨rfl, s, HV.out, rfl, HS.out.below (pw_below_drewN (Below.refl _ _) _)⟩
  · have hne : ((s.done : Int) == (s.turn : Int)) = false := by simp; omega
    go_enter Try.func39, Try.ntmps39
    go_wp2_with fail
    refine CH.out.mono ?_; rintro e w1 ⟨rfl, hs⟩
    have x54 : w1.cell? ⟨b, 54, none⟩ = some (.int .i64 (s.turn : Int)) := hs.cellOf (g := b) (cs := bkC s) (t := 107) (by simp [bkE]) 54 rfl
    have x55 : w1.cell? ⟨b, 55, none⟩ = some (.int .i64 (s.done : Int)) := hs.cellOf (g := b) (cs := bkC s) (t := 107) (by simp [bkE]) 55 rfl
    have HS := Lib.hid hs
    clear hs hd
    go_wp2_with fail
    go_quiet (fail)
    go_wp2_with fail
    refine (grow_calls w0 _ R b s (HS.out.below (pw_below_drewN (Below.refl _ _) _)) HV.out ht).mono ?_; rintro e w2 ⟨rfl, s2, hv2, ht2, hs2⟩
    have CH2 := Lib.hid (holds_calls w0 w2 R b s2 hs2 hv2 (by omega))
    have HV2 := Lib.hid hv2
    have HT2 := Lib.hid ht2
    clear hv2 ht2 hs2
    go_wp2_with fail
    refine CH2.out.mono ?_; rintro e w3 ⟨rfl, hs3⟩
    have HS3 := Lib.hid hs3
    clear hs3
    go_wp2_with fail
    go_ret
    exact ⟨rfl, s2, HV2.out, HT2.out, HS3.out⟩
end Go.Proofs.Ytfmggmpllggbnaa.Book
