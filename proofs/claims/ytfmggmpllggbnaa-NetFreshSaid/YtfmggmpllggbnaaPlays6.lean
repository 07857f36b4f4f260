/- plays: a message is looked at, taken, with the mark set: printed by gen_playsm.py. -/
import Derived.Test.YtfmggmpllggbnaaTold2
namespace Go.Proofs.Ytfmggmpllggbnaa.RNet
open Go.RowKit Go.Proofs.YtfmggmpllggbnaaW.PrintWords Go.Proofs.Ytfmggmpllggbnaa.Net Go.Proofs.Ytfmggmpllggbnaa.Mem
open Go.Proofs.Ytfmggmpllggbnaa.Book (BkS BkV bkE ownE freeP)
set_option linter.unusedVariables false
set_option linter.unusedSimpArgs false
set_option maxRecDepth 20000 in
set_option maxHeartbeats 6400000 in
theorem playsM_look0 (w0 W : World) (R0 : List Ent) (b : Nat) (bs : BkS) (t k : Nat) (cs : Array Value) (s : Sd) (wh a tt : Int) (A : Option Addr) (n c : Nat) (H : St w0 W (B t cs 112 :: (sdE s ++ (bkE b bs ++ R0)))) (hV : SdV s) (hl : s.lost ≤ 1099511627776) (hk : k < 2)
    (hc0 : cs[k]? = some (pt s.g)) (hc1 : cs[2 + k]? = some (pt s.h)) (hc5 : cs[5]? = some (.bool true)) (hc4 : cs[4]? = some (pt b)) (hB : BkV bs) (htn : bs.turn < 1099511627776) (hw : wh % 2 = (k : Int)) (ha : -9223372036854775808 ≤ wh) (ha' : wh ≤ 9223372036854775807) (hi : a < 0 ∨ (s.rs.length : Int) ≤ a) :
    Calls Try.prog 38 #[pt t, .agg (opCells 2 wh a tt A n c)] W fun e W' => e = .returned (.bool true) ∧ AftM w0 [B t cs 112] R0 s 9000 b bs W' := by
  obtain ⟨R, hR⟩ : ∃ R, R = bkE b bs ++ R0 := ⟨_, rfl⟩
  rw [← hR] at H
  have HRR := Lib.hid hR
  have HC4 := Lib.hid hc4
  have HBK := Lib.hid hB
  have HTN := Lib.hid htn
  clear hR hc4 hB htn
  obtain ⟨W1, hW1⟩ : ∃ W1, W1 = W.alloc (.cells (opCells 2 wh a tt A n c) 116) := ⟨_, rfl⟩
  obtain ⟨bo, hbo⟩ : ∃ bo, bo = W.heap.size := ⟨_, rfl⟩
  have h1 := H.newB (opCells 2 wh a tt A n c) 116
  rw [← hW1, ← hbo] at h1
  have x1 := h1.cellOf (g := bo) (cs := opCells 2 wh a tt A n c) (t := 116) (by simp) 1 rfl
  have x0 := h1.cellOf (g := bo) (cs := opCells 2 wh a tt A n c) (t := 116) (by simp) 0 rfl
  have x2 := h1.cellOf (g := bo) (cs := opCells 2 wh a tt A n c) (t := 116) (by simp) 2 rfl
  have y1 := h1.cellOf (g := t) (cs := cs) (t := 112) (by simp) k hc0
  have y2 := h1.cellOf (g := t) (cs := cs) (t := 112) (by simp) (2 + k) hc1
  have k1 : (0 : Int) ≤ (k : Int) := by omega
  have k2 : (k : Int) < 2 := by omega
  have HS := Lib.hid h1
  have HW1 := Lib.hid hW1
  have HV := Lib.hid hV
  have HBO := Lib.hid hbo
  have CI := fun W' => Lib.hid (into_gen wh 2 W' (by omega) (by omega) ha ha')
  rw [hw] at CI
  have HI := Lib.hid hi
  have hi2 : a < 0 ∨ ((tell s.rs).length : Int) ≤ a := by rw [tell_length]; exact hi
  have HI2 := Lib.hid hi2
  have HC5 := Lib.hid hc5
  clear h1 hW1 H hV hc0 hc1 ha ha' hw hi hi2 hc5
  rw [hbo] at x0 x1 x2
  rw [HW1.out] at x0 x1 x2 y1 y2
  clear hbo
  go_enter Try.func38, Try.ntmps38
  go_wp2_with fail
  refine (CI _).out.mono ?_; rintro e w1 ⟨rfl, rfl⟩
  go_wp2_with fail
  rw [← HW1.out, ← HBO.out]
  rw [← HBO.out, ← HW1.out] at x2
  clear x0 x1 y1 y2
  have CA : Hid (∀ w4 M, St w0 w4 (M ++ (B bo (opCells 2 wh a tt A n c) 116 :: B t cs 112 :: (sdE s ++ R))) → Calls Try.prog 44 #[pt s.g, .int .i64 a] w4 fun e w' => e = .returned (.tuple #[.agg #[.int .i64 0, .slice none 0 0], .bool false]) ∧ St w0 w' (M ++ (B bo (opCells 2 wh a tt A n c) 116 :: B t cs 112 :: (sdE s ++ R)))) := fun w4 M h4 => (nlook0 a (h4.re (M := netE s.g s.v s.room s.lost (tell s.rs) ++ (rnetE s.h s.vr s.room s.lost s.rs ++ (M ++ (B bo (opCells 2 wh a tt A n c) 116 :: B t cs 112 :: R)))) (fun x => by simp only [sdE, tell_append, tell_erase, cnt_append, cnt_cons, cnt_nil]; omega)) HV.out.nv HI2.out).mono fun e w' ⟨h1, h2⟩ => ⟨h1, h2.re (fun x => by simp only [sdE, tell_append, tell_erase, cnt_append, cnt_cons, cnt_nil]; omega)⟩
  have CB : Hid (∀ w4 M, St w0 w4 (M ++ (B bo (opCells 2 wh a tt A n c) 116 :: B t cs 112 :: (sdE s ++ R))) → Calls Try.prog 46 #[pt s.h, .int .i64 a] w4 fun e w' => e = .returned (.tuple #[.agg #[.int .i64 0, .slice none 0 0], .bool false]) ∧ St w0 w' (M ++ (B bo (opCells 2 wh a tt A n c) 116 :: B t cs 112 :: (sdE s ++ R)))) := fun w4 M h4 => (mlook0 a (h4.re (M := rnetE s.h s.vr s.room s.lost s.rs ++ (netE s.g s.v s.room s.lost (tell s.rs) ++ (M ++ (B bo (opCells 2 wh a tt A n c) 116 :: B t cs 112 :: R)))) (fun x => by simp only [sdE, tell_append, tell_erase, cnt_append, cnt_cons, cnt_nil]; omega)) HV.out.rv HI.out).mono fun e w' ⟨h1, h2⟩ => ⟨h1, h2.re (fun x => by simp only [sdE, tell_append, tell_erase, cnt_append, cnt_cons, cnt_nil]; omega)⟩
  have H1D := Lib.hid HS.out.drew
  obtain ⟨pf, hpf⟩ : ∃ pf, pf = W1.heap.size := ⟨_, rfl⟩
  have h1a := (HS.out.newB #[.int .i64 0, .slice none 0 0] 71).drew
  rw [← hpf] at h1a
  have x2a : ∀ o, (W1.alloc o).cell? ⟨bo, 2, none⟩ = some (.int .i64 a) := fun o => (HS.out.new o (P := fun _ => True) trivial).cellOf (g := bo) (cs := opCells 2 wh a tt A n c) (t := 116) (by simp) 2 rfl
  have H1A := Lib.hid h1a
  have HPF := Lib.hid hpf
  clear h1a hpf
  go_region_law (first
    | (go_simp; go_at_call 44; refine (CA.out _ [] H1D.out).mono ?_; rintro e w4 ⟨rfl, hs4⟩; have HS4 := Lib.hid hs4; clear hs4)
    | (go_simp; go_at_call 44; refine (CA.out _ [B pf #[.int .i64 0, .slice none 0 0] 71] H1A.out).mono ?_; rintro e w4 ⟨rfl, hs4⟩; have m0 := hs4.cellOf (g := pf) (cs := #[.int .i64 0, .slice none 0 0]) (t := 71) (by simp) 0 rfl; have m1 := hs4.cellOf (g := pf) (cs := #[.int .i64 0, .slice none 0 0]) (t := 71) (by simp) 1 rfl; have f0 := hs4.freeOf (g := pf) (cs := #[.int .i64 0, .slice none 0 0]) (t := 71) (by simp) 0; have f1 := hs4.freeOf (g := pf) (cs := #[.int .i64 0, .slice none 0 0]) (t := 71) (by simp) 1; rw [HPF.out] at m0 m1 f0 f1; have HS4 := Lib.hid (show St w0 w4 (B pf #[.int .i64 0, .slice none 0 0] 71 :: _) from hs4); clear hs4))
  all_goals
    first
      | (obtain ⟨W5, hW5⟩ : ∃ W5, W5 = w4.alloc (.cells #[.int .i64 0, .slice none 0 0] 71) := ⟨_, rfl⟩; rw [← hW5]; have h5 := St.newB HS4.out #[.int .i64 0, .slice none 0 0] 71; rw [← hW5] at h5; obtain ⟨pg, hpg⟩ : ∃ pg, pg = w4.heap.size := ⟨_, rfl⟩; rw [← hpg]; rw [← hpg] at h5; have H5 := Lib.hid h5; clear h5 hW5 hpg)
      | (obtain ⟨W5, hW5⟩ : ∃ W5, W5 = (w4.setCell ⟨W1.heap.size, 0, none⟩ (.int .i64 0)).setCell ⟨W1.heap.size, 1, none⟩ (.slice none 0 0) := ⟨_, rfl⟩; rw [← hW5]; have h5 := ((HS4.out.put (cs' := #[.int .i64 0, .slice none 0 0]) 0 (.int .i64 0) rfl).put (cs' := #[.int .i64 0, .slice none 0 0]) 1 (.slice none 0 0) rfl); rw [HPF.out, ← hW5] at h5; obtain ⟨pg, hpg⟩ : ∃ pg, pg = W1.heap.size := ⟨_, rfl⟩; rw [← hpg]; rw [← hpg] at h5; have H5 := Lib.hid h5; clear h5 hW5 hpg)
    have z2 := H5.out.cellOf (g := bo) (cs := opCells 2 wh a tt A n c) (t := 116) (by simp) 2 rfl
    go_wp2_with fail
    refine (CB.out W5 [B pg #[.int .i64 0, .slice none 0 0] 71] (H5.out.re (fun x => by simp only [toldE, sdE, tell_erase, List.append_eq, List.nil_append, cnt_append, cnt_cons, cnt_nil]; omega))).mono ?_; rintro e w6 ⟨rfl, hs6⟩
    obtain ⟨W7, hW7⟩ : ∃ W7, W7 = w6.alloc (.cells #[.int .i64 0, .slice none 0 0] 71) := ⟨_, rfl⟩
    have h7 := hs6.newB #[.int .i64 0, .slice none 0 0] 71
    rw [← hW7] at h7
    have e0 := h7.cellOf (g := pg) (cs := #[.int .i64 0, .slice none 0 0]) (t := 71) (by simp) 0 rfl
    have e1 := h7.cellOf (g := pg) (cs := #[.int .i64 0, .slice none 0 0]) (t := 71) (by simp) 1 rfl
    rw [HRR.out] at h7
    have CT := Lib.hid (toldM w0 W7 (B bo (opCells 2 wh a tt A n c) 116 :: (sdE s ++ R0)) t b cs bs 0 [] none none none 0 0 false rfl (h7.re (M := B t cs 112 :: (bkE b bs ++ (ownE none 0 0 ++ (B bo (opCells 2 wh a tt A n c) 116 :: (sdE s ++ R0))))) (fun x => by simp only [ownE, sdE, tell_erase, List.append_eq, List.nil_append, cnt_append, cnt_cons, cnt_nil]; omega)) HBK.out HC4.out HC5.out (fun e => ⟨rfl, rfl⟩) HTN.out (ReadsOf.nil U 0 W7) (ReadsOf.nil U 0 W7) (by simp))
    rw [hW7] at e0 e1
    have HW7 := Lib.hid hW7
    clear hs6 hW7 h7
    go_wp2_with fail
    rw [← HW7.out]
    refine CT.out.mono ?_; rintro e w8 ⟨rfl, bs8, hB8, hT8, hs8⟩
    have HB8 := Lib.hid hB8
    have HT8 := Lib.hid hT8
    have H7 := Lib.hid (hs8.re (M := [B bo (opCells 2 wh a tt A n c) 116, B t cs 112] ++ (sdE s ++ (bkE b bs8 ++ R0))) (fun x => by simp only [toldE, sdE, tell_erase, List.append_eq, List.nil_append, cnt_append, cnt_cons, cnt_nil]; omega))
    clear hs8 hB8 hT8 e0 e1 z2
    have hV7 : SdV s := HV.out
    obtain ⟨t1, t2, t3, t4⟩ := tails H7.out hV7
    have T1 := Lib.hid t1
    have T2 := Lib.hid t2
    have T3 := Lib.hid t3
    have T4 := Lib.hid t4
    have V7 := Lib.hid hV7
    clear hV7 t1 t2 t3 t4
    go_wp2_with fail
    refine (T1.out _ rfl).mono ?_; rintro e w8 ⟨rfl, rfl⟩
    go_wp2_with fail
    refine (T2.out _ rfl).mono ?_; rintro e w8 ⟨rfl, rfl⟩
    go_wp2_with fail
    refine (T3.out _ rfl).mono ?_; rintro e w8 ⟨rfl, rfl⟩
    go_wp2_with fail
    refine (T4.out _ rfl).mono ?_; rintro e w8 ⟨rfl, rfl⟩
    go_wp2_with fail
    go_ret
    exact ⟨rfl, bs8, HB8.out, Nat.le_of_eq HT8.out, s, V7.out, rfl, rfl, rfl, by first | omega | (simp only; omega), H7.out.re (fun x => by simp only [cnt_append, cnt_cons, cnt_nil]; omega)⟩
set_option maxRecDepth 20000 in
set_option maxHeartbeats 6400000 in
theorem playsM_take0 (w0 W : World) (R0 : List Ent) (b : Nat) (bs : BkS) (t k : Nat) (cs : Array Value) (s : Sd) (wh a tt : Int) (A : Option Addr) (n c : Nat) (H : St w0 W (B t cs 112 :: (sdE s ++ (bkE b bs ++ R0)))) (hV : SdV s) (hl : s.lost ≤ 1099511627776) (hk : k < 2)
    (hc0 : cs[k]? = some (pt s.g)) (hc1 : cs[2 + k]? = some (pt s.h)) (hc5 : cs[5]? = some (.bool true)) (hc4 : cs[4]? = some (pt b)) (hB : BkV bs) (htn : bs.turn < 1099511627776) (hw : wh % 2 = (k : Int)) (ha : -9223372036854775808 ≤ wh) (ha' : wh ≤ 9223372036854775807) (hi : a < 0 ∨ (s.rs.length : Int) ≤ a) :
    Calls Try.prog 38 #[pt t, .agg (opCells 3 wh a tt A n c)] W fun e W' => e = .returned (.bool true) ∧ AftM w0 [B t cs 112] R0 s 9000 b bs W' := by
  obtain ⟨R, hR⟩ : ∃ R, R = bkE b bs ++ R0 := ⟨_, rfl⟩
  rw [← hR] at H
  have HRR := Lib.hid hR
  have HC4 := Lib.hid hc4
  have HBK := Lib.hid hB
  have HTN := Lib.hid htn
  clear hR hc4 hB htn
  obtain ⟨W1, hW1⟩ : ∃ W1, W1 = W.alloc (.cells (opCells 3 wh a tt A n c) 116) := ⟨_, rfl⟩
  obtain ⟨bo, hbo⟩ : ∃ bo, bo = W.heap.size := ⟨_, rfl⟩
  have h1 := H.newB (opCells 3 wh a tt A n c) 116
  rw [← hW1, ← hbo] at h1
  have x1 := h1.cellOf (g := bo) (cs := opCells 3 wh a tt A n c) (t := 116) (by simp) 1 rfl
  have x0 := h1.cellOf (g := bo) (cs := opCells 3 wh a tt A n c) (t := 116) (by simp) 0 rfl
  have x2 := h1.cellOf (g := bo) (cs := opCells 3 wh a tt A n c) (t := 116) (by simp) 2 rfl
  have y1 := h1.cellOf (g := t) (cs := cs) (t := 112) (by simp) k hc0
  have y2 := h1.cellOf (g := t) (cs := cs) (t := 112) (by simp) (2 + k) hc1
  have k1 : (0 : Int) ≤ (k : Int) := by omega
  have k2 : (k : Int) < 2 := by omega
  have HS := Lib.hid h1
  have HW1 := Lib.hid hW1
  have HV := Lib.hid hV
  have HBO := Lib.hid hbo
  have CI := fun W' => Lib.hid (into_gen wh 2 W' (by omega) (by omega) ha ha')
  rw [hw] at CI
  have HI := Lib.hid hi
  have hi2 : a < 0 ∨ ((tell s.rs).length : Int) ≤ a := by rw [tell_length]; exact hi
  have HI2 := Lib.hid hi2
  have HC5 := Lib.hid hc5
  clear h1 hW1 H hV hc0 hc1 ha ha' hw hi hi2 hc5
  rw [hbo] at x0 x1 x2
  rw [HW1.out] at x0 x1 x2 y1 y2
  clear hbo
  go_enter Try.func38, Try.ntmps38
  go_wp2_with fail
  refine (CI _).out.mono ?_; rintro e w1 ⟨rfl, rfl⟩
  go_wp2_with fail
  rw [← HW1.out, ← HBO.out]
  rw [← HBO.out, ← HW1.out] at x2
  clear x0 x1 y1 y2
  have CA : Hid (∀ w4 M, St w0 w4 (M ++ (B bo (opCells 3 wh a tt A n c) 116 :: B t cs 112 :: (sdE s ++ R))) → Calls Try.prog 28 #[pt s.g, .int .i64 a] w4 fun e w' => e = .returned (.tuple #[.agg #[.int .i64 0, .slice none 0 0], .bool false]) ∧ St w0 w' (M ++ (B bo (opCells 3 wh a tt A n c) 116 :: B t cs 112 :: (sdE s ++ R)))) := fun w4 M h4 => (ntake0 a (h4.re (M := netE s.g s.v s.room s.lost (tell s.rs) ++ (rnetE s.h s.vr s.room s.lost s.rs ++ (M ++ (B bo (opCells 3 wh a tt A n c) 116 :: B t cs 112 :: R)))) (fun x => by simp only [sdE, tell_append, tell_erase, cnt_append, cnt_cons, cnt_nil]; omega)) HV.out.nv HI2.out).mono fun e w' ⟨h1, h2⟩ => ⟨h1, h2.re (fun x => by simp only [sdE, tell_append, tell_erase, cnt_append, cnt_cons, cnt_nil]; omega)⟩
  have CB : Hid (∀ w4 M, St w0 w4 (M ++ (B bo (opCells 3 wh a tt A n c) 116 :: B t cs 112 :: (sdE s ++ R))) → Calls Try.prog 58 #[pt s.h, .int .i64 a] w4 fun e w' => e = .returned (.tuple #[.agg #[.int .i64 0, .slice none 0 0], .bool false]) ∧ St w0 w' (M ++ (B bo (opCells 3 wh a tt A n c) 116 :: B t cs 112 :: (sdE s ++ R)))) := fun w4 M h4 => (mtake0 a (h4.re (M := rnetE s.h s.vr s.room s.lost s.rs ++ (netE s.g s.v s.room s.lost (tell s.rs) ++ (M ++ (B bo (opCells 3 wh a tt A n c) 116 :: B t cs 112 :: R)))) (fun x => by simp only [sdE, tell_append, tell_erase, cnt_append, cnt_cons, cnt_nil]; omega)) HV.out.rv HI.out).mono fun e w' ⟨h1, h2⟩ => ⟨h1, h2.re (fun x => by simp only [sdE, tell_append, tell_erase, cnt_append, cnt_cons, cnt_nil]; omega)⟩
  have H1D := Lib.hid HS.out.drew
  obtain ⟨pf, hpf⟩ : ∃ pf, pf = W1.heap.size := ⟨_, rfl⟩
  have h1a := (HS.out.newB #[.int .i64 0, .slice none 0 0] 71).drew
  rw [← hpf] at h1a
  have x2a : ∀ o, (W1.alloc o).cell? ⟨bo, 2, none⟩ = some (.int .i64 a) := fun o => (HS.out.new o (P := fun _ => True) trivial).cellOf (g := bo) (cs := opCells 3 wh a tt A n c) (t := 116) (by simp) 2 rfl
  have H1A := Lib.hid h1a
  have HPF := Lib.hid hpf
  clear h1a hpf
  go_region_law (first
    | (go_simp; go_at_call 28; refine (CA.out _ [] H1D.out).mono ?_; rintro e w4 ⟨rfl, hs4⟩; have HS4 := Lib.hid hs4; clear hs4)
    | (go_simp; go_at_call 28; refine (CA.out _ [B pf #[.int .i64 0, .slice none 0 0] 71] H1A.out).mono ?_; rintro e w4 ⟨rfl, hs4⟩; have m0 := hs4.cellOf (g := pf) (cs := #[.int .i64 0, .slice none 0 0]) (t := 71) (by simp) 0 rfl; have m1 := hs4.cellOf (g := pf) (cs := #[.int .i64 0, .slice none 0 0]) (t := 71) (by simp) 1 rfl; have f0 := hs4.freeOf (g := pf) (cs := #[.int .i64 0, .slice none 0 0]) (t := 71) (by simp) 0; have f1 := hs4.freeOf (g := pf) (cs := #[.int .i64 0, .slice none 0 0]) (t := 71) (by simp) 1; rw [HPF.out] at m0 m1 f0 f1; have HS4 := Lib.hid (show St w0 w4 (B pf #[.int .i64 0, .slice none 0 0] 71 :: _) from hs4); clear hs4))
  all_goals
    first
      | (obtain ⟨W5, hW5⟩ : ∃ W5, W5 = w4.alloc (.cells #[.int .i64 0, .slice none 0 0] 71) := ⟨_, rfl⟩; rw [← hW5]; have h5 := St.newB HS4.out #[.int .i64 0, .slice none 0 0] 71; rw [← hW5] at h5; obtain ⟨pg, hpg⟩ : ∃ pg, pg = w4.heap.size := ⟨_, rfl⟩; rw [← hpg]; rw [← hpg] at h5; have H5 := Lib.hid h5; clear h5 hW5 hpg)
      | (obtain ⟨W5, hW5⟩ : ∃ W5, W5 = (w4.setCell ⟨W1.heap.size, 0, none⟩ (.int .i64 0)).setCell ⟨W1.heap.size, 1, none⟩ (.slice none 0 0) := ⟨_, rfl⟩; rw [← hW5]; have h5 := ((HS4.out.put (cs' := #[.int .i64 0, .slice none 0 0]) 0 (.int .i64 0) rfl).put (cs' := #[.int .i64 0, .slice none 0 0]) 1 (.slice none 0 0) rfl); rw [HPF.out, ← hW5] at h5; obtain ⟨pg, hpg⟩ : ∃ pg, pg = W1.heap.size := ⟨_, rfl⟩; rw [← hpg]; rw [← hpg] at h5; have H5 := Lib.hid h5; clear h5 hW5 hpg)
    have z2 := H5.out.cellOf (g := bo) (cs := opCells 3 wh a tt A n c) (t := 116) (by simp) 2 rfl
    go_wp2_with fail
    refine (CB.out W5 [B pg #[.int .i64 0, .slice none 0 0] 71] (H5.out.re (fun x => by simp only [toldE, sdE, tell_erase, List.append_eq, List.nil_append, cnt_append, cnt_cons, cnt_nil]; omega))).mono ?_; rintro e w6 ⟨rfl, hs6⟩
    obtain ⟨W7, hW7⟩ : ∃ W7, W7 = w6.alloc (.cells #[.int .i64 0, .slice none 0 0] 71) := ⟨_, rfl⟩
    have h7 := hs6.newB #[.int .i64 0, .slice none 0 0] 71
    rw [← hW7] at h7
    have e0 := h7.cellOf (g := pg) (cs := #[.int .i64 0, .slice none 0 0]) (t := 71) (by simp) 0 rfl
    have e1 := h7.cellOf (g := pg) (cs := #[.int .i64 0, .slice none 0 0]) (t := 71) (by simp) 1 rfl
    rw [HRR.out] at h7
    have CT := Lib.hid (toldM w0 W7 (B bo (opCells 3 wh a tt A n c) 116 :: (sdE s ++ R0)) t b cs bs 0 [] none none none 0 0 false rfl (h7.re (M := B t cs 112 :: (bkE b bs ++ (ownE none 0 0 ++ (B bo (opCells 3 wh a tt A n c) 116 :: (sdE s ++ R0))))) (fun x => by simp only [ownE, sdE, tell_erase, List.append_eq, List.nil_append, cnt_append, cnt_cons, cnt_nil]; omega)) HBK.out HC4.out HC5.out (fun e => ⟨rfl, rfl⟩) HTN.out (ReadsOf.nil U 0 W7) (ReadsOf.nil U 0 W7) (by simp))
    rw [hW7] at e0 e1
    have HW7 := Lib.hid hW7
    clear hs6 hW7 h7
    go_wp2_with fail
    rw [← HW7.out]
    refine CT.out.mono ?_; rintro e w8 ⟨rfl, bs8, hB8, hT8, hs8⟩
    have HB8 := Lib.hid hB8
    have HT8 := Lib.hid hT8
    have H7 := Lib.hid (hs8.re (M := [B bo (opCells 3 wh a tt A n c) 116, B t cs 112] ++ (sdE s ++ (bkE b bs8 ++ R0))) (fun x => by simp only [toldE, sdE, tell_erase, List.append_eq, List.nil_append, cnt_append, cnt_cons, cnt_nil]; omega))
    clear hs8 hB8 hT8 e0 e1 z2
    have hV7 : SdV s := HV.out
    obtain ⟨t1, t2, t3, t4⟩ := tails H7.out hV7
    have T1 := Lib.hid t1
    have T2 := Lib.hid t2
    have T3 := Lib.hid t3
    have T4 := Lib.hid t4
    have V7 := Lib.hid hV7
    clear hV7 t1 t2 t3 t4
    go_wp2_with fail
    refine (T1.out _ rfl).mono ?_; rintro e w8 ⟨rfl, rfl⟩
    go_wp2_with fail
    refine (T2.out _ rfl).mono ?_; rintro e w8 ⟨rfl, rfl⟩
    go_wp2_with fail
    refine (T3.out _ rfl).mono ?_; rintro e w8 ⟨rfl, rfl⟩
    go_wp2_with fail
    refine (T4.out _ rfl).mono ?_; rintro e w8 ⟨rfl, rfl⟩
    go_wp2_with fail
    go_ret
    exact ⟨rfl, bs8, HB8.out, Nat.le_of_eq HT8.out, s, V7.out, rfl, rfl, rfl, by first | omega | (simp only; omega), H7.out.re (fun x => by simp only [cnt_append, cnt_cons, cnt_nil]; omega)⟩
set_option maxRecDepth 20000 in
set_option maxHeartbeats 6400000 in
theorem playsM_look1 (w0 W : World) (R0 : List Ent) (b : Nat) (bs : BkS) (t k : Nat) (cs : Array Value) (s : Sd) (wh a tt : Int) (A : Option Addr) (n c : Nat) (H : St w0 W (B t cs 112 :: (sdE s ++ (bkE b bs ++ R0)))) (hV : SdV s) (hl : s.lost ≤ 1099511627776) (hk : k < 2)
    (hc0 : cs[k]? = some (pt s.g)) (hc1 : cs[2 + k]? = some (pt s.h)) (hc5 : cs[5]? = some (.bool true)) (hc4 : cs[4]? = some (pt b)) (hB : BkV bs) (htn : bs.turn < 1099511627776) (hw : wh % 2 = (k : Int)) (ha : -9223372036854775808 ≤ wh) (ha' : wh ≤ 9223372036854775807) (i : Nat) (hi : i < s.rs.length) :
    Calls Try.prog 38 #[pt t, .agg (opCells 2 wh i tt A n c)] W fun e W' => e = .returned (.bool true) ∧ AftM w0 [B t cs 112] R0 s 9000 b bs W' := by
  obtain ⟨R, hR⟩ : ∃ R, R = bkE b bs ++ R0 := ⟨_, rfl⟩
  rw [← hR] at H
  have HRR := Lib.hid hR
  have HC4 := Lib.hid hc4
  have HBK := Lib.hid hB
  have HTN := Lib.hid htn
  clear hR hc4 hB htn
  obtain ⟨W1, hW1⟩ : ∃ W1, W1 = W.alloc (.cells (opCells 2 wh i tt A n c) 116) := ⟨_, rfl⟩
  obtain ⟨bo, hbo⟩ : ∃ bo, bo = W.heap.size := ⟨_, rfl⟩
  have h1 := H.newB (opCells 2 wh i tt A n c) 116
  rw [← hW1, ← hbo] at h1
  have x1 := h1.cellOf (g := bo) (cs := opCells 2 wh i tt A n c) (t := 116) (by simp) 1 rfl
  have x0 := h1.cellOf (g := bo) (cs := opCells 2 wh i tt A n c) (t := 116) (by simp) 0 rfl
  have x2 := h1.cellOf (g := bo) (cs := opCells 2 wh i tt A n c) (t := 116) (by simp) 2 rfl
  have y1 := h1.cellOf (g := t) (cs := cs) (t := 112) (by simp) k hc0
  have y2 := h1.cellOf (g := t) (cs := cs) (t := 112) (by simp) (2 + k) hc1
  have k1 : (0 : Int) ≤ (k : Int) := by omega
  have k2 : (k : Int) < 2 := by omega
  have HS := Lib.hid h1
  have HW1 := Lib.hid hW1
  have HV := Lib.hid hV
  have HBO := Lib.hid hbo
  have CI := fun W' => Lib.hid (into_gen wh 2 W' (by omega) (by omega) ha ha')
  rw [hw] at CI
  have HC5 := Lib.hid hc5
  have HI := Lib.hid hi
  obtain ⟨q, hq⟩ : ∃ q, q = s.rs[i] := ⟨_, rfl⟩
  have HQM : Hid (q ∈ s.rs) := by show q ∈ s.rs; rw [hq]; exact List.getElem_mem hi
  have HQ : Hid (s.rs[i] = (q.1, q.2.1, q.2.2)) := hq.symm
  have HT : Hid (∃ h, (tell s.rs)[i]'h = (q.1, strOfNums q.2.2)) := ⟨by rw [tell_length]; exact hi, by rw [tell_get _ _ hi]; subst hq; rfl⟩
  clear h1 hW1 H hV hc0 hc1 ha ha' hw hi hc5 hq
  rw [hbo] at x0 x1 x2
  rw [HW1.out] at x0 x1 x2 y1 y2
  clear hbo
  go_enter Try.func38, Try.ntmps38
  go_wp2_with fail
  refine (CI _).out.mono ?_; rintro e w1 ⟨rfl, rfl⟩
  go_wp2_with fail
  rw [← HW1.out, ← HBO.out]
  rw [← HBO.out, ← HW1.out] at x2
  clear x0 x1 y1 y2
  have CA : Hid (∀ w4 M, St w0 w4 (M ++ (B bo (opCells 2 wh i tt A n c) 116 :: B t cs 112 :: (sdE s ++ R))) → Calls Try.prog 44 #[pt s.g, .int .i64 i] w4 fun e w' => ∃ g2 c2, e = .returned (.tuple #[.agg #[.int .i64 q.1, .slice (some ⟨g2, 0, none⟩) q.2.2.length c2], .bool true]) ∧ St w0 w' (M ++ (toldE g2 (strOfNums q.2.2) c2 :: B bo (opCells 2 wh i tt A n c) 116 :: B t cs 112 :: (sdE s ++ R)))) := fun w4 M h4 => by
    obtain ⟨hti, htq⟩ := HT.out
    have h := nlook1 i q.1 (strOfNums q.2.2) (h4.re (M := netE s.g s.v s.room s.lost (tell s.rs) ++ (rnetE s.h s.vr s.room s.lost s.rs ++ (M ++ (B bo (opCells 2 wh i tt A n c) 116 :: B t cs 112 :: R)))) (fun x => by simp only [sdE, tell_append, tell_erase, cnt_append, cnt_cons, cnt_nil]; omega)) HV.out.nv hti htq
    rw [strOfNums_size] at h
    exact h.mono fun e w' ⟨g2, c2, h1, h2⟩ => ⟨g2, c2, h1, h2.re (fun x => by simp only [toldE, sdE, cnt_append, cnt_cons, cnt_nil]; omega)⟩
  have CB : Hid (∀ w4 M, St w0 w4 (M ++ (B bo (opCells 2 wh i tt A n c) 116 :: B t cs 112 :: (sdE s ++ R))) → Calls Try.prog 46 #[pt s.h, .int .i64 i] w4 fun e w' => ∃ A2 c2, e = .returned (.tuple #[.agg #[.int .i64 q.1, .slice A2 q.2.2.length c2], .bool true]) ∧ ReadsOf U 0 w' A2 q.2.2.length q.2.2 ∧ St w0 w' (M ++ (B bo (opCells 2 wh i tt A n c) 116 :: B t cs 112 :: (sdE s ++ R)))) := fun w4 M h4 =>
    (mlook1 i q.1 q.2.1 q.2.2 (h4.re (M := rnetE s.h s.vr s.room s.lost s.rs ++ (netE s.g s.v s.room s.lost (tell s.rs) ++ (M ++ (B bo (opCells 2 wh i tt A n c) 116 :: B t cs 112 :: R)))) (fun x => by simp only [sdE, tell_append, tell_erase, cnt_append, cnt_cons, cnt_nil]; omega)) HV.out.rv HI.out HQ.out (HV.out.by_ q HQM.out).2).mono fun e w' ⟨A2, c2, h1, h2, h3⟩ => ⟨A2, c2, h1, Go.Proofs.Ytfmggmpllggbnaa.Bytes.own_reads (xs := q.2.2) (h3.own h2) (by simp), h3.re (fun x => by simp only [sdE, tell_append, tell_erase, cnt_append, cnt_cons, cnt_nil]; omega)⟩
  have H1D := Lib.hid HS.out.drew
  obtain ⟨pf, hpf⟩ : ∃ pf, pf = W1.heap.size := ⟨_, rfl⟩
  have h1a := (HS.out.newB #[.int .i64 0, .slice none 0 0] 71).drew
  rw [← hpf] at h1a
  have x2a : ∀ o, (W1.alloc o).cell? ⟨bo, 2, none⟩ = some (.int .i64 i) := fun o => (HS.out.new o (P := fun _ => True) trivial).cellOf (g := bo) (cs := opCells 2 wh i tt A n c) (t := 116) (by simp) 2 rfl
  have H1A := Lib.hid h1a
  have HPF := Lib.hid hpf
  clear h1a hpf
  go_region_law (first
    | (go_simp; go_at_call 44; refine (CA.out _ [] H1D.out).mono ?_; rintro e w4 ⟨g2, c2, rfl, hs4⟩; have HS4 := Lib.hid hs4; clear hs4)
    | (go_simp; go_at_call 44; refine (CA.out _ [B pf #[.int .i64 0, .slice none 0 0] 71] H1A.out).mono ?_; rintro e w4 ⟨g2, c2, rfl, hs4⟩; have m0 := hs4.cellOf (g := pf) (cs := #[.int .i64 0, .slice none 0 0]) (t := 71) (by simp) 0 rfl; have m1 := hs4.cellOf (g := pf) (cs := #[.int .i64 0, .slice none 0 0]) (t := 71) (by simp) 1 rfl; have f0 := hs4.freeOf (g := pf) (cs := #[.int .i64 0, .slice none 0 0]) (t := 71) (by simp) 0; have f1 := hs4.freeOf (g := pf) (cs := #[.int .i64 0, .slice none 0 0]) (t := 71) (by simp) 1; rw [HPF.out] at m0 m1 f0 f1; have HS4 := Lib.hid (show St w0 w4 (B pf #[.int .i64 0, .slice none 0 0] 71 :: _) from hs4); clear hs4))
  all_goals
    first
      | (obtain ⟨W5, hW5⟩ : ∃ W5, W5 = w4.alloc (.cells #[.int .i64 q.1, .slice (some ⟨g2, 0, none⟩) q.2.2.length c2] 71) := ⟨_, rfl⟩; rw [← hW5]; have h5 := St.newB HS4.out #[.int .i64 q.1, .slice (some ⟨g2, 0, none⟩) q.2.2.length c2] 71; rw [← hW5] at h5; obtain ⟨pg, hpg⟩ : ∃ pg, pg = w4.heap.size := ⟨_, rfl⟩; rw [← hpg]; rw [← hpg] at h5; have H5 := Lib.hid h5; clear h5 hW5 hpg)
      | (obtain ⟨W5, hW5⟩ : ∃ W5, W5 = (w4.setCell ⟨W1.heap.size, 0, none⟩ (.int .i64 q.1)).setCell ⟨W1.heap.size, 1, none⟩ (.slice (some ⟨g2, 0, none⟩) q.2.2.length c2) := ⟨_, rfl⟩; rw [← hW5]; have h5 := ((HS4.out.put (cs' := #[.int .i64 q.1, .slice none 0 0]) 0 (.int .i64 q.1) rfl).put (cs' := #[.int .i64 q.1, .slice (some ⟨g2, 0, none⟩) q.2.2.length c2]) 1 (.slice (some ⟨g2, 0, none⟩) q.2.2.length c2) rfl); rw [HPF.out, ← hW5] at h5; obtain ⟨pg, hpg⟩ : ∃ pg, pg = W1.heap.size := ⟨_, rfl⟩; rw [← hpg]; rw [← hpg] at h5; have H5 := Lib.hid h5; clear h5 hW5 hpg)
    have z2 := H5.out.cellOf (g := bo) (cs := opCells 2 wh i tt A n c) (t := 116) (by simp) 2 rfl
    go_wp2_with fail
    refine (CB.out W5 [B pg #[.int .i64 q.1, .slice (some ⟨g2, 0, none⟩) q.2.2.length c2] 71, toldE g2 (strOfNums q.2.2) c2] (H5.out.re (fun x => by simp only [toldE, sdE, tell_erase, List.append_eq, List.nil_append, cnt_append, cnt_cons, cnt_nil]; omega))).mono ?_; rintro e w6 ⟨A6, c6, rfl, hr6, hs6⟩
    obtain ⟨W7, hW7⟩ : ∃ W7, W7 = w6.alloc (.cells #[.int .i64 q.1, .slice A6 q.2.2.length c6] 71) := ⟨_, rfl⟩
    have h7 := hs6.newB #[.int .i64 q.1, .slice A6 q.2.2.length c6] 71
    rw [← hW7] at h7
    have e0 := h7.cellOf (g := pg) (cs := #[.int .i64 q.1, .slice (some ⟨g2, 0, none⟩) q.2.2.length c2]) (t := 71) (by simp) 0 rfl
    have e1 := h7.cellOf (g := pg) (cs := #[.int .i64 q.1, .slice (some ⟨g2, 0, none⟩) q.2.2.length c2]) (t := 71) (by simp) 1 rfl
    rw [HRR.out] at h7
    have hq1 := St.toldReads h7 (g := g2) (c := c2) (xs := q.2.2) (by simp) (HV.out.by_ q HQM.out).1 (HV.out.by_ q HQM.out).2
    have hq2 := hr6.below (show Below w6.heap.size w6 W7 by rw [hW7]; exact (Below.refl _ _).alloc (Nat.le_refl _) _)
    have h7w := St.weak (h7.re (M := toldE g2 (strOfNums q.2.2) c2 :: (B t cs 112 :: (bkE b bs ++ (B bo (opCells 2 wh i tt A n c) 116 :: (sdE s ++ R0))))) (fun x => by simp only [toldE, sdE, tell_erase, List.append_eq, List.nil_append, cnt_append, cnt_cons, cnt_nil]; omega)) (told_free (xs := q.2.2) (c := c2))
    have CT := Lib.hid (toldM w0 W7 (B bo (opCells 2 wh i tt A n c) 116 :: (sdE s ++ R0)) t b cs bs q.1 q.2.2 (some g2) (some ⟨g2, 0, none⟩) A6 c2 c6 true rfl (h7w.re (fun x => by simp only [ownE, cnt_append, cnt_cons, cnt_nil]; omega)) HBK.out HC4.out HC5.out (fun e => by cases e) HTN.out hq1 hq2 (HV.out.by_ q HQM.out).2)
    clear h7w
    rw [hW7] at e0 e1
    have HW7 := Lib.hid hW7
    clear hr6 hq1 hq2
    clear hs6 hW7 h7
    go_wp2_with fail
    rw [← HW7.out]
    refine CT.out.mono ?_; rintro e w8 ⟨rfl, bs8, hB8, hT8, hs8⟩
    have HB8 := Lib.hid hB8
    have HT8 := Lib.hid hT8
    have H7 := Lib.hid (hs8.re (M := [B bo (opCells 2 wh i tt A n c) 116, B t cs 112] ++ (sdE s ++ (bkE b bs8 ++ R0))) (fun x => by simp only [toldE, sdE, tell_erase, List.append_eq, List.nil_append, cnt_append, cnt_cons, cnt_nil]; omega))
    clear hs8 hB8 hT8 e0 e1 z2
    have hV7 : SdV s := HV.out
    obtain ⟨t1, t2, t3, t4⟩ := tails H7.out hV7
    have T1 := Lib.hid t1
    have T2 := Lib.hid t2
    have T3 := Lib.hid t3
    have T4 := Lib.hid t4
    have V7 := Lib.hid hV7
    clear hV7 t1 t2 t3 t4
    go_wp2_with fail
    refine (T1.out _ rfl).mono ?_; rintro e w8 ⟨rfl, rfl⟩
    go_wp2_with fail
    refine (T2.out _ rfl).mono ?_; rintro e w8 ⟨rfl, rfl⟩
    go_wp2_with fail
    refine (T3.out _ rfl).mono ?_; rintro e w8 ⟨rfl, rfl⟩
    go_wp2_with fail
    refine (T4.out _ rfl).mono ?_; rintro e w8 ⟨rfl, rfl⟩
    go_wp2_with fail
    go_ret
    exact ⟨rfl, bs8, HB8.out, Nat.le_of_eq HT8.out, s, V7.out, rfl, rfl, rfl, by first | omega | (simp only; omega), H7.out.re (fun x => by simp only [cnt_append, cnt_cons, cnt_nil]; omega)⟩
set_option maxRecDepth 20000 in
set_option maxHeartbeats 6400000 in
theorem playsM_take1 (w0 W : World) (R0 : List Ent) (b : Nat) (bs : BkS) (t k : Nat) (cs : Array Value) (s : Sd) (wh a tt : Int) (A : Option Addr) (n c : Nat) (H : St w0 W (B t cs 112 :: (sdE s ++ (bkE b bs ++ R0)))) (hV : SdV s) (hl : s.lost ≤ 1099511627776) (hk : k < 2)
    (hc0 : cs[k]? = some (pt s.g)) (hc1 : cs[2 + k]? = some (pt s.h)) (hc5 : cs[5]? = some (.bool true)) (hc4 : cs[4]? = some (pt b)) (hB : BkV bs) (htn : bs.turn < 1099511627776) (hw : wh % 2 = (k : Int)) (ha : -9223372036854775808 ≤ wh) (ha' : wh ≤ 9223372036854775807) (i : Nat) (hi : i < s.rs.length) :
    Calls Try.prog 38 #[pt t, .agg (opCells 3 wh i tt A n c)] W fun e W' => e = .returned (.bool true) ∧ AftM w0 [B t cs 112] R0 s 9000 b bs W' := by
  obtain ⟨R, hR⟩ : ∃ R, R = bkE b bs ++ R0 := ⟨_, rfl⟩
  rw [← hR] at H
  have HRR := Lib.hid hR
  have HC4 := Lib.hid hc4
  have HBK := Lib.hid hB
  have HTN := Lib.hid htn
  clear hR hc4 hB htn
  obtain ⟨W1, hW1⟩ : ∃ W1, W1 = W.alloc (.cells (opCells 3 wh i tt A n c) 116) := ⟨_, rfl⟩
  obtain ⟨bo, hbo⟩ : ∃ bo, bo = W.heap.size := ⟨_, rfl⟩
  have h1 := H.newB (opCells 3 wh i tt A n c) 116
  rw [← hW1, ← hbo] at h1
  have x1 := h1.cellOf (g := bo) (cs := opCells 3 wh i tt A n c) (t := 116) (by simp) 1 rfl
  have x0 := h1.cellOf (g := bo) (cs := opCells 3 wh i tt A n c) (t := 116) (by simp) 0 rfl
  have x2 := h1.cellOf (g := bo) (cs := opCells 3 wh i tt A n c) (t := 116) (by simp) 2 rfl
  have y1 := h1.cellOf (g := t) (cs := cs) (t := 112) (by simp) k hc0
  have y2 := h1.cellOf (g := t) (cs := cs) (t := 112) (by simp) (2 + k) hc1
  have k1 : (0 : Int) ≤ (k : Int) := by omega
  have k2 : (k : Int) < 2 := by omega
  have HS := Lib.hid h1
  have HW1 := Lib.hid hW1
  have HV := Lib.hid hV
  have HBO := Lib.hid hbo
  have CI := fun W' => Lib.hid (into_gen wh 2 W' (by omega) (by omega) ha ha')
  rw [hw] at CI
  have HC5 := Lib.hid hc5
  have HI := Lib.hid hi
  obtain ⟨q, hq⟩ : ∃ q, q = s.rs[i] := ⟨_, rfl⟩
  have HQM : Hid (q ∈ s.rs) := by show q ∈ s.rs; rw [hq]; exact List.getElem_mem hi
  have HQ : Hid (s.rs[i] = (q.1, q.2.1, q.2.2)) := hq.symm
  have HT : Hid (∃ h, (tell s.rs)[i]'h = (q.1, strOfNums q.2.2)) := ⟨by rw [tell_length]; exact hi, by rw [tell_get _ _ hi]; subst hq; rfl⟩
  clear h1 hW1 H hV hc0 hc1 ha ha' hw hi hc5 hq
  rw [hbo] at x0 x1 x2
  rw [HW1.out] at x0 x1 x2 y1 y2
  clear hbo
  go_enter Try.func38, Try.ntmps38
  go_wp2_with fail
  refine (CI _).out.mono ?_; rintro e w1 ⟨rfl, rfl⟩
  go_wp2_with fail
  rw [← HW1.out, ← HBO.out]
  rw [← HBO.out, ← HW1.out] at x2
  clear x0 x1 y1 y2
  have CA : Hid (∀ w4 M, St w0 w4 (M ++ (B bo (opCells 3 wh i tt A n c) 116 :: B t cs 112 :: (sdE s ++ R))) → Calls Try.prog 28 #[pt s.g, .int .i64 i] w4 fun e w' => ∃ g2 c2 v4, e = .returned (.tuple #[.agg #[.int .i64 q.1, .slice (some ⟨g2, 0, none⟩) q.2.2.length c2], .bool true]) ∧ netV v4 ((tell s.rs).eraseIdx i) ∧ St w0 w' (M ++ (toldE g2 (strOfNums q.2.2) c2 :: B bo (opCells 3 wh i tt A n c) 116 :: B t cs 112 :: (netE s.g v4 s.room s.lost ((tell s.rs).eraseIdx i) ++ (rnetE s.h s.vr s.room s.lost s.rs ++ R))))) := fun w4 M h4 => by
    obtain ⟨hti, htq⟩ := HT.out
    have h := ntake1 i q.1 (strOfNums q.2.2) (h4.re (M := netE s.g s.v s.room s.lost (tell s.rs) ++ (rnetE s.h s.vr s.room s.lost s.rs ++ (M ++ (B bo (opCells 3 wh i tt A n c) 116 :: B t cs 112 :: R)))) (fun x => by simp only [sdE, tell_append, tell_erase, cnt_append, cnt_cons, cnt_nil]; omega)) HV.out.nv hti (by rw [tell_length]; have := HV.out.len; have := HV.out.r2; omega) htq
    rw [strOfNums_size] at h
    exact h.mono fun e w' ⟨g2, c2, v4, h1, h0, h2⟩ => ⟨g2, c2, v4, h1, h0, h2.re (fun x => by simp only [toldE, sdE, cnt_append, cnt_cons, cnt_nil]; omega)⟩
  have CB : Hid (∀ w4 v4 M, St w0 w4 (M ++ (B bo (opCells 3 wh i tt A n c) 116 :: B t cs 112 :: (netE s.g v4 s.room s.lost ((tell s.rs).eraseIdx i) ++ (rnetE s.h s.vr s.room s.lost s.rs ++ R)))) → Calls Try.prog 58 #[pt s.h, .int .i64 i] w4 fun e w' => ∃ A2 c2 v6, e = .returned (.tuple #[.agg #[.int .i64 q.1, .slice A2 q.2.2.length c2], .bool true]) ∧ ReadsOf U 0 w' A2 q.2.2.length q.2.2 ∧ rnetV v6 (s.rs.eraseIdx i) ∧ St w0 w' (M ++ (B bo (opCells 3 wh i tt A n c) 116 :: B t cs 112 :: (sdE { s with v := v4, vr := v6, rs := s.rs.eraseIdx i } ++ R)))) := fun w4 v4 M h4 =>
    (mtake1 i q.1 q.2.1 q.2.2 (h4.re (M := rnetE s.h s.vr s.room s.lost s.rs ++ (netE s.g v4 s.room s.lost ((tell s.rs).eraseIdx i) ++ (M ++ (B bo (opCells 3 wh i tt A n c) 116 :: B t cs 112 :: R)))) (fun x => by simp only [sdE, tell_append, tell_erase, cnt_append, cnt_cons, cnt_nil]; omega)) HV.out.rv HI.out (by have := HV.out.len; have := HV.out.r2; omega) HQ.out (HV.out.by_ q HQM.out).2).mono fun e w' ⟨A2, c2, v6, h1, h2, h3, h5⟩ => ⟨A2, c2, v6, h1, h3, h2, h5.re (fun x => by simp only [sdE, tell_append, tell_erase, cnt_append, cnt_cons, cnt_nil]; omega)⟩
  have H1D := Lib.hid HS.out.drew
  obtain ⟨pf, hpf⟩ : ∃ pf, pf = W1.heap.size := ⟨_, rfl⟩
  have h1a := (HS.out.newB #[.int .i64 0, .slice none 0 0] 71).drew
  rw [← hpf] at h1a
  have x2a : ∀ o, (W1.alloc o).cell? ⟨bo, 2, none⟩ = some (.int .i64 i) := fun o => (HS.out.new o (P := fun _ => True) trivial).cellOf (g := bo) (cs := opCells 3 wh i tt A n c) (t := 116) (by simp) 2 rfl
  have H1A := Lib.hid h1a
  have HPF := Lib.hid hpf
  clear h1a hpf
  go_region_law (first
    | (go_simp; go_at_call 28; refine (CA.out _ [] H1D.out).mono ?_; rintro e w4 ⟨g2, c2, v4, rfl, hn4, hs4⟩; have HS4 := Lib.hid hs4; have HN4 := Lib.hid hn4; clear hs4 hn4)
    | (go_simp; go_at_call 28; refine (CA.out _ [B pf #[.int .i64 0, .slice none 0 0] 71] H1A.out).mono ?_; rintro e w4 ⟨g2, c2, v4, rfl, hn4, hs4⟩; have m0 := hs4.cellOf (g := pf) (cs := #[.int .i64 0, .slice none 0 0]) (t := 71) (by simp) 0 rfl; have m1 := hs4.cellOf (g := pf) (cs := #[.int .i64 0, .slice none 0 0]) (t := 71) (by simp) 1 rfl; have f0 := hs4.freeOf (g := pf) (cs := #[.int .i64 0, .slice none 0 0]) (t := 71) (by simp) 0; have f1 := hs4.freeOf (g := pf) (cs := #[.int .i64 0, .slice none 0 0]) (t := 71) (by simp) 1; rw [HPF.out] at m0 m1 f0 f1; have HS4 := Lib.hid (show St w0 w4 (B pf #[.int .i64 0, .slice none 0 0] 71 :: _) from hs4); have HN4 := Lib.hid hn4; clear hs4 hn4))
  all_goals
    first
      | (obtain ⟨W5, hW5⟩ : ∃ W5, W5 = w4.alloc (.cells #[.int .i64 q.1, .slice (some ⟨g2, 0, none⟩) q.2.2.length c2] 71) := ⟨_, rfl⟩; rw [← hW5]; have h5 := St.newB HS4.out #[.int .i64 q.1, .slice (some ⟨g2, 0, none⟩) q.2.2.length c2] 71; rw [← hW5] at h5; obtain ⟨pg, hpg⟩ : ∃ pg, pg = w4.heap.size := ⟨_, rfl⟩; rw [← hpg]; rw [← hpg] at h5; have H5 := Lib.hid h5; clear h5 hW5 hpg)
      | (obtain ⟨W5, hW5⟩ : ∃ W5, W5 = (w4.setCell ⟨W1.heap.size, 0, none⟩ (.int .i64 q.1)).setCell ⟨W1.heap.size, 1, none⟩ (.slice (some ⟨g2, 0, none⟩) q.2.2.length c2) := ⟨_, rfl⟩; rw [← hW5]; have h5 := ((HS4.out.put (cs' := #[.int .i64 q.1, .slice none 0 0]) 0 (.int .i64 q.1) rfl).put (cs' := #[.int .i64 q.1, .slice (some ⟨g2, 0, none⟩) q.2.2.length c2]) 1 (.slice (some ⟨g2, 0, none⟩) q.2.2.length c2) rfl); rw [HPF.out, ← hW5] at h5; obtain ⟨pg, hpg⟩ : ∃ pg, pg = W1.heap.size := ⟨_, rfl⟩; rw [← hpg]; rw [← hpg] at h5; have H5 := Lib.hid h5; clear h5 hW5 hpg)
    have z2 := H5.out.cellOf (g := bo) (cs := opCells 3 wh i tt A n c) (t := 116) (by simp) 2 rfl
    go_wp2_with fail
    refine (CB.out W5 v4 [B pg #[.int .i64 q.1, .slice (some ⟨g2, 0, none⟩) q.2.2.length c2] 71, toldE g2 (strOfNums q.2.2) c2] (H5.out.re (fun x => by simp only [toldE, sdE, tell_erase, List.append_eq, List.nil_append, cnt_append, cnt_cons, cnt_nil]; omega))).mono ?_; rintro e w6 ⟨A6, c6, v6, rfl, hr6, hn6, hs6⟩
    obtain ⟨W7, hW7⟩ : ∃ W7, W7 = w6.alloc (.cells #[.int .i64 q.1, .slice A6 q.2.2.length c6] 71) := ⟨_, rfl⟩
    have h7 := hs6.newB #[.int .i64 q.1, .slice A6 q.2.2.length c6] 71
    rw [← hW7] at h7
    have e0 := h7.cellOf (g := pg) (cs := #[.int .i64 q.1, .slice (some ⟨g2, 0, none⟩) q.2.2.length c2]) (t := 71) (by simp) 0 rfl
    have e1 := h7.cellOf (g := pg) (cs := #[.int .i64 q.1, .slice (some ⟨g2, 0, none⟩) q.2.2.length c2]) (t := 71) (by simp) 1 rfl
    rw [HRR.out] at h7
    have hq1 := St.toldReads h7 (g := g2) (c := c2) (xs := q.2.2) (by simp) (HV.out.by_ q HQM.out).1 (HV.out.by_ q HQM.out).2
    have hq2 := hr6.below (show Below w6.heap.size w6 W7 by rw [hW7]; exact (Below.refl _ _).alloc (Nat.le_refl _) _)
    have h7w := St.weak (h7.re (M := toldE g2 (strOfNums q.2.2) c2 :: (B t cs 112 :: (bkE b bs ++ (B bo (opCells 3 wh i tt A n c) 116 :: (sdE { s with v := v4, vr := v6, rs := s.rs.eraseIdx i } ++ R0))))) (fun x => by simp only [toldE, sdE, tell_erase, List.append_eq, List.nil_append, cnt_append, cnt_cons, cnt_nil]; omega)) (told_free (xs := q.2.2) (c := c2))
    have CT := Lib.hid (toldM w0 W7 (B bo (opCells 3 wh i tt A n c) 116 :: (sdE { s with v := v4, vr := v6, rs := s.rs.eraseIdx i } ++ R0)) t b cs bs q.1 q.2.2 (some g2) (some ⟨g2, 0, none⟩) A6 c2 c6 true rfl (h7w.re (fun x => by simp only [ownE, cnt_append, cnt_cons, cnt_nil]; omega)) HBK.out HC4.out HC5.out (fun e => by cases e) HTN.out hq1 hq2 (HV.out.by_ q HQM.out).2)
    clear h7w
    rw [hW7] at e0 e1
    have HW7 := Lib.hid hW7
    have HN6 := Lib.hid hn6
    clear hn6 hr6 hq1 hq2
    clear hs6 hW7 h7
    go_wp2_with fail
    rw [← HW7.out]
    refine CT.out.mono ?_; rintro e w8 ⟨rfl, bs8, hB8, hT8, hs8⟩
    have HB8 := Lib.hid hB8
    have HT8 := Lib.hid hT8
    have H7 := Lib.hid (hs8.re (M := [B bo (opCells 3 wh i tt A n c) 116, B t cs 112] ++ (sdE { s with v := v4, vr := v6, rs := s.rs.eraseIdx i } ++ (bkE b bs8 ++ R0))) (fun x => by simp only [toldE, sdE, tell_erase, List.append_eq, List.nil_append, cnt_append, cnt_cons, cnt_nil]; omega))
    clear hs8 hB8 hT8 e0 e1 z2
    have hV7 : SdV { s with v := v4, vr := v6, rs := s.rs.eraseIdx i } := ⟨by have h := HN4.out; rw [← tell_erase] at h; exact h, HN6.out, HV.out.r1, HV.out.r2, by have h := HV.out.len; have h2 := HI.out; simp only [List.length_eraseIdx_of_lt h2]; omega, fun r hr => HV.out.by_ r (List.mem_of_mem_eraseIdx hr)⟩
    obtain ⟨t1, t2, t3, t4⟩ := tails H7.out hV7
    have T1 := Lib.hid t1
    have T2 := Lib.hid t2
    have T3 := Lib.hid t3
    have T4 := Lib.hid t4
    have V7 := Lib.hid hV7
    clear hV7 t1 t2 t3 t4
    go_wp2_with fail
    refine (T1.out _ rfl).mono ?_; rintro e w8 ⟨rfl, rfl⟩
    go_wp2_with fail
    refine (T2.out _ rfl).mono ?_; rintro e w8 ⟨rfl, rfl⟩
    go_wp2_with fail
    refine (T3.out _ rfl).mono ?_; rintro e w8 ⟨rfl, rfl⟩
    go_wp2_with fail
    refine (T4.out _ rfl).mono ?_; rintro e w8 ⟨rfl, rfl⟩
    go_wp2_with fail
    go_ret
    exact ⟨rfl, bs8, HB8.out, Nat.le_of_eq HT8.out, { s with v := v4, vr := v6, rs := s.rs.eraseIdx i }, V7.out, rfl, rfl, rfl, by first | omega | (simp only; omega), H7.out.re (fun x => by simp only [cnt_append, cnt_cons, cnt_nil]; omega)⟩
end Go.Proofs.Ytfmggmpllggbnaa.RNet
