/- plays: a message is dropped, doubled. -/
import Derived.Test.YtfmggmpllggbnaaPlays1
namespace Go.Proofs.Ytfmggmpllggbnaa.RNet
open Go.RowKit Go.Proofs.YtfmggmpllggbnaaW.PrintWords Go.Proofs.Ytfmggmpllggbnaa.Net Go.Proofs.Ytfmggmpllggbnaa.Mem
set_option linter.unusedVariables false
set_option linter.unusedSimpArgs false
set_option maxRecDepth 20000 in
set_option maxHeartbeats 6400000 in
theorem plays_drop0 (w0 W : World) (R : List Ent) (t k : Nat) (cs : Array Value) (s : Sd) (wh a tt : Int) (A : Option Addr) (n c : Nat) (H : St w0 W (B t cs 112 :: (sdE s ++ R))) (hV : SdV s) (hl : s.lost ≤ 1099511627776) (hk : k < 2)
    (hc0 : cs[k]? = some (pt s.g)) (hc1 : cs[2 + k]? = some (pt s.h)) (hw : wh % 2 = (k : Int)) (ha : -9223372036854775808 ≤ wh) (ha' : wh ≤ 9223372036854775807) (hi : a < 0 ∨ (s.rs.length : Int) ≤ a) :
    Calls Try.prog 38 #[pt t, .agg (opCells 4 wh a tt A n c)] W fun e W' => e = .returned (.bool true) ∧ Aft w0 [B t cs 112] R s 9000 W' := by
  obtain ⟨W1, hW1⟩ : ∃ W1, W1 = W.alloc (.cells (opCells 4 wh a tt A n c) 116) := ⟨_, rfl⟩
  obtain ⟨bo, hbo⟩ : ∃ bo, bo = W.heap.size := ⟨_, rfl⟩
  have h1 := H.newB (opCells 4 wh a tt A n c) 116
  rw [← hW1, ← hbo] at h1
  have x1 := h1.cellOf (g := bo) (cs := opCells 4 wh a tt A n c) (t := 116) (by simp) 1 rfl
  have x0 := h1.cellOf (g := bo) (cs := opCells 4 wh a tt A n c) (t := 116) (by simp) 0 rfl
  have x2 := h1.cellOf (g := bo) (cs := opCells 4 wh a tt A n c) (t := 116) (by simp) 2 rfl
  have y1 := h1.cellOf (g := t) (cs := cs) (t := 112) (by simp) k hc0
  have y2 := h1.cellOf (g := t) (cs := cs) (t := 112) (by simp) (2 + k) hc1
  have k1 : (0 : Int) ≤ (k : Int) := by omega
  have k2 : (k : Int) < 2 := by omega
  have HS := Lib.hid h1
  have HW1 := Lib.hid hW1
  have HV := Lib.hid hV
  have HBO := Lib.hid hbo
  have CI := fun W' => Lib.hid (into_gen wh 2 W' (by omega) (by omega) ha ha')
  rw [hw] at CI
  have HI := Lib.hid hi
  have hi2 : a < 0 ∨ ((tell s.rs).length : Int) ≤ a := by rw [tell_length]; exact hi
  have HI2 := Lib.hid hi2
  clear h1 hW1 H hV hc0 hc1 ha ha' hw hi hi2
  rw [hbo] at x0 x1 x2
  rw [HW1.out] at x0 x1 x2 y1 y2
  clear hbo
  go_enter Try.func38, Try.ntmps38
  go_wp2_with fail
  refine (CI _).out.mono ?_; rintro e w1 ⟨rfl, rfl⟩
  go_wp2_with fail
  rw [← HW1.out, ← HBO.out]
  rw [← HBO.out, ← HW1.out] at x2
  clear x0 x1 y1 y2
  have h1d := HS.out.drew
  have hre := h1d.re (M := netE s.g s.v s.room s.lost (tell s.rs) ++ (rnetE s.h s.vr s.room s.lost s.rs ++ (B bo (opCells 4 wh a tt A n c) 116 :: B t cs 112 :: R))) (fun x => by simp only [sdE, tell_append, tell_erase, cnt_append, cnt_cons, cnt_nil]; omega)
  have CA := Lib.hid (ndrop0 a hre HV.out.nv HI2.out)
  have CB : Hid (∀ w4, St w0 w4 (netE s.g s.v s.room s.lost (tell s.rs) ++ (rnetE s.h s.vr s.room s.lost s.rs ++ (B bo (opCells 4 wh a tt A n c) 116 :: B t cs 112 :: R))) → Calls Try.prog 59 #[pt s.h, .int .i64 a] w4 fun e w' => e = .returned (.bool false) ∧ St w0 w' (rnetE s.h s.vr s.room s.lost s.rs ++ (netE s.g s.v s.room s.lost (tell s.rs) ++ (B bo (opCells 4 wh a tt A n c) 116 :: B t cs 112 :: R)))) := fun w4 h4 => mdrop0 a (h4.re (fun x => by simp only [sdE, tell_append, tell_erase, cnt_append, cnt_cons, cnt_nil]; omega)) HV.out.rv HI.out
  clear h1d hre
  go_region_law (first
    | (go_simp; go_at_call 27; refine CA.out.mono ?_; rintro e w4 ⟨rfl, hs4⟩; have z4 := hs4.cellOf (g := bo) (cs := opCells 4 wh a tt A n c) (t := 116) (by simp) 2 rfl; have HS4 := Lib.hid hs4; clear hs4)
    | (go_simp; go_at_call 59; refine (CB.out w4 HS4.out).mono ?_; rintro e w5 ⟨rfl, hs5⟩; have H7 := Lib.hid (hs5.re (M := [B bo (opCells 4 wh a tt A n c) 116, B t cs 112] ++ (sdE s ++ R)) (fun x => by simp only [sdE, tell_append, tell_erase, cnt_append, cnt_cons, cnt_nil]; omega)); clear hs5))
  all_goals
    have hV7 : SdV s := HV.out
    obtain ⟨t1, t2, t3, t4⟩ := tails H7.out hV7
    have T1 := Lib.hid t1
    have T2 := Lib.hid t2
    have T3 := Lib.hid t3
    have T4 := Lib.hid t4
    have V7 := Lib.hid hV7
    clear hV7 t1 t2 t3 t4
    go_wp2_with fail
    refine (T1.out _ rfl).mono ?_; rintro e w8 ⟨rfl, rfl⟩
    go_wp2_with fail
    refine (T2.out _ rfl).mono ?_; rintro e w8 ⟨rfl, rfl⟩
    go_wp2_with fail
    refine (T3.out _ rfl).mono ?_; rintro e w8 ⟨rfl, rfl⟩
    go_wp2_with fail
    refine (T4.out _ rfl).mono ?_; rintro e w8 ⟨rfl, rfl⟩
    go_wp2_with fail
    go_ret
    exact ⟨rfl, s, V7.out, rfl, rfl, rfl, by first | omega | (simp only; omega), H7.out.re (fun x => by simp only [cnt_append, cnt_cons, cnt_nil]; omega)⟩
set_option maxRecDepth 20000 in
set_option maxHeartbeats 6400000 in
theorem plays_double0 (w0 W : World) (R : List Ent) (t k : Nat) (cs : Array Value) (s : Sd) (wh a tt : Int) (A : Option Addr) (n c : Nat) (H : St w0 W (B t cs 112 :: (sdE s ++ R))) (hV : SdV s) (hl : s.lost ≤ 1099511627776) (hk : k < 2)
    (hc0 : cs[k]? = some (pt s.g)) (hc1 : cs[2 + k]? = some (pt s.h)) (hw : wh % 2 = (k : Int)) (ha : -9223372036854775808 ≤ wh) (ha' : wh ≤ 9223372036854775807) (hi : a < 0 ∨ (s.rs.length : Int) ≤ a) :
    Calls Try.prog 38 #[pt t, .agg (opCells 5 wh a tt A n c)] W fun e W' => e = .returned (.bool true) ∧ Aft w0 [B t cs 112] R s 9000 W' := by
  obtain ⟨W1, hW1⟩ : ∃ W1, W1 = W.alloc (.cells (opCells 5 wh a tt A n c) 116) := ⟨_, rfl⟩
  obtain ⟨bo, hbo⟩ : ∃ bo, bo = W.heap.size := ⟨_, rfl⟩
  have h1 := H.newB (opCells 5 wh a tt A n c) 116
  rw [← hW1, ← hbo] at h1
  have x1 := h1.cellOf (g := bo) (cs := opCells 5 wh a tt A n c) (t := 116) (by simp) 1 rfl
  have x0 := h1.cellOf (g := bo) (cs := opCells 5 wh a tt A n c) (t := 116) (by simp) 0 rfl
  have x2 := h1.cellOf (g := bo) (cs := opCells 5 wh a tt A n c) (t := 116) (by simp) 2 rfl
  have y1 := h1.cellOf (g := t) (cs := cs) (t := 112) (by simp) k hc0
  have y2 := h1.cellOf (g := t) (cs := cs) (t := 112) (by simp) (2 + k) hc1
  have k1 : (0 : Int) ≤ (k : Int) := by omega
  have k2 : (k : Int) < 2 := by omega
  have HS := Lib.hid h1
  have HW1 := Lib.hid hW1
  have HV := Lib.hid hV
  have HBO := Lib.hid hbo
  have CI := fun W' => Lib.hid (into_gen wh 2 W' (by omega) (by omega) ha ha')
  rw [hw] at CI
  have HI := Lib.hid hi
  have hi2 : a < 0 ∨ ((tell s.rs).length : Int) ≤ a := by rw [tell_length]; exact hi
  have HI2 := Lib.hid hi2
  clear h1 hW1 H hV hc0 hc1 ha ha' hw hi hi2
  rw [hbo] at x0 x1 x2
  rw [HW1.out] at x0 x1 x2 y1 y2
  clear hbo
  go_enter Try.func38, Try.ntmps38
  go_wp2_with fail
  refine (CI _).out.mono ?_; rintro e w1 ⟨rfl, rfl⟩
  go_wp2_with fail
  rw [← HW1.out, ← HBO.out]
  rw [← HBO.out, ← HW1.out] at x2
  clear x0 x1 y1 y2
  have h1d := HS.out.drew
  have hre := h1d.re (M := netE s.g s.v s.room s.lost (tell s.rs) ++ (rnetE s.h s.vr s.room s.lost s.rs ++ (B bo (opCells 5 wh a tt A n c) 116 :: B t cs 112 :: R))) (fun x => by simp only [sdE, tell_append, tell_erase, cnt_append, cnt_cons, cnt_nil]; omega)
  have CA := Lib.hid (ndouble0 a hre HV.out.nv HI2.out)
  have CB : Hid (∀ w4, St w0 w4 (netE s.g s.v s.room s.lost (tell s.rs) ++ (rnetE s.h s.vr s.room s.lost s.rs ++ (B bo (opCells 5 wh a tt A n c) 116 :: B t cs 112 :: R))) → Calls Try.prog 60 #[pt s.h, .int .i64 a] w4 fun e w' => e = .returned (.bool false) ∧ St w0 w' (rnetE s.h s.vr s.room s.lost s.rs ++ (netE s.g s.v s.room s.lost (tell s.rs) ++ (B bo (opCells 5 wh a tt A n c) 116 :: B t cs 112 :: R)))) := fun w4 h4 => mdouble0 a (h4.re (fun x => by simp only [sdE, tell_append, tell_erase, cnt_append, cnt_cons, cnt_nil]; omega)) HV.out.rv HI.out
  clear h1d hre
  go_region_law (first
    | (go_simp; go_at_call 30; refine CA.out.mono ?_; rintro e w4 ⟨rfl, hs4⟩; have z4 := hs4.cellOf (g := bo) (cs := opCells 5 wh a tt A n c) (t := 116) (by simp) 2 rfl; have HS4 := Lib.hid hs4; clear hs4)
    | (go_simp; go_at_call 60; refine (CB.out w4 HS4.out).mono ?_; rintro e w5 ⟨rfl, hs5⟩; have H7 := Lib.hid (hs5.re (M := [B bo (opCells 5 wh a tt A n c) 116, B t cs 112] ++ (sdE s ++ R)) (fun x => by simp only [sdE, tell_append, tell_erase, cnt_append, cnt_cons, cnt_nil]; omega)); clear hs5))
  all_goals
    have hV7 : SdV s := HV.out
    obtain ⟨t1, t2, t3, t4⟩ := tails H7.out hV7
    have T1 := Lib.hid t1
    have T2 := Lib.hid t2
    have T3 := Lib.hid t3
    have T4 := Lib.hid t4
    have V7 := Lib.hid hV7
    clear hV7 t1 t2 t3 t4
    go_wp2_with fail
    refine (T1.out _ rfl).mono ?_; rintro e w8 ⟨rfl, rfl⟩
    go_wp2_with fail
    refine (T2.out _ rfl).mono ?_; rintro e w8 ⟨rfl, rfl⟩
    go_wp2_with fail
    refine (T3.out _ rfl).mono ?_; rintro e w8 ⟨rfl, rfl⟩
    go_wp2_with fail
    refine (T4.out _ rfl).mono ?_; rintro e w8 ⟨rfl, rfl⟩
    go_wp2_with fail
    go_ret
    exact ⟨rfl, s, V7.out, rfl, rfl, rfl, by first | omega | (simp only; omega), H7.out.re (fun x => by simp only [cnt_append, cnt_cons, cnt_nil]; omega)⟩
set_option maxRecDepth 20000 in
set_option maxHeartbeats 6400000 in
theorem plays_doubleF (w0 W : World) (R : List Ent) (t k : Nat) (cs : Array Value) (s : Sd) (wh a tt : Int) (A : Option Addr) (n c : Nat) (H : St w0 W (B t cs 112 :: (sdE s ++ R))) (hV : SdV s) (hl : s.lost ≤ 1099511627776) (hk : k < 2)
    (hc0 : cs[k]? = some (pt s.g)) (hc1 : cs[2 + k]? = some (pt s.h)) (hw : wh % 2 = (k : Int)) (ha : -9223372036854775808 ≤ wh) (ha' : wh ≤ 9223372036854775807) (i : Nat) (hi : i < s.rs.length) (hr : s.room ≤ (s.rs.length : Int)) :
    Calls Try.prog 38 #[pt t, .agg (opCells 5 wh i tt A n c)] W fun e W' => e = .returned (.bool true) ∧ Aft w0 [B t cs 112] R s 9000 W' := by
  obtain ⟨W1, hW1⟩ : ∃ W1, W1 = W.alloc (.cells (opCells 5 wh i tt A n c) 116) := ⟨_, rfl⟩
  obtain ⟨bo, hbo⟩ : ∃ bo, bo = W.heap.size := ⟨_, rfl⟩
  have h1 := H.newB (opCells 5 wh i tt A n c) 116
  rw [← hW1, ← hbo] at h1
  have x1 := h1.cellOf (g := bo) (cs := opCells 5 wh i tt A n c) (t := 116) (by simp) 1 rfl
  have x0 := h1.cellOf (g := bo) (cs := opCells 5 wh i tt A n c) (t := 116) (by simp) 0 rfl
  have x2 := h1.cellOf (g := bo) (cs := opCells 5 wh i tt A n c) (t := 116) (by simp) 2 rfl
  have y1 := h1.cellOf (g := t) (cs := cs) (t := 112) (by simp) k hc0
  have y2 := h1.cellOf (g := t) (cs := cs) (t := 112) (by simp) (2 + k) hc1
  have k1 : (0 : Int) ≤ (k : Int) := by omega
  have k2 : (k : Int) < 2 := by omega
  have HS := Lib.hid h1
  have HW1 := Lib.hid hW1
  have HV := Lib.hid hV
  have HBO := Lib.hid hbo
  have CI := fun W' => Lib.hid (into_gen wh 2 W' (by omega) (by omega) ha ha')
  rw [hw] at CI
  have HI := Lib.hid hi
  have HR := Lib.hid hr
  clear h1 hW1 H hV hc0 hc1 ha ha' hw hi hr
  rw [hbo] at x0 x1 x2
  rw [HW1.out] at x0 x1 x2 y1 y2
  clear hbo
  go_enter Try.func38, Try.ntmps38
  go_wp2_with fail
  refine (CI _).out.mono ?_; rintro e w1 ⟨rfl, rfl⟩
  go_wp2_with fail
  rw [← HW1.out, ← HBO.out]
  rw [← HBO.out, ← HW1.out] at x2
  clear x0 x1 y1 y2
  have h1d := HS.out.drew
  have hre := h1d.re (M := netE s.g s.v s.room s.lost (tell s.rs) ++ (rnetE s.h s.vr s.room s.lost s.rs ++ (B bo (opCells 5 wh i tt A n c) 116 :: B t cs 112 :: R))) (fun x => by simp only [sdE, tell_append, tell_erase, cnt_append, cnt_cons, cnt_nil]; omega)
  have CA := Lib.hid (ndoubleF i hre HV.out.nv (by rw [tell_length]; exact HI.out) (by rw [tell_length]; exact HR.out))
  have CB : Hid (∀ w4, St w0 w4 (netE s.g s.v s.room s.lost (tell s.rs) ++ (rnetE s.h s.vr s.room s.lost s.rs ++ (B bo (opCells 5 wh i tt A n c) 116 :: B t cs 112 :: R))) → Calls Try.prog 60 #[pt s.h, .int .i64 i] w4 fun e w' => e = .returned (.bool false) ∧ St w0 w' (rnetE s.h s.vr s.room s.lost s.rs ++ (netE s.g s.v s.room s.lost (tell s.rs) ++ (B bo (opCells 5 wh i tt A n c) 116 :: B t cs 112 :: R)))) := fun w4 h4 => mdoubleF i (h4.re (fun x => by simp only [sdE, tell_append, tell_erase, cnt_append, cnt_cons, cnt_nil]; omega)) HV.out.rv HI.out HR.out
  clear h1d hre
  go_region_law (first
    | (go_simp; go_at_call 30; refine CA.out.mono ?_; rintro e w4 ⟨rfl, hs4⟩; have z4 := hs4.cellOf (g := bo) (cs := opCells 5 wh i tt A n c) (t := 116) (by simp) 2 rfl; have HS4 := Lib.hid hs4; clear hs4)
    | (go_simp; go_at_call 60; refine (CB.out w4 HS4.out).mono ?_; rintro e w5 ⟨rfl, hs5⟩; have H7 := Lib.hid (hs5.re (M := [B bo (opCells 5 wh i tt A n c) 116, B t cs 112] ++ (sdE s ++ R)) (fun x => by simp only [sdE, tell_append, tell_erase, cnt_append, cnt_cons, cnt_nil]; omega)); clear hs5))
  all_goals
    have hV7 : SdV s := HV.out
    obtain ⟨t1, t2, t3, t4⟩ := tails H7.out hV7
    have T1 := Lib.hid t1
    have T2 := Lib.hid t2
    have T3 := Lib.hid t3
    have T4 := Lib.hid t4
    have V7 := Lib.hid hV7
    clear hV7 t1 t2 t3 t4
    go_wp2_with fail
    refine (T1.out _ rfl).mono ?_; rintro e w8 ⟨rfl, rfl⟩
    go_wp2_with fail
    refine (T2.out _ rfl).mono ?_; rintro e w8 ⟨rfl, rfl⟩
    go_wp2_with fail
    refine (T3.out _ rfl).mono ?_; rintro e w8 ⟨rfl, rfl⟩
    go_wp2_with fail
    refine (T4.out _ rfl).mono ?_; rintro e w8 ⟨rfl, rfl⟩
    go_wp2_with fail
    go_ret
    exact ⟨rfl, s, V7.out, rfl, rfl, rfl, by first | omega | (simp only; omega), H7.out.re (fun x => by simp only [cnt_append, cnt_cons, cnt_nil]; omega)⟩
set_option maxRecDepth 20000 in
set_option maxHeartbeats 6400000 in
theorem plays_drop1 (w0 W : World) (R : List Ent) (t k : Nat) (cs : Array Value) (s : Sd) (wh a tt : Int) (A : Option Addr) (n c : Nat) (H : St w0 W (B t cs 112 :: (sdE s ++ R))) (hV : SdV s) (hl : s.lost ≤ 1099511627776) (hk : k < 2)
    (hc0 : cs[k]? = some (pt s.g)) (hc1 : cs[2 + k]? = some (pt s.h)) (hw : wh % 2 = (k : Int)) (ha : -9223372036854775808 ≤ wh) (ha' : wh ≤ 9223372036854775807) (i : Nat) (hi : i < s.rs.length) :
    Calls Try.prog 38 #[pt t, .agg (opCells 4 wh i tt A n c)] W fun e W' => e = .returned (.bool true) ∧ Aft w0 [B t cs 112] R s 9000 W' := by
  obtain ⟨W1, hW1⟩ : ∃ W1, W1 = W.alloc (.cells (opCells 4 wh i tt A n c) 116) := ⟨_, rfl⟩
  obtain ⟨bo, hbo⟩ : ∃ bo, bo = W.heap.size := ⟨_, rfl⟩
  have h1 := H.newB (opCells 4 wh i tt A n c) 116
  rw [← hW1, ← hbo] at h1
  have x1 := h1.cellOf (g := bo) (cs := opCells 4 wh i tt A n c) (t := 116) (by simp) 1 rfl
  have x0 := h1.cellOf (g := bo) (cs := opCells 4 wh i tt A n c) (t := 116) (by simp) 0 rfl
  have x2 := h1.cellOf (g := bo) (cs := opCells 4 wh i tt A n c) (t := 116) (by simp) 2 rfl
  have y1 := h1.cellOf (g := t) (cs := cs) (t := 112) (by simp) k hc0
  have y2 := h1.cellOf (g := t) (cs := cs) (t := 112) (by simp) (2 + k) hc1
  have k1 : (0 : Int) ≤ (k : Int) := by omega
  have k2 : (k : Int) < 2 := by omega
  have HS := Lib.hid h1
  have HW1 := Lib.hid hW1
  have HV := Lib.hid hV
  have HBO := Lib.hid hbo
  have CI := fun W' => Lib.hid (into_gen wh 2 W' (by omega) (by omega) ha ha')
  rw [hw] at CI
  have HI := Lib.hid hi
  clear h1 hW1 H hV hc0 hc1 ha ha' hw hi
  rw [hbo] at x0 x1 x2
  rw [HW1.out] at x0 x1 x2 y1 y2
  clear hbo
  go_enter Try.func38, Try.ntmps38
  go_wp2_with fail
  refine (CI _).out.mono ?_; rintro e w1 ⟨rfl, rfl⟩
  go_wp2_with fail
  rw [← HW1.out, ← HBO.out]
  rw [← HBO.out, ← HW1.out] at x2
  clear x0 x1 y1 y2
  have h1d := HS.out.drew
  have hre := h1d.re (M := netE s.g s.v s.room s.lost (tell s.rs) ++ (rnetE s.h s.vr s.room s.lost s.rs ++ (B bo (opCells 4 wh i tt A n c) 116 :: B t cs 112 :: R))) (fun x => by simp only [sdE, tell_append, tell_erase, cnt_append, cnt_cons, cnt_nil]; omega)
  have CA := Lib.hid (ndrop1 i hre HV.out.nv (by rw [tell_length]; exact HI.out) (by rw [tell_length]; have := HV.out.len; have := HV.out.r2; omega))
  have CB : Hid (∀ w4 v4, St w0 w4 (netE s.g v4 s.room s.lost ((tell s.rs).eraseIdx i) ++ (rnetE s.h s.vr s.room s.lost s.rs ++ (B bo (opCells 4 wh i tt A n c) 116 :: B t cs 112 :: R))) → Calls Try.prog 59 #[pt s.h, .int .i64 i] w4 fun e w' => e = .returned (.bool true) ∧ ∃ v5, rnetV v5 (s.rs.eraseIdx i) ∧ St w0 w' (rnetE s.h v5 s.room s.lost (s.rs.eraseIdx i) ++ (netE s.g v4 s.room s.lost ((tell s.rs).eraseIdx i) ++ (B bo (opCells 4 wh i tt A n c) 116 :: B t cs 112 :: R)))) := fun w4 v4 h4 => mdrop1 i (h4.re (fun x => by simp only [sdE, tell_append, tell_erase, cnt_append, cnt_cons, cnt_nil]; omega)) HV.out.rv HI.out (by have := HV.out.len; have := HV.out.r2; omega)
  clear h1d hre
  go_region_law (first
    | (go_simp; go_at_call 27; refine CA.out.mono ?_; rintro e w4 ⟨rfl, v4, hn4, hs4⟩; have z4 := hs4.cellOf (g := bo) (cs := opCells 4 wh i tt A n c) (t := 116) (by simp) 2 rfl; have HS4 := Lib.hid hs4; have HN4 := Lib.hid hn4; clear hs4 hn4)
    | (go_simp; go_at_call 59; refine (CB.out w4 v4 HS4.out).mono ?_; rintro e w5 ⟨rfl, v5, hn5, hs5⟩; have H7 := Lib.hid (hs5.re (M := [B bo (opCells 4 wh i tt A n c) 116, B t cs 112] ++ (sdE { s with v := v4, vr := v5, rs := s.rs.eraseIdx i } ++ R)) (fun x => by simp only [sdE, tell_append, tell_erase, cnt_append, cnt_cons, cnt_nil]; omega)); have HN5 := Lib.hid hn5; clear hs5 hn5))
  all_goals
    have hV7 : SdV { s with v := v4, vr := v5, rs := s.rs.eraseIdx i } := ⟨by have h := HN4.out; rw [← tell_erase] at h; exact h, HN5.out, HV.out.r1, HV.out.r2, by have h := HV.out.len; have h2 := HI.out; simp only [List.length_eraseIdx_of_lt h2]; omega, fun r hr => HV.out.by_ r (List.mem_of_mem_eraseIdx hr)⟩
    obtain ⟨t1, t2, t3, t4⟩ := tails H7.out hV7
    have T1 := Lib.hid t1
    have T2 := Lib.hid t2
    have T3 := Lib.hid t3
    have T4 := Lib.hid t4
    have V7 := Lib.hid hV7
    clear hV7 t1 t2 t3 t4
    go_wp2_with fail
    refine (T1.out _ rfl).mono ?_; rintro e w8 ⟨rfl, rfl⟩
    go_wp2_with fail
    refine (T2.out _ rfl).mono ?_; rintro e w8 ⟨rfl, rfl⟩
    go_wp2_with fail
    refine (T3.out _ rfl).mono ?_; rintro e w8 ⟨rfl, rfl⟩
    go_wp2_with fail
    refine (T4.out _ rfl).mono ?_; rintro e w8 ⟨rfl, rfl⟩
    go_wp2_with fail
    go_ret
    exact ⟨rfl, { s with v := v4, vr := v5, rs := s.rs.eraseIdx i }, V7.out, rfl, rfl, rfl, by first | omega | (simp only; omega), H7.out.re (fun x => by simp only [cnt_append, cnt_cons, cnt_nil]; omega)⟩
set_option maxRecDepth 20000 in
set_option maxHeartbeats 6400000 in
theorem plays_doubleR (w0 W : World) (R : List Ent) (t k : Nat) (cs : Array Value) (s : Sd) (wh a tt : Int) (A : Option Addr) (n c : Nat) (H : St w0 W (B t cs 112 :: (sdE s ++ R))) (hV : SdV s) (hl : s.lost ≤ 1099511627776) (hk : k < 2)
    (hc0 : cs[k]? = some (pt s.g)) (hc1 : cs[2 + k]? = some (pt s.h)) (hw : wh % 2 = (k : Int)) (ha : -9223372036854775808 ≤ wh) (ha' : wh ≤ 9223372036854775807) (i : Nat) (hi : i < s.rs.length) (hr : (s.rs.length : Int) < s.room) :
    Calls Try.prog 38 #[pt t, .agg (opCells 5 wh i tt A n c)] W fun e W' => e = .returned (.bool true) ∧ Aft w0 [B t cs 112] R s 9000 W' := by
  obtain ⟨W1, hW1⟩ : ∃ W1, W1 = W.alloc (.cells (opCells 5 wh i tt A n c) 116) := ⟨_, rfl⟩
  obtain ⟨bo, hbo⟩ : ∃ bo, bo = W.heap.size := ⟨_, rfl⟩
  have h1 := H.newB (opCells 5 wh i tt A n c) 116
  rw [← hW1, ← hbo] at h1
  have x1 := h1.cellOf (g := bo) (cs := opCells 5 wh i tt A n c) (t := 116) (by simp) 1 rfl
  have x0 := h1.cellOf (g := bo) (cs := opCells 5 wh i tt A n c) (t := 116) (by simp) 0 rfl
  have x2 := h1.cellOf (g := bo) (cs := opCells 5 wh i tt A n c) (t := 116) (by simp) 2 rfl
  have y1 := h1.cellOf (g := t) (cs := cs) (t := 112) (by simp) k hc0
  have y2 := h1.cellOf (g := t) (cs := cs) (t := 112) (by simp) (2 + k) hc1
  have k1 : (0 : Int) ≤ (k : Int) := by omega
  have k2 : (k : Int) < 2 := by omega
  have HS := Lib.hid h1
  have HW1 := Lib.hid hW1
  have HV := Lib.hid hV
  have HBO := Lib.hid hbo
  have CI := fun W' => Lib.hid (into_gen wh 2 W' (by omega) (by omega) ha ha')
  rw [hw] at CI
  have HI := Lib.hid hi
  have HR := Lib.hid hr
  obtain ⟨q, hq⟩ : ∃ q, q = s.rs[i] := ⟨_, rfl⟩
  have HQM : Hid (q ∈ s.rs) := by show q ∈ s.rs; rw [hq]; exact List.getElem_mem hi
  have HQ : Hid (s.rs[i] = (q.1, q.2.1, q.2.2)) := hq.symm
  have HT : Hid (∃ h, (tell s.rs)[i]'h = (q.1, strOfNums q.2.2)) := ⟨by rw [tell_length]; exact hi, by rw [tell_get _ _ hi]; subst hq; rfl⟩
  clear h1 hW1 H hV hc0 hc1 ha ha' hw hi hr hq
  rw [hbo] at x0 x1 x2
  rw [HW1.out] at x0 x1 x2 y1 y2
  clear hbo
  go_enter Try.func38, Try.ntmps38
  go_wp2_with fail
  refine (CI _).out.mono ?_; rintro e w1 ⟨rfl, rfl⟩
  go_wp2_with fail
  rw [← HW1.out, ← HBO.out]
  rw [← HBO.out, ← HW1.out] at x2
  clear x0 x1 y1 y2
  have h1d := HS.out.drew
  have hre := h1d.re (M := netE s.g s.v s.room s.lost (tell s.rs) ++ (rnetE s.h s.vr s.room s.lost s.rs ++ (B bo (opCells 5 wh i tt A n c) 116 :: B t cs 112 :: R))) (fun x => by simp only [sdE, tell_append, tell_erase, cnt_append, cnt_cons, cnt_nil]; omega)
  obtain ⟨hti, htq⟩ := HT.out
  have ca := ndoubleR i hre HV.out.nv hti (by rw [tell_length]; exact HR.out) HV.out.r2
  rw [htq] at ca
  have CA := Lib.hid ca
  clear ca hti htq
  have CB : Hid (∀ w4 v4, St w0 w4 (netE s.g v4 s.room s.lost (tell s.rs ++ [(q.1, strOfNums q.2.2)]) ++ (rnetE s.h s.vr s.room s.lost s.rs ++ (B bo (opCells 5 wh i tt A n c) 116 :: B t cs 112 :: R))) → Calls Try.prog 60 #[pt s.h, .int .i64 i] w4 fun e w' => e = .returned (.bool true) ∧ ∃ v5 u5, rnetV v5 (s.rs ++ [(q.1, u5, q.2.2)]) ∧ St w0 w' (rnetE s.h v5 s.room s.lost (s.rs ++ [(q.1, u5, q.2.2)]) ++ (netE s.g v4 s.room s.lost (tell s.rs ++ [(q.1, strOfNums q.2.2)]) ++ (B bo (opCells 5 wh i tt A n c) 116 :: B t cs 112 :: R)))) := fun w4 v4 h4 => mdoubleR i q.1 q.2.1 q.2.2 (h4.re (fun x => by simp only [sdE, tell_append, tell_erase, cnt_append, cnt_cons, cnt_nil]; omega)) HV.out.rv HI.out HR.out HV.out.r2 HQ.out (HV.out.by_ q HQM.out).2
  clear h1d hre
  go_region_law (first
    | (go_simp; go_at_call 30; refine CA.out.mono ?_; rintro e w4 ⟨rfl, v4, hn4, hs4⟩; have z4 := hs4.cellOf (g := bo) (cs := opCells 5 wh i tt A n c) (t := 116) (by simp) 2 rfl; have HS4 := Lib.hid hs4; have HN4 := Lib.hid hn4; clear hs4 hn4)
    | (go_simp; go_at_call 60; refine (CB.out w4 v4 HS4.out).mono ?_; rintro e w5 ⟨rfl, v5, u5, hn5, hs5⟩; have H7 := Lib.hid (hs5.re (M := [B bo (opCells 5 wh i tt A n c) 116, B t cs 112] ++ (sdE { s with v := v4, vr := v5, rs := s.rs ++ [(q.1, u5, q.2.2)] } ++ R)) (fun x => by simp only [sdE, tell_append, tell_erase, cnt_append, cnt_cons, cnt_nil]; omega)); have HN5 := Lib.hid hn5; clear hs5 hn5))
  all_goals
    have hV7 : SdV { s with v := v4, vr := v5, rs := s.rs ++ [(q.1, u5, q.2.2)] } := both_room HV.out q.1 u5 v4 v5 (HV.out.by_ q HQM.out).1 (HV.out.by_ q HQM.out).2 HR.out HN4.out HN5.out
    obtain ⟨t1, t2, t3, t4⟩ := tails H7.out hV7
    have T1 := Lib.hid t1
    have T2 := Lib.hid t2
    have T3 := Lib.hid t3
    have T4 := Lib.hid t4
    have V7 := Lib.hid hV7
    clear hV7 t1 t2 t3 t4
    go_wp2_with fail
    refine (T1.out _ rfl).mono ?_; rintro e w8 ⟨rfl, rfl⟩
    go_wp2_with fail
    refine (T2.out _ rfl).mono ?_; rintro e w8 ⟨rfl, rfl⟩
    go_wp2_with fail
    refine (T3.out _ rfl).mono ?_; rintro e w8 ⟨rfl, rfl⟩
    go_wp2_with fail
    refine (T4.out _ rfl).mono ?_; rintro e w8 ⟨rfl, rfl⟩
    go_wp2_with fail
    go_ret
    exact ⟨rfl, { s with v := v4, vr := v5, rs := s.rs ++ [(q.1, u5, q.2.2)] }, V7.out, rfl, rfl, rfl, by first | omega | (simp only; omega), H7.out.re (fun x => by simp only [cnt_append, cnt_cons, cnt_nil]; omega)⟩
end Go.Proofs.Ytfmggmpllggbnaa.RNet
