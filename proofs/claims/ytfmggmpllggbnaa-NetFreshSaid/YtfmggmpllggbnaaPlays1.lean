/- plays: a message is sent. -/
import Derived.Test.YtfmggmpllggbnaaStage3
namespace Go.Proofs.Ytfmggmpllggbnaa.RNet
open Go.RowKit Go.Proofs.YtfmggmpllggbnaaW.PrintWords Go.Proofs.Ytfmggmpllggbnaa.Net Go.Proofs.Ytfmggmpllggbnaa.Mem
set_option linter.unusedVariables false
set_option linter.unusedSimpArgs false
open Go.Proofs.Ytfmggmpllggbnaa.Bytes (marked marked_length marked_take lend_calls intact_calls)
theorem clip_any (A : Option Addr) (xs : List Int) (c : Nat) (w : World) (hc : xs.length ≤ c) : Calls Try.prog 42 #[.slice A xs.length c] w fun e w' => e = .returned (.slice A (xs.take 4096).length c) ∧ w = w' := by
  by_cases h : xs.length ≤ 4096
  · rw [List.take_of_length_le h]
    exact (clip_short A xs.length c w h).mono fun e w' ⟨h1, h2⟩ => ⟨h1, h2.symm⟩
  · rw [show (xs.take 4096).length = 4096 by simp; omega]
    exact (clip_long A xs.length c w (by omega) hc).mono fun e w' ⟨h1, h2⟩ => ⟨h1, h2.symm⟩
theorem reads_take {w : World} {A : Option Addr} {xs : List Int} (h : ReadsOf U 0 w A xs.length xs) (k : Nat) : ReadsOf U 0 w A (xs.take k).length (xs.take k) :=
  ⟨rfl, by have := h.2.1; simp; omega, fun h0 => by
    have hl : (xs.take k).length ≤ xs.length := by simp; omega
    obtain ⟨ad, e, hc⟩ := h.2.2 (by omega)
    refine ⟨ad, e, fun j hj => ?_⟩
    rw [hc j (by omega)]
    congr 2
    rw [List.getD_eq_getElem?_getD, List.getD_eq_getElem?_getD, List.getElem?_take_of_lt (by simp at hj; omega)]⟩
/-- What a step of the stage leaves of the tail: both tell the same. -/
theorem tails {w0 W : World} {R F : List Ent} {s : Sd} (h : St w0 W (F ++ (sdE s ++ R))) (hV : SdV s) :
    (∀ W', W' = W → Calls Try.prog 31 #[pt s.g] W' fun e w' => e = .returned (.int .i64 (s.rs.length : Int)) ∧ W' = w') ∧ (∀ W', W' = W → Calls Try.prog 45 #[pt s.h] W' fun e w' => e = .returned (.int .i64 (s.rs.length : Int)) ∧ W' = w') ∧
    (∀ W', W' = W → Calls Try.prog 32 #[pt s.g] W' fun e w' => e = .returned (.int .u64 (s.lost : Int)) ∧ W' = w') ∧ (∀ W', W' = W → Calls Try.prog 62 #[pt s.h] W' fun e w' => e = .returned (.int .u64 (s.lost : Int)) ∧ W' = w') := by
  have h1 : St w0 W (netE s.g s.v s.room s.lost (tell s.rs) ++ (rnetE s.h s.vr s.room s.lost s.rs ++ (F ++ R))) := h.re (fun x => by simp only [sdE, cnt_append, cnt_cons, cnt_nil]; omega)
  have h2 : St w0 W (rnetE s.h s.vr s.room s.lost s.rs ++ (netE s.g s.v s.room s.lost (tell s.rs) ++ (F ++ R))) := h.re (fun x => by simp only [sdE, cnt_append, cnt_cons, cnt_nil]; omega)
  have l1 := nlen h1 hV.nv
  rw [tell_length] at l1
  refine ⟨fun W' e => ?_, fun W' e => ?_, fun W' e => ?_, fun W' e => ?_⟩
  · subst e; exact l1.mono fun e w' ⟨a, b⟩ => ⟨a, b.symm⟩
  · subst e; exact (mlen h2 hV.rv).mono fun e w' ⟨a, b⟩ => ⟨a, b.symm⟩
  · subst e; exact (nlost h1 hV.nv).mono fun e w' ⟨a, b⟩ => ⟨a, b.symm⟩
  · subst e; exact (mlost h2 hV.rv).mono fun e w' ⟨a, b⟩ => ⟨a, b.symm⟩
/-- A row that was written over is given up. -/
theorem St.spent {w0 W W1 : World} {L : List Ent} {gi cap n m : Nat} {e : TypeId} {sz : Nat} {xs : List Value} (h : St w0 W (rowE (.slice (some ⟨gi, 0, none⟩) n cap) e sz m xs ++ L)) (hb : Below w0.heap.size W W1) (hk : KeepBut W W1 gi none) : St w0 W1 L := by
  have := h.step (G := []) (h.bl.trans hb) hk.1 (fun i hi hne => hk.2 i hi (fun e => hne _ (mem_row ..) e.symm) (by simp)) (by simp) (by simp) (by simp)
  simpa using this
theorem own_reads_at {w0 W : World} {L : List Ent} {gi cap : Nat} {xs : List Int} (h : St w0 W (rowE (.slice (some ⟨gi, 0, none⟩) (marked xs).length cap) 5 1 (marked xs).length (encs U (marked xs)) ++ L)) (hv : rowV (.slice (some ⟨gi, 0, none⟩) (marked xs).length cap) 1 (marked xs).length (encs U (marked xs))) : ReadsOf U 0 W (some ⟨gi, 0, none⟩) xs.length xs :=
  Go.Proofs.Ytfmggmpllggbnaa.Bytes.own_reads (h.own hv) (marked_take xs)
set_option maxRecDepth 20000 in
set_option maxHeartbeats 6400000 in
theorem plays_send (w0 W : World) (R : List Ent) (t k : Nat) (cs : Array Value) (s : Sd) (wh a tt : Int) (A : Option Addr) (xs : List Int) (c : Nat) (H : St w0 W (B t cs 112 :: (sdE s ++ R))) (hV : SdV s) (hl : s.lost ≤ 1099511627776) (hk : k < 2)
    (hc0 : cs[k]? = some (pt s.g)) (hc1 : cs[2 + k]? = some (pt s.h)) (hw : wh % 2 = (k : Int)) (ha : -9223372036854775808 ≤ wh) (ha' : wh ≤ 9223372036854775807)
    (hx : ReadsOf U 0 w0 A xs.length xs) (hxb : Byt xs) (hc : xs.length ≤ c) :
    Calls Try.prog 38 #[pt t, .agg (opCells 1 wh a tt A xs.length c)] W fun e W' => e = .returned (.bool true) ∧ Aft w0 [B t cs 112] R s 9000 W' := by
  obtain ⟨W1, hW1⟩ : ∃ W1, W1 = W.alloc (.cells (opCells 1 wh a tt A xs.length c) 116) := ⟨_, rfl⟩
  obtain ⟨bo, hbo⟩ : ∃ bo, bo = W.heap.size := ⟨_, rfl⟩
  have h1 := H.newB (opCells 1 wh a tt A xs.length c) 116
  rw [← hW1, ← hbo] at h1
  have x1 := h1.cellOf (g := bo) (cs := opCells 1 wh a tt A xs.length c) (t := 116) (by simp) 1 rfl
  have x0 := h1.cellOf (g := bo) (cs := opCells 1 wh a tt A xs.length c) (t := 116) (by simp) 0 rfl
  have x4 := h1.cellOf (g := bo) (cs := opCells 1 wh a tt A xs.length c) (t := 116) (by simp) 4 rfl
  have x3 := h1.cellOf (g := bo) (cs := opCells 1 wh a tt A xs.length c) (t := 116) (by simp) 3 rfl
  have y1 := h1.cellOf (g := t) (cs := cs) (t := 112) (by simp) k hc0
  have y2 := h1.cellOf (g := t) (cs := cs) (t := 112) (by simp) (2 + k) hc1
  have k1 : (0 : Int) ≤ (k : Int) := by omega
  have k2 : (k : Int) < 2 := by omega
  have HS := Lib.hid h1
  have HW1 := Lib.hid hW1
  have HV := Lib.hid hV
  have CI := fun W' => Lib.hid (into_gen wh 2 W' (by omega) (by omega) ha ha')
  rw [hw] at CI
  have CC := fun W' => Lib.hid (clip_any A xs c W' hc)
  have hy := reads_take hx 4096
  have hyb : Byt (xs.take 4096) := fun a h => hxb a (List.mem_of_mem_take h)
  have hyl : (xs.take 4096).length ≤ 4096 := by simp; omega
  obtain ⟨ys, hys⟩ : ∃ ys, ys = xs.take 4096 := ⟨_, rfl⟩
  rw [← hys] at hy hyb hyl CC
  have HY := Lib.hid hy
  have HYB := Lib.hid hyb
  have HYL := Lib.hid hyl
  have CL : Hid (Calls Try.prog 54 #[.slice A ys.length c] W1 _) := lend_calls ys A c W1 (Kd.C_of_reads (h1.reads hy)) (by omega)
  clear h1 hW1 H hV hc0 hc1 ha ha' hw hx hxb hc hys hy hyb hyl
  rw [hbo] at x0 x1 x3 x4
  rw [HW1.out] at x0 x1 x3 x4 y1 y2
  have HBO := Lib.hid hbo
  clear hbo
  go_enter Try.func38, Try.ntmps38
  go_wp2_with fail
  refine (CI _).out.mono ?_; rintro e w1 ⟨rfl, rfl⟩
  go_wp2_with fail
  refine (CC _).out.mono ?_; rintro e w2 ⟨rfl, rfl⟩
  go_wp2_with fail
  rw [← HW1.out, ← HBO.out]
  refine CL.out.mono ?_; rintro e w3 ⟨gi, cap, rfl, ho, hb3⟩
  replace ho : w3.ownsRow W1.heap.size 5 1 (.slice (some ⟨gi, 0, none⟩) (marked ys).length cap) (marked ys).length (encs U (marked ys)) := ho
  obtain ⟨h3, hv3⟩ := HS.out.fresh hb3 ho
  have HO3 := Lib.hid hv3
  have z3 := h3.cellOf (g := bo) (cs := opCells 1 wh a tt A xs.length c) (t := 116) (by simp) 3 rfl
  have H3 := Lib.hid h3
  clear ho hb3 h3 hv3 x0 x1 x3 x4 y1 y2 CC CI CL
  have h3d := H3.out.drew
  have hre := h3d.re (M := netE s.g s.v s.room s.lost (tell s.rs) ++ (rnetE s.h s.vr s.room s.lost s.rs ++ (rowE (.slice (some ⟨gi, 0, none⟩) (marked ys).length cap) 5 1 (marked ys).length (encs U (marked ys)) ++ (B bo (opCells 1 wh a tt A xs.length c) 116 :: B t cs 112 :: R)))) (fun x => by simp only [sdE, tell_append, cnt_append, cnt_cons, cnt_nil]; omega)
  have hrd := own_reads_at h3d HO3.out
  by_cases hr : (s.rs.length : Int) < s.room
  · have CA := Lib.hid (nsendR tt _ ys.length cap ys hrd hre HV.out.nv (by rw [tell_length]; exact hr) HV.out.r2)
    have CB : Hid (∀ w4 v3, St w0 w4 (netE s.g v3 s.room s.lost (tell s.rs ++ [(tt, strOfNums ys)]) ++ (rnetE s.h s.vr s.room s.lost s.rs ++ (rowE (.slice (some ⟨gi, 0, none⟩) (marked ys).length cap) 5 1 (marked ys).length (encs U (marked ys)) ++ (B bo (opCells 1 wh a tt A xs.length c) 116 :: B t cs 112 :: R)))) → Calls Try.prog 43 #[pt s.h, .int .i64 tt, .slice A ys.length c] w4 fun e w' => e = .returned (.bool true) ∧ ∃ v' u, rnetV v' (s.rs ++ [(tt, u, ys)]) ∧ St w0 w' (rnetE s.h v' s.room s.lost (s.rs ++ [(tt, u, ys)]) ++ (netE s.g v3 s.room s.lost (tell s.rs ++ [(tt, strOfNums ys)]) ++ (rowE (.slice (some ⟨gi, 0, none⟩) (marked ys).length cap) 5 1 (marked ys).length (encs U (marked ys)) ++ (B bo (opCells 1 wh a tt A xs.length c) 116 :: B t cs 112 :: R))))) := fun w4 v3 h3 =>
      msendR tt A c ys (h3.reads HY.out) HYL.out (h3.re (fun x => by simp only [sdE, tell_append, cnt_append, cnt_cons, cnt_nil]; omega)) HV.out.rv hr HV.out.r2
    have CX : Hid (∀ w5 M, St w0 w5 (rowE (.slice (some ⟨gi, 0, none⟩) (marked ys).length cap) 5 1 (marked ys).length (encs U (marked ys)) ++ M) → Calls Try.prog 55 #[.slice (some ⟨gi, 0, none⟩) ys.length cap, .slice A ys.length c] w5 fun e w' => e = .returned (.bool true) ∧ St w0 w' (rowE (.slice (some ⟨gi, 0, none⟩) (marked ys).length cap) 5 1 (marked ys).length (encs U (marked ys)) ++ M)) := fun w5 M h5 =>
      (intact_calls ys A c gi cap w0.heap.size w5 (h5.reads HY.out) (by have := HYL.out; omega) (h5.own HO3.out)).mono fun e w' ⟨a, b⟩ => ⟨a, h5.below b⟩
    have HR := Lib.hid hr
    clear h3d hre hrd hr
    go_wp2_with fail
    go_region_law (first
      | (go_simp; go_at_call 25; refine CA.out.mono ?_; rintro e w4 ⟨rfl, v4, hn4, hs4⟩; have z4 := hs4.cellOf (g := bo) (cs := opCells 1 wh a tt A xs.length c) (t := 116) (by simp) 3 rfl; have HS4 := Lib.hid hs4; have HN4 := Lib.hid hn4; clear hs4 hn4)
      | (go_simp; go_at_call 43; refine (CB.out w4 v4 HS4.out).mono ?_; rintro e w5 ⟨rfl, v5, u5, hn5, hs5⟩; have z5 := hs5.cellOf (g := bo) (cs := opCells 1 wh a tt A xs.length c) (t := 116) (by simp) 3 rfl; have HS5 := Lib.hid (hs5.re (M := rowE (.slice (some ⟨gi, 0, none⟩) (marked ys).length cap) 5 1 (marked ys).length (encs U (marked ys)) ++ ([B bo (opCells 1 wh a tt A xs.length c) 116, B t cs 112] ++ (sdE { s with v := v4, vr := v5, rs := s.rs ++ [(tt, u5, ys)] } ++ R))) (fun x => by simp only [sdE, tell_append, cnt_append, cnt_cons, cnt_nil]; omega)); have HN5 := Lib.hid hn5; clear hs5 hn5)
      | (go_simp; go_at_call 55; refine (CX.out w5 _ HS5.out).mono ?_; rintro e w6 ⟨rfl, hs6⟩; have HS6 := Lib.hid hs6; clear hs6))
    all_goals
      have CO := Lib.hid (over_calls w6 w0.heap.size gi cap (marked ys).length ys.length (marked ys) rfl (by rw [marked_length]; omega) (by have := HYL.out; omega) (HS6.out.own HO3.out))
      go_wp2_with fail
      refine CO.out.mono ?_; rintro e w7 ⟨rfl, hf⟩
      have hs7 := St.spent HS6.out hf.bl hf.kb
      have hV7 : SdV { s with v := v4, vr := v5, rs := s.rs ++ [(tt, u5, ys)] } := both_room HV.out tt u5 v4 v5 HYB.out HYL.out HR.out HN4.out HN5.out
      obtain ⟨t1, t2, t3, t4⟩ := tails hs7 hV7
      have T1 := Lib.hid t1
      have T2 := Lib.hid t2
      have T3 := Lib.hid t3
      have T4 := Lib.hid t4
      have H7 := Lib.hid hs7
      have V7 := Lib.hid hV7
      clear hf hs7 hV7 t1 t2 t3 t4
      go_wp2_with fail
      refine (T1.out _ rfl).mono ?_; rintro e w8 ⟨rfl, rfl⟩
      go_wp2_with fail
      refine (T2.out _ rfl).mono ?_; rintro e w8 ⟨rfl, rfl⟩
      go_wp2_with fail
      refine (T3.out _ rfl).mono ?_; rintro e w8 ⟨rfl, rfl⟩
      go_wp2_with fail
      refine (T4.out _ rfl).mono ?_; rintro e w8 ⟨rfl, rfl⟩
      go_wp2_with fail
      go_ret
      exact ⟨rfl, { s with v := v4, vr := v5, rs := s.rs ++ [(tt, u5, ys)] }, V7.out, rfl, rfl, rfl, by simp only; omega, H7.out.re (fun x => by simp only [cnt_append, cnt_cons, cnt_nil]; omega)⟩
  · have hr' : s.room ≤ (s.rs.length : Int) := by omega
    have hlo : s.lost < 18446744073709551615 := by omega
    have CA := Lib.hid (nsendF tt _ ys.length cap ys hrd hre HV.out.nv (by rw [tell_length]; exact hr') hlo)
    have CB : Hid (∀ w4, St w0 w4 (netE s.g s.v s.room (s.lost + 1) (tell s.rs) ++ (rnetE s.h s.vr s.room s.lost s.rs ++ (rowE (.slice (some ⟨gi, 0, none⟩) (marked ys).length cap) 5 1 (marked ys).length (encs U (marked ys)) ++ (B bo (opCells 1 wh a tt A xs.length c) 116 :: B t cs 112 :: R)))) → Calls Try.prog 43 #[pt s.h, .int .i64 tt, .slice A ys.length c] w4 fun e w' => e = .returned (.bool false) ∧ St w0 w' (rnetE s.h s.vr s.room (s.lost + 1) s.rs ++ (netE s.g s.v s.room (s.lost + 1) (tell s.rs) ++ (rowE (.slice (some ⟨gi, 0, none⟩) (marked ys).length cap) 5 1 (marked ys).length (encs U (marked ys)) ++ (B bo (opCells 1 wh a tt A xs.length c) 116 :: B t cs 112 :: R))))) := fun w4 h3 =>
      msendF tt _ (h3.re (fun x => by simp only [sdE, tell_append, cnt_append, cnt_cons, cnt_nil]; omega)) HV.out.rv hr' hlo
    have CX : Hid (∀ w5 M, St w0 w5 (rowE (.slice (some ⟨gi, 0, none⟩) (marked ys).length cap) 5 1 (marked ys).length (encs U (marked ys)) ++ M) → Calls Try.prog 55 #[.slice (some ⟨gi, 0, none⟩) ys.length cap, .slice A ys.length c] w5 fun e w' => e = .returned (.bool true) ∧ St w0 w' (rowE (.slice (some ⟨gi, 0, none⟩) (marked ys).length cap) 5 1 (marked ys).length (encs U (marked ys)) ++ M)) := fun w5 M h5 =>
      (intact_calls ys A c gi cap w0.heap.size w5 (h5.reads HY.out) (by have := HYL.out; omega) (h5.own HO3.out)).mono fun e w' ⟨a, b⟩ => ⟨a, h5.below b⟩
    clear h3d hre hrd hr hr' hlo
    go_wp2_with fail
    go_region_law (first
      | (go_simp; go_at_call 25; refine CA.out.mono ?_; rintro e w4 ⟨rfl, hs4⟩; have z4 := hs4.cellOf (g := bo) (cs := opCells 1 wh a tt A xs.length c) (t := 116) (by simp) 3 rfl; have HS4 := Lib.hid hs4; clear hs4)
      | (go_simp; go_at_call 43; refine (CB.out w4 HS4.out).mono ?_; rintro e w5 ⟨rfl, hs5⟩; have z5 := hs5.cellOf (g := bo) (cs := opCells 1 wh a tt A xs.length c) (t := 116) (by simp) 3 rfl; have HS5 := Lib.hid (hs5.re (M := rowE (.slice (some ⟨gi, 0, none⟩) (marked ys).length cap) 5 1 (marked ys).length (encs U (marked ys)) ++ ([B bo (opCells 1 wh a tt A xs.length c) 116, B t cs 112] ++ (sdE { s with lost := s.lost + 1 } ++ R))) (fun x => by simp only [sdE, tell_append, cnt_append, cnt_cons, cnt_nil]; omega)); clear hs5)
      | (go_simp; go_at_call 55; refine (CX.out w5 _ HS5.out).mono ?_; rintro e w6 ⟨rfl, hs6⟩; have HS6 := Lib.hid hs6; clear hs6))
    all_goals
      have CO := Lib.hid (over_calls w6 w0.heap.size gi cap (marked ys).length ys.length (marked ys) rfl (by rw [marked_length]; omega) (by have := HYL.out; omega) (HS6.out.own HO3.out))
      go_wp2_with fail
      refine CO.out.mono ?_; rintro e w7 ⟨rfl, hf⟩
      have hs7 := St.spent HS6.out hf.bl hf.kb
      have hV7 : SdV { s with lost := s.lost + 1 } := ⟨HV.out.nv, HV.out.rv, HV.out.r1, HV.out.r2, HV.out.len, HV.out.by_⟩
      obtain ⟨t1, t2, t3, t4⟩ := tails hs7 hV7
      have T1 := Lib.hid t1
      have T2 := Lib.hid t2
      have T3 := Lib.hid t3
      have T4 := Lib.hid t4
      have H7 := Lib.hid hs7
      have V7 := Lib.hid hV7
      clear hf hs7 hV7 t1 t2 t3 t4
      go_wp2_with fail
      refine (T1.out _ rfl).mono ?_; rintro e w8 ⟨rfl, rfl⟩
      go_wp2_with fail
      refine (T2.out _ rfl).mono ?_; rintro e w8 ⟨rfl, rfl⟩
      go_wp2_with fail
      refine (T3.out _ rfl).mono ?_; rintro e w8 ⟨rfl, rfl⟩
      go_wp2_with fail
      refine (T4.out _ rfl).mono ?_; rintro e w8 ⟨rfl, rfl⟩
      go_wp2_with fail
      go_ret
      exact ⟨rfl, { s with lost := s.lost + 1 }, V7.out, rfl, rfl, rfl, by simp only; omega, H7.out.re (fun x => by simp only [cnt_append, cnt_cons, cnt_nil]; omega)⟩
end Go.Proofs.Ytfmggmpllggbnaa.RNet
