/- plays on a stage of two places; all. -/
import Derived.Test.YtfmggmpllggbnaaPlays4
namespace Go.Proofs.Ytfmggmpllggbnaa.RNet
open Go.RowKit Go.Proofs.YtfmggmpllggbnaaW.PrintWords Go.Proofs.Ytfmggmpllggbnaa.Net Go.Proofs.Ytfmggmpllggbnaa.Mem
set_option linter.unusedVariables false
set_option linter.unusedSimpArgs false
abbrev stg (b : Nat) (m : Bool) (s0 s1 : Option Sd) : Array Value := #[plN s0, plN s1, plM s0, plM s1, pt b, .bool m]
theorem plV_mono {N M : Nat} {o : Option Sd} (h : plV N o) (hm : N ≤ M) : plV M o := by
  cases o with
  | none => trivial
  | some s => exact ⟨h.1, Nat.le_trans h.2 hm⟩
/-- One step of the stage. -/
theorem plays_calls (w0 W : World) (R : List Ent) (t b N : Nat) (s0 s1 : Option Sd) (d wh a tt : Int) (A : Option Addr) (xs : List Int) (c : Nat) (H : St w0 W (B t (stg b false s0 s1) 112 :: (plE s0 ++ (plE s1 ++ R)))) (h0 : plV N s0) (h1 : plV N s1) (hN : N ≤ 1099511627776)
    (ha : -9223372036854775808 ≤ wh) (ha' : wh ≤ 9223372036854775807) (hb : -9223372036854775808 ≤ a) (hb' : a ≤ 9223372036854775807) (hx : ReadsOf U 0 w0 A xs.length xs) (hxb : Byt xs) (hc : xs.length ≤ c) :
    Calls Try.prog 38 #[pt t, .agg (opCells d wh a tt A xs.length c)] W fun e W' => e = .returned (.bool true) ∧ ∃ s0' s1', plV (N + 9000) s0' ∧ plV (N + 9000) s1' ∧ St w0 W' (B t (stg b false s0' s1') 112 :: (plE s0' ++ (plE s1' ++ R))) := by
  have hk : wh % 2 = ((0 : Nat) : Int) ∨ wh % 2 = ((1 : Nat) : Int) := by omega
  rcases hk with hk | hk
  · by_cases hd : d = 6
    · subst hd
      exact (plays_new w0 W (plE s1 ++ R) t 0 (stg b false s0 s1) wh a tt A _ c (H.re (fun x => by simp only [cnt_append, cnt_cons]; omega)) (by omega) rfl hk ha ha').mono fun e W' ⟨he, o, hv, hs⟩ => ⟨he, o, s1, plV_mono hv (by omega), plV_mono h1 (by omega), hs⟩
    · cases s0 with
      | none => exact (plays_nil w0 W _ t 0 (stg b false none s1) d wh a tt A _ c H (by omega) rfl rfl hd hk ha ha').mono fun e W' ⟨he, hs⟩ => ⟨he, none, s1, trivial, plV_mono h1 (by omega), hs⟩
      | some s =>
        exact (plays_one w0 W (plE s1 ++ R) t 0 (stg b false (some s) s1) s d wh a tt A xs c H h0.1 (Nat.le_trans h0.2 hN) (by omega) rfl rfl rfl hk ha ha' hb hb' hx hxb hc hd).mono fun e W' ⟨he, s', hv, hg, hh, hr, hl, hs⟩ =>
          ⟨he, some s', s1, ⟨hv, by have := h0.2; omega⟩, plV_mono h1 (by omega), by show St w0 W' (B t #[pt s'.g, plN s1, pt s'.h, plM s1, pt b, .bool false] 112 :: _); rw [hg, hh]; exact hs⟩
  · by_cases hd : d = 6
    · subst hd
      exact (plays_new w0 W (plE s0 ++ R) t 1 (stg b false s0 s1) wh a tt A _ c (H.re (fun x => by simp only [cnt_append, cnt_cons]; omega)) (by omega) rfl hk ha ha').mono fun e W' ⟨he, o, hv, hs⟩ => ⟨he, s0, o, plV_mono h0 (by omega), plV_mono hv (by omega), hs.re (M := B t (stg b false s0 o) 112 :: (plE s0 ++ (plE o ++ R))) (fun x => by
        show _ ≤ cnt x (B t (stg b false s0 o) 112 :: _)
        simp only [cnt_append, cnt_cons]; omega)⟩
    · cases s1 with
      | none => exact (plays_nil w0 W _ t 1 (stg b false s0 none) d wh a tt A _ c H (by omega) rfl rfl hd hk ha ha').mono fun e W' ⟨he, hs⟩ => ⟨he, s0, none, plV_mono h0 (by omega), trivial, hs⟩
      | some s =>
        exact (plays_one w0 W (plE s0 ++ R) t 1 (stg b false s0 (some s)) s d wh a tt A xs c (H.re (fun x => by simp only [plE, cnt_append, cnt_cons]; omega)) h1.1 (Nat.le_trans h1.2 hN) (by omega) rfl rfl rfl hk ha ha' hb hb' hx hxb hc hd).mono fun e W' ⟨he, s', hv, hg, hh, hr, hl, hs⟩ =>
          ⟨he, s0, some s', plV_mono h0 (by omega), ⟨hv, by have := h1.2; omega⟩, by show St w0 W' (B t #[plN s0, pt s'.g, plM s0, pt s'.h, pt b, .bool false] 112 :: _); rw [hg, hh]; exact (show St w0 W' ([B t #[plN s0, pt s.g, plM s0, pt s.h, pt b, .bool false] 112] ++ (sdE s' ++ (plE s0 ++ R))) from hs).re (fun x => by simp only [plE, cnt_append, cnt_cons, cnt_nil]; omega)⟩
set_option maxRecDepth 20000 in
set_option maxHeartbeats 3200000 in
/-- All of a place's row. -/
theorem all_none (w0 W : World) (R : List Ent) (t k : Nat) (cs : Array Value) (H : St w0 W (B t cs 112 :: R)) (hk : k < 2) (hc1 : cs[2 + k]? = some nilp) :
    Calls Try.prog 40 #[pt t, .int .i64 k] W fun e W' => e = .returned (.bool true) ∧ St w0 W' (B t cs 112 :: R) := by
  have y2 := H.cellOf (g := t) (cs := cs) (t := 112) (by simp) (2 + k) hc1
  have k1 : (0 : Int) ≤ (k : Int) := by omega
  have k2 : (k : Int) < 2 := by omega
  have HS := Lib.hid H
  clear H hc1
  go_enter Try.func40, Try.ntmps40
  go_wp2_with fail
  go_ret
  exact ⟨rfl, HS.out⟩
theorem two_looks {w0 W : World} {R : List Ent} {s : Sd} (hV : SdV s) (j : Int) (h : St w0 W (sdE s ++ R)) :
    ∃ (N : Int) (xs : List Int) (okb : Bool), xs.length ≤ 4096 ∧
      (Calls Try.prog 44 #[pt s.g, .int .i64 j] W fun e w' => ∃ A c, e = .returned (.tuple #[.agg #[.int .i64 N, .slice A xs.length c], .bool okb]) ∧ ReadsOf U 0 w' A xs.length xs ∧ Below W.heap.size W w') ∧
      (∀ W2, Below W.heap.size W W2 → Calls Try.prog 46 #[pt s.h, .int .i64 j] W2 fun e w' => ∃ A c, e = .returned (.tuple #[.agg #[.int .i64 N, .slice A xs.length c], .bool okb]) ∧ ReadsOf U 0 w' A xs.length xs ∧ Below W2.heap.size W2 w') := by
  have hn : Nt W w0.heap.size s.g s.v s.room s.lost (tell s.rs) := St.nt (h.re (M := netE s.g s.v s.room s.lost (tell s.rs) ++ (rnetE s.h s.vr s.room s.lost s.rs ++ R)) (fun x => by simp only [sdE, cnt_append]; omega)) hV.nv
  have hm : Rn W w0.heap.size s.h s.vr s.room s.lost s.rs := St.rn (h.re (M := rnetE s.h s.vr s.room s.lost s.rs ++ (netE s.g s.v s.room s.lost (tell s.rs) ++ R)) (fun x => by simp only [sdE, cnt_append]; omega)) hV.rv
  by_cases hj : j < 0 ∨ (s.rs.length : Int) ≤ j
  · refine ⟨0, [], false, by simp, ?_, fun W2 hb => ?_⟩
    · exact (look_none j W _ _ _ _ _ _ hn (by rw [tell_length]; exact hj)).mono fun e w' ⟨he, hb⟩ => ⟨none, 0, he, ReadsOf.nil _ _ _, hb⟩
    · exact (rlook_none j W2 _ _ _ _ _ _ (rn_below hm hb) hj).mono fun e w' ⟨he, hb⟩ => ⟨none, 0, he, ReadsOf.nil _ _ _, hb⟩
  · obtain ⟨i, rfl⟩ : ∃ i : Nat, j = i := ⟨j.toNat, by omega⟩
    have hi : i < s.rs.length := by omega
    obtain ⟨q, hq⟩ : ∃ q, q = s.rs[i] := ⟨_, rfl⟩
    have hmem : q ∈ s.rs := by rw [hq]; exact List.getElem_mem hi
    have hby := hV.by_ q hmem
    refine ⟨q.1, q.2.2, true, hby.2, ?_, fun W2 hb => ?_⟩
    · have hl := look_calls i W _ _ _ _ _ _ hn (by rw [tell_length]; exact hi) q.1 (strOfNums q.2.2) (by rw [tell_get _ _ hi]; subst hq; rfl)
      rw [strOfNums_size] at hl
      exact hl.mono fun e w' ⟨g, c, he, ⟨m, hm⟩, _, hb⟩ => ⟨_, c, he, told_reads hm hby.1 (by omega), hb⟩
    · have hl := rlook_calls i W2 _ _ _ _ _ _ (rn_below hm hb) hi (by rw [← hq]; have := hby.2; omega)
      rw [← hq] at hl
      exact hl.mono fun e w' ⟨A, c, he, ho, hb⟩ => ⟨A, c, he, Go.Proofs.Ytfmggmpllggbnaa.Bytes.own_reads (xs := q.2.2) ho (by simp), hb⟩
set_option maxRecDepth 20000 in
set_option maxHeartbeats 6400000 in
theorem all_some (w0 W : World) (R : List Ent) (t k : Nat) (cs : Array Value) (s : Sd) (H : St w0 W (B t cs 112 :: (sdE s ++ R))) (hV : SdV s) (hk : k < 2) (hc0 : cs[k]? = some (pt s.g)) (hc1 : cs[2 + k]? = some (pt s.h)) :
    Calls Try.prog 40 #[pt t, .int .i64 k] W fun e W' => e = .returned (.bool true) ∧ St w0 W' (B t cs 112 :: (sdE s ++ R)) := by
  have y2 := H.cellOf (g := t) (cs := cs) (t := 112) (by simp) (2 + k) hc1
  have k1 : (0 : Int) ≤ (k : Int) := by omega
  have k2 : (k : Int) < 2 := by omega
  have HS := Lib.hid H
  have HV := Lib.hid hV
  have HC0 := Lib.hid hc0
  have HC1 := Lib.hid hc1
  have hlen : s.rs.length ≤ 8192 := by have := hV.len; have := hV.r2; omega
  clear H hV hc0 hc1
  go_enter Try.func40, Try.ntmps40
  go_wp2_with fail
  clear y2
  go_loopw [6] (fun i wr => ∃ j : Int, i = .int .i64 j ∧ -1 ≤ j ∧ j ≤ s.rs.length + 1 ∧ St w0 wr (B t cs 112 :: (sdE s ++ R))) (fun i _ => (s.rs.length + 1 - intOf i).toNat)
  case atStart => exact ⟨-1, rfl, by omega, by omega, HS.out⟩
  case round =>
    obtain ⟨j, rfl, hj1, hj2, hs⟩ := hrel
    have y1 := hs.cellOf (g := t) (cs := cs) (t := 112) (by simp) k HC0.out
    obtain ⟨t1, t2, t3, t4⟩ := tails (F := [B t cs 112]) hs HV.out
    have T1 := Lib.hid t1
    have T2 := Lib.hid t2
    have T3 := Lib.hid t3
    have T4 := Lib.hid t4
    have HR := Lib.hid hs
    clear hs t1 t2 t3 t4
    by_cases hlt : j ≤ (s.rs.length : Int)
    · obtain ⟨N, xs, okb, hxl, l1, l2⟩ := two_looks (R := B t cs 112 :: R) HV.out j (HR.out.re (fun x => by simp only [cnt_append, cnt_cons]; omega))
      have L1 := Lib.hid l1
      have L2 := Lib.hid l2
      clear l1 l2
      go_wp2_with fail
      refine (T2.out _ rfl).mono ?_; rintro e w1 ⟨rfl, rfl⟩
      go_wp2_with fail
      refine L1.out.mono ?_; rintro e w2 ⟨A, c, rfl, hr1, hb1⟩
      obtain ⟨W3, hW3⟩ : ∃ W3, W3 = w2.alloc (.cells #[.int .i64 N, .slice A xs.length c] 71) := ⟨_, rfl⟩
      have hb3 : Below w2.heap.size w2 W3 := by rw [hW3]; exact (Below.refl _ _).alloc (Nat.le_refl _) _
      have hbk := blk_new w2 (.cells #[.int .i64 N, .slice A xs.length c] 71)
      rw [← hW3] at hbk
      have HB3 := Lib.hid (hb1.trans (hb3.mono hb1.size))
      have HR1 := Lib.hid (hr1.below hb3)
      have HBK := Lib.hid hbk
      have HW3 := Lib.hid hW3
      clear hr1 hb1 hb3 hbk hW3
      go_wp2_with fail
      rw [← HW3.out]
      refine (L2.out _ HB3.out).mono ?_; rintro e w4 ⟨A', c', rfl, hr2, hb4⟩
      have e0 := cell_of_row w4 w2.heap.size 0 _ _ _ (blk_below HBK.out hb4)
      have e1 := cell_of_row w4 w2.heap.size 1 _ _ _ (blk_below HBK.out hb4)
      obtain ⟨W5, hW5⟩ : ∃ W5, W5 = w4.alloc (.cells #[.int .i64 N, .slice A' xs.length c'] 71) := ⟨_, rfl⟩
      have hb5 : Below w4.heap.size w4 W5 := by rw [hW5]; exact (Below.refl _ _).alloc (Nat.le_refl _) _
      have hlt4 := blk_lt (blk_below HBK.out hb4)
      have SM := Lib.hid (same_calls N N xs xs A A' c c' W5 ((HR1.out.below hb4).below hb5) (hr2.below hb5) (by omega))
      have HB5 := Lib.hid (HB3.out.trans ((hb4.trans (hb5.mono hb4.size)).mono HB3.out.size))
      have HW5 := Lib.hid hW5
      have e0a : ∀ o, (w4.alloc o).cell? ⟨w2.heap.size, 0, none⟩ = some (.int .i64 N) := fun o => by
        have h := blk_alloc (blk_below HBK.out hb4) o
        rw [cell_of_row _ _ 0 _ _ _ h]; rfl
      have e1a : ∀ o, (w4.alloc o).cell? ⟨w2.heap.size, 1, none⟩ = some (.slice A xs.length c) := fun o => by
        have h := blk_alloc (blk_below HBK.out hb4) o
        rw [cell_of_row _ _ 1 _ _ _ h]; rfl
      clear hr2 hb4 hb5 hW5 e0 e1 hlt4
      cases okb
      all_goals
        go_wp2_with fail
        rw [← HW5.out]
        refine SM.out.mono ?_; rintro e w6 ⟨bb, rfl, hb, hb6⟩
        obtain rfl : bb = true := by simpa using hb
        have HB6 := Lib.hid hb6
        clear hb hb6
        go_wp2_with fail
        go_roundw
        case rel => exact ⟨j + 1, by go_num, by omega, by omega, (HR.out.below HB5.out).below HB6.out⟩
        case measure => simp [intOf]; omega
    · go_wp2_with fail
      refine (T2.out _ rfl).mono ?_; rintro e w1 ⟨rfl, rfl⟩
      go_wp2_with fail
      refine (T1.out _ rfl).mono ?_; rintro e w1 ⟨rfl, rfl⟩
      go_wp2_with fail
      refine (T2.out _ rfl).mono ?_; rintro e w1 ⟨rfl, rfl⟩
      go_wp2_with fail
      refine (T3.out _ rfl).mono ?_; rintro e w1 ⟨rfl, rfl⟩
      go_wp2_with fail
      refine (T4.out _ rfl).mono ?_; rintro e w1 ⟨rfl, rfl⟩
      go_wp2_with fail
      go_ret
      exact ⟨rfl, HR.out⟩
theorem all_calls (w0 W : World) (R : List Ent) (t b N : Nat) (m : Bool) (s0 s1 : Option Sd) (H : St w0 W (B t (stg b m s0 s1) 112 :: (plE s0 ++ (plE s1 ++ R)))) (h0 : plV N s0) (h1 : plV N s1) (k : Nat) (hk : k < 2) :
    Calls Try.prog 40 #[pt t, .int .i64 k] W fun e W' => e = .returned (.bool true) ∧ St w0 W' (B t (stg b m s0 s1) 112 :: (plE s0 ++ (plE s1 ++ R))) := by
  have hk' : k = 0 ∨ k = 1 := by omega
  rcases hk' with rfl | rfl
  · cases s0 with
    | none => exact all_none w0 W _ t 0 _ H (by omega) rfl
    | some s => exact all_some w0 W (plE s1 ++ R) t 0 _ s H h0.1 (by omega) rfl rfl
  · cases s1 with
    | none => exact all_none w0 W _ t 1 _ H (by omega) rfl
    | some s => exact (all_some w0 W (plE s0 ++ R) t 1 (stg b m s0 (some s)) s (H.re (fun x => by simp only [plE, cnt_append, cnt_cons]; omega)) h1.1 (by omega) rfl rfl).mono fun e W' ⟨he, hs⟩ => ⟨he, hs.re (fun x => by simp only [plE, cnt_append, cnt_cons]; omega)⟩
end Go.Proofs.Ytfmggmpllggbnaa.RNet
