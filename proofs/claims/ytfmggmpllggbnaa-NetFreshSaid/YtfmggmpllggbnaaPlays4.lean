/- plays: many are sent; another kind; no net there; a new one; the whole. -/
import Derived.Test.YtfmggmpllggbnaaPlays2
import Derived.Test.YtfmggmpllggbnaaPlays3
namespace Go.Proofs.Ytfmggmpllggbnaa.RNet
open Go.RowKit Go.Proofs.YtfmggmpllggbnaaW.PrintWords Go.Proofs.Ytfmggmpllggbnaa.Net Go.Proofs.Ytfmggmpllggbnaa.Mem
set_option linter.unusedVariables false
set_option linter.unusedSimpArgs false
set_option maxRecDepth 20000 in
set_option maxHeartbeats 6400000 in
theorem plays_fill (w0 W : World) (R : List Ent) (t k : Nat) (cs : Array Value) (s : Sd) (wh a tt : Int) (A : Option Addr) (n c : Nat) (H : St w0 W (B t cs 112 :: (sdE s ++ R))) (hV : SdV s) (hl : s.lost ≤ 1099511627776) (hk : k < 2)
    (hc0 : cs[k]? = some (pt s.g)) (hc1 : cs[2 + k]? = some (pt s.h)) (hw : wh % 2 = (k : Int)) (ha : -9223372036854775808 ≤ wh) (ha' : wh ≤ 9223372036854775807) (hb : -9223372036854775808 ≤ a) (hb' : a ≤ 9223372036854775807) :
    Calls Try.prog 38 #[pt t, .agg (opCells 7 wh a tt A n c)] W fun e W' => e = .returned (.bool true) ∧ Aft w0 [B t cs 112] R s 9000 W' := by
  obtain ⟨W1, hW1⟩ : ∃ W1, W1 = W.alloc (.cells (opCells 7 wh a tt A n c) 116) := ⟨_, rfl⟩
  obtain ⟨bo, hbo⟩ : ∃ bo, bo = W.heap.size := ⟨_, rfl⟩
  have h1 := H.newB (opCells 7 wh a tt A n c) 116
  rw [← hW1, ← hbo] at h1
  have x1 := h1.cellOf (g := bo) (cs := opCells 7 wh a tt A n c) (t := 116) (by simp) 1 rfl
  have x0 := h1.cellOf (g := bo) (cs := opCells 7 wh a tt A n c) (t := 116) (by simp) 0 rfl
  have x2 := h1.cellOf (g := bo) (cs := opCells 7 wh a tt A n c) (t := 116) (by simp) 2 rfl
  have y1 := h1.cellOf (g := t) (cs := cs) (t := 112) (by simp) k hc0
  have y2 := h1.cellOf (g := t) (cs := cs) (t := 112) (by simp) (2 + k) hc1
  have k1 : (0 : Int) ≤ (k : Int) := by omega
  have k2 : (k : Int) < 2 := by omega
  have HS := Lib.hid h1
  have HW1 := Lib.hid hW1
  have HV := Lib.hid hV
  have HBO := Lib.hid hbo
  have CI := fun W' => Lib.hid (into_gen wh 2 W' (by omega) (by omega) ha ha')
  rw [hw] at CI
  have HC0 := Lib.hid hc0
  have HC1 := Lib.hid hc1
  have CF := Lib.hid (fills_calls w0 W1 (B bo (opCells 7 wh a tt A n c) 116 :: R) t k cs s 7 wh a tt A n c (h1.re (fun x => by simp only [cnt_append, cnt_cons, cnt_nil]; omega)) hV hl hk hc0 hc1 hb hb')
  have x3 := h1.cellOf (g := bo) (cs := opCells 7 wh a tt A n c) (t := 116) (by simp) 3 rfl
  have x4 := h1.cellOf (g := bo) (cs := opCells 7 wh a tt A n c) (t := 116) (by simp) 4 rfl
  clear h1 hW1 H hV hc0 hc1 ha ha' hw hb hb'
  rw [hbo] at x0 x1 x2 x3 x4
  rw [HW1.out] at x0 x1 x2 x3 x4 y1 y2
  clear hbo
  go_enter Try.func38, Try.ntmps38
  go_wp2_with fail
  refine (CI _).out.mono ?_; rintro e w1 ⟨rfl, rfl⟩
  go_wp2_with fail
  rw [← HW1.out]
  clear x0 x1 x2 x3 x4 y1 y2
  refine CF.out.mono ?_; rintro e w7 ⟨rfl, s7, hv7, g7, h7, r7, l7, hs7⟩
  have H7 := Lib.hid (hs7.re (M := [B bo (opCells 7 wh a tt A n c) 116, B t cs 112] ++ (sdE s7 ++ R)) (fun x => by simp only [cnt_append, cnt_cons, cnt_nil]; omega))
  have G7 := Lib.hid g7
  have HH7 := Lib.hid h7
  have R7 := Lib.hid r7
  have L7 := Lib.hid l7
  obtain ⟨t1, t2, t3, t4⟩ := tails H7.out hv7
  rw [g7] at t1 t3
  rw [h7] at t2 t4
  have T1 := Lib.hid t1
  have T2 := Lib.hid t2
  have T3 := Lib.hid t3
  have T4 := Lib.hid t4
  have V7 := Lib.hid hv7
  clear hv7 t1 t2 t3 t4 hs7 g7 h7 r7 l7
  go_wp2_with fail
  refine (T1.out _ rfl).mono ?_; rintro e w8 ⟨rfl, rfl⟩
  go_wp2_with fail
  refine (T2.out _ rfl).mono ?_; rintro e w8 ⟨rfl, rfl⟩
  go_wp2_with fail
  refine (T3.out _ rfl).mono ?_; rintro e w8 ⟨rfl, rfl⟩
  go_wp2_with fail
  refine (T4.out _ rfl).mono ?_; rintro e w8 ⟨rfl, rfl⟩
  go_wp2_with fail
  go_ret
  exact ⟨rfl, s7, V7.out, G7.out, HH7.out, R7.out, L7.out, H7.out.re (fun x => by simp only [cnt_append, cnt_cons, cnt_nil]; omega)⟩
set_option maxRecDepth 20000 in
set_option maxHeartbeats 6400000 in
theorem plays_other (w0 W : World) (R : List Ent) (t k : Nat) (cs : Array Value) (s : Sd) (wh a tt : Int) (A : Option Addr) (n c : Nat) (H : St w0 W (B t cs 112 :: (sdE s ++ R))) (hV : SdV s) (hl : s.lost ≤ 1099511627776) (hk : k < 2)
    (hc0 : cs[k]? = some (pt s.g)) (hc1 : cs[2 + k]? = some (pt s.h)) (hw : wh % 2 = (k : Int)) (ha : -9223372036854775808 ≤ wh) (ha' : wh ≤ 9223372036854775807) (d : Int) (hd : d ≠ 1 ∧ d ≠ 2 ∧ d ≠ 3 ∧ d ≠ 4 ∧ d ≠ 5 ∧ d ≠ 6 ∧ d ≠ 7) :
    Calls Try.prog 38 #[pt t, .agg (opCells d wh a tt A n c)] W fun e W' => e = .returned (.bool true) ∧ Aft w0 [B t cs 112] R s 9000 W' := by
  obtain ⟨W1, hW1⟩ : ∃ W1, W1 = W.alloc (.cells (opCells d wh a tt A n c) 116) := ⟨_, rfl⟩
  obtain ⟨bo, hbo⟩ : ∃ bo, bo = W.heap.size := ⟨_, rfl⟩
  have h1 := H.newB (opCells d wh a tt A n c) 116
  rw [← hW1, ← hbo] at h1
  have x1 := h1.cellOf (g := bo) (cs := opCells d wh a tt A n c) (t := 116) (by simp) 1 rfl
  have x0 := h1.cellOf (g := bo) (cs := opCells d wh a tt A n c) (t := 116) (by simp) 0 rfl
  have x2 := h1.cellOf (g := bo) (cs := opCells d wh a tt A n c) (t := 116) (by simp) 2 rfl
  have y1 := h1.cellOf (g := t) (cs := cs) (t := 112) (by simp) k hc0
  have y2 := h1.cellOf (g := t) (cs := cs) (t := 112) (by simp) (2 + k) hc1
  have k1 : (0 : Int) ≤ (k : Int) := by omega
  have k2 : (k : Int) < 2 := by omega
  have HS := Lib.hid h1
  have HW1 := Lib.hid hW1
  have HV := Lib.hid hV
  have HBO := Lib.hid hbo
  have CI := fun W' => Lib.hid (into_gen wh 2 W' (by omega) (by omega) ha ha')
  rw [hw] at CI
  have d1 : (d == 1) = false := beq_eq_false_iff_ne.2 hd.1
  have d2 : (d == 2) = false := beq_eq_false_iff_ne.2 hd.2.1
  have d3 : (d == 3) = false := beq_eq_false_iff_ne.2 hd.2.2.1
  have d4 : (d == 4) = false := beq_eq_false_iff_ne.2 hd.2.2.2.1
  have d5 : (d == 5) = false := beq_eq_false_iff_ne.2 hd.2.2.2.2.1
  have d6 : (d == 6) = false := beq_eq_false_iff_ne.2 hd.2.2.2.2.2.1
  have d7 : (d == 7) = false := beq_eq_false_iff_ne.2 hd.2.2.2.2.2.2
  have H7 := Lib.hid (show St w0 W1 ([B bo (opCells d wh a tt A n c) 116, B t cs 112] ++ (sdE s ++ R)) from h1)
  obtain ⟨t1, t2, t3, t4⟩ := tails H7.out hV
  have T1 := Lib.hid t1
  have T2 := Lib.hid t2
  have T3 := Lib.hid t3
  have T4 := Lib.hid t4
  clear h1 hW1 H hV hc0 hc1 ha ha' hw hd t1 t2 t3 t4
  rw [hbo] at x0 x1 x2
  rw [HW1.out] at x0 x1 x2 y1 y2
  clear hbo
  go_enter Try.func38, Try.ntmps38
  go_wp2_with fail
  refine (CI _).out.mono ?_; rintro e w1 ⟨rfl, rfl⟩
  go_wp2_with fail
  rw [← HW1.out]
  clear x0 x1 x2 y1 y2
  refine (T1.out _ rfl).mono ?_; rintro e w8 ⟨rfl, rfl⟩
  go_wp2_with fail
  refine (T2.out _ rfl).mono ?_; rintro e w8 ⟨rfl, rfl⟩
  go_wp2_with fail
  refine (T3.out _ rfl).mono ?_; rintro e w8 ⟨rfl, rfl⟩
  go_wp2_with fail
  refine (T4.out _ rfl).mono ?_; rintro e w8 ⟨rfl, rfl⟩
  go_wp2_with fail
  go_ret
  exact ⟨rfl, s, HV.out, rfl, rfl, rfl, by omega, H7.out.re (fun x => by simp only [cnt_append, cnt_cons, cnt_nil]; omega)⟩
set_option maxRecDepth 20000 in
set_option maxHeartbeats 3200000 in
/-- No net there. -/
theorem plays_nil (w0 W : World) (R : List Ent) (t k : Nat) (cs : Array Value) (d wh a tt : Int) (A : Option Addr) (n c : Nat) (H : St w0 W (B t cs 112 :: R)) (hk : k < 2)
    (hc0 : cs[k]? = some nilp) (hc1 : cs[2 + k]? = some nilp) (hd : d ≠ 6) (hw : wh % 2 = (k : Int)) (ha : -9223372036854775808 ≤ wh) (ha' : wh ≤ 9223372036854775807) :
    Calls Try.prog 38 #[pt t, .agg (opCells d wh a tt A n c)] W fun e W' => e = .returned (.bool true) ∧ St w0 W' (B t cs 112 :: R) := by
  have d6 : (d == 6) = false := beq_eq_false_iff_ne.2 hd
  have h1 := H.newB (opCells d wh a tt A n c) 116
  have y1 := h1.cellOf (g := t) (cs := cs) (t := 112) (by simp) k hc0
  have y2 := h1.cellOf (g := t) (cs := cs) (t := 112) (by simp) (2 + k) hc1
  have k1 : (0 : Int) ≤ (k : Int) := by omega
  have k2 : (k : Int) < 2 := by omega
  have HS := Lib.hid h1
  have CI := fun W' => Lib.hid (into_gen wh 2 W' (by omega) (by omega) ha ha')
  rw [hw] at CI
  clear h1 H hc0 hc1 ha ha' hw hd
  go_enter Try.func38, Try.ntmps38
  go_wp2_with fail
  refine (CI _).out.mono ?_; rintro e w1 ⟨rfl, rfl⟩
  go_wp2_with fail
  go_ret
  exact ⟨rfl, HS.out.re (fun x => by simp only [cnt_cons]; omega)⟩
set_option maxRecDepth 20000 in
set_option maxHeartbeats 3200000 in
theorem plays_new (w0 W : World) (R : List Ent) (t k : Nat) (cs : Array Value) (wh a tt : Int) (A : Option Addr) (n c : Nat) (H : St w0 W (B t cs 112 :: R)) (hk : k < 2) (hs : cs.size = 6)
    (hw : wh % 2 = (k : Int)) (ha : -9223372036854775808 ≤ wh) (ha' : wh ≤ 9223372036854775807) :
    Calls Try.prog 38 #[pt t, .agg (opCells 6 wh a tt A n c)] W fun e W' => e = .returned (.bool true) ∧ ∃ o : Option Sd, plV 0 o ∧ St w0 W' (B t ((cs.setIfInBounds k (plN o)).setIfInBounds (2 + k) (plM o)) 112 :: (plE o ++ R)) := by
  have h1 := H.newB (opCells 6 wh a tt A n c) 116
  have CF := Lib.hid (fresh_calls w0 _ (B W.heap.size (opCells 6 wh a tt A n c) 116 :: R) t k cs a (h1.re (fun x => by simp only [cnt_cons]; omega)) hk hs)
  have CI := fun W' => Lib.hid (into_gen wh 2 W' (by omega) (by omega) ha ha')
  rw [hw] at CI
  clear h1 H ha ha' hw
  go_enter Try.func38, Try.ntmps38
  go_wp2_with fail
  refine (CI _).out.mono ?_; rintro e w1 ⟨rfl, rfl⟩
  go_wp2_with fail
  refine CF.out.mono ?_; rintro e w2 ⟨rfl, o, hv, hs2⟩
  have HV := Lib.hid hv
  have HS2 := Lib.hid hs2
  clear hv hs2
  go_wp2_with fail
  go_ret
  exact ⟨rfl, o, HV.out, HS2.out.re (fun x => by simp only [cnt_append, cnt_cons]; omega)⟩
/-- A call on a place that has its nets. -/
theorem plays_one (w0 W : World) (R : List Ent) (t k : Nat) (cs : Array Value) (s : Sd) (d wh a tt : Int) (A : Option Addr) (xs : List Int) (c : Nat) (H : St w0 W (B t cs 112 :: (sdE s ++ R))) (hV : SdV s) (hl : s.lost ≤ 1099511627776) (hk : k < 2)
    (hc0 : cs[k]? = some (pt s.g)) (hc1 : cs[2 + k]? = some (pt s.h)) (hc5 : cs[5]? = some (.bool false)) (hw : wh % 2 = (k : Int)) (ha : -9223372036854775808 ≤ wh) (ha' : wh ≤ 9223372036854775807) (hb : -9223372036854775808 ≤ a) (hb' : a ≤ 9223372036854775807)
    (hx : ReadsOf U 0 w0 A xs.length xs) (hxb : Byt xs) (hc : xs.length ≤ c) (hd : d ≠ 6) :
    Calls Try.prog 38 #[pt t, .agg (opCells d wh a tt A xs.length c)] W fun e W' => e = .returned (.bool true) ∧ Aft w0 [B t cs 112] R s 9000 W' := by
  have hin : (a < 0 ∨ (s.rs.length : Int) ≤ a) ∨ ∃ i : Nat, a = i ∧ i < s.rs.length := by
    by_cases h : a < 0 ∨ (s.rs.length : Int) ≤ a
    · exact .inl h
    · exact .inr ⟨a.toNat, by omega, by omega⟩
  by_cases h1 : d = 1
  · subst h1; exact plays_send w0 W R t k cs s wh a tt A xs c H hV hl hk hc0 hc1 hw ha ha' hx hxb hc
  by_cases h2 : d = 2
  · subst h2
    rcases hin with h | ⟨i, rfl, h⟩
    · exact plays_look0 w0 W R t k cs s wh a tt A _ c H hV hl hk hc0 hc1 hc5 hw ha ha' h
    · exact plays_look1 w0 W R t k cs s wh 0 tt A _ c H hV hl hk hc0 hc1 hc5 hw ha ha' i h
  by_cases h3 : d = 3
  · subst h3
    rcases hin with h | ⟨i, rfl, h⟩
    · exact plays_take0 w0 W R t k cs s wh a tt A _ c H hV hl hk hc0 hc1 hc5 hw ha ha' h
    · exact plays_take1 w0 W R t k cs s wh 0 tt A _ c H hV hl hk hc0 hc1 hc5 hw ha ha' i h
  by_cases h4 : d = 4
  · subst h4
    rcases hin with h | ⟨i, rfl, h⟩
    · exact plays_drop0 w0 W R t k cs s wh a tt A _ c H hV hl hk hc0 hc1 hw ha ha' h
    · exact plays_drop1 w0 W R t k cs s wh 0 tt A _ c H hV hl hk hc0 hc1 hw ha ha' i h
  by_cases h5 : d = 5
  · subst h5
    rcases hin with h | ⟨i, rfl, h⟩
    · exact plays_double0 w0 W R t k cs s wh a tt A _ c H hV hl hk hc0 hc1 hw ha ha' h
    · by_cases hr : (s.rs.length : Int) < s.room
      · exact plays_doubleR w0 W R t k cs s wh 0 tt A _ c H hV hl hk hc0 hc1 hw ha ha' i h hr
      · exact plays_doubleF w0 W R t k cs s wh 0 tt A _ c H hV hl hk hc0 hc1 hw ha ha' i h (by omega)
  by_cases h7 : d = 7
  · subst h7; exact plays_fill w0 W R t k cs s wh a tt A _ c H hV hl hk hc0 hc1 hw ha ha' hb hb'
  exact plays_other w0 W R t k cs s wh a tt A _ c H hV hl hk hc0 hc1 hw ha ha' d ⟨h1, h2, h3, h4, h5, hd, h7⟩
end Go.Proofs.Ytfmggmpllggbnaa.RNet
