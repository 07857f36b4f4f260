/- Merged by merge2.py out of the texts: Tick, Tick0, DecPlain, Dec, Dec2, Dec3, EqF, Begun, OpenS, Args, TArgs, Order, Flip, TurnedP, Copy, TurnSt, PTickP. -/
import Derived.Test.YtoeiaimoppmjdaaDoorZu3
import Derived.Test.YtoeiaimoppmjdaaDoorZu2
import Derived.Deep.DeepCutAuto
import Derived.Deep.CutBlock
import Derived.Test.YtoeiaimoppmjdaaDoorZu1
import Derived.Lib.Bytes
import Derived.Test.YtoeiaimoppmjdaaDoorRows
import Derived.Test.YtoeiaimoppmjdaaDoorTrim
import Derived.Deep.Slices
import Derived.OpenShut
import Derived.ProofKit
import Derived.SizedLaws
import Derived.BigRegion
/- Tick of a link. Printed by gen_tick.py. -/
namespace Go.Proofs.YtoeiaimoppmjdaaDoor.Lk
open Go.RowKit Go.Proofs.YtoeiaimoppmjdaaDoorW.PrintWords Go.Proofs.YtoeiaimoppmjdaaDoor.Mem Go.Proofs.YtoeiaimoppmjdaaDoor.Wr Go.Proofs.YtoeiaimoppmjdaaDoor.Bytes Go.Proofs.YtoeiaimoppmjdaaDoor.App
open Go.Proofs.YtoeiaimoppmjdaaDoor.Pace (nxt IsO dbl tick_yes tick_no)
set_option linter.unusedVariables false
set_option linter.unusedSimpArgs false
theorem flat_le (L : List BI) (it : BI) (h : it ∈ L) (x : Ent) : cnt x (byR it.1 it.2) ≤ cnt x (L.flatMap fun i => byR i.1 i.2) := by
  induction L with
  | nil => cases h
  | cons a L ih =>
    rw [List.flatMap_cons, cnt_append]
    rcases List.mem_cons.1 h with rfl | h
    · omega
    · have := ih h; omega
set_option maxRecDepth 20000 in
set_option maxHeartbeats 6400000 in
theorem tick_calls (w0 W : World) (R : List Ent) (g : Nat) (s : LS) (h : St w0 W (lkE g s ++ R)) (hV : LkV s) (hw : -9223372036854775808 ≤ s.window ∧ s.window ≤ 9223372036854775807) (hgo : s.gone + s.items.length + 1 < 18446744073709551616) (hou : s.out < 18446744073709551616) (hni : s.items.length ≤ 900) :
    Calls Tryd.prog 56 #[pt g] W fun e w' => ∃ ov l, e = .returned ov ∧ OutV ov l ∧ l.map (fun i => i.2) = (saidP s).map encF ∧ LkV (tickP s) ∧ St w0 w' (lkE g (tickP s) ++ (outE ov l ++ R)) := by
  obtain ⟨W1, hW1⟩ : ∃ W1, W1 = W.alloc (.cells #[pt g] 80) := ⟨_, rfl⟩
  obtain ⟨bl, hbl⟩ : ∃ bl, bl = W.heap.size := ⟨_, rfl⟩
  have h1 := h.newB #[pt g] 80
  rw [← hW1, ← hbl] at h1
  have h1' : St w0 W1 (lkE g s ++ (B bl #[pt g] 80 :: R)) := h1.re (fun x => by simp only [cnt_append, cnt_cons]; omega)
  obtain ⟨A5, c5, e5⟩ := oV_form hV.row
  obtain ⟨n, hn⟩ : ∃ n, n = s.items.length := ⟨_, rfl⟩
  rw [← hn] at e5 hgo hni
  have HN := Lib.hid hn
  have H1 := Lib.hid h1'
  have HV := Lib.hid hV
  have HW1 := Lib.hid hW1
  have HBL := Lib.hid hbl
  have E5 := Lib.hid e5
  have HW := Lib.hid hw
  have HGO := Lib.hid hgo
  have HOU := Lib.hid hou
  have HNI := Lib.hid hni
  clear h1 h1' h hV hW1 hbl e5 hw hgo hou hni hn
  go_enter Tryd.func56, Tryd.ntmps56
  go_upto_region 1 with fail
  rw [← HW1.out, ← HBL.out]
  go_cut [3] (fun s3 wx => s3 = .bool (timeP s) ∧ St w0 wx (lkE g (pacedP s) ++ (B bl #[pt g] 80 :: R)))
  case first =>
    have x0 := H1.out.cellOf (g := bl) (cs := #[pt g]) (t := 80) (by simp) 0 rfl
    have k5 : W1.cell? ⟨g, 5, none⟩ = some s.iv := lk_cell H1.out 5 rfl
    have k12 : W1.cell? ⟨g, 12, none⟩ = some (.bool s.word) := lk_cell H1.out 12 rfl
    have k9 : W1.cell? ⟨g, 9, none⟩ = some (pt s.gp) := lk_cell H1.out 9 rfl
    rw [E5.out] at k5
    by_cases hn : 0 < n
    · have i1 : (0 : Int) < (n : Int) := by omega
      have HASK : Hid (askP s = true) := by show askP s = true; unfold askP; rw [← HN.out, decide_eq_true hn]; rfl
      clear hn
      by_cases hl : s.left ≤ 1
      · have CP := Lib.hid (tick_yes s.gp s.cap s.left s.gap W1 (St.pace H1.out HV.out) hl)
        have ep : pacedP s = { s with left := s.gap, gap := dbl s.cap s.gap } := by unfold pacedP; rw [if_pos HASK.out, if_pos hl]
        have et : timeP s = true := by unfold timeP; rw [HASK.out, decide_eq_true hl]; rfl
        have EP := Lib.hid ep
        have ET := Lib.hid et
        clear ep et hl
        go_wp2_with fail
        refine CP.out.mono ?_; rintro e w2 ⟨rfl, ho, hg⟩
        have h2 := (St.paced H1.out HV.out ho hg).1
        have H2 := Lib.hid h2
        clear ho hg h2
        go_wp2_with fail
        go_meet
        exact ⟨by rw [ET.out], by rw [EP.out]; exact H2.out⟩
      · have CP := Lib.hid (tick_no s.gp s.cap s.left s.gap W1 (St.pace H1.out HV.out) (by omega))
        have ep : pacedP s = { s with left := s.left - 1, gap := s.gap } := by unfold pacedP; rw [if_pos HASK.out, if_neg hl]
        have et : timeP s = false := by unfold timeP; rw [HASK.out, decide_eq_false hl]; rfl
        have EP := Lib.hid ep
        have ET := Lib.hid et
        clear ep et hl
        go_wp2_with fail
        refine CP.out.mono ?_; rintro e w2 ⟨rfl, ho, hg⟩
        have h2 := (St.paced H1.out HV.out ho hg).1
        have H2 := Lib.hid h2
        clear ho hg h2
        go_wp2_with fail
        go_meet
        exact ⟨by rw [ET.out], by rw [EP.out]; exact H2.out⟩
    · have hn0 : n = 0 := by omega
      rw [hn0] at k5
      cases hwd : s.word with
      | true =>
        have HASK : Hid (askP s = true) := by show askP s = true; unfold askP; rw [hwd, Bool.or_true]
        rw [hwd] at k12
        clear hn
        by_cases hl : s.left ≤ 1
        · have CP := Lib.hid (tick_yes s.gp s.cap s.left s.gap W1 (St.pace H1.out HV.out) hl)
          have ep : pacedP s = { s with left := s.gap, gap := dbl s.cap s.gap } := by unfold pacedP; rw [if_pos HASK.out, if_pos hl]
          have et : timeP s = true := by unfold timeP; rw [HASK.out, decide_eq_true hl]; rfl
          have EP := Lib.hid ep
          have ET := Lib.hid et
          clear ep et hl
          go_wp2_with fail
          refine CP.out.mono ?_; rintro e w2 ⟨rfl, ho, hg⟩
          have h2 := (St.paced H1.out HV.out ho hg).1
          have H2 := Lib.hid h2
          clear ho hg h2
          go_wp2_with fail
          go_meet
          exact ⟨by rw [ET.out], by rw [EP.out]; exact H2.out⟩
        · have CP := Lib.hid (tick_no s.gp s.cap s.left s.gap W1 (St.pace H1.out HV.out) (by omega))
          have ep : pacedP s = { s with left := s.left - 1, gap := s.gap } := by unfold pacedP; rw [if_pos HASK.out, if_neg hl]
          have et : timeP s = false := by unfold timeP; rw [HASK.out, decide_eq_false hl]; rfl
          have EP := Lib.hid ep
          have ET := Lib.hid et
          clear ep et hl
          go_wp2_with fail
          refine CP.out.mono ?_; rintro e w2 ⟨rfl, ho, hg⟩
          have h2 := (St.paced H1.out HV.out ho hg).1
          have H2 := Lib.hid h2
          clear ho hg h2
          go_wp2_with fail
          go_meet
          exact ⟨by rw [ET.out], by rw [EP.out]; exact H2.out⟩
      | false =>
        have HASK : askP s = false := by unfold askP; rw [← HN.out, hwd, decide_eq_false hn]; rfl
        rw [hwd] at k12
        have ep : pacedP s = s := by unfold pacedP; rw [HASK]; rfl
        have et : timeP s = false := by unfold timeP; rw [HASK]; rfl
        have EP := Lib.hid ep
        have ET := Lib.hid et
        clear ep et HASK hn
        go_wp2_with fail
        go_meet
        exact ⟨by rw [ET.out], by rw [EP.out]; exact H1.out⟩
  case rest =>
    obtain ⟨hs3, h2⟩ := hcut
    obtain ⟨tm, htm⟩ : ∃ tm, tm = timeP s := ⟨_, rfl⟩
    rw [← htm] at hs3
    subst hs3
    obtain ⟨w2, hw2⟩ : ∃ w2, w2 = wc := ⟨_, rfl⟩
    rw [← hw2] at h2 ⊢
    clear hw2
    obtain ⟨pl, pg, e2⟩ := paced_same s
    obtain ⟨s2, hs2⟩ : ∃ s2, s2 = pacedP s := ⟨_, rfl⟩
    have V2 := Lib.hid (show LkV s2 by rw [hs2]; exact pacedP_V HV.out)
    rw [← hs2] at h2 e2
    have E2 := Lib.hid e2
    have HS2 := Lib.hid hs2
    have HTM := Lib.hid htm
    obtain ⟨W3, hW3⟩ : ∃ W3, W3 = w2.alloc (.cells #[NL] 61) := ⟨_, rfl⟩
    obtain ⟨bo, hbo⟩ : ∃ bo, bo = w2.heap.size := ⟨_, rfl⟩
    have h3 := h2.newB #[NL] 61
    rw [← hW3, ← hbo] at h3
    have h3' : St w0 W3 (lkE g s2 ++ (B bo #[NL] 61 :: (B bl #[pt g] 80 :: (outE NL [] ++ R)))) := h3.re (fun x => by simp only [outE, rowE_nil, List.length_nil, List.map_nil, List.flatMap_nil, cnt_append, cnt_cons, cnt_nil]; omega)
    have H3 := Lib.hid h3'
    have HW3 := Lib.hid hW3
    have HBO := Lib.hid hbo
    clear h2 e2 hs2 htm h3 h3' hW3 hbo
    go_upto_region 4 with fail
    rw [← HBO.out, ← HW3.out]
    go_cut [34] (fun s34 wx => s34 = .bool (decide (0 < s.known)) ∧ wx = W3)
    case first =>
      have y0 := H3.out.cellOf (g := bl) (cs := #[pt g]) (t := 80) (by simp) 0 rfl
      have d3 : W3.cell? ⟨g, 3, none⟩ = some (.int .u64 (s.known : Int)) := by
        have q : W3.cell? ⟨g, 3, none⟩ = some (.int .u64 (s2.known : Int)) := lk_cell H3.out 3 rfl
        rw [E2.out] at q; exact q
      by_cases hk : 0 < s.known
      · have i1 : (0 : Int) < (s.known : Int) := by omega
        have ek := Lib.hid (decide_eq_true hk)
        go_wp2_with fail
        go_meet
        exact ⟨by rw [ek.out], rfl⟩
      · have i1 : s.known = 0 := by omega
        rw [i1] at d3
        have ek := Lib.hid (decide_eq_false hk)
        clear hk
        go_wp2_with fail
        go_meet
        exact ⟨by rw [ek.out], rfl⟩
    case rest =>
      obtain ⟨hs34, hw3⟩ := hcut
      subst hs34
      rw [hw3]
      clear hw3
      go_upto_if 34 with fail
      go_cut [] (fun wx => ∃ ov l, OutV ov l ∧ l.map (fun i => i.2) = (rowP' s).1.map encF ∧ St w0 wx (lkE g { s2 with out := (rowP' s).2 } ++ (B bo #[ov] 61 :: (B bl #[pt g] 80 :: (outE ov l ++ R)))))
      case first =>
        by_cases hk : 0 < s.known
        · rw [decide_eq_true hk]
          have hcap : n ≤ c5 := by
            rcases HV.out.row.2 with ⟨q1, q2⟩ | ⟨_, _, _, q1, q2, _⟩
            · rw [HN.out, q2]; exact Nat.zero_le _
            · rw [E5.out] at q1; injection q1 with _ _ q1; rw [q1, HN.out]; exact q2
          obtain ⟨wv, hwv⟩ : ∃ wv, wv = s.window := ⟨_, rfl⟩
          obtain ⟨k, hk1⟩ : ∃ k, k = mayP s := ⟨_, rfl⟩
          have hkn : k ≤ n := by rw [hk1, HN.out]; exact Nat.min_le_left _ _
          have hmm : min (n : Int) (max wv 0) = (k : Int) := by rw [hk1, HN.out, hwv]; unfold mayP; omega
          have kc : (k : Int) ≤ (c5 : Int) := by omega
          have k0 : (0 : Int) ≤ (k : Int) := by omega
          have k9 : k ≤ 900 := by have := HNI.out; omega
          have HK1 := Lib.hid hk1
          have HKN := Lib.hid hkn
          have HKK := Lib.hid hk
          have y0 := H3.out.drew.cellOf (g := bl) (cs := #[pt g]) (t := 80) (by simp) 0 rfl
          have d5 : W3.drew.cell? ⟨g, 5, none⟩ = some (.slice A5 n c5) := by
            have q : W3.drew.cell? ⟨g, 5, none⟩ = some s2.iv := lk_cell H3.out.drew 5 rfl
            rw [E2.out] at q; rw [← E5.out]; exact q
          have d4 : W3.drew.cell? ⟨g, 4, none⟩ = some (.int .i64 wv) := by
            have q : W3.drew.cell? ⟨g, 4, none⟩ = some (.int .i64 s2.window) := lk_cell H3.out.drew 4 rfl
            rw [E2.out] at q; rw [hwv]; exact q
          have HALL : Hid (W3.drew.cell? ⟨bl, 0, none⟩ = some (pt g) ∧ W3.drew.cell? ⟨g, 5, none⟩ = some (.slice A5 n c5) ∧ W3.drew.cell? ⟨g, 4, none⟩ = some (.int .i64 wv)) := ⟨y0, d5, d4⟩
          clear hwv hk1 hkn hk y0 d5 d4 hcap
          go_upto_region 5 with fail
          go_cut [52, 53, 54] (fun s52 s53 s54 wx => s52 = .slice A5 k c5 ∧ s53 = .int .i64 k ∧ s54 = .int .i64 0 ∧ wx = W3.drew)
          case first =>
            have SM : ∀ (bb0 : Bool) (w9 : World), (fun (_ : Bool) (w9 : World) => w9.cell? ⟨bl, 0, none⟩ = some (pt g) ∧ w9.cell? ⟨g, 5, none⟩ = some (.slice A5 n c5) ∧ w9.cell? ⟨g, 4, none⟩ = some (.int .i64 wv)) bb0 w9 → (fun (_ : Bool) (w9 : World) => w9.cell? ⟨bl, 0, none⟩ = some (pt g) ∧ w9.cell? ⟨g, 5, none⟩ = some (.slice A5 n c5) ∧ w9.cell? ⟨g, 4, none⟩ = some (.int .i64 wv)) true w9 := fun _ _ h => h
            refine RegL.begin_of (k := 99) (S := fun (_ : Bool) (w9 : World) => w9.cell? ⟨bl, 0, none⟩ = some (pt g) ∧ w9.cell? ⟨g, 5, none⟩ = some (.slice A5 n c5) ∧ w9.cell? ⟨g, 4, none⟩ = some (.int .i64 wv)) (by kernel_rfl) ?_
            refine RegL.take_w (i := 0) (oi := ⟨some 35, _, _, _, _, _⟩) (v := ?_) SM rfl (by decide) (by kernel_rfl) (by kernel_rfl) (by kernel_rfl) (fun _ _ _ h => h) (Or.inl ⟨by rfl, ?_⟩) (HALL.out) ?_
            rotate_left
            · intro w9 hw9; obtain ⟨q1, q2, q3⟩ := hw9; go_simp; try with_reducible rfl
            try simp only [Act.put, List.setIfInBounds_toArray, List.set_cons_zero, List.set_cons_succ]
            refine RegL.take_w (i := 1) (oi := ⟨some 36, _, _, _, _, _⟩) (v := ?_) SM rfl (by decide) (by kernel_rfl) (by kernel_rfl) (by kernel_rfl) (fun _ _ _ h => h) (Or.inl ⟨by rfl, ?_⟩) (HALL.out) ?_
            rotate_left
            · intro w9 hw9; obtain ⟨q1, q2, q3⟩ := hw9; go_simp; try with_reducible rfl
            try simp only [Act.put, List.setIfInBounds_toArray, List.set_cons_zero, List.set_cons_succ]
            refine RegL.take_w (i := 2) (oi := ⟨some 37, _, _, _, _, _⟩) (v := ?_) SM rfl (by decide) (by kernel_rfl) (by kernel_rfl) (by kernel_rfl) (fun _ _ _ h => h) (Or.inl ⟨by rfl, ?_⟩) (HALL.out) ?_
            rotate_left
            · intro w9 hw9; obtain ⟨q1, q2, q3⟩ := hw9; go_simp; try with_reducible rfl
            try simp only [Act.put, List.setIfInBounds_toArray, List.set_cons_zero, List.set_cons_succ]
            refine RegL.take_w (i := 3) (oi := ⟨some 38, _, _, _, _, _⟩) (v := ?_) SM rfl (by decide) (by kernel_rfl) (by kernel_rfl) (by kernel_rfl) (fun _ _ _ h => h) (Or.inl ⟨by rfl, ?_⟩) (HALL.out) ?_
            rotate_left
            · intro w9 hw9; obtain ⟨q1, q2, q3⟩ := hw9; go_simp; try with_reducible rfl
            try simp only [Act.put, List.setIfInBounds_toArray, List.set_cons_zero, List.set_cons_succ]
            refine RegL.take_w (i := 4) (oi := ⟨some 39, _, _, _, _, _⟩) (v := ?_) SM rfl (by decide) (by kernel_rfl) (by kernel_rfl) (by kernel_rfl) (fun _ _ _ h => h) (Or.inl ⟨by rfl, ?_⟩) (HALL.out) ?_
            rotate_left
            · intro w9 hw9; obtain ⟨q1, q2, q3⟩ := hw9; go_simp; try with_reducible rfl
            try simp only [Act.put, List.setIfInBounds_toArray, List.set_cons_zero, List.set_cons_succ]
            refine RegL.take_w (i := 5) (oi := ⟨some 40, _, _, _, _, _⟩) (v := ?_) SM rfl (by decide) (by kernel_rfl) (by kernel_rfl) (by kernel_rfl) (fun _ _ _ h => h) (Or.inl ⟨by rfl, ?_⟩) (HALL.out) ?_
            rotate_left
            · intro w9 hw9; obtain ⟨q1, q2, q3⟩ := hw9; go_simp; try with_reducible rfl
            try simp only [Act.put, List.setIfInBounds_toArray, List.set_cons_zero, List.set_cons_succ]
            refine RegL.take_w (i := 6) (oi := ⟨some 41, _, _, _, _, _⟩) (v := ?_) SM rfl (by decide) (by kernel_rfl) (by kernel_rfl) (by kernel_rfl) (fun _ _ _ h => h) (Or.inl ⟨by rfl, ?_⟩) (HALL.out) ?_
            rotate_left
            · intro w9 hw9; obtain ⟨q1, q2, q3⟩ := hw9; go_simp; try with_reducible rfl
            try simp only [Act.put, List.setIfInBounds_toArray, List.set_cons_zero, List.set_cons_succ]
            refine RegL.take_w (i := 7) (oi := ⟨some 42, _, _, _, _, _⟩) (v := ?_) SM rfl (by decide) (by kernel_rfl) (by kernel_rfl) (by kernel_rfl) (fun _ _ _ h => h) (Or.inl ⟨by rfl, ?_⟩) (HALL.out) ?_
            rotate_left
            · intro w9 hw9; obtain ⟨q1, q2, q3⟩ := hw9; go_simp; try with_reducible rfl
            try simp only [Act.put, List.setIfInBounds_toArray, List.set_cons_zero, List.set_cons_succ]
            refine RegL.take_w (i := 8) (oi := ⟨some 43, _, _, _, _, _⟩) (v := ?_) SM rfl (by decide) (by kernel_rfl) (by kernel_rfl) (by kernel_rfl) (fun _ _ _ h => h) (Or.inl ⟨by rfl, ?_⟩) (HALL.out) ?_
            rotate_left
            · intro w9 hw9; obtain ⟨q1, q2, q3⟩ := hw9; go_simp; try with_reducible rfl
            try simp only [Act.put, List.setIfInBounds_toArray, List.set_cons_zero, List.set_cons_succ]
            refine RegL.take_w (i := 9) (oi := ⟨some 44, _, _, _, _, _⟩) (v := ?_) SM rfl (by decide) (by kernel_rfl) (by kernel_rfl) (by kernel_rfl) (fun _ _ _ h => h) (Or.inl ⟨by rfl, ?_⟩) (HALL.out) ?_
            rotate_left
            · intro w9 hw9; obtain ⟨q1, q2, q3⟩ := hw9; go_simp; try with_reducible rfl
            try simp only [Act.put, List.setIfInBounds_toArray, List.set_cons_zero, List.set_cons_succ]
            refine RegL.take_w (i := 10) (oi := ⟨some 45, _, _, _, _, _⟩) (v := ?_) SM rfl (by decide) (by kernel_rfl) (by kernel_rfl) (by kernel_rfl) (fun _ _ _ h => h) (Or.inl ⟨by rfl, ?_⟩) (HALL.out) ?_
            rotate_left
            · intro w9 hw9; obtain ⟨q1, q2, q3⟩ := hw9; go_simp; try with_reducible rfl
            try simp only [Act.put, List.setIfInBounds_toArray, List.set_cons_zero, List.set_cons_succ]
            refine RegL.take_w (i := 11) (oi := ⟨some 46, _, _, _, _, _⟩) (v := ?_) SM rfl (by decide) (by kernel_rfl) (by kernel_rfl) (by kernel_rfl) (fun _ _ _ h => h) (Or.inl ⟨by rfl, ?_⟩) (HALL.out) ?_
            rotate_left
            · intro w9 hw9; obtain ⟨q1, q2, q3⟩ := hw9; go_simp; try with_reducible rfl
            try simp only [Act.put, List.setIfInBounds_toArray, List.set_cons_zero, List.set_cons_succ]
            refine RegL.take_w (i := 12) (oi := ⟨some 47, _, _, _, _, _⟩) (v := ?_) SM rfl (by decide) (by kernel_rfl) (by kernel_rfl) (by kernel_rfl) (fun _ _ _ h => h) (Or.inl ⟨by rfl, ?_⟩) (HALL.out) ?_
            rotate_left
            · intro w9 hw9; obtain ⟨q1, q2, q3⟩ := hw9; go_simp; try with_reducible rfl
            try simp only [Act.put, List.setIfInBounds_toArray, List.set_cons_zero, List.set_cons_succ]
            refine RegL.take_w (i := 13) (oi := ⟨some 48, _, _, _, _, _⟩) (v := ?_) SM rfl (by decide) (by kernel_rfl) (by kernel_rfl) (by kernel_rfl) (fun _ _ _ h => h) (Or.inl ⟨by rfl, ?_⟩) (HALL.out) ?_
            rotate_left
            · intro w9 hw9; obtain ⟨q1, q2, q3⟩ := hw9; go_simp; try with_reducible rfl
            try simp only [Act.put, List.setIfInBounds_toArray, List.set_cons_zero, List.set_cons_succ]
            refine RegL.take_w (i := 14) (oi := ⟨some 49, _, _, _, _, _⟩) (v := ?_) SM rfl (by decide) (by kernel_rfl) (by kernel_rfl) (by kernel_rfl) (fun _ _ _ h => h) (Or.inl ⟨by rfl, ?_⟩) (HALL.out) ?_
            rotate_left
            · intro w9 hw9; obtain ⟨q1, q2, q3⟩ := hw9; go_simp; try with_reducible rfl
            try simp only [Act.put, List.setIfInBounds_toArray, List.set_cons_zero, List.set_cons_succ]
            refine RegL.take_w (i := 15) (oi := ⟨some 50, _, _, _, _, _⟩) (v := ?_) SM rfl (by decide) (by kernel_rfl) (by kernel_rfl) (by kernel_rfl) (fun _ _ _ h => h) (Or.inl ⟨by rfl, ?_⟩) (HALL.out) ?_
            rotate_left
            · intro w9 hw9; obtain ⟨q1, q2, q3⟩ := hw9; go_simp; try with_reducible rfl
            try simp only [Act.put, List.setIfInBounds_toArray, List.set_cons_zero, List.set_cons_succ]
            refine RegL.take_w (i := 16) (oi := ⟨some 51, _, _, _, _, _⟩) (v := ?_) SM rfl (by decide) (by kernel_rfl) (by kernel_rfl) (by kernel_rfl) (fun _ _ _ h => h) (Or.inl ⟨by rfl, ?_⟩) (HALL.out) ?_
            rotate_left
            · intro w9 hw9; obtain ⟨q1, q2, q3⟩ := hw9; go_simp; try with_reducible rfl
            try simp only [Act.put, List.setIfInBounds_toArray, List.set_cons_zero, List.set_cons_succ]
            refine RegL.take_w (i := 17) (oi := ⟨some 52, _, _, _, _, _⟩) (v := ?_) SM rfl (by decide) (by kernel_rfl) (by kernel_rfl) (by kernel_rfl) (fun _ _ _ h => h) (Or.inl ⟨by rfl, ?_⟩) (HALL.out) ?_
            rotate_left
            · intro w9 hw9; obtain ⟨q1, q2, q3⟩ := hw9; go_simp; try with_reducible rfl
            try simp only [Act.put, List.setIfInBounds_toArray, List.set_cons_zero, List.set_cons_succ]
            refine RegL.take_w (i := 18) (oi := ⟨some 53, _, _, _, _, _⟩) (v := ?_) SM rfl (by decide) (by kernel_rfl) (by kernel_rfl) (by kernel_rfl) (fun _ _ _ h => h) (Or.inl ⟨by rfl, ?_⟩) (HALL.out) ?_
            rotate_left
            · intro w9 hw9; obtain ⟨q1, q2, q3⟩ := hw9; go_simp; try with_reducible rfl
            try simp only [Act.put, List.setIfInBounds_toArray, List.set_cons_zero, List.set_cons_succ]
            refine RegL.take_w (i := 19) (oi := ⟨some 54, _, _, _, _, _⟩) (v := ?_) SM rfl (by decide) (by kernel_rfl) (by kernel_rfl) (by kernel_rfl) (fun _ _ _ h => h) (Or.inl ⟨by rfl, ?_⟩) (HALL.out) ?_
            rotate_left
            · intro w9 hw9; obtain ⟨q1, q2, q3⟩ := hw9; go_simp; try with_reducible rfl
            try simp only [Act.put, List.setIfInBounds_toArray, List.set_cons_zero, List.set_cons_succ]
            refine RegL.done_of (by kernel_rfl) ?_ _
            go_wp2_with fail
            go_meet
            exact ⟨rfl, rfl, rfl, rfl⟩
          case rest =>
            obtain ⟨q52, q53, q54, hwc⟩ := hcut
            subst q52 q53 q54
            rw [hwc]
            clear hwc HALL hmm
            obtain ⟨W4, hW4⟩ : ∃ W4, W4 = W3.drew := ⟨_, rfl⟩
            have h4 := H3.out.drew
            rw [← hW4] at h4 ⊢
            have H4 := Lib.hid h4
            clear hW4 h4
            go_wp2_with fail
            go_loopg [54] k (fun gk s54 wr => ∃ q : Nat, gk = k - q ∧ q ≤ k ∧ s54 = .int .i64 q ∧ ∃ ov l, OutV ov l ∧ l.map (fun i => i.2) = (sayTo s tm q).1.map encF ∧ St w0 wr (lkE g { s2 with out := (sayTo s tm q).2 } ++ (B bo #[ov] 61 :: (B bl #[pt g] 80 :: (outE ov l ++ R)))))
            case atStart =>
              have eo : ({ s2 with out := s.out } : LS) = s2 := by rw [E2.out]
              exact ⟨0, rfl, Nat.zero_le _, rfl, NL, [], outV_nil, rfl, by show St w0 _ (lkE g { s2 with out := s.out } ++ _); rw [eo]; exact H4.out⟩
            case round =>
              obtain ⟨q, hgk, hq, rfl, ov, l, hov, hll, hs⟩ := hrel
              have HGK := Lib.hid hgk
              have HOV := Lib.hid hov
              have HLL := Lib.hid hll
              have HQ := Lib.hid hq
              obtain ⟨o, ho⟩ : ∃ o, o = (sayTo s tm q).2 := ⟨_, rfl⟩
              rw [← ho] at hs
              have HS := Lib.hid hs
              have HO := Lib.hid ho
              clear hgk hov hll hs hq ho
              by_cases hlt : q < k
              · have i1 : (q : Int) < (k : Int) := by omega
                have i2 : (0 : Int) ≤ (q : Int) := by omega
                have hqn : q < s.items.length := by have := HKN.out; have := HN.out; omega
                obtain ⟨g5, off, rfl⟩ : ∃ g5 off, A5 = some ⟨g5, off, none⟩ := by
                  rcases HV.out.row.2 with ⟨q1, q2⟩ | ⟨g5, off, _, q1, _⟩
                  · omega
                  · rw [E5.out] at q1; injection q1 with q1; exact ⟨g5, off, q1⟩
                obtain ⟨it, hit⟩ : ∃ it, it = s.items[q] := ⟨_, rfl⟩
                have him : it ∈ s.items := by rw [hit]; exact List.getElem_mem _
                obtain ⟨hib, hiy, hil⟩ := HV.out.by_ it him
                have zc := o_at (g := g5) (off := off) (m := n) (cap := c5) (n := n) (xs := s.items.map fun i => i.1) (HS.out.re (M := oE (.slice (some ⟨g5, off, none⟩) n c5) 22 n (s.items.map fun i => i.1) ++ []) (fun x => by simp only [lkE, itemsE, E2.out, E5.out, ← HN.out, cnt_append, cnt_cons, cnt_nil]; omega)) (by rw [List.length_map, HN.out]) q (by rw [HN.out]; exact hqn)
                rw [List.getElem?_map, List.getElem?_eq_getElem hqn, Option.map_some, ← hit] at zc
                have hcb : ∀ x, cnt x (byR it.1 it.2) ≤ cnt x (s.items.flatMap fun i => byR i.1 i.2) := flat_le _ _ him
                obtain ⟨iv, ys⟩ := it
                simp only at hib hiy hil zc hcb
                obtain ⟨Ai, ci, rfl⟩ := byV_form hib
                have hry := by_reads HS.out (fun x => by have := hcb x; simp only [lkE, itemsE, E2.out, cnt_append, cnt_cons]; omega) hib
                have hgl : l.length ≤ q := by have := sayTo_len s tm q; have e := congrArg List.length HLL.out; simp at e; omega
                obtain ⟨m, hm⟩ : ∃ m, m = s.gone + q + 1 := ⟨_, rfl⟩
                have u1 : IntKind.u64.wrap (q : Int) = (q : Int) := IntWalk.u64_in _ ⟨by omega, by have := HNI.out; have := HKN.out; omega⟩
                have u2 : IntKind.u64.wrap ((s.gone : Int) + (q : Int)) = (s.gone : Int) + (q : Int) := IntWalk.u64_in _ ⟨by omega, by have := HGO.out; have := HKN.out; omega⟩
                have u3 : IntKind.u64.wrap ((s.gone : Int) + (q : Int) + 1) = (m : Int) := by rw [IntWalk.u64_in _ ⟨by omega, by have := HGO.out; have := HKN.out; omega⟩, hm]; omega
                have ef : frm { s2 with out := o } m ys = frm s m ys := by rw [E2.out]
                have CS := Lib.hid (say_calls w0 wr R g bo bl { s2 with out := o } ov l m Ai ci ys HS.out HOV.out hry hiy (by have := HNI.out; have := HKN.out; omega))
                rw [ef] at CS
                have HEY : Hid (ys = (s.items.getD q (NL, [])).2) := by show ys = _; rw [List.getD_eq_getElem?_getD, List.getElem?_eq_getElem hqn]; show ys = (s.items[q]).2; rw [← hit]
                have c0 : wr.cell? ⟨bl, 0, none⟩ = some (pt g) := HS.out.cellOf (g := bl) (cs := #[pt g]) (t := 80) (by simp) 0 rfl
                have c6 : wr.cell? ⟨g, 6, none⟩ = some (.int .u64 (s.gone : Int)) := by
                  have q : wr.cell? ⟨g, 6, none⟩ = some (.int .u64 (s2.gone : Int)) := lk_cell HS.out 6 rfl
                  rw [E2.out] at q; exact q
                have c7 : wr.cell? ⟨g, 7, none⟩ = some (.int .u64 (o : Int)) := lk_cell HS.out 7 rfl
                have HM := Lib.hid hm
                have HLT := Lib.hid hlt
                clear hit him hib hiy hil hcb hry hgl hm ef hqn hlt
                go_upto_region 9 with fail
                go_cut [76] (fun s76 wx => s76 = .bool (decide (tm = true ∨ o < m)) ∧ wx = wr)
                case first =>
                  cases tm with
                  | true =>
                    go_wp2_with fail
                    go_meet
                    exact ⟨by simp, rfl⟩
                  | false =>
                    by_cases hom : o < m
                    · have j1 : (o : Int) < (m : Int) := by omega
                      go_wp2_with fail
                      go_meet
                      exact ⟨by simp; omega, rfl⟩
                    · have j1 : ¬ (o : Int) < (m : Int) := by omega
                      go_wp2_with fail
                      go_meet
                      exact ⟨by simp; omega, rfl⟩
                case rest =>
                  obtain ⟨hs76, hwc⟩ := hcut
                  subst hs76
                  rw [hwc]
                  clear hwc
                  go_upto_if 76 with fail
                  by_cases hc : tm = true ∨ o < m
                  · rw [decide_eq_true hc]
                    have hst : sayTo s tm (q + 1) = ((sayTo s tm q).1 ++ [frm s m ys], max o m) := by
                      show (if _ then _ else _) = _
                      rw [← HO.out, ← HM.out, if_pos hc, ← HEY.out]
                    have HST := Lib.hid hst
                    obtain ⟨om, hom⟩ : ∃ om, om = max o m := ⟨_, rfl⟩
                    have hmx : max (o : Int) (m : Int) = (om : Int) := by rw [hom]; omega
                    rw [← hom] at HST
                    clear hst hc hom
                    go_wp2_with fail
                    refine CS.out.mono ?_; rintro e w5 ⟨rfl, ov', v, hov', hs5⟩
                    have b0 : w5.cell? ⟨bl, 0, none⟩ = some (pt g) := hs5.cellOf (g := bl) (cs := #[pt g]) (t := 80) (by simp) 0 rfl
                    have b7 : w5.cell? ⟨g, 7, none⟩ = some (.int .u64 (o : Int)) := lk_cell hs5 7 rfl
                    have f7 := lk_free hs5 7
                    have H5 := Lib.hid hs5
                    have HOV' := Lib.hid hov'
                    clear hs5 hov' c0 c6 c7 zc
                    go_wp2_with fail
                    go_region
                    all_goals
                      go_wp2_with fail
                      go_roundg (k - (q + 1))
                      case measure => have := HGK.out; have := HLT.out; omega
                      case rel =>
                        refine ⟨q + 1, rfl, by have := HLT.out; omega, by go_num, ov', l ++ [(v, encF (frm s m ys))], HOV'.out, by rw [HST.out, List.map_append, HLL.out, List.map_append]; rfl, ?_⟩
                        rw [HST.out]
                        show St w0 _ (lkE g { s2 with out := om } ++ _)
                        exact (((H5.out.re (M := B g (lkC { s2 with out := o }) 128 :: (B s2.gp (pcC s2) 135 :: (itemsE s2 ++ (B bo #[ov'] 61 :: (B bl #[pt g] 80 :: (outE ov' (l ++ [(v, encF (frm s m ys))]) ++ R)))))) (fun x => by simp only [lkE, pcC, itemsE, cnt_append, cnt_cons]; omega)).put (cs' := lkC { s2 with out := om }) 7 (.int .u64 (om : Int)) rfl).drew).re (fun x => by simp only [lkE, pcC, itemsE, cnt_append, cnt_cons]; omega)
                  · rw [decide_eq_false hc]
                    have hst : sayTo s tm (q + 1) = sayTo s tm q := by
                      show (if _ then _ else _) = _
                      rw [← HO.out, ← HM.out, if_neg hc]
                    have HST := Lib.hid hst
                    clear hst hc
                    go_wp2_with fail
                    go_roundg (k - (q + 1))
                    case measure => have := HGK.out; have := HLT.out; omega
                    case rel => exact ⟨q + 1, rfl, by have := HLT.out; omega, by go_num, ov, l, HOV.out, by rw [HST.out]; exact HLL.out, by rw [HST.out, ← HO.out]; exact HS.out⟩
              · have hqk : q = k := by have := HQ.out; omega
                have i1 : ¬ (q : Int) < (k : Int) := by omega
                have er : rowP' s = sayTo s tm q := by unfold rowP'; rw [if_pos HKK.out, ← HTM.out, ← HK1.out, hqk]
                have ER := Lib.hid er
                clear er
                go_wp2_with fail
                go_meet
                rw [ER.out, ← HO.out]
                exact ⟨ov, l, HOV.out, HLL.out, HS.out⟩
        · rw [decide_eq_false hk]
          have er : rowP' s = ([], s.out) := by unfold rowP'; rw [if_neg hk]
          have eo : ({ s2 with out := s.out } : LS) = s2 := by rw [E2.out]
          have ER := Lib.hid er
          have EO := Lib.hid eo
          clear er eo hk
          go_wp2_with fail
          go_meet
          rw [ER.out]
          exact ⟨NL, [], outV_nil, rfl, by show St w0 _ (lkE g { s2 with out := s.out } ++ _); rw [EO.out]; exact H3.out⟩
      case rest =>
        obtain ⟨ov, l, hov, hll, hs⟩ := hcut
        obtain ⟨s4, hs4⟩ : ∃ s4 : LS, s4 = { s2 with out := (rowP' s).2 } := ⟨_, rfl⟩
        rw [← hs4] at hs
        obtain ⟨wX, hwX⟩ : ∃ wX, wX = wc := ⟨_, rfl⟩
        rw [← hwX] at hs ⊢
        obtain ⟨n4, hn4⟩ : ∃ n4, n4 = l.length := ⟨_, rfl⟩
        obtain ⟨Ao, co, rfl⟩ := row_form hov.row
        obtain ⟨ak, hak⟩ : ∃ ak, ak = s.ack := ⟨_, rfl⟩
        obtain ⟨aq, haq⟩ : ∃ aq, aq = s.asked := ⟨_, rfl⟩
        obtain ⟨wd, hwd⟩ : ∃ wd, wd = s.word := ⟨_, rfl⟩
        have hre : (rowP' s).1.isEmpty = decide (n4 = 0) := by
          have e := congrArg List.length hll
          simp only [List.length_map] at e
          rw [hn4, e]
          cases (rowP' s).1 <;> simp
        have hwp : wordP s = (decide (n4 = 0) && (ak || aq || wd && tm)) := by unfold wordP; rw [hre, hak, haq, hwd, HTM.out]
        have c0 : wX.cell? ⟨bl, 0, none⟩ = some (pt g) := hs.cellOf (g := bl) (cs := #[pt g]) (t := 80) (by simp) 0 rfl
        have co0 : wX.cell? ⟨bo, 0, none⟩ = some (.slice Ao n4 co) := by rw [hn4]; exact hs.cellOf (g := bo) (cs := #[.slice Ao l.length co]) (t := 61) (by simp) 0 rfl
        have c10 : wX.cell? ⟨g, 10, none⟩ = some (.bool ak) := by
          have q : wX.cell? ⟨g, 10, none⟩ = some (.bool s4.ack) := lk_cell hs 10 rfl
          rw [hs4, E2.out] at q; rw [hak]; exact q
        have c11 : wX.cell? ⟨g, 11, none⟩ = some (.bool aq) := by
          have q : wX.cell? ⟨g, 11, none⟩ = some (.bool s4.asked) := lk_cell hs 11 rfl
          rw [hs4, E2.out] at q; rw [haq]; exact q
        have c12 : wX.cell? ⟨g, 12, none⟩ = some (.bool wd) := by
          have q : wX.cell? ⟨g, 12, none⟩ = some (.bool s4.word) := lk_cell hs 12 rfl
          rw [hs4, E2.out] at q; rw [hwd]; exact q
        have HS := Lib.hid hs
        have HOV := Lib.hid hov
        have HLL := Lib.hid hll
        have HS4 := Lib.hid hs4
        have HN4 := Lib.hid hn4
        have HAK := Lib.hid hak
        have HAQ := Lib.hid haq
        have HWP := Lib.hid hwp
        clear hs hov hll hs4 hwX hn4 hak haq hwd hre hwp
        go_upto_region 13 with fail
        go_cut [114] (fun s114 wx => s114 = .bool (decide (n4 = 0) && (ak || aq || wd && tm)) ∧ wx = wX)
        case first =>
          by_cases h0 : n4 = 0
          · have hd := Lib.hid h0
            rw [h0] at co0
            clear h0
            cases ak with
            | true =>
              go_wp2_with fail
              go_meet
              exact ⟨by rw [hd.out]; simp, rfl⟩
            | false =>
              cases aq with
              | true =>
                go_wp2_with fail
                go_meet
                exact ⟨by rw [hd.out]; simp, rfl⟩
              | false =>
                cases wd with
                | true =>
                  go_wp2_with fail
                  go_meet
                  exact ⟨by rw [hd.out]; simp, rfl⟩
                | false =>
                  go_wp2_with fail
                  go_meet
                  exact ⟨by rw [hd.out]; simp, rfl⟩
          · have j1 : ((n4 : Int) == 0) = false := by rw [beq_eq_false_iff_ne]; omega
            have hd := Lib.hid (decide_eq_false h0)
            clear h0
            go_wp2_with fail
            go_meet
            exact ⟨by rw [hd.out]; rfl, rfl⟩
        case rest =>
          obtain ⟨hs114, hwc⟩ := hcut
          rw [← HWP.out] at hs114
          obtain ⟨wp, hwp⟩ : ∃ wp, wp = wordP s := ⟨_, rfl⟩
          rw [← hwp] at hs114
          subst hs114
          rw [hwc]
          clear hwc co0 c10 c11 c12
          go_upto_if 114 with fail
          go_cut [] (fun wx => ∃ ov l, OutV ov l ∧ l.map (fun i => i.2) = (saidP s).map encF ∧ St w0 wx (lkE g s4 ++ (B bo #[ov] 61 :: (B bl #[pt g] 80 :: (outE ov l ++ R)))))
          case first =>
            cases wp with
            | true =>
              have hsd : saidP s = [frm s 0 []] := by unfold saidP; rw [← hwp]; rfl
              have hl0 : l = [] := by
                have e := HWP.out
                rw [← hwp] at e
                have e1 : decide (n4 = 0) = true := by
                  cases h : decide (n4 = 0) with
                  | true => rfl
                  | false => rw [h] at e; cases e
                exact List.eq_nil_of_length_eq_zero (by rw [← HN4.out]; exact of_decide_eq_true e1)
              have HSD := Lib.hid hsd
              have ef : frm s4 0 [] = frm s 0 [] := by rw [HS4.out, E2.out]
              have CS : Hid (Calls Tryd.prog 97 #[.int .u64 0, .slice none 0 0, .pointer (some ⟨bo, 0, none⟩), .pointer (some ⟨bl, 0, none⟩)] wX fun e w' => e = .returned (.tuple #[]) ∧ ∃ ov' v, OutV ov' (l ++ [(v, encF (frm s 0 []))]) ∧ St w0 w' (lkE g s4 ++ (B bo #[ov'] 61 :: (B bl #[pt g] 80 :: (outE ov' (l ++ [(v, encF (frm s 0 []))]) ++ R))))) := by
                have q := say_calls w0 wX R g bo bl s4 (.slice Ao l.length co) l 0 none 0 [] HS.out HOV.out (ReadsOf.nil I 0 wX) (fun a h => (by cases h)) (by rw [hl0]; simp)
                rw [ef] at q
                exact q
              rw [hl0] at CS
              clear hsd hl0 ef hwp c0
              go_wp2_with fail
              refine CS.out.mono ?_; rintro e w5 ⟨rfl, ov', v, hov', hs5⟩
              have H5 := Lib.hid hs5
              have HOV' := Lib.hid hov'
              clear hs5 hov'
              go_wp2_with fail
              go_meet
              rw [HSD.out]
              exact ⟨ov', [(v, encF (frm s 0 []))], HOV'.out, rfl, H5.out⟩
            | false =>
              have hsd : saidP s = (rowP' s).1 := by unfold saidP; rw [← hwp]; rfl
              have HSD := Lib.hid hsd
              clear hsd hwp
              go_wp2_with fail
              go_meet
              rw [HSD.out]
              exact ⟨.slice Ao l.length co, l, HOV.out, HLL.out, HS.out⟩
          case rest =>
            clear hwp
            obtain ⟨ov, l6, hov, hll6, hs⟩ := hcut
            obtain ⟨wZ, hwZ⟩ : ∃ wZ, wZ = wc := ⟨_, rfl⟩
            rw [← hwZ] at hs ⊢
            obtain ⟨Ap, cp, rfl⟩ := row_form hov.row
            obtain ⟨n6, hn6⟩ : ∃ n6, n6 = l6.length := ⟨_, rfl⟩
            have hse : (saidP s).isEmpty = decide (n6 = 0) := by
              have e := congrArg List.length hll6
              simp only [List.length_map] at e
              rw [hn6, e]
              cases saidP s <;> simp
            have c0 : wZ.cell? ⟨bl, 0, none⟩ = some (pt g) := hs.cellOf (g := bl) (cs := #[pt g]) (t := 80) (by simp) 0 rfl
            have co0 : wZ.cell? ⟨bo, 0, none⟩ = some (.slice Ap n6 cp) := by rw [hn6]; exact hs.cellOf (g := bo) (cs := #[.slice Ap l6.length cp]) (t := 61) (by simp) 0 rfl
            have z10 : wZ.cell? ⟨g, 10, none⟩ = some (.bool s4.ack) := lk_cell hs 10 rfl
            have z11 : wZ.cell? ⟨g, 11, none⟩ = some (.bool s4.asked) := lk_cell hs 11 rfl
            have f10 := lk_free hs 10
            have f11 := lk_free hs 11
            have v4 : LkV s4 := by rw [HS4.out]; exact ⟨V2.out.c, V2.out.g, V2.out.l, V2.out.row, V2.out.by_⟩
            have et : tickP s = { s4 with ack := s.ack && decide (n6 = 0), asked := s.asked && decide (n6 = 0) } := by unfold tickP; rw [← HS2.out, HS4.out, hse]
            have e10 : s4.ack = s.ack := by rw [HS4.out, E2.out]
            have e11 : s4.asked = s.asked := by rw [HS4.out, E2.out]
            have H6 := Lib.hid hs
            have HO6 := Lib.hid hov
            have HL6 := Lib.hid hll6
            have HN6 := Lib.hid hn6
            have V4 := Lib.hid v4
            have ET := Lib.hid et
            have E10 := Lib.hid e10
            have E11 := Lib.hid e11
            clear hwZ hs hov hll6 hn6 hse v4 et e10 e11
            go_upto_region 15 with fail
            by_cases h0 : n6 = 0
            · have es : tickP s = s4 := by rw [ET.out, h0]; simp only [decide_true, Bool.and_true]; rw [← E10.out, ← E11.out]
              have HE := Lib.hid es
              have hd := Lib.hid h0
              rw [h0] at co0
              clear h0 es
              go_wp2_with fail
              go_ret
              rw [HE.out]
              obtain rfl : l6 = [] := List.eq_nil_of_length_eq_zero (by rw [← HN6.out]; exact hd.out)
              exact ⟨.slice Ap 0 cp, [], rfl, HO6.out, HL6.out, V4.out, H6.out.re (fun x => by simp only [List.length_nil, cnt_append, cnt_cons]; omega)⟩
            · have j1 : (0 : Int) < (n6 : Int) := by omega
              have es : tickP s = { s4 with ack := false, asked := false } := by rw [ET.out, decide_eq_false h0]; simp only [Bool.and_false]
              have HE := Lib.hid es
              clear h0 es
              go_wp2_with fail
              go_region
              all_goals
                obtain ⟨W5, hW5⟩ : ∃ W5, W5 = ((wZ.setCell ⟨g, 10, none⟩ (.bool false)).setCell ⟨g, 11, none⟩ (.bool false)).drew := ⟨_, rfl⟩
                have h5 : St w0 W5 (B g (lkC { s4 with ack := false, asked := false }) 128 :: (B s4.gp (pcC s4) 135 :: (itemsE s4 ++ (B bo #[.slice Ap l6.length cp] 61 :: (B bl #[pt g] 80 :: (outE (.slice Ap l6.length cp) l6 ++ R)))))) := by
                  rw [hW5]
                  exact (((H6.out.re (M := B g (lkC s4) 128 :: (B s4.gp (pcC s4) 135 :: (itemsE s4 ++ (B bo #[.slice Ap l6.length cp] 61 :: (B bl #[pt g] 80 :: (outE (.slice Ap l6.length cp) l6 ++ R)))))) (fun x => by simp only [lkE, cnt_append, cnt_cons]; omega)).put (cs' := lkC { s4 with ack := false }) 10 (.bool false) rfl).put (cs' := lkC { s4 with ack := false, asked := false }) 11 (.bool false) rfl).drew
                have u0 : W5.cell? ⟨bo, 0, none⟩ = some (.slice Ap l6.length cp) := h5.cellOf (g := bo) (cs := #[.slice Ap l6.length cp]) (t := 61) (by simp) 0 rfl
                rw [← hW5]
                have H5 := Lib.hid h5
                clear hW5 h5 c0 co0 f10 f11 z10 z11
                go_wp2_with fail
                go_ret
                rw [HE.out]
                exact ⟨.slice Ap l6.length cp, l6, rfl, HO6.out, HL6.out, ⟨V4.out.c, V4.out.g, V4.out.l, V4.out.row, V4.out.by_⟩, H5.out.re (fun x => by simp only [lkE, pcC, itemsE, cnt_append, cnt_cons]; omega)⟩
end Go.Proofs.YtoeiaimoppmjdaaDoor.Lk
/- Tick of a link with an empty row. -/
namespace Go.Proofs.YtoeiaimoppmjdaaDoor.Lk
open Go.RowKit Go.Proofs.YtoeiaimoppmjdaaDoorW.PrintWords Go.Proofs.YtoeiaimoppmjdaaDoor.Mem Go.Proofs.YtoeiaimoppmjdaaDoor.Wr Go.Proofs.YtoeiaimoppmjdaaDoor.Bytes Go.Proofs.YtoeiaimoppmjdaaDoor.App
open Go.Proofs.YtoeiaimoppmjdaaDoor.Pace (nxt IsO dbl tick_yes tick_no)
set_option linter.unusedVariables false
set_option linter.unusedSimpArgs false
set_option maxRecDepth 20000 in
set_option maxHeartbeats 6400000 in
/-- The first tick of a link that knows nobody: a word. -/
theorem tickA_calls (w0 W : World) (R : List Ent) (g : Nat) (s : LS) (h : St w0 W (lkE g s ++ R)) (hV : LkV s) (hi : s.items = []) (hiv : s.iv = NL) (hk : s.known = 0) (hw : s.word = true) (hl : s.left ≤ 1) (ha : s.ack = false) (hq : s.asked = false) :
    Calls Tryd.prog 56 #[pt g] W fun e w' => ∃ ov v, e = .returned ov ∧ OutV ov [(v, encF (frm s 0 []))] ∧ LkV { s with left := s.gap, gap := dbl s.cap s.gap } ∧ St w0 w' (lkE g { s with left := s.gap, gap := dbl s.cap s.gap } ++ (outE ov [(v, encF (frm s 0 []))] ++ R)) := by
  obtain ⟨W1, hW1⟩ : ∃ W1, W1 = W.alloc (.cells #[pt g] 80) := ⟨_, rfl⟩
  obtain ⟨bl, hbl⟩ : ∃ bl, bl = W.heap.size := ⟨_, rfl⟩
  have h1 := h.newB #[pt g] 80
  rw [← hW1, ← hbl] at h1
  have h1' : St w0 W1 (lkE g s ++ (B bl #[pt g] 80 :: R)) := h1.re (fun x => by simp only [cnt_append, cnt_cons]; omega)
  have x0 := h1'.cellOf (g := bl) (cs := #[pt g]) (t := 80) (by simp) 0 rfl
  have c5 : W1.cell? ⟨g, 5, none⟩ = some s.iv := lk_cell h1' 5 rfl
  have c12 : W1.cell? ⟨g, 12, none⟩ = some (.bool s.word) := lk_cell h1' 12 rfl
  have c9 : W1.cell? ⟨g, 9, none⟩ = some (pt s.gp) := lk_cell h1' 9 rfl
  rw [hiv] at c5
  rw [hw] at c12
  have CP := Lib.hid (tick_yes s.gp s.cap s.left s.gap W1 (St.pace h1' hV) hl)
  have H1 := Lib.hid h1'
  have HV := Lib.hid hV
  have HW1 := Lib.hid hW1
  have HBL := Lib.hid hbl
  have HI := Lib.hid hi
  have HIV := Lib.hid hiv
  have HK := Lib.hid hk
  have HWD := Lib.hid hw
  have HA := Lib.hid ha
  have HQ := Lib.hid hq
  clear h1 h1' h hV hW1 hbl hi hiv hk hw hl ha hq
  go_enter Tryd.func56, Tryd.ntmps56
  go_upto_region 1 with fail
  rw [← HW1.out, ← HBL.out]
  go_wp2_with fail
  refine CP.out.mono ?_; rintro e w2 ⟨rfl, ho, hg⟩
  obtain ⟨h2, hv2⟩ := St.paced H1.out HV.out ho hg
  obtain ⟨s2, hs2⟩ : ∃ s2 : LS, s2 = { s with left := s.gap, gap := dbl s.cap s.gap } := ⟨_, rfl⟩
  rw [← hs2] at h2 hv2
  have e3 : s2.known = 0 := by rw [hs2]; exact HK.out
  have e10 : s2.ack = false := by rw [hs2]; exact HA.out
  have e11 : s2.asked = false := by rw [hs2]; exact HQ.out
  have e12 : s2.word = true := by rw [hs2]; exact HWD.out
  have ef : frm s2 0 [] = frm s 0 [] := by rw [hs2]
  obtain ⟨W3, hW3⟩ : ∃ W3, W3 = w2.alloc (.cells #[NL] 61) := ⟨_, rfl⟩
  obtain ⟨bo, hbo⟩ : ∃ bo, bo = w2.heap.size := ⟨_, rfl⟩
  have h3 := h2.newB #[NL] 61
  rw [← hW3, ← hbo] at h3
  have h3' : St w0 W3 (lkE g s2 ++ (B bo #[NL] 61 :: (B bl #[pt g] 80 :: (outE NL [] ++ R)))) := h3.re (fun x => by simp only [outE, rowE_nil, List.length_nil, List.map_nil, List.flatMap_nil, cnt_append, cnt_cons, cnt_nil]; omega)
  have y0 := h3'.cellOf (g := bl) (cs := #[pt g]) (t := 80) (by simp) 0 rfl
  have yo := h3'.cellOf (g := bo) (cs := #[NL]) (t := 61) (by simp) 0 rfl
  have d3 : W3.cell? ⟨g, 3, none⟩ = some (.int .u64 0) := by
    have q : W3.cell? ⟨g, 3, none⟩ = some (.int .u64 (s2.known : Int)) := lk_cell h3' 3 rfl
    rw [e3] at q; exact q
  have d10 : W3.cell? ⟨g, 10, none⟩ = some (.bool s2.ack) := lk_cell h3' 10 rfl
  have d11 : W3.cell? ⟨g, 11, none⟩ = some (.bool s2.asked) := lk_cell h3' 11 rfl
  have d12 : W3.cell? ⟨g, 12, none⟩ = some (.bool s2.word) := lk_cell h3' 12 rfl
  rw [e10] at d10
  rw [e11] at d11
  rw [e12] at d12
  have CS : Hid (Calls Tryd.prog 97 #[.int .u64 0, .slice none 0 0, .pointer (some ⟨bo, 0, none⟩), .pointer (some ⟨bl, 0, none⟩)] W3 fun e w' => e = .returned (.tuple #[]) ∧ ∃ ov' v, OutV ov' [(v, encF (frm s 0 []))] ∧ St w0 w' (lkE g s2 ++ (B bo #[ov'] 61 :: (B bl #[pt g] 80 :: (outE ov' [(v, encF (frm s 0 []))] ++ R))))) := by
    have q := say_calls w0 W3 R g bo bl s2 NL [] 0 none 0 [] h3' outV_nil (ReadsOf.nil I 0 W3) (fun a h => (by cases h)) (by simp)
    rw [ef] at q
    exact q
  have HS2 := Lib.hid hs2
  have V2 := Lib.hid hv2
  have HW3 := Lib.hid hW3
  have HBO := Lib.hid hbo
  have E10 := Lib.hid e10
  have E11 := Lib.hid e11
  clear ho hg h2 hv2 hs2 h3 h3' hW3 hbo e3 e10 e11 e12 ef x0 c5 c12 c9
  go_upto_region 4 with fail
  rw [← HBO.out, ← HW3.out]
  go_wp2_with fail
  refine CS.out.mono ?_; rintro e w4 ⟨rfl, ov, v, hov, hs4⟩
  obtain ⟨Ao, co, rfl⟩ := row_form hov.row
  have z0 := hs4.cellOf (g := bl) (cs := #[pt g]) (t := 80) (by simp) 0 rfl
  have zo : w4.cell? ⟨bo, 0, none⟩ = some (.slice Ao 1 co) := hs4.cellOf (g := bo) (cs := #[.slice Ao 1 co]) (t := 61) (by simp) 0 rfl
  have z9 : w4.cell? ⟨g, 9, none⟩ = some (pt s2.gp) := lk_cell hs4 9 rfl
  have z10 : w4.cell? ⟨g, 10, none⟩ = some (.bool s2.ack) := lk_cell hs4 10 rfl
  have z11 : w4.cell? ⟨g, 11, none⟩ = some (.bool s2.asked) := lk_cell hs4 11 rfl
  have f10 := lk_free hs4 10
  have f11 := lk_free hs4 11
  have H4 := Lib.hid hs4
  have HOV := Lib.hid hov
  clear hs4 hov y0 yo d3 d10 d11 d12
  go_wp2_with fail
  go_region
  all_goals
    obtain ⟨W5, hW5⟩ : ∃ W5, W5 = ((w4.setCell ⟨g, 10, none⟩ (.bool false)).setCell ⟨g, 11, none⟩ (.bool false)).drew := ⟨_, rfl⟩
    have h5 : St w0 W5 (B g (lkC s2) 128 :: (B s2.gp (pcC s2) 135 :: (itemsE s2 ++ (B bo #[.slice Ao 1 co] 61 :: (B bl #[pt g] 80 :: (outE (.slice Ao 1 co) [(v, encF (frm s 0 []))] ++ R)))))) := by
      rw [hW5]
      exact (((H4.out.re (M := B g (lkC s2) 128 :: (B s2.gp (pcC s2) 135 :: (itemsE s2 ++ (B bo #[.slice Ao 1 co] 61 :: (B bl #[pt g] 80 :: (outE (.slice Ao 1 co) [(v, encF (frm s 0 []))] ++ R)))))) (fun x => by simp only [lkE, List.length_cons, List.length_nil, Nat.zero_add, cnt_append, cnt_cons]; omega)).put (cs' := lkC s2) 10 (.bool false) (by rw [← E10.out]; rfl)).put (cs' := lkC s2) 11 (.bool false) (by rw [← E11.out]; rfl)).drew
    have u0 := h5.cellOf (g := bo) (cs := #[.slice Ao 1 co]) (t := 61) (by simp) 0 rfl
    rw [← hW5]
    have H5 := Lib.hid h5
    clear hW5 h5 z0 zo z9 z10 z11 f10 f11
    go_wp2_with fail
    go_ret
    have hov := HOV.out
    rw [← HS2.out]
    exact ⟨.slice Ao 1 co, v, rfl, hov, V2.out, H5.out.re (fun x => by simp only [lkE, cnt_append, cnt_cons]; omega)⟩
end Go.Proofs.YtoeiaimoppmjdaaDoor.Lk
/- Frames read: plain. -/
namespace Go.Proofs.YtoeiaimoppmjdaaDoor.Lk
open Go.RowKit Go.Proofs.YtoeiaimoppmjdaaDoor.Wr Go.Proofs.YtoeiaimoppmjdaaDoor.Bytes Go.Proofs.YtoeiaimoppmjdaaDoor.Crc
set_option linter.unusedVariables false
set_option linter.unusedSimpArgs false
theorem take_mid (p b t : List Int) : ((p ++ b ++ t).drop p.length).take b.length = b := by simp
theorem varR_of_vr (most : Nat) (h64 : most < 18446744073709551616) (m : Nat) : ∀ (t : List Int) (i n0 : Nat), n0 + m * 128 ^ i ≤ most → (0 < i → 0 < m) → varR most (vr m ++ t) i n0 = .ok (n0 + m * 128 ^ i) (i + (vr m).length) := by
  induction m using Nat.strongRecOn with
  | _ m ih =>
    intro t i n0 hle hpos
    have hi10 : ¬ 10 ≤ i := by
      intro h10
      have hm := hpos (by omega)
      have h1 : (128 : Nat) ^ 10 ≤ 128 ^ i := Nat.pow_le_pow_right (by omega) h10
      have h2 : 1 * 128 ^ i ≤ m * 128 ^ i := Nat.mul_le_mul_right _ hm
      have h3 : (128 : Nat) ^ 10 = 1180591620717411303424 := by decide
      omega
    have h9 : i = 9 → m ≤ 1 := by
      intro e
      subst e
      have h3 : (128 : Nat) ^ 9 = 9223372036854775808 := by decide
      rw [h3] at hle
      omega
    by_cases h : m < 128
    · rw [vr_small h]
      show varR most ((m : Int) :: t) i n0 = _
      rw [varR, if_neg hi10, if_neg (by intro ⟨a, b⟩; have := h9 a; omega), if_neg (by omega), if_neg (by intro ⟨a, b⟩; have := hpos b; omega)]
      simp only [Int.toNat_natCast, Nat.mod_eq_of_lt h]
      rw [if_neg (by omega)]
      simp
    · rw [vr_great h]
      show varR most (((128 + m % 128 : Nat) : Int) :: (vr (m / 128) ++ t)) i n0 = _
      have e : n0 + (m % 128) * 128 ^ i + m / 128 * 128 ^ (i + 1) = n0 + m * 128 ^ i := by
        rw [Nat.pow_succ, Nat.mul_comm (128 ^ i) 128, ← Nat.mul_assoc, Nat.add_assoc, ← Nat.add_mul]
        congr 2
        omega
      rw [varR, if_neg hi10, if_neg (by intro ⟨a, b⟩; have := h9 a; omega), if_pos (by omega)]
      simp only [Int.toNat_natCast]
      rw [show (128 + m % 128) % 128 = m % 128 by omega, ih (m / 128) (by omega) t (i + 1) _ (by rw [e]; exact hle) (fun _ => by omega), e]
      simp; omega
/-- Bytes that all go on: too few. -/
theorem rVar_of (p t : List Int) (n most : Nat) (hn : n ≤ most) (h64 : most < 18446744073709551616) : rVar (p ++ vr n ++ t) ⟨p.length, 0⟩ most = (n, ⟨p.length + (vr n).length, 0⟩) := by
  unfold rVar
  simp only [if_true]
  have e : (p ++ vr n ++ t).drop p.length = vr n ++ t := by simp
  rw [e, varR_of_vr most h64 n t 0 0 (by simpa using hn) (fun h => by omega)]
  simp
theorem rNext_of (p b t : List Int) : rNext (p ++ b ++ t) ⟨p.length, 0⟩ (b.length : Int) = (b, ⟨p.length + b.length, 0⟩) := by
  unfold rNext
  simp only [if_true, Int.toNat_natCast]
  rw [if_pos (by simp; omega), take_mid]
theorem rFix_of (p t : List Int) (n size : Nat) (h : n < 256 ^ size) : rFix (p ++ fixL n size ++ t) ⟨p.length, 0⟩ size = (n, ⟨p.length + size, 0⟩) := by
  unfold rFix
  simp only [if_true]
  have h2 := take_mid p (fixL n size) t
  rw [fixL_length] at h2
  rw [if_pos (by simp [fixL_length]), h2, numBE_fixL n size h]
/-- An item is read back. -/
theorem rBytes_of (p t b : List Int) (most : Nat) (hn : b.length ≤ most) (h64 : most < 9223372036854775808) : rBytes (p ++ (vr b.length ++ b) ++ t) ⟨p.length, 0⟩ (most : Int) = (b, ⟨p.length + (vr b.length ++ b).length, 0⟩) := by
  have h1 := rVar_of p (b ++ t) b.length most hn (by omega)
  have h2 := rNext_of (p ++ vr b.length) b t
  have e : p ++ (vr b.length ++ b) ++ t = p ++ vr b.length ++ (b ++ t) := by simp
  rw [e] at *
  have e2 : p ++ vr b.length ++ b ++ t = p ++ vr b.length ++ (b ++ t) := by simp
  rw [e2, List.length_append] at h2
  unfold rBytes
  rw [show ((most : Int)).toNat = most from rfl, h1]
  simp only [true_and]
  rw [if_neg (by simp; omega), h2]
  simp; omega
/-- What DecodeFrame reads: the frame that the answers spell, and where the Reader then stands. -/
def r1 (b : List Int) := rFix b ⟨0, 0⟩ 1
def r2 (b : List Int) := rFix b (r1 b).2 1
def r3 (b : List Int) := rVar b (r2 b).2 1099511627776
def r4 (b : List Int) := rVar b (r3 b).2 1099511627776
def r5 (b : List Int) := rVar b (r4 b).2 1099511627776
def r6 (b : List Int) := rVar b (r5 b).2 1099511627776
def r7 (b : List Int) := rBytes b (r6 b).2 2048
def r8 (b : List Int) := rFix b (r7 b).2 4
def rdF (b : List Int) : Frm := ⟨((r1 b).1 : Int), ((r2 b).1 : Int), (r3 b).1, (r4 b).1, (r5 b).1, (r6 b).1, (r7 b).1⟩
def decOk (b : List Int) : Bool := decide (4 ≤ b.length) && decide (b.length ≤ 2112) && (rEnd b (r8 b).2 == 0) && (encF (rdF b) == b)
theorem encF_fit {f : Frm} (h : Fit f) : encF f = ahead f ++ fixL (crc (ahead f)).toNat 4 := by unfold encF; rw [if_pos ((fit_iff f).2 h)]
theorem encF_nofit {f : Frm} (h : ¬ Fit f) : encF f = [] := by unfold encF; rw [if_neg (fun e => h ((fit_iff f).1 e))]
theorem encF_len {f : Frm} (h : Fit f) : 4 ≤ (encF f).length ∧ (encF f).length ≤ 2104 := by
  rw [encF_fit h]; have := ahead_len f h; simp [fixL_length]; omega
/-- A frame's bytes, read. -/
theorem rd_enc {f : Frm} (h : Fit f) : r1 (encF f) = (f.src.toNat, ⟨1, 0⟩) ∧ rdF (encF f) = f ∧ (r8 (encF f)).2 = ⟨(encF f).length, 0⟩ := by
  have q0 := h.f0; have q1 := h.f1; have q2 := h.t0; have q3 := h.t1
  obtain ⟨s, hs⟩ : ∃ s : Nat, f.src = s := ⟨f.src.toNat, by omega⟩
  obtain ⟨d, hd⟩ : ∃ d : Nat, f.dst = d := ⟨f.dst.toNat, by omega⟩
  obtain ⟨u, hu⟩ : ∃ u, u = fixL (crc (ahead f)).toNat 4 := ⟨_, rfl⟩
  have e : encF f = fixL s 1 ++ fixL d 1 ++ vr f.mine ++ vr f.yours ++ vr f.seq ++ vr f.ack ++ (vr f.body.length ++ f.body) ++ u := by
    have e1 : fixL s 1 = [f.src] := by rw [hs]; simp [fixL]; omega
    have e2 : fixL d 1 = [f.dst] := by rw [hd]; simp [fixL]; omega
    rw [encF_fit h, ← hu, e1, e2]; simp [ahead, nums]
  obtain ⟨b, hb⟩ : ∃ b, b = encF f := ⟨_, rfl⟩
  rw [← hb] at e ⊢
  have l1 : (fixL s 1).length = 1 := fixL_length _ _
  have l2 : (fixL d 1).length = 1 := fixL_length _ _
  have x1 : r1 b = (s, ⟨1, 0⟩) := by
    have := rFix_of [] (fixL d 1 ++ vr f.mine ++ vr f.yours ++ vr f.seq ++ vr f.ack ++ (vr f.body.length ++ f.body) ++ u) s 1 (by omega)
    unfold r1; rw [e]; simpa using this
  have x2 : r2 b = (d, ⟨2, 0⟩) := by
    have := rFix_of (fixL s 1) (vr f.mine ++ vr f.yours ++ vr f.seq ++ vr f.ack ++ (vr f.body.length ++ f.body) ++ u) d 1 (by omega)
    unfold r2; rw [x1, e]; rw [l1] at this; simpa [List.append_assoc] using this
  have x3 : r3 b = (f.mine, ⟨2 + (vr f.mine).length, 0⟩) := by
    have := rVar_of (fixL s 1 ++ fixL d 1) (vr f.yours ++ vr f.seq ++ vr f.ack ++ (vr f.body.length ++ f.body) ++ u) f.mine 1099511627776 h.m1 (by omega)
    unfold r3; rw [x2, e]; rw [List.length_append, l1, l2] at this; simpa [List.append_assoc] using this
  have x4 : r4 b = (f.yours, ⟨2 + (vr f.mine).length + (vr f.yours).length, 0⟩) := by
    have := rVar_of (fixL s 1 ++ fixL d 1 ++ vr f.mine) (vr f.seq ++ vr f.ack ++ (vr f.body.length ++ f.body) ++ u) f.yours 1099511627776 h.y (by omega)
    unfold r4; rw [x3, e]; simp only [List.length_append, l1, l2] at this; simpa [List.append_assoc] using this
  have x5 : r5 b = (f.seq, ⟨2 + (vr f.mine).length + (vr f.yours).length + (vr f.seq).length, 0⟩) := by
    have := rVar_of (fixL s 1 ++ fixL d 1 ++ vr f.mine ++ vr f.yours) (vr f.ack ++ (vr f.body.length ++ f.body) ++ u) f.seq 1099511627776 h.s (by omega)
    unfold r5; rw [x4, e]; simp only [List.length_append, l1, l2] at this; simpa [List.append_assoc] using this
  have x6 : r6 b = (f.ack, ⟨2 + (vr f.mine).length + (vr f.yours).length + (vr f.seq).length + (vr f.ack).length, 0⟩) := by
    have := rVar_of (fixL s 1 ++ fixL d 1 ++ vr f.mine ++ vr f.yours ++ vr f.seq) ((vr f.body.length ++ f.body) ++ u) f.ack 1099511627776 h.a (by omega)
    unfold r6; rw [x5, e]; simp only [List.length_append, l1, l2] at this; simpa [List.append_assoc] using this
  have x7 : r7 b = (f.body, ⟨2 + (vr f.mine).length + (vr f.yours).length + (vr f.seq).length + (vr f.ack).length + (vr f.body.length ++ f.body).length, 0⟩) := by
    have := rBytes_of (fixL s 1 ++ fixL d 1 ++ vr f.mine ++ vr f.yours ++ vr f.seq ++ vr f.ack) u f.body 2048 h.b (by omega)
    unfold r7; rw [x6, e]; simp only [List.length_append, l1, l2] at this ⊢; simpa [List.append_assoc] using this
  have x8 : (r8 b).2 = ⟨b.length, 0⟩ := by
    have := rFix_of (fixL s 1 ++ fixL d 1 ++ vr f.mine ++ vr f.yours ++ vr f.seq ++ vr f.ack ++ (vr f.body.length ++ f.body)) [] (crc (ahead f)).toNat 4 (crc (ahead f)).isLt
    rw [← hu] at this
    unfold r8; rw [x7, e]; simp only [List.length_append, l1, l2, List.append_nil] at this ⊢
    rw [this, hu, fixL_length]
  refine ⟨by rw [x1, hs]; rfl, ?_, x8⟩
  unfold rdF; rw [x1, x2, x3, x4, x5, x6, x7]
  cases f; simp at hs hd ⊢; omega
theorem dec_enc {f : Frm} (h : Fit f) : decOk (encF f) = true ∧ rdF (encF f) = f := by
  obtain ⟨_, h1, h2⟩ := rd_enc h
  have hl := encF_len h
  refine ⟨?_, h1⟩
  unfold decOk
  rw [h1, h2]
  simp [rEnd, errN]
  omega
theorem dec_fit {b : List Int} (h : decOk b = true) : Fit (rdF b) ∧ encF (rdF b) = b := by
  simp only [decOk, Bool.and_eq_true, decide_eq_true_eq, beq_iff_eq] at h
  refine ⟨?_, h.2⟩
  refine Classical.byContradiction fun hn => ?_
  have h4 := h.1.1.1
  rw [← h.2, encF_nofit hn] at h4
  simp at h4
theorem rNext_mem {xs : List Int} {s : RS} {n : Int} {a : Int} (h : a ∈ (rNext xs s n).1) : a ∈ xs := by
  unfold rNext at h
  split at h
  · split at h
    · exact List.mem_of_mem_drop (List.mem_of_mem_take h)
    · cases h
  · cases h
theorem rBytes_mem {xs : List Int} {s : RS} {n : Int} {a : Int} (h : a ∈ (rBytes xs s n).1) : a ∈ xs := by
  unfold rBytes at h
  split at h
  · cases h
  · exact rNext_mem h
theorem r7_mem {b : List Int} {a : Int} (h : a ∈ (r7 b).1) : a ∈ b := by unfold r7 at h; exact rBytes_mem h
theorem rdF_body (b : List Int) : (rdF b).body = (r7 b).1 := by unfold rdF; rfl
theorem rdF_byt {b : List Int} (hb : Byt b) : Byt (rdF b).body := by
  rw [rdF_body]
  intro a ha
  exact hb a (r7_mem ha)
theorem r0_ok (b : List Int) : (⟨0, 0⟩ : RS).Ok b := ⟨Nat.zero_le _, Nat.zero_le _⟩
theorem r1_ok (b : List Int) : (r1 b).2.Ok b := by unfold r1; exact rFix_ok (r0_ok b) 1
theorem r2_ok (b : List Int) : (r2 b).2.Ok b := by unfold r2; exact rFix_ok (r1_ok b) 1
theorem r3_ok (b : List Int) : (r3 b).2.Ok b ∧ (r3 b).1 ≤ 1099511627776 := by unfold r3; exact rVar_ok (r2_ok b) _
theorem r4_ok (b : List Int) : (r4 b).2.Ok b ∧ (r4 b).1 ≤ 1099511627776 := by unfold r4; exact rVar_ok (r3_ok b).1 _
theorem r5_ok (b : List Int) : (r5 b).2.Ok b ∧ (r5 b).1 ≤ 1099511627776 := by unfold r5; exact rVar_ok (r4_ok b).1 _
theorem r6_ok (b : List Int) : (r6 b).2.Ok b ∧ (r6 b).1 ≤ 1099511627776 := by unfold r6; exact rVar_ok (r5_ok b).1 _
theorem r7_ok (b : List Int) : (r7 b).2.Ok b := by unfold r7; exact rBytes_ok (r6_ok b).1 _
theorem r8_ok (b : List Int) : (r8 b).2.Ok b := by unfold r8; exact rFix_ok (r7_ok b) 4
theorem r1_lt {b : List Int} (hb : Byt b) : (r1 b).1 < 256 := by unfold r1; exact rFix_lt hb _ 1
theorem r2_lt {b : List Int} (hb : Byt b) : (r2 b).1 < 256 := by unfold r2; exact rFix_lt hb _ 1
theorem encF_byt {b : List Int} (hb : Byt b) : Byt (encF (rdF b)) := by
  by_cases h : Fit (rdF b)
  · rw [encF_fit h]
    intro a ha
    rcases List.mem_append.1 ha with ha | ha
    · exact ahead_byt _ h (rdF_byt hb) a ha
    · exact fixL_byt _ _ a ha
  · rw [encF_nofit h]; intro a ha; cases ha
theorem r7_eq (b : List Int) : rBytes b (r6 b).2 2048 = r7 b := by unfold r7; rfl
theorem r8_eq (b : List Int) : rFix b (r7 b).2 4 = r8 b := by unfold r8; rfl
end Go.Proofs.YtoeiaimoppmjdaaDoor.Lk
/- Contract: DecodeFrame. -/
namespace Go.Proofs.YtoeiaimoppmjdaaDoor.Lk
open Go.RowKit Go.Proofs.YtoeiaimoppmjdaaDoorW.PrintWords Go.Proofs.YtoeiaimoppmjdaaDoor.Mem Go.Proofs.YtoeiaimoppmjdaaDoor.Wr Go.Proofs.YtoeiaimoppmjdaaDoor.Bytes Go.Proofs.YtoeiaimoppmjdaaDoor.Crc
set_option linter.unusedVariables false
set_option linter.unusedSimpArgs false
theorem bytesOf_inj {xs ys : List Int} (bx : Byt xs) (by_ : Byt ys) (h : Lib.bytesOf xs = Lib.bytesOf ys) : xs = ys := by
  induction xs generalizing ys with
  | nil => cases ys with
    | nil => rfl
    | cons b t => simp [Lib.bytesOf] at h
  | cons a r ih => cases ys with
    | nil => simp [Lib.bytesOf] at h
    | cons b t =>
      simp only [Lib.bytesOf, List.map_cons, List.cons.injEq] at h
      have ha := bx a (List.mem_cons_self ..)
      have hb := by_ b (List.mem_cons_self ..)
      have h1 : a = b := by
        have h2 := congrArg UInt8.toNat h.1
        simp at h2
        omega
      rw [h1, ih (fun x hx => bx x (List.mem_cons_of_mem _ hx)) (fun x hx => by_ x (List.mem_cons_of_mem _ hx)) h.2]
theorem str_beq {xs ys : List Int} (bx : Byt xs) (by_ : Byt ys) : ((strOfNums xs).toList == (strOfNums ys).toList) = (xs == ys) := by
  rw [Lib.strOfNums_toList, Lib.strOfNums_toList, Bool.eq_iff_iff]
  simp only [beq_iff_eq]
  exact ⟨bytesOf_inj bx by_, fun h => by rw [h]⟩
set_option maxRecDepth 20000 in
/-- bytes.Equal. -/
theorem bequal_calls (xs ys : List Int) (A B' : Option Addr) (c d : Nat) (w : World) (hx : ReadsOf I 0 w A xs.length xs) (hy : ReadsOf I 0 w B' ys.length ys) (bx : Byt xs) (by_ : Byt ys) :
    Calls Tryd.prog 86 #[.slice A xs.length c, .slice B' ys.length d] w fun e w' => e = .returned (.bool (xs == ys)) ∧ w = w' := by
  have s1 := string_of_reads (P := Tryd.prog) (src := 22) (dst := 9) (c := c) Tryd.underlying22 Tryd.underlying5 Tryd.underlying9 hx
  have s2 := string_of_reads (P := Tryd.prog) (src := 22) (dst := 9) (c := d) Tryd.underlying22 Tryd.underlying5 Tryd.underlying9 hy
  have HE := Lib.hid (str_beq bx by_)
  clear hx hy bx by_
  cases hs : ((strOfNums xs).toList == (strOfNums ys).toList) with
  | true =>
    go_enter Tryd.func86, Tryd.ntmps86
    go_wp2_with fail
    go_ret
    exact ⟨by rw [← HE.out, hs]; rfl, rfl⟩
  | false =>
    go_enter Tryd.func86, Tryd.ntmps86
    go_wp2_with fail
    go_ret
    exact ⟨by rw [← HE.out, hs]; rfl, rfl⟩
end Go.Proofs.YtoeiaimoppmjdaaDoor.Lk
/- Contract: DecodeFrame. -/
namespace Go.Proofs.YtoeiaimoppmjdaaDoor.Lk
open Go.RowKit Go.Proofs.YtoeiaimoppmjdaaDoorW.PrintWords Go.Proofs.YtoeiaimoppmjdaaDoor.Mem Go.Proofs.YtoeiaimoppmjdaaDoor.Wr Go.Proofs.YtoeiaimoppmjdaaDoor.Bytes Go.Proofs.YtoeiaimoppmjdaaDoor.Crc
set_option linter.unusedVariables false
set_option linter.unusedSimpArgs false
theorem results_cell2 {fn : Func} {a u : Nat} {t : TypeId} (h : fn.results = #[.cell a t, .tmp u]) (tmps : Array Value) (P : Program) (w : World) (ad : Addr) (v x : Value) (ha : tmps.getD a undef = .pointer (some ad)) (hl : (loadVar t ad).run P w = .ok v w) (hx : tmps.getD u undef = x) :
    (results fn tmps).run P w = .ok (.tuple #[v, x]) w := by
  rw [results_cell_tmp h, ha]
  simp [asAddr, Result.andThen, hl, hx]
theorem St.read {w0 W W' : World} {R : List Ent} {g base : Nat} {v : Value} {xs : List Int} (h : St w0 W R) (hr : Rdr W' base g v xs 0 0) (hb : Below W.heap.size W W') (hg : W.heap.size ≤ g) (hv : ∀ b, v.ownBlock = some b → W.heap.size ≤ b) : St w0 W' (rdrE g v xs ⟨0, 0⟩ ++ R) ∧ byV v xs := by
  have hV : byV v xs := own_rowV hr.own
  refine ⟨St.step (F := []) (by simpa using h) (h.bl.trans (hb.mono h.bl.size)) hb.size (fun i hi _ => hb.block i hi) ?_ (fun p hp => ?_) (fun p hp => .inr ?_), hV⟩
  · show (g :: (byR v xs).map (·.1)).Nodup
    refine List.nodup_cons.2 ⟨fun hm => ?_, rowE_nd ..⟩
    obtain ⟨p, hp, e⟩ := List.mem_map.1 hm
    exact rdr_ne hr (by rw [rowE_blk hp hV, e])
  · rcases List.mem_cons.1 hp with rfl | hp
    · exact ⟨_, hr.blk, rfl⟩
    · exact own_has hr.own p hp
  · rcases List.mem_cons.1 hp with rfl | hp
    · exact hg
    · exact hv _ (rowE_blk hp hV)
abbrev frZ : Array Value := #[.int .i64 0, .int .i64 0, .int .u64 0, .int .u64 0, .int .u64 0, .int .u64 0, .slice none 0 0]
def numK (b : List Int) : Nat → Nat
  | 0 => (r3 b).1
  | 1 => (r4 b).1
  | 2 => (r5 b).1
  | _ => (r6 b).1
def stK (b : List Int) : Nat → RS
  | 0 => (r2 b).2
  | 1 => (r3 b).2
  | 2 => (r4 b).2
  | 3 => (r5 b).2
  | _ => (r6 b).2
theorem four {k : Nat} (h : k < 4) : k = 0 ∨ k = 1 ∨ k = 2 ∨ k = 3 := by omega
theorem stK_step (b : List Int) (k : Nat) (h : k < 4) : (rVar b (stK b k) 1099511627776).1 = numK b k ∧ (rVar b (stK b k) 1099511627776).2 = stK b (k + 1) := by
  rcases four h with rfl | rfl | rfl | rfl
  · show (rVar b (r2 b).2 1099511627776).1 = (r3 b).1 ∧ (rVar b (r2 b).2 1099511627776).2 = (r3 b).2
    unfold r3; exact ⟨rfl, rfl⟩
  · show (rVar b (r3 b).2 1099511627776).1 = (r4 b).1 ∧ (rVar b (r3 b).2 1099511627776).2 = (r4 b).2
    unfold r4; exact ⟨rfl, rfl⟩
  · show (rVar b (r4 b).2 1099511627776).1 = (r5 b).1 ∧ (rVar b (r4 b).2 1099511627776).2 = (r5 b).2
    unfold r5; exact ⟨rfl, rfl⟩
  · show (rVar b (r5 b).2 1099511627776).1 = (r6 b).1 ∧ (rVar b (r5 b).2 1099511627776).2 = (r6 b).2
    unfold r6; exact ⟨rfl, rfl⟩
theorem stK_ok (b : List Int) (k : Nat) : (stK b k).Ok b := by
  unfold stK; split
  · exact r2_ok b
  · exact (r3_ok b).1
  · exact (r4_ok b).1
  · exact (r5_ok b).1
  · exact (r6_ok b).1
def numZ (b : List Int) (k i : Nat) : Int := if i < k then (numK b i : Int) else 0
def cellsK (b : List Int) (k : Nat) : Array Value := #[.int .i64 ((r1 b).1 : Int), .int .i64 ((r2 b).1 : Int), .int .u64 (numZ b k 0), .int .u64 (numZ b k 1), .int .u64 (numZ b k 2), .int .u64 (numZ b k 3), .slice none 0 0]
theorem cellsK_step (b : List Int) (k : Nat) (h : k < 4) : (cellsK b k).setIfInBounds (2 + k) (.int .u64 (numK b k : Int)) = cellsK b (k + 1) := by
  rcases four h with rfl | rfl | rfl | rfl <;> rfl
theorem cellsK_end (b : List Int) (A : Option Addr) (c : Nat) : (cellsK b 4).setIfInBounds 6 (.slice A (r7 b).1.length c) = frC (rdF b) A c := by
  unfold rdF
  simp [cellsK, frC, numZ, numK]
def DecPost (w : World) (b : List Int) (e : Ending) (w' : World) : Prop :=
  (decOk b = true ∧ ∃ A c, e = .returned (.tuple #[.agg (frC (rdF b) A c), .bool true]) ∧ byV (.slice A (rdF b).body.length c) (rdF b).body ∧ St w w' (byR (.slice A (rdF b).body.length c) (rdF b).body)) ∨
  (decOk b = false ∧ e = .returned (.tuple #[.agg frZ, .bool false]) ∧ Below w.heap.size w w')
abbrev ptrs (bf : Nat) : Array Value := #[.pointer (some ⟨bf, 2, none⟩), .pointer (some ⟨bf, 3, none⟩), .pointer (some ⟨bf, 4, none⟩), .pointer (some ⟨bf, 5, none⟩)]
theorem ptrs_at (bf k : Nat) (h : k < 4) : (ptrs bf)[k]? = some (.pointer (some ⟨bf, 2 + k, none⟩)) := by
  rcases four h with rfl | rfl | rfl | rfl <;> rfl
theorem cellsK_at (b : List Int) (k : Nat) (h : k < 4) : (cellsK b k)[2 + k]? = some (.int .u64 0) := by
  rcases four h with rfl | rfl | rfl | rfl <;> rfl
theorem decOk_short {b : List Int} (h : b.length < 4 ∨ 2112 < b.length) : decOk b = false := by
  cases e : decOk b with
  | false => rfl
  | true => simp [decOk] at e; omega
theorem decOk_end {b : List Int} (h : ¬ rEnd b (r8 b).2 = 0) : decOk b = false := by
  cases e : decOk b with
  | false => rfl
  | true =>
    simp only [decOk, Bool.and_eq_true, decide_eq_true_eq, beq_iff_eq] at e
    exact absurd e.1.2 h
theorem decOk_eq {b : List Int} (h1 : 4 ≤ b.length) (h2 : b.length ≤ 2112) (h : rEnd b (r8 b).2 = 0) : decOk b = (encF (rdF b) == b) := by
  unfold decOk
  simp [h1, h2, h]
end Go.Proofs.YtoeiaimoppmjdaaDoor.Lk
/- Contract: DecodeFrame: the walk. -/
namespace Go.Proofs.YtoeiaimoppmjdaaDoor.Lk
open Go.RowKit Go.Proofs.YtoeiaimoppmjdaaDoorW.PrintWords Go.Proofs.YtoeiaimoppmjdaaDoor.Mem Go.Proofs.YtoeiaimoppmjdaaDoor.Wr Go.Proofs.YtoeiaimoppmjdaaDoor.Bytes Go.Proofs.YtoeiaimoppmjdaaDoor.Crc
set_option linter.unusedVariables false
set_option linter.unusedSimpArgs false
set_option maxRecDepth 20000 in
set_option maxHeartbeats 6400000 in
theorem dec_calls (b : List Int) (A : Option Addr) (c : Nat) (w : World) (hr : ReadsOf I 0 w A b.length b) (hb : Byt b) (ht : ErrTab w) (hz : 0 < w.heap.size) (hbl : b.length ≤ 140737488355328) :
    Calls Tryd.prog 47 #[.slice A b.length c] w (DecPost w b) := by
  obtain ⟨W1, hW1⟩ : ∃ W1, W1 = w.alloc (.cells frZ 69) := ⟨_, rfl⟩
  obtain ⟨ba, hba⟩ : ∃ ba, ba = w.heap.size := ⟨_, rfl⟩
  have h1 := (St.start w).newB frZ 69
  rw [← hW1, ← hba] at h1
  have H1 := Lib.hid h1
  have HW1 := Lib.hid hW1
  have HBA := Lib.hid hba
  have HR := Lib.hid hr
  have HB := Lib.hid hb
  have HT := Lib.hid ht
  have HZ := Lib.hid hz
  have HBL := Lib.hid hbl
  clear h1 hW1 hba hr hb ht hz hbl
  by_cases hs : b.length < 4 ∨ 2112 < b.length
  · have HS := Lib.hid (decOk_short hs)
    have hc : ((b.length : Int) < 4) ∨ (¬ (b.length : Int) < 4 ∧ (2112 : Int) < (b.length : Int)) := by omega
    have HBl1 := Lib.hid H1.out.bl
    have f0 := H1.out.freeOf (g := ba) (cs := frZ) (t := 69) (by simp) 0
    clear hs
    rcases hc with p1 | ⟨p1, p2⟩
    all_goals
      go_enter Tryd.func47, Tryd.ntmps47
      go_wp2_with fail
      refine bodyPost_ret (results_cell2 rfl _ _ _ ⟨w.heap.size, 0, none⟩ (.agg frZ) (.bool false) rfl (by go_simp) rfl) rfl ?_
      exact .inr ⟨HS.out, rfl, (Below.refl _ _).alloc (Nat.le_refl _) _⟩
  · have p1 : ¬ (b.length : Int) < 4 := by omega
    have p2 : ¬ (2112 : Int) < (b.length : Int) := by omega
    obtain ⟨W2, hW2⟩ : ∃ W2, W2 = W1.alloc (.cells frZ 69) := ⟨_, rfl⟩
    obtain ⟨bf, hbf⟩ : ∃ bf, bf = W1.heap.size := ⟨_, rfl⟩
    have h2 := H1.out.newB frZ 69
    rw [← hW2, ← hbf] at h2
    have CR := Lib.hid (read_calls b A c W2 W2.heap.size (Nat.le_refl _) (h2.reads HR.out) (by omega))
    have H2 := Lib.hid h2
    have HW2 := Lib.hid hW2
    have HBF : Hid (bf = ba + 1) := by show bf = _; rw [hbf, HW1.out, HBA.out]; simp
    clear h2 hW2 hbf hs
    go_enter Tryd.func47, Tryd.ntmps47
    go_wp2_with fail
    rw [← HW1.out, ← HBA.out, ← HW2.out, ← HBF.out]
    refine CR.out.mono ?_; rintro e w3 ⟨g, v, rfl, hrd, hb3, hg3, hv3⟩
    obtain ⟨h3, hv⟩ := St.read H2.out hrd hb3 hg3 hv3
    have C1 : Hid (Calls Tryd.prog 42 #[.pointer (some ⟨g, 0, none⟩)] w3 fun e w' => e = .returned (.int .u8 ((r1 b).1 : Int)) ∧ RdTo w3 w' w.heap.size g v b (r1 b).2) := rd8_calls w3 w.heap.size g v b ⟨0, 0⟩ (St.rdr h3 hv) (r0_ok b) h3.bl.size HB.out
    have VV := Lib.hid hv
    have H3 := Lib.hid h3
    clear hrd hb3 hg3 hv3 h3 hv
    go_wp2_with fail
    refine C1.out.mono ?_; rintro e w4 ⟨rfl, t4⟩
    have h4 := St.rd H3.out VV.out t4
    have C2 : Hid (Calls Tryd.prog 42 #[.pointer (some ⟨g, 0, none⟩)] w4 fun e w' => e = .returned (.int .u8 ((r2 b).1 : Int)) ∧ RdTo w4 w' w.heap.size g v b (r2 b).2) := rd8_calls w4 w.heap.size g v b (r1 b).2 (St.rdr h4 VV.out) (r1_ok b) h4.bl.size HB.out
    have H4 := Lib.hid h4
    have wr1 : IntKind.i64.wrap ((r1 b).1 : Int) = ((r1 b).1 : Int) := IntWalk.i64_in _ (by have := r1_lt HB.out; omega)
    have wr2 : IntKind.i64.wrap ((r2 b).1 : Int) = ((r2 b).1 : Int) := IntWalk.i64_in _ (by have := r2_lt HB.out; omega)
    clear t4 h4
    go_wp2_with fail
    refine C2.out.mono ?_; rintro e w5 ⟨rfl, t5⟩
    have h5 := St.rd H4.out VV.out t5
    have y0 := h5.cellOf (g := bf) (cs := frZ) (t := 69) (by simp) 0 rfl
    have y1 := h5.cellOf (g := bf) (cs := frZ) (t := 69) (by simp) 1 rfl
    have f0 := h5.freeOf (g := bf) (cs := frZ) (t := 69) (by simp) 0
    have f1 := h5.freeOf (g := bf) (cs := frZ) (t := 69) (by simp) 1
    obtain ⟨W6, hW6⟩ : ∃ W6, W6 = (w5.setCell ⟨bf, 0, none⟩ (.int .i64 ((r1 b).1 : Int))).setCell ⟨bf, 1, none⟩ (.int .i64 ((r2 b).1 : Int)) := ⟨_, rfl⟩
    have h6 := ((h5.re (M := B bf frZ 69 :: (rdrE g v b (stK b 0) ++ [B ba frZ 69])) (fun x => by simp only [stK, cnt_append, cnt_cons, cnt_nil]; omega)).put (cs' := #[.int .i64 ((r1 b).1 : Int), .int .i64 0, .int .u64 0, .int .u64 0, .int .u64 0, .int .u64 0, .slice none 0 0]) 0 (.int .i64 ((r1 b).1 : Int)) rfl).put (cs' := cellsK b 0) 1 (.int .i64 ((r2 b).1 : Int)) rfl
    rw [← hW6] at h6
    obtain ⟨W7, hW7⟩ : ∃ W7, W7 = W6.alloc (.cells (ptrs bf) 121) := ⟨_, rfl⟩
    obtain ⟨bl, hbl2⟩ : ∃ bl, bl = W6.heap.size := ⟨_, rfl⟩
    have h7 := h6.newB (ptrs bf) 121
    rw [← hW7, ← hbl2] at h7
    have H7 : Hid (St w W7 (rdrE g v b (stK b 0) ++ [B bl (ptrs bf) 121, B bf (cellsK b 0) 69, B ba frZ 69])) := h7.re (fun x => by simp only [cnt_append, cnt_cons, cnt_nil]; omega)
    have HW6 := Lib.hid hW6
    have HW7 := Lib.hid hW7
    have HBL2 : Hid (bl = w5.heap.size) := by show bl = _; rw [hbl2, hW6]; simp [World.setCell]
    clear t5 h5 h6 h7 hW6 hW7 hbl2
    go_wp2_with fail
    rw [← HW6.out, ← HBL2.out, ← HW7.out]
    clear y0 y1 f0 f1 wr1 wr2
    go_loopg [33] 4 (fun gk s33 wr => ∃ k : Nat, gk = 4 - k ∧ k ≤ 4 ∧ s33 = .int .i64 k ∧ St w wr (rdrE g v b (stK b k) ++ [B bl (ptrs bf) 121, B bf (cellsK b k) 69, B ba frZ 69]))
    case atStart => exact ⟨0, rfl, by omega, rfl, H7.out⟩
    case round =>
      obtain ⟨k, hgk, hk, rfl, hs⟩ := hrel
      have HGK := Lib.hid hgk
      have HS := Lib.hid hs
      clear hgk hs
      by_cases hlt : k < 4
      · have z := HS.out.cellOf (g := bl) (cs := ptrs bf) (t := 121) (by simp) k (ptrs_at bf k hlt)
        have i1 : (k : Int) < 4 := by omega
        have i2 : (0 : Int) ≤ (k : Int) := by omega
        obtain ⟨e1, e2⟩ := stK_step b k hlt
        have CV : Hid (Calls Tryd.prog 69 #[.pointer (some ⟨g, 0, none⟩), .int .u64 1099511627776] wr fun e w' => e = .returned (.int .u64 (numK b k : Int)) ∧ RdTo wr w' w.heap.size g v b (stK b (k + 1))) := by
          have q := varR_calls wr w.heap.size g v b (stK b k) 1099511627776 (St.rdr HS.out VV.out) (stK_ok b k) HS.out.bl.size HB.out HBL.out
          rw [e1, e2] at q
          exact q
        have HLT := Lib.hid hlt
        clear e1 e2 hlt
        go_wp2_with fail
        refine CV.out.mono ?_; rintro e w7 ⟨rfl, t7⟩
        have h7 := St.rd HS.out VV.out t7
        have y := h7.cellOf (g := bf) (cs := cellsK b k) (t := 69) (by simp) (2 + k) (cellsK_at b k HLT.out)
        have f := h7.freeOf (g := bf) (cs := cellsK b k) (t := 69) (by simp) (2 + k)
        have H8 := Lib.hid ((h7.re (M := B bf (cellsK b k) 69 :: (rdrE g v b (stK b (k + 1)) ++ [B bl (ptrs bf) 121, B ba frZ 69])) (fun x => by simp only [cnt_append, cnt_cons, cnt_nil]; omega)).put (2 + k) (.int .u64 (numK b k : Int)) (cellsK_step b k HLT.out))
        clear t7 h7 z
        go_wp2_with fail
        go_roundg (4 - (k + 1))
        case measure => have := HGK.out; have := HLT.out; omega
        case rel => exact ⟨k + 1, rfl, by have := HLT.out; omega, by go_num, H8.out.re (fun x => by simp only [cnt_append, cnt_cons, cnt_nil]; omega)⟩
      · have hk4 : k = 4 := by omega
        subst hk4
        have i1 : ¬ (4 : Int) < 4 := by omega
        have hs4 : St w wr (rdrE g v b (r6 b).2 ++ [B bl (ptrs bf) 121, B bf (cellsK b 4) 69, B ba frZ 69]) := HS.out
        have CY : Hid (Calls Tryd.prog 71 #[.pointer (some ⟨g, 0, none⟩), .int .i64 2048] wr (TakenPost wr w.heap.size g v b (r7 b).1 (r7 b).2)) := by
          have q := bytesR_calls wr w.heap.size g v b (r6 b).2 2048 (St.rdr hs4 VV.out) (r6_ok b).1 hs4.bl.size HB.out HBL.out (by omega) (by omega)
          rw [r7_eq] at q
          exact q
        have H8 := Lib.hid hs4
        clear hs4 hlt
        go_wp2_with fail
        refine CY.out.mono ?_; rintro e w8 ⟨u, rfl, hou, t8⟩
        obtain ⟨h8, hu⟩ := St.taken H8.out VV.out t8 hou
        obtain ⟨A7, c7, rfl⟩ := byV_form hu
        have y := h8.cellOf (g := bf) (cs := cellsK b 4) (t := 69) (by simp) 6 (v := .slice none 0 0) rfl
        have f := h8.freeOf (g := bf) (cs := cellsK b 4) (t := 69) (by simp) 6
        obtain ⟨W9, hW9⟩ : ∃ W9, W9 = w8.setCell ⟨bf, 6, none⟩ (.slice A7 (r7 b).1.length c7) := ⟨_, rfl⟩
        have h9 := (h8.re (M := B bf (cellsK b 4) 69 :: (rdrE g v b (r7 b).2 ++ (byR (.slice A7 (r7 b).1.length c7) (r7 b).1 ++ [B ba frZ 69]))) (fun x => by simp only [cnt_append, cnt_cons, cnt_nil]; omega)).put 6 (.slice A7 (r7 b).1.length c7) (cellsK_end b A7 c7)
        rw [← hW9] at h9
        have h9' : St w W9 (rdrE g v b (r7 b).2 ++ (B bf (frC (rdF b) A7 c7) 69 :: (byR (.slice A7 (r7 b).1.length c7) (r7 b).1 ++ [B ba frZ 69]))) := h9.re (fun x => by simp only [cnt_append, cnt_cons, cnt_nil]; omega)
        have CU : Hid (Calls Tryd.prog 66 #[.pointer (some ⟨g, 0, none⟩)] W9 fun e w' => e = .returned (.int .u32 ((r8 b).1 : Int)) ∧ RdTo W9 w' w.heap.size g v b (r8 b).2) := by
          have q := rd32_calls W9 w.heap.size g v b (r7 b).2 (St.rdr h9' VV.out) (r7_ok b) h9'.bl.size HB.out
          rw [r8_eq] at q
          exact q
        have VU := Lib.hid hu
        have H9 := Lib.hid h9'
        have HW9 := Lib.hid hW9
        clear hou t8 h8 hu hW9 h9 h9'
        go_wp2_with fail
        rw [← HW9.out]
        refine CU.out.mono ?_; rintro e w10 ⟨rfl, t10⟩
        have h10 := St.rd H9.out VV.out t10
        have CE := Lib.hid (end_calls w10 w.heap.size g v b (r8 b).2 (St.rdr h10 VV.out) (r8_ok b) (HT.out.below h10.bl HZ.out) (Nat.lt_of_lt_of_le HZ.out h10.bl.size))
        have H10 := Lib.hid h10
        clear t10 h10 y f
        obtain ⟨en, hen⟩ : ∃ en, en = rEnd b (r8 b).2 := ⟨_, rfl⟩
        rw [← hen] at CE
        have HEN := Lib.hid hen
        clear hen
        by_cases he0 : en = 0
        · subst he0
          have hq := decOk_eq (b := b) (by omega) (by omega) HEN.out.symm
          obtain ⟨ok, hok⟩ : ∃ ok, ok = decOk b := ⟨_, rfl⟩
          rw [← hok] at hq
          obtain ⟨F, hF⟩ : ∃ F, F = rdF b := ⟨_, rfl⟩
          have hbd : F.body = (r7 b).1 := by rw [hF, rdF_body]
          have hbt : Byt F.body := by rw [hF]; exact rdF_byt HB.out
          have hbe : Byt (encF F) := by rw [hF]; exact encF_byt HB.out
          have VU2 : byV (.slice A7 F.body.length c7) F.body := by rw [hbd]; exact VU.out
          have hk10 := H10.out
          rw [← hF, ← hbd] at hk10
          rw [← hF] at hq
          have HBT := Lib.hid hbt
          have HBE := Lib.hid hbe
          have HVU2 := Lib.hid VU2
          have K10 := Lib.hid hk10
          have HF := Lib.hid hF
          have HOK := Lib.hid hok
          have HQ := Lib.hid hq
          clear hok hq hF hbd hbt hbe VU2 hk10 H10
          go_wp2_with fail
          refine CE.out.mono ?_; rintro e w11 ⟨rfl, hb11⟩
          have h11 := K10.out.below hb11
          have y0 := h11.cellOf (g := bf) (cs := frC F A7 c7) (t := 69) (by simp) 0 rfl
          have y1 := h11.cellOf (g := bf) (cs := frC F A7 c7) (t := 69) (by simp) 1 rfl
          have y2 := h11.cellOf (g := bf) (cs := frC F A7 c7) (t := 69) (by simp) 2 rfl
          have y3 := h11.cellOf (g := bf) (cs := frC F A7 c7) (t := 69) (by simp) 3 rfl
          have y4 := h11.cellOf (g := bf) (cs := frC F A7 c7) (t := 69) (by simp) 4 rfl
          have y5 := h11.cellOf (g := bf) (cs := frC F A7 c7) (t := 69) (by simp) 5 rfl
          have y6 := h11.cellOf (g := bf) (cs := frC F A7 c7) (t := 69) (by simp) 6 rfl
          have CN := Lib.hid (enc_calls F A7 c7 w11 (by_reads h11 (fun x => by simp only [cnt_append, cnt_cons, cnt_nil]; omega) HVU2.out) HBT.out)
          have H11 := Lib.hid h11
          clear hb11 h11
          go_wp2_with fail
          refine CN.out.mono ?_; rintro e w12 ⟨vE, rfl, hvE, hsE⟩
          have h12 := St.lift H11.out hsE
          obtain ⟨AE, cE, rfl⟩ := byV_form hvE
          have CB := Lib.hid (bequal_calls (encF F) b AE A cE c w12 (by_reads h12 (fun x => by simp only [cnt_append, cnt_cons, cnt_nil]; omega) hvE) (h12.reads HR.out) HBE.out HB.out)
          rw [← HQ.out] at CB
          have z0 := h12.cellOf (g := bf) (cs := frC F A7 c7) (t := 69) (by simp) 0 rfl
          have z1 := h12.cellOf (g := bf) (cs := frC F A7 c7) (t := 69) (by simp) 1 rfl
          have z2 := h12.cellOf (g := bf) (cs := frC F A7 c7) (t := 69) (by simp) 2 rfl
          have z3 := h12.cellOf (g := bf) (cs := frC F A7 c7) (t := 69) (by simp) 3 rfl
          have z4 := h12.cellOf (g := bf) (cs := frC F A7 c7) (t := 69) (by simp) 4 rfl
          have z5 := h12.cellOf (g := bf) (cs := frC F A7 c7) (t := 69) (by simp) 5 rfl
          have z6 := h12.cellOf (g := bf) (cs := frC F A7 c7) (t := 69) (by simp) 6 rfl
          have x0 := h12.cellOf (g := ba) (cs := frZ) (t := 69) (by simp) 0 rfl
          have fx0 := h12.freeOf (g := ba) (cs := frZ) (t := 69) (by simp) 0
          have x1 := h12.cellOf (g := ba) (cs := frZ) (t := 69) (by simp) 1 rfl
          have fx1 := h12.freeOf (g := ba) (cs := frZ) (t := 69) (by simp) 1
          have x2 := h12.cellOf (g := ba) (cs := frZ) (t := 69) (by simp) 2 rfl
          have fx2 := h12.freeOf (g := ba) (cs := frZ) (t := 69) (by simp) 2
          have x3 := h12.cellOf (g := ba) (cs := frZ) (t := 69) (by simp) 3 rfl
          have fx3 := h12.freeOf (g := ba) (cs := frZ) (t := 69) (by simp) 3
          have x4 := h12.cellOf (g := ba) (cs := frZ) (t := 69) (by simp) 4 rfl
          have fx4 := h12.freeOf (g := ba) (cs := frZ) (t := 69) (by simp) 4
          have x5 := h12.cellOf (g := ba) (cs := frZ) (t := 69) (by simp) 5 rfl
          have fx5 := h12.freeOf (g := ba) (cs := frZ) (t := 69) (by simp) 5
          have x6 := h12.cellOf (g := ba) (cs := frZ) (t := 69) (by simp) 6 rfl
          have fx6 := h12.freeOf (g := ba) (cs := frZ) (t := 69) (by simp) 6
          have H12 := Lib.hid h12
          clear hvE hsE h12 y0 y1 y2 y3 y4 y5 y6
          cases ok
          · go_wp2_with fail
            refine CB.out.mono ?_; rintro e w13 ⟨rfl, rfl⟩
            go_wp2_with fail
            obtain ⟨Wz, hWz⟩ : ∃ Wz, Wz = (((((((w12.setCell ⟨ba, 0, none⟩ (.int .i64 0)).setCell ⟨ba, 1, none⟩ (.int .i64 0)).setCell ⟨ba, 2, none⟩ (.int .u64 0)).setCell ⟨ba, 3, none⟩ (.int .u64 0)).setCell ⟨ba, 4, none⟩ (.int .u64 0)).setCell ⟨ba, 5, none⟩ (.int .u64 0)).setCell ⟨ba, 6, none⟩ (.slice none 0 0)) := ⟨_, rfl⟩
            have hz : St w Wz (B ba (frZ) 69 :: (byR (.slice AE (encF F).length cE) (encF F) ++ (rdrE g v b (r8 b).2 ++ (B bf (frC F A7 c7) 69 :: byR (.slice A7 F.body.length c7) F.body)))) := by rw [hWz]; exact ((((((((H12.out.re (M := B ba frZ 69 :: (byR (.slice AE (encF F).length cE) (encF F) ++ (rdrE g v b (r8 b).2 ++ (B bf (frC F A7 c7) 69 :: byR (.slice A7 F.body.length c7) F.body)))) (fun x => by simp only [cnt_append, cnt_cons, cnt_nil]; omega)).put (cs' := #[.int .i64 0, .int .i64 0, .int .u64 0, .int .u64 0, .int .u64 0, .int .u64 0, .slice none 0 0]) 0 (.int .i64 0) rfl).put (cs' := #[.int .i64 0, .int .i64 0, .int .u64 0, .int .u64 0, .int .u64 0, .int .u64 0, .slice none 0 0]) 1 (.int .i64 0) rfl).put (cs' := #[.int .i64 0, .int .i64 0, .int .u64 0, .int .u64 0, .int .u64 0, .int .u64 0, .slice none 0 0]) 2 (.int .u64 0) rfl).put (cs' := #[.int .i64 0, .int .i64 0, .int .u64 0, .int .u64 0, .int .u64 0, .int .u64 0, .slice none 0 0]) 3 (.int .u64 0) rfl).put (cs' := #[.int .i64 0, .int .i64 0, .int .u64 0, .int .u64 0, .int .u64 0, .int .u64 0, .slice none 0 0]) 4 (.int .u64 0) rfl).put (cs' := #[.int .i64 0, .int .i64 0, .int .u64 0, .int .u64 0, .int .u64 0, .int .u64 0, .slice none 0 0]) 5 (.int .u64 0) rfl).put (cs' := #[.int .i64 0, .int .i64 0, .int .u64 0, .int .u64 0, .int .u64 0, .int .u64 0, .slice none 0 0]) 6 (.slice none 0 0) rfl)
            rw [← hWz]
            have q0 := hz.cellOf (g := ba) (cs := frZ) (t := 69) (by simp) 0 rfl
            have q1 := hz.cellOf (g := ba) (cs := frZ) (t := 69) (by simp) 1 rfl
            have q2 := hz.cellOf (g := ba) (cs := frZ) (t := 69) (by simp) 2 rfl
            have q3 := hz.cellOf (g := ba) (cs := frZ) (t := 69) (by simp) 3 rfl
            have q4 := hz.cellOf (g := ba) (cs := frZ) (t := 69) (by simp) 4 rfl
            have q5 := hz.cellOf (g := ba) (cs := frZ) (t := 69) (by simp) 5 rfl
            have q6 := hz.cellOf (g := ba) (cs := frZ) (t := 69) (by simp) 6 rfl
            clear hWz x0 fx0 x1 fx1 x2 fx2 x3 fx3 x4 fx4 x5 fx5 x6 fx6
            refine bodyPost_ret (results_cell2 rfl _ _ _ ⟨ba, 0, none⟩ (.agg (frZ)) (.bool false) rfl (by go_simp) rfl) rfl ?_
            exact .inr ⟨HOK.out.symm, rfl, hz.bl⟩
          · go_wp2_with fail
            refine CB.out.mono ?_; rintro e w13 ⟨rfl, rfl⟩
            go_wp2_with fail
            obtain ⟨Wz, hWz⟩ : ∃ Wz, Wz = (((((((w12.setCell ⟨ba, 0, none⟩ (.int .i64 F.src)).setCell ⟨ba, 1, none⟩ (.int .i64 F.dst)).setCell ⟨ba, 2, none⟩ (.int .u64 (F.mine : Int))).setCell ⟨ba, 3, none⟩ (.int .u64 (F.yours : Int))).setCell ⟨ba, 4, none⟩ (.int .u64 (F.seq : Int))).setCell ⟨ba, 5, none⟩ (.int .u64 (F.ack : Int))).setCell ⟨ba, 6, none⟩ (.slice A7 F.body.length c7)) := ⟨_, rfl⟩
            have hz : St w Wz (B ba (frC F A7 c7) 69 :: (byR (.slice AE (encF F).length cE) (encF F) ++ (rdrE g v b (r8 b).2 ++ (B bf (frC F A7 c7) 69 :: byR (.slice A7 F.body.length c7) F.body)))) := by rw [hWz]; exact ((((((((H12.out.re (M := B ba frZ 69 :: (byR (.slice AE (encF F).length cE) (encF F) ++ (rdrE g v b (r8 b).2 ++ (B bf (frC F A7 c7) 69 :: byR (.slice A7 F.body.length c7) F.body)))) (fun x => by simp only [cnt_append, cnt_cons, cnt_nil]; omega)).put (cs' := #[.int .i64 F.src, .int .i64 0, .int .u64 0, .int .u64 0, .int .u64 0, .int .u64 0, .slice none 0 0]) 0 (.int .i64 F.src) rfl).put (cs' := #[.int .i64 F.src, .int .i64 F.dst, .int .u64 0, .int .u64 0, .int .u64 0, .int .u64 0, .slice none 0 0]) 1 (.int .i64 F.dst) rfl).put (cs' := #[.int .i64 F.src, .int .i64 F.dst, .int .u64 (F.mine : Int), .int .u64 0, .int .u64 0, .int .u64 0, .slice none 0 0]) 2 (.int .u64 (F.mine : Int)) rfl).put (cs' := #[.int .i64 F.src, .int .i64 F.dst, .int .u64 (F.mine : Int), .int .u64 (F.yours : Int), .int .u64 0, .int .u64 0, .slice none 0 0]) 3 (.int .u64 (F.yours : Int)) rfl).put (cs' := #[.int .i64 F.src, .int .i64 F.dst, .int .u64 (F.mine : Int), .int .u64 (F.yours : Int), .int .u64 (F.seq : Int), .int .u64 0, .slice none 0 0]) 4 (.int .u64 (F.seq : Int)) rfl).put (cs' := #[.int .i64 F.src, .int .i64 F.dst, .int .u64 (F.mine : Int), .int .u64 (F.yours : Int), .int .u64 (F.seq : Int), .int .u64 (F.ack : Int), .slice none 0 0]) 5 (.int .u64 (F.ack : Int)) rfl).put (cs' := #[.int .i64 F.src, .int .i64 F.dst, .int .u64 (F.mine : Int), .int .u64 (F.yours : Int), .int .u64 (F.seq : Int), .int .u64 (F.ack : Int), .slice A7 F.body.length c7]) 6 (.slice A7 F.body.length c7) rfl)
            rw [← hWz]
            have q0 := hz.cellOf (g := ba) (cs := frC F A7 c7) (t := 69) (by simp) 0 rfl
            have q1 := hz.cellOf (g := ba) (cs := frC F A7 c7) (t := 69) (by simp) 1 rfl
            have q2 := hz.cellOf (g := ba) (cs := frC F A7 c7) (t := 69) (by simp) 2 rfl
            have q3 := hz.cellOf (g := ba) (cs := frC F A7 c7) (t := 69) (by simp) 3 rfl
            have q4 := hz.cellOf (g := ba) (cs := frC F A7 c7) (t := 69) (by simp) 4 rfl
            have q5 := hz.cellOf (g := ba) (cs := frC F A7 c7) (t := 69) (by simp) 5 rfl
            have q6 := hz.cellOf (g := ba) (cs := frC F A7 c7) (t := 69) (by simp) 6 rfl
            clear hWz x0 fx0 x1 fx1 x2 fx2 x3 fx3 x4 fx4 x5 fx5 x6 fx6
            refine bodyPost_ret (results_cell2 rfl _ _ _ ⟨ba, 0, none⟩ (.agg (frC F A7 c7)) (.bool true) rfl (by go_simp) rfl) rfl ?_
            exact .inl ⟨HOK.out.symm, A7, c7, by rw [← HF.out], by rw [← HF.out]; exact HVU2.out, by rw [← HF.out]; exact hz.re (fun x => by simp only [cnt_append, cnt_cons, cnt_nil]; omega)⟩
        · have HNO := Lib.hid (decOk_end (b := b) (by rw [← HEN.out]; exact he0))
          go_wp2_with fail
          refine CE.out.mono ?_; rintro e w11 ⟨rfl, hb11⟩
          have h11 := H10.out.below hb11
          have x0 := h11.cellOf (g := ba) (cs := frZ) (t := 69) (by simp) 0 rfl
          have fx0 := h11.freeOf (g := ba) (cs := frZ) (t := 69) (by simp) 0
          have x1 := h11.cellOf (g := ba) (cs := frZ) (t := 69) (by simp) 1 rfl
          have fx1 := h11.freeOf (g := ba) (cs := frZ) (t := 69) (by simp) 1
          have x2 := h11.cellOf (g := ba) (cs := frZ) (t := 69) (by simp) 2 rfl
          have fx2 := h11.freeOf (g := ba) (cs := frZ) (t := 69) (by simp) 2
          have x3 := h11.cellOf (g := ba) (cs := frZ) (t := 69) (by simp) 3 rfl
          have fx3 := h11.freeOf (g := ba) (cs := frZ) (t := 69) (by simp) 3
          have x4 := h11.cellOf (g := ba) (cs := frZ) (t := 69) (by simp) 4 rfl
          have fx4 := h11.freeOf (g := ba) (cs := frZ) (t := 69) (by simp) 4
          have x5 := h11.cellOf (g := ba) (cs := frZ) (t := 69) (by simp) 5 rfl
          have fx5 := h11.freeOf (g := ba) (cs := frZ) (t := 69) (by simp) 5
          have x6 := h11.cellOf (g := ba) (cs := frZ) (t := 69) (by simp) 6 rfl
          have fx6 := h11.freeOf (g := ba) (cs := frZ) (t := 69) (by simp) 6
          have H11 := Lib.hid h11
          clear hb11 h11
          go_wp2_with fail
          obtain ⟨Wz, hWz⟩ : ∃ Wz, Wz = (((((((w11.setCell ⟨ba, 0, none⟩ (.int .i64 0)).setCell ⟨ba, 1, none⟩ (.int .i64 0)).setCell ⟨ba, 2, none⟩ (.int .u64 0)).setCell ⟨ba, 3, none⟩ (.int .u64 0)).setCell ⟨ba, 4, none⟩ (.int .u64 0)).setCell ⟨ba, 5, none⟩ (.int .u64 0)).setCell ⟨ba, 6, none⟩ (.slice none 0 0)) := ⟨_, rfl⟩
          have hz : St w Wz (B ba (frZ) 69 :: (rdrE g v b (r8 b).2 ++ (B bf (frC (rdF b) A7 c7) 69 :: byR (.slice A7 (r7 b).1.length c7) (r7 b).1))) := by rw [hWz]; exact ((((((((H11.out.re (M := B ba frZ 69 :: (rdrE g v b (r8 b).2 ++ (B bf (frC (rdF b) A7 c7) 69 :: byR (.slice A7 (r7 b).1.length c7) (r7 b).1))) (fun x => by simp only [cnt_append, cnt_cons, cnt_nil]; omega)).put (cs' := #[.int .i64 0, .int .i64 0, .int .u64 0, .int .u64 0, .int .u64 0, .int .u64 0, .slice none 0 0]) 0 (.int .i64 0) rfl).put (cs' := #[.int .i64 0, .int .i64 0, .int .u64 0, .int .u64 0, .int .u64 0, .int .u64 0, .slice none 0 0]) 1 (.int .i64 0) rfl).put (cs' := #[.int .i64 0, .int .i64 0, .int .u64 0, .int .u64 0, .int .u64 0, .int .u64 0, .slice none 0 0]) 2 (.int .u64 0) rfl).put (cs' := #[.int .i64 0, .int .i64 0, .int .u64 0, .int .u64 0, .int .u64 0, .int .u64 0, .slice none 0 0]) 3 (.int .u64 0) rfl).put (cs' := #[.int .i64 0, .int .i64 0, .int .u64 0, .int .u64 0, .int .u64 0, .int .u64 0, .slice none 0 0]) 4 (.int .u64 0) rfl).put (cs' := #[.int .i64 0, .int .i64 0, .int .u64 0, .int .u64 0, .int .u64 0, .int .u64 0, .slice none 0 0]) 5 (.int .u64 0) rfl).put (cs' := #[.int .i64 0, .int .i64 0, .int .u64 0, .int .u64 0, .int .u64 0, .int .u64 0, .slice none 0 0]) 6 (.slice none 0 0) rfl)
          rw [← hWz]
          have q0 := hz.cellOf (g := ba) (cs := frZ) (t := 69) (by simp) 0 rfl
          have q1 := hz.cellOf (g := ba) (cs := frZ) (t := 69) (by simp) 1 rfl
          have q2 := hz.cellOf (g := ba) (cs := frZ) (t := 69) (by simp) 2 rfl
          have q3 := hz.cellOf (g := ba) (cs := frZ) (t := 69) (by simp) 3 rfl
          have q4 := hz.cellOf (g := ba) (cs := frZ) (t := 69) (by simp) 4 rfl
          have q5 := hz.cellOf (g := ba) (cs := frZ) (t := 69) (by simp) 5 rfl
          have q6 := hz.cellOf (g := ba) (cs := frZ) (t := 69) (by simp) 6 rfl
          clear hWz x0 fx0 x1 fx1 x2 fx2 x3 fx3 x4 fx4 x5 fx5 x6 fx6
          refine bodyPost_ret (results_cell2 rfl _ _ _ ⟨ba, 0, none⟩ (.agg (frZ)) (.bool false) rfl (by go_simp) rfl) rfl ?_
          exact .inr ⟨HNO.out, rfl, hz.bl⟩
end Go.Proofs.YtoeiaimoppmjdaaDoor.Lk
/- Contract: EqFrame. -/
namespace Go.Proofs.YtoeiaimoppmjdaaDoor.Lk
open Go.RowKit Go.Proofs.YtoeiaimoppmjdaaDoorW.PrintWords Go.Proofs.YtoeiaimoppmjdaaDoor.Mem Go.Proofs.YtoeiaimoppmjdaaDoor.Wr Go.Proofs.YtoeiaimoppmjdaaDoor.Bytes
set_option linter.unusedVariables false
set_option linter.unusedSimpArgs false
theorem frm_ext (F G : Frm) : F = G ↔ F.src = G.src ∧ F.dst = G.dst ∧ F.mine = G.mine ∧ F.yours = G.yours ∧ F.seq = G.seq ∧ F.ack = G.ack ∧ F.body = G.body := by
  cases F; cases G; simp
set_option maxRecDepth 20000 in
set_option maxHeartbeats 3200000 in
theorem eqf_calls (F G : Frm) (A B' : Option Addr) (c d : Nat) (w : World) (hx : ReadsOf I 0 w A F.body.length F.body) (hy : ReadsOf I 0 w B' G.body.length G.body) (hm : G.body.length ≤ 140737488355328) :
    Calls Tryd.prog 48 #[.agg (frC F A c), .agg (frC G B' d)] w fun e w' => ∃ b : Bool, e = .returned (.bool b) ∧ (b = true ↔ F = G) ∧ Below w.heap.size w w' := by
  obtain ⟨W1, hW1⟩ : ∃ W1, W1 = w.alloc (.cells (frC F A c) 69) := ⟨_, rfl⟩
  obtain ⟨W2, hW2⟩ : ∃ W2, W2 = W1.alloc (.cells (frC G B' d) 69) := ⟨_, rfl⟩
  obtain ⟨ba, hba⟩ : ∃ ba, ba = w.heap.size := ⟨_, rfl⟩
  obtain ⟨bb, hbb⟩ : ∃ bb, bb = W1.heap.size := ⟨_, rfl⟩
  have h1 := (St.start w).newB (frC F A c) 69
  rw [← hW1, ← hba] at h1
  have h2 := h1.newB (frC G B' d) 69
  rw [← hW2, ← hbb] at h2
  have x0 := h2.cellOf (g := ba) (cs := frC F A c) (t := 69) (by simp) 0 rfl
  have y0 := h2.cellOf (g := bb) (cs := frC G B' d) (t := 69) (by simp) 0 rfl
  have x1 := h2.cellOf (g := ba) (cs := frC F A c) (t := 69) (by simp) 1 rfl
  have y1 := h2.cellOf (g := bb) (cs := frC G B' d) (t := 69) (by simp) 1 rfl
  have x2 := h2.cellOf (g := ba) (cs := frC F A c) (t := 69) (by simp) 2 rfl
  have y2 := h2.cellOf (g := bb) (cs := frC G B' d) (t := 69) (by simp) 2 rfl
  have x3 := h2.cellOf (g := ba) (cs := frC F A c) (t := 69) (by simp) 3 rfl
  have y3 := h2.cellOf (g := bb) (cs := frC G B' d) (t := 69) (by simp) 3 rfl
  have x4 := h2.cellOf (g := ba) (cs := frC F A c) (t := 69) (by simp) 4 rfl
  have y4 := h2.cellOf (g := bb) (cs := frC G B' d) (t := 69) (by simp) 4 rfl
  have x5 := h2.cellOf (g := ba) (cs := frC F A c) (t := 69) (by simp) 5 rfl
  have y5 := h2.cellOf (g := bb) (cs := frC G B' d) (t := 69) (by simp) 5 rfl
  have x6 := h2.cellOf (g := ba) (cs := frC F A c) (t := 69) (by simp) 6 rfl
  have y6 := h2.cellOf (g := bb) (cs := frC G B' d) (t := 69) (by simp) 6 rfl
  have CE := Lib.hid (eq_calls F.body G.body A B' c d W2 (h2.reads hx) (h2.reads hy) hm)
  have HBL := Lib.hid h2.bl
  have HW1 := Lib.hid hW1
  have HW2 := Lib.hid hW2
  have HBA := Lib.hid hba
  have HBB : Hid (bb = ba + 1) := by show bb = _; rw [hbb, hW1, hba]; simp
  have HX := Lib.hid (frm_ext F G)
  clear h1 h2 hW1 hW2 hba hbb hx hy
  go_enter Tryd.func48, Tryd.ntmps48
  go_upto_region 1 with fail
  rw [← HW1.out, ← HBA.out, ← HW2.out, ← HBB.out]
  go_wp2_with (go_at_call 34; refine CE.out.mono ?_; rintro e w3 ⟨b3, rfl, hb3, hbl3⟩; have HB3 := Lib.hid hb3; have HL3 := Lib.hid hbl3; clear hb3 hbl3)
  all_goals
    go_ret
    first
      | exact ⟨_, rfl, by rw [HX.out]; simp only [← HB3.out, decide_eq_true_eq, Bool.false_eq_true, false_iff, true_iff]; first | omega | (constructor; (intro h; exact ⟨by omega, by omega, by omega, by omega, by omega, by omega, h⟩); (intro h; exact h.2.2.2.2.2.2)), HBL.out.trans (HL3.out.mono HBL.out.size)⟩
      | exact ⟨_, rfl, by rw [HX.out]; simp only [beq_iff_eq, decide_eq_true_eq, Bool.false_eq_true, false_iff, true_iff]; omega, HBL.out⟩
end Go.Proofs.YtoeiaimoppmjdaaDoor.Lk
/- begun: a link says a word, and it is read. -/
namespace Go.Proofs.YtoeiaimoppmjdaaDoor.Lk
open Go.RowKit Go.Proofs.YtoeiaimoppmjdaaDoorW.PrintWords Go.Proofs.YtoeiaimoppmjdaaDoor.Mem Go.Proofs.YtoeiaimoppmjdaaDoor.Wr Go.Proofs.YtoeiaimoppmjdaaDoor.Bytes Go.Proofs.YtoeiaimoppmjdaaDoor.App
open Go.Proofs.YtoeiaimoppmjdaaDoor.Pace (dbl)
set_option linter.unusedVariables false
set_option linter.unusedSimpArgs false
abbrev f0 : Frm := ⟨0, 2, 3, 0, 0, 0, []⟩
theorem f0_fit : Fit f0 := ⟨by decide, by decide, by decide, by decide, by decide, by decide, by decide, by decide, by decide, by decide, .inr rfl⟩
theorem encF_byt0 {f : Frm} (hb : Byt f.body) : Byt (encF f) := by
  by_cases h : Fit f
  · rw [encF_fit h]
    intro a ha
    rcases List.mem_append.1 ha with ha | ha
    · exact ahead_byt _ h hb a ha
    · exact fixL_byt _ _ a ha
  · rw [encF_nofit h]; intro a ha; cases ha
set_option maxRecDepth 20000 in
set_option maxHeartbeats 6400000 in
theorem begun_calls (w : World) (ht : ErrTab w) (hz : 0 < w.heap.size) : Calls Tryd.prog 45 #[] w fun e w' => e = .returned (.bool true) ∧ Below w.heap.size w w' := by
  have CN : Hid (Calls Tryd.prog 53 #[.int .i64 0, .int .i64 2, .int .u64 3, .int .i64 2, .int .i64 4] w fun e w' => ∃ g gp c, e = .returned (pt g) ∧ (1 ≤ c ∧ c ≤ 64) ∧ (1 ≤ (4 : Int) ∧ (4 : Int) ≤ 64 → c = 4) ∧ St w w' (lkE g (ls0 0 2 3 2 gp c) ++ [])) := lnew_calls w w [] 0 2 2 4 3 (St.start w)
  have HT := Lib.hid ht
  have HZ := Lib.hid hz
  clear ht hz
  go_enter Tryd.func45, Tryd.ntmps45
  go_wp2_with fail
  refine CN.out.mono ?_; rintro e w1 ⟨g, gp, c, rfl, hc, _, h1⟩
  have hV := ls0V 0 2 3 2 gp c hc
  have CK : Hid (Calls Tryd.prog 83 #[pt g] w1 fun e w' => e = .returned (.bool false) ∧ w1 = w') := lknown_calls h1
  have CL : Hid (Calls Tryd.prog 60 #[pt g] w1 fun e w' => e = .returned (.int .i64 0) ∧ w1 = w') := llen_calls h1 hV
  have CT : Hid (Calls Tryd.prog 56 #[pt g] w1 fun e w' => ∃ ov v, e = .returned ov ∧ OutV ov [(v, encF f0)] ∧ LkV { ls0 0 2 3 2 gp c with left := 1, gap := dbl c 1 } ∧ St w w' (lkE g { ls0 0 2 3 2 gp c with left := 1, gap := dbl c 1 } ++ (outE ov [(v, encF f0)] ++ []))) := tickA_calls w w1 [] g (ls0 0 2 3 2 gp c) h1 hV rfl rfl rfl rfl (by show (0 : Int) ≤ 1; omega) rfl rfl
  clear h1 hV hc
  go_wp2_with fail
  refine CK.out.mono ?_; rintro e w2 ⟨rfl, rfl⟩
  go_wp2_with fail
  refine CL.out.mono ?_; rintro e w2 ⟨rfl, rfl⟩
  go_wp2_with fail
  refine CT.out.mono ?_; rintro e w2 ⟨ov, v, rfl, hov, _, h2⟩
  have h2' := h2.re (M := outE ov [(v, encF f0)]) (fun x => by simp only [cnt_append, cnt_nil]; omega)
  obtain ⟨Ao, co, e1⟩ := row_form hov.row
  have hbv : byV v (encF f0) := hov.by_ (v, encF f0) (by simp)
  obtain ⟨Av, cv, rfl⟩ := byV_form hbv
  obtain ⟨go, cgo, ego, hcell⟩ : ∃ go cgo, ov = .slice (some ⟨go, 0, none⟩) 1 cgo ∧ w2.cell? ⟨go, 0, none⟩ = some (.slice Av (encF f0).length cv) := by
    rcases hov.row.2 with ⟨_, h0⟩ | ⟨go, cgo, e2, _⟩
    · cases h0
    · subst e2
      refine ⟨go, cgo, rfl, ?_⟩
      have hr : St w w2 (rowE (.slice (some ⟨go, 0, none⟩) 1 cgo) 22 1 1 [.slice Av (encF f0).length cv] ++ byR (.slice Av (encF f0).length cv) (encF f0)) := h2'.re (fun x => by simp only [outE, List.length_cons, List.length_nil, Nat.zero_add, List.map_cons, List.map_nil, List.flatMap_cons, List.flatMap_nil, cnt_append, cnt_nil]; omega)
      exact (hr.at 0 (by simp) rfl).1
  subst ego
  have hrd := by_reads h2' (fun x => by simp only [outE, List.flatMap_cons, List.flatMap_nil, cnt_append, cnt_nil]; omega) hbv
  have hby : Byt (encF f0) := encF_byt0 (fun a h => (by cases h))
  have hlen := encF_len f0_fit
  have CD := Lib.hid (dec_calls (encF f0) Av cv w2 hrd hby (HT.out.below h2'.bl HZ.out) (Nat.lt_of_lt_of_le HZ.out h2'.bl.size) (by omega))
  have HB2 := Lib.hid h2'.bl
  clear hov h2 h2' hbv hrd hby hlen e1
  go_wp2_with fail
  refine CD.out.mono ?_; rintro e w3 hpost
  obtain ⟨ok, rd⟩ := dec_enc f0_fit
  rcases hpost with ⟨_, A, c2, rfl, hbv, h3⟩ | ⟨h, _⟩
  rotate_left
  · rw [ok] at h; cases h
  rw [rd] at hbv h3 ⊢
  have h4 := h3.newB (frC f0 A c2) 69
  obtain ⟨W4, hW4⟩ : ∃ W4, W4 = w3.alloc (.cells (frC f0 A c2) 69) := ⟨_, rfl⟩
  obtain ⟨bf, hbf⟩ : ∃ bf, bf = w3.heap.size := ⟨_, rfl⟩
  rw [← hW4, ← hbf] at h4
  have y0 := h4.cellOf (g := bf) (cs := frC f0 A c2) (t := 69) (by simp) 0 rfl
  have y1 := h4.cellOf (g := bf) (cs := frC f0 A c2) (t := 69) (by simp) 1 rfl
  have y2 := h4.cellOf (g := bf) (cs := frC f0 A c2) (t := 69) (by simp) 2 rfl
  have y3 := h4.cellOf (g := bf) (cs := frC f0 A c2) (t := 69) (by simp) 3 rfl
  have y4 := h4.cellOf (g := bf) (cs := frC f0 A c2) (t := 69) (by simp) 4 rfl
  have y5 := h4.cellOf (g := bf) (cs := frC f0 A c2) (t := 69) (by simp) 5 rfl
  have y6 := h4.cellOf (g := bf) (cs := frC f0 A c2) (t := 69) (by simp) 6 rfl
  have hr4 : ReadsOf I 0 W4 A 0 [] := by_reads (xs := []) h4 (fun x => by simp only [cnt_cons]; omega) hbv
  have CE : Hid (Calls Tryd.prog 48 #[.agg #[.int .i64 0, .int .i64 2, .int .u64 3, .int .u64 0, .int .u64 0, .int .u64 0, .slice A 0 c2], .agg #[.int .i64 0, .int .i64 2, .int .u64 3, .int .u64 0, .int .u64 0, .int .u64 0, .slice none 0 0]] W4 fun e w' => ∃ b : Bool, e = .returned (.bool b) ∧ (b = true ↔ f0 = f0) ∧ Below W4.heap.size W4 w') := eqf_calls f0 f0 A none c2 0 W4 hr4 (ReadsOf.nil I 0 W4) (by simp)
  have HB4 := Lib.hid (HB2.out.trans (h4.bl.mono HB2.out.size))
  have HW4 := Lib.hid hW4
  have HBF := Lib.hid hbf
  clear h3 h4 hW4 hbf hr4 hbv hcell ok rd
  go_wp2_with fail
  rw [show (w3.alloc (.cells #[.int .i64 0, .int .i64 2, .int .u64 3, .int .u64 0, .int .u64 0, .int .u64 0, .slice A 0 c2] 69)) = W4 from HW4.out.symm]
  refine CE.out.mono ?_; rintro e w5 ⟨b5, rfl, hb5, hbl5⟩
  obtain rfl : b5 = true := by simpa using hb5
  have HB5 := Lib.hid (HB4.out.trans (hbl5.mono HB4.out.size))
  clear hb5 hbl5 y0 y1 y2 y3 y4 y5 y6
  go_wp2_with fail
  go_ret
  exact ⟨rfl, HB5.out⟩
end Go.Proofs.YtoeiaimoppmjdaaDoor.Lk
/- Arguments opened, with the reach of each list: from the form's own reading of an argument to what its cells say (the print's kinds), type by type; the bulk of the reading bounds every length. -/
namespace Go.Proofs.YtoeiaimoppmjdaaDoor.OpnS
open Go Go.ChangeShapes Go.WideShapes Go.RowKit Go.Deep Go.Proofs.YtoeiaimoppmjdaaDoorW.PrintWords
set_option linter.unusedVariables false
set_option linter.unusedSimpArgs false

theorem bulk_one {H : Type} (d : DataW H) : 1 ≤ Rows.uptoBulk d := by
  cases d with
  | lit l => cases l <;> simp [Rows.uptoBulk]
  | nil => simp [Rows.uptoBulk]
  | ptr d => simp [Rows.uptoBulk]
  | slice elems spare => simp [Rows.uptoBulk]
  | agg parts => simp [Rows.uptoBulk]
  | iface t d => simp [Rows.uptoBulk]
  | map entries => simp [Rows.uptoBulk]
  | held h => simp [Rows.uptoBulk]

/-- Every reading of type T has its cells as kind d says, of a value that is valid (V), and is at least of bulk B. -/
structure Opens {α : Type} (P : Program) (T : TypeId) (d : Kd α) (V : α → Prop) (B : α → Nat) : Prop where
  sz : P.cellsOf T = d.sz
  go : ∀ {H : Type} {enc : TypeId × Value → H} {w : World} {fuel : Nat} {cs : List Value} {x : DataW H × List MemPlace},
    DataW.trod enc P w 0 (fun _ => true) true fuel T cs = some x → (∀ n, n ∈ x.1.weights P T → n ≤ reachBytes) → ∃ a, d.K w a cs ∧ V a ∧ B a ≤ Rows.uptoBulk x.1

theorem opens_int {P : Program} {T : TypeId} {k : IntKind} (ht : P.underlying T = some (.int k)) (hc : P.cellsOf T = 1) : Opens P T (Kd.int k) (fun n => (Lit.int k n).wf = true) (fun _ => 1) :=
  ⟨hc, fun h _ => by
    obtain ⟨n, rfl, rfl, wf⟩ := DataW.trod_int ht h
    exact ⟨n, rfl, wf, bulk_one _⟩⟩
theorem opens_bool {P : Program} {T : TypeId} (ht : P.underlying T = some .bool) (hc : P.cellsOf T = 1) : Opens P T Kd.bool (fun _ => True) (fun _ => 1) :=
  ⟨hc, fun h _ => by
    obtain ⟨b, rfl, rfl⟩ := DataW.trod_bool ht h
    exact ⟨b, rfl, trivial, bulk_one _⟩⟩
theorem opens_string {P : Program} {T : TypeId} (ht : P.underlying T = some .string) (hc : P.cellsOf T = 1) : Opens P T Kd.string (fun _ => True) (fun s => s.size + 1) :=
  ⟨hc, fun h _ => by
    obtain ⟨s, rfl, rfl, _⟩ := DataW.trod_string ht h
    refine ⟨s, rfl, trivial, ?_⟩
    simp [Rows.uptoBulk]⟩
/-- A list's bulk. -/
def sumB {α : Type} (B : α → Nat) : List α → Nat
  | [] => 0
  | a :: l => B a + sumB B l
theorem sumB_le {α H : Type} (B : α → Nat) (f : Nat → α) (D : Nat → DataW H) : ∀ n, (∀ i, i < n → B (f i) ≤ Rows.uptoBulk (D i)) → sumB B ((List.range n).map f) ≤ Rows.uptoBulkAll ((List.range n).map D) := by
  intro n h
  have key : ∀ l : List Nat, (∀ i, i ∈ l → B (f i) ≤ Rows.uptoBulk (D i)) → sumB B (l.map f) ≤ Rows.uptoBulkAll (l.map D) := by
    intro l
    induction l with
    | nil => intro _; simp [sumB]
    | cons x l ih =>
      intro h
      have h1 := h x (List.mem_cons_self)
      have h2 := ih (fun i hi => h i (List.mem_cons_of_mem _ hi))
      simp only [List.map_cons, sumB, Rows.uptoBulkAll]
      omega
  exact key _ (fun i hi => h i (List.mem_range.1 hi))
theorem sumB_mem {α : Type} {B : α → Nat} {a : α} {l : List α} (h : a ∈ l) : B a ≤ sumB B l := by
  induction l with
  | nil => cases h
  | cons x l ih =>
    simp only [sumB]
    rcases List.mem_cons.1 h with rfl | h
    · omega
    · have := ih h; omega
theorem sumB_length {α : Type} {B : α → Nat} (hB : ∀ a, 1 ≤ B a) (l : List α) : l.length ≤ sumB B l := by
  induction l with
  | nil => simp [sumB]
  | cons x l ih => have := hB x; simp only [sumB, List.length_cons]; omega

theorem weights_all {H : Type} {P : Program} {e : TypeId} {l : List (DataW H)} {d : DataW H} {q : Nat} (hd : d ∈ l) (hq : q ∈ d.weights P e) : q ∈ DataW.weightsAll P e l := by
  induction l with
  | nil => cases hd
  | cons x l ih =>
    simp only [DataW.weightsAll]
    rcases List.mem_cons.1 hd with rfl | hd
    · exact List.mem_append_left _ hq
    · exact List.mem_append_right _ (ih hd)
theorem opens_slice {α : Type} [Inhabited α] {P : Program} {T e : TypeId} {d : Kd α} {V : α → Prop} {B : α → Nat} (ht : P.underlying T = some (.slice e)) (hc : P.cellsOf T = 1) (he : Opens P e d V B) :
    Opens P T (Kd.slice e d) (fun l => (∀ a, a ∈ l → V a) ∧ l.length * P.bytesOf e ≤ reachBytes) (fun l => sumB B l + 1) :=
  ⟨hc, by
    intro H enc w fuel cs x h hw
    rcases open_slice ht h with ⟨rfl, rfl⟩ | ⟨a, len, cap, m, n, D, Pl, rfl, _, hl, hm, hmm, rfl, hi⟩
    · exact ⟨([] : List α), ⟨none, 0, rfl, Nat.le_refl _, rfl, Nat.zero_le _, fun h => absurd h (Nat.lt_irrefl 0)⟩, ⟨⟨fun a ha => absurd ha List.not_mem_nil, by simp⟩, by simp [sumB, Rows.uptoBulk]⟩⟩
    · have hlm : len ≤ m := by simp at hmm; omega
      obtain ⟨f, hf⟩ := choose_lt (α := α) (n := len) (p := fun i y => ∃ cs', w.cells? 0 (a.add (i * P.cellsOf e)) (P.cellsOf e) = some cs' ∧ d.K w y cs' ∧ V y ∧ B y ≤ Rows.uptoBulk (D i)) (fun i hil => by
        obtain ⟨cs', h1, h2⟩ := hi i (by omega)
        obtain ⟨y, hK, hV, hB⟩ := he.go h2 (fun q hq => hw q (by
          simp only [DataW.weights, ht]
          refine List.mem_cons_of_mem _ (List.mem_append_left _ ?_)
          exact weights_all (List.mem_map.2 ⟨i, List.mem_range.2 hil, rfl⟩) hq))
        exact ⟨y, cs', h1, hK, hV, hB⟩)
      refine ⟨(List.range len).map f, ⟨some a, cap, by simp, by simpa using hl, by simp, by simp only [maxLen] at hm; simp; omega, fun hp => ⟨a, rfl, fun j p hj => ?_⟩⟩, ⟨fun y hy => ?_, ?_⟩, ?_⟩
      · have hjl : j < len := by
          have := (List.getElem?_eq_some_iff.1 hj).1
          simpa using this
        obtain ⟨cs', h1, hK, _, _⟩ := hf j hjl
        have hp' : p = f j := by
          rw [List.getElem?_map, List.getElem?_range hjl] at hj
          simpa using hj.symm
        subst hp'
        obtain ⟨_, hlen, hcell⟩ := World.cells?_some h1
        refine ⟨cs', d.K_len hK, hK, fun i u hu => ?_⟩
        have hil : i < cs'.length := (List.getElem?_eq_some_iff.1 hu).1
        rw [he.sz] at hcell hlen
        have := hcell i (by omega)
        rw [Go.Deep.add_add] at this
        rw [this]; exact hu
      · obtain ⟨i, hi', rfl⟩ := List.mem_map.1 hy
        exact (hf i (List.mem_range.1 hi')).choose_spec.2.2.1
      · have hq := hw _ (by simp only [DataW.weights, ht]; exact List.mem_cons_self)
        simp only [List.length_map, List.length_range] at hq ⊢
        exact Nat.le_trans (Nat.mul_le_mul_right _ (Nat.le_add_right _ _)) hq
      · have := sumB_le B f D len (fun i hil => (hf i hil).choose_spec.2.2.2)
        simp only [Rows.uptoBulk]
        omega⟩

/-- The fields from place i on, whose cells begin at off. -/
structure OpensF {α : Type} (P : Program) (fs : List Go.Field) (off : Nat) (d : Kd α) (V : α → Prop) (B : α → Nat) : Prop where
  go : ∀ {H : Type} {enc : TypeId × Value → H} {w : World} {n : Nat} {cs : List Value} {ys : List (DataW H × List MemPlace)}, off + d.sz ≤ cs.length → ys.length = fs.length →
    (∀ (i : Nat) (f : Go.Field), fs[i]? = some f → DataW.trod enc P w 0 (fun _ => true) true n f.type ((cs.drop f.offset).take (P.cellsOf f.type)) = ys[i]?) → (∀ q, q ∈ DataW.weightsEach P (fs.map (·.type)) (ys.map (·.1)) → q ≤ reachBytes) →
    ∃ a, d.K w a ((cs.drop off).take d.sz) ∧ V a ∧ B a ≤ Rows.uptoBulkAll (ys.map (·.1))
theorem opensF_one {α : Type} {P : Program} {f : Go.Field} {d : Kd α} {V : α → Prop} {B : α → Nat} (h : Opens P f.type d V B) : OpensF P [f] f.offset d V B :=
  ⟨by
    intro H enc w n cs ys hl hy hg hw
    match ys, hy with
    | [y], _ =>
      have h0 := hg 0 f rfl
      rw [h.sz] at h0
      obtain ⟨a, hK, hV, hB⟩ := h.go h0 (fun q hq => hw q (by simp only [List.map_cons, List.map_nil, DataW.weightsEach]; exact List.mem_append_left _ hq))
      refine ⟨a, hK, hV, ?_⟩
      simp only [List.map_cons, List.map_nil, Rows.uptoBulkAll]
      omega⟩
theorem opensF_cons {α β : Type} {P : Program} {f : Go.Field} {fs : List Go.Field} {off : Nat} {d : Kd α} {V : α → Prop} {B : α → Nat} {d' : Kd β} {V' : β → Prop} {B' : β → Nat} (h : Opens P f.type d V B) (h' : OpensF P fs off d' V' B') (ho : off = f.offset + d.sz) :
    OpensF P (f :: fs) f.offset (Kd.pair d d') (fun x => V x.1 ∧ V' x.2) (fun x => B x.1 + B' x.2) :=
  ⟨by
    intro H enc w n cs ys hl hy hg hw
    match ys, hy with
    | y :: ys, hy =>
      have h0 := hg 0 f rfl
      rw [h.sz] at h0
      obtain ⟨a, hK, hV, hB⟩ := h.go h0 (fun q hq => hw q (by simp only [List.map_cons, DataW.weightsEach]; exact List.mem_append_left _ hq))
      have hl' : f.offset + (d.sz + d'.sz) ≤ cs.length := hl
      obtain ⟨b, hK', hV', hB'⟩ := h'.go (ys := ys) (cs := cs) (n := n) (w := w) (enc := enc) (by omega) (by simpa using hy) (fun i f' hf' => hg (i + 1) f' hf') (fun q hq => hw q (by simp only [List.map_cons, DataW.weightsEach]; exact List.mem_append_right _ hq))
      refine ⟨(a, b), ⟨_, _, ?_, hK, hK'⟩, ⟨hV, hV'⟩, ?_⟩
      · subst ho
        show (cs.drop f.offset).take (d.sz + d'.sz) = _
        rw [List.take_add, List.drop_drop]
      · simp only [List.map_cons, Rows.uptoBulkAll]
        omega⟩
theorem opens_struct {α : Type} {P : Program} {T : TypeId} {fs : Array Go.Field} {d : Kd α} {V : α → Prop} {B : α → Nat} (ht : P.underlying T = some (.struct fs)) (hc : P.cellsOf T = d.sz) (h : OpensF P fs.toList 0 d V B) :
    Opens P T d V (fun x => B x + 1) :=
  ⟨hc, by
    intro H enc w fuel cs x hx hw
    obtain ⟨xs, n, _, rfl, hlen, hxl, hg⟩ := DataW.trod_struct ht hx
    obtain ⟨a, hK, hV, hB⟩ := h.go (cs := cs) (ys := xs) (n := n) (w := w) (enc := enc) (by omega) (by simpa using hxl) (fun i f hf => hg i f (by simpa using hf)) (fun q hq => hw q (by simp only [DataW.weights, ht]; exact hq))
    refine ⟨a, ?_, hV, ?_⟩
    · rw [hc] at hlen
      simpa [← hlen] using hK
    · simp only [Rows.uptoBulk]
      omega⟩
/-- An array of two. -/
theorem opens_two {α : Type} {P : Program} {T e : TypeId} {d : Kd α} {V : α → Prop} {B : α → Nat} (ht : P.underlying T = some (.array 2 e)) (hc : P.cellsOf T = d.sz + d.sz) (h : Opens P e d V B) :
    Opens P T (Kd.pair d d) (fun x => V x.1 ∧ V x.2) (fun x => B x.1 + B x.2 + 1) :=
  ⟨hc, by
    intro H enc w fuel cs x hx hw
    obtain ⟨xs, n, _, rfl, hlen, hxl, hg⟩ := DataW.trod_array ht hx
    match xs, hxl with
    | [y0, y1], _ =>
      have h0 := hg 0 (by omega)
      have h1 := hg 1 (by omega)
      rw [h.sz] at h0 h1
      rw [hc] at hlen
      obtain ⟨a, hK, hV, hB⟩ := h.go h0 (fun q hq => hw q (by simp only [DataW.weights, ht, List.map_cons, DataW.weightsAll]; exact List.mem_append_left _ hq))
      obtain ⟨b, hK', hV', hB'⟩ := h.go h1 (fun q hq => hw q (by simp only [DataW.weights, ht, List.map_cons, DataW.weightsAll]; exact List.mem_append_right _ (List.mem_append_left _ hq)))
      refine ⟨(a, b), ⟨_, _, ?_, hK, hK'⟩, ⟨hV, hV'⟩, ?_⟩
      · rw [Nat.zero_mul, List.drop_zero, Nat.one_mul]
        have : (cs.drop d.sz).take d.sz = cs.drop d.sz := List.take_of_length_le (by simp; omega)
        rw [this, List.take_append_drop]
      · simp only [List.map_cons, List.map_nil, Rows.uptoBulk, Rows.uptoBulkAll]
        omega⟩
/-- The value of a struct parameter: its cells. -/
theorem open_arg {P : Program} {H : Type} {enc : TypeId × Value → H} {W : World} {T : TypeId} {fs : Array Go.Field} {base : Nat} {v : Value} {x : DataW H} {ps : List MemPlace} {α : Type} {d : Kd α} {V : α → Prop} {B : α → Nat} (ht : P.underlying T = some (.struct fs)) (ho : Opens P T d V B)
    (hok : Value.okWide P W .any base T v) (h : DataW.Trod enc P W 0 (fun _ => true) true T v x ps) (hsz : (DataW.weightsEach P [T] [x]).all (· ≤ reachBytes) = true) : ∃ a cs, v = .agg cs ∧ d.K W a cs.toList ∧ V a ∧ B a ≤ Rows.uptoBulk x := by
  obtain ⟨cs, rfl, _⟩ := okWide_struct ht hok
  obtain ⟨fuel, hf⟩ := h
  obtain ⟨a, hK, hV, hB⟩ := ho.go hf (fun q hq => by
    have := List.all_eq_true.1 hsz q (by simp only [DataW.weightsEach, List.append_nil]; exact hq)
    simpa using this)
  exact ⟨a, cs, rfl, hK, hV, hB⟩
end Go.Proofs.YtoeiaimoppmjdaaDoor.OpnS
/- A script's calls as they come in: what their cells say. -/
namespace Go.Proofs.YtoeiaimoppmjdaaDoor.Args
open Go Go.ChangeShapes Go.WideShapes Go.RowKit Go.Deep Go.Proofs.YtoeiaimoppmjdaaDoorW.PrintWords Go.Proofs.YtoeiaimoppmjdaaDoor.OpnS Go.Proofs.YtoeiaimoppmjdaaDoor.Bytes
set_option linter.unusedVariables false
set_option linter.unusedSimpArgs false
abbrev KI := Kd.int .i64
abbrev KBy := Kd.slice 5 (Kd.int .u8)
abbrev KOp := Kd.pair KI (Kd.pair KI (Kd.pair KI (Kd.pair (Kd.int .u64) KBy)))
abbrev CO := Int × Int × Int × Int × List Int
abbrev I64 (a : Int) : Prop := -9223372036854775808 ≤ a ∧ a ≤ 9223372036854775807
theorem in8 {n : Int} (h : (Lit.int .u8 n).wf = true) : 0 ≤ n ∧ n ≤ 255 := by
  simpa [Lit.wf, IntKind.min, IntKind.max, IntKind.signed, IntKind.bits] using h
theorem inu64 {n : Int} (h : (Lit.int .u64 n).wf = true) : 0 ≤ n ∧ n ≤ 18446744073709551615 := by
  simpa [Lit.wf, IntKind.min, IntKind.max, IntKind.signed, IntKind.bits] using h
theorem in64 {n : Int} (h : (Lit.int .i64 n).wf = true) : I64 n := by
  simpa [Lit.wf, IntKind.min, IntKind.max, IntKind.signed, IntKind.bits, I64] using h
abbrev WB (l : List Int) : Prop := (∀ a, a ∈ l → (Lit.int .u8 a).wf = true) ∧ l.length * Tryd.prog.bytesOf 5 ≤ reachBytes
theorem wb_byt {l : List Int} (h : WB l) : Byt l := fun a ha => in8 (h.1 a ha)
theorem bytes5 : Tryd.prog.bytesOf 5 = 1 := by kernel_rfl
theorem wb_len {l : List Int} (h : WB l) : l.length ≤ 140737488351232 := by
  have h2 := h.2
  rw [bytes5, Nat.mul_one] at h2
  exact h2
theorem opens_bytes : Opens Tryd.prog 22 KBy WB (fun l => sumB (fun _ => 1) l + 1) := opens_slice Tryd.underlying22 (by kernel_rfl) (opens_int Tryd.underlying5 (by kernel_rfl))
abbrev VOp (x : CO) : Prop := (Lit.int .i64 x.1).wf = true ∧ (Lit.int .i64 x.2.1).wf = true ∧ (Lit.int .i64 x.2.2.1).wf = true ∧ (Lit.int .u64 x.2.2.2.1).wf = true ∧ WB x.2.2.2.2
abbrev BOp (x : CO) : Nat := 1 + (1 + (1 + (1 + (sumB (fun _ => 1) x.2.2.2.2 + 1)))) + 1
theorem opens_Op : Opens Tryd.prog 39 KOp VOp BOp := by
  have ho := opens_struct (P := Tryd.prog) Tryd.underlying39 (by kernel_rfl) (opensF_cons (opens_int Tryd.underlying3 (by kernel_rfl)) (opensF_cons (opens_int Tryd.underlying3 (by kernel_rfl)) (opensF_cons (opens_int Tryd.underlying3 (by kernel_rfl)) (opensF_cons (opens_int Tryd.underlying37 (by kernel_rfl)) (opensF_one opens_bytes) rfl) rfl) rfl) rfl)
  exact ho
theorem opens_Script : Opens Tryd.prog 26 (Kd.pair (Kd.pair KBy KBy) (Kd.slice 39 KOp))
    (fun x => (WB x.1.1 ∧ WB x.1.2) ∧ (∀ o, o ∈ x.2 → VOp o) ∧ x.2.length * Tryd.prog.bytesOf 39 ≤ reachBytes)
    (fun x => sumB (fun _ => 1) x.1.1 + 1 + (sumB (fun _ => 1) x.1.2 + 1) + 1 + (sumB BOp x.2 + 1) + 1) := by
  have ho := opens_struct (P := Tryd.prog) Tryd.underlying26 (by kernel_rfl) (opensF_cons (opens_two Tryd.underlying23 (by kernel_rfl) opens_bytes) (opensF_one (opens_slice Tryd.underlying24 (by kernel_rfl) opens_Op)) rfl)
  exact ho
/-- A list of bytes that came in is read. -/
theorem by_reads {w : World} {A : Option Addr} {l : List Int} {n : Nat} (h : (Kd.int .u8).C w A n l) : ReadsOf I 0 w A n l := Kd.reads_of_C h
/-- One call of the script, as its cells say it. -/
structure OpAt (w : World) (ad : Addr) (o : CO) (Ab : Option Addr) (cb : Nat) : Prop where
  c0 : w.cell? ad = some (.int .i64 o.1)
  c1 : w.cell? ⟨ad.block, ad.off + 1, none⟩ = some (.int .i64 o.2.1)
  c2 : w.cell? ⟨ad.block, ad.off + 2, none⟩ = some (.int .i64 o.2.2.1)
  c3 : w.cell? ⟨ad.block, ad.off + 3, none⟩ = some (.int .u64 o.2.2.2.1)
  c4 : w.cell? ⟨ad.block, ad.off + 4, none⟩ = some (.slice Ab o.2.2.2.2.length cb)
  rd : ReadsOf I 0 w Ab o.2.2.2.2.length o.2.2.2.2
  cap : o.2.2.2.2.length ≤ cb
theorem op_at {w : World} {A : Option Addr} {os : List CO} {n : Nat} (h : KOp.C w A n os) (k : Nat) (hk : k < os.length) (hn : n = os.length) : ∃ ad Ab cb, A = some ad ∧ OpAt w (ad.add (k * 5)) os[k] Ab cb := by
  subst hn
  obtain ⟨ad, cq, rfl, hlq, hKq, hcq⟩ := Kd.C_get h (0, 0, 0, 0, []) (k : Int) (by omega) (by omega)
  have hgq : os.getD (k : Int).toNat (0, 0, 0, 0, []) = os[k] := by rw [Int.toNat_natCast, List.getD_eq_getElem?_getD, List.getElem?_eq_getElem hk]; rfl
  rw [hgq] at hKq
  rw [Int.toNat_natCast] at hcq
  obtain ⟨q, hq⟩ : ∃ q, q = os[k] := ⟨_, rfl⟩
  rw [← hq] at hKq ⊢
  obtain ⟨k0, k1, k2, k3, b⟩ := q
  obtain ⟨_, _, rfl, rfl, _, _, rfl, rfl, _, _, rfl, rfl, _, _, rfl, rfl, Ab, cb, rfl, hcap, hb⟩ := hKq
  refine ⟨ad, Ab, cb, rfl, hcq 0 _ rfl, ?_, ?_, ?_, ?_, by_reads hb, hcap⟩
  · rw [← add_field _ _ 1 (by omega)]; exact hcq 1 _ rfl
  · rw [← add_field _ _ 2 (by omega)]; exact hcq 2 _ rfl
  · rw [← add_field _ _ 3 (by omega)]; exact hcq 3 _ rfl
  · rw [← add_field _ _ 4 (by omega)]; exact hcq 4 _ rfl
theorem OpAt.below {w w1 : World} {ad : Addr} {o : CO} {Ab : Option Addr} {cb : Nat} (h : OpAt w ad o Ab cb) (hb : Below w.heap.size w w1) : OpAt w1 ad o Ab cb :=
  ⟨pw_cell_below hb h.c0, pw_cell_below hb h.c1, pw_cell_below hb h.c2, pw_cell_below hb h.c3, pw_cell_below hb h.c4, h.rd.below hb, h.cap⟩
end Go.Proofs.YtoeiaimoppmjdaaDoor.Args
/- Frames and bytes as they come in (Frames, Turned): what their cells say. -/
namespace Go.Proofs.YtoeiaimoppmjdaaDoor.Lk
open Go Go.ChangeShapes Go.WideShapes Go.RowKit Go.Deep Go.Proofs.YtoeiaimoppmjdaaDoorW.PrintWords Go.Proofs.YtoeiaimoppmjdaaDoor.OpnS Go.Proofs.YtoeiaimoppmjdaaDoor.Bytes Go.Proofs.YtoeiaimoppmjdaaDoor.Args
set_option linter.unusedVariables false
set_option linter.unusedSimpArgs false
abbrev KU := Kd.int .u64
abbrev KFr := Kd.pair KI (Kd.pair KI (Kd.pair KU (Kd.pair KU (Kd.pair KU (Kd.pair KU KBy)))))
abbrev CF := Int × Int × Int × Int × Int × Int × List Int
abbrev KRow := Kd.slice 22 KBy
abbrev VFr (x : CF) : Prop := (Lit.int .i64 x.1).wf = true ∧ (Lit.int .i64 x.2.1).wf = true ∧ (Lit.int .u64 x.2.2.1).wf = true ∧ (Lit.int .u64 x.2.2.2.1).wf = true ∧ (Lit.int .u64 x.2.2.2.2.1).wf = true ∧ (Lit.int .u64 x.2.2.2.2.2.1).wf = true ∧ WB x.2.2.2.2.2.2
abbrev BFr (x : CF) : Nat := 1 + (1 + (1 + (1 + (1 + (1 + (sumB (fun _ => 1) x.2.2.2.2.2.2 + 1)))))) + 1
theorem opens_Fr : Opens Tryd.prog 69 KFr VFr BFr := by
  have ho := opens_struct (P := Tryd.prog) Tryd.underlying69 (by kernel_rfl) (opensF_cons (opens_int Tryd.underlying3 (by kernel_rfl)) (opensF_cons (opens_int Tryd.underlying3 (by kernel_rfl)) (opensF_cons (opens_int Tryd.underlying37 (by kernel_rfl)) (opensF_cons (opens_int Tryd.underlying37 (by kernel_rfl)) (opensF_cons (opens_int Tryd.underlying37 (by kernel_rfl)) (opensF_cons (opens_int Tryd.underlying37 (by kernel_rfl)) (opensF_one opens_bytes) rfl) rfl) rfl) rfl) rfl) rfl)
  exact ho
abbrev CFs := List CF × List (List Int)
abbrev KFs := Kd.pair (Kd.slice 69 KFr) KRow
theorem opens_Frames : Opens Tryd.prog 63 KFs
    (fun x => ((∀ o, o ∈ x.1 → VFr o) ∧ x.1.length * Tryd.prog.bytesOf 69 ≤ reachBytes) ∧ ((∀ o, o ∈ x.2 → WB o) ∧ x.2.length * Tryd.prog.bytesOf 22 ≤ reachBytes))
    (fun x => (sumB BFr x.1 + 1) + (sumB (fun l => sumB (fun _ => 1) l + 1) x.2 + 1) + 1) := by
  have ho := opens_struct (P := Tryd.prog) Tryd.underlying63 (by kernel_rfl) (opensF_cons (opens_slice Tryd.underlying60 (by kernel_rfl) opens_Fr) (opensF_one (opens_slice Tryd.underlying61 (by kernel_rfl) opens_bytes)) rfl)
  exact ho
theorem opens_Turned : Opens Tryd.prog 65 (Kd.pair KFs KI)
    (fun x => (((∀ o, o ∈ x.1.1 → VFr o) ∧ x.1.1.length * Tryd.prog.bytesOf 69 ≤ reachBytes) ∧ ((∀ o, o ∈ x.1.2 → WB o) ∧ x.1.2.length * Tryd.prog.bytesOf 22 ≤ reachBytes)) ∧ (Lit.int .i64 x.2).wf = true)
    (fun x => ((sumB BFr x.1.1 + 1) + (sumB (fun l => sumB (fun _ => 1) l + 1) x.1.2 + 1) + 1) + 1 + 1) := by
  have ho := opens_struct (P := Tryd.prog) Tryd.underlying65 (by kernel_rfl) (opensF_cons opens_Frames (opensF_one (opens_int Tryd.underlying3 (by kernel_rfl))) rfl)
  exact ho
/-- A frame of the list, as its cells say it. -/
structure FrAt (w : World) (ad : Addr) (f : Frm) (Ab : Option Addr) (cb : Nat) : Prop where
  c0 : w.cell? ad = some (.int .i64 f.src)
  c1 : w.cell? ⟨ad.block, ad.off + 1, none⟩ = some (.int .i64 f.dst)
  c2 : w.cell? ⟨ad.block, ad.off + 2, none⟩ = some (.int .u64 (f.mine : Int))
  c3 : w.cell? ⟨ad.block, ad.off + 3, none⟩ = some (.int .u64 (f.yours : Int))
  c4 : w.cell? ⟨ad.block, ad.off + 4, none⟩ = some (.int .u64 (f.seq : Int))
  c5 : w.cell? ⟨ad.block, ad.off + 5, none⟩ = some (.int .u64 (f.ack : Int))
  c6 : w.cell? ⟨ad.block, ad.off + 6, none⟩ = some (.slice Ab f.body.length cb)
  rd : ReadsOf I 0 w Ab f.body.length f.body
  byt : Byt f.body
theorem fr_at {w : World} {A : Option Addr} {os : List CF} {n : Nat} (h : KFr.C w A n os) (hv : ∀ o, o ∈ os → VFr o) (k : Nat) (hk : k < os.length) (hn : n = os.length) : ∃ ad f Ab cb, A = some ad ∧ FrAt w (ad.add (k * 7)) f Ab cb := by
  subst hn
  obtain ⟨ad, cq, rfl, hlq, hKq, hcq⟩ := Kd.C_get h (0, 0, 0, 0, 0, 0, []) (k : Int) (by omega) (by omega)
  have hgq : os.getD (k : Int).toNat (0, 0, 0, 0, 0, 0, []) = os[k] := by rw [Int.toNat_natCast, List.getD_eq_getElem?_getD, List.getElem?_eq_getElem hk]; rfl
  rw [hgq] at hKq
  rw [Int.toNat_natCast] at hcq
  have hvo := hv _ (List.getElem_mem hk)
  obtain ⟨q, hq⟩ : ∃ q, q = os[k] := ⟨_, rfl⟩
  rw [← hq] at hKq hvo
  obtain ⟨k0, k1, k2, k3, k4, k5, b⟩ := q
  obtain ⟨_, _, rfl, rfl, _, _, rfl, rfl, _, _, rfl, rfl, _, _, rfl, rfl, _, _, rfl, rfl, _, _, rfl, rfl, Ab, cb, rfl, hcap, hb⟩ := hKq
  have u2 := inu64 hvo.2.2.1
  have u3 := inu64 hvo.2.2.2.1
  have u4 := inu64 hvo.2.2.2.2.1
  have u5 := inu64 hvo.2.2.2.2.2.1
  obtain ⟨m2, e2⟩ : ∃ m : Nat, k2 = m := ⟨k2.toNat, by simp only at u2; omega⟩
  obtain ⟨m3, e3⟩ : ∃ m : Nat, k3 = m := ⟨k3.toNat, by simp only at u3; omega⟩
  obtain ⟨m4, e4⟩ : ∃ m : Nat, k4 = m := ⟨k4.toNat, by simp only at u4; omega⟩
  obtain ⟨m5, e5⟩ : ∃ m : Nat, k5 = m := ⟨k5.toNat, by simp only at u5; omega⟩
  subst e2 e3 e4 e5
  refine ⟨ad, ⟨k0, k1, m2, m3, m4, m5, b⟩, Ab, cb, rfl, hcq 0 _ rfl, ?_, ?_, ?_, ?_, ?_, ?_, Args.by_reads hb, wb_byt hvo.2.2.2.2.2.2⟩
  · rw [← add_field _ _ 1 (by omega)]; exact hcq 1 _ rfl
  · rw [← add_field _ _ 2 (by omega)]; exact hcq 2 _ rfl
  · rw [← add_field _ _ 3 (by omega)]; exact hcq 3 _ rfl
  · rw [← add_field _ _ 4 (by omega)]; exact hcq 4 _ rfl
  · rw [← add_field _ _ 5 (by omega)]; exact hcq 5 _ rfl
  · rw [← add_field _ _ 6 (by omega)]; exact hcq 6 _ rfl
theorem FrAt.below {w w1 : World} {ad : Addr} {f : Frm} {Ab : Option Addr} {cb : Nat} (h : FrAt w ad f Ab cb) (hb : Below w.heap.size w w1) : FrAt w1 ad f Ab cb :=
  ⟨pw_cell_below hb h.c0, pw_cell_below hb h.c1, pw_cell_below hb h.c2, pw_cell_below hb h.c3, pw_cell_below hb h.c4, pw_cell_below hb h.c5, pw_cell_below hb h.c6, h.rd.below hb, h.byt⟩
/-- A list of bytes of the list. -/
theorem row_at {w : World} {A : Option Addr} {os : List (List Int)} {n : Nat} (h : KBy.C w A n os) (k : Nat) (hk : k < os.length) (hn : n = os.length) : ∃ ad Ab cb, A = some ad ∧ w.cell? (ad.add k) = some (.slice Ab (os[k]).length cb) ∧ ReadsOf I 0 w Ab (os[k]).length os[k] := by
  subst hn
  obtain ⟨ad, cq, rfl, hlq, hKq, hcq⟩ := Kd.C_get h [] (k : Int) (by omega) (by omega)
  have hgq : os.getD (k : Int).toNat [] = os[k] := by rw [Int.toNat_natCast, List.getD_eq_getElem?_getD, List.getElem?_eq_getElem hk]; rfl
  rw [hgq] at hKq
  rw [Int.toNat_natCast] at hcq
  obtain ⟨Ab, cb, rfl, hcap, hb⟩ := hKq
  have h9 := hcq 0 _ rfl
  rw [show KBy.sz = 1 from rfl] at h9
  exact ⟨ad, Ab, cb, rfl, by simpa using h9, Args.by_reads hb⟩
end Go.Proofs.YtoeiaimoppmjdaaDoor.Lk
/- Plain: the register's step has order 2^32 - 1 at 1: two powers of it that differ by less than 2^24 differ at 1. -/
namespace Go.Proofs.YtoeiaimoppmjdaaDoor.Crc
set_option linter.unusedVariables false
set_option linter.unusedSimpArgs false
/-- A linear map, by its columns. -/
def app : List Nat → Nat → Nat
  | [], _ => 0
  | c :: cs, v => Nat.xor ((v % 2) * c) (app cs (v / 2))
theorem app_xor (M : List Nat) (u v : Nat) : app M (u ^^^ v) = app M u ^^^ app M v := by
  induction M generalizing u v with
  | nil => simp [app]
  | cons c cs ih =>
    simp only [app]
    rw [Nat.xor_div_two, ih]
    show ((u ^^^ v) % 2 * c) ^^^ (app cs (u / 2) ^^^ app cs (v / 2)) = (u % 2 * c ^^^ app cs (u / 2)) ^^^ (v % 2 * c ^^^ app cs (v / 2))
    have hm : (u ^^^ v) % 2 * c = (u % 2 * c) ^^^ (v % 2 * c) := by
      have hx : (u ^^^ v) % 2 = (u % 2) ^^^ (v % 2) := Nat.xor_mod_two_pow (n := 1)
      rw [hx]
      rcases Nat.mod_two_eq_zero_or_one u with h1 | h1 <;> rcases Nat.mod_two_eq_zero_or_one v with h2 | h2 <;> simp [h1, h2]
    rw [hm]
    generalize u % 2 * c = a
    generalize v % 2 * c = b
    generalize app cs (u / 2) = x
    generalize app cs (v / 2) = y
    ac_rfl
theorem app_zero (M : List Nat) : app M 0 = 0 := by
  induction M with
  | nil => rfl
  | cons c cs ih => simp only [app]; rw [show 0 / 2 = 0 from rfl, ih]; simp [Nat.xor_eq]
theorem app_bit (M : List Nat) (v c : Nat) : app M (v % 2 * c) = v % 2 * app M c := by
  rcases Nat.mod_two_eq_zero_or_one v with h | h
  · rw [h, Nat.zero_mul, Nat.zero_mul, app_zero]
  · rw [h, Nat.one_mul, Nat.one_mul]
/-- One map behind the other. -/
theorem app_map (N : List Nat) (M : List Nat) (v : Nat) : app (M.map (app N)) v = app N (app M v) := by
  induction M generalizing v with
  | nil => simp [app, app_zero]
  | cons c cs ih =>
    simp only [List.map_cons, app]
    rw [ih]
    show v % 2 * app N c ^^^ app N (app cs (v / 2)) = app N (v % 2 * c ^^^ app cs (v / 2))
    rw [app_xor, app_bit]
def pows : Nat → Nat → List Nat
  | _, 0 => []
  | k, n + 1 => 2 ^ k :: pows (k + 1) n
theorem low_bit (u : Nat) : u % 2 ^^^ 2 * (u / 2) = u := by
  apply Nat.eq_of_testBit_eq
  intro i
  rw [Nat.testBit_xor]
  cases i with
  | zero => simp [Nat.testBit_zero]
  | succ i =>
    rw [Nat.testBit_succ, Nat.testBit_succ, Nat.testBit_succ]
    rw [show u % 2 / 2 = 0 by omega, show 2 * (u / 2) / 2 = u / 2 by omega]
    simp
theorem app_pows (k n u : Nat) (h : u < 2 ^ n) : app (pows k n) u = u * 2 ^ k := by
  induction n generalizing k u with
  | zero => obtain rfl : u = 0 := by simpa using h
            simp [pows, app]
  | succ n ih =>
    simp only [pows, app]
    rw [ih (k + 1) (u / 2) (by rw [Nat.pow_succ] at h; omega)]
    show u % 2 * 2 ^ k ^^^ u / 2 * 2 ^ (k + 1) = u * 2 ^ k
    conv => rhs; rw [← low_bit u]
    rw [← Nat.shiftLeft_eq, ← Nat.shiftLeft_eq (u % 2 ^^^ 2 * (u / 2)), Nat.shiftLeft_xor_distrib, Nat.shiftLeft_eq (2 * (u / 2))]
    congr 1
    rw [Nat.pow_succ, Nat.mul_comm 2 (u / 2), Nat.mul_assoc, Nat.mul_comm 2 (2 ^ k)]
/-- The columns stand for a map of registers. -/
abbrev Rep (M : List Nat) (k : Nat) : Prop := ∀ s : B, app M s.toNat = (it k s).toNat
theorem rep_twice {M M' : List Nat} {k : Nat} (h : Rep M k) (he : M.map (app M) = M') : Rep M' (k + k) := by
  intro s
  rw [← he, app_map, h s, h (it k s), ← it_add]
theorem st_nat (s : B) : (st s).toNat = (s.toNat % 2 * 3988292384) ^^^ (s.toNat / 2) := by
  unfold st
  rw [BitVec.toNat_xor, BitVec.toNat_ushiftRight, Nat.shiftRight_eq_div_pow, Nat.pow_one, Nat.xor_comm]
  congr 1
  rw [BitVec.getLsbD, Nat.testBit_zero]
  rcases Nat.mod_two_eq_zero_or_one s.toNat with h | h <;> simp [h, poly]
def m0 : List Nat := 3988292384 :: pows 0 31
theorem rep0 : Rep m0 1 := by
  intro s
  show app m0 s.toNat = (st s).toNat
  rw [st_nat]
  unfold m0
  simp only [app]
  rw [app_pows 0 31 _ (by have := s.isLt; omega), Nat.pow_zero, Nat.mul_one]
  rfl
set_option maxRecDepth 100000
def m1 : List Nat := [1994146192, 3988292384, 1, 2, 4, 8, 16, 32, 64, 128, 256, 512, 1024, 2048, 4096, 8192, 16384, 32768, 65536, 131072, 262144, 524288, 1048576, 2097152, 4194304, 8388608, 16777216, 33554432, 67108864, 134217728, 268435456, 536870912]
theorem rep1 : Rep m1 2 := rep_twice rep0 (by decide +kernel)
def m2 : List Nat := [498536548, 997073096, 1994146192, 3988292384, 1, 2, 4, 8, 16, 32, 64, 128, 256, 512, 1024, 2048, 4096, 8192, 16384, 32768, 65536, 131072, 262144, 524288, 1048576, 2097152, 4194304, 8388608, 16777216, 33554432, 67108864, 134217728]
theorem rep2 : Rep m2 4 := rep_twice rep1 (by decide +kernel)
def m3 : List Nat := [1996959894, 3993919788, 124634137, 249268274, 498536548, 997073096, 1994146192, 3988292384, 1, 2, 4, 8, 16, 32, 64, 128, 256, 512, 1024, 2048, 4096, 8192, 16384, 32768, 65536, 131072, 262144, 524288, 1048576, 2097152, 4194304, 8388608]
theorem rep3 : Rep m3 8 := rep_twice rep2 (by decide +kernel)
def m4 : List Nat := [421212481, 842424962, 1684849924, 3369699848, 1254232657, 2508465314, 4034481925, 998479947, 1996959894, 3993919788, 124634137, 249268274, 498536548, 997073096, 1994146192, 3988292384, 1, 2, 4, 8, 16, 32, 64, 128, 256, 512, 1024, 2048, 4096, 8192, 16384, 32768]
theorem rep4 : Rep m4 16 := rep_twice rep3 (by decide +kernel)
def m5 : List Nat := [3099354981, 2852767883, 2405603159, 3316918511, 1343838111, 2687676222, 2601801789, 3982079547, 29518391, 59036782, 118073564, 236147128, 472294256, 944588512, 1889177024, 3778354048, 421212481, 842424962, 1684849924, 3369699848, 1254232657, 2508465314, 4034481925, 998479947, 1996959894, 3993919788, 124634137, 249268274, 498536548, 997073096, 1994146192, 3988292384]
theorem rep5 : Rep m5 32 := rep_twice rep4 (by decide +kernel)
def m6 : List Nat := [3433693342, 1109723005, 2219446010, 3555007413, 2092642603, 4185285206, 698204909, 1396409818, 2792819636, 2543784233, 4098827283, 871321191, 1742642382, 3485284764, 1141601657, 2283203314, 3411858341, 1304994059, 2609988118, 3964895853, 64357019, 128714038, 257428076, 514856152, 1029712304, 2059424608, 4118849216, 812665793, 1625331586, 3250663172, 1492342857, 2984685714]
theorem rep6 : Rep m6 64 := rep_twice rep5 (by decide +kernel)
def m7 : List Nat := [2926088593, 2275419491, 3560000647, 1930665807, 3861331614, 390036349, 780072698, 1560145396, 3120290792, 2827399569, 2323408227, 3481914503, 1147313999, 2294627998, 3405478781, 1317531835, 2635063670, 3782132909, 430739227, 861478454, 1722956908, 3445913816, 1102706673, 2205413346, 3717650821, 1616688459, 3233376918, 1510200173, 3020400346, 3011398645, 3180171691, 2691310871]
theorem rep7 : Rep m7 128 := rep_twice rep6 (by decide +kernel)
def m8 : List Nat := [4057597354, 952438037, 1904876074, 3809752148, 492400361, 984800722, 1969601444, 3939202888, 250079441, 500158882, 1000317764, 2000635528, 4001271056, 126622817, 253245634, 506491268, 1012982536, 2025965072, 4051930144, 947265025, 1894530050, 3789060100, 415364681, 830729362, 1661458724, 3322917448, 1466852049, 2933704098, 2261290245, 3605011531, 1991327447, 3982654894]
theorem rep8 : Rep m8 256 := rep_twice rep7 (by decide +kernel)
def m9 : List Nat := [2402626965, 3306904939, 1363655831, 2727311662, 2658137117, 3887001211, 338483895, 676967790, 1353935580, 2707871160, 2579279153, 3892861987, 190955015, 381910030, 763820060, 1527640120, 3055280240, 3074868897, 3053226755, 2961707079, 3126929103, 2947763167, 2216137215, 3546162623, 2110606655, 4221213310, 742666941, 1485333882, 2970667764, 3109065641, 2848989459, 2295415911]
theorem rep9 : Rep m9 512 := rep_twice rep8 (by decide +kernel)
def m10 : List Nat := [872412467, 1744824934, 3489649868, 1150201817, 2300403634, 3377183013, 1239839755, 2479679510, 4243117677, 580954779, 1161909558, 2323819116, 3463729817, 1201251187, 2402502374, 3306654605, 1365119323, 2730238646, 2651407149, 3882057755, 364250743, 728501486, 1457002972, 2914005944, 2148622641, 3679700003, 1842777607, 3685555214, 1814773341, 3629546682, 1809710901, 3619421802]
theorem rep10 : Rep m10 1024 := rep_twice rep9 (by decide +kernel)
def m11 : List Nat := [3459477963, 1192748503, 2385497006, 3341717789, 1428956283, 2857912566, 2411829165, 3304204571, 1385518199, 2771036398, 2435078045, 4181305723, 688018615, 1376037230, 2752074460, 2472780793, 4256580019, 538805543, 1077611086, 2155222172, 3684511609, 1816877235, 3633754470, 1784439949, 3568879898, 1912640629, 3825281258, 326326165, 652652330, 1305304660, 2610609320, 3963911953]
theorem rep11 : Rep m11 2048 := rep_twice rep10 (by decide +kernel)
def m12 : List Nat := [275962664, 551925328, 1103850656, 2207701312, 3697063105, 1674080195, 3348160390, 1414576461, 2829152922, 2318656373, 3474374827, 1163691799, 2327383598, 3456309789, 1198994043, 2397988086, 3333279661, 1445632283, 2891264566, 2212192813, 3704078875, 1660846711, 3321693422, 1351290781, 2702581562, 2573023285, 3922425387, 149416471, 298832942, 597665884, 1195331768, 2390663536]
theorem rep12 : Rep m12 4096 := rep_twice rep11 (by decide +kernel)
def m13 : List Nat := [4170314095, 710075551, 1420151102, 2840302204, 2313560761, 3367846707, 1242267687, 2484535374, 4083091165, 1036979195, 2073958390, 4147916780, 889805209, 1779610418, 3559220836, 1933298313, 3866596626, 396242021, 792484042, 1584968084, 3169936168, 2727591953, 2656470627, 3889957511, 348721999, 697443998, 1394887996, 2789775992, 2548052657, 4105265955, 840155143, 1680310286]
theorem rep13 : Rep m13 8192 := rep_twice rep12 (by decide +kernel)
def m14 : List Nat := [2293676643, 3390861959, 1330242383, 2660484766, 3864431485, 400298171, 800596342, 1601192684, 3202385368, 2796555761, 2517704099, 4149427463, 903314511, 1806629022, 3613258044, 1976230969, 3952461938, 207263397, 414526794, 829053588, 1658107176, 3316214352, 1344525025, 2689050050, 2617134533, 3968703947, 40517079, 81034158, 162068316, 324136632, 648273264, 1296546528]
theorem rep14 : Rep m14 16384 := rep_twice rep13 (by decide +kernel)
def m15 : List Nat := [1524148524, 3048297048, 2954076913, 3142992803, 2916974855, 2160723023, 3672444639, 1857756159, 3715512318, 1637706173, 3275412346, 1560584373, 3121168746, 2942534805, 2243301227, 3491567767, 2068526959, 4137053918, 912120829, 1824241658, 3648483316, 1772083625, 3544167250, 2098094309, 4196188618, 793282005, 1586564010, 3173128020, 2704615657, 2568705939, 3913787751, 167662735]
theorem rep15 : Rep m15 32768 := rep_twice rep14 (by decide +kernel)
def m16 : List Nat := [3043423970, 2981948293, 3087585611, 2875237591, 2377142255, 3222378911, 1532114303, 3064228606, 3057243069, 3070402875, 3044295735, 2979630639, 3091339807, 2884973183, 2358993599, 3259482943, 1610514495, 3221028990, 2760574653, 2456226619, 4290711607, 604972591, 1209945182, 2419890364, 4211619641, 761358387, 1522716774, 3045433548, 2960803801, 3146090995, 2893682087, 2206543119]
theorem rep16 : Rep m16 65536 := rep_twice rep15 (by decide +kernel)
def m17 : List Nat := [2643536319, 3763557695, 467119167, 934238334, 1868476668, 3736953336, 1712047537, 3424095074, 1130238085, 2260476170, 3590931541, 2003013355, 4006026710, 117390829, 234781658, 469563316, 939126632, 1878253264, 3756506528, 1690205441, 3380410882, 1233711685, 2467423370, 4250062677, 567580907, 1135161814, 2270323628, 3587555609, 1893368947, 3786737894, 404428685, 808857370]
theorem rep17 : Rep m17 131072 := rep_twice rep16 (by decide +kernel)
def m18 : List Nat := [786709036, 1573418072, 3146836144, 2890979105, 2211489795, 3704641095, 1657907919, 3315815838, 1345826173, 2691652346, 2611983285, 3962462507, 53330967, 106661934, 213323868, 426647736, 853295472, 1706590944, 3413181888, 1301482945, 2602965890, 3980210501, 17523915, 35047830, 70095660, 140191320, 280382640, 560765280, 1121530560, 2243061120, 3491089729, 2069535939]
theorem rep18 : Rep m18 262144 := rep_twice rep17 (by decide +kernel)
def m19 : List Nat := [457511406, 915022812, 1830045624, 3660091248, 1864374433, 3728748866, 1743873221, 3487746442, 1152685397, 2305370794, 3382924053, 1211605099, 2423210198, 4222584813, 741214619, 1482429238, 2964858476, 3120646809, 2943587187, 2241208487, 3495773967, 2076936287, 4153872574, 878651197, 1757302394, 3514604788, 2038972329, 4077944658, 1028782309, 2057564618, 4115129236, 838779241]
theorem rep19 : Rep m19 524288 := rep_twice rep18 (by decide +kernel)
def m20 : List Nat := [3168883202, 2729681477, 2652259019, 3881665495, 365560303, 731120606, 1462241212, 2924482424, 2278627505, 3570612003, 1926719495, 3853438990, 271361629, 542723258, 1085446516, 2170893032, 3652936593, 1745338723, 3490677446, 2070807501, 4141615002, 919144821, 1838289642, 3676579284, 1832472041, 3664944082, 1871983077, 3743966154, 1696711125, 3393422250, 1341522197, 2683044394]
theorem rep20 : Rep m20 1048576 := rep_twice rep19 (by decide +kernel)
def m21 : List Nat := [4278773231, 627101087, 1254202174, 2508404348, 4034357945, 1000330035, 2000660070, 4001320140, 126853081, 253706162, 507412324, 1014824648, 2029649296, 4059298592, 949415937, 1898831874, 3797663748, 533104201, 1066208402, 2132416804, 4264833608, 655975121, 1311950242, 2623900484, 3820622025, 470099923, 940199846, 1880399692, 3760799384, 455310193, 910620386, 1821240772]
theorem rep21 : Rep m21 2097152 := rep_twice rep20 (by decide +kernel)
def m22 : List Nat := [1870010158, 3740020316, 1722374905, 3444749810, 1104440741, 2208881482, 3693129941, 1664116715, 3328233430, 1471191533, 2942383066, 2243125749, 3491218859, 2069794071, 4139588142, 906703389, 1813406778, 3626813556, 1797822121, 3595644242, 2010340581, 4020681162, 71071189, 142142378, 284284756, 568569512, 1137139024, 2274278048, 3563877121, 1940512835, 3881025670, 366380877]
theorem rep22 : Rep m22 4194304 := rep_twice rep21 (by decide +kernel)
def m23 : List Nat := [1458948793, 2917897586, 2158374053, 3661455115, 1863039063, 3726078126, 1734338333, 3468676666, 1175362101, 2350724202, 3276500629, 1575476075, 3150952150, 2901306349, 2192429467, 3727336823, 1730432175, 3460864350, 1205875965, 2411751930, 3304183221, 1385344299, 2770688598, 2436608749, 4177945499, 696107383, 1392214766, 2784429532, 2426342905, 4199488947, 804207911, 1608415822]
theorem rep23 : Rep m23 8388608 := rep_twice rep22 (by decide +kernel)
def m24 : List Nat := [945394604, 1890789208, 3781578416, 431856417, 863712834, 1727425668, 3454851336, 1084798033, 2169596066, 3654539013, 1758898251, 3517796502, 2016126829, 4032253658, 1004510197, 2009020394, 4018040788, 93182441, 186364882, 372729764, 745459528, 1490919056, 2981838112, 3087498241, 2877292099, 2374957767, 3228365775, 1537794527, 3075589054, 3050471741, 2966684731, 3134787127]
theorem rep24 : Rep m24 16777216 := rep_twice rep23 (by decide +kernel)
def m25 : List Nat := [3022289696, 3006918657, 3171083843, 2708785863, 2576913359, 3896517087, 200361471, 400722942, 801445884, 1602891768, 3205783536, 2774120865, 2445440259, 4176866375, 714792655, 1429585310, 2859170620, 2410147897, 3292456499, 1393347111, 2786694222, 2537696989, 4126497787, 815509943, 1631019886, 3262039772, 1605143545, 3210287090, 2781030821, 2432128267, 4204768343, 776888047]
theorem rep25 : Rep m25 33554432 := rep_twice rep24 (by decide +kernel)
def m26 : List Nat := [1766950567, 3533901134, 2117541085, 4235082170, 598570293, 1197140586, 2394281172, 3323637737, 1464097171, 2928194342, 2254462989, 3618752091, 1947372279, 3894744558, 188427677, 376855354, 753710708, 1507421416, 3014842832, 3155473889, 2740481411, 2646728007, 3774004431, 445939679, 891879358, 1783758716, 3567517432, 1916206001, 3832412002, 329967749, 659935498, 1319870996]
theorem rep26 : Rep m26 67108864 := rep_twice rep25 (by decide +kernel)
def m27 : List Nat := [1723596830, 3447193660, 1098974777, 2197949554, 3715440293, 1637563147, 3275126294, 1562241645, 3124483290, 2936451061, 2239519147, 3515462935, 2019716207, 4039432414, 989378557, 1978757114, 3957514228, 213170601, 426341202, 852682404, 1705364808, 3410729616, 1306932065, 2613864130, 3974745029, 44208587, 88417174, 176834348, 353668696, 707337392, 1414674784, 2829349568]
theorem rep27 : Rep m27 134217728 := rep_twice rep26 (by decide +kernel)
def m28 : List Nat := [3045795763, 2959558951, 3149894671, 2886610527, 2204982015, 3719017407, 1613127999, 3226255998, 1541964477, 3083928954, 3033730229, 3000442667, 3202299927, 2798614127, 2532305567, 4138652543, 908894399, 1817788798, 3635577596, 1779696569, 3559393138, 1931544741, 3863089482, 401941717, 803883434, 1607766868, 3215533736, 2753776401, 2469892195, 4246611591, 558713679, 1117427358]
theorem rep28 : Rep m28 268435456 := rep_twice rep27 (by decide +kernel)
def m29 : List Nat := [4263981410, 658465925, 1316931850, 2633863700, 3800703593, 509952659, 1019905318, 2039810636, 4079621272, 1025847153, 2051694306, 4103388612, 844660169, 1689320338, 3378640676, 1236461577, 2472923154, 4256867941, 537152139, 1074304278, 2148608556, 3679670809, 1842848371, 3685696742, 1815056269, 3630112538, 1808742517, 3617485034, 1951262613, 3902525226, 172398613, 344797226]
theorem rep29 : Rep m29 536870912 := rep_twice rep28 (by decide +kernel)
def m30 : List Nat := [3553200147, 2095191655, 4190383310, 687431645, 1374863290, 2749726580, 2629564585, 3792107283, 528279655, 1056559310, 2113118620, 4226237240, 750747697, 1501495394, 3002990788, 3196913609, 2792032723, 2544309735, 4097781135, 856644959, 1713289918, 3426579836, 1124854969, 2249709938, 3613308069, 1976332043, 3952664086, 205568621, 411137242, 822274484, 1644548968, 3289097936]
theorem rep30 : Rep m30 1073741824 := rep_twice rep29 (by decide +kernel)
def m31 : List Nat := [4158054068, 886881065, 1773762130, 3547524260, 2106908425, 4213816850, 757234277, 1514468554, 3028937108, 2992821609, 3216288915, 2753060711, 2470557839, 4260525919, 546695423, 1093390846, 2186781692, 3755884985, 1691190579, 3382381158, 1212617357, 2425234714, 4201466997, 799776427, 1599552854, 3199105708, 2788029209, 2536169587, 4112828071, 825789199, 1651578398, 3303156796]
theorem rep31 : Rep m31 2147483648 := rep_twice rep30 (by decide +kernel)
theorem all_0 : (it 1 1#32).toNat = 3988292384 := by rw [← rep0]; decide +kernel
theorem all_1 : (it 3 1#32).toNat = 997073096 := by rw [show 3 = 2 + 1 from rfl, it_add, ← rep1, all_0]; decide +kernel
theorem all_2 : (it 7 1#32).toNat = 3993919788 := by rw [show 7 = 4 + 3 from rfl, it_add, ← rep2, all_1]; decide +kernel
theorem all_3 : (it 15 1#32).toNat = 842424962 := by rw [show 15 = 8 + 7 from rfl, it_add, ← rep3, all_2]; decide +kernel
theorem all_4 : (it 31 1#32).toNat = 2852767883 := by rw [show 31 = 16 + 15 from rfl, it_add, ← rep4, all_3]; decide +kernel
theorem all_5 : (it 63 1#32).toNat = 1109723005 := by rw [show 63 = 32 + 31 from rfl, it_add, ← rep5, all_4]; decide +kernel
theorem all_6 : (it 127 1#32).toNat = 2275419491 := by rw [show 127 = 64 + 63 from rfl, it_add, ← rep6, all_5]; decide +kernel
theorem all_7 : (it 255 1#32).toNat = 952438037 := by rw [show 255 = 128 + 127 from rfl, it_add, ← rep7, all_6]; decide +kernel
theorem all_8 : (it 511 1#32).toNat = 3306904939 := by rw [show 511 = 256 + 255 from rfl, it_add, ← rep8, all_7]; decide +kernel
theorem all_9 : (it 1023 1#32).toNat = 1744824934 := by rw [show 1023 = 512 + 511 from rfl, it_add, ← rep9, all_8]; decide +kernel
theorem all_10 : (it 2047 1#32).toNat = 1192748503 := by rw [show 2047 = 1024 + 1023 from rfl, it_add, ← rep10, all_9]; decide +kernel
theorem all_11 : (it 4095 1#32).toNat = 551925328 := by rw [show 4095 = 2048 + 2047 from rfl, it_add, ← rep11, all_10]; decide +kernel
theorem all_12 : (it 8191 1#32).toNat = 710075551 := by rw [show 8191 = 4096 + 4095 from rfl, it_add, ← rep12, all_11]; decide +kernel
theorem all_13 : (it 16383 1#32).toNat = 3390861959 := by rw [show 16383 = 8192 + 8191 from rfl, it_add, ← rep13, all_12]; decide +kernel
theorem all_14 : (it 32767 1#32).toNat = 3048297048 := by rw [show 32767 = 16384 + 16383 from rfl, it_add, ← rep14, all_13]; decide +kernel
theorem all_15 : (it 65535 1#32).toNat = 2981948293 := by rw [show 65535 = 32768 + 32767 from rfl, it_add, ← rep15, all_14]; decide +kernel
theorem all_16 : (it 131071 1#32).toNat = 3763557695 := by rw [show 131071 = 65536 + 65535 from rfl, it_add, ← rep16, all_15]; decide +kernel
theorem all_17 : (it 262143 1#32).toNat = 1573418072 := by rw [show 262143 = 131072 + 131071 from rfl, it_add, ← rep17, all_16]; decide +kernel
theorem all_18 : (it 524287 1#32).toNat = 915022812 := by rw [show 524287 = 262144 + 262143 from rfl, it_add, ← rep18, all_17]; decide +kernel
theorem all_19 : (it 1048575 1#32).toNat = 2729681477 := by rw [show 1048575 = 524288 + 524287 from rfl, it_add, ← rep19, all_18]; decide +kernel
theorem all_20 : (it 2097151 1#32).toNat = 627101087 := by rw [show 2097151 = 1048576 + 1048575 from rfl, it_add, ← rep20, all_19]; decide +kernel
theorem all_21 : (it 4194303 1#32).toNat = 3740020316 := by rw [show 4194303 = 2097152 + 2097151 from rfl, it_add, ← rep21, all_20]; decide +kernel
theorem all_22 : (it 8388607 1#32).toNat = 2917897586 := by rw [show 8388607 = 4194304 + 4194303 from rfl, it_add, ← rep22, all_21]; decide +kernel
theorem all_23 : (it 16777215 1#32).toNat = 1890789208 := by rw [show 16777215 = 8388608 + 8388607 from rfl, it_add, ← rep23, all_22]; decide +kernel
theorem all_24 : (it 33554431 1#32).toNat = 3006918657 := by rw [show 33554431 = 16777216 + 16777215 from rfl, it_add, ← rep24, all_23]; decide +kernel
theorem all_25 : (it 67108863 1#32).toNat = 3533901134 := by rw [show 67108863 = 33554432 + 33554431 from rfl, it_add, ← rep25, all_24]; decide +kernel
theorem all_26 : (it 134217727 1#32).toNat = 3447193660 := by rw [show 134217727 = 67108864 + 67108863 from rfl, it_add, ← rep26, all_25]; decide +kernel
theorem all_27 : (it 268435455 1#32).toNat = 2959558951 := by rw [show 268435455 = 134217728 + 134217727 from rfl, it_add, ← rep27, all_26]; decide +kernel
theorem all_28 : (it 536870911 1#32).toNat = 658465925 := by rw [show 536870911 = 268435456 + 268435455 from rfl, it_add, ← rep28, all_27]; decide +kernel
theorem all_29 : (it 1073741823 1#32).toNat = 2095191655 := by rw [show 1073741823 = 536870912 + 536870911 from rfl, it_add, ← rep29, all_28]; decide +kernel
theorem all_30 : (it 2147483647 1#32).toNat = 886881065 := by rw [show 2147483647 = 1073741824 + 1073741823 from rfl, it_add, ← rep30, all_29]; decide +kernel
theorem all_31 : (it 4294967295 1#32).toNat = 1 := by rw [show 4294967295 = 2147483648 + 2147483647 from rfl, it_add, ← rep31, all_30]; decide +kernel
theorem all : it 4294967295 1#32 = 1#32 := BitVec.eq_of_toNat_eq (all_31.trans rfl)
theorem d3_0 : (it 1 1#32).toNat = 3988292384 := by rw [← rep0]; decide +kernel
theorem d3_1 : (it 5 1#32).toNat = 249268274 := by rw [show 5 = 4 + 1 from rfl, it_add, ← rep2, d3_0]; decide +kernel
theorem d3_2 : (it 21 1#32).toNat = 236147128 := by rw [show 21 = 16 + 5 from rfl, it_add, ← rep4, d3_1]; decide +kernel
theorem d3_3 : (it 85 1#32).toNat = 3133399365 := by rw [show 85 = 64 + 21 from rfl, it_add, ← rep6, d3_2]; decide +kernel
theorem d3_4 : (it 341 1#32).toNat = 1426898203 := by rw [show 341 = 256 + 85 from rfl, it_add, ← rep8, d3_3]; decide +kernel
theorem d3_5 : (it 1365 1#32).toNat = 1964593414 := by rw [show 1365 = 1024 + 341 from rfl, it_add, ← rep10, d3_4]; decide +kernel
theorem d3_6 : (it 5461 1#32).toNat = 2688728703 := by rw [show 5461 = 4096 + 1365 from rfl, it_add, ← rep12, d3_5]; decide +kernel
theorem d3_7 : (it 21845 1#32).toNat = 2741766692 := by rw [show 21845 = 16384 + 5461 from rfl, it_add, ← rep14, d3_6]; decide +kernel
theorem d3_8 : (it 87381 1#32).toNat = 3390503873 := by rw [show 87381 = 65536 + 21845 from rfl, it_add, ← rep16, d3_7]; decide +kernel
theorem d3_9 : (it 349525 1#32).toNat = 853040404 := by rw [show 349525 = 262144 + 87381 from rfl, it_add, ← rep18, d3_8]; decide +kernel
theorem d3_10 : (it 1398101 1#32).toNat = 2248029809 := by rw [show 1398101 = 1048576 + 349525 from rfl, it_add, ← rep20, d3_9]; decide +kernel
theorem d3_11 : (it 5592405 1#32).toNat = 2503407113 := by rw [show 5592405 = 4194304 + 1398101 from rfl, it_add, ← rep22, d3_10]; decide +kernel
theorem d3_12 : (it 22369621 1#32).toNat = 1212402061 := by rw [show 22369621 = 16777216 + 5592405 from rfl, it_add, ← rep24, d3_11]; decide +kernel
theorem d3_13 : (it 89478485 1#32).toNat = 1880009134 := by rw [show 89478485 = 67108864 + 22369621 from rfl, it_add, ← rep26, d3_12]; decide +kernel
theorem d3_14 : (it 357913941 1#32).toNat = 2465499040 := by rw [show 357913941 = 268435456 + 89478485 from rfl, it_add, ← rep28, d3_13]; decide +kernel
theorem d3_15 : (it 1431655765 1#32).toNat = 2438888476 := by rw [show 1431655765 = 1073741824 + 357913941 from rfl, it_add, ← rep30, d3_14]; decide +kernel
theorem d3 : it 1431655765 1#32 ≠ 1#32 := fun h => absurd ((d3_15).symm.trans (congrArg BitVec.toNat h)) (by decide)
theorem d5_0 : (it 1 1#32).toNat = 3988292384 := by rw [← rep0]; decide +kernel
theorem d5_1 : (it 3 1#32).toNat = 997073096 := by rw [show 3 = 2 + 1 from rfl, it_add, ← rep1, d5_0]; decide +kernel
theorem d5_2 : (it 19 1#32).toNat = 944588512 := by rw [show 19 = 16 + 3 from rfl, it_add, ← rep4, d5_1]; decide +kernel
theorem d5_3 : (it 51 1#32).toNat = 3485284764 := by rw [show 51 = 32 + 19 from rfl, it_add, ← rep5, d5_2]; decide +kernel
theorem d5_4 : (it 307 1#32).toNat = 1735220780 := by rw [show 307 = 256 + 51 from rfl, it_add, ← rep8, d5_3]; decide +kernel
theorem d5_5 : (it 819 1#32).toNat = 3221995297 := by rw [show 819 = 512 + 307 from rfl, it_add, ← rep9, d5_4]; decide +kernel
theorem d5_6 : (it 4915 1#32).toNat = 3408647982 := by rw [show 4915 = 4096 + 819 from rfl, it_add, ← rep12, d5_5]; decide +kernel
theorem d5_7 : (it 13107 1#32).toNat = 4164760600 := by rw [show 13107 = 8192 + 4915 from rfl, it_add, ← rep13, d5_6]; decide +kernel
theorem d5_8 : (it 78643 1#32).toNat = 2738121344 := by rw [show 78643 = 65536 + 13107 from rfl, it_add, ← rep16, d5_7]; decide +kernel
theorem d5_9 : (it 209715 1#32).toNat = 3659815314 := by rw [show 209715 = 131072 + 78643 from rfl, it_add, ← rep17, d5_8]; decide +kernel
theorem d5_10 : (it 1258291 1#32).toNat = 2104486405 := by rw [show 1258291 = 1048576 + 209715 from rfl, it_add, ← rep20, d5_9]; decide +kernel
theorem d5_11 : (it 3355443 1#32).toNat = 2351682344 := by rw [show 3355443 = 2097152 + 1258291 from rfl, it_add, ← rep21, d5_10]; decide +kernel
theorem d5_12 : (it 20132659 1#32).toNat = 2525368414 := by rw [show 20132659 = 16777216 + 3355443 from rfl, it_add, ← rep24, d5_11]; decide +kernel
theorem d5_13 : (it 53687091 1#32).toNat = 3249136228 := by rw [show 53687091 = 33554432 + 20132659 from rfl, it_add, ← rep25, d5_12]; decide +kernel
theorem d5_14 : (it 322122547 1#32).toNat = 62658423 := by rw [show 322122547 = 268435456 + 53687091 from rfl, it_add, ← rep28, d5_13]; decide +kernel
theorem d5_15 : (it 858993459 1#32).toNat = 2244940330 := by rw [show 858993459 = 536870912 + 322122547 from rfl, it_add, ← rep29, d5_14]; decide +kernel
theorem d5 : it 858993459 1#32 ≠ 1#32 := fun h => absurd ((d5_15).symm.trans (congrArg BitVec.toNat h)) (by decide)
theorem d17_0 : (it 1 1#32).toNat = 3988292384 := by rw [← rep0]; decide +kernel
theorem d17_1 : (it 3 1#32).toNat = 997073096 := by rw [show 3 = 2 + 1 from rfl, it_add, ← rep1, d17_0]; decide +kernel
theorem d17_2 : (it 7 1#32).toNat = 3993919788 := by rw [show 7 = 4 + 3 from rfl, it_add, ← rep2, d17_1]; decide +kernel
theorem d17_3 : (it 15 1#32).toNat = 842424962 := by rw [show 15 = 8 + 7 from rfl, it_add, ← rep3, d17_2]; decide +kernel
theorem d17_4 : (it 271 1#32).toNat = 1225040492 := by rw [show 271 = 256 + 15 from rfl, it_add, ← rep8, d17_3]; decide +kernel
theorem d17_5 : (it 783 1#32).toNat = 3582667438 := by rw [show 783 = 512 + 271 from rfl, it_add, ← rep9, d17_4]; decide +kernel
theorem d17_6 : (it 1807 1#32).toNat = 3708367806 := by rw [show 1807 = 1024 + 783 from rfl, it_add, ← rep10, d17_5]; decide +kernel
theorem d17_7 : (it 3855 1#32).toNat = 3055252587 := by rw [show 3855 = 2048 + 1807 from rfl, it_add, ← rep11, d17_6]; decide +kernel
theorem d17_8 : (it 69391 1#32).toNat = 1822677893 := by rw [show 69391 = 65536 + 3855 from rfl, it_add, ← rep16, d17_7]; decide +kernel
theorem d17_9 : (it 200463 1#32).toNat = 1206686024 := by rw [show 200463 = 131072 + 69391 from rfl, it_add, ← rep17, d17_8]; decide +kernel
theorem d17_10 : (it 462607 1#32).toNat = 551720096 := by rw [show 462607 = 262144 + 200463 from rfl, it_add, ← rep18, d17_9]; decide +kernel
theorem d17_11 : (it 986895 1#32).toNat = 1754528946 := by rw [show 986895 = 524288 + 462607 from rfl, it_add, ← rep19, d17_10]; decide +kernel
theorem d17_12 : (it 17764111 1#32).toNat = 952440087 := by rw [show 17764111 = 16777216 + 986895 from rfl, it_add, ← rep24, d17_11]; decide +kernel
theorem d17_13 : (it 51318543 1#32).toNat = 63102909 := by rw [show 51318543 = 33554432 + 17764111 from rfl, it_add, ← rep25, d17_12]; decide +kernel
theorem d17_14 : (it 118427407 1#32).toNat = 1952550143 := by rw [show 118427407 = 67108864 + 51318543 from rfl, it_add, ← rep26, d17_13]; decide +kernel
theorem d17_15 : (it 252645135 1#32).toNat = 1776537313 := by rw [show 252645135 = 134217728 + 118427407 from rfl, it_add, ← rep27, d17_14]; decide +kernel
theorem d17 : it 252645135 1#32 ≠ 1#32 := fun h => absurd ((d17_15).symm.trans (congrArg BitVec.toNat h)) (by decide)
theorem d257_0 : (it 1 1#32).toNat = 3988292384 := by rw [← rep0]; decide +kernel
theorem d257_1 : (it 3 1#32).toNat = 997073096 := by rw [show 3 = 2 + 1 from rfl, it_add, ← rep1, d257_0]; decide +kernel
theorem d257_2 : (it 7 1#32).toNat = 3993919788 := by rw [show 7 = 4 + 3 from rfl, it_add, ← rep2, d257_1]; decide +kernel
theorem d257_3 : (it 15 1#32).toNat = 842424962 := by rw [show 15 = 8 + 7 from rfl, it_add, ← rep3, d257_2]; decide +kernel
theorem d257_4 : (it 31 1#32).toNat = 2852767883 := by rw [show 31 = 16 + 15 from rfl, it_add, ← rep4, d257_3]; decide +kernel
theorem d257_5 : (it 63 1#32).toNat = 1109723005 := by rw [show 63 = 32 + 31 from rfl, it_add, ← rep5, d257_4]; decide +kernel
theorem d257_6 : (it 127 1#32).toNat = 2275419491 := by rw [show 127 = 64 + 63 from rfl, it_add, ← rep6, d257_5]; decide +kernel
theorem d257_7 : (it 255 1#32).toNat = 952438037 := by rw [show 255 = 128 + 127 from rfl, it_add, ← rep7, d257_6]; decide +kernel
theorem d257_8 : (it 65791 1#32).toNat = 2938588517 := by rw [show 65791 = 65536 + 255 from rfl, it_add, ← rep16, d257_7]; decide +kernel
theorem d257_9 : (it 196863 1#32).toNat = 4263956993 := by rw [show 196863 = 131072 + 65791 from rfl, it_add, ← rep17, d257_8]; decide +kernel
theorem d257_10 : (it 459007 1#32).toNat = 2385434378 := by rw [show 459007 = 262144 + 196863 from rfl, it_add, ← rep18, d257_9]; decide +kernel
theorem d257_11 : (it 983295 1#32).toNat = 2381608521 := by rw [show 983295 = 524288 + 459007 from rfl, it_add, ← rep19, d257_10]; decide +kernel
theorem d257_12 : (it 2031871 1#32).toNat = 1049779237 := by rw [show 2031871 = 1048576 + 983295 from rfl, it_add, ← rep20, d257_11]; decide +kernel
theorem d257_13 : (it 4129023 1#32).toNat = 1056812106 := by rw [show 4129023 = 2097152 + 2031871 from rfl, it_add, ← rep21, d257_12]; decide +kernel
theorem d257_14 : (it 8323327 1#32).toNat = 2938681557 := by rw [show 8323327 = 4194304 + 4129023 from rfl, it_add, ← rep22, d257_13]; decide +kernel
theorem d257_15 : (it 16711935 1#32).toNat = 3688911545 := by rw [show 16711935 = 8388608 + 8323327 from rfl, it_add, ← rep23, d257_14]; decide +kernel
theorem d257 : it 16711935 1#32 ≠ 1#32 := fun h => absurd ((d257_15).symm.trans (congrArg BitVec.toNat h)) (by decide)
theorem d65537_0 : (it 1 1#32).toNat = 3988292384 := by rw [← rep0]; decide +kernel
theorem d65537_1 : (it 3 1#32).toNat = 997073096 := by rw [show 3 = 2 + 1 from rfl, it_add, ← rep1, d65537_0]; decide +kernel
theorem d65537_2 : (it 7 1#32).toNat = 3993919788 := by rw [show 7 = 4 + 3 from rfl, it_add, ← rep2, d65537_1]; decide +kernel
theorem d65537_3 : (it 15 1#32).toNat = 842424962 := by rw [show 15 = 8 + 7 from rfl, it_add, ← rep3, d65537_2]; decide +kernel
theorem d65537_4 : (it 31 1#32).toNat = 2852767883 := by rw [show 31 = 16 + 15 from rfl, it_add, ← rep4, d65537_3]; decide +kernel
theorem d65537_5 : (it 63 1#32).toNat = 1109723005 := by rw [show 63 = 32 + 31 from rfl, it_add, ← rep5, d65537_4]; decide +kernel
theorem d65537_6 : (it 127 1#32).toNat = 2275419491 := by rw [show 127 = 64 + 63 from rfl, it_add, ← rep6, d65537_5]; decide +kernel
theorem d65537_7 : (it 255 1#32).toNat = 952438037 := by rw [show 255 = 128 + 127 from rfl, it_add, ← rep7, d65537_6]; decide +kernel
theorem d65537_8 : (it 511 1#32).toNat = 3306904939 := by rw [show 511 = 256 + 255 from rfl, it_add, ← rep8, d65537_7]; decide +kernel
theorem d65537_9 : (it 1023 1#32).toNat = 1744824934 := by rw [show 1023 = 512 + 511 from rfl, it_add, ← rep9, d65537_8]; decide +kernel
theorem d65537_10 : (it 2047 1#32).toNat = 1192748503 := by rw [show 2047 = 1024 + 1023 from rfl, it_add, ← rep10, d65537_9]; decide +kernel
theorem d65537_11 : (it 4095 1#32).toNat = 551925328 := by rw [show 4095 = 2048 + 2047 from rfl, it_add, ← rep11, d65537_10]; decide +kernel
theorem d65537_12 : (it 8191 1#32).toNat = 710075551 := by rw [show 8191 = 4096 + 4095 from rfl, it_add, ← rep12, d65537_11]; decide +kernel
theorem d65537_13 : (it 16383 1#32).toNat = 3390861959 := by rw [show 16383 = 8192 + 8191 from rfl, it_add, ← rep13, d65537_12]; decide +kernel
theorem d65537_14 : (it 32767 1#32).toNat = 3048297048 := by rw [show 32767 = 16384 + 16383 from rfl, it_add, ← rep14, d65537_13]; decide +kernel
theorem d65537_15 : (it 65535 1#32).toNat = 2981948293 := by rw [show 65535 = 32768 + 32767 from rfl, it_add, ← rep15, d65537_14]; decide +kernel
theorem d65537 : it 65535 1#32 ≠ 1#32 := fun h => absurd ((d65537_15).symm.trans (congrArg BitVec.toNat h)) (by decide)

theorem st_inj0 (s : B) (h : st s = 0#32) : s = 0#32 := by
  have h0 := congrArg (fun b : B => b.getLsbD 31) h
  unfold st at h0
  simp only [BitVec.getLsbD_xor, BitVec.getLsbD_ushiftRight] at h0
  rw [BitVec.getLsbD_of_ge s (1 + 31) (by omega)] at h0
  have hl : s.getLsbD 0 = false := by
    cases hc : s.getLsbD 0 with
    | false => rfl
    | true => rw [hc] at h0; exact absurd h0 (by decide)
  rw [st_low s hl] at h
  have hn := congrArg BitVec.toNat h
  rw [BitVec.toNat_ushiftRight, Nat.shiftRight_eq_div_pow, Nat.pow_one] at hn
  rw [BitVec.getLsbD, Nat.testBit_zero] at hl
  apply BitVec.eq_of_toNat_eq
  have hl2 : ¬ s.toNat % 2 = 1 := by simpa using hl
  have hn2 : s.toNat / 2 = 0 := hn
  show s.toNat = 0
  omega
theorem xor_eq_zero {a b : B} (h : a ^^^ b = 0#32) : a = b := by
  have h2 : (a ^^^ b) ^^^ b = 0#32 ^^^ b := by rw [h]
  rwa [BitVec.xor_assoc, BitVec.xor_self, BitVec.xor_zero, BitVec.zero_xor] at h2
theorem it_inj0 (n : Nat) (s : B) (h : it n s = 0#32) : s = 0#32 := by
  induction n with
  | zero => exact h
  | succ n ih => exact ih (st_inj0 _ h)
theorem it_inj {n : Nat} {a b : B} (h : it n a = it n b) : a = b := by
  have h2 : it n (a ^^^ b) = 0#32 := by rw [it_xor, h, BitVec.xor_self]
  exact xor_eq_zero (it_inj0 n _ h2)
theorem it_mul (d q : Nat) (s : B) (h : it d s = s) : it (d * q) s = s := by
  induction q with
  | zero => rfl
  | succ q ih => rw [Nat.mul_succ, it_add, h, ih]
theorem it_mod {d : Nat} {s : B} (N : Nat) (h : it d s = s) (hN : it N s = s) : it (N % d) s = s := by
  have e : N % d + d * (N / d) = N := Nat.mod_add_div N d
  rw [← e, it_add, it_mul d _ s h] at hN
  exact hN
theorem small_prime (p : Nat) (hp : p ∈ [3, 5, 17, 257]) : ∀ g, g ≤ p → g ∣ p → g = 1 ∨ g = p := by
  simp at hp
  rcases hp with rfl | rfl | rfl | rfl <;> decide +kernel
theorem great_prime (g : Nat) (h : g ∣ 65537) : g = 1 ∨ g = 65537 := by
  obtain ⟨f, hf⟩ := h
  have key : ∀ m, m < 257 → 1 < m → ¬ 65537 % m = 0 := by decide +kernel
  by_cases hg : g < 257
  · by_cases h1 : 1 < g
    · exact absurd (by rw [hf]; exact Nat.mul_mod_right g f) (key g hg h1)
    · have : g = 0 ∨ g = 1 := by omega
      rcases this with rfl | rfl
      · simp at hf
      · exact .inl rfl
  · have hfl : f < 257 := by
      rcases Nat.lt_or_ge f 257 with h2 | h2
      · exact h2
      · have := Nat.mul_le_mul (show 257 ≤ g by omega) h2
        omega
    by_cases h1 : 1 < f
    · exact absurd (by rw [hf]; exact Nat.mul_mod_left g f) (key f hfl h1)
    · have : f = 0 ∨ f = 1 := by omega
      rcases this with rfl | rfl
      · simp at hf
      · right; omega
theorem divides_or (p h : Nat) (hp : ∀ g, g ∣ p → g = 1 ∨ g = p) : Nat.Coprime h p ∨ p ∣ h := by
  rcases hp (Nat.gcd h p) (Nat.gcd_dvd_right h p) with e | e
  · exact .inl e
  · right; rw [← e]; exact Nat.gcd_dvd_left h p
theorem least_power (d : Nat) (hd : 0 < d) (hlt : d < 16777216) : it d 1#32 ≠ 1#32 := by
  induction d using Nat.strongRecOn with
  | _ d ih =>
    intro h
    have hm := it_mod 4294967295 h all
    by_cases hz : 4294967295 % d = 0
    · obtain ⟨q, hq⟩ := Nat.dvd_of_mod_eq_zero hz
      have hq1 : q ≠ 1 := by rintro rfl; omega
      have hp3 := divides_or 3 q (fun g hg => small_prime 3 (by simp) g (Nat.le_of_dvd (by omega) hg) hg)
      have hp5 := divides_or 5 q (fun g hg => small_prime 5 (by simp) g (Nat.le_of_dvd (by omega) hg) hg)
      have hp17 := divides_or 17 q (fun g hg => small_prime 17 (by simp) g (Nat.le_of_dvd (by omega) hg) hg)
      have hp257 := divides_or 257 q (fun g hg => small_prime 257 (by simp) g (Nat.le_of_dvd (by omega) hg) hg)
      have hp6 := divides_or 65537 q great_prime
      have go : ∀ p m, p ∣ q → 0 < p → p * m = 4294967295 → it m 1#32 = 1#32 := by
        intro p m ⟨r, hr⟩ hp hpm
        have e : m = d * r := by
          have : p * m = p * (d * r) := by rw [hpm, hq, hr]; ac_rfl
          exact Nat.eq_of_mul_eq_mul_left hp this
        rw [e]
        exact it_mul d r _ h
      rcases hp3 with c3 | c3
      · rcases hp5 with c5 | c5
        · rcases hp17 with c17 | c17
          · rcases hp257 with c257 | c257
            · rcases hp6 with c6 | c6
              · have c : Nat.Coprime q (3 * (5 * (17 * (257 * 65537)))) := Nat.Coprime.mul_right c3 (Nat.Coprime.mul_right c5 (Nat.Coprime.mul_right c17 (Nat.Coprime.mul_right c257 c6)))
                have hq2 : q ∣ 3 * (5 * (17 * (257 * 65537))) := ⟨d, by rw [Nat.mul_comm q d, ← hq]⟩
                exact hq1 (Nat.Coprime.eq_one_of_dvd c hq2)
              · exact d65537 (go 65537 65535 c6 (by omega) rfl)
            · exact d257 (go 257 16711935 c257 (by omega) rfl)
          · exact d17 (go 17 252645135 c17 (by omega) rfl)
        · exact d5 (go 5 858993459 c5 (by omega) rfl)
      · exact d3 (go 3 1431655765 c3 (by omega) rfl)
    · have hl := Nat.mod_lt 4294967295 hd
      exact ih _ hl (by omega) (by omega) hm
theorem two_powers {a b : Nat} (ha : a < 16777216) (hb : b < 16777216) (h : it a 1#32 = it b 1#32) : a = b := by
  rcases Nat.lt_trichotomy a b with hl | hl | hl
  · have e : b = a + (b - a) := by omega
    rw [e, it_add] at h
    exact absurd (it_inj h).symm (least_power (b - a) (by omega) (by omega))
  · exact hl
  · have e : a = b + (a - b) := by omega
    rw [e, it_add] at h
    exact absurd (it_inj h) (least_power (a - b) (by omega) (by omega))
end Go.Proofs.YtoeiaimoppmjdaaDoor.Crc
/- Plain: a bit turned over in a text, and what that does to its sum. -/
namespace Go.Proofs.YtoeiaimoppmjdaaDoor.Crc
open Go.RowKit Go.Proofs.YtoeiaimoppmjdaaDoor.Bytes
set_option linter.unusedVariables false
set_option linter.unusedSimpArgs false
theorem ofInt_nat (n : Nat) : BitVec.ofInt 32 (n : Int) = BitVec.ofNat 32 n := BitVec.ofInt_natCast 32 n
theorem xor8 (a b : Int) (ha : 0 ≤ a ∧ a ≤ 255) (hb : 0 ≤ b ∧ b ≤ 255) : BitVec.ofInt 32 (Go.bits .xor .u8 a b) = BitVec.ofInt 32 a ^^^ BitVec.ofInt 32 b := by
  obtain ⟨m, rfl⟩ := Int.eq_ofNat_of_zero_le ha.1
  obtain ⟨n, rfl⟩ := Int.eq_ofNat_of_zero_le hb.1
  have hx : m ^^^ n < 2 ^ 8 := Nat.xor_lt_two_pow (by omega) (by omega)
  rw [u8_xor_nat m n (by omega) (by omega), ofInt_nat, ofInt_nat, ofInt_nat]
  apply BitVec.eq_of_toNat_eq
  rw [BitVec.toNat_xor, BitVec.toNat_ofNat, BitVec.toNat_ofNat, BitVec.toNat_ofNat, Nat.mod_eq_of_lt (by omega), Nat.mod_eq_of_lt (by omega), Nat.mod_eq_of_lt (by omega)]
/-- The text with its bit number i turned over. -/
def flip (xs : List Int) (i : Nat) : List Int := xs.set (i / 8) (Go.bits .xor .u8 (xs.getD (i / 8) 0) (2 ^ (i % 8) % 256))
theorem flip_length (xs : List Int) (i : Nat) : (flip xs i).length = xs.length := by simp [flip]
theorem mask_byte (m : Nat) (h : m < 8) : (0 : Int) ≤ 2 ^ m % 256 ∧ (2 : Int) ^ m % 256 ≤ 255 := by omega
theorem mask_bv : ∀ m, m < 8 → BitVec.ofInt 32 (2 ^ m % 256) = 1#32 <<< m := by decide
theorem it_mask : ∀ m, m < 32 → it m (1#32 <<< m) = 1#32 := by decide +kernel
theorem flip_byt {xs : List Int} (h : Byt xs) (i : Nat) : Byt (flip xs i) := by
  intro a ha
  rcases List.mem_or_eq_of_mem_set ha with h1 | h1
  · exact h a h1
  · rw [h1]; exact ⟨bits_lo_u8 _ _ _, bits_hi_u8 _ _ _⟩
theorem eat_xor (r s : B) (a : Int) : eat (r ^^^ s) a = eat r a ^^^ it 8 s := by
  unfold eat
  rw [show (r ^^^ s) ^^^ BitVec.ofInt 32 a = (r ^^^ BitVec.ofInt 32 a) ^^^ s by generalize BitVec.ofInt 32 a = p; ac_rfl]
  rw [it_xor, it_xor, ← it_add 4 4 s]
theorem fold_xor (t : List Int) (r s : B) : t.foldl eat (r ^^^ s) = t.foldl eat r ^^^ it (8 * t.length) s := by
  induction t generalizing r s with
  | nil => rfl
  | cons a t ih =>
    simp only [List.foldl_cons, List.length_cons]
    rw [eat_xor, ih, ← it_add, Nat.mul_succ]
theorem reg_flip (xs : List Int) (hv : Byt xs) (i : Nat) (hi : i < 8 * xs.length) : reg (flip xs i) = reg xs ^^^ it (8 * xs.length - i) 1#32 := by
  obtain ⟨j, hj⟩ : ∃ j, j = i / 8 := ⟨_, rfl⟩
  obtain ⟨m, hm⟩ : ∃ m, m = i % 8 := ⟨_, rfl⟩
  have hjl : j < xs.length := by omega
  unfold flip reg
  rw [← hj, ← hm]
  have hg : xs.getD j 0 = xs[j] := by rw [List.getD_eq_getElem?_getD, List.getElem?_eq_getElem hjl]; rfl
  rw [hg]
  have hb := hv xs[j] (List.getElem_mem hjl)
  have hx : xs = xs.take j ++ xs[j] :: xs.drop (j + 1) := by rw [← List.drop_eq_getElem_cons hjl, List.take_append_drop]
  have hs : ∀ y, xs.set j y = xs.take j ++ y :: xs.drop (j + 1) := by
    intro y
    conv => lhs; rw [hx]
    rw [List.set_append_right _ _ (by simp; omega)]
    have : (xs.take j).length = j := by simp; omega
    rw [this, Nat.sub_self]
    rfl
  rw [hs]
  conv => rhs; lhs; rw [hx]
  rw [List.foldl_append, List.foldl_append, List.foldl_cons, List.foldl_cons]
  generalize (xs.take j).foldl eat (BitVec.allOnes 32) = r
  have he : eat r (Go.bits .xor .u8 xs[j] (2 ^ m % 256)) = eat r xs[j] ^^^ it 8 (1#32 <<< m) := by
    unfold eat
    rw [xor8 _ _ hb (mask_byte m (by omega)), mask_bv m (by omega), ← BitVec.xor_assoc, it_xor, it_xor, ← it_add 4 4 (1#32 <<< m)]
  rw [he, fold_xor]
  congr 1
  have h8 : it 8 (1#32 <<< m) = it (8 - m) 1#32 := by
    conv => lhs; rw [show 8 = (8 - m) + m by omega]
    rw [it_add, it_mask m (by omega)]
  rw [h8, ← it_add]
  congr 1
  simp
  omega
theorem crc_ne {xs ys : List Int} (h : reg ys ≠ reg xs) : ¬ ((crc ys).toNat : Int) = ((crc xs).toNat : Int) := by
  intro e
  apply h
  have e1 : (crc ys).toNat = (crc xs).toNat := by omega
  have e2 : crc ys = crc xs := BitVec.eq_of_toNat_eq e1
  unfold crc at e2
  exact BitVec.not_inj.1 e2
theorem crc_eq {xs ys : List Int} (h : reg ys = reg xs) : ((crc ys).toNat : Int) = ((crc xs).toNat : Int) := by unfold crc; rw [h]
theorem one_ne (n : Nat) : it n 1#32 ≠ 0#32 := fun h => absurd (it_inj0 n _ h) (by decide)
theorem xor_ne {r d : B} (h : d ≠ 0#32) : r ^^^ d ≠ r := by
  intro e
  apply h
  have h2 : r ^^^ (r ^^^ d) = r ^^^ r := by rw [e]
  rwa [← BitVec.xor_assoc, BitVec.xor_self, BitVec.zero_xor] at h2
theorem flip_one (xs : List Int) (hv : Byt xs) (i : Nat) (hi : i < 8 * xs.length) : ¬ ((crc (flip xs i)).toNat : Int) = ((crc xs).toNat : Int) :=
  crc_ne (by rw [reg_flip xs hv i hi]; exact xor_ne (one_ne _))
end Go.Proofs.YtoeiaimoppmjdaaDoor.Crc
/- Frames cut, lengthened, with a bit turned: plain. -/
namespace Go.Proofs.YtoeiaimoppmjdaaDoor.Lk
open Go.RowKit Go.Proofs.YtoeiaimoppmjdaaDoor.Wr Go.Proofs.YtoeiaimoppmjdaaDoor.Bytes Go.Proofs.YtoeiaimoppmjdaaDoor.Crc
set_option linter.unusedVariables false
set_option linter.unusedSimpArgs false
/-- A frame's bytes, read, whatever stands behind them. -/
theorem rd_tail {f : Frm} (h : Fit f) (t : List Int) : rdF (encF f ++ t) = f := by
  have q0 := h.f0; have q1 := h.f1; have q2 := h.t0; have q3 := h.t1
  obtain ⟨s, hs⟩ : ∃ s : Nat, f.src = s := ⟨f.src.toNat, by omega⟩
  obtain ⟨d, hd⟩ : ∃ d : Nat, f.dst = d := ⟨f.dst.toNat, by omega⟩
  obtain ⟨u, hu⟩ : ∃ u, u = fixL (crc (ahead f)).toNat 4 := ⟨_, rfl⟩
  have e : encF f ++ t = fixL s 1 ++ fixL d 1 ++ vr f.mine ++ vr f.yours ++ vr f.seq ++ vr f.ack ++ (vr f.body.length ++ f.body) ++ (u ++ t) := by
    have e1 : fixL s 1 = [f.src] := by rw [hs]; simp [fixL]; omega
    have e2 : fixL d 1 = [f.dst] := by rw [hd]; simp [fixL]; omega
    rw [encF_fit h, ← hu, e1, e2]; simp [ahead, nums]
  obtain ⟨b, hb⟩ : ∃ b, b = encF f ++ t := ⟨_, rfl⟩
  rw [← hb] at e ⊢
  have l1 : (fixL s 1).length = 1 := fixL_length _ _
  have l2 : (fixL d 1).length = 1 := fixL_length _ _
  have x1 : r1 b = (s, ⟨1, 0⟩) := by
    have := rFix_of [] (fixL d 1 ++ vr f.mine ++ vr f.yours ++ vr f.seq ++ vr f.ack ++ (vr f.body.length ++ f.body) ++ (u ++ t)) s 1 (by omega)
    unfold r1; rw [e]; simpa using this
  have x2 : r2 b = (d, ⟨2, 0⟩) := by
    have := rFix_of (fixL s 1) (vr f.mine ++ vr f.yours ++ vr f.seq ++ vr f.ack ++ (vr f.body.length ++ f.body) ++ (u ++ t)) d 1 (by omega)
    unfold r2; rw [x1, e]; rw [l1] at this; simpa [List.append_assoc] using this
  have x3 : r3 b = (f.mine, ⟨2 + (vr f.mine).length, 0⟩) := by
    have := rVar_of (fixL s 1 ++ fixL d 1) (vr f.yours ++ vr f.seq ++ vr f.ack ++ (vr f.body.length ++ f.body) ++ (u ++ t)) f.mine 1099511627776 h.m1 (by omega)
    unfold r3; rw [x2, e]; rw [List.length_append, l1, l2] at this; simpa [List.append_assoc] using this
  have x4 : r4 b = (f.yours, ⟨2 + (vr f.mine).length + (vr f.yours).length, 0⟩) := by
    have := rVar_of (fixL s 1 ++ fixL d 1 ++ vr f.mine) (vr f.seq ++ vr f.ack ++ (vr f.body.length ++ f.body) ++ (u ++ t)) f.yours 1099511627776 h.y (by omega)
    unfold r4; rw [x3, e]; simp only [List.length_append, l1, l2] at this; simpa [List.append_assoc] using this
  have x5 : r5 b = (f.seq, ⟨2 + (vr f.mine).length + (vr f.yours).length + (vr f.seq).length, 0⟩) := by
    have := rVar_of (fixL s 1 ++ fixL d 1 ++ vr f.mine ++ vr f.yours) (vr f.ack ++ (vr f.body.length ++ f.body) ++ (u ++ t)) f.seq 1099511627776 h.s (by omega)
    unfold r5; rw [x4, e]; simp only [List.length_append, l1, l2] at this; simpa [List.append_assoc] using this
  have x6 : r6 b = (f.ack, ⟨2 + (vr f.mine).length + (vr f.yours).length + (vr f.seq).length + (vr f.ack).length, 0⟩) := by
    have := rVar_of (fixL s 1 ++ fixL d 1 ++ vr f.mine ++ vr f.yours ++ vr f.seq) ((vr f.body.length ++ f.body) ++ (u ++ t)) f.ack 1099511627776 h.a (by omega)
    unfold r6; rw [x5, e]; simp only [List.length_append, l1, l2] at this; simpa [List.append_assoc] using this
  have x7 : r7 b = (f.body, ⟨2 + (vr f.mine).length + (vr f.yours).length + (vr f.seq).length + (vr f.ack).length + (vr f.body.length ++ f.body).length, 0⟩) := by
    have := rBytes_of (fixL s 1 ++ fixL d 1 ++ vr f.mine ++ vr f.yours ++ vr f.seq ++ vr f.ack) (u ++ t) f.body 2048 h.b (by omega)
    unfold r7; rw [x6, e]; simp only [List.length_append, l1, l2] at this ⊢; simpa [List.append_assoc] using this
  unfold rdF; rw [x1, x2, x3, x4, x5, x6, x7]
  cases f; simp at hs hd ⊢; omega
/-- With something behind it it is none. -/
theorem dec_long {f : Frm} (h : Fit f) (a : Int) : decOk (encF f ++ [a]) = false := by
  cases e : decOk (encF f ++ [a]) with
  | false => rfl
  | true =>
    have h1 := (dec_fit e).2
    rw [rd_tail h] at h1
    have := congrArg List.length h1
    simp at this
/-- Cut it is none. -/
theorem dec_cut {f : Frm} (h : Fit f) (k : Nat) (hk : k < (encF f).length) : decOk ((encF f).take k) = false := by
  cases e : decOk ((encF f).take k) with
  | false => rfl
  | true =>
    obtain ⟨hg, h1⟩ := dec_fit e
    have h2 := rd_tail hg ((encF f).drop k)
    rw [h1, List.take_append_drop] at h2
    have h3 := rd_tail h []
    rw [List.append_nil] at h3
    rw [← h2, h3] at h1
    have := congrArg List.length h1
    simp at this
    omega
/-- Of two frames' bytes that are as long and differ in one place alone the sums differ: where the sums of what stands ahead differ whenever it does, one of them is none. -/
theorem dec_other {f : Frm} (h : Fit f) {b : List Int} (hl : b.length = (encF f).length) (hne : b ≠ encF f)
    (hs : b.take (ahead f).length ≠ ahead f → (b.drop (ahead f).length = (encF f).drop (ahead f).length) ∧ ¬ (crc (b.take (ahead f).length)).toNat = (crc (ahead f)).toNat) : decOk b = false := by
  cases e : decOk b with
  | false => rfl
  | true =>
    exfalso
    obtain ⟨hg, h1⟩ := dec_fit e
    obtain ⟨g, hgg⟩ : ∃ g, g = rdF b := ⟨_, rfl⟩
    rw [← hgg] at hg h1
    have ef := encF_fit h
    have eg := encF_fit hg
    have la : (ahead g).length = (ahead f).length := by
      rw [← h1, eg, ef] at hl
      simp [fixL_length] at hl
      exact hl
    have t1 : b.take (ahead f).length = ahead g := by rw [← h1, eg, ← la]; simp
    have t2 : b.drop (ahead f).length = fixL (crc (ahead g)).toNat 4 := by rw [← h1, eg, ← la]; simp
    have t3 : (encF f).drop (ahead f).length = fixL (crc (ahead f)).toNat 4 := by rw [ef]; simp
    by_cases hc : b.take (ahead f).length = ahead f
    · rw [t1] at hc
      rw [hc] at eg
      exact hne (by rw [← h1, eg, ef])
    · obtain ⟨q1, q2⟩ := hs hc
      rw [t2, t3] at q1
      rw [t1] at q2
      have n1 := numBE_fixL (crc (ahead g)).toNat 4 (crc (ahead g)).isLt
      have n2 := numBE_fixL (crc (ahead f)).toNat 4 (crc (ahead f)).isLt
      rw [q1, n2] at n1
      exact q2 n1.symm
theorem flip_left (a t : List Int) (i : Nat) (h : i < 8 * a.length) : Crc.flip (a ++ t) i = flip a i ++ t := by
  unfold Crc.flip
  have hj : i / 8 < a.length := by omega
  rw [List.set_append_left _ _ hj, List.getD_eq_getElem?_getD, List.getD_eq_getElem?_getD, List.getElem?_append_left hj]
theorem flip_right (a t : List Int) (i : Nat) (h : 8 * a.length ≤ i) : (Crc.flip (a ++ t) i).take a.length = a := by
  unfold Crc.flip
  have hj : a.length ≤ i / 8 := by omega
  rw [List.set_append_right _ _ hj]
  simp
theorem encF_byt' {f : Frm} (hb : Byt f.body) : Byt (encF f) := by
  by_cases h : Fit f
  · rw [encF_fit h]
    intro a ha
    rcases List.mem_append.1 ha with ha | ha
    · exact ahead_byt _ h hb a ha
    · exact fixL_byt _ _ a ha
  · rw [encF_nofit h]; intro a ha; cases ha
/-- With a bit turned it is none. -/
theorem dec_turn {f : Frm} (h : Fit f) (hb : Byt f.body) (i : Nat) (hi : i < 8 * (encF f).length) : decOk (Crc.flip (encF f) i) = false := by
  have hne : Crc.flip (encF f) i ≠ encF f := fun e => flip_one (encF f) (encF_byt' hb) i hi (by rw [e])
  refine dec_other h (flip_length _ _) hne (fun hc => ?_)
  have ef := encF_fit h
  by_cases ha : i < 8 * (ahead f).length
  · rw [ef, flip_left _ _ _ ha]
    have hl : (Crc.flip (ahead f) i).length = (ahead f).length := flip_length _ _
    have e1 : (Crc.flip (ahead f) i ++ fixL (crc (ahead f)).toNat 4).take (ahead f).length = Crc.flip (ahead f) i := by rw [← hl]; simp
    have e2 : (Crc.flip (ahead f) i ++ fixL (crc (ahead f)).toNat 4).drop (ahead f).length = fixL (crc (ahead f)).toNat 4 := by rw [← hl]; simp
    rw [e1, e2]
    refine ⟨by simp, fun q => ?_⟩
    exact flip_one (ahead f) (ahead_byt f h hb) i ha (by rw [q])
  · exact absurd (by rw [ef]; exact flip_right _ _ _ (by omega)) hc
end Go.Proofs.YtoeiaimoppmjdaaDoor.Lk
/- Contract of tillref0's Copy. -/
namespace Go.Proofs.YtoeiaimoppmjdaaDoor.Wr
open Go.RowKit Go.Proofs.YtoeiaimoppmjdaaDoorW.PrintWords Go.Proofs.YtoeiaimoppmjdaaDoor.Bytes
set_option linter.unusedVariables false
set_option linter.unusedSimpArgs false
set_option maxHeartbeats 1600000 in
set_option maxRecDepth 20000 in
theorem copy_calls (xs : List Int) (A : Option Addr) (c : Nat) (w : World) (base : Nat) (hbase : base ≤ w.heap.size) (hr : ReadsOf I 0 w A xs.length xs) (hm : xs.length ≤ 140737488355328) :
    Calls Tryd.prog 15 #[.slice A xs.length c] w fun e w' => ∃ v, e = .returned v ∧ w'.ownsRow base 5 1 v xs.length (encs I xs) ∧ Below base w w' := by
  have HBS := Lib.hid hbase
  have HR := Lib.hid hr
  have HM := Lib.hid hm
  clear hr hm hbase
  go_enter Tryd.func15, Tryd.ntmps15
  go_wp2_with (at_builtin; refine print_append_row_of I 0 (w0 := w) base rfl (.tmp 4) (.tmp 5) 22 5 (.int .u8 0) 1 rfl Tryd.underlying22 info5 rfl (by omega) (fun _ => rfl) (.slice none 0 0) [] xs A xs.length c rfl rfl ?h1 HR.out ?h2 HBS.out ?h3 ?_; (case h1 => exact own_nil w base 5 1); (case h2 => exact Below.refl _ _); (case h3 => have := HM.out; simp; omega); intro v1 w1 ho1 hb1 hg1 hat1; have HO1 := Lib.hid ho1; have HB1 := Lib.hid hb1; clear ho1 hb1 hg1 hat1)
  go_wp2_with fail
  go_ret
  exact ⟨_, rfl, by simpa using HO1.out, HB1.out⟩
end Go.Proofs.YtoeiaimoppmjdaaDoor.Wr
/- A byte list that is held: a byte of it, and that byte written over; a beginning of it is read; one byte more behind it. -/
namespace Go.Proofs.YtoeiaimoppmjdaaDoor.Lk
open Go.RowKit Go.Proofs.YtoeiaimoppmjdaaDoorW.PrintWords Go.Proofs.YtoeiaimoppmjdaaDoor.Mem Go.Proofs.YtoeiaimoppmjdaaDoor.Wr Go.Proofs.YtoeiaimoppmjdaaDoor.Bytes
set_option linter.unusedVariables false
set_option linter.unusedSimpArgs false
theorem by_ptr {A : Option Addr} {c : Nat} {xs : List Int} (h : byV (.slice A xs.length c) xs) (h0 : 0 < xs.length) : ∃ g, A = some ⟨g, 0, none⟩ := by
  rcases h.2 with ⟨h1, h2⟩ | ⟨g, cap, h1, _⟩
  · omega
  · injection h1 with h1; exact ⟨g, h1⟩
theorem by_at {w0 W : World} {R : List Ent} {g c : Nat} {xs : List Int} (h : St w0 W (byR (.slice (some ⟨g, 0, none⟩) xs.length c) xs ++ R)) (j : Nat) (hj : j < xs.length) :
    W.cell? ⟨g, j, none⟩ = some (.int .u8 (xs.getD j 0)) ∧ W.frozen? ⟨g, j, none⟩ = false := by
  have h1 := St.at (e := 5) (s := 1) (n := xs.length) (xs := encs I xs) h j (by simpa [encs] using hj) (by simp [encs])
  refine ⟨?_, h1.2⟩
  rw [h1.1]
  simp [encs, List.getElem?_eq_getElem hj, List.getD_eq_getElem?_getD]
theorem by_store {w0 W : World} {R : List Ent} {g c : Nat} {xs : List Int} (h : St w0 W (byR (.slice (some ⟨g, 0, none⟩) xs.length c) xs ++ R)) (j : Nat) (x : Int) :
    St w0 (W.setCell ⟨g, j, none⟩ (.int .u8 x)) (byR (.slice (some ⟨g, 0, none⟩) (xs.set j x).length c) (xs.set j x) ++ R) := by
  have h1 := St.store (e := 5) (s := 1) (n := xs.length) (xs := encs I xs) h j (.int .u8 x)
  have e : (encs I xs).set j (.int .u8 x) = encs I (xs.set j x) := by simp [encs, List.map_set]
  rw [e] at h1
  unfold byR
  rw [List.length_set]
  exact h1
/-- The bit turned in its place. -/
theorem by_flip {w0 W : World} {R : List Ent} {g c : Nat} {xs : List Int} (h : St w0 W (byR (.slice (some ⟨g, 0, none⟩) xs.length c) xs ++ R)) (n : Nat) :
    St w0 (W.setCell ⟨g, n / 8, none⟩ (.int .u8 (Go.bits .xor .u8 (xs.getD (n / 8) 0) (2 ^ (n % 8) % 256)))) (byR (.slice (some ⟨g, 0, none⟩) (Crc.flip xs n).length c) (Crc.flip xs n) ++ R) := by_store h _ _
theorem by_setV {A : Option Addr} {c : Nat} {xs : List Int} (h : byV (.slice A xs.length c) xs) (j : Nat) (x : Int) : byV (.slice A (xs.set j x).length c) (xs.set j x) := by
  refine ⟨by simp [encs], ?_⟩
  rw [List.length_set]
  exact h.2
theorem by_flipV {A : Option Addr} {c : Nat} {xs : List Int} (h : byV (.slice A xs.length c) xs) (n : Nat) : byV (.slice A (Crc.flip xs n).length c) (Crc.flip xs n) := by_setV h _ _
/-- What is none is read as none. -/
theorem dec_none_st {w0 W : World} {R : List Ent} (b : List Int) (k : Nat) (A : Option Addr) (c : Nat) (h : St w0 W R) (hk : b.length = k) (hr : ReadsOf I 0 W A k b) (hb : Byt b) (ht : ErrTab w0) (hz : 0 < w0.heap.size) (hbl : k ≤ 140737488355328) (hd : decOk b = false) :
    Calls Tryd.prog 47 #[.slice A k c] W fun e w' => e = .returned (.tuple #[.agg frZ, .bool false]) ∧ St w0 w' R := by
  subst hk
  refine (dec_calls b A c W hr hb (ht.below h.bl hz) (Nat.lt_of_lt_of_le hz h.bl.size) hbl).mono fun e w' hp => ?_
  rcases hp with ⟨h1, _⟩ | ⟨_, he, hb'⟩
  · rw [hd] at h1; cases h1
  · exact ⟨he, h.below hb'⟩
/-- Copy, over the blocks that are held. -/
theorem copy_st {w0 W : World} {R : List Ent} (xs : List Int) (k : Nat) (A : Option Addr) (c : Nat) (h : St w0 W R) (hk : xs.length = k) (hr : ReadsOf I 0 W A k xs) (hm : k ≤ 140737488355328) :
    Calls Tryd.prog 15 #[.slice A k c] W fun e w' => ∃ A' c', e = .returned (.slice A' k c') ∧ byV (.slice A' k c') xs ∧ St w0 w' (byR (.slice A' k c') xs ++ R) := by
  subst hk
  refine (copy_calls xs A c W W.heap.size (Nat.le_refl _) hr hm).mono fun e w' ⟨v, he, ho, hb⟩ => ?_
  obtain ⟨h1, hv⟩ := h.fresh hb ho
  obtain ⟨A', c', rfl⟩ := byV_form hv
  exact ⟨A', c', he, hv, h1⟩
theorem by_readsK {w0 W : World} {L : List Ent} {A : Option Addr} {c k : Nat} {xs : List Int} (h : St w0 W L) (hk : xs.length = k) (hc : ∀ a, cnt a (byR (.slice A k c) xs) ≤ cnt a L) (hV : byV (.slice A k c) xs) : ReadsOf I 0 W A k xs := by
  subst hk; exact by_reads h hc hV
theorem by_cap {A : Option Addr} {c k : Nat} {xs : List Int} (h : byV (.slice A k c) xs) : k ≤ c := by
  rcases h.2 with ⟨h1, h2⟩ | ⟨g, cap, h1, h2, _⟩
  · injection h1 with _ h1 h3; omega
  · injection h1 with _ h1 h3; omega
/-- One byte more behind a list. -/
theorem by_append {w0 W : World} {R : List Ent} {A : Option Addr} {c : Nat} {xs : List Int} (h : St w0 W (byR (.slice A xs.length c) xs ++ R)) (hV : byV (.slice A xs.length c) xs) (hl : xs.length + 1 ≤ 140737488355328) (ad : Addr) (c1 : Nat) (a : Int) (hx : W.cell? ad = some (.int .u8 a)) :
    ∃ (A' : Option Addr) (c' : Nat) (W' : World), (Builtin.append_ #[22, 22] 22 #[.slice A xs.length c, .slice (some ad) 1 c1]).run Tryd.prog W = .ok (.slice A' (xs.length + 1) c') W' ∧ St w0 W' (byR (.slice A' (xs ++ [a]).length c') (xs ++ [a]) ++ R) ∧ byV (.slice A' (xs ++ [a]).length c') (xs ++ [a]) := by
  obtain ⟨v', W', hr, h1, h2⟩ := App.row_append (P := Tryd.prog) (e := 5) h hV 22 22 (.int .u8 0) 1 Tryd.underlying22 (by kernel_rfl) rfl (by omega) hl ad c1 (.int .u8 a) hx rfl
  have e : encs I xs ++ [.int .u8 a] = encs I (xs ++ [a]) := by simp [encs]
  rw [e] at h1 h2
  have e2 : xs.length + 1 = (xs ++ [a]).length := by simp
  have hV' : byV v' (xs ++ [a]) := by unfold byV; rw [← e2]; exact h2
  obtain ⟨A', c', rfl⟩ := byV_form hV'
  refine ⟨A', c', W', by rw [e2]; exact hr, ?_, hV'⟩
  unfold byR; rw [← e2]; rw [← e2] at h1; exact h1
theorem byt_take' {xs : List Int} (h : Byt xs) (k : Nat) : Byt (xs.take k) := fun a ha => h a (List.mem_of_mem_take ha)
theorem byt_one {xs : List Int} (h : Byt xs) (a : Int) (h1 : 0 ≤ a ∧ a ≤ 255) : Byt (xs ++ [a]) := fun b hb => by
  rcases List.mem_append.1 hb with hb | hb
  · exact h b hb
  · obtain rfl := List.mem_singleton.1 hb; exact h1
end Go.Proofs.YtoeiaimoppmjdaaDoor.Lk
/- A side of a pair ticks. Printed by gen_ptick.py. -/
namespace Go.Proofs.YtoeiaimoppmjdaaDoor.Lk
open Go.RowKit Go.Proofs.YtoeiaimoppmjdaaDoorW.PrintWords Go.Proofs.YtoeiaimoppmjdaaDoor.Mem Go.Proofs.YtoeiaimoppmjdaaDoor.Wr Go.Proofs.YtoeiaimoppmjdaaDoor.Bytes Go.Proofs.YtoeiaimoppmjdaaDoor.App
set_option linter.unusedVariables false
set_option linter.unusedSimpArgs false
/-- A frame that has gone out: its body's value, it. -/
abbrev SF := Value × Frm
def frV (F : Frm) (v : Value) : Array Value := #[.int .i64 F.src, .int .i64 F.dst, .int .u64 (F.mine : Int), .int .u64 (F.yours : Int), .int .u64 (F.seq : Int), .int .u64 (F.ack : Int), v]
def frsL (fs : List SF) : List Value := fs.flatMap fun x => (frV x.2 x.1).toList
def sentE (sv : Value) (fs : List SF) : List Ent := rowE sv 69 7 fs.length (frsL fs) ++ fs.flatMap fun x => byR x.1 x.2.body
structure SentV (sv : Value) (fs : List SF) : Prop where
  row : rowV sv 7 fs.length (frsL fs)
  by_ : ∀ x, x ∈ fs → byV x.1 x.2.body ∧ Fit x.2 ∧ Byt x.2.body
theorem frsL_len (fs : List SF) : (frsL fs).length = fs.length * 7 := by
  induction fs with
  | nil => rfl
  | cons a t ih => unfold frsL at ih ⊢; rw [List.flatMap_cons, List.length_append, ih]; show 7 + _ = (t.length + 1) * 7; omega
theorem sentV_nil : SentV NL [] := ⟨rowV_nil 7, fun x h => (by cases h)⟩
theorem sentE_nil : sentE NL [] = [] := rfl
theorem infoF7 : (Tryd.prog.info? 69).map (fun i => (i.zero, i.size, i.bytes)) = some (some (.agg #[.int .i64 0, .int .i64 0, .int .u64 0, .int .u64 0, .int .u64 0, .int .u64 0, .slice none 0 0]), 7, 72) := by kernel_rfl
/-- One more frame behind those that have gone out. -/
theorem sent_append {w0 W : World} {R : List Ent} {sv : Value} {fs : List SF} (h : St w0 W (rowE sv 69 7 fs.length (frsL fs) ++ R)) (hV : rowV sv 7 fs.length (frsL fs)) (F : Frm) (v : Value) (hl : fs.length ≤ 1000000) (ad : Addr) (c1 : Nat) (hv1 : v.oneCell' = true)
    (hx : ∀ j u, (frV F v).toList[j]? = some u → W.cell? (ad.add j) = some u) :
    ∃ (A' : Option Addr) (c' : Nat) (W' : World), (Builtin.append_ #[60, 60] 60 #[sv, .slice (some ad) 1 c1]).run Tryd.prog W = .ok (.slice A' (fs.length + 1) c') W' ∧ St w0 W' (rowE (.slice A' (fs.length + 1) c') 69 7 (fs.length + 1) (frsL (fs ++ [(v, F)])) ++ R) ∧ rowV (.slice A' (fs.length + 1) c') 7 (fs.length + 1) (frsL (fs ++ [(v, F)])) := by
  obtain ⟨i0, hi, hzz⟩ := Option.map_eq_some_iff.1 infoF7
  simp only [Prod.mk.injEq] at hzz
  obtain ⟨hz0, hz1, hz2⟩ := hzz
  obtain ⟨v1, w1, hrun, h2, h3, _, h5⟩ := run_append_own_at (P := Tryd.prog) W w0.heap.size 60 60 69 i0 (.agg #[.int .i64 0, .int .i64 0, .int .u64 0, .int .u64 0, .int .u64 0, .int .u64 0, .slice none 0 0]) 7 72 Tryd.underlying60 hi hz0 hz1 hz2 rfl (by omega) sv fs.length (frsL fs) (h.own hV) ad 1 c1 (frV F v).toList rfl hx
    (by intro q hq; simp [frV] at hq; rcases hq with rfl | rfl | rfl | rfl | rfl | rfl | rfl <;> first | rfl | exact hv1) (by simp only [maxLen]; omega) (by omega) h.bl.size
  obtain ⟨k1, k2⟩ := h.grown hV h3 h2 (by
    rcases h5 with h5 | h5
    · exact .inl h5
    · right; intro k hk; rw [h5] at hk; injection hk with hk; omega)
  have e : frsL fs ++ (frV F v).toList = frsL (fs ++ [(v, F)]) := by unfold frsL; rw [List.flatMap_append]; simp
  rw [e] at k1 k2
  obtain ⟨A', c', rfl⟩ := row_form k2
  exact ⟨A', c', w1, hrun, k1, k2⟩
/-- What is said may be, and bears the session. -/
theorem said_fit {s : LS} (hV : LkV s) (hme : 0 ≤ s.me ∧ s.me ≤ 8) (hot : 0 ≤ s.other ∧ s.other ≤ 8) (hlf : 1 ≤ s.life ∧ s.life ≤ 1099511627776) (hkn : s.known ≤ 1099511627776) (hhe : s.heard ≤ 1099511627776) (hgo : s.gone + s.items.length ≤ 1099511627776) (F : Frm) (hF : F ∈ saidP s) :
    Fit F ∧ Byt F.body ∧ F.src = s.me ∧ F.dst = s.other ∧ F.mine = s.life ∧ F.yours = s.known := by
  have hto : ∀ tm q, q ≤ s.items.length → ∀ F, F ∈ (sayTo s tm q).1 → Fit F ∧ Byt F.body ∧ F.src = s.me ∧ F.dst = s.other ∧ F.mine = s.life ∧ F.yours = s.known := by
    intro tm q
    induction q with
    | zero => intro _ F h; cases h
    | succ q ih =>
      intro hq F h
      unfold sayTo at h
      split at h
      · rcases List.mem_append.1 h with h | h
        · exact ih (by omega) F h
        · obtain rfl := List.mem_singleton.1 h
          have e : s.items.getD q (NL, []) = s.items[q] := by rw [List.getD_eq_getElem?_getD, List.getElem?_eq_getElem (by omega)]; rfl
          obtain ⟨_, h1, h2⟩ := hV.by_ (s.items[q]) (List.getElem_mem _)
          rw [e]
          exact ⟨⟨hme.1, hme.2, hot.1, hot.2, hlf.1, hlf.2, hkn, by show s.gone + q + 1 ≤ _; omega, hhe, h2, .inl (by show 0 < s.gone + q + 1; omega)⟩, h1, rfl, rfl, rfl, rfl⟩
      · exact ih (by omega) F h
  unfold saidP at hF
  split at hF
  · obtain rfl := List.mem_singleton.1 hF
    exact ⟨⟨hme.1, hme.2, hot.1, hot.2, hlf.1, hlf.2, hkn, Nat.zero_le _, hhe, Nat.zero_le _, .inr rfl⟩, (fun a h => by cases h), rfl, rfl, rfl, rfl⟩
  · unfold rowP' at hF
    split at hF
    · exact hto _ _ (Nat.min_le_left _ _) F hF
    · cases hF
end Go.Proofs.YtoeiaimoppmjdaaDoor.Lk
