/- Merged by merge2.py out of the texts: Now, Handed, PHear2. -/
import Derived.Test.YtoeiaimoppmjdaaDoorZu5
import Derived.Test.YtoeiaimoppmjdaaDoorZu1
/- Which session of a side stands. Printed by gen_now.py. -/
namespace Go.Proofs.YtoeiaimoppmjdaaDoor.Lk
open Go.RowKit Go.Proofs.YtoeiaimoppmjdaaDoorW.PrintWords Go.Proofs.YtoeiaimoppmjdaaDoor.Mem Go.Proofs.YtoeiaimoppmjdaaDoor.Wr Go.Proofs.YtoeiaimoppmjdaaDoor.Bytes Go.Proofs.YtoeiaimoppmjdaaDoor.App
set_option linter.unusedVariables false
set_option linter.unusedSimpArgs false
set_option maxRecDepth 20000 in
set_option maxHeartbeats 6400000 in
theorem now_calls {w0 W : World} {R : List Ent} {gp g : Nat} {p : PS} {s : LS} {ss : List Se} (i : Nat) (hi : i < 2) (h : St w0 W (B gp (pC p) 86 :: (lkE g s ++ (sesE (p.t i) ss ++ R)))) (hl : p.l i = pt g) (hV : SesV (p.t i) ss) (hn : ss.length ≤ 1000000) :
    Calls Tryd.prog 61 #[pt gp, .int .i64 i] W fun e w' => e = .returned (.int .i64 (nowN (p.life i) s.known ss)) ∧ ∃ tv, SesV tv (nowS (p.life i) s.known ss) ∧
      St w0 w' (B gp (pC { p with t := upd p.t i tv }) 86 :: (lkE g s ++ (sesE tv (nowS (p.life i) s.known ss) ++ R))) := by
  have i1 : (0 : Int) ≤ (i : Int) := by omega
  have i2 : (i : Int) < 2 := by omega
  obtain ⟨At, ct, htv⟩ := row_form hV.row
  obtain ⟨n, hnn⟩ : ∃ n, n = ss.length := ⟨_, rfl⟩
  obtain ⟨m, hm⟩ : ∃ m, m = p.life i := ⟨_, rfl⟩
  obtain ⟨y, hy⟩ : ∃ y, y = s.known := ⟨_, rfl⟩
  rw [← hnn] at htv
  have hp : { p with t := upd p.t i (.slice At n ct) } = p := by rw [← htv, upd_self]
  rw [htv] at h hV
  rw [← hm, ← hy]
  have x4 : W.cell? ⟨gp, 4 + i, none⟩ = some (pt g) := h.cellOf (g := gp) (cs := pC p) (t := 86) (by simp) (4 + i) (by rw [pC_l p hi, hl])
  have z7 : W.cell? ⟨gp, 7 + i, none⟩ = some (.slice At n ct) := h.cellOf (g := gp) (cs := pC p) (t := 86) (by simp) (7 + i) (by rw [pC_t p hi, htv])
  have hlk : St w0 W (lkE g s ++ (B gp (pC p) 86 :: (sesE (.slice At n ct) ss ++ R))) := h.re (fun x => by simp only [cnt_append, cnt_cons]; omega)
  have CK := lknown_calls hlk
  have CL := llife_calls hlk
  rw [← hy] at CK CL
  have CK := Lib.hid CK
  have CL := Lib.hid CL
  have HI := Lib.hid hi
  have HL := Lib.hid hl
  have HV := Lib.hid hV
  have HN := Lib.hid hn
  have HNN := Lib.hid hnn
  have HM := Lib.hid hm
  have HTV := Lib.hid htv
  have HP := Lib.hid hp
  have HS := Lib.hid h
  clear h hi hl hV hn hnn hm htv hp hlk hy
  go_enter Tryd.func61, Tryd.ntmps61
  go_wp2_with fail
  refine CK.out.mono ?_; rintro e w1 ⟨rfl, rfl⟩
  by_cases h0 : y = 0
  · have d0 : decide (0 < y) = false := by simp; omega
    rw [d0]
    have HNS : Hid (nowS m y ss = ss ∧ nowN m y ss = -1) := ⟨by unfold nowS; rw [if_pos h0], by unfold nowN; rw [if_pos h0]⟩
    clear h0 d0 CL
    go_wp2_with fail
    go_ret
    refine ⟨by rw [HNS.out.2]; rfl, .slice At n ct, by rw [HNS.out.1]; exact HV.out, ?_⟩
    rw [HNS.out.1, HP.out]
    exact HS.out
  · have d0 : decide (0 < y) = true := by simp; omega
    rw [d0]
    have H0 := Lib.hid h0
    clear h0 d0
    go_wp2_with fail
    refine CL.out.mono ?_; rintro e w1 ⟨rfl, rfl⟩
    have n9 : n ≤ 1000000 := by rw [HNN.out]; exact HN.out
    clear CK CL x4 z7
    go_wp2_with fail
    go_loopg [6] n (fun gk s6 wr => ∃ k : Nat, gk = n - k ∧ k ≤ n ∧ s6 = .int .i64 k ∧ k ≤ fnd m y ss ∧ St w0 wr (B gp (pC p) 86 :: (lkE g s ++ (sesE (.slice At n ct) ss ++ R))))
    case atStart => exact ⟨0, rfl, Nat.zero_le _, rfl, Nat.zero_le _, HS.out⟩
    case round =>
      obtain ⟨k, hgk, hk, rfl, hf, hs⟩ := hrel
      have z7 : wr.cell? ⟨gp, 7 + i, none⟩ = some (.slice At n ct) := hs.cellOf (g := gp) (cs := pC p) (t := 86) (by simp) (7 + i) (by rw [pC_t p HI.out, HTV.out])
      have HGK := Lib.hid hgk
      have HF := Lib.hid hf
      have HST := Lib.hid hs
      clear hgk hf hs
      by_cases hlt : k < n
      · have k1 : (k : Int) < (n : Int) := by omega
        have k2 : (0 : Int) ≤ (k : Int) := by omega
        have hks : k < ss.length := by rw [← HNN.out]; exact hlt
        obtain ⟨x, hx⟩ : ∃ x, ss[k]? = some x := ⟨_, List.getElem?_eq_getElem hks⟩
        obtain ⟨gt, hgt⟩ : ∃ gt, At = some ⟨gt, 0, none⟩ := by
          rcases HV.out.row.2 with ⟨q1, q2⟩ | ⟨gt, _, q1, _⟩
          · omega
          · injection q1 with q1; exact ⟨gt, q1⟩
        have hE : St w0 wr.drew (rowE (.slice (some ⟨gt, 0, none⟩) n ct) 101 4 n (sesL ss) ++ []) := HST.out.drew.re (fun x => by rw [hgt]; simp only [sesE, ← HNN.out, cnt_append, cnt_cons, cnt_nil]; omega)
        have H7 : Hid (wr.drew.cell? ⟨gp, 7 + i, none⟩ = some (.slice (some ⟨gt, 0, none⟩) n ct) ∧ wr.drew.cell? ⟨gt, k * 4, none⟩ = some (.int .u64 (x.mine : Int)) ∧ wr.drew.cell? ⟨gp, 2 + i, none⟩ = some (.int .u64 (m : Int)) ∧ wr.drew.cell? ⟨gt, k * 4 + 1, none⟩ = some (.int .u64 (x.yours : Int))) := ⟨by rw [← hgt]; exact z7, by
            have := (hE.at (k * 4 + 0) (by rw [sesL_len, ← HNN.out]; omega) (by rw [sesL_len, ← HNN.out])).1
            rw [sesL_get hx 0 (by omega)] at this; exact this, HST.out.drew.cellOf (g := gp) (cs := pC p) (t := 86) (by simp) (2 + i) (by rw [pC_life p HI.out, HM.out]), by
            have := (hE.at (k * 4 + 1) (by rw [sesL_len, ← HNN.out]; omega) (by rw [sesL_len, ← HNN.out])).1
            rw [sesL_get hx 1 (by omega)] at this; exact this⟩
        have HX := Lib.hid hx
        have HLT := Lib.hid hlt
        have HGT := Lib.hid hgt
        clear hks hlt hx hE hgt
        go_upto_region 7 with fail
        clear z7
        go_cut [63] (fun s63 wx => s63 = .bool (decide (x.mine = m ∧ x.yours = y)) ∧ wx = wr.drew)
        case first =>
          rw [HGT.out]
          rcases (show (x.mine = m ∧ x.yours = y) ∨ (x.mine = m ∧ x.yours ≠ y) ∨ x.mine ≠ m by omega) with ⟨q, q'⟩ | ⟨q, q'⟩ | q
          · skip
            have a1 : ((x.mine : Int) == (m : Int)) = true := by simp; omega
            have a2 : (x.mine == m) = true := by simp; omega
            have a3 : ((x.yours : Int) == (y : Int)) = true := by simp; omega
            have a4 : (x.yours == y) = true := by simp; omega
            have SM : ∀ (bb0 : Bool) (w9 : World), (fun (_ : Bool) (w9 : World) => w9.cell? ⟨gp, 7 + i, none⟩ = some (.slice (some ⟨gt, 0, none⟩) n ct) ∧ w9.cell? ⟨gt, k * 4, none⟩ = some (.int .u64 (x.mine : Int)) ∧ w9.cell? ⟨gp, 2 + i, none⟩ = some (.int .u64 (m : Int)) ∧ w9.cell? ⟨gt, k * 4 + 1, none⟩ = some (.int .u64 (x.yours : Int))) bb0 w9 → (fun (_ : Bool) (w9 : World) => w9.cell? ⟨gp, 7 + i, none⟩ = some (.slice (some ⟨gt, 0, none⟩) n ct) ∧ w9.cell? ⟨gt, k * 4, none⟩ = some (.int .u64 (x.mine : Int)) ∧ w9.cell? ⟨gp, 2 + i, none⟩ = some (.int .u64 (m : Int)) ∧ w9.cell? ⟨gt, k * 4 + 1, none⟩ = some (.int .u64 (x.yours : Int))) true w9 := fun _ _ h => h
            refine RegL.begin_of (k := 99) (S := fun (_ : Bool) (w9 : World) => w9.cell? ⟨gp, 7 + i, none⟩ = some (.slice (some ⟨gt, 0, none⟩) n ct) ∧ w9.cell? ⟨gt, k * 4, none⟩ = some (.int .u64 (x.mine : Int)) ∧ w9.cell? ⟨gp, 2 + i, none⟩ = some (.int .u64 (m : Int)) ∧ w9.cell? ⟨gt, k * 4 + 1, none⟩ = some (.int .u64 (x.yours : Int))) (by kernel_rfl) ?_
            refine RegL.take_w (i := 0) (oi := ⟨some 33, _, _, _, _, _⟩) (v := ?_) SM rfl (by decide) (by kernel_rfl) (by kernel_rfl) (by kernel_rfl) (fun _ _ _ h => h) (Or.inl ⟨by rfl, ?_⟩) (H7.out) ?_
            rotate_left
            · intro w9 hw9; obtain ⟨q1, q2, q3, q4⟩ := hw9; go_simp; try with_reducible rfl
            try simp only [Act.put, List.setIfInBounds_toArray, List.set_cons_zero, List.set_cons_succ]
            refine RegL.take_w (i := 1) (oi := ⟨some 34, _, _, _, _, _⟩) (v := ?_) SM rfl (by decide) (by kernel_rfl) (by kernel_rfl) (by kernel_rfl) (fun _ _ _ h => h) (Or.inl ⟨by rfl, ?_⟩) (H7.out) ?_
            rotate_left
            · intro w9 hw9; obtain ⟨q1, q2, q3, q4⟩ := hw9; go_simp; try with_reducible rfl
            try simp only [Act.put, List.setIfInBounds_toArray, List.set_cons_zero, List.set_cons_succ]
            refine RegL.take_w (i := 2) (oi := ⟨some 35, _, _, _, _, _⟩) (v := ?_) SM rfl (by decide) (by kernel_rfl) (by kernel_rfl) (by kernel_rfl) (fun _ _ _ h => h) (Or.inl ⟨by rfl, ?_⟩) (H7.out) ?_
            rotate_left
            · intro w9 hw9; obtain ⟨q1, q2, q3, q4⟩ := hw9; go_simp; try with_reducible rfl
            try simp only [Act.put, List.setIfInBounds_toArray, List.set_cons_zero, List.set_cons_succ]
            refine RegL.take_w (i := 3) (oi := ⟨some 36, _, _, _, _, _⟩) (v := ?_) SM rfl (by decide) (by kernel_rfl) (by kernel_rfl) (by kernel_rfl) (fun _ _ _ h => h) (Or.inl ⟨by rfl, ?_⟩) (H7.out) ?_
            rotate_left
            · intro w9 hw9; obtain ⟨q1, q2, q3, q4⟩ := hw9; go_simp; try with_reducible rfl
            try simp only [Act.put, List.setIfInBounds_toArray, List.set_cons_zero, List.set_cons_succ]
            refine RegL.take_w (i := 4) (oi := ⟨some 37, _, _, _, _, _⟩) (v := ?_) SM rfl (by decide) (by kernel_rfl) (by kernel_rfl) (by kernel_rfl) (fun _ _ _ h => h) (Or.inl ⟨by rfl, ?_⟩) (H7.out) ?_
            rotate_left
            · intro w9 hw9; obtain ⟨q1, q2, q3, q4⟩ := hw9; go_simp; try with_reducible rfl
            try simp only [Act.put, List.setIfInBounds_toArray, List.set_cons_zero, List.set_cons_succ]
            refine RegL.take_w (i := 5) (oi := ⟨some 38, _, _, _, _, _⟩) (v := ?_) SM rfl (by decide) (by kernel_rfl) (by kernel_rfl) (by kernel_rfl) (fun _ _ _ h => h) (Or.inl ⟨by rfl, ?_⟩) (H7.out) ?_
            rotate_left
            · intro w9 hw9; obtain ⟨q1, q2, q3, q4⟩ := hw9; go_simp; try with_reducible rfl
            try simp only [Act.put, List.setIfInBounds_toArray, List.set_cons_zero, List.set_cons_succ]
            refine RegL.take_w (i := 6) (oi := ⟨some 39, _, _, _, _, _⟩) (v := ?_) SM rfl (by decide) (by kernel_rfl) (by kernel_rfl) (by kernel_rfl) (fun _ _ _ h => h) (Or.inl ⟨by rfl, ?_⟩) (H7.out) ?_
            rotate_left
            · intro w9 hw9; obtain ⟨q1, q2, q3, q4⟩ := hw9; go_simp; try with_reducible rfl
            try simp only [Act.put, List.setIfInBounds_toArray, List.set_cons_zero, List.set_cons_succ]
            refine RegL.take_w (i := 7) (oi := ⟨some 40, _, _, _, _, _⟩) (v := ?_) SM rfl (by decide) (by kernel_rfl) (by kernel_rfl) (by kernel_rfl) (fun _ _ _ h => h) (Or.inl ⟨by rfl, ?_⟩) (H7.out) ?_
            rotate_left
            · intro w9 hw9; obtain ⟨q1, q2, q3, q4⟩ := hw9; go_simp; try with_reducible rfl
            try simp only [Act.put, List.setIfInBounds_toArray, List.set_cons_zero, List.set_cons_succ]
            refine RegL.take_w (i := 8) (oi := ⟨some 41, _, _, _, _, _⟩) (v := ?_) SM rfl (by decide) (by kernel_rfl) (by kernel_rfl) (by kernel_rfl) (fun _ _ _ h => h) (Or.inl ⟨by rfl, ?_⟩) (H7.out) ?_
            rotate_left
            · intro w9 hw9; obtain ⟨q1, q2, q3, q4⟩ := hw9; go_simp; try with_reducible rfl
            try simp only [Act.put, List.setIfInBounds_toArray, List.set_cons_zero, List.set_cons_succ]
            refine RegL.take_w (i := 9) (oi := ⟨some 42, _, _, _, _, _⟩) (v := ?_) SM rfl (by decide) (by kernel_rfl) (by kernel_rfl) (by kernel_rfl) (fun _ _ _ h => h) (Or.inl ⟨by rfl, ?_⟩) (H7.out) ?_
            rotate_left
            · intro w9 hw9; obtain ⟨q1, q2, q3, q4⟩ := hw9; go_simp; try with_reducible rfl
            try simp only [Act.put, List.setIfInBounds_toArray, List.set_cons_zero, List.set_cons_succ]
            refine RegL.take_w (i := 10) (oi := ⟨some 43, _, _, _, _, _⟩) (v := ?_) SM rfl (by decide) (by kernel_rfl) (by kernel_rfl) (by kernel_rfl) (fun _ _ _ h => h) (Or.inl ⟨by rfl, ?_⟩) (H7.out) ?_
            rotate_left
            · intro w9 hw9; obtain ⟨q1, q2, q3, q4⟩ := hw9; go_simp; try with_reducible rfl
            try simp only [Act.put, List.setIfInBounds_toArray, List.set_cons_zero, List.set_cons_succ]
            refine RegL.take_w (i := 11) (oi := ⟨some 44, _, _, _, _, _⟩) (v := ?_) SM rfl (by decide) (by kernel_rfl) (by kernel_rfl) (by kernel_rfl) (fun _ _ _ h => h) (Or.inl ⟨by rfl, ?_⟩) (H7.out) ?_
            rotate_left
            · intro w9 hw9; obtain ⟨q1, q2, q3, q4⟩ := hw9; go_simp; try with_reducible rfl
            try simp only [Act.put, List.setIfInBounds_toArray, List.set_cons_zero, List.set_cons_succ]
            refine RegL.take_w (i := 12) (oi := ⟨some 45, _, _, _, _, _⟩) (v := ?_) SM rfl (by decide) (by kernel_rfl) (by kernel_rfl) (by kernel_rfl) (fun _ _ _ h => h) (Or.inl ⟨by rfl, ?_⟩) (H7.out) ?_
            rotate_left
            · intro w9 hw9; obtain ⟨q1, q2, q3, q4⟩ := hw9; go_simp; try with_reducible rfl
            try simp only [Act.put, List.setIfInBounds_toArray, List.set_cons_zero, List.set_cons_succ]
            refine RegL.take_w (i := 13) (oi := ⟨some 46, _, _, _, _, _⟩) (v := ?_) SM rfl (by decide) (by kernel_rfl) (by kernel_rfl) (by kernel_rfl) (fun _ _ _ h => h) (Or.inl ⟨by rfl, ?_⟩) (H7.out) ?_
            rotate_left
            · intro w9 hw9; obtain ⟨q1, q2, q3, q4⟩ := hw9; go_simp; try with_reducible rfl
            try simp only [Act.put, List.setIfInBounds_toArray, List.set_cons_zero, List.set_cons_succ]
            refine RegL.take_w (i := 14) (oi := ⟨some 47, _, _, _, _, _⟩) (v := ?_) SM rfl (by decide) (by kernel_rfl) (by kernel_rfl) (by kernel_rfl) (fun _ _ _ h => h) (Or.inl ⟨by rfl, ?_⟩) (H7.out) ?_
            rotate_left
            · intro w9 hw9; obtain ⟨q1, q2, q3, q4⟩ := hw9; go_simp; try with_reducible rfl
            try simp only [Act.put, List.setIfInBounds_toArray, List.set_cons_zero, List.set_cons_succ]
            refine RegL.take_w (i := 15) (oi := ⟨some 48, _, _, _, _, _⟩) (v := ?_) SM rfl (by decide) (by kernel_rfl) (by kernel_rfl) (by kernel_rfl) (fun _ _ _ h => h) (Or.inl ⟨by rfl, ?_⟩) (H7.out) ?_
            rotate_left
            · intro w9 hw9; obtain ⟨q1, q2, q3, q4⟩ := hw9; go_simp; try with_reducible rfl
            try simp only [Act.put, List.setIfInBounds_toArray, List.set_cons_zero, List.set_cons_succ]
            refine RegL.take_w (i := 16) (oi := ⟨some 49, _, _, _, _, _⟩) (v := ?_) SM rfl (by decide) (by kernel_rfl) (by kernel_rfl) (by kernel_rfl) (fun _ _ _ h => h) (Or.inl ⟨by rfl, ?_⟩) (H7.out) ?_
            rotate_left
            · intro w9 hw9; obtain ⟨q1, q2, q3, q4⟩ := hw9; go_simp; try with_reducible rfl
            try simp only [Act.put, List.setIfInBounds_toArray, List.set_cons_zero, List.set_cons_succ]
            refine RegL.take_w (i := 17) (oi := ⟨some 50, _, _, _, _, _⟩) (v := ?_) SM rfl (by decide) (by kernel_rfl) (by kernel_rfl) (by kernel_rfl) (fun _ _ _ h => h) (Or.inl ⟨by rfl, ?_⟩) (H7.out) ?_
            rotate_left
            · intro w9 hw9; obtain ⟨q1, q2, q3, q4⟩ := hw9; go_simp; try with_reducible rfl
            try simp only [Act.put, List.setIfInBounds_toArray, List.set_cons_zero, List.set_cons_succ]
            refine RegL.take_w (i := 18) (oi := ⟨some 51, _, _, _, _, _⟩) (v := ?_) SM rfl (by decide) (by kernel_rfl) (by kernel_rfl) (by kernel_rfl) (fun _ _ _ h => h) (Or.inl ⟨by rfl, ?_⟩) (H7.out) ?_
            rotate_left
            · intro w9 hw9; obtain ⟨q1, q2, q3, q4⟩ := hw9; go_simp; try with_reducible rfl
            try simp only [Act.put, List.setIfInBounds_toArray, List.set_cons_zero, List.set_cons_succ]
            refine RegL.take_w (i := 19) (oi := ⟨some 52, _, _, _, _, _⟩) (v := ?_) SM rfl (by decide) (by kernel_rfl) (by kernel_rfl) (by kernel_rfl) (fun _ _ _ h => h) (Or.inl ⟨by rfl, ?_⟩) (H7.out) ?_
            rotate_left
            · intro w9 hw9; obtain ⟨q1, q2, q3, q4⟩ := hw9; go_simp; try with_reducible rfl
            try simp only [Act.put, List.setIfInBounds_toArray, List.set_cons_zero, List.set_cons_succ]
            refine RegL.take_w (i := 20) (oi := ⟨some 53, _, _, _, _, _⟩) (v := ?_) SM rfl (by decide) (by kernel_rfl) (by kernel_rfl) (by kernel_rfl) (fun _ _ _ h => h) (Or.inl ⟨by rfl, ?_⟩) (H7.out) ?_
            rotate_left
            · intro w9 hw9; obtain ⟨q1, q2, q3, q4⟩ := hw9; go_simp; try with_reducible rfl
            try simp only [Act.put, List.setIfInBounds_toArray, List.set_cons_zero, List.set_cons_succ]
            refine RegL.take_w (i := 21) (oi := ⟨some 54, _, _, _, _, _⟩) (v := ?_) SM rfl (by decide) (by kernel_rfl) (by kernel_rfl) (by kernel_rfl) (fun _ _ _ h => h) (Or.inl ⟨by rfl, ?_⟩) (H7.out) ?_
            rotate_left
            · intro w9 hw9; obtain ⟨q1, q2, q3, q4⟩ := hw9; go_simp; try with_reducible rfl
            try simp only [Act.put, List.setIfInBounds_toArray, List.set_cons_zero, List.set_cons_succ]
            refine RegL.take_w (i := 22) (oi := ⟨some 55, _, _, _, _, _⟩) (v := ?_) SM rfl (by decide) (by kernel_rfl) (by kernel_rfl) (by kernel_rfl) (fun _ _ _ h => h) (Or.inl ⟨by rfl, ?_⟩) (H7.out) ?_
            rotate_left
            · intro w9 hw9; obtain ⟨q1, q2, q3, q4⟩ := hw9; go_simp; try with_reducible rfl
            try simp only [Act.put, List.setIfInBounds_toArray, List.set_cons_zero, List.set_cons_succ]
            refine RegL.take_w (i := 23) (oi := ⟨some 56, _, _, _, _, _⟩) (v := ?_) SM rfl (by decide) (by kernel_rfl) (by kernel_rfl) (by kernel_rfl) (fun _ _ _ h => h) (Or.inl ⟨by rfl, ?_⟩) (H7.out) ?_
            rotate_left
            · intro w9 hw9; obtain ⟨q1, q2, q3, q4⟩ := hw9; go_simp; try with_reducible rfl
            try simp only [Act.put, List.setIfInBounds_toArray, List.set_cons_zero, List.set_cons_succ]
            refine RegL.take_w (i := 24) (oi := ⟨some 57, _, _, _, _, _⟩) (v := ?_) SM rfl (by decide) (by kernel_rfl) (by kernel_rfl) (by kernel_rfl) (fun _ _ _ h => h) (Or.inl ⟨by rfl, ?_⟩) (H7.out) ?_
            rotate_left
            · intro w9 hw9; obtain ⟨q1, q2, q3, q4⟩ := hw9; go_simp; try with_reducible rfl
            try simp only [Act.put, List.setIfInBounds_toArray, List.set_cons_zero, List.set_cons_succ]
            refine RegL.take_w (i := 25) (oi := ⟨some 58, _, _, _, _, _⟩) (v := ?_) SM rfl (by decide) (by kernel_rfl) (by kernel_rfl) (by kernel_rfl) (fun _ _ _ h => h) (Or.inl ⟨by rfl, ?_⟩) (H7.out) ?_
            rotate_left
            · intro w9 hw9; obtain ⟨q1, q2, q3, q4⟩ := hw9; go_simp; try with_reducible rfl
            try simp only [Act.put, List.setIfInBounds_toArray, List.set_cons_zero, List.set_cons_succ]
            refine RegL.take_w (i := 26) (oi := ⟨some 59, _, _, _, _, _⟩) (v := ?_) SM rfl (by decide) (by kernel_rfl) (by kernel_rfl) (by kernel_rfl) (fun _ _ _ h => h) (Or.inl ⟨by rfl, ?_⟩) (H7.out) ?_
            rotate_left
            · intro w9 hw9; obtain ⟨q1, q2, q3, q4⟩ := hw9; go_simp; try with_reducible rfl
            try simp only [Act.put, List.setIfInBounds_toArray, List.set_cons_zero, List.set_cons_succ]
            refine RegL.take_w (i := 27) (oi := ⟨some 60, _, _, _, _, _⟩) (v := ?_) SM rfl (by decide) (by kernel_rfl) (by kernel_rfl) (by kernel_rfl) (fun _ _ _ h => h) (Or.inl ⟨by rfl, ?_⟩) (H7.out) ?_
            rotate_left
            · intro w9 hw9; obtain ⟨q1, q2, q3, q4⟩ := hw9; go_simp; try with_reducible rfl
            try simp only [Act.put, List.setIfInBounds_toArray, List.set_cons_zero, List.set_cons_succ]
            refine RegL.take_w (i := 28) (oi := ⟨some 61, _, _, _, _, _⟩) (v := ?_) SM rfl (by decide) (by kernel_rfl) (by kernel_rfl) (by kernel_rfl) (fun _ _ _ h => h) (Or.inl ⟨by rfl, ?_⟩) (H7.out) ?_
            rotate_left
            · intro w9 hw9; obtain ⟨q1, q2, q3, q4⟩ := hw9; go_simp; try with_reducible rfl
            try simp only [Act.put, List.setIfInBounds_toArray, List.set_cons_zero, List.set_cons_succ]
            refine RegL.take_w (i := 29) (oi := ⟨some 62, _, _, _, _, _⟩) (v := ?_) SM rfl (by decide) (by kernel_rfl) (by kernel_rfl) (by kernel_rfl) (fun _ _ _ h => h) (Or.inl ⟨by rfl, ?_⟩) (H7.out) ?_
            rotate_left
            · intro w9 hw9; obtain ⟨q1, q2, q3, q4⟩ := hw9; go_simp; try with_reducible rfl
            try simp only [Act.put, List.setIfInBounds_toArray, List.set_cons_zero, List.set_cons_succ]
            refine RegL.take_w (i := 30) (oi := ⟨some 63, _, _, _, _, _⟩) (v := ?_) SM rfl (by decide) (by kernel_rfl) (by kernel_rfl) (by kernel_rfl) (fun _ _ _ h => h) (Or.inl ⟨by rfl, ?_⟩) (H7.out) ?_
            rotate_left
            · intro w9 hw9; obtain ⟨q1, q2, q3, q4⟩ := hw9; go_simp; try with_reducible rfl
            try simp only [Act.put, List.setIfInBounds_toArray, List.set_cons_zero, List.set_cons_succ]
            refine RegL.done_of (by kernel_rfl) ?_ _
            go_wp2_with fail
            go_meet
            exact ⟨by rw [show decide (x.mine = m ∧ x.yours = y) = true by simp; omega], rfl⟩
          · skip
            have a1 : ((x.mine : Int) == (m : Int)) = true := by simp; omega
            have a2 : (x.mine == m) = true := by simp; omega
            have a3 : ((x.yours : Int) == (y : Int)) = false := by simp; omega
            have a4 : (x.yours == y) = false := by simp; omega
            have SM : ∀ (bb0 : Bool) (w9 : World), (fun (_ : Bool) (w9 : World) => w9.cell? ⟨gp, 7 + i, none⟩ = some (.slice (some ⟨gt, 0, none⟩) n ct) ∧ w9.cell? ⟨gt, k * 4, none⟩ = some (.int .u64 (x.mine : Int)) ∧ w9.cell? ⟨gp, 2 + i, none⟩ = some (.int .u64 (m : Int)) ∧ w9.cell? ⟨gt, k * 4 + 1, none⟩ = some (.int .u64 (x.yours : Int))) bb0 w9 → (fun (_ : Bool) (w9 : World) => w9.cell? ⟨gp, 7 + i, none⟩ = some (.slice (some ⟨gt, 0, none⟩) n ct) ∧ w9.cell? ⟨gt, k * 4, none⟩ = some (.int .u64 (x.mine : Int)) ∧ w9.cell? ⟨gp, 2 + i, none⟩ = some (.int .u64 (m : Int)) ∧ w9.cell? ⟨gt, k * 4 + 1, none⟩ = some (.int .u64 (x.yours : Int))) true w9 := fun _ _ h => h
            refine RegL.begin_of (k := 99) (S := fun (_ : Bool) (w9 : World) => w9.cell? ⟨gp, 7 + i, none⟩ = some (.slice (some ⟨gt, 0, none⟩) n ct) ∧ w9.cell? ⟨gt, k * 4, none⟩ = some (.int .u64 (x.mine : Int)) ∧ w9.cell? ⟨gp, 2 + i, none⟩ = some (.int .u64 (m : Int)) ∧ w9.cell? ⟨gt, k * 4 + 1, none⟩ = some (.int .u64 (x.yours : Int))) (by kernel_rfl) ?_
            refine RegL.take_w (i := 0) (oi := ⟨some 33, _, _, _, _, _⟩) (v := ?_) SM rfl (by decide) (by kernel_rfl) (by kernel_rfl) (by kernel_rfl) (fun _ _ _ h => h) (Or.inl ⟨by rfl, ?_⟩) (H7.out) ?_
            rotate_left
            · intro w9 hw9; obtain ⟨q1, q2, q3, q4⟩ := hw9; go_simp; try with_reducible rfl
            try simp only [Act.put, List.setIfInBounds_toArray, List.set_cons_zero, List.set_cons_succ]
            refine RegL.take_w (i := 1) (oi := ⟨some 34, _, _, _, _, _⟩) (v := ?_) SM rfl (by decide) (by kernel_rfl) (by kernel_rfl) (by kernel_rfl) (fun _ _ _ h => h) (Or.inl ⟨by rfl, ?_⟩) (H7.out) ?_
            rotate_left
            · intro w9 hw9; obtain ⟨q1, q2, q3, q4⟩ := hw9; go_simp; try with_reducible rfl
            try simp only [Act.put, List.setIfInBounds_toArray, List.set_cons_zero, List.set_cons_succ]
            refine RegL.take_w (i := 2) (oi := ⟨some 35, _, _, _, _, _⟩) (v := ?_) SM rfl (by decide) (by kernel_rfl) (by kernel_rfl) (by kernel_rfl) (fun _ _ _ h => h) (Or.inl ⟨by rfl, ?_⟩) (H7.out) ?_
            rotate_left
            · intro w9 hw9; obtain ⟨q1, q2, q3, q4⟩ := hw9; go_simp; try with_reducible rfl
            try simp only [Act.put, List.setIfInBounds_toArray, List.set_cons_zero, List.set_cons_succ]
            refine RegL.take_w (i := 3) (oi := ⟨some 36, _, _, _, _, _⟩) (v := ?_) SM rfl (by decide) (by kernel_rfl) (by kernel_rfl) (by kernel_rfl) (fun _ _ _ h => h) (Or.inl ⟨by rfl, ?_⟩) (H7.out) ?_
            rotate_left
            · intro w9 hw9; obtain ⟨q1, q2, q3, q4⟩ := hw9; go_simp; try with_reducible rfl
            try simp only [Act.put, List.setIfInBounds_toArray, List.set_cons_zero, List.set_cons_succ]
            refine RegL.take_w (i := 4) (oi := ⟨some 37, _, _, _, _, _⟩) (v := ?_) SM rfl (by decide) (by kernel_rfl) (by kernel_rfl) (by kernel_rfl) (fun _ _ _ h => h) (Or.inl ⟨by rfl, ?_⟩) (H7.out) ?_
            rotate_left
            · intro w9 hw9; obtain ⟨q1, q2, q3, q4⟩ := hw9; go_simp; try with_reducible rfl
            try simp only [Act.put, List.setIfInBounds_toArray, List.set_cons_zero, List.set_cons_succ]
            refine RegL.take_w (i := 5) (oi := ⟨some 38, _, _, _, _, _⟩) (v := ?_) SM rfl (by decide) (by kernel_rfl) (by kernel_rfl) (by kernel_rfl) (fun _ _ _ h => h) (Or.inl ⟨by rfl, ?_⟩) (H7.out) ?_
            rotate_left
            · intro w9 hw9; obtain ⟨q1, q2, q3, q4⟩ := hw9; go_simp; try with_reducible rfl
            try simp only [Act.put, List.setIfInBounds_toArray, List.set_cons_zero, List.set_cons_succ]
            refine RegL.take_w (i := 6) (oi := ⟨some 39, _, _, _, _, _⟩) (v := ?_) SM rfl (by decide) (by kernel_rfl) (by kernel_rfl) (by kernel_rfl) (fun _ _ _ h => h) (Or.inl ⟨by rfl, ?_⟩) (H7.out) ?_
            rotate_left
            · intro w9 hw9; obtain ⟨q1, q2, q3, q4⟩ := hw9; go_simp; try with_reducible rfl
            try simp only [Act.put, List.setIfInBounds_toArray, List.set_cons_zero, List.set_cons_succ]
            refine RegL.take_w (i := 7) (oi := ⟨some 40, _, _, _, _, _⟩) (v := ?_) SM rfl (by decide) (by kernel_rfl) (by kernel_rfl) (by kernel_rfl) (fun _ _ _ h => h) (Or.inl ⟨by rfl, ?_⟩) (H7.out) ?_
            rotate_left
            · intro w9 hw9; obtain ⟨q1, q2, q3, q4⟩ := hw9; go_simp; try with_reducible rfl
            try simp only [Act.put, List.setIfInBounds_toArray, List.set_cons_zero, List.set_cons_succ]
            refine RegL.take_w (i := 8) (oi := ⟨some 41, _, _, _, _, _⟩) (v := ?_) SM rfl (by decide) (by kernel_rfl) (by kernel_rfl) (by kernel_rfl) (fun _ _ _ h => h) (Or.inl ⟨by rfl, ?_⟩) (H7.out) ?_
            rotate_left
            · intro w9 hw9; obtain ⟨q1, q2, q3, q4⟩ := hw9; go_simp; try with_reducible rfl
            try simp only [Act.put, List.setIfInBounds_toArray, List.set_cons_zero, List.set_cons_succ]
            refine RegL.take_w (i := 9) (oi := ⟨some 42, _, _, _, _, _⟩) (v := ?_) SM rfl (by decide) (by kernel_rfl) (by kernel_rfl) (by kernel_rfl) (fun _ _ _ h => h) (Or.inl ⟨by rfl, ?_⟩) (H7.out) ?_
            rotate_left
            · intro w9 hw9; obtain ⟨q1, q2, q3, q4⟩ := hw9; go_simp; try with_reducible rfl
            try simp only [Act.put, List.setIfInBounds_toArray, List.set_cons_zero, List.set_cons_succ]
            refine RegL.take_w (i := 10) (oi := ⟨some 43, _, _, _, _, _⟩) (v := ?_) SM rfl (by decide) (by kernel_rfl) (by kernel_rfl) (by kernel_rfl) (fun _ _ _ h => h) (Or.inl ⟨by rfl, ?_⟩) (H7.out) ?_
            rotate_left
            · intro w9 hw9; obtain ⟨q1, q2, q3, q4⟩ := hw9; go_simp; try with_reducible rfl
            try simp only [Act.put, List.setIfInBounds_toArray, List.set_cons_zero, List.set_cons_succ]
            refine RegL.take_w (i := 11) (oi := ⟨some 44, _, _, _, _, _⟩) (v := ?_) SM rfl (by decide) (by kernel_rfl) (by kernel_rfl) (by kernel_rfl) (fun _ _ _ h => h) (Or.inl ⟨by rfl, ?_⟩) (H7.out) ?_
            rotate_left
            · intro w9 hw9; obtain ⟨q1, q2, q3, q4⟩ := hw9; go_simp; try with_reducible rfl
            try simp only [Act.put, List.setIfInBounds_toArray, List.set_cons_zero, List.set_cons_succ]
            refine RegL.take_w (i := 12) (oi := ⟨some 45, _, _, _, _, _⟩) (v := ?_) SM rfl (by decide) (by kernel_rfl) (by kernel_rfl) (by kernel_rfl) (fun _ _ _ h => h) (Or.inl ⟨by rfl, ?_⟩) (H7.out) ?_
            rotate_left
            · intro w9 hw9; obtain ⟨q1, q2, q3, q4⟩ := hw9; go_simp; try with_reducible rfl
            try simp only [Act.put, List.setIfInBounds_toArray, List.set_cons_zero, List.set_cons_succ]
            refine RegL.take_w (i := 13) (oi := ⟨some 46, _, _, _, _, _⟩) (v := ?_) SM rfl (by decide) (by kernel_rfl) (by kernel_rfl) (by kernel_rfl) (fun _ _ _ h => h) (Or.inl ⟨by rfl, ?_⟩) (H7.out) ?_
            rotate_left
            · intro w9 hw9; obtain ⟨q1, q2, q3, q4⟩ := hw9; go_simp; try with_reducible rfl
            try simp only [Act.put, List.setIfInBounds_toArray, List.set_cons_zero, List.set_cons_succ]
            refine RegL.take_w (i := 14) (oi := ⟨some 47, _, _, _, _, _⟩) (v := ?_) SM rfl (by decide) (by kernel_rfl) (by kernel_rfl) (by kernel_rfl) (fun _ _ _ h => h) (Or.inl ⟨by rfl, ?_⟩) (H7.out) ?_
            rotate_left
            · intro w9 hw9; obtain ⟨q1, q2, q3, q4⟩ := hw9; go_simp; try with_reducible rfl
            try simp only [Act.put, List.setIfInBounds_toArray, List.set_cons_zero, List.set_cons_succ]
            refine RegL.take_w (i := 15) (oi := ⟨some 48, _, _, _, _, _⟩) (v := ?_) SM rfl (by decide) (by kernel_rfl) (by kernel_rfl) (by kernel_rfl) (fun _ _ _ h => h) (Or.inl ⟨by rfl, ?_⟩) (H7.out) ?_
            rotate_left
            · intro w9 hw9; obtain ⟨q1, q2, q3, q4⟩ := hw9; go_simp; try with_reducible rfl
            try simp only [Act.put, List.setIfInBounds_toArray, List.set_cons_zero, List.set_cons_succ]
            refine RegL.take_w (i := 16) (oi := ⟨some 49, _, _, _, _, _⟩) (v := ?_) SM rfl (by decide) (by kernel_rfl) (by kernel_rfl) (by kernel_rfl) (fun _ _ _ h => h) (Or.inl ⟨by rfl, ?_⟩) (H7.out) ?_
            rotate_left
            · intro w9 hw9; obtain ⟨q1, q2, q3, q4⟩ := hw9; go_simp; try with_reducible rfl
            try simp only [Act.put, List.setIfInBounds_toArray, List.set_cons_zero, List.set_cons_succ]
            refine RegL.take_w (i := 17) (oi := ⟨some 50, _, _, _, _, _⟩) (v := ?_) SM rfl (by decide) (by kernel_rfl) (by kernel_rfl) (by kernel_rfl) (fun _ _ _ h => h) (Or.inl ⟨by rfl, ?_⟩) (H7.out) ?_
            rotate_left
            · intro w9 hw9; obtain ⟨q1, q2, q3, q4⟩ := hw9; go_simp; try with_reducible rfl
            try simp only [Act.put, List.setIfInBounds_toArray, List.set_cons_zero, List.set_cons_succ]
            refine RegL.take_w (i := 18) (oi := ⟨some 51, _, _, _, _, _⟩) (v := ?_) SM rfl (by decide) (by kernel_rfl) (by kernel_rfl) (by kernel_rfl) (fun _ _ _ h => h) (Or.inl ⟨by rfl, ?_⟩) (H7.out) ?_
            rotate_left
            · intro w9 hw9; obtain ⟨q1, q2, q3, q4⟩ := hw9; go_simp; try with_reducible rfl
            try simp only [Act.put, List.setIfInBounds_toArray, List.set_cons_zero, List.set_cons_succ]
            refine RegL.take_w (i := 19) (oi := ⟨some 52, _, _, _, _, _⟩) (v := ?_) SM rfl (by decide) (by kernel_rfl) (by kernel_rfl) (by kernel_rfl) (fun _ _ _ h => h) (Or.inl ⟨by rfl, ?_⟩) (H7.out) ?_
            rotate_left
            · intro w9 hw9; obtain ⟨q1, q2, q3, q4⟩ := hw9; go_simp; try with_reducible rfl
            try simp only [Act.put, List.setIfInBounds_toArray, List.set_cons_zero, List.set_cons_succ]
            refine RegL.take_w (i := 20) (oi := ⟨some 53, _, _, _, _, _⟩) (v := ?_) SM rfl (by decide) (by kernel_rfl) (by kernel_rfl) (by kernel_rfl) (fun _ _ _ h => h) (Or.inl ⟨by rfl, ?_⟩) (H7.out) ?_
            rotate_left
            · intro w9 hw9; obtain ⟨q1, q2, q3, q4⟩ := hw9; go_simp; try with_reducible rfl
            try simp only [Act.put, List.setIfInBounds_toArray, List.set_cons_zero, List.set_cons_succ]
            refine RegL.take_w (i := 21) (oi := ⟨some 54, _, _, _, _, _⟩) (v := ?_) SM rfl (by decide) (by kernel_rfl) (by kernel_rfl) (by kernel_rfl) (fun _ _ _ h => h) (Or.inl ⟨by rfl, ?_⟩) (H7.out) ?_
            rotate_left
            · intro w9 hw9; obtain ⟨q1, q2, q3, q4⟩ := hw9; go_simp; try with_reducible rfl
            try simp only [Act.put, List.setIfInBounds_toArray, List.set_cons_zero, List.set_cons_succ]
            refine RegL.take_w (i := 22) (oi := ⟨some 55, _, _, _, _, _⟩) (v := ?_) SM rfl (by decide) (by kernel_rfl) (by kernel_rfl) (by kernel_rfl) (fun _ _ _ h => h) (Or.inl ⟨by rfl, ?_⟩) (H7.out) ?_
            rotate_left
            · intro w9 hw9; obtain ⟨q1, q2, q3, q4⟩ := hw9; go_simp; try with_reducible rfl
            try simp only [Act.put, List.setIfInBounds_toArray, List.set_cons_zero, List.set_cons_succ]
            refine RegL.take_w (i := 23) (oi := ⟨some 56, _, _, _, _, _⟩) (v := ?_) SM rfl (by decide) (by kernel_rfl) (by kernel_rfl) (by kernel_rfl) (fun _ _ _ h => h) (Or.inl ⟨by rfl, ?_⟩) (H7.out) ?_
            rotate_left
            · intro w9 hw9; obtain ⟨q1, q2, q3, q4⟩ := hw9; go_simp; try with_reducible rfl
            try simp only [Act.put, List.setIfInBounds_toArray, List.set_cons_zero, List.set_cons_succ]
            refine RegL.take_w (i := 24) (oi := ⟨some 57, _, _, _, _, _⟩) (v := ?_) SM rfl (by decide) (by kernel_rfl) (by kernel_rfl) (by kernel_rfl) (fun _ _ _ h => h) (Or.inl ⟨by rfl, ?_⟩) (H7.out) ?_
            rotate_left
            · intro w9 hw9; obtain ⟨q1, q2, q3, q4⟩ := hw9; go_simp; try with_reducible rfl
            try simp only [Act.put, List.setIfInBounds_toArray, List.set_cons_zero, List.set_cons_succ]
            refine RegL.take_w (i := 25) (oi := ⟨some 58, _, _, _, _, _⟩) (v := ?_) SM rfl (by decide) (by kernel_rfl) (by kernel_rfl) (by kernel_rfl) (fun _ _ _ h => h) (Or.inl ⟨by rfl, ?_⟩) (H7.out) ?_
            rotate_left
            · intro w9 hw9; obtain ⟨q1, q2, q3, q4⟩ := hw9; go_simp; try with_reducible rfl
            try simp only [Act.put, List.setIfInBounds_toArray, List.set_cons_zero, List.set_cons_succ]
            refine RegL.take_w (i := 26) (oi := ⟨some 59, _, _, _, _, _⟩) (v := ?_) SM rfl (by decide) (by kernel_rfl) (by kernel_rfl) (by kernel_rfl) (fun _ _ _ h => h) (Or.inl ⟨by rfl, ?_⟩) (H7.out) ?_
            rotate_left
            · intro w9 hw9; obtain ⟨q1, q2, q3, q4⟩ := hw9; go_simp; try with_reducible rfl
            try simp only [Act.put, List.setIfInBounds_toArray, List.set_cons_zero, List.set_cons_succ]
            refine RegL.take_w (i := 27) (oi := ⟨some 60, _, _, _, _, _⟩) (v := ?_) SM rfl (by decide) (by kernel_rfl) (by kernel_rfl) (by kernel_rfl) (fun _ _ _ h => h) (Or.inl ⟨by rfl, ?_⟩) (H7.out) ?_
            rotate_left
            · intro w9 hw9; obtain ⟨q1, q2, q3, q4⟩ := hw9; go_simp; try with_reducible rfl
            try simp only [Act.put, List.setIfInBounds_toArray, List.set_cons_zero, List.set_cons_succ]
            refine RegL.take_w (i := 28) (oi := ⟨some 61, _, _, _, _, _⟩) (v := ?_) SM rfl (by decide) (by kernel_rfl) (by kernel_rfl) (by kernel_rfl) (fun _ _ _ h => h) (Or.inl ⟨by rfl, ?_⟩) (H7.out) ?_
            rotate_left
            · intro w9 hw9; obtain ⟨q1, q2, q3, q4⟩ := hw9; go_simp; try with_reducible rfl
            try simp only [Act.put, List.setIfInBounds_toArray, List.set_cons_zero, List.set_cons_succ]
            refine RegL.take_w (i := 29) (oi := ⟨some 62, _, _, _, _, _⟩) (v := ?_) SM rfl (by decide) (by kernel_rfl) (by kernel_rfl) (by kernel_rfl) (fun _ _ _ h => h) (Or.inl ⟨by rfl, ?_⟩) (H7.out) ?_
            rotate_left
            · intro w9 hw9; obtain ⟨q1, q2, q3, q4⟩ := hw9; go_simp; try with_reducible rfl
            try simp only [Act.put, List.setIfInBounds_toArray, List.set_cons_zero, List.set_cons_succ]
            refine RegL.take_w (i := 30) (oi := ⟨some 63, _, _, _, _, _⟩) (v := ?_) SM rfl (by decide) (by kernel_rfl) (by kernel_rfl) (by kernel_rfl) (fun _ _ _ h => h) (Or.inl ⟨by rfl, ?_⟩) (H7.out) ?_
            rotate_left
            · intro w9 hw9; obtain ⟨q1, q2, q3, q4⟩ := hw9; go_simp; try with_reducible rfl
            try simp only [Act.put, List.setIfInBounds_toArray, List.set_cons_zero, List.set_cons_succ]
            refine RegL.done_of (by kernel_rfl) ?_ _
            go_wp2_with fail
            go_meet
            exact ⟨by rw [show decide (x.mine = m ∧ x.yours = y) = false by simp; omega], rfl⟩
          · skip
            have a1 : ((x.mine : Int) == (m : Int)) = false := by simp; omega
            have a2 : (x.mine == m) = false := by simp; omega
            have SM : ∀ (bb0 : Bool) (w9 : World), (fun (_ : Bool) (w9 : World) => w9.cell? ⟨gp, 7 + i, none⟩ = some (.slice (some ⟨gt, 0, none⟩) n ct) ∧ w9.cell? ⟨gt, k * 4, none⟩ = some (.int .u64 (x.mine : Int)) ∧ w9.cell? ⟨gp, 2 + i, none⟩ = some (.int .u64 (m : Int)) ∧ w9.cell? ⟨gt, k * 4 + 1, none⟩ = some (.int .u64 (x.yours : Int))) bb0 w9 → (fun (_ : Bool) (w9 : World) => w9.cell? ⟨gp, 7 + i, none⟩ = some (.slice (some ⟨gt, 0, none⟩) n ct) ∧ w9.cell? ⟨gt, k * 4, none⟩ = some (.int .u64 (x.mine : Int)) ∧ w9.cell? ⟨gp, 2 + i, none⟩ = some (.int .u64 (m : Int)) ∧ w9.cell? ⟨gt, k * 4 + 1, none⟩ = some (.int .u64 (x.yours : Int))) true w9 := fun _ _ h => h
            refine RegL.begin_of (k := 99) (S := fun (_ : Bool) (w9 : World) => w9.cell? ⟨gp, 7 + i, none⟩ = some (.slice (some ⟨gt, 0, none⟩) n ct) ∧ w9.cell? ⟨gt, k * 4, none⟩ = some (.int .u64 (x.mine : Int)) ∧ w9.cell? ⟨gp, 2 + i, none⟩ = some (.int .u64 (m : Int)) ∧ w9.cell? ⟨gt, k * 4 + 1, none⟩ = some (.int .u64 (x.yours : Int))) (by kernel_rfl) ?_
            refine RegL.take_w (i := 0) (oi := ⟨some 33, _, _, _, _, _⟩) (v := ?_) SM rfl (by decide) (by kernel_rfl) (by kernel_rfl) (by kernel_rfl) (fun _ _ _ h => h) (Or.inl ⟨by rfl, ?_⟩) (H7.out) ?_
            rotate_left
            · intro w9 hw9; obtain ⟨q1, q2, q3, q4⟩ := hw9; go_simp; try with_reducible rfl
            try simp only [Act.put, List.setIfInBounds_toArray, List.set_cons_zero, List.set_cons_succ]
            refine RegL.take_w (i := 1) (oi := ⟨some 34, _, _, _, _, _⟩) (v := ?_) SM rfl (by decide) (by kernel_rfl) (by kernel_rfl) (by kernel_rfl) (fun _ _ _ h => h) (Or.inl ⟨by rfl, ?_⟩) (H7.out) ?_
            rotate_left
            · intro w9 hw9; obtain ⟨q1, q2, q3, q4⟩ := hw9; go_simp; try with_reducible rfl
            try simp only [Act.put, List.setIfInBounds_toArray, List.set_cons_zero, List.set_cons_succ]
            refine RegL.take_w (i := 2) (oi := ⟨some 35, _, _, _, _, _⟩) (v := ?_) SM rfl (by decide) (by kernel_rfl) (by kernel_rfl) (by kernel_rfl) (fun _ _ _ h => h) (Or.inl ⟨by rfl, ?_⟩) (H7.out) ?_
            rotate_left
            · intro w9 hw9; obtain ⟨q1, q2, q3, q4⟩ := hw9; go_simp; try with_reducible rfl
            try simp only [Act.put, List.setIfInBounds_toArray, List.set_cons_zero, List.set_cons_succ]
            refine RegL.take_w (i := 3) (oi := ⟨some 36, _, _, _, _, _⟩) (v := ?_) SM rfl (by decide) (by kernel_rfl) (by kernel_rfl) (by kernel_rfl) (fun _ _ _ h => h) (Or.inl ⟨by rfl, ?_⟩) (H7.out) ?_
            rotate_left
            · intro w9 hw9; obtain ⟨q1, q2, q3, q4⟩ := hw9; go_simp; try with_reducible rfl
            try simp only [Act.put, List.setIfInBounds_toArray, List.set_cons_zero, List.set_cons_succ]
            refine RegL.take_w (i := 4) (oi := ⟨some 37, _, _, _, _, _⟩) (v := ?_) SM rfl (by decide) (by kernel_rfl) (by kernel_rfl) (by kernel_rfl) (fun _ _ _ h => h) (Or.inl ⟨by rfl, ?_⟩) (H7.out) ?_
            rotate_left
            · intro w9 hw9; obtain ⟨q1, q2, q3, q4⟩ := hw9; go_simp; try with_reducible rfl
            try simp only [Act.put, List.setIfInBounds_toArray, List.set_cons_zero, List.set_cons_succ]
            refine RegL.take_w (i := 5) (oi := ⟨some 38, _, _, _, _, _⟩) (v := ?_) SM rfl (by decide) (by kernel_rfl) (by kernel_rfl) (by kernel_rfl) (fun _ _ _ h => h) (Or.inl ⟨by rfl, ?_⟩) (H7.out) ?_
            rotate_left
            · intro w9 hw9; obtain ⟨q1, q2, q3, q4⟩ := hw9; go_simp; try with_reducible rfl
            try simp only [Act.put, List.setIfInBounds_toArray, List.set_cons_zero, List.set_cons_succ]
            refine RegL.take_w (i := 6) (oi := ⟨some 39, _, _, _, _, _⟩) (v := ?_) SM rfl (by decide) (by kernel_rfl) (by kernel_rfl) (by kernel_rfl) (fun _ _ _ h => h) (Or.inl ⟨by rfl, ?_⟩) (H7.out) ?_
            rotate_left
            · intro w9 hw9; obtain ⟨q1, q2, q3, q4⟩ := hw9; go_simp; try with_reducible rfl
            try simp only [Act.put, List.setIfInBounds_toArray, List.set_cons_zero, List.set_cons_succ]
            refine RegL.take_w (i := 7) (oi := ⟨some 40, _, _, _, _, _⟩) (v := ?_) SM rfl (by decide) (by kernel_rfl) (by kernel_rfl) (by kernel_rfl) (fun _ _ _ h => h) (Or.inl ⟨by rfl, ?_⟩) (H7.out) ?_
            rotate_left
            · intro w9 hw9; obtain ⟨q1, q2, q3, q4⟩ := hw9; go_simp; try with_reducible rfl
            try simp only [Act.put, List.setIfInBounds_toArray, List.set_cons_zero, List.set_cons_succ]
            refine RegL.take_w (i := 8) (oi := ⟨some 41, _, _, _, _, _⟩) (v := ?_) SM rfl (by decide) (by kernel_rfl) (by kernel_rfl) (by kernel_rfl) (fun _ _ _ h => h) (Or.inl ⟨by rfl, ?_⟩) (H7.out) ?_
            rotate_left
            · intro w9 hw9; obtain ⟨q1, q2, q3, q4⟩ := hw9; go_simp; try with_reducible rfl
            try simp only [Act.put, List.setIfInBounds_toArray, List.set_cons_zero, List.set_cons_succ]
            refine RegL.take_w (i := 9) (oi := ⟨some 42, _, _, _, _, _⟩) (v := ?_) SM rfl (by decide) (by kernel_rfl) (by kernel_rfl) (by kernel_rfl) (fun _ _ _ h => h) (Or.inl ⟨by rfl, ?_⟩) (H7.out) ?_
            rotate_left
            · intro w9 hw9; obtain ⟨q1, q2, q3, q4⟩ := hw9; go_simp; try with_reducible rfl
            try simp only [Act.put, List.setIfInBounds_toArray, List.set_cons_zero, List.set_cons_succ]
            refine RegL.take_w (i := 10) (oi := ⟨some 43, _, _, _, _, _⟩) (v := ?_) SM rfl (by decide) (by kernel_rfl) (by kernel_rfl) (by kernel_rfl) (fun _ _ _ h => h) (Or.inl ⟨by rfl, ?_⟩) (H7.out) ?_
            rotate_left
            · intro w9 hw9; obtain ⟨q1, q2, q3, q4⟩ := hw9; go_simp; try with_reducible rfl
            try simp only [Act.put, List.setIfInBounds_toArray, List.set_cons_zero, List.set_cons_succ]
            refine RegL.take_w (i := 11) (oi := ⟨some 44, _, _, _, _, _⟩) (v := ?_) SM rfl (by decide) (by kernel_rfl) (by kernel_rfl) (by kernel_rfl) (fun _ _ _ h => h) (Or.inl ⟨by rfl, ?_⟩) (H7.out) ?_
            rotate_left
            · intro w9 hw9; obtain ⟨q1, q2, q3, q4⟩ := hw9; go_simp; try with_reducible rfl
            try simp only [Act.put, List.setIfInBounds_toArray, List.set_cons_zero, List.set_cons_succ]
            refine RegL.take_w (i := 12) (oi := ⟨some 45, _, _, _, _, _⟩) (v := ?_) SM rfl (by decide) (by kernel_rfl) (by kernel_rfl) (by kernel_rfl) (fun _ _ _ h => h) (Or.inl ⟨by rfl, ?_⟩) (H7.out) ?_
            rotate_left
            · intro w9 hw9; obtain ⟨q1, q2, q3, q4⟩ := hw9; go_simp; try with_reducible rfl
            try simp only [Act.put, List.setIfInBounds_toArray, List.set_cons_zero, List.set_cons_succ]
            refine RegL.take_w (i := 13) (oi := ⟨some 46, _, _, _, _, _⟩) (v := ?_) SM rfl (by decide) (by kernel_rfl) (by kernel_rfl) (by kernel_rfl) (fun _ _ _ h => h) (Or.inl ⟨by rfl, ?_⟩) (H7.out) ?_
            rotate_left
            · intro w9 hw9; obtain ⟨q1, q2, q3, q4⟩ := hw9; go_simp; try with_reducible rfl
            try simp only [Act.put, List.setIfInBounds_toArray, List.set_cons_zero, List.set_cons_succ]
            refine RegL.take_w (i := 14) (oi := ⟨some 47, _, _, _, _, _⟩) (v := ?_) SM rfl (by decide) (by kernel_rfl) (by kernel_rfl) (by kernel_rfl) (fun _ _ _ h => h) (Or.inl ⟨by rfl, ?_⟩) (H7.out) ?_
            rotate_left
            · intro w9 hw9; obtain ⟨q1, q2, q3, q4⟩ := hw9; go_simp; try with_reducible rfl
            try simp only [Act.put, List.setIfInBounds_toArray, List.set_cons_zero, List.set_cons_succ]
            refine RegL.take_w (i := 15) (oi := ⟨some 48, _, _, _, _, _⟩) (v := ?_) SM rfl (by decide) (by kernel_rfl) (by kernel_rfl) (by kernel_rfl) (fun _ _ _ h => h) (Or.inl ⟨by rfl, ?_⟩) (H7.out) ?_
            rotate_left
            · intro w9 hw9; obtain ⟨q1, q2, q3, q4⟩ := hw9; go_simp; try with_reducible rfl
            try simp only [Act.put, List.setIfInBounds_toArray, List.set_cons_zero, List.set_cons_succ]
            refine RegL.take_w (i := 16) (oi := ⟨some 49, _, _, _, _, _⟩) (v := ?_) SM rfl (by decide) (by kernel_rfl) (by kernel_rfl) (by kernel_rfl) (fun _ _ _ h => h) (Or.inl ⟨by rfl, ?_⟩) (H7.out) ?_
            rotate_left
            · intro w9 hw9; obtain ⟨q1, q2, q3, q4⟩ := hw9; go_simp; try with_reducible rfl
            try simp only [Act.put, List.setIfInBounds_toArray, List.set_cons_zero, List.set_cons_succ]
            refine RegL.take_w (i := 17) (oi := ⟨some 50, _, _, _, _, _⟩) (v := ?_) SM rfl (by decide) (by kernel_rfl) (by kernel_rfl) (by kernel_rfl) (fun _ _ _ h => h) (Or.inl ⟨by rfl, ?_⟩) (H7.out) ?_
            rotate_left
            · intro w9 hw9; obtain ⟨q1, q2, q3, q4⟩ := hw9; go_simp; try with_reducible rfl
            try simp only [Act.put, List.setIfInBounds_toArray, List.set_cons_zero, List.set_cons_succ]
            refine RegL.take_w (i := 18) (oi := ⟨some 51, _, _, _, _, _⟩) (v := undef) SM rfl (by decide) (by kernel_rfl) (by kernel_rfl) (by kernel_rfl) (fun _ _ _ h => h) (Or.inr ⟨by rfl, rfl⟩) (H7.out) ?_
            try simp only [Act.put, List.setIfInBounds_toArray, List.set_cons_zero, List.set_cons_succ]
            refine RegL.take_w (i := 19) (oi := ⟨some 52, _, _, _, _, _⟩) (v := undef) SM rfl (by decide) (by kernel_rfl) (by kernel_rfl) (by kernel_rfl) (fun _ _ _ h => h) (Or.inr ⟨by rfl, rfl⟩) (H7.out) ?_
            try simp only [Act.put, List.setIfInBounds_toArray, List.set_cons_zero, List.set_cons_succ]
            refine RegL.take_w (i := 20) (oi := ⟨some 53, _, _, _, _, _⟩) (v := undef) SM rfl (by decide) (by kernel_rfl) (by kernel_rfl) (by kernel_rfl) (fun _ _ _ h => h) (Or.inr ⟨by rfl, rfl⟩) (H7.out) ?_
            try simp only [Act.put, List.setIfInBounds_toArray, List.set_cons_zero, List.set_cons_succ]
            refine RegL.take_w (i := 21) (oi := ⟨some 54, _, _, _, _, _⟩) (v := undef) SM rfl (by decide) (by kernel_rfl) (by kernel_rfl) (by kernel_rfl) (fun _ _ _ h => h) (Or.inr ⟨by rfl, rfl⟩) (H7.out) ?_
            try simp only [Act.put, List.setIfInBounds_toArray, List.set_cons_zero, List.set_cons_succ]
            refine RegL.take_w (i := 22) (oi := ⟨some 55, _, _, _, _, _⟩) (v := undef) SM rfl (by decide) (by kernel_rfl) (by kernel_rfl) (by kernel_rfl) (fun _ _ _ h => h) (Or.inr ⟨by rfl, rfl⟩) (H7.out) ?_
            try simp only [Act.put, List.setIfInBounds_toArray, List.set_cons_zero, List.set_cons_succ]
            refine RegL.take_w (i := 23) (oi := ⟨some 56, _, _, _, _, _⟩) (v := undef) SM rfl (by decide) (by kernel_rfl) (by kernel_rfl) (by kernel_rfl) (fun _ _ _ h => h) (Or.inr ⟨by rfl, rfl⟩) (H7.out) ?_
            try simp only [Act.put, List.setIfInBounds_toArray, List.set_cons_zero, List.set_cons_succ]
            refine RegL.take_w (i := 24) (oi := ⟨some 57, _, _, _, _, _⟩) (v := undef) SM rfl (by decide) (by kernel_rfl) (by kernel_rfl) (by kernel_rfl) (fun _ _ _ h => h) (Or.inr ⟨by rfl, rfl⟩) (H7.out) ?_
            try simp only [Act.put, List.setIfInBounds_toArray, List.set_cons_zero, List.set_cons_succ]
            refine RegL.take_w (i := 25) (oi := ⟨some 58, _, _, _, _, _⟩) (v := undef) SM rfl (by decide) (by kernel_rfl) (by kernel_rfl) (by kernel_rfl) (fun _ _ _ h => h) (Or.inr ⟨by rfl, rfl⟩) (H7.out) ?_
            try simp only [Act.put, List.setIfInBounds_toArray, List.set_cons_zero, List.set_cons_succ]
            refine RegL.take_w (i := 26) (oi := ⟨some 59, _, _, _, _, _⟩) (v := undef) SM rfl (by decide) (by kernel_rfl) (by kernel_rfl) (by kernel_rfl) (fun _ _ _ h => h) (Or.inr ⟨by rfl, rfl⟩) (H7.out) ?_
            try simp only [Act.put, List.setIfInBounds_toArray, List.set_cons_zero, List.set_cons_succ]
            refine RegL.take_w (i := 27) (oi := ⟨some 60, _, _, _, _, _⟩) (v := undef) SM rfl (by decide) (by kernel_rfl) (by kernel_rfl) (by kernel_rfl) (fun _ _ _ h => h) (Or.inr ⟨by rfl, rfl⟩) (H7.out) ?_
            try simp only [Act.put, List.setIfInBounds_toArray, List.set_cons_zero, List.set_cons_succ]
            refine RegL.take_w (i := 28) (oi := ⟨some 61, _, _, _, _, _⟩) (v := undef) SM rfl (by decide) (by kernel_rfl) (by kernel_rfl) (by kernel_rfl) (fun _ _ _ h => h) (Or.inr ⟨by rfl, rfl⟩) (H7.out) ?_
            try simp only [Act.put, List.setIfInBounds_toArray, List.set_cons_zero, List.set_cons_succ]
            refine RegL.take_w (i := 29) (oi := ⟨some 62, _, _, _, _, _⟩) (v := undef) SM rfl (by decide) (by kernel_rfl) (by kernel_rfl) (by kernel_rfl) (fun _ _ _ h => h) (Or.inr ⟨by rfl, rfl⟩) (H7.out) ?_
            try simp only [Act.put, List.setIfInBounds_toArray, List.set_cons_zero, List.set_cons_succ]
            refine RegL.take_w (i := 30) (oi := ⟨some 63, _, _, _, _, _⟩) (v := ?_) SM rfl (by decide) (by kernel_rfl) (by kernel_rfl) (by kernel_rfl) (fun _ _ _ h => h) (Or.inl ⟨by rfl, ?_⟩) (H7.out) ?_
            rotate_left
            · intro w9 hw9; obtain ⟨q1, q2, q3, q4⟩ := hw9; go_simp; try with_reducible rfl
            try simp only [Act.put, List.setIfInBounds_toArray, List.set_cons_zero, List.set_cons_succ]
            refine RegL.done_of (by kernel_rfl) ?_ _
            go_wp2_with fail
            go_meet
            exact ⟨by rw [show decide (x.mine = m ∧ x.yours = y) = false by simp; omega], rfl⟩
        case rest =>
          obtain ⟨hs63, hwc⟩ := hcut
          subst hs63
          rw [hwc]
          clear hwc H7
          by_cases hb : x.mine = m ∧ x.yours = y
          · rw [decide_eq_true hb]
            have hfk := fnd_eq m y ss k HF.out x HX.out hb
            have HNS : Hid (nowS m y ss = ss ∧ nowN m y ss = (k : Int)) := ⟨by unfold nowS; rw [if_neg H0.out, hfk, if_pos (by rw [← HNN.out]; exact HLT.out)], by unfold nowN; rw [if_neg H0.out, hfk]⟩
            clear hb hfk
            go_wp2_with fail
            go_ret
            refine ⟨by rw [HNS.out.2]; rfl, .slice At n ct, by rw [HNS.out.1]; exact HV.out, ?_⟩
            rw [HNS.out.1, HP.out]
            exact HST.out.drew
          · rw [decide_eq_false hb]
            have HFS := Lib.hid (fnd_step m y ss k HF.out x HX.out hb)
            clear hb
            go_wp2_with fail
            go_roundg (n - (k + 1))
            case rel => exact ⟨k + 1, rfl, by have := HLT.out; omega, by go_num, HFS.out, HST.out.drew⟩
            case measure => have := HLT.out; have := HGK.out; omega
      · obtain rfl : k = n := by omega
        have k1 : ¬ (k : Int) < (k : Int) := by omega
        have hfk : fnd m y ss = k := by have := fnd_le m y ss; have := HF.out; have := HNN.out; omega
        have hmc : wr.drew.cell? ⟨gp, 2 + i, none⟩ = some (.int .u64 (m : Int)) := HST.out.drew.cellOf (g := gp) (cs := pC p) (t := 86) (by simp) (2 + i) (by rw [pC_life p HI.out, HM.out])
        have HALL : Hid (∀ bb1 : Bool, (wr.drew.cell? ⟨gp, 2 + i, none⟩ = some (.int .u64 (m : Int))) ∧ (bb1 = false → wr.drew.cell? ⟨gp, 7 + i, none⟩ = some (.slice At k ct))) := fun _ => ⟨hmc, fun _ => z7⟩
        obtain ⟨Wb, hWb⟩ : ∃ Wb, Wb = (wr.alloc (.cells #[.int .u64 (m : Int), .int .u64 (y : Int), .slice none 0 0, .slice none 0 0] 101)).drew := ⟨_, rfl⟩
        obtain ⟨bb, hbb⟩ : ∃ bb, bb = wr.heap.size := ⟨_, rfl⟩
        have hb : St w0 ((wr.alloc (.cells #[.int .u64 (m : Int), .int .u64 (y : Int), .slice none 0 0, .slice none 0 0] 101)).drew) (B wr.heap.size #[.int .u64 (m : Int), .int .u64 (y : Int), .slice none 0 0, .slice none 0 0] 101 :: _) := (HST.out.newB #[.int .u64 (m : Int), .int .u64 (y : Int), .slice none 0 0, .slice none 0 0] 101).drew
        rw [← hWb, ← hbb] at hb
        have hx : ∀ (j : Nat) (u : Value), (seC ⟨m, y, NL, [], NL, []⟩).toList[j]? = some u → Wb.cell? ((⟨bb, 0, none⟩ : Addr).add j) = some u := by
          intro j u hu
          rw [Addr.add_mid, Nat.zero_add, cell_of_row _ _ _ _ _ _ hb.hd]
          rw [← hu]
          exact (Array.getElem?_toList ..).symm
        obtain ⟨A2, c2, Wa, hrun, ha, hva⟩ := ses_append (w0 := w0) (W := Wb) (tv := .slice At k ct) (ss := ss) (hb.re (M := rowE (.slice At k ct) 101 4 ss.length (sesL ss) ++ (B gp (pC p) 86 :: (lkE g s ++ (ss.flatMap seR ++ R)))) (fun x => by simp only [sesE, cnt_append, cnt_cons]; omega)) HV.out.row m y HN.out ⟨bb, 0, none⟩ 1 hx
        rw [← HNN.out] at hrun ha hva
        have za7 : Wa.cell? ⟨gp, 7 + i, none⟩ = some (.slice At k ct) := ha.cellOf (g := gp) (cs := pC p) (t := 86) (by simp) (7 + i) (by rw [pC_t p HI.out, HTV.out])
        have fza7 := ha.freeOf (g := gp) (cs := pC p) (t := 86) (by simp) (7 + i)
        have hc := (ha.re (M := B gp (pC p) 86 :: (rowE (.slice A2 (k + 1) c2) 101 4 (k + 1) (sesL (ss ++ [⟨m, y, NL, [], NL, []⟩])) ++ (lkE g s ++ (ss.flatMap seR ++ R)))) (fun x => by simp only [cnt_append, cnt_cons]; omega)).put (cs' := pC { p with t := upd p.t i (.slice A2 (k + 1) c2) }) (7 + i) (.slice A2 (k + 1) c2) (pC_sett p HI.out _)
        have M2 : Hid (Wb.cell? ⟨gp, 2 + i, none⟩ = some (.int .u64 (m : Int)) ∧ Wb.cell? ⟨gp, 7 + i, none⟩ = some (.slice At k ct)) := ⟨hb.cellOf (g := gp) (cs := pC p) (t := 86) (by simp) (2 + i) (by rw [pC_life p HI.out, HM.out]), hb.cellOf (g := gp) (cs := pC p) (t := 86) (by simp) (7 + i) (by rw [pC_t p HI.out, HTV.out])⟩
        have M3 : Hid (Wa.cell? ⟨gp, 2 + i, none⟩ = some (.int .u64 (m : Int))) := ha.cellOf (g := gp) (cs := pC p) (t := 86) (by simp) (2 + i) (by rw [pC_life p HI.out, HM.out])
        have M4 : Hid ((Wa.setCell ⟨gp, 7 + i, none⟩ (.slice A2 (k + 1) c2)).cell? ⟨gp, 2 + i, none⟩ = some (.int .u64 (m : Int))) := hc.cellOf (g := gp) (cs := pC { p with t := upd p.t i (.slice A2 (k + 1) c2) }) (t := 86) (by simp) (2 + i) (by rw [pC_life _ HI.out, HM.out])
        have zc7 : (Wa.setCell ⟨gp, 7 + i, none⟩ (.slice A2 (k + 1) c2)).cell? ⟨gp, 7 + i, none⟩ = some (.slice A2 (k + 1) c2) := hc.cellOf (g := gp) (cs := pC { p with t := upd p.t i (.slice A2 (k + 1) c2) }) (t := 86) (by simp) (7 + i) (by rw [pC_t _ HI.out]; show some (upd p.t i _ i) = _; rw [upd_same])
        have HRUN := Lib.hid hrun
        have HC := Lib.hid hc
        have HVA := Lib.hid hva
        have HWb := Lib.hid hWb
        have HBB := Lib.hid hbb
        have HZC := Lib.hid zc7
        have HNS : Hid (nowS m y ss = ss ++ [⟨m, y, NL, [], NL, []⟩] ∧ nowN m y ss = (k : Int)) := ⟨by unfold nowS; rw [if_neg H0.out, hfk, if_neg (by rw [← HNN.out]; omega)]; rfl, by unfold nowN; rw [if_neg H0.out, hfk]⟩
        clear hWb hbb hb hx hrun ha hva hc zc7 hmc hfk
        go_upto_region 9 with fail
        clear z7
        have SM : ∀ (bb0 : Bool) (w9 : World), (fun (b : Bool) (w9 : World) => (w9.cell? ⟨gp, 2 + i, none⟩ = some (.int .u64 (m : Int))) ∧ (b = false → w9.cell? ⟨gp, 7 + i, none⟩ = some (.slice At k ct))) bb0 w9 → (fun (b : Bool) (w9 : World) => (w9.cell? ⟨gp, 2 + i, none⟩ = some (.int .u64 (m : Int))) ∧ (b = false → w9.cell? ⟨gp, 7 + i, none⟩ = some (.slice At k ct))) true w9 := fun _ _ h => ⟨h.1, fun e => by cases e⟩
        refine RegL.begin_of (k := 17) (S := fun (b : Bool) (w9 : World) => (w9.cell? ⟨gp, 2 + i, none⟩ = some (.int .u64 (m : Int))) ∧ (b = false → w9.cell? ⟨gp, 7 + i, none⟩ = some (.slice At k ct))) (by kernel_rfl) ?_
        refine RegL.take_w (i := 0) (oi := ⟨some 65, _, _, _, _, _⟩) (v := ?_) SM rfl (by decide) (by kernel_rfl) (by kernel_rfl) (by kernel_rfl) (fun _ _ _ h => h) (Or.inl ⟨by rfl, ?_⟩) (HALL.out _) ?_
        rotate_left
        · intro w9 hw9; obtain ⟨q1, q0⟩ := hw9; go_simp; try with_reducible rfl
        try simp only [Act.put, List.setIfInBounds_toArray, List.set_cons_zero, List.set_cons_succ]
        refine RegL.take_w (i := 1) (oi := ⟨some 66, _, _, _, _, _⟩) (v := ?_) SM rfl (by decide) (by kernel_rfl) (by kernel_rfl) (by kernel_rfl) (fun _ _ _ h => h) (Or.inl ⟨by rfl, ?_⟩) (HALL.out _) ?_
        rotate_left
        · intro w9 hw9; obtain ⟨q1, q0⟩ := hw9; go_simp; try with_reducible rfl
        try simp only [Act.put, List.setIfInBounds_toArray, List.set_cons_zero, List.set_cons_succ]
        refine RegL.take_w (i := 2) (oi := ⟨some 67, _, _, _, _, _⟩) (v := ?_) SM rfl (by decide) (by kernel_rfl) (by kernel_rfl) (by kernel_rfl) (fun _ _ _ h => h) (Or.inl ⟨by rfl, ?_⟩) (HALL.out _) ?_
        rotate_left
        · intro w9 hw9; obtain ⟨q1, q0⟩ := hw9; go_simp; try with_reducible rfl
        try simp only [Act.put, List.setIfInBounds_toArray, List.set_cons_zero, List.set_cons_succ]
        refine RegL.take_w (i := 3) (oi := ⟨some 68, _, _, _, _, _⟩) (v := ?_) SM rfl (by decide) (by kernel_rfl) (by kernel_rfl) (by kernel_rfl) (fun _ _ _ h => h) (Or.inl ⟨by rfl, ?_⟩) (HALL.out _) ?_
        rotate_left
        · intro w9 hw9; obtain ⟨q1, q0⟩ := hw9; go_simp; try with_reducible rfl
        try simp only [Act.put, List.setIfInBounds_toArray, List.set_cons_zero, List.set_cons_succ]
        refine RegL.take_w (i := 4) (oi := ⟨some 69, _, _, _, _, _⟩) (v := ?_) SM rfl (by decide) (by kernel_rfl) (by kernel_rfl) (by kernel_rfl) (fun _ _ _ h => h) (Or.inl ⟨by rfl, ?_⟩) (HALL.out _) ?_
        rotate_left
        · intro w9 hw9; obtain ⟨q1, q0⟩ := hw9; go_simp; try with_reducible rfl
        try simp only [Act.put, List.setIfInBounds_toArray, List.set_cons_zero, List.set_cons_succ]
        refine RegL.take_w (i := 5) (oi := ⟨some 70, _, _, _, _, _⟩) (v := ?_) SM rfl (by decide) (by kernel_rfl) (by kernel_rfl) (by kernel_rfl) (fun _ _ _ h => h) (Or.inl ⟨by rfl, ?_⟩) (HALL.out _) ?_
        rotate_left
        · intro w9 hw9; obtain ⟨q1, q0⟩ := hw9; go_simp; try with_reducible rfl
        try simp only [Act.put, List.setIfInBounds_toArray, List.set_cons_zero, List.set_cons_succ]
        refine RegL.take_w (i := 6) (oi := ⟨some 71, _, _, _, _, _⟩) (v := ?_) SM rfl (by decide) (by kernel_rfl) (by kernel_rfl) (by kernel_rfl) (fun _ _ _ h => h) (Or.inl ⟨by rfl, ?_⟩) (HALL.out _) ?_
        rotate_left
        · intro w9 hw9; obtain ⟨q1, q0⟩ := hw9; go_simp; try with_reducible rfl
        try simp only [Act.put, List.setIfInBounds_toArray, List.set_cons_zero, List.set_cons_succ]
        refine RegL.take_s (i := 7) (oi := ⟨some 72, _, _, _, _, _⟩) (ok := ⟨some 82, _, _, _, _, _⟩) (v := ?_) rfl (by decide) rfl (by kernel_rfl) (by kernel_rfl) (by kernel_rfl) (by kernel_rfl) (by kernel_rfl) (fun _ _ _ h => h) (Or.inl ⟨by rfl, ?_⟩) (HALL.out _) ?_
        rotate_left
        · intro w9 hw9; obtain ⟨q9, q0⟩ := hw9; have q1 := q0 rfl; clear q0 q9; go_simp; try with_reducible rfl
        try simp only [Act.put, List.setIfInBounds_toArray, List.set_cons_zero, List.set_cons_succ]
        refine RegL.take_w (i := 8) (oi := ⟨some 73, _, _, _, _, _⟩) (v := ?_) SM rfl (by decide) (by kernel_rfl) (by kernel_rfl) (by kernel_rfl) (fun _ _ _ h => h) (Or.inl ⟨by rfl, ?_⟩) (HALL.out _) ?_
        rotate_left
        · intro w9 hw9; obtain ⟨q1, q0⟩ := hw9; go_simp; try with_reducible rfl
        try simp only [Act.put, List.setIfInBounds_toArray, List.set_cons_zero, List.set_cons_succ]
        refine RegL.take_w (i := 9) (oi := ⟨some 74, _, _, _, _, _⟩) (v := ?_) SM rfl (by decide) (by kernel_rfl) (by kernel_rfl) (by kernel_rfl) (fun _ _ _ h => h) (Or.inl ⟨by rfl, ?_⟩) (HALL.out _) ?_
        rotate_left
        · intro w9 hw9; obtain ⟨q1, q0⟩ := hw9; go_simp; try with_reducible rfl
        try simp only [Act.put, List.setIfInBounds_toArray, List.set_cons_zero, List.set_cons_succ]
        refine RegL.take_w (i := 10) (oi := ⟨some 75, _, _, _, _, _⟩) (v := ?_) SM rfl (by decide) (by kernel_rfl) (by kernel_rfl) (by kernel_rfl) (fun _ _ _ h => h) (Or.inl ⟨by rfl, ?_⟩) (HALL.out _) ?_
        rotate_left
        · intro w9 hw9; obtain ⟨q1, q0⟩ := hw9; go_simp; try with_reducible rfl
        try simp only [Act.put, List.setIfInBounds_toArray, List.set_cons_zero, List.set_cons_succ]
        refine RegL.take_w (i := 11) (oi := ⟨some 76, _, _, _, _, _⟩) (v := ?_) SM rfl (by decide) (by kernel_rfl) (by kernel_rfl) (by kernel_rfl) (fun _ _ _ h => h) (Or.inl ⟨by rfl, ?_⟩) (HALL.out _) ?_
        rotate_left
        · intro w9 hw9; obtain ⟨q1, q0⟩ := hw9; go_simp; try with_reducible rfl
        try simp only [Act.put, List.setIfInBounds_toArray, List.set_cons_zero, List.set_cons_succ]
        refine RegL.take_w (i := 12) (oi := ⟨some 77, _, _, _, _, _⟩) (v := ?_) SM rfl (by decide) (by kernel_rfl) (by kernel_rfl) (by kernel_rfl) (fun _ _ _ h => h) (Or.inl ⟨by rfl, ?_⟩) (HALL.out _) ?_
        rotate_left
        · intro w9 hw9; obtain ⟨q1, q0⟩ := hw9; go_simp; try with_reducible rfl
        try simp only [Act.put, List.setIfInBounds_toArray, List.set_cons_zero, List.set_cons_succ]
        refine RegL.take_w (i := 13) (oi := ⟨some 78, _, _, _, _, _⟩) (v := ?_) SM rfl (by decide) (by kernel_rfl) (by kernel_rfl) (by kernel_rfl) (fun _ _ _ h => h) (Or.inl ⟨by rfl, ?_⟩) (HALL.out _) ?_
        rotate_left
        · intro w9 hw9; obtain ⟨q1, q0⟩ := hw9; go_simp; try with_reducible rfl
        try simp only [Act.put, List.setIfInBounds_toArray, List.set_cons_zero, List.set_cons_succ]
        refine RegL.take_w (i := 14) (oi := ⟨some 79, _, _, _, _, _⟩) (v := ?_) SM rfl (by decide) (by kernel_rfl) (by kernel_rfl) (by kernel_rfl) (fun _ _ _ h => h) (Or.inl ⟨by rfl, ?_⟩) (HALL.out _) ?_
        rotate_left
        · intro w9 hw9; obtain ⟨q1, q0⟩ := hw9; go_simp; try with_reducible rfl
        try simp only [Act.put, List.setIfInBounds_toArray, List.set_cons_zero, List.set_cons_succ]
        refine RegL.take_w (i := 15) (oi := ⟨some 80, _, _, _, _, _⟩) (v := ?_) SM rfl (by decide) (by kernel_rfl) (by kernel_rfl) (by kernel_rfl) (fun _ _ _ h => h) (Or.inl ⟨by rfl, ?_⟩) (HALL.out _) ?_
        rotate_left
        · intro w9 hw9; obtain ⟨q1, q0⟩ := hw9; go_simp; try with_reducible rfl
        try simp only [Act.put, List.setIfInBounds_toArray, List.set_cons_zero, List.set_cons_succ]
        refine RegL.take_w (i := 18) (oi := ⟨some 83, _, _, _, _, _⟩) (v := ?_) SM rfl (by decide) (by kernel_rfl) (by kernel_rfl) (by kernel_rfl) (fun _ _ _ h => h) (Or.inl ⟨by rfl, ?_⟩) (HALL.out _) ?_
        rotate_left
        · intro w9 hw9; obtain ⟨q1, q0⟩ := hw9; go_simp; try with_reducible rfl
        try simp only [Act.put, List.setIfInBounds_toArray, List.set_cons_zero, List.set_cons_succ]
        refine RegL.take_w (i := 19) (oi := ⟨some 84, _, _, _, _, _⟩) (v := ?_) SM rfl (by decide) (by kernel_rfl) (by kernel_rfl) (by kernel_rfl) (fun _ _ _ h => h) (Or.inl ⟨by rfl, ?_⟩) (HALL.out _) ?_
        rotate_left
        · intro w9 hw9; obtain ⟨q1, q0⟩ := hw9; go_simp; try with_reducible rfl
        try simp only [Act.put, List.setIfInBounds_toArray, List.set_cons_zero, List.set_cons_succ]
        refine RegL.step_of (i := 16) (o := ⟨some 81, _, _, _, _, _⟩) (by kernel_rfl) rfl (fun K' hK => ?_)
        go_simp
        rw [← HWb.out, ← HBB.out]
        refine hK _ _ (⟨M2.out.1, fun _ => M2.out.2⟩) ?_
        clear hK K'
        try simp only [Act.put, List.setIfInBounds_toArray, List.set_cons_zero, List.set_cons_succ]
        refine RegL.step_of (i := 17) (o := ⟨some 82, _, _, _, _, _⟩) (by kernel_rfl) rfl (fun K' hK => ?_)
        refine step_append_run (o := ⟨some 82, _, _, _, _, _⟩) rfl (.tmp 72) (.tmp 81) 83 rfl (.slice At k ct) (.slice (some ⟨bb, 0, none⟩) 1 1) (.slice A2 (k + 1) c2) Wa rfl rfl HRUN.out ?_
        refine hK _ _ (⟨M3.out, fun e => by cases e⟩) ?_
        clear hK K'
        try simp only [Act.put, List.setIfInBounds_toArray, List.set_cons_zero, List.set_cons_succ]
        refine RegL.take_w (i := 20) (oi := ⟨some 85, _, _, _, _, _⟩) (v := ?_) SM rfl (by decide) (by kernel_rfl) (by kernel_rfl) (by kernel_rfl) (fun _ _ _ h => h) (Or.inl ⟨by rfl, ?_⟩) (⟨M3.out, fun e => by cases e⟩) ?_
        rotate_left
        · intro w9 hw9; obtain ⟨q1, q0⟩ := hw9; go_simp; try with_reducible rfl
        try simp only [Act.put, List.setIfInBounds_toArray, List.set_cons_zero, List.set_cons_succ]
        refine RegL.step_of (i := 21) (o := ⟨none, _, _, _, _, _⟩) (by kernel_rfl) rfl (fun K' hK => ?_)
        go_simp
        refine hK _ _ (⟨M4.out, fun e => by cases e⟩) ?_
        clear hK K'
        try simp only [Act.put, List.setIfInBounds_toArray, List.set_cons_zero, List.set_cons_succ]
        refine RegL.done_of (by kernel_rfl) ?_ _
        have zc7 := HZC.out
        obtain ⟨We, hWe⟩ : ∃ We, We = Wa.setCell ⟨gp, 7 + i, none⟩ (.slice A2 (k + 1) c2) := ⟨_, rfl⟩
        rw [← hWe] at zc7 HC ⊢
        have w1 : IntKind.i64.wrap ((k : Int) + 1 - 1) = (k : Int) := by rw [show (k : Int) + 1 - 1 = (k : Int) by omega]; exact IntWalk.i64_in _ ⟨by omega, by omega⟩
        clear hWe za7 fza7
        go_wp2_with fail
        go_ret
        refine ⟨?_, .slice A2 (k + 1) c2, ?_, ?_⟩
        · rw [HNS.out.2]; first | rfl | (congr 2; omega)
        · rw [HNS.out.1]
          refine ⟨by rw [List.length_append, ← HNN.out]; exact HVA.out, fun x hx => ?_⟩
          rcases List.mem_append.1 hx with hx | hx
          · exact HV.out.of_ x hx
          · obtain rfl := List.mem_singleton.1 hx; exact ⟨outV_nil, outV_nil⟩
        · rw [HNS.out.1]
          exact HC.out.re (fun x => by simp only [sesE, seR, outE, rowE_nil, List.length_append, List.length_cons, List.length_nil, Nat.zero_add, ← HNN.out, List.flatMap_append, List.flatMap_cons, List.flatMap_nil, cnt_append, cnt_cons, cnt_nil]; omega)
end Go.Proofs.YtoeiaimoppmjdaaDoor.Lk
/- What the other side was handed in, in a session. Printed by gen_handed.py. -/
namespace Go.Proofs.YtoeiaimoppmjdaaDoor.Lk
open Go.RowKit Go.Proofs.YtoeiaimoppmjdaaDoorW.PrintWords Go.Proofs.YtoeiaimoppmjdaaDoor.Mem Go.Proofs.YtoeiaimoppmjdaaDoor.Wr Go.Proofs.YtoeiaimoppmjdaaDoor.Bytes Go.Proofs.YtoeiaimoppmjdaaDoor.App
set_option linter.unusedVariables false
set_option linter.unusedSimpArgs false
set_option maxRecDepth 20000 in
set_option maxHeartbeats 6400000 in
theorem handed_calls {w0 W : World} {R : List Ent} {gp : Nat} {p : PS} {sa ss : List Se} (i j q : Nat) (hi : i < 2) (hj : j + i = 1) (h : St w0 W (B gp (pC p) 86 :: (sesE (p.t i) sa ++ (sesE (p.t j) ss ++ R)))) (hVa : SesV (p.t i) sa) (hV : SesV (p.t j) ss) (hn : ss.length ≤ 1000000) (ha : sa.length ≤ 1000000) (x : Se) (hx : sa[q]? = some x) :
    Calls Tryd.prog 62 #[pt gp, .int .i64 i, .int .i64 q] W fun e w' => e = .returned (insV x.yours x.mine ss) ∧ St w0 w' (B gp (pC p) 86 :: (sesE (p.t i) sa ++ (sesE (p.t j) ss ++ R))) := by
  have i1 : (0 : Int) ≤ (i : Int) := by omega
  have i2 : (i : Int) < 2 := by omega
  have hj2 : j < 2 := by omega
  have j1 : (1 : Int) - (i : Int) = (j : Int) := by omega
  have j2 : IntKind.i64.wrap (j : Int) = (j : Int) := IntWalk.i64_in _ ⟨by omega, by omega⟩
  have j3 : (0 : Int) ≤ (j : Int) := by omega
  have j4 : (j : Int) < 2 := by omega
  obtain ⟨At, ct, htv⟩ := row_form hV.row
  obtain ⟨n, hnn⟩ : ∃ n, n = ss.length := ⟨_, rfl⟩
  rw [← hnn] at htv
  obtain ⟨Aa, ca, hta⟩ := row_form hVa.row
  obtain ⟨na, hna⟩ : ∃ na, na = sa.length := ⟨_, rfl⟩
  rw [← hna] at hta
  have hq : q < na := by rw [hna]; exact (List.getElem?_eq_some_iff.1 hx).1
  obtain ⟨ga, hga⟩ : ∃ ga, Aa = some ⟨ga, 0, none⟩ := by
    rcases hVa.row.2 with ⟨q1, q2⟩ | ⟨gt, _, q1, _⟩
    · omega
    · rw [hta] at q1; injection q1 with q1; exact ⟨gt, q1⟩
  subst hga
  have x7 : W.cell? ⟨gp, 7 + i, none⟩ = some (.slice (some ⟨ga, 0, none⟩) na ca) := h.cellOf (g := gp) (cs := pC p) (t := 86) (by simp) (7 + i) (by rw [pC_t p hi, hta])
  have hE : St w0 W (rowE (.slice (some ⟨ga, 0, none⟩) na ca) 101 4 na (sesL sa) ++ []) := h.re (fun x => by rw [← hta]; simp only [sesE, ← hna, cnt_append, cnt_cons, cnt_nil]; omega)
  have hr : ∀ r u, r < 4 → (seC x)[r]? = some u → W.cell? ⟨ga, q * 4 + r, none⟩ = some u := fun r u hr hu => by
    have := (hE.at (q * 4 + r) (by rw [sesL_len, ← hna]; omega) (by rw [sesL_len, ← hna])).1
    rw [sesL_get hx r hr, hu] at this; exact this
  have y0 : W.cell? ⟨ga, q * 4, none⟩ = some (.int .u64 (x.mine : Int)) := hr 0 _ (by omega) rfl
  have y1 : W.cell? ⟨ga, q * 4 + 1, none⟩ = some (.int .u64 (x.yours : Int)) := hr 1 _ (by omega) rfl
  obtain ⟨Ax, nx, cx, hxi⟩ : ∃ A n c, x.iv = .slice A n c := by obtain ⟨A, c, e⟩ := row_form (hVa.of_ x (List.mem_of_getElem? hx)).1.row; exact ⟨A, _, c, e⟩
  obtain ⟨Au, nu, cu, hxu⟩ : ∃ A n c, x.uv = .slice A n c := by obtain ⟨A, c, e⟩ := row_form (hVa.of_ x (List.mem_of_getElem? hx)).2.row; exact ⟨A, _, c, e⟩
  have y2 : W.cell? ⟨ga, q * 4 + 2, none⟩ = some (.slice Ax nx cx) := hr 2 _ (by omega) (by show some x.iv = _; rw [hxi])
  have y3 : W.cell? ⟨ga, q * 4 + 3, none⟩ = some (.slice Au nu cu) := hr 3 _ (by omega) (by show some x.uv = _; rw [hxu])
  have q1 : (q : Int) < (na : Int) := by omega
  have q2 : (0 : Int) ≤ (q : Int) := by omega
  have q3 : (na : Int) ≤ 1000000 := by omega
  obtain ⟨W1, hW1⟩ : ∃ W1, W1 = W.alloc (.cells #[.int .u64 (x.mine : Int), .int .u64 (x.yours : Int), .slice Ax nx cx, .slice Au nu cu] 101) := ⟨_, rfl⟩
  obtain ⟨bx, hbx⟩ : ∃ bx, bx = W.heap.size := ⟨_, rfl⟩
  have hsc : #[.int .u64 (x.mine : Int), .int .u64 (x.yours : Int), .slice Ax nx cx, .slice Au nu cu] = seC x := by unfold seC; rw [hxi, hxu]
  have h1 := h.newB (seC x) 101
  rw [← hsc, ← hW1, ← hbx, hsc, htv] at h1
  have HI := Lib.hid hi
  have HJ2 := Lib.hid hj2
  have HV := Lib.hid hV
  have HN := Lib.hid hn
  have HNN := Lib.hid hnn
  have HTV := Lib.hid htv
  have HS := Lib.hid h1
  have HW1 := Lib.hid hW1
  have HBX := Lib.hid hbx
  clear h hi hj2 hV hn ha hnn hna htv h1 hW1 hbx hq hx hta hVa hE hr hxi hxu hsc hj
  go_enter Tryd.func62, Tryd.ntmps62
  go_upto_region 2 with fail
  rw [← HW1.out, ← HBX.out]
  have n9 : n ≤ 1000000 := by rw [HNN.out]; exact HN.out
  clear x7 y0 y1 y2 y3 q1 q2 q3
  go_wp2_with fail
  go_loopg [8] n (fun gk s8 wr => ∃ k : Nat, gk = n - k ∧ k ≤ n ∧ s8 = .int .i64 k ∧ k ≤ fnd x.yours x.mine ss ∧ St w0 wr (B bx (seC x) 101 :: (B gp (pC p) 86 :: (sesE (p.t i) sa ++ (sesE (.slice At n ct) ss ++ R)))))
  case atStart => exact ⟨0, rfl, Nat.zero_le _, rfl, Nat.zero_le _, HS.out⟩
  case round =>
    obtain ⟨k, hgk, hk, rfl, hf, hs⟩ := hrel
    have z7 : wr.cell? ⟨gp, 7 + j, none⟩ = some (.slice At n ct) := hs.cellOf (g := gp) (cs := pC p) (t := 86) (by simp) (7 + j) (by rw [pC_t p HJ2.out, HTV.out])
    have HGK := Lib.hid hgk
    have HF := Lib.hid hf
    have HST := Lib.hid hs
    clear hgk hf hs
    by_cases hlt : k < n
    · have k1 : (k : Int) < (n : Int) := by omega
      have k2 : (0 : Int) ≤ (k : Int) := by omega
      have hks : k < ss.length := by rw [← HNN.out]; exact hlt
      obtain ⟨z, hz⟩ : ∃ z, ss[k]? = some z := ⟨_, List.getElem?_eq_getElem hks⟩
      obtain ⟨gt, hgt⟩ : ∃ gt, At = some ⟨gt, 0, none⟩ := by
        rcases HV.out.row.2 with ⟨q1, q2⟩ | ⟨gt, _, q1, _⟩
        · omega
        · rw [HTV.out] at q1; injection q1 with q1; exact ⟨gt, q1⟩
      have hE : ∀ w9, St w0 w9 (B bx (seC x) 101 :: (B gp (pC p) 86 :: (sesE (p.t i) sa ++ (sesE (.slice At n ct) ss ++ R)))) → ∀ r u, r < 4 → (seC z)[r]? = some u → w9.cell? ⟨gt, k * 4 + r, none⟩ = some u := fun w9 h9 r u hr hu => by
        have hE : St w0 w9 (rowE (.slice (some ⟨gt, 0, none⟩) n ct) 101 4 n (sesL ss) ++ []) := h9.re (fun x => by rw [hgt]; simp only [sesE, ← HNN.out, cnt_append, cnt_cons, cnt_nil]; omega)
        have := (hE.at (k * 4 + r) (by rw [sesL_len, ← HNN.out]; omega) (by rw [sesL_len, ← HNN.out])).1
        rw [sesL_get hz r hr, hu] at this; exact this
      have H7 : Hid (wr.drew.cell? ⟨gp, 7 + j, none⟩ = some (.slice (some ⟨gt, 0, none⟩) n ct) ∧ wr.drew.cell? ⟨gt, k * 4, none⟩ = some (.int .u64 (z.mine : Int)) ∧ wr.drew.cell? ⟨bx, 1, none⟩ = some (.int .u64 (x.yours : Int)) ∧ wr.drew.cell? ⟨gt, k * 4 + 1, none⟩ = some (.int .u64 (z.yours : Int)) ∧ wr.drew.cell? ⟨bx, 0, none⟩ = some (.int .u64 (x.mine : Int))) := ⟨by rw [← hgt]; exact z7, hE _ HST.out.drew 0 _ (by omega) rfl, HST.out.drew.cellOf (g := bx) (cs := seC x) (t := 101) (by simp) 1 rfl, hE _ HST.out.drew 1 _ (by omega) rfl, HST.out.drew.cellOf (g := bx) (cs := seC x) (t := 101) (by simp) 0 rfl⟩
      have HE := Lib.hid hE
      have HX := Lib.hid hz
      have HLT := Lib.hid hlt
      have HGT := Lib.hid hgt
      clear hks hlt hz hE hgt
      go_upto_region 5 with fail
      clear z7
      go_cut [59] (fun s59 wx => s59 = .bool (decide (z.mine = x.yours ∧ z.yours = x.mine)) ∧ wx = wr.drew)
      case first =>
        rw [HGT.out]
        rcases (show (z.mine = x.yours ∧ z.yours = x.mine) ∨ (z.mine = x.yours ∧ z.yours ≠ x.mine) ∨ z.mine ≠ x.yours by omega) with ⟨q, q'⟩ | ⟨q, q'⟩ | q
        · skip
          have a1 : ((z.mine : Int) == (x.yours : Int)) = true := by simp; omega
          have a2 : (z.mine == x.yours) = true := by simp; omega
          have a3 : ((z.yours : Int) == (x.mine : Int)) = true := by simp; omega
          have a4 : (z.yours == x.mine) = true := by simp; omega
          have SM : ∀ (bb0 : Bool) (w9 : World), (fun (_ : Bool) (w9 : World) => w9.cell? ⟨gp, 7 + j, none⟩ = some (.slice (some ⟨gt, 0, none⟩) n ct) ∧ w9.cell? ⟨gt, k * 4, none⟩ = some (.int .u64 (z.mine : Int)) ∧ w9.cell? ⟨bx, 1, none⟩ = some (.int .u64 (x.yours : Int)) ∧ w9.cell? ⟨gt, k * 4 + 1, none⟩ = some (.int .u64 (z.yours : Int)) ∧ w9.cell? ⟨bx, 0, none⟩ = some (.int .u64 (x.mine : Int))) bb0 w9 → (fun (_ : Bool) (w9 : World) => w9.cell? ⟨gp, 7 + j, none⟩ = some (.slice (some ⟨gt, 0, none⟩) n ct) ∧ w9.cell? ⟨gt, k * 4, none⟩ = some (.int .u64 (z.mine : Int)) ∧ w9.cell? ⟨bx, 1, none⟩ = some (.int .u64 (x.yours : Int)) ∧ w9.cell? ⟨gt, k * 4 + 1, none⟩ = some (.int .u64 (z.yours : Int)) ∧ w9.cell? ⟨bx, 0, none⟩ = some (.int .u64 (x.mine : Int))) true w9 := fun _ _ h => h
          refine RegL.begin_of (k := 99) (S := fun (_ : Bool) (w9 : World) => w9.cell? ⟨gp, 7 + j, none⟩ = some (.slice (some ⟨gt, 0, none⟩) n ct) ∧ w9.cell? ⟨gt, k * 4, none⟩ = some (.int .u64 (z.mine : Int)) ∧ w9.cell? ⟨bx, 1, none⟩ = some (.int .u64 (x.yours : Int)) ∧ w9.cell? ⟨gt, k * 4 + 1, none⟩ = some (.int .u64 (z.yours : Int)) ∧ w9.cell? ⟨bx, 0, none⟩ = some (.int .u64 (x.mine : Int))) (by kernel_rfl) ?_
          refine RegL.take_w (i := 0) (oi := ⟨some 30, _, _, _, _, _⟩) (v := ?_) SM rfl (by decide) (by kernel_rfl) (by kernel_rfl) (by kernel_rfl) (fun _ _ _ h => h) (Or.inl ⟨by rfl, ?_⟩) (H7.out) ?_
          rotate_left
          · intro w9 hw9; obtain ⟨q1, q2, q3, q4, q5⟩ := hw9; go_simp; try with_reducible rfl
          try simp only [Act.put, List.setIfInBounds_toArray, List.set_cons_zero, List.set_cons_succ]
          refine RegL.take_w (i := 1) (oi := ⟨some 31, _, _, _, _, _⟩) (v := ?_) SM rfl (by decide) (by kernel_rfl) (by kernel_rfl) (by kernel_rfl) (fun _ _ _ h => h) (Or.inl ⟨by rfl, ?_⟩) (H7.out) ?_
          rotate_left
          · intro w9 hw9; obtain ⟨q1, q2, q3, q4, q5⟩ := hw9; go_simp; try with_reducible rfl
          try simp only [Act.put, List.setIfInBounds_toArray, List.set_cons_zero, List.set_cons_succ]
          refine RegL.take_w (i := 2) (oi := ⟨some 32, _, _, _, _, _⟩) (v := ?_) SM rfl (by decide) (by kernel_rfl) (by kernel_rfl) (by kernel_rfl) (fun _ _ _ h => h) (Or.inl ⟨by rfl, ?_⟩) (H7.out) ?_
          rotate_left
          · intro w9 hw9; obtain ⟨q1, q2, q3, q4, q5⟩ := hw9; go_simp; try with_reducible rfl
          try simp only [Act.put, List.setIfInBounds_toArray, List.set_cons_zero, List.set_cons_succ]
          refine RegL.take_w (i := 3) (oi := ⟨some 33, _, _, _, _, _⟩) (v := ?_) SM rfl (by decide) (by kernel_rfl) (by kernel_rfl) (by kernel_rfl) (fun _ _ _ h => h) (Or.inl ⟨by rfl, ?_⟩) (H7.out) ?_
          rotate_left
          · intro w9 hw9; obtain ⟨q1, q2, q3, q4, q5⟩ := hw9; go_simp; try with_reducible rfl
          try simp only [Act.put, List.setIfInBounds_toArray, List.set_cons_zero, List.set_cons_succ]
          refine RegL.take_w (i := 4) (oi := ⟨some 34, _, _, _, _, _⟩) (v := ?_) SM rfl (by decide) (by kernel_rfl) (by kernel_rfl) (by kernel_rfl) (fun _ _ _ h => h) (Or.inl ⟨by rfl, ?_⟩) (H7.out) ?_
          rotate_left
          · intro w9 hw9; obtain ⟨q1, q2, q3, q4, q5⟩ := hw9; go_simp; try with_reducible rfl
          try simp only [Act.put, List.setIfInBounds_toArray, List.set_cons_zero, List.set_cons_succ]
          refine RegL.take_w (i := 5) (oi := ⟨some 35, _, _, _, _, _⟩) (v := ?_) SM rfl (by decide) (by kernel_rfl) (by kernel_rfl) (by kernel_rfl) (fun _ _ _ h => h) (Or.inl ⟨by rfl, ?_⟩) (H7.out) ?_
          rotate_left
          · intro w9 hw9; obtain ⟨q1, q2, q3, q4, q5⟩ := hw9; go_simp; try with_reducible rfl
          try simp only [Act.put, List.setIfInBounds_toArray, List.set_cons_zero, List.set_cons_succ]
          refine RegL.take_w (i := 6) (oi := ⟨some 36, _, _, _, _, _⟩) (v := ?_) SM rfl (by decide) (by kernel_rfl) (by kernel_rfl) (by kernel_rfl) (fun _ _ _ h => h) (Or.inl ⟨by rfl, ?_⟩) (H7.out) ?_
          rotate_left
          · intro w9 hw9; obtain ⟨q1, q2, q3, q4, q5⟩ := hw9; go_simp; try with_reducible rfl
          try simp only [Act.put, List.setIfInBounds_toArray, List.set_cons_zero, List.set_cons_succ]
          refine RegL.take_w (i := 7) (oi := ⟨some 37, _, _, _, _, _⟩) (v := ?_) SM rfl (by decide) (by kernel_rfl) (by kernel_rfl) (by kernel_rfl) (fun _ _ _ h => h) (Or.inl ⟨by rfl, ?_⟩) (H7.out) ?_
          rotate_left
          · intro w9 hw9; obtain ⟨q1, q2, q3, q4, q5⟩ := hw9; go_simp; try with_reducible rfl
          try simp only [Act.put, List.setIfInBounds_toArray, List.set_cons_zero, List.set_cons_succ]
          refine RegL.take_w (i := 8) (oi := ⟨some 38, _, _, _, _, _⟩) (v := ?_) SM rfl (by decide) (by kernel_rfl) (by kernel_rfl) (by kernel_rfl) (fun _ _ _ h => h) (Or.inl ⟨by rfl, ?_⟩) (H7.out) ?_
          rotate_left
          · intro w9 hw9; obtain ⟨q1, q2, q3, q4, q5⟩ := hw9; go_simp; try with_reducible rfl
          try simp only [Act.put, List.setIfInBounds_toArray, List.set_cons_zero, List.set_cons_succ]
          refine RegL.take_w (i := 9) (oi := ⟨some 39, _, _, _, _, _⟩) (v := ?_) SM rfl (by decide) (by kernel_rfl) (by kernel_rfl) (by kernel_rfl) (fun _ _ _ h => h) (Or.inl ⟨by rfl, ?_⟩) (H7.out) ?_
          rotate_left
          · intro w9 hw9; obtain ⟨q1, q2, q3, q4, q5⟩ := hw9; go_simp; try with_reducible rfl
          try simp only [Act.put, List.setIfInBounds_toArray, List.set_cons_zero, List.set_cons_succ]
          refine RegL.take_w (i := 10) (oi := ⟨some 40, _, _, _, _, _⟩) (v := ?_) SM rfl (by decide) (by kernel_rfl) (by kernel_rfl) (by kernel_rfl) (fun _ _ _ h => h) (Or.inl ⟨by rfl, ?_⟩) (H7.out) ?_
          rotate_left
          · intro w9 hw9; obtain ⟨q1, q2, q3, q4, q5⟩ := hw9; go_simp; try with_reducible rfl
          try simp only [Act.put, List.setIfInBounds_toArray, List.set_cons_zero, List.set_cons_succ]
          refine RegL.take_w (i := 11) (oi := ⟨some 41, _, _, _, _, _⟩) (v := ?_) SM rfl (by decide) (by kernel_rfl) (by kernel_rfl) (by kernel_rfl) (fun _ _ _ h => h) (Or.inl ⟨by rfl, ?_⟩) (H7.out) ?_
          rotate_left
          · intro w9 hw9; obtain ⟨q1, q2, q3, q4, q5⟩ := hw9; go_simp; try with_reducible rfl
          try simp only [Act.put, List.setIfInBounds_toArray, List.set_cons_zero, List.set_cons_succ]
          refine RegL.take_w (i := 12) (oi := ⟨some 42, _, _, _, _, _⟩) (v := ?_) SM rfl (by decide) (by kernel_rfl) (by kernel_rfl) (by kernel_rfl) (fun _ _ _ h => h) (Or.inl ⟨by rfl, ?_⟩) (H7.out) ?_
          rotate_left
          · intro w9 hw9; obtain ⟨q1, q2, q3, q4, q5⟩ := hw9; go_simp; try with_reducible rfl
          try simp only [Act.put, List.setIfInBounds_toArray, List.set_cons_zero, List.set_cons_succ]
          refine RegL.take_w (i := 13) (oi := ⟨some 43, _, _, _, _, _⟩) (v := ?_) SM rfl (by decide) (by kernel_rfl) (by kernel_rfl) (by kernel_rfl) (fun _ _ _ h => h) (Or.inl ⟨by rfl, ?_⟩) (H7.out) ?_
          rotate_left
          · intro w9 hw9; obtain ⟨q1, q2, q3, q4, q5⟩ := hw9; go_simp; try with_reducible rfl
          try simp only [Act.put, List.setIfInBounds_toArray, List.set_cons_zero, List.set_cons_succ]
          refine RegL.take_w (i := 14) (oi := ⟨some 44, _, _, _, _, _⟩) (v := ?_) SM rfl (by decide) (by kernel_rfl) (by kernel_rfl) (by kernel_rfl) (fun _ _ _ h => h) (Or.inl ⟨by rfl, ?_⟩) (H7.out) ?_
          rotate_left
          · intro w9 hw9; obtain ⟨q1, q2, q3, q4, q5⟩ := hw9; go_simp; try with_reducible rfl
          try simp only [Act.put, List.setIfInBounds_toArray, List.set_cons_zero, List.set_cons_succ]
          refine RegL.take_w (i := 15) (oi := ⟨some 45, _, _, _, _, _⟩) (v := ?_) SM rfl (by decide) (by kernel_rfl) (by kernel_rfl) (by kernel_rfl) (fun _ _ _ h => h) (Or.inl ⟨by rfl, ?_⟩) (H7.out) ?_
          rotate_left
          · intro w9 hw9; obtain ⟨q1, q2, q3, q4, q5⟩ := hw9; go_simp; try with_reducible rfl
          try simp only [Act.put, List.setIfInBounds_toArray, List.set_cons_zero, List.set_cons_succ]
          refine RegL.take_w (i := 16) (oi := ⟨some 46, _, _, _, _, _⟩) (v := ?_) SM rfl (by decide) (by kernel_rfl) (by kernel_rfl) (by kernel_rfl) (fun _ _ _ h => h) (Or.inl ⟨by rfl, ?_⟩) (H7.out) ?_
          rotate_left
          · intro w9 hw9; obtain ⟨q1, q2, q3, q4, q5⟩ := hw9; go_simp; try with_reducible rfl
          try simp only [Act.put, List.setIfInBounds_toArray, List.set_cons_zero, List.set_cons_succ]
          refine RegL.take_w (i := 17) (oi := ⟨some 47, _, _, _, _, _⟩) (v := ?_) SM rfl (by decide) (by kernel_rfl) (by kernel_rfl) (by kernel_rfl) (fun _ _ _ h => h) (Or.inl ⟨by rfl, ?_⟩) (H7.out) ?_
          rotate_left
          · intro w9 hw9; obtain ⟨q1, q2, q3, q4, q5⟩ := hw9; go_simp; try with_reducible rfl
          try simp only [Act.put, List.setIfInBounds_toArray, List.set_cons_zero, List.set_cons_succ]
          refine RegL.take_w (i := 18) (oi := ⟨some 48, _, _, _, _, _⟩) (v := ?_) SM rfl (by decide) (by kernel_rfl) (by kernel_rfl) (by kernel_rfl) (fun _ _ _ h => h) (Or.inl ⟨by rfl, ?_⟩) (H7.out) ?_
          rotate_left
          · intro w9 hw9; obtain ⟨q1, q2, q3, q4, q5⟩ := hw9; go_simp; try with_reducible rfl
          try simp only [Act.put, List.setIfInBounds_toArray, List.set_cons_zero, List.set_cons_succ]
          refine RegL.take_w (i := 19) (oi := ⟨some 49, _, _, _, _, _⟩) (v := ?_) SM rfl (by decide) (by kernel_rfl) (by kernel_rfl) (by kernel_rfl) (fun _ _ _ h => h) (Or.inl ⟨by rfl, ?_⟩) (H7.out) ?_
          rotate_left
          · intro w9 hw9; obtain ⟨q1, q2, q3, q4, q5⟩ := hw9; go_simp; try with_reducible rfl
          try simp only [Act.put, List.setIfInBounds_toArray, List.set_cons_zero, List.set_cons_succ]
          refine RegL.take_w (i := 20) (oi := ⟨some 50, _, _, _, _, _⟩) (v := ?_) SM rfl (by decide) (by kernel_rfl) (by kernel_rfl) (by kernel_rfl) (fun _ _ _ h => h) (Or.inl ⟨by rfl, ?_⟩) (H7.out) ?_
          rotate_left
          · intro w9 hw9; obtain ⟨q1, q2, q3, q4, q5⟩ := hw9; go_simp; try with_reducible rfl
          try simp only [Act.put, List.setIfInBounds_toArray, List.set_cons_zero, List.set_cons_succ]
          refine RegL.take_w (i := 21) (oi := ⟨some 51, _, _, _, _, _⟩) (v := ?_) SM rfl (by decide) (by kernel_rfl) (by kernel_rfl) (by kernel_rfl) (fun _ _ _ h => h) (Or.inl ⟨by rfl, ?_⟩) (H7.out) ?_
          rotate_left
          · intro w9 hw9; obtain ⟨q1, q2, q3, q4, q5⟩ := hw9; go_simp; try with_reducible rfl
          try simp only [Act.put, List.setIfInBounds_toArray, List.set_cons_zero, List.set_cons_succ]
          refine RegL.take_w (i := 22) (oi := ⟨some 52, _, _, _, _, _⟩) (v := ?_) SM rfl (by decide) (by kernel_rfl) (by kernel_rfl) (by kernel_rfl) (fun _ _ _ h => h) (Or.inl ⟨by rfl, ?_⟩) (H7.out) ?_
          rotate_left
          · intro w9 hw9; obtain ⟨q1, q2, q3, q4, q5⟩ := hw9; go_simp; try with_reducible rfl
          try simp only [Act.put, List.setIfInBounds_toArray, List.set_cons_zero, List.set_cons_succ]
          refine RegL.take_w (i := 23) (oi := ⟨some 53, _, _, _, _, _⟩) (v := ?_) SM rfl (by decide) (by kernel_rfl) (by kernel_rfl) (by kernel_rfl) (fun _ _ _ h => h) (Or.inl ⟨by rfl, ?_⟩) (H7.out) ?_
          rotate_left
          · intro w9 hw9; obtain ⟨q1, q2, q3, q4, q5⟩ := hw9; go_simp; try with_reducible rfl
          try simp only [Act.put, List.setIfInBounds_toArray, List.set_cons_zero, List.set_cons_succ]
          refine RegL.take_w (i := 24) (oi := ⟨some 54, _, _, _, _, _⟩) (v := ?_) SM rfl (by decide) (by kernel_rfl) (by kernel_rfl) (by kernel_rfl) (fun _ _ _ h => h) (Or.inl ⟨by rfl, ?_⟩) (H7.out) ?_
          rotate_left
          · intro w9 hw9; obtain ⟨q1, q2, q3, q4, q5⟩ := hw9; go_simp; try with_reducible rfl
          try simp only [Act.put, List.setIfInBounds_toArray, List.set_cons_zero, List.set_cons_succ]
          refine RegL.take_w (i := 25) (oi := ⟨some 55, _, _, _, _, _⟩) (v := ?_) SM rfl (by decide) (by kernel_rfl) (by kernel_rfl) (by kernel_rfl) (fun _ _ _ h => h) (Or.inl ⟨by rfl, ?_⟩) (H7.out) ?_
          rotate_left
          · intro w9 hw9; obtain ⟨q1, q2, q3, q4, q5⟩ := hw9; go_simp; try with_reducible rfl
          try simp only [Act.put, List.setIfInBounds_toArray, List.set_cons_zero, List.set_cons_succ]
          refine RegL.take_w (i := 26) (oi := ⟨some 56, _, _, _, _, _⟩) (v := ?_) SM rfl (by decide) (by kernel_rfl) (by kernel_rfl) (by kernel_rfl) (fun _ _ _ h => h) (Or.inl ⟨by rfl, ?_⟩) (H7.out) ?_
          rotate_left
          · intro w9 hw9; obtain ⟨q1, q2, q3, q4, q5⟩ := hw9; go_simp; try with_reducible rfl
          try simp only [Act.put, List.setIfInBounds_toArray, List.set_cons_zero, List.set_cons_succ]
          refine RegL.take_w (i := 27) (oi := ⟨some 57, _, _, _, _, _⟩) (v := ?_) SM rfl (by decide) (by kernel_rfl) (by kernel_rfl) (by kernel_rfl) (fun _ _ _ h => h) (Or.inl ⟨by rfl, ?_⟩) (H7.out) ?_
          rotate_left
          · intro w9 hw9; obtain ⟨q1, q2, q3, q4, q5⟩ := hw9; go_simp; try with_reducible rfl
          try simp only [Act.put, List.setIfInBounds_toArray, List.set_cons_zero, List.set_cons_succ]
          refine RegL.take_w (i := 28) (oi := ⟨some 58, _, _, _, _, _⟩) (v := ?_) SM rfl (by decide) (by kernel_rfl) (by kernel_rfl) (by kernel_rfl) (fun _ _ _ h => h) (Or.inl ⟨by rfl, ?_⟩) (H7.out) ?_
          rotate_left
          · intro w9 hw9; obtain ⟨q1, q2, q3, q4, q5⟩ := hw9; go_simp; try with_reducible rfl
          try simp only [Act.put, List.setIfInBounds_toArray, List.set_cons_zero, List.set_cons_succ]
          refine RegL.take_w (i := 29) (oi := ⟨some 59, _, _, _, _, _⟩) (v := ?_) SM rfl (by decide) (by kernel_rfl) (by kernel_rfl) (by kernel_rfl) (fun _ _ _ h => h) (Or.inl ⟨by rfl, ?_⟩) (H7.out) ?_
          rotate_left
          · intro w9 hw9; obtain ⟨q1, q2, q3, q4, q5⟩ := hw9; go_simp; try with_reducible rfl
          try simp only [Act.put, List.setIfInBounds_toArray, List.set_cons_zero, List.set_cons_succ]
          refine RegL.done_of (by kernel_rfl) ?_ _
          go_wp2_with fail
          go_meet
          exact ⟨by rw [show decide (z.mine = x.yours ∧ z.yours = x.mine) = true by simp; omega], rfl⟩
        · skip
          have a1 : ((z.mine : Int) == (x.yours : Int)) = true := by simp; omega
          have a2 : (z.mine == x.yours) = true := by simp; omega
          have a3 : ((z.yours : Int) == (x.mine : Int)) = false := by simp; omega
          have a4 : (z.yours == x.mine) = false := by simp; omega
          have SM : ∀ (bb0 : Bool) (w9 : World), (fun (_ : Bool) (w9 : World) => w9.cell? ⟨gp, 7 + j, none⟩ = some (.slice (some ⟨gt, 0, none⟩) n ct) ∧ w9.cell? ⟨gt, k * 4, none⟩ = some (.int .u64 (z.mine : Int)) ∧ w9.cell? ⟨bx, 1, none⟩ = some (.int .u64 (x.yours : Int)) ∧ w9.cell? ⟨gt, k * 4 + 1, none⟩ = some (.int .u64 (z.yours : Int)) ∧ w9.cell? ⟨bx, 0, none⟩ = some (.int .u64 (x.mine : Int))) bb0 w9 → (fun (_ : Bool) (w9 : World) => w9.cell? ⟨gp, 7 + j, none⟩ = some (.slice (some ⟨gt, 0, none⟩) n ct) ∧ w9.cell? ⟨gt, k * 4, none⟩ = some (.int .u64 (z.mine : Int)) ∧ w9.cell? ⟨bx, 1, none⟩ = some (.int .u64 (x.yours : Int)) ∧ w9.cell? ⟨gt, k * 4 + 1, none⟩ = some (.int .u64 (z.yours : Int)) ∧ w9.cell? ⟨bx, 0, none⟩ = some (.int .u64 (x.mine : Int))) true w9 := fun _ _ h => h
          refine RegL.begin_of (k := 99) (S := fun (_ : Bool) (w9 : World) => w9.cell? ⟨gp, 7 + j, none⟩ = some (.slice (some ⟨gt, 0, none⟩) n ct) ∧ w9.cell? ⟨gt, k * 4, none⟩ = some (.int .u64 (z.mine : Int)) ∧ w9.cell? ⟨bx, 1, none⟩ = some (.int .u64 (x.yours : Int)) ∧ w9.cell? ⟨gt, k * 4 + 1, none⟩ = some (.int .u64 (z.yours : Int)) ∧ w9.cell? ⟨bx, 0, none⟩ = some (.int .u64 (x.mine : Int))) (by kernel_rfl) ?_
          refine RegL.take_w (i := 0) (oi := ⟨some 30, _, _, _, _, _⟩) (v := ?_) SM rfl (by decide) (by kernel_rfl) (by kernel_rfl) (by kernel_rfl) (fun _ _ _ h => h) (Or.inl ⟨by rfl, ?_⟩) (H7.out) ?_
          rotate_left
          · intro w9 hw9; obtain ⟨q1, q2, q3, q4, q5⟩ := hw9; go_simp; try with_reducible rfl
          try simp only [Act.put, List.setIfInBounds_toArray, List.set_cons_zero, List.set_cons_succ]
          refine RegL.take_w (i := 1) (oi := ⟨some 31, _, _, _, _, _⟩) (v := ?_) SM rfl (by decide) (by kernel_rfl) (by kernel_rfl) (by kernel_rfl) (fun _ _ _ h => h) (Or.inl ⟨by rfl, ?_⟩) (H7.out) ?_
          rotate_left
          · intro w9 hw9; obtain ⟨q1, q2, q3, q4, q5⟩ := hw9; go_simp; try with_reducible rfl
          try simp only [Act.put, List.setIfInBounds_toArray, List.set_cons_zero, List.set_cons_succ]
          refine RegL.take_w (i := 2) (oi := ⟨some 32, _, _, _, _, _⟩) (v := ?_) SM rfl (by decide) (by kernel_rfl) (by kernel_rfl) (by kernel_rfl) (fun _ _ _ h => h) (Or.inl ⟨by rfl, ?_⟩) (H7.out) ?_
          rotate_left
          · intro w9 hw9; obtain ⟨q1, q2, q3, q4, q5⟩ := hw9; go_simp; try with_reducible rfl
          try simp only [Act.put, List.setIfInBounds_toArray, List.set_cons_zero, List.set_cons_succ]
          refine RegL.take_w (i := 3) (oi := ⟨some 33, _, _, _, _, _⟩) (v := ?_) SM rfl (by decide) (by kernel_rfl) (by kernel_rfl) (by kernel_rfl) (fun _ _ _ h => h) (Or.inl ⟨by rfl, ?_⟩) (H7.out) ?_
          rotate_left
          · intro w9 hw9; obtain ⟨q1, q2, q3, q4, q5⟩ := hw9; go_simp; try with_reducible rfl
          try simp only [Act.put, List.setIfInBounds_toArray, List.set_cons_zero, List.set_cons_succ]
          refine RegL.take_w (i := 4) (oi := ⟨some 34, _, _, _, _, _⟩) (v := ?_) SM rfl (by decide) (by kernel_rfl) (by kernel_rfl) (by kernel_rfl) (fun _ _ _ h => h) (Or.inl ⟨by rfl, ?_⟩) (H7.out) ?_
          rotate_left
          · intro w9 hw9; obtain ⟨q1, q2, q3, q4, q5⟩ := hw9; go_simp; try with_reducible rfl
          try simp only [Act.put, List.setIfInBounds_toArray, List.set_cons_zero, List.set_cons_succ]
          refine RegL.take_w (i := 5) (oi := ⟨some 35, _, _, _, _, _⟩) (v := ?_) SM rfl (by decide) (by kernel_rfl) (by kernel_rfl) (by kernel_rfl) (fun _ _ _ h => h) (Or.inl ⟨by rfl, ?_⟩) (H7.out) ?_
          rotate_left
          · intro w9 hw9; obtain ⟨q1, q2, q3, q4, q5⟩ := hw9; go_simp; try with_reducible rfl
          try simp only [Act.put, List.setIfInBounds_toArray, List.set_cons_zero, List.set_cons_succ]
          refine RegL.take_w (i := 6) (oi := ⟨some 36, _, _, _, _, _⟩) (v := ?_) SM rfl (by decide) (by kernel_rfl) (by kernel_rfl) (by kernel_rfl) (fun _ _ _ h => h) (Or.inl ⟨by rfl, ?_⟩) (H7.out) ?_
          rotate_left
          · intro w9 hw9; obtain ⟨q1, q2, q3, q4, q5⟩ := hw9; go_simp; try with_reducible rfl
          try simp only [Act.put, List.setIfInBounds_toArray, List.set_cons_zero, List.set_cons_succ]
          refine RegL.take_w (i := 7) (oi := ⟨some 37, _, _, _, _, _⟩) (v := ?_) SM rfl (by decide) (by kernel_rfl) (by kernel_rfl) (by kernel_rfl) (fun _ _ _ h => h) (Or.inl ⟨by rfl, ?_⟩) (H7.out) ?_
          rotate_left
          · intro w9 hw9; obtain ⟨q1, q2, q3, q4, q5⟩ := hw9; go_simp; try with_reducible rfl
          try simp only [Act.put, List.setIfInBounds_toArray, List.set_cons_zero, List.set_cons_succ]
          refine RegL.take_w (i := 8) (oi := ⟨some 38, _, _, _, _, _⟩) (v := ?_) SM rfl (by decide) (by kernel_rfl) (by kernel_rfl) (by kernel_rfl) (fun _ _ _ h => h) (Or.inl ⟨by rfl, ?_⟩) (H7.out) ?_
          rotate_left
          · intro w9 hw9; obtain ⟨q1, q2, q3, q4, q5⟩ := hw9; go_simp; try with_reducible rfl
          try simp only [Act.put, List.setIfInBounds_toArray, List.set_cons_zero, List.set_cons_succ]
          refine RegL.take_w (i := 9) (oi := ⟨some 39, _, _, _, _, _⟩) (v := ?_) SM rfl (by decide) (by kernel_rfl) (by kernel_rfl) (by kernel_rfl) (fun _ _ _ h => h) (Or.inl ⟨by rfl, ?_⟩) (H7.out) ?_
          rotate_left
          · intro w9 hw9; obtain ⟨q1, q2, q3, q4, q5⟩ := hw9; go_simp; try with_reducible rfl
          try simp only [Act.put, List.setIfInBounds_toArray, List.set_cons_zero, List.set_cons_succ]
          refine RegL.take_w (i := 10) (oi := ⟨some 40, _, _, _, _, _⟩) (v := ?_) SM rfl (by decide) (by kernel_rfl) (by kernel_rfl) (by kernel_rfl) (fun _ _ _ h => h) (Or.inl ⟨by rfl, ?_⟩) (H7.out) ?_
          rotate_left
          · intro w9 hw9; obtain ⟨q1, q2, q3, q4, q5⟩ := hw9; go_simp; try with_reducible rfl
          try simp only [Act.put, List.setIfInBounds_toArray, List.set_cons_zero, List.set_cons_succ]
          refine RegL.take_w (i := 11) (oi := ⟨some 41, _, _, _, _, _⟩) (v := ?_) SM rfl (by decide) (by kernel_rfl) (by kernel_rfl) (by kernel_rfl) (fun _ _ _ h => h) (Or.inl ⟨by rfl, ?_⟩) (H7.out) ?_
          rotate_left
          · intro w9 hw9; obtain ⟨q1, q2, q3, q4, q5⟩ := hw9; go_simp; try with_reducible rfl
          try simp only [Act.put, List.setIfInBounds_toArray, List.set_cons_zero, List.set_cons_succ]
          refine RegL.take_w (i := 12) (oi := ⟨some 42, _, _, _, _, _⟩) (v := ?_) SM rfl (by decide) (by kernel_rfl) (by kernel_rfl) (by kernel_rfl) (fun _ _ _ h => h) (Or.inl ⟨by rfl, ?_⟩) (H7.out) ?_
          rotate_left
          · intro w9 hw9; obtain ⟨q1, q2, q3, q4, q5⟩ := hw9; go_simp; try with_reducible rfl
          try simp only [Act.put, List.setIfInBounds_toArray, List.set_cons_zero, List.set_cons_succ]
          refine RegL.take_w (i := 13) (oi := ⟨some 43, _, _, _, _, _⟩) (v := ?_) SM rfl (by decide) (by kernel_rfl) (by kernel_rfl) (by kernel_rfl) (fun _ _ _ h => h) (Or.inl ⟨by rfl, ?_⟩) (H7.out) ?_
          rotate_left
          · intro w9 hw9; obtain ⟨q1, q2, q3, q4, q5⟩ := hw9; go_simp; try with_reducible rfl
          try simp only [Act.put, List.setIfInBounds_toArray, List.set_cons_zero, List.set_cons_succ]
          refine RegL.take_w (i := 14) (oi := ⟨some 44, _, _, _, _, _⟩) (v := ?_) SM rfl (by decide) (by kernel_rfl) (by kernel_rfl) (by kernel_rfl) (fun _ _ _ h => h) (Or.inl ⟨by rfl, ?_⟩) (H7.out) ?_
          rotate_left
          · intro w9 hw9; obtain ⟨q1, q2, q3, q4, q5⟩ := hw9; go_simp; try with_reducible rfl
          try simp only [Act.put, List.setIfInBounds_toArray, List.set_cons_zero, List.set_cons_succ]
          refine RegL.take_w (i := 15) (oi := ⟨some 45, _, _, _, _, _⟩) (v := ?_) SM rfl (by decide) (by kernel_rfl) (by kernel_rfl) (by kernel_rfl) (fun _ _ _ h => h) (Or.inl ⟨by rfl, ?_⟩) (H7.out) ?_
          rotate_left
          · intro w9 hw9; obtain ⟨q1, q2, q3, q4, q5⟩ := hw9; go_simp; try with_reducible rfl
          try simp only [Act.put, List.setIfInBounds_toArray, List.set_cons_zero, List.set_cons_succ]
          refine RegL.take_w (i := 16) (oi := ⟨some 46, _, _, _, _, _⟩) (v := ?_) SM rfl (by decide) (by kernel_rfl) (by kernel_rfl) (by kernel_rfl) (fun _ _ _ h => h) (Or.inl ⟨by rfl, ?_⟩) (H7.out) ?_
          rotate_left
          · intro w9 hw9; obtain ⟨q1, q2, q3, q4, q5⟩ := hw9; go_simp; try with_reducible rfl
          try simp only [Act.put, List.setIfInBounds_toArray, List.set_cons_zero, List.set_cons_succ]
          refine RegL.take_w (i := 17) (oi := ⟨some 47, _, _, _, _, _⟩) (v := ?_) SM rfl (by decide) (by kernel_rfl) (by kernel_rfl) (by kernel_rfl) (fun _ _ _ h => h) (Or.inl ⟨by rfl, ?_⟩) (H7.out) ?_
          rotate_left
          · intro w9 hw9; obtain ⟨q1, q2, q3, q4, q5⟩ := hw9; go_simp; try with_reducible rfl
          try simp only [Act.put, List.setIfInBounds_toArray, List.set_cons_zero, List.set_cons_succ]
          refine RegL.take_w (i := 18) (oi := ⟨some 48, _, _, _, _, _⟩) (v := ?_) SM rfl (by decide) (by kernel_rfl) (by kernel_rfl) (by kernel_rfl) (fun _ _ _ h => h) (Or.inl ⟨by rfl, ?_⟩) (H7.out) ?_
          rotate_left
          · intro w9 hw9; obtain ⟨q1, q2, q3, q4, q5⟩ := hw9; go_simp; try with_reducible rfl
          try simp only [Act.put, List.setIfInBounds_toArray, List.set_cons_zero, List.set_cons_succ]
          refine RegL.take_w (i := 19) (oi := ⟨some 49, _, _, _, _, _⟩) (v := ?_) SM rfl (by decide) (by kernel_rfl) (by kernel_rfl) (by kernel_rfl) (fun _ _ _ h => h) (Or.inl ⟨by rfl, ?_⟩) (H7.out) ?_
          rotate_left
          · intro w9 hw9; obtain ⟨q1, q2, q3, q4, q5⟩ := hw9; go_simp; try with_reducible rfl
          try simp only [Act.put, List.setIfInBounds_toArray, List.set_cons_zero, List.set_cons_succ]
          refine RegL.take_w (i := 20) (oi := ⟨some 50, _, _, _, _, _⟩) (v := ?_) SM rfl (by decide) (by kernel_rfl) (by kernel_rfl) (by kernel_rfl) (fun _ _ _ h => h) (Or.inl ⟨by rfl, ?_⟩) (H7.out) ?_
          rotate_left
          · intro w9 hw9; obtain ⟨q1, q2, q3, q4, q5⟩ := hw9; go_simp; try with_reducible rfl
          try simp only [Act.put, List.setIfInBounds_toArray, List.set_cons_zero, List.set_cons_succ]
          refine RegL.take_w (i := 21) (oi := ⟨some 51, _, _, _, _, _⟩) (v := ?_) SM rfl (by decide) (by kernel_rfl) (by kernel_rfl) (by kernel_rfl) (fun _ _ _ h => h) (Or.inl ⟨by rfl, ?_⟩) (H7.out) ?_
          rotate_left
          · intro w9 hw9; obtain ⟨q1, q2, q3, q4, q5⟩ := hw9; go_simp; try with_reducible rfl
          try simp only [Act.put, List.setIfInBounds_toArray, List.set_cons_zero, List.set_cons_succ]
          refine RegL.take_w (i := 22) (oi := ⟨some 52, _, _, _, _, _⟩) (v := ?_) SM rfl (by decide) (by kernel_rfl) (by kernel_rfl) (by kernel_rfl) (fun _ _ _ h => h) (Or.inl ⟨by rfl, ?_⟩) (H7.out) ?_
          rotate_left
          · intro w9 hw9; obtain ⟨q1, q2, q3, q4, q5⟩ := hw9; go_simp; try with_reducible rfl
          try simp only [Act.put, List.setIfInBounds_toArray, List.set_cons_zero, List.set_cons_succ]
          refine RegL.take_w (i := 23) (oi := ⟨some 53, _, _, _, _, _⟩) (v := ?_) SM rfl (by decide) (by kernel_rfl) (by kernel_rfl) (by kernel_rfl) (fun _ _ _ h => h) (Or.inl ⟨by rfl, ?_⟩) (H7.out) ?_
          rotate_left
          · intro w9 hw9; obtain ⟨q1, q2, q3, q4, q5⟩ := hw9; go_simp; try with_reducible rfl
          try simp only [Act.put, List.setIfInBounds_toArray, List.set_cons_zero, List.set_cons_succ]
          refine RegL.take_w (i := 24) (oi := ⟨some 54, _, _, _, _, _⟩) (v := ?_) SM rfl (by decide) (by kernel_rfl) (by kernel_rfl) (by kernel_rfl) (fun _ _ _ h => h) (Or.inl ⟨by rfl, ?_⟩) (H7.out) ?_
          rotate_left
          · intro w9 hw9; obtain ⟨q1, q2, q3, q4, q5⟩ := hw9; go_simp; try with_reducible rfl
          try simp only [Act.put, List.setIfInBounds_toArray, List.set_cons_zero, List.set_cons_succ]
          refine RegL.take_w (i := 25) (oi := ⟨some 55, _, _, _, _, _⟩) (v := ?_) SM rfl (by decide) (by kernel_rfl) (by kernel_rfl) (by kernel_rfl) (fun _ _ _ h => h) (Or.inl ⟨by rfl, ?_⟩) (H7.out) ?_
          rotate_left
          · intro w9 hw9; obtain ⟨q1, q2, q3, q4, q5⟩ := hw9; go_simp; try with_reducible rfl
          try simp only [Act.put, List.setIfInBounds_toArray, List.set_cons_zero, List.set_cons_succ]
          refine RegL.take_w (i := 26) (oi := ⟨some 56, _, _, _, _, _⟩) (v := ?_) SM rfl (by decide) (by kernel_rfl) (by kernel_rfl) (by kernel_rfl) (fun _ _ _ h => h) (Or.inl ⟨by rfl, ?_⟩) (H7.out) ?_
          rotate_left
          · intro w9 hw9; obtain ⟨q1, q2, q3, q4, q5⟩ := hw9; go_simp; try with_reducible rfl
          try simp only [Act.put, List.setIfInBounds_toArray, List.set_cons_zero, List.set_cons_succ]
          refine RegL.take_w (i := 27) (oi := ⟨some 57, _, _, _, _, _⟩) (v := ?_) SM rfl (by decide) (by kernel_rfl) (by kernel_rfl) (by kernel_rfl) (fun _ _ _ h => h) (Or.inl ⟨by rfl, ?_⟩) (H7.out) ?_
          rotate_left
          · intro w9 hw9; obtain ⟨q1, q2, q3, q4, q5⟩ := hw9; go_simp; try with_reducible rfl
          try simp only [Act.put, List.setIfInBounds_toArray, List.set_cons_zero, List.set_cons_succ]
          refine RegL.take_w (i := 28) (oi := ⟨some 58, _, _, _, _, _⟩) (v := ?_) SM rfl (by decide) (by kernel_rfl) (by kernel_rfl) (by kernel_rfl) (fun _ _ _ h => h) (Or.inl ⟨by rfl, ?_⟩) (H7.out) ?_
          rotate_left
          · intro w9 hw9; obtain ⟨q1, q2, q3, q4, q5⟩ := hw9; go_simp; try with_reducible rfl
          try simp only [Act.put, List.setIfInBounds_toArray, List.set_cons_zero, List.set_cons_succ]
          refine RegL.take_w (i := 29) (oi := ⟨some 59, _, _, _, _, _⟩) (v := ?_) SM rfl (by decide) (by kernel_rfl) (by kernel_rfl) (by kernel_rfl) (fun _ _ _ h => h) (Or.inl ⟨by rfl, ?_⟩) (H7.out) ?_
          rotate_left
          · intro w9 hw9; obtain ⟨q1, q2, q3, q4, q5⟩ := hw9; go_simp; try with_reducible rfl
          try simp only [Act.put, List.setIfInBounds_toArray, List.set_cons_zero, List.set_cons_succ]
          refine RegL.done_of (by kernel_rfl) ?_ _
          go_wp2_with fail
          go_meet
          exact ⟨by rw [show decide (z.mine = x.yours ∧ z.yours = x.mine) = false by simp; omega], rfl⟩
        · skip
          have a1 : ((z.mine : Int) == (x.yours : Int)) = false := by simp; omega
          have a2 : (z.mine == x.yours) = false := by simp; omega
          have SM : ∀ (bb0 : Bool) (w9 : World), (fun (_ : Bool) (w9 : World) => w9.cell? ⟨gp, 7 + j, none⟩ = some (.slice (some ⟨gt, 0, none⟩) n ct) ∧ w9.cell? ⟨gt, k * 4, none⟩ = some (.int .u64 (z.mine : Int)) ∧ w9.cell? ⟨bx, 1, none⟩ = some (.int .u64 (x.yours : Int)) ∧ w9.cell? ⟨gt, k * 4 + 1, none⟩ = some (.int .u64 (z.yours : Int)) ∧ w9.cell? ⟨bx, 0, none⟩ = some (.int .u64 (x.mine : Int))) bb0 w9 → (fun (_ : Bool) (w9 : World) => w9.cell? ⟨gp, 7 + j, none⟩ = some (.slice (some ⟨gt, 0, none⟩) n ct) ∧ w9.cell? ⟨gt, k * 4, none⟩ = some (.int .u64 (z.mine : Int)) ∧ w9.cell? ⟨bx, 1, none⟩ = some (.int .u64 (x.yours : Int)) ∧ w9.cell? ⟨gt, k * 4 + 1, none⟩ = some (.int .u64 (z.yours : Int)) ∧ w9.cell? ⟨bx, 0, none⟩ = some (.int .u64 (x.mine : Int))) true w9 := fun _ _ h => h
          refine RegL.begin_of (k := 99) (S := fun (_ : Bool) (w9 : World) => w9.cell? ⟨gp, 7 + j, none⟩ = some (.slice (some ⟨gt, 0, none⟩) n ct) ∧ w9.cell? ⟨gt, k * 4, none⟩ = some (.int .u64 (z.mine : Int)) ∧ w9.cell? ⟨bx, 1, none⟩ = some (.int .u64 (x.yours : Int)) ∧ w9.cell? ⟨gt, k * 4 + 1, none⟩ = some (.int .u64 (z.yours : Int)) ∧ w9.cell? ⟨bx, 0, none⟩ = some (.int .u64 (x.mine : Int))) (by kernel_rfl) ?_
          refine RegL.take_w (i := 0) (oi := ⟨some 30, _, _, _, _, _⟩) (v := ?_) SM rfl (by decide) (by kernel_rfl) (by kernel_rfl) (by kernel_rfl) (fun _ _ _ h => h) (Or.inl ⟨by rfl, ?_⟩) (H7.out) ?_
          rotate_left
          · intro w9 hw9; obtain ⟨q1, q2, q3, q4, q5⟩ := hw9; go_simp; try with_reducible rfl
          try simp only [Act.put, List.setIfInBounds_toArray, List.set_cons_zero, List.set_cons_succ]
          refine RegL.take_w (i := 1) (oi := ⟨some 31, _, _, _, _, _⟩) (v := ?_) SM rfl (by decide) (by kernel_rfl) (by kernel_rfl) (by kernel_rfl) (fun _ _ _ h => h) (Or.inl ⟨by rfl, ?_⟩) (H7.out) ?_
          rotate_left
          · intro w9 hw9; obtain ⟨q1, q2, q3, q4, q5⟩ := hw9; go_simp; try with_reducible rfl
          try simp only [Act.put, List.setIfInBounds_toArray, List.set_cons_zero, List.set_cons_succ]
          refine RegL.take_w (i := 2) (oi := ⟨some 32, _, _, _, _, _⟩) (v := ?_) SM rfl (by decide) (by kernel_rfl) (by kernel_rfl) (by kernel_rfl) (fun _ _ _ h => h) (Or.inl ⟨by rfl, ?_⟩) (H7.out) ?_
          rotate_left
          · intro w9 hw9; obtain ⟨q1, q2, q3, q4, q5⟩ := hw9; go_simp; try with_reducible rfl
          try simp only [Act.put, List.setIfInBounds_toArray, List.set_cons_zero, List.set_cons_succ]
          refine RegL.take_w (i := 3) (oi := ⟨some 33, _, _, _, _, _⟩) (v := ?_) SM rfl (by decide) (by kernel_rfl) (by kernel_rfl) (by kernel_rfl) (fun _ _ _ h => h) (Or.inl ⟨by rfl, ?_⟩) (H7.out) ?_
          rotate_left
          · intro w9 hw9; obtain ⟨q1, q2, q3, q4, q5⟩ := hw9; go_simp; try with_reducible rfl
          try simp only [Act.put, List.setIfInBounds_toArray, List.set_cons_zero, List.set_cons_succ]
          refine RegL.take_w (i := 4) (oi := ⟨some 34, _, _, _, _, _⟩) (v := ?_) SM rfl (by decide) (by kernel_rfl) (by kernel_rfl) (by kernel_rfl) (fun _ _ _ h => h) (Or.inl ⟨by rfl, ?_⟩) (H7.out) ?_
          rotate_left
          · intro w9 hw9; obtain ⟨q1, q2, q3, q4, q5⟩ := hw9; go_simp; try with_reducible rfl
          try simp only [Act.put, List.setIfInBounds_toArray, List.set_cons_zero, List.set_cons_succ]
          refine RegL.take_w (i := 5) (oi := ⟨some 35, _, _, _, _, _⟩) (v := ?_) SM rfl (by decide) (by kernel_rfl) (by kernel_rfl) (by kernel_rfl) (fun _ _ _ h => h) (Or.inl ⟨by rfl, ?_⟩) (H7.out) ?_
          rotate_left
          · intro w9 hw9; obtain ⟨q1, q2, q3, q4, q5⟩ := hw9; go_simp; try with_reducible rfl
          try simp only [Act.put, List.setIfInBounds_toArray, List.set_cons_zero, List.set_cons_succ]
          refine RegL.take_w (i := 6) (oi := ⟨some 36, _, _, _, _, _⟩) (v := ?_) SM rfl (by decide) (by kernel_rfl) (by kernel_rfl) (by kernel_rfl) (fun _ _ _ h => h) (Or.inl ⟨by rfl, ?_⟩) (H7.out) ?_
          rotate_left
          · intro w9 hw9; obtain ⟨q1, q2, q3, q4, q5⟩ := hw9; go_simp; try with_reducible rfl
          try simp only [Act.put, List.setIfInBounds_toArray, List.set_cons_zero, List.set_cons_succ]
          refine RegL.take_w (i := 7) (oi := ⟨some 37, _, _, _, _, _⟩) (v := ?_) SM rfl (by decide) (by kernel_rfl) (by kernel_rfl) (by kernel_rfl) (fun _ _ _ h => h) (Or.inl ⟨by rfl, ?_⟩) (H7.out) ?_
          rotate_left
          · intro w9 hw9; obtain ⟨q1, q2, q3, q4, q5⟩ := hw9; go_simp; try with_reducible rfl
          try simp only [Act.put, List.setIfInBounds_toArray, List.set_cons_zero, List.set_cons_succ]
          refine RegL.take_w (i := 8) (oi := ⟨some 38, _, _, _, _, _⟩) (v := ?_) SM rfl (by decide) (by kernel_rfl) (by kernel_rfl) (by kernel_rfl) (fun _ _ _ h => h) (Or.inl ⟨by rfl, ?_⟩) (H7.out) ?_
          rotate_left
          · intro w9 hw9; obtain ⟨q1, q2, q3, q4, q5⟩ := hw9; go_simp; try with_reducible rfl
          try simp only [Act.put, List.setIfInBounds_toArray, List.set_cons_zero, List.set_cons_succ]
          refine RegL.take_w (i := 9) (oi := ⟨some 39, _, _, _, _, _⟩) (v := ?_) SM rfl (by decide) (by kernel_rfl) (by kernel_rfl) (by kernel_rfl) (fun _ _ _ h => h) (Or.inl ⟨by rfl, ?_⟩) (H7.out) ?_
          rotate_left
          · intro w9 hw9; obtain ⟨q1, q2, q3, q4, q5⟩ := hw9; go_simp; try with_reducible rfl
          try simp only [Act.put, List.setIfInBounds_toArray, List.set_cons_zero, List.set_cons_succ]
          refine RegL.take_w (i := 10) (oi := ⟨some 40, _, _, _, _, _⟩) (v := ?_) SM rfl (by decide) (by kernel_rfl) (by kernel_rfl) (by kernel_rfl) (fun _ _ _ h => h) (Or.inl ⟨by rfl, ?_⟩) (H7.out) ?_
          rotate_left
          · intro w9 hw9; obtain ⟨q1, q2, q3, q4, q5⟩ := hw9; go_simp; try with_reducible rfl
          try simp only [Act.put, List.setIfInBounds_toArray, List.set_cons_zero, List.set_cons_succ]
          refine RegL.take_w (i := 11) (oi := ⟨some 41, _, _, _, _, _⟩) (v := ?_) SM rfl (by decide) (by kernel_rfl) (by kernel_rfl) (by kernel_rfl) (fun _ _ _ h => h) (Or.inl ⟨by rfl, ?_⟩) (H7.out) ?_
          rotate_left
          · intro w9 hw9; obtain ⟨q1, q2, q3, q4, q5⟩ := hw9; go_simp; try with_reducible rfl
          try simp only [Act.put, List.setIfInBounds_toArray, List.set_cons_zero, List.set_cons_succ]
          refine RegL.take_w (i := 12) (oi := ⟨some 42, _, _, _, _, _⟩) (v := ?_) SM rfl (by decide) (by kernel_rfl) (by kernel_rfl) (by kernel_rfl) (fun _ _ _ h => h) (Or.inl ⟨by rfl, ?_⟩) (H7.out) ?_
          rotate_left
          · intro w9 hw9; obtain ⟨q1, q2, q3, q4, q5⟩ := hw9; go_simp; try with_reducible rfl
          try simp only [Act.put, List.setIfInBounds_toArray, List.set_cons_zero, List.set_cons_succ]
          refine RegL.take_w (i := 13) (oi := ⟨some 43, _, _, _, _, _⟩) (v := ?_) SM rfl (by decide) (by kernel_rfl) (by kernel_rfl) (by kernel_rfl) (fun _ _ _ h => h) (Or.inl ⟨by rfl, ?_⟩) (H7.out) ?_
          rotate_left
          · intro w9 hw9; obtain ⟨q1, q2, q3, q4, q5⟩ := hw9; go_simp; try with_reducible rfl
          try simp only [Act.put, List.setIfInBounds_toArray, List.set_cons_zero, List.set_cons_succ]
          refine RegL.take_w (i := 14) (oi := ⟨some 44, _, _, _, _, _⟩) (v := ?_) SM rfl (by decide) (by kernel_rfl) (by kernel_rfl) (by kernel_rfl) (fun _ _ _ h => h) (Or.inl ⟨by rfl, ?_⟩) (H7.out) ?_
          rotate_left
          · intro w9 hw9; obtain ⟨q1, q2, q3, q4, q5⟩ := hw9; go_simp; try with_reducible rfl
          try simp only [Act.put, List.setIfInBounds_toArray, List.set_cons_zero, List.set_cons_succ]
          refine RegL.take_w (i := 15) (oi := ⟨some 45, _, _, _, _, _⟩) (v := undef) SM rfl (by decide) (by kernel_rfl) (by kernel_rfl) (by kernel_rfl) (fun _ _ _ h => h) (Or.inr ⟨by rfl, rfl⟩) (H7.out) ?_
          try simp only [Act.put, List.setIfInBounds_toArray, List.set_cons_zero, List.set_cons_succ]
          refine RegL.take_w (i := 16) (oi := ⟨some 46, _, _, _, _, _⟩) (v := undef) SM rfl (by decide) (by kernel_rfl) (by kernel_rfl) (by kernel_rfl) (fun _ _ _ h => h) (Or.inr ⟨by rfl, rfl⟩) (H7.out) ?_
          try simp only [Act.put, List.setIfInBounds_toArray, List.set_cons_zero, List.set_cons_succ]
          refine RegL.take_w (i := 17) (oi := ⟨some 47, _, _, _, _, _⟩) (v := undef) SM rfl (by decide) (by kernel_rfl) (by kernel_rfl) (by kernel_rfl) (fun _ _ _ h => h) (Or.inr ⟨by rfl, rfl⟩) (H7.out) ?_
          try simp only [Act.put, List.setIfInBounds_toArray, List.set_cons_zero, List.set_cons_succ]
          refine RegL.take_w (i := 18) (oi := ⟨some 48, _, _, _, _, _⟩) (v := undef) SM rfl (by decide) (by kernel_rfl) (by kernel_rfl) (by kernel_rfl) (fun _ _ _ h => h) (Or.inr ⟨by rfl, rfl⟩) (H7.out) ?_
          try simp only [Act.put, List.setIfInBounds_toArray, List.set_cons_zero, List.set_cons_succ]
          refine RegL.take_w (i := 19) (oi := ⟨some 49, _, _, _, _, _⟩) (v := undef) SM rfl (by decide) (by kernel_rfl) (by kernel_rfl) (by kernel_rfl) (fun _ _ _ h => h) (Or.inr ⟨by rfl, rfl⟩) (H7.out) ?_
          try simp only [Act.put, List.setIfInBounds_toArray, List.set_cons_zero, List.set_cons_succ]
          refine RegL.take_w (i := 20) (oi := ⟨some 50, _, _, _, _, _⟩) (v := undef) SM rfl (by decide) (by kernel_rfl) (by kernel_rfl) (by kernel_rfl) (fun _ _ _ h => h) (Or.inr ⟨by rfl, rfl⟩) (H7.out) ?_
          try simp only [Act.put, List.setIfInBounds_toArray, List.set_cons_zero, List.set_cons_succ]
          refine RegL.take_w (i := 21) (oi := ⟨some 51, _, _, _, _, _⟩) (v := undef) SM rfl (by decide) (by kernel_rfl) (by kernel_rfl) (by kernel_rfl) (fun _ _ _ h => h) (Or.inr ⟨by rfl, rfl⟩) (H7.out) ?_
          try simp only [Act.put, List.setIfInBounds_toArray, List.set_cons_zero, List.set_cons_succ]
          refine RegL.take_w (i := 22) (oi := ⟨some 52, _, _, _, _, _⟩) (v := undef) SM rfl (by decide) (by kernel_rfl) (by kernel_rfl) (by kernel_rfl) (fun _ _ _ h => h) (Or.inr ⟨by rfl, rfl⟩) (H7.out) ?_
          try simp only [Act.put, List.setIfInBounds_toArray, List.set_cons_zero, List.set_cons_succ]
          refine RegL.take_w (i := 23) (oi := ⟨some 53, _, _, _, _, _⟩) (v := undef) SM rfl (by decide) (by kernel_rfl) (by kernel_rfl) (by kernel_rfl) (fun _ _ _ h => h) (Or.inr ⟨by rfl, rfl⟩) (H7.out) ?_
          try simp only [Act.put, List.setIfInBounds_toArray, List.set_cons_zero, List.set_cons_succ]
          refine RegL.take_w (i := 24) (oi := ⟨some 54, _, _, _, _, _⟩) (v := undef) SM rfl (by decide) (by kernel_rfl) (by kernel_rfl) (by kernel_rfl) (fun _ _ _ h => h) (Or.inr ⟨by rfl, rfl⟩) (H7.out) ?_
          try simp only [Act.put, List.setIfInBounds_toArray, List.set_cons_zero, List.set_cons_succ]
          refine RegL.take_w (i := 25) (oi := ⟨some 55, _, _, _, _, _⟩) (v := undef) SM rfl (by decide) (by kernel_rfl) (by kernel_rfl) (by kernel_rfl) (fun _ _ _ h => h) (Or.inr ⟨by rfl, rfl⟩) (H7.out) ?_
          try simp only [Act.put, List.setIfInBounds_toArray, List.set_cons_zero, List.set_cons_succ]
          refine RegL.take_w (i := 26) (oi := ⟨some 56, _, _, _, _, _⟩) (v := undef) SM rfl (by decide) (by kernel_rfl) (by kernel_rfl) (by kernel_rfl) (fun _ _ _ h => h) (Or.inr ⟨by rfl, rfl⟩) (H7.out) ?_
          try simp only [Act.put, List.setIfInBounds_toArray, List.set_cons_zero, List.set_cons_succ]
          refine RegL.take_w (i := 27) (oi := ⟨some 57, _, _, _, _, _⟩) (v := undef) SM rfl (by decide) (by kernel_rfl) (by kernel_rfl) (by kernel_rfl) (fun _ _ _ h => h) (Or.inr ⟨by rfl, rfl⟩) (H7.out) ?_
          try simp only [Act.put, List.setIfInBounds_toArray, List.set_cons_zero, List.set_cons_succ]
          refine RegL.take_w (i := 28) (oi := ⟨some 58, _, _, _, _, _⟩) (v := undef) SM rfl (by decide) (by kernel_rfl) (by kernel_rfl) (by kernel_rfl) (fun _ _ _ h => h) (Or.inr ⟨by rfl, rfl⟩) (H7.out) ?_
          try simp only [Act.put, List.setIfInBounds_toArray, List.set_cons_zero, List.set_cons_succ]
          refine RegL.take_w (i := 29) (oi := ⟨some 59, _, _, _, _, _⟩) (v := ?_) SM rfl (by decide) (by kernel_rfl) (by kernel_rfl) (by kernel_rfl) (fun _ _ _ h => h) (Or.inl ⟨by rfl, ?_⟩) (H7.out) ?_
          rotate_left
          · intro w9 hw9; obtain ⟨q1, q2, q3, q4, q5⟩ := hw9; go_simp; try with_reducible rfl
          try simp only [Act.put, List.setIfInBounds_toArray, List.set_cons_zero, List.set_cons_succ]
          refine RegL.done_of (by kernel_rfl) ?_ _
          go_wp2_with fail
          go_meet
          exact ⟨by rw [show decide (z.mine = x.yours ∧ z.yours = x.mine) = false by simp; omega], rfl⟩
      case rest =>
        obtain ⟨hs59, hwc⟩ := hcut
        subst hs59
        rw [hwc]
        clear hwc H7
        by_cases hb : z.mine = x.yours ∧ z.yours = x.mine
        · rw [decide_eq_true hb]
          have hfk := fnd_eq _ _ ss k HF.out z HX.out hb
          obtain ⟨Az, nz, cz, hzi⟩ : ∃ A n c, z.iv = .slice A n c := by obtain ⟨A, c, e⟩ := row_form (HV.out.of_ z (List.mem_of_getElem? HX.out)).1.row; exact ⟨A, _, c, e⟩
          have HR : Hid (insV x.yours x.mine ss = .slice Az nz cz) := by show _ = _; unfold insV; rw [hfk, HX.out]; exact hzi
          have z7 : wr.drew.cell? ⟨gp, 7 + j, none⟩ = some (.slice (some ⟨gt, 0, none⟩) n ct) := by rw [← HGT.out]; exact HST.out.drew.cellOf (g := gp) (cs := pC p) (t := 86) (by simp) (7 + j) (by rw [pC_t p HJ2.out, HTV.out])
          have z2 : wr.drew.cell? ⟨gt, k * 4 + 2, none⟩ = some (.slice Az nz cz) := by have := HE.out _ HST.out.drew 2 _ (by omega) (show (seC z)[2]? = some z.iv from rfl); rw [hzi] at this; exact this
          clear hb hfk hzi
          go_wp2_with fail
          go_ret
          rw [HR.out, HTV.out]
          exact ⟨rfl, HST.out.drew.re (fun x => by simp only [cnt_append, cnt_cons]; omega)⟩
        · rw [decide_eq_false hb]
          have HFS := Lib.hid (fnd_step _ _ ss k HF.out z HX.out hb)
          clear hb
          go_wp2_with fail
          go_roundg (n - (k + 1))
          case rel => exact ⟨k + 1, rfl, by have := HLT.out; omega, by go_num, HFS.out, HST.out.drew⟩
          case measure => have := HLT.out; have := HGK.out; omega
    · obtain rfl : k = n := by omega
      have k1 : ¬ (k : Int) < (k : Int) := by omega
      have hfk : fnd x.yours x.mine ss = ss.length := by have := fnd_le x.yours x.mine ss; have := HF.out; have := HNN.out; omega
      have HR : Hid (insV x.yours x.mine ss = NL) := by show _ = _; unfold insV; rw [hfk, List.getElem?_eq_none (Nat.le_refl _)]
      clear hfk
      go_wp2_with fail
      go_ret
      rw [HR.out, HTV.out]
      exact ⟨rfl, HST.out.re (fun x => by simp only [cnt_append, cnt_cons]; omega)⟩
end Go.Proofs.YtoeiaimoppmjdaaDoor.Lk
/- A side of a pair hears a frame that hands a body up. Printed by gen_phear2.py. -/
namespace Go.Proofs.YtoeiaimoppmjdaaDoor.Lk
open Go.RowKit Go.Proofs.YtoeiaimoppmjdaaDoorW.PrintWords Go.Proofs.YtoeiaimoppmjdaaDoor.Mem Go.Proofs.YtoeiaimoppmjdaaDoor.Wr Go.Proofs.YtoeiaimoppmjdaaDoor.Bytes Go.Proofs.YtoeiaimoppmjdaaDoor.App
set_option linter.unusedVariables false
set_option linter.unusedSimpArgs false
theorem info22 : (Tryd.prog.info? 22).map (fun i => (i.zero, i.size, i.bytes)) = some (some NL, 1, 24) := by kernel_rfl
/-- What was handed up, in the session with these lives. -/
def upsOf (m y : Nat) (ss : List Se) : List BI := match ss[fnd m y ss]? with | some x => x.ups | none => []
/-- One more body is handed up. -/
def upS (m y : Nat) (ss : List Se) (uv : Value) (b : BI) : List Se := match (nowS m y ss)[fnd m y ss]? with | some x => (nowS m y ss).set (fnd m y ss) { x with uv := uv, ups := x.ups ++ [b] } | none => nowS m y ss
theorem nowS_get (m y : Nat) (ss : List Se) (hy : y ≠ 0) : ∃ x, (nowS m y ss)[fnd m y ss]? = some x ∧ x.mine = m ∧ x.yours = y ∧ x.ups = upsOf m y ss ∧ x.ins = insOf m y ss := by
  unfold nowS
  rw [if_neg hy]
  rcases Nat.lt_or_ge (fnd m y ss) ss.length with q | q
  · rw [if_pos q]
    have e := List.getElem?_eq_getElem q
    obtain ⟨h1, h2⟩ := fnd_hit m y ss _ e
    exact ⟨_, e, h1, h2, by unfold upsOf; rw [e], by unfold insOf; rw [e]⟩
  · have e : fnd m y ss = ss.length := by have := fnd_le m y ss; omega
    rw [if_neg (by omega), e]
    exact ⟨newSe m y, by simp, rfl, rfl, by unfold upsOf; rw [e, List.getElem?_eq_none (Nat.le_refl _)]; rfl, by unfold insOf; rw [e, List.getElem?_eq_none (Nat.le_refl _)]; rfl⟩
set_option maxRecDepth 20000 in
set_option maxHeartbeats 6400000 in
theorem phear2_calls {w0 W : World} {R0 : List Ent} {gp g : Nat} {p : PS} {s : LS} {si sj : List Se} (i j : Nat) (hi : i < 2) (hj : j + i = 1) (F : Frm) (A : Option Addr) (c : Nat) (h0 : St w0 W (B gp (pC p) 86 :: (lkE g s ++ (sesE (p.t i) si ++ (sesE (p.t j) sj ++ R0))))) (hl : p.l i = pt g) (hV : LkV s) (hVi : SesV (p.t i) si) (hVj : SesV (p.t j) sj) (hr : RdR w0 (sesE (p.t i) si ++ (sesE (p.t j) sj ++ R0)) A F.body)
    (hfit : Fit F) (hby : Byt F.body) (hsrc : F.src = s.other) (hdst : F.dst = s.me) (hme : s.me = 5 * (i : Int)) (hlf : p.life i = s.life) (hgo : s.gone + s.items.length < 18446744073709551616) (hhe : s.heard + 1 < 18446744073709551616) (hh : handedP s F = true)
    (hni : si.length ≤ 900000) (hnj : sj.length ≤ 900000) (hup : (upsOf (p.life i) F.mine si).length ≤ 900000) (hin : (insOf F.mine (p.life i) sj).length ≤ 900000) (b0 : BI) (hb0 : (insOf F.mine (p.life i) sj)[(upsOf (p.life i) F.mine si).length]? = some b0) (hb1 : b0.2 = F.body) :
    Calls Tryd.prog 89 #[pt gp, .agg (frC F A c)] W fun e w' => e = .returned (.bool true) ∧ ∃ iv, LkV { hearP s F with iv := iv } ∧ ∃ tv uv bv, SesV tv (upS (p.life i) F.mine si uv (bv, F.body)) ∧
      St w0 w' (B gp (pC { p with t := upd p.t i tv }) 86 :: (lkE g { hearP s F with iv := iv } ++ (sesE tv (upS (p.life i) F.mine si uv (bv, F.body)) ++ (sesE (p.t j) sj ++ R0)))) := by
  obtain ⟨R, hR⟩ : ∃ R, R = sesE (p.t i) si ++ (sesE (p.t j) sj ++ R0) := ⟨_, rfl⟩
  have h : St w0 W (B gp (pC p) 86 :: (lkE g s ++ R)) := by rw [hR]; exact h0
  rw [← hR] at hr
  have HRR := Lib.hid hR
  have HJ := Lib.hid hj
  have HVI := Lib.hid hVi
  have HVJ := Lib.hid hVj
  have HNI := Lib.hid hni
  have HNJ := Lib.hid hnj
  have HUP := Lib.hid hup
  have HIN := Lib.hid hin
  have HB0 := Lib.hid hb0
  have HB1 := Lib.hid hb1
  clear h0 hR hj hVi hVj hni hnj hup hin hb0 hb1
  obtain ⟨W1, hW1⟩ : ∃ W1, W1 = W.alloc (.cells (frC F A c) 69) := ⟨_, rfl⟩
  obtain ⟨b3, hb3⟩ : ∃ b3, b3 = W.heap.size := ⟨_, rfl⟩
  have h1 := h.newB (frC F A c) 69
  rw [← hW1, ← hb3] at h1
  have hd5 : F.dst = 5 * (i : Int) := by rw [hdst, hme]
  have HI := Lib.hid hi
  have HL := Lib.hid hl
  have HV := Lib.hid hV
  have HR := Lib.hid hr
  have HFIT := Lib.hid hfit
  have HBY := Lib.hid hby
  have HSRC := Lib.hid hsrc
  have HDST := Lib.hid hdst
  have HLF := Lib.hid hlf
  have HGO := Lib.hid hgo
  have HHE := Lib.hid hhe
  have HH := Lib.hid hh
  have HD5 := Lib.hid hd5
  have H1 := Lib.hid h1
  have HW1 := Lib.hid hW1
  have HB3 := Lib.hid hb3
  clear h h1 hi hl hV hr hfit hby hsrc hdst hme hlf hgo hhe hh hd5 hW1 hb3
  go_enter Tryd.func89, Tryd.ntmps89
  go_upto_region 2 with fail
  rw [← HW1.out, ← HB3.out]
  go_cut [14] (fun s14 wx => s14 = .bool (decide (i = 1)) ∧ wx = W1)
  case first =>
    have x1 : W1.cell? ⟨b3, 1, none⟩ = some (.int .i64 (5 * (i : Int))) := by
      have q : W1.cell? ⟨b3, 1, none⟩ = some (.int .i64 F.dst) := H1.out.cellOf (g := b3) (cs := frC F A c) (t := 69) (by simp) 1 rfl
      rw [HD5.out] at q; exact q
    rcases (show i = 0 ∨ i = 1 by have := HI.out; omega) with rfl | rfl
    · have x1' : W1.cell? ⟨b3, 1, none⟩ = some (.int .i64 0) := x1
      clear x1
      go_wp2_with fail
      go_meet
      exact ⟨rfl, rfl⟩
    · have x1' : W1.cell? ⟨b3, 1, none⟩ = some (.int .i64 5) := x1
      clear x1
      go_wp2_with fail
      go_meet
      exact ⟨rfl, rfl⟩
  case rest =>
    obtain ⟨hs14, hwc⟩ := hcut
    subst hs14
    rw [hwc]
    clear hwc
    go_upto_if 14 with fail
    go_cut [5] (fun s5 wx => s5 = .int .i64 i ∧ wx = W1)
    case first =>
      rcases (show i = 0 ∨ i = 1 by have := HI.out; omega) with rfl | rfl
      · rw [show decide (0 = 1) = false from rfl]
        go_wp2_with fail
        go_meet
        exact ⟨rfl, rfl⟩
      · rw [show decide (1 = 1) = true from rfl]
        go_wp2_with fail
        go_meet
        exact ⟨rfl, rfl⟩
    case rest =>
      obtain ⟨hs5, hwc⟩ := hcut
      subst hs5
      rw [hwc]
      clear hwc
      have h2 := H1.out.newB (frC F A c) 69
      obtain ⟨W2, hW2⟩ : ∃ W2, W2 = W1.alloc (.cells (frC F A c) 69) := ⟨_, rfl⟩
      obtain ⟨b6, hb6⟩ : ∃ b6, b6 = W1.heap.size := ⟨_, rfl⟩
      rw [← hW2, ← hb6] at h2
      have x0 := H1.out.cellOf (g := b3) (cs := frC F A c) (t := 69) (by simp) 0 rfl
      have x1 := H1.out.cellOf (g := b3) (cs := frC F A c) (t := 69) (by simp) 1 rfl
      have x2 := H1.out.cellOf (g := b3) (cs := frC F A c) (t := 69) (by simp) 2 rfl
      have x3 := H1.out.cellOf (g := b3) (cs := frC F A c) (t := 69) (by simp) 3 rfl
      have x4 := H1.out.cellOf (g := b3) (cs := frC F A c) (t := 69) (by simp) 4 rfl
      have x5 := H1.out.cellOf (g := b3) (cs := frC F A c) (t := 69) (by simp) 5 rfl
      have x6 := H1.out.cellOf (g := b3) (cs := frC F A c) (t := 69) (by simp) 6 rfl
      have y6 := h2.cellOf (g := b3) (cs := frC F A c) (t := 69) (by simp) 6 rfl
      have CC := Lib.hid (copy_st F.body F.body.length A c h2 rfl (HR.out _ (B b6 (frC F A c) 69 :: B b3 (frC F A c) 69 :: B gp (pC p) 86 :: lkE g s) (h2.re (fun x => by simp only [cnt_append, cnt_cons]; omega))) (by have := HFIT.out.b; omega))
      have H2 := Lib.hid h2
      have HW2 := Lib.hid hW2
      have HB6 := Lib.hid hb6
      clear h2 hW2 hb6
      go_upto_region 5 with fail
      rw [← HW2.out, ← HB6.out]
      clear x0 x1 x2 x3 x4 x5 x6
      go_wp2_with fail
      refine CC.out.mono ?_; rintro e w3 ⟨A6, c6, rfl, hv6, h3⟩
      have z6 := h3.cellOf (g := b6) (cs := frC F A c) (t := 69) (by simp) 6 rfl
      have fz6 := h3.freeOf (g := b6) (cs := frC F A c) (t := 69) (by simp) 6
      obtain ⟨W4, hW4⟩ : ∃ W4, W4 = w3.setCell ⟨b6, 6, none⟩ (.slice A6 F.body.length c6) := ⟨_, rfl⟩
      have h4 : St w0 W4 (B b6 (frC F A6 c6) 69 :: (byR (.slice A6 F.body.length c6) F.body ++ (B b3 (frC F A c) 69 :: (B gp (pC p) 86 :: (lkE g s ++ R))))) := by
        rw [hW4]
        exact (h3.re (M := B b6 (frC F A c) 69 :: (byR (.slice A6 F.body.length c6) F.body ++ (B b3 (frC F A c) 69 :: (B gp (pC p) 86 :: (lkE g s ++ R))))) (fun x => by simp only [cnt_append, cnt_cons]; omega)).put (cs' := frC F A6 c6) 6 (.slice A6 F.body.length c6) rfl
      have x4 : W4.cell? ⟨gp, 4 + i, none⟩ = some (pt g) := h4.cellOf (g := gp) (cs := pC p) (t := 86) (by simp) (4 + i) (by rw [pC_l p HI.out]; exact congrArg some HL.out)
      have i1 : (0 : Int) ≤ (i : Int) := by omega
      have i2 : (i : Int) < 2 := by have := HI.out; omega
      have CL := Lib.hid (llife_calls (g := g) (s := s) (W := W4) (w0 := w0) (h4.re (M := lkE g s ++ []) (fun x => by simp only [cnt_append, cnt_cons, cnt_nil]; omega)))
      have H4 := Lib.hid h4
      have HV6 := Lib.hid hv6
      have HW4 := Lib.hid hW4
      clear CC hv6 h3 h4 hW4 y6
      go_upto_region 6 with fail
      rw [← HW4.out]
      clear z6 fz6
      go_wp2_with fail
      refine CL.out.mono ?_; rintro e w5 ⟨rfl, rfl⟩
      go_upto_region 7 with fail
      have CH : Hid (∀ (w9 : World) (M : List Ent), St w0 w9 (lkE g s ++ (byR (.slice A6 F.body.length c6) F.body ++ M)) → Calls Tryd.prog 54 #[pt g, .agg (frC F A6 c6)] w9 fun e w' => ∃ iv v, e = .returned (.agg #[v, .bool true, .bool (anewP s F), .bool (fineP s F)]) ∧ byV v F.body ∧ LkV { hearP s F with iv := iv } ∧ St w0 w' (lkE g { hearP s F with iv := iv } ++ (byR v F.body ++ (byR (.slice A6 F.body.length c6) F.body ++ M)))) := fun w9 M hM => by
        have ch := hear_calls F A6 c6 hM HV.out (rdR_held HV6.out (fun x => by rw [cnt_append]; exact Nat.le_add_right _ _)) HBY.out (by have := HFIT.out.b; omega) HGO.out HHE.out
        have eb : bodyP s F = F.body := by unfold bodyP; rw [HH.out]; rfl
        rw [HH.out, eb] at ch
        exact ch
      have hdr := H4.out.drew
      have HALL : Hid (W4.drew.cell? ⟨b6, 0, none⟩ = some (.int .i64 F.src) ∧ W4.drew.cell? ⟨b6, 1, none⟩ = some (.int .i64 F.dst) ∧ W4.drew.cell? ⟨b6, 2, none⟩ = some (.int .u64 (F.mine : Int)) ∧ W4.drew.cell? ⟨b6, 3, none⟩ = some (.int .u64 (F.yours : Int)) ∧ W4.drew.cell? ⟨b6, 4, none⟩ = some (.int .u64 (F.seq : Int)) ∧ W4.drew.cell? ⟨b6, 5, none⟩ = some (.int .u64 (F.ack : Int)) ∧ W4.drew.cell? ⟨b6, 6, none⟩ = some (.slice A6 F.body.length c6) ∧ W4.drew.cell? ⟨gp, 4 + i, none⟩ = some (pt g)) := ⟨hdr.cellOf (g := b6) (cs := frC F A6 c6) (t := 69) (by simp) 0 rfl, hdr.cellOf (g := b6) (cs := frC F A6 c6) (t := 69) (by simp) 1 rfl, hdr.cellOf (g := b6) (cs := frC F A6 c6) (t := 69) (by simp) 2 rfl, hdr.cellOf (g := b6) (cs := frC F A6 c6) (t := 69) (by simp) 3 rfl, hdr.cellOf (g := b6) (cs := frC F A6 c6) (t := 69) (by simp) 4 rfl, hdr.cellOf (g := b6) (cs := frC F A6 c6) (t := 69) (by simp) 5 rfl, hdr.cellOf (g := b6) (cs := frC F A6 c6) (t := 69) (by simp) 6 rfl, hdr.cellOf (g := gp) (cs := pC p) (t := 86) (by simp) (4 + i) (by rw [pC_l p HI.out]; exact congrArg some HL.out)⟩
      clear hdr x4
      go_cut [8] (fun s8 wx => ∃ bh iv Av cv, s8 = .pointer (some ⟨bh, 0, none⟩) ∧ byV (.slice Av F.body.length cv) F.body ∧ LkV { hearP s F with iv := iv } ∧ St w0 wx (B bh #[.slice Av F.body.length cv, .bool true, .bool (anewP s F), .bool (fineP s F)] 91 :: ((lkE g { hearP s F with iv := iv } ++ byR (.slice Av F.body.length cv) F.body) ++ (B b3 (frC F A c) 69 :: (B gp (pC p) 86 :: R)))))
      case first =>
        have SM : ∀ (bb0 : Bool) (w9 : World), (fun (_ : Bool) (w9 : World) => w9.cell? ⟨b6, 0, none⟩ = some (.int .i64 F.src) ∧ w9.cell? ⟨b6, 1, none⟩ = some (.int .i64 F.dst) ∧ w9.cell? ⟨b6, 2, none⟩ = some (.int .u64 (F.mine : Int)) ∧ w9.cell? ⟨b6, 3, none⟩ = some (.int .u64 (F.yours : Int)) ∧ w9.cell? ⟨b6, 4, none⟩ = some (.int .u64 (F.seq : Int)) ∧ w9.cell? ⟨b6, 5, none⟩ = some (.int .u64 (F.ack : Int)) ∧ w9.cell? ⟨b6, 6, none⟩ = some (.slice A6 F.body.length c6) ∧ w9.cell? ⟨gp, 4 + i, none⟩ = some (pt g)) bb0 w9 → (fun (_ : Bool) (w9 : World) => w9.cell? ⟨b6, 0, none⟩ = some (.int .i64 F.src) ∧ w9.cell? ⟨b6, 1, none⟩ = some (.int .i64 F.dst) ∧ w9.cell? ⟨b6, 2, none⟩ = some (.int .u64 (F.mine : Int)) ∧ w9.cell? ⟨b6, 3, none⟩ = some (.int .u64 (F.yours : Int)) ∧ w9.cell? ⟨b6, 4, none⟩ = some (.int .u64 (F.seq : Int)) ∧ w9.cell? ⟨b6, 5, none⟩ = some (.int .u64 (F.ack : Int)) ∧ w9.cell? ⟨b6, 6, none⟩ = some (.slice A6 F.body.length c6) ∧ w9.cell? ⟨gp, 4 + i, none⟩ = some (pt g)) true w9 := fun _ _ h => h
        refine RegL.begin_of (k := 99) (S := fun (_ : Bool) (w9 : World) => w9.cell? ⟨b6, 0, none⟩ = some (.int .i64 F.src) ∧ w9.cell? ⟨b6, 1, none⟩ = some (.int .i64 F.dst) ∧ w9.cell? ⟨b6, 2, none⟩ = some (.int .u64 (F.mine : Int)) ∧ w9.cell? ⟨b6, 3, none⟩ = some (.int .u64 (F.yours : Int)) ∧ w9.cell? ⟨b6, 4, none⟩ = some (.int .u64 (F.seq : Int)) ∧ w9.cell? ⟨b6, 5, none⟩ = some (.int .u64 (F.ack : Int)) ∧ w9.cell? ⟨b6, 6, none⟩ = some (.slice A6 F.body.length c6) ∧ w9.cell? ⟨gp, 4 + i, none⟩ = some (pt g)) (by kernel_rfl) ?_
        refine RegL.take_w (i := 0) (oi := ⟨some 27, _, _, _, _, _⟩) (v := ?_) SM rfl (by decide) (by kernel_rfl) (by kernel_rfl) (by kernel_rfl) (fun _ _ _ h => h) (Or.inl ⟨by rfl, ?_⟩) (HALL.out) ?_
        rotate_left
        · intro w9 hw9; obtain ⟨q1, q2, q3, q4, q5, q6, q7, q8⟩ := hw9; go_simp; try with_reducible rfl
        try simp only [Act.put, List.setIfInBounds_toArray, List.set_cons_zero, List.set_cons_succ]
        refine RegL.take_w (i := 1) (oi := ⟨some 28, _, _, _, _, _⟩) (v := ?_) SM rfl (by decide) (by kernel_rfl) (by kernel_rfl) (by kernel_rfl) (fun _ _ _ h => h) (Or.inl ⟨by rfl, ?_⟩) (HALL.out) ?_
        rotate_left
        · intro w9 hw9; obtain ⟨q1, q2, q3, q4, q5, q6, q7, q8⟩ := hw9; go_simp; try with_reducible rfl
        try simp only [Act.put, List.setIfInBounds_toArray, List.set_cons_zero, List.set_cons_succ]
        refine RegL.take_w (i := 2) (oi := ⟨some 29, _, _, _, _, _⟩) (v := ?_) SM rfl (by decide) (by kernel_rfl) (by kernel_rfl) (by kernel_rfl) (fun _ _ _ h => h) (Or.inl ⟨by rfl, ?_⟩) (HALL.out) ?_
        rotate_left
        · intro w9 hw9; obtain ⟨q1, q2, q3, q4, q5, q6, q7, q8⟩ := hw9; go_simp; try with_reducible rfl
        try simp only [Act.put, List.setIfInBounds_toArray, List.set_cons_zero, List.set_cons_succ]
        refine RegL.take_w (i := 3) (oi := ⟨some 30, _, _, _, _, _⟩) (v := ?_) SM rfl (by decide) (by kernel_rfl) (by kernel_rfl) (by kernel_rfl) (fun _ _ _ h => h) (Or.inl ⟨by rfl, ?_⟩) (HALL.out) ?_
        rotate_left
        · intro w9 hw9; obtain ⟨q1, q2, q3, q4, q5, q6, q7, q8⟩ := hw9; go_simp; try with_reducible rfl
        try simp only [Act.put, List.setIfInBounds_toArray, List.set_cons_zero, List.set_cons_succ]
        refine RegL.take_w (i := 4) (oi := ⟨some 31, _, _, _, _, _⟩) (v := ?_) SM rfl (by decide) (by kernel_rfl) (by kernel_rfl) (by kernel_rfl) (fun _ _ _ h => h) (Or.inl ⟨by rfl, ?_⟩) (HALL.out) ?_
        rotate_left
        · intro w9 hw9; obtain ⟨q1, q2, q3, q4, q5, q6, q7, q8⟩ := hw9; go_simp; try with_reducible rfl
        try simp only [Act.put, List.setIfInBounds_toArray, List.set_cons_zero, List.set_cons_succ]
        refine RegL.take_w (i := 5) (oi := ⟨some 32, _, _, _, _, _⟩) (v := ?_) SM rfl (by decide) (by kernel_rfl) (by kernel_rfl) (by kernel_rfl) (fun _ _ _ h => h) (Or.inl ⟨by rfl, ?_⟩) (HALL.out) ?_
        rotate_left
        · intro w9 hw9; obtain ⟨q1, q2, q3, q4, q5, q6, q7, q8⟩ := hw9; go_simp; try with_reducible rfl
        try simp only [Act.put, List.setIfInBounds_toArray, List.set_cons_zero, List.set_cons_succ]
        refine RegL.take_w (i := 6) (oi := ⟨some 33, _, _, _, _, _⟩) (v := .agg #[(.int .i64 F.src), (.int .i64 F.dst), (.int .u64 (F.mine : Int)), (.int .u64 (F.yours : Int)), (.int .u64 (F.seq : Int)), (.int .u64 (F.ack : Int)), (.slice A6 F.body.length c6)]) SM rfl (by decide) (by kernel_rfl) (by kernel_rfl) (by kernel_rfl) (fun _ _ _ h => h) (yieldsIf_load_mid (by rfl) 69 (.tmp 6) rfl b6 0 rfl [(.int .i64 F.src), (.int .i64 F.dst), (.int .u64 (F.mine : Int)), (.int .u64 (F.yours : Int)), (.int .u64 (F.seq : Int)), (.int .u64 (F.ack : Int)), (.slice A6 F.body.length c6)] _ (fun w9 hw9 => by obtain ⟨q1, q2, q3, q4, q5, q6, q7, _⟩ := hw9; exact range7 q1 q2 q3 q4 q5 q6 q7) Tryd.underlying69 rfl infoF) (HALL.out) ?_
        try simp only [Act.put, List.setIfInBounds_toArray, List.set_cons_zero, List.set_cons_succ]
        refine RegL.all_of (rs := [7, 8]) (by kernel_rfl) (by simp) (fun jj hjj => ?_)
        have MK : ∀ (wx : World) (L : List Ent), St w0 wx L → B b6 (frC F A6 c6) 69 ∈ L → B gp (pC p) 86 ∈ L → wx.cell? ⟨b6, 0, none⟩ = some (.int .i64 F.src) ∧ wx.cell? ⟨b6, 1, none⟩ = some (.int .i64 F.dst) ∧ wx.cell? ⟨b6, 2, none⟩ = some (.int .u64 (F.mine : Int)) ∧ wx.cell? ⟨b6, 3, none⟩ = some (.int .u64 (F.yours : Int)) ∧ wx.cell? ⟨b6, 4, none⟩ = some (.int .u64 (F.seq : Int)) ∧ wx.cell? ⟨b6, 5, none⟩ = some (.int .u64 (F.ack : Int)) ∧ wx.cell? ⟨b6, 6, none⟩ = some (.slice A6 F.body.length c6) ∧ wx.cell? ⟨gp, 4 + i, none⟩ = some (pt g) := fun wx L h hm hn => ⟨h.cellOf hm 0 rfl, h.cellOf hm 1 rfl, h.cellOf hm 2 rfl, h.cellOf hm 3 rfl, h.cellOf hm 4 rfl, h.cellOf hm 5 rfl, h.cellOf hm 6 rfl, h.cellOf hn (4 + i) (by rw [pC_l p HI.out]; exact congrArg some HL.out)⟩
        rcases (show jj = 7 ∨ jj = 8 by simpa using hjj) with rfl | rfl
        · refine wpOp_step (o := ⟨some 34, _, _, _, _, _⟩) rfl (fun K' hK => ?_)
          go_simp
          go_at_call 54
          (with_reducible refine (CH.out W4.drew (B b6 (frC F A6 c6) 69 :: (B b3 (frC F A c) 69 :: (B gp (pC p) 86 :: R))) (H4.out.drew.re (fun x => by simp only [cnt_append, cnt_cons]; omega))).mono ?_)
          rintro e w9 ⟨iv, v, rfl, hv9, hV9, h9⟩
          obtain ⟨Av, cv, rfl⟩ := byV_form hv9
          refine hK _ _ ⟨MK _ _ h9 (by simp) (by simp), ?_⟩
          clear hK K'
          refine RegL.step_of (i := 8) (o := ⟨some 8, _, _, _, _, _⟩) (by kernel_rfl) rfl (fun K' hK => ?_)
          go_simp
          have hb := h9.newB #[NL, .bool false, .bool false, .bool false] 91
          refine hK _ _ (MK _ _ hb (by simp) (by simp)) ?_
          clear hK K'
          try simp only [Act.put, List.setIfInBounds_toArray, List.set_cons_zero, List.set_cons_succ]
          refine RegL.step_of (i := 9) (o := ⟨none, _, _, _, _, _⟩) (by kernel_rfl) rfl (fun K' hK => ?_)
          go_simp
          have hc := h9.newB #[.slice Av F.body.length cv, .bool true, .bool (anewP s F), .bool (fineP s F)] 91
          refine hK _ _ (MK _ _ hc (by simp) (by simp)) ?_
          clear hK K'
          refine RegL.done_of (by kernel_rfl) ?_ _
          go_wp2_with fail
          go_meet
          exact ⟨w9.heap.size, iv, Av, cv, rfl, hv9, hV9, hc.re (fun x => by simp only [cnt_append, cnt_cons]; omega)⟩
        · refine wpOp_step (o := ⟨some 8, _, _, _, _, _⟩) rfl (fun K' hK => ?_)
          go_simp
          have hb : St w0 ((W4.alloc (.cells #[NL, .bool false, .bool false, .bool false] 91)).drew) (B W4.heap.size #[NL, .bool false, .bool false, .bool false] 91 :: _) := H4.out.drew.newB #[NL, .bool false, .bool false, .bool false] 91
          refine hK _ _ ⟨MK _ _ hb (by simp) (by simp), ?_⟩
          clear hK K'
          try simp only [Act.put, List.setIfInBounds_toArray, List.set_cons_zero, List.set_cons_succ]
          obtain ⟨bh, hbh⟩ : ∃ bh, bh = W4.heap.size := ⟨_, rfl⟩
          rw [← hbh] at hb
          have HBH := Lib.hid hbh
          refine RegL.step_of (i := 7) (o := ⟨some 34, _, _, _, _, _⟩) (by kernel_rfl) rfl (fun K' hK => ?_)
          go_simp
          go_at_call 54
          (with_reducible refine (CH.out ((W4.alloc (.cells #[NL, .bool false, .bool false, .bool false] 91)).drew) (B bh #[NL, .bool false, .bool false, .bool false] 91 :: (B b6 (frC F A6 c6) 69 :: (B b3 (frC F A c) 69 :: (B gp (pC p) 86 :: R)))) (hb.re (fun x => by simp only [cnt_append, cnt_cons]; omega))).mono ?_)
          rintro e w9 ⟨iv, v, rfl, hv9, hV9, h9⟩
          obtain ⟨Av, cv, rfl⟩ := byV_form hv9
          refine hK _ _ (MK _ _ h9 (by simp) (by simp)) ?_
          clear hK K' hb
          try simp only [Act.put, List.setIfInBounds_toArray, List.set_cons_zero, List.set_cons_succ]
          have ebh := HBH.out
          subst ebh
          have y0 : w9.cell? ⟨W4.heap.size, 0, none⟩ = some NL := h9.cellOf (g := W4.heap.size) (cs := #[NL, .bool false, .bool false, .bool false]) (t := 91) (by simp) 0 rfl
          have y1 : w9.cell? ⟨W4.heap.size, 1, none⟩ = some (.bool false) := h9.cellOf (g := W4.heap.size) (cs := #[NL, .bool false, .bool false, .bool false]) (t := 91) (by simp) 1 rfl
          have y2 : w9.cell? ⟨W4.heap.size, 2, none⟩ = some (.bool false) := h9.cellOf (g := W4.heap.size) (cs := #[NL, .bool false, .bool false, .bool false]) (t := 91) (by simp) 2 rfl
          have y3 : w9.cell? ⟨W4.heap.size, 3, none⟩ = some (.bool false) := h9.cellOf (g := W4.heap.size) (cs := #[NL, .bool false, .bool false, .bool false]) (t := 91) (by simp) 3 rfl
          have fy0 := h9.freeOf (g := W4.heap.size) (cs := #[NL, .bool false, .bool false, .bool false]) (t := 91) (by simp) 0
          have fy1 := h9.freeOf (g := W4.heap.size) (cs := #[NL, .bool false, .bool false, .bool false]) (t := 91) (by simp) 1
          have fy2 := h9.freeOf (g := W4.heap.size) (cs := #[NL, .bool false, .bool false, .bool false]) (t := 91) (by simp) 2
          have fy3 := h9.freeOf (g := W4.heap.size) (cs := #[NL, .bool false, .bool false, .bool false]) (t := 91) (by simp) 3
          refine RegL.step_of (i := 9) (o := ⟨none, _, _, _, _, _⟩) (by kernel_rfl) rfl (fun K' hK => ?_)
          go_simp
          have hc := ((((h9.re (M := B W4.heap.size #[NL, .bool false, .bool false, .bool false] 91 :: ((lkE g { hearP s F with iv := iv } ++ byR (.slice Av F.body.length cv) F.body) ++ (B b6 (frC F A6 c6) 69 :: (B b3 (frC F A c) 69 :: (B gp (pC p) 86 :: R))))) (fun x => by simp only [cnt_append, cnt_cons]; omega)).put (cs' := #[.slice Av F.body.length cv, .bool false, .bool false, .bool false]) 0 (.slice Av F.body.length cv) rfl).put (cs' := #[.slice Av F.body.length cv, .bool true, .bool false, .bool false]) 1 (.bool true) rfl).put (cs' := #[.slice Av F.body.length cv, .bool true, .bool (anewP s F), .bool false]) 2 (.bool (anewP s F)) rfl).put (cs' := #[.slice Av F.body.length cv, .bool true, .bool (anewP s F), .bool (fineP s F)]) 3 (.bool (fineP s F)) rfl
          refine hK _ _ (MK _ _ hc (by simp) (by simp)) ?_
          clear hK K'
          refine RegL.done_of (by kernel_rfl) ?_ _
          go_wp2_with fail
          go_meet
          exact ⟨W4.heap.size, iv, Av, cv, rfl, hv9, hV9, hc.re (fun x => by simp only [cnt_append, cnt_cons]; omega)⟩
      case rest =>
        obtain ⟨bh, iv, Av, cv, hs8, hv9, hV9, h9⟩ := hcut
        subst hs8
        have HV9 := Lib.hid hV9
        have HB9 := Lib.hid hv9
        have hba : badP s F = decide (F.mine < s.known) := by
          have e1 : fitB F = true := (fit_iff F).2 HFIT.out
          unfold badP
          rw [e1, HSRC.out, HDST.out]
          simp
        have han : anewP s F = decide (s.known < F.mine) := by
          unfold anewP; rw [hba]
          by_cases q : s.known < F.mine
          · have q2 : ¬ F.mine < s.known := by omega
            simp [q, q2]
          · simp [q]
        have hfi : fineP s F = (decide (s.known ≤ F.mine) && decide (F.yours = s.life)) := by
          unfold fineP; rw [hba]
          by_cases q : s.known ≤ F.mine
          · have q2 : ¬ F.mine < s.known := by omega
            simp [q, q2]
          · have q2 : F.mine < s.known := by omega
            simp [q, q2]
        have hym : F.yours = s.life ∧ s.known ≤ F.mine := by
          have q := HH.out
          unfold handedP at q
          rw [hba] at q
          simp at q
          exact ⟨q.1.2, q.1.1⟩
        have HYM := Lib.hid hym
        clear hym
        have HAN := Lib.hid han
        have HFI := Lib.hid hfi
        obtain ⟨wd, hwd⟩ : ∃ wd, wd = wc := ⟨_, rfl⟩
        rw [← hwd] at h9 ⊢
        have HZ := Lib.hid h9
        clear h9 hV9 hv9 hba han hfi hwd
        go_upto_region 8 with fail
        go_cut [70] (fun s70 wx => s70 = .bool false ∧ wx = wd.drew)
        case first =>
          have c1 : wd.drew.cell? ⟨b3, 2, none⟩ = some (.int .u64 (F.mine : Int)) := HZ.out.drew.cellOf (g := b3) (cs := frC F A c) (t := 69) (by simp) 2 rfl
          have c2 : wd.drew.cell? ⟨b3, 3, none⟩ = some (.int .u64 (F.yours : Int)) := HZ.out.drew.cellOf (g := b3) (cs := frC F A c) (t := 69) (by simp) 3 rfl
          have c3 : wd.drew.cell? ⟨bh, 1, none⟩ = some (.bool true) := HZ.out.drew.cellOf (g := bh) (cs := #[.slice Av F.body.length cv, .bool true, .bool (anewP s F), .bool (fineP s F)]) (t := 91) (by simp) 1 rfl
          have c4 : wd.drew.cell? ⟨bh, 2, none⟩ = some (.bool (anewP s F)) := HZ.out.drew.cellOf (g := bh) (cs := #[.slice Av F.body.length cv, .bool true, .bool (anewP s F), .bool (fineP s F)]) (t := 91) (by simp) 2 rfl
          have c5 : wd.drew.cell? ⟨bh, 3, none⟩ = some (.bool (fineP s F)) := HZ.out.drew.cellOf (g := bh) (cs := #[.slice Av F.body.length cv, .bool true, .bool (anewP s F), .bool (fineP s F)]) (t := 91) (by simp) 3 rfl
          have c6 : wd.drew.cell? ⟨gp, 2 + i, none⟩ = some (.int .u64 (p.life i : Int)) := HZ.out.drew.cellOf (g := gp) (cs := pC p) (t := 86) (by simp) (2 + i) (pC_life p HI.out)
          rw [HLF.out] at c6
          have i1 : (0 : Int) ≤ (i : Int) := by omega
          have i2 : (i : Int) < 2 := by have := HI.out; omega
          rw [HAN.out] at c4
          rw [HFI.out] at c5
          have hF1 : F.yours = s.life ∧ s.known ≤ F.mine := HYM.out
          rcases (show (F.mine = s.known ∧ F.yours = s.life) ∨ (s.known < F.mine ∧ F.yours = s.life) by omega) with ⟨q, q'⟩ | ⟨q, q'⟩
          · -- eq true
            have a1 : decide (s.known < F.mine) = false := by simp; omega
            have a2 : decide (s.known ≤ F.mine) = true := by simp; omega
            have a3 : decide ((s.known : Int) < (F.mine : Int)) = false := by simp; omega
            have a4 : decide ((s.known : Int) ≤ (F.mine : Int)) = true := by simp; omega
            have a5 : ((F.yours : Int) == (s.life : Int)) = true := by simp; omega
            have a6 : decide (F.yours = s.life) = true := by simp; omega
            have a7 : (F.yours == s.life) = true := by simp; omega
            rw [a1] at c4; rw [a2, a6] at c5
            rw [show (true && true) = true from rfl] at c5
            have H8 : Hid (wd.drew.cell? ⟨b3, 2, none⟩ = some (.int .u64 (F.mine : Int)) ∧ wd.drew.cell? ⟨b3, 3, none⟩ = some (.int .u64 (F.yours : Int)) ∧ wd.drew.cell? ⟨bh, 1, none⟩ = some (.bool true) ∧ wd.drew.cell? ⟨bh, 2, none⟩ = some (.bool false) ∧ wd.drew.cell? ⟨bh, 3, none⟩ = some (.bool true) ∧ wd.drew.cell? ⟨gp, 2 + i, none⟩ = some (.int .u64 (s.life : Int))) := ⟨c1, c2, c3, c4, c5, c6⟩
            clear c1 c2 c3 c4 c5 c6 HAN HFI HZ
            have SM : ∀ (bb0 : Bool) (w9 : World), (fun (_ : Bool) (w9 : World) => w9.cell? ⟨b3, 2, none⟩ = some (.int .u64 (F.mine : Int)) ∧ w9.cell? ⟨b3, 3, none⟩ = some (.int .u64 (F.yours : Int)) ∧ w9.cell? ⟨bh, 1, none⟩ = some (.bool true) ∧ w9.cell? ⟨bh, 2, none⟩ = some (.bool false) ∧ w9.cell? ⟨bh, 3, none⟩ = some (.bool true) ∧ w9.cell? ⟨gp, 2 + i, none⟩ = some (.int .u64 (s.life : Int))) bb0 w9 → (fun (_ : Bool) (w9 : World) => w9.cell? ⟨b3, 2, none⟩ = some (.int .u64 (F.mine : Int)) ∧ w9.cell? ⟨b3, 3, none⟩ = some (.int .u64 (F.yours : Int)) ∧ w9.cell? ⟨bh, 1, none⟩ = some (.bool true) ∧ w9.cell? ⟨bh, 2, none⟩ = some (.bool false) ∧ w9.cell? ⟨bh, 3, none⟩ = some (.bool true) ∧ w9.cell? ⟨gp, 2 + i, none⟩ = some (.int .u64 (s.life : Int))) true w9 := fun _ _ h => h
            refine RegL.begin_of (k := 99) (S := fun (_ : Bool) (w9 : World) => w9.cell? ⟨b3, 2, none⟩ = some (.int .u64 (F.mine : Int)) ∧ w9.cell? ⟨b3, 3, none⟩ = some (.int .u64 (F.yours : Int)) ∧ w9.cell? ⟨bh, 1, none⟩ = some (.bool true) ∧ w9.cell? ⟨bh, 2, none⟩ = some (.bool false) ∧ w9.cell? ⟨bh, 3, none⟩ = some (.bool true) ∧ w9.cell? ⟨gp, 2 + i, none⟩ = some (.int .u64 (s.life : Int))) (by kernel_rfl) ?_
            refine RegL.take_w (i := 0) (oi := ⟨some 35, _, _, _, _, _⟩) (v := ?_) SM rfl (by decide) (by kernel_rfl) (by kernel_rfl) (by kernel_rfl) (fun _ _ _ h => h) (Or.inl ⟨by rfl, ?_⟩) (H8.out) ?_
            rotate_left
            · intro w9 hw9; obtain ⟨q1, q2, q3, q4, q5, q6⟩ := hw9; go_simp; try with_reducible rfl
            try simp only [Act.put, List.setIfInBounds_toArray, List.set_cons_zero, List.set_cons_succ]
            refine RegL.take_w (i := 1) (oi := ⟨some 36, _, _, _, _, _⟩) (v := ?_) SM rfl (by decide) (by kernel_rfl) (by kernel_rfl) (by kernel_rfl) (fun _ _ _ h => h) (Or.inl ⟨by rfl, ?_⟩) (H8.out) ?_
            rotate_left
            · intro w9 hw9; obtain ⟨q1, q2, q3, q4, q5, q6⟩ := hw9; go_simp; try with_reducible rfl
            try simp only [Act.put, List.setIfInBounds_toArray, List.set_cons_zero, List.set_cons_succ]
            refine RegL.take_w (i := 2) (oi := ⟨some 37, _, _, _, _, _⟩) (v := ?_) SM rfl (by decide) (by kernel_rfl) (by kernel_rfl) (by kernel_rfl) (fun _ _ _ h => h) (Or.inl ⟨by rfl, ?_⟩) (H8.out) ?_
            rotate_left
            · intro w9 hw9; obtain ⟨q1, q2, q3, q4, q5, q6⟩ := hw9; go_simp; try with_reducible rfl
            try simp only [Act.put, List.setIfInBounds_toArray, List.set_cons_zero, List.set_cons_succ]
            refine RegL.take_w (i := 3) (oi := ⟨some 38, _, _, _, _, _⟩) (v := ?_) SM rfl (by decide) (by kernel_rfl) (by kernel_rfl) (by kernel_rfl) (fun _ _ _ h => h) (Or.inl ⟨by rfl, ?_⟩) (H8.out) ?_
            rotate_left
            · intro w9 hw9; obtain ⟨q1, q2, q3, q4, q5, q6⟩ := hw9; go_simp; try with_reducible rfl
            try simp only [Act.put, List.setIfInBounds_toArray, List.set_cons_zero, List.set_cons_succ]
            refine RegL.take_w (i := 4) (oi := ⟨some 39, _, _, _, _, _⟩) (v := ?_) SM rfl (by decide) (by kernel_rfl) (by kernel_rfl) (by kernel_rfl) (fun _ _ _ h => h) (Or.inl ⟨by rfl, ?_⟩) (H8.out) ?_
            rotate_left
            · intro w9 hw9; obtain ⟨q1, q2, q3, q4, q5, q6⟩ := hw9; go_simp; try with_reducible rfl
            try simp only [Act.put, List.setIfInBounds_toArray, List.set_cons_zero, List.set_cons_succ]
            refine RegL.take_w (i := 5) (oi := ⟨some 40, _, _, _, _, _⟩) (v := ?_) SM rfl (by decide) (by kernel_rfl) (by kernel_rfl) (by kernel_rfl) (fun _ _ _ h => h) (Or.inl ⟨by rfl, ?_⟩) (H8.out) ?_
            rotate_left
            · intro w9 hw9; obtain ⟨q1, q2, q3, q4, q5, q6⟩ := hw9; go_simp; try with_reducible rfl
            try simp only [Act.put, List.setIfInBounds_toArray, List.set_cons_zero, List.set_cons_succ]
            refine RegL.take_w (i := 6) (oi := ⟨some 41, _, _, _, _, _⟩) (v := ?_) SM rfl (by decide) (by kernel_rfl) (by kernel_rfl) (by kernel_rfl) (fun _ _ _ h => h) (Or.inl ⟨by rfl, ?_⟩) (H8.out) ?_
            rotate_left
            · intro w9 hw9; obtain ⟨q1, q2, q3, q4, q5, q6⟩ := hw9; go_simp; try with_reducible rfl
            try simp only [Act.put, List.setIfInBounds_toArray, List.set_cons_zero, List.set_cons_succ]
            refine RegL.take_w (i := 7) (oi := ⟨some 42, _, _, _, _, _⟩) (v := ?_) SM rfl (by decide) (by kernel_rfl) (by kernel_rfl) (by kernel_rfl) (fun _ _ _ h => h) (Or.inl ⟨by rfl, ?_⟩) (H8.out) ?_
            rotate_left
            · intro w9 hw9; obtain ⟨q1, q2, q3, q4, q5, q6⟩ := hw9; go_simp; try with_reducible rfl
            try simp only [Act.put, List.setIfInBounds_toArray, List.set_cons_zero, List.set_cons_succ]
            refine RegL.take_w (i := 8) (oi := ⟨some 43, _, _, _, _, _⟩) (v := ?_) SM rfl (by decide) (by kernel_rfl) (by kernel_rfl) (by kernel_rfl) (fun _ _ _ h => h) (Or.inl ⟨by rfl, ?_⟩) (H8.out) ?_
            rotate_left
            · intro w9 hw9; obtain ⟨q1, q2, q3, q4, q5, q6⟩ := hw9; go_simp; try with_reducible rfl
            try simp only [Act.put, List.setIfInBounds_toArray, List.set_cons_zero, List.set_cons_succ]
            refine RegL.take_w (i := 9) (oi := ⟨some 44, _, _, _, _, _⟩) (v := ?_) SM rfl (by decide) (by kernel_rfl) (by kernel_rfl) (by kernel_rfl) (fun _ _ _ h => h) (Or.inl ⟨by rfl, ?_⟩) (H8.out) ?_
            rotate_left
            · intro w9 hw9; obtain ⟨q1, q2, q3, q4, q5, q6⟩ := hw9; go_simp; try with_reducible rfl
            try simp only [Act.put, List.setIfInBounds_toArray, List.set_cons_zero, List.set_cons_succ]
            refine RegL.take_w (i := 10) (oi := ⟨some 45, _, _, _, _, _⟩) (v := ?_) SM rfl (by decide) (by kernel_rfl) (by kernel_rfl) (by kernel_rfl) (fun _ _ _ h => h) (Or.inl ⟨by rfl, ?_⟩) (H8.out) ?_
            rotate_left
            · intro w9 hw9; obtain ⟨q1, q2, q3, q4, q5, q6⟩ := hw9; go_simp; try with_reducible rfl
            try simp only [Act.put, List.setIfInBounds_toArray, List.set_cons_zero, List.set_cons_succ]
            refine RegL.take_w (i := 11) (oi := ⟨some 46, _, _, _, _, _⟩) (v := ?_) SM rfl (by decide) (by kernel_rfl) (by kernel_rfl) (by kernel_rfl) (fun _ _ _ h => h) (Or.inl ⟨by rfl, ?_⟩) (H8.out) ?_
            rotate_left
            · intro w9 hw9; obtain ⟨q1, q2, q3, q4, q5, q6⟩ := hw9; go_simp; try with_reducible rfl
            try simp only [Act.put, List.setIfInBounds_toArray, List.set_cons_zero, List.set_cons_succ]
            refine RegL.take_w (i := 12) (oi := ⟨some 47, _, _, _, _, _⟩) (v := ?_) SM rfl (by decide) (by kernel_rfl) (by kernel_rfl) (by kernel_rfl) (fun _ _ _ h => h) (Or.inl ⟨by rfl, ?_⟩) (H8.out) ?_
            rotate_left
            · intro w9 hw9; obtain ⟨q1, q2, q3, q4, q5, q6⟩ := hw9; go_simp; try with_reducible rfl
            try simp only [Act.put, List.setIfInBounds_toArray, List.set_cons_zero, List.set_cons_succ]
            refine RegL.take_w (i := 13) (oi := ⟨some 48, _, _, _, _, _⟩) (v := ?_) SM rfl (by decide) (by kernel_rfl) (by kernel_rfl) (by kernel_rfl) (fun _ _ _ h => h) (Or.inl ⟨by rfl, ?_⟩) (H8.out) ?_
            rotate_left
            · intro w9 hw9; obtain ⟨q1, q2, q3, q4, q5, q6⟩ := hw9; go_simp; try with_reducible rfl
            try simp only [Act.put, List.setIfInBounds_toArray, List.set_cons_zero, List.set_cons_succ]
            refine RegL.take_w (i := 14) (oi := ⟨some 49, _, _, _, _, _⟩) (v := ?_) SM rfl (by decide) (by kernel_rfl) (by kernel_rfl) (by kernel_rfl) (fun _ _ _ h => h) (Or.inl ⟨by rfl, ?_⟩) (H8.out) ?_
            rotate_left
            · intro w9 hw9; obtain ⟨q1, q2, q3, q4, q5, q6⟩ := hw9; go_simp; try with_reducible rfl
            try simp only [Act.put, List.setIfInBounds_toArray, List.set_cons_zero, List.set_cons_succ]
            refine RegL.take_w (i := 15) (oi := ⟨some 50, _, _, _, _, _⟩) (v := ?_) SM rfl (by decide) (by kernel_rfl) (by kernel_rfl) (by kernel_rfl) (fun _ _ _ h => h) (Or.inl ⟨by rfl, ?_⟩) (H8.out) ?_
            rotate_left
            · intro w9 hw9; obtain ⟨q1, q2, q3, q4, q5, q6⟩ := hw9; go_simp; try with_reducible rfl
            try simp only [Act.put, List.setIfInBounds_toArray, List.set_cons_zero, List.set_cons_succ]
            refine RegL.take_w (i := 16) (oi := ⟨some 51, _, _, _, _, _⟩) (v := ?_) SM rfl (by decide) (by kernel_rfl) (by kernel_rfl) (by kernel_rfl) (fun _ _ _ h => h) (Or.inl ⟨by rfl, ?_⟩) (H8.out) ?_
            rotate_left
            · intro w9 hw9; obtain ⟨q1, q2, q3, q4, q5, q6⟩ := hw9; go_simp; try with_reducible rfl
            try simp only [Act.put, List.setIfInBounds_toArray, List.set_cons_zero, List.set_cons_succ]
            refine RegL.take_w (i := 17) (oi := ⟨some 52, _, _, _, _, _⟩) (v := ?_) SM rfl (by decide) (by kernel_rfl) (by kernel_rfl) (by kernel_rfl) (fun _ _ _ h => h) (Or.inl ⟨by rfl, ?_⟩) (H8.out) ?_
            rotate_left
            · intro w9 hw9; obtain ⟨q1, q2, q3, q4, q5, q6⟩ := hw9; go_simp; try with_reducible rfl
            try simp only [Act.put, List.setIfInBounds_toArray, List.set_cons_zero, List.set_cons_succ]
            refine RegL.take_w (i := 18) (oi := ⟨some 53, _, _, _, _, _⟩) (v := ?_) SM rfl (by decide) (by kernel_rfl) (by kernel_rfl) (by kernel_rfl) (fun _ _ _ h => h) (Or.inl ⟨by rfl, ?_⟩) (H8.out) ?_
            rotate_left
            · intro w9 hw9; obtain ⟨q1, q2, q3, q4, q5, q6⟩ := hw9; go_simp; try with_reducible rfl
            try simp only [Act.put, List.setIfInBounds_toArray, List.set_cons_zero, List.set_cons_succ]
            refine RegL.take_w (i := 19) (oi := ⟨some 54, _, _, _, _, _⟩) (v := ?_) SM rfl (by decide) (by kernel_rfl) (by kernel_rfl) (by kernel_rfl) (fun _ _ _ h => h) (Or.inl ⟨by rfl, ?_⟩) (H8.out) ?_
            rotate_left
            · intro w9 hw9; obtain ⟨q1, q2, q3, q4, q5, q6⟩ := hw9; go_simp; try with_reducible rfl
            try simp only [Act.put, List.setIfInBounds_toArray, List.set_cons_zero, List.set_cons_succ]
            refine RegL.take_w (i := 20) (oi := ⟨some 55, _, _, _, _, _⟩) (v := ?_) SM rfl (by decide) (by kernel_rfl) (by kernel_rfl) (by kernel_rfl) (fun _ _ _ h => h) (Or.inl ⟨by rfl, ?_⟩) (H8.out) ?_
            rotate_left
            · intro w9 hw9; obtain ⟨q1, q2, q3, q4, q5, q6⟩ := hw9; go_simp; try with_reducible rfl
            try simp only [Act.put, List.setIfInBounds_toArray, List.set_cons_zero, List.set_cons_succ]
            refine RegL.take_w (i := 21) (oi := ⟨some 56, _, _, _, _, _⟩) (v := ?_) SM rfl (by decide) (by kernel_rfl) (by kernel_rfl) (by kernel_rfl) (fun _ _ _ h => h) (Or.inl ⟨by rfl, ?_⟩) (H8.out) ?_
            rotate_left
            · intro w9 hw9; obtain ⟨q1, q2, q3, q4, q5, q6⟩ := hw9; go_simp; try with_reducible rfl
            try simp only [Act.put, List.setIfInBounds_toArray, List.set_cons_zero, List.set_cons_succ]
            refine RegL.take_w (i := 22) (oi := ⟨some 57, _, _, _, _, _⟩) (v := ?_) SM rfl (by decide) (by kernel_rfl) (by kernel_rfl) (by kernel_rfl) (fun _ _ _ h => h) (Or.inl ⟨by rfl, ?_⟩) (H8.out) ?_
            rotate_left
            · intro w9 hw9; obtain ⟨q1, q2, q3, q4, q5, q6⟩ := hw9; go_simp; try with_reducible rfl
            try simp only [Act.put, List.setIfInBounds_toArray, List.set_cons_zero, List.set_cons_succ]
            refine RegL.take_w (i := 23) (oi := ⟨some 58, _, _, _, _, _⟩) (v := ?_) SM rfl (by decide) (by kernel_rfl) (by kernel_rfl) (by kernel_rfl) (fun _ _ _ h => h) (Or.inl ⟨by rfl, ?_⟩) (H8.out) ?_
            rotate_left
            · intro w9 hw9; obtain ⟨q1, q2, q3, q4, q5, q6⟩ := hw9; go_simp; try with_reducible rfl
            try simp only [Act.put, List.setIfInBounds_toArray, List.set_cons_zero, List.set_cons_succ]
            refine RegL.take_w (i := 24) (oi := ⟨some 59, _, _, _, _, _⟩) (v := ?_) SM rfl (by decide) (by kernel_rfl) (by kernel_rfl) (by kernel_rfl) (fun _ _ _ h => h) (Or.inl ⟨by rfl, ?_⟩) (H8.out) ?_
            rotate_left
            · intro w9 hw9; obtain ⟨q1, q2, q3, q4, q5, q6⟩ := hw9; go_simp; try with_reducible rfl
            try simp only [Act.put, List.setIfInBounds_toArray, List.set_cons_zero, List.set_cons_succ]
            refine RegL.take_w (i := 25) (oi := ⟨some 60, _, _, _, _, _⟩) (v := ?_) SM rfl (by decide) (by kernel_rfl) (by kernel_rfl) (by kernel_rfl) (fun _ _ _ h => h) (Or.inl ⟨by rfl, ?_⟩) (H8.out) ?_
            rotate_left
            · intro w9 hw9; obtain ⟨q1, q2, q3, q4, q5, q6⟩ := hw9; go_simp; try with_reducible rfl
            try simp only [Act.put, List.setIfInBounds_toArray, List.set_cons_zero, List.set_cons_succ]
            refine RegL.take_w (i := 26) (oi := ⟨some 61, _, _, _, _, _⟩) (v := ?_) SM rfl (by decide) (by kernel_rfl) (by kernel_rfl) (by kernel_rfl) (fun _ _ _ h => h) (Or.inl ⟨by rfl, ?_⟩) (H8.out) ?_
            rotate_left
            · intro w9 hw9; obtain ⟨q1, q2, q3, q4, q5, q6⟩ := hw9; go_simp; try with_reducible rfl
            try simp only [Act.put, List.setIfInBounds_toArray, List.set_cons_zero, List.set_cons_succ]
            refine RegL.take_w (i := 27) (oi := ⟨some 62, _, _, _, _, _⟩) (v := ?_) SM rfl (by decide) (by kernel_rfl) (by kernel_rfl) (by kernel_rfl) (fun _ _ _ h => h) (Or.inl ⟨by rfl, ?_⟩) (H8.out) ?_
            rotate_left
            · intro w9 hw9; obtain ⟨q1, q2, q3, q4, q5, q6⟩ := hw9; go_simp; try with_reducible rfl
            try simp only [Act.put, List.setIfInBounds_toArray, List.set_cons_zero, List.set_cons_succ]
            refine RegL.take_w (i := 28) (oi := ⟨some 63, _, _, _, _, _⟩) (v := ?_) SM rfl (by decide) (by kernel_rfl) (by kernel_rfl) (by kernel_rfl) (fun _ _ _ h => h) (Or.inl ⟨by rfl, ?_⟩) (H8.out) ?_
            rotate_left
            · intro w9 hw9; obtain ⟨q1, q2, q3, q4, q5, q6⟩ := hw9; go_simp; try with_reducible rfl
            try simp only [Act.put, List.setIfInBounds_toArray, List.set_cons_zero, List.set_cons_succ]
            refine RegL.take_w (i := 29) (oi := ⟨some 64, _, _, _, _, _⟩) (v := ?_) SM rfl (by decide) (by kernel_rfl) (by kernel_rfl) (by kernel_rfl) (fun _ _ _ h => h) (Or.inl ⟨by rfl, ?_⟩) (H8.out) ?_
            rotate_left
            · intro w9 hw9; obtain ⟨q1, q2, q3, q4, q5, q6⟩ := hw9; go_simp; try with_reducible rfl
            try simp only [Act.put, List.setIfInBounds_toArray, List.set_cons_zero, List.set_cons_succ]
            refine RegL.take_w (i := 30) (oi := ⟨some 65, _, _, _, _, _⟩) (v := ?_) SM rfl (by decide) (by kernel_rfl) (by kernel_rfl) (by kernel_rfl) (fun _ _ _ h => h) (Or.inl ⟨by rfl, ?_⟩) (H8.out) ?_
            rotate_left
            · intro w9 hw9; obtain ⟨q1, q2, q3, q4, q5, q6⟩ := hw9; go_simp; try with_reducible rfl
            try simp only [Act.put, List.setIfInBounds_toArray, List.set_cons_zero, List.set_cons_succ]
            refine RegL.take_w (i := 31) (oi := ⟨some 66, _, _, _, _, _⟩) (v := ?_) SM rfl (by decide) (by kernel_rfl) (by kernel_rfl) (by kernel_rfl) (fun _ _ _ h => h) (Or.inl ⟨by rfl, ?_⟩) (H8.out) ?_
            rotate_left
            · intro w9 hw9; obtain ⟨q1, q2, q3, q4, q5, q6⟩ := hw9; go_simp; try with_reducible rfl
            try simp only [Act.put, List.setIfInBounds_toArray, List.set_cons_zero, List.set_cons_succ]
            refine RegL.take_w (i := 32) (oi := ⟨some 67, _, _, _, _, _⟩) (v := ?_) SM rfl (by decide) (by kernel_rfl) (by kernel_rfl) (by kernel_rfl) (fun _ _ _ h => h) (Or.inl ⟨by rfl, ?_⟩) (H8.out) ?_
            rotate_left
            · intro w9 hw9; obtain ⟨q1, q2, q3, q4, q5, q6⟩ := hw9; go_simp; try with_reducible rfl
            try simp only [Act.put, List.setIfInBounds_toArray, List.set_cons_zero, List.set_cons_succ]
            refine RegL.take_w (i := 33) (oi := ⟨some 68, _, _, _, _, _⟩) (v := ?_) SM rfl (by decide) (by kernel_rfl) (by kernel_rfl) (by kernel_rfl) (fun _ _ _ h => h) (Or.inl ⟨by rfl, ?_⟩) (H8.out) ?_
            rotate_left
            · intro w9 hw9; obtain ⟨q1, q2, q3, q4, q5, q6⟩ := hw9; go_simp; try with_reducible rfl
            try simp only [Act.put, List.setIfInBounds_toArray, List.set_cons_zero, List.set_cons_succ]
            refine RegL.take_w (i := 34) (oi := ⟨some 69, _, _, _, _, _⟩) (v := ?_) SM rfl (by decide) (by kernel_rfl) (by kernel_rfl) (by kernel_rfl) (fun _ _ _ h => h) (Or.inl ⟨by rfl, ?_⟩) (H8.out) ?_
            rotate_left
            · intro w9 hw9; obtain ⟨q1, q2, q3, q4, q5, q6⟩ := hw9; go_simp; try with_reducible rfl
            try simp only [Act.put, List.setIfInBounds_toArray, List.set_cons_zero, List.set_cons_succ]
            refine RegL.take_w (i := 35) (oi := ⟨some 70, _, _, _, _, _⟩) (v := ?_) SM rfl (by decide) (by kernel_rfl) (by kernel_rfl) (by kernel_rfl) (fun _ _ _ h => h) (Or.inl ⟨by rfl, ?_⟩) (H8.out) ?_
            rotate_left
            · intro w9 hw9; obtain ⟨q1, q2, q3, q4, q5, q6⟩ := hw9; go_simp; try with_reducible rfl
            try simp only [Act.put, List.setIfInBounds_toArray, List.set_cons_zero, List.set_cons_succ]
            refine RegL.done_of (by kernel_rfl) ?_ _
            go_wp2_with fail
            go_meet
            exact ⟨rfl, rfl⟩
          · -- gt true
            have a1 : decide (s.known < F.mine) = true := by simp; omega
            have a2 : decide (s.known ≤ F.mine) = true := by simp; omega
            have a3 : decide ((s.known : Int) < (F.mine : Int)) = true := by simp; omega
            have a4 : decide ((s.known : Int) ≤ (F.mine : Int)) = true := by simp; omega
            have a5 : ((F.yours : Int) == (s.life : Int)) = true := by simp; omega
            have a6 : decide (F.yours = s.life) = true := by simp; omega
            have a7 : (F.yours == s.life) = true := by simp; omega
            rw [a1] at c4; rw [a2, a6] at c5
            rw [show (true && true) = true from rfl] at c5
            have H8 : Hid (wd.drew.cell? ⟨b3, 2, none⟩ = some (.int .u64 (F.mine : Int)) ∧ wd.drew.cell? ⟨b3, 3, none⟩ = some (.int .u64 (F.yours : Int)) ∧ wd.drew.cell? ⟨bh, 1, none⟩ = some (.bool true) ∧ wd.drew.cell? ⟨bh, 2, none⟩ = some (.bool true) ∧ wd.drew.cell? ⟨bh, 3, none⟩ = some (.bool true) ∧ wd.drew.cell? ⟨gp, 2 + i, none⟩ = some (.int .u64 (s.life : Int))) := ⟨c1, c2, c3, c4, c5, c6⟩
            clear c1 c2 c3 c4 c5 c6 HAN HFI HZ
            have SM : ∀ (bb0 : Bool) (w9 : World), (fun (_ : Bool) (w9 : World) => w9.cell? ⟨b3, 2, none⟩ = some (.int .u64 (F.mine : Int)) ∧ w9.cell? ⟨b3, 3, none⟩ = some (.int .u64 (F.yours : Int)) ∧ w9.cell? ⟨bh, 1, none⟩ = some (.bool true) ∧ w9.cell? ⟨bh, 2, none⟩ = some (.bool true) ∧ w9.cell? ⟨bh, 3, none⟩ = some (.bool true) ∧ w9.cell? ⟨gp, 2 + i, none⟩ = some (.int .u64 (s.life : Int))) bb0 w9 → (fun (_ : Bool) (w9 : World) => w9.cell? ⟨b3, 2, none⟩ = some (.int .u64 (F.mine : Int)) ∧ w9.cell? ⟨b3, 3, none⟩ = some (.int .u64 (F.yours : Int)) ∧ w9.cell? ⟨bh, 1, none⟩ = some (.bool true) ∧ w9.cell? ⟨bh, 2, none⟩ = some (.bool true) ∧ w9.cell? ⟨bh, 3, none⟩ = some (.bool true) ∧ w9.cell? ⟨gp, 2 + i, none⟩ = some (.int .u64 (s.life : Int))) true w9 := fun _ _ h => h
            refine RegL.begin_of (k := 99) (S := fun (_ : Bool) (w9 : World) => w9.cell? ⟨b3, 2, none⟩ = some (.int .u64 (F.mine : Int)) ∧ w9.cell? ⟨b3, 3, none⟩ = some (.int .u64 (F.yours : Int)) ∧ w9.cell? ⟨bh, 1, none⟩ = some (.bool true) ∧ w9.cell? ⟨bh, 2, none⟩ = some (.bool true) ∧ w9.cell? ⟨bh, 3, none⟩ = some (.bool true) ∧ w9.cell? ⟨gp, 2 + i, none⟩ = some (.int .u64 (s.life : Int))) (by kernel_rfl) ?_
            refine RegL.take_w (i := 0) (oi := ⟨some 35, _, _, _, _, _⟩) (v := ?_) SM rfl (by decide) (by kernel_rfl) (by kernel_rfl) (by kernel_rfl) (fun _ _ _ h => h) (Or.inl ⟨by rfl, ?_⟩) (H8.out) ?_
            rotate_left
            · intro w9 hw9; obtain ⟨q1, q2, q3, q4, q5, q6⟩ := hw9; go_simp; try with_reducible rfl
            try simp only [Act.put, List.setIfInBounds_toArray, List.set_cons_zero, List.set_cons_succ]
            refine RegL.take_w (i := 1) (oi := ⟨some 36, _, _, _, _, _⟩) (v := ?_) SM rfl (by decide) (by kernel_rfl) (by kernel_rfl) (by kernel_rfl) (fun _ _ _ h => h) (Or.inl ⟨by rfl, ?_⟩) (H8.out) ?_
            rotate_left
            · intro w9 hw9; obtain ⟨q1, q2, q3, q4, q5, q6⟩ := hw9; go_simp; try with_reducible rfl
            try simp only [Act.put, List.setIfInBounds_toArray, List.set_cons_zero, List.set_cons_succ]
            refine RegL.take_w (i := 2) (oi := ⟨some 37, _, _, _, _, _⟩) (v := ?_) SM rfl (by decide) (by kernel_rfl) (by kernel_rfl) (by kernel_rfl) (fun _ _ _ h => h) (Or.inl ⟨by rfl, ?_⟩) (H8.out) ?_
            rotate_left
            · intro w9 hw9; obtain ⟨q1, q2, q3, q4, q5, q6⟩ := hw9; go_simp; try with_reducible rfl
            try simp only [Act.put, List.setIfInBounds_toArray, List.set_cons_zero, List.set_cons_succ]
            refine RegL.take_w (i := 3) (oi := ⟨some 38, _, _, _, _, _⟩) (v := ?_) SM rfl (by decide) (by kernel_rfl) (by kernel_rfl) (by kernel_rfl) (fun _ _ _ h => h) (Or.inl ⟨by rfl, ?_⟩) (H8.out) ?_
            rotate_left
            · intro w9 hw9; obtain ⟨q1, q2, q3, q4, q5, q6⟩ := hw9; go_simp; try with_reducible rfl
            try simp only [Act.put, List.setIfInBounds_toArray, List.set_cons_zero, List.set_cons_succ]
            refine RegL.take_w (i := 4) (oi := ⟨some 39, _, _, _, _, _⟩) (v := ?_) SM rfl (by decide) (by kernel_rfl) (by kernel_rfl) (by kernel_rfl) (fun _ _ _ h => h) (Or.inl ⟨by rfl, ?_⟩) (H8.out) ?_
            rotate_left
            · intro w9 hw9; obtain ⟨q1, q2, q3, q4, q5, q6⟩ := hw9; go_simp; try with_reducible rfl
            try simp only [Act.put, List.setIfInBounds_toArray, List.set_cons_zero, List.set_cons_succ]
            refine RegL.take_w (i := 5) (oi := ⟨some 40, _, _, _, _, _⟩) (v := ?_) SM rfl (by decide) (by kernel_rfl) (by kernel_rfl) (by kernel_rfl) (fun _ _ _ h => h) (Or.inl ⟨by rfl, ?_⟩) (H8.out) ?_
            rotate_left
            · intro w9 hw9; obtain ⟨q1, q2, q3, q4, q5, q6⟩ := hw9; go_simp; try with_reducible rfl
            try simp only [Act.put, List.setIfInBounds_toArray, List.set_cons_zero, List.set_cons_succ]
            refine RegL.take_w (i := 6) (oi := ⟨some 41, _, _, _, _, _⟩) (v := ?_) SM rfl (by decide) (by kernel_rfl) (by kernel_rfl) (by kernel_rfl) (fun _ _ _ h => h) (Or.inl ⟨by rfl, ?_⟩) (H8.out) ?_
            rotate_left
            · intro w9 hw9; obtain ⟨q1, q2, q3, q4, q5, q6⟩ := hw9; go_simp; try with_reducible rfl
            try simp only [Act.put, List.setIfInBounds_toArray, List.set_cons_zero, List.set_cons_succ]
            refine RegL.take_w (i := 7) (oi := ⟨some 42, _, _, _, _, _⟩) (v := ?_) SM rfl (by decide) (by kernel_rfl) (by kernel_rfl) (by kernel_rfl) (fun _ _ _ h => h) (Or.inl ⟨by rfl, ?_⟩) (H8.out) ?_
            rotate_left
            · intro w9 hw9; obtain ⟨q1, q2, q3, q4, q5, q6⟩ := hw9; go_simp; try with_reducible rfl
            try simp only [Act.put, List.setIfInBounds_toArray, List.set_cons_zero, List.set_cons_succ]
            refine RegL.take_w (i := 8) (oi := ⟨some 43, _, _, _, _, _⟩) (v := ?_) SM rfl (by decide) (by kernel_rfl) (by kernel_rfl) (by kernel_rfl) (fun _ _ _ h => h) (Or.inl ⟨by rfl, ?_⟩) (H8.out) ?_
            rotate_left
            · intro w9 hw9; obtain ⟨q1, q2, q3, q4, q5, q6⟩ := hw9; go_simp; try with_reducible rfl
            try simp only [Act.put, List.setIfInBounds_toArray, List.set_cons_zero, List.set_cons_succ]
            refine RegL.take_w (i := 9) (oi := ⟨some 44, _, _, _, _, _⟩) (v := ?_) SM rfl (by decide) (by kernel_rfl) (by kernel_rfl) (by kernel_rfl) (fun _ _ _ h => h) (Or.inl ⟨by rfl, ?_⟩) (H8.out) ?_
            rotate_left
            · intro w9 hw9; obtain ⟨q1, q2, q3, q4, q5, q6⟩ := hw9; go_simp; try with_reducible rfl
            try simp only [Act.put, List.setIfInBounds_toArray, List.set_cons_zero, List.set_cons_succ]
            refine RegL.take_w (i := 10) (oi := ⟨some 45, _, _, _, _, _⟩) (v := ?_) SM rfl (by decide) (by kernel_rfl) (by kernel_rfl) (by kernel_rfl) (fun _ _ _ h => h) (Or.inl ⟨by rfl, ?_⟩) (H8.out) ?_
            rotate_left
            · intro w9 hw9; obtain ⟨q1, q2, q3, q4, q5, q6⟩ := hw9; go_simp; try with_reducible rfl
            try simp only [Act.put, List.setIfInBounds_toArray, List.set_cons_zero, List.set_cons_succ]
            refine RegL.take_w (i := 11) (oi := ⟨some 46, _, _, _, _, _⟩) (v := ?_) SM rfl (by decide) (by kernel_rfl) (by kernel_rfl) (by kernel_rfl) (fun _ _ _ h => h) (Or.inl ⟨by rfl, ?_⟩) (H8.out) ?_
            rotate_left
            · intro w9 hw9; obtain ⟨q1, q2, q3, q4, q5, q6⟩ := hw9; go_simp; try with_reducible rfl
            try simp only [Act.put, List.setIfInBounds_toArray, List.set_cons_zero, List.set_cons_succ]
            refine RegL.take_w (i := 12) (oi := ⟨some 47, _, _, _, _, _⟩) (v := ?_) SM rfl (by decide) (by kernel_rfl) (by kernel_rfl) (by kernel_rfl) (fun _ _ _ h => h) (Or.inl ⟨by rfl, ?_⟩) (H8.out) ?_
            rotate_left
            · intro w9 hw9; obtain ⟨q1, q2, q3, q4, q5, q6⟩ := hw9; go_simp; try with_reducible rfl
            try simp only [Act.put, List.setIfInBounds_toArray, List.set_cons_zero, List.set_cons_succ]
            refine RegL.take_w (i := 13) (oi := ⟨some 48, _, _, _, _, _⟩) (v := ?_) SM rfl (by decide) (by kernel_rfl) (by kernel_rfl) (by kernel_rfl) (fun _ _ _ h => h) (Or.inl ⟨by rfl, ?_⟩) (H8.out) ?_
            rotate_left
            · intro w9 hw9; obtain ⟨q1, q2, q3, q4, q5, q6⟩ := hw9; go_simp; try with_reducible rfl
            try simp only [Act.put, List.setIfInBounds_toArray, List.set_cons_zero, List.set_cons_succ]
            refine RegL.take_w (i := 14) (oi := ⟨some 49, _, _, _, _, _⟩) (v := ?_) SM rfl (by decide) (by kernel_rfl) (by kernel_rfl) (by kernel_rfl) (fun _ _ _ h => h) (Or.inl ⟨by rfl, ?_⟩) (H8.out) ?_
            rotate_left
            · intro w9 hw9; obtain ⟨q1, q2, q3, q4, q5, q6⟩ := hw9; go_simp; try with_reducible rfl
            try simp only [Act.put, List.setIfInBounds_toArray, List.set_cons_zero, List.set_cons_succ]
            refine RegL.take_w (i := 15) (oi := ⟨some 50, _, _, _, _, _⟩) (v := ?_) SM rfl (by decide) (by kernel_rfl) (by kernel_rfl) (by kernel_rfl) (fun _ _ _ h => h) (Or.inl ⟨by rfl, ?_⟩) (H8.out) ?_
            rotate_left
            · intro w9 hw9; obtain ⟨q1, q2, q3, q4, q5, q6⟩ := hw9; go_simp; try with_reducible rfl
            try simp only [Act.put, List.setIfInBounds_toArray, List.set_cons_zero, List.set_cons_succ]
            refine RegL.take_w (i := 16) (oi := ⟨some 51, _, _, _, _, _⟩) (v := ?_) SM rfl (by decide) (by kernel_rfl) (by kernel_rfl) (by kernel_rfl) (fun _ _ _ h => h) (Or.inl ⟨by rfl, ?_⟩) (H8.out) ?_
            rotate_left
            · intro w9 hw9; obtain ⟨q1, q2, q3, q4, q5, q6⟩ := hw9; go_simp; try with_reducible rfl
            try simp only [Act.put, List.setIfInBounds_toArray, List.set_cons_zero, List.set_cons_succ]
            refine RegL.take_w (i := 17) (oi := ⟨some 52, _, _, _, _, _⟩) (v := ?_) SM rfl (by decide) (by kernel_rfl) (by kernel_rfl) (by kernel_rfl) (fun _ _ _ h => h) (Or.inl ⟨by rfl, ?_⟩) (H8.out) ?_
            rotate_left
            · intro w9 hw9; obtain ⟨q1, q2, q3, q4, q5, q6⟩ := hw9; go_simp; try with_reducible rfl
            try simp only [Act.put, List.setIfInBounds_toArray, List.set_cons_zero, List.set_cons_succ]
            refine RegL.take_w (i := 18) (oi := ⟨some 53, _, _, _, _, _⟩) (v := ?_) SM rfl (by decide) (by kernel_rfl) (by kernel_rfl) (by kernel_rfl) (fun _ _ _ h => h) (Or.inl ⟨by rfl, ?_⟩) (H8.out) ?_
            rotate_left
            · intro w9 hw9; obtain ⟨q1, q2, q3, q4, q5, q6⟩ := hw9; go_simp; try with_reducible rfl
            try simp only [Act.put, List.setIfInBounds_toArray, List.set_cons_zero, List.set_cons_succ]
            refine RegL.take_w (i := 19) (oi := ⟨some 54, _, _, _, _, _⟩) (v := ?_) SM rfl (by decide) (by kernel_rfl) (by kernel_rfl) (by kernel_rfl) (fun _ _ _ h => h) (Or.inl ⟨by rfl, ?_⟩) (H8.out) ?_
            rotate_left
            · intro w9 hw9; obtain ⟨q1, q2, q3, q4, q5, q6⟩ := hw9; go_simp; try with_reducible rfl
            try simp only [Act.put, List.setIfInBounds_toArray, List.set_cons_zero, List.set_cons_succ]
            refine RegL.take_w (i := 20) (oi := ⟨some 55, _, _, _, _, _⟩) (v := ?_) SM rfl (by decide) (by kernel_rfl) (by kernel_rfl) (by kernel_rfl) (fun _ _ _ h => h) (Or.inl ⟨by rfl, ?_⟩) (H8.out) ?_
            rotate_left
            · intro w9 hw9; obtain ⟨q1, q2, q3, q4, q5, q6⟩ := hw9; go_simp; try with_reducible rfl
            try simp only [Act.put, List.setIfInBounds_toArray, List.set_cons_zero, List.set_cons_succ]
            refine RegL.take_w (i := 21) (oi := ⟨some 56, _, _, _, _, _⟩) (v := ?_) SM rfl (by decide) (by kernel_rfl) (by kernel_rfl) (by kernel_rfl) (fun _ _ _ h => h) (Or.inl ⟨by rfl, ?_⟩) (H8.out) ?_
            rotate_left
            · intro w9 hw9; obtain ⟨q1, q2, q3, q4, q5, q6⟩ := hw9; go_simp; try with_reducible rfl
            try simp only [Act.put, List.setIfInBounds_toArray, List.set_cons_zero, List.set_cons_succ]
            refine RegL.take_w (i := 22) (oi := ⟨some 57, _, _, _, _, _⟩) (v := ?_) SM rfl (by decide) (by kernel_rfl) (by kernel_rfl) (by kernel_rfl) (fun _ _ _ h => h) (Or.inl ⟨by rfl, ?_⟩) (H8.out) ?_
            rotate_left
            · intro w9 hw9; obtain ⟨q1, q2, q3, q4, q5, q6⟩ := hw9; go_simp; try with_reducible rfl
            try simp only [Act.put, List.setIfInBounds_toArray, List.set_cons_zero, List.set_cons_succ]
            refine RegL.take_w (i := 23) (oi := ⟨some 58, _, _, _, _, _⟩) (v := ?_) SM rfl (by decide) (by kernel_rfl) (by kernel_rfl) (by kernel_rfl) (fun _ _ _ h => h) (Or.inl ⟨by rfl, ?_⟩) (H8.out) ?_
            rotate_left
            · intro w9 hw9; obtain ⟨q1, q2, q3, q4, q5, q6⟩ := hw9; go_simp; try with_reducible rfl
            try simp only [Act.put, List.setIfInBounds_toArray, List.set_cons_zero, List.set_cons_succ]
            refine RegL.take_w (i := 24) (oi := ⟨some 59, _, _, _, _, _⟩) (v := ?_) SM rfl (by decide) (by kernel_rfl) (by kernel_rfl) (by kernel_rfl) (fun _ _ _ h => h) (Or.inl ⟨by rfl, ?_⟩) (H8.out) ?_
            rotate_left
            · intro w9 hw9; obtain ⟨q1, q2, q3, q4, q5, q6⟩ := hw9; go_simp; try with_reducible rfl
            try simp only [Act.put, List.setIfInBounds_toArray, List.set_cons_zero, List.set_cons_succ]
            refine RegL.take_w (i := 25) (oi := ⟨some 60, _, _, _, _, _⟩) (v := ?_) SM rfl (by decide) (by kernel_rfl) (by kernel_rfl) (by kernel_rfl) (fun _ _ _ h => h) (Or.inl ⟨by rfl, ?_⟩) (H8.out) ?_
            rotate_left
            · intro w9 hw9; obtain ⟨q1, q2, q3, q4, q5, q6⟩ := hw9; go_simp; try with_reducible rfl
            try simp only [Act.put, List.setIfInBounds_toArray, List.set_cons_zero, List.set_cons_succ]
            refine RegL.take_w (i := 26) (oi := ⟨some 61, _, _, _, _, _⟩) (v := ?_) SM rfl (by decide) (by kernel_rfl) (by kernel_rfl) (by kernel_rfl) (fun _ _ _ h => h) (Or.inl ⟨by rfl, ?_⟩) (H8.out) ?_
            rotate_left
            · intro w9 hw9; obtain ⟨q1, q2, q3, q4, q5, q6⟩ := hw9; go_simp; try with_reducible rfl
            try simp only [Act.put, List.setIfInBounds_toArray, List.set_cons_zero, List.set_cons_succ]
            refine RegL.take_w (i := 27) (oi := ⟨some 62, _, _, _, _, _⟩) (v := ?_) SM rfl (by decide) (by kernel_rfl) (by kernel_rfl) (by kernel_rfl) (fun _ _ _ h => h) (Or.inl ⟨by rfl, ?_⟩) (H8.out) ?_
            rotate_left
            · intro w9 hw9; obtain ⟨q1, q2, q3, q4, q5, q6⟩ := hw9; go_simp; try with_reducible rfl
            try simp only [Act.put, List.setIfInBounds_toArray, List.set_cons_zero, List.set_cons_succ]
            refine RegL.take_w (i := 28) (oi := ⟨some 63, _, _, _, _, _⟩) (v := ?_) SM rfl (by decide) (by kernel_rfl) (by kernel_rfl) (by kernel_rfl) (fun _ _ _ h => h) (Or.inl ⟨by rfl, ?_⟩) (H8.out) ?_
            rotate_left
            · intro w9 hw9; obtain ⟨q1, q2, q3, q4, q5, q6⟩ := hw9; go_simp; try with_reducible rfl
            try simp only [Act.put, List.setIfInBounds_toArray, List.set_cons_zero, List.set_cons_succ]
            refine RegL.take_w (i := 29) (oi := ⟨some 64, _, _, _, _, _⟩) (v := ?_) SM rfl (by decide) (by kernel_rfl) (by kernel_rfl) (by kernel_rfl) (fun _ _ _ h => h) (Or.inl ⟨by rfl, ?_⟩) (H8.out) ?_
            rotate_left
            · intro w9 hw9; obtain ⟨q1, q2, q3, q4, q5, q6⟩ := hw9; go_simp; try with_reducible rfl
            try simp only [Act.put, List.setIfInBounds_toArray, List.set_cons_zero, List.set_cons_succ]
            refine RegL.take_w (i := 30) (oi := ⟨some 65, _, _, _, _, _⟩) (v := ?_) SM rfl (by decide) (by kernel_rfl) (by kernel_rfl) (by kernel_rfl) (fun _ _ _ h => h) (Or.inl ⟨by rfl, ?_⟩) (H8.out) ?_
            rotate_left
            · intro w9 hw9; obtain ⟨q1, q2, q3, q4, q5, q6⟩ := hw9; go_simp; try with_reducible rfl
            try simp only [Act.put, List.setIfInBounds_toArray, List.set_cons_zero, List.set_cons_succ]
            refine RegL.take_w (i := 31) (oi := ⟨some 66, _, _, _, _, _⟩) (v := ?_) SM rfl (by decide) (by kernel_rfl) (by kernel_rfl) (by kernel_rfl) (fun _ _ _ h => h) (Or.inl ⟨by rfl, ?_⟩) (H8.out) ?_
            rotate_left
            · intro w9 hw9; obtain ⟨q1, q2, q3, q4, q5, q6⟩ := hw9; go_simp; try with_reducible rfl
            try simp only [Act.put, List.setIfInBounds_toArray, List.set_cons_zero, List.set_cons_succ]
            refine RegL.take_w (i := 32) (oi := ⟨some 67, _, _, _, _, _⟩) (v := ?_) SM rfl (by decide) (by kernel_rfl) (by kernel_rfl) (by kernel_rfl) (fun _ _ _ h => h) (Or.inl ⟨by rfl, ?_⟩) (H8.out) ?_
            rotate_left
            · intro w9 hw9; obtain ⟨q1, q2, q3, q4, q5, q6⟩ := hw9; go_simp; try with_reducible rfl
            try simp only [Act.put, List.setIfInBounds_toArray, List.set_cons_zero, List.set_cons_succ]
            refine RegL.take_w (i := 33) (oi := ⟨some 68, _, _, _, _, _⟩) (v := ?_) SM rfl (by decide) (by kernel_rfl) (by kernel_rfl) (by kernel_rfl) (fun _ _ _ h => h) (Or.inl ⟨by rfl, ?_⟩) (H8.out) ?_
            rotate_left
            · intro w9 hw9; obtain ⟨q1, q2, q3, q4, q5, q6⟩ := hw9; go_simp; try with_reducible rfl
            try simp only [Act.put, List.setIfInBounds_toArray, List.set_cons_zero, List.set_cons_succ]
            refine RegL.take_w (i := 34) (oi := ⟨some 69, _, _, _, _, _⟩) (v := ?_) SM rfl (by decide) (by kernel_rfl) (by kernel_rfl) (by kernel_rfl) (fun _ _ _ h => h) (Or.inl ⟨by rfl, ?_⟩) (H8.out) ?_
            rotate_left
            · intro w9 hw9; obtain ⟨q1, q2, q3, q4, q5, q6⟩ := hw9; go_simp; try with_reducible rfl
            try simp only [Act.put, List.setIfInBounds_toArray, List.set_cons_zero, List.set_cons_succ]
            refine RegL.take_w (i := 35) (oi := ⟨some 70, _, _, _, _, _⟩) (v := ?_) SM rfl (by decide) (by kernel_rfl) (by kernel_rfl) (by kernel_rfl) (fun _ _ _ h => h) (Or.inl ⟨by rfl, ?_⟩) (H8.out) ?_
            rotate_left
            · intro w9 hw9; obtain ⟨q1, q2, q3, q4, q5, q6⟩ := hw9; go_simp; try with_reducible rfl
            try simp only [Act.put, List.setIfInBounds_toArray, List.set_cons_zero, List.set_cons_succ]
            refine RegL.done_of (by kernel_rfl) ?_ _
            go_wp2_with fail
            go_meet
            exact ⟨rfl, rfl⟩
        case rest =>
          obtain ⟨hs70, hwc⟩ := hcut
          subst hs70
          rw [hwc]
          clear hwc
          obtain ⟨m, hm⟩ : ∃ m, m = p.life i := ⟨_, rfl⟩
          obtain ⟨y, hy⟩ : ∃ y, y = F.mine := ⟨_, rfl⟩
          obtain ⟨s2, hs2⟩ : ∃ s2, s2 = { hearP s F with iv := iv } := ⟨_, rfl⟩
          have hkn : s2.known = y := by
            rw [hs2, hy]
            have hbf : badP s F = false := by
              have q := HH.out; unfold handedP at q; simp at q; exact q.1.1
            have hnk : (newP s F).known = F.mine := by
              unfold newP; split
              · rfl
              · have := HYM.out.2; show s.known = _; omega
            show (hearP s F).known = _
            unfold hearP
            rw [hbf, if_neg (by simp), if_pos HYM.out.1]
            rw [← hnk]
            unfold upP seqP rightP ackP dropP
            (repeat' split) <;> rfl
          have hy0 : y ≠ 0 := by have := HFIT.out.m0; omega
          obtain ⟨L, hL⟩ : ∃ L, L = F.body.length := ⟨_, rfl⟩
          rw [← hs2] at HZ HV9
          rw [← hL] at HZ
          obtain ⟨V4, hV4⟩ : ∃ V4 : Array Value, V4 = #[.slice Av L cv, .bool true, .bool (anewP s F), .bool (fineP s F)] := ⟨_, rfl⟩
          have v40 : V4[0]? = some (.slice Av L cv) := by rw [hV4]; rfl
          have v41 : V4[1]? = some (.bool true) := by rw [hV4]; rfl
          rw [← hV4] at HZ
          obtain ⟨R1, hR1⟩ : ∃ R1, R1 = (byR (.slice Av L cv) F.body ++ (B b3 (frC F A c) 69 :: R0)) := ⟨_, rfl⟩
          have hz : St w0 wd.drew (B gp (pC p) 86 :: (lkE g s2 ++ (sesE (p.t i) si ++ (B bh V4 91 :: (sesE (p.t j) sj ++ R1))))) := HZ.out.drew.re (fun x => by rw [hR1, HRR.out]; simp only [cnt_append, cnt_cons]; omega)
          have d1 : wd.drew.cell? ⟨bh, 1, none⟩ = some (.bool true) := hz.cellOf (g := bh) (cs := V4) (t := 91) (by simp) 1 v41
          have CN := now_calls (g := g) (s := s2) (ss := si) i HI.out hz HL.out HVI.out (by have := HNI.out; omega)
          rw [hkn, ← hm] at CN
          have CN := Lib.hid CN
          have nowq : nowN m y si = (fnd m y si : Int) := by unfold nowN; rw [if_neg hy0]
          obtain ⟨q, hq⟩ : ∃ q, q = fnd m y si := ⟨_, rfl⟩
          rw [nowq, ← hq] at CN
          have hq9 : q ≤ 900000 := by have := fnd_le m y si; have := HNI.out; omega
          have qq1 : (0 : Int) ≤ (q : Int) := by omega
          have qq2 : (q : Int) < 1000000 := by omega
          have HM := Lib.hid hm
          have HY := Lib.hid hy
          have HS2 := Lib.hid hs2
          have HY0 := Lib.hid hy0
          have HLL := Lib.hid hL
          have HV40 := Lib.hid v40
          have HR1 := Lib.hid hR1
          have HQ := Lib.hid hq
          have HV2 := Lib.hid (And.intro HV9.out HB9.out)
          clear hm hy hs2 hkn hy0 hL hV4 v40 v41 hR1 hz nowq hq HZ HV9 HB9
          go_wp2_with fail
          refine CN.out.mono ?_; rintro e w5 ⟨rfl, tv1, hV1, h5⟩
          obtain ⟨ss1, hss1⟩ : ∃ ss1, ss1 = nowS m y si := ⟨_, rfl⟩
          rw [← hss1] at hV1 h5
          obtain ⟨x, hx, hxm, hxy, hxu, hxi⟩ := nowS_get m y si HY0.out
          rw [← hss1, ← HQ.out] at hx
          obtain ⟨At, ct, htv⟩ := row_form hV1.row
          obtain ⟨n, hnn⟩ : ∃ n, n = ss1.length := ⟨_, rfl⟩
          rw [← hnn] at htv
          have hqn : q < n := by rw [hnn]; exact (List.getElem?_eq_some_iff.1 hx).1
          have hn9 : n ≤ 900001 := by
            have := HNI.out; rw [hnn, hss1]; unfold nowS; split
            · omega
            · split
              · omega
              · rw [List.length_append]; show _ + 1 ≤ _; omega
          obtain ⟨gt, hgt⟩ : ∃ gt, At = some ⟨gt, 0, none⟩ := by
            rcases hV1.row.2 with ⟨q1, q2⟩ | ⟨gt, _, q1, _⟩
            · omega
            · rw [htv] at q1; injection q1 with q1; exact ⟨gt, q1⟩
          subst hgt
          subst htv
          have hov := hV1.of_ x (List.mem_of_getElem? hx)
          obtain ⟨Au, cu, hxuv⟩ := row_form hov.2.row
          obtain ⟨nu, hnu⟩ : ∃ nu, nu = x.ups.length := ⟨_, rfl⟩
          rw [← hnu] at hxuv
          obtain ⟨l1, l2, hll, hl1⟩ : ∃ l1 l2, ss1 = l1 ++ x :: l2 ∧ l1.length = q := by
            have h9 := (List.getElem?_eq_some_iff.1 hx).1
            refine ⟨ss1.take q, ss1.drop (q + 1), ?_, by rw [List.length_take]; omega⟩
            have e2 : ss1[q] = x := (List.getElem?_eq_some_iff.1 hx).2
            rw [← e2, List.getElem_cons_drop, List.take_append_drop]
          obtain ⟨p1, hp1⟩ : ∃ p1, p1 = { p with t := upd p.t i (.slice (some ⟨gt, 0, none⟩) n ct) } := ⟨_, rfl⟩
          rw [← hp1] at h5
          have p17 : (pC p1)[7 + i]? = some (.slice (some ⟨gt, 0, none⟩) n ct) := by rw [pC_t p1 HI.out, hp1]; show some (upd p.t i _ i) = _; rw [upd_same]
          have p1j : p1.t j = p.t j := by rw [hp1]; exact upd_other _ _ _ _ (by have := HJ.out; have := HI.out; omega)
          obtain ⟨T, hT⟩ : ∃ T, T = (l1.flatMap seR ++ (l2.flatMap seR ++ outE x.iv x.ins)) := ⟨_, rfl⟩
          -- everything that is held, the row of sessions, this one's row of what was handed up by themselves
          have h6 : St w0 w5 (rowE (.slice (some ⟨gt, 0, none⟩) n ct) 101 4 n (sesL ss1) ++ (rowE (.slice Au nu cu) 22 1 nu (x.ups.map fun b => b.1) ++ (B bh V4 91 :: (B gp (pC p1) 86 :: (lkE g s2 ++ ((x.ups.flatMap fun b => byR b.1 b.2) ++ (T ++ (sesE (p.t j) sj ++ R1)))))))) := h5.re (fun z => by
            rw [hT]; simp only [sesE, ← hnn]; rw [hll, List.flatMap_append, List.flatMap_cons]; simp only [seR, outE, hxuv, ← hnu, cnt_append, cnt_cons]; omega)
          have rowlen : (sesL ss1).length = n * 4 := by rw [sesL_len, ← hnn]
          have z3 : ∀ w9 L9, St w0 w9 (rowE (.slice (some ⟨gt, 0, none⟩) n ct) 101 4 n (sesL ss1) ++ L9) → w9.cell? ⟨gt, q * 4 + 3, none⟩ = some (.slice Au nu cu) := fun w9 L9 h9 => by
            have := (h9.at (q * 4 + 3) (by rw [rowlen]; omega) rowlen).1
            rw [sesL_get hx 3 (by omega)] at this
            rw [this]; show some x.uv = _; rw [hxuv]
          have hd := h6.drew
          have c7 : w5.drew.cell? ⟨gp, 7 + i, none⟩ = some (.slice (some ⟨gt, 0, none⟩) n ct) := hd.cellOf (g := gp) (cs := pC p1) (t := 86) (by simp) (7 + i) p17
          have cb0 : w5.drew.cell? ⟨bh, 0, none⟩ = some (.slice Av L cv) := hd.cellOf (g := bh) (cs := V4) (t := 91) (by simp) 0 HV40.out
          have HALL : Hid (∀ bb1 : Bool, (w5.drew.cell? ⟨gp, 7 + i, none⟩ = some (.slice (some ⟨gt, 0, none⟩) n ct) ∧ w5.drew.cell? ⟨bh, 0, none⟩ = some (.slice Av L cv)) ∧ (bb1 = false → w5.drew.cell? ⟨gt, q * 4 + 3, none⟩ = some (.slice Au nu cu))) := fun _ => ⟨⟨c7, cb0⟩, fun _ => z3 _ _ hd⟩
          obtain ⟨Wb, hWb⟩ : ∃ Wb, Wb = (w5.alloc (.cells #[.slice Av L cv] 22)).drew := ⟨_, rfl⟩
          obtain ⟨bb, hbb⟩ : ∃ bb, bb = w5.heap.size := ⟨_, rfl⟩
          have hb : St w0 ((w5.alloc (.cells #[.slice Av L cv] 22)).drew) (B w5.heap.size #[.slice Av L cv] 22 :: _) := (h6.newB #[.slice Av L cv] 22).drew
          rw [← hWb, ← hbb] at hb
          have hnu9 : nu ≤ 900000 := by
            have q1 := HUP.out
            have e1 : upsOf (p.life i) F.mine si = x.ups := by rw [← HM.out, ← HY.out]; exact hxu.symm
            rw [e1] at q1; omega
          obtain ⟨v2, Wa, hrun, ha, hva⟩ := row_append (P := Tryd.prog) (w0 := w0) (W := Wb) (v := .slice Au nu cu) (e := 22) (n := nu) (xs := x.ups.map fun b => b.1) (R := rowE (.slice (some ⟨gt, 0, none⟩) n ct) 101 4 n (sesL ss1) ++ (B bh V4 91 :: (B gp (pC p1) 86 :: (lkE g s2 ++ ((x.ups.flatMap fun b => byR b.1 b.2) ++ (T ++ (sesE (p.t j) sj ++ R1)))))))
            (hb.re (fun z => by simp only [cnt_append, cnt_cons]; omega)) (by have := hov.2.row; rw [hxuv, ← hnu] at this; exact this) 61 61 NL 24 Tryd.underlying61 info22 rfl (by omega) (by omega) ⟨bb, 0, none⟩ 1 (.slice Av L cv) (hb.cellOf (g := bb) (cs := #[.slice Av L cv]) (t := 22) (by simp) 0 rfl) rfl
          obtain ⟨A2, c2, rfl⟩ := row_form hva
          have ha' : St w0 Wa (rowE (.slice (some ⟨gt, 0, none⟩) n ct) 101 4 n (sesL ss1) ++ (rowE (.slice A2 (nu + 1) c2) 22 1 (nu + 1) ((x.ups.map fun b => b.1) ++ [.slice Av L cv]) ++ (B bh V4 91 :: (B gp (pC p1) 86 :: (lkE g s2 ++ ((x.ups.flatMap fun b => byR b.1 b.2) ++ (T ++ (sesE (p.t j) sj ++ R1)))))))) := ha.re (fun z => by simp only [cnt_append, cnt_cons]; omega)
          have za3 : Wa.cell? ⟨gt, q * 4 + 3, none⟩ = some (.slice Au nu cu) := z3 _ _ ha'
          have fza3 := (ha'.at (q * 4 + 3) (by rw [rowlen]; omega) rowlen).2
          obtain ⟨x2, hx2⟩ : ∃ x2 : Se, x2 = { x with uv := .slice A2 (nu + 1) c2, ups := x.ups ++ [(.slice Av L cv, F.body)] } := ⟨_, rfl⟩
          have hset : (sesL ss1).set (q * 4 + 3) (.slice A2 (nu + 1) c2) = sesL (ss1.set q x2) := sesL_set ss1 q x x2 hx 3 (by omega) _ (by rw [hx2]; rfl)
          have hc := ha'.store (q * 4 + 3) (.slice A2 (nu + 1) c2)
          rw [hset] at hc
          obtain ⟨Wc, hWc⟩ : ∃ Wc, Wc = Wa.setCell ⟨gt, q * 4 + 3, none⟩ (.slice A2 (nu + 1) c2) := ⟨_, rfl⟩
          rw [← hWc] at hc
          have M2 : Hid ((Wb.cell? ⟨gp, 7 + i, none⟩ = some (.slice (some ⟨gt, 0, none⟩) n ct) ∧ Wb.cell? ⟨bh, 0, none⟩ = some (.slice Av L cv)) ∧ Wb.cell? ⟨gt, q * 4 + 3, none⟩ = some (.slice Au nu cu)) := ⟨⟨hb.cellOf (g := gp) (cs := pC p1) (t := 86) (by simp) (7 + i) p17, hb.cellOf (g := bh) (cs := V4) (t := 91) (by simp) 0 HV40.out⟩, z3 _ [] (hb.re (fun z => by simp only [cnt_append, cnt_cons, cnt_nil]; omega))⟩
          have M3 : Hid (Wa.cell? ⟨gp, 7 + i, none⟩ = some (.slice (some ⟨gt, 0, none⟩) n ct) ∧ Wa.cell? ⟨bh, 0, none⟩ = some (.slice Av L cv)) := ⟨ha'.cellOf (g := gp) (cs := pC p1) (t := 86) (by simp) (7 + i) p17, ha'.cellOf (g := bh) (cs := V4) (t := 91) (by simp) 0 HV40.out⟩
          have m4 : (Wc.cell? ⟨gp, 7 + i, none⟩ = some (.slice (some ⟨gt, 0, none⟩) n ct) ∧ Wc.cell? ⟨bh, 0, none⟩ = some (.slice Av L cv)) := ⟨hc.cellOf (g := gp) (cs := pC p1) (t := 86) (by simp) (7 + i) p17, hc.cellOf (g := bh) (cs := V4) (t := 91) (by simp) 0 HV40.out⟩
          rw [hWc] at m4
          have M4 : Hid ((Wa.setCell ⟨gt, q * 4 + 3, none⟩ (.slice A2 (nu + 1) c2)).cell? ⟨gp, 7 + i, none⟩ = some (.slice (some ⟨gt, 0, none⟩) n ct) ∧ (Wa.setCell ⟨gt, q * 4 + 3, none⟩ (.slice A2 (nu + 1) c2)).cell? ⟨bh, 0, none⟩ = some (.slice Av L cv)) := m4
          have HRUN := Lib.hid hrun
          have HC := Lib.hid hc
          have HVA := Lib.hid hva
          have HWb := Lib.hid hWb
          have HBB := Lib.hid hbb
          have HWC := Lib.hid hWc
          have HX := Lib.hid hx
          have HX2 := Lib.hid hx2
          have HXM := Lib.hid (And.intro hxm hxy)
          have HXU := Lib.hid hxu
          have HXI := Lib.hid hxi
          have HNU := Lib.hid hnu
          have HNN := Lib.hid hnn
          have HSS := Lib.hid hss1
          have HLS := Lib.hid (And.intro hll hl1)
          have HV1 := Lib.hid hV1
          have HP1 := Lib.hid hp1
          have HP17 := Lib.hid p17
          have HPJ := Lib.hid p1j
          have HTT := Lib.hid hT
          have qn1 : (q : Int) < (n : Int) := by omega
          have qn2 : (n : Int) ≤ 900001 := by omega
          have nu9 : (nu : Int) ≤ 900000 := by omega
          have nu0 : (0 : Int) ≤ (nu : Int) := by omega
          clear CN h5 hV1 hss1 hx hxm hxy hxu hxi hnn hqn hn9 hov hxuv hnu hll hl1 hp1 p17 p1j hT h6 rowlen z3 hd c7 cb0 hWb hbb hb hrun ha hva ha' hx2 hset hc hWc m4 hnu9 d1
          have qd : decide ((q : Int) < 0) = false := by simp
          have HQ9 : Hid (q ≤ 900000) := hq9
          have HN9 : Hid ((n : Int) ≤ 900001) := qn2
          have HU9 : Hid ((nu : Int) ≤ 900000) := nu9
          clear hq9 qq2 nu9 qn2
          go_wp2_with fail
          clear qd
          have SM : ∀ (bb0 : Bool) (w9 : World), (fun (b : Bool) (w9 : World) => (w9.cell? ⟨gp, 7 + i, none⟩ = some (.slice (some ⟨gt, 0, none⟩) n ct) ∧ w9.cell? ⟨bh, 0, none⟩ = some (.slice Av L cv)) ∧ (b = false → w9.cell? ⟨gt, q * 4 + 3, none⟩ = some (.slice Au nu cu))) bb0 w9 → (fun (b : Bool) (w9 : World) => (w9.cell? ⟨gp, 7 + i, none⟩ = some (.slice (some ⟨gt, 0, none⟩) n ct) ∧ w9.cell? ⟨bh, 0, none⟩ = some (.slice Av L cv)) ∧ (b = false → w9.cell? ⟨gt, q * 4 + 3, none⟩ = some (.slice Au nu cu))) true w9 := fun _ _ h => ⟨h.1, fun e => by cases e⟩
          refine RegL.begin_of (k := 20) (S := fun (b : Bool) (w9 : World) => (w9.cell? ⟨gp, 7 + i, none⟩ = some (.slice (some ⟨gt, 0, none⟩) n ct) ∧ w9.cell? ⟨bh, 0, none⟩ = some (.slice Av L cv)) ∧ (b = false → w9.cell? ⟨gt, q * 4 + 3, none⟩ = some (.slice Au nu cu))) (by kernel_rfl) ?_
          refine RegL.take_w (i := 0) (oi := ⟨some 83, _, _, _, _, _⟩) (v := ?_) SM rfl (by decide) (by kernel_rfl) (by kernel_rfl) (by kernel_rfl) (fun _ _ _ h => h) (Or.inl ⟨by rfl, ?_⟩) (HALL.out _) ?_
          rotate_left
          · intro w9 hw9; obtain ⟨⟨q1, q2⟩, q0⟩ := hw9; go_simp; try with_reducible rfl
          try simp only [Act.put, List.setIfInBounds_toArray, List.set_cons_zero, List.set_cons_succ]
          refine RegL.take_w (i := 1) (oi := ⟨some 84, _, _, _, _, _⟩) (v := ?_) SM rfl (by decide) (by kernel_rfl) (by kernel_rfl) (by kernel_rfl) (fun _ _ _ h => h) (Or.inl ⟨by rfl, ?_⟩) (HALL.out _) ?_
          rotate_left
          · intro w9 hw9; obtain ⟨⟨q1, q2⟩, q0⟩ := hw9; go_simp; try with_reducible rfl
          try simp only [Act.put, List.setIfInBounds_toArray, List.set_cons_zero, List.set_cons_succ]
          refine RegL.take_w (i := 2) (oi := ⟨some 85, _, _, _, _, _⟩) (v := ?_) SM rfl (by decide) (by kernel_rfl) (by kernel_rfl) (by kernel_rfl) (fun _ _ _ h => h) (Or.inl ⟨by rfl, ?_⟩) (HALL.out _) ?_
          rotate_left
          · intro w9 hw9; obtain ⟨⟨q1, q2⟩, q0⟩ := hw9; go_simp; try with_reducible rfl
          try simp only [Act.put, List.setIfInBounds_toArray, List.set_cons_zero, List.set_cons_succ]
          refine RegL.take_w (i := 3) (oi := ⟨some 86, _, _, _, _, _⟩) (v := ?_) SM rfl (by decide) (by kernel_rfl) (by kernel_rfl) (by kernel_rfl) (fun _ _ _ h => h) (Or.inl ⟨by rfl, ?_⟩) (HALL.out _) ?_
          rotate_left
          · intro w9 hw9; obtain ⟨⟨q1, q2⟩, q0⟩ := hw9; go_simp; try with_reducible rfl
          try simp only [Act.put, List.setIfInBounds_toArray, List.set_cons_zero, List.set_cons_succ]
          refine RegL.take_w (i := 4) (oi := ⟨some 87, _, _, _, _, _⟩) (v := ?_) SM rfl (by decide) (by kernel_rfl) (by kernel_rfl) (by kernel_rfl) (fun _ _ _ h => h) (Or.inl ⟨by rfl, ?_⟩) (HALL.out _) ?_
          rotate_left
          · intro w9 hw9; obtain ⟨⟨q1, q2⟩, q0⟩ := hw9; go_simp; try with_reducible rfl
          try simp only [Act.put, List.setIfInBounds_toArray, List.set_cons_zero, List.set_cons_succ]
          refine RegL.take_w (i := 5) (oi := ⟨some 88, _, _, _, _, _⟩) (v := ?_) SM rfl (by decide) (by kernel_rfl) (by kernel_rfl) (by kernel_rfl) (fun _ _ _ h => h) (Or.inl ⟨by rfl, ?_⟩) (HALL.out _) ?_
          rotate_left
          · intro w9 hw9; obtain ⟨⟨q1, q2⟩, q0⟩ := hw9; go_simp; try with_reducible rfl
          try simp only [Act.put, List.setIfInBounds_toArray, List.set_cons_zero, List.set_cons_succ]
          refine RegL.take_w (i := 6) (oi := ⟨some 89, _, _, _, _, _⟩) (v := ?_) SM rfl (by decide) (by kernel_rfl) (by kernel_rfl) (by kernel_rfl) (fun _ _ _ h => h) (Or.inl ⟨by rfl, ?_⟩) (HALL.out _) ?_
          rotate_left
          · intro w9 hw9; obtain ⟨⟨q1, q2⟩, q0⟩ := hw9; go_simp; try with_reducible rfl
          try simp only [Act.put, List.setIfInBounds_toArray, List.set_cons_zero, List.set_cons_succ]
          refine RegL.take_w (i := 7) (oi := ⟨some 90, _, _, _, _, _⟩) (v := ?_) SM rfl (by decide) (by kernel_rfl) (by kernel_rfl) (by kernel_rfl) (fun _ _ _ h => h) (Or.inl ⟨by rfl, ?_⟩) (HALL.out _) ?_
          rotate_left
          · intro w9 hw9; obtain ⟨⟨q1, q2⟩, q0⟩ := hw9; go_simp; try with_reducible rfl
          try simp only [Act.put, List.setIfInBounds_toArray, List.set_cons_zero, List.set_cons_succ]
          refine RegL.take_w (i := 8) (oi := ⟨some 91, _, _, _, _, _⟩) (v := ?_) SM rfl (by decide) (by kernel_rfl) (by kernel_rfl) (by kernel_rfl) (fun _ _ _ h => h) (Or.inl ⟨by rfl, ?_⟩) (HALL.out _) ?_
          rotate_left
          · intro w9 hw9; obtain ⟨⟨q1, q2⟩, q0⟩ := hw9; go_simp; try with_reducible rfl
          try simp only [Act.put, List.setIfInBounds_toArray, List.set_cons_zero, List.set_cons_succ]
          refine RegL.take_w (i := 9) (oi := ⟨some 92, _, _, _, _, _⟩) (v := ?_) SM rfl (by decide) (by kernel_rfl) (by kernel_rfl) (by kernel_rfl) (fun _ _ _ h => h) (Or.inl ⟨by rfl, ?_⟩) (HALL.out _) ?_
          rotate_left
          · intro w9 hw9; obtain ⟨⟨q1, q2⟩, q0⟩ := hw9; go_simp; try with_reducible rfl
          try simp only [Act.put, List.setIfInBounds_toArray, List.set_cons_zero, List.set_cons_succ]
          refine RegL.take_w (i := 10) (oi := ⟨some 93, _, _, _, _, _⟩) (v := ?_) SM rfl (by decide) (by kernel_rfl) (by kernel_rfl) (by kernel_rfl) (fun _ _ _ h => h) (Or.inl ⟨by rfl, ?_⟩) (HALL.out _) ?_
          rotate_left
          · intro w9 hw9; obtain ⟨⟨q1, q2⟩, q0⟩ := hw9; go_simp; try with_reducible rfl
          try simp only [Act.put, List.setIfInBounds_toArray, List.set_cons_zero, List.set_cons_succ]
          refine RegL.take_w (i := 11) (oi := ⟨some 94, _, _, _, _, _⟩) (v := ?_) SM rfl (by decide) (by kernel_rfl) (by kernel_rfl) (by kernel_rfl) (fun _ _ _ h => h) (Or.inl ⟨by rfl, ?_⟩) (HALL.out _) ?_
          rotate_left
          · intro w9 hw9; obtain ⟨⟨q1, q2⟩, q0⟩ := hw9; go_simp; try with_reducible rfl
          try simp only [Act.put, List.setIfInBounds_toArray, List.set_cons_zero, List.set_cons_succ]
          refine RegL.take_w (i := 12) (oi := ⟨some 95, _, _, _, _, _⟩) (v := ?_) SM rfl (by decide) (by kernel_rfl) (by kernel_rfl) (by kernel_rfl) (fun _ _ _ h => h) (Or.inl ⟨by rfl, ?_⟩) (HALL.out _) ?_
          rotate_left
          · intro w9 hw9; obtain ⟨⟨q1, q2⟩, q0⟩ := hw9; go_simp; try with_reducible rfl
          try simp only [Act.put, List.setIfInBounds_toArray, List.set_cons_zero, List.set_cons_succ]
          refine RegL.take_w (i := 13) (oi := ⟨some 96, _, _, _, _, _⟩) (v := ?_) SM rfl (by decide) (by kernel_rfl) (by kernel_rfl) (by kernel_rfl) (fun _ _ _ h => h) (Or.inl ⟨by rfl, ?_⟩) (HALL.out _) ?_
          rotate_left
          · intro w9 hw9; obtain ⟨⟨q1, q2⟩, q0⟩ := hw9; go_simp; try with_reducible rfl
          try simp only [Act.put, List.setIfInBounds_toArray, List.set_cons_zero, List.set_cons_succ]
          refine RegL.take_w (i := 14) (oi := ⟨some 97, _, _, _, _, _⟩) (v := ?_) SM rfl (by decide) (by kernel_rfl) (by kernel_rfl) (by kernel_rfl) (fun _ _ _ h => h) (Or.inl ⟨by rfl, ?_⟩) (HALL.out _) ?_
          rotate_left
          · intro w9 hw9; obtain ⟨⟨q1, q2⟩, q0⟩ := hw9; go_simp; try with_reducible rfl
          try simp only [Act.put, List.setIfInBounds_toArray, List.set_cons_zero, List.set_cons_succ]
          refine RegL.take_w (i := 15) (oi := ⟨some 98, _, _, _, _, _⟩) (v := ?_) SM rfl (by decide) (by kernel_rfl) (by kernel_rfl) (by kernel_rfl) (fun _ _ _ h => h) (Or.inl ⟨by rfl, ?_⟩) (HALL.out _) ?_
          rotate_left
          · intro w9 hw9; obtain ⟨⟨q1, q2⟩, q0⟩ := hw9; go_simp; try with_reducible rfl
          try simp only [Act.put, List.setIfInBounds_toArray, List.set_cons_zero, List.set_cons_succ]
          refine RegL.take_s (i := 16) (oi := ⟨some 99, _, _, _, _, _⟩) (ok := ⟨some 103, _, _, _, _, _⟩) (v := ?_) rfl (by decide) rfl (by kernel_rfl) (by kernel_rfl) (by kernel_rfl) (by kernel_rfl) (by kernel_rfl) (fun _ _ _ h => h) (Or.inl ⟨by rfl, ?_⟩) (HALL.out _) ?_
          rotate_left
          · intro w9 hw9; obtain ⟨q9, q0⟩ := hw9; have q1 := q0 rfl; clear q0 q9; go_simp; try with_reducible rfl
          try simp only [Act.put, List.setIfInBounds_toArray, List.set_cons_zero, List.set_cons_succ]
          refine RegL.take_w (i := 17) (oi := ⟨some 100, _, _, _, _, _⟩) (v := ?_) SM rfl (by decide) (by kernel_rfl) (by kernel_rfl) (by kernel_rfl) (fun _ _ _ h => h) (Or.inl ⟨by rfl, ?_⟩) (HALL.out _) ?_
          rotate_left
          · intro w9 hw9; obtain ⟨⟨q1, q2⟩, q0⟩ := hw9; go_simp; try with_reducible rfl
          try simp only [Act.put, List.setIfInBounds_toArray, List.set_cons_zero, List.set_cons_succ]
          refine RegL.take_w (i := 18) (oi := ⟨some 101, _, _, _, _, _⟩) (v := ?_) SM rfl (by decide) (by kernel_rfl) (by kernel_rfl) (by kernel_rfl) (fun _ _ _ h => h) (Or.inl ⟨by rfl, ?_⟩) (HALL.out _) ?_
          rotate_left
          · intro w9 hw9; obtain ⟨⟨q1, q2⟩, q0⟩ := hw9; go_simp; try with_reducible rfl
          try simp only [Act.put, List.setIfInBounds_toArray, List.set_cons_zero, List.set_cons_succ]
          refine RegL.step_of (i := 19) (o := ⟨some 102, _, _, _, _, _⟩) (by kernel_rfl) rfl (fun K' hK => ?_)
          go_simp
          rw [← HWb.out, ← HBB.out]
          refine hK _ _ (⟨M2.out.1, fun _ => M2.out.2⟩) ?_
          clear hK K'
          try simp only [Act.put, List.setIfInBounds_toArray, List.set_cons_zero, List.set_cons_succ]
          refine RegL.step_of (i := 20) (o := ⟨some 103, _, _, _, _, _⟩) (by kernel_rfl) rfl (fun K' hK => ?_)
          refine step_append_run (o := ⟨some 103, _, _, _, _, _⟩) rfl (.tmp 99) (.tmp 102) 61 rfl (.slice Au nu cu) (.slice (some ⟨bb, 0, none⟩) 1 1) (.slice A2 (nu + 1) c2) Wa rfl rfl HRUN.out ?_
          refine hK _ _ (⟨M3.out, fun e => by cases e⟩) ?_
          clear hK K'
          try simp only [Act.put, List.setIfInBounds_toArray, List.set_cons_zero, List.set_cons_succ]
          refine RegL.take_w (i := 21) (oi := ⟨some 104, _, _, _, _, _⟩) (v := ?_) SM rfl (by decide) (by kernel_rfl) (by kernel_rfl) (by kernel_rfl) (fun _ _ _ h => h) (Or.inl ⟨by rfl, ?_⟩) (⟨M3.out, fun e => by cases e⟩) ?_
          rotate_left
          · intro w9 hw9; obtain ⟨⟨q1, q2⟩, q0⟩ := hw9; go_simp; try with_reducible rfl
          try simp only [Act.put, List.setIfInBounds_toArray, List.set_cons_zero, List.set_cons_succ]
          refine RegL.take_w (i := 22) (oi := ⟨some 105, _, _, _, _, _⟩) (v := ?_) SM rfl (by decide) (by kernel_rfl) (by kernel_rfl) (by kernel_rfl) (fun _ _ _ h => h) (Or.inl ⟨by rfl, ?_⟩) (⟨M3.out, fun e => by cases e⟩) ?_
          rotate_left
          · intro w9 hw9; obtain ⟨⟨q1, q2⟩, q0⟩ := hw9; go_simp; try with_reducible rfl
          try simp only [Act.put, List.setIfInBounds_toArray, List.set_cons_zero, List.set_cons_succ]
          refine RegL.step_of (i := 23) (o := ⟨none, _, _, _, _, _⟩) (by kernel_rfl) rfl (fun K' hK => ?_)
          go_simp
          refine hK _ _ (⟨M4.out, fun e => by cases e⟩) ?_
          clear hK K'
          try simp only [Act.put, List.setIfInBounds_toArray, List.set_cons_zero, List.set_cons_succ]
          refine RegL.done_of (by kernel_rfl) ?_ _
          rw [← HWC.out]
          clear za3 fza3 M2 M3 M4 HALL
          have hc := HC.out
          have y7 : Wc.cell? ⟨gp, 7 + i, none⟩ = some (.slice (some ⟨gt, 0, none⟩) n ct) := hc.cellOf (g := gp) (cs := pC p1) (t := 86) (by simp) (7 + i) HP17.out
          have hslen : (sesL (ss1.set q x2)).length = n * 4 := by rw [sesL_len, List.length_set, ← HNN.out]
          have hx2g : (ss1.set q x2)[q]? = some x2 := by rw [List.getElem?_set_self (by rw [← HNN.out]; omega)]
          have y3 : Wc.cell? ⟨gt, q * 4 + 3, none⟩ = some (.slice A2 (nu + 1) c2) := by
            have := (hc.at (q * 4 + 3) (by rw [hslen]; omega) hslen).1
            rw [sesL_get hx2g 3 (by omega)] at this
            rw [this, HX2.out]; rfl
          have hV2 : SesV (.slice (some ⟨gt, 0, none⟩) n ct) (ss1.set q x2) := by
            refine ⟨⟨by rw [hslen, List.length_set, ← HNN.out], ?_⟩, fun z hz => ?_⟩
            · rcases HV1.out.row.2 with ⟨q1, q2⟩ | ⟨g9, c9, q1, q2, q3⟩
              · cases q1
              · injection q1 with q4 q5 q6
                injection q4 with q4
                injection q4 with q4
                subst q6
                subst q4
                exact .inr ⟨gt, ct, by rw [List.length_set, ← HNN.out], by rw [List.length_set]; exact q2, q3⟩
            · rcases List.mem_or_eq_of_mem_set hz with hz | rfl
              · exact HV1.out.of_ z hz
              · rw [HX2.out]
                refine ⟨(HV1.out.of_ x (List.mem_of_getElem? HX.out)).1, ⟨?_, fun b hb => ?_⟩⟩
                · have := HVA.out
                  show rowV (.slice A2 (nu + 1) c2) 1 (x.ups ++ [(Value.slice Av L cv, F.body)]).length ((x.ups ++ [(Value.slice Av L cv, F.body)]).map fun b => b.1)
                  rw [List.length_append, ← HNU.out, List.map_append]; exact this
                · rcases List.mem_append.1 hb with hb | hb
                  · exact (HV1.out.of_ x (List.mem_of_getElem? HX.out)).2.by_ b hb
                  · obtain rfl := List.mem_singleton.1 hb
                    have := HV2.out.2; rw [← HLL.out] at this; exact this
          have hz2 : St w0 Wc (B gp (pC p1) 86 :: (sesE (p1.t i) (ss1.set q x2) ++ (sesE (p1.t j) sj ++ (B bh V4 91 :: (lkE g s2 ++ (B b3 (frC F A c) 69 :: R0)))))) := by
            have e1 : p1.t i = .slice (some ⟨gt, 0, none⟩) n ct := by rw [HP1.out]; exact upd_same ..
            rw [e1, HPJ.out]
            refine hc.re (fun z => ?_)
            have e2 : ss1.set q x2 = l1 ++ x2 :: l2 := by
              rw [HLS.out.1, List.set_append_right _ _ (by rw [HLS.out.2]; exact Nat.le_refl _), HLS.out.2, Nat.sub_self]; rfl
            rw [HTT.out, HR1.out]
            simp only [sesE, List.length_set, ← HNN.out]
            rw [e2, List.flatMap_append, List.flatMap_cons]
            simp only [seR, outE, HX2.out, List.length_append, List.length_cons, List.length_nil, Nat.zero_add, ← HNU.out, List.map_append, List.map_cons, List.map_nil, List.flatMap_append, List.flatMap_cons, List.flatMap_nil, cnt_append, cnt_cons, cnt_nil]
            omega
          have ep1 : p1.t i = .slice (some ⟨gt, 0, none⟩) n ct := by rw [HP1.out]; exact upd_same ..
          have CH2 := handed_calls (p := p1) (sa := ss1.set q x2) (ss := sj) i j q HI.out HJ.out hz2 (by rw [ep1]; exact hV2) (by rw [HPJ.out]; exact HVJ.out) (by have := HNJ.out; omega) (by rw [List.length_set, ← HNN.out]; have := HN9.out; omega) x2 hx2g
          have ex2 : x2.yours = y ∧ x2.mine = m := by rw [HX2.out]; exact ⟨HXM.out.2, HXM.out.1⟩
          rw [ex2.1, ex2.2] at CH2
          -- what the other side was handed in
          obtain ⟨u, hu, hum, huy, hui⟩ : ∃ u, sj[fnd y m sj]? = some u ∧ u.mine = y ∧ u.yours = m ∧ insOf y m sj = u.ins := by
            have e := HB0.out
            rw [← HM.out, ← HY.out] at e
            unfold insOf at e ⊢
            cases e2 : sj[fnd y m sj]? with
            | none => rw [e2] at e; simp at e
            | some u => exact ⟨u, rfl, (fnd_hit y m sj u e2).1, (fnd_hit y m sj u e2).2, rfl⟩
          have hinv : insV y m sj = u.iv := by unfold insV; rw [hu]
          have hub := (HVJ.out.of_ u (List.mem_of_getElem? hu)).1
          obtain ⟨An, cn, hun⟩ := row_form hub.row
          obtain ⟨N, hN⟩ : ∃ N, N = u.ins.length := ⟨_, rfl⟩
          rw [← hN] at hun
          rw [hinv, hun] at CH2
          have e0 := HB0.out
          have e1 : upsOf (p.life i) F.mine si = x.ups := by rw [← HM.out, ← HY.out]; exact HXU.out.symm
          rw [e1, ← HM.out, ← HY.out, hui, ← HNU.out] at e0
          have hnuN : nu < N := by rw [hN]; exact (List.getElem?_eq_some_iff.1 e0).1
          obtain ⟨gn, hgn⟩ : ∃ gn, An = some ⟨gn, 0, none⟩ := by
            rcases hub.row.2 with ⟨q1, q2⟩ | ⟨gt, _, q1, _⟩
            · omega
            · rw [hun] at q1; injection q1 with q1; exact ⟨gt, q1⟩
          have hN9 : N ≤ 900000 := by have q1 := HIN.out; rw [← HM.out, ← HY.out, hui] at q1; omega
          have HCH := Lib.hid CH2
          have HV2' := Lib.hid hV2
          have HU := Lib.hid hu
          have HUB := Lib.hid hub
          have HUN := Lib.hid hun
          have HNN2 := Lib.hid hN
          have HE0 := Lib.hid e0
          have HGN := Lib.hid hgn
          have HX2G := Lib.hid hx2g
          have w1 : IntKind.i64.wrap ((nu : Int) + 1) = (nu : Int) + 1 := IntWalk.i64_in _ ⟨by omega, by omega⟩
          have nn1 : (nu : Int) + 1 ≤ (N : Int) := by omega
          have nn2 : (N : Int) ≤ 900000 := by omega
          clear hc hslen hx2g hV2 hz2 CH2 ex2 hu hum huy hui hinv hub hun hN e0 e1 hgn
          go_wp2_with fail
          refine HCH.out.mono ?_; rintro e w7 ⟨rfl, h7⟩
          have hgn := HGN.out
          subst hgn
          obtain ⟨bv0, by0⟩ := b0
          have eb1 : by0 = F.body := HB1.out
          subst eb1
          have hbv0 := HUB.out.by_ _ (List.mem_of_getElem? HE0.out)
          simp only at hbv0
          obtain ⟨Ab, cb, rfl⟩ := byV_form hbv0
          have hbl := HLL.out
          rw [← hbl] at hbv0 HE0
          have hmu := List.mem_of_getElem? HU.out
          have hcu : ∀ z, cnt z (outE (.slice (some ⟨gn, 0, none⟩) N cn) u.ins) ≤ cnt z (sesE (p1.t j) sj) := fun z => by
            have q1 := ses_flat_le sj u hmu z
            have q2 : cnt z (seR u) = cnt z (outE (.slice (some ⟨gn, 0, none⟩) N cn) u.ins) + cnt z (outE u.uv u.ups) := by unfold seR; rw [cnt_append, HUN.out]
            unfold sesE; rw [cnt_append]; omega
          have hgn0 : ∀ w9 L9, St w0 w9 (sesE (p1.t j) sj ++ L9) → w9.cell? ⟨gn, nu, none⟩ = some (.slice Ab L cb) := fun w9 L9 h9 => by
            have hE : St w0 w9 (rowE (.slice (some ⟨gn, 0, none⟩) N cn) 22 1 N (u.ins.map fun b => b.1) ++ []) := h9.re (fun z => by have := hcu z; unfold outE at this; rw [← HNN2.out] at this; simp only [cnt_append, cnt_nil] at this ⊢; omega)
            have := (hE.at nu (by rw [List.length_map, ← HNN2.out]; omega) (by rw [List.length_map, ← HNN2.out]; omega)).1
            rw [this, List.getElem?_map, HE0.out]; rfl
          have hrd : ∀ w9 L9, St w0 w9 (sesE (p1.t j) sj ++ L9) → ReadsOf I 0 w9 Ab F.body.length F.body := fun w9 L9 h9 => by
            refine by_readsK h9 rfl (fun z => ?_) (by rw [← hbl]; exact hbv0)
            have q1 := hcu z
            have q2 := flat_le u.ins _ (List.mem_of_getElem? HE0.out) z
            unfold outE at q1
            rw [← hbl]
            rw [cnt_append] at q1 ⊢
            simp only at q2
            omega
          obtain ⟨R2, hR2⟩ : ∃ R2, R2 = (B gp (pC p1) 86 :: (sesE (p1.t i) (ss1.set q x2) ++ (B bh V4 91 :: (lkE g s2 ++ (B b3 (frC F A c) 69 :: R0))))) := ⟨_, rfl⟩
          have h8 : ∀ w9, Below w7.heap.size w7 w9 → St w0 w9 (sesE (p1.t j) sj ++ R2) := fun w9 hb9 => (h7.below hb9).re (fun z => by rw [hR2]; simp only [cnt_append, cnt_cons]; omega)
          have hbh : ∀ w9, Below w7.heap.size w7 w9 → w9.cell? ⟨bh, 0, none⟩ = some (.slice Av L cv) := fun w9 hb9 => (h7.below hb9).cellOf (g := bh) (cs := V4) (t := 91) (by simp) 0 HV40.out
          -- the body that was handed up lies in the row of what was handed up
          have hrup : ReadsOf I 0 w7.drew Av F.body.length F.body := by
            refine by_readsK (h8 _ (Below.refl _ _).drew) rfl (fun z => ?_) HV2.out.2
            rw [hR2]
            have hx2m : x2 ∈ ss1.set q x2 := List.mem_of_getElem? HX2G.out
            have q1 := ses_flat_le _ x2 hx2m z
            have q2 : cnt z (byR (.slice Av F.body.length cv) F.body) ≤ cnt z (seR x2) := by
              unfold seR outE
              rw [HX2.out]
              simp only [List.flatMap_append, List.flatMap_cons, List.flatMap_nil, cnt_append, cnt_nil, ← hbl]; omega
            simp only [sesE, cnt_append, cnt_cons]; omega
          have K18 : Hid (∀ w9, Below w7.heap.size w7 w9 → w9.cell? ⟨gn, nu, none⟩ = some (.slice Ab L cb) ∧ w9.cell? ⟨bh, 0, none⟩ = some (.slice Av L cv)) := fun w9 hb9 => ⟨hgn0 _ _ (h8 w9 hb9), hbh w9 hb9⟩
          have H18 : Hid (w7.drew.cell? ⟨gn, nu, none⟩ = some (.slice Ab L cb) ∧ w7.drew.cell? ⟨bh, 0, none⟩ = some (.slice Av L cv)) := K18.out _ (Below.refl _ _).drew
          have CQ : Hid (Calls Tryd.prog 34 #[.slice Ab L cb, .slice Av L cv] w7.drew fun e w' => e = .returned (.bool true) ∧ Below w7.heap.size w7 w') := by
            have cq := eq_calls F.body F.body Ab Av cb cv w7.drew (hrd _ _ (h8 _ (Below.refl _ _).drew)) hrup (by have := HFIT.out.b; omega)
            rw [← hbl] at cq
            refine cq.mono ?_
            rintro e w' ⟨b9, he, hb9, hbl9⟩
            obtain rfl : b9 = true := hb9.2 rfl
            exact ⟨he, ((Below.refl _ _).drew).trans hbl9⟩
          have H7 := Lib.hid h7
          have HNN1 : Hid ((N : Int) ≤ 900000) := nn2
          have HNNN := Lib.hid hnuN
          have HBL := Lib.hid hbl
          have dl : decide ((nu : Int) + 1 ≤ (N : Int)) = true := by simp; omega
          have w2 : IntKind.i64.wrap ((nu : Int) + 1 - 1) = (nu : Int) := by rw [show (nu : Int) + 1 - 1 = (nu : Int) by omega]; exact IntWalk.i64_in _ ⟨by omega, by omega⟩
          have w3 : (nu : Int) + 1 - 1 = (nu : Int) := by omega
          have w4 : IntKind.i64.wrap (nu : Int) = (nu : Int) := IntWalk.i64_in _ ⟨by omega, by omega⟩
          have nn3 : (nu : Int) < (N : Int) := by omega
          clear h7 hbv0 hbl hmu hcu hgn0 hrd hR2 h8 hbh hrup nn1 nn2 hN9 hnuN
          go_upto_region 18 with fail
          have SM : ∀ (bb0 : Bool) (w9 : World), (fun (_ : Bool) (w9 : World) => w9.cell? ⟨gn, nu, none⟩ = some (.slice Ab L cb) ∧ w9.cell? ⟨bh, 0, none⟩ = some (.slice Av L cv)) bb0 w9 → (fun (_ : Bool) (w9 : World) => w9.cell? ⟨gn, nu, none⟩ = some (.slice Ab L cb) ∧ w9.cell? ⟨bh, 0, none⟩ = some (.slice Av L cv)) true w9 := fun _ _ h => h
          refine RegL.begin_of (k := 99) (S := fun (_ : Bool) (w9 : World) => w9.cell? ⟨gn, nu, none⟩ = some (.slice Ab L cb) ∧ w9.cell? ⟨bh, 0, none⟩ = some (.slice Av L cv)) (by kernel_rfl) ?_
          refine RegL.take_w (i := 0) (oi := ⟨some 121, _, _, _, _, _⟩) (v := ?_) SM rfl (by decide) (by kernel_rfl) (by kernel_rfl) (by kernel_rfl) (fun _ _ _ h => h) (Or.inl ⟨by rfl, ?_⟩) (H18.out) ?_
          rotate_left
          · intro w9 hw9; obtain ⟨q1, q2⟩ := hw9; go_simp; try with_reducible rfl
          try simp only [Act.put, List.setIfInBounds_toArray, List.set_cons_zero, List.set_cons_succ]
          refine RegL.take_w (i := 1) (oi := ⟨some 122, _, _, _, _, _⟩) (v := ?_) SM rfl (by decide) (by kernel_rfl) (by kernel_rfl) (by kernel_rfl) (fun _ _ _ h => h) (Or.inl ⟨by rfl, ?_⟩) (H18.out) ?_
          rotate_left
          · intro w9 hw9; obtain ⟨q1, q2⟩ := hw9; go_simp; try with_reducible rfl
          try simp only [Act.put, List.setIfInBounds_toArray, List.set_cons_zero, List.set_cons_succ]
          refine RegL.take_w (i := 2) (oi := ⟨some 123, _, _, _, _, _⟩) (v := ?_) SM rfl (by decide) (by kernel_rfl) (by kernel_rfl) (by kernel_rfl) (fun _ _ _ h => h) (Or.inl ⟨by rfl, ?_⟩) (H18.out) ?_
          rotate_left
          · intro w9 hw9; obtain ⟨q1, q2⟩ := hw9; go_simp; try with_reducible rfl
          try simp only [Act.put, List.setIfInBounds_toArray, List.set_cons_zero, List.set_cons_succ]
          refine RegL.take_w (i := 3) (oi := ⟨some 124, _, _, _, _, _⟩) (v := ?_) SM rfl (by decide) (by kernel_rfl) (by kernel_rfl) (by kernel_rfl) (fun _ _ _ h => h) (Or.inl ⟨by rfl, ?_⟩) (H18.out) ?_
          rotate_left
          · intro w9 hw9; obtain ⟨q1, q2⟩ := hw9; go_simp; try with_reducible rfl
          try simp only [Act.put, List.setIfInBounds_toArray, List.set_cons_zero, List.set_cons_succ]
          refine RegL.take_w (i := 4) (oi := ⟨some 125, _, _, _, _, _⟩) (v := ?_) SM rfl (by decide) (by kernel_rfl) (by kernel_rfl) (by kernel_rfl) (fun _ _ _ h => h) (Or.inl ⟨by rfl, ?_⟩) (H18.out) ?_
          rotate_left
          · intro w9 hw9; obtain ⟨q1, q2⟩ := hw9; go_simp; try with_reducible rfl
          try simp only [Act.put, List.setIfInBounds_toArray, List.set_cons_zero, List.set_cons_succ]
          refine RegL.take_w (i := 5) (oi := ⟨some 126, _, _, _, _, _⟩) (v := ?_) SM rfl (by decide) (by kernel_rfl) (by kernel_rfl) (by kernel_rfl) (fun _ _ _ h => h) (Or.inl ⟨by rfl, ?_⟩) (H18.out) ?_
          rotate_left
          · intro w9 hw9; obtain ⟨q1, q2⟩ := hw9; go_simp; try with_reducible rfl
          try simp only [Act.put, List.setIfInBounds_toArray, List.set_cons_zero, List.set_cons_succ]
          refine RegL.take_w (i := 6) (oi := ⟨some 127, _, _, _, _, _⟩) (v := ?_) SM rfl (by decide) (by kernel_rfl) (by kernel_rfl) (by kernel_rfl) (fun _ _ _ h => h) (Or.inl ⟨by rfl, ?_⟩) (H18.out) ?_
          rotate_left
          · intro w9 hw9; obtain ⟨q1, q2⟩ := hw9; go_simp; try with_reducible rfl
          try simp only [Act.put, List.setIfInBounds_toArray, List.set_cons_zero, List.set_cons_succ]
          refine RegL.take_w (i := 7) (oi := ⟨some 128, _, _, _, _, _⟩) (v := ?_) SM rfl (by decide) (by kernel_rfl) (by kernel_rfl) (by kernel_rfl) (fun _ _ _ h => h) (Or.inl ⟨by rfl, ?_⟩) (H18.out) ?_
          rotate_left
          · intro w9 hw9; obtain ⟨q1, q2⟩ := hw9; go_simp; try with_reducible rfl
          try simp only [Act.put, List.setIfInBounds_toArray, List.set_cons_zero, List.set_cons_succ]
          refine RegL.take_w (i := 8) (oi := ⟨some 129, _, _, _, _, _⟩) (v := ?_) SM rfl (by decide) (by kernel_rfl) (by kernel_rfl) (by kernel_rfl) (fun _ _ _ h => h) (Or.inl ⟨by rfl, ?_⟩) (H18.out) ?_
          rotate_left
          · intro w9 hw9; obtain ⟨q1, q2⟩ := hw9; go_simp; try with_reducible rfl
          try simp only [Act.put, List.setIfInBounds_toArray, List.set_cons_zero, List.set_cons_succ]
          refine RegL.take_w (i := 9) (oi := ⟨some 130, _, _, _, _, _⟩) (v := ?_) SM rfl (by decide) (by kernel_rfl) (by kernel_rfl) (by kernel_rfl) (fun _ _ _ h => h) (Or.inl ⟨by rfl, ?_⟩) (H18.out) ?_
          rotate_left
          · intro w9 hw9; obtain ⟨q1, q2⟩ := hw9; go_simp; try with_reducible rfl
          try simp only [Act.put, List.setIfInBounds_toArray, List.set_cons_zero, List.set_cons_succ]
          refine RegL.take_w (i := 10) (oi := ⟨some 131, _, _, _, _, _⟩) (v := ?_) SM rfl (by decide) (by kernel_rfl) (by kernel_rfl) (by kernel_rfl) (fun _ _ _ h => h) (Or.inl ⟨by rfl, ?_⟩) (H18.out) ?_
          rotate_left
          · intro w9 hw9; obtain ⟨q1, q2⟩ := hw9; go_simp; try with_reducible rfl
          try simp only [Act.put, List.setIfInBounds_toArray, List.set_cons_zero, List.set_cons_succ]
          refine RegL.take_w (i := 11) (oi := ⟨some 132, _, _, _, _, _⟩) (v := ?_) SM rfl (by decide) (by kernel_rfl) (by kernel_rfl) (by kernel_rfl) (fun _ _ _ h => h) (Or.inl ⟨by rfl, ?_⟩) (H18.out) ?_
          rotate_left
          · intro w9 hw9; obtain ⟨q1, q2⟩ := hw9; go_simp; try with_reducible rfl
          try simp only [Act.put, List.setIfInBounds_toArray, List.set_cons_zero, List.set_cons_succ]
          refine RegL.step_of (i := 12) (o := ⟨some 133, _, _, _, _, _⟩) (by kernel_rfl) rfl (fun K' hK => ?_)
          go_simp
          go_at_call 34
          (with_reducible refine CQ.out.mono ?_)
          rintro e w9 ⟨rfl, hbq⟩
          have HBQ := Lib.hid hbq
          clear hbq
          refine hK _ _ (K18.out _ HBQ.out) ?_
          clear hK K'
          try simp only [Act.put, List.setIfInBounds_toArray, List.set_cons_zero, List.set_cons_succ]
          refine RegL.take_w (i := 13) (oi := ⟨some 134, _, _, _, _, _⟩) (v := ?_) SM rfl (by decide) (by kernel_rfl) (by kernel_rfl) (by kernel_rfl) (fun _ _ _ h => h) (Or.inl ⟨by rfl, ?_⟩) (K18.out _ HBQ.out) ?_
          rotate_left
          · intro w9 hw9; obtain ⟨q1, q2⟩ := hw9; go_simp; try with_reducible rfl
          try simp only [Act.put, List.setIfInBounds_toArray, List.set_cons_zero, List.set_cons_succ]
          refine RegL.take_w (i := 14) (oi := ⟨some 4, _, _, _, _, _⟩) (v := ?_) SM rfl (by decide) (by kernel_rfl) (by kernel_rfl) (by kernel_rfl) (fun _ _ _ h => h) (Or.inl ⟨by rfl, ?_⟩) (K18.out _ HBQ.out) ?_
          rotate_left
          · intro w9 hw9; obtain ⟨q1, q2⟩ := hw9; go_simp; try with_reducible rfl
          try simp only [Act.put, List.setIfInBounds_toArray, List.set_cons_zero, List.set_cons_succ]
          refine RegL.done_of (by kernel_rfl) ?_ _
          go_wp2_with fail
          go_ret
          have eup : upS (p.life i) F.mine si (.slice A2 (nu + 1) c2) (.slice Av L cv, F.body) = ss1.set q x2 := by
            unfold upS
            rw [← HM.out, ← HY.out, ← HSS.out, ← HQ.out, HX.out, HX2.out]
          refine ⟨rfl, iv, ?_, .slice (some ⟨gt, 0, none⟩) n ct, .slice A2 (nu + 1) c2, .slice Av L cv, ?_, ?_⟩
          · have := HV2.out.1; rw [HS2.out] at this; exact this
          · rw [eup]; exact HV2'.out
          · rw [eup, ← HP1.out, ← HS2.out]
            have e1 : p1.t i = .slice (some ⟨gt, 0, none⟩) n ct := by rw [HP1.out]; exact upd_same ..
            refine (H7.out.below HBQ.out).re (fun z => ?_)
            rw [e1, HPJ.out]
            simp only [cnt_append, cnt_cons]; omega
end Go.Proofs.YtoeiaimoppmjdaaDoor.Lk
