/- Merged by merge2.py out of the texts: Hear, Within, PairS, Enc2, Say, TickP. -/
import Derived.Test.YtoeiaimoppmjdaaDoorZu2
import Derived.Deep.DeepCutAuto
import Derived.Deep.CutBlock
import Derived.Test.YtoeiaimoppmjdaaDoorZu1
/- Hear of a link. Printed by gen_hear.py. -/
namespace Go.Proofs.YtoeiaimoppmjdaaDoor.Lk
open Go.RowKit Go.Proofs.YtoeiaimoppmjdaaDoorW.PrintWords Go.Proofs.YtoeiaimoppmjdaaDoor.Mem Go.Proofs.YtoeiaimoppmjdaaDoor.Wr Go.Proofs.YtoeiaimoppmjdaaDoor.Bytes Go.Proofs.YtoeiaimoppmjdaaDoor.App
open Go.Proofs.YtoeiaimoppmjdaaDoor.Pace (nxt IsO dbl reset_calls)
set_option linter.unusedVariables false
set_option linter.unusedSimpArgs false
set_option maxRecDepth 100000 in
set_option maxHeartbeats 6400000 in
theorem hear_calls {w0 W : World} {R : List Ent} {g : Nat} {s : LS} (f : Frm) (A : Option Addr) (c : Nat) (h : St w0 W (lkE g s ++ R)) (hV : LkV s) (hr : RdR w0 R A f.body) (hb : Byt f.body) (hm : f.body.length ≤ 140737488355328) (hgo : s.gone + s.items.length < 18446744073709551616) (hhe : s.heard + 1 < 18446744073709551616) :
    Calls Tryd.prog 54 #[pt g, .agg (frC f A c)] W fun e w' => ∃ iv v, e = .returned (.agg #[v, .bool (handedP s f), .bool (anewP s f), .bool (fineP s f)]) ∧ byV v (bodyP s f) ∧ LkV { hearP s f with iv := iv } ∧ St w0 w' (lkE g { hearP s f with iv := iv } ++ (byR v (bodyP s f) ++ R)) := by
  obtain ⟨W1, hW1⟩ : ∃ W1, W1 = W.alloc (.cells (frC f A c) 69) := ⟨_, rfl⟩
  obtain ⟨bf, hbf⟩ : ∃ bf, bf = W.heap.size := ⟨_, rfl⟩
  have h1 := h.newB (frC f A c) 69
  rw [← hW1, ← hbf] at h1
  obtain ⟨W2, hW2⟩ : ∃ W2, W2 = W1.alloc (.cells #[NL, .bool false, .bool false, .bool false] 91) := ⟨_, rfl⟩
  obtain ⟨bh, hbh⟩ : ∃ bh, bh = W1.heap.size := ⟨_, rfl⟩
  have h2 := h1.newB #[NL, .bool false, .bool false, .bool false] 91
  rw [← hW2, ← hbh] at h2
  have H2 := Lib.hid (h2.re (M := lkE g s ++ (B bf (frC f A c) 69 :: (B bh #[NL, .bool false, .bool false, .bool false] 91 :: R))) (fun x => by simp only [cnt_append, cnt_cons]; omega))
  have HBH : Hid (bh = bf + 1) := by show bh = _; rw [hbh, hW1, hbf]; simp
  have HV := Lib.hid hV
  have HR := Lib.hid hr
  have HBY := Lib.hid hb
  have HM := Lib.hid hm
  have HGO := Lib.hid hgo
  have HHE := Lib.hid hhe
  have HW1 := Lib.hid hW1
  have HBF := Lib.hid hbf
  have HW2 := Lib.hid hW2
  clear h h1 h2 hV hr hb hm hgo hhe hW1 hbf hW2 hbh
  go_enter Tryd.func54, Tryd.ntmps54
  go_upto_region 1 with fail
  rw [← HW1.out, ← HBF.out, ← HW2.out, ← HBH.out]
  go_cut [34] (fun s34 wx => s34 = .bool (badP s f) ∧ St w0 wx (lkE g s ++ (B bf (frC f A c) 69 :: (B bh #[NL, .bool false, .bool false, .bool false] 91 :: R))))
  case first =>
    have y0 : W2.cell? ⟨bf, 0, none⟩ = some (.int .i64 f.src) := H2.out.cellOf (g := bf) (cs := frC f A c) (t := 69) (by simp) 0 rfl
    have y1 : W2.cell? ⟨bf, 1, none⟩ = some (.int .i64 f.dst) := H2.out.cellOf (g := bf) (cs := frC f A c) (t := 69) (by simp) 1 rfl
    have y2 : W2.cell? ⟨bf, 2, none⟩ = some (.int .u64 (f.mine : Int)) := H2.out.cellOf (g := bf) (cs := frC f A c) (t := 69) (by simp) 2 rfl
    have y3 : W2.cell? ⟨bf, 3, none⟩ = some (.int .u64 (f.yours : Int)) := H2.out.cellOf (g := bf) (cs := frC f A c) (t := 69) (by simp) 3 rfl
    have y4 : W2.cell? ⟨bf, 4, none⟩ = some (.int .u64 (f.seq : Int)) := H2.out.cellOf (g := bf) (cs := frC f A c) (t := 69) (by simp) 4 rfl
    have y5 : W2.cell? ⟨bf, 5, none⟩ = some (.int .u64 (f.ack : Int)) := H2.out.cellOf (g := bf) (cs := frC f A c) (t := 69) (by simp) 5 rfl
    have y6 : W2.cell? ⟨bf, 6, none⟩ = some (.slice A f.body.length c) := H2.out.cellOf (g := bf) (cs := frC f A c) (t := 69) (by simp) 6 rfl
    have z0 : W2.cell? ⟨g, 0, none⟩ = some (.int .i64 s.me) := lk_cell H2.out 0 rfl
    have z1 : W2.cell? ⟨g, 1, none⟩ = some (.int .i64 s.other) := lk_cell H2.out 1 rfl
    have z3 : W2.cell? ⟨g, 3, none⟩ = some (.int .u64 (s.known : Int)) := lk_cell H2.out 3 rfl
    cases hf : fitB f with
    | false =>
      · have hbd : Below W2.heap.size W2 W2.drew := (Below.refl _ _).drew
        have HBD := Lib.hid hbd
        have CF := Lib.hid (fit_calls f A c W2.drew)
        have eb : badP s f = true := by unfold badP; rw [hf]; rfl
        have EB := Lib.hid eb
        rw [hf] at CF
        clear hf
        have SK : Hid (∀ w9, Below W2.heap.size W2 w9 → w9.cell? ⟨bf, 0, none⟩ = some (.int .i64 f.src) ∧ w9.cell? ⟨bf, 1, none⟩ = some (.int .i64 f.dst) ∧ w9.cell? ⟨bf, 2, none⟩ = some (.int .u64 (f.mine : Int)) ∧ w9.cell? ⟨bf, 3, none⟩ = some (.int .u64 (f.yours : Int)) ∧ w9.cell? ⟨bf, 4, none⟩ = some (.int .u64 (f.seq : Int)) ∧ w9.cell? ⟨bf, 5, none⟩ = some (.int .u64 (f.ack : Int)) ∧ w9.cell? ⟨bf, 6, none⟩ = some (.slice A f.body.length c) ∧ w9.cell? ⟨g, 0, none⟩ = some (.int .i64 s.me) ∧ w9.cell? ⟨g, 1, none⟩ = some (.int .i64 s.other) ∧ w9.cell? ⟨g, 3, none⟩ = some (.int .u64 (s.known : Int))) := fun w9 h => ⟨pw_cell_below h y0, pw_cell_below h y1, pw_cell_below h y2, pw_cell_below h y3, pw_cell_below h y4, pw_cell_below h y5, pw_cell_below h y6, pw_cell_below h z0, pw_cell_below h z1, pw_cell_below h z3⟩
        clear hbd eb y0 y1 y2 y3 y4 y5 y6 z0 z1 z3
        have SM : ∀ (bb0 : Bool) (w9 : World), (fun (_ : Bool) (w9 : World) => w9.cell? ⟨bf, 0, none⟩ = some (.int .i64 f.src) ∧ w9.cell? ⟨bf, 1, none⟩ = some (.int .i64 f.dst) ∧ w9.cell? ⟨bf, 2, none⟩ = some (.int .u64 (f.mine : Int)) ∧ w9.cell? ⟨bf, 3, none⟩ = some (.int .u64 (f.yours : Int)) ∧ w9.cell? ⟨bf, 4, none⟩ = some (.int .u64 (f.seq : Int)) ∧ w9.cell? ⟨bf, 5, none⟩ = some (.int .u64 (f.ack : Int)) ∧ w9.cell? ⟨bf, 6, none⟩ = some (.slice A f.body.length c) ∧ w9.cell? ⟨g, 0, none⟩ = some (.int .i64 s.me) ∧ w9.cell? ⟨g, 1, none⟩ = some (.int .i64 s.other) ∧ w9.cell? ⟨g, 3, none⟩ = some (.int .u64 (s.known : Int))) bb0 w9 → (fun (_ : Bool) (w9 : World) => w9.cell? ⟨bf, 0, none⟩ = some (.int .i64 f.src) ∧ w9.cell? ⟨bf, 1, none⟩ = some (.int .i64 f.dst) ∧ w9.cell? ⟨bf, 2, none⟩ = some (.int .u64 (f.mine : Int)) ∧ w9.cell? ⟨bf, 3, none⟩ = some (.int .u64 (f.yours : Int)) ∧ w9.cell? ⟨bf, 4, none⟩ = some (.int .u64 (f.seq : Int)) ∧ w9.cell? ⟨bf, 5, none⟩ = some (.int .u64 (f.ack : Int)) ∧ w9.cell? ⟨bf, 6, none⟩ = some (.slice A f.body.length c) ∧ w9.cell? ⟨g, 0, none⟩ = some (.int .i64 s.me) ∧ w9.cell? ⟨g, 1, none⟩ = some (.int .i64 s.other) ∧ w9.cell? ⟨g, 3, none⟩ = some (.int .u64 (s.known : Int))) true w9 := fun _ _ h => h
        refine RegL.begin_of (k := 99) (S := fun (_ : Bool) (w9 : World) => w9.cell? ⟨bf, 0, none⟩ = some (.int .i64 f.src) ∧ w9.cell? ⟨bf, 1, none⟩ = some (.int .i64 f.dst) ∧ w9.cell? ⟨bf, 2, none⟩ = some (.int .u64 (f.mine : Int)) ∧ w9.cell? ⟨bf, 3, none⟩ = some (.int .u64 (f.yours : Int)) ∧ w9.cell? ⟨bf, 4, none⟩ = some (.int .u64 (f.seq : Int)) ∧ w9.cell? ⟨bf, 5, none⟩ = some (.int .u64 (f.ack : Int)) ∧ w9.cell? ⟨bf, 6, none⟩ = some (.slice A f.body.length c) ∧ w9.cell? ⟨g, 0, none⟩ = some (.int .i64 s.me) ∧ w9.cell? ⟨g, 1, none⟩ = some (.int .i64 s.other) ∧ w9.cell? ⟨g, 3, none⟩ = some (.int .u64 (s.known : Int))) (by kernel_rfl) ?_
        refine RegL.take_w (i := 0) (oi := ⟨some 5, _, _, _, _, _⟩) (v := .agg #[(.int .i64 f.src), (.int .i64 f.dst), (.int .u64 (f.mine : Int)), (.int .u64 (f.yours : Int)), (.int .u64 (f.seq : Int)), (.int .u64 (f.ack : Int)), (.slice A f.body.length c)]) SM rfl (by decide) (by kernel_rfl) (by kernel_rfl) (by kernel_rfl) (fun _ _ _ h => h) (yieldsIf_load_mid (by rfl) 69 (.tmp 3) rfl bf 0 rfl [(.int .i64 f.src), (.int .i64 f.dst), (.int .u64 (f.mine : Int)), (.int .u64 (f.yours : Int)), (.int .u64 (f.seq : Int)), (.int .u64 (f.ack : Int)), (.slice A f.body.length c)] _ (fun w9 hw9 => by obtain ⟨q1, q2, q3, q4, q5, q6, q7, q8, q9, q10⟩ := hw9; exact range7 q1 q2 q3 q4 q5 q6 q7) Tryd.underlying69 rfl infoF) (SK.out _ HBD.out) ?_
        try simp only [Act.put, List.setIfInBounds_toArray, List.set_cons_zero, List.set_cons_succ]
        refine RegL.step_of (i := 1) (o := ⟨some 6, _, _, _, _, _⟩) (by kernel_rfl) rfl (fun K' hK => ?_)
        go_simp
        go_at_call 84
        (with_reducible refine CF.out.mono ?_)
        rintro e w9 ⟨rfl, hb9⟩
        have HB9 : Hid (Below W2.heap.size W2 w9) := HBD.out.trans hb9
        clear hb9
        refine hK _ _ (SK.out _ HB9.out) ?_
        clear hK K'
        try simp only [Act.put, List.setIfInBounds_toArray, List.set_cons_zero, List.set_cons_succ]
        refine RegL.take_w (i := 2) (oi := ⟨some 7, _, _, _, _, _⟩) (v := ?_) SM rfl (by decide) (by kernel_rfl) (by kernel_rfl) (by kernel_rfl) (fun _ _ _ h => h) (Or.inl ⟨by rfl, ?_⟩) (SK.out _ HB9.out) ?_
        rotate_left
        · intro w9 hw9; obtain ⟨q1, q2, q3, q4, q5, q6, q7, q8, q9, q10⟩ := hw9; go_simp; try with_reducible rfl
        try simp only [Act.put, List.setIfInBounds_toArray, List.set_cons_zero, List.set_cons_succ]
        refine RegL.take_w (i := 3) (oi := ⟨some 8, _, _, _, _, _⟩) (v := ?_) SM rfl (by decide) (by kernel_rfl) (by kernel_rfl) (by kernel_rfl) (fun _ _ _ h => h) (Or.inl ⟨by rfl, ?_⟩) (SK.out _ HB9.out) ?_
        rotate_left
        · intro w9 hw9; obtain ⟨q1, q2, q3, q4, q5, q6, q7, q8, q9, q10⟩ := hw9; go_simp; try with_reducible rfl
        try simp only [Act.put, List.setIfInBounds_toArray, List.set_cons_zero, List.set_cons_succ]
        refine RegL.take_w (i := 4) (oi := ⟨some 9, _, _, _, _, _⟩) (v := undef) SM rfl (by decide) (by kernel_rfl) (by kernel_rfl) (by kernel_rfl) (fun _ _ _ h => h) (Or.inr ⟨by rfl, rfl⟩) (SK.out _ HB9.out) ?_
        try simp only [Act.put, List.setIfInBounds_toArray, List.set_cons_zero, List.set_cons_succ]
        refine RegL.take_w (i := 5) (oi := ⟨some 10, _, _, _, _, _⟩) (v := undef) SM rfl (by decide) (by kernel_rfl) (by kernel_rfl) (by kernel_rfl) (fun _ _ _ h => h) (Or.inr ⟨by rfl, rfl⟩) (SK.out _ HB9.out) ?_
        try simp only [Act.put, List.setIfInBounds_toArray, List.set_cons_zero, List.set_cons_succ]
        refine RegL.take_w (i := 6) (oi := ⟨some 11, _, _, _, _, _⟩) (v := undef) SM rfl (by decide) (by kernel_rfl) (by kernel_rfl) (by kernel_rfl) (fun _ _ _ h => h) (Or.inr ⟨by rfl, rfl⟩) (SK.out _ HB9.out) ?_
        try simp only [Act.put, List.setIfInBounds_toArray, List.set_cons_zero, List.set_cons_succ]
        refine RegL.take_w (i := 7) (oi := ⟨some 12, _, _, _, _, _⟩) (v := undef) SM rfl (by decide) (by kernel_rfl) (by kernel_rfl) (by kernel_rfl) (fun _ _ _ h => h) (Or.inr ⟨by rfl, rfl⟩) (SK.out _ HB9.out) ?_
        try simp only [Act.put, List.setIfInBounds_toArray, List.set_cons_zero, List.set_cons_succ]
        refine RegL.take_w (i := 8) (oi := ⟨some 13, _, _, _, _, _⟩) (v := undef) SM rfl (by decide) (by kernel_rfl) (by kernel_rfl) (by kernel_rfl) (fun _ _ _ h => h) (Or.inr ⟨by rfl, rfl⟩) (SK.out _ HB9.out) ?_
        try simp only [Act.put, List.setIfInBounds_toArray, List.set_cons_zero, List.set_cons_succ]
        refine RegL.take_w (i := 9) (oi := ⟨some 14, _, _, _, _, _⟩) (v := undef) SM rfl (by decide) (by kernel_rfl) (by kernel_rfl) (by kernel_rfl) (fun _ _ _ h => h) (Or.inr ⟨by rfl, rfl⟩) (SK.out _ HB9.out) ?_
        try simp only [Act.put, List.setIfInBounds_toArray, List.set_cons_zero, List.set_cons_succ]
        refine RegL.take_w (i := 10) (oi := ⟨some 15, _, _, _, _, _⟩) (v := undef) SM rfl (by decide) (by kernel_rfl) (by kernel_rfl) (by kernel_rfl) (fun _ _ _ h => h) (Or.inr ⟨by rfl, rfl⟩) (SK.out _ HB9.out) ?_
        try simp only [Act.put, List.setIfInBounds_toArray, List.set_cons_zero, List.set_cons_succ]
        refine RegL.take_w (i := 11) (oi := ⟨some 16, _, _, _, _, _⟩) (v := ?_) SM rfl (by decide) (by kernel_rfl) (by kernel_rfl) (by kernel_rfl) (fun _ _ _ h => h) (Or.inl ⟨by rfl, ?_⟩) (SK.out _ HB9.out) ?_
        rotate_left
        · intro w9 hw9; obtain ⟨q1, q2, q3, q4, q5, q6, q7, q8, q9, q10⟩ := hw9; go_simp; try with_reducible rfl
        try simp only [Act.put, List.setIfInBounds_toArray, List.set_cons_zero, List.set_cons_succ]
        refine RegL.take_w (i := 12) (oi := ⟨some 17, _, _, _, _, _⟩) (v := ?_) SM rfl (by decide) (by kernel_rfl) (by kernel_rfl) (by kernel_rfl) (fun _ _ _ h => h) (Or.inl ⟨by rfl, ?_⟩) (SK.out _ HB9.out) ?_
        rotate_left
        · intro w9 hw9; obtain ⟨q1, q2, q3, q4, q5, q6, q7, q8, q9, q10⟩ := hw9; go_simp; try with_reducible rfl
        try simp only [Act.put, List.setIfInBounds_toArray, List.set_cons_zero, List.set_cons_succ]
        refine RegL.take_w (i := 13) (oi := ⟨some 18, _, _, _, _, _⟩) (v := undef) SM rfl (by decide) (by kernel_rfl) (by kernel_rfl) (by kernel_rfl) (fun _ _ _ h => h) (Or.inr ⟨by rfl, rfl⟩) (SK.out _ HB9.out) ?_
        try simp only [Act.put, List.setIfInBounds_toArray, List.set_cons_zero, List.set_cons_succ]
        refine RegL.take_w (i := 14) (oi := ⟨some 19, _, _, _, _, _⟩) (v := undef) SM rfl (by decide) (by kernel_rfl) (by kernel_rfl) (by kernel_rfl) (fun _ _ _ h => h) (Or.inr ⟨by rfl, rfl⟩) (SK.out _ HB9.out) ?_
        try simp only [Act.put, List.setIfInBounds_toArray, List.set_cons_zero, List.set_cons_succ]
        refine RegL.take_w (i := 15) (oi := ⟨some 20, _, _, _, _, _⟩) (v := undef) SM rfl (by decide) (by kernel_rfl) (by kernel_rfl) (by kernel_rfl) (fun _ _ _ h => h) (Or.inr ⟨by rfl, rfl⟩) (SK.out _ HB9.out) ?_
        try simp only [Act.put, List.setIfInBounds_toArray, List.set_cons_zero, List.set_cons_succ]
        refine RegL.take_w (i := 16) (oi := ⟨some 21, _, _, _, _, _⟩) (v := undef) SM rfl (by decide) (by kernel_rfl) (by kernel_rfl) (by kernel_rfl) (fun _ _ _ h => h) (Or.inr ⟨by rfl, rfl⟩) (SK.out _ HB9.out) ?_
        try simp only [Act.put, List.setIfInBounds_toArray, List.set_cons_zero, List.set_cons_succ]
        refine RegL.take_w (i := 17) (oi := ⟨some 22, _, _, _, _, _⟩) (v := undef) SM rfl (by decide) (by kernel_rfl) (by kernel_rfl) (by kernel_rfl) (fun _ _ _ h => h) (Or.inr ⟨by rfl, rfl⟩) (SK.out _ HB9.out) ?_
        try simp only [Act.put, List.setIfInBounds_toArray, List.set_cons_zero, List.set_cons_succ]
        refine RegL.take_w (i := 18) (oi := ⟨some 23, _, _, _, _, _⟩) (v := undef) SM rfl (by decide) (by kernel_rfl) (by kernel_rfl) (by kernel_rfl) (fun _ _ _ h => h) (Or.inr ⟨by rfl, rfl⟩) (SK.out _ HB9.out) ?_
        try simp only [Act.put, List.setIfInBounds_toArray, List.set_cons_zero, List.set_cons_succ]
        refine RegL.take_w (i := 19) (oi := ⟨some 24, _, _, _, _, _⟩) (v := undef) SM rfl (by decide) (by kernel_rfl) (by kernel_rfl) (by kernel_rfl) (fun _ _ _ h => h) (Or.inr ⟨by rfl, rfl⟩) (SK.out _ HB9.out) ?_
        try simp only [Act.put, List.setIfInBounds_toArray, List.set_cons_zero, List.set_cons_succ]
        refine RegL.take_w (i := 20) (oi := ⟨some 25, _, _, _, _, _⟩) (v := ?_) SM rfl (by decide) (by kernel_rfl) (by kernel_rfl) (by kernel_rfl) (fun _ _ _ h => h) (Or.inl ⟨by rfl, ?_⟩) (SK.out _ HB9.out) ?_
        rotate_left
        · intro w9 hw9; obtain ⟨q1, q2, q3, q4, q5, q6, q7, q8, q9, q10⟩ := hw9; go_simp; try with_reducible rfl
        try simp only [Act.put, List.setIfInBounds_toArray, List.set_cons_zero, List.set_cons_succ]
        refine RegL.take_w (i := 21) (oi := ⟨some 26, _, _, _, _, _⟩) (v := ?_) SM rfl (by decide) (by kernel_rfl) (by kernel_rfl) (by kernel_rfl) (fun _ _ _ h => h) (Or.inl ⟨by rfl, ?_⟩) (SK.out _ HB9.out) ?_
        rotate_left
        · intro w9 hw9; obtain ⟨q1, q2, q3, q4, q5, q6, q7, q8, q9, q10⟩ := hw9; go_simp; try with_reducible rfl
        try simp only [Act.put, List.setIfInBounds_toArray, List.set_cons_zero, List.set_cons_succ]
        refine RegL.take_w (i := 22) (oi := ⟨some 27, _, _, _, _, _⟩) (v := undef) SM rfl (by decide) (by kernel_rfl) (by kernel_rfl) (by kernel_rfl) (fun _ _ _ h => h) (Or.inr ⟨by rfl, rfl⟩) (SK.out _ HB9.out) ?_
        try simp only [Act.put, List.setIfInBounds_toArray, List.set_cons_zero, List.set_cons_succ]
        refine RegL.take_w (i := 23) (oi := ⟨some 28, _, _, _, _, _⟩) (v := undef) SM rfl (by decide) (by kernel_rfl) (by kernel_rfl) (by kernel_rfl) (fun _ _ _ h => h) (Or.inr ⟨by rfl, rfl⟩) (SK.out _ HB9.out) ?_
        try simp only [Act.put, List.setIfInBounds_toArray, List.set_cons_zero, List.set_cons_succ]
        refine RegL.take_w (i := 24) (oi := ⟨some 29, _, _, _, _, _⟩) (v := undef) SM rfl (by decide) (by kernel_rfl) (by kernel_rfl) (by kernel_rfl) (fun _ _ _ h => h) (Or.inr ⟨by rfl, rfl⟩) (SK.out _ HB9.out) ?_
        try simp only [Act.put, List.setIfInBounds_toArray, List.set_cons_zero, List.set_cons_succ]
        refine RegL.take_w (i := 25) (oi := ⟨some 30, _, _, _, _, _⟩) (v := undef) SM rfl (by decide) (by kernel_rfl) (by kernel_rfl) (by kernel_rfl) (fun _ _ _ h => h) (Or.inr ⟨by rfl, rfl⟩) (SK.out _ HB9.out) ?_
        try simp only [Act.put, List.setIfInBounds_toArray, List.set_cons_zero, List.set_cons_succ]
        refine RegL.take_w (i := 26) (oi := ⟨some 31, _, _, _, _, _⟩) (v := undef) SM rfl (by decide) (by kernel_rfl) (by kernel_rfl) (by kernel_rfl) (fun _ _ _ h => h) (Or.inr ⟨by rfl, rfl⟩) (SK.out _ HB9.out) ?_
        try simp only [Act.put, List.setIfInBounds_toArray, List.set_cons_zero, List.set_cons_succ]
        refine RegL.take_w (i := 27) (oi := ⟨some 32, _, _, _, _, _⟩) (v := undef) SM rfl (by decide) (by kernel_rfl) (by kernel_rfl) (by kernel_rfl) (fun _ _ _ h => h) (Or.inr ⟨by rfl, rfl⟩) (SK.out _ HB9.out) ?_
        try simp only [Act.put, List.setIfInBounds_toArray, List.set_cons_zero, List.set_cons_succ]
        refine RegL.take_w (i := 28) (oi := ⟨some 33, _, _, _, _, _⟩) (v := undef) SM rfl (by decide) (by kernel_rfl) (by kernel_rfl) (by kernel_rfl) (fun _ _ _ h => h) (Or.inr ⟨by rfl, rfl⟩) (SK.out _ HB9.out) ?_
        try simp only [Act.put, List.setIfInBounds_toArray, List.set_cons_zero, List.set_cons_succ]
        refine RegL.take_w (i := 29) (oi := ⟨some 34, _, _, _, _, _⟩) (v := ?_) SM rfl (by decide) (by kernel_rfl) (by kernel_rfl) (by kernel_rfl) (fun _ _ _ h => h) (Or.inl ⟨by rfl, ?_⟩) (SK.out _ HB9.out) ?_
        rotate_left
        · intro w9 hw9; obtain ⟨q1, q2, q3, q4, q5, q6, q7, q8, q9, q10⟩ := hw9; go_simp; try with_reducible rfl
        try simp only [Act.put, List.setIfInBounds_toArray, List.set_cons_zero, List.set_cons_succ]
        refine RegL.done_of (by kernel_rfl) ?_ _
        go_wp2_with fail
        go_meet
        exact ⟨by rw [EB.out], H2.out.below HB9.out⟩
    | true =>
      by_cases hs : f.src = s.other
      · by_cases hd : f.dst = s.me
        · by_cases hk : f.mine < s.known
          · have hbd : Below W2.heap.size W2 W2.drew := (Below.refl _ _).drew
            have HBD := Lib.hid hbd
            have CF := Lib.hid (fit_calls f A c W2.drew)
            have eb : badP s f = true := by unfold badP; rw [hf, hs, hd, decide_eq_true hk]; simp
            have EB := Lib.hid eb
            rw [hf] at CF
            have j1 : (f.mine : Int) < (s.known : Int) := by omega
            rw [hs] at y0
            rw [hd] at y1
            have CF' := CF.out
            rw [show frC f A c = #[.int .i64 s.other, .int .i64 s.me, .int .u64 (f.mine : Int), .int .u64 (f.yours : Int), .int .u64 (f.seq : Int), .int .u64 (f.ack : Int), .slice A f.body.length c] by unfold frC; rw [hs, hd]] at CF'
            replace CF := Lib.hid CF'
            clear CF' hf hs hd hk
            have SK : Hid (∀ w9, Below W2.heap.size W2 w9 → w9.cell? ⟨bf, 0, none⟩ = some (.int .i64 s.other) ∧ w9.cell? ⟨bf, 1, none⟩ = some (.int .i64 s.me) ∧ w9.cell? ⟨bf, 2, none⟩ = some (.int .u64 (f.mine : Int)) ∧ w9.cell? ⟨bf, 3, none⟩ = some (.int .u64 (f.yours : Int)) ∧ w9.cell? ⟨bf, 4, none⟩ = some (.int .u64 (f.seq : Int)) ∧ w9.cell? ⟨bf, 5, none⟩ = some (.int .u64 (f.ack : Int)) ∧ w9.cell? ⟨bf, 6, none⟩ = some (.slice A f.body.length c) ∧ w9.cell? ⟨g, 0, none⟩ = some (.int .i64 s.me) ∧ w9.cell? ⟨g, 1, none⟩ = some (.int .i64 s.other) ∧ w9.cell? ⟨g, 3, none⟩ = some (.int .u64 (s.known : Int))) := fun w9 h => ⟨pw_cell_below h y0, pw_cell_below h y1, pw_cell_below h y2, pw_cell_below h y3, pw_cell_below h y4, pw_cell_below h y5, pw_cell_below h y6, pw_cell_below h z0, pw_cell_below h z1, pw_cell_below h z3⟩
            clear hbd eb y0 y1 y2 y3 y4 y5 y6 z0 z1 z3
            have SM : ∀ (bb0 : Bool) (w9 : World), (fun (_ : Bool) (w9 : World) => w9.cell? ⟨bf, 0, none⟩ = some (.int .i64 s.other) ∧ w9.cell? ⟨bf, 1, none⟩ = some (.int .i64 s.me) ∧ w9.cell? ⟨bf, 2, none⟩ = some (.int .u64 (f.mine : Int)) ∧ w9.cell? ⟨bf, 3, none⟩ = some (.int .u64 (f.yours : Int)) ∧ w9.cell? ⟨bf, 4, none⟩ = some (.int .u64 (f.seq : Int)) ∧ w9.cell? ⟨bf, 5, none⟩ = some (.int .u64 (f.ack : Int)) ∧ w9.cell? ⟨bf, 6, none⟩ = some (.slice A f.body.length c) ∧ w9.cell? ⟨g, 0, none⟩ = some (.int .i64 s.me) ∧ w9.cell? ⟨g, 1, none⟩ = some (.int .i64 s.other) ∧ w9.cell? ⟨g, 3, none⟩ = some (.int .u64 (s.known : Int))) bb0 w9 → (fun (_ : Bool) (w9 : World) => w9.cell? ⟨bf, 0, none⟩ = some (.int .i64 s.other) ∧ w9.cell? ⟨bf, 1, none⟩ = some (.int .i64 s.me) ∧ w9.cell? ⟨bf, 2, none⟩ = some (.int .u64 (f.mine : Int)) ∧ w9.cell? ⟨bf, 3, none⟩ = some (.int .u64 (f.yours : Int)) ∧ w9.cell? ⟨bf, 4, none⟩ = some (.int .u64 (f.seq : Int)) ∧ w9.cell? ⟨bf, 5, none⟩ = some (.int .u64 (f.ack : Int)) ∧ w9.cell? ⟨bf, 6, none⟩ = some (.slice A f.body.length c) ∧ w9.cell? ⟨g, 0, none⟩ = some (.int .i64 s.me) ∧ w9.cell? ⟨g, 1, none⟩ = some (.int .i64 s.other) ∧ w9.cell? ⟨g, 3, none⟩ = some (.int .u64 (s.known : Int))) true w9 := fun _ _ h => h
            refine RegL.begin_of (k := 99) (S := fun (_ : Bool) (w9 : World) => w9.cell? ⟨bf, 0, none⟩ = some (.int .i64 s.other) ∧ w9.cell? ⟨bf, 1, none⟩ = some (.int .i64 s.me) ∧ w9.cell? ⟨bf, 2, none⟩ = some (.int .u64 (f.mine : Int)) ∧ w9.cell? ⟨bf, 3, none⟩ = some (.int .u64 (f.yours : Int)) ∧ w9.cell? ⟨bf, 4, none⟩ = some (.int .u64 (f.seq : Int)) ∧ w9.cell? ⟨bf, 5, none⟩ = some (.int .u64 (f.ack : Int)) ∧ w9.cell? ⟨bf, 6, none⟩ = some (.slice A f.body.length c) ∧ w9.cell? ⟨g, 0, none⟩ = some (.int .i64 s.me) ∧ w9.cell? ⟨g, 1, none⟩ = some (.int .i64 s.other) ∧ w9.cell? ⟨g, 3, none⟩ = some (.int .u64 (s.known : Int))) (by kernel_rfl) ?_
            refine RegL.take_w (i := 0) (oi := ⟨some 5, _, _, _, _, _⟩) (v := .agg #[(.int .i64 s.other), (.int .i64 s.me), (.int .u64 (f.mine : Int)), (.int .u64 (f.yours : Int)), (.int .u64 (f.seq : Int)), (.int .u64 (f.ack : Int)), (.slice A f.body.length c)]) SM rfl (by decide) (by kernel_rfl) (by kernel_rfl) (by kernel_rfl) (fun _ _ _ h => h) (yieldsIf_load_mid (by rfl) 69 (.tmp 3) rfl bf 0 rfl [(.int .i64 s.other), (.int .i64 s.me), (.int .u64 (f.mine : Int)), (.int .u64 (f.yours : Int)), (.int .u64 (f.seq : Int)), (.int .u64 (f.ack : Int)), (.slice A f.body.length c)] _ (fun w9 hw9 => by obtain ⟨q1, q2, q3, q4, q5, q6, q7, q8, q9, q10⟩ := hw9; exact range7 q1 q2 q3 q4 q5 q6 q7) Tryd.underlying69 rfl infoF) (SK.out _ HBD.out) ?_
            try simp only [Act.put, List.setIfInBounds_toArray, List.set_cons_zero, List.set_cons_succ]
            refine RegL.step_of (i := 1) (o := ⟨some 6, _, _, _, _, _⟩) (by kernel_rfl) rfl (fun K' hK => ?_)
            go_simp
            go_at_call 84
            (with_reducible refine CF.out.mono ?_)
            rintro e w9 ⟨rfl, hb9⟩
            have HB9 : Hid (Below W2.heap.size W2 w9) := HBD.out.trans hb9
            clear hb9
            refine hK _ _ (SK.out _ HB9.out) ?_
            clear hK K'
            try simp only [Act.put, List.setIfInBounds_toArray, List.set_cons_zero, List.set_cons_succ]
            refine RegL.take_w (i := 2) (oi := ⟨some 7, _, _, _, _, _⟩) (v := ?_) SM rfl (by decide) (by kernel_rfl) (by kernel_rfl) (by kernel_rfl) (fun _ _ _ h => h) (Or.inl ⟨by rfl, ?_⟩) (SK.out _ HB9.out) ?_
            rotate_left
            · intro w9 hw9; obtain ⟨q1, q2, q3, q4, q5, q6, q7, q8, q9, q10⟩ := hw9; go_simp; try with_reducible rfl
            try simp only [Act.put, List.setIfInBounds_toArray, List.set_cons_zero, List.set_cons_succ]
            refine RegL.take_w (i := 3) (oi := ⟨some 8, _, _, _, _, _⟩) (v := ?_) SM rfl (by decide) (by kernel_rfl) (by kernel_rfl) (by kernel_rfl) (fun _ _ _ h => h) (Or.inl ⟨by rfl, ?_⟩) (SK.out _ HB9.out) ?_
            rotate_left
            · intro w9 hw9; obtain ⟨q1, q2, q3, q4, q5, q6, q7, q8, q9, q10⟩ := hw9; go_simp; try with_reducible rfl
            try simp only [Act.put, List.setIfInBounds_toArray, List.set_cons_zero, List.set_cons_succ]
            refine RegL.take_w (i := 4) (oi := ⟨some 9, _, _, _, _, _⟩) (v := ?_) SM rfl (by decide) (by kernel_rfl) (by kernel_rfl) (by kernel_rfl) (fun _ _ _ h => h) (Or.inl ⟨by rfl, ?_⟩) (SK.out _ HB9.out) ?_
            rotate_left
            · intro w9 hw9; obtain ⟨q1, q2, q3, q4, q5, q6, q7, q8, q9, q10⟩ := hw9; go_simp; try with_reducible rfl
            try simp only [Act.put, List.setIfInBounds_toArray, List.set_cons_zero, List.set_cons_succ]
            refine RegL.take_w (i := 5) (oi := ⟨some 10, _, _, _, _, _⟩) (v := ?_) SM rfl (by decide) (by kernel_rfl) (by kernel_rfl) (by kernel_rfl) (fun _ _ _ h => h) (Or.inl ⟨by rfl, ?_⟩) (SK.out _ HB9.out) ?_
            rotate_left
            · intro w9 hw9; obtain ⟨q1, q2, q3, q4, q5, q6, q7, q8, q9, q10⟩ := hw9; go_simp; try with_reducible rfl
            try simp only [Act.put, List.setIfInBounds_toArray, List.set_cons_zero, List.set_cons_succ]
            refine RegL.take_w (i := 6) (oi := ⟨some 11, _, _, _, _, _⟩) (v := ?_) SM rfl (by decide) (by kernel_rfl) (by kernel_rfl) (by kernel_rfl) (fun _ _ _ h => h) (Or.inl ⟨by rfl, ?_⟩) (SK.out _ HB9.out) ?_
            rotate_left
            · intro w9 hw9; obtain ⟨q1, q2, q3, q4, q5, q6, q7, q8, q9, q10⟩ := hw9; go_simp; try with_reducible rfl
            try simp only [Act.put, List.setIfInBounds_toArray, List.set_cons_zero, List.set_cons_succ]
            refine RegL.take_w (i := 7) (oi := ⟨some 12, _, _, _, _, _⟩) (v := ?_) SM rfl (by decide) (by kernel_rfl) (by kernel_rfl) (by kernel_rfl) (fun _ _ _ h => h) (Or.inl ⟨by rfl, ?_⟩) (SK.out _ HB9.out) ?_
            rotate_left
            · intro w9 hw9; obtain ⟨q1, q2, q3, q4, q5, q6, q7, q8, q9, q10⟩ := hw9; go_simp; try with_reducible rfl
            try simp only [Act.put, List.setIfInBounds_toArray, List.set_cons_zero, List.set_cons_succ]
            refine RegL.take_w (i := 8) (oi := ⟨some 13, _, _, _, _, _⟩) (v := ?_) SM rfl (by decide) (by kernel_rfl) (by kernel_rfl) (by kernel_rfl) (fun _ _ _ h => h) (Or.inl ⟨by rfl, ?_⟩) (SK.out _ HB9.out) ?_
            rotate_left
            · intro w9 hw9; obtain ⟨q1, q2, q3, q4, q5, q6, q7, q8, q9, q10⟩ := hw9; go_simp; try with_reducible rfl
            try simp only [Act.put, List.setIfInBounds_toArray, List.set_cons_zero, List.set_cons_succ]
            refine RegL.take_w (i := 9) (oi := ⟨some 14, _, _, _, _, _⟩) (v := ?_) SM rfl (by decide) (by kernel_rfl) (by kernel_rfl) (by kernel_rfl) (fun _ _ _ h => h) (Or.inl ⟨by rfl, ?_⟩) (SK.out _ HB9.out) ?_
            rotate_left
            · intro w9 hw9; obtain ⟨q1, q2, q3, q4, q5, q6, q7, q8, q9, q10⟩ := hw9; go_simp; try with_reducible rfl
            try simp only [Act.put, List.setIfInBounds_toArray, List.set_cons_zero, List.set_cons_succ]
            refine RegL.take_w (i := 10) (oi := ⟨some 15, _, _, _, _, _⟩) (v := ?_) SM rfl (by decide) (by kernel_rfl) (by kernel_rfl) (by kernel_rfl) (fun _ _ _ h => h) (Or.inl ⟨by rfl, ?_⟩) (SK.out _ HB9.out) ?_
            rotate_left
            · intro w9 hw9; obtain ⟨q1, q2, q3, q4, q5, q6, q7, q8, q9, q10⟩ := hw9; go_simp; try with_reducible rfl
            try simp only [Act.put, List.setIfInBounds_toArray, List.set_cons_zero, List.set_cons_succ]
            refine RegL.take_w (i := 11) (oi := ⟨some 16, _, _, _, _, _⟩) (v := ?_) SM rfl (by decide) (by kernel_rfl) (by kernel_rfl) (by kernel_rfl) (fun _ _ _ h => h) (Or.inl ⟨by rfl, ?_⟩) (SK.out _ HB9.out) ?_
            rotate_left
            · intro w9 hw9; obtain ⟨q1, q2, q3, q4, q5, q6, q7, q8, q9, q10⟩ := hw9; go_simp; try with_reducible rfl
            try simp only [Act.put, List.setIfInBounds_toArray, List.set_cons_zero, List.set_cons_succ]
            refine RegL.take_w (i := 12) (oi := ⟨some 17, _, _, _, _, _⟩) (v := ?_) SM rfl (by decide) (by kernel_rfl) (by kernel_rfl) (by kernel_rfl) (fun _ _ _ h => h) (Or.inl ⟨by rfl, ?_⟩) (SK.out _ HB9.out) ?_
            rotate_left
            · intro w9 hw9; obtain ⟨q1, q2, q3, q4, q5, q6, q7, q8, q9, q10⟩ := hw9; go_simp; try with_reducible rfl
            try simp only [Act.put, List.setIfInBounds_toArray, List.set_cons_zero, List.set_cons_succ]
            refine RegL.take_w (i := 13) (oi := ⟨some 18, _, _, _, _, _⟩) (v := ?_) SM rfl (by decide) (by kernel_rfl) (by kernel_rfl) (by kernel_rfl) (fun _ _ _ h => h) (Or.inl ⟨by rfl, ?_⟩) (SK.out _ HB9.out) ?_
            rotate_left
            · intro w9 hw9; obtain ⟨q1, q2, q3, q4, q5, q6, q7, q8, q9, q10⟩ := hw9; go_simp; try with_reducible rfl
            try simp only [Act.put, List.setIfInBounds_toArray, List.set_cons_zero, List.set_cons_succ]
            refine RegL.take_w (i := 14) (oi := ⟨some 19, _, _, _, _, _⟩) (v := ?_) SM rfl (by decide) (by kernel_rfl) (by kernel_rfl) (by kernel_rfl) (fun _ _ _ h => h) (Or.inl ⟨by rfl, ?_⟩) (SK.out _ HB9.out) ?_
            rotate_left
            · intro w9 hw9; obtain ⟨q1, q2, q3, q4, q5, q6, q7, q8, q9, q10⟩ := hw9; go_simp; try with_reducible rfl
            try simp only [Act.put, List.setIfInBounds_toArray, List.set_cons_zero, List.set_cons_succ]
            refine RegL.take_w (i := 15) (oi := ⟨some 20, _, _, _, _, _⟩) (v := ?_) SM rfl (by decide) (by kernel_rfl) (by kernel_rfl) (by kernel_rfl) (fun _ _ _ h => h) (Or.inl ⟨by rfl, ?_⟩) (SK.out _ HB9.out) ?_
            rotate_left
            · intro w9 hw9; obtain ⟨q1, q2, q3, q4, q5, q6, q7, q8, q9, q10⟩ := hw9; go_simp; try with_reducible rfl
            try simp only [Act.put, List.setIfInBounds_toArray, List.set_cons_zero, List.set_cons_succ]
            refine RegL.take_w (i := 16) (oi := ⟨some 21, _, _, _, _, _⟩) (v := ?_) SM rfl (by decide) (by kernel_rfl) (by kernel_rfl) (by kernel_rfl) (fun _ _ _ h => h) (Or.inl ⟨by rfl, ?_⟩) (SK.out _ HB9.out) ?_
            rotate_left
            · intro w9 hw9; obtain ⟨q1, q2, q3, q4, q5, q6, q7, q8, q9, q10⟩ := hw9; go_simp; try with_reducible rfl
            try simp only [Act.put, List.setIfInBounds_toArray, List.set_cons_zero, List.set_cons_succ]
            refine RegL.take_w (i := 17) (oi := ⟨some 22, _, _, _, _, _⟩) (v := ?_) SM rfl (by decide) (by kernel_rfl) (by kernel_rfl) (by kernel_rfl) (fun _ _ _ h => h) (Or.inl ⟨by rfl, ?_⟩) (SK.out _ HB9.out) ?_
            rotate_left
            · intro w9 hw9; obtain ⟨q1, q2, q3, q4, q5, q6, q7, q8, q9, q10⟩ := hw9; go_simp; try with_reducible rfl
            try simp only [Act.put, List.setIfInBounds_toArray, List.set_cons_zero, List.set_cons_succ]
            refine RegL.take_w (i := 18) (oi := ⟨some 23, _, _, _, _, _⟩) (v := ?_) SM rfl (by decide) (by kernel_rfl) (by kernel_rfl) (by kernel_rfl) (fun _ _ _ h => h) (Or.inl ⟨by rfl, ?_⟩) (SK.out _ HB9.out) ?_
            rotate_left
            · intro w9 hw9; obtain ⟨q1, q2, q3, q4, q5, q6, q7, q8, q9, q10⟩ := hw9; go_simp; try with_reducible rfl
            try simp only [Act.put, List.setIfInBounds_toArray, List.set_cons_zero, List.set_cons_succ]
            refine RegL.take_w (i := 19) (oi := ⟨some 24, _, _, _, _, _⟩) (v := ?_) SM rfl (by decide) (by kernel_rfl) (by kernel_rfl) (by kernel_rfl) (fun _ _ _ h => h) (Or.inl ⟨by rfl, ?_⟩) (SK.out _ HB9.out) ?_
            rotate_left
            · intro w9 hw9; obtain ⟨q1, q2, q3, q4, q5, q6, q7, q8, q9, q10⟩ := hw9; go_simp; try with_reducible rfl
            try simp only [Act.put, List.setIfInBounds_toArray, List.set_cons_zero, List.set_cons_succ]
            refine RegL.take_w (i := 20) (oi := ⟨some 25, _, _, _, _, _⟩) (v := ?_) SM rfl (by decide) (by kernel_rfl) (by kernel_rfl) (by kernel_rfl) (fun _ _ _ h => h) (Or.inl ⟨by rfl, ?_⟩) (SK.out _ HB9.out) ?_
            rotate_left
            · intro w9 hw9; obtain ⟨q1, q2, q3, q4, q5, q6, q7, q8, q9, q10⟩ := hw9; go_simp; try with_reducible rfl
            try simp only [Act.put, List.setIfInBounds_toArray, List.set_cons_zero, List.set_cons_succ]
            refine RegL.take_w (i := 21) (oi := ⟨some 26, _, _, _, _, _⟩) (v := ?_) SM rfl (by decide) (by kernel_rfl) (by kernel_rfl) (by kernel_rfl) (fun _ _ _ h => h) (Or.inl ⟨by rfl, ?_⟩) (SK.out _ HB9.out) ?_
            rotate_left
            · intro w9 hw9; obtain ⟨q1, q2, q3, q4, q5, q6, q7, q8, q9, q10⟩ := hw9; go_simp; try with_reducible rfl
            try simp only [Act.put, List.setIfInBounds_toArray, List.set_cons_zero, List.set_cons_succ]
            refine RegL.take_w (i := 22) (oi := ⟨some 27, _, _, _, _, _⟩) (v := ?_) SM rfl (by decide) (by kernel_rfl) (by kernel_rfl) (by kernel_rfl) (fun _ _ _ h => h) (Or.inl ⟨by rfl, ?_⟩) (SK.out _ HB9.out) ?_
            rotate_left
            · intro w9 hw9; obtain ⟨q1, q2, q3, q4, q5, q6, q7, q8, q9, q10⟩ := hw9; go_simp; try with_reducible rfl
            try simp only [Act.put, List.setIfInBounds_toArray, List.set_cons_zero, List.set_cons_succ]
            refine RegL.take_w (i := 23) (oi := ⟨some 28, _, _, _, _, _⟩) (v := ?_) SM rfl (by decide) (by kernel_rfl) (by kernel_rfl) (by kernel_rfl) (fun _ _ _ h => h) (Or.inl ⟨by rfl, ?_⟩) (SK.out _ HB9.out) ?_
            rotate_left
            · intro w9 hw9; obtain ⟨q1, q2, q3, q4, q5, q6, q7, q8, q9, q10⟩ := hw9; go_simp; try with_reducible rfl
            try simp only [Act.put, List.setIfInBounds_toArray, List.set_cons_zero, List.set_cons_succ]
            refine RegL.take_w (i := 24) (oi := ⟨some 29, _, _, _, _, _⟩) (v := ?_) SM rfl (by decide) (by kernel_rfl) (by kernel_rfl) (by kernel_rfl) (fun _ _ _ h => h) (Or.inl ⟨by rfl, ?_⟩) (SK.out _ HB9.out) ?_
            rotate_left
            · intro w9 hw9; obtain ⟨q1, q2, q3, q4, q5, q6, q7, q8, q9, q10⟩ := hw9; go_simp; try with_reducible rfl
            try simp only [Act.put, List.setIfInBounds_toArray, List.set_cons_zero, List.set_cons_succ]
            refine RegL.take_w (i := 25) (oi := ⟨some 30, _, _, _, _, _⟩) (v := ?_) SM rfl (by decide) (by kernel_rfl) (by kernel_rfl) (by kernel_rfl) (fun _ _ _ h => h) (Or.inl ⟨by rfl, ?_⟩) (SK.out _ HB9.out) ?_
            rotate_left
            · intro w9 hw9; obtain ⟨q1, q2, q3, q4, q5, q6, q7, q8, q9, q10⟩ := hw9; go_simp; try with_reducible rfl
            try simp only [Act.put, List.setIfInBounds_toArray, List.set_cons_zero, List.set_cons_succ]
            refine RegL.take_w (i := 26) (oi := ⟨some 31, _, _, _, _, _⟩) (v := ?_) SM rfl (by decide) (by kernel_rfl) (by kernel_rfl) (by kernel_rfl) (fun _ _ _ h => h) (Or.inl ⟨by rfl, ?_⟩) (SK.out _ HB9.out) ?_
            rotate_left
            · intro w9 hw9; obtain ⟨q1, q2, q3, q4, q5, q6, q7, q8, q9, q10⟩ := hw9; go_simp; try with_reducible rfl
            try simp only [Act.put, List.setIfInBounds_toArray, List.set_cons_zero, List.set_cons_succ]
            refine RegL.take_w (i := 27) (oi := ⟨some 32, _, _, _, _, _⟩) (v := ?_) SM rfl (by decide) (by kernel_rfl) (by kernel_rfl) (by kernel_rfl) (fun _ _ _ h => h) (Or.inl ⟨by rfl, ?_⟩) (SK.out _ HB9.out) ?_
            rotate_left
            · intro w9 hw9; obtain ⟨q1, q2, q3, q4, q5, q6, q7, q8, q9, q10⟩ := hw9; go_simp; try with_reducible rfl
            try simp only [Act.put, List.setIfInBounds_toArray, List.set_cons_zero, List.set_cons_succ]
            refine RegL.take_w (i := 28) (oi := ⟨some 33, _, _, _, _, _⟩) (v := ?_) SM rfl (by decide) (by kernel_rfl) (by kernel_rfl) (by kernel_rfl) (fun _ _ _ h => h) (Or.inl ⟨by rfl, ?_⟩) (SK.out _ HB9.out) ?_
            rotate_left
            · intro w9 hw9; obtain ⟨q1, q2, q3, q4, q5, q6, q7, q8, q9, q10⟩ := hw9; go_simp; try with_reducible rfl
            try simp only [Act.put, List.setIfInBounds_toArray, List.set_cons_zero, List.set_cons_succ]
            refine RegL.take_w (i := 29) (oi := ⟨some 34, _, _, _, _, _⟩) (v := ?_) SM rfl (by decide) (by kernel_rfl) (by kernel_rfl) (by kernel_rfl) (fun _ _ _ h => h) (Or.inl ⟨by rfl, ?_⟩) (SK.out _ HB9.out) ?_
            rotate_left
            · intro w9 hw9; obtain ⟨q1, q2, q3, q4, q5, q6, q7, q8, q9, q10⟩ := hw9; go_simp; try with_reducible rfl
            try simp only [Act.put, List.setIfInBounds_toArray, List.set_cons_zero, List.set_cons_succ]
            refine RegL.done_of (by kernel_rfl) ?_ _
            go_wp2_with fail
            go_meet
            exact ⟨by rw [EB.out], H2.out.below HB9.out⟩
          · have hbd : Below W2.heap.size W2 W2.drew := (Below.refl _ _).drew
            have HBD := Lib.hid hbd
            have CF := Lib.hid (fit_calls f A c W2.drew)
            have eb : badP s f = false := by unfold badP; rw [hf, hs, hd, decide_eq_false hk]; simp
            have EB := Lib.hid eb
            rw [hf] at CF
            have j1 : ¬ (f.mine : Int) < (s.known : Int) := by omega
            rw [hs] at y0
            rw [hd] at y1
            have CF' := CF.out
            rw [show frC f A c = #[.int .i64 s.other, .int .i64 s.me, .int .u64 (f.mine : Int), .int .u64 (f.yours : Int), .int .u64 (f.seq : Int), .int .u64 (f.ack : Int), .slice A f.body.length c] by unfold frC; rw [hs, hd]] at CF'
            replace CF := Lib.hid CF'
            clear CF' hf hs hd hk
            have SK : Hid (∀ w9, Below W2.heap.size W2 w9 → w9.cell? ⟨bf, 0, none⟩ = some (.int .i64 s.other) ∧ w9.cell? ⟨bf, 1, none⟩ = some (.int .i64 s.me) ∧ w9.cell? ⟨bf, 2, none⟩ = some (.int .u64 (f.mine : Int)) ∧ w9.cell? ⟨bf, 3, none⟩ = some (.int .u64 (f.yours : Int)) ∧ w9.cell? ⟨bf, 4, none⟩ = some (.int .u64 (f.seq : Int)) ∧ w9.cell? ⟨bf, 5, none⟩ = some (.int .u64 (f.ack : Int)) ∧ w9.cell? ⟨bf, 6, none⟩ = some (.slice A f.body.length c) ∧ w9.cell? ⟨g, 0, none⟩ = some (.int .i64 s.me) ∧ w9.cell? ⟨g, 1, none⟩ = some (.int .i64 s.other) ∧ w9.cell? ⟨g, 3, none⟩ = some (.int .u64 (s.known : Int))) := fun w9 h => ⟨pw_cell_below h y0, pw_cell_below h y1, pw_cell_below h y2, pw_cell_below h y3, pw_cell_below h y4, pw_cell_below h y5, pw_cell_below h y6, pw_cell_below h z0, pw_cell_below h z1, pw_cell_below h z3⟩
            clear hbd eb y0 y1 y2 y3 y4 y5 y6 z0 z1 z3
            have SM : ∀ (bb0 : Bool) (w9 : World), (fun (_ : Bool) (w9 : World) => w9.cell? ⟨bf, 0, none⟩ = some (.int .i64 s.other) ∧ w9.cell? ⟨bf, 1, none⟩ = some (.int .i64 s.me) ∧ w9.cell? ⟨bf, 2, none⟩ = some (.int .u64 (f.mine : Int)) ∧ w9.cell? ⟨bf, 3, none⟩ = some (.int .u64 (f.yours : Int)) ∧ w9.cell? ⟨bf, 4, none⟩ = some (.int .u64 (f.seq : Int)) ∧ w9.cell? ⟨bf, 5, none⟩ = some (.int .u64 (f.ack : Int)) ∧ w9.cell? ⟨bf, 6, none⟩ = some (.slice A f.body.length c) ∧ w9.cell? ⟨g, 0, none⟩ = some (.int .i64 s.me) ∧ w9.cell? ⟨g, 1, none⟩ = some (.int .i64 s.other) ∧ w9.cell? ⟨g, 3, none⟩ = some (.int .u64 (s.known : Int))) bb0 w9 → (fun (_ : Bool) (w9 : World) => w9.cell? ⟨bf, 0, none⟩ = some (.int .i64 s.other) ∧ w9.cell? ⟨bf, 1, none⟩ = some (.int .i64 s.me) ∧ w9.cell? ⟨bf, 2, none⟩ = some (.int .u64 (f.mine : Int)) ∧ w9.cell? ⟨bf, 3, none⟩ = some (.int .u64 (f.yours : Int)) ∧ w9.cell? ⟨bf, 4, none⟩ = some (.int .u64 (f.seq : Int)) ∧ w9.cell? ⟨bf, 5, none⟩ = some (.int .u64 (f.ack : Int)) ∧ w9.cell? ⟨bf, 6, none⟩ = some (.slice A f.body.length c) ∧ w9.cell? ⟨g, 0, none⟩ = some (.int .i64 s.me) ∧ w9.cell? ⟨g, 1, none⟩ = some (.int .i64 s.other) ∧ w9.cell? ⟨g, 3, none⟩ = some (.int .u64 (s.known : Int))) true w9 := fun _ _ h => h
            refine RegL.begin_of (k := 99) (S := fun (_ : Bool) (w9 : World) => w9.cell? ⟨bf, 0, none⟩ = some (.int .i64 s.other) ∧ w9.cell? ⟨bf, 1, none⟩ = some (.int .i64 s.me) ∧ w9.cell? ⟨bf, 2, none⟩ = some (.int .u64 (f.mine : Int)) ∧ w9.cell? ⟨bf, 3, none⟩ = some (.int .u64 (f.yours : Int)) ∧ w9.cell? ⟨bf, 4, none⟩ = some (.int .u64 (f.seq : Int)) ∧ w9.cell? ⟨bf, 5, none⟩ = some (.int .u64 (f.ack : Int)) ∧ w9.cell? ⟨bf, 6, none⟩ = some (.slice A f.body.length c) ∧ w9.cell? ⟨g, 0, none⟩ = some (.int .i64 s.me) ∧ w9.cell? ⟨g, 1, none⟩ = some (.int .i64 s.other) ∧ w9.cell? ⟨g, 3, none⟩ = some (.int .u64 (s.known : Int))) (by kernel_rfl) ?_
            refine RegL.take_w (i := 0) (oi := ⟨some 5, _, _, _, _, _⟩) (v := .agg #[(.int .i64 s.other), (.int .i64 s.me), (.int .u64 (f.mine : Int)), (.int .u64 (f.yours : Int)), (.int .u64 (f.seq : Int)), (.int .u64 (f.ack : Int)), (.slice A f.body.length c)]) SM rfl (by decide) (by kernel_rfl) (by kernel_rfl) (by kernel_rfl) (fun _ _ _ h => h) (yieldsIf_load_mid (by rfl) 69 (.tmp 3) rfl bf 0 rfl [(.int .i64 s.other), (.int .i64 s.me), (.int .u64 (f.mine : Int)), (.int .u64 (f.yours : Int)), (.int .u64 (f.seq : Int)), (.int .u64 (f.ack : Int)), (.slice A f.body.length c)] _ (fun w9 hw9 => by obtain ⟨q1, q2, q3, q4, q5, q6, q7, q8, q9, q10⟩ := hw9; exact range7 q1 q2 q3 q4 q5 q6 q7) Tryd.underlying69 rfl infoF) (SK.out _ HBD.out) ?_
            try simp only [Act.put, List.setIfInBounds_toArray, List.set_cons_zero, List.set_cons_succ]
            refine RegL.step_of (i := 1) (o := ⟨some 6, _, _, _, _, _⟩) (by kernel_rfl) rfl (fun K' hK => ?_)
            go_simp
            go_at_call 84
            (with_reducible refine CF.out.mono ?_)
            rintro e w9 ⟨rfl, hb9⟩
            have HB9 : Hid (Below W2.heap.size W2 w9) := HBD.out.trans hb9
            clear hb9
            refine hK _ _ (SK.out _ HB9.out) ?_
            clear hK K'
            try simp only [Act.put, List.setIfInBounds_toArray, List.set_cons_zero, List.set_cons_succ]
            refine RegL.take_w (i := 2) (oi := ⟨some 7, _, _, _, _, _⟩) (v := ?_) SM rfl (by decide) (by kernel_rfl) (by kernel_rfl) (by kernel_rfl) (fun _ _ _ h => h) (Or.inl ⟨by rfl, ?_⟩) (SK.out _ HB9.out) ?_
            rotate_left
            · intro w9 hw9; obtain ⟨q1, q2, q3, q4, q5, q6, q7, q8, q9, q10⟩ := hw9; go_simp; try with_reducible rfl
            try simp only [Act.put, List.setIfInBounds_toArray, List.set_cons_zero, List.set_cons_succ]
            refine RegL.take_w (i := 3) (oi := ⟨some 8, _, _, _, _, _⟩) (v := ?_) SM rfl (by decide) (by kernel_rfl) (by kernel_rfl) (by kernel_rfl) (fun _ _ _ h => h) (Or.inl ⟨by rfl, ?_⟩) (SK.out _ HB9.out) ?_
            rotate_left
            · intro w9 hw9; obtain ⟨q1, q2, q3, q4, q5, q6, q7, q8, q9, q10⟩ := hw9; go_simp; try with_reducible rfl
            try simp only [Act.put, List.setIfInBounds_toArray, List.set_cons_zero, List.set_cons_succ]
            refine RegL.take_w (i := 4) (oi := ⟨some 9, _, _, _, _, _⟩) (v := ?_) SM rfl (by decide) (by kernel_rfl) (by kernel_rfl) (by kernel_rfl) (fun _ _ _ h => h) (Or.inl ⟨by rfl, ?_⟩) (SK.out _ HB9.out) ?_
            rotate_left
            · intro w9 hw9; obtain ⟨q1, q2, q3, q4, q5, q6, q7, q8, q9, q10⟩ := hw9; go_simp; try with_reducible rfl
            try simp only [Act.put, List.setIfInBounds_toArray, List.set_cons_zero, List.set_cons_succ]
            refine RegL.take_w (i := 5) (oi := ⟨some 10, _, _, _, _, _⟩) (v := ?_) SM rfl (by decide) (by kernel_rfl) (by kernel_rfl) (by kernel_rfl) (fun _ _ _ h => h) (Or.inl ⟨by rfl, ?_⟩) (SK.out _ HB9.out) ?_
            rotate_left
            · intro w9 hw9; obtain ⟨q1, q2, q3, q4, q5, q6, q7, q8, q9, q10⟩ := hw9; go_simp; try with_reducible rfl
            try simp only [Act.put, List.setIfInBounds_toArray, List.set_cons_zero, List.set_cons_succ]
            refine RegL.take_w (i := 6) (oi := ⟨some 11, _, _, _, _, _⟩) (v := ?_) SM rfl (by decide) (by kernel_rfl) (by kernel_rfl) (by kernel_rfl) (fun _ _ _ h => h) (Or.inl ⟨by rfl, ?_⟩) (SK.out _ HB9.out) ?_
            rotate_left
            · intro w9 hw9; obtain ⟨q1, q2, q3, q4, q5, q6, q7, q8, q9, q10⟩ := hw9; go_simp; try with_reducible rfl
            try simp only [Act.put, List.setIfInBounds_toArray, List.set_cons_zero, List.set_cons_succ]
            refine RegL.take_w (i := 7) (oi := ⟨some 12, _, _, _, _, _⟩) (v := ?_) SM rfl (by decide) (by kernel_rfl) (by kernel_rfl) (by kernel_rfl) (fun _ _ _ h => h) (Or.inl ⟨by rfl, ?_⟩) (SK.out _ HB9.out) ?_
            rotate_left
            · intro w9 hw9; obtain ⟨q1, q2, q3, q4, q5, q6, q7, q8, q9, q10⟩ := hw9; go_simp; try with_reducible rfl
            try simp only [Act.put, List.setIfInBounds_toArray, List.set_cons_zero, List.set_cons_succ]
            refine RegL.take_w (i := 8) (oi := ⟨some 13, _, _, _, _, _⟩) (v := ?_) SM rfl (by decide) (by kernel_rfl) (by kernel_rfl) (by kernel_rfl) (fun _ _ _ h => h) (Or.inl ⟨by rfl, ?_⟩) (SK.out _ HB9.out) ?_
            rotate_left
            · intro w9 hw9; obtain ⟨q1, q2, q3, q4, q5, q6, q7, q8, q9, q10⟩ := hw9; go_simp; try with_reducible rfl
            try simp only [Act.put, List.setIfInBounds_toArray, List.set_cons_zero, List.set_cons_succ]
            refine RegL.take_w (i := 9) (oi := ⟨some 14, _, _, _, _, _⟩) (v := ?_) SM rfl (by decide) (by kernel_rfl) (by kernel_rfl) (by kernel_rfl) (fun _ _ _ h => h) (Or.inl ⟨by rfl, ?_⟩) (SK.out _ HB9.out) ?_
            rotate_left
            · intro w9 hw9; obtain ⟨q1, q2, q3, q4, q5, q6, q7, q8, q9, q10⟩ := hw9; go_simp; try with_reducible rfl
            try simp only [Act.put, List.setIfInBounds_toArray, List.set_cons_zero, List.set_cons_succ]
            refine RegL.take_w (i := 10) (oi := ⟨some 15, _, _, _, _, _⟩) (v := ?_) SM rfl (by decide) (by kernel_rfl) (by kernel_rfl) (by kernel_rfl) (fun _ _ _ h => h) (Or.inl ⟨by rfl, ?_⟩) (SK.out _ HB9.out) ?_
            rotate_left
            · intro w9 hw9; obtain ⟨q1, q2, q3, q4, q5, q6, q7, q8, q9, q10⟩ := hw9; go_simp; try with_reducible rfl
            try simp only [Act.put, List.setIfInBounds_toArray, List.set_cons_zero, List.set_cons_succ]
            refine RegL.take_w (i := 11) (oi := ⟨some 16, _, _, _, _, _⟩) (v := ?_) SM rfl (by decide) (by kernel_rfl) (by kernel_rfl) (by kernel_rfl) (fun _ _ _ h => h) (Or.inl ⟨by rfl, ?_⟩) (SK.out _ HB9.out) ?_
            rotate_left
            · intro w9 hw9; obtain ⟨q1, q2, q3, q4, q5, q6, q7, q8, q9, q10⟩ := hw9; go_simp; try with_reducible rfl
            try simp only [Act.put, List.setIfInBounds_toArray, List.set_cons_zero, List.set_cons_succ]
            refine RegL.take_w (i := 12) (oi := ⟨some 17, _, _, _, _, _⟩) (v := ?_) SM rfl (by decide) (by kernel_rfl) (by kernel_rfl) (by kernel_rfl) (fun _ _ _ h => h) (Or.inl ⟨by rfl, ?_⟩) (SK.out _ HB9.out) ?_
            rotate_left
            · intro w9 hw9; obtain ⟨q1, q2, q3, q4, q5, q6, q7, q8, q9, q10⟩ := hw9; go_simp; try with_reducible rfl
            try simp only [Act.put, List.setIfInBounds_toArray, List.set_cons_zero, List.set_cons_succ]
            refine RegL.take_w (i := 13) (oi := ⟨some 18, _, _, _, _, _⟩) (v := ?_) SM rfl (by decide) (by kernel_rfl) (by kernel_rfl) (by kernel_rfl) (fun _ _ _ h => h) (Or.inl ⟨by rfl, ?_⟩) (SK.out _ HB9.out) ?_
            rotate_left
            · intro w9 hw9; obtain ⟨q1, q2, q3, q4, q5, q6, q7, q8, q9, q10⟩ := hw9; go_simp; try with_reducible rfl
            try simp only [Act.put, List.setIfInBounds_toArray, List.set_cons_zero, List.set_cons_succ]
            refine RegL.take_w (i := 14) (oi := ⟨some 19, _, _, _, _, _⟩) (v := ?_) SM rfl (by decide) (by kernel_rfl) (by kernel_rfl) (by kernel_rfl) (fun _ _ _ h => h) (Or.inl ⟨by rfl, ?_⟩) (SK.out _ HB9.out) ?_
            rotate_left
            · intro w9 hw9; obtain ⟨q1, q2, q3, q4, q5, q6, q7, q8, q9, q10⟩ := hw9; go_simp; try with_reducible rfl
            try simp only [Act.put, List.setIfInBounds_toArray, List.set_cons_zero, List.set_cons_succ]
            refine RegL.take_w (i := 15) (oi := ⟨some 20, _, _, _, _, _⟩) (v := ?_) SM rfl (by decide) (by kernel_rfl) (by kernel_rfl) (by kernel_rfl) (fun _ _ _ h => h) (Or.inl ⟨by rfl, ?_⟩) (SK.out _ HB9.out) ?_
            rotate_left
            · intro w9 hw9; obtain ⟨q1, q2, q3, q4, q5, q6, q7, q8, q9, q10⟩ := hw9; go_simp; try with_reducible rfl
            try simp only [Act.put, List.setIfInBounds_toArray, List.set_cons_zero, List.set_cons_succ]
            refine RegL.take_w (i := 16) (oi := ⟨some 21, _, _, _, _, _⟩) (v := ?_) SM rfl (by decide) (by kernel_rfl) (by kernel_rfl) (by kernel_rfl) (fun _ _ _ h => h) (Or.inl ⟨by rfl, ?_⟩) (SK.out _ HB9.out) ?_
            rotate_left
            · intro w9 hw9; obtain ⟨q1, q2, q3, q4, q5, q6, q7, q8, q9, q10⟩ := hw9; go_simp; try with_reducible rfl
            try simp only [Act.put, List.setIfInBounds_toArray, List.set_cons_zero, List.set_cons_succ]
            refine RegL.take_w (i := 17) (oi := ⟨some 22, _, _, _, _, _⟩) (v := ?_) SM rfl (by decide) (by kernel_rfl) (by kernel_rfl) (by kernel_rfl) (fun _ _ _ h => h) (Or.inl ⟨by rfl, ?_⟩) (SK.out _ HB9.out) ?_
            rotate_left
            · intro w9 hw9; obtain ⟨q1, q2, q3, q4, q5, q6, q7, q8, q9, q10⟩ := hw9; go_simp; try with_reducible rfl
            try simp only [Act.put, List.setIfInBounds_toArray, List.set_cons_zero, List.set_cons_succ]
            refine RegL.take_w (i := 18) (oi := ⟨some 23, _, _, _, _, _⟩) (v := ?_) SM rfl (by decide) (by kernel_rfl) (by kernel_rfl) (by kernel_rfl) (fun _ _ _ h => h) (Or.inl ⟨by rfl, ?_⟩) (SK.out _ HB9.out) ?_
            rotate_left
            · intro w9 hw9; obtain ⟨q1, q2, q3, q4, q5, q6, q7, q8, q9, q10⟩ := hw9; go_simp; try with_reducible rfl
            try simp only [Act.put, List.setIfInBounds_toArray, List.set_cons_zero, List.set_cons_succ]
            refine RegL.take_w (i := 19) (oi := ⟨some 24, _, _, _, _, _⟩) (v := ?_) SM rfl (by decide) (by kernel_rfl) (by kernel_rfl) (by kernel_rfl) (fun _ _ _ h => h) (Or.inl ⟨by rfl, ?_⟩) (SK.out _ HB9.out) ?_
            rotate_left
            · intro w9 hw9; obtain ⟨q1, q2, q3, q4, q5, q6, q7, q8, q9, q10⟩ := hw9; go_simp; try with_reducible rfl
            try simp only [Act.put, List.setIfInBounds_toArray, List.set_cons_zero, List.set_cons_succ]
            refine RegL.take_w (i := 20) (oi := ⟨some 25, _, _, _, _, _⟩) (v := ?_) SM rfl (by decide) (by kernel_rfl) (by kernel_rfl) (by kernel_rfl) (fun _ _ _ h => h) (Or.inl ⟨by rfl, ?_⟩) (SK.out _ HB9.out) ?_
            rotate_left
            · intro w9 hw9; obtain ⟨q1, q2, q3, q4, q5, q6, q7, q8, q9, q10⟩ := hw9; go_simp; try with_reducible rfl
            try simp only [Act.put, List.setIfInBounds_toArray, List.set_cons_zero, List.set_cons_succ]
            refine RegL.take_w (i := 21) (oi := ⟨some 26, _, _, _, _, _⟩) (v := ?_) SM rfl (by decide) (by kernel_rfl) (by kernel_rfl) (by kernel_rfl) (fun _ _ _ h => h) (Or.inl ⟨by rfl, ?_⟩) (SK.out _ HB9.out) ?_
            rotate_left
            · intro w9 hw9; obtain ⟨q1, q2, q3, q4, q5, q6, q7, q8, q9, q10⟩ := hw9; go_simp; try with_reducible rfl
            try simp only [Act.put, List.setIfInBounds_toArray, List.set_cons_zero, List.set_cons_succ]
            refine RegL.take_w (i := 22) (oi := ⟨some 27, _, _, _, _, _⟩) (v := ?_) SM rfl (by decide) (by kernel_rfl) (by kernel_rfl) (by kernel_rfl) (fun _ _ _ h => h) (Or.inl ⟨by rfl, ?_⟩) (SK.out _ HB9.out) ?_
            rotate_left
            · intro w9 hw9; obtain ⟨q1, q2, q3, q4, q5, q6, q7, q8, q9, q10⟩ := hw9; go_simp; try with_reducible rfl
            try simp only [Act.put, List.setIfInBounds_toArray, List.set_cons_zero, List.set_cons_succ]
            refine RegL.take_w (i := 23) (oi := ⟨some 28, _, _, _, _, _⟩) (v := ?_) SM rfl (by decide) (by kernel_rfl) (by kernel_rfl) (by kernel_rfl) (fun _ _ _ h => h) (Or.inl ⟨by rfl, ?_⟩) (SK.out _ HB9.out) ?_
            rotate_left
            · intro w9 hw9; obtain ⟨q1, q2, q3, q4, q5, q6, q7, q8, q9, q10⟩ := hw9; go_simp; try with_reducible rfl
            try simp only [Act.put, List.setIfInBounds_toArray, List.set_cons_zero, List.set_cons_succ]
            refine RegL.take_w (i := 24) (oi := ⟨some 29, _, _, _, _, _⟩) (v := ?_) SM rfl (by decide) (by kernel_rfl) (by kernel_rfl) (by kernel_rfl) (fun _ _ _ h => h) (Or.inl ⟨by rfl, ?_⟩) (SK.out _ HB9.out) ?_
            rotate_left
            · intro w9 hw9; obtain ⟨q1, q2, q3, q4, q5, q6, q7, q8, q9, q10⟩ := hw9; go_simp; try with_reducible rfl
            try simp only [Act.put, List.setIfInBounds_toArray, List.set_cons_zero, List.set_cons_succ]
            refine RegL.take_w (i := 25) (oi := ⟨some 30, _, _, _, _, _⟩) (v := ?_) SM rfl (by decide) (by kernel_rfl) (by kernel_rfl) (by kernel_rfl) (fun _ _ _ h => h) (Or.inl ⟨by rfl, ?_⟩) (SK.out _ HB9.out) ?_
            rotate_left
            · intro w9 hw9; obtain ⟨q1, q2, q3, q4, q5, q6, q7, q8, q9, q10⟩ := hw9; go_simp; try with_reducible rfl
            try simp only [Act.put, List.setIfInBounds_toArray, List.set_cons_zero, List.set_cons_succ]
            refine RegL.take_w (i := 26) (oi := ⟨some 31, _, _, _, _, _⟩) (v := ?_) SM rfl (by decide) (by kernel_rfl) (by kernel_rfl) (by kernel_rfl) (fun _ _ _ h => h) (Or.inl ⟨by rfl, ?_⟩) (SK.out _ HB9.out) ?_
            rotate_left
            · intro w9 hw9; obtain ⟨q1, q2, q3, q4, q5, q6, q7, q8, q9, q10⟩ := hw9; go_simp; try with_reducible rfl
            try simp only [Act.put, List.setIfInBounds_toArray, List.set_cons_zero, List.set_cons_succ]
            refine RegL.take_w (i := 27) (oi := ⟨some 32, _, _, _, _, _⟩) (v := ?_) SM rfl (by decide) (by kernel_rfl) (by kernel_rfl) (by kernel_rfl) (fun _ _ _ h => h) (Or.inl ⟨by rfl, ?_⟩) (SK.out _ HB9.out) ?_
            rotate_left
            · intro w9 hw9; obtain ⟨q1, q2, q3, q4, q5, q6, q7, q8, q9, q10⟩ := hw9; go_simp; try with_reducible rfl
            try simp only [Act.put, List.setIfInBounds_toArray, List.set_cons_zero, List.set_cons_succ]
            refine RegL.take_w (i := 28) (oi := ⟨some 33, _, _, _, _, _⟩) (v := ?_) SM rfl (by decide) (by kernel_rfl) (by kernel_rfl) (by kernel_rfl) (fun _ _ _ h => h) (Or.inl ⟨by rfl, ?_⟩) (SK.out _ HB9.out) ?_
            rotate_left
            · intro w9 hw9; obtain ⟨q1, q2, q3, q4, q5, q6, q7, q8, q9, q10⟩ := hw9; go_simp; try with_reducible rfl
            try simp only [Act.put, List.setIfInBounds_toArray, List.set_cons_zero, List.set_cons_succ]
            refine RegL.take_w (i := 29) (oi := ⟨some 34, _, _, _, _, _⟩) (v := ?_) SM rfl (by decide) (by kernel_rfl) (by kernel_rfl) (by kernel_rfl) (fun _ _ _ h => h) (Or.inl ⟨by rfl, ?_⟩) (SK.out _ HB9.out) ?_
            rotate_left
            · intro w9 hw9; obtain ⟨q1, q2, q3, q4, q5, q6, q7, q8, q9, q10⟩ := hw9; go_simp; try with_reducible rfl
            try simp only [Act.put, List.setIfInBounds_toArray, List.set_cons_zero, List.set_cons_succ]
            refine RegL.done_of (by kernel_rfl) ?_ _
            go_wp2_with fail
            go_meet
            exact ⟨by rw [EB.out], H2.out.below HB9.out⟩
        · have hbd : Below W2.heap.size W2 W2.drew := (Below.refl _ _).drew
          have HBD := Lib.hid hbd
          have CF := Lib.hid (fit_calls f A c W2.drew)
          have eb : badP s f = true := by unfold badP; rw [hf, hs, beq_eq_false_iff_ne.2 hd]; simp
          have EB := Lib.hid eb
          rw [hf] at CF
          have j1 : (f.dst != s.me) = true := bne_iff_ne.2 hd
          rw [hs] at y0
          have CF' := CF.out
          rw [show frC f A c = #[.int .i64 s.other, .int .i64 f.dst, .int .u64 (f.mine : Int), .int .u64 (f.yours : Int), .int .u64 (f.seq : Int), .int .u64 (f.ack : Int), .slice A f.body.length c] by unfold frC; rw [hs]] at CF'
          replace CF := Lib.hid CF'
          clear CF' hf hs hd
          have SK : Hid (∀ w9, Below W2.heap.size W2 w9 → w9.cell? ⟨bf, 0, none⟩ = some (.int .i64 s.other) ∧ w9.cell? ⟨bf, 1, none⟩ = some (.int .i64 f.dst) ∧ w9.cell? ⟨bf, 2, none⟩ = some (.int .u64 (f.mine : Int)) ∧ w9.cell? ⟨bf, 3, none⟩ = some (.int .u64 (f.yours : Int)) ∧ w9.cell? ⟨bf, 4, none⟩ = some (.int .u64 (f.seq : Int)) ∧ w9.cell? ⟨bf, 5, none⟩ = some (.int .u64 (f.ack : Int)) ∧ w9.cell? ⟨bf, 6, none⟩ = some (.slice A f.body.length c) ∧ w9.cell? ⟨g, 0, none⟩ = some (.int .i64 s.me) ∧ w9.cell? ⟨g, 1, none⟩ = some (.int .i64 s.other) ∧ w9.cell? ⟨g, 3, none⟩ = some (.int .u64 (s.known : Int))) := fun w9 h => ⟨pw_cell_below h y0, pw_cell_below h y1, pw_cell_below h y2, pw_cell_below h y3, pw_cell_below h y4, pw_cell_below h y5, pw_cell_below h y6, pw_cell_below h z0, pw_cell_below h z1, pw_cell_below h z3⟩
          clear hbd eb y0 y1 y2 y3 y4 y5 y6 z0 z1 z3
          have SM : ∀ (bb0 : Bool) (w9 : World), (fun (_ : Bool) (w9 : World) => w9.cell? ⟨bf, 0, none⟩ = some (.int .i64 s.other) ∧ w9.cell? ⟨bf, 1, none⟩ = some (.int .i64 f.dst) ∧ w9.cell? ⟨bf, 2, none⟩ = some (.int .u64 (f.mine : Int)) ∧ w9.cell? ⟨bf, 3, none⟩ = some (.int .u64 (f.yours : Int)) ∧ w9.cell? ⟨bf, 4, none⟩ = some (.int .u64 (f.seq : Int)) ∧ w9.cell? ⟨bf, 5, none⟩ = some (.int .u64 (f.ack : Int)) ∧ w9.cell? ⟨bf, 6, none⟩ = some (.slice A f.body.length c) ∧ w9.cell? ⟨g, 0, none⟩ = some (.int .i64 s.me) ∧ w9.cell? ⟨g, 1, none⟩ = some (.int .i64 s.other) ∧ w9.cell? ⟨g, 3, none⟩ = some (.int .u64 (s.known : Int))) bb0 w9 → (fun (_ : Bool) (w9 : World) => w9.cell? ⟨bf, 0, none⟩ = some (.int .i64 s.other) ∧ w9.cell? ⟨bf, 1, none⟩ = some (.int .i64 f.dst) ∧ w9.cell? ⟨bf, 2, none⟩ = some (.int .u64 (f.mine : Int)) ∧ w9.cell? ⟨bf, 3, none⟩ = some (.int .u64 (f.yours : Int)) ∧ w9.cell? ⟨bf, 4, none⟩ = some (.int .u64 (f.seq : Int)) ∧ w9.cell? ⟨bf, 5, none⟩ = some (.int .u64 (f.ack : Int)) ∧ w9.cell? ⟨bf, 6, none⟩ = some (.slice A f.body.length c) ∧ w9.cell? ⟨g, 0, none⟩ = some (.int .i64 s.me) ∧ w9.cell? ⟨g, 1, none⟩ = some (.int .i64 s.other) ∧ w9.cell? ⟨g, 3, none⟩ = some (.int .u64 (s.known : Int))) true w9 := fun _ _ h => h
          refine RegL.begin_of (k := 99) (S := fun (_ : Bool) (w9 : World) => w9.cell? ⟨bf, 0, none⟩ = some (.int .i64 s.other) ∧ w9.cell? ⟨bf, 1, none⟩ = some (.int .i64 f.dst) ∧ w9.cell? ⟨bf, 2, none⟩ = some (.int .u64 (f.mine : Int)) ∧ w9.cell? ⟨bf, 3, none⟩ = some (.int .u64 (f.yours : Int)) ∧ w9.cell? ⟨bf, 4, none⟩ = some (.int .u64 (f.seq : Int)) ∧ w9.cell? ⟨bf, 5, none⟩ = some (.int .u64 (f.ack : Int)) ∧ w9.cell? ⟨bf, 6, none⟩ = some (.slice A f.body.length c) ∧ w9.cell? ⟨g, 0, none⟩ = some (.int .i64 s.me) ∧ w9.cell? ⟨g, 1, none⟩ = some (.int .i64 s.other) ∧ w9.cell? ⟨g, 3, none⟩ = some (.int .u64 (s.known : Int))) (by kernel_rfl) ?_
          refine RegL.take_w (i := 0) (oi := ⟨some 5, _, _, _, _, _⟩) (v := .agg #[(.int .i64 s.other), (.int .i64 f.dst), (.int .u64 (f.mine : Int)), (.int .u64 (f.yours : Int)), (.int .u64 (f.seq : Int)), (.int .u64 (f.ack : Int)), (.slice A f.body.length c)]) SM rfl (by decide) (by kernel_rfl) (by kernel_rfl) (by kernel_rfl) (fun _ _ _ h => h) (yieldsIf_load_mid (by rfl) 69 (.tmp 3) rfl bf 0 rfl [(.int .i64 s.other), (.int .i64 f.dst), (.int .u64 (f.mine : Int)), (.int .u64 (f.yours : Int)), (.int .u64 (f.seq : Int)), (.int .u64 (f.ack : Int)), (.slice A f.body.length c)] _ (fun w9 hw9 => by obtain ⟨q1, q2, q3, q4, q5, q6, q7, q8, q9, q10⟩ := hw9; exact range7 q1 q2 q3 q4 q5 q6 q7) Tryd.underlying69 rfl infoF) (SK.out _ HBD.out) ?_
          try simp only [Act.put, List.setIfInBounds_toArray, List.set_cons_zero, List.set_cons_succ]
          refine RegL.step_of (i := 1) (o := ⟨some 6, _, _, _, _, _⟩) (by kernel_rfl) rfl (fun K' hK => ?_)
          go_simp
          go_at_call 84
          (with_reducible refine CF.out.mono ?_)
          rintro e w9 ⟨rfl, hb9⟩
          have HB9 : Hid (Below W2.heap.size W2 w9) := HBD.out.trans hb9
          clear hb9
          refine hK _ _ (SK.out _ HB9.out) ?_
          clear hK K'
          try simp only [Act.put, List.setIfInBounds_toArray, List.set_cons_zero, List.set_cons_succ]
          refine RegL.take_w (i := 2) (oi := ⟨some 7, _, _, _, _, _⟩) (v := ?_) SM rfl (by decide) (by kernel_rfl) (by kernel_rfl) (by kernel_rfl) (fun _ _ _ h => h) (Or.inl ⟨by rfl, ?_⟩) (SK.out _ HB9.out) ?_
          rotate_left
          · intro w9 hw9; obtain ⟨q1, q2, q3, q4, q5, q6, q7, q8, q9, q10⟩ := hw9; go_simp; try with_reducible rfl
          try simp only [Act.put, List.setIfInBounds_toArray, List.set_cons_zero, List.set_cons_succ]
          refine RegL.take_w (i := 3) (oi := ⟨some 8, _, _, _, _, _⟩) (v := ?_) SM rfl (by decide) (by kernel_rfl) (by kernel_rfl) (by kernel_rfl) (fun _ _ _ h => h) (Or.inl ⟨by rfl, ?_⟩) (SK.out _ HB9.out) ?_
          rotate_left
          · intro w9 hw9; obtain ⟨q1, q2, q3, q4, q5, q6, q7, q8, q9, q10⟩ := hw9; go_simp; try with_reducible rfl
          try simp only [Act.put, List.setIfInBounds_toArray, List.set_cons_zero, List.set_cons_succ]
          refine RegL.take_w (i := 4) (oi := ⟨some 9, _, _, _, _, _⟩) (v := ?_) SM rfl (by decide) (by kernel_rfl) (by kernel_rfl) (by kernel_rfl) (fun _ _ _ h => h) (Or.inl ⟨by rfl, ?_⟩) (SK.out _ HB9.out) ?_
          rotate_left
          · intro w9 hw9; obtain ⟨q1, q2, q3, q4, q5, q6, q7, q8, q9, q10⟩ := hw9; go_simp; try with_reducible rfl
          try simp only [Act.put, List.setIfInBounds_toArray, List.set_cons_zero, List.set_cons_succ]
          refine RegL.take_w (i := 5) (oi := ⟨some 10, _, _, _, _, _⟩) (v := ?_) SM rfl (by decide) (by kernel_rfl) (by kernel_rfl) (by kernel_rfl) (fun _ _ _ h => h) (Or.inl ⟨by rfl, ?_⟩) (SK.out _ HB9.out) ?_
          rotate_left
          · intro w9 hw9; obtain ⟨q1, q2, q3, q4, q5, q6, q7, q8, q9, q10⟩ := hw9; go_simp; try with_reducible rfl
          try simp only [Act.put, List.setIfInBounds_toArray, List.set_cons_zero, List.set_cons_succ]
          refine RegL.take_w (i := 6) (oi := ⟨some 11, _, _, _, _, _⟩) (v := ?_) SM rfl (by decide) (by kernel_rfl) (by kernel_rfl) (by kernel_rfl) (fun _ _ _ h => h) (Or.inl ⟨by rfl, ?_⟩) (SK.out _ HB9.out) ?_
          rotate_left
          · intro w9 hw9; obtain ⟨q1, q2, q3, q4, q5, q6, q7, q8, q9, q10⟩ := hw9; go_simp; try with_reducible rfl
          try simp only [Act.put, List.setIfInBounds_toArray, List.set_cons_zero, List.set_cons_succ]
          refine RegL.take_w (i := 7) (oi := ⟨some 12, _, _, _, _, _⟩) (v := ?_) SM rfl (by decide) (by kernel_rfl) (by kernel_rfl) (by kernel_rfl) (fun _ _ _ h => h) (Or.inl ⟨by rfl, ?_⟩) (SK.out _ HB9.out) ?_
          rotate_left
          · intro w9 hw9; obtain ⟨q1, q2, q3, q4, q5, q6, q7, q8, q9, q10⟩ := hw9; go_simp; try with_reducible rfl
          try simp only [Act.put, List.setIfInBounds_toArray, List.set_cons_zero, List.set_cons_succ]
          refine RegL.take_w (i := 8) (oi := ⟨some 13, _, _, _, _, _⟩) (v := ?_) SM rfl (by decide) (by kernel_rfl) (by kernel_rfl) (by kernel_rfl) (fun _ _ _ h => h) (Or.inl ⟨by rfl, ?_⟩) (SK.out _ HB9.out) ?_
          rotate_left
          · intro w9 hw9; obtain ⟨q1, q2, q3, q4, q5, q6, q7, q8, q9, q10⟩ := hw9; go_simp; try with_reducible rfl
          try simp only [Act.put, List.setIfInBounds_toArray, List.set_cons_zero, List.set_cons_succ]
          refine RegL.take_w (i := 9) (oi := ⟨some 14, _, _, _, _, _⟩) (v := ?_) SM rfl (by decide) (by kernel_rfl) (by kernel_rfl) (by kernel_rfl) (fun _ _ _ h => h) (Or.inl ⟨by rfl, ?_⟩) (SK.out _ HB9.out) ?_
          rotate_left
          · intro w9 hw9; obtain ⟨q1, q2, q3, q4, q5, q6, q7, q8, q9, q10⟩ := hw9; go_simp; try with_reducible rfl
          try simp only [Act.put, List.setIfInBounds_toArray, List.set_cons_zero, List.set_cons_succ]
          refine RegL.take_w (i := 10) (oi := ⟨some 15, _, _, _, _, _⟩) (v := ?_) SM rfl (by decide) (by kernel_rfl) (by kernel_rfl) (by kernel_rfl) (fun _ _ _ h => h) (Or.inl ⟨by rfl, ?_⟩) (SK.out _ HB9.out) ?_
          rotate_left
          · intro w9 hw9; obtain ⟨q1, q2, q3, q4, q5, q6, q7, q8, q9, q10⟩ := hw9; go_simp; try with_reducible rfl
          try simp only [Act.put, List.setIfInBounds_toArray, List.set_cons_zero, List.set_cons_succ]
          refine RegL.take_w (i := 11) (oi := ⟨some 16, _, _, _, _, _⟩) (v := ?_) SM rfl (by decide) (by kernel_rfl) (by kernel_rfl) (by kernel_rfl) (fun _ _ _ h => h) (Or.inl ⟨by rfl, ?_⟩) (SK.out _ HB9.out) ?_
          rotate_left
          · intro w9 hw9; obtain ⟨q1, q2, q3, q4, q5, q6, q7, q8, q9, q10⟩ := hw9; go_simp; try with_reducible rfl
          try simp only [Act.put, List.setIfInBounds_toArray, List.set_cons_zero, List.set_cons_succ]
          refine RegL.take_w (i := 12) (oi := ⟨some 17, _, _, _, _, _⟩) (v := ?_) SM rfl (by decide) (by kernel_rfl) (by kernel_rfl) (by kernel_rfl) (fun _ _ _ h => h) (Or.inl ⟨by rfl, ?_⟩) (SK.out _ HB9.out) ?_
          rotate_left
          · intro w9 hw9; obtain ⟨q1, q2, q3, q4, q5, q6, q7, q8, q9, q10⟩ := hw9; go_simp; try with_reducible rfl
          try simp only [Act.put, List.setIfInBounds_toArray, List.set_cons_zero, List.set_cons_succ]
          refine RegL.take_w (i := 13) (oi := ⟨some 18, _, _, _, _, _⟩) (v := ?_) SM rfl (by decide) (by kernel_rfl) (by kernel_rfl) (by kernel_rfl) (fun _ _ _ h => h) (Or.inl ⟨by rfl, ?_⟩) (SK.out _ HB9.out) ?_
          rotate_left
          · intro w9 hw9; obtain ⟨q1, q2, q3, q4, q5, q6, q7, q8, q9, q10⟩ := hw9; go_simp; try with_reducible rfl
          try simp only [Act.put, List.setIfInBounds_toArray, List.set_cons_zero, List.set_cons_succ]
          refine RegL.take_w (i := 14) (oi := ⟨some 19, _, _, _, _, _⟩) (v := ?_) SM rfl (by decide) (by kernel_rfl) (by kernel_rfl) (by kernel_rfl) (fun _ _ _ h => h) (Or.inl ⟨by rfl, ?_⟩) (SK.out _ HB9.out) ?_
          rotate_left
          · intro w9 hw9; obtain ⟨q1, q2, q3, q4, q5, q6, q7, q8, q9, q10⟩ := hw9; go_simp; try with_reducible rfl
          try simp only [Act.put, List.setIfInBounds_toArray, List.set_cons_zero, List.set_cons_succ]
          refine RegL.take_w (i := 15) (oi := ⟨some 20, _, _, _, _, _⟩) (v := ?_) SM rfl (by decide) (by kernel_rfl) (by kernel_rfl) (by kernel_rfl) (fun _ _ _ h => h) (Or.inl ⟨by rfl, ?_⟩) (SK.out _ HB9.out) ?_
          rotate_left
          · intro w9 hw9; obtain ⟨q1, q2, q3, q4, q5, q6, q7, q8, q9, q10⟩ := hw9; go_simp; try with_reducible rfl
          try simp only [Act.put, List.setIfInBounds_toArray, List.set_cons_zero, List.set_cons_succ]
          refine RegL.take_w (i := 16) (oi := ⟨some 21, _, _, _, _, _⟩) (v := ?_) SM rfl (by decide) (by kernel_rfl) (by kernel_rfl) (by kernel_rfl) (fun _ _ _ h => h) (Or.inl ⟨by rfl, ?_⟩) (SK.out _ HB9.out) ?_
          rotate_left
          · intro w9 hw9; obtain ⟨q1, q2, q3, q4, q5, q6, q7, q8, q9, q10⟩ := hw9; go_simp; try with_reducible rfl
          try simp only [Act.put, List.setIfInBounds_toArray, List.set_cons_zero, List.set_cons_succ]
          refine RegL.take_w (i := 17) (oi := ⟨some 22, _, _, _, _, _⟩) (v := ?_) SM rfl (by decide) (by kernel_rfl) (by kernel_rfl) (by kernel_rfl) (fun _ _ _ h => h) (Or.inl ⟨by rfl, ?_⟩) (SK.out _ HB9.out) ?_
          rotate_left
          · intro w9 hw9; obtain ⟨q1, q2, q3, q4, q5, q6, q7, q8, q9, q10⟩ := hw9; go_simp; try with_reducible rfl
          try simp only [Act.put, List.setIfInBounds_toArray, List.set_cons_zero, List.set_cons_succ]
          refine RegL.take_w (i := 18) (oi := ⟨some 23, _, _, _, _, _⟩) (v := ?_) SM rfl (by decide) (by kernel_rfl) (by kernel_rfl) (by kernel_rfl) (fun _ _ _ h => h) (Or.inl ⟨by rfl, ?_⟩) (SK.out _ HB9.out) ?_
          rotate_left
          · intro w9 hw9; obtain ⟨q1, q2, q3, q4, q5, q6, q7, q8, q9, q10⟩ := hw9; go_simp; try with_reducible rfl
          try simp only [Act.put, List.setIfInBounds_toArray, List.set_cons_zero, List.set_cons_succ]
          refine RegL.take_w (i := 19) (oi := ⟨some 24, _, _, _, _, _⟩) (v := ?_) SM rfl (by decide) (by kernel_rfl) (by kernel_rfl) (by kernel_rfl) (fun _ _ _ h => h) (Or.inl ⟨by rfl, ?_⟩) (SK.out _ HB9.out) ?_
          rotate_left
          · intro w9 hw9; obtain ⟨q1, q2, q3, q4, q5, q6, q7, q8, q9, q10⟩ := hw9; go_simp; try with_reducible rfl
          try simp only [Act.put, List.setIfInBounds_toArray, List.set_cons_zero, List.set_cons_succ]
          refine RegL.take_w (i := 20) (oi := ⟨some 25, _, _, _, _, _⟩) (v := ?_) SM rfl (by decide) (by kernel_rfl) (by kernel_rfl) (by kernel_rfl) (fun _ _ _ h => h) (Or.inl ⟨by rfl, ?_⟩) (SK.out _ HB9.out) ?_
          rotate_left
          · intro w9 hw9; obtain ⟨q1, q2, q3, q4, q5, q6, q7, q8, q9, q10⟩ := hw9; go_simp; try with_reducible rfl
          try simp only [Act.put, List.setIfInBounds_toArray, List.set_cons_zero, List.set_cons_succ]
          refine RegL.take_w (i := 21) (oi := ⟨some 26, _, _, _, _, _⟩) (v := ?_) SM rfl (by decide) (by kernel_rfl) (by kernel_rfl) (by kernel_rfl) (fun _ _ _ h => h) (Or.inl ⟨by rfl, ?_⟩) (SK.out _ HB9.out) ?_
          rotate_left
          · intro w9 hw9; obtain ⟨q1, q2, q3, q4, q5, q6, q7, q8, q9, q10⟩ := hw9; go_simp; try with_reducible rfl
          try simp only [Act.put, List.setIfInBounds_toArray, List.set_cons_zero, List.set_cons_succ]
          refine RegL.take_w (i := 22) (oi := ⟨some 27, _, _, _, _, _⟩) (v := undef) SM rfl (by decide) (by kernel_rfl) (by kernel_rfl) (by kernel_rfl) (fun _ _ _ h => h) (Or.inr ⟨by rfl, rfl⟩) (SK.out _ HB9.out) ?_
          try simp only [Act.put, List.setIfInBounds_toArray, List.set_cons_zero, List.set_cons_succ]
          refine RegL.take_w (i := 23) (oi := ⟨some 28, _, _, _, _, _⟩) (v := undef) SM rfl (by decide) (by kernel_rfl) (by kernel_rfl) (by kernel_rfl) (fun _ _ _ h => h) (Or.inr ⟨by rfl, rfl⟩) (SK.out _ HB9.out) ?_
          try simp only [Act.put, List.setIfInBounds_toArray, List.set_cons_zero, List.set_cons_succ]
          refine RegL.take_w (i := 24) (oi := ⟨some 29, _, _, _, _, _⟩) (v := undef) SM rfl (by decide) (by kernel_rfl) (by kernel_rfl) (by kernel_rfl) (fun _ _ _ h => h) (Or.inr ⟨by rfl, rfl⟩) (SK.out _ HB9.out) ?_
          try simp only [Act.put, List.setIfInBounds_toArray, List.set_cons_zero, List.set_cons_succ]
          refine RegL.take_w (i := 25) (oi := ⟨some 30, _, _, _, _, _⟩) (v := undef) SM rfl (by decide) (by kernel_rfl) (by kernel_rfl) (by kernel_rfl) (fun _ _ _ h => h) (Or.inr ⟨by rfl, rfl⟩) (SK.out _ HB9.out) ?_
          try simp only [Act.put, List.setIfInBounds_toArray, List.set_cons_zero, List.set_cons_succ]
          refine RegL.take_w (i := 26) (oi := ⟨some 31, _, _, _, _, _⟩) (v := undef) SM rfl (by decide) (by kernel_rfl) (by kernel_rfl) (by kernel_rfl) (fun _ _ _ h => h) (Or.inr ⟨by rfl, rfl⟩) (SK.out _ HB9.out) ?_
          try simp only [Act.put, List.setIfInBounds_toArray, List.set_cons_zero, List.set_cons_succ]
          refine RegL.take_w (i := 27) (oi := ⟨some 32, _, _, _, _, _⟩) (v := undef) SM rfl (by decide) (by kernel_rfl) (by kernel_rfl) (by kernel_rfl) (fun _ _ _ h => h) (Or.inr ⟨by rfl, rfl⟩) (SK.out _ HB9.out) ?_
          try simp only [Act.put, List.setIfInBounds_toArray, List.set_cons_zero, List.set_cons_succ]
          refine RegL.take_w (i := 28) (oi := ⟨some 33, _, _, _, _, _⟩) (v := undef) SM rfl (by decide) (by kernel_rfl) (by kernel_rfl) (by kernel_rfl) (fun _ _ _ h => h) (Or.inr ⟨by rfl, rfl⟩) (SK.out _ HB9.out) ?_
          try simp only [Act.put, List.setIfInBounds_toArray, List.set_cons_zero, List.set_cons_succ]
          refine RegL.take_w (i := 29) (oi := ⟨some 34, _, _, _, _, _⟩) (v := ?_) SM rfl (by decide) (by kernel_rfl) (by kernel_rfl) (by kernel_rfl) (fun _ _ _ h => h) (Or.inl ⟨by rfl, ?_⟩) (SK.out _ HB9.out) ?_
          rotate_left
          · intro w9 hw9; obtain ⟨q1, q2, q3, q4, q5, q6, q7, q8, q9, q10⟩ := hw9; go_simp; try with_reducible rfl
          try simp only [Act.put, List.setIfInBounds_toArray, List.set_cons_zero, List.set_cons_succ]
          refine RegL.done_of (by kernel_rfl) ?_ _
          go_wp2_with fail
          go_meet
          exact ⟨by rw [EB.out], H2.out.below HB9.out⟩
      · have hbd : Below W2.heap.size W2 W2.drew := (Below.refl _ _).drew
        have HBD := Lib.hid hbd
        have CF := Lib.hid (fit_calls f A c W2.drew)
        have eb : badP s f = true := by unfold badP; rw [hf, beq_eq_false_iff_ne.2 hs]; simp
        have EB := Lib.hid eb
        rw [hf] at CF
        have j1 : (f.src != s.other) = true := bne_iff_ne.2 hs
        clear hf hs
        have SK : Hid (∀ w9, Below W2.heap.size W2 w9 → w9.cell? ⟨bf, 0, none⟩ = some (.int .i64 f.src) ∧ w9.cell? ⟨bf, 1, none⟩ = some (.int .i64 f.dst) ∧ w9.cell? ⟨bf, 2, none⟩ = some (.int .u64 (f.mine : Int)) ∧ w9.cell? ⟨bf, 3, none⟩ = some (.int .u64 (f.yours : Int)) ∧ w9.cell? ⟨bf, 4, none⟩ = some (.int .u64 (f.seq : Int)) ∧ w9.cell? ⟨bf, 5, none⟩ = some (.int .u64 (f.ack : Int)) ∧ w9.cell? ⟨bf, 6, none⟩ = some (.slice A f.body.length c) ∧ w9.cell? ⟨g, 0, none⟩ = some (.int .i64 s.me) ∧ w9.cell? ⟨g, 1, none⟩ = some (.int .i64 s.other) ∧ w9.cell? ⟨g, 3, none⟩ = some (.int .u64 (s.known : Int))) := fun w9 h => ⟨pw_cell_below h y0, pw_cell_below h y1, pw_cell_below h y2, pw_cell_below h y3, pw_cell_below h y4, pw_cell_below h y5, pw_cell_below h y6, pw_cell_below h z0, pw_cell_below h z1, pw_cell_below h z3⟩
        clear hbd eb y0 y1 y2 y3 y4 y5 y6 z0 z1 z3
        have SM : ∀ (bb0 : Bool) (w9 : World), (fun (_ : Bool) (w9 : World) => w9.cell? ⟨bf, 0, none⟩ = some (.int .i64 f.src) ∧ w9.cell? ⟨bf, 1, none⟩ = some (.int .i64 f.dst) ∧ w9.cell? ⟨bf, 2, none⟩ = some (.int .u64 (f.mine : Int)) ∧ w9.cell? ⟨bf, 3, none⟩ = some (.int .u64 (f.yours : Int)) ∧ w9.cell? ⟨bf, 4, none⟩ = some (.int .u64 (f.seq : Int)) ∧ w9.cell? ⟨bf, 5, none⟩ = some (.int .u64 (f.ack : Int)) ∧ w9.cell? ⟨bf, 6, none⟩ = some (.slice A f.body.length c) ∧ w9.cell? ⟨g, 0, none⟩ = some (.int .i64 s.me) ∧ w9.cell? ⟨g, 1, none⟩ = some (.int .i64 s.other) ∧ w9.cell? ⟨g, 3, none⟩ = some (.int .u64 (s.known : Int))) bb0 w9 → (fun (_ : Bool) (w9 : World) => w9.cell? ⟨bf, 0, none⟩ = some (.int .i64 f.src) ∧ w9.cell? ⟨bf, 1, none⟩ = some (.int .i64 f.dst) ∧ w9.cell? ⟨bf, 2, none⟩ = some (.int .u64 (f.mine : Int)) ∧ w9.cell? ⟨bf, 3, none⟩ = some (.int .u64 (f.yours : Int)) ∧ w9.cell? ⟨bf, 4, none⟩ = some (.int .u64 (f.seq : Int)) ∧ w9.cell? ⟨bf, 5, none⟩ = some (.int .u64 (f.ack : Int)) ∧ w9.cell? ⟨bf, 6, none⟩ = some (.slice A f.body.length c) ∧ w9.cell? ⟨g, 0, none⟩ = some (.int .i64 s.me) ∧ w9.cell? ⟨g, 1, none⟩ = some (.int .i64 s.other) ∧ w9.cell? ⟨g, 3, none⟩ = some (.int .u64 (s.known : Int))) true w9 := fun _ _ h => h
        refine RegL.begin_of (k := 99) (S := fun (_ : Bool) (w9 : World) => w9.cell? ⟨bf, 0, none⟩ = some (.int .i64 f.src) ∧ w9.cell? ⟨bf, 1, none⟩ = some (.int .i64 f.dst) ∧ w9.cell? ⟨bf, 2, none⟩ = some (.int .u64 (f.mine : Int)) ∧ w9.cell? ⟨bf, 3, none⟩ = some (.int .u64 (f.yours : Int)) ∧ w9.cell? ⟨bf, 4, none⟩ = some (.int .u64 (f.seq : Int)) ∧ w9.cell? ⟨bf, 5, none⟩ = some (.int .u64 (f.ack : Int)) ∧ w9.cell? ⟨bf, 6, none⟩ = some (.slice A f.body.length c) ∧ w9.cell? ⟨g, 0, none⟩ = some (.int .i64 s.me) ∧ w9.cell? ⟨g, 1, none⟩ = some (.int .i64 s.other) ∧ w9.cell? ⟨g, 3, none⟩ = some (.int .u64 (s.known : Int))) (by kernel_rfl) ?_
        refine RegL.take_w (i := 0) (oi := ⟨some 5, _, _, _, _, _⟩) (v := .agg #[(.int .i64 f.src), (.int .i64 f.dst), (.int .u64 (f.mine : Int)), (.int .u64 (f.yours : Int)), (.int .u64 (f.seq : Int)), (.int .u64 (f.ack : Int)), (.slice A f.body.length c)]) SM rfl (by decide) (by kernel_rfl) (by kernel_rfl) (by kernel_rfl) (fun _ _ _ h => h) (yieldsIf_load_mid (by rfl) 69 (.tmp 3) rfl bf 0 rfl [(.int .i64 f.src), (.int .i64 f.dst), (.int .u64 (f.mine : Int)), (.int .u64 (f.yours : Int)), (.int .u64 (f.seq : Int)), (.int .u64 (f.ack : Int)), (.slice A f.body.length c)] _ (fun w9 hw9 => by obtain ⟨q1, q2, q3, q4, q5, q6, q7, q8, q9, q10⟩ := hw9; exact range7 q1 q2 q3 q4 q5 q6 q7) Tryd.underlying69 rfl infoF) (SK.out _ HBD.out) ?_
        try simp only [Act.put, List.setIfInBounds_toArray, List.set_cons_zero, List.set_cons_succ]
        refine RegL.step_of (i := 1) (o := ⟨some 6, _, _, _, _, _⟩) (by kernel_rfl) rfl (fun K' hK => ?_)
        go_simp
        go_at_call 84
        (with_reducible refine CF.out.mono ?_)
        rintro e w9 ⟨rfl, hb9⟩
        have HB9 : Hid (Below W2.heap.size W2 w9) := HBD.out.trans hb9
        clear hb9
        refine hK _ _ (SK.out _ HB9.out) ?_
        clear hK K'
        try simp only [Act.put, List.setIfInBounds_toArray, List.set_cons_zero, List.set_cons_succ]
        refine RegL.take_w (i := 2) (oi := ⟨some 7, _, _, _, _, _⟩) (v := ?_) SM rfl (by decide) (by kernel_rfl) (by kernel_rfl) (by kernel_rfl) (fun _ _ _ h => h) (Or.inl ⟨by rfl, ?_⟩) (SK.out _ HB9.out) ?_
        rotate_left
        · intro w9 hw9; obtain ⟨q1, q2, q3, q4, q5, q6, q7, q8, q9, q10⟩ := hw9; go_simp; try with_reducible rfl
        try simp only [Act.put, List.setIfInBounds_toArray, List.set_cons_zero, List.set_cons_succ]
        refine RegL.take_w (i := 3) (oi := ⟨some 8, _, _, _, _, _⟩) (v := ?_) SM rfl (by decide) (by kernel_rfl) (by kernel_rfl) (by kernel_rfl) (fun _ _ _ h => h) (Or.inl ⟨by rfl, ?_⟩) (SK.out _ HB9.out) ?_
        rotate_left
        · intro w9 hw9; obtain ⟨q1, q2, q3, q4, q5, q6, q7, q8, q9, q10⟩ := hw9; go_simp; try with_reducible rfl
        try simp only [Act.put, List.setIfInBounds_toArray, List.set_cons_zero, List.set_cons_succ]
        refine RegL.take_w (i := 4) (oi := ⟨some 9, _, _, _, _, _⟩) (v := ?_) SM rfl (by decide) (by kernel_rfl) (by kernel_rfl) (by kernel_rfl) (fun _ _ _ h => h) (Or.inl ⟨by rfl, ?_⟩) (SK.out _ HB9.out) ?_
        rotate_left
        · intro w9 hw9; obtain ⟨q1, q2, q3, q4, q5, q6, q7, q8, q9, q10⟩ := hw9; go_simp; try with_reducible rfl
        try simp only [Act.put, List.setIfInBounds_toArray, List.set_cons_zero, List.set_cons_succ]
        refine RegL.take_w (i := 5) (oi := ⟨some 10, _, _, _, _, _⟩) (v := ?_) SM rfl (by decide) (by kernel_rfl) (by kernel_rfl) (by kernel_rfl) (fun _ _ _ h => h) (Or.inl ⟨by rfl, ?_⟩) (SK.out _ HB9.out) ?_
        rotate_left
        · intro w9 hw9; obtain ⟨q1, q2, q3, q4, q5, q6, q7, q8, q9, q10⟩ := hw9; go_simp; try with_reducible rfl
        try simp only [Act.put, List.setIfInBounds_toArray, List.set_cons_zero, List.set_cons_succ]
        refine RegL.take_w (i := 6) (oi := ⟨some 11, _, _, _, _, _⟩) (v := ?_) SM rfl (by decide) (by kernel_rfl) (by kernel_rfl) (by kernel_rfl) (fun _ _ _ h => h) (Or.inl ⟨by rfl, ?_⟩) (SK.out _ HB9.out) ?_
        rotate_left
        · intro w9 hw9; obtain ⟨q1, q2, q3, q4, q5, q6, q7, q8, q9, q10⟩ := hw9; go_simp; try with_reducible rfl
        try simp only [Act.put, List.setIfInBounds_toArray, List.set_cons_zero, List.set_cons_succ]
        refine RegL.take_w (i := 7) (oi := ⟨some 12, _, _, _, _, _⟩) (v := ?_) SM rfl (by decide) (by kernel_rfl) (by kernel_rfl) (by kernel_rfl) (fun _ _ _ h => h) (Or.inl ⟨by rfl, ?_⟩) (SK.out _ HB9.out) ?_
        rotate_left
        · intro w9 hw9; obtain ⟨q1, q2, q3, q4, q5, q6, q7, q8, q9, q10⟩ := hw9; go_simp; try with_reducible rfl
        try simp only [Act.put, List.setIfInBounds_toArray, List.set_cons_zero, List.set_cons_succ]
        refine RegL.take_w (i := 8) (oi := ⟨some 13, _, _, _, _, _⟩) (v := ?_) SM rfl (by decide) (by kernel_rfl) (by kernel_rfl) (by kernel_rfl) (fun _ _ _ h => h) (Or.inl ⟨by rfl, ?_⟩) (SK.out _ HB9.out) ?_
        rotate_left
        · intro w9 hw9; obtain ⟨q1, q2, q3, q4, q5, q6, q7, q8, q9, q10⟩ := hw9; go_simp; try with_reducible rfl
        try simp only [Act.put, List.setIfInBounds_toArray, List.set_cons_zero, List.set_cons_succ]
        refine RegL.take_w (i := 9) (oi := ⟨some 14, _, _, _, _, _⟩) (v := ?_) SM rfl (by decide) (by kernel_rfl) (by kernel_rfl) (by kernel_rfl) (fun _ _ _ h => h) (Or.inl ⟨by rfl, ?_⟩) (SK.out _ HB9.out) ?_
        rotate_left
        · intro w9 hw9; obtain ⟨q1, q2, q3, q4, q5, q6, q7, q8, q9, q10⟩ := hw9; go_simp; try with_reducible rfl
        try simp only [Act.put, List.setIfInBounds_toArray, List.set_cons_zero, List.set_cons_succ]
        refine RegL.take_w (i := 10) (oi := ⟨some 15, _, _, _, _, _⟩) (v := ?_) SM rfl (by decide) (by kernel_rfl) (by kernel_rfl) (by kernel_rfl) (fun _ _ _ h => h) (Or.inl ⟨by rfl, ?_⟩) (SK.out _ HB9.out) ?_
        rotate_left
        · intro w9 hw9; obtain ⟨q1, q2, q3, q4, q5, q6, q7, q8, q9, q10⟩ := hw9; go_simp; try with_reducible rfl
        try simp only [Act.put, List.setIfInBounds_toArray, List.set_cons_zero, List.set_cons_succ]
        refine RegL.take_w (i := 11) (oi := ⟨some 16, _, _, _, _, _⟩) (v := ?_) SM rfl (by decide) (by kernel_rfl) (by kernel_rfl) (by kernel_rfl) (fun _ _ _ h => h) (Or.inl ⟨by rfl, ?_⟩) (SK.out _ HB9.out) ?_
        rotate_left
        · intro w9 hw9; obtain ⟨q1, q2, q3, q4, q5, q6, q7, q8, q9, q10⟩ := hw9; go_simp; try with_reducible rfl
        try simp only [Act.put, List.setIfInBounds_toArray, List.set_cons_zero, List.set_cons_succ]
        refine RegL.take_w (i := 12) (oi := ⟨some 17, _, _, _, _, _⟩) (v := ?_) SM rfl (by decide) (by kernel_rfl) (by kernel_rfl) (by kernel_rfl) (fun _ _ _ h => h) (Or.inl ⟨by rfl, ?_⟩) (SK.out _ HB9.out) ?_
        rotate_left
        · intro w9 hw9; obtain ⟨q1, q2, q3, q4, q5, q6, q7, q8, q9, q10⟩ := hw9; go_simp; try with_reducible rfl
        try simp only [Act.put, List.setIfInBounds_toArray, List.set_cons_zero, List.set_cons_succ]
        refine RegL.take_w (i := 13) (oi := ⟨some 18, _, _, _, _, _⟩) (v := undef) SM rfl (by decide) (by kernel_rfl) (by kernel_rfl) (by kernel_rfl) (fun _ _ _ h => h) (Or.inr ⟨by rfl, rfl⟩) (SK.out _ HB9.out) ?_
        try simp only [Act.put, List.setIfInBounds_toArray, List.set_cons_zero, List.set_cons_succ]
        refine RegL.take_w (i := 14) (oi := ⟨some 19, _, _, _, _, _⟩) (v := undef) SM rfl (by decide) (by kernel_rfl) (by kernel_rfl) (by kernel_rfl) (fun _ _ _ h => h) (Or.inr ⟨by rfl, rfl⟩) (SK.out _ HB9.out) ?_
        try simp only [Act.put, List.setIfInBounds_toArray, List.set_cons_zero, List.set_cons_succ]
        refine RegL.take_w (i := 15) (oi := ⟨some 20, _, _, _, _, _⟩) (v := undef) SM rfl (by decide) (by kernel_rfl) (by kernel_rfl) (by kernel_rfl) (fun _ _ _ h => h) (Or.inr ⟨by rfl, rfl⟩) (SK.out _ HB9.out) ?_
        try simp only [Act.put, List.setIfInBounds_toArray, List.set_cons_zero, List.set_cons_succ]
        refine RegL.take_w (i := 16) (oi := ⟨some 21, _, _, _, _, _⟩) (v := undef) SM rfl (by decide) (by kernel_rfl) (by kernel_rfl) (by kernel_rfl) (fun _ _ _ h => h) (Or.inr ⟨by rfl, rfl⟩) (SK.out _ HB9.out) ?_
        try simp only [Act.put, List.setIfInBounds_toArray, List.set_cons_zero, List.set_cons_succ]
        refine RegL.take_w (i := 17) (oi := ⟨some 22, _, _, _, _, _⟩) (v := undef) SM rfl (by decide) (by kernel_rfl) (by kernel_rfl) (by kernel_rfl) (fun _ _ _ h => h) (Or.inr ⟨by rfl, rfl⟩) (SK.out _ HB9.out) ?_
        try simp only [Act.put, List.setIfInBounds_toArray, List.set_cons_zero, List.set_cons_succ]
        refine RegL.take_w (i := 18) (oi := ⟨some 23, _, _, _, _, _⟩) (v := undef) SM rfl (by decide) (by kernel_rfl) (by kernel_rfl) (by kernel_rfl) (fun _ _ _ h => h) (Or.inr ⟨by rfl, rfl⟩) (SK.out _ HB9.out) ?_
        try simp only [Act.put, List.setIfInBounds_toArray, List.set_cons_zero, List.set_cons_succ]
        refine RegL.take_w (i := 19) (oi := ⟨some 24, _, _, _, _, _⟩) (v := undef) SM rfl (by decide) (by kernel_rfl) (by kernel_rfl) (by kernel_rfl) (fun _ _ _ h => h) (Or.inr ⟨by rfl, rfl⟩) (SK.out _ HB9.out) ?_
        try simp only [Act.put, List.setIfInBounds_toArray, List.set_cons_zero, List.set_cons_succ]
        refine RegL.take_w (i := 20) (oi := ⟨some 25, _, _, _, _, _⟩) (v := ?_) SM rfl (by decide) (by kernel_rfl) (by kernel_rfl) (by kernel_rfl) (fun _ _ _ h => h) (Or.inl ⟨by rfl, ?_⟩) (SK.out _ HB9.out) ?_
        rotate_left
        · intro w9 hw9; obtain ⟨q1, q2, q3, q4, q5, q6, q7, q8, q9, q10⟩ := hw9; go_simp; try with_reducible rfl
        try simp only [Act.put, List.setIfInBounds_toArray, List.set_cons_zero, List.set_cons_succ]
        refine RegL.take_w (i := 21) (oi := ⟨some 26, _, _, _, _, _⟩) (v := ?_) SM rfl (by decide) (by kernel_rfl) (by kernel_rfl) (by kernel_rfl) (fun _ _ _ h => h) (Or.inl ⟨by rfl, ?_⟩) (SK.out _ HB9.out) ?_
        rotate_left
        · intro w9 hw9; obtain ⟨q1, q2, q3, q4, q5, q6, q7, q8, q9, q10⟩ := hw9; go_simp; try with_reducible rfl
        try simp only [Act.put, List.setIfInBounds_toArray, List.set_cons_zero, List.set_cons_succ]
        refine RegL.take_w (i := 22) (oi := ⟨some 27, _, _, _, _, _⟩) (v := undef) SM rfl (by decide) (by kernel_rfl) (by kernel_rfl) (by kernel_rfl) (fun _ _ _ h => h) (Or.inr ⟨by rfl, rfl⟩) (SK.out _ HB9.out) ?_
        try simp only [Act.put, List.setIfInBounds_toArray, List.set_cons_zero, List.set_cons_succ]
        refine RegL.take_w (i := 23) (oi := ⟨some 28, _, _, _, _, _⟩) (v := undef) SM rfl (by decide) (by kernel_rfl) (by kernel_rfl) (by kernel_rfl) (fun _ _ _ h => h) (Or.inr ⟨by rfl, rfl⟩) (SK.out _ HB9.out) ?_
        try simp only [Act.put, List.setIfInBounds_toArray, List.set_cons_zero, List.set_cons_succ]
        refine RegL.take_w (i := 24) (oi := ⟨some 29, _, _, _, _, _⟩) (v := undef) SM rfl (by decide) (by kernel_rfl) (by kernel_rfl) (by kernel_rfl) (fun _ _ _ h => h) (Or.inr ⟨by rfl, rfl⟩) (SK.out _ HB9.out) ?_
        try simp only [Act.put, List.setIfInBounds_toArray, List.set_cons_zero, List.set_cons_succ]
        refine RegL.take_w (i := 25) (oi := ⟨some 30, _, _, _, _, _⟩) (v := undef) SM rfl (by decide) (by kernel_rfl) (by kernel_rfl) (by kernel_rfl) (fun _ _ _ h => h) (Or.inr ⟨by rfl, rfl⟩) (SK.out _ HB9.out) ?_
        try simp only [Act.put, List.setIfInBounds_toArray, List.set_cons_zero, List.set_cons_succ]
        refine RegL.take_w (i := 26) (oi := ⟨some 31, _, _, _, _, _⟩) (v := undef) SM rfl (by decide) (by kernel_rfl) (by kernel_rfl) (by kernel_rfl) (fun _ _ _ h => h) (Or.inr ⟨by rfl, rfl⟩) (SK.out _ HB9.out) ?_
        try simp only [Act.put, List.setIfInBounds_toArray, List.set_cons_zero, List.set_cons_succ]
        refine RegL.take_w (i := 27) (oi := ⟨some 32, _, _, _, _, _⟩) (v := undef) SM rfl (by decide) (by kernel_rfl) (by kernel_rfl) (by kernel_rfl) (fun _ _ _ h => h) (Or.inr ⟨by rfl, rfl⟩) (SK.out _ HB9.out) ?_
        try simp only [Act.put, List.setIfInBounds_toArray, List.set_cons_zero, List.set_cons_succ]
        refine RegL.take_w (i := 28) (oi := ⟨some 33, _, _, _, _, _⟩) (v := undef) SM rfl (by decide) (by kernel_rfl) (by kernel_rfl) (by kernel_rfl) (fun _ _ _ h => h) (Or.inr ⟨by rfl, rfl⟩) (SK.out _ HB9.out) ?_
        try simp only [Act.put, List.setIfInBounds_toArray, List.set_cons_zero, List.set_cons_succ]
        refine RegL.take_w (i := 29) (oi := ⟨some 34, _, _, _, _, _⟩) (v := ?_) SM rfl (by decide) (by kernel_rfl) (by kernel_rfl) (by kernel_rfl) (fun _ _ _ h => h) (Or.inl ⟨by rfl, ?_⟩) (SK.out _ HB9.out) ?_
        rotate_left
        · intro w9 hw9; obtain ⟨q1, q2, q3, q4, q5, q6, q7, q8, q9, q10⟩ := hw9; go_simp; try with_reducible rfl
        try simp only [Act.put, List.setIfInBounds_toArray, List.set_cons_zero, List.set_cons_succ]
        refine RegL.done_of (by kernel_rfl) ?_ _
        go_wp2_with fail
        go_meet
        exact ⟨by rw [EB.out], H2.out.below HB9.out⟩
  case rest =>
    obtain ⟨hs34, hc1⟩ := hcut
    obtain ⟨wa, hwa⟩ : ∃ wa, wa = wc := ⟨_, rfl⟩
    rw [← hwa] at hc1 ⊢
    have HA := Lib.hid hc1
    clear hc1 hwa
    by_cases hbad : badP s f = true
    · rw [hbad] at hs34
      subst hs34
      have e1 : handedP s f = false := by unfold handedP; rw [hbad]; rfl
      have e2 : anewP s f = false := by unfold anewP; rw [hbad]; rfl
      have e3 : fineP s f = false := by unfold fineP; rw [hbad]; rfl
      have e4 : bodyP s f = [] := by unfold bodyP; rw [e1]; rfl
      have e5 : hearP s f = s := by unfold hearP; rw [if_pos hbad]
      have E1 := Lib.hid e1
      have E2 := Lib.hid e2
      have E3 := Lib.hid e3
      have E4 := Lib.hid e4
      have E5 := Lib.hid e5
      clear e1 e2 e3 e4 e5 hbad
      have y0 : wa.cell? ⟨bh, 0, none⟩ = some (NL) := HA.out.cellOf (g := bh) (cs := #[NL, .bool false, .bool false, .bool false]) (t := 91) (by simp) 0 rfl
      have y1 : wa.cell? ⟨bh, 1, none⟩ = some (.bool false) := HA.out.cellOf (g := bh) (cs := #[NL, .bool false, .bool false, .bool false]) (t := 91) (by simp) 1 rfl
      have y2 : wa.cell? ⟨bh, 2, none⟩ = some (.bool false) := HA.out.cellOf (g := bh) (cs := #[NL, .bool false, .bool false, .bool false]) (t := 91) (by simp) 2 rfl
      have y3 : wa.cell? ⟨bh, 3, none⟩ = some (.bool false) := HA.out.cellOf (g := bh) (cs := #[NL, .bool false, .bool false, .bool false]) (t := 91) (by simp) 3 rfl
      have fy0 := HA.out.freeOf (g := bh) (cs := #[NL, .bool false, .bool false, .bool false]) (t := 91) (by simp) 0
      have fy1 := HA.out.freeOf (g := bh) (cs := #[NL, .bool false, .bool false, .bool false]) (t := 91) (by simp) 1
      have fy2 := HA.out.freeOf (g := bh) (cs := #[NL, .bool false, .bool false, .bool false]) (t := 91) (by simp) 2
      have fy3 := HA.out.freeOf (g := bh) (cs := #[NL, .bool false, .bool false, .bool false]) (t := 91) (by simp) 3
      go_wp2_with fail
      obtain ⟨Wz, hWz⟩ : ∃ Wz, Wz = ((((wa.setCell ⟨bh, 0, none⟩ NL).setCell ⟨bh, 1, none⟩ (.bool false)).setCell ⟨bh, 2, none⟩ (.bool false)).setCell ⟨bh, 3, none⟩ (.bool false)) := ⟨_, rfl⟩
      have hz := St.self4 (HA.out.re (M := B bh #[NL, .bool false, .bool false, .bool false] 91 :: (lkE g s ++ (B bf (frC f A c) 69 :: R))) (fun x => by simp only [cnt_append, cnt_cons]; omega))
      rw [← hWz] at hz ⊢
      have q0 : Wz.cell? ⟨bh, 0, none⟩ = some NL := blk_cell hz.hd 0
      have q1 : Wz.cell? ⟨bh, 1, none⟩ = some (.bool false) := blk_cell hz.hd 1
      have q2 : Wz.cell? ⟨bh, 2, none⟩ = some (.bool false) := blk_cell hz.hd 2
      have q3 : Wz.cell? ⟨bh, 3, none⟩ = some (.bool false) := blk_cell hz.hd 3
      have HZZ := Lib.hid hz
      clear hWz hz
      refine bodyPost_ret (results_cell rfl _ _ _ ⟨bh, 0, none⟩ (.agg #[NL, .bool false, .bool false, .bool false]) rfl (by go_simp)) rfl ?_
      rw [E1.out, E2.out, E3.out, E4.out, E5.out]
      exact ⟨s.iv, NL, rfl, byV_nil, HV.out, by show St w0 _ (lkE g s ++ (byR NL [] ++ R)); exact HZZ.out.re (fun x => by simp only [byR_nil, cnt_append, cnt_cons, cnt_nil]; omega)⟩
    · have hbad' : badP s f = false := by simpa using hbad
      rw [hbad'] at hs34
      subst hs34
      have HB := Lib.hid hbad'
      obtain ⟨an, han⟩ : ∃ an, an = decide (s.known < f.mine) := ⟨_, rfl⟩
      have HAN := Lib.hid han
      have HALL : Hid (wa.drew.cell? ⟨bf, 2, none⟩ = some (.int .u64 (f.mine : Int)) ∧ wa.drew.cell? ⟨g, 3, none⟩ = some (.int .u64 (s.known : Int))) := ⟨HA.out.drew.cellOf (g := bf) (cs := frC f A c) (t := 69) (by simp) 2 rfl, lk_cell HA.out.drew 3 rfl⟩
      clear hbad hbad' han
      go_upto_region 3 with fail
      go_cut [42] (fun s42 wx => s42 = .bool an ∧ wx = wa.drew)
      case first =>
        by_cases hc : s.known < f.mine
        · have hd := Lib.hid (decide_eq_true hc)
          have j1 : (s.known : Int) < (f.mine : Int) := by omega
          clear hc
          have SM : ∀ (bb0 : Bool) (w9 : World), (fun (_ : Bool) (w9 : World) => w9.cell? ⟨bf, 2, none⟩ = some (.int .u64 (f.mine : Int)) ∧ w9.cell? ⟨g, 3, none⟩ = some (.int .u64 (s.known : Int))) bb0 w9 → (fun (_ : Bool) (w9 : World) => w9.cell? ⟨bf, 2, none⟩ = some (.int .u64 (f.mine : Int)) ∧ w9.cell? ⟨g, 3, none⟩ = some (.int .u64 (s.known : Int))) true w9 := fun _ _ h => h
          refine RegL.begin_of (k := 99) (S := fun (_ : Bool) (w9 : World) => w9.cell? ⟨bf, 2, none⟩ = some (.int .u64 (f.mine : Int)) ∧ w9.cell? ⟨g, 3, none⟩ = some (.int .u64 (s.known : Int))) (by kernel_rfl) ?_
          refine RegL.take_w (i := 0) (oi := ⟨some 36, _, _, _, _, _⟩) (v := ?_) SM rfl (by decide) (by kernel_rfl) (by kernel_rfl) (by kernel_rfl) (fun _ _ _ h => h) (Or.inl ⟨by rfl, ?_⟩) (HALL.out) ?_
          rotate_left
          · intro w9 hw9; obtain ⟨q1, q2⟩ := hw9; go_simp; try with_reducible rfl
          try simp only [Act.put, List.setIfInBounds_toArray, List.set_cons_zero, List.set_cons_succ]
          refine RegL.take_w (i := 1) (oi := ⟨some 37, _, _, _, _, _⟩) (v := ?_) SM rfl (by decide) (by kernel_rfl) (by kernel_rfl) (by kernel_rfl) (fun _ _ _ h => h) (Or.inl ⟨by rfl, ?_⟩) (HALL.out) ?_
          rotate_left
          · intro w9 hw9; obtain ⟨q1, q2⟩ := hw9; go_simp; try with_reducible rfl
          try simp only [Act.put, List.setIfInBounds_toArray, List.set_cons_zero, List.set_cons_succ]
          refine RegL.take_w (i := 2) (oi := ⟨some 38, _, _, _, _, _⟩) (v := ?_) SM rfl (by decide) (by kernel_rfl) (by kernel_rfl) (by kernel_rfl) (fun _ _ _ h => h) (Or.inl ⟨by rfl, ?_⟩) (HALL.out) ?_
          rotate_left
          · intro w9 hw9; obtain ⟨q1, q2⟩ := hw9; go_simp; try with_reducible rfl
          try simp only [Act.put, List.setIfInBounds_toArray, List.set_cons_zero, List.set_cons_succ]
          refine RegL.take_w (i := 3) (oi := ⟨some 39, _, _, _, _, _⟩) (v := ?_) SM rfl (by decide) (by kernel_rfl) (by kernel_rfl) (by kernel_rfl) (fun _ _ _ h => h) (Or.inl ⟨by rfl, ?_⟩) (HALL.out) ?_
          rotate_left
          · intro w9 hw9; obtain ⟨q1, q2⟩ := hw9; go_simp; try with_reducible rfl
          try simp only [Act.put, List.setIfInBounds_toArray, List.set_cons_zero, List.set_cons_succ]
          refine RegL.take_w (i := 4) (oi := ⟨some 40, _, _, _, _, _⟩) (v := ?_) SM rfl (by decide) (by kernel_rfl) (by kernel_rfl) (by kernel_rfl) (fun _ _ _ h => h) (Or.inl ⟨by rfl, ?_⟩) (HALL.out) ?_
          rotate_left
          · intro w9 hw9; obtain ⟨q1, q2⟩ := hw9; go_simp; try with_reducible rfl
          try simp only [Act.put, List.setIfInBounds_toArray, List.set_cons_zero, List.set_cons_succ]
          refine RegL.take_w (i := 5) (oi := ⟨some 41, _, _, _, _, _⟩) (v := ?_) SM rfl (by decide) (by kernel_rfl) (by kernel_rfl) (by kernel_rfl) (fun _ _ _ h => h) (Or.inl ⟨by rfl, ?_⟩) (HALL.out) ?_
          rotate_left
          · intro w9 hw9; obtain ⟨q1, q2⟩ := hw9; go_simp; try with_reducible rfl
          try simp only [Act.put, List.setIfInBounds_toArray, List.set_cons_zero, List.set_cons_succ]
          refine RegL.take_w (i := 6) (oi := ⟨some 42, _, _, _, _, _⟩) (v := ?_) SM rfl (by decide) (by kernel_rfl) (by kernel_rfl) (by kernel_rfl) (fun _ _ _ h => h) (Or.inl ⟨by rfl, ?_⟩) (HALL.out) ?_
          rotate_left
          · intro w9 hw9; obtain ⟨q1, q2⟩ := hw9; go_simp; try with_reducible rfl
          try simp only [Act.put, List.setIfInBounds_toArray, List.set_cons_zero, List.set_cons_succ]
          refine RegL.done_of (by kernel_rfl) ?_ _
          go_wp2_with fail
          go_meet
          exact ⟨by rw [HAN.out, hd.out], rfl⟩
        · have hd := Lib.hid (decide_eq_false hc)
          have j1 : ¬ (s.known : Int) < (f.mine : Int) := by omega
          clear hc
          have SM : ∀ (bb0 : Bool) (w9 : World), (fun (_ : Bool) (w9 : World) => w9.cell? ⟨bf, 2, none⟩ = some (.int .u64 (f.mine : Int)) ∧ w9.cell? ⟨g, 3, none⟩ = some (.int .u64 (s.known : Int))) bb0 w9 → (fun (_ : Bool) (w9 : World) => w9.cell? ⟨bf, 2, none⟩ = some (.int .u64 (f.mine : Int)) ∧ w9.cell? ⟨g, 3, none⟩ = some (.int .u64 (s.known : Int))) true w9 := fun _ _ h => h
          refine RegL.begin_of (k := 99) (S := fun (_ : Bool) (w9 : World) => w9.cell? ⟨bf, 2, none⟩ = some (.int .u64 (f.mine : Int)) ∧ w9.cell? ⟨g, 3, none⟩ = some (.int .u64 (s.known : Int))) (by kernel_rfl) ?_
          refine RegL.take_w (i := 0) (oi := ⟨some 36, _, _, _, _, _⟩) (v := ?_) SM rfl (by decide) (by kernel_rfl) (by kernel_rfl) (by kernel_rfl) (fun _ _ _ h => h) (Or.inl ⟨by rfl, ?_⟩) (HALL.out) ?_
          rotate_left
          · intro w9 hw9; obtain ⟨q1, q2⟩ := hw9; go_simp; try with_reducible rfl
          try simp only [Act.put, List.setIfInBounds_toArray, List.set_cons_zero, List.set_cons_succ]
          refine RegL.take_w (i := 1) (oi := ⟨some 37, _, _, _, _, _⟩) (v := ?_) SM rfl (by decide) (by kernel_rfl) (by kernel_rfl) (by kernel_rfl) (fun _ _ _ h => h) (Or.inl ⟨by rfl, ?_⟩) (HALL.out) ?_
          rotate_left
          · intro w9 hw9; obtain ⟨q1, q2⟩ := hw9; go_simp; try with_reducible rfl
          try simp only [Act.put, List.setIfInBounds_toArray, List.set_cons_zero, List.set_cons_succ]
          refine RegL.take_w (i := 2) (oi := ⟨some 38, _, _, _, _, _⟩) (v := ?_) SM rfl (by decide) (by kernel_rfl) (by kernel_rfl) (by kernel_rfl) (fun _ _ _ h => h) (Or.inl ⟨by rfl, ?_⟩) (HALL.out) ?_
          rotate_left
          · intro w9 hw9; obtain ⟨q1, q2⟩ := hw9; go_simp; try with_reducible rfl
          try simp only [Act.put, List.setIfInBounds_toArray, List.set_cons_zero, List.set_cons_succ]
          refine RegL.take_w (i := 3) (oi := ⟨some 39, _, _, _, _, _⟩) (v := ?_) SM rfl (by decide) (by kernel_rfl) (by kernel_rfl) (by kernel_rfl) (fun _ _ _ h => h) (Or.inl ⟨by rfl, ?_⟩) (HALL.out) ?_
          rotate_left
          · intro w9 hw9; obtain ⟨q1, q2⟩ := hw9; go_simp; try with_reducible rfl
          try simp only [Act.put, List.setIfInBounds_toArray, List.set_cons_zero, List.set_cons_succ]
          refine RegL.take_w (i := 4) (oi := ⟨some 40, _, _, _, _, _⟩) (v := ?_) SM rfl (by decide) (by kernel_rfl) (by kernel_rfl) (by kernel_rfl) (fun _ _ _ h => h) (Or.inl ⟨by rfl, ?_⟩) (HALL.out) ?_
          rotate_left
          · intro w9 hw9; obtain ⟨q1, q2⟩ := hw9; go_simp; try with_reducible rfl
          try simp only [Act.put, List.setIfInBounds_toArray, List.set_cons_zero, List.set_cons_succ]
          refine RegL.take_w (i := 5) (oi := ⟨some 41, _, _, _, _, _⟩) (v := ?_) SM rfl (by decide) (by kernel_rfl) (by kernel_rfl) (by kernel_rfl) (fun _ _ _ h => h) (Or.inl ⟨by rfl, ?_⟩) (HALL.out) ?_
          rotate_left
          · intro w9 hw9; obtain ⟨q1, q2⟩ := hw9; go_simp; try with_reducible rfl
          try simp only [Act.put, List.setIfInBounds_toArray, List.set_cons_zero, List.set_cons_succ]
          refine RegL.take_w (i := 6) (oi := ⟨some 42, _, _, _, _, _⟩) (v := ?_) SM rfl (by decide) (by kernel_rfl) (by kernel_rfl) (by kernel_rfl) (fun _ _ _ h => h) (Or.inl ⟨by rfl, ?_⟩) (HALL.out) ?_
          rotate_left
          · intro w9 hw9; obtain ⟨q1, q2⟩ := hw9; go_simp; try with_reducible rfl
          try simp only [Act.put, List.setIfInBounds_toArray, List.set_cons_zero, List.set_cons_succ]
          refine RegL.done_of (by kernel_rfl) ?_ _
          go_wp2_with fail
          go_meet
          exact ⟨by rw [HAN.out, hd.out], rfl⟩
      case rest =>
        obtain ⟨hs42, hwb⟩ := hcut
        subst hs42
        obtain ⟨wb, hwb'⟩ : ∃ wb, wb = wa.drew := ⟨_, rfl⟩
        rw [hwb, ← hwb']
        have HBw := HA.out.drew
        rw [← hwb'] at HBw
        replace HBw := Lib.hid HBw
        clear hwb hwb' HALL
        go_upto_if 42 with fail
        go_cut [] (fun wx => St w0 wx (lkE g (newP s f) ++ (B bf (frC f A c) 69 :: (B bh #[NL, .bool false, .bool an, .bool false] 91 :: R))))
        case first =>
          by_cases hc : s.known < f.mine
          · obtain rfl : an = true := by rw [HAN.out, decide_eq_true hc]
            obtain ⟨s6, hs6⟩ : ∃ s6 : LS, s6 = { s with known := f.mine, iv := NL, items := [], gone := 0, out := 0, heard := 0, ack := false } := ⟨_, rfl⟩
            have en : newP s f = freshP s6 := by unfold newP; rw [if_pos hc, hs6]
            have v6 : LkV s6 := by rw [hs6]; exact ⟨HV.out.c, HV.out.g, HV.out.l, oV_nil, fun i hi => (by cases hi)⟩
            have x2 : wb.cell? ⟨bf, 2, none⟩ = some (.int .u64 (f.mine : Int)) := HBw.out.cellOf (g := bf) (cs := frC f A c) (t := 69) (by simp) 2 rfl
            have y2 : wb.cell? ⟨bh, 2, none⟩ = some (.bool false) := HBw.out.cellOf (g := bh) (cs := #[NL, .bool false, .bool false, .bool false]) (t := 91) (by simp) 2 rfl
            have fy2 := HBw.out.freeOf (g := bh) (cs := #[NL, .bool false, .bool false, .bool false]) (t := 91) (by simp) 2
            have z3 : wb.cell? ⟨g, 3, none⟩ = some (.int .u64 (s.known : Int)) := lk_cell HBw.out 3 rfl
            have fz3 := lk_free HBw.out 3
            have z5 : wb.cell? ⟨g, 5, none⟩ = some (s.iv) := lk_cell HBw.out 5 rfl
            have fz5 := lk_free HBw.out 5
            have z6 : wb.cell? ⟨g, 6, none⟩ = some (.int .u64 (s.gone : Int)) := lk_cell HBw.out 6 rfl
            have fz6 := lk_free HBw.out 6
            have z7 : wb.cell? ⟨g, 7, none⟩ = some (.int .u64 (s.out : Int)) := lk_cell HBw.out 7 rfl
            have fz7 := lk_free HBw.out 7
            have z8 : wb.cell? ⟨g, 8, none⟩ = some (.int .u64 (s.heard : Int)) := lk_cell HBw.out 8 rfl
            have fz8 := lk_free HBw.out 8
            have z10 : wb.cell? ⟨g, 10, none⟩ = some (.bool s.ack) := lk_cell HBw.out 10 rfl
            have fz10 := lk_free HBw.out 10
            have n1 : ¬ bf = bh := by have := HBH.out; omega
            have n2 : ¬ bh = bf := by have := HBH.out; omega
            have n3 : ¬ g = bh := by
              have := HBw.out.nd
              intro e; subst e
              simp [lkE] at this
            have n4 : ¬ bh = g := fun e => n3 e.symm
            obtain ⟨W5, hW5⟩ : ∃ W5, W5 = (((((((wb.setCell ⟨bh, 2, none⟩ (.bool true)).setCell ⟨g, 3, none⟩ (.int .u64 (f.mine : Int))).setCell ⟨g, 5, none⟩ NL).setCell ⟨g, 6, none⟩ (.int .u64 0)).setCell ⟨g, 7, none⟩ (.int .u64 0)).setCell ⟨g, 8, none⟩ (.int .u64 0)).setCell ⟨g, 10, none⟩ (.bool false)) := ⟨_, rfl⟩
            have h5 : St w0 W5 (lkE g s6 ++ (B bf (frC f A c) 69 :: (B bh #[NL, .bool false, .bool true, .bool false] 91 :: R))) := by
              rw [hW5, hs6]
              have k1 := (HBw.out.re (M := B bh #[NL, .bool false, .bool false, .bool false] 91 :: (B g (lkC s) 128 :: (B s.gp (pcC s) 135 :: (B bf (frC f A c) 69 :: R)))) (fun x => by simp only [lkE, cnt_append, cnt_cons]; omega)).put (cs' := #[NL, .bool false, .bool true, .bool false]) 2 (.bool true) rfl
              have k2 := (k1.re (M := B g (lkC s) 128 :: (B bh #[NL, .bool false, .bool true, .bool false] 91 :: (B s.gp (pcC s) 135 :: (B bf (frC f A c) 69 :: R)))) (fun x => by simp only [cnt_append, cnt_cons]; omega)).put (cs' := lkC { s with known := f.mine }) 3 (.int .u64 (f.mine : Int)) rfl
              have k3 := k2.put (cs' := lkC { s with known := f.mine, iv := NL }) 5 NL rfl
              have k4 := k3.put (cs' := lkC { s with known := f.mine, iv := NL, gone := 0 }) 6 (.int .u64 0) rfl
              have k5 := k4.put (cs' := lkC { s with known := f.mine, iv := NL, gone := 0, out := 0 }) 7 (.int .u64 0) rfl
              have k6 := k5.put (cs' := lkC { s with known := f.mine, iv := NL, gone := 0, out := 0, heard := 0 }) 8 (.int .u64 0) rfl
              have k7 := k6.put (cs' := lkC { s with known := f.mine, iv := NL, items := [], gone := 0, out := 0, heard := 0, ack := false }) 10 (.bool false) rfl
              exact k7.re (fun x => by simp only [lkE, pcC, itemsE, oE_nil, List.flatMap_nil, List.map_nil, List.length_nil, cnt_append, cnt_cons, cnt_nil]; omega)
            have CR := Lib.hid (reset_calls s6.gp s6.cap s6.left s6.gap W5 (St.pace h5 v6))
            have H5 := Lib.hid h5
            have V6 := Lib.hid v6
            have EN := Lib.hid en
            have HW5 := Lib.hid hW5
            have z9 : W5.cell? ⟨g, 9, none⟩ = some (pt s6.gp) := lk_cell h5 9 rfl
            clear h5 v6 en hW5 hs6 hc
            go_upto_region 7 with fail
            rw [← HW5.out]
            clear n1 n2 n3 n4 x2 y2 fy2 z3 fz3 z5 fz5 z6 fz6 z7 fz7 z8 fz8 z10 fz10
            go_wp2_with fail
            refine CR.out.mono ?_; rintro e w6 ⟨rfl, ho, hg⟩
            have H6 := Lib.hid (St.reset H5.out V6.out ho hg)
            clear ho hg
            go_wp2_with fail
            go_meet
            rw [EN.out]
            exact H6.out
          · obtain rfl : an = false := by rw [HAN.out, decide_eq_false hc]
            have en : newP s f = s := by unfold newP; rw [if_neg hc]
            have EN := Lib.hid en
            clear en hc
            go_wp2_with fail
            go_meet
            rw [EN.out]
            exact HBw.out
        case rest =>
          obtain ⟨s1, hs1⟩ : ∃ s1, s1 = newP s f := ⟨_, rfl⟩
          have V1 : Hid (LkV s1) := by show LkV s1; rw [hs1]; exact newP_V HV.out f
          have LF : Hid (s1.life = s.life) := by show _ = _; rw [hs1]; exact newP_life s f
          obtain ⟨wd, hwd⟩ : ∃ wd, wd = wc := ⟨_, rfl⟩
          rw [← hs1, ← hwd] at hcut
          rw [← hwd]
          have HD := Lib.hid hcut
          have HS1 := Lib.hid hs1
          have HALL : Hid (wd.drew.cell? ⟨bf, 3, none⟩ = some (.int .u64 (f.yours : Int)) ∧ wd.drew.cell? ⟨g, 2, none⟩ = some (.int .u64 (s1.life : Int))) := ⟨hcut.drew.cellOf (g := bf) (cs := frC f A c) (t := 69) (by simp) 3 rfl, lk_cell hcut.drew 2 rfl⟩
          clear hcut hwd hs1
          go_upto_region 8 with fail
          go_cut [73] (fun s73 wx => s73 = .bool (!(decide (f.yours = s1.life))) ∧ wx = wd.drew)
          case first =>
            by_cases hc : f.yours = s1.life
            · have hd := Lib.hid (decide_eq_true hc)
              have j1 : ((f.yours : Int) != (s1.life : Int)) = false := by rw [bne_eq_false_iff_eq]; omega
              clear hc
              have SM : ∀ (bb0 : Bool) (w9 : World), (fun (_ : Bool) (w9 : World) => w9.cell? ⟨bf, 3, none⟩ = some (.int .u64 (f.yours : Int)) ∧ w9.cell? ⟨g, 2, none⟩ = some (.int .u64 (s1.life : Int))) bb0 w9 → (fun (_ : Bool) (w9 : World) => w9.cell? ⟨bf, 3, none⟩ = some (.int .u64 (f.yours : Int)) ∧ w9.cell? ⟨g, 2, none⟩ = some (.int .u64 (s1.life : Int))) true w9 := fun _ _ h => h
              refine RegL.begin_of (k := 99) (S := fun (_ : Bool) (w9 : World) => w9.cell? ⟨bf, 3, none⟩ = some (.int .u64 (f.yours : Int)) ∧ w9.cell? ⟨g, 2, none⟩ = some (.int .u64 (s1.life : Int))) (by kernel_rfl) ?_
              refine RegL.take_w (i := 0) (oi := ⟨some 67, _, _, _, _, _⟩) (v := ?_) SM rfl (by decide) (by kernel_rfl) (by kernel_rfl) (by kernel_rfl) (fun _ _ _ h => h) (Or.inl ⟨by rfl, ?_⟩) (HALL.out) ?_
              rotate_left
              · intro w9 hw9; obtain ⟨q1, q2⟩ := hw9; go_simp; try with_reducible rfl
              try simp only [Act.put, List.setIfInBounds_toArray, List.set_cons_zero, List.set_cons_succ]
              refine RegL.take_w (i := 1) (oi := ⟨some 68, _, _, _, _, _⟩) (v := ?_) SM rfl (by decide) (by kernel_rfl) (by kernel_rfl) (by kernel_rfl) (fun _ _ _ h => h) (Or.inl ⟨by rfl, ?_⟩) (HALL.out) ?_
              rotate_left
              · intro w9 hw9; obtain ⟨q1, q2⟩ := hw9; go_simp; try with_reducible rfl
              try simp only [Act.put, List.setIfInBounds_toArray, List.set_cons_zero, List.set_cons_succ]
              refine RegL.take_w (i := 2) (oi := ⟨some 69, _, _, _, _, _⟩) (v := ?_) SM rfl (by decide) (by kernel_rfl) (by kernel_rfl) (by kernel_rfl) (fun _ _ _ h => h) (Or.inl ⟨by rfl, ?_⟩) (HALL.out) ?_
              rotate_left
              · intro w9 hw9; obtain ⟨q1, q2⟩ := hw9; go_simp; try with_reducible rfl
              try simp only [Act.put, List.setIfInBounds_toArray, List.set_cons_zero, List.set_cons_succ]
              refine RegL.take_w (i := 3) (oi := ⟨some 70, _, _, _, _, _⟩) (v := ?_) SM rfl (by decide) (by kernel_rfl) (by kernel_rfl) (by kernel_rfl) (fun _ _ _ h => h) (Or.inl ⟨by rfl, ?_⟩) (HALL.out) ?_
              rotate_left
              · intro w9 hw9; obtain ⟨q1, q2⟩ := hw9; go_simp; try with_reducible rfl
              try simp only [Act.put, List.setIfInBounds_toArray, List.set_cons_zero, List.set_cons_succ]
              refine RegL.take_w (i := 4) (oi := ⟨some 71, _, _, _, _, _⟩) (v := ?_) SM rfl (by decide) (by kernel_rfl) (by kernel_rfl) (by kernel_rfl) (fun _ _ _ h => h) (Or.inl ⟨by rfl, ?_⟩) (HALL.out) ?_
              rotate_left
              · intro w9 hw9; obtain ⟨q1, q2⟩ := hw9; go_simp; try with_reducible rfl
              try simp only [Act.put, List.setIfInBounds_toArray, List.set_cons_zero, List.set_cons_succ]
              refine RegL.take_w (i := 5) (oi := ⟨some 72, _, _, _, _, _⟩) (v := ?_) SM rfl (by decide) (by kernel_rfl) (by kernel_rfl) (by kernel_rfl) (fun _ _ _ h => h) (Or.inl ⟨by rfl, ?_⟩) (HALL.out) ?_
              rotate_left
              · intro w9 hw9; obtain ⟨q1, q2⟩ := hw9; go_simp; try with_reducible rfl
              try simp only [Act.put, List.setIfInBounds_toArray, List.set_cons_zero, List.set_cons_succ]
              refine RegL.take_w (i := 6) (oi := ⟨some 73, _, _, _, _, _⟩) (v := ?_) SM rfl (by decide) (by kernel_rfl) (by kernel_rfl) (by kernel_rfl) (fun _ _ _ h => h) (Or.inl ⟨by rfl, ?_⟩) (HALL.out) ?_
              rotate_left
              · intro w9 hw9; obtain ⟨q1, q2⟩ := hw9; go_simp; try with_reducible rfl
              try simp only [Act.put, List.setIfInBounds_toArray, List.set_cons_zero, List.set_cons_succ]
              refine RegL.done_of (by kernel_rfl) ?_ _
              go_wp2_with fail
              go_meet
              exact ⟨by rw [hd.out]; rfl, rfl⟩
            · have hd := Lib.hid (decide_eq_false hc)
              have j1 : ((f.yours : Int) != (s1.life : Int)) = true := by rw [bne_iff_ne]; omega
              clear hc
              have SM : ∀ (bb0 : Bool) (w9 : World), (fun (_ : Bool) (w9 : World) => w9.cell? ⟨bf, 3, none⟩ = some (.int .u64 (f.yours : Int)) ∧ w9.cell? ⟨g, 2, none⟩ = some (.int .u64 (s1.life : Int))) bb0 w9 → (fun (_ : Bool) (w9 : World) => w9.cell? ⟨bf, 3, none⟩ = some (.int .u64 (f.yours : Int)) ∧ w9.cell? ⟨g, 2, none⟩ = some (.int .u64 (s1.life : Int))) true w9 := fun _ _ h => h
              refine RegL.begin_of (k := 99) (S := fun (_ : Bool) (w9 : World) => w9.cell? ⟨bf, 3, none⟩ = some (.int .u64 (f.yours : Int)) ∧ w9.cell? ⟨g, 2, none⟩ = some (.int .u64 (s1.life : Int))) (by kernel_rfl) ?_
              refine RegL.take_w (i := 0) (oi := ⟨some 67, _, _, _, _, _⟩) (v := ?_) SM rfl (by decide) (by kernel_rfl) (by kernel_rfl) (by kernel_rfl) (fun _ _ _ h => h) (Or.inl ⟨by rfl, ?_⟩) (HALL.out) ?_
              rotate_left
              · intro w9 hw9; obtain ⟨q1, q2⟩ := hw9; go_simp; try with_reducible rfl
              try simp only [Act.put, List.setIfInBounds_toArray, List.set_cons_zero, List.set_cons_succ]
              refine RegL.take_w (i := 1) (oi := ⟨some 68, _, _, _, _, _⟩) (v := ?_) SM rfl (by decide) (by kernel_rfl) (by kernel_rfl) (by kernel_rfl) (fun _ _ _ h => h) (Or.inl ⟨by rfl, ?_⟩) (HALL.out) ?_
              rotate_left
              · intro w9 hw9; obtain ⟨q1, q2⟩ := hw9; go_simp; try with_reducible rfl
              try simp only [Act.put, List.setIfInBounds_toArray, List.set_cons_zero, List.set_cons_succ]
              refine RegL.take_w (i := 2) (oi := ⟨some 69, _, _, _, _, _⟩) (v := ?_) SM rfl (by decide) (by kernel_rfl) (by kernel_rfl) (by kernel_rfl) (fun _ _ _ h => h) (Or.inl ⟨by rfl, ?_⟩) (HALL.out) ?_
              rotate_left
              · intro w9 hw9; obtain ⟨q1, q2⟩ := hw9; go_simp; try with_reducible rfl
              try simp only [Act.put, List.setIfInBounds_toArray, List.set_cons_zero, List.set_cons_succ]
              refine RegL.take_w (i := 3) (oi := ⟨some 70, _, _, _, _, _⟩) (v := ?_) SM rfl (by decide) (by kernel_rfl) (by kernel_rfl) (by kernel_rfl) (fun _ _ _ h => h) (Or.inl ⟨by rfl, ?_⟩) (HALL.out) ?_
              rotate_left
              · intro w9 hw9; obtain ⟨q1, q2⟩ := hw9; go_simp; try with_reducible rfl
              try simp only [Act.put, List.setIfInBounds_toArray, List.set_cons_zero, List.set_cons_succ]
              refine RegL.take_w (i := 4) (oi := ⟨some 71, _, _, _, _, _⟩) (v := ?_) SM rfl (by decide) (by kernel_rfl) (by kernel_rfl) (by kernel_rfl) (fun _ _ _ h => h) (Or.inl ⟨by rfl, ?_⟩) (HALL.out) ?_
              rotate_left
              · intro w9 hw9; obtain ⟨q1, q2⟩ := hw9; go_simp; try with_reducible rfl
              try simp only [Act.put, List.setIfInBounds_toArray, List.set_cons_zero, List.set_cons_succ]
              refine RegL.take_w (i := 5) (oi := ⟨some 72, _, _, _, _, _⟩) (v := ?_) SM rfl (by decide) (by kernel_rfl) (by kernel_rfl) (by kernel_rfl) (fun _ _ _ h => h) (Or.inl ⟨by rfl, ?_⟩) (HALL.out) ?_
              rotate_left
              · intro w9 hw9; obtain ⟨q1, q2⟩ := hw9; go_simp; try with_reducible rfl
              try simp only [Act.put, List.setIfInBounds_toArray, List.set_cons_zero, List.set_cons_succ]
              refine RegL.take_w (i := 6) (oi := ⟨some 73, _, _, _, _, _⟩) (v := ?_) SM rfl (by decide) (by kernel_rfl) (by kernel_rfl) (by kernel_rfl) (fun _ _ _ h => h) (Or.inl ⟨by rfl, ?_⟩) (HALL.out) ?_
              rotate_left
              · intro w9 hw9; obtain ⟨q1, q2⟩ := hw9; go_simp; try with_reducible rfl
              try simp only [Act.put, List.setIfInBounds_toArray, List.set_cons_zero, List.set_cons_succ]
              refine RegL.done_of (by kernel_rfl) ?_ _
              go_wp2_with fail
              go_meet
              exact ⟨by rw [hd.out]; rfl, rfl⟩
          case rest =>
            obtain ⟨hs73, hwe⟩ := hcut
            obtain ⟨we, hwe'⟩ : ∃ we, we = wd.drew := ⟨_, rfl⟩
            rw [hwe, ← hwe']
            have HE := HD.out.drew
            rw [← hwe'] at HE
            replace HE := Lib.hid HE
            clear hwe hwe' HALL HD
            by_cases hy : f.yours = s1.life
            · rw [decide_eq_true hy] at hs73
              subst hs73
              have hy' : f.yours = s.life := by rw [hy]; exact LF.out
              have HYL := Lib.hid hy'
              clear hy hy'
              have z12 : we.cell? ⟨g, 12, none⟩ = some (.bool s1.word) := lk_cell HE.out 12 rfl
              have fz12 := lk_free HE.out 12
              have y3 : we.cell? ⟨bh, 3, none⟩ = some (.bool false) := HE.out.cellOf (g := bh) (cs := #[NL, .bool false, .bool an, .bool false]) (t := 91) (by simp) 3 rfl
              have fy3 := HE.out.freeOf (g := bh) (cs := #[NL, .bool false, .bool an, .bool false]) (t := 91) (by simp) 3
              have n3 : ¬ g = bh := by
                have := HE.out.nd
                intro e; subst e
                simp [lkE] at this
              have n4 : ¬ bh = g := fun e => n3 e.symm
              obtain ⟨s2, hs2⟩ : ∃ s2 : LS, s2 = { s1 with word := false } := ⟨_, rfl⟩
              have V2 : Hid (LkV s2) := by show LkV s2; rw [hs2]; exact ⟨V1.out.c, V1.out.g, V1.out.l, V1.out.row, V1.out.by_⟩
              have hsm : s1.gone + s1.items.length < 18446744073709551616 ∧ s1.heard + 1 < 18446744073709551616 := by rw [HS1.out]; exact newP_small HGO.out HHE.out
              have hg2 : s2.gone + s2.items.length < 18446744073709551616 := by rw [hs2]; exact hsm.1
              obtain ⟨W11, hW11⟩ : ∃ W11, W11 = (we.setCell ⟨bh, 3, none⟩ (.bool true)).setCell ⟨g, 12, none⟩ (.bool false) := ⟨_, rfl⟩
              have h11 : St w0 W11 (lkE g s2 ++ (B bf (frC f A c) 69 :: (B bh #[NL, .bool false, .bool an, .bool true] 91 :: R))) := by
                rw [hW11, hs2]
                have k1 := (HE.out.re (M := B bh #[NL, .bool false, .bool an, .bool false] 91 :: (B g (lkC s1) 128 :: (B s1.gp (pcC s1) 135 :: (itemsE s1 ++ (B bf (frC f A c) 69 :: R))))) (fun x => by simp only [lkE, cnt_append, cnt_cons]; omega)).put (cs' := #[NL, .bool false, .bool an, .bool true]) 3 (.bool true) rfl
                exact ((k1.re (M := B g (lkC s1) 128 :: (B bh #[NL, .bool false, .bool an, .bool true] 91 :: (B s1.gp (pcC s1) 135 :: (itemsE s1 ++ (B bf (frC f A c) 69 :: R))))) (fun x => by simp only [cnt_append, cnt_cons]; omega)).put (cs' := lkC { s1 with word := false }) 12 (.bool false) rfl).re (fun x => by simp only [lkE, pcC, itemsE, cnt_append, cnt_cons, cnt_nil]; omega)
              have HALL : Hid (W11.drew.cell? ⟨bf, 5, none⟩ = some (.int .u64 (f.ack : Int)) ∧ W11.drew.cell? ⟨g, 7, none⟩ = some (.int .u64 (s2.out : Int))) := ⟨h11.drew.cellOf (g := bf) (cs := frC f A c) (t := 69) (by simp) 5 rfl, lk_cell h11.drew 7 rfl⟩
              have H11 := Lib.hid h11
              have HW11 := Lib.hid hW11
              have HS2 := Lib.hid hs2
              have HG2 := Lib.hid hg2
              have HSM := Lib.hid hsm.2
              clear h11 hW11 hs2 hg2 hsm
              go_upto_region 12 with fail
              rw [← HW11.out]
              clear z12 fz12 y3 fy3 n3 n4
              go_cut [88] (fun s88 wx => s88 = .bool (decide (f.ack ≤ s2.out)) ∧ wx = W11.drew)
              case first =>
                by_cases hc : f.ack ≤ s2.out
                · have hd := Lib.hid (decide_eq_true hc)
                  have j1 : (f.ack : Int) ≤ (s2.out : Int) := by omega
                  clear hc
                  have SM : ∀ (bb0 : Bool) (w9 : World), (fun (_ : Bool) (w9 : World) => w9.cell? ⟨bf, 5, none⟩ = some (.int .u64 (f.ack : Int)) ∧ w9.cell? ⟨g, 7, none⟩ = some (.int .u64 (s2.out : Int))) bb0 w9 → (fun (_ : Bool) (w9 : World) => w9.cell? ⟨bf, 5, none⟩ = some (.int .u64 (f.ack : Int)) ∧ w9.cell? ⟨g, 7, none⟩ = some (.int .u64 (s2.out : Int))) true w9 := fun _ _ h => h
                  refine RegL.begin_of (k := 99) (S := fun (_ : Bool) (w9 : World) => w9.cell? ⟨bf, 5, none⟩ = some (.int .u64 (f.ack : Int)) ∧ w9.cell? ⟨g, 7, none⟩ = some (.int .u64 (s2.out : Int))) (by kernel_rfl) ?_
                  refine RegL.take_w (i := 0) (oi := ⟨some 82, _, _, _, _, _⟩) (v := ?_) SM rfl (by decide) (by kernel_rfl) (by kernel_rfl) (by kernel_rfl) (fun _ _ _ h => h) (Or.inl ⟨by rfl, ?_⟩) (HALL.out) ?_
                  rotate_left
                  · intro w9 hw9; obtain ⟨q1, q2⟩ := hw9; go_simp; try with_reducible rfl
                  try simp only [Act.put, List.setIfInBounds_toArray, List.set_cons_zero, List.set_cons_succ]
                  refine RegL.take_w (i := 1) (oi := ⟨some 83, _, _, _, _, _⟩) (v := ?_) SM rfl (by decide) (by kernel_rfl) (by kernel_rfl) (by kernel_rfl) (fun _ _ _ h => h) (Or.inl ⟨by rfl, ?_⟩) (HALL.out) ?_
                  rotate_left
                  · intro w9 hw9; obtain ⟨q1, q2⟩ := hw9; go_simp; try with_reducible rfl
                  try simp only [Act.put, List.setIfInBounds_toArray, List.set_cons_zero, List.set_cons_succ]
                  refine RegL.take_w (i := 2) (oi := ⟨some 84, _, _, _, _, _⟩) (v := ?_) SM rfl (by decide) (by kernel_rfl) (by kernel_rfl) (by kernel_rfl) (fun _ _ _ h => h) (Or.inl ⟨by rfl, ?_⟩) (HALL.out) ?_
                  rotate_left
                  · intro w9 hw9; obtain ⟨q1, q2⟩ := hw9; go_simp; try with_reducible rfl
                  try simp only [Act.put, List.setIfInBounds_toArray, List.set_cons_zero, List.set_cons_succ]
                  refine RegL.take_w (i := 3) (oi := ⟨some 85, _, _, _, _, _⟩) (v := ?_) SM rfl (by decide) (by kernel_rfl) (by kernel_rfl) (by kernel_rfl) (fun _ _ _ h => h) (Or.inl ⟨by rfl, ?_⟩) (HALL.out) ?_
                  rotate_left
                  · intro w9 hw9; obtain ⟨q1, q2⟩ := hw9; go_simp; try with_reducible rfl
                  try simp only [Act.put, List.setIfInBounds_toArray, List.set_cons_zero, List.set_cons_succ]
                  refine RegL.take_w (i := 4) (oi := ⟨some 86, _, _, _, _, _⟩) (v := ?_) SM rfl (by decide) (by kernel_rfl) (by kernel_rfl) (by kernel_rfl) (fun _ _ _ h => h) (Or.inl ⟨by rfl, ?_⟩) (HALL.out) ?_
                  rotate_left
                  · intro w9 hw9; obtain ⟨q1, q2⟩ := hw9; go_simp; try with_reducible rfl
                  try simp only [Act.put, List.setIfInBounds_toArray, List.set_cons_zero, List.set_cons_succ]
                  refine RegL.take_w (i := 5) (oi := ⟨some 87, _, _, _, _, _⟩) (v := ?_) SM rfl (by decide) (by kernel_rfl) (by kernel_rfl) (by kernel_rfl) (fun _ _ _ h => h) (Or.inl ⟨by rfl, ?_⟩) (HALL.out) ?_
                  rotate_left
                  · intro w9 hw9; obtain ⟨q1, q2⟩ := hw9; go_simp; try with_reducible rfl
                  try simp only [Act.put, List.setIfInBounds_toArray, List.set_cons_zero, List.set_cons_succ]
                  refine RegL.take_w (i := 6) (oi := ⟨some 88, _, _, _, _, _⟩) (v := ?_) SM rfl (by decide) (by kernel_rfl) (by kernel_rfl) (by kernel_rfl) (fun _ _ _ h => h) (Or.inl ⟨by rfl, ?_⟩) (HALL.out) ?_
                  rotate_left
                  · intro w9 hw9; obtain ⟨q1, q2⟩ := hw9; go_simp; try with_reducible rfl
                  try simp only [Act.put, List.setIfInBounds_toArray, List.set_cons_zero, List.set_cons_succ]
                  refine RegL.done_of (by kernel_rfl) ?_ _
                  go_wp2_with fail
                  go_meet
                  exact ⟨by rw [hd.out], rfl⟩
                · have hd := Lib.hid (decide_eq_false hc)
                  have j1 : ¬ (f.ack : Int) ≤ (s2.out : Int) := by omega
                  clear hc
                  have SM : ∀ (bb0 : Bool) (w9 : World), (fun (_ : Bool) (w9 : World) => w9.cell? ⟨bf, 5, none⟩ = some (.int .u64 (f.ack : Int)) ∧ w9.cell? ⟨g, 7, none⟩ = some (.int .u64 (s2.out : Int))) bb0 w9 → (fun (_ : Bool) (w9 : World) => w9.cell? ⟨bf, 5, none⟩ = some (.int .u64 (f.ack : Int)) ∧ w9.cell? ⟨g, 7, none⟩ = some (.int .u64 (s2.out : Int))) true w9 := fun _ _ h => h
                  refine RegL.begin_of (k := 99) (S := fun (_ : Bool) (w9 : World) => w9.cell? ⟨bf, 5, none⟩ = some (.int .u64 (f.ack : Int)) ∧ w9.cell? ⟨g, 7, none⟩ = some (.int .u64 (s2.out : Int))) (by kernel_rfl) ?_
                  refine RegL.take_w (i := 0) (oi := ⟨some 82, _, _, _, _, _⟩) (v := ?_) SM rfl (by decide) (by kernel_rfl) (by kernel_rfl) (by kernel_rfl) (fun _ _ _ h => h) (Or.inl ⟨by rfl, ?_⟩) (HALL.out) ?_
                  rotate_left
                  · intro w9 hw9; obtain ⟨q1, q2⟩ := hw9; go_simp; try with_reducible rfl
                  try simp only [Act.put, List.setIfInBounds_toArray, List.set_cons_zero, List.set_cons_succ]
                  refine RegL.take_w (i := 1) (oi := ⟨some 83, _, _, _, _, _⟩) (v := ?_) SM rfl (by decide) (by kernel_rfl) (by kernel_rfl) (by kernel_rfl) (fun _ _ _ h => h) (Or.inl ⟨by rfl, ?_⟩) (HALL.out) ?_
                  rotate_left
                  · intro w9 hw9; obtain ⟨q1, q2⟩ := hw9; go_simp; try with_reducible rfl
                  try simp only [Act.put, List.setIfInBounds_toArray, List.set_cons_zero, List.set_cons_succ]
                  refine RegL.take_w (i := 2) (oi := ⟨some 84, _, _, _, _, _⟩) (v := ?_) SM rfl (by decide) (by kernel_rfl) (by kernel_rfl) (by kernel_rfl) (fun _ _ _ h => h) (Or.inl ⟨by rfl, ?_⟩) (HALL.out) ?_
                  rotate_left
                  · intro w9 hw9; obtain ⟨q1, q2⟩ := hw9; go_simp; try with_reducible rfl
                  try simp only [Act.put, List.setIfInBounds_toArray, List.set_cons_zero, List.set_cons_succ]
                  refine RegL.take_w (i := 3) (oi := ⟨some 85, _, _, _, _, _⟩) (v := ?_) SM rfl (by decide) (by kernel_rfl) (by kernel_rfl) (by kernel_rfl) (fun _ _ _ h => h) (Or.inl ⟨by rfl, ?_⟩) (HALL.out) ?_
                  rotate_left
                  · intro w9 hw9; obtain ⟨q1, q2⟩ := hw9; go_simp; try with_reducible rfl
                  try simp only [Act.put, List.setIfInBounds_toArray, List.set_cons_zero, List.set_cons_succ]
                  refine RegL.take_w (i := 4) (oi := ⟨some 86, _, _, _, _, _⟩) (v := ?_) SM rfl (by decide) (by kernel_rfl) (by kernel_rfl) (by kernel_rfl) (fun _ _ _ h => h) (Or.inl ⟨by rfl, ?_⟩) (HALL.out) ?_
                  rotate_left
                  · intro w9 hw9; obtain ⟨q1, q2⟩ := hw9; go_simp; try with_reducible rfl
                  try simp only [Act.put, List.setIfInBounds_toArray, List.set_cons_zero, List.set_cons_succ]
                  refine RegL.take_w (i := 5) (oi := ⟨some 87, _, _, _, _, _⟩) (v := ?_) SM rfl (by decide) (by kernel_rfl) (by kernel_rfl) (by kernel_rfl) (fun _ _ _ h => h) (Or.inl ⟨by rfl, ?_⟩) (HALL.out) ?_
                  rotate_left
                  · intro w9 hw9; obtain ⟨q1, q2⟩ := hw9; go_simp; try with_reducible rfl
                  try simp only [Act.put, List.setIfInBounds_toArray, List.set_cons_zero, List.set_cons_succ]
                  refine RegL.take_w (i := 6) (oi := ⟨some 88, _, _, _, _, _⟩) (v := ?_) SM rfl (by decide) (by kernel_rfl) (by kernel_rfl) (by kernel_rfl) (fun _ _ _ h => h) (Or.inl ⟨by rfl, ?_⟩) (HALL.out) ?_
                  rotate_left
                  · intro w9 hw9; obtain ⟨q1, q2⟩ := hw9; go_simp; try with_reducible rfl
                  try simp only [Act.put, List.setIfInBounds_toArray, List.set_cons_zero, List.set_cons_succ]
                  refine RegL.done_of (by kernel_rfl) ?_ _
                  go_wp2_with fail
                  go_meet
                  exact ⟨by rw [hd.out], rfl⟩
              case rest =>
                obtain ⟨hs88, hwf⟩ := hcut
                subst hs88
                obtain ⟨wf, hwf'⟩ : ∃ wf, wf = W11.drew := ⟨_, rfl⟩
                rw [hwf, ← hwf']
                have HF := H11.out.drew
                rw [← hwf'] at HF
                replace HF := Lib.hid HF
                clear hwf hwf' HALL H11 HE HW11
                go_upto_if 88 with fail
                go_cut [] (fun wx => ∃ iv, LkV { ackP s2 f with iv := iv } ∧ St w0 wx (lkE g { ackP s2 f with iv := iv } ++ (B bf (frC f A c) 69 :: (B bh #[NL, .bool false, .bool an, .bool true] 91 :: R))))
                case first =>
                  by_cases hc : f.ack ≤ s2.out
                  · rw [decide_eq_true hc]
                    have ea : ackP s2 f = dropP s2 f.ack := by unfold ackP; rw [if_pos hc]
                    have EA := Lib.hid ea
                    have CD := Lib.hid (drop_calls f.ack HF.out.drew V2.out HG2.out)
                    have HALL : Hid (wf.drew.cell? ⟨bf, 5, none⟩ = some (.int .u64 (f.ack : Int))) := HF.out.drew.cellOf (g := bf) (cs := frC f A c) (t := 69) (by simp) 5 rfl
                    clear ea hc
                    go_upto_region 13 with fail
                    have SM : ∀ (bb0 : Bool) (w9 : World), (fun (bb1 : Bool) (w9 : World) => bb1 = false → w9.cell? ⟨bf, 5, none⟩ = some (.int .u64 (f.ack : Int))) bb0 w9 → (fun (bb1 : Bool) (w9 : World) => bb1 = false → w9.cell? ⟨bf, 5, none⟩ = some (.int .u64 (f.ack : Int))) true w9 := fun _ _ h e => by cases e
                    refine RegL.begin_of (k := 5) (S := fun (bb1 : Bool) (w9 : World) => bb1 = false → w9.cell? ⟨bf, 5, none⟩ = some (.int .u64 (f.ack : Int))) (by kernel_rfl) ?_
                    refine RegL.take_w (i := 0) (oi := ⟨some 89, _, _, _, _, _⟩) (v := ?_) SM rfl (by decide) (by kernel_rfl) (by kernel_rfl) (by kernel_rfl) (fun _ _ _ h => h) (Or.inl ⟨by rfl, ?_⟩) (fun _ => HALL.out) ?_
                    rotate_left
                    · intro w9 hw9; have q1 := hw9; go_simp; try with_reducible rfl
                    try simp only [Act.put, List.setIfInBounds_toArray, List.set_cons_zero, List.set_cons_succ]
                    refine RegL.take_w (i := 1) (oi := ⟨some 90, _, _, _, _, _⟩) (v := ?_) SM rfl (by decide) (by kernel_rfl) (by kernel_rfl) (by kernel_rfl) (fun _ _ _ h => h) (Or.inl ⟨by rfl, ?_⟩) (fun _ => HALL.out) ?_
                    rotate_left
                    · intro w9 hw9; have q1 := hw9; go_simp; try with_reducible rfl
                    try simp only [Act.put, List.setIfInBounds_toArray, List.set_cons_zero, List.set_cons_succ]
                    refine RegL.take_w (i := 2) (oi := ⟨some 91, _, _, _, _, _⟩) (v := ?_) SM rfl (by decide) (by kernel_rfl) (by kernel_rfl) (by kernel_rfl) (fun _ _ _ h => h) (Or.inl ⟨by rfl, ?_⟩) (fun _ => HALL.out) ?_
                    rotate_left
                    · intro w9 hw9; have q1 := hw9; go_simp; try with_reducible rfl
                    try simp only [Act.put, List.setIfInBounds_toArray, List.set_cons_zero, List.set_cons_succ]
                    refine RegL.take_w (i := 3) (oi := ⟨some 92, _, _, _, _, _⟩) (v := ?_) SM rfl (by decide) (by kernel_rfl) (by kernel_rfl) (by kernel_rfl) (fun _ _ _ h => h) (Or.inl ⟨by rfl, ?_⟩) (fun _ => HALL.out) ?_
                    rotate_left
                    · intro w9 hw9; have q1 := hw9; go_simp; try with_reducible rfl
                    try simp only [Act.put, List.setIfInBounds_toArray, List.set_cons_zero, List.set_cons_succ]
                    refine RegL.take_s (i := 4) (oi := ⟨some 93, _, _, _, _, _⟩) (ok := ⟨some 94, _, _, _, _, _⟩) (v := ?_) rfl (by decide) rfl (by kernel_rfl) (by kernel_rfl) (by kernel_rfl) (by kernel_rfl) (by kernel_rfl) (fun _ _ _ h => h) (Or.inl ⟨by rfl, ?_⟩) (fun _ => HALL.out) ?_
                    rotate_left
                    · intro w9 hw9; have q1 := hw9 rfl; go_simp; try with_reducible rfl
                    try simp only [Act.put, List.setIfInBounds_toArray, List.set_cons_zero, List.set_cons_succ]
                    refine RegL.step_of (i := 5) (o := ⟨some 94, _, _, _, _, _⟩) (by kernel_rfl) rfl (fun K' hK => ?_)
                    go_simp
                    go_at_call 92
                    (with_reducible refine CD.out.mono ?_)
                    rintro e w9 ⟨rfl, iv, hv9, h9⟩
                    have HV9 := Lib.hid hv9
                    have H9 := Lib.hid h9
                    clear hv9 h9
                    refine hK _ _ (fun e => by cases e) ?_
                    clear hK K'
                    try simp only [Act.put, List.setIfInBounds_toArray, List.set_cons_zero, List.set_cons_succ]
                    refine RegL.done_of (by kernel_rfl) ?_ _
                    go_wp2_with fail
                    go_meet
                    rw [EA.out]
                    exact ⟨iv, HV9.out, H9.out⟩
                  · rw [decide_eq_false hc]
                    have ea : ackP s2 f = s2 := by unfold ackP; rw [if_neg hc]
                    have EA := Lib.hid ea
                    clear ea hc
                    go_wp2_with fail
                    go_meet
                    rw [EA.out]
                    exact ⟨s2.iv, V2.out, HF.out⟩
                case rest =>
                  obtain ⟨iv, hv3, hc3⟩ := hcut
                  obtain ⟨s3, hs3⟩ : ∃ s3 : LS, s3 = { ackP s2 f with iv := iv } := ⟨_, rfl⟩
                  obtain ⟨wg, hwg⟩ : ∃ wg, wg = wc := ⟨_, rfl⟩
                  rw [← hs3] at hv3 hc3
                  rw [← hwg] at hc3 ⊢
                  have HG := Lib.hid hc3
                  have V3 := Lib.hid hv3
                  have HS3 := Lib.hid hs3
                  have y4 : wg.cell? ⟨bf, 4, none⟩ = some (.int .u64 (f.seq : Int)) := hc3.cellOf (g := bf) (cs := frC f A c) (t := 69) (by simp) 4 rfl
                  clear hv3 hc3 hs3 hwg HF
                  go_upto_region 14 with fail
                  go_cut [97] (fun s97 wx => s97 = .bool (decide (0 < f.seq)) ∧ wx = wg)
                  case first =>
                    by_cases hq : 0 < f.seq
                    · have hd := Lib.hid (decide_eq_true hq)
                      have j1 : (0 : Int) < (f.seq : Int) := by omega
                      clear hq
                      go_wp2_with fail
                      go_meet
                      exact ⟨by rw [hd.out], rfl⟩
                    · have hd := Lib.hid (decide_eq_false hq)
                      have j0 : f.seq = 0 := by omega
                      have y4' : wg.cell? ⟨bf, 4, none⟩ = some (.int .u64 0) := by rw [y4, j0]; rfl
                      clear hq y4 j0
                      go_wp2_with fail
                      go_meet
                      exact ⟨by rw [hd.out], rfl⟩
                  case rest =>
                    obtain ⟨hs97, hwh⟩ := hcut
                    subst hs97
                    rw [hwh]
                    clear hwh y4
                    go_upto_if 97 with fail
                    go_cut [] (fun wx => St w0 wx (lkE g (seqP s3 f) ++ (B bf (frC f A c) 69 :: (B bh #[NL, .bool false, .bool an, .bool true] 91 :: R))))
                    case first =>
                      by_cases hq : 0 < f.seq
                      · rw [decide_eq_true hq]
                        have ea : seqP s3 f = { s3 with ack := true } := by unfold seqP; rw [if_pos hq]
                        have EA := Lib.hid ea
                        have z10 : wg.cell? ⟨g, 10, none⟩ = some (.bool s3.ack) := lk_cell HG.out 10 rfl
                        have fz10 := lk_free HG.out 10
                        have hk := ((HG.out.re (M := B g (lkC s3) 128 :: (B s3.gp (pcC s3) 135 :: (itemsE s3 ++ (B bf (frC f A c) 69 :: (B bh #[NL, .bool false, .bool an, .bool true] 91 :: R))))) (fun x => by simp only [lkE, cnt_append, cnt_cons]; omega)).put (cs' := lkC { s3 with ack := true }) 10 (.bool true) rfl)
                        have HK := Lib.hid hk
                        clear ea hq hk
                        go_wp2_with fail
                        go_meet
                        rw [EA.out]
                        exact HK.out.re (fun x => by simp only [lkE, pcC, itemsE, cnt_append, cnt_cons, cnt_nil]; omega)
                      · rw [decide_eq_false hq]
                        have ea : seqP s3 f = s3 := by unfold seqP; rw [if_neg hq]
                        have EA := Lib.hid ea
                        clear ea hq
                        go_wp2_with fail
                        go_meet
                        rw [EA.out]
                        exact HG.out
                    case rest =>
                      obtain ⟨s4, hs4⟩ : ∃ s4 : LS, s4 = seqP s3 f := ⟨_, rfl⟩
                      obtain ⟨wh, hwh⟩ : ∃ wh, wh = wc := ⟨_, rfl⟩
                      rw [← hs4, ← hwh] at hcut
                      rw [← hwh]
                      have V4 : Hid (LkV s4) := by
                        show LkV s4
                        rw [hs4]; unfold seqP
                        split
                        · exact ⟨V3.out.c, V3.out.g, V3.out.l, V3.out.row, V3.out.by_⟩
                        · exact V3.out
                      have e4 : s4 = { seqP (rightP s1 f) f with iv := iv } := by
                        rw [hs4, HS3.out]; unfold seqP rightP; rw [← HS2.out]; split <;> rfl
                      have eh : s4.heard = s1.heard := by rw [e4]; exact heard_right s1 f
                      obtain ⟨hh, hhh⟩ : ∃ hh, hh = s1.heard := ⟨_, rfl⟩
                      rw [← hhh] at eh
                      have u1 : IntKind.u64.wrap ((hh : Int) + 1) = (hh : Int) + 1 := IntWalk.u64_in _ ⟨by omega, by have := HSM.out; omega⟩
                      have z8 : wh.drew.cell? ⟨g, 8, none⟩ = some (.int .u64 (hh : Int)) := by
                        have q : wh.drew.cell? ⟨g, 8, none⟩ = some (.int .u64 (s4.heard : Int)) := lk_cell hcut.drew 8 rfl
                        rw [eh] at q; exact q
                      have HALL : Hid (wh.drew.cell? ⟨bf, 4, none⟩ = some (.int .u64 (f.seq : Int)) ∧ wh.drew.cell? ⟨g, 8, none⟩ = some (.int .u64 (hh : Int))) := ⟨hcut.drew.cellOf (g := bf) (cs := frC f A c) (t := 69) (by simp) 4 rfl, z8⟩
                      obtain ⟨up, hup⟩ : ∃ up, up = upB s1 f := ⟨_, rfl⟩
                      have e1 : handedP s f = up := by unfold handedP; rw [HB.out, decide_eq_true HYL.out, hup, ← HS1.out]; rfl
                      have e2 : anewP s f = an := by unfold anewP; rw [HB.out, HAN.out]; rfl
                      have e3 : fineP s f = true := by unfold fineP; rw [HB.out, decide_eq_true HYL.out]; rfl
                      have e5 : hearP s f = upP (seqP (rightP s1 f) f) f := by unfold hearP; rw [if_neg (by rw [HB.out]; simp), if_pos HYL.out, ← HS1.out]
                      have e6 : upB (seqP (rightP s1 f) f) f = up := by rw [hup]; unfold upB; rw [heard_right]
                      have e7 : bodyP s f = if up = true then f.body else [] := by unfold bodyP; rw [e1]
                      have HI := Lib.hid hcut.drew
                      have E1 := Lib.hid e1
                      have E2 := Lib.hid e2
                      have E3 := Lib.hid e3
                      have E5 := Lib.hid e5
                      have E6 := Lib.hid e6
                      have E7 := Lib.hid e7
                      have E4 := Lib.hid e4
                      have EH := Lib.hid eh
                      have HUP : Hid (up = decide (f.seq = hh + 1)) := by show up = _; rw [hup, hhh]; rfl
                      clear hcut hwh hs4 e1 e2 e3 e4 e5 e6 e7 eh hhh hup z8 HG
                      go_upto_region 16 with fail
                      go_cut [108] (fun s108 wx => s108 = .bool up ∧ wx = wh.drew)
                      case first =>
                        by_cases hc : f.seq = hh + 1
                        · have hd := Lib.hid (decide_eq_true hc)
                          have j1 : ((f.seq : Int) == (hh : Int) + 1) = true := by rw [beq_iff_eq]; omega
                          clear hc
                          have SM : ∀ (bb0 : Bool) (w9 : World), (fun (_ : Bool) (w9 : World) => w9.cell? ⟨bf, 4, none⟩ = some (.int .u64 (f.seq : Int)) ∧ w9.cell? ⟨g, 8, none⟩ = some (.int .u64 (hh : Int))) bb0 w9 → (fun (_ : Bool) (w9 : World) => w9.cell? ⟨bf, 4, none⟩ = some (.int .u64 (f.seq : Int)) ∧ w9.cell? ⟨g, 8, none⟩ = some (.int .u64 (hh : Int))) true w9 := fun _ _ h => h
                          refine RegL.begin_of (k := 99) (S := fun (_ : Bool) (w9 : World) => w9.cell? ⟨bf, 4, none⟩ = some (.int .u64 (f.seq : Int)) ∧ w9.cell? ⟨g, 8, none⟩ = some (.int .u64 (hh : Int))) (by kernel_rfl) ?_
                          refine RegL.take_w (i := 0) (oi := ⟨some 101, _, _, _, _, _⟩) (v := ?_) SM rfl (by decide) (by kernel_rfl) (by kernel_rfl) (by kernel_rfl) (fun _ _ _ h => h) (Or.inl ⟨by rfl, ?_⟩) (HALL.out) ?_
                          rotate_left
                          · intro w9 hw9; obtain ⟨q1, q2⟩ := hw9; go_simp; try with_reducible rfl
                          try simp only [Act.put, List.setIfInBounds_toArray, List.set_cons_zero, List.set_cons_succ]
                          refine RegL.take_w (i := 1) (oi := ⟨some 102, _, _, _, _, _⟩) (v := ?_) SM rfl (by decide) (by kernel_rfl) (by kernel_rfl) (by kernel_rfl) (fun _ _ _ h => h) (Or.inl ⟨by rfl, ?_⟩) (HALL.out) ?_
                          rotate_left
                          · intro w9 hw9; obtain ⟨q1, q2⟩ := hw9; go_simp; try with_reducible rfl
                          try simp only [Act.put, List.setIfInBounds_toArray, List.set_cons_zero, List.set_cons_succ]
                          refine RegL.take_w (i := 2) (oi := ⟨some 103, _, _, _, _, _⟩) (v := ?_) SM rfl (by decide) (by kernel_rfl) (by kernel_rfl) (by kernel_rfl) (fun _ _ _ h => h) (Or.inl ⟨by rfl, ?_⟩) (HALL.out) ?_
                          rotate_left
                          · intro w9 hw9; obtain ⟨q1, q2⟩ := hw9; go_simp; try with_reducible rfl
                          try simp only [Act.put, List.setIfInBounds_toArray, List.set_cons_zero, List.set_cons_succ]
                          refine RegL.take_w (i := 3) (oi := ⟨some 104, _, _, _, _, _⟩) (v := ?_) SM rfl (by decide) (by kernel_rfl) (by kernel_rfl) (by kernel_rfl) (fun _ _ _ h => h) (Or.inl ⟨by rfl, ?_⟩) (HALL.out) ?_
                          rotate_left
                          · intro w9 hw9; obtain ⟨q1, q2⟩ := hw9; go_simp; try with_reducible rfl
                          try simp only [Act.put, List.setIfInBounds_toArray, List.set_cons_zero, List.set_cons_succ]
                          refine RegL.take_w (i := 4) (oi := ⟨some 105, _, _, _, _, _⟩) (v := ?_) SM rfl (by decide) (by kernel_rfl) (by kernel_rfl) (by kernel_rfl) (fun _ _ _ h => h) (Or.inl ⟨by rfl, ?_⟩) (HALL.out) ?_
                          rotate_left
                          · intro w9 hw9; obtain ⟨q1, q2⟩ := hw9; go_simp; try with_reducible rfl
                          try simp only [Act.put, List.setIfInBounds_toArray, List.set_cons_zero, List.set_cons_succ]
                          refine RegL.take_w (i := 5) (oi := ⟨some 106, _, _, _, _, _⟩) (v := ?_) SM rfl (by decide) (by kernel_rfl) (by kernel_rfl) (by kernel_rfl) (fun _ _ _ h => h) (Or.inl ⟨by rfl, ?_⟩) (HALL.out) ?_
                          rotate_left
                          · intro w9 hw9; obtain ⟨q1, q2⟩ := hw9; go_simp; try with_reducible rfl
                          try simp only [Act.put, List.setIfInBounds_toArray, List.set_cons_zero, List.set_cons_succ]
                          refine RegL.take_w (i := 6) (oi := ⟨some 107, _, _, _, _, _⟩) (v := ?_) SM rfl (by decide) (by kernel_rfl) (by kernel_rfl) (by kernel_rfl) (fun _ _ _ h => h) (Or.inl ⟨by rfl, ?_⟩) (HALL.out) ?_
                          rotate_left
                          · intro w9 hw9; obtain ⟨q1, q2⟩ := hw9; go_simp; try with_reducible rfl
                          try simp only [Act.put, List.setIfInBounds_toArray, List.set_cons_zero, List.set_cons_succ]
                          refine RegL.take_w (i := 7) (oi := ⟨some 108, _, _, _, _, _⟩) (v := ?_) SM rfl (by decide) (by kernel_rfl) (by kernel_rfl) (by kernel_rfl) (fun _ _ _ h => h) (Or.inl ⟨by rfl, ?_⟩) (HALL.out) ?_
                          rotate_left
                          · intro w9 hw9; obtain ⟨q1, q2⟩ := hw9; go_simp; try with_reducible rfl
                          try simp only [Act.put, List.setIfInBounds_toArray, List.set_cons_zero, List.set_cons_succ]
                          refine RegL.done_of (by kernel_rfl) ?_ _
                          go_wp2_with fail
                          go_meet
                          exact ⟨by rw [HUP.out, hd.out], rfl⟩
                        · have hd := Lib.hid (decide_eq_false hc)
                          have j1 : ((f.seq : Int) == (hh : Int) + 1) = false := by rw [beq_eq_false_iff_ne]; omega
                          clear hc
                          have SM : ∀ (bb0 : Bool) (w9 : World), (fun (_ : Bool) (w9 : World) => w9.cell? ⟨bf, 4, none⟩ = some (.int .u64 (f.seq : Int)) ∧ w9.cell? ⟨g, 8, none⟩ = some (.int .u64 (hh : Int))) bb0 w9 → (fun (_ : Bool) (w9 : World) => w9.cell? ⟨bf, 4, none⟩ = some (.int .u64 (f.seq : Int)) ∧ w9.cell? ⟨g, 8, none⟩ = some (.int .u64 (hh : Int))) true w9 := fun _ _ h => h
                          refine RegL.begin_of (k := 99) (S := fun (_ : Bool) (w9 : World) => w9.cell? ⟨bf, 4, none⟩ = some (.int .u64 (f.seq : Int)) ∧ w9.cell? ⟨g, 8, none⟩ = some (.int .u64 (hh : Int))) (by kernel_rfl) ?_
                          refine RegL.take_w (i := 0) (oi := ⟨some 101, _, _, _, _, _⟩) (v := ?_) SM rfl (by decide) (by kernel_rfl) (by kernel_rfl) (by kernel_rfl) (fun _ _ _ h => h) (Or.inl ⟨by rfl, ?_⟩) (HALL.out) ?_
                          rotate_left
                          · intro w9 hw9; obtain ⟨q1, q2⟩ := hw9; go_simp; try with_reducible rfl
                          try simp only [Act.put, List.setIfInBounds_toArray, List.set_cons_zero, List.set_cons_succ]
                          refine RegL.take_w (i := 1) (oi := ⟨some 102, _, _, _, _, _⟩) (v := ?_) SM rfl (by decide) (by kernel_rfl) (by kernel_rfl) (by kernel_rfl) (fun _ _ _ h => h) (Or.inl ⟨by rfl, ?_⟩) (HALL.out) ?_
                          rotate_left
                          · intro w9 hw9; obtain ⟨q1, q2⟩ := hw9; go_simp; try with_reducible rfl
                          try simp only [Act.put, List.setIfInBounds_toArray, List.set_cons_zero, List.set_cons_succ]
                          refine RegL.take_w (i := 2) (oi := ⟨some 103, _, _, _, _, _⟩) (v := ?_) SM rfl (by decide) (by kernel_rfl) (by kernel_rfl) (by kernel_rfl) (fun _ _ _ h => h) (Or.inl ⟨by rfl, ?_⟩) (HALL.out) ?_
                          rotate_left
                          · intro w9 hw9; obtain ⟨q1, q2⟩ := hw9; go_simp; try with_reducible rfl
                          try simp only [Act.put, List.setIfInBounds_toArray, List.set_cons_zero, List.set_cons_succ]
                          refine RegL.take_w (i := 3) (oi := ⟨some 104, _, _, _, _, _⟩) (v := ?_) SM rfl (by decide) (by kernel_rfl) (by kernel_rfl) (by kernel_rfl) (fun _ _ _ h => h) (Or.inl ⟨by rfl, ?_⟩) (HALL.out) ?_
                          rotate_left
                          · intro w9 hw9; obtain ⟨q1, q2⟩ := hw9; go_simp; try with_reducible rfl
                          try simp only [Act.put, List.setIfInBounds_toArray, List.set_cons_zero, List.set_cons_succ]
                          refine RegL.take_w (i := 4) (oi := ⟨some 105, _, _, _, _, _⟩) (v := ?_) SM rfl (by decide) (by kernel_rfl) (by kernel_rfl) (by kernel_rfl) (fun _ _ _ h => h) (Or.inl ⟨by rfl, ?_⟩) (HALL.out) ?_
                          rotate_left
                          · intro w9 hw9; obtain ⟨q1, q2⟩ := hw9; go_simp; try with_reducible rfl
                          try simp only [Act.put, List.setIfInBounds_toArray, List.set_cons_zero, List.set_cons_succ]
                          refine RegL.take_w (i := 5) (oi := ⟨some 106, _, _, _, _, _⟩) (v := ?_) SM rfl (by decide) (by kernel_rfl) (by kernel_rfl) (by kernel_rfl) (fun _ _ _ h => h) (Or.inl ⟨by rfl, ?_⟩) (HALL.out) ?_
                          rotate_left
                          · intro w9 hw9; obtain ⟨q1, q2⟩ := hw9; go_simp; try with_reducible rfl
                          try simp only [Act.put, List.setIfInBounds_toArray, List.set_cons_zero, List.set_cons_succ]
                          refine RegL.take_w (i := 6) (oi := ⟨some 107, _, _, _, _, _⟩) (v := ?_) SM rfl (by decide) (by kernel_rfl) (by kernel_rfl) (by kernel_rfl) (fun _ _ _ h => h) (Or.inl ⟨by rfl, ?_⟩) (HALL.out) ?_
                          rotate_left
                          · intro w9 hw9; obtain ⟨q1, q2⟩ := hw9; go_simp; try with_reducible rfl
                          try simp only [Act.put, List.setIfInBounds_toArray, List.set_cons_zero, List.set_cons_succ]
                          refine RegL.take_w (i := 7) (oi := ⟨some 108, _, _, _, _, _⟩) (v := ?_) SM rfl (by decide) (by kernel_rfl) (by kernel_rfl) (by kernel_rfl) (fun _ _ _ h => h) (Or.inl ⟨by rfl, ?_⟩) (HALL.out) ?_
                          rotate_left
                          · intro w9 hw9; obtain ⟨q1, q2⟩ := hw9; go_simp; try with_reducible rfl
                          try simp only [Act.put, List.setIfInBounds_toArray, List.set_cons_zero, List.set_cons_succ]
                          refine RegL.done_of (by kernel_rfl) ?_ _
                          go_wp2_with fail
                          go_meet
                          exact ⟨by rw [HUP.out, hd.out], rfl⟩
                      case rest =>
                        obtain ⟨hs108, hwi⟩ := hcut
                        subst hs108
                        obtain ⟨wi, hwi'⟩ : ∃ wi, wi = wh.drew := ⟨_, rfl⟩
                        rw [hwi, ← hwi']
                        rw [← hwi'] at HI
                        clear hwi hwi' HALL
                        cases up with
                        | true =>
                          have z8 : wi.cell? ⟨g, 8, none⟩ = some (.int .u64 (hh : Int)) := by
                            have q : wi.cell? ⟨g, 8, none⟩ = some (.int .u64 (s4.heard : Int)) := lk_cell HI.out 8 rfl
                            rw [EH.out] at q; exact q
                          have fz8 := lk_free HI.out 8
                          obtain ⟨W17, hW17⟩ : ∃ W17, W17 = wi.setCell ⟨g, 8, none⟩ (.int .u64 ((hh : Int) + 1)) := ⟨_, rfl⟩
                          obtain ⟨s5, hs5⟩ : ∃ s5 : LS, s5 = { s4 with heard := hh + 1 } := ⟨_, rfl⟩
                          have h17 : St w0 W17 (lkE g s5 ++ (B bf (frC f A c) 69 :: (B bh #[NL, .bool false, .bool an, .bool true] 91 :: R))) := by
                            rw [hW17, hs5]
                            exact ((HI.out.re (M := B g (lkC s4) 128 :: (B s4.gp (pcC s4) 135 :: (itemsE s4 ++ (B bf (frC f A c) 69 :: (B bh #[NL, .bool false, .bool an, .bool true] 91 :: R))))) (fun x => by simp only [lkE, cnt_append, cnt_cons]; omega)).put (cs' := lkC { s4 with heard := hh + 1 }) 8 (.int .u64 ((hh : Int) + 1)) rfl).re (fun x => by simp only [lkE, pcC, itemsE, cnt_append, cnt_cons, cnt_nil]; omega)
                          have CC := Lib.hid (clone_calls f.body A c h17 (HR.out _ (lkE g s5 ++ [B bf (frC f A c) 69, B bh #[NL, .bool false, .bool an, .bool true] 91]) (h17.re (fun x => by simp only [cnt_append, cnt_cons, cnt_nil]; omega))) HM.out)
                          have x6 : W17.cell? ⟨bf, 6, none⟩ = some (.slice A f.body.length c) := h17.cellOf (g := bf) (cs := frC f A c) (t := 69) (by simp) 6 rfl
                          have HW17 := Lib.hid hW17
                          have HS5 := Lib.hid hs5
                          clear h17 hW17 hs5
                          go_upto_region 18 with fail
                          rw [← HW17.out]
                          clear z8 fz8
                          go_wp2_with fail
                          refine CC.out.mono ?_; rintro e w18 ⟨v, rfl, hv18, h18⟩
                          have y0 : w18.cell? ⟨bh, 0, none⟩ = some NL := h18.cellOf (g := bh) (cs := #[NL, .bool false, .bool an, .bool true]) (t := 91) (by simp) 0 rfl
                          have y1 : w18.cell? ⟨bh, 1, none⟩ = some (.bool false) := h18.cellOf (g := bh) (cs := #[NL, .bool false, .bool an, .bool true]) (t := 91) (by simp) 1 rfl
                          have fy0 := h18.freeOf (g := bh) (cs := #[NL, .bool false, .bool an, .bool true]) (t := 91) (by simp) 0
                          have fy1 := h18.freeOf (g := bh) (cs := #[NL, .bool false, .bool an, .bool true]) (t := 91) (by simp) 1
                          obtain ⟨Av, cv, rfl⟩ := byV_form hv18
                          obtain ⟨W19, hW19⟩ : ∃ W19, W19 = (w18.setCell ⟨bh, 0, none⟩ (.slice Av f.body.length cv)).setCell ⟨bh, 1, none⟩ (.bool true) := ⟨_, rfl⟩
                          have h19 : St w0 W19 (B bh #[.slice Av f.body.length cv, .bool true, .bool an, .bool true] 91 :: (lkE g s5 ++ (byR (.slice Av f.body.length cv) f.body ++ R))) := by
                            rw [hW19]
                            exact ((h18.re (M := B bh #[NL, .bool false, .bool an, .bool true] 91 :: (lkE g s5 ++ (byR (.slice Av f.body.length cv) f.body ++ R))) (fun x => by simp only [cnt_append, cnt_cons]; omega)).put (cs' := #[.slice Av f.body.length cv, .bool false, .bool an, .bool true]) 0 (.slice Av f.body.length cv) rfl).put (cs' := #[.slice Av f.body.length cv, .bool true, .bool an, .bool true]) 1 (.bool true) rfl
                          have H19 := Lib.hid h19
                          have HW19 := Lib.hid hW19
                          have HV18 := Lib.hid hv18
                          clear h18 h19 hW19 hv18 x6
                          go_upto_region 19 with fail
                          rw [← HW19.out]
                          clear y0 y1 fy0 fy1
                          have y0 : W19.cell? ⟨bh, 0, none⟩ = some (.slice Av f.body.length cv) := H19.out.cellOf (g := bh) (cs := #[.slice Av f.body.length cv, .bool true, .bool an, .bool true]) (t := 91) (by simp) 0 rfl
                          have y1 : W19.cell? ⟨bh, 1, none⟩ = some (.bool true) := H19.out.cellOf (g := bh) (cs := #[.slice Av f.body.length cv, .bool true, .bool an, .bool true]) (t := 91) (by simp) 1 rfl
                          have y2 : W19.cell? ⟨bh, 2, none⟩ = some (.bool an) := H19.out.cellOf (g := bh) (cs := #[.slice Av f.body.length cv, .bool true, .bool an, .bool true]) (t := 91) (by simp) 2 rfl
                          have y3 : W19.cell? ⟨bh, 3, none⟩ = some (.bool true) := H19.out.cellOf (g := bh) (cs := #[.slice Av f.body.length cv, .bool true, .bool an, .bool true]) (t := 91) (by simp) 3 rfl
                          have fy0 := H19.out.freeOf (g := bh) (cs := #[.slice Av f.body.length cv, .bool true, .bool an, .bool true]) (t := 91) (by simp) 0
                          have fy1 := H19.out.freeOf (g := bh) (cs := #[.slice Av f.body.length cv, .bool true, .bool an, .bool true]) (t := 91) (by simp) 1
                          have fy2 := H19.out.freeOf (g := bh) (cs := #[.slice Av f.body.length cv, .bool true, .bool an, .bool true]) (t := 91) (by simp) 2
                          have fy3 := H19.out.freeOf (g := bh) (cs := #[.slice Av f.body.length cv, .bool true, .bool an, .bool true]) (t := 91) (by simp) 3
                          go_wp2_with fail
                          obtain ⟨Wz, hWz⟩ : ∃ Wz, Wz = ((((W19.setCell ⟨bh, 0, none⟩ (.slice Av f.body.length cv)).setCell ⟨bh, 1, none⟩ (.bool true)).setCell ⟨bh, 2, none⟩ (.bool an)).setCell ⟨bh, 3, none⟩ (.bool true)) := ⟨_, rfl⟩
                          have hz := St.self4 (H19.out)
                          rw [← hWz] at hz ⊢
                          have q0 : Wz.cell? ⟨bh, 0, none⟩ = some (.slice Av f.body.length cv) := blk_cell hz.hd 0
                          have q1 : Wz.cell? ⟨bh, 1, none⟩ = some (.bool true) := blk_cell hz.hd 1
                          have q2 : Wz.cell? ⟨bh, 2, none⟩ = some (.bool an) := blk_cell hz.hd 2
                          have q3 : Wz.cell? ⟨bh, 3, none⟩ = some (.bool true) := blk_cell hz.hd 3
                          have HZZ := Lib.hid hz
                          clear hWz hz
                          refine bodyPost_ret (results_cell rfl _ _ _ ⟨bh, 0, none⟩ (.agg #[(.slice Av f.body.length cv), .bool true, .bool an, .bool true]) rfl (by go_simp)) rfl ?_
                          rw [E1.out, E2.out, E3.out, E7.out]
                          refine ⟨iv, .slice Av f.body.length cv, rfl, HV18.out, ?_⟩
                          have es : { hearP s f with iv := iv } = s5 := by
                            rw [E5.out, HS5.out, E4.out]; unfold upP; rw [if_pos E6.out]
                            have := EH.out
                            rw [E4.out] at this
                            have e9 : (seqP (rightP s1 f) f).heard = hh := this
                            rw [e9]
                          rw [es]
                          exact ⟨by rw [HS5.out]; exact ⟨V4.out.c, V4.out.g, V4.out.l, V4.out.row, V4.out.by_⟩, HZZ.out.re (fun x => by simp only [if_true, cnt_append, cnt_cons]; omega)⟩
                        | false =>
                          have y0 : wi.cell? ⟨bh, 0, none⟩ = some (NL) := HI.out.cellOf (g := bh) (cs := #[NL, .bool false, .bool an, .bool true]) (t := 91) (by simp) 0 rfl
                          have y1 : wi.cell? ⟨bh, 1, none⟩ = some (.bool false) := HI.out.cellOf (g := bh) (cs := #[NL, .bool false, .bool an, .bool true]) (t := 91) (by simp) 1 rfl
                          have y2 : wi.cell? ⟨bh, 2, none⟩ = some (.bool an) := HI.out.cellOf (g := bh) (cs := #[NL, .bool false, .bool an, .bool true]) (t := 91) (by simp) 2 rfl
                          have y3 : wi.cell? ⟨bh, 3, none⟩ = some (.bool true) := HI.out.cellOf (g := bh) (cs := #[NL, .bool false, .bool an, .bool true]) (t := 91) (by simp) 3 rfl
                          have fy0 := HI.out.freeOf (g := bh) (cs := #[NL, .bool false, .bool an, .bool true]) (t := 91) (by simp) 0
                          have fy1 := HI.out.freeOf (g := bh) (cs := #[NL, .bool false, .bool an, .bool true]) (t := 91) (by simp) 1
                          have fy2 := HI.out.freeOf (g := bh) (cs := #[NL, .bool false, .bool an, .bool true]) (t := 91) (by simp) 2
                          have fy3 := HI.out.freeOf (g := bh) (cs := #[NL, .bool false, .bool an, .bool true]) (t := 91) (by simp) 3
                          go_wp2_with fail
                          obtain ⟨Wz, hWz⟩ : ∃ Wz, Wz = ((((wi.setCell ⟨bh, 0, none⟩ NL).setCell ⟨bh, 1, none⟩ (.bool false)).setCell ⟨bh, 2, none⟩ (.bool an)).setCell ⟨bh, 3, none⟩ (.bool true)) := ⟨_, rfl⟩
                          have hz := St.self4 (HI.out.re (M := B bh #[NL, .bool false, .bool an, .bool true] 91 :: (lkE g s4 ++ (B bf (frC f A c) 69 :: R))) (fun x => by simp only [cnt_append, cnt_cons]; omega))
                          rw [← hWz] at hz ⊢
                          have q0 : Wz.cell? ⟨bh, 0, none⟩ = some NL := blk_cell hz.hd 0
                          have q1 : Wz.cell? ⟨bh, 1, none⟩ = some (.bool false) := blk_cell hz.hd 1
                          have q2 : Wz.cell? ⟨bh, 2, none⟩ = some (.bool an) := blk_cell hz.hd 2
                          have q3 : Wz.cell? ⟨bh, 3, none⟩ = some (.bool true) := blk_cell hz.hd 3
                          have HZZ := Lib.hid hz
                          clear hWz hz
                          refine bodyPost_ret (results_cell rfl _ _ _ ⟨bh, 0, none⟩ (.agg #[NL, .bool false, .bool an, .bool true]) rfl (by go_simp)) rfl ?_
                          rw [E1.out, E2.out, E3.out, E7.out]
                          refine ⟨iv, NL, rfl, byV_nil, ?_⟩
                          have es : { hearP s f with iv := iv } = s4 := by
                            rw [E5.out, E4.out]; unfold upP; rw [if_neg (by rw [E6.out]; simp)]
                          rw [es]
                          exact ⟨V4.out, HZZ.out.re (fun x => by simp [byR_nil, cnt_append, cnt_cons, cnt_nil]; omega)⟩

            · rw [decide_eq_false hy] at hs73
              subst hs73
              have hy' : ¬ f.yours = s.life := by rw [← LF.out]; exact hy
              have e1 : handedP s f = false := by unfold handedP; rw [HB.out, decide_eq_false hy']; rfl
              have e2 : anewP s f = an := by unfold anewP; rw [HB.out, HAN.out]; rfl
              have e3 : fineP s f = false := by unfold fineP; rw [HB.out, decide_eq_false hy']; rfl
              have e4 : bodyP s f = [] := by unfold bodyP; rw [e1]; rfl
              have e5 : hearP s f = { s1 with word := true } := by unfold hearP; rw [if_neg (by rw [HB.out]; simp), if_neg hy', HS1.out]
              have E1 := Lib.hid e1
              have E2 := Lib.hid e2
              have E3 := Lib.hid e3
              have E4 := Lib.hid e4
              have E5 := Lib.hid e5
              have z12 : we.cell? ⟨g, 12, none⟩ = some (.bool s1.word) := lk_cell HE.out 12 rfl
              have fz12 := lk_free HE.out 12
              have h9 : St w0 (we.setCell ⟨g, 12, none⟩ (.bool true)) (lkE g { s1 with word := true } ++ (B bf (frC f A c) 69 :: (B bh #[NL, .bool false, .bool an, .bool false] 91 :: R))) := ((HE.out.re (M := B g (lkC s1) 128 :: (B s1.gp (pcC s1) 135 :: (itemsE s1 ++ (B bf (frC f A c) 69 :: (B bh #[NL, .bool false, .bool an, .bool false] 91 :: R))))) (fun x => by simp only [lkE, cnt_append, cnt_cons]; omega)).put (cs' := lkC { s1 with word := true }) 12 (.bool true) rfl).re (fun x => by simp only [lkE, pcC, itemsE, cnt_append, cnt_cons, cnt_nil]; omega)
              obtain ⟨W9, hW9⟩ : ∃ W9, W9 = we.setCell ⟨g, 12, none⟩ (.bool true) := ⟨_, rfl⟩
              rw [← hW9] at h9
              have H9 := Lib.hid h9
              have HW9 := Lib.hid hW9
              clear e1 e2 e3 e4 e5 hy hy' h9 hW9
              go_upto_region 10 with fail
              rw [← HW9.out]
              clear z12 fz12
              have y0 : W9.cell? ⟨bh, 0, none⟩ = some (NL) := H9.out.cellOf (g := bh) (cs := #[NL, .bool false, .bool an, .bool false]) (t := 91) (by simp) 0 rfl
              have y1 : W9.cell? ⟨bh, 1, none⟩ = some (.bool false) := H9.out.cellOf (g := bh) (cs := #[NL, .bool false, .bool an, .bool false]) (t := 91) (by simp) 1 rfl
              have y2 : W9.cell? ⟨bh, 2, none⟩ = some (.bool an) := H9.out.cellOf (g := bh) (cs := #[NL, .bool false, .bool an, .bool false]) (t := 91) (by simp) 2 rfl
              have y3 : W9.cell? ⟨bh, 3, none⟩ = some (.bool false) := H9.out.cellOf (g := bh) (cs := #[NL, .bool false, .bool an, .bool false]) (t := 91) (by simp) 3 rfl
              have fy0 := H9.out.freeOf (g := bh) (cs := #[NL, .bool false, .bool an, .bool false]) (t := 91) (by simp) 0
              have fy1 := H9.out.freeOf (g := bh) (cs := #[NL, .bool false, .bool an, .bool false]) (t := 91) (by simp) 1
              have fy2 := H9.out.freeOf (g := bh) (cs := #[NL, .bool false, .bool an, .bool false]) (t := 91) (by simp) 2
              have fy3 := H9.out.freeOf (g := bh) (cs := #[NL, .bool false, .bool an, .bool false]) (t := 91) (by simp) 3
              go_wp2_with fail
              obtain ⟨Wz, hWz⟩ : ∃ Wz, Wz = ((((W9.setCell ⟨bh, 0, none⟩ NL).setCell ⟨bh, 1, none⟩ (.bool false)).setCell ⟨bh, 2, none⟩ (.bool an)).setCell ⟨bh, 3, none⟩ (.bool false)) := ⟨_, rfl⟩
              have hz := St.self4 (H9.out.re (M := B bh #[NL, .bool false, .bool an, .bool false] 91 :: (lkE g { s1 with word := true } ++ (B bf (frC f A c) 69 :: R))) (fun x => by simp only [cnt_append, cnt_cons]; omega))
              rw [← hWz] at hz ⊢
              have q0 : Wz.cell? ⟨bh, 0, none⟩ = some NL := blk_cell hz.hd 0
              have q1 : Wz.cell? ⟨bh, 1, none⟩ = some (.bool false) := blk_cell hz.hd 1
              have q2 : Wz.cell? ⟨bh, 2, none⟩ = some (.bool an) := blk_cell hz.hd 2
              have q3 : Wz.cell? ⟨bh, 3, none⟩ = some (.bool false) := blk_cell hz.hd 3
              have HZZ := Lib.hid hz
              clear hWz hz
              refine bodyPost_ret (results_cell rfl _ _ _ ⟨bh, 0, none⟩ (.agg #[NL, .bool false, .bool an, .bool false]) rfl (by go_simp)) rfl ?_
              rw [E1.out, E2.out, E3.out, E4.out, E5.out]
              exact ⟨s1.iv, NL, rfl, byV_nil, ⟨V1.out.c, V1.out.g, V1.out.l, V1.out.row, V1.out.by_⟩, HZZ.out.re (fun x => by simp only [byR_nil, cnt_append, cnt_cons, cnt_nil]; omega)⟩
end Go.Proofs.YtoeiaimoppmjdaaDoor.Lk
/- Contract: Within. -/
namespace Go.Proofs.YtoeiaimoppmjdaaDoor.Lk
open Go.RowKit Go.Proofs.YtoeiaimoppmjdaaDoorW.PrintWords Go.Proofs.YtoeiaimoppmjdaaDoor.Mem Go.Proofs.YtoeiaimoppmjdaaDoor.Wr Go.Proofs.YtoeiaimoppmjdaaDoor.Bytes
set_option linter.unusedVariables false
set_option linter.unusedSimpArgs false
theorem within_calls (i n : Int) (w : World) (hn : 0 < n) (hn2 : n ≤ 1073741824) (h1 : -9223372036854775808 ≤ i) (h2 : i ≤ 9223372036854775807) :
    Calls Tryd.prog 49 #[.int .i64 i, .int .i64 n] w fun e w' => e = .returned (.int .i64 (i % n)) ∧ w = w' := by
  have r1 : ¬ n = 0 := by omega
  have b1 := Int.tmod_lt_of_pos i hn
  have b2 := Int.lt_tmod_of_pos i hn
  by_cases hi : i.tmod n < 0
  · have e : i % n = wrap64 (i.tmod n + n) := by
      rw [show wrap64 (i.tmod n + n) = i.tmod n + n by unfold wrap64; omega]
      have h := Int.mul_tdiv_add_tmod i n
      rw [← Int.emod_eq_of_lt (a := i.tmod n + n) (b := n) (by omega) (by omega)]
      conv => lhs; rw [← h]
      rw [Int.mul_add_emod_self_left, Int.add_emod_right]
    rw [e]
    clear e b1 b2
    go_enter Tryd.func49, Tryd.ntmps49
    go_wp2_with fail
    go_ret
    exact ⟨rfl, rfl⟩
  · have e : i % n = i.tmod n := by
      have h := Int.mul_tdiv_add_tmod i n
      rw [← Int.emod_eq_of_lt (a := i.tmod n) (b := n) (by omega) b1]
      conv => lhs; rw [← h]
      rw [Int.mul_add_emod_self_left]
    rw [e]
    clear e b1 b2
    go_enter Tryd.func49, Tryd.ntmps49
    go_wp2_with fail
    go_ret
    exact ⟨rfl, rfl⟩
end Go.Proofs.YtoeiaimoppmjdaaDoor.Lk
/- Two links of a till and the server: lives, paired. Printed by gen_pair.py. -/
namespace Go.Proofs.YtoeiaimoppmjdaaDoor.Lk
open Go.RowKit Go.Proofs.YtoeiaimoppmjdaaDoorW.PrintWords Go.Proofs.YtoeiaimoppmjdaaDoor.Mem Go.Proofs.YtoeiaimoppmjdaaDoor.Wr Go.Proofs.YtoeiaimoppmjdaaDoor.Bytes Go.Proofs.YtoeiaimoppmjdaaDoor.App
set_option linter.unusedVariables false
set_option linter.unusedSimpArgs false
structure PS where
  window : Int
  most : Int
  life : Nat → Nat
  l : Nat → Value
  sent : Value
  t : Nat → Value
def upd {α : Type} (f : Nat → α) (i : Nat) (v : α) : Nat → α := fun j => if j = i then v else f j
def pC (p : PS) : Array Value := #[.int .i64 p.window, .int .i64 p.most, .int .u64 (p.life 0 : Int), .int .u64 (p.life 1 : Int), p.l 0, p.l 1, p.sent, p.t 0, p.t 1]
theorem pC_life (p : PS) {i : Nat} (h : i < 2) : (pC p)[2 + i]? = some (.int .u64 (p.life i : Int)) := by
  rcases (show i = 0 ∨ i = 1 by omega) with rfl | rfl <;> rfl
theorem pC_l (p : PS) {i : Nat} (h : i < 2) : (pC p)[4 + i]? = some (p.l i) := by
  rcases (show i = 0 ∨ i = 1 by omega) with rfl | rfl <;> rfl
theorem pC_setlife (p : PS) {i : Nat} (h : i < 2) (n : Nat) : (pC p).setIfInBounds (2 + i) (.int .u64 (n : Int)) = pC { p with life := upd p.life i n } := by
  rcases (show i = 0 ∨ i = 1 by omega) with rfl | rfl <;> rfl
theorem pC_setl (p : PS) {i : Nat} (h : i < 2) (v : Value) : (pC p).setIfInBounds (4 + i) v = pC { p with l := upd p.l i v } := by
  rcases (show i = 0 ∨ i = 1 by omega) with rfl | rfl <;> rfl
set_option maxRecDepth 20000 in
set_option maxHeartbeats 6400000 in
theorem lives_calls {w0 W : World} {R : List Ent} {gp : Nat} {p : PS} (i n : Nat) (hi : i < 2) (h : St w0 W (B gp (pC p) 86 :: R)) (hm : 1 ≤ p.most ∧ p.most ≤ 64) :
    Calls Tryd.prog 87 #[pt gp, .int .i64 i, .int .u64 n] W fun e w' => e = .returned (.bool true) ∧ ∃ g gc, St w0 w' (B gp (pC { p with life := upd p.life i n, l := upd p.l i (pt g) }) 86 :: (lkE g (ls0 (5 * (i : Int)) (5 - 5 * (i : Int)) n p.window gc p.most) ++ R)) := by
  have i1 : (0 : Int) ≤ (i : Int) := by omega
  have i2 : (i : Int) < 2 := by omega
  have u5 : IntKind.i64.wrap (5 * (i : Int)) = 5 * (i : Int) := IntWalk.i64_in _ ⟨by omega, by omega⟩
  have u6 : IntKind.i64.wrap (5 - 5 * (i : Int)) = 5 - 5 * (i : Int) := IntWalk.i64_in _ ⟨by omega, by omega⟩
  have x2 := h.cellOf (g := gp) (cs := pC p) (t := 86) (by simp) (2 + i) (pC_life p hi)
  have f2 := h.freeOf (g := gp) (cs := pC p) (t := 86) (by simp) (2 + i)
  obtain ⟨q, hq⟩ : ∃ q, q = { p with life := upd p.life i n } := ⟨_, rfl⟩
  have h1 := h.put (cs' := pC q) (2 + i) (.int .u64 (n : Int)) (by rw [hq]; exact pC_setlife p hi n)
  obtain ⟨W1, hW1⟩ : ∃ W1, W1 = W.setCell ⟨gp, 2 + i, none⟩ (.int .u64 (n : Int)) := ⟨_, rfl⟩
  rw [← hW1] at h1
  have q0 : (pC q)[0]? = some (.int .i64 p.window) := by rw [hq]; rfl
  have q1 : (pC q)[1]? = some (.int .i64 p.most) := by rw [hq]; rfl
  have HALL : Hid (W1.drew.cell? ⟨gp, 0, none⟩ = some (.int .i64 p.window) ∧ W1.drew.cell? ⟨gp, 1, none⟩ = some (.int .i64 p.most)) := ⟨h1.drew.cellOf (g := gp) (cs := pC q) (t := 86) (by simp) 0 q0, h1.drew.cellOf (g := gp) (cs := pC q) (t := 86) (by simp) 1 q1⟩
  have CN := Lib.hid (lnew_calls w0 W1.drew (B gp (pC q) 86 :: R) (5 * (i : Int)) (5 - 5 * (i : Int)) p.window p.most n h1.drew)
  have HQ4 : Hid ((pC q)[4 + i]? = some (p.l i)) := by show _ = _; rw [pC_l q hi, hq]
  have HU4 : Hid (∀ g, (pC q).setIfInBounds (4 + i) (pt g) = pC { q with l := upd p.l i (pt g) }) := fun g => by rw [pC_setl q hi, hq]
  have HQ := Lib.hid hq
  have HW1 := Lib.hid hW1
  have HM := Lib.hid hm
  have HI := Lib.hid hi
  clear h h1 hq hW1 hm q0 q1 hi
  go_enter Tryd.func87, Tryd.ntmps87
  go_upto_region 2 with fail
  rw [← HW1.out]
  clear x2 f2
  go_cut [] (fun wx => ∃ g gc, St w0 wx (B gp (pC { q with l := upd p.l i (pt g) }) 86 :: (lkE g (ls0 (5 * (i : Int)) (5 - 5 * (i : Int)) n p.window gc p.most) ++ R)))
  case first =>
    have SM : ∀ (bb0 : Bool) (w9 : World), (fun (_ : Bool) (w9 : World) => w9.cell? ⟨gp, 0, none⟩ = some (.int .i64 p.window) ∧ w9.cell? ⟨gp, 1, none⟩ = some (.int .i64 p.most)) bb0 w9 → (fun (_ : Bool) (w9 : World) => w9.cell? ⟨gp, 0, none⟩ = some (.int .i64 p.window) ∧ w9.cell? ⟨gp, 1, none⟩ = some (.int .i64 p.most)) true w9 := fun _ _ h => h
    refine RegL.begin_of (k := 99) (S := fun (_ : Bool) (w9 : World) => w9.cell? ⟨gp, 0, none⟩ = some (.int .i64 p.window) ∧ w9.cell? ⟨gp, 1, none⟩ = some (.int .i64 p.most)) (by kernel_rfl) ?_
    refine RegL.take_w (i := 0) (oi := ⟨some 13, _, _, _, _, _⟩) (v := ?_) SM rfl (by decide) (by kernel_rfl) (by kernel_rfl) (by kernel_rfl) (fun _ _ _ h => h) (Or.inl ⟨by rfl, ?_⟩) (HALL.out) ?_
    rotate_left
    · intro w9 hw9; obtain ⟨q1, q2⟩ := hw9; go_simp; try with_reducible rfl
    try simp only [Act.put, List.setIfInBounds_toArray, List.set_cons_zero, List.set_cons_succ]
    refine RegL.take_w (i := 1) (oi := ⟨some 14, _, _, _, _, _⟩) (v := ?_) SM rfl (by decide) (by kernel_rfl) (by kernel_rfl) (by kernel_rfl) (fun _ _ _ h => h) (Or.inl ⟨by rfl, ?_⟩) (HALL.out) ?_
    rotate_left
    · intro w9 hw9; obtain ⟨q1, q2⟩ := hw9; go_simp; try with_reducible rfl
    try simp only [Act.put, List.setIfInBounds_toArray, List.set_cons_zero, List.set_cons_succ]
    refine RegL.take_w (i := 2) (oi := ⟨some 15, _, _, _, _, _⟩) (v := ?_) SM rfl (by decide) (by kernel_rfl) (by kernel_rfl) (by kernel_rfl) (fun _ _ _ h => h) (Or.inl ⟨by rfl, ?_⟩) (HALL.out) ?_
    rotate_left
    · intro w9 hw9; obtain ⟨q1, q2⟩ := hw9; go_simp; try with_reducible rfl
    try simp only [Act.put, List.setIfInBounds_toArray, List.set_cons_zero, List.set_cons_succ]
    refine RegL.take_w (i := 3) (oi := ⟨some 16, _, _, _, _, _⟩) (v := ?_) SM rfl (by decide) (by kernel_rfl) (by kernel_rfl) (by kernel_rfl) (fun _ _ _ h => h) (Or.inl ⟨by rfl, ?_⟩) (HALL.out) ?_
    rotate_left
    · intro w9 hw9; obtain ⟨q1, q2⟩ := hw9; go_simp; try with_reducible rfl
    try simp only [Act.put, List.setIfInBounds_toArray, List.set_cons_zero, List.set_cons_succ]
    refine RegL.take_w (i := 4) (oi := ⟨some 17, _, _, _, _, _⟩) (v := ?_) SM rfl (by decide) (by kernel_rfl) (by kernel_rfl) (by kernel_rfl) (fun _ _ _ h => h) (Or.inl ⟨by rfl, ?_⟩) (HALL.out) ?_
    rotate_left
    · intro w9 hw9; obtain ⟨q1, q2⟩ := hw9; go_simp; try with_reducible rfl
    try simp only [Act.put, List.setIfInBounds_toArray, List.set_cons_zero, List.set_cons_succ]
    refine RegL.take_w (i := 5) (oi := ⟨some 18, _, _, _, _, _⟩) (v := ?_) SM rfl (by decide) (by kernel_rfl) (by kernel_rfl) (by kernel_rfl) (fun _ _ _ h => h) (Or.inl ⟨by rfl, ?_⟩) (HALL.out) ?_
    rotate_left
    · intro w9 hw9; obtain ⟨q1, q2⟩ := hw9; go_simp; try with_reducible rfl
    try simp only [Act.put, List.setIfInBounds_toArray, List.set_cons_zero, List.set_cons_succ]
    refine RegL.take_w (i := 6) (oi := ⟨some 19, _, _, _, _, _⟩) (v := ?_) SM rfl (by decide) (by kernel_rfl) (by kernel_rfl) (by kernel_rfl) (fun _ _ _ h => h) (Or.inl ⟨by rfl, ?_⟩) (HALL.out) ?_
    rotate_left
    · intro w9 hw9; obtain ⟨q1, q2⟩ := hw9; go_simp; try with_reducible rfl
    try simp only [Act.put, List.setIfInBounds_toArray, List.set_cons_zero, List.set_cons_succ]
    refine RegL.take_w (i := 7) (oi := ⟨some 20, _, _, _, _, _⟩) (v := ?_) SM rfl (by decide) (by kernel_rfl) (by kernel_rfl) (by kernel_rfl) (fun _ _ _ h => h) (Or.inl ⟨by rfl, ?_⟩) (HALL.out) ?_
    rotate_left
    · intro w9 hw9; obtain ⟨q1, q2⟩ := hw9; go_simp; try with_reducible rfl
    try simp only [Act.put, List.setIfInBounds_toArray, List.set_cons_zero, List.set_cons_succ]
    refine RegL.take_w (i := 8) (oi := ⟨some 21, _, _, _, _, _⟩) (v := ?_) SM rfl (by decide) (by kernel_rfl) (by kernel_rfl) (by kernel_rfl) (fun _ _ _ h => h) (Or.inl ⟨by rfl, ?_⟩) (HALL.out) ?_
    rotate_left
    · intro w9 hw9; obtain ⟨q1, q2⟩ := hw9; go_simp; try with_reducible rfl
    try simp only [Act.put, List.setIfInBounds_toArray, List.set_cons_zero, List.set_cons_succ]
    refine RegL.take_w (i := 9) (oi := ⟨some 22, _, _, _, _, _⟩) (v := ?_) SM rfl (by decide) (by kernel_rfl) (by kernel_rfl) (by kernel_rfl) (fun _ _ _ h => h) (Or.inl ⟨by rfl, ?_⟩) (HALL.out) ?_
    rotate_left
    · intro w9 hw9; obtain ⟨q1, q2⟩ := hw9; go_simp; try with_reducible rfl
    try simp only [Act.put, List.setIfInBounds_toArray, List.set_cons_zero, List.set_cons_succ]
    refine RegL.take_w (i := 10) (oi := ⟨some 23, _, _, _, _, _⟩) (v := ?_) SM rfl (by decide) (by kernel_rfl) (by kernel_rfl) (by kernel_rfl) (fun _ _ _ h => h) (Or.inl ⟨by rfl, ?_⟩) (HALL.out) ?_
    rotate_left
    · intro w9 hw9; obtain ⟨q1, q2⟩ := hw9; go_simp; try with_reducible rfl
    try simp only [Act.put, List.setIfInBounds_toArray, List.set_cons_zero, List.set_cons_succ]
    refine RegL.take_w (i := 11) (oi := ⟨some 24, _, _, _, _, _⟩) (v := ?_) SM rfl (by decide) (by kernel_rfl) (by kernel_rfl) (by kernel_rfl) (fun _ _ _ h => h) (Or.inl ⟨by rfl, ?_⟩) (HALL.out) ?_
    rotate_left
    · intro w9 hw9; obtain ⟨q1, q2⟩ := hw9; go_simp; try with_reducible rfl
    try simp only [Act.put, List.setIfInBounds_toArray, List.set_cons_zero, List.set_cons_succ]
    refine RegL.take_w (i := 12) (oi := ⟨some 25, _, _, _, _, _⟩) (v := ?_) SM rfl (by decide) (by kernel_rfl) (by kernel_rfl) (by kernel_rfl) (fun _ _ _ h => h) (Or.inl ⟨by rfl, ?_⟩) (HALL.out) ?_
    rotate_left
    · intro w9 hw9; obtain ⟨q1, q2⟩ := hw9; go_simp; try with_reducible rfl
    try simp only [Act.put, List.setIfInBounds_toArray, List.set_cons_zero, List.set_cons_succ]
    refine RegL.take_w (i := 13) (oi := ⟨some 26, _, _, _, _, _⟩) (v := ?_) SM rfl (by decide) (by kernel_rfl) (by kernel_rfl) (by kernel_rfl) (fun _ _ _ h => h) (Or.inl ⟨by rfl, ?_⟩) (HALL.out) ?_
    rotate_left
    · intro w9 hw9; obtain ⟨q1, q2⟩ := hw9; go_simp; try with_reducible rfl
    try simp only [Act.put, List.setIfInBounds_toArray, List.set_cons_zero, List.set_cons_succ]
    refine RegL.take_w (i := 14) (oi := ⟨some 27, _, _, _, _, _⟩) (v := ?_) SM rfl (by decide) (by kernel_rfl) (by kernel_rfl) (by kernel_rfl) (fun _ _ _ h => h) (Or.inl ⟨by rfl, ?_⟩) (HALL.out) ?_
    rotate_left
    · intro w9 hw9; obtain ⟨q1, q2⟩ := hw9; go_simp; try with_reducible rfl
    try simp only [Act.put, List.setIfInBounds_toArray, List.set_cons_zero, List.set_cons_succ]
    refine RegL.take_w (i := 15) (oi := ⟨some 28, _, _, _, _, _⟩) (v := ?_) SM rfl (by decide) (by kernel_rfl) (by kernel_rfl) (by kernel_rfl) (fun _ _ _ h => h) (Or.inl ⟨by rfl, ?_⟩) (HALL.out) ?_
    rotate_left
    · intro w9 hw9; obtain ⟨q1, q2⟩ := hw9; go_simp; try with_reducible rfl
    try simp only [Act.put, List.setIfInBounds_toArray, List.set_cons_zero, List.set_cons_succ]
    refine RegL.take_w (i := 17) (oi := ⟨some 30, _, _, _, _, _⟩) (v := ?_) SM rfl (by decide) (by kernel_rfl) (by kernel_rfl) (by kernel_rfl) (fun _ _ _ h => h) (Or.inl ⟨by rfl, ?_⟩) (HALL.out) ?_
    rotate_left
    · intro w9 hw9; obtain ⟨q1, q2⟩ := hw9; go_simp; try with_reducible rfl
    try simp only [Act.put, List.setIfInBounds_toArray, List.set_cons_zero, List.set_cons_succ]
    refine RegL.take_w (i := 18) (oi := ⟨some 31, _, _, _, _, _⟩) (v := ?_) SM rfl (by decide) (by kernel_rfl) (by kernel_rfl) (by kernel_rfl) (fun _ _ _ h => h) (Or.inl ⟨by rfl, ?_⟩) (HALL.out) ?_
    rotate_left
    · intro w9 hw9; obtain ⟨q1, q2⟩ := hw9; go_simp; try with_reducible rfl
    try simp only [Act.put, List.setIfInBounds_toArray, List.set_cons_zero, List.set_cons_succ]
    refine RegL.step_of (i := 16) (o := ⟨some 29, _, _, _, _, _⟩) (by kernel_rfl) rfl (fun K' hK => ?_)
    go_simp
    go_at_call 53
    (with_reducible refine CN.out.mono ?_)
    rintro e w5 ⟨g, gc, cc, rfl, hcc, hcc2, h5⟩
    have e5 := hcc2 ⟨HM.out.1, HM.out.2⟩
    rw [e5] at h5
    have h5' : St w0 w5 (B gp (pC q) 86 :: (lkE g (ls0 (5 * (i : Int)) (5 - 5 * (i : Int)) n p.window gc p.most) ++ R)) := h5.re (fun x => by simp only [cnt_append, cnt_cons]; omega)
    have HH5 := Lib.hid h5'
    have z4 : w5.cell? ⟨gp, 4 + i, none⟩ = some (p.l i) := HH5.out.cellOf (g := gp) (cs := pC q) (t := 86) (by simp) (4 + i) HQ4.out
    have fz4 := HH5.out.freeOf (g := gp) (cs := pC q) (t := 86) (by simp) (4 + i)
    have h6 := HH5.out.put (cs' := pC { q with l := upd p.l i (pt g) }) (4 + i) (pt g) (HU4.out g)
    have H6 := Lib.hid h6
    clear hcc hcc2 h5 e5 h5' h6
    refine hK _ _ (⟨HH5.out.cellOf (g := gp) (cs := pC q) (t := 86) (by simp) 0 (by rw [HQ.out]; rfl), HH5.out.cellOf (g := gp) (cs := pC q) (t := 86) (by simp) 1 (by rw [HQ.out]; rfl)⟩) ?_
    clear hK K'
    try simp only [Act.put, List.setIfInBounds_toArray, List.set_cons_zero, List.set_cons_succ]
    refine RegL.take_w (i := 19) (oi := ⟨some 32, _, _, _, _, _⟩) (v := ?_) SM rfl (by decide) (by kernel_rfl) (by kernel_rfl) (by kernel_rfl) (fun _ _ _ h => h) (Or.inl ⟨by rfl, ?_⟩) (⟨HH5.out.cellOf (g := gp) (cs := pC q) (t := 86) (by simp) 0 (by rw [HQ.out]; rfl), HH5.out.cellOf (g := gp) (cs := pC q) (t := 86) (by simp) 1 (by rw [HQ.out]; rfl)⟩) ?_
    rotate_left
    · intro w9 hw9; obtain ⟨q1, q2⟩ := hw9; go_simp; try with_reducible rfl
    try simp only [Act.put, List.setIfInBounds_toArray, List.set_cons_zero, List.set_cons_succ]
    refine RegL.step_of (i := 20) (o := ⟨none, _, _, _, _, _⟩) (by kernel_rfl) rfl (fun K' hK => ?_)
    go_simp
    refine hK _ _ (⟨H6.out.cellOf (g := gp) (cs := pC { q with l := upd p.l i (pt g) }) (t := 86) (by simp) 0 (by rw [HQ.out]; rfl), H6.out.cellOf (g := gp) (cs := pC { q with l := upd p.l i (pt g) }) (t := 86) (by simp) 1 (by rw [HQ.out]; rfl)⟩) ?_
    clear hK K'
    try simp only [Act.put, List.setIfInBounds_toArray, List.set_cons_zero, List.set_cons_succ]
    refine RegL.done_of (by kernel_rfl) ?_ _
    go_wp2_with fail
    go_meet
    exact ⟨g, gc, H6.out⟩
  case rest =>
    obtain ⟨g, gc, hs⟩ := hcut
    obtain ⟨wb, hwb⟩ : ∃ wb, wb = wc := ⟨_, rfl⟩
    rw [← hwb] at hs ⊢
    have y4 := hs.cellOf (g := gp) (cs := pC { q with l := upd p.l i (pt g) }) (t := 86) (by simp) (4 + i) (v := pt g) (by rw [pC_l _ HI.out]; show some (upd p.l i (pt g) i) = _; unfold upd; rw [if_pos rfl])
    have HS := Lib.hid hs
    clear hs hwb
    go_wp2_with fail
    go_ret
    refine ⟨rfl, g, gc, ?_⟩
    have := HS.out
    rw [HQ.out] at this
    exact this
def p0 (win most : Int) : PS := ⟨win, most, fun _ => 0, fun _ => .pointer none, NL, fun _ => NL⟩
def p1 (win most : Int) (g0 : Nat) : PS := { p0 win most with life := upd (p0 win most).life 0 1, l := upd (p0 win most).l 0 (pt g0) }
def p2 (win most : Int) (g0 g1 : Nat) : PS := { p1 win most g0 with life := upd (p1 win most g0).life 1 1, l := upd (p1 win most g0).l 1 (pt g1) }
set_option maxRecDepth 20000 in
set_option maxHeartbeats 6400000 in
theorem paired_calls {w0 W : World} {R : List Ent} (a b : Int) (h : St w0 W R) (ha : -9223372036854775808 ≤ a ∧ a ≤ 9223372036854775807) (hb : -9223372036854775808 ≤ b ∧ b ≤ 9223372036854775807) :
    Calls Tryd.prog 50 #[.int .i64 a, .int .i64 b] W fun e w' => ∃ gp g0 c0 g1 c1, e = .returned (pt gp) ∧ St w0 w' (B gp (pC (p2 (1 + a % 5) (1 + b % 16) g0 g1)) 86 :: (lkE g1 (ls0 5 0 1 (1 + a % 5) c1 (1 + b % 16)) ++ (lkE g0 (ls0 0 5 1 (1 + a % 5) c0 (1 + b % 16)) ++ R))) := by
  have CA := Lib.hid (within_calls a 5 W (by omega) (by omega) ha.1 ha.2)
  have CB := Lib.hid (within_calls b 16 W (by omega) (by omega) hb.1 hb.2)
  have m1 := Int.emod_nonneg a (b := 5) (by omega)
  have m2 := Int.emod_lt_of_pos a (b := 5) (by omega)
  have m3 := Int.emod_nonneg b (b := 16) (by omega)
  have m4 := Int.emod_lt_of_pos b (b := 16) (by omega)
  obtain ⟨win, hwin⟩ : ∃ win, win = 1 + a % 5 := ⟨_, rfl⟩
  obtain ⟨most, hmost⟩ : ∃ most, most = 1 + b % 16 := ⟨_, rfl⟩
  have u1 : IntKind.i64.wrap (1 + a % 5) = win := by rw [IntWalk.i64_in _ ⟨by omega, by omega⟩, hwin]
  have u2 : IntKind.i64.wrap (1 + b % 16) = most := by rw [IntWalk.i64_in _ ⟨by omega, by omega⟩, hmost]
  have hm : 1 ≤ most ∧ most ≤ 64 := by omega
  rw [← hwin, ← hmost]
  obtain ⟨W1, hW1⟩ : ∃ W1, W1 = W.alloc (.cells (pC (p0 win most)) 86) := ⟨_, rfl⟩
  obtain ⟨gp, hgp⟩ : ∃ gp, gp = W.heap.size := ⟨_, rfl⟩
  have h1 := h.newB (pC (p0 win most)) 86
  rw [← hW1, ← hgp] at h1
  have C0 : Hid (Calls Tryd.prog 87 #[pt gp, .int .i64 0, .int .u64 1] W1 fun e w' => e = .returned (.bool true) ∧ ∃ g gc, St w0 w' (B gp (pC (p1 win most g)) 86 :: (lkE g (ls0 0 5 1 win gc most) ++ R))) := lives_calls 0 1 (by omega) h1 hm
  have HW1 : Hid (W1 = W.alloc (.cells #[.int .i64 win, .int .i64 most, .int .u64 0, .int .u64 0, .pointer none, .pointer none, .slice none 0 0, .slice none 0 0, .slice none 0 0] 86)) := hW1
  have HGP := Lib.hid hgp
  have HM := Lib.hid hm
  clear h h1 ha hb hW1 hgp hm m1 m2 m3 m4 hwin hmost
  go_enter Tryd.func50, Tryd.ntmps50
  go_wp2_with fail
  refine CA.out.mono ?_; rintro e w1 ⟨rfl, rfl⟩
  go_wp2_with fail
  refine CB.out.mono ?_; rintro e w1 ⟨rfl, rfl⟩
  go_upto_region 2 with fail
  rw [← HW1.out, ← HGP.out]
  go_wp2_with fail
  refine C0.out.mono ?_; rintro e w2 ⟨rfl, g0, c0, h2⟩
  have C1 : Hid (Calls Tryd.prog 87 #[pt gp, .int .i64 1, .int .u64 1] w2 fun e w' => e = .returned (.bool true) ∧ ∃ g gc, St w0 w' (B gp (pC (p2 win most g0 g)) 86 :: (lkE g (ls0 5 0 1 win gc most) ++ (lkE g0 (ls0 0 5 1 win c0 most) ++ R)))) := lives_calls 1 1 (by omega) h2 HM.out
  clear h2
  go_wp2_with fail
  refine C1.out.mono ?_; rintro e w3 ⟨rfl, g1, c1, h3⟩
  have H3 := Lib.hid h3
  clear h3
  go_wp2_with fail
  go_ret
  exact ⟨gp, g0, c0, g1, c1, rfl, H3.out⟩
end Go.Proofs.YtoeiaimoppmjdaaDoor.Lk
/- Contract: EncodeFrame. -/
namespace Go.Proofs.YtoeiaimoppmjdaaDoor.Lk
open Go.RowKit Go.Proofs.YtoeiaimoppmjdaaDoorW.PrintWords Go.Proofs.YtoeiaimoppmjdaaDoor.Mem Go.Proofs.YtoeiaimoppmjdaaDoor.Wr Go.Proofs.YtoeiaimoppmjdaaDoor.Bytes Go.Proofs.YtoeiaimoppmjdaaDoor.Crc
set_option linter.unusedVariables false
set_option linter.unusedSimpArgs false
/-- What lay in memory when the call began reads as it did, behind a call of a Writer made since. -/
theorem keep_reads {w W W' : World} {R : List Ent} {g : Nat} {v : Value} {xs ys : List Int} {A : Option Addr} (h : St w W (wtrE g v xs ++ R)) (hV : byV v xs) (hr : ReadsOf I 0 w A ys.length ys) (hk : KeepBut W W' g v.ownBlock) : ReadsOf I 0 W' A ys.length ys := by
  have hg := h.ge (B g #[v] 112) (List.mem_append_left _ (List.mem_cons_self ..))
  have hb : Below w.heap.size w { W' with os := w.os, tape := w.tape, output := w.output } := by
    refine ⟨rfl, rfl, rfl, Nat.le_trans h.bl.size hk.1, fun k hk2 => ?_⟩
    show W'.heap[k]? = w.heap[k]?
    refine (hk.2 k (Nat.lt_of_lt_of_le hk2 h.bl.size) (fun e => ?_) (fun e => ?_)).trans (h.bl.block k hk2)
    · have : w.heap.size ≤ g := hg
      omega
    · obtain ⟨p, hp, h1⟩ := row_in (e := 5) hV e.symm
      have := h.ge p (List.mem_append_left _ (List.mem_cons_of_mem _ hp))
      omega
  exact (hr.below hb : ReadsOf I 0 { W' with os := w.os, tape := w.tape, output := w.output } A ys.length ys)
set_option maxRecDepth 20000 in
set_option maxHeartbeats 6400000 in
/-- EncodeFrame: the bytes, in new memory. -/
theorem enc_calls (f : Frm) (A : Option Addr) (c : Nat) (w : World) (hr : ReadsOf I 0 w A f.body.length f.body) (hb : Byt f.body) :
    Calls Tryd.prog 46 #[.agg (frC f A c)] w fun e w' => ∃ v, e = .returned v ∧ byV v (encF f) ∧ St w w' (byR v (encF f)) := by
  obtain ⟨W1, hW1⟩ : ∃ W1, W1 = w.alloc (.cells (frC f A c) 69) := ⟨_, rfl⟩
  obtain ⟨bo, hbo⟩ : ∃ bo, bo = w.heap.size := ⟨_, rfl⟩
  have h1 := (St.start w).newB (frC f A c) 69
  rw [← hW1, ← hbo] at h1
  have x0 := h1.cellOf (g := bo) (cs := frC f A c) (t := 69) (by simp) 0 rfl
  have x1 := h1.cellOf (g := bo) (cs := frC f A c) (t := 69) (by simp) 1 rfl
  have x2 := h1.cellOf (g := bo) (cs := frC f A c) (t := 69) (by simp) 2 rfl
  have x3 := h1.cellOf (g := bo) (cs := frC f A c) (t := 69) (by simp) 3 rfl
  have x4 := h1.cellOf (g := bo) (cs := frC f A c) (t := 69) (by simp) 4 rfl
  have x5 := h1.cellOf (g := bo) (cs := frC f A c) (t := 69) (by simp) 5 rfl
  have x6 := h1.cellOf (g := bo) (cs := frC f A c) (t := 69) (by simp) 6 rfl
  have H1 := Lib.hid h1
  have HW1 := Lib.hid hW1
  have HBO := Lib.hid hbo
  have HR := Lib.hid hr
  have HB := Lib.hid hb
  clear h1 hW1 hbo hr hb
  obtain ⟨bf, hbf⟩ : ∃ bf, bf = fitB f := ⟨_, rfl⟩
  have CF := Lib.hid (fit_calls f A c W1)
  rw [← hbf] at CF
  have HBF := Lib.hid hbf
  clear hbf
  cases bf
  · go_enter Tryd.func46, Tryd.ntmps46
    go_wp2_with fail
    rw [← HW1.out]
    refine CF.out.mono ?_; rintro e w2 ⟨rfl, hb2⟩
    have H2 := Lib.hid (H1.out.below hb2)
    clear hb2
    go_wp2_with fail
    go_ret
    have e : encF f = [] := by unfold encF; rw [if_neg (by rw [← HBF.out]; simp)]
    rw [e]
    exact ⟨NL, rfl, byV_nil, H2.out.re (fun x => by simp only [byR_nil, cnt_nil]; omega)⟩
  · have HF := Lib.hid ((fit_iff f).1 HBF.out.symm)
    have hs0 := HF.out.f0
    have hs1 := HF.out.f1
    have hd0 := HF.out.t0
    have hd1 := HF.out.t1
    have ws : IntKind.u8.wrap f.src = f.src := IntWalk.u8_in _ (by omega)
    have wd : IntKind.u8.wrap f.dst = f.dst := IntWalk.u8_in _ (by omega)
    obtain ⟨s, hs⟩ : ∃ s : Nat, f.src = s := ⟨f.src.toNat, by omega⟩
    obtain ⟨d, hd⟩ : ∃ d : Nat, f.dst = d := ⟨f.dst.toNat, by omega⟩
    have HSS := Lib.hid hs
    have HDD := Lib.hid hd
    clear hs hd
    go_enter Tryd.func46, Tryd.ntmps46
    go_wp2_with fail
    rw [← HW1.out, ← HBO.out]
    refine CF.out.mono ?_; rintro e w2 ⟨rfl, hb2⟩
    have CN := Lib.hid (new_calls w2 w.heap.size (H1.out.below hb2).bl.size)
    have H2 := Lib.hid (H1.out.below hb2)
    clear hb2 x0 x1 x2 x3 x4 x5 x6
    go_wp2_with fail
    refine CN.out.mono ?_; rintro e w3 ⟨rfl, hwt, hb3⟩
    obtain ⟨g, hg⟩ : ∃ g, g = w2.heap.size := ⟨_, rfl⟩
    rw [← hg] at hwt ⊢
    have h3 : St w w3 (wtrE g NL [] ++ [B bo (frC f A c) 69]) := (show St w w3 (B g #[NL] 112 :: [B bo (frC f A c) 69]) from H2.out.made hb3 (by rw [hg]; exact Nat.le_refl _) hwt.blk rfl).re (fun x => by simp only [wtrE, byR_nil, cnt_append, cnt_cons, cnt_nil]; omega)
    have x0 := h3.cellOf (g := bo) (cs := frC f A c) (t := 69) (by simp) 0 rfl
    have CA := Lib.hid (wu8_calls s w3 w.heap.size g NL [] (St.wtr h3 byV_nil) h3.bl.size (by have := HSS.out; omega) (by simp))
    rw [← HSS.out] at CA
    have H3 := Lib.hid h3
    clear hg hwt hb3 h3
    go_wp2_with fail
    refine CA.out.mono ?_; rintro e w4 ⟨rfl, v4, hp4⟩
    obtain ⟨h4, hv4⟩ := St.wput H3.out byV_nil hp4
    have x1 := h4.cellOf (g := bo) (cs := frC f A c) (t := 69) (by simp) 1 rfl
    have CB := Lib.hid (wu8_calls d w4 w.heap.size g v4 _ (St.wtr h4 hv4) h4.bl.size (by have := HDD.out; omega) (by simp [fixL]))
    rw [← HDD.out] at CB
    have H4 := Lib.hid h4
    have V4 := Lib.hid hv4
    clear hp4 h4 hv4 x0
    go_wp2_with fail
    refine CB.out.mono ?_; rintro e w5 ⟨rfl, v5, hp5⟩
    obtain ⟨h5, hv5⟩ := St.wput H4.out V4.out hp5
    have e5 : [] ++ fixL s 1 ++ fixL d 1 = [f.src, f.dst] := by
      have q1 := HSS.out; have q2 := HDD.out
      rw [q1, q2]; simp [fixL]; omega
    rw [e5] at h5 hv5
    have y2 := h5.cellOf (g := bo) (cs := frC f A c) (t := 69) (by simp) 2 rfl
    have y3 := h5.cellOf (g := bo) (cs := frC f A c) (t := 69) (by simp) 3 rfl
    have y4 := h5.cellOf (g := bo) (cs := frC f A c) (t := 69) (by simp) 4 rfl
    have y5 := h5.cellOf (g := bo) (cs := frC f A c) (t := 69) (by simp) 5 rfl
    obtain ⟨W6, hW6⟩ : ∃ W6, W6 = w5.alloc (.cells #[.int .u64 (f.mine : Int), .int .u64 (f.yours : Int), .int .u64 (f.seq : Int), .int .u64 (f.ack : Int)] 37) := ⟨_, rfl⟩
    obtain ⟨bl, hbl⟩ : ∃ bl, bl = w5.heap.size := ⟨_, rfl⟩
    have h6 := h5.newB #[.int .u64 (f.mine : Int), .int .u64 (f.yours : Int), .int .u64 (f.seq : Int), .int .u64 (f.ack : Int)] 37
    rw [← hW6, ← hbl] at h6
    have h6' : St w W6 (wtrE g v5 ([f.src, f.dst] ++ ((nums f).take 0).flatMap vr) ++ [B bl #[.int .u64 (f.mine : Int), .int .u64 (f.yours : Int), .int .u64 (f.seq : Int), .int .u64 (f.ack : Int)] 37, B bo (frC f A c) 69]) := h6.re (fun x => by simp only [List.take_zero, List.flatMap_nil, List.append_nil, cnt_append, cnt_cons, cnt_nil]; omega)
    have H6 := Lib.hid h6'
    have V5 := Lib.hid hv5
    have HW6 := Lib.hid hW6
    have HBL := Lib.hid hbl
    clear hp5 h5 hv5 h6 h6' hW6 hbl e5 x1
    go_wp2_with fail
    rw [← HBL.out, ← HW6.out]
    go_loopg [30] 4 (fun gk s30 wr => ∃ (k : Nat) (v : Value), gk = 4 - k ∧ k ≤ 4 ∧ s30 = .int .i64 k ∧ byV v ([f.src, f.dst] ++ ((nums f).take k).flatMap vr) ∧ St w wr (wtrE g v ([f.src, f.dst] ++ ((nums f).take k).flatMap vr) ++ [B bl #[.int .u64 (f.mine : Int), .int .u64 (f.yours : Int), .int .u64 (f.seq : Int), .int .u64 (f.ack : Int)] 37, B bo (frC f A c) 69]))
    case atStart => exact ⟨0, v5, rfl, by omega, rfl, by simpa using V5.out, H6.out⟩
    case round =>
      obtain ⟨k, v, hgk, hk, rfl, hv, hs⟩ := hrel
      have HGK := Lib.hid hgk
      have VV := Lib.hid hv
      have HS := Lib.hid hs
      clear hgk hv hs
      by_cases hlt : k < 4
      · obtain ⟨n, hn⟩ : ∃ n, (nums f)[k]? = some n := ⟨(nums f)[k]'(by rw [nums_len]; exact hlt), List.getElem?_eq_getElem _⟩
        have hcell : (#[.int .u64 (f.mine : Int), .int .u64 (f.yours : Int), .int .u64 (f.seq : Int), .int .u64 (f.ack : Int)] : Array Value)[k]? = some (.int .u64 (n : Int)) := by
          have e : k = 0 ∨ k = 1 ∨ k = 2 ∨ k = 3 := by omega
          rcases e with rfl | rfl | rfl | rfl <;> (simp [nums] at hn; subst hn; rfl)
        have hn64 : n < 18446744073709551616 := by
          have := HF.out.m1; have := HF.out.y; have := HF.out.s; have := HF.out.a
          have e : k = 0 ∨ k = 1 ∨ k = 2 ∨ k = 3 := by omega
          rcases e with rfl | rfl | rfl | rfl <;> (simp [nums] at hn; omega)
        have z := HS.out.cellOf (g := bl) (cs := #[.int .u64 (f.mine : Int), .int .u64 (f.yours : Int), .int .u64 (f.seq : Int), .int .u64 (f.ack : Int)]) (t := 37) (by simp) k hcell
        have hln := vrs_len f HF.out k
        have CV := Lib.hid (wvar_calls n wr w.heap.size g v _ (St.wtr HS.out VV.out) HS.out.bl.size hn64 (by simp only [List.length_append, List.length_cons, List.length_nil]; omega))
        have et : [f.src, f.dst] ++ ((nums f).take k).flatMap vr ++ vr n = [f.src, f.dst] ++ ((nums f).take (k + 1)).flatMap vr := by
          rw [List.take_add_one, hn]; simp
        have ET := Lib.hid et
        have i1 : (k : Int) < 4 := by omega
        have i2 : (0 : Int) ≤ (k : Int) := by omega
        clear hn hcell hn64 hln et
        go_wp2_with fail
        refine CV.out.mono ?_; rintro e w7 ⟨rfl, v7, hp7⟩
        obtain ⟨h7, hv7⟩ := St.wput HS.out VV.out hp7
        rw [ET.out] at h7 hv7
        have H7 := Lib.hid h7
        have V7 := Lib.hid hv7
        clear hp7 h7 hv7 z
        go_wp2_with fail
        go_roundg (4 - (k + 1))
        case measure => have := HGK.out; omega
        case rel => exact ⟨k + 1, v7, rfl, by omega, by go_num, V7.out, H7.out⟩
      · have hk4 : k = 4 := by omega
        subst hk4
        have e4 : (nums f).take 4 = nums f := rfl
        have hs := HS.out
        have hv := VV.out
        rw [e4] at hs hv
        have z6 := hs.cellOf (g := bo) (cs := frC f A c) (t := 69) (by simp) 6 rfl
        have hln := vrs_len f HF.out 4
        rw [e4] at hln
        have hbl := HF.out.b
        have hbd : ReadsOf I 0 w A f.body.length f.body := HR.out
        have CB := Lib.hid (wbytes_calls f.body A c wr w.heap.size g v _ (St.wtr hs hv) hs.bl.size (fun w' hk => keep_reads hs hv hbd hk) (by simp only [List.length_append, List.length_cons, List.length_nil]; omega))
        have HS4 := Lib.hid hs
        have V4' := Lib.hid hv
        have i1 : ¬ (4 : Int) < 4 := by omega
        clear hs hv hln hbl hbd e4
        go_wp2_with fail
        refine CB.out.mono ?_; rintro e w7 ⟨rfl, v7, hp7⟩
        obtain ⟨h7, hv7⟩ := St.wput HS4.out V4'.out hp7
        have ea : [f.src, f.dst] ++ (nums f).flatMap vr ++ (vr f.body.length ++ f.body) = ahead f := rfl
        rw [ea] at h7 hv7
        have hal := ahead_len f HF.out
        have hab := ahead_byt f HF.out HB.out
        have CO := Lib.hid (out_calls w7 w.heap.size w7.heap.size g v7 (ahead f) (St.wtr h7 hv7) (Nat.le_refl _) (by omega))
        have H7 := Lib.hid h7
        have V7 := Lib.hid hv7
        have HAL := Lib.hid hal
        have HAB := Lib.hid hab
        clear hp7 h7 hv7 ea hal hab z6
        go_wp2_with fail
        refine CO.out.mono ?_; rintro e w8 ⟨v8, rfl, ho8, hb8⟩
        obtain ⟨h8, hv8⟩ := H7.out.fresh hb8 ho8
        obtain ⟨A8, c8, rfl⟩ := byV_form hv8
        have CS := Lib.hid (sum_reads (ahead f) A8 c8 w8 (by_reads h8 (fun x => by simp only [byR, cnt_append]; omega) hv8) HAB.out)
        have H8 := Lib.hid (h8.re (M := wtrE g v7 (ahead f) ++ [B bo (frC f A c) 69]) (fun x => by simp only [cnt_append, cnt_cons, cnt_nil]; omega))
        clear hb8 ho8 h8 hv8
        go_wp2_with fail
        refine CS.out.mono ?_; rintro e w9 ⟨rfl, hb9⟩
        have h9 := H8.out.below hb9
        have CU := Lib.hid (wu32_calls (crc (ahead f)).toNat w9 w.heap.size g v7 (ahead f) (St.wtr h9 V7.out) h9.bl.size (crc (ahead f)).isLt (by have := HAL.out; omega))
        have H9 := Lib.hid h9
        clear hb9 h9
        go_wp2_with fail
        refine CU.out.mono ?_; rintro e wa ⟨rfl, va, hpa⟩
        obtain ⟨ha, hva⟩ := St.wput H9.out V7.out hpa
        have ee : ahead f ++ fixL (crc (ahead f)).toNat 4 = encF f := by unfold encF; rw [if_pos HBF.out.symm]
        have hel : (encF f).length ≤ 2104 := by rw [← ee]; have := HAL.out; simp [fixL_length]; omega
        rw [ee] at ha hva
        have CO2 := Lib.hid (out_calls wa w.heap.size wa.heap.size g va (encF f) (St.wtr ha hva) (Nat.le_refl _) (by omega))
        have HA := Lib.hid ha
        clear hpa ha hva ee hel
        go_wp2_with fail
        refine CO2.out.mono ?_; rintro e wb ⟨vb, rfl, hob, hbb⟩
        obtain ⟨hfin, hvb⟩ := HA.out.fresh hbb hob
        obtain ⟨Ab, cb, rfl⟩ := byV_form hvb
        have HFIN := Lib.hid hfin
        have HVB := Lib.hid hvb
        clear hbb hob hfin hvb
        go_wp2_with fail
        go_ret
        exact ⟨.slice Ab (encF f).length cb, rfl, HVB.out, HFIN.out.re (fun x => by simp only [byR, cnt_append]; omega)⟩
end Go.Proofs.YtoeiaimoppmjdaaDoor.Lk
/- What a tick says: the literal within Tick. -/
namespace Go.Proofs.YtoeiaimoppmjdaaDoor.Lk
open Go.RowKit Go.Proofs.YtoeiaimoppmjdaaDoorW.PrintWords Go.Proofs.YtoeiaimoppmjdaaDoor.Mem Go.Proofs.YtoeiaimoppmjdaaDoor.Wr Go.Proofs.YtoeiaimoppmjdaaDoor.Bytes Go.Proofs.YtoeiaimoppmjdaaDoor.App
open Go.Proofs.YtoeiaimoppmjdaaDoor.Pace (nxt IsO)
set_option linter.unusedVariables false
set_option linter.unusedSimpArgs false
/-- What goes out: a row of lists of bytes, each in memory of its own. -/
def outE (v : Value) (l : List BI) : List Ent := rowE v 22 1 l.length (l.map fun i => i.1) ++ l.flatMap fun i => byR i.1 i.2
structure OutV (v : Value) (l : List BI) : Prop where
  row : rowV v 1 l.length (l.map fun i => i.1)
  by_ : ∀ i, i ∈ l → byV i.1 i.2
theorem outV_nil : OutV NL [] := ⟨rowV_nil 1, fun i h => (by cases h)⟩
theorem row_form {v : Value} {s n : Nat} {xs : List Value} (h : rowV v s n xs) : ∃ A c, v = .slice A n c := by
  rcases h.2 with ⟨rfl, h0⟩ | ⟨g, c, rfl, _⟩
  · exact ⟨none, 0, by rw [h0]⟩
  · exact ⟨_, _, rfl⟩
abbrev frm (s : LS) (n : Nat) (ys : List Int) : Frm := ⟨s.me, s.other, s.life, s.known, n, s.heard, ys⟩
/-- The cells that Tick's literal reads. -/
def SayL (g bl : Nat) (s : LS) (w9 : World) : Prop := w9.cell? ⟨bl, 0, none⟩ = some (pt g) ∧ w9.cell? ⟨g, 0, none⟩ = some (.int .i64 s.me) ∧ w9.cell? ⟨g, 1, none⟩ = some (.int .i64 s.other) ∧ w9.cell? ⟨g, 2, none⟩ = some (.int .u64 (s.life : Int)) ∧ w9.cell? ⟨g, 3, none⟩ = some (.int .u64 (s.known : Int)) ∧ w9.cell? ⟨g, 8, none⟩ = some (.int .u64 (s.heard : Int))
def SayS (g bo bl : Nat) (s : LS) (ov : Value) (b : Bool) (w9 : World) : Prop := SayL g bl s w9 ∧ (b = false → w9.cell? ⟨bo, 0, none⟩ = some ov)
set_option maxRecDepth 20000 in
set_option maxHeartbeats 6400000 in
theorem say_calls (w0 W : World) (R : List Ent) (g bo bl : Nat) (s : LS) (ov : Value) (l : List BI) (n : Nat) (A : Option Addr) (c : Nat) (ys : List Int) (h : St w0 W (lkE g s ++ (B bo #[ov] 61 :: (B bl #[pt g] 80 :: (outE ov l ++ R))))) (hO : OutV ov l)
    (hr : ReadsOf I 0 W A ys.length ys) (hb : Byt ys) (hl : l.length ≤ 1000) :
    Calls Tryd.prog 97 #[.int .u64 (n : Int), .slice A ys.length c, .pointer (some ⟨bo, 0, none⟩), .pointer (some ⟨bl, 0, none⟩)] W fun e w' => e = .returned (.tuple #[]) ∧ ∃ ov' v, OutV ov' (l ++ [(v, encF (frm s n ys))]) ∧ St w0 w' (lkE g s ++ (B bo #[ov'] 61 :: (B bl #[pt g] 80 :: (outE ov' (l ++ [(v, encF (frm s n ys))]) ++ R)))) := by
  have x2 := h.cellOf (g := bo) (cs := #[ov]) (t := 61) (by simp) 0 rfl
  have x3 := h.cellOf (g := bl) (cs := #[pt g]) (t := 80) (by simp) 0 rfl
  have c0 : W.cell? ⟨g, 0, none⟩ = some (.int .i64 s.me) := lk_cell h 0 rfl
  have c1 : W.cell? ⟨g, 1, none⟩ = some (.int .i64 s.other) := lk_cell h 1 rfl
  have c2 : W.cell? ⟨g, 2, none⟩ = some (.int .u64 (s.life : Int)) := lk_cell h 2 rfl
  have c3 : W.cell? ⟨g, 3, none⟩ = some (.int .u64 (s.known : Int)) := lk_cell h 3 rfl
  have c8 : W.cell? ⟨g, 8, none⟩ = some (.int .u64 (s.heard : Int)) := lk_cell h 8 rfl
  obtain ⟨Ao, co, rfl⟩ := row_form hO.row
  have CE : Hid (Calls Tryd.prog 46 #[.agg #[.int .i64 s.me, .int .i64 s.other, .int .u64 (s.life : Int), .int .u64 (s.known : Int), .int .u64 (n : Int), .int .u64 (s.heard : Int), .slice A ys.length c]] W.drew fun e w' => ∃ v, e = .returned v ∧ byV v (encF (frm s n ys)) ∧ St W.drew w' (byR v (encF (frm s n ys)))) := enc_calls (frm s n ys) A c W.drew (hr.below (Below.refl _ _).drew) hb
  have H := Lib.hid h
  have HO := Lib.hid hO
  have HL := Lib.hid hl
  clear h hO hr hb hl
  go_enter Tryd.func97, Tryd.ntmps97
  go_wp2_with fail
  have SM : ∀ b w9, SayS g bo bl s (.slice Ao l.length co) b w9 → SayS g bo bl s (.slice Ao l.length co) true w9 := fun b w9 h => ⟨h.1, fun e => by cases e⟩
  have SK : Hid (∀ (w9 : World) (L : List Ent), St w0 w9 L → B g (lkC s) 128 ∈ L → B bl #[pt g] 80 ∈ L → SayL g bl s w9) := fun w9 L h hm hn =>
    ⟨h.cellOf hn 0 rfl, h.cellOf hm 0 rfl, h.cellOf hm 1 rfl, h.cellOf hm 2 rfl, h.cellOf hm 3 rfl, h.cellOf hm 8 rfl⟩
  have HALL : Hid (∀ b, SayS g bo bl s (.slice Ao l.length co) b W.drew) := fun b => ⟨SK.out _ _ H.out.drew (by simp [lkE]) (by simp), fun _ => x2⟩
  clear x2 x3 c0 c1 c2 c3 c8
  refine RegL.begin_of (k := 26) (S := SayS g bo bl s (.slice Ao l.length co)) (by kernel_rfl) ?_
  refine RegL.take_s (i := 0) (v := ?_) rfl (by decide) rfl (by kernel_rfl) (by kernel_rfl) (by kernel_rfl) (by kernel_rfl) (by kernel_rfl) (fun _ _ _ h => h) (Or.inl ⟨by rfl, ?_⟩) (HALL.out _) ?_
  rotate_left
  · intro w9 hw9; obtain ⟨⟨q1, q2, q3, q4, q5, q6⟩, q7⟩ := hw9; replace q7 := q7 rfl; go_simp; try with_reducible rfl
  try simp only [Act.put, List.setIfInBounds_toArray, List.set_cons_zero, List.set_cons_succ]
  refine RegL.take_w (i := 1) (v := ?_) SM rfl (by decide) (by kernel_rfl) (by kernel_rfl) (by kernel_rfl) (fun _ _ _ h => h) (Or.inl ⟨by rfl, ?_⟩) (HALL.out _) ?_
  rotate_left
  · intro w9 hw9; obtain ⟨⟨q1, q2, q3, q4, q5, q6⟩, q7⟩ := hw9; clear q7; go_simp; try with_reducible rfl
  try simp only [Act.put, List.setIfInBounds_toArray, List.set_cons_zero, List.set_cons_succ]
  refine RegL.take_w (i := 2) (v := ?_) SM rfl (by decide) (by kernel_rfl) (by kernel_rfl) (by kernel_rfl) (fun _ _ _ h => h) (Or.inl ⟨by rfl, ?_⟩) (HALL.out _) ?_
  rotate_left
  · intro w9 hw9; obtain ⟨⟨q1, q2, q3, q4, q5, q6⟩, q7⟩ := hw9; clear q7; go_simp; try with_reducible rfl
  try simp only [Act.put, List.setIfInBounds_toArray, List.set_cons_zero, List.set_cons_succ]
  refine RegL.take_w (i := 3) (v := ?_) SM rfl (by decide) (by kernel_rfl) (by kernel_rfl) (by kernel_rfl) (fun _ _ _ h => h) (Or.inl ⟨by rfl, ?_⟩) (HALL.out _) ?_
  rotate_left
  · intro w9 hw9; obtain ⟨⟨q1, q2, q3, q4, q5, q6⟩, q7⟩ := hw9; clear q7; go_simp; try with_reducible rfl
  try simp only [Act.put, List.setIfInBounds_toArray, List.set_cons_zero, List.set_cons_succ]
  refine RegL.take_w (i := 4) (v := ?_) SM rfl (by decide) (by kernel_rfl) (by kernel_rfl) (by kernel_rfl) (fun _ _ _ h => h) (Or.inl ⟨by rfl, ?_⟩) (HALL.out _) ?_
  rotate_left
  · intro w9 hw9; obtain ⟨⟨q1, q2, q3, q4, q5, q6⟩, q7⟩ := hw9; clear q7; go_simp; try with_reducible rfl
  try simp only [Act.put, List.setIfInBounds_toArray, List.set_cons_zero, List.set_cons_succ]
  refine RegL.take_w (i := 5) (v := ?_) SM rfl (by decide) (by kernel_rfl) (by kernel_rfl) (by kernel_rfl) (fun _ _ _ h => h) (Or.inl ⟨by rfl, ?_⟩) (HALL.out _) ?_
  rotate_left
  · intro w9 hw9; obtain ⟨⟨q1, q2, q3, q4, q5, q6⟩, q7⟩ := hw9; clear q7; go_simp; try with_reducible rfl
  try simp only [Act.put, List.setIfInBounds_toArray, List.set_cons_zero, List.set_cons_succ]
  refine RegL.take_w (i := 6) (v := ?_) SM rfl (by decide) (by kernel_rfl) (by kernel_rfl) (by kernel_rfl) (fun _ _ _ h => h) (Or.inl ⟨by rfl, ?_⟩) (HALL.out _) ?_
  rotate_left
  · intro w9 hw9; obtain ⟨⟨q1, q2, q3, q4, q5, q6⟩, q7⟩ := hw9; clear q7; go_simp; try with_reducible rfl
  try simp only [Act.put, List.setIfInBounds_toArray, List.set_cons_zero, List.set_cons_succ]
  refine RegL.take_w (i := 7) (v := ?_) SM rfl (by decide) (by kernel_rfl) (by kernel_rfl) (by kernel_rfl) (fun _ _ _ h => h) (Or.inl ⟨by rfl, ?_⟩) (HALL.out _) ?_
  rotate_left
  · intro w9 hw9; obtain ⟨⟨q1, q2, q3, q4, q5, q6⟩, q7⟩ := hw9; clear q7; go_simp; try with_reducible rfl
  try simp only [Act.put, List.setIfInBounds_toArray, List.set_cons_zero, List.set_cons_succ]
  refine RegL.take_w (i := 8) (v := ?_) SM rfl (by decide) (by kernel_rfl) (by kernel_rfl) (by kernel_rfl) (fun _ _ _ h => h) (Or.inl ⟨by rfl, ?_⟩) (HALL.out _) ?_
  rotate_left
  · intro w9 hw9; obtain ⟨⟨q1, q2, q3, q4, q5, q6⟩, q7⟩ := hw9; clear q7; go_simp; try with_reducible rfl
  try simp only [Act.put, List.setIfInBounds_toArray, List.set_cons_zero, List.set_cons_succ]
  refine RegL.take_w (i := 9) (v := ?_) SM rfl (by decide) (by kernel_rfl) (by kernel_rfl) (by kernel_rfl) (fun _ _ _ h => h) (Or.inl ⟨by rfl, ?_⟩) (HALL.out _) ?_
  rotate_left
  · intro w9 hw9; obtain ⟨⟨q1, q2, q3, q4, q5, q6⟩, q7⟩ := hw9; clear q7; go_simp; try with_reducible rfl
  try simp only [Act.put, List.setIfInBounds_toArray, List.set_cons_zero, List.set_cons_succ]
  refine RegL.take_w (i := 10) (v := ?_) SM rfl (by decide) (by kernel_rfl) (by kernel_rfl) (by kernel_rfl) (fun _ _ _ h => h) (Or.inl ⟨by rfl, ?_⟩) (HALL.out _) ?_
  rotate_left
  · intro w9 hw9; obtain ⟨⟨q1, q2, q3, q4, q5, q6⟩, q7⟩ := hw9; clear q7; go_simp; try with_reducible rfl
  try simp only [Act.put, List.setIfInBounds_toArray, List.set_cons_zero, List.set_cons_succ]
  refine RegL.take_w (i := 11) (v := ?_) SM rfl (by decide) (by kernel_rfl) (by kernel_rfl) (by kernel_rfl) (fun _ _ _ h => h) (Or.inl ⟨by rfl, ?_⟩) (HALL.out _) ?_
  rotate_left
  · intro w9 hw9; obtain ⟨⟨q1, q2, q3, q4, q5, q6⟩, q7⟩ := hw9; clear q7; go_simp; try with_reducible rfl
  try simp only [Act.put, List.setIfInBounds_toArray, List.set_cons_zero, List.set_cons_succ]
  refine RegL.take_w (i := 12) (v := ?_) SM rfl (by decide) (by kernel_rfl) (by kernel_rfl) (by kernel_rfl) (fun _ _ _ h => h) (Or.inl ⟨by rfl, ?_⟩) (HALL.out _) ?_
  rotate_left
  · intro w9 hw9; obtain ⟨⟨q1, q2, q3, q4, q5, q6⟩, q7⟩ := hw9; clear q7; go_simp; try with_reducible rfl
  try simp only [Act.put, List.setIfInBounds_toArray, List.set_cons_zero, List.set_cons_succ]
  refine RegL.take_w (i := 13) (v := ?_) SM rfl (by decide) (by kernel_rfl) (by kernel_rfl) (by kernel_rfl) (fun _ _ _ h => h) (Or.inl ⟨by rfl, ?_⟩) (HALL.out _) ?_
  rotate_left
  · intro w9 hw9; obtain ⟨⟨q1, q2, q3, q4, q5, q6⟩, q7⟩ := hw9; clear q7; go_simp; try with_reducible rfl
  try simp only [Act.put, List.setIfInBounds_toArray, List.set_cons_zero, List.set_cons_succ]
  refine RegL.take_w (i := 14) (v := ?_) SM rfl (by decide) (by kernel_rfl) (by kernel_rfl) (by kernel_rfl) (fun _ _ _ h => h) (Or.inl ⟨by rfl, ?_⟩) (HALL.out _) ?_
  rotate_left
  · intro w9 hw9; obtain ⟨⟨q1, q2, q3, q4, q5, q6⟩, q7⟩ := hw9; clear q7; go_simp; try with_reducible rfl
  try simp only [Act.put, List.setIfInBounds_toArray, List.set_cons_zero, List.set_cons_succ]
  refine RegL.take_w (i := 15) (v := ?_) SM rfl (by decide) (by kernel_rfl) (by kernel_rfl) (by kernel_rfl) (fun _ _ _ h => h) (Or.inl ⟨by rfl, ?_⟩) (HALL.out _) ?_
  rotate_left
  · intro w9 hw9; obtain ⟨⟨q1, q2, q3, q4, q5, q6⟩, q7⟩ := hw9; clear q7; go_simp; try with_reducible rfl
  try simp only [Act.put, List.setIfInBounds_toArray, List.set_cons_zero, List.set_cons_succ]
  refine RegL.take_w (i := 16) (v := ?_) SM rfl (by decide) (by kernel_rfl) (by kernel_rfl) (by kernel_rfl) (fun _ _ _ h => h) (Or.inl ⟨by rfl, ?_⟩) (HALL.out _) ?_
  rotate_left
  · intro w9 hw9; obtain ⟨⟨q1, q2, q3, q4, q5, q6⟩, q7⟩ := hw9; clear q7; go_simp; try with_reducible rfl
  try simp only [Act.put, List.setIfInBounds_toArray, List.set_cons_zero, List.set_cons_succ]
  refine RegL.take_w (i := 17) (v := ?_) SM rfl (by decide) (by kernel_rfl) (by kernel_rfl) (by kernel_rfl) (fun _ _ _ h => h) (Or.inl ⟨by rfl, ?_⟩) (HALL.out _) ?_
  rotate_left
  · intro w9 hw9; obtain ⟨⟨q1, q2, q3, q4, q5, q6⟩, q7⟩ := hw9; clear q7; go_simp; try with_reducible rfl
  try simp only [Act.put, List.setIfInBounds_toArray, List.set_cons_zero, List.set_cons_succ]
  refine RegL.take_w (i := 18) (v := ?_) SM rfl (by decide) (by kernel_rfl) (by kernel_rfl) (by kernel_rfl) (fun _ _ _ h => h) (Or.inl ⟨by rfl, ?_⟩) (HALL.out _) ?_
  rotate_left
  · intro w9 hw9; obtain ⟨⟨q1, q2, q3, q4, q5, q6⟩, q7⟩ := hw9; clear q7; go_simp; try with_reducible rfl
  try simp only [Act.put, List.setIfInBounds_toArray, List.set_cons_zero, List.set_cons_succ]
  refine RegL.take_w (i := 19) (v := ?_) SM rfl (by decide) (by kernel_rfl) (by kernel_rfl) (by kernel_rfl) (fun _ _ _ h => h) (Or.inl ⟨by rfl, ?_⟩) (HALL.out _) ?_
  rotate_left
  · intro w9 hw9; obtain ⟨⟨q1, q2, q3, q4, q5, q6⟩, q7⟩ := hw9; clear q7; go_simp; try with_reducible rfl
  try simp only [Act.put, List.setIfInBounds_toArray, List.set_cons_zero, List.set_cons_succ]
  refine RegL.take_w (i := 20) (v := ?_) SM rfl (by decide) (by kernel_rfl) (by kernel_rfl) (by kernel_rfl) (fun _ _ _ h => h) (Or.inl ⟨by rfl, ?_⟩) (HALL.out _) ?_
  rotate_left
  · intro w9 hw9; obtain ⟨⟨q1, q2, q3, q4, q5, q6⟩, q7⟩ := hw9; clear q7; go_simp; try with_reducible rfl
  try simp only [Act.put, List.setIfInBounds_toArray, List.set_cons_zero, List.set_cons_succ]
  refine RegL.take_w (i := 21) (v := ?_) SM rfl (by decide) (by kernel_rfl) (by kernel_rfl) (by kernel_rfl) (fun _ _ _ h => h) (Or.inl ⟨by rfl, ?_⟩) (HALL.out _) ?_
  rotate_left
  · intro w9 hw9; obtain ⟨⟨q1, q2, q3, q4, q5, q6⟩, q7⟩ := hw9; clear q7; go_simp; try with_reducible rfl
  try simp only [Act.put, List.setIfInBounds_toArray, List.set_cons_zero, List.set_cons_succ]
  refine RegL.take_w (i := 22) (v := ?_) SM rfl (by decide) (by kernel_rfl) (by kernel_rfl) (by kernel_rfl) (fun _ _ _ h => h) (Or.inl ⟨by rfl, ?_⟩) (HALL.out _) ?_
  rotate_left
  · intro w9 hw9; obtain ⟨⟨q1, q2, q3, q4, q5, q6⟩, q7⟩ := hw9; clear q7; go_simp; try with_reducible rfl
  try simp only [Act.put, List.setIfInBounds_toArray, List.set_cons_zero, List.set_cons_succ]
  refine RegL.take_w (i := 23) (v := ?_) SM rfl (by decide) (by kernel_rfl) (by kernel_rfl) (by kernel_rfl) (fun _ _ _ h => h) (Or.inl ⟨by rfl, ?_⟩) (HALL.out _) ?_
  rotate_left
  · intro w9 hw9; obtain ⟨⟨q1, q2, q3, q4, q5, q6⟩, q7⟩ := hw9; clear q7; go_simp; try with_reducible rfl
  try simp only [Act.put, List.setIfInBounds_toArray, List.set_cons_zero, List.set_cons_succ]
  refine RegL.step_of (i := 24) (by kernel_rfl) rfl (fun K' hK => ?_)
  go_simp
  go_at_call 46
  (with_reducible refine CE.out.mono ?_)
  rintro e w1 ⟨v, rfl, hv, hs⟩
  obtain ⟨Av, cv, rfl⟩ := byV_form hv
  have h1 := St.lift H.out.drew hs
  have x2' := h1.cellOf (g := bo) (cs := #[.slice Ao l.length co]) (t := 61) (by simp) 0 rfl
  have h2 := h1.newB #[.slice Av (encF (frm s n ys)).length cv] 22
  have x2'' := h2.cellOf (g := bo) (cs := #[.slice Ao l.length co]) (t := 61) (by simp) 0 rfl
  obtain ⟨v3, W3, hrun, h3, hv3⟩ := row_append (P := Tryd.prog) (h2.re (M := rowE (.slice Ao l.length co) 22 1 l.length (l.map fun i => i.1) ++ (byR (.slice Av (encF (frm s n ys)).length cv) (encF (frm s n ys)) ++ (lkE g s ++ (B bo #[.slice Ao l.length co] 61 :: (B bl #[pt g] 80 :: ((l.flatMap fun i => byR i.1 i.2) ++ R)))))) (fun x => by simp only [outE, cnt_append, cnt_cons]; omega)) HO.out.row 61 61 (.slice none 0 0) 24 Tryd.underlying61 infoL rfl (by have := HL.out; omega) (by have := HL.out; omega) ⟨w1.heap.size, 0, none⟩ 1 (.slice Av (encF (frm s n ys)).length cv) (blk_cell h2.hd 0) rfl
  obtain ⟨A3, c3', rfl⟩ := row_form hv3
  have y2 := h3.cellOf (g := bo) (cs := #[.slice Ao l.length co]) (t := 61) (by simp) 0 rfl
  have f2 := h3.freeOf (g := bo) (cs := #[.slice Ao l.length co]) (t := 61) (by simp) 0
  have H4 := Lib.hid ((h3.re (M := B bo #[.slice Ao l.length co] 61 :: (rowE (.slice A3 (l.length + 1) c3') 22 1 (l.length + 1) ((l.map fun i => i.1) ++ [.slice Av (encF (frm s n ys)).length cv]) ++ (byR (.slice Av (encF (frm s n ys)).length cv) (encF (frm s n ys)) ++ (lkE g s ++ (B bl #[pt g] 80 :: ((l.flatMap fun i => byR i.1 i.2) ++ R)))))) (fun x => by simp only [cnt_append, cnt_cons]; omega)).put (cs' := #[.slice A3 (l.length + 1) c3']) 0 (.slice A3 (l.length + 1) c3') rfl)
  have HRUN := Lib.hid hrun
  have H1 := Lib.hid h1
  have H2 := Lib.hid h2
  have H3 := Lib.hid h3
  have V3 := Lib.hid hv3
  have VV := Lib.hid hv
  clear hrun h3 hv3 hv hs h1 h2
  have M1 : SayL g bl s w1 := SK.out _ _ H1.out (by simp [lkE]) (by simp)
  have M2 : SayL g bl s (w1.alloc (.cells #[.slice Av (encF (frm s n ys)).length cv] 22)) := SK.out _ _ H2.out (by simp [lkE]) (by simp)
  have M3 : SayL g bl s W3 := SK.out _ _ H3.out (by simp [lkE]) (by simp)
  have M4 : SayL g bl s (W3.setCell ⟨bo, 0, none⟩ (.slice A3 (l.length + 1) c3')) := SK.out _ _ H4.out (by simp [lkE]) (by simp)
  refine hK _ _ ⟨M1, fun _ => x2'⟩ ?_
  clear hK K'
  refine RegL.step_of (i := 25) (by kernel_rfl) rfl (fun K' hK => ?_)
  go_simp
  refine hK _ _ ⟨M2, fun _ => x2''⟩ ?_
  clear hK K'
  refine RegL.step_of (i := 26) (by kernel_rfl) rfl (fun K' hK => ?_)
  refine step_append_run (o := ⟨some 32, _, _, _, _, _⟩) rfl (.tmp 6) (.tmp 31) 61 rfl (.slice Ao l.length co) (.slice (some ⟨w1.heap.size, 0, none⟩) 1 1) (.slice A3 (l.length + 1) c3') W3 rfl rfl HRUN.out ?_
  refine hK _ _ ⟨M3, fun e => by cases e⟩ ?_
  clear hK K'
  refine RegL.step_of (i := 27) (by kernel_rfl) rfl (fun K' hK => ?_)
  go_simp
  refine hK _ _ ⟨M4, fun e => by cases e⟩ ?_
  clear hK K'
  refine RegL.done_of (by kernel_rfl) ?_ _
  go_wp2_with fail
  go_end0
  refine ⟨rfl, .slice A3 (l.length + 1) c3', .slice Av (encF (frm s n ys)).length cv, ⟨by simpa using V3.out, fun i hi => ?_⟩, ?_⟩
  · rcases List.mem_append.1 hi with hi | hi
    · exact HO.out.by_ i hi
    · obtain rfl := List.mem_singleton.1 hi; exact VV.out
  · exact H4.out.re (fun x => by simp only [outE, List.length_append, List.length_cons, List.length_nil, Nat.zero_add, List.map_append, List.map_cons, List.map_nil, List.flatMap_append, List.flatMap_cons, List.flatMap_nil, cnt_append, cnt_cons, cnt_nil]; omega)
end Go.Proofs.YtoeiaimoppmjdaaDoor.Lk
/- What a tick says and leaves: plain. -/

namespace Go.Proofs.YtoeiaimoppmjdaaDoor.Lk
open Go.RowKit Go.Proofs.YtoeiaimoppmjdaaDoorW.PrintWords Go.Proofs.YtoeiaimoppmjdaaDoor.Mem Go.Proofs.YtoeiaimoppmjdaaDoor.Wr Go.Proofs.YtoeiaimoppmjdaaDoor.Bytes
open Go.Proofs.YtoeiaimoppmjdaaDoor.Pace (dbl dbl_range)
set_option linter.unusedVariables false
set_option linter.unusedSimpArgs false
/-- Is the pace asked? -/
def askP (s : LS) : Bool := decide (0 < s.items.length) || s.word
/-- Is it time? -/
def timeP (s : LS) : Bool := askP s && decide (s.left ≤ 1)
/-- Behind the question. -/
def pacedP (s : LS) : LS := if askP s = true then (if s.left ≤ 1 then { s with left := s.gap, gap := dbl s.cap s.gap } else { s with left := s.left - 1 }) else s
/-- What is said of the first q of the row, and up to which number it has gone out then. -/
def sayTo (s : LS) (tm : Bool) : Nat → List Frm × Nat
  | 0 => ([], s.out)
  | q + 1 => if tm = true ∨ (sayTo s tm q).2 < s.gone + q + 1 then ((sayTo s tm q).1 ++ [frm s (s.gone + q + 1) (s.items.getD q (NL, [])).2], max (sayTo s tm q).2 (s.gone + q + 1)) else sayTo s tm q
/-- So many may go out. -/
def mayP (s : LS) : Nat := min s.items.length s.window.toNat
def rowP' (s : LS) : List Frm × Nat := if 0 < s.known then sayTo s (timeP s) (mayP s) else ([], s.out)
/-- Is a word said? -/
def wordP (s : LS) : Bool := (rowP' s).1.isEmpty && (s.ack || s.asked || s.word && timeP s)
def saidP (s : LS) : List Frm := if wordP s = true then [frm s 0 []] else (rowP' s).1
def tickP (s : LS) : LS := { pacedP s with out := (rowP' s).2, ack := s.ack && (saidP s).isEmpty, asked := s.asked && (saidP s).isEmpty }
theorem pacedP_V {s : LS} (h : LkV s) : LkV (pacedP s) := by
  unfold pacedP
  split
  · split
    · exact ⟨h.c, dbl_range _ _ h.c h.g, ⟨by have := h.g; show 0 ≤ s.gap; omega, h.g.2⟩, h.row, h.by_⟩
    · exact ⟨h.c, h.g, ⟨by have := h.l; show 0 ≤ s.left - 1; omega, by have := h.l; show s.left - 1 ≤ s.cap; omega⟩, h.row, h.by_⟩
  · exact h
theorem paced_same (s : LS) : ∃ l g, pacedP s = { s with left := l, gap := g } := by
  unfold pacedP
  split
  · split
    · exact ⟨_, _, rfl⟩
    · exact ⟨_, s.gap, rfl⟩
  · exact ⟨s.left, s.gap, rfl⟩
theorem sayTo_len (s : LS) (tm : Bool) : ∀ q, (sayTo s tm q).1.length ≤ q
  | 0 => Nat.le_refl _
  | q + 1 => by
    have := sayTo_len s tm q
    unfold sayTo
    split
    · simp; exact this
    · omega
theorem sayTo_out (s : LS) (tm : Bool) : ∀ q, s.out ≤ (sayTo s tm q).2 ∧ (sayTo s tm q).2 ≤ max s.out (s.gone + q)
  | 0 => ⟨Nat.le_refl _, Nat.le_max_left _ _⟩
  | q + 1 => by
    have := sayTo_out s tm q
    unfold sayTo
    split
    · simp only; omega
    · omega
end Go.Proofs.YtoeiaimoppmjdaaDoor.Lk
