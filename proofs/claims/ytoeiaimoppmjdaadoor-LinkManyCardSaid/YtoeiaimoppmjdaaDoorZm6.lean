/- Merged by merge2.py out of the texts: LkRow, Send, HearP. -/
import Derived.Test.YtoeiaimoppmjdaaDoorZm3
import Derived.Test.YtoeiaimoppmjdaaDoorZm4
import Derived.Deep.DeepCutAuto
import Derived.Deep.CutBlock
import Derived.WalkSpells
import Derived.Deep.MidRow
/- A link's row: last, put, drop; bytes.Clone. -/
namespace Go.Proofs.YtoeiaimoppmjdaaDoor.Lk
open Go.RowKit Go.Proofs.YtoeiaimoppmjdaaDoorW.PrintWords Go.Proofs.YtoeiaimoppmjdaaDoor.Mem Go.Proofs.YtoeiaimoppmjdaaDoor.Wr Go.Proofs.YtoeiaimoppmjdaaDoor.Bytes Go.Proofs.YtoeiaimoppmjdaaDoor.App
set_option linter.unusedVariables false
set_option linter.unusedSimpArgs false
set_option maxRecDepth 20000 in
/-- Bytes put behind bytes of one's own. -/
theorem by_appends {w0 W : World} {R : List Ent} {v : Value} {ys : List Int} (h : St w0 W (byR v ys ++ R)) (hV : byV v ys) (xs : List Int) (ad : Addr) (c1 : Nat) (hr : ReadsOf I 0 W (some ad) xs.length xs) (hl : ys.length + xs.length ≤ 140737488355328) :
    ∃ (v' : Value) (W' : World), (Builtin.append_ #[22, 22] 22 #[v, .slice (some ad) xs.length c1]).run Tryd.prog W = .ok v' W' ∧ St w0 W' (byR v' (ys ++ xs) ++ R) ∧ byV v' (ys ++ xs) := by
  obtain ⟨i0, hi, hzz⟩ := Option.map_eq_some_iff.1 info5
  simp only [Prod.mk.injEq] at hzz
  obtain ⟨hz0, hz1, hz2⟩ := hzz
  have hnews : ∀ j u, (encs I xs)[j]? = some u → W.cell? (ad.add j) = some u := by
    intro j u hu
    have hj : j < xs.length := by
      rcases Nat.lt_or_ge j xs.length with h0 | h0
      · exact h0
      · rw [List.getElem?_eq_none (by simp [encs]; omega)] at hu; cases hu
    obtain ⟨ad', e, hc⟩ := hr.2.2 (by omega)
    injection e with e
    subst e
    rw [hc j hj, ← hu]
    simp [encs, List.getD_eq_getElem?_getD, List.getElem?_eq_getElem hj]
  obtain ⟨v1, w1, hrun, h2, h3, _, h5⟩ := run_append_own_at (P := Tryd.prog) W w0.heap.size 22 22 5 i0 (.int .u8 0) 1 1 Tryd.underlying22 hi hz0 hz1 hz2 rfl (by omega) v ys.length (encs I ys) (h.own hV) ad xs.length c1 (encs I xs) (by simp [encs]) hnews
    (by intro q hq; simp [encs] at hq; obtain ⟨a, _, rfl⟩ := hq; rfl) (by simp only [maxLen]; omega) (by omega) h.bl.size
  obtain ⟨k1, k2⟩ := h.grown hV h3 h2 (by
    rcases h5 with h5 | h5
    · exact .inl h5
    · right; intro k hk; rw [h5] at hk; injection hk with hk; omega)
  have e1 : encs I ys ++ encs I xs = encs I (ys ++ xs) := by simp [encs]
  have e2 : ys.length + xs.length = (ys ++ xs).length := by simp
  rw [e1, e2] at k1 k2
  exact ⟨v1, w1, hrun, k1, k2⟩
set_option maxRecDepth 20000 in
set_option maxHeartbeats 1600000 in
theorem clone_calls {w0 W : World} {R : List Ent} (xs : List Int) (A : Option Addr) (c : Nat) (h : St w0 W R) (hr : ReadsOf I 0 W A xs.length xs) (hl : xs.length ≤ 140737488355328) :
    Calls Tryd.prog 93 #[.slice A xs.length c] W fun e w' => ∃ v, e = .returned v ∧ byV v xs ∧ St w0 w' (byR v xs ++ R) := by
  cases A with
  | none =>
    obtain rfl : xs = [] := by
      rcases Nat.eq_zero_or_pos xs.length with h0 | h0
      · exact List.eq_nil_of_length_eq_zero h0
      · obtain ⟨ad, e, _⟩ := hr.2.2 h0; cases e
    have H := Lib.hid h
    have qn : (binOp .eql 22 (.slice none 0 c) (.slice none 0 0)).run Tryd.prog W = .ok (.bool true) W := Lib.run_eql_slice_nil W _ _ none 0 c 0 0 Tryd.underlying22
    clear h hr hl
    go_enter Tryd.func93, Tryd.ntmps93
    go_wp2_with fail
    go_ret
    exact ⟨NL, rfl, byV_nil, H.out⟩
  | some ad =>
    obtain ⟨W1, hW1⟩ : ∃ W1, W1 = W.alloc (.cells #[] 5) := ⟨_, rfl⟩
    obtain ⟨g, hg⟩ : ∃ g, g = W.heap.size := ⟨_, rfl⟩
    have h1 : St w0 W1 (byR (.slice (some ⟨g, 0, none⟩) 0 0) [] ++ R) := by
      rw [hW1, hg]
      exact h.new (.cells #[] 5) (P := rowP 0 5 1 0 []) ⟨#[], rfl, rfl, rfl⟩
    have hv1 : byV (.slice (some ⟨g, 0, none⟩) 0 0) [] := ⟨rfl, .inr ⟨g, 0, rfl, Nat.le_refl _, Nat.zero_le _⟩⟩
    have hr1 : ReadsOf I 0 W1 (some ad) xs.length xs := by rw [hW1]; exact hr.below ((Below.refl _ _).alloc (Nat.le_refl _) _)
    obtain ⟨v', W', hrun, h2, hv2⟩ := by_appends h1 hv1 xs ad c hr1 (by simp; exact hl)
    rw [List.nil_append] at h2 hv2
    have H := Lib.hid h2
    have qn : (binOp .eql 22 (.slice (some ad) xs.length c) (.slice none 0 0)).run Tryd.prog W = .ok (.bool false) W := Lib.run_eql_slice_nil W _ _ (some ad) xs.length c 0 0 Tryd.underlying22
    have HV := Lib.hid hv2
    have HR := Lib.hid hrun
    have HW1 := Lib.hid hW1
    have HG := Lib.hid hg
    clear h h1 hv1 hr hr1 h2 hv2 hrun hW1 hg hl
    go_enter Tryd.func93, Tryd.ntmps93
    go_wp2_with (at_builtin; rw [← HW1.out, ← HG.out]; refine wpList_append_run (o := ⟨some 7, _, _, _, _, _⟩) rfl (.tmp 5) (.tmp 6) 22 rfl (.slice (some ⟨g, 0, none⟩) 0 0) (.slice (some ad) xs.length c) v' W' rfl rfl HR.out ?_)
    go_ret
    exact ⟨v', rfl, HV.out, H.out⟩
set_option maxRecDepth 20000 in
set_option maxHeartbeats 1600000 in
theorem last_calls {w0 W : World} {R : List Ent} {g : Nat} {s : LS} (h : St w0 W (lkE g s ++ R)) (hV : LkV s) (hb : s.gone + s.items.length < 18446744073709551616) :
    Calls Tryd.prog 94 #[.pointer (some ⟨g, 5, none⟩)] W fun e w' => e = .returned (.int .u64 ((s.gone + s.items.length : Nat) : Int)) ∧ Below W.heap.size W w' := by
  obtain ⟨n, hn⟩ : ∃ n, n = s.items.length := ⟨_, rfl⟩
  obtain ⟨A5, c5, e5⟩ := oV_form hV.row
  have k5 : W.drew.cell? ⟨g, 5, none⟩ = some s.iv := lk_cell h.drew 5 rfl
  have k6 : W.drew.cell? ⟨g, 6, none⟩ = some (.int .u64 (s.gone : Int)) := lk_cell h.drew 6 rfl
  rw [← hn] at e5 hb ⊢
  rw [e5] at k5
  have u1 : IntKind.u64.wrap (n : Int) = (n : Int) := IntWalk.u64_in _ ⟨by omega, by omega⟩
  have u2 : IntKind.u64.wrap ((s.gone : Int) + (n : Int)) = (s.gone : Int) + (n : Int) := IntWalk.u64_in _ ⟨by omega, by omega⟩
  obtain ⟨m, hm⟩ : ∃ m, m = s.gone + n := ⟨_, rfl⟩
  have HALL : Hid (W.drew.cell? ⟨g, 5, none⟩ = some (.slice A5 n c5) ∧ W.drew.cell? ⟨g, 6, none⟩ = some (.int .u64 (s.gone : Int))) := ⟨k5, k6⟩
  clear h hV e5 k5 k6 hb hn hm m
  go_enter Tryd.func94, Tryd.ntmps94
  go_upto_region 1 with fail
  have SM : ∀ (bb0 : Bool) (w9 : World), (fun (_ : Bool) (w9 : World) => w9.cell? ⟨g, 5, none⟩ = some (.slice A5 n c5) ∧ w9.cell? ⟨g, 6, none⟩ = some (.int .u64 (s.gone : Int))) bb0 w9 → (fun (_ : Bool) (w9 : World) => w9.cell? ⟨g, 5, none⟩ = some (.slice A5 n c5) ∧ w9.cell? ⟨g, 6, none⟩ = some (.int .u64 (s.gone : Int))) true w9 := fun _ _ h => h
  refine RegL.begin_of (k := 99) (S := fun (_ : Bool) (w9 : World) => w9.cell? ⟨g, 5, none⟩ = some (.slice A5 n c5) ∧ w9.cell? ⟨g, 6, none⟩ = some (.int .u64 (s.gone : Int))) (by kernel_rfl) ?_
  refine RegL.take_w (i := 0) (oi := ⟨some 3, _, _, _, _, _⟩) (v := ?_) SM rfl (by decide) (by kernel_rfl) (by kernel_rfl) (by kernel_rfl) (fun _ _ _ h => h) (Or.inl ⟨by rfl, ?_⟩) (HALL.out) ?_
  rotate_left
  · intro w9 hw9; obtain ⟨q1, q2⟩ := hw9; go_simp; try with_reducible rfl
  try simp only [Act.put, List.setIfInBounds_toArray, List.set_cons_zero, List.set_cons_succ]
  refine RegL.take_w (i := 1) (oi := ⟨some 4, _, _, _, _, _⟩) (v := ?_) SM rfl (by decide) (by kernel_rfl) (by kernel_rfl) (by kernel_rfl) (fun _ _ _ h => h) (Or.inl ⟨by rfl, ?_⟩) (HALL.out) ?_
  rotate_left
  · intro w9 hw9; obtain ⟨q1, q2⟩ := hw9; go_simp; try with_reducible rfl
  try simp only [Act.put, List.setIfInBounds_toArray, List.set_cons_zero, List.set_cons_succ]
  refine RegL.take_w (i := 2) (oi := ⟨some 5, _, _, _, _, _⟩) (v := ?_) SM rfl (by decide) (by kernel_rfl) (by kernel_rfl) (by kernel_rfl) (fun _ _ _ h => h) (Or.inl ⟨by rfl, ?_⟩) (HALL.out) ?_
  rotate_left
  · intro w9 hw9; obtain ⟨q1, q2⟩ := hw9; go_simp; try with_reducible rfl
  try simp only [Act.put, List.setIfInBounds_toArray, List.set_cons_zero, List.set_cons_succ]
  refine RegL.take_w (i := 3) (oi := ⟨some 6, _, _, _, _, _⟩) (v := ?_) SM rfl (by decide) (by kernel_rfl) (by kernel_rfl) (by kernel_rfl) (fun _ _ _ h => h) (Or.inl ⟨by rfl, ?_⟩) (HALL.out) ?_
  rotate_left
  · intro w9 hw9; obtain ⟨q1, q2⟩ := hw9; go_simp; try with_reducible rfl
  try simp only [Act.put, List.setIfInBounds_toArray, List.set_cons_zero, List.set_cons_succ]
  refine RegL.take_w (i := 4) (oi := ⟨some 7, _, _, _, _, _⟩) (v := ?_) SM rfl (by decide) (by kernel_rfl) (by kernel_rfl) (by kernel_rfl) (fun _ _ _ h => h) (Or.inl ⟨by rfl, ?_⟩) (HALL.out) ?_
  rotate_left
  · intro w9 hw9; obtain ⟨q1, q2⟩ := hw9; go_simp; try with_reducible rfl
  try simp only [Act.put, List.setIfInBounds_toArray, List.set_cons_zero, List.set_cons_succ]
  refine RegL.take_w (i := 5) (oi := ⟨some 8, _, _, _, _, _⟩) (v := ?_) SM rfl (by decide) (by kernel_rfl) (by kernel_rfl) (by kernel_rfl) (fun _ _ _ h => h) (Or.inl ⟨by rfl, ?_⟩) (HALL.out) ?_
  rotate_left
  · intro w9 hw9; obtain ⟨q1, q2⟩ := hw9; go_simp; try with_reducible rfl
  try simp only [Act.put, List.setIfInBounds_toArray, List.set_cons_zero, List.set_cons_succ]
  refine RegL.take_w (i := 6) (oi := ⟨some 9, _, _, _, _, _⟩) (v := ?_) SM rfl (by decide) (by kernel_rfl) (by kernel_rfl) (by kernel_rfl) (fun _ _ _ h => h) (Or.inl ⟨by rfl, ?_⟩) (HALL.out) ?_
  rotate_left
  · intro w9 hw9; obtain ⟨q1, q2⟩ := hw9; go_simp; try with_reducible rfl
  try simp only [Act.put, List.setIfInBounds_toArray, List.set_cons_zero, List.set_cons_succ]
  refine RegL.take_w (i := 7) (oi := ⟨some 10, _, _, _, _, _⟩) (v := ?_) SM rfl (by decide) (by kernel_rfl) (by kernel_rfl) (by kernel_rfl) (fun _ _ _ h => h) (Or.inl ⟨by rfl, ?_⟩) (HALL.out) ?_
  rotate_left
  · intro w9 hw9; obtain ⟨q1, q2⟩ := hw9; go_simp; try with_reducible rfl
  try simp only [Act.put, List.setIfInBounds_toArray, List.set_cons_zero, List.set_cons_succ]
  refine RegL.take_w (i := 8) (oi := ⟨some 11, _, _, _, _, _⟩) (v := ?_) SM rfl (by decide) (by kernel_rfl) (by kernel_rfl) (by kernel_rfl) (fun _ _ _ h => h) (Or.inl ⟨by rfl, ?_⟩) (HALL.out) ?_
  rotate_left
  · intro w9 hw9; obtain ⟨q1, q2⟩ := hw9; go_simp; try with_reducible rfl
  try simp only [Act.put, List.setIfInBounds_toArray, List.set_cons_zero, List.set_cons_succ]
  refine RegL.take_w (i := 9) (oi := ⟨some 12, _, _, _, _, _⟩) (v := ?_) SM rfl (by decide) (by kernel_rfl) (by kernel_rfl) (by kernel_rfl) (fun _ _ _ h => h) (Or.inl ⟨by rfl, ?_⟩) (HALL.out) ?_
  rotate_left
  · intro w9 hw9; obtain ⟨q1, q2⟩ := hw9; go_simp; try with_reducible rfl
  try simp only [Act.put, List.setIfInBounds_toArray, List.set_cons_zero, List.set_cons_succ]
  refine RegL.take_w (i := 10) (oi := ⟨some 13, _, _, _, _, _⟩) (v := ?_) SM rfl (by decide) (by kernel_rfl) (by kernel_rfl) (by kernel_rfl) (fun _ _ _ h => h) (Or.inl ⟨by rfl, ?_⟩) (HALL.out) ?_
  rotate_left
  · intro w9 hw9; obtain ⟨q1, q2⟩ := hw9; go_simp; try with_reducible rfl
  try simp only [Act.put, List.setIfInBounds_toArray, List.set_cons_zero, List.set_cons_succ]
  refine RegL.take_w (i := 11) (oi := ⟨some 2, _, _, _, _, _⟩) (v := ?_) SM rfl (by decide) (by kernel_rfl) (by kernel_rfl) (by kernel_rfl) (fun _ _ _ h => h) (Or.inl ⟨by rfl, ?_⟩) (HALL.out) ?_
  rotate_left
  · intro w9 hw9; obtain ⟨q1, q2⟩ := hw9; go_simp; try with_reducible rfl
  try simp only [Act.put, List.setIfInBounds_toArray, List.set_cons_zero, List.set_cons_succ]
  refine RegL.done_of (by kernel_rfl) ?_ _
  go_wp2_with fail
  go_ret
  exact ⟨by simp, (Below.refl _ _).drew⟩
set_option maxRecDepth 20000 in
set_option maxHeartbeats 1600000 in
theorem put_calls {w0 W : World} {R : List Ent} {g : Nat} {s : LS} {v : Value} {xs : List Int} (h : St w0 W (lkE g s ++ (byR v xs ++ R))) (hV : LkV s) (hv : byV v xs) (hy : Byt xs) (hx : xs.length ≤ 2048) (hn : s.items.length ≤ 1000000) :
    Calls Tryd.prog 95 #[.pointer (some ⟨g, 5, none⟩), v] W fun e w' => e = .returned (.tuple #[]) ∧ ∃ iv', LkV { s with iv := iv', items := s.items ++ [(v, xs)] } ∧ St w0 w' (lkE g { s with iv := iv', items := s.items ++ [(v, xs)] } ++ R) := by
  obtain ⟨A5, c5, e5⟩ := oV_form hV.row
  obtain ⟨Av, cv, rfl⟩ := byV_form hv
  obtain ⟨W1, hW1⟩ : ∃ W1, W1 = W.alloc (.cells #[.slice Av xs.length cv] 22) := ⟨_, rfl⟩
  obtain ⟨bx, hbx⟩ : ∃ bx, bx = W.heap.size := ⟨_, rfl⟩
  have k5 : W.cell? ⟨g, 5, none⟩ = some s.iv := lk_cell h 5 rfl
  have h1 := h.newB #[.slice Av xs.length cv] 22
  rw [← hW1, ← hbx] at h1
  have hx1 := h1.cellOf (g := bx) (cs := #[.slice Av xs.length cv]) (t := 22) (by simp) 0 rfl
  obtain ⟨iv', W2, hrun, h2, hv2⟩ := o_append (P := Tryd.prog) (h1.re (M := oE s.iv 22 s.items.length (s.items.map fun i => i.1) ++ (B g (lkC s) 128 :: (B s.gp (pcC s) 135 :: ((s.items.flatMap fun i => byR i.1 i.2) ++ (byR (.slice Av xs.length cv) xs ++ R))))) (fun x => by simp only [lkE, itemsE, cnt_append, cnt_cons]; omega)) hV.row 61 61 (.slice none 0 0) 24 Tryd.underlying61 infoL rfl (by omega) (by omega) ⟨bx, 0, none⟩ 1 (.slice Av xs.length cv) hx1 rfl
  have k5' : W2.cell? ⟨g, 5, none⟩ = some s.iv := h2.cellOf (g := g) (cs := lkC s) (t := 128) (by simp) 5 rfl
  have f5 : W2.frozen? ⟨g, 5, none⟩ = false := h2.freeOf (g := g) (cs := lkC s) (t := 128) (by simp) 5
  have h3 := (h2.re (M := B g (lkC s) 128 :: (oE iv' 22 (s.items.length + 1) ((s.items.map fun i => i.1) ++ [.slice Av xs.length cv]) ++ (B s.gp (pcC s) 135 :: ((s.items.flatMap fun i => byR i.1 i.2) ++ (byR (.slice Av xs.length cv) xs ++ R))))) (fun x => by simp only [cnt_append, cnt_cons]; omega)).put (cs' := lkC { s with iv := iv', items := s.items ++ [(.slice Av xs.length cv, xs)] }) 5 iv' rfl
  obtain ⟨A6, c6, rfl⟩ := oV_form hv2
  have H3 := Lib.hid h3
  have HV2 := Lib.hid hv2
  have HV := Lib.hid hV
  have HBV := Lib.hid hv
  have HBY := Lib.hid hy
  have HX := Lib.hid hx
  have HRUN := Lib.hid hrun
  have HW1 := Lib.hid hW1
  have HBX := Lib.hid hbx
  rw [e5] at k5 k5'
  rw [e5] at HRUN
  obtain ⟨n, hnn⟩ : ∃ n, n = s.items.length := ⟨_, rfl⟩
  rw [← hnn] at k5 k5' HRUN H3 HV2
  have HN := Lib.hid hnn
  clear h h1 h2 h3 hv2 hV hv hy hx hrun hW1 hbx e5 hx1 hn hnn
  go_enter Tryd.func95, Tryd.ntmps95
  go_wp2_with (at_builtin; rw [← HW1.out, ← HBX.out]; refine wpList_append_run (o := ⟨some 11, _, _, _, _, _⟩) rfl (.tmp 8) (.tmp 10) 61 rfl (.slice A5 n c5) (.slice (some ⟨bx, 0, none⟩) 1 1) (.slice A6 (n + 1) c6) W2 rfl rfl HRUN.out ?_)
  go_end0
  refine ⟨rfl, .slice A6 (n + 1) c6, ⟨HV.out.c, HV.out.g, HV.out.l, ?_, fun i hi => ?_⟩, ?_⟩
  · have := HV2.out
    simpa [HN.out] using this
  · rcases List.mem_append.1 hi with hi | hi
    · exact HV.out.by_ i hi
    · obtain rfl := List.mem_singleton.1 hi; exact ⟨HBV.out, HBY.out, HX.out⟩
  · exact H3.out.re (fun x => by simp only [lkE, pcC, itemsE, List.length_append, List.length_cons, List.length_nil, Nat.zero_add, List.map_append, List.map_cons, List.map_nil, List.flatMap_append, List.flatMap_cons, List.flatMap_nil, HN.out, cnt_append, cnt_cons, cnt_nil]; omega)
set_option maxRecDepth 20000 in
set_option maxHeartbeats 3200000 in
theorem drop_calls {w W : World} {R : List Ent} {g : Nat} {s : LS} (n : Nat) (h : St w W (lkE g s ++ R)) (hV : LkV s) (hb : s.gone + s.items.length < 18446744073709551616) :
    Calls Tryd.prog 92 #[.pointer (some ⟨g, 5, none⟩), .int .u64 (n : Int)] W fun e w' => e = .returned (.tuple #[]) ∧ ∃ iv', LkV { s with iv := iv', items := s.items.drop (min (n - s.gone) s.items.length), gone := s.gone + min (n - s.gone) s.items.length } ∧ St w w' (lkE g { s with iv := iv', items := s.items.drop (min (n - s.gone) s.items.length), gone := s.gone + min (n - s.gone) s.items.length } ++ R) := by
  obtain ⟨k, hk⟩ : ∃ k, k = min (n - s.gone) s.items.length := ⟨_, rfl⟩
  rw [← hk]
  have H := Lib.hid h
  have HV := Lib.hid hV
  have HK := Lib.hid hk
  have HB := Lib.hid hb
  clear h hV hk hb
  go_enter Tryd.func92, Tryd.ntmps92
  go_wp2_with fail
  go_loopg [] k (fun gk wr => ∃ j : Nat, gk = k - j ∧ j ≤ k ∧ ∃ iv', LkV { s with iv := iv', items := s.items.drop j, gone := s.gone + j } ∧ St w wr (lkE g { s with iv := iv', items := s.items.drop j, gone := s.gone + j } ++ R))
  case atStart => exact ⟨0, rfl, Nat.zero_le _, s.iv, HV.out, H.out⟩
  case round =>
    obtain ⟨j, hgk, hj, iv', hv, hs⟩ := hrel
    have hlen : (s.items.drop j).length = s.items.length - j := List.length_drop
    obtain ⟨A5, c5, e5⟩ := oV_form hv.row
    simp only at e5
    have k5 : wr.cell? ⟨g, 5, none⟩ = some iv' := lk_cell hs 5 rfl
    have k6 : wr.cell? ⟨g, 6, none⟩ = some (.int .u64 ((s.gone + j : Nat) : Int)) := lk_cell hs 6 rfl
    have f5 := lk_free hs 5
    have f6 := lk_free hs 6
    obtain ⟨gj, hgj⟩ : ∃ gj, gj = s.gone + j := ⟨_, rfl⟩
    rw [← hgj] at k6
    have HGK := Lib.hid hgk
    by_cases hlt : j < k
    · have hk' : k ≤ n - s.gone ∧ k ≤ s.items.length := by rw [HK.out]; exact ⟨Nat.min_le_left _ _, Nat.min_le_right _ _⟩
      have hb := HB.out
      have i1 : (gj : Int) < (n : Int) := by omega
      obtain ⟨m, hm⟩ : ∃ m, m = (s.items.drop (j + 1)).length := ⟨_, rfl⟩
      have hm2 : s.items.length - j = m + 1 := by rw [hm, List.length_drop]; omega
      have hd : s.items.drop j = s.items[j] :: s.items.drop (j + 1) := List.drop_eq_getElem_cons (by omega)
      have hrow := hv.row
      simp only at hrow
      rw [hlen, hm2] at e5
      rw [e5] at hrow k5
      rw [hlen, hm2, hd, List.map_cons] at hrow
      obtain ⟨g5, off, rfl, hcap, hcm⟩ : ∃ g5 off, A5 = some ⟨g5, off, none⟩ ∧ m + 1 ≤ c5 ∧ c5 ≤ maxLen := by
        rcases hrow.2 with ⟨q1, q2⟩ | ⟨g5, off, _, q1, q2, q3⟩
        · omega
        · injection q1 with q1 _ q4; subst q4; exact ⟨g5, off, q1, q2, q3⟩
      have h1 : St w wr (oE (.slice (some ⟨g5, off, none⟩) (m + 1) c5) 22 (m + 1) ((s.items[j]).1 :: (s.items.drop (j + 1)).map fun i => i.1) ++ (B g (lkC { s with iv := .slice (some ⟨g5, off, none⟩) (m + 1) c5, items := s.items.drop j, gone := s.gone + j }) 128 :: (B s.gp (pcC s) 135 :: (((s.items.drop (j + 1)).flatMap fun i => byR i.1 i.2) ++ R)))) := by
        have := hs
        rw [e5] at this
        have hl2 : (s.items[j] :: s.items.drop (j + 1)).length = m + 1 := by rw [← hd, hlen, hm2]
        exact this.re (fun x => by simp only [lkE, pcC, itemsE, hd, hl2, List.map_cons, List.flatMap_cons, cnt_append, cnt_cons]; omega)
      obtain ⟨h2, hv2⟩ := o_cut h1 hrow
      have hby : ∀ i, i ∈ s.items.drop (j + 1) → byV i.1 i.2 ∧ Byt i.2 ∧ i.2.length ≤ 2048 := fun i hi => HV.out.by_ i (List.mem_of_mem_drop hi)
      have u1 : IntKind.u64.wrap ((gj : Int) + 1) = (gj : Int) + 1 := IntWalk.u64_in _ ⟨by omega, by omega⟩
      have i3 : (1 : Int) ≤ ((m : Int) + 1) := by omega
      have i4 : (0 : Int) < ((m : Int) + 1) := by omega
      have i5 : ((m : Int) + 1) ≤ (c5 : Int) := by omega
      by_cases hc1 : c5 = 1
      · subst hc1
        obtain rfl : m = 0 := by omega
        rw [if_pos rfl] at h2 hv2
        simp only [Nat.sub_self] at h2 hv2
        have H2 := Lib.hid h2
        have HV2 := Lib.hid hv2
        have HM := Lib.hid hm
        have HBY := Lib.hid hby
        have HLT := Lib.hid hlt
        have HGJ := Lib.hid hgj
        clear h1 h2 hv2 hrow hs hv hd hm hm2 e5 hlen hk' hb hby hlt hgj hgk hcap hcm
        go_wp2_with fail
        go_roundg (k - (j + 1))
        case measure => have := HGK.out; have := HLT.out; omega
        case rel =>
          have e6 : ((gj : Int) + 1) = ((s.gone + (j + 1) : Nat) : Int) := by rw [HGJ.out]; omega
          refine ⟨j + 1, rfl, by have := HLT.out; omega, .slice (some ⟨g5, off, none⟩) 0 0, ⟨HV.out.c, HV.out.g, HV.out.l, by show oV _ (s.items.drop (j + 1)).length _; rw [← HM.out]; exact HV2.out, HBY.out⟩, ?_⟩
          rw [e6]
          exact (((H2.out.re (M := B g (lkC { s with iv := .slice (some ⟨g5, off, none⟩) (0 + 1) 1, items := s.items.drop j, gone := s.gone + j }) 128 :: (oE (.slice (some ⟨g5, off, none⟩) 0 0) 22 (0) ((s.items.drop (j + 1)).map fun i => i.1) ++ (B s.gp (pcC s) 135 :: (((s.items.drop (j + 1)).flatMap fun i => byR i.1 i.2) ++ R)))) (fun x => by simp only [cnt_append, cnt_cons]; omega)).put (cs' := lkC { s with iv := .slice (some ⟨g5, off, none⟩) 0 0, items := s.items.drop j, gone := s.gone + j }) 5 (.slice (some ⟨g5, off, none⟩) 0 0) rfl).put (cs' := lkC { s with iv := .slice (some ⟨g5, off, none⟩) 0 0, items := s.items.drop (j + 1), gone := s.gone + (j + 1) }) 6 (.int .u64 ((s.gone + (j + 1) : Nat) : Int)) rfl).re (fun x => by simp only [lkE, pcC, itemsE, ← HM.out, cnt_append, cnt_cons]; omega)
      · rw [if_neg hc1] at h2 hv2
        have H2 := Lib.hid h2
        have HV2 := Lib.hid hv2
        have HM := Lib.hid hm
        have HBY := Lib.hid hby
        have HLT := Lib.hid hlt
        have HGJ := Lib.hid hgj
        clear h1 h2 hv2 hrow hs hv hd hm hm2 e5 hlen hk' hb hby hlt hgj hgk hcap hcm
        go_wp2_with fail
        go_roundg (k - (j + 1))
        case measure => have := HGK.out; have := HLT.out; omega
        case rel =>
          have e6 : ((gj : Int) + 1) = ((s.gone + (j + 1) : Nat) : Int) := by rw [HGJ.out]; omega
          refine ⟨j + 1, rfl, by have := HLT.out; omega, .slice (some ⟨g5, off + 1, none⟩) m (c5 - 1), ⟨HV.out.c, HV.out.g, HV.out.l, by show oV _ (s.items.drop (j + 1)).length _; rw [← HM.out]; exact HV2.out, HBY.out⟩, ?_⟩
          rw [e6]
          exact (((H2.out.re (M := B g (lkC { s with iv := .slice (some ⟨g5, off, none⟩) (m + 1) c5, items := s.items.drop j, gone := s.gone + j }) 128 :: (oE (.slice (some ⟨g5, off + 1, none⟩) m (c5 - 1)) 22 (m) ((s.items.drop (j + 1)).map fun i => i.1) ++ (B s.gp (pcC s) 135 :: (((s.items.drop (j + 1)).flatMap fun i => byR i.1 i.2) ++ R)))) (fun x => by simp only [cnt_append, cnt_cons]; omega)).put (cs' := lkC { s with iv := .slice (some ⟨g5, off + 1, none⟩) m (c5 - 1), items := s.items.drop j, gone := s.gone + j }) 5 (.slice (some ⟨g5, off + 1, none⟩) m (c5 - 1)) rfl).put (cs' := lkC { s with iv := .slice (some ⟨g5, off + 1, none⟩) m (c5 - 1), items := s.items.drop (j + 1), gone := s.gone + (j + 1) }) 6 (.int .u64 ((s.gone + (j + 1) : Nat) : Int)) rfl).re (fun x => by simp only [lkE, pcC, itemsE, ← HM.out, cnt_append, cnt_cons]; omega)
    · have hjk : j = k := by omega
      have hk' := HK.out
      by_cases hgn : gj < n
      · have i1 : (gj : Int) < (n : Int) := by omega
        have h0 : s.items.length - j = 0 := by omega
        rw [hlen, h0] at e5
        rw [e5] at k5
        have HV' := Lib.hid hv
        have HS := Lib.hid hs
        clear hs hv hlen e5 hk' hgn hgj hgk
        go_wp2_with fail
        go_end0
        subst hjk
        exact ⟨rfl, iv', HV'.out, HS.out⟩
      · have i1 : ¬ (gj : Int) < (n : Int) := by omega
        have HV' := Lib.hid hv
        have HS := Lib.hid hs
        clear hs hv hlen e5 hk' hgn hgj hgk
        go_wp2_with fail
        go_end0
        subst hjk
        exact ⟨rfl, iv', HV'.out, HS.out⟩
end Go.Proofs.YtoeiaimoppmjdaaDoor.Lk
/- Send of a link. Printed by gen_hear.py. -/
namespace Go.Proofs.YtoeiaimoppmjdaaDoor.Lk
open Go.RowKit Go.Proofs.YtoeiaimoppmjdaaDoorW.PrintWords Go.Proofs.YtoeiaimoppmjdaaDoor.Mem Go.Proofs.YtoeiaimoppmjdaaDoor.Wr Go.Proofs.YtoeiaimoppmjdaaDoor.Bytes Go.Proofs.YtoeiaimoppmjdaaDoor.App
open Go.Proofs.YtoeiaimoppmjdaaDoor.Pace (nxt IsO dbl reset_calls)
set_option linter.unusedVariables false
set_option linter.unusedSimpArgs false
/-- The pace begins anew. -/
abbrev freshP (s : LS) : LS := { s with left := 0, gap := 1 }
theorem freshV {s : LS} (h : LkV s) : LkV (freshP s) := ⟨h.c, ⟨Int.le_refl _, h.c.1⟩, ⟨Int.le_refl _, by have := h.c; show 0 ≤ s.cap; omega⟩, h.row, h.by_⟩
theorem St.reset {w0 W W' : World} {R : List Ent} {g : Nat} {s : LS} (h : St w0 W (lkE g s ++ R)) (hV : LkV s) (ho : IsO W' s.gp s.cap 0 1) (hg : W.grownBy W' (some s.gp)) : St w0 W' (lkE g (freshP s) ++ R) := (St.paced h hV ho hg).1
def sentP (s : LS) : LS := if s.items.length = 0 then freshP s else s
theorem sentV {s : LS} (h : LkV s) : LkV (sentP s) := by unfold sentP; split; exact freshV h; exact h
theorem sent_items (s : LS) : (sentP s).items = s.items := by unfold sentP; split <;> rfl
/-- Bytes that can be read as long as R is held. -/
def RdR (w0 : World) (R : List Ent) (A : Option Addr) (xs : List Int) : Prop := ∀ (W' : World) (E : List Ent), St w0 W' (E ++ R) → ReadsOf I 0 W' A xs.length xs
theorem rdR_below {w0 : World} {R : List Ent} {A : Option Addr} {xs : List Int} (h : ReadsOf I 0 w0 A xs.length xs) : RdR w0 R A xs := fun W' E hs => hs.reads h
theorem rdR_held {w0 : World} {R : List Ent} {A : Option Addr} {c : Nat} {xs : List Int} (hV : byV (.slice A xs.length c) xs) (hc : ∀ a, cnt a (byR (.slice A xs.length c) xs) ≤ cnt a R) : RdR w0 R A xs := fun W' E hs => by_reads hs (fun a => by have := hc a; rw [cnt_append]; omega) hV
theorem rdR_nil {w0 : World} {R : List Ent} : RdR w0 R none [] := fun W' E hs => ReadsOf.nil I 0 W'
set_option maxRecDepth 100000 in
set_option maxHeartbeats 3200000 in
theorem send_yes {w0 W : World} {R : List Ent} {g : Nat} {s : LS} (xs : List Int) (A : Option Addr) (c : Nat) (h : St w0 W (lkE g s ++ R)) (hV : LkV s) (hr : RdR w0 R A xs) (hy : Byt xs) (hx : xs.length ≤ 2048) (hni : s.items.length ≤ 1000000) (hl : s.gone + s.items.length < 1099511627776) :
    Calls Tryd.prog 55 #[pt g, .slice A xs.length c] W fun e w' => e = .returned (.int .i64 0) ∧ ∃ iv' v, LkV { sentP s with iv := iv', items := s.items ++ [(v, xs)] } ∧ St w0 w' (lkE g { sentP s with iv := iv', items := s.items ++ [(v, xs)] } ++ R) := by
  obtain ⟨n, hn⟩ : ∃ n, n = s.items.length := ⟨_, rfl⟩
  obtain ⟨A5, c5, e5⟩ := oV_form hV.row
  have CL := Lib.hid (last_calls h hV (by omega))
  rw [← hn] at hni hl e5 CL
  have k1 : ¬ (2048 : Int) < (xs.length : Int) := by omega
  obtain ⟨m, hm⟩ : ∃ m, m = s.gone + n := ⟨_, rfl⟩
  rw [← hm] at CL hl
  have k2 := Lib.hid (decide_eq_false (p := (1099511627776 : Int) ≤ (m : Int)) (by omega))
  have HS := Lib.hid h
  have HV := Lib.hid hV
  have HR := Lib.hid hr
  have HBY := Lib.hid hy
  have HX := Lib.hid hx
  have HNI := Lib.hid hni
  have HN := Lib.hid hn
  have E5 := Lib.hid e5
  clear h hV hr hy hx hni hn hm hl e5
  go_enter Tryd.func55, Tryd.ntmps55
  go_wp2_with fail
  refine CL.out.mono ?_; rintro e w1 ⟨rfl, hb1⟩
  have h1 := HS.out.below hb1
  have k5 : w1.cell? ⟨g, 5, none⟩ = some s.iv := lk_cell h1 5 rfl
  have k9 : w1.cell? ⟨g, 9, none⟩ = some (pt s.gp) := lk_cell h1 9 rfl
  rw [E5.out] at k5
  have H1 := Lib.hid h1
  clear hb1 h1
  replace k2 := k2.out
  go_upto_region 3 with fail
  clear k2
  go_cut [21] (fun s21 wx => s21 = .bool (decide (n = 0)) ∧ wx = w1)
  case first =>
    by_cases h0 : n = 0
    · have hd := Lib.hid (decide_eq_true h0)
      rw [h0] at k5
      clear h0
      go_wp2_with fail
      go_meet
      exact ⟨by rw [hd.out], rfl⟩
    · have j1 : ((n : Int) == 0) = false := by rw [beq_eq_false_iff_ne]; omega
      have hd := Lib.hid (decide_eq_false h0)
      clear h0
      go_wp2_with fail
      go_meet
      exact ⟨by rw [hd.out], rfl⟩
  case rest =>
    obtain ⟨hs21, hw1⟩ := hcut
    subst hs21
    rw [hw1]
    clear hw1 k5
    go_upto_if 21 with fail
    go_cut [] (fun wx => St w0 wx (lkE g (sentP s) ++ R))
    case first =>
      by_cases h0 : n = 0
      · rw [decide_eq_true h0]
        have es : sentP s = freshP s := by unfold sentP; rw [if_pos (by rw [← HN.out]; exact h0)]
        have ES := Lib.hid es
        have CR := Lib.hid (reset_calls s.gp s.cap s.left s.gap w1 (St.pace H1.out HV.out))
        clear es h0
        go_wp2_with fail
        refine CR.out.mono ?_; rintro e w2 ⟨rfl, ho, hg⟩
        have H2 := Lib.hid (St.reset H1.out HV.out ho hg)
        clear ho hg
        go_wp2_with fail
        go_meet
        rw [ES.out]
        exact H2.out
      · rw [decide_eq_false h0]
        have es : sentP s = s := by unfold sentP; rw [if_neg (by rw [← HN.out]; exact h0)]
        have ES := Lib.hid es
        clear es h0
        go_wp2_with fail
        go_meet
        rw [ES.out]
        exact H1.out
    case rest =>
      obtain ⟨w3, hw3⟩ : ∃ w3, w3 = wc := ⟨_, rfl⟩
      rw [← hw3] at hcut ⊢
      obtain ⟨s1, hs1⟩ : ∃ s1, s1 = sentP s := ⟨_, rfl⟩
      rw [← hs1] at hcut
      have HV1 : Hid (LkV s1) := by show LkV s1; rw [hs1]; exact sentV HV.out
      have HN1 : Hid (s1.items.length = n) := by show _ = _; rw [hs1, sent_items, HN.out]
      have HS1 := Lib.hid hs1
      have CC := Lib.hid (clone_calls xs A c hcut.drew (HR.out _ _ hcut.drew) (by have := HX.out; omega))
      clear hcut hw3 hs1 k9
      go_upto_region 5 with fail
      have SM : ∀ (bb0 : Bool) (w9 : World), (fun (_ : Bool) (_ : World) => True) bb0 w9 → (fun (_ : Bool) (_ : World) => True) true w9 := fun _ _ h => h
      refine RegL.begin_of (k := 99) (S := fun (_ : Bool) (_ : World) => True) (by kernel_rfl) ?_
      refine RegL.take_w (i := 0) (oi := ⟨some 27, _, _, _, _, _⟩) (v := ?_) SM rfl (by decide) (by kernel_rfl) (by kernel_rfl) (by kernel_rfl) (fun _ _ _ h => h) (Or.inl ⟨by rfl, ?_⟩) (trivial) ?_
      rotate_left
      · intro w9 hw9; have q1 := hw9; go_simp; try with_reducible rfl
      try simp only [Act.put, List.setIfInBounds_toArray, List.set_cons_zero, List.set_cons_succ]
      refine RegL.take_w (i := 1) (oi := ⟨some 28, _, _, _, _, _⟩) (v := ?_) SM rfl (by decide) (by kernel_rfl) (by kernel_rfl) (by kernel_rfl) (fun _ _ _ h => h) (Or.inl ⟨by rfl, ?_⟩) (trivial) ?_
      rotate_left
      · intro w9 hw9; have q1 := hw9; go_simp; try with_reducible rfl
      try simp only [Act.put, List.setIfInBounds_toArray, List.set_cons_zero, List.set_cons_succ]
      refine RegL.take_w (i := 2) (oi := ⟨some 29, _, _, _, _, _⟩) (v := ?_) SM rfl (by decide) (by kernel_rfl) (by kernel_rfl) (by kernel_rfl) (fun _ _ _ h => h) (Or.inl ⟨by rfl, ?_⟩) (trivial) ?_
      rotate_left
      · intro w9 hw9; have q1 := hw9; go_simp; try with_reducible rfl
      try simp only [Act.put, List.setIfInBounds_toArray, List.set_cons_zero, List.set_cons_succ]
      refine RegL.take_w (i := 3) (oi := ⟨some 30, _, _, _, _, _⟩) (v := ?_) SM rfl (by decide) (by kernel_rfl) (by kernel_rfl) (by kernel_rfl) (fun _ _ _ h => h) (Or.inl ⟨by rfl, ?_⟩) (trivial) ?_
      rotate_left
      · intro w9 hw9; have q1 := hw9; go_simp; try with_reducible rfl
      try simp only [Act.put, List.setIfInBounds_toArray, List.set_cons_zero, List.set_cons_succ]
      refine RegL.step_of (i := 4) (o := ⟨some 31, _, _, _, _, _⟩) (by kernel_rfl) rfl (fun K' hK => ?_)
      go_simp
      go_at_call 93
      (with_reducible refine CC.out.mono ?_)
      rintro e w4 ⟨v, rfl, hv4, h4⟩
      have CP := Lib.hid (put_calls (h4.re (M := lkE g s1 ++ (byR v xs ++ R)) (fun x => by simp only [cnt_append]; omega)) HV1.out hv4 HBY.out HX.out (by rw [HN1.out]; exact HNI.out))
      obtain ⟨Av, cv, rfl⟩ := byV_form hv4
      clear hv4 h4
      refine hK _ _ (trivial) ?_
      clear hK K'
      try simp only [Act.put, List.setIfInBounds_toArray, List.set_cons_zero, List.set_cons_succ]
      refine RegL.step_of (i := 5) (o := ⟨some 32, _, _, _, _, _⟩) (by kernel_rfl) rfl (fun K' hK => ?_)
      go_simp
      go_at_call 95
      (with_reducible refine CP.out.mono ?_)
      rintro e w5 ⟨rfl, iv', hv5, h5⟩
      have HV5 := Lib.hid hv5
      have H5 := Lib.hid h5
      clear hv5 h5
      refine hK _ _ (trivial) ?_
      clear hK K'
      try simp only [Act.put, List.setIfInBounds_toArray, List.set_cons_zero, List.set_cons_succ]
      refine RegL.done_of (by kernel_rfl) ?_ _
      go_wp2_with fail
      go_ret
      refine ⟨rfl, iv', .slice Av xs.length cv, ?_⟩
      have e1 := sent_items s
      rw [← HS1.out] at e1 ⊢
      rw [← e1]
      exact ⟨HV5.out, H5.out⟩
set_option maxRecDepth 20000 in
set_option maxHeartbeats 3200000 in
/-- What is too long is refused. -/
theorem send_long {w0 W : World} {R : List Ent} {g : Nat} {s : LS} (xs : List Int) (A : Option Addr) (c : Nat) (h : St w0 W (lkE g s ++ R)) (hx : 2048 < xs.length) (hm : xs.length ≤ 140737488355328) :
    Calls Tryd.prog 55 #[pt g, .slice A xs.length c] W fun e w' => e = .returned (.int .i64 140) ∧ W = w' := by
  have k1 : (2048 : Int) < (xs.length : Int) := by omega
  clear h hx
  go_enter Tryd.func55, Tryd.ntmps55
  go_wp2_with fail
  go_ret
  exact ⟨rfl, rfl⟩
end Go.Proofs.YtoeiaimoppmjdaaDoor.Lk
/- What a link does when it hears a frame: plain. Printed by gen_hear.py. -/
namespace Go.Proofs.YtoeiaimoppmjdaaDoor.Lk
open Go.RowKit Go.Proofs.YtoeiaimoppmjdaaDoorW.PrintWords Go.Proofs.YtoeiaimoppmjdaaDoor.Mem Go.Proofs.YtoeiaimoppmjdaaDoor.Wr Go.Proofs.YtoeiaimoppmjdaaDoor.Bytes Go.Proofs.YtoeiaimoppmjdaaDoor.App
open Go.Proofs.YtoeiaimoppmjdaaDoor.Pace (nxt IsO dbl reset_calls)
set_option linter.unusedVariables false
set_option linter.unusedSimpArgs false
/-- Is the frame of no use to it? -/
def badP (s : LS) (f : Frm) : Bool := !(fitB f) || !(f.src == s.other) || !(f.dst == s.me) || decide (f.mine < s.known)
def newP (s : LS) (f : Frm) : LS := if s.known < f.mine then { s with known := f.mine, iv := NL, items := [], gone := 0, out := 0, heard := 0, ack := false, left := 0, gap := 1 } else s
def goneN (s : LS) (n : Nat) : Nat := min (n - s.gone) s.items.length
def dropP (s : LS) (n : Nat) : LS := { s with items := s.items.drop (goneN s n), gone := s.gone + goneN s n }
def ackP (s : LS) (f : Frm) : LS := if f.ack ≤ s.out then dropP s f.ack else s
def seqP (s : LS) (f : Frm) : LS := if 0 < f.seq then { s with ack := true } else s
def upB (s : LS) (f : Frm) : Bool := decide (f.seq = s.heard + 1)
def upP (s : LS) (f : Frm) : LS := if upB s f = true then { s with heard := s.heard + 1 } else s
def rightP (s : LS) (f : Frm) : LS := ackP { s with word := false } f
def hearP (s : LS) (f : Frm) : LS := if badP s f = true then s else if f.yours = s.life then upP (seqP (rightP (newP s f) f) f) f else { newP s f with word := true }
def handedP (s : LS) (f : Frm) : Bool := !(badP s f) && decide (f.yours = s.life) && upB (newP s f) f
def anewP (s : LS) (f : Frm) : Bool := !(badP s f) && decide (s.known < f.mine)
def fineP (s : LS) (f : Frm) : Bool := !(badP s f) && decide (f.yours = s.life)
def bodyP (s : LS) (f : Frm) : List Int := if handedP s f = true then f.body else []
/-- Two states that differ in the row's slice alone. -/
def Same (s t : LS) : Prop := ∃ iv, t = { s with iv := iv }
theorem newP_V {s : LS} (h : LkV s) (f : Frm) : LkV (newP s f) := by
  unfold newP; split
  · exact ⟨h.c, ⟨Int.le_refl _, h.c.1⟩, ⟨Int.le_refl _, by have := h.c; show 0 ≤ s.cap; omega⟩, oV_nil, fun i hi => (by cases hi)⟩
  · exact h
theorem newP_life (s : LS) (f : Frm) : (newP s f).life = s.life := by unfold newP; split <;> rfl
theorem newP_word (s : LS) (f : Frm) : (newP s f).gp = s.gp ∧ (newP s f).me = s.me ∧ (newP s f).other = s.other ∧ (newP s f).window = s.window ∧ (newP s f).cap = s.cap := by unfold newP; split <;> exact ⟨rfl, rfl, rfl, rfl, rfl⟩
theorem heard_right (s : LS) (f : Frm) : (seqP (rightP s f) f).heard = s.heard := by
  unfold seqP rightP ackP dropP; split <;> split <;> rfl
theorem newP_small {s : LS} {f : Frm} (h : s.gone + s.items.length < 18446744073709551616) (h2 : s.heard + 1 < 18446744073709551616) : (newP s f).gone + (newP s f).items.length < 18446744073709551616 ∧ (newP s f).heard + 1 < 18446744073709551616 := by
  unfold newP; split
  · exact ⟨by show 0 + 0 < _; omega, by show 0 + 1 < _; omega⟩
  · exact ⟨h, h2⟩
theorem results_cell {fn : Func} {a : Nat} {t : TypeId} (h : fn.results = #[.cell a t]) (tmps : Array Value) (P : Program) (w : World) (ad : Addr) (v : Value) (ha : tmps.getD a undef = .pointer (some ad)) (hl : (loadVar t ad).run P w = .ok v w) :
    (results fn tmps).run P w = .ok v w := by
  rw [Array.getD_eq_getD_getElem?] at ha
  simp [results, h, ha, asAddr, hl]
theorem infoF : (Tryd.prog.info? 69).map (·.size) = some 7 := by kernel_rfl
theorem range7 {w : World} {b : Nat} {v0 v1 v2 v3 v4 v5 v6 : Value} (q0 : w.cell? ⟨b, 0, none⟩ = some v0) (q1 : w.cell? ⟨b, 1, none⟩ = some v1) (q2 : w.cell? ⟨b, 2, none⟩ = some v2) (q3 : w.cell? ⟨b, 3, none⟩ = some v3) (q4 : w.cell? ⟨b, 4, none⟩ = some v4) (q5 : w.cell? ⟨b, 5, none⟩ = some v5) (q6 : w.cell? ⟨b, 6, none⟩ = some v6) : w.rangeAt b 0 [v0, v1, v2, v3, v4, v5, v6] := by
  intro j v hj
  rw [Nat.zero_add]
  match j, hj with
  | 0, hj => injection hj with hj; rw [← hj]; exact q0
  | 1, hj => injection hj with hj; rw [← hj]; exact q1
  | 2, hj => injection hj with hj; rw [← hj]; exact q2
  | 3, hj => injection hj with hj; rw [← hj]; exact q3
  | 4, hj => injection hj with hj; rw [← hj]; exact q4
  | 5, hj => injection hj with hj; rw [← hj]; exact q5
  | 6, hj => injection hj with hj; rw [← hj]; exact q6
  | n + 7, hj => cases hj
theorem St.self4 {w0 W : World} {R : List Ent} {g : Nat} {v0 v1 v2 v3 : Value} {t : TypeId} (h : St w0 W (B g #[v0, v1, v2, v3] t :: R)) :
    St w0 ((((W.setCell ⟨g, 0, none⟩ v0).setCell ⟨g, 1, none⟩ v1).setCell ⟨g, 2, none⟩ v2).setCell ⟨g, 3, none⟩ v3) (B g #[v0, v1, v2, v3] t :: R) :=
  (((h.put (cs' := #[v0, v1, v2, v3]) 0 v0 rfl).put (cs' := #[v0, v1, v2, v3]) 1 v1 rfl).put (cs' := #[v0, v1, v2, v3]) 2 v2 rfl).put (cs' := #[v0, v1, v2, v3]) 3 v3 rfl
end Go.Proofs.YtoeiaimoppmjdaaDoor.Lk
