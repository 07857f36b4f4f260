/- A link's row: last, put, drop; bytes.Clone. -/
import Derived.Test.YtoeiaimoppmjdaaDoorLink
import Derived.Test.YtoeiaimoppmjdaaDoorRegL
import Derived.Test.YtoeiaimoppmjdaaDoorRowO
import Derived.Deep.DeepCutAuto
import Derived.Deep.CutBlock
import Derived.WalkSpells
namespace Go.Proofs.YtoeiaimoppmjdaaDoor.Lk
open Go.RowKit Go.Proofs.YtoeiaimoppmjdaaDoorW.PrintWords Go.Proofs.YtoeiaimoppmjdaaDoor.Mem Go.Proofs.YtoeiaimoppmjdaaDoor.Wr Go.Proofs.YtoeiaimoppmjdaaDoor.Bytes Go.Proofs.YtoeiaimoppmjdaaDoor.App
set_option linter.unusedVariables false
set_option linter.unusedSimpArgs false
set_option maxRecDepth 20000 in
/-- Bytes put behind bytes of one's own. -/
theorem by_appends {w0 W : World} {R : List Ent} {v : Value} {ys : List Int} (h : St w0 W (byR v ys ++ R)) (hV : byV v ys) (xs : List Int) (ad : Addr) (c1 : Nat) (hr : ReadsOf I 0 W (some ad) xs.length xs) (hl : ys.length + xs.length ≤ 140737488355328) :
    ∃ (v' : Value) (W' : World), (Builtin.append_ #[22, 22] 22 #[v, .slice (some ad) xs.length c1]).run Tryd.prog W = .ok v' W' ∧ St w0 W' (byR v' (ys ++ xs) ++ R) ∧ byV v' (ys ++ xs) := by
  obtain ⟨i0, hi, hzz⟩ := Option.map_eq_some_iff.1 info5
  simp only [Prod.mk.injEq] at hzz
  obtain ⟨hz0, hz1, hz2⟩ := hzz
  have hnews : ∀ j u, (encs I xs)[j]? = some u → W.cell? (ad.add j) = some u := by
    intro j u hu
    have hj : j < xs.length := by
      rcases Nat.lt_or_ge j xs.length with h0 | h0
      · exact h0
      · rw [List.getElem?_eq_none (by simp [encs]; omega)] at hu; cases hu
    obtain ⟨ad', e, hc⟩ := hr.2.2 (by omega)
    injection e with e
    subst e
    rw [hc j hj, ← hu]
    simp [encs, List.getD_eq_getElem?_getD, List.getElem?_eq_getElem hj]
  obtain ⟨v1, w1, hrun, h2, h3, _, h5⟩ := run_append_own_at (P := Tryd.prog) W w0.heap.size 22 22 5 i0 (.int .u8 0) 1 1 Tryd.underlying22 hi hz0 hz1 hz2 rfl (by omega) v ys.length (encs I ys) (h.own hV) ad xs.length c1 (encs I xs) (by simp [encs]) hnews
    (by intro q hq; simp [encs] at hq; obtain ⟨a, _, rfl⟩ := hq; rfl) (by simp only [maxLen]; omega) (by omega) h.bl.size
  obtain ⟨k1, k2⟩ := h.grown hV h3 h2 (by
    rcases h5 with h5 | h5
    · exact .inl h5
    · right; intro k hk; rw [h5] at hk; injection hk with hk; omega)
  have e1 : encs I ys ++ encs I xs = encs I (ys ++ xs) := by simp [encs]
  have e2 : ys.length + xs.length = (ys ++ xs).length := by simp
  rw [e1, e2] at k1 k2
  exact ⟨v1, w1, hrun, k1, k2⟩
set_option maxRecDepth 20000 in
set_option maxHeartbeats 1600000 in
theorem clone_calls {w0 W : World} {R : List Ent} (xs : List Int) (A : Option Addr) (c : Nat) (h : St w0 W R) (hr : ReadsOf I 0 W A xs.length xs) (hl : xs.length ≤ 140737488355328) :
    Calls Tryd.prog 93 #[.slice A xs.length c] W fun e w' => ∃ v, e = .returned v ∧ byV v xs ∧ St w0 w' (byR v xs ++ R) := by
  cases A with
  | none =>
    obtain rfl : xs = [] := by
      rcases Nat.eq_zero_or_pos xs.length with h0 | h0
      · exact List.eq_nil_of_length_eq_zero h0
      · obtain ⟨ad, e, _⟩ := hr.2.2 h0; cases e
    have H := Lib.hid h
    have qn : (binOp .eql 22 (.slice none 0 c) (.slice none 0 0)).run Tryd.prog W = .ok (.bool true) W := Lib.run_eql_slice_nil W _ _ none 0 c 0 0 Tryd.underlying22
    clear h hr hl
    go_enter Tryd.func93, Tryd.ntmps93
    go_wp2_with fail
    go_ret
    exact ⟨NL, rfl, byV_nil, H.out⟩
  | some ad =>
    obtain ⟨W1, hW1⟩ : ∃ W1, W1 = W.alloc (.cells #[] 5) := ⟨_, rfl⟩
    obtain ⟨g, hg⟩ : ∃ g, g = W.heap.size := ⟨_, rfl⟩
    have h1 : St w0 W1 (byR (.slice (some ⟨g, 0, none⟩) 0 0) [] ++ R) := by
      rw [hW1, hg]
      exact h.new (.cells #[] 5) (P := rowP 0 5 1 0 []) ⟨#[], rfl, rfl, rfl⟩
    have hv1 : byV (.slice (some ⟨g, 0, none⟩) 0 0) [] := ⟨rfl, .inr ⟨g, 0, rfl, Nat.le_refl _, Nat.zero_le _⟩⟩
    have hr1 : ReadsOf I 0 W1 (some ad) xs.length xs := by rw [hW1]; exact hr.below ((Below.refl _ _).alloc (Nat.le_refl _) _)
    obtain ⟨v', W', hrun, h2, hv2⟩ := by_appends h1 hv1 xs ad c hr1 (by simp; exact hl)
    rw [List.nil_append] at h2 hv2
    have H := Lib.hid h2
    have qn : (binOp .eql 22 (.slice (some ad) xs.length c) (.slice none 0 0)).run Tryd.prog W = .ok (.bool false) W := Lib.run_eql_slice_nil W _ _ (some ad) xs.length c 0 0 Tryd.underlying22
    have HV := Lib.hid hv2
    have HR := Lib.hid hrun
    have HW1 := Lib.hid hW1
    have HG := Lib.hid hg
    clear h h1 hv1 hr hr1 h2 hv2 hrun hW1 hg hl
    go_enter Tryd.func93, Tryd.ntmps93
    go_wp2_with (at_builtin; rw [← HW1.out, ← HG.out]; refine wpList_append_run (o := ⟨some 7, _, _, _, _, _⟩) rfl (.tmp 5) (.tmp 6) 22 rfl (.slice (some ⟨g, 0, none⟩) 0 0) (.slice (some ad) xs.length c) v' W' rfl rfl HR.out ?_)
    go_ret
    exact ⟨v', rfl, HV.out, H.out⟩
set_option maxRecDepth 20000 in
set_option maxHeartbeats 1600000 in
theorem last_calls {w0 W : World} {R : List Ent} {g : Nat} {s : LS} (h : St w0 W (lkE g s ++ R)) (hV : LkV s) (hb : s.gone + s.items.length < 18446744073709551616) :
    Calls Tryd.prog 94 #[.pointer (some ⟨g, 5, none⟩)] W fun e w' => e = .returned (.int .u64 ((s.gone + s.items.length : Nat) : Int)) ∧ Below W.heap.size W w' := by
  obtain ⟨n, hn⟩ : ∃ n, n = s.items.length := ⟨_, rfl⟩
  obtain ⟨A5, c5, e5⟩ := oV_form hV.row
  have k5 : W.drew.cell? ⟨g, 5, none⟩ = some s.iv := lk_cell h.drew 5 rfl
  have k6 : W.drew.cell? ⟨g, 6, none⟩ = some (.int .u64 (s.gone : Int)) := lk_cell h.drew 6 rfl
  rw [← hn] at e5 hb ⊢
  rw [e5] at k5
  have u1 : IntKind.u64.wrap (n : Int) = (n : Int) := IntWalk.u64_in _ ⟨by omega, by omega⟩
  have u2 : IntKind.u64.wrap ((s.gone : Int) + (n : Int)) = (s.gone : Int) + (n : Int) := IntWalk.u64_in _ ⟨by omega, by omega⟩
  obtain ⟨m, hm⟩ : ∃ m, m = s.gone + n := ⟨_, rfl⟩
  have HALL : Hid (W.drew.cell? ⟨g, 5, none⟩ = some (.slice A5 n c5) ∧ W.drew.cell? ⟨g, 6, none⟩ = some (.int .u64 (s.gone : Int))) := ⟨k5, k6⟩
  clear h hV e5 k5 k6 hb hn hm m
  go_enter Tryd.func94, Tryd.ntmps94
  go_upto_region 1 with fail
  have SM : ∀ (bb0 : Bool) (w9 : World), (fun (_ : Bool) (w9 : World) => w9.cell? ⟨g, 5, none⟩ = some (.slice A5 n c5) ∧ w9.cell? ⟨g, 6, none⟩ = some (.int .u64 (s.gone : Int))) bb0 w9 → (fun (_ : Bool) (w9 : World) => w9.cell? ⟨g, 5, none⟩ = some (.slice A5 n c5) ∧ w9.cell? ⟨g, 6, none⟩ = some (.int .u64 (s.gone : Int))) true w9 := fun _ _ h => h
  refine RegL.begin_of (k := 99) (S := fun (_ : Bool) (w9 : World) => w9.cell? ⟨g, 5, none⟩ = some (.slice A5 n c5) ∧ w9.cell? ⟨g, 6, none⟩ = some (.int .u64 (s.gone : Int))) (by kernel_rfl) ?_
  refine RegL.take_w (i := 0) (oi := ⟨some 3, _, _, _, _, _⟩) (v := ?_) SM rfl (by decide) (by kernel_rfl) (by kernel_rfl) (by kernel_rfl) (fun _ _ _ h => h) (Or.inl ⟨by rfl, ?_⟩) (HALL.out) ?_
  rotate_left
  · intro w9 hw9; obtain ⟨q1, q2⟩ := hw9; go_simp; try with_reducible rfl
  try simp only [Act.put, List.setIfInBounds_toArray, List.set_cons_zero, List.set_cons_succ]
  refine RegL.take_w (i := 1) (oi := ⟨some 4, _, _, _, _, _⟩) (v := ?_) SM rfl (by decide) (by kernel_rfl) (by kernel_rfl) (by kernel_rfl) (fun _ _ _ h => h) (Or.inl ⟨by rfl, ?_⟩) (HALL.out) ?_
  rotate_left
  · intro w9 hw9; obtain ⟨q1, q2⟩ := hw9; go_simp; try with_reducible rfl
  try simp only [Act.put, List.setIfInBounds_toArray, List.set_cons_zero, List.set_cons_succ]
  refine RegL.take_w (i := 2) (oi := ⟨some 5, _, _, _, _, _⟩) (v := ?_) SM rfl (by decide) (by kernel_rfl) (by kernel_rfl) (by kernel_rfl) (fun _ _ _ h => h) (Or.inl ⟨by rfl, ?_⟩) (HALL.out) ?_
  rotate_left
  · intro w9 hw9; obtain ⟨q1, q2⟩ := hw9; go_simp; try with_reducible rfl
  try simp only [Act.put, List.setIfInBounds_toArray, List.set_cons_zero, List.set_cons_succ]
  refine RegL.take_w (i := 3) (oi := ⟨some 6, _, _, _, _, _⟩) (v := ?_) SM rfl (by decide) (by kernel_rfl) (by kernel_rfl) (by kernel_rfl) (fun _ _ _ h => h) (Or.inl ⟨by rfl, ?_⟩) (HALL.out) ?_
  rotate_left
  · intro w9 hw9; obtain ⟨q1, q2⟩ := hw9; go_simp; try with_reducible rfl
  try simp only [Act.put, List.setIfInBounds_toArray, List.set_cons_zero, List.set_cons_succ]
  refine RegL.take_w (i := 4) (oi := ⟨some 7, _, _, _, _, _⟩) (v := ?_) SM rfl (by decide) (by kernel_rfl) (by kernel_rfl) (by kernel_rfl) (fun _ _ _ h => h) (Or.inl ⟨by rfl, ?_⟩) (HALL.out) ?_
  rotate_left
  · intro w9 hw9; obtain ⟨q1, q2⟩ := hw9; go_simp; try with_reducible rfl
  try simp only [Act.put, List.setIfInBounds_toArray, List.set_cons_zero, List.set_cons_succ]
  refine RegL.take_w (i := 5) (oi := ⟨some 8, _, _, _, _, _⟩) (v := ?_) SM rfl (by decide) (by kernel_rfl) (by kernel_rfl) (by kernel_rfl) (fun _ _ _ h => h) (Or.inl ⟨by rfl, ?_⟩) (HALL.out) ?_
  rotate_left
  · intro w9 hw9; obtain ⟨q1, q2⟩ := hw9; go_simp; try with_reducible rfl
  try simp only [Act.put, List.setIfInBounds_toArray, List.set_cons_zero, List.set_cons_succ]
  refine RegL.take_w (i := 6) (oi := ⟨some 9, _, _, _, _, _⟩) (v := ?_) SM rfl (by decide) (by kernel_rfl) (by kernel_rfl) (by kernel_rfl) (fun _ _ _ h => h) (Or.inl ⟨by rfl, ?_⟩) (HALL.out) ?_
  rotate_left
  · intro w9 hw9; obtain ⟨q1, q2⟩ := hw9; go_simp; try with_reducible rfl
  try simp only [Act.put, List.setIfInBounds_toArray, List.set_cons_zero, List.set_cons_succ]
  refine RegL.take_w (i := 7) (oi := ⟨some 10, _, _, _, _, _⟩) (v := ?_) SM rfl (by decide) (by kernel_rfl) (by kernel_rfl) (by kernel_rfl) (fun _ _ _ h => h) (Or.inl ⟨by rfl, ?_⟩) (HALL.out) ?_
  rotate_left
  · intro w9 hw9; obtain ⟨q1, q2⟩ := hw9; go_simp; try with_reducible rfl
  try simp only [Act.put, List.setIfInBounds_toArray, List.set_cons_zero, List.set_cons_succ]
  refine RegL.take_w (i := 8) (oi := ⟨some 11, _, _, _, _, _⟩) (v := ?_) SM rfl (by decide) (by kernel_rfl) (by kernel_rfl) (by kernel_rfl) (fun _ _ _ h => h) (Or.inl ⟨by rfl, ?_⟩) (HALL.out) ?_
  rotate_left
  · intro w9 hw9; obtain ⟨q1, q2⟩ := hw9; go_simp; try with_reducible rfl
  try simp only [Act.put, List.setIfInBounds_toArray, List.set_cons_zero, List.set_cons_succ]
  refine RegL.take_w (i := 9) (oi := ⟨some 12, _, _, _, _, _⟩) (v := ?_) SM rfl (by decide) (by kernel_rfl) (by kernel_rfl) (by kernel_rfl) (fun _ _ _ h => h) (Or.inl ⟨by rfl, ?_⟩) (HALL.out) ?_
  rotate_left
  · intro w9 hw9; obtain ⟨q1, q2⟩ := hw9; go_simp; try with_reducible rfl
  try simp only [Act.put, List.setIfInBounds_toArray, List.set_cons_zero, List.set_cons_succ]
  refine RegL.take_w (i := 10) (oi := ⟨some 13, _, _, _, _, _⟩) (v := ?_) SM rfl (by decide) (by kernel_rfl) (by kernel_rfl) (by kernel_rfl) (fun _ _ _ h => h) (Or.inl ⟨by rfl, ?_⟩) (HALL.out) ?_
  rotate_left
  · intro w9 hw9; obtain ⟨q1, q2⟩ := hw9; go_simp; try with_reducible rfl
  try simp only [Act.put, List.setIfInBounds_toArray, List.set_cons_zero, List.set_cons_succ]
  refine RegL.take_w (i := 11) (oi := ⟨some 2, _, _, _, _, _⟩) (v := ?_) SM rfl (by decide) (by kernel_rfl) (by kernel_rfl) (by kernel_rfl) (fun _ _ _ h => h) (Or.inl ⟨by rfl, ?_⟩) (HALL.out) ?_
  rotate_left
  · intro w9 hw9; obtain ⟨q1, q2⟩ := hw9; go_simp; try with_reducible rfl
  try simp only [Act.put, List.setIfInBounds_toArray, List.set_cons_zero, List.set_cons_succ]
  refine RegL.done_of (by kernel_rfl) ?_ _
  go_wp2_with fail
  go_ret
  exact ⟨by simp, (Below.refl _ _).drew⟩
set_option maxRecDepth 20000 in
set_option maxHeartbeats 1600000 in
theorem put_calls {w0 W : World} {R : List Ent} {g : Nat} {s : LS} {v : Value} {xs : List Int} (h : St w0 W (lkE g s ++ (byR v xs ++ R))) (hV : LkV s) (hv : byV v xs) (hy : Byt xs) (hx : xs.length ≤ 2048) (hn : s.items.length ≤ 1000000) :
    Calls Tryd.prog 95 #[.pointer (some ⟨g, 5, none⟩), v] W fun e w' => e = .returned (.tuple #[]) ∧ ∃ iv', LkV { s with iv := iv', items := s.items ++ [(v, xs)] } ∧ St w0 w' (lkE g { s with iv := iv', items := s.items ++ [(v, xs)] } ++ R) := by
  obtain ⟨A5, c5, e5⟩ := oV_form hV.row
  obtain ⟨Av, cv, rfl⟩ := byV_form hv
  obtain ⟨W1, hW1⟩ : ∃ W1, W1 = W.alloc (.cells #[.slice Av xs.length cv] 22) := ⟨_, rfl⟩
  obtain ⟨bx, hbx⟩ : ∃ bx, bx = W.heap.size := ⟨_, rfl⟩
  have k5 : W.cell? ⟨g, 5, none⟩ = some s.iv := lk_cell h 5 rfl
  have h1 := h.newB #[.slice Av xs.length cv] 22
  rw [← hW1, ← hbx] at h1
  have hx1 := h1.cellOf (g := bx) (cs := #[.slice Av xs.length cv]) (t := 22) (by simp) 0 rfl
  obtain ⟨iv', W2, hrun, h2, hv2⟩ := o_append (P := Tryd.prog) (h1.re (M := oE s.iv 22 s.items.length (s.items.map fun i => i.1) ++ (B g (lkC s) 128 :: (B s.gp (pcC s) 135 :: ((s.items.flatMap fun i => byR i.1 i.2) ++ (byR (.slice Av xs.length cv) xs ++ R))))) (fun x => by simp only [lkE, itemsE, cnt_append, cnt_cons]; omega)) hV.row 61 61 (.slice none 0 0) 24 Tryd.underlying61 infoL rfl (by omega) (by omega) ⟨bx, 0, none⟩ 1 (.slice Av xs.length cv) hx1 rfl
  have k5' : W2.cell? ⟨g, 5, none⟩ = some s.iv := h2.cellOf (g := g) (cs := lkC s) (t := 128) (by simp) 5 rfl
  have f5 : W2.frozen? ⟨g, 5, none⟩ = false := h2.freeOf (g := g) (cs := lkC s) (t := 128) (by simp) 5
  have h3 := (h2.re (M := B g (lkC s) 128 :: (oE iv' 22 (s.items.length + 1) ((s.items.map fun i => i.1) ++ [.slice Av xs.length cv]) ++ (B s.gp (pcC s) 135 :: ((s.items.flatMap fun i => byR i.1 i.2) ++ (byR (.slice Av xs.length cv) xs ++ R))))) (fun x => by simp only [cnt_append, cnt_cons]; omega)).put (cs' := lkC { s with iv := iv', items := s.items ++ [(.slice Av xs.length cv, xs)] }) 5 iv' rfl
  obtain ⟨A6, c6, rfl⟩ := oV_form hv2
  have H3 := Lib.hid h3
  have HV2 := Lib.hid hv2
  have HV := Lib.hid hV
  have HBV := Lib.hid hv
  have HBY := Lib.hid hy
  have HX := Lib.hid hx
  have HRUN := Lib.hid hrun
  have HW1 := Lib.hid hW1
  have HBX := Lib.hid hbx
  rw [e5] at k5 k5'
  rw [e5] at HRUN
  obtain ⟨n, hnn⟩ : ∃ n, n = s.items.length := ⟨_, rfl⟩
  rw [← hnn] at k5 k5' HRUN H3 HV2
  have HN := Lib.hid hnn
  clear h h1 h2 h3 hv2 hV hv hy hx hrun hW1 hbx e5 hx1 hn hnn
  go_enter Tryd.func95, Tryd.ntmps95
  go_wp2_with (at_builtin; rw [← HW1.out, ← HBX.out]; refine wpList_append_run (o := ⟨some 11, _, _, _, _, _⟩) rfl (.tmp 8) (.tmp 10) 61 rfl (.slice A5 n c5) (.slice (some ⟨bx, 0, none⟩) 1 1) (.slice A6 (n + 1) c6) W2 rfl rfl HRUN.out ?_)
  go_end0
  refine ⟨rfl, .slice A6 (n + 1) c6, ⟨HV.out.c, HV.out.g, HV.out.l, ?_, fun i hi => ?_⟩, ?_⟩
  · have := HV2.out
    simpa [HN.out] using this
  · rcases List.mem_append.1 hi with hi | hi
    · exact HV.out.by_ i hi
    · obtain rfl := List.mem_singleton.1 hi; exact ⟨HBV.out, HBY.out, HX.out⟩
  · exact H3.out.re (fun x => by simp only [lkE, pcC, itemsE, List.length_append, List.length_cons, List.length_nil, Nat.zero_add, List.map_append, List.map_cons, List.map_nil, List.flatMap_append, List.flatMap_cons, List.flatMap_nil, HN.out, cnt_append, cnt_cons, cnt_nil]; omega)
set_option maxRecDepth 20000 in
set_option maxHeartbeats 3200000 in
theorem drop_calls {w W : World} {R : List Ent} {g : Nat} {s : LS} (n : Nat) (h : St w W (lkE g s ++ R)) (hV : LkV s) (hb : s.gone + s.items.length < 18446744073709551616) :
    Calls Tryd.prog 92 #[.pointer (some ⟨g, 5, none⟩), .int .u64 (n : Int)] W fun e w' => e = .returned (.tuple #[]) ∧ ∃ iv', LkV { s with iv := iv', items := s.items.drop (min (n - s.gone) s.items.length), gone := s.gone + min (n - s.gone) s.items.length } ∧ St w w' (lkE g { s with iv := iv', items := s.items.drop (min (n - s.gone) s.items.length), gone := s.gone + min (n - s.gone) s.items.length } ++ R) := by
  obtain ⟨k, hk⟩ : ∃ k, k = min (n - s.gone) s.items.length := ⟨_, rfl⟩
  rw [← hk]
  have H := Lib.hid h
  have HV := Lib.hid hV
  have HK := Lib.hid hk
  have HB := Lib.hid hb
  clear h hV hk hb
  go_enter Tryd.func92, Tryd.ntmps92
  go_wp2_with fail
  go_loopg [] k (fun gk wr => ∃ j : Nat, gk = k - j ∧ j ≤ k ∧ ∃ iv', LkV { s with iv := iv', items := s.items.drop j, gone := s.gone + j } ∧ St w wr (lkE g { s with iv := iv', items := s.items.drop j, gone := s.gone + j } ++ R))
  case atStart => exact ⟨0, rfl, Nat.zero_le _, s.iv, HV.out, H.out⟩
  case round =>
    obtain ⟨j, hgk, hj, iv', hv, hs⟩ := hrel
    have hlen : (s.items.drop j).length = s.items.length - j := List.length_drop
    obtain ⟨A5, c5, e5⟩ := oV_form hv.row
    simp only at e5
    have k5 : wr.cell? ⟨g, 5, none⟩ = some iv' := lk_cell hs 5 rfl
    have k6 : wr.cell? ⟨g, 6, none⟩ = some (.int .u64 ((s.gone + j : Nat) : Int)) := lk_cell hs 6 rfl
    have f5 := lk_free hs 5
    have f6 := lk_free hs 6
    obtain ⟨gj, hgj⟩ : ∃ gj, gj = s.gone + j := ⟨_, rfl⟩
    rw [← hgj] at k6
    have HGK := Lib.hid hgk
    by_cases hlt : j < k
    · have hk' : k ≤ n - s.gone ∧ k ≤ s.items.length := by rw [HK.out]; exact ⟨Nat.min_le_left _ _, Nat.min_le_right _ _⟩
      have hb := HB.out
      have i1 : (gj : Int) < (n : Int) := by omega
      obtain ⟨m, hm⟩ : ∃ m, m = (s.items.drop (j + 1)).length := ⟨_, rfl⟩
      have hm2 : s.items.length - j = m + 1 := by rw [hm, List.length_drop]; omega
      have hd : s.items.drop j = s.items[j] :: s.items.drop (j + 1) := List.drop_eq_getElem_cons (by omega)
      have hrow := hv.row
      simp only at hrow
      rw [hlen, hm2] at e5
      rw [e5] at hrow k5
      rw [hlen, hm2, hd, List.map_cons] at hrow
      obtain ⟨g5, off, rfl, hcap, hcm⟩ : ∃ g5 off, A5 = some ⟨g5, off, none⟩ ∧ m + 1 ≤ c5 ∧ c5 ≤ maxLen := by
        rcases hrow.2 with ⟨q1, q2⟩ | ⟨g5, off, _, q1, q2, q3⟩
        · omega
        · injection q1 with q1 _ q4; subst q4; exact ⟨g5, off, q1, q2, q3⟩
      have h1 : St w wr (oE (.slice (some ⟨g5, off, none⟩) (m + 1) c5) 22 (m + 1) ((s.items[j]).1 :: (s.items.drop (j + 1)).map fun i => i.1) ++ (B g (lkC { s with iv := .slice (some ⟨g5, off, none⟩) (m + 1) c5, items := s.items.drop j, gone := s.gone + j }) 128 :: (B s.gp (pcC s) 135 :: (((s.items.drop (j + 1)).flatMap fun i => byR i.1 i.2) ++ R)))) := by
        have := hs
        rw [e5] at this
        have hl2 : (s.items[j] :: s.items.drop (j + 1)).length = m + 1 := by rw [← hd, hlen, hm2]
        exact this.re (fun x => by simp only [lkE, pcC, itemsE, hd, hl2, List.map_cons, List.flatMap_cons, cnt_append, cnt_cons]; omega)
      obtain ⟨h2, hv2⟩ := o_cut h1 hrow
      have hby : ∀ i, i ∈ s.items.drop (j + 1) → byV i.1 i.2 ∧ Byt i.2 ∧ i.2.length ≤ 2048 := fun i hi => HV.out.by_ i (List.mem_of_mem_drop hi)
      have u1 : IntKind.u64.wrap ((gj : Int) + 1) = (gj : Int) + 1 := IntWalk.u64_in _ ⟨by omega, by omega⟩
      have i3 : (1 : Int) ≤ ((m : Int) + 1) := by omega
      have i4 : (0 : Int) < ((m : Int) + 1) := by omega
      have i5 : ((m : Int) + 1) ≤ (c5 : Int) := by omega
      by_cases hc1 : c5 = 1
      · subst hc1
        obtain rfl : m = 0 := by omega
        rw [if_pos rfl] at h2 hv2
        simp only [Nat.sub_self] at h2 hv2
        have H2 := Lib.hid h2
        have HV2 := Lib.hid hv2
        have HM := Lib.hid hm
        have HBY := Lib.hid hby
        have HLT := Lib.hid hlt
        have HGJ := Lib.hid hgj
        clear h1 h2 hv2 hrow hs hv hd hm hm2 e5 hlen hk' hb hby hlt hgj hgk hcap hcm
        go_wp2_with fail
        go_roundg (k - (j + 1))
        case measure => have := HGK.out; have := HLT.out; omega
        case rel =>
          have e6 : ((gj : Int) + 1) = ((s.gone + (j + 1) : Nat) : Int) := by rw [HGJ.out]; omega
          refine ⟨j + 1, rfl, by have := HLT.out; omega, .slice (some ⟨g5, off, none⟩) 0 0, ⟨HV.out.c, HV.out.g, HV.out.l, by show oV _ (s.items.drop (j + 1)).length _; rw [← HM.out]; exact HV2.out, HBY.out⟩, ?_⟩
          rw [e6]
          exact (((H2.out.re (M := B g (lkC { s with iv := .slice (some ⟨g5, off, none⟩) (0 + 1) 1, items := s.items.drop j, gone := s.gone + j }) 128 :: (oE (.slice (some ⟨g5, off, none⟩) 0 0) 22 (0) ((s.items.drop (j + 1)).map fun i => i.1) ++ (B s.gp (pcC s) 135 :: (((s.items.drop (j + 1)).flatMap fun i => byR i.1 i.2) ++ R)))) (fun x => by simp only [cnt_append, cnt_cons]; omega)).put (cs' := lkC { s with iv := .slice (some ⟨g5, off, none⟩) 0 0, items := s.items.drop j, gone := s.gone + j }) 5 (.slice (some ⟨g5, off, none⟩) 0 0) rfl).put (cs' := lkC { s with iv := .slice (some ⟨g5, off, none⟩) 0 0, items := s.items.drop (j + 1), gone := s.gone + (j + 1) }) 6 (.int .u64 ((s.gone + (j + 1) : Nat) : Int)) rfl).re (fun x => by simp only [lkE, pcC, itemsE, ← HM.out, cnt_append, cnt_cons]; omega)
      · rw [if_neg hc1] at h2 hv2
        have H2 := Lib.hid h2
        have HV2 := Lib.hid hv2
        have HM := Lib.hid hm
        have HBY := Lib.hid hby
        have HLT := Lib.hid hlt
        have HGJ := Lib.hid hgj
        clear h1 h2 hv2 hrow hs hv hd hm hm2 e5 hlen hk' hb hby hlt hgj hgk hcap hcm
        go_wp2_with fail
        go_roundg (k - (j + 1))
        case measure => have := HGK.out; have := HLT.out; omega
        case rel =>
          have e6 : ((gj : Int) + 1) = ((s.gone + (j + 1) : Nat) : Int) := by rw [HGJ.out]; omega
          refine ⟨j + 1, rfl, by have := HLT.out; omega, .slice (some ⟨g5, off + 1, none⟩) m (c5 - 1), ⟨HV.out.c, HV.out.g, HV.out.l, by show oV _ (s.items.drop (j + 1)).length _; rw [← HM.out]; exact HV2.out, HBY.out⟩, ?_⟩
          rw [e6]
          exact (((H2.out.re (M := B g (lkC { s with iv := .slice (some ⟨g5, off, none⟩) (m + 1) c5, items := s.items.drop j, gone := s.gone + j }) 128 :: (oE (.slice (some ⟨g5, off + 1, none⟩) m (c5 - 1)) 22 (m) ((s.items.drop (j + 1)).map fun i => i.1) ++ (B s.gp (pcC s) 135 :: (((s.items.drop (j + 1)).flatMap fun i => byR i.1 i.2) ++ R)))) (fun x => by simp only [cnt_append, cnt_cons]; omega)).put (cs' := lkC { s with iv := .slice (some ⟨g5, off + 1, none⟩) m (c5 - 1), items := s.items.drop j, gone := s.gone + j }) 5 (.slice (some ⟨g5, off + 1, none⟩) m (c5 - 1)) rfl).put (cs' := lkC { s with iv := .slice (some ⟨g5, off + 1, none⟩) m (c5 - 1), items := s.items.drop (j + 1), gone := s.gone + (j + 1) }) 6 (.int .u64 ((s.gone + (j + 1) : Nat) : Int)) rfl).re (fun x => by simp only [lkE, pcC, itemsE, ← HM.out, cnt_append, cnt_cons]; omega)
    · have hjk : j = k := by omega
      have hk' := HK.out
      by_cases hgn : gj < n
      · have i1 : (gj : Int) < (n : Int) := by omega
        have h0 : s.items.length - j = 0 := by omega
        rw [hlen, h0] at e5
        rw [e5] at k5
        have HV' := Lib.hid hv
        have HS := Lib.hid hs
        clear hs hv hlen e5 hk' hgn hgj hgk
        go_wp2_with fail
        go_end0
        subst hjk
        exact ⟨rfl, iv', HV'.out, HS.out⟩
      · have i1 : ¬ (gj : Int) < (n : Int) := by omega
        have HV' := Lib.hid hv
        have HS := Lib.hid hs
        clear hs hv hlen e5 hk' hgn hgj hgk
        go_wp2_with fail
        go_end0
        subst hjk
        exact ⟨rfl, iv', HV'.out, HS.out⟩
end Go.Proofs.YtoeiaimoppmjdaaDoor.Lk
