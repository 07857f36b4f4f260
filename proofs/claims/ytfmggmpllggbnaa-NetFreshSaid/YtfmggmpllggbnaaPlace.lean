/- tilllaw1.Place: one list at a time. -/
import Derived.Test.YtfmggmpllggbnaaLate
import Derived.Test.YtfmggmpllggbnaaGen
namespace Go.Proofs.Ytfmggmpllggbnaa.Place
open Go.RowKit Go.Proofs.YtfmggmpllggbnaaW.PrintWords Go.Proofs.Ytfmggmpllggbnaa.Mem Go.Proofs.Ytfmggmpllggbnaa.Book
open Go.Proofs.Ytfmggmpllggbnaa.Late (U step_append_run)
set_option linter.unusedVariables false
set_option linter.unusedSimpArgs false
/-- What a Place holds behind one list. -/
def plcE (p : Nat) (vo vi x : Value) (xs : List Int) : List Ent := B p #[vo, vi] 122 :: (rowE vo 62 1 1 [x] ++ (rowE vi 62 1 1 [x] ++ rowE x 5 1 xs.length (encs U xs)))
structure PlcV (vo vi x : Value) (xs : List Int) : Prop where
  o : rowV vo 1 1 [x]
  i : rowV vi 1 1 [x]
  x : rowV x 1 xs.length (encs U xs)
theorem one_form {v : Value} {xs : List Value} (h : rowV v 1 1 xs) : ∃ g c, v = .slice (some ⟨g, 0, none⟩) 1 c := by
  rcases h.2 with ⟨_, h0⟩ | ⟨g, c, e, _, _⟩
  · cases h0
  · exact ⟨g, c, e⟩
set_option maxRecDepth 20000 in
set_option maxHeartbeats 6400000 in
theorem rows_first (w0 W : World) (R : List Ent) (p gl : Nat) (A : Option Addr) (c : Nat) (xs : List Int) (h : St w0 W (B p #[.slice none 0 0, .slice none 0 0] 122 :: (B gl #[.slice A xs.length c] 62 :: R))) (hr : ReadsOf U 0 w0 A xs.length xs) (hx : xs.length ≤ 4096) :
    Calls Try.prog 65 #[pt p, .slice (some ⟨gl, 0, none⟩) 1 1] W fun e w' => ∃ vo vi x, e = .returned vo ∧ PlcV vo vi x xs ∧ St w0 w' (plcE p vo vi x xs ++ R) := by
  have h1 := h.put (cs' := #[.slice none 0 0, .slice none 0 0]) 0 (.slice none 0 0) rfl
  have x0 := h.cellOf (g := p) (cs := #[.slice none 0 0, .slice none 0 0]) (t := 122) (by simp) 0 rfl
  have f0 := h.freeOf (g := p) (cs := #[.slice none 0 0, .slice none 0 0]) (t := 122) (by simp) 0
  obtain ⟨W1, hW1⟩ : ∃ W1, W1 = W.setCell ⟨p, 0, none⟩ (.slice none 0 0) := ⟨_, rfl⟩
  rw [← hW1] at h1
  have y1 := h1.cellOf (g := p) (cs := #[.slice none 0 0, .slice none 0 0]) (t := 122) (by simp) 1 rfl
  -- region 6
  have h2 := h1.newB #[.slice none 0 0] 62
  obtain ⟨v3, W3, hr3, h3, hv3⟩ := row_append (P := Try.prog) (v := .slice none 0 0) (n := 0) (xs := []) (h2.re (M := rowE (.slice none 0 0) 62 1 0 [] ++ (B p #[.slice none 0 0, .slice none 0 0] 122 :: (B gl #[.slice A xs.length c] 62 :: R))) (fun x => by simp only [rowE_nil, cnt_append, cnt_cons, cnt_nil]; omega)) (rowV_nil 1) 88 88 (.slice none 0 0) 24 Try.underlying88 infoL rfl (by omega) (by omega) ⟨W1.heap.size, 0, none⟩ 1 (.slice none 0 0) (blk_cell h2.hd 0) rfl
  obtain ⟨gi, ci, rfl⟩ := one_form hv3
  have c3 := h3.cellOf (g := p) (cs := #[.slice none 0 0, .slice none 0 0]) (t := 122) (by simp) 1 rfl
  have f1 := h3.freeOf (g := p) (cs := #[.slice none 0 0, .slice none 0 0]) (t := 122) (by simp) 1
  have h4 := ((show St w0 W3 (rowE (.slice (some ⟨gi, 0, none⟩) 1 ci) 62 1 1 [.slice none 0 0] ++ (B p #[.slice none 0 0, .slice none 0 0] 122 :: (B gl #[.slice A xs.length c] 62 :: R))) from h3).re (M := B p #[.slice none 0 0, .slice none 0 0] 122 :: (rowE (.slice (some ⟨gi, 0, none⟩) 1 ci) 62 1 1 [.slice none 0 0] ++ (B gl #[.slice A xs.length c] 62 :: R))) (fun x => by simp only [cnt_append, cnt_cons]; omega)).put (cs' := #[.slice none 0 0, .slice (some ⟨gi, 0, none⟩) 1 ci]) 1 (.slice (some ⟨gi, 0, none⟩) 1 ci) rfl
  obtain ⟨W4, hW4⟩ : ∃ W4, W4 = W3.setCell ⟨p, 1, none⟩ (.slice (some ⟨gi, 0, none⟩) 1 ci) := ⟨_, rfl⟩
  rw [← hW4] at h4
  -- region 7
  have z1 := h4.cellOf (g := p) (cs := #[.slice none 0 0, .slice (some ⟨gi, 0, none⟩) 1 ci]) (t := 122) (by simp) 1 rfl
  have zl := h4.cellOf (g := gl) (cs := #[.slice A xs.length c]) (t := 62) (by simp) 0 rfl
  have zi := ((h4.re (M := rowE (.slice (some ⟨gi, 0, none⟩) 1 ci) 62 1 1 [.slice none 0 0] ++ [B p #[.slice none 0 0, .slice (some ⟨gi, 0, none⟩) 1 ci] 122]) (fun x => by simp only [cnt_append, cnt_cons, cnt_nil]; omega)).at 0 (by simp) rfl)
  obtain ⟨A5, c5, W5, hr5, ho5, hg5, hat5⟩ := Gen.run_append_reads (P := Try.prog) W4.drew U 0 W4.drew.heap.size 62 5 62 (.int .u8 0) 1 Try.underlying62 (by kernel_rfl) rfl (by omega) (fun _ => rfl) (.slice none 0 0) [] xs A xs.length c ⟨rfl, .inl ⟨rfl, rfl⟩⟩ (h4.drew.reads hr) (Nat.le_refl _) (by simp; omega) xs.length (by simp)
  have h5 := (h4.drew.re (M := rowE (.slice none 0 0) 5 1 0 [] ++ (B p #[.slice none 0 0, .slice (some ⟨gi, 0, none⟩) 1 ci] 122 :: (rowE (.slice (some ⟨gi, 0, none⟩) 1 ci) 62 1 1 [.slice none 0 0] ++ (B gl #[.slice A xs.length c] 62 :: R)))) (fun x => by simp only [rowE_nil, cnt_append, cnt_cons, cnt_nil]; omega)).grown (rowV_nil 1) hg5 ho5 (hat5.imp id (fun e k hk => by rw [e] at hk; cases hk; exact Nat.le_refl _))
  obtain ⟨h5, hv5⟩ := h5
  rw [List.nil_append] at h5 hv5
  obtain ⟨x, hxx⟩ : ∃ x, x = Value.slice A5 xs.length c5 := ⟨_, rfl⟩
  rw [← hxx] at h5 hv5 hr5
  have a1 := h5.cellOf (g := p) (cs := #[.slice none 0 0, .slice (some ⟨gi, 0, none⟩) 1 ci]) (t := 122) (by simp) 1 rfl
  have fi0 := ((h5.re (M := rowE (.slice (some ⟨gi, 0, none⟩) 1 ci) 62 1 1 [.slice none 0 0] ++ [B p #[.slice none 0 0, .slice (some ⟨gi, 0, none⟩) 1 ci] 122]) (fun x => by simp only [cnt_append, cnt_cons, cnt_nil]; omega)).at 0 (by simp) rfl)
  have c5i : W5.cell? ⟨gi, 0, none⟩ = some (.slice none 0 0) := fi0.1
  have fi := fi0.2
  have h6 := (h5.re (M := rowE (.slice (some ⟨gi, 0, none⟩) 1 ci) 62 1 1 [.slice none 0 0] ++ (B p #[.slice none 0 0, .slice (some ⟨gi, 0, none⟩) 1 ci] 122 :: (rowE x 5 1 xs.length (encs U xs) ++ R))) (fun x => by simp only [cnt_append, cnt_cons, cnt_nil]; omega)).store 0 x
  obtain ⟨W6, hW6⟩ : ∃ W6, W6 = W5.setCell ⟨gi, 0, none⟩ x := ⟨_, rfl⟩
  rw [← hW6] at h6
  have b0 := h6.cellOf (g := p) (cs := #[.slice none 0 0, .slice (some ⟨gi, 0, none⟩) 1 ci]) (t := 122) (by simp) 0 rfl
  have h7 := h6.newB #[x] 62
  obtain ⟨v8, W8, hr8, h8, hv8⟩ := row_append (P := Try.prog) (v := .slice none 0 0) (n := 0) (xs := []) (h7.re (M := rowE (.slice none 0 0) 62 1 0 [] ++ (B p #[.slice none 0 0, .slice (some ⟨gi, 0, none⟩) 1 ci] 122 :: (rowE (.slice (some ⟨gi, 0, none⟩) 1 ci) 62 1 1 [x] ++ (rowE x 5 1 xs.length (encs U xs) ++ R)))) (fun y => by rw [show ([Value.slice none 0 0].set 0 x) = [x] from rfl]; simp only [rowE_nil, cnt_append, cnt_cons, cnt_nil]; omega)) (rowV_nil 1) 88 88 (.slice none 0 0) 24 Try.underlying88 infoL rfl (by omega) (by omega) ⟨W6.heap.size, 0, none⟩ 1 x (blk_cell h7.hd 0) (by rw [hxx]; rfl)
  obtain ⟨go, co, rfl⟩ := one_form hv8
  have c8 := h8.cellOf (g := p) (cs := #[.slice none 0 0, .slice (some ⟨gi, 0, none⟩) 1 ci]) (t := 122) (by simp) 0 rfl
  have f8 := h8.freeOf (g := p) (cs := #[.slice none 0 0, .slice (some ⟨gi, 0, none⟩) 1 ci]) (t := 122) (by simp) 0
  have h9 := ((show St w0 W8 (rowE (.slice (some ⟨go, 0, none⟩) 1 co) 62 1 1 [x] ++ (B p #[.slice none 0 0, .slice (some ⟨gi, 0, none⟩) 1 ci] 122 :: (rowE (.slice (some ⟨gi, 0, none⟩) 1 ci) 62 1 1 [x] ++ (rowE x 5 1 xs.length (encs U xs) ++ R)))) from h8).re (M := B p #[.slice none 0 0, .slice (some ⟨gi, 0, none⟩) 1 ci] 122 :: (rowE (.slice (some ⟨go, 0, none⟩) 1 co) 62 1 1 [x] ++ (rowE (.slice (some ⟨gi, 0, none⟩) 1 ci) 62 1 1 [x] ++ (rowE x 5 1 xs.length (encs U xs) ++ R)))) (fun y => by simp only [cnt_append, cnt_cons]; omega)).put (cs' := #[.slice (some ⟨go, 0, none⟩) 1 co, .slice (some ⟨gi, 0, none⟩) 1 ci]) 0 (.slice (some ⟨go, 0, none⟩) 1 co) rfl
  obtain ⟨W9, hW9⟩ : ∃ W9, W9 = W8.setCell ⟨p, 0, none⟩ (.slice (some ⟨go, 0, none⟩) 1 co) := ⟨_, rfl⟩
  rw [← hW9] at h9
  have d0 := h9.cellOf (g := p) (cs := #[.slice (some ⟨go, 0, none⟩) 1 co, .slice (some ⟨gi, 0, none⟩) 1 ci]) (t := 122) (by simp) 0 rfl
  have HF : Hid (PlcV (.slice (some ⟨go, 0, none⟩) 1 co) (.slice (some ⟨gi, 0, none⟩) 1 ci) x xs ∧ St w0 W9 (plcE p (.slice (some ⟨go, 0, none⟩) 1 co) (.slice (some ⟨gi, 0, none⟩) 1 ci) x xs ++ R)) := ⟨⟨hv8, ⟨by simp, .inr ⟨gi, ci, rfl, by rcases hv3.2 with ⟨e, _⟩ | ⟨g', c', e, q1, q2⟩; (cases e); (injection e with e1 e2 e3; subst e3; exact ⟨q1, q2⟩)⟩⟩, hv5⟩, h9.re (fun y => by simp only [plcE, cnt_append, cnt_cons]; omega)⟩
  have HR3 := Lib.hid hr3
  have HR5 := Lib.hid hr5
  have HR8 := Lib.hid hr8
  have HW1 := Lib.hid hW1
  have HW4 := Lib.hid hW4
  have HW9 := Lib.hid hW9
  have zi1 : W4.cell? ⟨gi, 0, none⟩ = some (.slice none 0 0) := zi.1
  clear h h1 h2 h3 h4 h5 h6 h7 h8 h9 hr hx hr3 hr5 hr8 hv3 hv5 hv8 ho5 hg5 hat5 hW1 hW4 hW9 zi fi0
  subst hW6
  subst hxx
  have hr8b := HR8.out
  rw [show (W5.setCell ⟨gi, 0, none⟩ (Value.slice A5 xs.length c5)).heap.size = W5.heap.size by simp [World.setCell]] at hr8b
  have HR8b := Lib.hid hr8b
  clear hr8b HR8
  go_enter Try.func65, Try.ntmps65
  go_wp2_with fail
  rw [← HW1.out]
  clear x0 f0
  go_loopw [5, 6] (fun i _ wr => ∃ k : Nat, i = .int .i64 k ∧ k ≤ 1 ∧ (k = 0 → wr = W1) ∧ (k = 1 → wr = W9)) (fun i _ _ => 1 - (intOf i).toNat)
  case atStart => exact ⟨0, rfl, by omega, fun _ => rfl, fun h => by omega⟩
  case round =>
    obtain ⟨k, rfl, hk1, hw1, hw9⟩ := hrel
    have hk : k = 0 ∨ k = 1 := by omega
    rcases hk with rfl | rfl
    · have hw' := (hw1 rfl).symm
      clear hw1 hw9 hk1
      subst hw'
      go_wp2_with (at_builtin; refine wpList_append_run (o := ⟨some 34, _, _, _, _, _⟩) rfl (.tmp 32) (.tmp 33) 88 rfl (.slice none 0 0) (.slice (some ⟨W1.heap.size, 0, none⟩) 1 1) (.slice (some ⟨gi, 0, none⟩) 1 ci) W3 rfl rfl HR3.out ?_)
      rw [← HW4.out]
      clear y1 f1 c3
      go_region_law (first
        | (refine step_append_run (o := ⟨some 49, _, _, _, _, _⟩) rfl (.tmp 44) (.tmp 48) 62 rfl (.slice none 0 0) (.slice A xs.length c) (.slice A5 xs.length c5) W5 rfl rfl HR5.out ?_))
      all_goals
        go_wp2_with (at_builtin; refine wpList_append_run (o := ⟨some 64, _, _, _, _, _⟩) rfl (.tmp 61) (.tmp 63) 88 rfl (.slice none 0 0) (.slice (some ⟨W5.heap.size, 0, none⟩) 1 1) (.slice (some ⟨go, 0, none⟩) 1 co) W8 rfl rfl HR8b.out ?_)
        go_wp2_with fail
        go_roundw
        case rel => exact ⟨1, by go_num, by omega, fun h => by omega, fun _ => HW9.out.symm⟩
        case measure => simp [intOf]

    · have hw' := (hw9 rfl).symm
      clear hw1 hw9 hk1
      subst hw'
      go_wp2_with fail
      go_ret
      exact ⟨_, _, _, rfl, HF.out.1, HF.out.2⟩
set_option maxRecDepth 20000 in
set_option maxHeartbeats 1600000 in
theorem bytes_first (w0 W : World) (R : List Ent) (p : Nat) (A : Option Addr) (c : Nat) (xs : List Int) (h : St w0 W (B p #[.slice none 0 0, .slice none 0 0] 122 :: R)) (hr : ReadsOf U 0 w0 A xs.length xs) (hx : xs.length ≤ 4096) :
    Calls Try.prog 41 #[pt p, .slice A xs.length c] W fun e w' => ∃ vo vi x, e = .returned x ∧ PlcV vo vi x xs ∧ St w0 w' (plcE p vo vi x xs ++ R) := by
  have h1 := h.newB #[.slice A xs.length c] 62
  have CR := Lib.hid (rows_first w0 _ R p W.heap.size A c xs (h1.re (fun x => by simp only [cnt_cons]; omega)) hr hx)
  clear h h1 hr hx
  go_enter Try.func41, Try.ntmps41
  go_wp2_with fail
  refine CR.out.mono ?_; rintro e w1 ⟨vo, vi, x, rfl, hv, hs⟩
  obtain ⟨go, co, rfl⟩ := one_form hv.o
  have x0 : w1.cell? ⟨go, 0, none⟩ = some x := ((hs.re (M := rowE (.slice (some ⟨go, 0, none⟩) 1 co) 62 1 1 [x] ++ [B p #[.slice (some ⟨go, 0, none⟩) 1 co, vi] 122]) (fun y => by simp only [plcE, cnt_append, cnt_cons, cnt_nil]; omega)).at 0 (by simp) rfl).1
  have HF := Lib.hid hs
  have HV := Lib.hid hv
  clear hs hv
  obtain ⟨Ax, cx, rfl⟩ := rowV_form HV.out.x
  go_wp2_with fail
  go_ret
  exact ⟨_, _, _, rfl, HV.out, HF.out⟩
theorem row_cut {w0 W : World} {R : List Ent} {A : Option Addr} {n c : Nat} {e : TypeId} {xs : List Value} (h : St w0 W (rowE (.slice A n c) e 1 n xs ++ R)) (hV : rowV (.slice A n c) 1 n xs) : St w0 W (rowE (.slice A 0 c) e 1 0 [] ++ R) ∧ rowV (.slice A 0 c) 1 0 [] := by
  rcases hV.2 with ⟨hv, h0⟩ | ⟨g, cap, hv, h1, h2⟩
  · injection hv with e1 e2 e3
    subst e1; subst e2; subst e3
    exact ⟨h.re (fun a => by simp only [rowE_nil, cnt_append, cnt_nil]; omega), rowV_nil 1⟩
  · injection hv with e1 e2 e3
    subst e1; subst e3
    refine ⟨St.weak (P := rowP c e 1 n xs) h (fun o ho => ?_), ⟨by simp, .inr ⟨g, c, rfl, Nat.zero_le _, h2⟩⟩⟩
    obtain ⟨cur, q1, q2, q3⟩ := ho
    exact ⟨cur, q1, q2, by simp⟩
set_option maxRecDepth 20000 in
set_option maxHeartbeats 6400000 in
theorem rows_next (w0 W : World) (R : List Ent) (p gl : Nat) (vo vi x0 : Value) (xs0 : List Int) (A : Option Addr) (c : Nat) (xs : List Int) (h : St w0 W (plcE p vo vi x0 xs0 ++ (B gl #[.slice A xs.length c] 62 :: R))) (hV : PlcV vo vi x0 xs0) (hr : ReadsOf U 0 w0 A xs.length xs) (hx : xs.length ≤ 4096) :
    Calls Try.prog 65 #[pt p, .slice (some ⟨gl, 0, none⟩) 1 1] W fun e w' => ∃ vo vi x, e = .returned vo ∧ PlcV vo vi x xs ∧ St w0 w' (plcE p vo vi x xs ++ R) := by
  obtain ⟨go, co, rfl⟩ := one_form hV.o
  obtain ⟨gi, ci, rfl⟩ := one_form hV.i
  obtain ⟨A0, c0, rfl⟩ := rowV_form hV.x
  have u0 := h.cellOf (g := p) (cs := #[.slice (some ⟨go, 0, none⟩) 1 co, .slice (some ⟨gi, 0, none⟩) 1 ci]) (t := 122) (by simp [plcE]) 0 rfl
  have f0 := h.freeOf (g := p) (cs := #[.slice (some ⟨go, 0, none⟩) 1 co, .slice (some ⟨gi, 0, none⟩) 1 ci]) (t := 122) (by simp [plcE]) 0
  have h0 := (row_cut (h.re (M := rowE (.slice (some ⟨go, 0, none⟩) 1 co) 62 1 1 [.slice A0 xs0.length c0] ++ (B p #[.slice (some ⟨go, 0, none⟩) 1 co, .slice (some ⟨gi, 0, none⟩) 1 ci] 122 :: (rowE (.slice (some ⟨gi, 0, none⟩) 1 ci) 62 1 1 [.slice A0 xs0.length c0] ++ (rowE (.slice A0 xs0.length c0) 5 1 xs0.length (encs U xs0) ++ (B gl #[.slice A xs.length c] 62 :: R))))) (fun y => by simp only [plcE, cnt_append, cnt_cons, cnt_nil]; omega)) hV.o)
  have k1 := (row_cut (h0.1.re (M := rowE (.slice A0 xs0.length c0) 5 1 xs0.length (encs U xs0) ++ (B p #[.slice (some ⟨go, 0, none⟩) 1 co, .slice (some ⟨gi, 0, none⟩) 1 ci] 122 :: (rowE (.slice (some ⟨gi, 0, none⟩) 1 ci) 62 1 1 [.slice A0 xs0.length c0] ++ (rowE (.slice (some ⟨go, 0, none⟩) 0 co) 62 1 0 [] ++ (B gl #[.slice A xs.length c] 62 :: R))))) (fun y => by simp only [plcE, cnt_append, cnt_cons, cnt_nil]; omega)) hV.x)
  have h1 := (k1.1.re (M := B p #[.slice (some ⟨go, 0, none⟩) 1 co, .slice (some ⟨gi, 0, none⟩) 1 ci] 122 :: (rowE (.slice A0 0 c0) 5 1 0 [] ++ (rowE (.slice (some ⟨gi, 0, none⟩) 1 ci) 62 1 1 [.slice A0 xs0.length c0] ++ (rowE (.slice (some ⟨go, 0, none⟩) 0 co) 62 1 0 [] ++ (B gl #[.slice A xs.length c] 62 :: R))))) (fun y => by simp only [plcE, cnt_append, cnt_cons, cnt_nil]; omega)).put (cs' := #[.slice (some ⟨go, 0, none⟩) 0 co, .slice (some ⟨gi, 0, none⟩) 1 ci]) 0 (.slice (some ⟨go, 0, none⟩) 0 co) rfl
  obtain ⟨W1, hW1⟩ : ∃ W1, W1 = W.setCell ⟨p, 0, none⟩ (.slice (some ⟨go, 0, none⟩) 0 co) := ⟨_, rfl⟩
  rw [← hW1] at h1
  have z1 := h1.cellOf (g := p) (cs := #[.slice (some ⟨go, 0, none⟩) 0 co, .slice (some ⟨gi, 0, none⟩) 1 ci]) (t := 122) (by simp) 1 rfl
  have zl := h1.cellOf (g := gl) (cs := #[.slice A xs.length c]) (t := 62) (by simp) 0 rfl
  have zi : W1.cell? ⟨gi, 0, none⟩ = some (.slice A0 xs0.length c0) := ((h1.re (M := rowE (.slice (some ⟨gi, 0, none⟩) 1 ci) 62 1 1 [.slice A0 xs0.length c0] ++ [B p #[.slice (some ⟨go, 0, none⟩) 0 co, .slice (some ⟨gi, 0, none⟩) 1 ci] 122]) (fun y => by simp only [plcE, cnt_append, cnt_cons, cnt_nil]; omega)).at 0 (by simp) rfl).1
  have h4 := h1.drew.re (M := rowE (.slice A0 0 c0) 5 1 0 [] ++ (B p #[.slice (some ⟨go, 0, none⟩) 0 co, .slice (some ⟨gi, 0, none⟩) 1 ci] 122 :: (rowE (.slice (some ⟨gi, 0, none⟩) 1 ci) 62 1 1 [.slice A0 xs0.length c0] ++ (rowE (.slice (some ⟨go, 0, none⟩) 0 co) 62 1 0 [] ++ R)))) (fun y => by simp only [plcE, cnt_append, cnt_cons, cnt_nil]; omega)
  obtain ⟨A5, c5, W5, hr5, ho5, hg5, hat5⟩ := Gen.run_append_reads (P := Try.prog) W1.drew U 0 w0.heap.size 62 5 62 (.int .u8 0) 1 Try.underlying62 (by kernel_rfl) rfl (by omega) (fun _ => rfl) (.slice A0 0 c0) [] xs A xs.length c (h4.own k1.2) (h1.drew.reads hr) h4.bl.size (by simp; omega) xs.length (by simp)
  have h5 := h4.grown k1.2 hg5 ho5 (hat5.imp id (fun e k hk => by rw [e] at hk; cases hk; exact Nat.le_refl _))
  obtain ⟨h5, hv5⟩ := h5
  rw [List.nil_append] at h5 hv5
  have a1 := h5.cellOf (g := p) (cs := #[.slice (some ⟨go, 0, none⟩) 0 co, .slice (some ⟨gi, 0, none⟩) 1 ci]) (t := 122) (by simp) 1 rfl
  have fi0 := ((h5.re (M := rowE (.slice (some ⟨gi, 0, none⟩) 1 ci) 62 1 1 [.slice A0 xs0.length c0] ++ [B p #[.slice (some ⟨go, 0, none⟩) 0 co, .slice (some ⟨gi, 0, none⟩) 1 ci] 122]) (fun y => by simp only [plcE, cnt_append, cnt_cons, cnt_nil]; omega)).at 0 (by simp) rfl)
  have c5i : W5.cell? ⟨gi, 0, none⟩ = some (.slice A0 xs0.length c0) := fi0.1
  have fi := fi0.2
  have h6 := (h5.re (M := rowE (.slice (some ⟨gi, 0, none⟩) 1 ci) 62 1 1 [.slice A0 xs0.length c0] ++ (B p #[.slice (some ⟨go, 0, none⟩) 0 co, .slice (some ⟨gi, 0, none⟩) 1 ci] 122 :: (rowE (.slice A5 xs.length c5) 5 1 xs.length (encs U xs) ++ (rowE (.slice (some ⟨go, 0, none⟩) 0 co) 62 1 0 [] ++ R)))) (fun y => by simp only [plcE, cnt_append, cnt_cons, cnt_nil]; omega)).store 0 (.slice A5 xs.length c5)
  have b0 := h6.cellOf (g := p) (cs := #[.slice (some ⟨go, 0, none⟩) 0 co, .slice (some ⟨gi, 0, none⟩) 1 ci]) (t := 122) (by simp) 0 rfl
  have h7 := h6.newB #[.slice A5 xs.length c5] 62
  obtain ⟨v8, W8, hr8, h8, hv8⟩ := row_append (P := Try.prog) (v := .slice (some ⟨go, 0, none⟩) 0 co) (n := 0) (xs := []) (h7.re (M := rowE (.slice (some ⟨go, 0, none⟩) 0 co) 62 1 0 [] ++ (B p #[.slice (some ⟨go, 0, none⟩) 0 co, .slice (some ⟨gi, 0, none⟩) 1 ci] 122 :: (rowE (.slice (some ⟨gi, 0, none⟩) 1 ci) 62 1 1 [.slice A5 xs.length c5] ++ (rowE (.slice A5 xs.length c5) 5 1 xs.length (encs U xs) ++ R)))) (fun y => by rw [show ([Value.slice A0 xs0.length c0].set 0 (.slice A5 xs.length c5)) = [.slice A5 xs.length c5] from rfl]; simp only [cnt_append, cnt_cons, cnt_nil]; omega)) h0.2 88 88 (.slice none 0 0) 24 Try.underlying88 infoL rfl (by omega) (by omega) ⟨(W5.setCell ⟨gi, 0, none⟩ (.slice A5 xs.length c5)).heap.size, 0, none⟩ 1 (.slice A5 xs.length c5) (blk_cell h7.hd 0) rfl
  obtain ⟨go2, co2, rfl⟩ := one_form hv8
  have c8 := h8.cellOf (g := p) (cs := #[.slice (some ⟨go, 0, none⟩) 0 co, .slice (some ⟨gi, 0, none⟩) 1 ci]) (t := 122) (by simp) 0 rfl
  have f8 := h8.freeOf (g := p) (cs := #[.slice (some ⟨go, 0, none⟩) 0 co, .slice (some ⟨gi, 0, none⟩) 1 ci]) (t := 122) (by simp) 0
  have h9 := ((show St w0 W8 (rowE (.slice (some ⟨go2, 0, none⟩) 1 co2) 62 1 1 [.slice A5 xs.length c5] ++ (B p #[.slice (some ⟨go, 0, none⟩) 0 co, .slice (some ⟨gi, 0, none⟩) 1 ci] 122 :: (rowE (.slice (some ⟨gi, 0, none⟩) 1 ci) 62 1 1 [.slice A5 xs.length c5] ++ (rowE (.slice A5 xs.length c5) 5 1 xs.length (encs U xs) ++ R)))) from h8).re (M := B p #[.slice (some ⟨go, 0, none⟩) 0 co, .slice (some ⟨gi, 0, none⟩) 1 ci] 122 :: (rowE (.slice (some ⟨go2, 0, none⟩) 1 co2) 62 1 1 [.slice A5 xs.length c5] ++ (rowE (.slice (some ⟨gi, 0, none⟩) 1 ci) 62 1 1 [.slice A5 xs.length c5] ++ (rowE (.slice A5 xs.length c5) 5 1 xs.length (encs U xs) ++ R)))) (fun y => by simp only [cnt_append, cnt_cons]; omega)).put (cs' := #[.slice (some ⟨go2, 0, none⟩) 1 co2, .slice (some ⟨gi, 0, none⟩) 1 ci]) 0 (.slice (some ⟨go2, 0, none⟩) 1 co2) rfl
  obtain ⟨W9, hW9⟩ : ∃ W9, W9 = W8.setCell ⟨p, 0, none⟩ (.slice (some ⟨go2, 0, none⟩) 1 co2) := ⟨_, rfl⟩
  rw [← hW9] at h9
  have d0 := h9.cellOf (g := p) (cs := #[.slice (some ⟨go2, 0, none⟩) 1 co2, .slice (some ⟨gi, 0, none⟩) 1 ci]) (t := 122) (by simp) 0 rfl
  have HF : Hid (PlcV (.slice (some ⟨go2, 0, none⟩) 1 co2) (.slice (some ⟨gi, 0, none⟩) 1 ci) (.slice A5 xs.length c5) xs ∧ St w0 W9 (plcE p (.slice (some ⟨go2, 0, none⟩) 1 co2) (.slice (some ⟨gi, 0, none⟩) 1 ci) (.slice A5 xs.length c5) xs ++ R)) := ⟨⟨hv8, ⟨by simp, .inr ⟨gi, ci, rfl, by rcases hV.i.2 with ⟨e, _⟩ | ⟨g', c', e, q1, q2⟩; (cases e); (injection e with e1 e2 e3; subst e3; exact ⟨q1, q2⟩)⟩⟩, hv5⟩, h9.re (fun y => by simp only [plcE, cnt_append, cnt_cons]; omega)⟩
  rw [show (W5.setCell ⟨gi, 0, none⟩ (Value.slice A5 xs.length c5)).heap.size = W5.heap.size by simp [World.setCell]] at hr8
  have HR5 := Lib.hid hr5
  have HR8 := Lib.hid hr8
  have HW1 := Lib.hid hW1
  have HW9 := Lib.hid hW9
  clear h h0 k1 h1 h4 h5 h6 h7 h8 h9 hr hx hr5 hr8 hv5 hv8 ho5 hg5 hat5 hW1 hW9 fi0 hV
  go_enter Try.func65, Try.ntmps65
  go_wp2_with fail
  rw [← HW1.out]
  clear u0 f0
  go_loopw [5, 6] (fun i _ wr => ∃ k : Nat, i = .int .i64 k ∧ k ≤ 1 ∧ (k = 0 → wr = W1) ∧ (k = 1 → wr = W9)) (fun i _ _ => 1 - (intOf i).toNat)
  case atStart => exact ⟨0, rfl, by omega, fun _ => rfl, fun h => by omega⟩
  case round =>
    obtain ⟨k, rfl, hk1, hw1, hw9⟩ := hrel
    have hk : k = 0 ∨ k = 1 := by omega
    rcases hk with rfl | rfl
    · have hw' := (hw1 rfl).symm
      clear hw1 hw9 hk1
      subst hw'
      go_wp2_with fail
      go_region_law (first
        | (refine step_append_run (o := ⟨some 49, _, _, _, _, _⟩) rfl (.tmp 44) (.tmp 48) 62 rfl (.slice A0 0 c0) (.slice A xs.length c) (.slice A5 xs.length c5) W5 rfl rfl HR5.out ?_))
      all_goals
        go_wp2_with (at_builtin; refine wpList_append_run (o := ⟨some 64, _, _, _, _, _⟩) rfl (.tmp 61) (.tmp 63) 88 rfl (.slice (some ⟨go, 0, none⟩) 0 co) (.slice (some ⟨W5.heap.size, 0, none⟩) 1 1) (.slice (some ⟨go2, 0, none⟩) 1 co2) W8 rfl rfl HR8.out ?_)
        go_roundw
        case rel => exact ⟨1, by go_num, by omega, fun h => by omega, fun _ => HW9.out.symm⟩
        case measure => simp [intOf]
    · have hw' := (hw9 rfl).symm
      clear hw1 hw9 hk1
      subst hw'
      go_wp2_with fail
      go_ret
      exact ⟨_, _, _, rfl, HF.out.1, HF.out.2⟩
set_option maxRecDepth 20000 in
set_option maxHeartbeats 1600000 in
theorem bytes_next (w0 W : World) (R : List Ent) (p : Nat) (vo vi x0 : Value) (xs0 : List Int) (A : Option Addr) (c : Nat) (xs : List Int) (h : St w0 W (plcE p vo vi x0 xs0 ++ R)) (hV : PlcV vo vi x0 xs0) (hr : ReadsOf U 0 w0 A xs.length xs) (hx : xs.length ≤ 4096) :
    Calls Try.prog 41 #[pt p, .slice A xs.length c] W fun e w' => ∃ vo vi x, e = .returned x ∧ PlcV vo vi x xs ∧ St w0 w' (plcE p vo vi x xs ++ R) := by
  have h1 := h.newB #[.slice A xs.length c] 62
  have CR := Lib.hid (rows_next w0 _ R p W.heap.size vo vi x0 xs0 A c xs (h1.re (fun x => by simp only [cnt_append, cnt_cons]; omega)) hV hr hx)
  clear h h1 hr hx hV
  go_enter Try.func41, Try.ntmps41
  go_wp2_with fail
  refine CR.out.mono ?_; rintro e w1 ⟨vo, vi, x, rfl, hv, hs⟩
  obtain ⟨go, co, rfl⟩ := one_form hv.o
  have x0 : w1.cell? ⟨go, 0, none⟩ = some x := ((hs.re (M := rowE (.slice (some ⟨go, 0, none⟩) 1 co) 62 1 1 [x] ++ [B p #[.slice (some ⟨go, 0, none⟩) 1 co, vi] 122]) (fun y => by simp only [plcE, cnt_append, cnt_cons, cnt_nil]; omega)).at 0 (by simp) rfl).1
  have HF := Lib.hid hs
  have HV := Lib.hid hv
  clear hs hv
  obtain ⟨Ax, cx, rfl⟩ := rowV_form HV.out.x
  go_wp2_with fail
  go_ret
  exact ⟨_, _, _, rfl, HV.out, HF.out⟩
end Go.Proofs.Ytfmggmpllggbnaa.Place
