/- Send of a link. Printed by gen_hear.py. -/
import Derived.Test.YtoeiaimoppmjdaaDoorLkRow
namespace Go.Proofs.YtoeiaimoppmjdaaDoor.Lk
open Go.RowKit Go.Proofs.YtoeiaimoppmjdaaDoorW.PrintWords Go.Proofs.YtoeiaimoppmjdaaDoor.Mem Go.Proofs.YtoeiaimoppmjdaaDoor.Wr Go.Proofs.YtoeiaimoppmjdaaDoor.Bytes Go.Proofs.YtoeiaimoppmjdaaDoor.App
open Go.Proofs.YtoeiaimoppmjdaaDoor.Pace (nxt IsO dbl reset_calls)
set_option linter.unusedVariables false
set_option linter.unusedSimpArgs false
/-- The pace begins anew. -/
abbrev freshP (s : LS) : LS := { s with left := 0, gap := 1 }
theorem freshV {s : LS} (h : LkV s) : LkV (freshP s) := ⟨h.c, ⟨Int.le_refl _, h.c.1⟩, ⟨Int.le_refl _, by have := h.c; show 0 ≤ s.cap; omega⟩, h.row, h.by_⟩
theorem St.reset {w0 W W' : World} {R : List Ent} {g : Nat} {s : LS} (h : St w0 W (lkE g s ++ R)) (hV : LkV s) (ho : IsO W' s.gp s.cap 0 1) (hg : W.grownBy W' (some s.gp)) : St w0 W' (lkE g (freshP s) ++ R) := (St.paced h hV ho hg).1
def sentP (s : LS) : LS := if s.items.length = 0 then freshP s else s
theorem sentV {s : LS} (h : LkV s) : LkV (sentP s) := by unfold sentP; split; exact freshV h; exact h
theorem sent_items (s : LS) : (sentP s).items = s.items := by unfold sentP; split <;> rfl
/-- Bytes that can be read as long as R is held. -/
def RdR (w0 : World) (R : List Ent) (A : Option Addr) (xs : List Int) : Prop := ∀ (W' : World) (E : List Ent), St w0 W' (E ++ R) → ReadsOf I 0 W' A xs.length xs
theorem rdR_below {w0 : World} {R : List Ent} {A : Option Addr} {xs : List Int} (h : ReadsOf I 0 w0 A xs.length xs) : RdR w0 R A xs := fun W' E hs => hs.reads h
theorem rdR_held {w0 : World} {R : List Ent} {A : Option Addr} {c : Nat} {xs : List Int} (hV : byV (.slice A xs.length c) xs) (hc : ∀ a, cnt a (byR (.slice A xs.length c) xs) ≤ cnt a R) : RdR w0 R A xs := fun W' E hs => by_reads hs (fun a => by have := hc a; rw [cnt_append]; omega) hV
theorem rdR_nil {w0 : World} {R : List Ent} : RdR w0 R none [] := fun W' E hs => ReadsOf.nil I 0 W'
set_option maxRecDepth 100000 in
set_option maxHeartbeats 3200000 in
theorem send_yes {w0 W : World} {R : List Ent} {g : Nat} {s : LS} (xs : List Int) (A : Option Addr) (c : Nat) (h : St w0 W (lkE g s ++ R)) (hV : LkV s) (hr : RdR w0 R A xs) (hy : Byt xs) (hx : xs.length ≤ 2048) (hni : s.items.length ≤ 1000000) (hl : s.gone + s.items.length < 1099511627776) :
    Calls Tryd.prog 55 #[pt g, .slice A xs.length c] W fun e w' => e = .returned (.int .i64 0) ∧ ∃ iv' v, LkV { sentP s with iv := iv', items := s.items ++ [(v, xs)] } ∧ St w0 w' (lkE g { sentP s with iv := iv', items := s.items ++ [(v, xs)] } ++ R) := by
  obtain ⟨n, hn⟩ : ∃ n, n = s.items.length := ⟨_, rfl⟩
  obtain ⟨A5, c5, e5⟩ := oV_form hV.row
  have CL := Lib.hid (last_calls h hV (by omega))
  rw [← hn] at hni hl e5 CL
  have k1 : ¬ (2048 : Int) < (xs.length : Int) := by omega
  obtain ⟨m, hm⟩ : ∃ m, m = s.gone + n := ⟨_, rfl⟩
  rw [← hm] at CL hl
  have k2 := Lib.hid (decide_eq_false (p := (1099511627776 : Int) ≤ (m : Int)) (by omega))
  have HS := Lib.hid h
  have HV := Lib.hid hV
  have HR := Lib.hid hr
  have HBY := Lib.hid hy
  have HX := Lib.hid hx
  have HNI := Lib.hid hni
  have HN := Lib.hid hn
  have E5 := Lib.hid e5
  clear h hV hr hy hx hni hn hm hl e5
  go_enter Tryd.func55, Tryd.ntmps55
  go_wp2_with fail
  refine CL.out.mono ?_; rintro e w1 ⟨rfl, hb1⟩
  have h1 := HS.out.below hb1
  have k5 : w1.cell? ⟨g, 5, none⟩ = some s.iv := lk_cell h1 5 rfl
  have k9 : w1.cell? ⟨g, 9, none⟩ = some (pt s.gp) := lk_cell h1 9 rfl
  rw [E5.out] at k5
  have H1 := Lib.hid h1
  clear hb1 h1
  replace k2 := k2.out
  go_upto_region 3 with fail
  clear k2
  go_cut [21] (fun s21 wx => s21 = .bool (decide (n = 0)) ∧ wx = w1)
  case first =>
    by_cases h0 : n = 0
    · have hd := Lib.hid (decide_eq_true h0)
      rw [h0] at k5
      clear h0
      go_wp2_with fail
      go_meet
      exact ⟨by rw [hd.out], rfl⟩
    · have j1 : ((n : Int) == 0) = false := by rw [beq_eq_false_iff_ne]; omega
      have hd := Lib.hid (decide_eq_false h0)
      clear h0
      go_wp2_with fail
      go_meet
      exact ⟨by rw [hd.out], rfl⟩
  case rest =>
    obtain ⟨hs21, hw1⟩ := hcut
    subst hs21
    rw [hw1]
    clear hw1 k5
    go_upto_if 21 with fail
    go_cut [] (fun wx => St w0 wx (lkE g (sentP s) ++ R))
    case first =>
      by_cases h0 : n = 0
      · rw [decide_eq_true h0]
        have es : sentP s = freshP s := by unfold sentP; rw [if_pos (by rw [← HN.out]; exact h0)]
        have ES := Lib.hid es
        have CR := Lib.hid (reset_calls s.gp s.cap s.left s.gap w1 (St.pace H1.out HV.out))
        clear es h0
        go_wp2_with fail
        refine CR.out.mono ?_; rintro e w2 ⟨rfl, ho, hg⟩
        have H2 := Lib.hid (St.reset H1.out HV.out ho hg)
        clear ho hg
        go_wp2_with fail
        go_meet
        rw [ES.out]
        exact H2.out
      · rw [decide_eq_false h0]
        have es : sentP s = s := by unfold sentP; rw [if_neg (by rw [← HN.out]; exact h0)]
        have ES := Lib.hid es
        clear es h0
        go_wp2_with fail
        go_meet
        rw [ES.out]
        exact H1.out
    case rest =>
      obtain ⟨w3, hw3⟩ : ∃ w3, w3 = wc := ⟨_, rfl⟩
      rw [← hw3] at hcut ⊢
      obtain ⟨s1, hs1⟩ : ∃ s1, s1 = sentP s := ⟨_, rfl⟩
      rw [← hs1] at hcut
      have HV1 : Hid (LkV s1) := by show LkV s1; rw [hs1]; exact sentV HV.out
      have HN1 : Hid (s1.items.length = n) := by show _ = _; rw [hs1, sent_items, HN.out]
      have HS1 := Lib.hid hs1
      have CC := Lib.hid (clone_calls xs A c hcut.drew (HR.out _ _ hcut.drew) (by have := HX.out; omega))
      clear hcut hw3 hs1 k9
      go_upto_region 5 with fail
      have SM : ∀ (bb0 : Bool) (w9 : World), (fun (_ : Bool) (_ : World) => True) bb0 w9 → (fun (_ : Bool) (_ : World) => True) true w9 := fun _ _ h => h
      refine RegL.begin_of (k := 99) (S := fun (_ : Bool) (_ : World) => True) (by kernel_rfl) ?_
      refine RegL.take_w (i := 0) (oi := ⟨some 27, _, _, _, _, _⟩) (v := ?_) SM rfl (by decide) (by kernel_rfl) (by kernel_rfl) (by kernel_rfl) (fun _ _ _ h => h) (Or.inl ⟨by rfl, ?_⟩) (trivial) ?_
      rotate_left
      · intro w9 hw9; have q1 := hw9; go_simp; try with_reducible rfl
      try simp only [Act.put, List.setIfInBounds_toArray, List.set_cons_zero, List.set_cons_succ]
      refine RegL.take_w (i := 1) (oi := ⟨some 28, _, _, _, _, _⟩) (v := ?_) SM rfl (by decide) (by kernel_rfl) (by kernel_rfl) (by kernel_rfl) (fun _ _ _ h => h) (Or.inl ⟨by rfl, ?_⟩) (trivial) ?_
      rotate_left
      · intro w9 hw9; have q1 := hw9; go_simp; try with_reducible rfl
      try simp only [Act.put, List.setIfInBounds_toArray, List.set_cons_zero, List.set_cons_succ]
      refine RegL.take_w (i := 2) (oi := ⟨some 29, _, _, _, _, _⟩) (v := ?_) SM rfl (by decide) (by kernel_rfl) (by kernel_rfl) (by kernel_rfl) (fun _ _ _ h => h) (Or.inl ⟨by rfl, ?_⟩) (trivial) ?_
      rotate_left
      · intro w9 hw9; have q1 := hw9; go_simp; try with_reducible rfl
      try simp only [Act.put, List.setIfInBounds_toArray, List.set_cons_zero, List.set_cons_succ]
      refine RegL.take_w (i := 3) (oi := ⟨some 30, _, _, _, _, _⟩) (v := ?_) SM rfl (by decide) (by kernel_rfl) (by kernel_rfl) (by kernel_rfl) (fun _ _ _ h => h) (Or.inl ⟨by rfl, ?_⟩) (trivial) ?_
      rotate_left
      · intro w9 hw9; have q1 := hw9; go_simp; try with_reducible rfl
      try simp only [Act.put, List.setIfInBounds_toArray, List.set_cons_zero, List.set_cons_succ]
      refine RegL.step_of (i := 4) (o := ⟨some 31, _, _, _, _, _⟩) (by kernel_rfl) rfl (fun K' hK => ?_)
      go_simp
      go_at_call 93
      (with_reducible refine CC.out.mono ?_)
      rintro e w4 ⟨v, rfl, hv4, h4⟩
      have CP := Lib.hid (put_calls (h4.re (M := lkE g s1 ++ (byR v xs ++ R)) (fun x => by simp only [cnt_append]; omega)) HV1.out hv4 HBY.out HX.out (by rw [HN1.out]; exact HNI.out))
      obtain ⟨Av, cv, rfl⟩ := byV_form hv4
      clear hv4 h4
      refine hK _ _ (trivial) ?_
      clear hK K'
      try simp only [Act.put, List.setIfInBounds_toArray, List.set_cons_zero, List.set_cons_succ]
      refine RegL.step_of (i := 5) (o := ⟨some 32, _, _, _, _, _⟩) (by kernel_rfl) rfl (fun K' hK => ?_)
      go_simp
      go_at_call 95
      (with_reducible refine CP.out.mono ?_)
      rintro e w5 ⟨rfl, iv', hv5, h5⟩
      have HV5 := Lib.hid hv5
      have H5 := Lib.hid h5
      clear hv5 h5
      refine hK _ _ (trivial) ?_
      clear hK K'
      try simp only [Act.put, List.setIfInBounds_toArray, List.set_cons_zero, List.set_cons_succ]
      refine RegL.done_of (by kernel_rfl) ?_ _
      go_wp2_with fail
      go_ret
      refine ⟨rfl, iv', .slice Av xs.length cv, ?_⟩
      have e1 := sent_items s
      rw [← HS1.out] at e1 ⊢
      rw [← e1]
      exact ⟨HV5.out, H5.out⟩
set_option maxRecDepth 20000 in
set_option maxHeartbeats 3200000 in
/-- What is too long is refused. -/
theorem send_long {w0 W : World} {R : List Ent} {g : Nat} {s : LS} (xs : List Int) (A : Option Addr) (c : Nat) (h : St w0 W (lkE g s ++ R)) (hx : 2048 < xs.length) (hm : xs.length ≤ 140737488355328) :
    Calls Tryd.prog 55 #[pt g, .slice A xs.length c] W fun e w' => e = .returned (.int .i64 140) ∧ W = w' := by
  have k1 : (2048 : Int) < (xs.length : Int) := by omega
  clear h hx
  go_enter Tryd.func55, Tryd.ntmps55
  go_wp2_with fail
  go_ret
  exact ⟨rfl, rfl⟩
end Go.Proofs.YtoeiaimoppmjdaaDoor.Lk
