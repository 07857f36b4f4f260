/- Contract of tilllaw1's reads: one call of a Reader, beside the document's. -/
import Derived.Test.YtoeiaimoppmjdaaDoorPair
import Derived.Deep.RegionHeld3
namespace Go.Proofs.YtoeiaimoppmjdaaDoor.Wr
open Go.RowKit Go.Proofs.YtoeiaimoppmjdaaDoorW.PrintWords Go.Proofs.YtoeiaimoppmjdaaDoor.Bytes
set_option linter.unusedVariables false
set_option linter.unusedSimpArgs false
theorem num1_calls (e : Int) (w : World) : Calls Tryd.prog 21 #[.int .i64 e] w fun x w' => x = .returned (.int .i64 e) ∧ w' = w := by
  go_enter Tryd.func21, Tryd.ntmps21
  go_wp2_with fail
  go_ret
  exact ⟨rfl, rfl⟩
theorem rOp_1 (xs : List Int) (s : RS) (m : Int) (n : Nat) : rOp xs s 1 m n = (rFix xs s 1).2 := rfl
theorem rOp_2 (xs : List Int) (s : RS) (m : Int) (n : Nat) : rOp xs s 2 m n = (rFix xs s 4).2 := rfl
theorem rOp_3 (xs : List Int) (s : RS) (m : Int) (n : Nat) : rOp xs s 3 m n = (rFix xs s 8).2 := rfl
theorem rOp_4 (xs : List Int) (s : RS) (m : Int) (n : Nat) : rOp xs s 4 m n = (rVar xs s n).2 := rfl
theorem rOp_5 (xs : List Int) (s : RS) (m : Int) (n : Nat) : rOp xs s 5 m n = (rBytes xs s m).2 := rfl
theorem rOp_6 (xs : List Int) (s : RS) (m : Int) (n : Nat) : rOp xs s 6 m n = (rRaw xs s m).2 := rfl
theorem rOp_else (xs : List Int) (s : RS) (k m : Int) (n : Nat) (h1 : ¬ k = 1) (h2 : ¬ k = 2) (h3 : ¬ k = 3) (h4 : ¬ k = 4) (h5 : ¬ k = 5) (h6 : ¬ k = 6) : rOp xs s k m n = s := by simp [rOp, h1, h2, h3, h4, h5, h6]
theorem rNext_lenx (xs : List Int) (s : RS) (n : Int) : (rNext xs s n).1.length ≤ xs.length := by
  unfold rNext
  split
  · split
    · simp; omega
    · simp
  · simp
theorem rRaw_lenx (xs : List Int) (s : RS) (n : Int) : (rRaw xs s n).1.length ≤ xs.length := by
  unfold rRaw
  split
  · simp
  · exact rNext_lenx xs s n
theorem rBytes_lenx (xs : List Int) (s : RS) (n : Int) : (rBytes xs s n).1.length ≤ xs.length := by
  unfold rBytes
  split
  · simp
  · exact rNext_lenx xs _ _
/-- What the Reader handed out is still read behind the call of the document's. -/
theorem own_read2 {W W2 W3 : World} {B base g ge : Nat} {v : Value} {A Au : Option Addr} {c cu : Nat} {xs l : List Int} {s s1 s2 : RS} (hu : W2.ownsRow B 5 1 (.slice Au l.length cu) l.length (encs I l)) (hp : Pr W base g ge v A c xs s) (h2 : RdTo W W2 base g v xs s1) (h3 : EyTo W2 W3 base ge A c xs s2) : ReadsOf I 0 W3 Au l.length l := by
  have hne : (Value.slice Au l.length cu).ownBlock ≠ some ge := by
    intro e
    obtain ⟨cs, hk⟩ := own_kind hu ge e
    rw [(hp.eye h2).blk] at hk
    simp at hk
  have ho := h3.kb.own hu hne (by cases (Value.slice Au l.length cu).ownBlock <;> simp)
  exact own_reads ho (by simp)
set_option maxRecDepth 20000 in
set_option maxHeartbeats 3200000 in
theorem reads_calls (kind which m : Int) (n : Nat) (b : List Int) (Ab : Option Addr) (cb : Nat) (W : World) (base g ge : Nat) (v : Value) (A : Option Addr) (c : Nat) (xs : List Int) (s : RS) (h : Pr W base g ge v A c xs s) (hs : s.Ok xs) (hb : base ≤ W.heap.size) (hx : Byt xs) (hxl : xs.length ≤ 140737488355328)
    (ht : ErrTab W) (hz : 0 < W.heap.size) (hm1 : -9223372036854775808 ≤ m) (hm2 : m ≤ 9223372036854775807) :
    Calls Tryd.prog 19 #[.pointer (some ⟨g, 0, none⟩), .pointer (some ⟨ge, 0, none⟩), .agg #[.int .i64 kind, .int .i64 which, .int .i64 m, .int .u64 n, .slice Ab b.length cb]] W fun e w' => e = .returned (.bool true) ∧ PrTo W w' base g ge v A c xs (rOp xs s kind m n) := by
  obtain ⟨W1, hW1⟩ : ∃ W1, W1 = W.alloc (.cells #[.int .i64 kind, .int .i64 which, .int .i64 m, .int .u64 (n : Int), .slice Ab b.length cb] 39) := ⟨_, rfl⟩
  have hb1 : Below W.heap.size W W1 := by rw [hW1]; exact (Below.refl _ _).alloc (Nat.le_refl _) _
  have hk := blk_new W (.cells #[.int .i64 kind, .int .i64 which, .int .i64 m, .int .u64 (n : Int), .slice Ab b.length cb] 39)
  rw [← hW1] at hk
  have h0 := blk_cell hk 0
  have h2 := blk_cell hk 2
  have h3 := blk_cell hk 3
  simp at h0 h2 h3
  have HP1 := Lib.hid (h.below hb1)
  have HPD := Lib.hid ((h.below hb1).below ((Below.refl _ W1).drew))
  have HT := Lib.hid (PrTo.refl h)
  have FIN : Hid (∀ w2 s2, PrTo W1 w2 base g ge v A c xs s2 → PrTo W w2 base g ge v A c xs s2) := fun w2 s2 k => ((PrTo.refl h).below hb hb1).trans k
  have FIND : Hid (∀ w2 s2, PrTo W1.drew w2 base g ge v A c xs s2 → PrTo W w2 base g ge v A c xs s2) := fun w2 s2 k => ((PrTo.refl h).below hb (hb1.trans ((Below.refl _ W1).drew.mono hb1.size))).trans k
  have HK := Lib.hid hk
  have HBS := Lib.hid hb
  have HB1 : Hid (base ≤ W1.heap.size) := Nat.le_trans hb hb1.size
  have HS := Lib.hid hs
  have HX := Lib.hid hx
  have HXL := Lib.hid hxl
  have HM1 := Lib.hid hm1
  have HM2 := Lib.hid hm2
  have HTB : Hid (ErrTab W1) := ht.below hb1 hz
  have HZ : Hid (0 < W1.heap.size) := Nat.lt_of_lt_of_le hz hb1.size
  have HW1 := Lib.hid hW1
  have HGW : Hid (g < W.heap.size) := blk_lt h.rd.blk
  have HGE : Hid (ge < W.heap.size) := blk_lt h.ey.blk
  clear h hs hb hx hxl hm1 hm2 ht hz hb1 hk hW1
  by_cases k1 : kind = 1
  · subst k1
    rw [rOp_1]
    have C := Lib.hid (rd8_calls W1 base g v xs s HP1.out.rd HS.out HB1.out HX.out)
    have D : Hid (∀ w2, RdTo W1 w2 base g v xs (rFix xs s 1).2 → _) := fun w2 k => e8_calls w2 base ge A c xs s (HP1.out.eye k) HS.out (Nat.le_trans HB1.out k.bl.size) HXL.out HX.out
    obtain ⟨q, hq⟩ : ∃ q, q = rFix xs s 1 := ⟨_, rfl⟩
    rw [← hq] at C D ⊢
    obtain ⟨r, s1⟩ := q
    clear hq
    go_enter Tryd.func19, Tryd.ntmps19
    go_wp2_with fail
    rw [← HW1.out]
    go_wp2_with fail
    refine C.out.mono ?_; rintro e w2 ⟨rfl, h2⟩
    have C2 := Lib.hid (D.out w2 h2)
    have H2 := Lib.hid h2
    clear h2
    go_wp2_with fail
    refine C2.out.mono ?_; rintro e w3 ⟨rfl, h3⟩
    have FN := Lib.hid (FIN.out _ _ (PrTo.of HP1.out H2.out h3))
    clear h3
    go_wp2_with fail
    go_ret
    exact ⟨rfl, FN.out⟩
  by_cases k2 : kind = 2
  · subst k2
    rw [rOp_2]
    have C := Lib.hid (rd32_calls W1 base g v xs s HP1.out.rd HS.out HB1.out HX.out)
    have D : Hid (∀ w2, RdTo W1 w2 base g v xs (rFix xs s 4).2 → _) := fun w2 k => e32_calls w2 base ge A c xs s (HP1.out.eye k) HS.out (Nat.le_trans HB1.out k.bl.size) HXL.out HX.out
    obtain ⟨q, hq⟩ : ∃ q, q = rFix xs s 4 := ⟨_, rfl⟩
    rw [← hq] at C D ⊢
    obtain ⟨r, s1⟩ := q
    clear hq
    go_enter Tryd.func19, Tryd.ntmps19
    go_wp2_with fail
    rw [← HW1.out]
    go_wp2_with fail
    refine C.out.mono ?_; rintro e w2 ⟨rfl, h2⟩
    have C2 := Lib.hid (D.out w2 h2)
    have H2 := Lib.hid h2
    clear h2
    go_wp2_with fail
    refine C2.out.mono ?_; rintro e w3 ⟨rfl, h3⟩
    have FN := Lib.hid (FIN.out _ _ (PrTo.of HP1.out H2.out h3))
    clear h3
    go_wp2_with fail
    go_ret
    exact ⟨rfl, FN.out⟩
  by_cases k3 : kind = 3
  · subst k3
    rw [rOp_3]
    have C := Lib.hid (rd64_calls W1 base g v xs s HP1.out.rd HS.out HB1.out HX.out)
    have D : Hid (∀ w2, RdTo W1 w2 base g v xs (rFix xs s 8).2 → _) := fun w2 k => e64_calls w2 base ge A c xs s (HP1.out.eye k) HS.out (Nat.le_trans HB1.out k.bl.size) HXL.out HX.out
    obtain ⟨q, hq⟩ : ∃ q, q = rFix xs s 8 := ⟨_, rfl⟩
    rw [← hq] at C D ⊢
    obtain ⟨r, s1⟩ := q
    clear hq
    go_enter Tryd.func19, Tryd.ntmps19
    go_wp2_with fail
    rw [← HW1.out]
    go_wp2_with fail
    refine C.out.mono ?_; rintro e w2 ⟨rfl, h2⟩
    have C2 := Lib.hid (D.out w2 h2)
    have H2 := Lib.hid h2
    clear h2
    go_wp2_with fail
    refine C2.out.mono ?_; rintro e w3 ⟨rfl, h3⟩
    have FN := Lib.hid (FIN.out _ _ (PrTo.of HP1.out H2.out h3))
    clear h3
    go_wp2_with fail
    go_ret
    exact ⟨rfl, FN.out⟩
  by_cases k4 : kind = 4
  · subst k4
    rw [rOp_4]
    have C := Lib.hid (varR_calls W1.drew base g v xs s n HPD.out.rd HS.out HB1.out HX.out HXL.out)
    have D : Hid (∀ w2, RdTo W1.drew w2 base g v xs (rVar xs s n).2 → _) := fun w2 k => evar_calls w2 base ge A c xs s n (HPD.out.eye k) HS.out (Nat.le_trans HB1.out k.bl.size) HXL.out HX.out
    obtain ⟨q, hq⟩ : ∃ q, q = rVar xs s n := ⟨_, rfl⟩
    rw [← hq] at C D ⊢
    obtain ⟨r, s1⟩ := q
    clear hq
    go_enter Tryd.func19, Tryd.ntmps19
    go_wp2_with fail
    rw [← HW1.out]
    go_wp2_with fail
    first | (go_region_held3 (fun w' => w'.cell? ⟨W.heap.size, 3, none⟩ = some (.int .u64 (n : Int))) (first | exact x5 | exact x4 | exact h3) (first
      | (go_at_call 69; refine C.out.mono ?_; rintro e w2 ⟨rfl, h2⟩; have hk2 := h2.kb.blk (blk_drew HK.out) (by have := HGW.out; omega) (by simp); have x4 := blk_cell hk2 3; simp at x4; have HK2 := Lib.hid hk2; have C2 := Lib.hid (D.out w2 h2); have H2 := Lib.hid h2; clear h2 hk2)
      | (go_at_call 70; refine C2.out.mono ?_; rintro e w3 ⟨rfl, h3⟩; have hk3 := h3.kb.blk HK2.out (by have := HGE.out; omega) (by simp); have x5 := blk_cell hk3 3; simp at x5; have H3 := Lib.hid h3; clear h3 hk3))) | fail
    all_goals go_wp2_with fail
    all_goals go_ret
    all_goals exact ⟨by simp, FIND.out _ _ (PrTo.of HPD.out H2.out H3.out)⟩
  by_cases k5 : kind = 5
  · subst k5
    rw [rOp_5]
    have C := Lib.hid (bytesR_calls W1.drew base g v xs s m HPD.out.rd HS.out HB1.out HX.out HXL.out HM1.out HM2.out)
    have D : Hid (∀ w2, RdTo W1.drew w2 base g v xs (rBytes xs s m).2 → _) := fun w2 k => etext_calls w2 base ge A c xs s m (HPD.out.eye k) HS.out (Nat.le_trans HB1.out k.bl.size) HXL.out HX.out HM2.out
    have HLN : Hid ((rBytes xs s m).1.length ≤ 140737488355328) := Nat.le_trans (rBytes_lenx xs s m) HXL.out
    obtain ⟨q, hq⟩ : ∃ q, q = rBytes xs s m := ⟨_, rfl⟩
    rw [← hq] at C D HLN ⊢
    obtain ⟨l, s1⟩ := q
    clear hq
    go_enter Tryd.func19, Tryd.ntmps19
    go_wp2_with fail
    rw [← HW1.out]
    go_wp2_with fail
    first | (go_region_held3 (fun w' => w'.cell? ⟨W.heap.size, 2, none⟩ = some (.int .i64 m)) (first | exact x6 | exact x5 | exact x4 | exact h2) (first
      | (go_at_call 71; refine C.out.mono ?_; rintro e w2 ⟨u2, rfl, hu, h2⟩; obtain ⟨Au, cu, rfl, hru⟩ := own_reads_of (d := (0 : Int)) hu; have hk2 := h2.kb.blk (blk_drew HK.out) (by have := HGW.out; omega) (by simp); have x4 := blk_cell hk2 2; simp at x4; have HK2 := Lib.hid hk2; have C2 := Lib.hid (D.out w2 h2); have HU := Lib.hid hu; have H2 := Lib.hid h2; clear h2 hk2 hru hu)
      | (go_at_call 72; refine C2.out.mono ?_; rintro e w3 ⟨u3, rfl, hu3, h3⟩; obtain ⟨Ae, ce, rfl, hre⟩ := own_reads_of (d := (0 : Int)) hu3; have hk3 := h3.kb.blk HK2.out (by have := HGE.out; omega) (by simp); have x5 := blk_cell hk3 2; simp at x5; have CE := Lib.hid (eq_calls l l Au Ae cu ce w3 (own_read2 HU.out HPD.out H2.out h3) hre HLN.out); have H3 := Lib.hid h3; clear h3 hk3 hu3 hre)
      | (go_at_call 34; refine CE.out.mono ?_; rintro e w4 ⟨q4, rfl, hq4, hb4⟩; obtain rfl : q4 = true := (by simpa using hq4); have x6 := pw_cell_below hb4 x5; have HB4 := Lib.hid hb4; clear hq4 hb4))) | fail
    all_goals go_wp2_with fail
    all_goals go_ret
    all_goals exact ⟨rfl, (FIND.out _ _ (PrTo.of HPD.out H2.out H3.out)).below HBS.out HB4.out⟩
  by_cases k6 : kind = 6
  · subst k6
    rw [rOp_6]
    have C := Lib.hid (rawR_calls W1.drew base g v xs s m HPD.out.rd HS.out HB1.out HXL.out)
    have D : Hid (∀ w2, RdTo W1.drew w2 base g v xs (rRaw xs s m).2 → _) := fun w2 k => eraw_calls w2 base ge A c xs s m (HPD.out.eye k) HS.out (Nat.le_trans HB1.out k.bl.size) HXL.out
    have HLN : Hid ((rRaw xs s m).1.length ≤ 140737488355328) := Nat.le_trans (rRaw_lenx xs s m) HXL.out
    obtain ⟨q, hq⟩ : ∃ q, q = rRaw xs s m := ⟨_, rfl⟩
    rw [← hq] at C D HLN ⊢
    obtain ⟨l, s1⟩ := q
    clear hq
    go_enter Tryd.func19, Tryd.ntmps19
    go_wp2_with fail
    rw [← HW1.out]
    go_wp2_with fail
    first | (go_region_held3 (fun w' => w'.cell? ⟨W.heap.size, 2, none⟩ = some (.int .i64 m)) (first | exact x6 | exact x5 | exact x4 | exact h2) (first
      | (go_at_call 35; refine C.out.mono ?_; rintro e w2 ⟨u2, rfl, hu, h2⟩; obtain ⟨Au, cu, rfl, hru⟩ := own_reads_of (d := (0 : Int)) hu; have hk2 := h2.kb.blk (blk_drew HK.out) (by have := HGW.out; omega) (by simp); have x4 := blk_cell hk2 2; simp at x4; have HK2 := Lib.hid hk2; have C2 := Lib.hid (D.out w2 h2); have HU := Lib.hid hu; have H2 := Lib.hid h2; clear h2 hk2 hru hu)
      | (go_at_call 73; refine C2.out.mono ?_; rintro e w3 ⟨u3, rfl, hu3, h3⟩; obtain ⟨Ae, ce, rfl, hre⟩ := own_reads_of (d := (0 : Int)) hu3; have hk3 := h3.kb.blk HK2.out (by have := HGE.out; omega) (by simp); have x5 := blk_cell hk3 2; simp at x5; have CE := Lib.hid (eq_calls l l Au Ae cu ce w3 (own_read2 HU.out HPD.out H2.out h3) hre HLN.out); have H3 := Lib.hid h3; clear h3 hk3 hu3 hre)
      | (go_at_call 34; refine CE.out.mono ?_; rintro e w4 ⟨q4, rfl, hq4, hb4⟩; obtain rfl : q4 = true := (by simpa using hq4); have x6 := pw_cell_below hb4 x5; have HB4 := Lib.hid hb4; clear hq4 hb4))) | fail
    all_goals go_wp2_with fail
    all_goals go_ret
    all_goals exact ⟨rfl, (FIND.out _ _ (PrTo.of HPD.out H2.out H3.out)).below HBS.out HB4.out⟩
  have HE : Hid (rOp xs s kind m n = s) := rOp_else xs s kind m n k1 k2 k3 k4 k5 k6
  rw [HE.out]
  by_cases k7 : kind = 7
  · subst k7
    have C := Lib.hid (left_calls W1 base g v xs s.at_ s.met HP1.out.rd (by omega) (by have := HS.out.at_; omega))
    have D : Hid (∀ w2, Below W1.heap.size W1 w2 → _) := fun w2 k => eleft_calls w2 base ge A c xs s (HP1.out.below k).ey HS.out
    go_enter Tryd.func19, Tryd.ntmps19
    go_wp2_with fail
    rw [← HW1.out]
    go_wp2_with fail
    refine C.out.mono ?_; rintro e w2 ⟨rfl, h2⟩
    have C2 := Lib.hid (D.out w2 h2)
    have H2 := Lib.hid h2
    clear h2
    go_wp2_with fail
    refine C2.out.mono ?_; rintro e w3 ⟨rfl, h3⟩
    have FN := Lib.hid (FIN.out _ _ ((PrTo.refl HP1.out).below HB1.out (H2.out.trans (h3.mono H2.out.size))))
    clear h3
    go_wp2_with fail
    go_ret
    exact ⟨rfl, FN.out⟩
  by_cases k8 : kind = 8
  · subst k8
    have C : Hid (∀ w2, Below W1.heap.size W1 w2 → _) := fun w2 k => at_calls w2 base g v xs s (HP1.out.below k).rd
    have y1 := blk_cell HP1.out.ey.blk 1
    simp at y1
    go_enter Tryd.func19, Tryd.ntmps19
    go_wp2_with fail
    rw [← HW1.out]
    go_wp2_with fail
    first | (go_region_held3 (fun w' => w'.cell? ⟨ge, 1, none⟩ = some (.int .i64 (s.at_ : Int))) (exact y1) (first
      | (go_at_call 20; refine (C.out _ ((Below.refl _ W1).drew)).mono ?_; rintro e w2 ⟨rfl, rfl⟩))) | fail
    all_goals go_wp2_with fail
    all_goals go_ret
    all_goals exact ⟨by simp, FIND.out _ _ (PrTo.refl HPD.out)⟩
  by_cases k9 : kind = 9
  · subst k9
    have C : Hid (∀ w2, Below W1.heap.size W1 w2 → _) := fun w2 k => fault_calls w2 base g v xs s (HP1.out.below k).rd HS.out (HTB.out.below k HZ.out)
    have CU := fun e w => Lib.hid (num1_calls e w)
    have y1 := blk_cell HP1.out.ey.blk 2
    simp at y1
    go_enter Tryd.func19, Tryd.ntmps19
    go_wp2_with fail
    rw [← HW1.out]
    go_wp2_with fail
    first | (go_region_held3 (fun w' => w'.cell? ⟨ge, 2, none⟩ = some (.int .i64 (errN s.met))) (exact y1) (first
      | (go_at_call 22; refine (C.out _ ((Below.refl _ W1).drew)).mono ?_; rintro e w2 ⟨rfl, rfl⟩)
      | (go_at_call 21; refine (CU _ _).out.mono ?_; rintro e w2 ⟨rfl, rfl⟩))) | fail
    all_goals go_wp2_with fail
    all_goals go_ret
    all_goals exact ⟨by simp, FIND.out _ _ (PrTo.refl HPD.out)⟩
  by_cases k10 : kind = 10
  · subst k10
    have C := Lib.hid (end_calls W1 base g v xs s HP1.out.rd HS.out HTB.out HZ.out)
    have CU := fun e w => Lib.hid (num1_calls e w)
    have D : Hid (∀ w2, Below W1.heap.size W1 w2 → _) := fun w2 k => eend_calls w2 base ge A c xs s (HP1.out.below k).ey HS.out
    go_enter Tryd.func19, Tryd.ntmps19
    go_wp2_with fail
    rw [← HW1.out]
    go_wp2_with fail
    refine C.out.mono ?_; rintro e w2 ⟨rfl, h2⟩
    have C2 := Lib.hid (D.out w2 h2)
    have H2 := Lib.hid h2
    clear h2
    go_wp2_with fail
    refine (CU _ _).out.mono ?_; rintro e w2' ⟨rfl, rfl⟩
    go_wp2_with fail
    refine C2.out.mono ?_; rintro e w3 ⟨rfl, h3⟩
    have FN := Lib.hid (FIN.out _ _ ((PrTo.refl HP1.out).below HB1.out (H2.out.trans (h3.mono H2.out.size))))
    clear h3
    go_wp2_with fail
    go_ret
    exact ⟨by simp, FN.out⟩
  · have FN := Lib.hid (FIN.out _ _ (PrTo.refl HP1.out))
    go_enter Tryd.func19, Tryd.ntmps19
    go_wp2_with fail
    rw [← HW1.out]
    go_wp2_with fail
    go_ret
    exact ⟨rfl, FN.out⟩
end Go.Proofs.YtoeiaimoppmjdaaDoor.Wr
