/- A Reader and a Writer side by side; the contract of tilllaw1's again. -/
import Derived.Test.YtoeiaimoppmjdaaDoorArgs
import Derived.Test.YtoeiaimoppmjdaaDoorRWPlain
import Derived.Test.YtoeiaimoppmjdaaDoorNums
namespace Go.Proofs.YtoeiaimoppmjdaaDoor.Wr
open Go.RowKit Go.Proofs.YtoeiaimoppmjdaaDoorW.PrintWords Go.Proofs.YtoeiaimoppmjdaaDoor.Bytes Go.Proofs.YtoeiaimoppmjdaaDoor.Args
set_option linter.unusedVariables false
set_option linter.unusedSimpArgs false
theorem into_gen (i n : Int) (w : World) (hn : 0 < n) (hn2 : n ≤ 1073741824) (h1 : -9223372036854775808 ≤ i) (h2 : i ≤ 9223372036854775807) :
    Calls Tryd.prog 18 #[.int .i64 i, .int .i64 n] w fun e w' => e = .returned (.int .i64 (i % n)) ∧ w' = w := by
  have r1 : ¬ n = 0 := by omega
  have b1 := Int.tmod_lt_of_pos i hn
  have b2 := Int.lt_tmod_of_pos i hn
  by_cases hi : i.tmod n < 0
  · have e : i % n = wrap64 (i.tmod n + n) := by
      rw [show wrap64 (i.tmod n + n) = i.tmod n + n by unfold wrap64; omega]
      have h := Int.mul_tdiv_add_tmod i n
      rw [← Int.emod_eq_of_lt (a := i.tmod n + n) (b := n) (by omega) (by omega)]
      conv => lhs; rw [← h]
      rw [Int.mul_add_emod_self_left, Int.add_emod_right]
    rw [e]
    clear e b1 b2
    go_enter Tryd.func18, Tryd.ntmps18
    go_wp2_with fail
    go_ret
    exact ⟨rfl, rfl⟩
  · have e : i % n = i.tmod n := by
      have h := Int.mul_tdiv_add_tmod i n
      rw [← Int.emod_eq_of_lt (a := i.tmod n) (b := n) (by omega) b1]
      conv => lhs; rw [← h]
      rw [Int.mul_add_emod_self_left]
    rw [e]
    clear e b1 b2
    go_enter Tryd.func18, Tryd.ntmps18
    go_wp2_with fail
    go_ret
    exact ⟨rfl, rfl⟩
/-- A Reader and a Writer: neither lies in the other's memory. -/
structure RW (W : World) (base g gw : Nat) (v u : Value) (xs : List Int) (s : RS) (ys : List Int) : Prop where
  rd : Rdr W base g v xs s.at_ s.met
  wt : Wtr W base gw u ys
  ne : ∀ b, v.ownBlock = some b → u.ownBlock ≠ some b
theorem RW.gne {W : World} {base g gw : Nat} {v u : Value} {xs ys : List Int} {s : RS} (h : RW W base g gw v u xs s ys) : g ≠ gw := by
  intro e
  have h1 := h.rd.blk
  rw [e, h.wt.blk] at h1
  simp at h1
theorem RW.below {W W1 : World} {base g gw : Nat} {v u : Value} {xs ys : List Int} {s : RS} (h : RW W base g gw v u xs s ys) (hb : Below W.heap.size W W1) : RW W1 base g gw v u xs s ys :=
  ⟨rdr_below h.rd hb, ⟨blk_below h.wt.blk hb, h.wt.le, pw_own_below h.wt.own hb⟩, h.ne⟩
theorem wtr_une {W : World} {base g gw : Nat} {v u : Value} {xs ys : List Int} {s : RS} (h : RW W base g gw v u xs s ys) : u.ownBlock ≠ some g := by
  intro e
  obtain ⟨cs, hk⟩ := own_kind h.wt.own g e
  rw [h.rd.blk] at hk
  simp at hk
theorem rdr_vne {W : World} {base g gw : Nat} {v u : Value} {xs ys : List Int} {s : RS} (h : RW W base g gw v u xs s ys) : v.ownBlock ≠ some gw := by
  intro e
  obtain ⟨cs, hk⟩ := own_kind h.rd.own gw e
  rw [h.wt.blk] at hk
  simp at hk
theorem RW.read {W W1 : World} {base g gw : Nat} {v u : Value} {xs ys : List Int} {s s1 : RS} (h : RW W base g gw v u xs s ys) (k : RdTo W W1 base g v xs s1) : RW W1 base g gw v u xs s1 ys :=
  ⟨k.rd, ⟨k.kb.blk h.wt.blk (fun e => h.gne e.symm) (by simp), h.wt.le, k.kb.own h.wt.own (wtr_une h) (by cases u.ownBlock <;> simp)⟩, h.ne⟩
theorem RW.put {W W1 : World} {base g gw : Nat} {v u u1 : Value} {xs ys zs : List Int} {s : RS} (h : RW W base g gw v u xs s ys) (k : Put W W1 base gw u u1 zs) : RW W1 base g gw v u1 xs s zs := by
  have hg : ∀ b, v.ownBlock = some b → b < W.heap.size := fun b hb => own_lt h.rd.own b hb
  have hvu : v.ownBlock = none ∨ v.ownBlock ≠ u.ownBlock := by
    cases hv : v.ownBlock with
    | none => exact .inl rfl
    | some b => exact .inr (fun e => h.ne b hv e.symm)
  refine ⟨⟨k.kb.blk h.rd.blk h.gne (fun e => wtr_une h e.symm), h.rd.le, k.kb.own h.rd.own (rdr_vne h) hvu⟩, k.wt, fun b hb => ?_⟩
  rcases k.hat with e | ⟨c, e, hc⟩
  · rw [e]; exact h.ne b hb
  · rw [e]; intro e2; injection e2 with e2; have := hg b hb; omega
/-- What again leaves. -/
structure RwTo (W W' : World) (base g gw : Nat) (v u : Value) (xs : List Int) (s : RS) (ys : List Int) : Prop where
  rw_ : ∃ u', RW W' base g gw v u' xs s ys
  bl : Below base W W'
/-- What again writes, and the Reader's state behind it. -/
def againP (xs : List Int) (s : RS) (o : CO) : List Int × RS :=
  if o.1 = 1 then (fixL (rFix xs s 1).1 1, (rFix xs s 1).2)
  else if o.1 = 2 then (fixL (rFix xs s 4).1 4, (rFix xs s 4).2)
  else if o.1 = 3 then (fixL (rFix xs s 8).1 8, (rFix xs s 8).2)
  else if o.1 = 4 then (vr (rVar xs s o.2.2.2.1.toNat).1, (rVar xs s o.2.2.2.1.toNat).2)
  else if o.1 = 5 then (vr (rBytes xs s o.2.2.1).1.length ++ (rBytes xs s o.2.2.1).1, (rBytes xs s o.2.2.1).2)
  else if o.1 = 6 then ((rRaw xs s (o.2.2.1 % 20)).1, (rRaw xs s (o.2.2.1 % 20)).2)
  else ([], s)
theorem againP_again {xs : List Int} (hb : Byt xs) {s : RS} (o : CO) (hs : s.met = 0) (hok : s.Ok xs) : Again xs s (againP xs s o).1 (againP xs s o).2 := by
  unfold againP
  split
  · exact again_fix hb s 1 hs
  split
  · exact again_fix hb s 4 hs
  split
  · exact again_fix hb s 8 hs
  split
  · exact again_var hb s _ hs hok
  split
  · exact again_bytes hb s _ hs hok
  split
  · exact again_raw s _ hs hok
  · exact ⟨fun h => absurd hs h, fun _ => ⟨Nat.le_refl _, hok.at_, by simp⟩⟩
theorem againP_ok {xs : List Int} {s : RS} (o : CO) (hok : s.Ok xs) : (againP xs s o).2.Ok xs := by
  unfold againP
  split
  · exact rFix_ok hok 1
  split
  · exact rFix_ok hok 4
  split
  · exact rFix_ok hok 8
  split
  · exact (rVar_ok hok _).1
  split
  · exact rBytes_ok hok _
  split
  · exact rRaw_ok hok _
  · exact hok
theorem rBytes_len (xs : List Int) (s : RS) (most : Int) : (rBytes xs s most).1.length ≤ xs.length := by
  unfold rBytes
  split
  · simp
  · exact rNext_len _ _ _
theorem rRaw_len (xs : List Int) (s : RS) (n : Int) : (rRaw xs s n).1.length ≤ xs.length := by
  unfold rRaw
  split
  · simp
  · exact rNext_len _ _ _
set_option maxRecDepth 20000 in
set_option maxHeartbeats 1600000 in
theorem again_calls (W : World) (base g gw : Nat) (v u : Value) (xs ys : List Int) (s : RS) (o : CO) (B : Value) (h : RW W base g gw v u xs s ys) (hs : s.Ok xs) (hb : base ≤ W.heap.size) (hx : Byt xs) (hxl : xs.length ≤ 35184372088800) (hyl : ys.length ≤ 35184372088800) (h1 : B.oneCell' = true)
    (hM : I64 o.2.2.1) (hN : 0 ≤ o.2.2.2.1) (hN2 : o.2.2.2.1 ≤ 18446744073709551615) :
    Calls Tryd.prog 44 #[.pointer (some ⟨g, 0, none⟩), .pointer (some ⟨gw, 0, none⟩), .agg #[.int .i64 o.1, .int .i64 o.2.1, .int .i64 o.2.2.1, .int .u64 o.2.2.2.1, B]] W fun e w' => e = .returned (.tuple #[]) ∧ RwTo W w' base g gw v u xs (againP xs s o).2 (ys ++ (againP xs s o).1) := by
  obtain ⟨kind, which, M, N, bs⟩ := o
  obtain ⟨n, rfl⟩ := Int.eq_ofNat_of_zero_le hN
  obtain ⟨W1, hW1⟩ : ∃ W1, W1 = W.alloc (.cells #[.int .i64 kind, .int .i64 which, .int .i64 M, .int .u64 (n : Int), B] 39) := ⟨_, rfl⟩
  have hb1 : Below W.heap.size W W1 := by rw [hW1]; exact (Below.refl _ _).alloc (Nat.le_refl _) _
  have hk := blk_new W (.cells #[.int .i64 kind, .int .i64 which, .int .i64 M, .int .u64 (n : Int), B] 39)
  rw [← hW1] at hk
  have h0 := blk_cell hk 0
  have h2 := blk_cell hk 2
  have h3 := blk_cell hk 3
  simp at h0 h2 h3
  have hr1 := h.below hb1
  have hB1 := Nat.le_trans hb hb1.size
  have hn64 : n < 18446744073709551616 := by simp at hN2; omega
  have R1 := Lib.hid hr1
  have HB1 := Lib.hid hB1
  have HBB : Hid (Below base W W1) := hb1.mono hb
  have HS := Lib.hid hs
  have HX := Lib.hid hx
  have HXL := Lib.hid hxl
  have HYL := Lib.hid hyl
  have HN6 := Lib.hid hn64
  have HM := Lib.hid hM
  have HW1 := Lib.hid hW1
  have FIN : Hid (∀ (w1 w2 : World) (s1 : RS) (b : List Int) (u2 : Value), RdTo W1 w1 base g v xs s1 → Put w1 w2 base gw u u2 (ys ++ b) → RwTo W w2 base g gw v u xs s1 (ys ++ b)) := fun w1 w2 s1 b u2 k p =>
    ⟨⟨u2, (R1.out.read k).put p⟩, HBB.out.trans (k.bl.trans p.bl)⟩
  clear h hs hb hx hr1 hB1 hk hb1 hM hN hN2 hW1 hn64 hxl hyl
  by_cases k1 : kind = 1
  · subst k1
    have C := Lib.hid (rd8_calls W1 base g v xs s R1.out.rd HS.out HB1.out HX.out)
    have hlt := rFix_lt HX.out s 1
    have HE : Hid (againP xs s (1, which, M, (n : Int), bs) = (fixL (rFix xs s 1).1 1, (rFix xs s 1).2)) := rfl
    obtain ⟨q, hq⟩ : ∃ q, q = rFix xs s 1 := ⟨_, rfl⟩
    rw [← hq] at C HE hlt
    obtain ⟨r, s1⟩ := q
    have HLT : Hid (r < 256) := hlt
    clear hq hlt
    go_enter Tryd.func44, Tryd.ntmps44
    go_wp2_with fail
    rw [← HW1.out]
    go_wp2_with fail
    refine C.out.mono ?_; rintro e w1 ⟨rfl, h1⟩
    have H1 := Lib.hid h1
    have CW := Lib.hid (wu8_calls r w1 base gw u ys (R1.out.read h1).wt (Nat.le_trans HB1.out h1.kb.1) HLT.out (by have := HYL.out; omega))
    clear h1
    go_wp2_with fail
    refine CW.out.mono ?_; rintro e w2 ⟨rfl, u2, hp⟩
    have HP := Lib.hid hp
    clear hp
    go_wp2_with fail
    go_end0
    rw [HE.out]
    exact ⟨rfl, FIN.out _ _ _ _ _ H1.out HP.out⟩
  by_cases k2 : kind = 2
  · subst k2
    have C := Lib.hid (rd32_calls W1 base g v xs s R1.out.rd HS.out HB1.out HX.out)
    have hlt := rFix_lt HX.out s 4
    have HE : Hid (againP xs s (2, which, M, (n : Int), bs) = (fixL (rFix xs s 4).1 4, (rFix xs s 4).2)) := rfl
    obtain ⟨q, hq⟩ : ∃ q, q = rFix xs s 4 := ⟨_, rfl⟩
    rw [← hq] at C HE hlt
    obtain ⟨r, s1⟩ := q
    have HLT : Hid (r < 4294967296) := hlt
    clear hq hlt
    go_enter Tryd.func44, Tryd.ntmps44
    go_wp2_with fail
    rw [← HW1.out]
    go_wp2_with fail
    refine C.out.mono ?_; rintro e w1 ⟨rfl, h1⟩
    have H1 := Lib.hid h1
    have CW := Lib.hid (wu32_calls r w1 base gw u ys (R1.out.read h1).wt (Nat.le_trans HB1.out h1.kb.1) HLT.out (by have := HYL.out; omega))
    clear h1
    go_wp2_with fail
    refine CW.out.mono ?_; rintro e w2 ⟨rfl, u2, hp⟩
    have HP := Lib.hid hp
    clear hp
    go_wp2_with fail
    go_end0
    rw [HE.out]
    exact ⟨rfl, FIN.out _ _ _ _ _ H1.out HP.out⟩
  by_cases k3 : kind = 3
  · subst k3
    have C := Lib.hid (rd64_calls W1 base g v xs s R1.out.rd HS.out HB1.out HX.out)
    have hlt := rFix_lt HX.out s 8
    have HE : Hid (againP xs s (3, which, M, (n : Int), bs) = (fixL (rFix xs s 8).1 8, (rFix xs s 8).2)) := rfl
    obtain ⟨q, hq⟩ : ∃ q, q = rFix xs s 8 := ⟨_, rfl⟩
    rw [← hq] at C HE hlt
    obtain ⟨r, s1⟩ := q
    have HLT : Hid (r < 18446744073709551616) := hlt
    clear hq hlt
    go_enter Tryd.func44, Tryd.ntmps44
    go_wp2_with fail
    rw [← HW1.out]
    go_wp2_with fail
    refine C.out.mono ?_; rintro e w1 ⟨rfl, h1⟩
    have H1 := Lib.hid h1
    have CW := Lib.hid (wu64_calls r w1 base gw u ys (R1.out.read h1).wt (Nat.le_trans HB1.out h1.kb.1) HLT.out (by have := HYL.out; omega))
    clear h1
    go_wp2_with fail
    refine CW.out.mono ?_; rintro e w2 ⟨rfl, u2, hp⟩
    have HP := Lib.hid hp
    clear hp
    go_wp2_with fail
    go_end0
    rw [HE.out]
    exact ⟨rfl, FIN.out _ _ _ _ _ H1.out HP.out⟩
  by_cases k4 : kind = 4
  · subst k4
    have C := Lib.hid (varR_calls W1 base g v xs s n R1.out.rd HS.out HB1.out HX.out (by have := HXL.out; omega))
    have hlt := (rVar_ok HS.out n).2
    have HE : Hid (againP xs s (4, which, M, (n : Int), bs) = (vr (rVar xs s n).1, (rVar xs s n).2)) := rfl
    obtain ⟨q, hq⟩ : ∃ q, q = rVar xs s n := ⟨_, rfl⟩
    rw [← hq] at C HE hlt
    obtain ⟨r, s1⟩ := q
    have HLT : Hid (r < 18446744073709551616) := Nat.lt_of_le_of_lt hlt HN6.out
    clear hq hlt
    go_enter Tryd.func44, Tryd.ntmps44
    go_wp2_with fail
    rw [← HW1.out]
    go_wp2_with fail
    refine C.out.mono ?_; rintro e w1 ⟨rfl, h1⟩
    have H1 := Lib.hid h1
    have CW := Lib.hid (wvar_calls r w1 base gw u ys (R1.out.read h1).wt (Nat.le_trans HB1.out h1.kb.1) HLT.out (by have := HYL.out; omega))
    clear h1
    go_wp2_with fail
    refine CW.out.mono ?_; rintro e w2 ⟨rfl, u2, hp⟩
    have HP := Lib.hid hp
    clear hp
    go_wp2_with fail
    go_end0
    rw [HE.out]
    exact ⟨rfl, FIN.out _ _ _ _ _ H1.out HP.out⟩
  by_cases k5 : kind = 5
  · subst k5
    have C := Lib.hid (bytesR_calls W1 base g v xs s M R1.out.rd HS.out HB1.out HX.out (by have := HXL.out; omega) HM.out.1 HM.out.2)
    have hlt := rBytes_len xs s M
    have HE : Hid (againP xs s (5, which, M, (n : Int), bs) = (vr (rBytes xs s M).1.length ++ (rBytes xs s M).1, (rBytes xs s M).2)) := rfl
    obtain ⟨q, hq⟩ : ∃ q, q = rBytes xs s M := ⟨_, rfl⟩
    rw [← hq] at C HE hlt
    obtain ⟨r, s1⟩ := q
    have HLT : Hid (r.length ≤ 35184372088800) := Nat.le_trans hlt HXL.out
    clear hq hlt
    go_enter Tryd.func44, Tryd.ntmps44
    go_wp2_with fail
    rw [← HW1.out]
    go_wp2_with fail
    refine C.out.mono ?_; rintro e w1 ⟨ub, rfl, hu, h1⟩
    obtain ⟨Au, cu, rfl, hru⟩ := reads_of_own hu
    have H1 := Lib.hid h1
    have hwt := (R1.out.read h1).wt
    have hgl := blk_lt R1.out.wt.blk
    have CW := Lib.hid (wbytes_calls r Au cu w1 base gw u ys hwt (Nat.le_trans HB1.out h1.kb.1) (fun w' hk => by
      have ho := hk.own hu (fun e => by have := own_base hu gw e; omega) (by
        cases hv : (Value.slice Au r.length cu).ownBlock with
        | none => exact .inl rfl
        | some b => exact .inr (fun e => by have h5 := own_base hu b hv; have h6 := own_lt R1.out.wt.own b e.symm; omega))
      exact own_reads_of' ho) (by have := HYL.out; have := HLT.out; omega))
    clear h1 hu hru hwt hgl
    go_wp2_with fail
    refine CW.out.mono ?_; rintro e w2 ⟨rfl, u2, hp⟩
    have HP := Lib.hid hp
    clear hp
    go_wp2_with fail
    go_end0
    rw [HE.out]
    exact ⟨rfl, FIN.out _ _ _ _ _ H1.out HP.out⟩
  by_cases k6 : kind = 6
  · subst k6
    have CI := fun w => Lib.hid (into_gen M 20 w (by omega) (by omega) HM.out.1 HM.out.2)
    have C := Lib.hid (rawR_calls W1 base g v xs s (M % 20) R1.out.rd HS.out HB1.out (by have := HXL.out; omega))
    have hlt := rRaw_len xs s (M % 20)
    have HE : Hid (againP xs s (6, which, M, (n : Int), bs) = ((rRaw xs s (M % 20)).1, (rRaw xs s (M % 20)).2)) := rfl
    obtain ⟨q, hq⟩ : ∃ q, q = rRaw xs s (M % 20) := ⟨_, rfl⟩
    rw [← hq] at C HE hlt
    obtain ⟨r, s1⟩ := q
    have HLT : Hid (r.length ≤ 35184372088800) := Nat.le_trans hlt HXL.out
    obtain ⟨mm, hmm⟩ : ∃ mm, mm = M % 20 := ⟨_, rfl⟩
    rw [← hmm] at C CI
    clear hq hlt hmm
    go_enter Tryd.func44, Tryd.ntmps44
    go_wp2_with fail
    rw [← HW1.out]
    go_wp2_with fail
    refine (CI _).out.mono ?_; rintro e w0 ⟨rfl, rfl⟩
    go_wp2_with fail
    refine C.out.mono ?_; rintro e w1 ⟨ub, rfl, hu, h1⟩
    obtain ⟨Au, cu, rfl, hru⟩ := reads_of_own hu
    have H1 := Lib.hid h1
    have CW := Lib.hid (raw_calls w1 base gw u ys r Au cu (R1.out.read h1).wt (Nat.le_trans HB1.out h1.kb.1) hru (by have := HYL.out; have := HLT.out; omega))
    clear h1 hu hru
    go_wp2_with fail
    refine CW.out.mono ?_; rintro e w2 ⟨rfl, u2, hp⟩
    have HP := Lib.hid hp
    clear hp
    go_wp2_with fail
    go_end0
    rw [HE.out]
    exact ⟨rfl, FIN.out _ _ _ _ _ H1.out HP.out⟩
  · have HE : Hid (againP xs s (kind, which, M, (n : Int), bs) = ([], s)) := by show _ = _; simp [againP, k1, k2, k3, k4, k5, k6]
    go_enter Tryd.func44, Tryd.ntmps44
    go_wp2_with fail
    rw [← HW1.out]
    go_wp2_with fail
    go_end0
    rw [HE.out]
    exact ⟨rfl, ⟨⟨u, by simpa using R1.out⟩, HBB.out⟩⟩
end Go.Proofs.YtoeiaimoppmjdaaDoor.Wr
