/- Contracts of tilllaw1's lays and back: an item is written; what is read is the item. -/
import Derived.Test.YtoeiaimoppmjdaaDoorPlayed
import Derived.Deep.RegionHeld3
namespace Go.Proofs.YtoeiaimoppmjdaaDoor.Wr
open Go.RowKit Go.Proofs.YtoeiaimoppmjdaaDoorW.PrintWords Go.Proofs.YtoeiaimoppmjdaaDoor.Bytes Go.Proofs.YtoeiaimoppmjdaaDoor.Args
set_option linter.unusedVariables false
set_option linter.unusedSimpArgs false
theorem reads_keepbut {w W w' : World} {A : Option Addr} {n g : Nat} {row : Option Nat} {xs : List Int} (h : ReadsOf I 0 w A n xs) (hb : Below w.heap.size w W) (hk : KeepBut W w' g row) (hg : w.heap.size ≤ g) (hr : ∀ b, row = some b → w.heap.size ≤ b) : ReadsOf I 0 w' A n xs :=
  ⟨h.1, h.2.1, fun h0 => by
    obtain ⟨ad, e, hc⟩ := h.2.2 h0
    refine ⟨ad, e, fun j hj => ?_⟩
    have h1 := hc j hj
    have hlt := World.block_lt_of_cell? w _ h1
    have e2 := hk.2 (ad.add j).block (Nat.lt_of_lt_of_le hlt hb.size) (by omega) (fun q => by have := hr _ q.symm; omega)
    have h2 := pw_cell_below hb h1
    rw [← h2]
    exact World.cell?_of_block e2⟩
/-- The bytes that a call of that kind writes. -/
def opB (kind : Int) (n : Nat) (b : List Int) : List Int :=
  if kind = 1 then fixL (n % 256) 1 else if kind = 2 then fixL (n % 4294967296) 4 else if kind = 3 then fixL n 8 else if kind = 4 then vr n else if kind = 5 then vr b.length ++ b else if kind = 6 then b else []
theorem opB_length (kind : Int) (n : Nat) (b : List Int) (hn : n < 18446744073709551616) (hb : b.length ≤ 1048576) : (opB kind n b).length ≤ 1048600 := by
  have h1 := vr_length n 9 (by omega)
  have h2 := vr_length b.length 9 (by omega)
  unfold opB
  split
  · rw [fixL_length]; omega
  split
  · rw [fixL_length]; omega
  split
  · rw [fixL_length]; omega
  split
  · omega
  split
  · rw [List.length_append]; omega
  split
  · omega
  · simp
set_option maxRecDepth 20000 in
set_option maxHeartbeats 1600000 in
theorem lays_calls (kind which m : Int) (n : Nat) (b : List Int) (A : Option Addr) (c : Nat) (wE W : World) (base g : Nat) (v : Value) (xs : List Int) (hw : Wtr W base g v xs) (hbase : base ≤ W.heap.size) (hE : Below wE.heap.size wE W) (hEb : wE.heap.size ≤ base)
    (hr : ReadsOf I 0 wE A b.length b) (hv : n < 18446744073709551616) (hbl : b.length ≤ 1048576) (hm : xs.length ≤ 35184372088832) :
    Calls Tryd.prog 40 #[.pointer (some ⟨g, 0, none⟩), .agg #[.int .i64 kind, .int .i64 which, .int .i64 m, .int .u64 n, .slice A b.length c]] W fun e w' => e = .returned (.tuple #[]) ∧ ∃ v', Put W w' base g v v' (xs ++ opB kind n b) := by
  obtain ⟨W1, hW1⟩ : ∃ W1, W1 = W.alloc (.cells #[.int .i64 kind, .int .i64 which, .int .i64 m, .int .u64 (n : Int), .slice A b.length c] 39) := ⟨_, rfl⟩
  have hb1 : Below W.heap.size W W1 := by rw [hW1]; exact (Below.refl _ _).alloc (Nat.le_refl _) _
  have hk := blk_new W (.cells #[.int .i64 kind, .int .i64 which, .int .i64 m, .int .u64 (n : Int), .slice A b.length c] 39)
  rw [← hW1] at hk
  have h0 := blk_cell hk 0
  have h3 := blk_cell hk 3
  have h4 := blk_cell hk 4
  simp at h0 h3 h4
  have hw1 : Wtr W1 base g v xs := ⟨blk_below hw.blk hb1, hw.le, pw_own_below hw.own hb1⟩
  have hB1 := Nat.le_trans hbase hb1.size
  have hE1 : Below wE.heap.size wE W1 := hE.trans (hb1.mono hE.size)
  have P0 := Lib.hid (Put.refl hw)
  have FIN : Hid (∀ w2 v2 ys, Put W1 w2 base g v v2 ys → Put W w2 base g v v2 ys) := fun w2 v2 ys p => ⟨p.wt, (hb1.mono hbase).trans p.bl, (KeepBut.of_below hb1 g v.ownBlock).trans p.kb (.inl rfl), by
    rcases p.hat with e | ⟨q, e, hq⟩
    · exact .inl e
    · exact .inr ⟨q, e, Nat.le_trans hb1.size hq⟩⟩
  have HN6 := Lib.hid hv
  have HM := Lib.hid hm
  have HW := Lib.hid hw1
  have HB1 := Lib.hid hB1
  have HBL := Lib.hid hbl
  have HR1 : Hid (ReadsOf I 0 W1 A b.length b) := hr.below hE1
  have HRK : Hid (∀ w', KeepBut W1 w' g v.ownBlock → ReadsOf I 0 w' A b.length b) := fun w' hk => reads_keepbut hr hE1 hk (Nat.le_trans hEb hw.le) (fun q hq => Nat.le_trans hEb (own_base hw.own q hq))
  have HW1 := Lib.hid hW1
  have hnb : (n : Int) ≤ 18446744073709551615 := by omega
  clear hw hbase hE hEb hr hv hbl hm hb1 hk hw1 hB1 hE1 hW1
  by_cases k1 : kind = 1
  · subst k1
    have C := Lib.hid (wu8_calls (n % 256) W1 base g v xs HW.out HB1.out (by omega) (by have := HM.out; omega))
    go_enter Tryd.func40, Tryd.ntmps40
    go_wp2_with fail
    rw [← HW1.out]
    go_wp2_with fail
    refine C.out.mono ?_; rintro e w2 ⟨rfl, v2, hp⟩
    have HP := Lib.hid (FIN.out _ _ _ hp)
    clear hp
    go_wp2_with fail
    go_end0
    exact ⟨rfl, v2, HP.out⟩
  by_cases k2 : kind = 2
  · subst k2
    have C := Lib.hid (wu32_calls (n % 4294967296) W1 base g v xs HW.out HB1.out (by omega) (by have := HM.out; omega))
    go_enter Tryd.func40, Tryd.ntmps40
    go_wp2_with fail
    rw [← HW1.out]
    go_wp2_with fail
    refine C.out.mono ?_; rintro e w2 ⟨rfl, v2, hp⟩
    have HP := Lib.hid (FIN.out _ _ _ hp)
    clear hp
    go_wp2_with fail
    go_end0
    exact ⟨rfl, v2, HP.out⟩
  by_cases k3 : kind = 3
  · subst k3
    have C := Lib.hid (wu64_calls n W1 base g v xs HW.out HB1.out HN6.out (by have := HM.out; omega))
    go_enter Tryd.func40, Tryd.ntmps40
    go_wp2_with fail
    rw [← HW1.out]
    go_wp2_with fail
    refine C.out.mono ?_; rintro e w2 ⟨rfl, v2, hp⟩
    have HP := Lib.hid (FIN.out _ _ _ hp)
    clear hp
    go_wp2_with fail
    go_end0
    exact ⟨rfl, v2, HP.out⟩
  by_cases k4 : kind = 4
  · subst k4
    have C := Lib.hid (wvar_calls n W1 base g v xs HW.out HB1.out HN6.out (by have := HM.out; omega))
    go_enter Tryd.func40, Tryd.ntmps40
    go_wp2_with fail
    rw [← HW1.out]
    go_wp2_with fail
    refine C.out.mono ?_; rintro e w2 ⟨rfl, v2, hp⟩
    have HP := Lib.hid (FIN.out _ _ _ hp)
    clear hp
    go_wp2_with fail
    go_end0
    exact ⟨rfl, v2, HP.out⟩
  by_cases k5 : kind = 5
  · subst k5
    have C := Lib.hid (wbytes_calls b A c W1 base g v xs HW.out HB1.out HRK.out (by have := HM.out; have := HBL.out; omega))
    go_enter Tryd.func40, Tryd.ntmps40
    go_wp2_with fail
    rw [← HW1.out]
    go_wp2_with fail
    refine C.out.mono ?_; rintro e w2 ⟨rfl, v2, hp⟩
    have HP := Lib.hid (FIN.out _ _ _ hp)
    clear hp
    go_wp2_with fail
    go_end0
    exact ⟨rfl, v2, HP.out⟩
  by_cases k6 : kind = 6
  · subst k6
    have C := Lib.hid (raw_calls W1 base g v xs b A c HW.out HB1.out HR1.out (by have := HM.out; have := HBL.out; omega))
    go_enter Tryd.func40, Tryd.ntmps40
    go_wp2_with fail
    rw [← HW1.out]
    go_wp2_with fail
    refine C.out.mono ?_; rintro e w2 ⟨rfl, v2, hp⟩
    have HP := Lib.hid (FIN.out _ _ _ hp)
    clear hp
    go_wp2_with fail
    go_end0
    exact ⟨rfl, v2, HP.out⟩
  · have HE : Hid (xs ++ opB kind n b = xs) := by show _ = _; simp [opB, k1, k2, k3, k4, k5, k6]
    go_enter Tryd.func40, Tryd.ntmps40
    go_wp2_with fail
    rw [← HW1.out]
    go_wp2_with fail
    go_end0
    exact ⟨rfl, v, by rw [HE.out]; exact FIN.out _ _ _ (Put.refl HW.out)⟩
theorem ret_bool {a b : Bool} (h : a = b) : Ending.returned (.bool a) = .returned (.bool b) := by rw [h]
/-- What back answers, and the Reader's state behind it. -/
def backP (xs : List Int) (s : RS) (kind : Int) (n : Nat) (b : List Int) : Bool × RS :=
  if kind = 1 then (decide ((rFix xs s 1).1 = n % 256), (rFix xs s 1).2)
  else if kind = 2 then (decide ((rFix xs s 4).1 = n % 4294967296), (rFix xs s 4).2)
  else if kind = 3 then (decide ((rFix xs s 8).1 = n), (rFix xs s 8).2)
  else if kind = 4 then (decide ((rVar xs s n).1 = n), (rVar xs s n).2)
  else if kind = 5 then (decide ((rBytes xs s b.length).1 = b), (rBytes xs s b.length).2)
  else if kind = 6 then (decide ((rRaw xs s b.length).1 = b), (rRaw xs s b.length).2)
  else (true, s)
set_option maxRecDepth 20000 in
set_option maxHeartbeats 1600000 in
theorem back_calls (kind which m : Int) (n : Nat) (b : List Int) (A : Option Addr) (c : Nat) (wE W : World) (base g : Nat) (v : Value) (xs : List Int) (s : RS) (h : Rdr W base g v xs s.at_ s.met) (hs : s.Ok xs) (hb : base ≤ W.heap.size) (hx : Byt xs) (hxl : xs.length ≤ 140737488355328) (hE : Below wE.heap.size wE W) (hEb : wE.heap.size ≤ base)
    (hr : ReadsOf I 0 wE A b.length b) (hv : n < 18446744073709551616) (hbl : b.length ≤ 1048576) :
    Calls Tryd.prog 43 #[.pointer (some ⟨g, 0, none⟩), .agg #[.int .i64 kind, .int .i64 which, .int .i64 m, .int .u64 n, .slice A b.length c]] W fun e w' => e = .returned (.bool (backP xs s kind n b).1) ∧ RdTo W w' base g v xs (backP xs s kind n b).2 := by
  obtain ⟨W1, hW1⟩ : ∃ W1, W1 = W.alloc (.cells #[.int .i64 kind, .int .i64 which, .int .i64 m, .int .u64 (n : Int), .slice A b.length c] 39) := ⟨_, rfl⟩
  have hb1 : Below W.heap.size W W1 := by rw [hW1]; exact (Below.refl _ _).alloc (Nat.le_refl _) _
  have hk := blk_new W (.cells #[.int .i64 kind, .int .i64 which, .int .i64 m, .int .u64 (n : Int), .slice A b.length c] 39)
  rw [← hW1] at hk
  have h0 := blk_cell hk 0
  have h3 := blk_cell hk 3
  have h4 := blk_cell hk 4
  simp at h0 h3 h4
  have R1 := Lib.hid ((RdTo.refl h).below hb hb1)
  have RD := Lib.hid ((RdTo.refl h).below hb (hb1.trans ((Below.refl _ W1).drew)))
  have HK := Lib.hid hk
  have hB1 := Nat.le_trans hb hb1.size
  have HB1 := Lib.hid hB1
  have HS := Lib.hid hs
  have HX := Lib.hid hx
  have hE1 : Below wE.heap.size wE W1 := hE.trans (hb1.mono hE.size)
  have HE1 := Lib.hid hE1
  have HEB := Lib.hid hEb
  have HRE := Lib.hid hr
  have HW1 := Lib.hid hW1
  have HGW : Hid (g < W.heap.size) := blk_lt h.blk
  clear h hs hb hx hE hEb hr hv hb1 hk hB1 hE1 hW1
  by_cases k1 : kind = 1
  · subst k1
    have C := Lib.hid (rd8_calls W1.drew base g v xs s RD.out.rd HS.out HB1.out HX.out)
    have HE : Hid (backP xs s 1 n b = (decide ((rFix xs s 1).1 = n % 256), (rFix xs s 1).2)) := rfl
    obtain ⟨q, hq⟩ : ∃ q, q = rFix xs s 1 := ⟨_, rfl⟩
    rw [← hq] at C HE
    obtain ⟨r, s1⟩ := q
    clear hq
    go_enter Tryd.func43, Tryd.ntmps43
    go_wp2_with fail
    rw [← HW1.out]
    go_wp2_with fail
    first | (go_region_held3 (fun w' => w'.cell? ⟨W.heap.size, 3, none⟩ = some (.int .u64 (n : Int))) (first | exact x3 | exact h3) (first | (go_at_call 42; refine C.out.mono ?_; rintro e w2 ⟨rfl, h2⟩; have hk2 := h2.kb.blk (blk_drew HK.out) (by have := HGW.out; omega) (by simp); have x3 := blk_cell hk2 3; simp at x3; have H2 := Lib.hid h2; clear h2 hk2))) | fail
    go_wp2_with fail
    go_ret
    rw [HE.out]
    exact ⟨ret_bool (by rw [Bool.eq_iff_iff]; simp [IntKind.wrap_u8', IntKind.wrap_u32']; omega), RD.out.trans H2.out⟩
  by_cases k2 : kind = 2
  · subst k2
    have C := Lib.hid (rd32_calls W1.drew base g v xs s RD.out.rd HS.out HB1.out HX.out)
    have HE : Hid (backP xs s 2 n b = (decide ((rFix xs s 4).1 = n % 4294967296), (rFix xs s 4).2)) := rfl
    obtain ⟨q, hq⟩ : ∃ q, q = rFix xs s 4 := ⟨_, rfl⟩
    rw [← hq] at C HE
    obtain ⟨r, s1⟩ := q
    clear hq
    go_enter Tryd.func43, Tryd.ntmps43
    go_wp2_with fail
    rw [← HW1.out]
    go_wp2_with fail
    first | (go_region_held3 (fun w' => w'.cell? ⟨W.heap.size, 3, none⟩ = some (.int .u64 (n : Int))) (first | exact x3 | exact h3) (first | (go_at_call 66; refine C.out.mono ?_; rintro e w2 ⟨rfl, h2⟩; have hk2 := h2.kb.blk (blk_drew HK.out) (by have := HGW.out; omega) (by simp); have x3 := blk_cell hk2 3; simp at x3; have H2 := Lib.hid h2; clear h2 hk2))) | fail
    go_wp2_with fail
    go_ret
    rw [HE.out]
    exact ⟨ret_bool (by rw [Bool.eq_iff_iff]; simp [IntKind.wrap_u8', IntKind.wrap_u32']; omega), RD.out.trans H2.out⟩
  by_cases k3 : kind = 3
  · subst k3
    have C := Lib.hid (rd64_calls W1.drew base g v xs s RD.out.rd HS.out HB1.out HX.out)
    have HE : Hid (backP xs s 3 n b = (decide ((rFix xs s 8).1 = n), (rFix xs s 8).2)) := rfl
    obtain ⟨q, hq⟩ : ∃ q, q = rFix xs s 8 := ⟨_, rfl⟩
    rw [← hq] at C HE
    obtain ⟨r, s1⟩ := q
    clear hq
    go_enter Tryd.func43, Tryd.ntmps43
    go_wp2_with fail
    rw [← HW1.out]
    go_wp2_with fail
    first | (go_region_held3 (fun w' => w'.cell? ⟨W.heap.size, 3, none⟩ = some (.int .u64 (n : Int))) (first | exact x3 | exact h3) (first | (go_at_call 25; refine C.out.mono ?_; rintro e w2 ⟨rfl, h2⟩; have hk2 := h2.kb.blk (blk_drew HK.out) (by have := HGW.out; omega) (by simp); have x3 := blk_cell hk2 3; simp at x3; have H2 := Lib.hid h2; clear h2 hk2))) | fail
    go_wp2_with fail
    go_ret
    rw [HE.out]
    exact ⟨ret_bool (by rw [Bool.eq_iff_iff]; simp [IntKind.wrap_u8', IntKind.wrap_u32']; omega), RD.out.trans H2.out⟩
  by_cases k4 : kind = 4
  · subst k4
    have C := Lib.hid (varR_calls W1.drew base g v xs s n RD.out.rd HS.out HB1.out HX.out hxl)
    have HE : Hid (backP xs s 4 n b = (decide ((rVar xs s n).1 = n), (rVar xs s n).2)) := rfl
    obtain ⟨q, hq⟩ : ∃ q, q = rVar xs s n := ⟨_, rfl⟩
    rw [← hq] at C HE
    obtain ⟨r, s1⟩ := q
    clear hq
    go_enter Tryd.func43, Tryd.ntmps43
    go_wp2_with fail
    rw [← HW1.out]
    go_wp2_with fail
    first | (go_region_held3 (fun w' => w'.cell? ⟨W.heap.size, 3, none⟩ = some (.int .u64 (n : Int))) (first | exact x3 | exact h3) (first | (go_at_call 69; refine C.out.mono ?_; rintro e w2 ⟨rfl, h2⟩; have hk2 := h2.kb.blk (blk_drew HK.out) (by have := HGW.out; omega) (by simp); have x3 := blk_cell hk2 3; simp at x3; have H2 := Lib.hid h2; clear h2 hk2))) | fail
    go_wp2_with fail
    go_ret
    rw [HE.out]
    exact ⟨ret_bool (by rw [Bool.eq_iff_iff]; simp [IntKind.wrap_u8', IntKind.wrap_u32']; omega), RD.out.trans H2.out⟩
  by_cases k5 : kind = 5
  · subst k5
    have C := Lib.hid (bytesR_calls W1.drew base g v xs s b.length RD.out.rd HS.out HB1.out HX.out hxl (by omega) (by omega))
    have HE : Hid (backP xs s 5 n b = (decide ((rBytes xs s b.length).1 = b), (rBytes xs s b.length).2)) := rfl
    have hlen := rBytes_len xs s b.length
    obtain ⟨q, hq⟩ : ∃ q, q = rBytes xs s b.length := ⟨_, rfl⟩
    rw [← hq] at C HE hlen
    obtain ⟨l, s1⟩ := q
    have HEQ : Hid (∀ (w2 : World) (Au : Option Addr) (cu : Nat), RdTo W1.drew w2 base g v xs s1 → ReadsOf I 0 w2 Au l.length l → Calls Tryd.prog 34 #[.slice Au l.length cu, .slice A b.length c] w2 fun e w' => ∃ q : Bool, e = .returned (.bool q) ∧ (q = true ↔ l = b) ∧ Below w2.heap.size w2 w') := fun w2 Au cu h2 hr2 =>
      eq_calls l b Au A cu c w2 hr2 (reads_keepbut HRE.out (HE1.out.trans ((Below.refl _ W1).drew.mono HE1.out.size)) h2.kb (Nat.le_trans HEB.out h2.rd.le) (fun q hq => by cases hq)) (by omega)
    clear hq hlen
    go_enter Tryd.func43, Tryd.ntmps43
    go_wp2_with fail
    rw [← HW1.out]
    go_wp2_with fail
    first | (go_region_held3 (fun w' => w'.cell? ⟨W.heap.size, 4, none⟩ = some (.slice A b.length c)) (first | exact x5 | exact x4 | exact h4) (first
      | (go_at_call 71; refine C.out.mono ?_; rintro e w2 ⟨u2, rfl, hu, h2⟩; obtain ⟨Au, cu, rfl, hru⟩ := reads_of_own hu; have hk2 := h2.kb.blk (blk_drew HK.out) (by have := HGW.out; omega) (by simp); have x4 := blk_cell hk2 4; simp at x4; have H2 := Lib.hid h2; have CE := Lib.hid (fun n => HEQ.out (w2.drewN n) Au cu (h2.drewN HB1.out n) hru); clear h2 hk2 hu hru)
      | (go_at_call 34; refine (CE.out 0).mono ?_; rintro e w3 ⟨q3, rfl, hq3, hb3⟩; have x5 := pw_cell_below hb3 x4; have HQ3 := Lib.hid hq3; have H3 := Lib.hid (H2.out.below HB1.out hb3); clear hq3 hb3))) | fail
    go_wp2_with fail
    go_ret
    rw [HE.out]
    exact ⟨ret_bool (by rw [Bool.eq_iff_iff]; simp only [decide_eq_true_eq]; exact HQ3.out), RD.out.trans H3.out⟩
  by_cases k6 : kind = 6
  · subst k6
    have C := Lib.hid (rawR_calls W1.drew base g v xs s b.length RD.out.rd HS.out HB1.out hxl)
    have HE : Hid (backP xs s 6 n b = (decide ((rRaw xs s b.length).1 = b), (rRaw xs s b.length).2)) := rfl
    have hlen := rRaw_len xs s b.length
    obtain ⟨q, hq⟩ : ∃ q, q = rRaw xs s b.length := ⟨_, rfl⟩
    rw [← hq] at C HE hlen
    obtain ⟨l, s1⟩ := q
    have HEQ : Hid (∀ (w2 : World) (Au : Option Addr) (cu : Nat), RdTo W1.drew w2 base g v xs s1 → ReadsOf I 0 w2 Au l.length l → Calls Tryd.prog 34 #[.slice Au l.length cu, .slice A b.length c] w2 fun e w' => ∃ q : Bool, e = .returned (.bool q) ∧ (q = true ↔ l = b) ∧ Below w2.heap.size w2 w') := fun w2 Au cu h2 hr2 =>
      eq_calls l b Au A cu c w2 hr2 (reads_keepbut HRE.out (HE1.out.trans ((Below.refl _ W1).drew.mono HE1.out.size)) h2.kb (Nat.le_trans HEB.out h2.rd.le) (fun q hq => by cases hq)) (by omega)
    clear hq hlen
    go_enter Tryd.func43, Tryd.ntmps43
    go_wp2_with fail
    rw [← HW1.out]
    go_wp2_with fail
    first | (go_region_held3 (fun w' => w'.cell? ⟨W.heap.size, 4, none⟩ = some (.slice A b.length c)) (first | exact x5 | exact x4 | exact h4) (first
      | (go_at_call 35; refine C.out.mono ?_; rintro e w2 ⟨u2, rfl, hu, h2⟩; obtain ⟨Au, cu, rfl, hru⟩ := reads_of_own hu; have hk2 := h2.kb.blk (blk_drew HK.out) (by have := HGW.out; omega) (by simp); have x4 := blk_cell hk2 4; simp at x4; have H2 := Lib.hid h2; have CE := Lib.hid (fun n => HEQ.out (w2.drewN n) Au cu (h2.drewN HB1.out n) hru); clear h2 hk2 hu hru)
      | (go_at_call 34; refine (CE.out 0).mono ?_; rintro e w3 ⟨q3, rfl, hq3, hb3⟩; have x5 := pw_cell_below hb3 x4; have HQ3 := Lib.hid hq3; have H3 := Lib.hid (H2.out.below HB1.out hb3); clear hq3 hb3))) | fail
    go_wp2_with fail
    go_ret
    rw [HE.out]
    exact ⟨ret_bool (by rw [Bool.eq_iff_iff]; simp only [decide_eq_true_eq]; exact HQ3.out), RD.out.trans H3.out⟩
  · have HE : Hid (backP xs s kind n b = (true, s)) := by show _ = _; simp [backP, k1, k2, k3, k4, k5, k6]
    go_enter Tryd.func43, Tryd.ntmps43
    go_wp2_with fail
    rw [← HW1.out]
    go_wp2_with fail
    go_ret
    rw [HE.out]
    exact ⟨rfl, R1.out⟩
end Go.Proofs.YtoeiaimoppmjdaaDoor.Wr
