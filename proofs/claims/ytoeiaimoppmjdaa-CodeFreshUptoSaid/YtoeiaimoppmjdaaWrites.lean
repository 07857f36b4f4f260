/- Contract of tilllaw1's writes: what is written is what the document says. -/
import Derived.Test.YtoeiaimoppmjdaaWState
namespace Go.Proofs.Ytoeiaimoppmjdaa.Wr
open Go.RowKit Go.Proofs.YtoeiaimoppmjdaaW.PrintWords Go.Proofs.Ytoeiaimoppmjdaa.Bytes
set_option linter.unusedVariables false
set_option linter.unusedSimpArgs false
theorem Two.of_alloc {W W' : World} {o : Obj} {base g : Nat} {v h v' h' : Value} {xs zs : List Int} (hb : base ≤ W.heap.size) (t : Two (W.alloc o) W' base g v h v' h' xs zs) : Two W W' base g v h v' h' xs zs :=
  ⟨t.wt, t.ho, t.ne, ((Below.refl base W).alloc hb o).trans t.bl, fun i hi q1 q2 q3 => (t.fr i (by simp; omega) q1 q2 q3).trans (Below.heap_alloc W o i hi),
    t.hv.imp id (fun ⟨b, e, hb⟩ => ⟨b, e, by simp at hb; omega⟩), t.hh.imp id (fun ⟨b, e, hb⟩ => ⟨b, e, by simp at hb; omega⟩)⟩
theorem Lent.fill {W W1 : World} {base g gi cap : Nat} {v h v1 h1 : Value} {xs zs ms : List Int} (hb0 : base ≤ W.heap.size) (t : Two W W1 base g v h v1 h1 xs zs) (l : Lent W W1 g v1 h1 gi cap ms) (k : Nat) :
    Two W (W1.setCell ⟨gi, k, none⟩ (.int .u8 238)) base g v h v1 h1 xs zs ∧ Lent W (W1.setCell ⟨gi, k, none⟩ (.int .u8 238)) g v1 h1 gi cap (ms.set k 238) := by
  have hst := own_store_of l.io (k : Int) (238 : Int)
  rw [Int.toNat_natCast] at hst
  have e : (ms.set k (238 : Int)).length = ms.length := by simp
  exact ⟨t.side hb0 hst.2 l.le l.ng l.nv l.nh, ⟨by rw [e]; exact hst.1, l.le, l.ng, l.nv, l.nh⟩⟩
set_option maxRecDepth 100000 in
set_option maxHeartbeats 3200000 in
theorem writes_1 (which m : Int) (n : Nat) (b : List Int) (A : Option Addr) (c : Nat) (W : World) (base g : Nat) (v h : Value) (xs : List Int) (hw : Wtr W base g v xs) (ho : W.ownsRow base 5 1 h xs.length (encs I xs)) (hn : NeRow v h) (hbase : base ≤ W.heap.size)
    (hr : ∀ W', Below base W W' → ReadsOf I 0 W' A b.length b) (hv : n < 18446744073709551616) (hbl : b.length ≤ 1048576) (hm : xs.length ≤ 35184372088832) :
    Calls Try.prog 8 #[.pointer (some ⟨g, 0, none⟩), h, .agg #[.int .i64 1, .int .i64 which, .int .i64 m, .int .u64 n, .slice A b.length c]] W fun e w' => ∃ v' h', e = .returned (.tuple #[h', .bool true]) ∧ Two W w' base g v h v' h' (xs ++ opBytes 1 n b) (xs ++ opBytes 1 n b) := by
  obtain ⟨AH, nH, cH, rfl⟩ := slice_form ho
  obtain rfl : nH = xs.length := by
    rcases ho.2 with ⟨e, e2⟩ | ⟨_, _, _, e, _⟩
    · injection e with _ e _; omega
    · injection e with _ e _
  have HM := Lib.hid hm
  have HBL := Lib.hid hbl
  have HN := Lib.hid hv
  obtain ⟨W0, hW0⟩ : ∃ W0, W0 = W.alloc (.cells #[.int .i64 1, .int .i64 which, .int .i64 m, .int .u64 n, .slice A b.length c] 63) := ⟨_, rfl⟩
  have hsz : W0.heap.size = W.heap.size + 1 := by rw [hW0]; simp
  have hB0 : Below W.heap.size W W0 := by rw [hW0]; exact (Below.refl _ _).alloc (Nat.le_refl _) _
  have hblk : W0.heap[W.heap.size]? = some (.cells #[.int .i64 1, .int .i64 which, .int .i64 m, .int .u64 n, .slice A b.length c] 63 (0, 0)) := by rw [hW0]; exact blk_new W _
  have hgl : g < W.heap.size := blk_lt hw.blk
  have t0 : Two W0 W0 base g v (.slice AH xs.length cH) v (.slice AH xs.length cH) xs xs := Two.refl (wtr_below hw hB0) (pw_own_below ho hB0) hn
  have KEEP : Hid (∀ W' v' h' ys zs, Two W0 W' base g v (.slice AH xs.length cH) v' h' ys zs → ∀ j, W'.cell? ⟨W.heap.size, j, none⟩ = (#[.int .i64 1, .int .i64 which, .int .i64 m, .int .u64 n, .slice A b.length c] : Array Value)[j]?) := by
    intro W' v' h' ys zs t j
    have h2 := (t.fr W.heap.size (by omega) (by omega) (fun e => by have := own_lt hw.own _ e.symm; omega) (fun e => by have := own_lt ho _ e.symm; omega)).trans hblk
    exact blk_cell h2 j
  have RD : Hid (∀ W', Below base W0 W' → ReadsOf I 0 W' A b.length b) := fun W' hb => hr W' ((hB0.mono hbase).trans hb)
  have HLV : Hid (∀ k, v.ownBlock = some k → k < W0.heap.size) := fun k hk => by have := own_lt hw.own k hk; omega
  have HLH : Hid (∀ k, (Value.slice AH xs.length cH).ownBlock = some k → k < W0.heap.size) := fun k hk => by have := own_lt ho k hk; omega
  have HG := Lib.hid hgl
  have HBS := Lib.hid hbase
  have HW0 := Lib.hid hW0
  have HSZ := Lib.hid hsz
  have HBS0 : Hid (base ≤ W0.heap.size) := Nat.le_trans hbase hB0.size
  have T0 := Lib.hid t0
  have CL := Lib.hid (lend_calls b A c W0 (Kd.C_of_reads (RD.out W0 (Below.refl _ _))) hbl)
  have y4 : W0.cell? ⟨W.heap.size, 4, none⟩ = some (.slice A b.length c) := KEEP.out _ _ _ _ _ t0 4
  clear hW0 hsz hB0 hblk hgl t0 hw ho hn hbase hr hv hbl hm
  go_enter Try.func8, Try.ntmps8
  go_wp2_with fail
  rw [← HW0.out]
  go_wp2_with fail
  refine CL.out.mono ?_; rintro e w1 ⟨gi, cap, rfl, ho1, hb1⟩
  have T1 := Lib.hid (T0.out.below HBS0.out hb1)
  have L1 : Hid (Lent W0 w1 g v (.slice AH xs.length cH) gi cap (marked b)) :=
    have hle : W0.heap.size ≤ gi := own_base ho1 gi rfl
    ⟨ho1, hle, by have := HG.out; have := HSZ.out; omega, fun e => by have := HLV.out gi e; omega, fun e => by have := HLH.out gi e; omega⟩
  have y0 : w1.cell? ⟨W.heap.size, 0, none⟩ = some (.int .i64 1) := KEEP.out _ _ _ _ _ T1.out 0
  have y3 : w1.cell? ⟨W.heap.size, 3, none⟩ = some (.int .u64 n) := KEEP.out _ _ _ _ _ T1.out 3
  clear ho1 hb1 y4
  obtain ⟨q, hq⟩ : ∃ q, q = n % 256 := ⟨_, rfl⟩
  have qv : (n : Int) % 256 = (q : Int) := by omega
  have HQ := Lib.hid hq
  have CW := Lib.hid (wu8_calls q w1 base g v xs T1.out.wt (Nat.le_trans HBS0.out T1.out.size) (by have := HQ.out; omega) (by have := HM.out; omega))
  clear hq
  go_wp2_with fail
  refine CW.out.mono ?_; rintro e w2 ⟨rfl, v2, hp2⟩
  have T2 := Lib.hid (T1.out.put hp2)
  have L2 := Lib.hid (L1.out.put hp2)
  have z3 : w2.cell? ⟨W.heap.size, 3, none⟩ = some (.int .u64 n) := KEEP.out _ _ _ _ _ T2.out 3
  have CR := Lib.hid (ru8_calls q w2 w2.heap.size (Nat.le_refl _) (by have := HQ.out; omega))
  clear hp2 y0 y3
  go_wp2_with fail
  refine CR.out.mono ?_; rintro e w3 ⟨r3, rfl, ho3, hb3⟩
  obtain ⟨A3, c3, rfl, hr3⟩ := reads_of_own ho3
  have RR := Lib.hid hr3
  have T3 := Lib.hid (T2.out.below HBS0.out hb3)
  have L3 := Lib.hid (L2.out.below hb3)
  have HLL : Hid (1 ≤ 10) := (show (1 : Nat) ≤ 10 by decide)
  clear ho3 hr3 hb3 z3
  go_wp2_with (at_builtin; refine print_append_row_of I 0 (w0 := W0) base rfl (.tmp 23) (.tmp 27) 22 5 (.int .u8 0) 1 rfl Try.underlying22 info5 rfl (by omega) (fun _ => rfl) (.slice AH xs.length cH) xs (fixL q 1) A3 1 c3 rfl rfl ?h1 ?h2 ?h3 ?h4 ?h5 ?_; (case h1 => exact T3.out.ho); (case h2 => exact RR.out); (case h3 => exact T3.out.bl); (case h4 => exact Nat.le_trans HBS0.out T3.out.size); (case h5 => have := HM.out; have := HLL.out; omega); intro hv4 w4 ho4 hb4 hg4 hat4; obtain ⟨A4, m4, c4, rfl⟩ := slice_form ho4; have T4 := Lib.hid (T3.out.held HBS0.out hg4 ho4 hat4); have L4 := Lib.hid (L3.out.held hg4 hat4); have u4 : w4.cell? ⟨W.heap.size, 4, none⟩ = some (.slice A b.length c) := KEEP.out _ _ _ _ _ T4.out 4; clear ho4 hb4 hg4 hat4)
  have CI := Lib.hid (intact_calls b A c gi cap W0.heap.size w4 (RD.out w4 T4.out.bl) HBL.out L4.out.io)
  go_wp2_with fail
  refine CI.out.mono ?_; rintro e w5 ⟨rfl, hb5⟩
  have T5 := Lib.hid (T4.out.below HBS0.out hb5)
  have L5 := Lib.hid (L4.out.below hb5)
  clear hb5 u4
  go_wp2_with fail
  go_loopw [10] (fun i wr => ∃ (k : Nat) (ms : List Int), i = .int .i64 k ∧ k ≤ b.length ∧ ms.length = (marked b).length ∧ Two W0 wr base g v (.slice AH xs.length cH) v2 (.slice A4 m4 c4) (xs ++ fixL q 1) (xs ++ fixL q 1) ∧ Lent W0 wr g v2 (.slice A4 m4 c4) gi cap ms) (fun i _ => b.length - (intOf i).toNat)
  case atStart => exact ⟨0, _, rfl, by omega, rfl, T5.out, L5.out⟩
  case round =>
    obtain ⟨k, ms, rfl, hk, hml, ht, hl⟩ := hrel
    have TT := Lib.hid ht
    have LL := Lib.hid hl
    have HML := Lib.hid hml
    clear ht hl hml
    have bl : (b.length : Int) ≤ 1048576 := by have := HBL.out; omega
    by_cases hlt : k < b.length
    · have hat := own_at_of (d := 0) LL.out.io (k : Int) (by omega) (by have := HML.out; rw [marked_length] at this; omega)
      rw [Int.toNat_natCast] at hat
      have a1 := hat.1
      have a2 := hat.2
      have FF := Lib.hid (Lent.fill HBS0.out TT.out LL.out k)
      have i1 : (k : Int) < (b.length : Int) := by omega
      have i0 : (0 : Int) ≤ (k : Int) := by omega
      clear hat
      go_wp2_with fail
      go_roundw
      case rel => exact ⟨k + 1, _, by go_num, by omega, by rw [List.length_set]; exact HML.out, FF.out.1, FF.out.2⟩
      case measure => simp [intOf]; omega
    · have i1 : ¬ (k : Int) < (b.length : Int) := by omega
      go_wp2_with fail
      go_ret2
      have hT := TT.out
      rw [HW0.out] at hT
      have hF := Two.of_alloc HBS.out hT
      have hE : xs ++ opBytes 1 n b = (xs ++ fixL q 1) := by show xs ++ opBytes 1 n b = _; rw [HQ.out]; rfl
      exact ⟨v2, (.slice A4 m4 c4), rfl, by rw [hE]; exact hF⟩
set_option maxRecDepth 100000 in
set_option maxHeartbeats 3200000 in
theorem writes_2 (which m : Int) (n : Nat) (b : List Int) (A : Option Addr) (c : Nat) (W : World) (base g : Nat) (v h : Value) (xs : List Int) (hw : Wtr W base g v xs) (ho : W.ownsRow base 5 1 h xs.length (encs I xs)) (hn : NeRow v h) (hbase : base ≤ W.heap.size)
    (hr : ∀ W', Below base W W' → ReadsOf I 0 W' A b.length b) (hv : n < 18446744073709551616) (hbl : b.length ≤ 1048576) (hm : xs.length ≤ 35184372088832) :
    Calls Try.prog 8 #[.pointer (some ⟨g, 0, none⟩), h, .agg #[.int .i64 2, .int .i64 which, .int .i64 m, .int .u64 n, .slice A b.length c]] W fun e w' => ∃ v' h', e = .returned (.tuple #[h', .bool true]) ∧ Two W w' base g v h v' h' (xs ++ opBytes 2 n b) (xs ++ opBytes 2 n b) := by
  obtain ⟨AH, nH, cH, rfl⟩ := slice_form ho
  obtain rfl : nH = xs.length := by
    rcases ho.2 with ⟨e, e2⟩ | ⟨_, _, _, e, _⟩
    · injection e with _ e _; omega
    · injection e with _ e _
  have HM := Lib.hid hm
  have HBL := Lib.hid hbl
  have HN := Lib.hid hv
  obtain ⟨W0, hW0⟩ : ∃ W0, W0 = W.alloc (.cells #[.int .i64 2, .int .i64 which, .int .i64 m, .int .u64 n, .slice A b.length c] 63) := ⟨_, rfl⟩
  have hsz : W0.heap.size = W.heap.size + 1 := by rw [hW0]; simp
  have hB0 : Below W.heap.size W W0 := by rw [hW0]; exact (Below.refl _ _).alloc (Nat.le_refl _) _
  have hblk : W0.heap[W.heap.size]? = some (.cells #[.int .i64 2, .int .i64 which, .int .i64 m, .int .u64 n, .slice A b.length c] 63 (0, 0)) := by rw [hW0]; exact blk_new W _
  have hgl : g < W.heap.size := blk_lt hw.blk
  have t0 : Two W0 W0 base g v (.slice AH xs.length cH) v (.slice AH xs.length cH) xs xs := Two.refl (wtr_below hw hB0) (pw_own_below ho hB0) hn
  have KEEP : Hid (∀ W' v' h' ys zs, Two W0 W' base g v (.slice AH xs.length cH) v' h' ys zs → ∀ j, W'.cell? ⟨W.heap.size, j, none⟩ = (#[.int .i64 2, .int .i64 which, .int .i64 m, .int .u64 n, .slice A b.length c] : Array Value)[j]?) := by
    intro W' v' h' ys zs t j
    have h2 := (t.fr W.heap.size (by omega) (by omega) (fun e => by have := own_lt hw.own _ e.symm; omega) (fun e => by have := own_lt ho _ e.symm; omega)).trans hblk
    exact blk_cell h2 j
  have RD : Hid (∀ W', Below base W0 W' → ReadsOf I 0 W' A b.length b) := fun W' hb => hr W' ((hB0.mono hbase).trans hb)
  have HLV : Hid (∀ k, v.ownBlock = some k → k < W0.heap.size) := fun k hk => by have := own_lt hw.own k hk; omega
  have HLH : Hid (∀ k, (Value.slice AH xs.length cH).ownBlock = some k → k < W0.heap.size) := fun k hk => by have := own_lt ho k hk; omega
  have HG := Lib.hid hgl
  have HBS := Lib.hid hbase
  have HW0 := Lib.hid hW0
  have HSZ := Lib.hid hsz
  have HBS0 : Hid (base ≤ W0.heap.size) := Nat.le_trans hbase hB0.size
  have T0 := Lib.hid t0
  have CL := Lib.hid (lend_calls b A c W0 (Kd.C_of_reads (RD.out W0 (Below.refl _ _))) hbl)
  have y4 : W0.cell? ⟨W.heap.size, 4, none⟩ = some (.slice A b.length c) := KEEP.out _ _ _ _ _ t0 4
  clear hW0 hsz hB0 hblk hgl t0 hw ho hn hbase hr hv hbl hm
  go_enter Try.func8, Try.ntmps8
  go_wp2_with fail
  rw [← HW0.out]
  go_wp2_with fail
  refine CL.out.mono ?_; rintro e w1 ⟨gi, cap, rfl, ho1, hb1⟩
  have T1 := Lib.hid (T0.out.below HBS0.out hb1)
  have L1 : Hid (Lent W0 w1 g v (.slice AH xs.length cH) gi cap (marked b)) :=
    have hle : W0.heap.size ≤ gi := own_base ho1 gi rfl
    ⟨ho1, hle, by have := HG.out; have := HSZ.out; omega, fun e => by have := HLV.out gi e; omega, fun e => by have := HLH.out gi e; omega⟩
  have y0 : w1.cell? ⟨W.heap.size, 0, none⟩ = some (.int .i64 2) := KEEP.out _ _ _ _ _ T1.out 0
  have y3 : w1.cell? ⟨W.heap.size, 3, none⟩ = some (.int .u64 n) := KEEP.out _ _ _ _ _ T1.out 3
  clear ho1 hb1 y4
  obtain ⟨q, hq⟩ : ∃ q, q = n % 4294967296 := ⟨_, rfl⟩
  have qv : (n : Int) % 4294967296 = (q : Int) := by omega
  have HQ := Lib.hid hq
  have CW := Lib.hid (wu32_calls q w1 base g v xs T1.out.wt (Nat.le_trans HBS0.out T1.out.size) (by have := HQ.out; omega) (by have := HM.out; omega))
  clear hq
  go_wp2_with fail
  refine CW.out.mono ?_; rintro e w2 ⟨rfl, v2, hp2⟩
  have T2 := Lib.hid (T1.out.put hp2)
  have L2 := Lib.hid (L1.out.put hp2)
  have z3 : w2.cell? ⟨W.heap.size, 3, none⟩ = some (.int .u64 n) := KEEP.out _ _ _ _ _ T2.out 3
  have CR := Lib.hid (ru32_calls q w2 w2.heap.size (Nat.le_refl _) (by have := HQ.out; omega))
  clear hp2 y0 y3
  go_wp2_with fail
  refine CR.out.mono ?_; rintro e w3 ⟨r3, rfl, ho3, hb3⟩
  obtain ⟨A3, c3, rfl, hr3⟩ := reads_of_own ho3
  have RR := Lib.hid hr3
  have T3 := Lib.hid (T2.out.below HBS0.out hb3)
  have L3 := Lib.hid (L2.out.below hb3)
  have HLL : Hid (4 ≤ 10) := (show (4 : Nat) ≤ 10 by decide)
  clear ho3 hr3 hb3 z3
  go_wp2_with (at_builtin; refine print_append_row_of I 0 (w0 := W0) base rfl (.tmp 36) (.tmp 40) 22 5 (.int .u8 0) 1 rfl Try.underlying22 info5 rfl (by omega) (fun _ => rfl) (.slice AH xs.length cH) xs (fixL q 4) A3 4 c3 rfl rfl ?h1 ?h2 ?h3 ?h4 ?h5 ?_; (case h1 => exact T3.out.ho); (case h2 => exact RR.out); (case h3 => exact T3.out.bl); (case h4 => exact Nat.le_trans HBS0.out T3.out.size); (case h5 => have := HM.out; have := HLL.out; omega); intro hv4 w4 ho4 hb4 hg4 hat4; obtain ⟨A4, m4, c4, rfl⟩ := slice_form ho4; have T4 := Lib.hid (T3.out.held HBS0.out hg4 ho4 hat4); have L4 := Lib.hid (L3.out.held hg4 hat4); have u4 : w4.cell? ⟨W.heap.size, 4, none⟩ = some (.slice A b.length c) := KEEP.out _ _ _ _ _ T4.out 4; clear ho4 hb4 hg4 hat4)
  have CI := Lib.hid (intact_calls b A c gi cap W0.heap.size w4 (RD.out w4 T4.out.bl) HBL.out L4.out.io)
  go_wp2_with fail
  refine CI.out.mono ?_; rintro e w5 ⟨rfl, hb5⟩
  have T5 := Lib.hid (T4.out.below HBS0.out hb5)
  have L5 := Lib.hid (L4.out.below hb5)
  clear hb5 u4
  go_wp2_with fail
  go_loopw [10] (fun i wr => ∃ (k : Nat) (ms : List Int), i = .int .i64 k ∧ k ≤ b.length ∧ ms.length = (marked b).length ∧ Two W0 wr base g v (.slice AH xs.length cH) v2 (.slice A4 m4 c4) (xs ++ fixL q 4) (xs ++ fixL q 4) ∧ Lent W0 wr g v2 (.slice A4 m4 c4) gi cap ms) (fun i _ => b.length - (intOf i).toNat)
  case atStart => exact ⟨0, _, rfl, by omega, rfl, T5.out, L5.out⟩
  case round =>
    obtain ⟨k, ms, rfl, hk, hml, ht, hl⟩ := hrel
    have TT := Lib.hid ht
    have LL := Lib.hid hl
    have HML := Lib.hid hml
    clear ht hl hml
    have bl : (b.length : Int) ≤ 1048576 := by have := HBL.out; omega
    by_cases hlt : k < b.length
    · have hat := own_at_of (d := 0) LL.out.io (k : Int) (by omega) (by have := HML.out; rw [marked_length] at this; omega)
      rw [Int.toNat_natCast] at hat
      have a1 := hat.1
      have a2 := hat.2
      have FF := Lib.hid (Lent.fill HBS0.out TT.out LL.out k)
      have i1 : (k : Int) < (b.length : Int) := by omega
      have i0 : (0 : Int) ≤ (k : Int) := by omega
      clear hat
      go_wp2_with fail
      go_roundw
      case rel => exact ⟨k + 1, _, by go_num, by omega, by rw [List.length_set]; exact HML.out, FF.out.1, FF.out.2⟩
      case measure => simp [intOf]; omega
    · have i1 : ¬ (k : Int) < (b.length : Int) := by omega
      go_wp2_with fail
      go_ret2
      have hT := TT.out
      rw [HW0.out] at hT
      have hF := Two.of_alloc HBS.out hT
      have hE : xs ++ opBytes 2 n b = (xs ++ fixL q 4) := by show xs ++ opBytes 2 n b = _; rw [HQ.out]; rfl
      exact ⟨v2, (.slice A4 m4 c4), rfl, by rw [hE]; exact hF⟩
set_option maxRecDepth 100000 in
set_option maxHeartbeats 3200000 in
theorem writes_3 (which m : Int) (n : Nat) (b : List Int) (A : Option Addr) (c : Nat) (W : World) (base g : Nat) (v h : Value) (xs : List Int) (hw : Wtr W base g v xs) (ho : W.ownsRow base 5 1 h xs.length (encs I xs)) (hn : NeRow v h) (hbase : base ≤ W.heap.size)
    (hr : ∀ W', Below base W W' → ReadsOf I 0 W' A b.length b) (hv : n < 18446744073709551616) (hbl : b.length ≤ 1048576) (hm : xs.length ≤ 35184372088832) :
    Calls Try.prog 8 #[.pointer (some ⟨g, 0, none⟩), h, .agg #[.int .i64 3, .int .i64 which, .int .i64 m, .int .u64 n, .slice A b.length c]] W fun e w' => ∃ v' h', e = .returned (.tuple #[h', .bool true]) ∧ Two W w' base g v h v' h' (xs ++ opBytes 3 n b) (xs ++ opBytes 3 n b) := by
  obtain ⟨AH, nH, cH, rfl⟩ := slice_form ho
  obtain rfl : nH = xs.length := by
    rcases ho.2 with ⟨e, e2⟩ | ⟨_, _, _, e, _⟩
    · injection e with _ e _; omega
    · injection e with _ e _
  have HM := Lib.hid hm
  have HBL := Lib.hid hbl
  have HN := Lib.hid hv
  obtain ⟨W0, hW0⟩ : ∃ W0, W0 = W.alloc (.cells #[.int .i64 3, .int .i64 which, .int .i64 m, .int .u64 n, .slice A b.length c] 63) := ⟨_, rfl⟩
  have hsz : W0.heap.size = W.heap.size + 1 := by rw [hW0]; simp
  have hB0 : Below W.heap.size W W0 := by rw [hW0]; exact (Below.refl _ _).alloc (Nat.le_refl _) _
  have hblk : W0.heap[W.heap.size]? = some (.cells #[.int .i64 3, .int .i64 which, .int .i64 m, .int .u64 n, .slice A b.length c] 63 (0, 0)) := by rw [hW0]; exact blk_new W _
  have hgl : g < W.heap.size := blk_lt hw.blk
  have t0 : Two W0 W0 base g v (.slice AH xs.length cH) v (.slice AH xs.length cH) xs xs := Two.refl (wtr_below hw hB0) (pw_own_below ho hB0) hn
  have KEEP : Hid (∀ W' v' h' ys zs, Two W0 W' base g v (.slice AH xs.length cH) v' h' ys zs → ∀ j, W'.cell? ⟨W.heap.size, j, none⟩ = (#[.int .i64 3, .int .i64 which, .int .i64 m, .int .u64 n, .slice A b.length c] : Array Value)[j]?) := by
    intro W' v' h' ys zs t j
    have h2 := (t.fr W.heap.size (by omega) (by omega) (fun e => by have := own_lt hw.own _ e.symm; omega) (fun e => by have := own_lt ho _ e.symm; omega)).trans hblk
    exact blk_cell h2 j
  have RD : Hid (∀ W', Below base W0 W' → ReadsOf I 0 W' A b.length b) := fun W' hb => hr W' ((hB0.mono hbase).trans hb)
  have HLV : Hid (∀ k, v.ownBlock = some k → k < W0.heap.size) := fun k hk => by have := own_lt hw.own k hk; omega
  have HLH : Hid (∀ k, (Value.slice AH xs.length cH).ownBlock = some k → k < W0.heap.size) := fun k hk => by have := own_lt ho k hk; omega
  have HG := Lib.hid hgl
  have HBS := Lib.hid hbase
  have HW0 := Lib.hid hW0
  have HSZ := Lib.hid hsz
  have HBS0 : Hid (base ≤ W0.heap.size) := Nat.le_trans hbase hB0.size
  have T0 := Lib.hid t0
  have CL := Lib.hid (lend_calls b A c W0 (Kd.C_of_reads (RD.out W0 (Below.refl _ _))) hbl)
  have y4 : W0.cell? ⟨W.heap.size, 4, none⟩ = some (.slice A b.length c) := KEEP.out _ _ _ _ _ t0 4
  clear hW0 hsz hB0 hblk hgl t0 hw ho hn hbase hr hv hbl hm
  go_enter Try.func8, Try.ntmps8
  go_wp2_with fail
  rw [← HW0.out]
  go_wp2_with fail
  refine CL.out.mono ?_; rintro e w1 ⟨gi, cap, rfl, ho1, hb1⟩
  have T1 := Lib.hid (T0.out.below HBS0.out hb1)
  have L1 : Hid (Lent W0 w1 g v (.slice AH xs.length cH) gi cap (marked b)) :=
    have hle : W0.heap.size ≤ gi := own_base ho1 gi rfl
    ⟨ho1, hle, by have := HG.out; have := HSZ.out; omega, fun e => by have := HLV.out gi e; omega, fun e => by have := HLH.out gi e; omega⟩
  have y0 : w1.cell? ⟨W.heap.size, 0, none⟩ = some (.int .i64 3) := KEEP.out _ _ _ _ _ T1.out 0
  have y3 : w1.cell? ⟨W.heap.size, 3, none⟩ = some (.int .u64 n) := KEEP.out _ _ _ _ _ T1.out 3
  clear ho1 hb1 y4
  have CW := Lib.hid (wu64_calls n w1 base g v xs T1.out.wt (Nat.le_trans HBS0.out T1.out.size) (HN.out) (by have := HM.out; omega))
  go_wp2_with fail
  refine CW.out.mono ?_; rintro e w2 ⟨rfl, v2, hp2⟩
  have T2 := Lib.hid (T1.out.put hp2)
  have L2 := Lib.hid (L1.out.put hp2)
  have z3 : w2.cell? ⟨W.heap.size, 3, none⟩ = some (.int .u64 n) := KEEP.out _ _ _ _ _ T2.out 3
  have CR := Lib.hid (ru64_calls n w2 w2.heap.size (Nat.le_refl _) (HN.out))
  clear hp2 y0 y3
  go_wp2_with fail
  refine CR.out.mono ?_; rintro e w3 ⟨r3, rfl, ho3, hb3⟩
  obtain ⟨A3, c3, rfl, hr3⟩ := reads_of_own ho3
  have RR := Lib.hid hr3
  have T3 := Lib.hid (T2.out.below HBS0.out hb3)
  have L3 := Lib.hid (L2.out.below hb3)
  have HLL : Hid (8 ≤ 10) := (show (8 : Nat) ≤ 10 by decide)
  clear ho3 hr3 hb3 z3
  go_wp2_with (at_builtin; refine print_append_row_of I 0 (w0 := W0) base rfl (.tmp 48) (.tmp 51) 22 5 (.int .u8 0) 1 rfl Try.underlying22 info5 rfl (by omega) (fun _ => rfl) (.slice AH xs.length cH) xs (fixL n 8) A3 8 c3 rfl rfl ?h1 ?h2 ?h3 ?h4 ?h5 ?_; (case h1 => exact T3.out.ho); (case h2 => exact RR.out); (case h3 => exact T3.out.bl); (case h4 => exact Nat.le_trans HBS0.out T3.out.size); (case h5 => have := HM.out; have := HLL.out; omega); intro hv4 w4 ho4 hb4 hg4 hat4; obtain ⟨A4, m4, c4, rfl⟩ := slice_form ho4; have T4 := Lib.hid (T3.out.held HBS0.out hg4 ho4 hat4); have L4 := Lib.hid (L3.out.held hg4 hat4); have u4 : w4.cell? ⟨W.heap.size, 4, none⟩ = some (.slice A b.length c) := KEEP.out _ _ _ _ _ T4.out 4; clear ho4 hb4 hg4 hat4)
  have CI := Lib.hid (intact_calls b A c gi cap W0.heap.size w4 (RD.out w4 T4.out.bl) HBL.out L4.out.io)
  go_wp2_with fail
  refine CI.out.mono ?_; rintro e w5 ⟨rfl, hb5⟩
  have T5 := Lib.hid (T4.out.below HBS0.out hb5)
  have L5 := Lib.hid (L4.out.below hb5)
  clear hb5 u4
  go_wp2_with fail
  go_loopw [10] (fun i wr => ∃ (k : Nat) (ms : List Int), i = .int .i64 k ∧ k ≤ b.length ∧ ms.length = (marked b).length ∧ Two W0 wr base g v (.slice AH xs.length cH) v2 (.slice A4 m4 c4) (xs ++ fixL n 8) (xs ++ fixL n 8) ∧ Lent W0 wr g v2 (.slice A4 m4 c4) gi cap ms) (fun i _ => b.length - (intOf i).toNat)
  case atStart => exact ⟨0, _, rfl, by omega, rfl, T5.out, L5.out⟩
  case round =>
    obtain ⟨k, ms, rfl, hk, hml, ht, hl⟩ := hrel
    have TT := Lib.hid ht
    have LL := Lib.hid hl
    have HML := Lib.hid hml
    clear ht hl hml
    have bl : (b.length : Int) ≤ 1048576 := by have := HBL.out; omega
    by_cases hlt : k < b.length
    · have hat := own_at_of (d := 0) LL.out.io (k : Int) (by omega) (by have := HML.out; rw [marked_length] at this; omega)
      rw [Int.toNat_natCast] at hat
      have a1 := hat.1
      have a2 := hat.2
      have FF := Lib.hid (Lent.fill HBS0.out TT.out LL.out k)
      have i1 : (k : Int) < (b.length : Int) := by omega
      have i0 : (0 : Int) ≤ (k : Int) := by omega
      clear hat
      go_wp2_with fail
      go_roundw
      case rel => exact ⟨k + 1, _, by go_num, by omega, by rw [List.length_set]; exact HML.out, FF.out.1, FF.out.2⟩
      case measure => simp [intOf]; omega
    · have i1 : ¬ (k : Int) < (b.length : Int) := by omega
      go_wp2_with fail
      go_ret2
      have hT := TT.out
      rw [HW0.out] at hT
      have hF := Two.of_alloc HBS.out hT
      have hE : xs ++ opBytes 3 n b = (xs ++ fixL n 8) := rfl
      exact ⟨v2, (.slice A4 m4 c4), rfl, by rw [hE]; exact hF⟩
set_option maxRecDepth 100000 in
set_option maxHeartbeats 3200000 in
theorem writes_4 (which m : Int) (n : Nat) (b : List Int) (A : Option Addr) (c : Nat) (W : World) (base g : Nat) (v h : Value) (xs : List Int) (hw : Wtr W base g v xs) (ho : W.ownsRow base 5 1 h xs.length (encs I xs)) (hn : NeRow v h) (hbase : base ≤ W.heap.size)
    (hr : ∀ W', Below base W W' → ReadsOf I 0 W' A b.length b) (hv : n < 18446744073709551616) (hbl : b.length ≤ 1048576) (hm : xs.length ≤ 35184372088832) :
    Calls Try.prog 8 #[.pointer (some ⟨g, 0, none⟩), h, .agg #[.int .i64 4, .int .i64 which, .int .i64 m, .int .u64 n, .slice A b.length c]] W fun e w' => ∃ v' h', e = .returned (.tuple #[h', .bool true]) ∧ Two W w' base g v h v' h' (xs ++ opBytes 4 n b) (xs ++ opBytes 4 n b) := by
  obtain ⟨AH, nH, cH, rfl⟩ := slice_form ho
  obtain rfl : nH = xs.length := by
    rcases ho.2 with ⟨e, e2⟩ | ⟨_, _, _, e, _⟩
    · injection e with _ e _; omega
    · injection e with _ e _
  have HM := Lib.hid hm
  have HBL := Lib.hid hbl
  have HN := Lib.hid hv
  obtain ⟨W0, hW0⟩ : ∃ W0, W0 = W.alloc (.cells #[.int .i64 4, .int .i64 which, .int .i64 m, .int .u64 n, .slice A b.length c] 63) := ⟨_, rfl⟩
  have hsz : W0.heap.size = W.heap.size + 1 := by rw [hW0]; simp
  have hB0 : Below W.heap.size W W0 := by rw [hW0]; exact (Below.refl _ _).alloc (Nat.le_refl _) _
  have hblk : W0.heap[W.heap.size]? = some (.cells #[.int .i64 4, .int .i64 which, .int .i64 m, .int .u64 n, .slice A b.length c] 63 (0, 0)) := by rw [hW0]; exact blk_new W _
  have hgl : g < W.heap.size := blk_lt hw.blk
  have t0 : Two W0 W0 base g v (.slice AH xs.length cH) v (.slice AH xs.length cH) xs xs := Two.refl (wtr_below hw hB0) (pw_own_below ho hB0) hn
  have KEEP : Hid (∀ W' v' h' ys zs, Two W0 W' base g v (.slice AH xs.length cH) v' h' ys zs → ∀ j, W'.cell? ⟨W.heap.size, j, none⟩ = (#[.int .i64 4, .int .i64 which, .int .i64 m, .int .u64 n, .slice A b.length c] : Array Value)[j]?) := by
    intro W' v' h' ys zs t j
    have h2 := (t.fr W.heap.size (by omega) (by omega) (fun e => by have := own_lt hw.own _ e.symm; omega) (fun e => by have := own_lt ho _ e.symm; omega)).trans hblk
    exact blk_cell h2 j
  have RD : Hid (∀ W', Below base W0 W' → ReadsOf I 0 W' A b.length b) := fun W' hb => hr W' ((hB0.mono hbase).trans hb)
  have HLV : Hid (∀ k, v.ownBlock = some k → k < W0.heap.size) := fun k hk => by have := own_lt hw.own k hk; omega
  have HLH : Hid (∀ k, (Value.slice AH xs.length cH).ownBlock = some k → k < W0.heap.size) := fun k hk => by have := own_lt ho k hk; omega
  have HG := Lib.hid hgl
  have HBS := Lib.hid hbase
  have HW0 := Lib.hid hW0
  have HSZ := Lib.hid hsz
  have HBS0 : Hid (base ≤ W0.heap.size) := Nat.le_trans hbase hB0.size
  have T0 := Lib.hid t0
  have CL := Lib.hid (lend_calls b A c W0 (Kd.C_of_reads (RD.out W0 (Below.refl _ _))) hbl)
  have y4 : W0.cell? ⟨W.heap.size, 4, none⟩ = some (.slice A b.length c) := KEEP.out _ _ _ _ _ t0 4
  clear hW0 hsz hB0 hblk hgl t0 hw ho hn hbase hr hv hbl hm
  go_enter Try.func8, Try.ntmps8
  go_wp2_with fail
  rw [← HW0.out]
  go_wp2_with fail
  refine CL.out.mono ?_; rintro e w1 ⟨gi, cap, rfl, ho1, hb1⟩
  have T1 := Lib.hid (T0.out.below HBS0.out hb1)
  have L1 : Hid (Lent W0 w1 g v (.slice AH xs.length cH) gi cap (marked b)) :=
    have hle : W0.heap.size ≤ gi := own_base ho1 gi rfl
    ⟨ho1, hle, by have := HG.out; have := HSZ.out; omega, fun e => by have := HLV.out gi e; omega, fun e => by have := HLH.out gi e; omega⟩
  have y0 : w1.cell? ⟨W.heap.size, 0, none⟩ = some (.int .i64 4) := KEEP.out _ _ _ _ _ T1.out 0
  have y3 : w1.cell? ⟨W.heap.size, 3, none⟩ = some (.int .u64 n) := KEEP.out _ _ _ _ _ T1.out 3
  clear ho1 hb1 y4
  have CW := Lib.hid (wvar_calls n w1 base g v xs T1.out.wt (Nat.le_trans HBS0.out T1.out.size) (HN.out) (by have := HM.out; omega))
  go_wp2_with fail
  refine CW.out.mono ?_; rintro e w2 ⟨rfl, v2, hp2⟩
  have T2 := Lib.hid (T1.out.put hp2)
  have L2 := Lib.hid (L1.out.put hp2)
  have z3 : w2.cell? ⟨W.heap.size, 3, none⟩ = some (.int .u64 n) := KEEP.out _ _ _ _ _ T2.out 3
  have CR := Lib.hid (rvar_calls n w2 w2.heap.size (Nat.le_refl _) HN.out)
  clear hp2 y0 y3
  go_wp2_with fail
  refine CR.out.mono ?_; rintro e w3 ⟨r3, rfl, ho3, hb3⟩
  obtain ⟨A3, c3, rfl, hr3⟩ := reads_of_own ho3
  have RR := Lib.hid hr3
  have T3 := Lib.hid (T2.out.below HBS0.out hb3)
  have L3 := Lib.hid (L2.out.below hb3)
  have HLL : Hid ((vr n).length ≤ 10) := vr_length n 9 (by have := HN.out; omega)
  clear ho3 hr3 hb3 z3
  go_wp2_with (at_builtin; refine print_append_row_of I 0 (w0 := W0) base rfl (.tmp 59) (.tmp 62) 22 5 (.int .u8 0) 1 rfl Try.underlying22 info5 rfl (by omega) (fun _ => rfl) (.slice AH xs.length cH) xs (vr n) A3 (vr n).length c3 rfl rfl ?h1 ?h2 ?h3 ?h4 ?h5 ?_; (case h1 => exact T3.out.ho); (case h2 => exact RR.out); (case h3 => exact T3.out.bl); (case h4 => exact Nat.le_trans HBS0.out T3.out.size); (case h5 => have := HM.out; have := HLL.out; omega); intro hv4 w4 ho4 hb4 hg4 hat4; obtain ⟨A4, m4, c4, rfl⟩ := slice_form ho4; have T4 := Lib.hid (T3.out.held HBS0.out hg4 ho4 hat4); have L4 := Lib.hid (L3.out.held hg4 hat4); have u4 : w4.cell? ⟨W.heap.size, 4, none⟩ = some (.slice A b.length c) := KEEP.out _ _ _ _ _ T4.out 4; clear ho4 hb4 hg4 hat4)
  have CI := Lib.hid (intact_calls b A c gi cap W0.heap.size w4 (RD.out w4 T4.out.bl) HBL.out L4.out.io)
  go_wp2_with fail
  refine CI.out.mono ?_; rintro e w5 ⟨rfl, hb5⟩
  have T5 := Lib.hid (T4.out.below HBS0.out hb5)
  have L5 := Lib.hid (L4.out.below hb5)
  clear hb5 u4
  go_wp2_with fail
  go_loopw [10] (fun i wr => ∃ (k : Nat) (ms : List Int), i = .int .i64 k ∧ k ≤ b.length ∧ ms.length = (marked b).length ∧ Two W0 wr base g v (.slice AH xs.length cH) v2 (.slice A4 m4 c4) (xs ++ vr n) (xs ++ vr n) ∧ Lent W0 wr g v2 (.slice A4 m4 c4) gi cap ms) (fun i _ => b.length - (intOf i).toNat)
  case atStart => exact ⟨0, _, rfl, by omega, rfl, T5.out, L5.out⟩
  case round =>
    obtain ⟨k, ms, rfl, hk, hml, ht, hl⟩ := hrel
    have TT := Lib.hid ht
    have LL := Lib.hid hl
    have HML := Lib.hid hml
    clear ht hl hml
    have bl : (b.length : Int) ≤ 1048576 := by have := HBL.out; omega
    by_cases hlt : k < b.length
    · have hat := own_at_of (d := 0) LL.out.io (k : Int) (by omega) (by have := HML.out; rw [marked_length] at this; omega)
      rw [Int.toNat_natCast] at hat
      have a1 := hat.1
      have a2 := hat.2
      have FF := Lib.hid (Lent.fill HBS0.out TT.out LL.out k)
      have i1 : (k : Int) < (b.length : Int) := by omega
      have i0 : (0 : Int) ≤ (k : Int) := by omega
      clear hat
      go_wp2_with fail
      go_roundw
      case rel => exact ⟨k + 1, _, by go_num, by omega, by rw [List.length_set]; exact HML.out, FF.out.1, FF.out.2⟩
      case measure => simp [intOf]; omega
    · have i1 : ¬ (k : Int) < (b.length : Int) := by omega
      go_wp2_with fail
      go_ret2
      have hT := TT.out
      rw [HW0.out] at hT
      have hF := Two.of_alloc HBS.out hT
      have hE : xs ++ opBytes 4 n b = (xs ++ vr n) := rfl
      exact ⟨v2, (.slice A4 m4 c4), rfl, by rw [hE]; exact hF⟩
set_option maxRecDepth 100000 in
set_option maxHeartbeats 3200000 in
theorem writes_5 (which m : Int) (n : Nat) (b : List Int) (A : Option Addr) (c : Nat) (W : World) (base g : Nat) (v h : Value) (xs : List Int) (hw : Wtr W base g v xs) (ho : W.ownsRow base 5 1 h xs.length (encs I xs)) (hn : NeRow v h) (hbase : base ≤ W.heap.size)
    (hr : ∀ W', Below base W W' → ReadsOf I 0 W' A b.length b) (hv : n < 18446744073709551616) (hbl : b.length ≤ 1048576) (hm : xs.length ≤ 35184372088832) :
    Calls Try.prog 8 #[.pointer (some ⟨g, 0, none⟩), h, .agg #[.int .i64 5, .int .i64 which, .int .i64 m, .int .u64 n, .slice A b.length c]] W fun e w' => ∃ v' h', e = .returned (.tuple #[h', .bool true]) ∧ Two W w' base g v h v' h' (xs ++ opBytes 5 n b) (xs ++ opBytes 5 n b) := by
  obtain ⟨AH, nH, cH, rfl⟩ := slice_form ho
  obtain rfl : nH = xs.length := by
    rcases ho.2 with ⟨e, e2⟩ | ⟨_, _, _, e, _⟩
    · injection e with _ e _; omega
    · injection e with _ e _
  have HM := Lib.hid hm
  have HBL := Lib.hid hbl
  have HN := Lib.hid hv
  obtain ⟨W0, hW0⟩ : ∃ W0, W0 = W.alloc (.cells #[.int .i64 5, .int .i64 which, .int .i64 m, .int .u64 n, .slice A b.length c] 63) := ⟨_, rfl⟩
  have hsz : W0.heap.size = W.heap.size + 1 := by rw [hW0]; simp
  have hB0 : Below W.heap.size W W0 := by rw [hW0]; exact (Below.refl _ _).alloc (Nat.le_refl _) _
  have hblk : W0.heap[W.heap.size]? = some (.cells #[.int .i64 5, .int .i64 which, .int .i64 m, .int .u64 n, .slice A b.length c] 63 (0, 0)) := by rw [hW0]; exact blk_new W _
  have hgl : g < W.heap.size := blk_lt hw.blk
  have t0 : Two W0 W0 base g v (.slice AH xs.length cH) v (.slice AH xs.length cH) xs xs := Two.refl (wtr_below hw hB0) (pw_own_below ho hB0) hn
  have KEEP : Hid (∀ W' v' h' ys zs, Two W0 W' base g v (.slice AH xs.length cH) v' h' ys zs → ∀ j, W'.cell? ⟨W.heap.size, j, none⟩ = (#[.int .i64 5, .int .i64 which, .int .i64 m, .int .u64 n, .slice A b.length c] : Array Value)[j]?) := by
    intro W' v' h' ys zs t j
    have h2 := (t.fr W.heap.size (by omega) (by omega) (fun e => by have := own_lt hw.own _ e.symm; omega) (fun e => by have := own_lt ho _ e.symm; omega)).trans hblk
    exact blk_cell h2 j
  have RD : Hid (∀ W', Below base W0 W' → ReadsOf I 0 W' A b.length b) := fun W' hb => hr W' ((hB0.mono hbase).trans hb)
  have HLV : Hid (∀ k, v.ownBlock = some k → k < W0.heap.size) := fun k hk => by have := own_lt hw.own k hk; omega
  have HLH : Hid (∀ k, (Value.slice AH xs.length cH).ownBlock = some k → k < W0.heap.size) := fun k hk => by have := own_lt ho k hk; omega
  have HG := Lib.hid hgl
  have HBS := Lib.hid hbase
  have HW0 := Lib.hid hW0
  have HSZ := Lib.hid hsz
  have HBS0 : Hid (base ≤ W0.heap.size) := Nat.le_trans hbase hB0.size
  have T0 := Lib.hid t0
  have CL := Lib.hid (lend_calls b A c W0 (Kd.C_of_reads (RD.out W0 (Below.refl _ _))) hbl)
  have y4 : W0.cell? ⟨W.heap.size, 4, none⟩ = some (.slice A b.length c) := KEEP.out _ _ _ _ _ t0 4
  clear hW0 hsz hB0 hblk hgl t0 hw ho hn hbase hr hv hbl hm
  go_enter Try.func8, Try.ntmps8
  go_wp2_with fail
  rw [← HW0.out]
  go_wp2_with fail
  refine CL.out.mono ?_; rintro e w1 ⟨gi, cap, rfl, ho1, hb1⟩
  have T1 := Lib.hid (T0.out.below HBS0.out hb1)
  have L1 : Hid (Lent W0 w1 g v (.slice AH xs.length cH) gi cap (marked b)) :=
    have hle : W0.heap.size ≤ gi := own_base ho1 gi rfl
    ⟨ho1, hle, by have := HG.out; have := HSZ.out; omega, fun e => by have := HLV.out gi e; omega, fun e => by have := HLH.out gi e; omega⟩
  have y0 : w1.cell? ⟨W.heap.size, 0, none⟩ = some (.int .i64 5) := KEEP.out _ _ _ _ _ T1.out 0
  clear ho1 hb1 y4
  have RIN : Hid (∀ w', KeepBut w1 w' g v.ownBlock → ReadsOf I 0 w' (some ⟨gi, 0, none⟩) b.length b) := fun w' hk => own_reads (hk.own L1.out.io (fun e => L1.out.ng (by injection e with e; exact e.symm)) (.inr (fun e => L1.out.nv e.symm))) (marked_take b)
  have CW := Lib.hid (wbytes_calls b (some ⟨gi, 0, none⟩) cap w1 base g v xs T1.out.wt (Nat.le_trans HBS0.out T1.out.size) RIN.out (by have := HM.out; have := HBL.out; omega))
  go_wp2_with fail
  refine CW.out.mono ?_; rintro e w2 ⟨rfl, v2, hp2⟩
  have T2 := Lib.hid (T1.out.put hp2)
  have L2 := Lib.hid (L1.out.put hp2)
  have z4 : w2.cell? ⟨W.heap.size, 4, none⟩ = some (.slice A b.length c) := KEEP.out _ _ _ _ _ T2.out 4
  clear hp2 y0
  obtain ⟨tb, htb⟩ : ∃ tb, tb = vr b.length ++ b := ⟨_, rfl⟩
  have HTB := Lib.hid htb
  have hcr := rtext_calls b A c w2 w2.heap.size (Nat.le_refl _) (RD.out w2 T2.out.bl) (by have := HBL.out; omega)
  rw [← htb] at hcr T2
  have CR := Lib.hid hcr
  have HLL : Hid (tb.length ≤ 1048600) := by
    have := vr_length b.length 9 (by have := HBL.out; omega)
    have := HBL.out
    show tb.length ≤ 1048600
    rw [htb, List.length_append]; omega
  clear htb hcr
  go_wp2_with fail
  refine CR.out.mono ?_; rintro e w3 ⟨r3, rfl, ho3, hb3⟩
  obtain ⟨A3, c3, rfl, hr3⟩ := reads_of_own ho3
  have RR := Lib.hid hr3
  have T3 := Lib.hid (T2.out.below HBS0.out hb3)
  have L3 := Lib.hid (L2.out.below hb3)
  clear ho3 hr3 hb3 z4
  go_wp2_with (at_builtin; refine print_append_row_of I 0 (w0 := W0) base rfl (.tmp 69) (.tmp 72) 22 5 (.int .u8 0) 1 rfl Try.underlying22 info5 rfl (by omega) (fun _ => rfl) (.slice AH xs.length cH) xs tb A3 tb.length c3 rfl rfl ?h1 ?h2 ?h3 ?h4 ?h5 ?_; (case h1 => exact T3.out.ho); (case h2 => exact RR.out); (case h3 => exact T3.out.bl); (case h4 => exact Nat.le_trans HBS0.out T3.out.size); (case h5 => have := HM.out; have := HLL.out; omega); intro hv4 w4 ho4 hb4 hg4 hat4; obtain ⟨A4, m4, c4, rfl⟩ := slice_form ho4; have T4 := Lib.hid (T3.out.held HBS0.out hg4 ho4 hat4); have L4 := Lib.hid (L3.out.held hg4 hat4); have u4 : w4.cell? ⟨W.heap.size, 4, none⟩ = some (.slice A b.length c) := KEEP.out _ _ _ _ _ T4.out 4; clear ho4 hb4 hg4 hat4)
  have CI := Lib.hid (intact_calls b A c gi cap W0.heap.size w4 (RD.out w4 T4.out.bl) HBL.out L4.out.io)
  go_wp2_with fail
  refine CI.out.mono ?_; rintro e w5 ⟨rfl, hb5⟩
  have T5 := Lib.hid (T4.out.below HBS0.out hb5)
  have L5 := Lib.hid (L4.out.below hb5)
  clear hb5 u4
  go_wp2_with fail
  go_loopw [10] (fun i wr => ∃ (k : Nat) (ms : List Int), i = .int .i64 k ∧ k ≤ b.length ∧ ms.length = (marked b).length ∧ Two W0 wr base g v (.slice AH xs.length cH) v2 (.slice A4 m4 c4) (xs ++ tb) (xs ++ tb) ∧ Lent W0 wr g v2 (.slice A4 m4 c4) gi cap ms) (fun i _ => b.length - (intOf i).toNat)
  case atStart => exact ⟨0, _, rfl, by omega, rfl, T5.out, L5.out⟩
  case round =>
    obtain ⟨k, ms, rfl, hk, hml, ht, hl⟩ := hrel
    have TT := Lib.hid ht
    have LL := Lib.hid hl
    have HML := Lib.hid hml
    clear ht hl hml
    have bl : (b.length : Int) ≤ 1048576 := by have := HBL.out; omega
    by_cases hlt : k < b.length
    · have hat := own_at_of (d := 0) LL.out.io (k : Int) (by omega) (by have := HML.out; rw [marked_length] at this; omega)
      rw [Int.toNat_natCast] at hat
      have a1 := hat.1
      have a2 := hat.2
      have FF := Lib.hid (Lent.fill HBS0.out TT.out LL.out k)
      have i1 : (k : Int) < (b.length : Int) := by omega
      have i0 : (0 : Int) ≤ (k : Int) := by omega
      clear hat
      go_wp2_with fail
      go_roundw
      case rel => exact ⟨k + 1, _, by go_num, by omega, by rw [List.length_set]; exact HML.out, FF.out.1, FF.out.2⟩
      case measure => simp [intOf]; omega
    · have i1 : ¬ (k : Int) < (b.length : Int) := by omega
      go_wp2_with fail
      go_ret2
      have hT := TT.out
      rw [HW0.out] at hT
      have hF := Two.of_alloc HBS.out hT
      have hE : xs ++ opBytes 5 n b = (xs ++ tb) := by show xs ++ opBytes 5 n b = _; rw [HTB.out]; rfl
      exact ⟨v2, (.slice A4 m4 c4), rfl, by rw [hE]; exact hF⟩
set_option maxRecDepth 100000 in
set_option maxHeartbeats 3200000 in
theorem writes_6 (which m : Int) (n : Nat) (b : List Int) (A : Option Addr) (c : Nat) (W : World) (base g : Nat) (v h : Value) (xs : List Int) (hw : Wtr W base g v xs) (ho : W.ownsRow base 5 1 h xs.length (encs I xs)) (hn : NeRow v h) (hbase : base ≤ W.heap.size)
    (hr : ∀ W', Below base W W' → ReadsOf I 0 W' A b.length b) (hv : n < 18446744073709551616) (hbl : b.length ≤ 1048576) (hm : xs.length ≤ 35184372088832) :
    Calls Try.prog 8 #[.pointer (some ⟨g, 0, none⟩), h, .agg #[.int .i64 6, .int .i64 which, .int .i64 m, .int .u64 n, .slice A b.length c]] W fun e w' => ∃ v' h', e = .returned (.tuple #[h', .bool true]) ∧ Two W w' base g v h v' h' (xs ++ opBytes 6 n b) (xs ++ opBytes 6 n b) := by
  obtain ⟨AH, nH, cH, rfl⟩ := slice_form ho
  obtain rfl : nH = xs.length := by
    rcases ho.2 with ⟨e, e2⟩ | ⟨_, _, _, e, _⟩
    · injection e with _ e _; omega
    · injection e with _ e _
  have HM := Lib.hid hm
  have HBL := Lib.hid hbl
  have HN := Lib.hid hv
  obtain ⟨W0, hW0⟩ : ∃ W0, W0 = W.alloc (.cells #[.int .i64 6, .int .i64 which, .int .i64 m, .int .u64 n, .slice A b.length c] 63) := ⟨_, rfl⟩
  have hsz : W0.heap.size = W.heap.size + 1 := by rw [hW0]; simp
  have hB0 : Below W.heap.size W W0 := by rw [hW0]; exact (Below.refl _ _).alloc (Nat.le_refl _) _
  have hblk : W0.heap[W.heap.size]? = some (.cells #[.int .i64 6, .int .i64 which, .int .i64 m, .int .u64 n, .slice A b.length c] 63 (0, 0)) := by rw [hW0]; exact blk_new W _
  have hgl : g < W.heap.size := blk_lt hw.blk
  have t0 : Two W0 W0 base g v (.slice AH xs.length cH) v (.slice AH xs.length cH) xs xs := Two.refl (wtr_below hw hB0) (pw_own_below ho hB0) hn
  have KEEP : Hid (∀ W' v' h' ys zs, Two W0 W' base g v (.slice AH xs.length cH) v' h' ys zs → ∀ j, W'.cell? ⟨W.heap.size, j, none⟩ = (#[.int .i64 6, .int .i64 which, .int .i64 m, .int .u64 n, .slice A b.length c] : Array Value)[j]?) := by
    intro W' v' h' ys zs t j
    have h2 := (t.fr W.heap.size (by omega) (by omega) (fun e => by have := own_lt hw.own _ e.symm; omega) (fun e => by have := own_lt ho _ e.symm; omega)).trans hblk
    exact blk_cell h2 j
  have RD : Hid (∀ W', Below base W0 W' → ReadsOf I 0 W' A b.length b) := fun W' hb => hr W' ((hB0.mono hbase).trans hb)
  have HLV : Hid (∀ k, v.ownBlock = some k → k < W0.heap.size) := fun k hk => by have := own_lt hw.own k hk; omega
  have HLH : Hid (∀ k, (Value.slice AH xs.length cH).ownBlock = some k → k < W0.heap.size) := fun k hk => by have := own_lt ho k hk; omega
  have HG := Lib.hid hgl
  have HBS := Lib.hid hbase
  have HW0 := Lib.hid hW0
  have HSZ := Lib.hid hsz
  have HBS0 : Hid (base ≤ W0.heap.size) := Nat.le_trans hbase hB0.size
  have T0 := Lib.hid t0
  have CL := Lib.hid (lend_calls b A c W0 (Kd.C_of_reads (RD.out W0 (Below.refl _ _))) hbl)
  have y4 : W0.cell? ⟨W.heap.size, 4, none⟩ = some (.slice A b.length c) := KEEP.out _ _ _ _ _ t0 4
  clear hW0 hsz hB0 hblk hgl t0 hw ho hn hbase hr hv hbl hm
  go_enter Try.func8, Try.ntmps8
  go_wp2_with fail
  rw [← HW0.out]
  go_wp2_with fail
  refine CL.out.mono ?_; rintro e w1 ⟨gi, cap, rfl, ho1, hb1⟩
  have T1 := Lib.hid (T0.out.below HBS0.out hb1)
  have L1 : Hid (Lent W0 w1 g v (.slice AH xs.length cH) gi cap (marked b)) :=
    have hle : W0.heap.size ≤ gi := own_base ho1 gi rfl
    ⟨ho1, hle, by have := HG.out; have := HSZ.out; omega, fun e => by have := HLV.out gi e; omega, fun e => by have := HLH.out gi e; omega⟩
  have y0 : w1.cell? ⟨W.heap.size, 0, none⟩ = some (.int .i64 6) := KEEP.out _ _ _ _ _ T1.out 0
  clear ho1 hb1 y4
  have RIN : Hid (∀ w', KeepBut w1 w' g v.ownBlock → ReadsOf I 0 w' (some ⟨gi, 0, none⟩) b.length b) := fun w' hk => own_reads (hk.own L1.out.io (fun e => L1.out.ng (by injection e with e; exact e.symm)) (.inr (fun e => L1.out.nv e.symm))) (marked_take b)
  have CW := Lib.hid (raw_calls w1 base g v xs b (some ⟨gi, 0, none⟩) cap T1.out.wt (Nat.le_trans HBS0.out T1.out.size) (RIN.out w1 (KeepBut.refl _ _ _)) (by have := HM.out; have := HBL.out; omega))
  go_wp2_with fail
  refine CW.out.mono ?_; rintro e w2 ⟨rfl, v2, hp2⟩
  have T2 := Lib.hid (T1.out.put hp2)
  have L2 := Lib.hid (L1.out.put hp2)
  have z4 : w2.cell? ⟨W.heap.size, 4, none⟩ = some (.slice A b.length c) := KEEP.out _ _ _ _ _ T2.out 4
  clear hp2 y0
  have T3 := T2
  have L3 := L2
  have RR : Hid (ReadsOf I 0 w2 A b.length b) := RD.out w2 T2.out.bl
  have HLL := HBL
  go_wp2_with (at_builtin; refine print_append_row_of I 0 (w0 := W0) base rfl (.tmp 79) (.tmp 81) 22 5 (.int .u8 0) 1 rfl Try.underlying22 info5 rfl (by omega) (fun _ => rfl) (.slice AH xs.length cH) xs b A b.length c rfl rfl ?h1 ?h2 ?h3 ?h4 ?h5 ?_; (case h1 => exact T3.out.ho); (case h2 => exact RR.out); (case h3 => exact T3.out.bl); (case h4 => exact Nat.le_trans HBS0.out T3.out.size); (case h5 => have := HM.out; have := HLL.out; omega); intro hv4 w4 ho4 hb4 hg4 hat4; obtain ⟨A4, m4, c4, rfl⟩ := slice_form ho4; have T4 := Lib.hid (T3.out.held HBS0.out hg4 ho4 hat4); have L4 := Lib.hid (L3.out.held hg4 hat4); have u4 : w4.cell? ⟨W.heap.size, 4, none⟩ = some (.slice A b.length c) := KEEP.out _ _ _ _ _ T4.out 4; clear ho4 hb4 hg4 hat4)
  have CI := Lib.hid (intact_calls b A c gi cap W0.heap.size w4 (RD.out w4 T4.out.bl) HBL.out L4.out.io)
  clear z4
  go_wp2_with fail
  refine CI.out.mono ?_; rintro e w5 ⟨rfl, hb5⟩
  have T5 := Lib.hid (T4.out.below HBS0.out hb5)
  have L5 := Lib.hid (L4.out.below hb5)
  clear hb5 u4
  go_wp2_with fail
  go_loopw [10] (fun i wr => ∃ (k : Nat) (ms : List Int), i = .int .i64 k ∧ k ≤ b.length ∧ ms.length = (marked b).length ∧ Two W0 wr base g v (.slice AH xs.length cH) v2 (.slice A4 m4 c4) (xs ++ b) (xs ++ b) ∧ Lent W0 wr g v2 (.slice A4 m4 c4) gi cap ms) (fun i _ => b.length - (intOf i).toNat)
  case atStart => exact ⟨0, _, rfl, by omega, rfl, T5.out, L5.out⟩
  case round =>
    obtain ⟨k, ms, rfl, hk, hml, ht, hl⟩ := hrel
    have TT := Lib.hid ht
    have LL := Lib.hid hl
    have HML := Lib.hid hml
    clear ht hl hml
    have bl : (b.length : Int) ≤ 1048576 := by have := HBL.out; omega
    by_cases hlt : k < b.length
    · have hat := own_at_of (d := 0) LL.out.io (k : Int) (by omega) (by have := HML.out; rw [marked_length] at this; omega)
      rw [Int.toNat_natCast] at hat
      have a1 := hat.1
      have a2 := hat.2
      have FF := Lib.hid (Lent.fill HBS0.out TT.out LL.out k)
      have i1 : (k : Int) < (b.length : Int) := by omega
      have i0 : (0 : Int) ≤ (k : Int) := by omega
      clear hat
      go_wp2_with fail
      go_roundw
      case rel => exact ⟨k + 1, _, by go_num, by omega, by rw [List.length_set]; exact HML.out, FF.out.1, FF.out.2⟩
      case measure => simp [intOf]; omega
    · have i1 : ¬ (k : Int) < (b.length : Int) := by omega
      go_wp2_with fail
      go_ret2
      have hT := TT.out
      rw [HW0.out] at hT
      have hF := Two.of_alloc HBS.out hT
      have hE : xs ++ opBytes 6 n b = (xs ++ b) := rfl
      exact ⟨v2, (.slice A4 m4 c4), rfl, by rw [hE]; exact hF⟩
set_option maxRecDepth 100000 in
set_option maxHeartbeats 3200000 in
theorem writes_7 (which m : Int) (n : Nat) (b : List Int) (A : Option Addr) (c : Nat) (W : World) (base g : Nat) (v h : Value) (xs : List Int) (hw : Wtr W base g v xs) (ho : W.ownsRow base 5 1 h xs.length (encs I xs)) (hn : NeRow v h) (hbase : base ≤ W.heap.size)
    (hr : ∀ W', Below base W W' → ReadsOf I 0 W' A b.length b) (hv : n < 18446744073709551616) (hbl : b.length ≤ 1048576) (hm : xs.length ≤ 35184372088832) :
    Calls Try.prog 8 #[.pointer (some ⟨g, 0, none⟩), h, .agg #[.int .i64 7, .int .i64 which, .int .i64 m, .int .u64 n, .slice A b.length c]] W fun e w' => ∃ v' h', e = .returned (.tuple #[h', .bool true]) ∧ Two W w' base g v h v' h' (xs ++ opBytes 7 n b) (xs ++ opBytes 7 n b) := by
  obtain ⟨AH, nH, cH, rfl⟩ := slice_form ho
  obtain rfl : nH = xs.length := by
    rcases ho.2 with ⟨e, e2⟩ | ⟨_, _, _, e, _⟩
    · injection e with _ e _; omega
    · injection e with _ e _
  have HM := Lib.hid hm
  have HBL := Lib.hid hbl
  have HN := Lib.hid hv
  obtain ⟨W0, hW0⟩ : ∃ W0, W0 = W.alloc (.cells #[.int .i64 7, .int .i64 which, .int .i64 m, .int .u64 n, .slice A b.length c] 63) := ⟨_, rfl⟩
  have hsz : W0.heap.size = W.heap.size + 1 := by rw [hW0]; simp
  have hB0 : Below W.heap.size W W0 := by rw [hW0]; exact (Below.refl _ _).alloc (Nat.le_refl _) _
  have hblk : W0.heap[W.heap.size]? = some (.cells #[.int .i64 7, .int .i64 which, .int .i64 m, .int .u64 n, .slice A b.length c] 63 (0, 0)) := by rw [hW0]; exact blk_new W _
  have hgl : g < W.heap.size := blk_lt hw.blk
  have t0 : Two W0 W0 base g v (.slice AH xs.length cH) v (.slice AH xs.length cH) xs xs := Two.refl (wtr_below hw hB0) (pw_own_below ho hB0) hn
  have KEEP : Hid (∀ W' v' h' ys zs, Two W0 W' base g v (.slice AH xs.length cH) v' h' ys zs → ∀ j, W'.cell? ⟨W.heap.size, j, none⟩ = (#[.int .i64 7, .int .i64 which, .int .i64 m, .int .u64 n, .slice A b.length c] : Array Value)[j]?) := by
    intro W' v' h' ys zs t j
    have h2 := (t.fr W.heap.size (by omega) (by omega) (fun e => by have := own_lt hw.own _ e.symm; omega) (fun e => by have := own_lt ho _ e.symm; omega)).trans hblk
    exact blk_cell h2 j
  have RD : Hid (∀ W', Below base W0 W' → ReadsOf I 0 W' A b.length b) := fun W' hb => hr W' ((hB0.mono hbase).trans hb)
  have HLV : Hid (∀ k, v.ownBlock = some k → k < W0.heap.size) := fun k hk => by have := own_lt hw.own k hk; omega
  have HLH : Hid (∀ k, (Value.slice AH xs.length cH).ownBlock = some k → k < W0.heap.size) := fun k hk => by have := own_lt ho k hk; omega
  have HG := Lib.hid hgl
  have HBS := Lib.hid hbase
  have HW0 := Lib.hid hW0
  have HSZ := Lib.hid hsz
  have HBS0 : Hid (base ≤ W0.heap.size) := Nat.le_trans hbase hB0.size
  have T0 := Lib.hid t0
  have CL := Lib.hid (lend_calls b A c W0 (Kd.C_of_reads (RD.out W0 (Below.refl _ _))) hbl)
  have y4 : W0.cell? ⟨W.heap.size, 4, none⟩ = some (.slice A b.length c) := KEEP.out _ _ _ _ _ t0 4
  clear hW0 hsz hB0 hblk hgl t0 hw ho hn hbase hr hv hbl hm
  go_enter Try.func8, Try.ntmps8
  go_wp2_with fail
  rw [← HW0.out]
  go_wp2_with fail
  refine CL.out.mono ?_; rintro e w1 ⟨gi, cap, rfl, ho1, hb1⟩
  have T1 := Lib.hid (T0.out.below HBS0.out hb1)
  have L1 : Hid (Lent W0 w1 g v (.slice AH xs.length cH) gi cap (marked b)) :=
    have hle : W0.heap.size ≤ gi := own_base ho1 gi rfl
    ⟨ho1, hle, by have := HG.out; have := HSZ.out; omega, fun e => by have := HLV.out gi e; omega, fun e => by have := HLH.out gi e; omega⟩
  have y0 : w1.cell? ⟨W.heap.size, 0, none⟩ = some (.int .i64 7) := KEEP.out _ _ _ _ _ T1.out 0
  clear ho1 hb1 y4
  have CW := Lib.hid (len_calls w1 base g v xs T1.out.wt)
  go_wp2_with fail
  refine CW.out.mono ?_; rintro e w2 ⟨rfl, rfl⟩
  have T2 := T1
  go_wp2_with fail
  go_ret2
  have hT := T2.out
  rw [HW0.out] at hT
  have hF := Two.of_alloc HBS.out hT
  have hE : xs ++ opBytes 7 n b = xs := by unfold opBytes; simp
  exact ⟨v, (.slice AH xs.length cH), rfl, by rw [hE]; exact hF⟩
set_option maxRecDepth 100000 in
set_option maxHeartbeats 3200000 in
theorem writes_8 (which m : Int) (n : Nat) (b : List Int) (A : Option Addr) (c : Nat) (W : World) (base g : Nat) (v h : Value) (xs : List Int) (hw : Wtr W base g v xs) (ho : W.ownsRow base 5 1 h xs.length (encs I xs)) (hn : NeRow v h) (hbase : base ≤ W.heap.size)
    (hr : ∀ W', Below base W W' → ReadsOf I 0 W' A b.length b) (hv : n < 18446744073709551616) (hbl : b.length ≤ 1048576) (hm : xs.length ≤ 35184372088832) :
    Calls Try.prog 8 #[.pointer (some ⟨g, 0, none⟩), h, .agg #[.int .i64 8, .int .i64 which, .int .i64 m, .int .u64 n, .slice A b.length c]] W fun e w' => ∃ v' h', e = .returned (.tuple #[h', .bool true]) ∧ Two W w' base g v h v' h' (xs ++ opBytes 8 n b) (xs ++ opBytes 8 n b) := by
  obtain ⟨AH, nH, cH, rfl⟩ := slice_form ho
  obtain rfl : nH = xs.length := by
    rcases ho.2 with ⟨e, e2⟩ | ⟨_, _, _, e, _⟩
    · injection e with _ e _; omega
    · injection e with _ e _
  have HM := Lib.hid hm
  have HBL := Lib.hid hbl
  have HN := Lib.hid hv
  obtain ⟨W0, hW0⟩ : ∃ W0, W0 = W.alloc (.cells #[.int .i64 8, .int .i64 which, .int .i64 m, .int .u64 n, .slice A b.length c] 63) := ⟨_, rfl⟩
  have hsz : W0.heap.size = W.heap.size + 1 := by rw [hW0]; simp
  have hB0 : Below W.heap.size W W0 := by rw [hW0]; exact (Below.refl _ _).alloc (Nat.le_refl _) _
  have hblk : W0.heap[W.heap.size]? = some (.cells #[.int .i64 8, .int .i64 which, .int .i64 m, .int .u64 n, .slice A b.length c] 63 (0, 0)) := by rw [hW0]; exact blk_new W _
  have hgl : g < W.heap.size := blk_lt hw.blk
  have t0 : Two W0 W0 base g v (.slice AH xs.length cH) v (.slice AH xs.length cH) xs xs := Two.refl (wtr_below hw hB0) (pw_own_below ho hB0) hn
  have KEEP : Hid (∀ W' v' h' ys zs, Two W0 W' base g v (.slice AH xs.length cH) v' h' ys zs → ∀ j, W'.cell? ⟨W.heap.size, j, none⟩ = (#[.int .i64 8, .int .i64 which, .int .i64 m, .int .u64 n, .slice A b.length c] : Array Value)[j]?) := by
    intro W' v' h' ys zs t j
    have h2 := (t.fr W.heap.size (by omega) (by omega) (fun e => by have := own_lt hw.own _ e.symm; omega) (fun e => by have := own_lt ho _ e.symm; omega)).trans hblk
    exact blk_cell h2 j
  have RD : Hid (∀ W', Below base W0 W' → ReadsOf I 0 W' A b.length b) := fun W' hb => hr W' ((hB0.mono hbase).trans hb)
  have HLV : Hid (∀ k, v.ownBlock = some k → k < W0.heap.size) := fun k hk => by have := own_lt hw.own k hk; omega
  have HLH : Hid (∀ k, (Value.slice AH xs.length cH).ownBlock = some k → k < W0.heap.size) := fun k hk => by have := own_lt ho k hk; omega
  have HG := Lib.hid hgl
  have HBS := Lib.hid hbase
  have HW0 := Lib.hid hW0
  have HSZ := Lib.hid hsz
  have HBS0 : Hid (base ≤ W0.heap.size) := Nat.le_trans hbase hB0.size
  have T0 := Lib.hid t0
  have CL := Lib.hid (lend_calls b A c W0 (Kd.C_of_reads (RD.out W0 (Below.refl _ _))) hbl)
  have y4 : W0.cell? ⟨W.heap.size, 4, none⟩ = some (.slice A b.length c) := KEEP.out _ _ _ _ _ t0 4
  clear hW0 hsz hB0 hblk hgl t0 hw ho hn hbase hr hv hbl hm
  go_enter Try.func8, Try.ntmps8
  go_wp2_with fail
  rw [← HW0.out]
  go_wp2_with fail
  refine CL.out.mono ?_; rintro e w1 ⟨gi, cap, rfl, ho1, hb1⟩
  have T1 := Lib.hid (T0.out.below HBS0.out hb1)
  have L1 : Hid (Lent W0 w1 g v (.slice AH xs.length cH) gi cap (marked b)) :=
    have hle : W0.heap.size ≤ gi := own_base ho1 gi rfl
    ⟨ho1, hle, by have := HG.out; have := HSZ.out; omega, fun e => by have := HLV.out gi e; omega, fun e => by have := HLH.out gi e; omega⟩
  have y0 : w1.cell? ⟨W.heap.size, 0, none⟩ = some (.int .i64 8) := KEEP.out _ _ _ _ _ T1.out 0
  clear ho1 hb1 y4
  have CW := Lib.hid (out_calls w1 base w1.heap.size g v xs T1.out.wt (Nat.le_refl _) (by have := HM.out; omega))
  go_wp2_with fail
  refine CW.out.mono ?_; rintro e w2 ⟨r2, rfl, ho2, hb2⟩
  obtain ⟨A2, c2, rfl, hr2⟩ := reads_of_own ho2
  have T1' := Lib.hid (T1.out.below HBS0.out hb2)
  have CE := Lib.hid (eq_calls xs xs A2 AH c2 cH w2 hr2 (own_reads T1'.out.ho (by simp)) (by have := HM.out; omega))
  clear ho2 hb2 hr2
  go_wp2_with fail
  refine CE.out.mono ?_; rintro e w3 ⟨q, rfl, hq, hb3⟩
  obtain rfl : q = true := by simpa using hq
  have T2 := Lib.hid (T1'.out.below HBS0.out hb3)
  clear hq hb3
  go_wp2_with fail
  go_ret2
  have hT := T2.out
  rw [HW0.out] at hT
  have hF := Two.of_alloc HBS.out hT
  have hE : xs ++ opBytes 8 n b = xs := by unfold opBytes; simp
  exact ⟨v, (.slice AH xs.length cH), rfl, by rw [hE]; exact hF⟩
set_option maxRecDepth 100000 in
set_option maxHeartbeats 3200000 in
theorem writes_0 (kind : Int) (hk : kind ≠ 1 ∧ kind ≠ 2 ∧ kind ≠ 3 ∧ kind ≠ 4 ∧ kind ≠ 5 ∧ kind ≠ 6 ∧ kind ≠ 7 ∧ kind ≠ 8) (which m : Int) (n : Nat) (b : List Int) (A : Option Addr) (c : Nat) (W : World) (base g : Nat) (v h : Value) (xs : List Int) (hw : Wtr W base g v xs) (ho : W.ownsRow base 5 1 h xs.length (encs I xs)) (hn : NeRow v h) (hbase : base ≤ W.heap.size)
    (hr : ∀ W', Below base W W' → ReadsOf I 0 W' A b.length b) (hv : n < 18446744073709551616) (hbl : b.length ≤ 1048576) (hm : xs.length ≤ 35184372088832) :
    Calls Try.prog 8 #[.pointer (some ⟨g, 0, none⟩), h, .agg #[.int .i64 kind, .int .i64 which, .int .i64 m, .int .u64 n, .slice A b.length c]] W fun e w' => ∃ v' h', e = .returned (.tuple #[h', .bool true]) ∧ Two W w' base g v h v' h' (xs ++ opBytes kind n b) (xs ++ opBytes kind n b) := by
  obtain ⟨AH, nH, cH, rfl⟩ := slice_form ho
  obtain rfl : nH = xs.length := by
    rcases ho.2 with ⟨e, e2⟩ | ⟨_, _, _, e, _⟩
    · injection e with _ e _; omega
    · injection e with _ e _
  have HM := Lib.hid hm
  have HBL := Lib.hid hbl
  have HN := Lib.hid hv
  obtain ⟨W0, hW0⟩ : ∃ W0, W0 = W.alloc (.cells #[.int .i64 kind, .int .i64 which, .int .i64 m, .int .u64 n, .slice A b.length c] 63) := ⟨_, rfl⟩
  have hsz : W0.heap.size = W.heap.size + 1 := by rw [hW0]; simp
  have hB0 : Below W.heap.size W W0 := by rw [hW0]; exact (Below.refl _ _).alloc (Nat.le_refl _) _
  have hblk : W0.heap[W.heap.size]? = some (.cells #[.int .i64 kind, .int .i64 which, .int .i64 m, .int .u64 n, .slice A b.length c] 63 (0, 0)) := by rw [hW0]; exact blk_new W _
  have hgl : g < W.heap.size := blk_lt hw.blk
  have t0 : Two W0 W0 base g v (.slice AH xs.length cH) v (.slice AH xs.length cH) xs xs := Two.refl (wtr_below hw hB0) (pw_own_below ho hB0) hn
  have KEEP : Hid (∀ W' v' h' ys zs, Two W0 W' base g v (.slice AH xs.length cH) v' h' ys zs → ∀ j, W'.cell? ⟨W.heap.size, j, none⟩ = (#[.int .i64 kind, .int .i64 which, .int .i64 m, .int .u64 n, .slice A b.length c] : Array Value)[j]?) := by
    intro W' v' h' ys zs t j
    have h2 := (t.fr W.heap.size (by omega) (by omega) (fun e => by have := own_lt hw.own _ e.symm; omega) (fun e => by have := own_lt ho _ e.symm; omega)).trans hblk
    exact blk_cell h2 j
  have RD : Hid (∀ W', Below base W0 W' → ReadsOf I 0 W' A b.length b) := fun W' hb => hr W' ((hB0.mono hbase).trans hb)
  have HLV : Hid (∀ k, v.ownBlock = some k → k < W0.heap.size) := fun k hk => by have := own_lt hw.own k hk; omega
  have HLH : Hid (∀ k, (Value.slice AH xs.length cH).ownBlock = some k → k < W0.heap.size) := fun k hk => by have := own_lt ho k hk; omega
  have HG := Lib.hid hgl
  have HBS := Lib.hid hbase
  have HW0 := Lib.hid hW0
  have HSZ := Lib.hid hsz
  have HBS0 : Hid (base ≤ W0.heap.size) := Nat.le_trans hbase hB0.size
  have T0 := Lib.hid t0
  have CL := Lib.hid (lend_calls b A c W0 (Kd.C_of_reads (RD.out W0 (Below.refl _ _))) hbl)
  have y4 : W0.cell? ⟨W.heap.size, 4, none⟩ = some (.slice A b.length c) := KEEP.out _ _ _ _ _ t0 4
  clear hW0 hsz hB0 hblk hgl t0 hw ho hn hbase hr hv hbl hm
  have k1 : (kind == 1) = false := beq_eq_false_iff_ne.2 (by omega)
  have k2 : (kind == 2) = false := beq_eq_false_iff_ne.2 (by omega)
  have k3 : (kind == 3) = false := beq_eq_false_iff_ne.2 (by omega)
  have k4 : (kind == 4) = false := beq_eq_false_iff_ne.2 (by omega)
  have k5 : (kind == 5) = false := beq_eq_false_iff_ne.2 (by omega)
  have k6 : (kind == 6) = false := beq_eq_false_iff_ne.2 (by omega)
  have k7 : (kind == 7) = false := beq_eq_false_iff_ne.2 (by omega)
  have k8 : (kind == 8) = false := beq_eq_false_iff_ne.2 (by omega)
  have HKD := Lib.hid hk
  clear hk
  go_enter Try.func8, Try.ntmps8
  go_wp2_with fail
  rw [← HW0.out]
  go_wp2_with fail
  refine CL.out.mono ?_; rintro e w1 ⟨gi, cap, rfl, ho1, hb1⟩
  have T1 := Lib.hid (T0.out.below HBS0.out hb1)
  have L1 : Hid (Lent W0 w1 g v (.slice AH xs.length cH) gi cap (marked b)) :=
    have hle : W0.heap.size ≤ gi := own_base ho1 gi rfl
    ⟨ho1, hle, by have := HG.out; have := HSZ.out; omega, fun e => by have := HLV.out gi e; omega, fun e => by have := HLH.out gi e; omega⟩
  have y0 : w1.cell? ⟨W.heap.size, 0, none⟩ = some (.int .i64 kind) := KEEP.out _ _ _ _ _ T1.out 0
  clear ho1 hb1 y4
  have T4 := T1
  have L4 := L1
  have u4 : w1.cell? ⟨W.heap.size, 4, none⟩ = some (.slice A b.length c) := KEEP.out _ _ _ _ _ T4.out 4
  have CI := Lib.hid (intact_calls b A c gi cap W0.heap.size w1 (RD.out w1 T4.out.bl) HBL.out L4.out.io)
  go_wp2_with fail
  refine CI.out.mono ?_; rintro e w5 ⟨rfl, hb5⟩
  have T5 := Lib.hid (T4.out.below HBS0.out hb5)
  have L5 := Lib.hid (L4.out.below hb5)
  clear hb5 u4
  go_wp2_with fail
  go_loopw [10] (fun i wr => ∃ (k : Nat) (ms : List Int), i = .int .i64 k ∧ k ≤ b.length ∧ ms.length = (marked b).length ∧ Two W0 wr base g v (.slice AH xs.length cH) v (.slice AH xs.length cH) xs xs ∧ Lent W0 wr g v (.slice AH xs.length cH) gi cap ms) (fun i _ => b.length - (intOf i).toNat)
  case atStart => exact ⟨0, _, rfl, by omega, rfl, T5.out, L5.out⟩
  case round =>
    obtain ⟨k, ms, rfl, hk, hml, ht, hl⟩ := hrel
    have TT := Lib.hid ht
    have LL := Lib.hid hl
    have HML := Lib.hid hml
    clear ht hl hml
    have bl : (b.length : Int) ≤ 1048576 := by have := HBL.out; omega
    by_cases hlt : k < b.length
    · have hat := own_at_of (d := 0) LL.out.io (k : Int) (by omega) (by have := HML.out; rw [marked_length] at this; omega)
      rw [Int.toNat_natCast] at hat
      have a1 := hat.1
      have a2 := hat.2
      have FF := Lib.hid (Lent.fill HBS0.out TT.out LL.out k)
      have i1 : (k : Int) < (b.length : Int) := by omega
      have i0 : (0 : Int) ≤ (k : Int) := by omega
      clear hat
      go_wp2_with fail
      go_roundw
      case rel => exact ⟨k + 1, _, by go_num, by omega, by rw [List.length_set]; exact HML.out, FF.out.1, FF.out.2⟩
      case measure => simp [intOf]; omega
    · have i1 : ¬ (k : Int) < (b.length : Int) := by omega
      go_wp2_with fail
      go_ret2
      have hT := TT.out
      rw [HW0.out] at hT
      have hF := Two.of_alloc HBS.out hT
      have hE : xs ++ opBytes kind n b = xs := by unfold opBytes; have := HKD.out; simp [*]
      exact ⟨v, (.slice AH xs.length cH), rfl, by rw [hE]; exact hF⟩
end Go.Proofs.Ytoeiaimoppmjdaa.Wr
