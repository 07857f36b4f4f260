/- Contracts of drains and lives: the messages of NetKeeps. -/
import Derived.Test.YtfmggmpllggbnaaNetA
import Derived.Lib.QuietBelow
namespace Go.Proofs.Ytfmggmpllggbnaa.Net
open Go.RowKit Go.Proofs.YtfmggmpllggbnaaW.PrintWords Go.Sort
set_option linter.unusedVariables false
set_option linter.unusedSimpArgs false
theorem calls_regrown {P : Program} {f : FuncId} {args : Array Value} {w W : World} {v : Value} (h : Calls P f args W fun e w' => e = .returned v ∧ Below w.heap.size w w') :
    Calls P f args W fun e w' => e = .returned v ∧ ∃ p : Regrown, w' = grow (redrawn w p.d) p.os := h.mono fun _ _ ⟨he, hb⟩ => ⟨he, regrown_of_below hb⟩
/-- The message of number r. -/
def mg (r : Nat) : Int × ByteArray := (((r % 7 : Nat) : Int), strOfNums [((r % 256 : Nat) : Int), ((r / 256 : Nat) : Int)])
theorem mg_size (r : Nat) : (mg r).2.size = 2 := by simp [mg, strOfNums_size]
theorem mg_cell0 (r c : Nat) (hr : r < 65536) : (bytesRow (mg r).2 c)[0]? = some (.int .u8 ((r % 256 : Nat) : Int)) := by
  rw [bytesRow_at _ _ 0 (by simp [mg, strOfNums])]
  simp [mg, strOfNums]; omega
theorem mg_cell1 (r c : Nat) (hr : r < 65536) : (bytesRow (mg r).2 c)[1]? = some (.int .u8 ((r / 256 : Nat) : Int)) := by
  rw [bytesRow_at _ _ 1 (by simp [mg, strOfNums])]
  have : r / 256 < 256 := by omega
  simp [mg, strOfNums, Nat.mod_eq_of_lt this]; omega
/-- A told message of number r: its bytes' block. -/
theorem told_cell {W : World} {g c r : Nat} (hr : r < 65536) (h : ∃ m, W.heap[g]? = some (.cells (bytesRow (mg r).2 c) 5 ((bytesRow (mg r).2 c).size, m))) : W.cell? ⟨g, 0, none⟩ = some (.int .u8 ((r % 256 : Nat) : Int)) ∧ W.cell? ⟨g, 1, none⟩ = some (.int .u8 ((r / 256 : Nat) : Int)) := by
  obtain ⟨m, hm⟩ := h
  exact ⟨by rw [cell_of_row W g 0 _ _ _ hm, mg_cell0 r c hr], by rw [cell_of_row W g 1 _ _ _ hm, mg_cell1 r c hr]⟩
theorem which_mg (r g c : Nat) (hr : r < 65536) (W W' : World) (t : Int) (h : ∃ m, W.heap[g]? = some (.cells (bytesRow (mg r).2 c) 5 ((bytesRow (mg r).2 c).size, m))) (hb : Below W.heap.size W W') :
    Calls Try.prog 29 #[.agg #[.int .i64 t, .slice (some ⟨g, 0, none⟩) 2 c]] W' fun e w' => e = .returned (.int .i64 (r : Int)) ∧ Below W.heap.size W w' := by
  have h' : ∃ m, W'.heap[g]? = some (.cells (bytesRow (mg r).2 c) 5 ((bytesRow (mg r).2 c).size, m)) := by obtain ⟨m, hm⟩ := h; exact ⟨m, blk_below hm hb⟩
  obtain ⟨c0, c1⟩ := told_cell hr h'
  refine (which_calls t g c (r % 256) (r / 256) W' (by omega) (by omega) c0 c1).mono fun e w' ⟨he, hb'⟩ => ⟨?_, hb.trans (hb'.mono hb.size)⟩
  rw [he, show r % 256 + 256 * (r / 256) = r by omega]
set_option maxRecDepth 20000 in
set_option maxHeartbeats 3200000 in
theorem drains_calls (rs : List Nat) (rv : Value) (W : World) (base g : Nat) (v : Value) (room : Int) (lost : Nat) (h : Nt W base g v room lost (rs.map mg)) (hbase : base ≤ W.heap.size) (hm : rs.length ≤ 1099511627776) (hb : ∀ r ∈ rs, r < 65536)
    (hrow : W.ownsRow base 3 1 rv rs.length (nums .i64 (rs.map Int.ofNat))) :
    Calls Try.prog 33 #[.pointer (some ⟨g, 0, none⟩), rv] W fun e w' => e = .returned (.bool true) ∧ Below base W w' := by
  obtain ⟨A, c, rfl⟩ := slice_form hrow
  have H := Lib.hid h
  have HBS := Lib.hid hbase
  have HM := Lib.hid hm
  have HB := Lib.hid hb
  have HR := Lib.hid hrow
  clear h hbase hb hrow
  go_enter Try.func33, Try.ntmps33
  go_wp2_with fail
  go_loopw [5] (fun i wr => ∃ k v', i = .int .i64 (k : Nat) ∧ k ≤ rs.length ∧ Nt wr base g v' room lost ((rs.drop k).map mg) ∧ wr.ownsRow base 3 1 (.slice A rs.length c) rs.length (nums .i64 (rs.map Int.ofNat)) ∧ Below base W wr) (fun i _ => rs.length - (intOf i).toNat)
  case atStart => exact ⟨0, v, rfl, Nat.zero_le _, by simpa using H.out, HR.out, Below.refl _ _⟩
  case round =>
    obtain ⟨k, v', rfl, hk, hnt, hro, hbb⟩ := hrel
    have HNT := Lib.hid hnt
    have HRO := Lib.hid hro
    have HBB := Lib.hid hbb
    clear hnt hro hbb
    by_cases hlt : k < rs.length
    · have HRK : Hid (rs.drop k = rs[k] :: rs.drop (k + 1)) := List.drop_eq_getElem_cons hlt
      obtain ⟨r, hr⟩ : ∃ r, r = rs[k] := ⟨_, rfl⟩
      have hr6 : r < 65536 := by rw [hr]; exact HB.out _ (List.getElem_mem _)
      obtain ⟨gr, cr, hA, _, _⟩ := HRO.out.form (by omega)
      injection hA with hA1 hA2 hA3
      subst hA1
      subst hA3
      have hcr : wr.cell? ⟨gr, k, none⟩ = some (.int .i64 (r : Int)) := by
        rw [HRO.out.cellAt k (by omega)]
        simp [nums, hr, hlt]
      rw [← hr] at HRK
      have HNT2 : Hid (Nt wr base g v' room lost (mg r :: (rs.drop (k + 1)).map mg)) := by have := HNT.out; rw [HRK.out] at this; exact this
      have hlen : (mg r :: (rs.drop (k + 1)).map mg).length ≤ 1099511627776 := by simp; omega
      have TK := Lib.hid (take_calls 0 wr base g v' room lost _ HNT2.out (Nat.le_trans HBS.out HBB.out.size) (by simp) hlen (mg r).1 (mg r).2 rfl)
      simp only [List.eraseIdx_cons_zero, mg_size] at TK
      have HR6 := Lib.hid hr6
      have hkl : (k : Int) < (rs.length : Int) := by omega
      have hk0 : (0 : Int) ≤ (k : Int) := by omega
      obtain ⟨t, ht⟩ : ∃ t : Int, t = (mg r).1 := ⟨_, rfl⟩
      have HT := Lib.hid ht
      rw [← ht] at TK
      have hmod : (r : Int).tmod 7 = t := by rw [ht]; simp only [mg]; rw [Int.tmod_eq_emod_of_nonneg (by omega)]; omega
      have HRR := Lib.hid hr
      clear hr hlen HRK HNT ht
      go_wp2_with fail
      refine TK.out.mono ?_; rintro e w1 ⟨g1, c1, v1, rfl, hg1, hl1, hp1⟩
      have hrow1 := hp1.kb.own HRO.out (by intro e; obtain ⟨cs, hk9⟩ := own_kind HRO.out g e; rw [HNT2.out.blk] at hk9; simp at hk9) (own_type_ne HRO.out HNT2.out.own (by decide))
      have HP1 := Lib.hid hp1
      have HG1 := Lib.hid hg1
      have HRO1 := Lib.hid hrow1
      clear hp1 hg1 hl1 hrow1 hcr
      go_wp2_with fail
      obtain ⟨W2, hW2⟩ : ∃ W2, W2 = w1.alloc (.cells #[.int .i64 t, .slice (some ⟨g1, 0, none⟩) 2 c1] 71) := ⟨_, rfl⟩
      rw [← hW2]
      have hblk3 := blk_new w1 (.cells #[.int .i64 t, .slice (some ⟨g1, 0, none⟩) 2 c1] 71)
      have hb2 : Below w1.heap.size w1 W2 := by rw [hW2]; exact (Below.refl _ _).alloc (Nat.le_refl _) _
      rw [← hW2] at hblk3
      have x0 := blk_cell hblk3 0
      have x2 := blk_cell hblk3 1
      simp at x0 x2
      have hrow2 := pw_own_below HRO1.out hb2
      have hcr : W2.cell? ⟨gr, k, none⟩ = some (.int .i64 (r : Int)) := by
        rw [hrow2.cellAt k (by omega)]
        have hr := HRR.out
        simp [nums, hr, hlt]
      have CW : ∀ d os, Calls Try.prog 29 #[.agg #[.int .i64 t, .slice (some ⟨g1, 0, none⟩) 2 c1]] (grow (redrawn W2 d) os) fun e w'' => e = .returned (.int .i64 (r : Int)) ∧ ∃ p : Regrown, w'' = grow (redrawn W2 p.d) p.os := fun d os =>
        calls_regrown (which_mg r g1 c1 HR6.out W2 _ t (by obtain ⟨m, hm⟩ := HG1.out; exact ⟨m, blk_below hm hb2⟩) (below_regrown W2 d os))
      have HB2 := Lib.hid hb2
      have HRO2 := Lib.hid hrow2
      have y0 := cell_regrown x0
      have y2 := cell_regrown x2
      have y3 := cell_regrown hcr
      clear hW2 hblk3 hb2 hrow2 x0 x2 hcr
      refine wp_region_quiet_below (by kernel_rfl) (by kernel_rfl) ?_
      repeat (quiet_step (first | with_reducible exact CW _ _))
      refine wpQuiet_nil ?_
      intro _ hw'
      obtain ⟨⟨dq, osq⟩, hw''⟩ := hw'
      subst hw''
      go_wp2_with fail
      go_roundw
      case rel =>
        have hbg := below_regrown W2 dq osq
        exact ⟨k + 1, v1, by go_num, by omega, nt_below (nt_below HP1.out.nt HB2.out) hbg, pw_own_below HRO2.out hbg, (HBB.out.trans HP1.out.bl).trans ((HB2.out.trans (hbg.mono HB2.out.size)).mono (Nat.le_trans HBS.out (Nat.le_trans HBB.out.size HP1.out.bl.size)))⟩
      case measure => simp [intOf]; omega
    · have hke : k = rs.length := by omega
      have hnil : (rs.drop k).map mg = [] := by rw [hke]; simp
      have HNT2 : Hid (Nt wr base g v' room lost []) := by have := HNT.out; rw [hnil] at this; exact this
      have LK := Lib.hid (look_none 0 wr base g v' room lost [] HNT2.out (by simp))
      have LN := fun W' (hw : Below wr.heap.size wr W') => len_calls W' base g v' room lost [] (nt_below HNT2.out hw)
      have HLN := Lib.hid LN
      have hgel : ¬ (k : Int) < (rs.length : Int) := by omega
      clear hke hnil HNT LN
      go_wp2_with fail
      refine LK.out.mono ?_; rintro e w1 ⟨rfl, hb1⟩
      have HB1 := Lib.hid hb1
      clear hb1
      go_wp2_with fail
      refine (HLN.out _ (HB1.out.alloc HB1.out.size _)).mono ?_; rintro e w2 ⟨rfl, rfl⟩
      go_wp2_with fail
      go_ret
      exact ⟨rfl, HBB.out.trans ((HB1.out.alloc HB1.out.size _).mono (Nat.le_trans HBS.out HBB.out.size))⟩
end Go.Proofs.Ytfmggmpllggbnaa.Net
