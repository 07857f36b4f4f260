/- Readers in memory; contracts of Read, Left, next, fixed, U32. -/
import Derived.Test.YtoeiaimoppmjdaaDoorTexts
namespace Go.Proofs.YtoeiaimoppmjdaaDoor.Wr
open Go.RowKit Go.Proofs.YtoeiaimoppmjdaaDoorW.PrintWords Go.Proofs.YtoeiaimoppmjdaaDoor.Bytes
set_option linter.unusedVariables false
set_option linter.unusedSimpArgs false
/-- Reader g is over xs, in the row v, at that place, with that fault. -/
structure Rdr (W : World) (base g : Nat) (v : Value) (xs : List Int) (at_ met : Int) : Prop where
  blk : W.heap[g]? = some (.cells #[v, .int .i64 at_, .int .i64 met] 105 (0, 0))
  le : base ≤ g
  own : W.ownsRow base 5 1 v xs.length (encs I xs)
theorem rdr_below {W W1 : World} {base g : Nat} {v : Value} {xs : List Int} {a m : Int} (h : Rdr W base g v xs a m) (hb : Below W.heap.size W W1) : Rdr W1 base g v xs a m :=
  ⟨blk_below h.blk hb, h.le, pw_own_below h.own hb⟩
theorem rdr_put {W : World} {base g : Nat} {v : Value} {xs : List Int} {a m : Int} (h : Rdr W base g v xs a m) (b : Int) : Rdr (W.setCell ⟨g, 1, none⟩ (.int .i64 b)) base g v xs b m :=
  ⟨blk_put h.blk 1 _ rfl, h.le, own_other h.own (grown_set W g 1 _) (.inr (by
    intro e
    obtain ⟨cs, hk⟩ := own_kind h.own g e
    rw [h.blk] at hk
    simp at hk))⟩
set_option maxRecDepth 20000 in
theorem read_calls (xs : List Int) (A : Option Addr) (c : Nat) (w : World) (base : Nat) (hbase : base ≤ w.heap.size) (hr : ReadsOf I 0 w A xs.length xs) (hm : xs.length ≤ 140737488355328) :
    Calls Tryd.prog 14 #[.slice A xs.length c] w fun e w' => ∃ g v, e = .returned (.pointer (some ⟨g, 0, none⟩)) ∧ Rdr w' base g v xs 0 0 ∧ Below base w w' ∧ w.heap.size ≤ g ∧ (∀ b, v.ownBlock = some b → w.heap.size ≤ b) := by
  have HBS := Lib.hid hbase
  have HC := Lib.hid (taken_calls xs A c w w.heap.size (Nat.le_refl _) hr hm)
  clear hr hbase
  go_enter Tryd.func14, Tryd.ntmps14
  go_wp2_with fail
  refine HC.out.mono ?_; rintro e w1 ⟨v1, rfl, ho1, hb1⟩
  obtain ⟨A1, n1, c1, rfl⟩ := slice_form ho1
  have HO1 := Lib.hid ho1
  have HB1 := Lib.hid hb1
  clear ho1 hb1
  go_wp2_with fail
  go_ret
  refine ⟨w1.heap.size, .slice A1 n1 c1, rfl, ⟨blk_new w1 _, Nat.le_trans HBS.out HB1.out.size, own_alloc (own_less HO1.out HBS.out) _⟩, (HB1.out.mono HBS.out).alloc (Nat.le_trans HBS.out HB1.out.size) _, HB1.out.size, fun b hb => own_base HO1.out b hb⟩
set_option maxRecDepth 20000 in
theorem left_calls (W : World) (base g : Nat) (v : Value) (xs : List Int) (a m : Int) (h : Rdr W base g v xs a m) (h0 : 0 ≤ a) (h1 : a ≤ xs.length) :
    Calls Tryd.prog 17 #[.pointer (some ⟨g, 0, none⟩)] W fun e w' => e = .returned (.int .i64 ((xs.length : Int) - a)) ∧ Below W.heap.size W w' := by
  obtain ⟨A, c, rfl, hr⟩ := reads_of_own h.own
  have c0 := blk_cell h.blk 0
  have c1 := blk_cell h.blk 1
  simp at c0 c1
  have hl : (xs.length : Int) ≤ 9223372036854775807 := by have := hr.2.1; omega
  have q1 : IntKind.i64.wrap ((xs.length : Int) - a) = (xs.length : Int) - a := wrap_in (by omega) (by omega)
  clear hr h
  go_enter Tryd.func17, Tryd.ntmps17
  go_wp2_with fail
  go_quiet (fail)
  go_wp2_with fail
  go_ret
  exact ⟨rfl, pw_below_drewN (Below.refl _ _) _⟩
theorem cut_reads {W : World} {base : Nat} {A : Option Addr} {len c : Nat} {xs : List Int} (h : W.ownsRow base 5 1 (.slice A xs.length c) xs.length (encs I xs)) (a n : Nat) (hn : a + n ≤ xs.length) :
    ReadsOf I 0 W (if c = a then A else A.map (·.add (a * 1))) n ((xs.drop a).take n) := by
  have hr : ReadsOf I 0 W A xs.length xs := own_reads h (by simp)
  refine ⟨by simp; omega, by have := hr.2.1; omega, fun h0 => ?_⟩
  obtain ⟨ad, rfl, hc⟩ := hr.2.2 (by omega)
  obtain ⟨g, cap, hf, _, _⟩ := h.form (by omega)
  injection hf with hf _ hc2
  injection hf with hf
  subst hf
  have hcap : xs.length ≤ c := by
    rcases h.2 with ⟨e, _⟩ | ⟨_, _, _, e, _, _, h5, _⟩
    · cases e
    · injection e with _ _ e; omega
  rw [if_neg (by omega)]
  refine ⟨⟨g, a, none⟩, by simp [Addr.add]; exact fun e => e.symm, fun j hj => ?_⟩
  have := hc (a + j) (by omega)
  rw [add_plain] at this
  have e : (⟨g, a, none⟩ : Addr).add j = ⟨g, a + j, none⟩ := by unfold Addr.add; split <;> simp_all
  rw [e, this]
  simp [List.getD_eq_getElem?_getD, List.getElem?_take, hj]
set_option maxRecDepth 20000 in
set_option maxHeartbeats 1600000 in
theorem next_calls (W : World) (base g : Nat) (v : Value) (xs : List Int) (a n : Nat) (h : Rdr W base g v xs a 0) (hb : base ≤ W.heap.size) (hn : a + n ≤ xs.length) :
    Calls Tryd.prog 78 #[.pointer (some ⟨g, 0, none⟩), .int .i64 n] W fun e w' => ∃ A2 c2, e = .returned (.slice A2 n c2) ∧ ReadsOf I 0 w' A2 n ((xs.drop a).take n) ∧ Rdr w' base g v xs ((a + n : Nat) : Int) 0 ∧ Below base W w' ∧ KeepBut W w' g none := by
  obtain ⟨A, c, rfl, hr⟩ := reads_of_own h.own
  have hcap : xs.length ≤ c := by
    rcases h.own.2 with ⟨e, e2⟩ | ⟨_, _, _, e, _, _, h5, _⟩
    · omega
    · injection e with _ _ e; omega
  have c2 := blk_cell h.blk 2
  simp at c2
  obtain ⟨i0, hi0, _, hs0, _⟩ := info_parts info5
  have q : ∀ W : World, (Instr.slice 22 (.slice A xs.length c) (some (.int .i64 (a : Int))) (some (.int .i64 ((a : Int) + (n : Int)))) none).run Tryd.prog W = .ok (.slice (if c = a then A else A.map (·.add (a * 1))) n (c - a)) W := fun W => by
    have h := cut_mid (P := Tryd.prog) 22 5 .i64 .i64 Tryd.underlying22 hi0 1 hs0 A xs.length c (a : Int) ((a : Int) + n) (by omega) (by omega) (by omega) hcap W
    rw [Int.toNat_natCast, show ((a : Int) + (n : Int)).toNat - a = n by omega] at h
    exact h
  have HQ : Hid (∀ W : World, W.ownsRow base 5 1 (.slice A xs.length c) xs.length (encs I xs) → ReadsOf I 0 W (if c = a then A else A.map (·.add (a * 1))) n ((xs.drop a).take n)) := fun W ho => cut_reads (len := 0) ho a n hn
  obtain ⟨A2, hA2⟩ : ∃ A2, A2 = (if c = a then A else A.map (·.add (a * 1))) := ⟨_, rfl⟩
  rw [← hA2] at HQ
  simp only [← hA2] at q
  have hl : (xs.length : Int) ≤ 9223372036854775807 := by have := hr.2.1; omega
  have p1 : ¬ (xs.length : Int) - (a : Int) < (n : Int) := by omega
  have p2 : IntKind.i64.wrap ((a : Int) + (n : Int)) = (a : Int) + (n : Int) := wrap_in (by omega) (by omega)
  have CL := Lib.hid (left_calls W base g _ xs a 0 h (by omega) (by omega))
  have H := Lib.hid h
  have HBS := Lib.hid hb
  have HN := Lib.hid hn
  clear hr h hA2 hcap hb hn
  go_enter Tryd.func78, Tryd.ntmps78
  go_wp2_with fail
  refine CL.out.mono ?_; rintro e w1 ⟨rfl, hb1⟩
  have h1 := rdr_below H.out hb1
  have H1 := Lib.hid h1
  have HB1 := Lib.hid hb1
  have d0 := blk_cell h1.blk 0
  have d1 := blk_cell h1.blk 1
  simp at d0 d1
  have f1 := blk_frozen h1.blk 1
  clear h1 hb1 c2
  go_wp2_with fail
  go_quiet (fail)
  go_wp2_with fail
  go_ret
  have HR2 := rdr_put (rdr_below H1.out (pw_below_drewN (Below.refl _ _) nq)) ((a : Int) + (n : Int))
  have HB2 : Below base W ((w1.drewN nq).setCell ⟨g, 1, none⟩ (.int .i64 ((a : Int) + (n : Int)))) := ((HB1.out.mono HBS.out).trans (pw_below_drewN (Below.refl _ _) nq)).setCell H.out.le _
  have HK2 : KeepBut W ((w1.drewN nq).setCell ⟨g, 1, none⟩ (.int .i64 ((a : Int) + (n : Int)))) g none := (keep_drewN (KeepBut.of_below HB1.out g none) nq).set_ 1 _
  exact ⟨A2, _, rfl, HQ.out _ HR2.own, HR2, HB2, HK2⟩
end Go.Proofs.YtoeiaimoppmjdaaDoor.Wr
