/- Contracts of a Reader's functions, whatever it has met. -/
import Derived.Test.YtoeiaimoppmjdaaDoorReader2
import Derived.Test.YtoeiaimoppmjdaaDoorRPlain
import Derived.Test.YtoeiaimoppmjdaaDoorGen
namespace Go.Proofs.YtoeiaimoppmjdaaDoor.Wr
open Go.RowKit Go.Proofs.YtoeiaimoppmjdaaDoorW.PrintWords Go.Proofs.YtoeiaimoppmjdaaDoor.Bytes
set_option linter.unusedVariables false
set_option linter.unusedSimpArgs false
/-- What a call of a Reader leaves. -/
structure RdTo (W W' : World) (base g : Nat) (v : Value) (xs : List Int) (s : RS) : Prop where
  rd : Rdr W' base g v xs s.at_ s.met
  bl : Below base W W'
  kb : KeepBut W W' g none
theorem RdTo.refl {W : World} {base g : Nat} {v : Value} {xs : List Int} {s : RS} (h : Rdr W base g v xs s.at_ s.met) : RdTo W W base g v xs s := ⟨h, Below.refl _ _, KeepBut.refl _ _ _⟩
theorem RdTo.trans {W W1 W2 : World} {base g : Nat} {v : Value} {xs : List Int} {s s1 : RS} (h : RdTo W W1 base g v xs s) (k : RdTo W1 W2 base g v xs s1) : RdTo W W2 base g v xs s1 :=
  ⟨k.rd, h.bl.trans k.bl, h.kb.trans k.kb (.inl rfl)⟩
theorem RdTo.below {W W1 W2 : World} {base g : Nat} {v : Value} {xs : List Int} {s : RS} (h : RdTo W W1 base g v xs s) (hb : base ≤ W.heap.size) (k : Below W1.heap.size W1 W2) : RdTo W W2 base g v xs s :=
  ⟨rdr_below h.rd k, h.bl.trans (k.mono (Nat.le_trans hb h.bl.size)), h.kb.trans (KeepBut.of_below k g none) (.inl rfl)⟩
theorem RdTo.drewN {W W1 : World} {base g : Nat} {v : Value} {xs : List Int} {s : RS} (h : RdTo W W1 base g v xs s) (hb : base ≤ W.heap.size) (n : Nat) : RdTo W (W1.drewN n) base g v xs s := h.below hb (pw_below_drewN (Below.refl _ _) n)
theorem rdr_ne {W : World} {base g : Nat} {v : Value} {xs : List Int} {a m : Int} (h : Rdr W base g v xs a m) : v.ownBlock ≠ some g := by
  intro e
  obtain ⟨cs, hk⟩ := own_kind h.own g e
  rw [h.blk] at hk
  simp at hk
theorem rdr_set {W : World} {base g : Nat} {v : Value} {xs : List Int} {a m : Int} (h : Rdr W base g v xs a m) (b c : Int) : Rdr ((W.setCell ⟨g, 1, none⟩ (.int .i64 b)).setCell ⟨g, 2, none⟩ (.int .i64 c)) base g v xs b c :=
  ⟨blk_put (blk_put h.blk 1 _ rfl) 2 _ rfl, h.le, own_other (own_other h.own (grown_set W g 1 _) (.inr (rdr_ne h))) (grown_set _ g 2 _) (.inr (rdr_ne h))⟩
theorem rdto_set {W W1 : World} {base g : Nat} {v : Value} {xs : List Int} {s : RS} (h : RdTo W W1 base g v xs s) (b c : Nat) : RdTo W ((W1.setCell ⟨g, 1, none⟩ (.int .i64 b)).setCell ⟨g, 2, none⟩ (.int .i64 c)) base g v xs ⟨b, c⟩ :=
  ⟨rdr_set h.rd b c, (h.bl.setCell h.rd.le _).setCell h.rd.le _, (h.kb.set_ 1 _).set_ 2 _⟩
theorem rdto_put {W W1 : World} {base g : Nat} {v : Value} {xs : List Int} {s : RS} (h : RdTo W W1 base g v xs s) (b : Nat) : RdTo W (W1.setCell ⟨g, 1, none⟩ (.int .i64 b)) base g v xs ⟨b, s.met⟩ :=
  ⟨rdr_put h.rd b, h.bl.setCell h.rd.le _, h.kb.set_ 1 _⟩
set_option maxRecDepth 20000 in
theorem stop_calls (W : World) (base g : Nat) (v : Value) (xs : List Int) (s : RS) (a m : Nat) (h : Rdr W base g v xs s.at_ s.met) :
    Calls Tryd.prog 77 #[.pointer (some ⟨g, 0, none⟩), .int .i64 (a : Int), .int .i64 (m : Int)] W fun e w' => e = .returned (.tuple #[]) ∧ RdTo W w' base g v xs ⟨a, m⟩ := by
  have c1 := blk_cell h.blk 1
  have c2 := blk_cell h.blk 2
  have f1 := blk_frozen h.blk 1
  have f2 := blk_frozen h.blk 2
  simp at c1 c2
  have H := Lib.hid (rdto_set (RdTo.refl h) a m)
  clear h
  go_enter Tryd.func77, Tryd.ntmps77
  go_wp2_with fail
  go_end0
  exact ⟨rfl, H.out⟩
def NextPost (W : World) (base g : Nat) (v : Value) (xs l : List Int) (s1 : RS) (e : Ending) (w' : World) : Prop := ∃ A2 c2, e = .returned (.slice A2 l.length c2) ∧ ReadsOf I 0 w' A2 l.length l ∧ RdTo W w' base g v xs s1
set_option maxRecDepth 20000 in
theorem nextR_calls (W : World) (base g : Nat) (v : Value) (xs : List Int) (s : RS) (n : Int) (h : Rdr W base g v xs s.at_ s.met) (hs : s.Ok xs) (hb : base ≤ W.heap.size) (hn : s.met = 0 → 0 ≤ n) :
    Calls Tryd.prog 78 #[.pointer (some ⟨g, 0, none⟩), .int .i64 n] W (NextPost W base g v xs (rNext xs s n).1 (rNext xs s n).2) := by
  obtain ⟨a, m⟩ := s
  by_cases hm : m = 0
  · subst hm
    have h0 : 0 ≤ n := hn rfl
    by_cases hl : n ≤ (xs.length : Int) - a
    · obtain ⟨k, rfl⟩ := Int.eq_ofNat_of_zero_le h0
      have e : rNext xs ⟨a, 0⟩ (k : Int) = ((xs.drop a).take k, ⟨a + k, 0⟩) := by simp only [rNext, if_true]; rw [if_pos hl, Int.toNat_natCast]
      have hle : a + k ≤ xs.length := by omega
      rw [e]
      have e2 : ((xs.drop a).take k).length = k := by simp; omega
      refine (next_calls W base g v xs a k h hb hle).mono fun e w' ⟨A2, c2, he, hr, hd, hb2, hk⟩ => ⟨A2, c2, by rw [e2]; exact he, by rw [e2]; exact hr, ⟨hd, hb2, hk⟩⟩
    · have e : rNext xs ⟨a, 0⟩ n = ([], ⟨a, 1⟩) := by simp [rNext, hl]
      rw [e]
      have CL := Lib.hid (left_calls W base g v xs a 0 h (by omega) (by have := hs.at_; simp at this; omega))
      have CS := fun W' h' => Lib.hid (stop_calls W' base g v xs ⟨a, 0⟩ a 1 h')
      have HC := Lib.hid CS
      have c1 := blk_cell h.blk 1
      have c2 := blk_cell h.blk 2
      simp at c1 c2
      have i1 : (xs.length : Int) - (a : Int) < n := by omega
      have H := Lib.hid h
      have HB := Lib.hid hb
      clear h hb hs hn hl CS e h0
      go_enter Tryd.func78, Tryd.ntmps78
      go_wp2_with fail
      refine CL.out.mono ?_; rintro e w1 ⟨rfl, hb1⟩
      have hr1 := rdr_below H.out hb1
      have d1 := blk_cell hr1.blk 1
      simp at d1
      have HS := Lib.hid (HC.out w1 hr1)
      have HB1 := Lib.hid hb1
      clear hr1 hb1 c1 c2
      go_wp2_with fail
      refine HS.out.out.mono ?_; rintro e w2 ⟨rfl, h2⟩
      have H2 := Lib.hid h2
      clear h2
      go_wp2_with fail
      go_ret
      exact ⟨none, 0, rfl, ReadsOf.nil I 0 w2, ((RdTo.refl (s := ⟨a, 0⟩) H.out).below HB.out HB1.out).trans H2.out⟩
  · have hm' : ¬ (m : Int) = 0 := by omega
    have e : rNext xs ⟨a, m⟩ n = ([], ⟨a, m⟩) := rNext_stopped hm n
    rw [e]
    have c2 := blk_cell h.blk 2
    simp at c2
    have H := Lib.hid h
    clear h hb hs hn e hm
    go_enter Tryd.func78, Tryd.ntmps78
    go_wp2_with fail
    go_ret
    exact ⟨none, 0, rfl, ReadsOf.nil I 0 W, RdTo.refl (s := ⟨a, m⟩) H.out⟩
theorem numBE_take (l : List Int) (k : Nat) (h : k < l.length) : numBE (l.take (k + 1)) = numBE (l.take k) * 256 + (l.getD k 0).toNat := by
  rw [take_getD l k h, numBE_snoc]
theorem byt_take {xs : List Int} (h : Byt xs) (n : Nat) : Byt (xs.take n) := fun a ha => h a (List.mem_of_mem_take ha)
theorem byt_drop {xs : List Int} (h : Byt xs) (n : Nat) : Byt (xs.drop n) := fun a ha => h a (List.mem_of_mem_drop ha)
set_option maxRecDepth 20000 in
set_option maxHeartbeats 1600000 in
theorem fixR_calls (W : World) (base g : Nat) (v : Value) (xs : List Int) (s : RS) (size : Nat) (h : Rdr W base g v xs s.at_ s.met) (hs : s.Ok xs) (hb : base ≤ W.heap.size) (hz : size ≤ 8) (hx : Byt xs) :
    Calls Tryd.prog 75 #[.pointer (some ⟨g, 0, none⟩), .int .i64 size] W fun e w' => e = .returned (.int .u64 ((rFix xs s size).1 : Int)) ∧ RdTo W w' base g v xs (rFix xs s size).2 := by
  have CN := Lib.hid (nextR_calls W base g v xs s size h hs hb (fun _ => by omega))
  obtain ⟨l, hl⟩ : ∃ l, l = (rNext xs s size).1 := ⟨_, rfl⟩
  obtain ⟨s1, hs1⟩ : ∃ s1, s1 = (rNext xs s size).2 := ⟨_, rfl⟩
  have HF : Hid (rFix xs s size = (numBE l, s1)) := by
    show _ = _
    rw [hl, hs1]
    unfold rFix rNext
    split
    · by_cases hle : s.at_ + size ≤ xs.length
      · rw [if_pos hle, if_pos (by omega)]; simp
      · rw [if_neg hle, if_neg (by omega)]; simp [numBE]
    · simp [numBE]
  have hly : Byt l := by
    rw [hl]; unfold rNext
    split
    · split
      · exact byt_take (byt_drop hx _) _
      · intro a ha; cases ha
    · intro a ha; cases ha
  have hll : l.length ≤ 8 := by
    rw [hl]; unfold rNext
    split
    · split
      · simp; omega
      · simp
    · simp
  rw [← hl, ← hs1] at CN
  have HY := Lib.hid hly
  have HBS := Lib.hid hb
  have s1' : (size : Int) ≤ 8 := by omega
  clear h hb hs hx hly hl hs1
  go_enter Tryd.func75, Tryd.ntmps75
  go_wp2_with fail
  refine CN.out.mono ?_; rintro e w1 ⟨A2, c2, rfl, hr2, h2⟩
  have HR2 := Lib.hid hr2
  have H2 := Lib.hid h2
  clear hr2 h2
  go_wp2_with fail
  go_loopw [5, 12] (fun m j wr => ∃ k : Nat, m = .int .u64 ((numBE (l.take k) : Nat) : Int) ∧ j = .int .i64 k ∧ k ≤ l.length ∧ Below w1.heap.size w1 wr) (fun _ j _ => l.length - (intOf j).toNat)
  case atStart => exact ⟨0, by simp [numBE], rfl, by omega, Below.refl _ _⟩
  case round =>
    obtain ⟨k, rfl, rfl, hk, hb3⟩ := hrel
    have HB3 := Lib.hid hb3
    clear hb3
    by_cases hlt : k < l.length
    · have hrr := HR2.out
      obtain ⟨ad, hA, hc⟩ := hrr.2.2 (by omega)
      subst hA
      obtain ⟨m0, hm0⟩ : ∃ m, m = numBE (l.take k) := ⟨_, rfl⟩
      obtain ⟨cc, hcc⟩ : ∃ m, m = (l.getD k 0).toNat := ⟨_, rfl⟩
      have hcb := byt_get HY.out k hlt
      have hm1 : m0 * 256 + cc = numBE (l.take (k + 1)) := by rw [hm0, hcc, numBE_take l k hlt]
      have hml : m0 * 256 + cc < 18446744073709551616 := by
        rw [hm1]
        have h1 := numBE_lt (byt_take HY.out (k + 1))
        have h2 : (l.take (k + 1)).length ≤ 8 := by simp; omega
        exact Nat.lt_of_lt_of_le h1 (Nat.le_trans (Nat.pow_le_pow_right (by omega) h2) (by decide))
      have x1 := pw_cell_below HB3.out (hc k (by omega))
      rw [show l.getD k 0 = (cc : Int) by omega] at x1
      obtain ⟨m1, hmm1⟩ : ∃ m1, m1 = m0 * 256 + cc := ⟨_, rfl⟩
      have hc9 : cc < 256 := by omega
      have qo : Go.bits .or .u64 ((m0 : Int) * 256) (cc : Int) = (m1 : Int) := by rw [hmm1]; exact or_low m0 cc hc9 hml
      have HM : Hid (m1 = numBE (l.take (k + 1))) := hmm1.trans hm1
      rw [← hm0]
      have i1 : (k : Int) < (l.length : Int) := by omega
      have i2 : (0 : Int) ≤ (k : Int) := by omega
      have i3 : (m0 : Int) * 256 ≤ 18446744073709551615 := by omega
      have cb : (cc : Int) ≤ 255 := by omega
      clear hm0 hcc hm1 hml hmm1 hrr hc hcb
      go_wp2_with fail
      exact ⟨⟨k + 1, by rw [HM.out], by go_num, by omega, HB3.out⟩, by simp [intOf]; omega⟩
    · have e0 : numBE (l.take k) = numBE l := by rw [List.take_of_length_le (by omega)]
      rw [e0]
      have i1 : ¬ (k : Int) < (l.length : Int) := by omega
      clear e0
      go_wp2_with fail
      go_ret
      rw [HF.out]
      exact ⟨rfl, H2.out.below HBS.out HB3.out⟩
theorem rd8_calls (W : World) (base g : Nat) (v : Value) (xs : List Int) (s : RS) (h : Rdr W base g v xs s.at_ s.met) (hs : s.Ok xs) (hb : base ≤ W.heap.size) (hx : Byt xs) :
    Calls Tryd.prog 42 #[.pointer (some ⟨g, 0, none⟩)] W fun e w' => e = .returned (.int .u8 ((rFix xs s 1).1 : Int)) ∧ RdTo W w' base g v xs (rFix xs s 1).2 := by
  have HC := Lib.hid (fixR_calls W base g v xs s 1 h hs hb (by omega) hx)
  have hlt := rFix_lt hx s 1
  obtain ⟨q, hq⟩ : ∃ q, q = rFix xs s 1 := ⟨_, rfl⟩
  rw [← hq] at HC hlt ⊢
  obtain ⟨r, s1⟩ := q
  clear hq
  have i1 : (r : Int) ≤ 255 := by simp at hlt; omega
  clear h hs hb hx hlt
  go_enter Tryd.func42, Tryd.ntmps42
  go_wp2_with fail
  refine HC.out.mono ?_; rintro e w1 ⟨rfl, h1⟩
  have H1 := Lib.hid h1
  clear h1
  go_wp2_with fail
  go_ret
  exact ⟨rfl, H1.out⟩
theorem rd32_calls (W : World) (base g : Nat) (v : Value) (xs : List Int) (s : RS) (h : Rdr W base g v xs s.at_ s.met) (hs : s.Ok xs) (hb : base ≤ W.heap.size) (hx : Byt xs) :
    Calls Tryd.prog 66 #[.pointer (some ⟨g, 0, none⟩)] W fun e w' => e = .returned (.int .u32 ((rFix xs s 4).1 : Int)) ∧ RdTo W w' base g v xs (rFix xs s 4).2 := by
  have HC := Lib.hid (fixR_calls W base g v xs s 4 h hs hb (by omega) hx)
  have hlt := rFix_lt hx s 4
  obtain ⟨q, hq⟩ : ∃ q, q = rFix xs s 4 := ⟨_, rfl⟩
  rw [← hq] at HC hlt ⊢
  obtain ⟨r, s1⟩ := q
  clear hq
  have i1 : (r : Int) ≤ 4294967295 := by simp at hlt; omega
  clear h hs hb hx hlt
  go_enter Tryd.func66, Tryd.ntmps66
  go_wp2_with fail
  refine HC.out.mono ?_; rintro e w1 ⟨rfl, h1⟩
  have H1 := Lib.hid h1
  clear h1
  go_wp2_with fail
  go_ret
  exact ⟨rfl, H1.out⟩
theorem rd64_calls (W : World) (base g : Nat) (v : Value) (xs : List Int) (s : RS) (h : Rdr W base g v xs s.at_ s.met) (hs : s.Ok xs) (hb : base ≤ W.heap.size) (hx : Byt xs) :
    Calls Tryd.prog 25 #[.pointer (some ⟨g, 0, none⟩)] W fun e w' => e = .returned (.int .u64 ((rFix xs s 8).1 : Int)) ∧ RdTo W w' base g v xs (rFix xs s 8).2 := by
  have HC := Lib.hid (fixR_calls W base g v xs s 8 h hs hb (by omega) hx)
  obtain ⟨q, hq⟩ : ∃ q, q = rFix xs s 8 := ⟨_, rfl⟩
  rw [← hq] at HC ⊢
  obtain ⟨r, s1⟩ := q
  clear hq
  clear h hs hb hx
  go_enter Tryd.func25, Tryd.ntmps25
  go_wp2_with fail
  refine HC.out.mono ?_; rintro e w1 ⟨rfl, h1⟩
  have H1 := Lib.hid h1
  clear h1
  go_wp2_with fail
  go_ret
  exact ⟨rfl, H1.out⟩
end Go.Proofs.YtoeiaimoppmjdaaDoor.Wr
