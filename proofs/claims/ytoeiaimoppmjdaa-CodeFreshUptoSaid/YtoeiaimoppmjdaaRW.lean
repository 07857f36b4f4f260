/- A Reader and a Writer side by side; the contract of tilllaw1's again. -/
import Derived.Test.YtoeiaimoppmjdaaArgs
import Derived.Test.YtoeiaimoppmjdaaRWPlain
import Derived.Test.YtoeiaimoppmjdaaNums
namespace Go.Proofs.Ytoeiaimoppmjdaa.Wr
open Go.RowKit Go.Proofs.YtoeiaimoppmjdaaW.PrintWords Go.Proofs.Ytoeiaimoppmjdaa.Bytes Go.Proofs.Ytoeiaimoppmjdaa.Args
set_option linter.unusedVariables false
set_option linter.unusedSimpArgs false
theorem into_gen (i n : Int) (w : World) (hn : 0 < n) (hn2 : n ≤ 1073741824) (h1 : -9223372036854775808 ≤ i) (h2 : i ≤ 9223372036854775807) :
    Calls Try.prog 13 #[.int .i64 i, .int .i64 n] w fun e w' => e = .returned (.int .i64 (i % n)) ∧ w' = w := by
  have r1 : ¬ n = 0 := by omega
  have b1 := Int.tmod_lt_of_pos i hn
  have b2 := Int.lt_tmod_of_pos i hn
  by_cases hi : i.tmod n < 0
  · have e : i % n = wrap64 (i.tmod n + n) := by
      rw [show wrap64 (i.tmod n + n) = i.tmod n + n by unfold wrap64; omega]
      have h := Int.mul_tdiv_add_tmod i n
      rw [← Int.emod_eq_of_lt (a := i.tmod n + n) (b := n) (by omega) (by omega)]
      conv => lhs; rw [← h]
      rw [Int.mul_add_emod_self_left, Int.add_emod_right]
    rw [e]
    clear e b1 b2
    go_enter Try.func13, Try.ntmps13
    go_wp2_with fail
    go_ret
    exact ⟨rfl, rfl⟩
  · have e : i % n = i.tmod n := by
      have h := Int.mul_tdiv_add_tmod i n
      rw [← Int.emod_eq_of_lt (a := i.tmod n) (b := n) (by omega) b1]
      conv => lhs; rw [← h]
      rw [Int.mul_add_emod_self_left]
    rw [e]
    clear e b1 b2
    go_enter Try.func13, Try.ntmps13
    go_wp2_with fail
    go_ret
    exact ⟨rfl, rfl⟩
/-- A Reader and a Writer: neither lies in the other's memory. -/
structure RW (W : World) (base g gw : Nat) (v u : Value) (xs : List Int) (s : RS) (ys : List Int) : Prop where
  rd : Rdr W base g v xs s.at_ s.met
  wt : Wtr W base gw u ys
  ne : ∀ b, v.ownBlock = some b → u.ownBlock ≠ some b
theorem RW.gne {W : World} {base g gw : Nat} {v u : Value} {xs ys : List Int} {s : RS} (h : RW W base g gw v u xs s ys) : g ≠ gw := by
  intro e
  have h1 := h.rd.blk
  rw [e, h.wt.blk] at h1
  simp at h1
theorem RW.below {W W1 : World} {base g gw : Nat} {v u : Value} {xs ys : List Int} {s : RS} (h : RW W base g gw v u xs s ys) (hb : Below W.heap.size W W1) : RW W1 base g gw v u xs s ys :=
  ⟨rdr_below h.rd hb, ⟨blk_below h.wt.blk hb, h.wt.le, pw_own_below h.wt.own hb⟩, h.ne⟩
theorem wtr_une {W : World} {base g gw : Nat} {v u : Value} {xs ys : List Int} {s : RS} (h : RW W base g gw v u xs s ys) : u.ownBlock ≠ some g := by
  intro e
  obtain ⟨cs, hk⟩ := own_kind h.wt.own g e
  rw [h.rd.blk] at hk
  simp at hk
theorem rdr_vne {W : World} {base g gw : Nat} {v u : Value} {xs ys : List Int} {s : RS} (h : RW W base g gw v u xs s ys) : v.ownBlock ≠ some gw := by
  intro e
  obtain ⟨cs, hk⟩ := own_kind h.rd.own gw e
  rw [h.wt.blk] at hk
  simp at hk
theorem RW.read {W W1 : World} {base g gw : Nat} {v u : Value} {xs ys : List Int} {s s1 : RS} (h : RW W base g gw v u xs s ys) (k : RdTo W W1 base g v xs s1) : RW W1 base g gw v u xs s1 ys :=
  ⟨k.rd, ⟨k.kb.blk h.wt.blk (fun e => h.gne e.symm) (by simp), h.wt.le, k.kb.own h.wt.own (wtr_une h) (by cases u.ownBlock <;> simp)⟩, h.ne⟩
theorem RW.put {W W1 : World} {base g gw : Nat} {v u u1 : Value} {xs ys zs : List Int} {s : RS} (h : RW W base g gw v u xs s ys) (k : Put W W1 base gw u u1 zs) : RW W1 base g gw v u1 xs s zs := by
  have hg : ∀ b, v.ownBlock = some b → b < W.heap.size := fun b hb => own_lt h.rd.own b hb
  have hvu : v.ownBlock = none ∨ v.ownBlock ≠ u.ownBlock := by
    cases hv : v.ownBlock with
    | none => exact .inl rfl
    | some b => exact .inr (fun e => h.ne b hv e.symm)
  refine ⟨⟨k.kb.blk h.rd.blk h.gne (fun e => wtr_une h e.symm), h.rd.le, k.kb.own h.rd.own (rdr_vne h) hvu⟩, k.wt, fun b hb => ?_⟩
  rcases k.hat with e | ⟨c, e, hc⟩
  · rw [e]; exact h.ne b hb
  · rw [e]; intro e2; injection e2 with e2; have := hg b hb; omega
/-- What again leaves. -/
structure RwTo (W W' : World) (base g gw : Nat) (v u : Value) (xs : List Int) (s : RS) (ys : List Int) : Prop where
  rw_ : ∃ u', RW W' base g gw v u' xs s ys
  bl : Below base W W'
/-- What again writes, and the Reader's state behind it. -/
def againP (xs : List Int) (s : RS) (o : CO) : List Int × RS :=
  if o.1 = 1 then (fixL (rFix xs s 1).1 1, (rFix xs s 1).2)
  else if o.1 = 2 then (fixL (rFix xs s 4).1 4, (rFix xs s 4).2)
  else if o.1 = 3 then (fixL (rFix xs s 8).1 8, (rFix xs s 8).2)
  else if o.1 = 4 then (vr (rVar xs s o.2.2.2.1.toNat).1, (rVar xs s o.2.2.2.1.toNat).2)
  else if o.1 = 5 then (vr (rBytes xs s o.2.2.1).1.length ++ (rBytes xs s o.2.2.1).1, (rBytes xs s o.2.2.1).2)
  else if o.1 = 6 then ((rRaw xs s (o.2.2.1 % 20)).1, (rRaw xs s (o.2.2.1 % 20)).2)
  else ([], s)
theorem againP_again {xs : List Int} (hb : Byt xs) {s : RS} (o : CO) (hs : s.met = 0) (hok : s.Ok xs) : Again xs s (againP xs s o).1 (againP xs s o).2 := by
  unfold againP
  split
  · exact again_fix hb s 1 hs
  split
  · exact again_fix hb s 4 hs
  split
  · exact again_fix hb s 8 hs
  split
  · exact again_var hb s _ hs hok
  split
  · exact again_bytes hb s _ hs hok
  split
  · exact again_raw s _ hs hok
  · exact ⟨fun h => absurd hs h, fun _ => ⟨Nat.le_refl _, hok.at_, by simp⟩⟩
theorem againP_ok {xs : List Int} {s : RS} (o : CO) (hok : s.Ok xs) : (againP xs s o).2.Ok xs := by
  unfold againP
  split
  · exact rFix_ok hok 1
  split
  · exact rFix_ok hok 4
  split
  · exact rFix_ok hok 8
  split
  · exact (rVar_ok hok _).1
  split
  · exact rBytes_ok hok _
  split
  · exact rRaw_ok hok _
  · exact hok
theorem rBytes_len (xs : List Int) (s : RS) (most : Int) : (rBytes xs s most).1.length ≤ xs.length := by
  unfold rBytes
  split
  · simp
  · exact rNext_len _ _ _
theorem rRaw_len (xs : List Int) (s : RS) (n : Int) : (rRaw xs s n).1.length ≤ xs.length := by
  unfold rRaw
  split
  · simp
  · exact rNext_len _ _ _
end Go.Proofs.Ytoeiaimoppmjdaa.Wr
