/- Contracts of a Reader's functions: At, Fault, End, Raw, Var, Bytes. -/
import Derived.Test.YtoeiaimoppmjdaaDoorRdr
import Derived.Lib.QuietBelow
namespace Go.Proofs.YtoeiaimoppmjdaaDoor.Wr
open Go.RowKit Go.Proofs.YtoeiaimoppmjdaaDoorW.PrintWords Go.Proofs.YtoeiaimoppmjdaaDoor.Bytes
open Go.Sort (grow)
set_option linter.unusedVariables false
set_option linter.unusedSimpArgs false
/-- The table of the errors' numbers. -/
def ErrTab (W : World) : Prop := ∀ k, k < 5 → W.cell? ⟨0, k, none⟩ = some (.int .i64 (errN k))
theorem ErrTab.below {W W1 : World} {base : Nat} (h : ErrTab W) (hb : Below base W W1) (hz : 0 < base) : ErrTab W1 := fun k hk => (hb.cell (p := ⟨0, k, none⟩) hz).trans (h k hk)
theorem at_calls (W : World) (base g : Nat) (v : Value) (xs : List Int) (s : RS) (h : Rdr W base g v xs s.at_ s.met) :
    Calls Tryd.prog 20 #[.pointer (some ⟨g, 0, none⟩)] W fun e w' => e = .returned (.int .i64 (s.at_ : Int)) ∧ w' = W := by
  have c1 := blk_cell h.blk 1
  simp at c1
  clear h
  go_enter Tryd.func20, Tryd.ntmps20
  go_wp2_with fail
  go_ret
  exact ⟨rfl, rfl⟩
theorem fault_calls (W : World) (base g : Nat) (v : Value) (xs : List Int) (s : RS) (h : Rdr W base g v xs s.at_ s.met) (hs : s.Ok xs) (ht : ErrTab W) :
    Calls Tryd.prog 22 #[.pointer (some ⟨g, 0, none⟩)] W fun e w' => e = .returned (.int .i64 (errN s.met)) ∧ w' = W := by
  have c2 := blk_cell h.blk 2
  simp at c2
  have c3 := ht s.met (by have := hs.met; omega)
  have i1 : (0 : Int) ≤ (s.met : Int) := by omega
  have i2 : (s.met : Int) < 5 := by have := hs.met; omega
  clear h hs ht
  go_enter Tryd.func22, Tryd.ntmps22
  go_wp2_with fail
  go_ret
  exact ⟨rfl, rfl⟩
theorem end_calls (W : World) (base g : Nat) (v : Value) (xs : List Int) (s : RS) (h : Rdr W base g v xs s.at_ s.met) (hs : s.Ok xs) (ht : ErrTab W) (hz : 0 < W.heap.size) :
    Calls Tryd.prog 23 #[.pointer (some ⟨g, 0, none⟩)] W fun e w' => e = .returned (.int .i64 (rEnd xs s)) ∧ Below W.heap.size W w' := by
  have c2 := blk_cell h.blk 2
  simp at c2
  by_cases hm : s.met = 0
  · have CL := Lib.hid (left_calls W base g v xs s.at_ 0 (by rw [hm] at h; exact h) (by omega) (by have := hs.at_; omega))
    have hm' : (s.met : Int) = 0 := by omega
    by_cases hl : s.at_ < xs.length
    · have e : rEnd xs s = 13 := by simp [rEnd, hm, hl]
      rw [e]
      have i1 : (0 : Int) < (xs.length : Int) - (s.at_ : Int) := by omega
      rw [hm'] at c2
      clear h hs ht hm hm' hl e
      go_enter Tryd.func23, Tryd.ntmps23
      go_wp2_with fail
      refine CL.out.mono ?_; rintro e w1 ⟨rfl, hb1⟩
      have HB1 := Lib.hid hb1
      clear hb1
      go_wp2_with fail
      go_ret
      exact ⟨rfl, HB1.out⟩
    · have e : rEnd xs s = errN s.met := by simp [rEnd, hl]
      rw [e]
      have i1 : ¬ (0 : Int) < (xs.length : Int) - (s.at_ : Int) := by omega
      have CF := fun W1 (hb : Below W.heap.size W W1) => fault_calls W1 base g v xs s (rdr_below h hb) hs (ht.below hb hz)
      have HF := Lib.hid CF
      rw [hm'] at c2
      clear h hs ht hm hm' hl e CF hz
      go_enter Tryd.func23, Tryd.ntmps23
      go_wp2_with fail
      refine CL.out.mono ?_; rintro e w1 ⟨rfl, hb1⟩
      have HB1 := Lib.hid hb1
      clear hb1
      go_wp2_with fail
      refine (HF.out _ HB1.out).mono ?_; rintro e w2 ⟨rfl, rfl⟩
      go_wp2_with fail
      go_ret
      exact ⟨rfl, HB1.out⟩
  · have hm' : ¬ (s.met : Int) = 0 := by omega
    have e : rEnd xs s = errN s.met := by simp [rEnd, hm]
    rw [e]
    have HF := Lib.hid (fault_calls W base g v xs s h hs ht)
    clear h hs ht hm e
    go_enter Tryd.func23, Tryd.ntmps23
    go_wp2_with fail
    refine HF.out.mono ?_; rintro e w2 ⟨rfl, rfl⟩
    go_wp2_with fail
    go_ret
    exact ⟨rfl, Below.refl _ _⟩
/-- A list of bytes that a call hands out: in memory of its own. -/
def TakenPost (W : World) (base g : Nat) (v : Value) (xs l : List Int) (s1 : RS) (e : Ending) (w' : World) : Prop :=
  ∃ u, e = .returned u ∧ w'.ownsRow W.heap.size 5 1 u l.length (encs I l) ∧ RdTo W w' base g v xs s1
set_option maxRecDepth 20000 in
theorem rawR_calls (W : World) (base g : Nat) (v : Value) (xs : List Int) (s : RS) (n : Int) (h : Rdr W base g v xs s.at_ s.met) (hs : s.Ok xs) (hb : base ≤ W.heap.size) (hxl : xs.length ≤ 140737488355328) :
    Calls Tryd.prog 35 #[.pointer (some ⟨g, 0, none⟩), .int .i64 n] W (TakenPost W base g v xs (rRaw xs s n).1 (rRaw xs s n).2) := by
  have c1 := blk_cell h.blk 1
  have c2 := blk_cell h.blk 2
  simp at c1 c2
  have HB := Lib.hid hb
  by_cases hneg : n < 0 ∧ s.met = 0
  · obtain ⟨h1, h2⟩ := hneg
    have e : rRaw xs s n = ([], ⟨s.at_, 4⟩) := by simp [rRaw, h1, h2]
    rw [e]
    have CS := Lib.hid (stop_calls W base g v xs s s.at_ 4 h)
    have CN := fun W' h' => Lib.hid (nextR_calls W' base g v xs ⟨s.at_, 4⟩ n h' ⟨hs.at_, by simp⟩)
    have HC := Lib.hid CN
    rw [h2] at c2
    clear h hs hb h2 CN e
    go_enter Tryd.func35, Tryd.ntmps35
    go_wp2_with fail
    refine CS.out.mono ?_; rintro e w1 ⟨rfl, h1⟩
    have H1 := Lib.hid h1
    have C1 := Lib.hid (HC.out w1 h1.rd (Nat.le_trans HB.out h1.kb.1) (fun e => by simp at e))
    clear h1
    go_wp2_with fail
    refine C1.out.mono ?_; rintro e w2 ⟨A2, c2', rfl, hr2, h2⟩
    rw [rNext_stopped (by simp)] at hr2 h2
    rw [rNext_stopped (by simp)]
    have CT := Lib.hid (taken_calls [] A2 c2' w2 w2.heap.size (Nat.le_refl _) hr2 (by simp))
    have H2 := Lib.hid h2
    clear hr2 h2
    go_wp2_with fail
    refine CT.out.mono ?_; rintro e w3 ⟨u, rfl, hu, hb3⟩
    have HU := Lib.hid hu
    have HB3 := Lib.hid hb3
    clear hu hb3
    go_wp2_with fail
    go_ret
    exact ⟨u, rfl, own_less HU.out (Nat.le_trans H1.out.kb.1 H2.out.kb.1), (H1.out.trans H2.out).below HB.out HB3.out⟩
  · have e : rRaw xs s n = rNext xs s n := by simp [rRaw, hneg]
    rw [e]
    have C1 := Lib.hid (nextR_calls W base g v xs s n h hs hb (fun h0 => by omega))
    obtain ⟨q, hq⟩ : ∃ q, q = rNext xs s n := ⟨_, rfl⟩
    have HLN : Hid (q.1.length ≤ 140737488355328) := by
      show _ ≤ _
      rw [hq]; unfold rNext
      split
      · split
        · simp; omega
        · simp
      · simp
    rw [← hq] at C1 ⊢
    obtain ⟨l, s1⟩ := q
    have hcase : ¬ n < 0 ∨ (n < 0 ∧ ¬ (s.met : Int) = 0) := by omega
    clear h hs hb e hneg hq
    rcases hcase with h0 | ⟨h0, h1⟩
    all_goals
      go_enter Tryd.func35, Tryd.ntmps35
      go_wp2_with fail
      refine C1.out.mono ?_; rintro e w2 ⟨A2, c2', rfl, hr2, h2⟩
      have CT := Lib.hid (taken_calls l A2 c2' w2 w2.heap.size (Nat.le_refl _) hr2 HLN.out)
      have H2 := Lib.hid h2
      clear hr2 h2
      go_wp2_with fail
      refine CT.out.mono ?_; rintro e w3 ⟨u, rfl, hu, hb3⟩
      have HU := Lib.hid hu
      have HB3 := Lib.hid hb3
      clear hu hb3
      go_wp2_with fail
      go_ret
      exact ⟨u, rfl, own_less HU.out H2.out.kb.1, H2.out.below HB.out HB3.out⟩
end Go.Proofs.YtoeiaimoppmjdaaDoor.Wr
