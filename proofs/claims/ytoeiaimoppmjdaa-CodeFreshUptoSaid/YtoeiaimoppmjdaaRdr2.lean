/- Contracts of a Reader's functions: At, Fault, End, Raw, Var, Bytes. -/
import Derived.Test.YtoeiaimoppmjdaaRdr
import Derived.Lib.QuietBelow
namespace Go.Proofs.Ytoeiaimoppmjdaa.Wr
open Go.RowKit Go.Proofs.YtoeiaimoppmjdaaW.PrintWords Go.Proofs.Ytoeiaimoppmjdaa.Bytes
open Go.Sort (grow)
set_option linter.unusedVariables false
set_option linter.unusedSimpArgs false
/-- A list of bytes that a call hands out: in memory of its own. -/
def TakenPost (W : World) (base g : Nat) (v : Value) (xs l : List Int) (s1 : RS) (e : Ending) (w' : World) : Prop :=
  ∃ u, e = .returned u ∧ w'.ownsRow W.heap.size 5 1 u l.length (encs I l) ∧ RdTo W w' base g v xs s1
set_option maxRecDepth 20000 in
theorem rawR_calls (W : World) (base g : Nat) (v : Value) (xs : List Int) (s : RS) (n : Int) (h : Rdr W base g v xs s.at_ s.met) (hs : s.Ok xs) (hb : base ≤ W.heap.size) (hxl : xs.length ≤ 140737488355328) :
    Calls Try.prog 12 #[.pointer (some ⟨g, 0, none⟩), .int .i64 n] W (TakenPost W base g v xs (rRaw xs s n).1 (rRaw xs s n).2) := by
  have c1 := blk_cell h.blk 1
  have c2 := blk_cell h.blk 2
  simp at c1 c2
  have HB := Lib.hid hb
  by_cases hneg : n < 0 ∧ s.met = 0
  · obtain ⟨h1, h2⟩ := hneg
    have e : rRaw xs s n = ([], ⟨s.at_, 4⟩) := by simp [rRaw, h1, h2]
    rw [e]
    have CS := Lib.hid (stop_calls W base g v xs s s.at_ 4 h)
    have CN := fun W' h' => Lib.hid (nextR_calls W' base g v xs ⟨s.at_, 4⟩ n h' ⟨hs.at_, by simp⟩)
    have HC := Lib.hid CN
    rw [h2] at c2
    clear h hs hb h2 CN e
    go_enter Try.func12, Try.ntmps12
    go_wp2_with fail
    refine CS.out.mono ?_; rintro e w1 ⟨rfl, h1⟩
    have H1 := Lib.hid h1
    have C1 := Lib.hid (HC.out w1 h1.rd (Nat.le_trans HB.out h1.kb.1) (fun e => by simp at e))
    clear h1
    go_wp2_with fail
    refine C1.out.mono ?_; rintro e w2 ⟨A2, c2', rfl, hr2, h2⟩
    rw [rNext_stopped (by simp)] at hr2 h2
    rw [rNext_stopped (by simp)]
    have CT := Lib.hid (taken_calls [] A2 c2' w2 w2.heap.size (Nat.le_refl _) hr2 (by simp))
    have H2 := Lib.hid h2
    clear hr2 h2
    go_wp2_with fail
    refine CT.out.mono ?_; rintro e w3 ⟨u, rfl, hu, hb3⟩
    have HU := Lib.hid hu
    have HB3 := Lib.hid hb3
    clear hu hb3
    go_wp2_with fail
    go_ret
    exact ⟨u, rfl, own_less HU.out (Nat.le_trans H1.out.kb.1 H2.out.kb.1), (H1.out.trans H2.out).below HB.out HB3.out⟩
  · have e : rRaw xs s n = rNext xs s n := by simp [rRaw, hneg]
    rw [e]
    have C1 := Lib.hid (nextR_calls W base g v xs s n h hs hb (fun h0 => by omega))
    obtain ⟨q, hq⟩ : ∃ q, q = rNext xs s n := ⟨_, rfl⟩
    have HLN : Hid (q.1.length ≤ 140737488355328) := by
      show _ ≤ _
      rw [hq]; unfold rNext
      split
      · split
        · simp; omega
        · simp
      · simp
    rw [← hq] at C1 ⊢
    obtain ⟨l, s1⟩ := q
    have hcase : ¬ n < 0 ∨ (n < 0 ∧ ¬ (s.met : Int) = 0) := by omega
    clear h hs hb e hneg hq
    rcases hcase with h0 | ⟨h0, h1⟩
    all_goals
      go_enter Try.func12, Try.ntmps12
      go_wp2_with fail
      refine C1.out.mono ?_; rintro e w2 ⟨A2, c2', rfl, hr2, h2⟩
      have CT := Lib.hid (taken_calls l A2 c2' w2 w2.heap.size (Nat.le_refl _) hr2 HLN.out)
      have H2 := Lib.hid h2
      clear hr2 h2
      go_wp2_with fail
      refine CT.out.mono ?_; rintro e w3 ⟨u, rfl, hu, hb3⟩
      have HU := Lib.hid hu
      have HB3 := Lib.hid hb3
      clear hu hb3
      go_wp2_with fail
      go_ret
      exact ⟨u, rfl, own_less HU.out H2.out.kb.1, H2.out.below HB.out HB3.out⟩
end Go.Proofs.Ytoeiaimoppmjdaa.Wr
