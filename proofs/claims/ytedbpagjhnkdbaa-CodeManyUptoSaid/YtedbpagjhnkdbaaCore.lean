/- Two Writers, the two lists that they ought to hold, the steps: what each call keeps. -/
import Derived.Test.YtedbpagjhnkdbaaPlayed
namespace Go.Proofs.Ytedbpagjhnkdbaa.Wr
open Go.RowKit Go.Proofs.YtedbpagjhnkdbaaW.PrintWords Go.Proofs.Ytedbpagjhnkdbaa.Bytes
set_option linter.unusedVariables false
set_option linter.unusedSimpArgs false
structure Core (W : World) (B a3 a4 g0 g1 : Nat) (v0 v1 h0 h1 : Value) (x0 x1 : List Int) (vo : Value) (ps : List Stp) : Prop where
  b3 : W.heap[a3]? = some (.cells #[.pointer (some ⟨g0, 0, none⟩), .pointer (some ⟨g1, 0, none⟩)] 44 (0, 0))
  b4 : W.heap[a4]? = some (.cells #[h0, h1] 38 (0, 0))
  le4 : B ≤ a4
  w0 : Wtr W B g0 v0 x0
  w1 : Wtr W B g1 v1 x1
  o0 : W.ownsRow B 5 1 h0 x0.length (encs I x0)
  o1 : W.ownsRow B 5 1 h1 x1.length (encs I x1)
  n00 : NeRow v0 h0
  n11 : NeRow v1 h1
  nvv : NeRow v0 v1
  n01 : NeRow v0 h1
  n10 : NeRow v1 h0
  nhh : NeRow h0 h1
  gg : g0 ≠ g1
  os : W.ownsRow B 48 5 vo ps.length (stpCells ps)
theorem Core.below {W W' : World} {B a3 a4 g0 g1 : Nat} {v0 v1 h0 h1 vo : Value} {x0 x1 : List Int} {ps : List Stp} (c : Core W B a3 a4 g0 g1 v0 v1 h0 h1 x0 x1 vo ps) (hb : Below W.heap.size W W') : Core W' B a3 a4 g0 g1 v0 v1 h0 h1 x0 x1 vo ps :=
  ⟨blk_below c.b3 hb, blk_below c.b4 hb, c.le4, wtr_below c.w0 hb, wtr_below c.w1 hb, pw_own_below c.o0 hb, pw_own_below c.o1 hb, c.n00, c.n11, c.nvv, c.n01, c.n10, c.nhh, c.gg, pw_own_below c.os hb⟩
theorem Two.other {W W' : World} {base g : Nat} {v h v' h' : Value} {xs zs : List Int} (t : Two W W' base g v h v' h' xs zs) {b s n : Nat} {e : TypeId} {u : Value} {us : List Value} (ho : W.ownsRow b e s u n us)
    (hg : u.ownBlock ≠ some g) (n1 : u.ownBlock = none ∨ u.ownBlock ≠ v.ownBlock) (n2 : u.ownBlock = none ∨ u.ownBlock ≠ h.ownBlock) : W'.ownsRow b e s u n us := by
  obtain ⟨h1, h2⟩ := ho
  rcases h2 with h0 | ⟨g', cap, cur, rfl, hb, hh, hr⟩
  · exact ⟨h1, .inl h0⟩
  · refine ⟨h1, .inr ⟨g', cap, cur, rfl, hb, (t.fr g' (blk_lt hh) (fun e => hg (by rw [← e]; rfl)) ?_ ?_).trans hh, hr⟩⟩
    · rcases n1 with e | e
      · simp [Value.ownBlock] at e
      · exact e
    · rcases n2 with e | e
      · simp [Value.ownBlock] at e
      · exact e
theorem Two.block {W W' : World} {base g : Nat} {v h v' h' : Value} {xs zs : List Int} (t : Two W W' base g v h v' h' xs zs) {i : Nat} {cs : Array Value} {ty : TypeId} {n1 n2 : Nat} {l1 l2 : List Value} (hb : W.heap[i]? = some (.cells cs ty (0, 0))) (ht : ty ≠ 5) (hg : i ≠ g)
    (hv : W.ownsRow base 5 1 v n1 l1) (hh : W.ownsRow base 5 1 h n2 l2) : W'.heap[i]? = some (.cells cs ty (0, 0)) :=
  (t.fr i (blk_lt hb) hg (fun e => ne_block hb ht hv e.symm) (fun e => ne_block hb ht hh e.symm)).trans hb
theorem type_ne {W : World} {b b' s s' n n' : Nat} {e e' : TypeId} {v v' : Value} {xs xs' : List Value} (h : W.ownsRow b e s v n xs) (h' : W.ownsRow b' e' s' v' n' xs') (hne : e ≠ e') : v.ownBlock = none ∨ v.ownBlock ≠ v'.ownBlock := own_type_ne h h' hne
theorem ne_blockT {W : World} {base g s n : Nat} {t e : TypeId} {cs : Array Value} {h : Value} {zs : List Value} (hb : W.heap[g]? = some (.cells cs t (0, 0))) (ht : t ≠ e) (ho : W.ownsRow base e s h n zs) : h.ownBlock ≠ some g := by
  intro q
  obtain ⟨c2, hk⟩ := own_kind ho g q
  rw [hb] at hk
  injection hk with hk
  injection hk with _ hk
  exact ht hk
/-- A call on the first Writer, what it gives laid into the first place. -/
theorem Core.step0 {W W' : World} {B a3 a4 g0 g1 : Nat} {v0 v1 h0 h1 vo v' h' : Value} {x0 x1 y : List Int} {ps : List Stp} (c : Core W B a3 a4 g0 g1 v0 v1 h0 h1 x0 x1 vo ps) (t : Two W W' B g0 v0 h0 v' h' y y) :
    Core (W'.setCell ⟨a4, 0, none⟩ h') B a3 a4 g0 g1 v' v1 h' h1 y x1 vo ps := by
  have k3 := t.block c.b3 (by decide) (blk_ne c.b3 c.w0.blk (by decide)) c.w0.own c.o0
  have k4 := t.block c.b4 (by decide) (blk_ne c.b4 c.w0.blk (by decide)) c.w0.own c.o0
  have kg := t.block c.w1.blk (by decide) (fun e => c.gg e.symm) c.w0.own c.o0
  have r1 := t.other c.w1.own (ne_blockT c.w0.blk (by decide) c.w1.own) (ne_to c.nvv) (ne_to (ne_symm c.n10))
  have r2 := t.other c.o1 (ne_blockT c.w0.blk (by decide) c.o1) (ne_to c.n01) (ne_to c.nhh)
  have r3 := t.other c.os (ne_blockT c.w0.blk (by decide) c.os) (type_ne c.os c.w0.own (by decide)) (type_ne c.os c.o0 (by decide))
  have hs := grown_set W' a4 0 h'
  refine ⟨blk_grown k3 hs (fun e => ?_), blk_put k4 0 h' rfl, c.le4, wtr_grown t.wt hs (fun e => ?_) (.inr (ne_blockT k4 (by decide) t.wt.own)), wtr_grown ⟨kg, c.w1.le, r1⟩ hs (fun e => ?_) (.inr (ne_blockT k4 (by decide) r1)),
    own_other t.ho hs (.inr (ne_blockT k4 (by decide) t.ho)), own_other r2 hs (.inr (ne_blockT k4 (by decide) r2)), t.ne, c.n11, ne_append c.nvv t.hv c.w1.own, ne_append c.n01 t.hv c.o1, ne_append' c.n10 t.hh c.w1.own, ne_append c.nhh t.hh c.o1, c.gg, own_other r3 hs (.inr (ne_blockT k4 (by decide) r3))⟩
  · injection e with e; rw [e, k4] at k3; simp at k3
  · injection e with e; have q := t.wt.blk; rw [e, k4] at q; simp at q
  · injection e with e; rw [e, k4] at kg; simp at kg
theorem Core.step1 {W W' : World} {B a3 a4 g0 g1 : Nat} {v0 v1 h0 h1 vo v' h' : Value} {x0 x1 y : List Int} {ps : List Stp} (c : Core W B a3 a4 g0 g1 v0 v1 h0 h1 x0 x1 vo ps) (t : Two W W' B g1 v1 h1 v' h' y y) :
    Core (W'.setCell ⟨a4, 1, none⟩ h') B a3 a4 g0 g1 v0 v' h0 h' x0 y vo ps := by
  have k3 := t.block c.b3 (by decide) (blk_ne c.b3 c.w1.blk (by decide)) c.w1.own c.o1
  have k4 := t.block c.b4 (by decide) (blk_ne c.b4 c.w1.blk (by decide)) c.w1.own c.o1
  have kg := t.block c.w0.blk (by decide) c.gg c.w1.own c.o1
  have r1 := t.other c.w0.own (ne_blockT c.w1.blk (by decide) c.w0.own) (ne_to (ne_symm c.nvv)) (ne_to (ne_symm c.n01))
  have r2 := t.other c.o0 (ne_blockT c.w1.blk (by decide) c.o0) (ne_to c.n10) (ne_to (ne_symm c.nhh))
  have r3 := t.other c.os (ne_blockT c.w1.blk (by decide) c.os) (type_ne c.os c.w1.own (by decide)) (type_ne c.os c.o1 (by decide))
  have hs := grown_set W' a4 1 h'
  refine ⟨blk_grown k3 hs (fun e => ?_), blk_put k4 1 h' rfl, c.le4, wtr_grown ⟨kg, c.w0.le, r1⟩ hs (fun e => ?_) (.inr (ne_blockT k4 (by decide) r1)), wtr_grown t.wt hs (fun e => ?_) (.inr (ne_blockT k4 (by decide) t.wt.own)),
    own_other r2 hs (.inr (ne_blockT k4 (by decide) r2)), own_other t.ho hs (.inr (ne_blockT k4 (by decide) t.ho)), c.n00, t.ne, ne_append' c.nvv t.hv c.w0.own, ne_append' c.n01 t.hh c.w0.own, ne_append c.n10 t.hv c.o0, ne_append' c.nhh t.hh c.o0, c.gg, own_other r3 hs (.inr (ne_blockT k4 (by decide) r3))⟩
  · injection e with e; rw [e, k4] at k3; simp at k3
  · injection e with e; rw [e, k4] at kg; simp at kg
  · injection e with e; have q := t.wt.blk; rw [e, k4] at q; simp at q
/-- The cells of a step in the row. -/
theorem stp_cell {W : World} {B g cap n : Nat} {ps : List Stp} (h : W.ownsRow B 48 5 (.slice (some ⟨g, 0, none⟩) n cap) n (stpCells ps)) (k j : Nat) (hk : k < ps.length) (hn : n = ps.length) (hj : j < 5) : W.cell? ⟨g, k * 5 + j, none⟩ = (ps[k]'hk).cells[j]? := by
  rw [h.cellAt (k * 5 + j) (by omega), stpCells_get ps k j hk hj]
end Go.Proofs.Ytedbpagjhnkdbaa.Wr
