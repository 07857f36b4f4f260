/- Two such pairs, held in two rows of two pointers. -/
import Derived.Test.YtoeiaimoppmjdaaDoorReads
namespace Go.Proofs.YtoeiaimoppmjdaaDoor.Wr
open Go.RowKit Go.Proofs.YtoeiaimoppmjdaaDoorW.PrintWords Go.Proofs.YtoeiaimoppmjdaaDoor.Bytes
set_option linter.unusedVariables false
set_option linter.unusedSimpArgs false
abbrev pt (g : Nat) : Value := .pointer (some ⟨g, 0, none⟩)
abbrev nilp : Value := .pointer none
abbrev RBk (W : World) (R : Nat) (p q : Value) : Prop := W.heap[R]? = some (.cells #[p, q] 28 (0, 0))
abbrev EBk (W : World) (E : Nat) (p q : Value) : Prop := W.heap[E]? = some (.cells #[p, q] 30 (0, 0))
/-- A pair is kept where its memory is not touched. -/
theorem pr_keep {W W' : World} {base g h : Nat} {v : Value} {A : Option Addr} {c : Nat} {xs : List Int} {s : RS} (k : Pr W base g h v A c xs s) {q : Nat} {row : Option Nat} (hk : KeepBut W W' q row)
    (h1 : g ≠ q ∧ some g ≠ row) (h2 : h ≠ q ∧ some h ≠ row) (h3 : v.ownBlock ≠ some q) (h4 : v.ownBlock = none ∨ v.ownBlock ≠ row) (h5 : 0 < xs.length → ∀ ad, A = some ad → ad.block ≠ q ∧ some ad.block ≠ row) : Pr W' base g h v A c xs s :=
  ⟨⟨hk.blk k.rd.blk h1.1 h1.2, k.rd.le, hk.own k.rd.own h3 h4⟩, ⟨hk.blk k.ey.blk h2.1 h2.2, k.ey.le, reads_keep k.ey.rd hk (fun h0 ad e => (h5 h0 ad e).1) (fun h0 ad e => (h5 h0 ad e).2), k.ey.cap, k.ey.ne⟩, k.ne⟩
theorem pr_alt {W : World} {base g h : Nat} {v : Value} {A : Option Addr} {c : Nat} {xs : List Int} {s : RS} (k : Pr W base g h v A c xs s) : 0 < xs.length → ∀ ad, A = some ad → ad.block < W.heap.size := fun h0 ad e => by
  obtain ⟨ad', e', hc⟩ := k.ey.rd.2.2 h0
  obtain rfl : ad = ad' := by rw [e] at e'; injection e'
  have hlt := World.block_lt_of_cell? W _ (hc 0 h0)
  have eb : (ad.add 0).block = ad.block := by unfold Addr.add; split <;> rfl
  rwa [eb] at hlt
theorem own_ne_type {W : World} {base n : Nat} {v : Value} {xs : List Int} (h : W.ownsRow base 5 1 v n (encs I xs)) {q : Nat} {cs : Array Value} {t : TypeId} (hb : W.heap[q]? = some (.cells cs t (0, 0))) (ht : t ≠ 5) : v.ownBlock ≠ some q := by
  intro e
  obtain ⟨cs', hk⟩ := own_kind h q e
  rw [hb] at hk
  injection hk with hk
  injection hk with _ hk _
  exact ht hk
/-- The first pair alone. -/
structure P1 (W : World) (base R E g h : Nat) (v : Value) (A : Option Addr) (c : Nat) (xs : List Int) (s : RS) : Prop where
  rb : RBk W R (pt g) nilp
  eb : EBk W E (pt h) nilp
  pr : Pr W base g h v A c xs s
  fa : 0 < xs.length → ∀ ad, A = some ad → ad.block ≠ R ∧ ad.block ≠ E
/-- Both. -/
structure P2 (W : World) (base R E g h : Nat) (v : Value) (A : Option Addr) (c : Nat) (xs : List Int) (s : RS) (g' h' : Nat) (v' : Value) (A' : Option Addr) (c' : Nat) (xs' : List Int) (s' : RS) : Prop where
  rb : RBk W R (pt g) (pt g')
  eb : EBk W E (pt h) (pt h')
  pr : Pr W base g h v A c xs s
  pr' : Pr W base g' h' v' A' c' xs' s'
  ne : g ≠ g' ∧ h ≠ h'
  fa : 0 < xs.length → ∀ ad, A = some ad → ad.block ≠ R ∧ ad.block ≠ E ∧ ad.block ≠ g' ∧ ad.block ≠ h'
  fa' : 0 < xs'.length → ∀ ad, A' = some ad → ad.block ≠ R ∧ ad.block ≠ E ∧ ad.block ≠ g ∧ ad.block ≠ h
theorem P1.below {W W1 : World} {base R E g h : Nat} {v : Value} {A : Option Addr} {c : Nat} {xs : List Int} {s : RS} (k : P1 W base R E g h v A c xs s) (hb : Below W.heap.size W W1) : P1 W1 base R E g h v A c xs s := ⟨blk_below k.rb hb, blk_below k.eb hb, k.pr.below hb, k.fa⟩
theorem P2.below {W W1 : World} {base R E g h : Nat} {v : Value} {A : Option Addr} {c : Nat} {xs : List Int} {s : RS} {g' h' : Nat} {v' : Value} {A' : Option Addr} {c' : Nat} {xs' : List Int} {s' : RS} (k : P2 W base R E g h v A c xs s g' h' v' A' c' xs' s') (hb : Below W.heap.size W W1) : P2 W1 base R E g h v A c xs s g' h' v' A' c' xs' s' := ⟨blk_below k.rb hb, blk_below k.eb hb, k.pr.below hb, k.pr'.below hb, k.ne, k.fa, k.fa'⟩
section
variable {W W1 : World} {base R E g h : Nat} {v : Value} {A : Option Addr} {c : Nat} {xs : List Int} {s : RS} {g' h' : Nat} {v' : Value} {A' : Option Addr} {c' : Nat} {xs' : List Int} {s' : RS}
theorem pr_cross (p : Pr W base g h v A c xs s) (p' : Pr W base g' h' v' A' c' xs' s') : g ≠ h' ∧ h ≠ g' ∧ v.ownBlock ≠ some g' ∧ v.ownBlock ≠ some h' :=
  ⟨blk_ne p.rd.blk p'.ey.blk (by decide), blk_ne p.ey.blk p'.rd.blk (by decide), own_ne_type p.rd.own p'.rd.blk (by decide), own_ne_type p.rd.own p'.ey.blk (by decide)⟩
/-- A call of the first. -/
theorem P2.one (k : P2 W base R E g h v A c xs s g' h' v' A' c' xs' s') {s1 : RS} (m : PrTo W W1 base g h v A c xs s1) : P2 W1 base R E g h v A c xs s1 g' h' v' A' c' xs' s' := by
  have hx := pr_cross k.pr' k.pr
  have r1 : R ≠ g := blk_ne k.rb k.pr.rd.blk (by decide)
  have r2 : R ≠ h := blk_ne k.rb k.pr.ey.blk (by decide)
  have e1 : E ≠ g := blk_ne k.eb k.pr.rd.blk (by decide)
  have e2 : E ≠ h := blk_ne k.eb k.pr.ey.blk (by decide)
  refine ⟨m.kb.blk k.rb r1 (fun e => r2 (by injection e)), m.kb.blk k.eb e1 (fun e => e2 (by injection e)), m.pr, ?_, k.ne, k.fa, k.fa'⟩
  exact pr_keep k.pr' m.kb ⟨k.ne.1.symm, fun e => hx.1 (by injection e)⟩ ⟨hx.2.1, fun e => k.ne.2.symm (by injection e)⟩ hx.2.2.1 (.inr hx.2.2.2) (fun h0 ad e => ⟨(k.fa' h0 ad e).2.2.1, fun e2 => (k.fa' h0 ad e).2.2.2 (by injection e2)⟩)
/-- A call of the second. -/
theorem P2.two (k : P2 W base R E g h v A c xs s g' h' v' A' c' xs' s') {s1 : RS} (m : PrTo W W1 base g' h' v' A' c' xs' s1) : P2 W1 base R E g h v A c xs s g' h' v' A' c' xs' s1 := by
  have hx := pr_cross k.pr k.pr'
  have r1 : R ≠ g' := blk_ne k.rb k.pr'.rd.blk (by decide)
  have r2 : R ≠ h' := blk_ne k.rb k.pr'.ey.blk (by decide)
  have e1 : E ≠ g' := blk_ne k.eb k.pr'.rd.blk (by decide)
  have e2 : E ≠ h' := blk_ne k.eb k.pr'.ey.blk (by decide)
  refine ⟨m.kb.blk k.rb r1 (fun e => r2 (by injection e)), m.kb.blk k.eb e1 (fun e => e2 (by injection e)), ?_, m.pr, k.ne, k.fa, k.fa'⟩
  exact pr_keep k.pr m.kb ⟨k.ne.1, fun e => hx.1 (by injection e)⟩ ⟨hx.2.1, fun e => k.ne.2 (by injection e)⟩ hx.2.2.1 (.inr hx.2.2.2) (fun h0 ad e => ⟨(k.fa h0 ad e).2.2.1, fun e2 => (k.fa h0 ad e).2.2.2 (by injection e2)⟩)
end
/-- A store into a row that lies apart. -/
theorem keep_store (W : World) (q j : Nat) (u : Value) (row : Option Nat) : KeepBut W (W.setCell ⟨q, j, none⟩ u) q row := (KeepBut.refl W q row).set_ j u
theorem keep_swap {W W1 : World} {q r : Nat} (h : KeepBut W W1 q (some r)) : KeepBut W W1 r (some q) := ⟨h.1, fun i hi h1 h2 => h.2 i hi (fun e => h2 (by rw [e])) (fun e => h1 (by injection e))⟩
theorem keep_wide {W W1 : World} {q : Nat} (h : KeepBut W W1 q none) (r : Nat) : KeepBut W W1 q (some r) := ⟨h.1, fun i hi h1 _ => h.2 i hi h1 (by simp)⟩
/-- The list that was lent is written over: all else is kept. -/
structure Fill (W W1 : World) (base gi cap n : Nat) : Prop where
  ow : ∃ ms : List Int, ms.length = n ∧ W1.ownsRow base 5 1 (.slice (some ⟨gi, 0, none⟩) n cap) n (encs I ms)
  bl : Below base W W1
  kb : KeepBut W W1 gi none
theorem Fill.put {W W1 : World} {base gi cap n : Nat} (h : Fill W W1 base gi cap n) (hb : base ≤ gi) (k : Nat) : Fill W (W1.setCell ⟨gi, k, none⟩ (.int .u8 238)) base gi cap n := by
  obtain ⟨ms, hm, ho⟩ := h.ow
  subst hm
  have hst := own_store_of ho (k : Int) (238 : Int)
  rw [Int.toNat_natCast] at hst
  exact ⟨⟨ms.set k 238, by simp, hst.1⟩, h.bl.setCell hb _, h.kb.set_ k _⟩
end Go.Proofs.YtoeiaimoppmjdaaDoor.Wr
