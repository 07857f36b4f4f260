/- What one call on a Writer leaves: the Writer, the list that it ought to hold, the list lent to it. -/
import Derived.Test.YtoeiaimoppmjdaaTexts
namespace Go.Proofs.Ytoeiaimoppmjdaa.Wr
open Go.RowKit Go.Proofs.YtoeiaimoppmjdaaW.PrintWords Go.Proofs.Ytoeiaimoppmjdaa.Bytes
set_option linter.unusedVariables false
set_option linter.unusedSimpArgs false
def Hat (W : World) (v v' : Value) : Prop := v'.ownBlock = v.ownBlock ∨ ∃ b, v'.ownBlock = some b ∧ W.heap.size ≤ b
theorem Hat.refl (W : World) (v : Value) : Hat W v v := .inl rfl
theorem Hat.step {W W1 : World} {v v1 v2 : Value} (h : Hat W v v1) (hs : W.heap.size ≤ W1.heap.size) (k : v2.ownBlock = v1.ownBlock ∨ ∃ b, v2.ownBlock = some b ∧ W1.heap.size ≤ b) : Hat W v v2 := by
  rcases k with e | ⟨b, e, hb⟩
  · exact h.imp (fun q => e.trans q) (fun ⟨b, q, hb⟩ => ⟨b, e.trans q, hb⟩)
  · exact .inr ⟨b, e, Nat.le_trans hs hb⟩
theorem Hat.ne {W : World} {v v' : Value} (h : Hat W v v') {i : Nat} (hi : i < W.heap.size) (hn : some i ≠ v.ownBlock) : some i ≠ v'.ownBlock := by
  rcases h with e | ⟨b, e, hb⟩
  · rwa [e]
  · rw [e]; intro q; injection q with q; omega
structure Two (W W' : World) (base g : Nat) (v h v' h' : Value) (xs zs : List Int) : Prop where
  wt : Wtr W' base g v' xs
  ho : W'.ownsRow base 5 1 h' zs.length (encs I zs)
  ne : NeRow v' h'
  bl : Below base W W'
  fr : ∀ i, i < W.heap.size → i ≠ g → some i ≠ v.ownBlock → some i ≠ h.ownBlock → W'.heap[i]? = W.heap[i]?
  hv : Hat W v v'
  hh : Hat W h h'
theorem ne_block {W : World} {base g : Nat} {t : TypeId} {cs : Array Value} {h : Value} {n : Nat} {zs : List Value} (hb : W.heap[g]? = some (.cells cs t (0, 0))) (ht : t ≠ 5) (ho : W.ownsRow base 5 1 h n zs) : h.ownBlock ≠ some g := by
  intro e
  obtain ⟨c2, hk⟩ := own_kind ho g e
  rw [hb] at hk
  injection hk with hk
  injection hk with _ hk
  exact ht hk
theorem ne_to {v h : Value} (hn : NeRow v h) : h.ownBlock = none ∨ h.ownBlock ≠ v.ownBlock := ne_other hn
theorem Two.refl {W : World} {base g : Nat} {v h : Value} {xs zs : List Int} (hw : Wtr W base g v xs) (ho : W.ownsRow base 5 1 h zs.length (encs I zs)) (hn : NeRow v h) : Two W W base g v h v h xs zs :=
  ⟨hw, ho, hn, Below.refl _ _, fun _ _ _ _ _ => rfl, Hat.refl _ _, Hat.refl _ _⟩
theorem Two.size {W W' : World} {base g : Nat} {v h v' h' : Value} {xs zs : List Int} (t : Two W W' base g v h v' h' xs zs) : W.heap.size ≤ W'.heap.size := t.bl.size
theorem Two.put {W W1 W2 : World} {base g : Nat} {v h v1 h1 v2 : Value} {xs zs xs2 : List Int} (t : Two W W1 base g v h v1 h1 xs zs) (p : Put W1 W2 base g v1 v2 xs2) : Two W W2 base g v h v2 h1 xs2 zs :=
  ⟨p.wt, p.kb.own t.ho (ne_block t.wt.blk (by decide) t.ho) (ne_to t.ne), ne_append t.ne p.hat t.ho, t.bl.trans p.bl,
    fun i hi h1 h2 h3 => (p.kb.2 i (Nat.lt_of_lt_of_le hi t.size) h1 (t.hv.ne hi h2)).trans (t.fr i hi h1 h2 h3), t.hv.step t.size p.hat, t.hh⟩
theorem wtr_grown {W W1 : World} {base g : Nat} {v : Value} {xs : List Int} {row : Option Nat} (h : Wtr W base g v xs) (hg : W.grownBy W1 row) (h1 : some g ≠ row) (h2 : v.ownBlock = none ∨ v.ownBlock ≠ row) : Wtr W1 base g v xs :=
  ⟨blk_grown h.blk hg h1, h.le, own_other h.own hg h2⟩
theorem wtr_below {W W1 : World} {base g : Nat} {v : Value} {xs : List Int} (h : Wtr W base g v xs) (hb : Below W.heap.size W W1) : Wtr W1 base g v xs :=
  ⟨blk_below h.blk hb, h.le, pw_own_below h.own hb⟩
theorem Two.held {W W1 W2 : World} {base g : Nat} {v h v1 h1 h2 : Value} {xs zs zs2 : List Int} (t : Two W W1 base g v h v1 h1 xs zs) (hb : base ≤ W.heap.size) (hg : W1.grownBy W2 h1.ownBlock) (ho : W2.ownsRow base 5 1 h2 zs2.length (encs I zs2))
    (hat : h2.ownBlock = h1.ownBlock ∨ ∃ b, h2.ownBlock = some b ∧ W1.heap.size ≤ b) : Two W W2 base g v h v1 h2 xs zs2 :=
  ⟨wtr_grown t.wt hg (fun e => ne_block t.wt.blk (by decide) t.ho e.symm) (ne_to (ne_symm t.ne)), ho, ne_append' t.ne hat t.wt.own, t.bl.trans ((Below.refl base W1).grown hg (Nat.le_trans hb t.size) (own_base t.ho)),
    fun i hi q1 q2 q3 => (hg.block i (Nat.lt_of_lt_of_le hi t.size) (t.hh.ne hi q3)).trans (t.fr i hi q1 q2 q3), t.hv, t.hh.step t.size hat⟩
theorem Two.below {W W1 W2 : World} {base g : Nat} {v h v1 h1 : Value} {xs zs : List Int} (t : Two W W1 base g v h v1 h1 xs zs) (hb0 : base ≤ W.heap.size) (hb : Below W1.heap.size W1 W2) : Two W W2 base g v h v1 h1 xs zs :=
  ⟨wtr_below t.wt hb, pw_own_below t.ho hb, t.ne, t.bl.trans (hb.mono (Nat.le_trans hb0 t.size)), fun i hi q1 q2 q3 => (hb.block i (Nat.lt_of_lt_of_le hi t.size)).trans (t.fr i hi q1 q2 q3), t.hv, t.hh⟩
/-- A row of its own, made behind W, is written. -/
theorem Two.side {W W1 W2 : World} {base g gi : Nat} {v h v1 h1 : Value} {xs zs : List Int} (t : Two W W1 base g v h v1 h1 xs zs) (hb0 : base ≤ W.heap.size) (hg : W1.grownBy W2 (some gi)) (hi : W.heap.size ≤ gi) (n0 : g ≠ gi) (n1 : v1.ownBlock ≠ some gi) (n2 : h1.ownBlock ≠ some gi) : Two W W2 base g v h v1 h1 xs zs :=
  ⟨wtr_grown t.wt hg (fun e => n0 (by injection e)) (.inr n1), own_other t.ho hg (.inr n2), t.ne, t.bl.trans ((Below.refl base W1).grown hg (Nat.le_trans hb0 t.size) (fun k hk => by injection hk with hk; omega)),
    fun i hi2 q1 q2 q3 => (hg.block i (Nat.lt_of_lt_of_le hi2 t.size) (fun e => by injection e with e; omega)).trans (t.fr i hi2 q1 q2 q3), t.hv, t.hh⟩
/-- The list lent. -/
structure Lent (W W' : World) (g : Nat) (v' h' : Value) (gi cap : Nat) (ms : List Int) : Prop where
  io : W'.ownsRow W.heap.size 5 1 (.slice (some ⟨gi, 0, none⟩) ms.length cap) ms.length (encs I ms)
  le : W.heap.size ≤ gi
  ng : g ≠ gi
  nv : v'.ownBlock ≠ some gi
  nh : h'.ownBlock ≠ some gi
theorem Lent.put {W W1 W2 : World} {base g gi cap : Nat} {v1 v2 h1 : Value} {ms xs2 : List Int} (l : Lent W W1 g v1 h1 gi cap ms) (p : Put W1 W2 base g v1 v2 xs2) : Lent W W2 g v2 h1 gi cap ms :=
  have hi : gi < W1.heap.size := own_lt l.io gi rfl
  ⟨p.kb.own l.io (fun e => l.ng (by injection e with e; exact e.symm)) (.inr (fun e => l.nv e.symm)), l.le, l.ng, by
    rcases p.hat with e | ⟨b, e, hb⟩
    · rw [e]; exact l.nv
    · rw [e]; intro q; injection q with q; omega, l.nh⟩
theorem Lent.held {W W1 W2 : World} {g gi cap : Nat} {v1 h1 h2 : Value} {ms : List Int} (l : Lent W W1 g v1 h1 gi cap ms) (hg : W1.grownBy W2 h1.ownBlock) (hat : h2.ownBlock = h1.ownBlock ∨ ∃ b, h2.ownBlock = some b ∧ W1.heap.size ≤ b) : Lent W W2 g v1 h2 gi cap ms :=
  have hi : gi < W1.heap.size := own_lt l.io gi rfl
  ⟨own_other l.io hg (.inr (fun e => l.nh e.symm)), l.le, l.ng, l.nv, by
    rcases hat with e | ⟨b, e, hb⟩
    · rw [e]; exact l.nh
    · rw [e]; intro q; injection q with q; omega⟩
theorem Lent.below {W W1 W2 : World} {g gi cap : Nat} {v1 h1 : Value} {ms : List Int} (l : Lent W W1 g v1 h1 gi cap ms) (hb : Below W1.heap.size W1 W2) : Lent W W2 g v1 h1 gi cap ms :=
  ⟨pw_own_below l.io hb, l.le, l.ng, l.nv, l.nh⟩
/-- The bytes that the document says that a step writes. -/
def opBytes (kind : Int) (n : Nat) (b : List Int) : List Int :=
  if kind = 1 then fixL (n % 256) 1 else if kind = 2 then fixL (n % 4294967296) 4 else if kind = 3 then fixL n 8 else if kind = 4 then vr n
  else if kind = 5 then vr b.length ++ b else if kind = 6 then b else []
end Go.Proofs.Ytoeiaimoppmjdaa.Wr
