/- A Reader and the document's Reader side by side, over the same bytes. -/
import Derived.Test.YtoeiaimoppmjdaaDoorEye5
import Derived.Test.YtoeiaimoppmjdaaDoorPlayed
namespace Go.Proofs.YtoeiaimoppmjdaaDoor.Wr
open Go.RowKit Go.Proofs.YtoeiaimoppmjdaaDoorW.PrintWords Go.Proofs.YtoeiaimoppmjdaaDoor.Bytes
set_option linter.unusedVariables false
set_option linter.unusedSimpArgs false
theorem reads_keep {W W' : World} {A : Option Addr} {n g : Nat} {row : Option Nat} {xs : List Int} (h : ReadsOf I 0 W A n xs) (hk : KeepBut W W' g row) (hne : 0 < n → ∀ ad, A = some ad → ad.block ≠ g) (hr : 0 < n → ∀ ad, A = some ad → some ad.block ≠ row) : ReadsOf I 0 W' A n xs :=
  ⟨h.1, h.2.1, fun h0 => by
    obtain ⟨ad, e, hc⟩ := h.2.2 h0
    refine ⟨ad, e, fun j hj => ?_⟩
    have h1 := hc j hj
    have hlt := World.block_lt_of_cell? W _ h1
    have eb : (ad.add j).block = ad.block := by unfold Addr.add; split <;> rfl
    have e2 := hk.2 (ad.add j).block hlt (by rw [eb]; exact hne h0 ad e) (by rw [eb]; exact hr h0 ad e)
    rw [← h1]
    exact World.cell?_of_block e2⟩
/-- A Reader at g and the document's at ge, over the same bytes and in the same state. -/
structure Pr (W : World) (base g ge : Nat) (v : Value) (A : Option Addr) (c : Nat) (xs : List Int) (s : RS) : Prop where
  rd : Rdr W base g v xs s.at_ s.met
  ey : Eyd W base ge A c xs s
  ne : 0 < xs.length → ∀ ad, A = some ad → ad.block ≠ g
theorem Pr.gne {W : World} {base g ge : Nat} {v : Value} {A : Option Addr} {c : Nat} {xs : List Int} {s : RS} (h : Pr W base g ge v A c xs s) : g ≠ ge := by
  intro e
  have h1 := h.rd.blk
  rw [e, h.ey.blk] at h1
  simp at h1
theorem Pr.below {W W1 : World} {base g ge : Nat} {v : Value} {A : Option Addr} {c : Nat} {xs : List Int} {s : RS} (h : Pr W base g ge v A c xs s) (hb : Below W.heap.size W W1) : Pr W1 base g ge v A c xs s :=
  ⟨rdr_below h.rd hb, h.ey.below hb, h.ne⟩
theorem Pr.vne {W : World} {base g ge : Nat} {v : Value} {A : Option Addr} {c : Nat} {xs : List Int} {s : RS} (h : Pr W base g ge v A c xs s) : v.ownBlock ≠ some ge := by
  intro e
  obtain ⟨cs, hk⟩ := own_kind h.rd.own ge e
  rw [h.ey.blk] at hk
  simp at hk
/-- Behind a call of the Reader the document's stands as it stood. -/
theorem Pr.eye {W W1 : World} {base g ge : Nat} {v : Value} {A : Option Addr} {c : Nat} {xs : List Int} {s s1 : RS} (h : Pr W base g ge v A c xs s) (k : RdTo W W1 base g v xs s1) : Eyd W1 base ge A c xs s :=
  ⟨k.kb.blk h.ey.blk (fun e => h.gne e.symm) (by simp), h.ey.le, reads_keep h.ey.rd k.kb h.ne (by simp), h.ey.cap, h.ey.ne⟩
/-- What a call of each leaves. -/
structure PrTo (W W' : World) (base g ge : Nat) (v : Value) (A : Option Addr) (c : Nat) (xs : List Int) (s : RS) : Prop where
  pr : Pr W' base g ge v A c xs s
  bl : Below base W W'
  kb : KeepBut W W' g (some ge)
theorem PrTo.refl {W : World} {base g ge : Nat} {v : Value} {A : Option Addr} {c : Nat} {xs : List Int} {s : RS} (h : Pr W base g ge v A c xs s) : PrTo W W base g ge v A c xs s := ⟨h, Below.refl _ _, KeepBut.refl _ _ _⟩
theorem PrTo.trans {W W1 W2 : World} {base g ge : Nat} {v : Value} {A : Option Addr} {c : Nat} {xs : List Int} {s s1 : RS} (h : PrTo W W1 base g ge v A c xs s) (k : PrTo W1 W2 base g ge v A c xs s1) : PrTo W W2 base g ge v A c xs s1 :=
  ⟨k.pr, h.bl.trans k.bl, h.kb.trans k.kb (.inl rfl)⟩
theorem PrTo.below {W W1 W2 : World} {base g ge : Nat} {v : Value} {A : Option Addr} {c : Nat} {xs : List Int} {s : RS} (h : PrTo W W1 base g ge v A c xs s) (hb : base ≤ W.heap.size) (k : Below W1.heap.size W1 W2) : PrTo W W2 base g ge v A c xs s :=
  ⟨h.pr.below k, h.bl.trans (k.mono (Nat.le_trans hb h.bl.size)), h.kb.trans (KeepBut.of_below k g (some ge)) (.inl rfl)⟩
theorem PrTo.of {W W1 W2 : World} {base g ge : Nat} {v : Value} {A : Option Addr} {c : Nat} {xs : List Int} {s s1 : RS} (h : Pr W base g ge v A c xs s) (k : RdTo W W1 base g v xs s1) (m : EyTo W1 W2 base ge A c xs s1) : PrTo W W2 base g ge v A c xs s1 :=
  ⟨⟨⟨m.kb.blk k.rd.blk h.gne (by simp), k.rd.le, m.kb.own k.rd.own h.vne (by cases v.ownBlock <;> simp)⟩, m.ey, h.ne⟩, k.bl.trans m.bl, Nat.le_trans k.kb.1 m.kb.1, fun i hi h1 h2 => by
    rw [m.kb.2 i (Nat.lt_of_lt_of_le hi k.kb.1) (fun e => h2 (by rw [e])) (by simp), k.kb.2 i hi h1 (by simp)]⟩
/-- The state behind a call of that kind. -/
def rOp (xs : List Int) (s : RS) (kind m : Int) (n : Nat) : RS :=
  if kind = 1 then (rFix xs s 1).2 else if kind = 2 then (rFix xs s 4).2 else if kind = 3 then (rFix xs s 8).2 else if kind = 4 then (rVar xs s n).2 else if kind = 5 then (rBytes xs s m).2 else if kind = 6 then (rRaw xs s m).2 else s
theorem rOp_ok {xs : List Int} {s : RS} (h : s.Ok xs) (kind m : Int) (n : Nat) : (rOp xs s kind m n).Ok xs := by
  unfold rOp
  split; · exact rFix_ok h 1
  split; · exact rFix_ok h 4
  split; · exact rFix_ok h 8
  split; · exact (rVar_ok h n).1
  split; · exact rBytes_ok h m
  split; · exact rRaw_ok h m
  exact h
end Go.Proofs.YtoeiaimoppmjdaaDoor.Wr
