/- CodePlace's memory: one list, another, a Writer, a Reader; contracts of head and Into. -/
import Derived.Test.YtoeiaimoppmjdaaDoorReadP
import Derived.Test.YtoeiaimoppmjdaaDoorOther
import Derived.Test.YtoeiaimoppmjdaaDoorTexts
namespace Go.Proofs.YtoeiaimoppmjdaaDoor.Wr
open Go.RowKit Go.Proofs.YtoeiaimoppmjdaaDoorW.PrintWords Go.Proofs.YtoeiaimoppmjdaaDoor.Bytes
set_option linter.unusedVariables false
set_option linter.unusedSimpArgs false
theorem head_calls (A : Option Addr) (n c : Nat) (w : World) (hn : n ≤ 1048576) : Calls Tryd.prog 27 #[.slice A n c] w fun e w' => e = .returned (.slice A n c) ∧ w' = w := by
  have i1 : ¬ (4194304 : Int) < (n : Int) := by omega
  go_enter Tryd.func27, Tryd.ntmps27
  go_wp2_with fail
  go_ret
  exact ⟨rfl, rfl⟩
theorem into2_calls (n : Nat) (ys zs : List Int) (g cap : Nat) (D : Option Addr) (cap2 base : Nat) (w : World) (hl : ys.length = n) (hz : n ≤ zs.length) (hn : n ≤ 1048576)
    (ho : w.ownsRow base 5 1 (.slice (some ⟨g, 0, none⟩) zs.length cap) zs.length (encs I zs)) (hb : ∀ w', w.grownBy w' (some g) → ReadsOf I 0 w' D n ys) :
    Calls Tryd.prog 32 #[.slice (some ⟨g, 0, none⟩) n cap, .slice D n cap2] w fun e w' => e = .returned (.tuple #[]) ∧ w'.ownsRow base 5 1 (.slice (some ⟨g, 0, none⟩) zs.length cap) zs.length (encs I (ys ++ zs.drop n)) ∧ w.grownBy w' (some g) := by
  have HO := Lib.hid ho
  have HBO := Lib.hid hb
  clear ho hb
  go_enter Tryd.func32, Tryd.ntmps32
  go_wp2_with fail
  go_loopw [4] (fun i wr => ∃ k : Nat, i = .int .i64 k ∧ k ≤ n ∧ wr.ownsRow base 5 1 (.slice (some ⟨g, 0, none⟩) zs.length cap) zs.length (encs I (mix ys zs k)) ∧ w.grownBy wr (some g)) (fun i _ => n - (intOf i).toNat)
  case atStart => exact ⟨0, rfl, by omega, by simpa [mix] using HO.out, only_refl _ _⟩
  case round =>
    obtain ⟨k, rfl, hk, hok, hgk⟩ := hrel
    have HOK := Lib.hid hok
    have HGK := Lib.hid hgk
    clear hok hgk
    by_cases hlt : k < n
    · have hb2 := HBO.out wr HGK.out
      obtain ⟨ad, hD, hc⟩ := hb2.2.2 (by omega)
      subst hD
      have c1 := hc k hlt
      have hat := own_at_of (d := 0) HOK.out (k : Int) (by omega) (by omega)
      rw [Int.toNat_natCast] at hat
      obtain ⟨b, hbd⟩ : ∃ b, b = ys.getD k 0 := ⟨_, rfl⟩
      have hst := own_store_of HOK.out (k : Int) (ys.getD k 0)
      rw [Int.toNat_natCast, mix_set ys zs k (by omega) (by omega)] at hst
      rw [← hbd] at c1 hst
      have a1 := hat.1
      have a2 := hat.2
      have HST := Lib.hid hst
      have i1 : (0 : Int) ≤ (k : Int) := by omega
      have i2 : (k : Int) < (n : Int) := by omega
      clear hb2 hat hst hbd hc
      go_wp2_with fail
      go_roundw
      case rel => exact ⟨k + 1, by go_num, by omega, HST.out.1, only_trans HGK.out HST.out.2⟩
      case measure => simp [intOf]; omega
    · have hk' : k = n := by omega
      have HF : Hid (wr.ownsRow base 5 1 (.slice (some ⟨g, 0, none⟩) zs.length cap) zs.length (encs I (ys ++ zs.drop n))) := by
        have := HOK.out
        rw [hk', mix, List.take_of_length_le (by omega)] at this
        exact this
      clear hk'
      go_wp2_with fail
      go_end0
      exact ⟨rfl, HF.out, HGK.out⟩
/-- What is read is read behind a growth of a block that it does not lie in. -/
theorem reads_grown {W W' : World} {A : Option Addr} {n g : Nat} {xs : List Int} (h : ReadsOf I 0 W A n xs) (hg : W.grownBy W' (some g)) (hne : 0 < n → ∀ ad, A = some ad → ad.block ≠ g) : ReadsOf I 0 W' A n xs :=
  reads_keep h (KeepBut.of_grown hg g) hne (fun h0 ad e e2 => hne h0 ad e (by injection e2))
theorem reads_lt {W : World} {A : Option Addr} {n : Nat} {xs : List Int} (h : ReadsOf I 0 W A n xs) : 0 < n → ∀ ad, A = some ad → ad.block < W.heap.size := fun h0 ad e => by
  obtain ⟨ad', e', hc⟩ := h.2.2 h0
  obtain rfl : ad = ad' := by rw [e] at e'; injection e'
  have hlt := World.block_lt_of_cell? W _ (hc 0 h0)
  have eb : (ad.add 0).block = ad.block := by unfold Addr.add; split <;> rfl
  rwa [eb] at hlt
/-- The list handed in, the other one, a Writer. -/
structure Pl (W : World) (base gi cap : Nat) (zs : List Int) (D : Option Addr) (cd : Nat) (ys : List Int) (g : Nat) (v : Value) (ws : List Int) : Prop where
  io : W.ownsRow base 5 1 (.slice (some ⟨gi, 0, none⟩) zs.length cap) zs.length (encs I zs)
  ot : W.ownsRow base 5 1 (.slice D ys.length cd) ys.length (encs I ys)
  wt : Wtr W base g v ws
  n1 : (Value.slice D ys.length cd).ownBlock ≠ some gi
  n2 : v.ownBlock ≠ some gi
  n3 : v.ownBlock = none ∨ (Value.slice D ys.length cd).ownBlock ≠ v.ownBlock
section
variable {W W1 : World} {base gi cap : Nat} {zs : List Int} {D : Option Addr} {cd : Nat} {ys : List Int} {g : Nat} {v v1 : Value} {ws ws1 : List Int}
theorem Pl.below (h : Pl W base gi cap zs D cd ys g v ws) (hb : Below W.heap.size W W1) : Pl W1 base gi cap zs D cd ys g v ws :=
  ⟨pw_own_below h.io hb, pw_own_below h.ot hb, ⟨blk_below h.wt.blk hb, h.wt.le, pw_own_below h.wt.own hb⟩, h.n1, h.n2, h.n3⟩
theorem Pl.gi_lt (h : Pl W base gi cap zs D cd ys g v ws) : base ≤ gi ∧ gi < W.heap.size := ⟨own_base h.io gi rfl, own_lt h.io gi rfl⟩
theorem Pl.gne (h : Pl W base gi cap zs D cd ys g v ws) : gi ≠ g := fun e => (own_ne_type h.io h.wt.blk (by decide)) (by rw [← e]; rfl)
theorem Pl.put (h : Pl W base gi cap zs D cd ys g v ws) (k : Put W W1 base g v v1 ws1) : Pl W1 base gi cap zs D cd ys g v1 ws1 := by
  refine ⟨k.kb.own h.io (fun e => h.gne (by injection e)) (.inr (fun e => h.n2 e.symm)), k.kb.own h.ot (own_ne_type h.ot h.wt.blk (by decide)) ?_, k.wt, h.n1, ?_, ?_⟩
  · rcases h.n3 with e | e
    · rw [e]; cases (Value.slice D ys.length cd).ownBlock <;> simp
    · exact .inr e
  · rcases k.hat with e | ⟨b, e, hb⟩
    · rw [e]; exact h.n2
    · rw [e]; intro e2; injection e2 with e2; have := h.gi_lt.2; omega
  · rcases k.hat with e | ⟨b, e, hb⟩
    · rw [e]; exact h.n3
    · rw [e]; exact .inr (fun e2 => by have := own_lt h.ot _ e2; omega)
theorem Pl.into {zs1 : List Int} (h : Pl W base gi cap zs D cd ys g v ws) (hl : zs1.length = zs.length) (ho : W1.ownsRow base 5 1 (.slice (some ⟨gi, 0, none⟩) zs.length cap) zs.length (encs I zs1)) (hg : W.grownBy W1 (some gi)) : Pl W1 base gi cap zs1 D cd ys g v ws :=
  ⟨by rw [hl]; exact ho, own_other h.ot hg (.inr h.n1), ⟨blk_grown h.wt.blk hg (fun e => h.gne (by injection e with e; exact e.symm)), h.wt.le, own_other h.wt.own hg (.inr h.n2)⟩, h.n1, h.n2, h.n3⟩
end
/-- A Reader that lies apart from them. -/
structure Fi (W : World) (base gi g : Nat) (v : Value) (g1 : Nat) (v1 : Value) (xs : List Int) : Prop where
  rd : Rdr W base g1 v1 xs 0 0
  f1 : v1.ownBlock ≠ some gi
  f2 : v1.ownBlock = none ∨ v1.ownBlock ≠ v.ownBlock
section
variable {W W1 : World} {base gi cap : Nat} {zs : List Int} {D : Option Addr} {cd : Nat} {ys : List Int} {g : Nat} {v v2 : Value} {ws ws1 : List Int} {g1 : Nat} {v1 : Value} {xs : List Int}
theorem Fi.below (h : Fi W base gi g v g1 v1 xs) (hb : Below W.heap.size W W1) : Fi W1 base gi g v g1 v1 xs := ⟨rdr_below h.rd hb, h.f1, h.f2⟩
theorem Fi.put (h : Fi W base gi g v g1 v1 xs) (p : Pl W base gi cap zs D cd ys g v ws) (k : Put W W1 base g v v2 ws1) : Fi W1 base gi g v2 g1 v1 xs := by
  refine ⟨⟨k.kb.blk h.rd.blk (blk_ne h.rd.blk p.wt.blk (by decide)) (fun e => (own_ne_type p.wt.own h.rd.blk (by decide)) e.symm), h.rd.le, k.kb.own h.rd.own (own_ne_type h.rd.own p.wt.blk (by decide)) h.f2⟩, h.f1, ?_⟩
  rcases k.hat with e | ⟨b, e, hb⟩
  · rw [e]; exact h.f2
  · rw [e]; exact .inr (fun e2 => by have := own_lt h.rd.own _ e2; omega)
theorem Pl.rd (p : Pl W base gi cap zs D cd ys g v ws) (h : Fi W base gi g v g1 v1 xs) {s1 : RS} (k : RdTo W W1 base g1 v1 xs s1) : Pl W1 base gi cap zs D cd ys g v ws :=
  ⟨k.kb.own p.io (own_ne_type p.io h.rd.blk (by decide)) (.inr (by simp [Value.ownBlock])), k.kb.own p.ot (own_ne_type p.ot h.rd.blk (by decide)) (by cases (Value.slice D ys.length cd).ownBlock <;> simp), ⟨k.kb.blk p.wt.blk (blk_ne p.wt.blk h.rd.blk (by decide)) (by simp), p.wt.le, k.kb.own p.wt.own (own_ne_type p.wt.own h.rd.blk (by decide)) (by cases v.ownBlock <;> simp)⟩, p.n1, p.n2, p.n3⟩
theorem Fi.into (h : Fi W base gi g v g1 v1 xs) (p : Pl W base gi cap zs D cd ys g v ws) (hg : W.grownBy W1 (some gi)) : Fi W1 base gi g v g1 v1 xs :=
  ⟨⟨blk_grown h.rd.blk hg (fun e => (own_ne_type p.io h.rd.blk (by decide)) (by injection e with e; rw [e]; rfl)), h.rd.le, own_other h.rd.own hg (.inr h.f1)⟩, h.f1, h.f2⟩
end
end Go.Proofs.YtoeiaimoppmjdaaDoor.Wr
