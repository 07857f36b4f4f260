/- How a pair comes to be: what its memory says, plain. -/
import Derived.Test.YtoeiaimoppmjdaaDoorPairs
namespace Go.Proofs.YtoeiaimoppmjdaaDoor.Wr
open Go.RowKit Go.Proofs.YtoeiaimoppmjdaaDoorW.PrintWords Go.Proofs.YtoeiaimoppmjdaaDoor.Bytes
set_option linter.unusedVariables false
set_option linter.unusedSimpArgs false
theorem own_adr {A : Option Addr} {n c q : Nat} (hq : (Value.slice A n c).ownBlock ≠ some q) : ∀ ad, A = some ad → ad.block ≠ q := fun ad e e2 => by subst e; exact hq (by rw [← e2]; rfl)
theorem own_adr_le {w : World} {base n c : Nat} {A : Option Addr} {xs : List Value} (h : w.ownsRow base 5 1 (.slice A n c) n xs) : ∀ ad, A = some ad → base ≤ ad.block := fun ad e => by subst e; exact own_base h _ rfl
/-- A pair lies apart from a block. -/
structure PFar (gi g h : Nat) (v : Value) (A : Option Addr) (xs : List Int) : Prop where
  g_ : g ≠ gi
  h_ : h ≠ gi
  v_ : v.ownBlock ≠ some gi
  a_ : 0 < xs.length → ∀ ad, A = some ad → ad.block ≠ gi
theorem pfar_old {W : World} {base g h gi : Nat} {v : Value} {A : Option Addr} {c : Nat} {xs : List Int} {s : RS} (k : Pr W base g h v A c xs s) (hg : W.heap.size ≤ gi) : PFar gi g h v A xs :=
  ⟨by have := blk_lt k.rd.blk; omega, by have := blk_lt k.ey.blk; omega, fun e => by have := own_lt k.rd.own _ e; omega, fun h0 ad e => by have := pr_alt k h0 ad e; omega⟩
theorem pr_fill {W W1 : World} {base g h gi : Nat} {v : Value} {A : Option Addr} {c : Nat} {xs : List Int} {s : RS} (k : Pr W base g h v A c xs s) (hk : KeepBut W W1 gi none) (f : PFar gi g h v A xs) : Pr W1 base g h v A c xs s :=
  pr_keep k hk ⟨f.g_, by simp⟩ ⟨f.h_, by simp⟩ f.v_ (by cases v.ownBlock <;> simp) (fun h0 ad e => ⟨f.a_ h0 ad e, by simp⟩)
/-- The new pair, where both pointers are stored. -/
structure Mid (wr wf : World) (base R E gi g h : Nat) (v : Value) (A : Option Addr) (c : Nat) (xs : List Int) (p1 q1 r1 s1 : Value) : Prop where
  rb : RBk wf R p1 q1
  eb : EBk wf E r1 s1
  pr : Pr wf base g h v A c xs ⟨0, 0⟩
  fa : 0 < xs.length → ∀ ad, A = some ad → ad.block ≠ R ∧ ad.block ≠ E ∧ wr.heap.size ≤ ad.block
  g_ : wr.heap.size ≤ g
  h_ : wr.heap.size ≤ h
  kb : KeepBut wr wf R (some E)
  bl : Below base wr wf
  pf : PFar gi g h v A xs
theorem mid_new {base R E k gi g : Nat} {wr wa wb wc wd we wf : World} {v : Value} {A : Option Addr} {c : Nat} {xs : List Int} {p q p1 q1 r s r1 s1 : Value}
    (hb : base ≤ wr.heap.size) (rb : RBk wr R p q) (eb : EBk wr E r s) (hR : base ≤ R) (hE : base ≤ E)
    (hba : Below wr.heap.size wr wa) (hgi : gi < wa.heap.size)
    (hbb : Below wa.heap.size wa wb) (hd : Rdr wb wa.heap.size g v xs 0 0)
    (hwc : wc = wb.setCell ⟨R, k, none⟩ (pt g)) (e1 : (#[p, q] : Array Value).setIfInBounds k (pt g) = #[p1, q1])
    (hbd : Below wc.heap.size wc wd) (hu : wd.ownsRow wc.heap.size 5 1 (.slice A xs.length c) xs.length (encs I xs))
    (hwe : we = wd.alloc (.cells #[.slice A xs.length c, .int .i64 0, .int .i64 0] 34))
    (hwf : wf = we.setCell ⟨E, k, none⟩ (pt wd.heap.size)) (e2 : (#[r, s] : Array Value).setIfInBounds k (pt wd.heap.size) = #[r1, s1]) :
    Mid wr wf base R E gi g wd.heap.size v A c xs p1 q1 r1 s1 := by
  have hRE : R ≠ E := blk_ne rb eb (by decide)
  have hbe : Below wd.heap.size wd we := by rw [hwe]; exact (Below.refl _ _).alloc (Nat.le_refl _) _
  have Ba := (Below.refl base wr).trans (hba.mono hb)
  have Bb := Ba.trans (hbb.mono (Nat.le_trans hb hba.size))
  have Bc : Below base wr wc := by rw [hwc]; exact Bb.setCell hR _
  have Bd := Bc.trans (hbd.mono (Nat.le_trans hb Bc.size))
  have Be := Bd.trans (hbe.mono (Nat.le_trans hb Bd.size))
  have Bf : Below base wr wf := by rw [hwf]; exact Be.setCell hE _
  have ks1 : KeepBut wb wc R (some E) := by rw [hwc]; exact keep_store wb R k _ _
  have ks2 : KeepBut we wf E none := by rw [hwf]; exact keep_store we E k _ _
  have ks2' : KeepBut we wf R (some E) := by rw [hwf]; exact keep_swap (keep_store we E k _ _)
  have kbf : KeepBut wb wf R (some E) := ((ks1.trans (KeepBut.of_below hbd R (some E)) (.inl rfl)).trans (KeepBut.of_below hbe R (some E)) (.inl rfl)).trans ks2' (.inl rfl)
  have krf : KeepBut wr wf R (some E) := ((KeepBut.of_below hba R (some E)).trans (KeepBut.of_below hbb R (some E)) (.inl rfl)).trans kbf (.inl rfl)
  have RBb : RBk wb R p q := blk_below (blk_below rb hba) hbb
  have EBb : EBk wb E r s := blk_below (blk_below eb hba) hbb
  have RBc : RBk wc R p1 q1 := by rw [hwc]; exact blk_put RBb k _ e1
  have EBc : EBk wc E r s := by rw [hwc]; exact (keep_store wb R k _ none).blk EBb (fun e => hRE e.symm) (by simp)
  have EBe : EBk we E r s := blk_below (blk_below EBc hbd) hbe
  have RBe : RBk we R p1 q1 := blk_below (blk_below RBc hbd) hbe
  have ho : we.ownsRow wc.heap.size 5 1 (.slice A xs.length c) xs.length (encs I xs) := pw_own_below hu hbe
  have hof := ks2.own ho (own_ne_type ho EBe (by decide)) (by cases (Value.slice A xs.length c).ownBlock <;> simp)
  have hne : we.heap[wd.heap.size]? = some (.cells #[.slice A xs.length c, .int .i64 0, .int .i64 0] 34 (0, 0)) := by rw [hwe]; exact blk_new wd _
  have s1 := hba.size
  have s2 := hbb.size
  have s3 : wb.heap.size ≤ wc.heap.size := ks1.1
  have s4 := hbd.size
  have hgl := blk_lt hd.blk
  have hgw := hd.le
  have hRl := blk_lt rb
  have hEl := blk_lt eb
  refine ⟨ks2.blk RBe hRE (by simp), by rw [hwf]; exact blk_put EBe k _ e2, ⟨⟨kbf.blk hd.blk (blk_ne hd.blk RBb (by decide)) (fun e => (blk_ne hd.blk EBb (by decide)) (by injection e)), by omega, own_less (kbf.own hd.own (own_ne_type hd.own RBb (by decide)) (.inr (own_ne_type hd.own EBb (by decide)))) (by omega)⟩,
    ⟨ks2.blk hne (blk_ne hne EBe (by decide)) (by simp), by omega, own_reads hof (by simp), Bytes.own_cap hof, fun _ => own_adr (own_ne_type ho hne (by decide))⟩, fun _ ad e => by have := own_adr_le ho ad e; omega⟩, fun _ ad e => ?_, by omega, by omega, krf, Bf, ⟨by omega, by omega, fun e => by have := own_base hd.own _ e; omega, fun _ ad e => by have := own_adr_le ho ad e; omega⟩⟩
  have := own_adr_le ho ad e
  omega
/-- The first pair, from there on. -/
theorem mid_one {wr wf wg wh wi : World} {base R E gi g h : Nat} {v : Value} {A : Option Addr} {c : Nat} {xs : List Int} (m : Mid wr wf base R E gi g h v A c xs (pt g) nilp (pt h) nilp) (hRi : R ≠ gi) (hEi : E ≠ gi)
    (hbg : Below wf.heap.size wf wg) (hk : KeepBut wg wh gi none) (hbi : Below wh.heap.size wh wi) : P1 wi base R E g h v A c xs ⟨0, 0⟩ :=
  ⟨blk_below (hk.blk (blk_below m.rb hbg) hRi (by simp)) hbi, blk_below (hk.blk (blk_below m.eb hbg) hEi (by simp)) hbi, (pr_fill (m.pr.below hbg) hk m.pf).below hbi, fun h0 ad e => ⟨(m.fa h0 ad e).1, (m.fa h0 ad e).2.1⟩⟩
/-- The second, beside the first. -/
theorem mid_two {wr wf wg wh wi : World} {base R E gi g h g0 h0 : Nat} {v v0 : Value} {A A0 : Option Addr} {c c0 : Nat} {xs xs0 : List Int} (k : P1 wr base R E g0 h0 v0 A0 c0 xs0 ⟨0, 0⟩) (m : Mid wr wf base R E gi g h v A c xs (pt g0) (pt g) (pt h0) (pt h)) (hRi : R ≠ gi) (hEi : E ≠ gi) (hgi : wr.heap.size ≤ gi)
    (hbg : Below wf.heap.size wf wg) (hk : KeepBut wg wh gi none) (hbi : Below wh.heap.size wh wi) : P2 wi base R E g0 h0 v0 A0 c0 xs0 ⟨0, 0⟩ g h v A c xs ⟨0, 0⟩ := by
  have l1 := blk_lt k.pr.rd.blk
  have l2 := blk_lt k.pr.ey.blk
  have m1 := m.g_
  have m2 := m.h_
  have p0 : Pr wf base g0 h0 v0 A0 c0 xs0 ⟨0, 0⟩ := pr_keep k.pr m.kb ⟨blk_ne k.pr.rd.blk k.rb (by decide), fun e => (blk_ne k.pr.rd.blk k.eb (by decide)) (by injection e)⟩ ⟨blk_ne k.pr.ey.blk k.rb (by decide), fun e => (blk_ne k.pr.ey.blk k.eb (by decide)) (by injection e)⟩ (own_ne_type k.pr.rd.own k.rb (by decide)) (.inr (own_ne_type k.pr.rd.own k.eb (by decide))) (fun h1 ad e => ⟨(k.fa h1 ad e).1, fun e2 => (k.fa h1 ad e).2 (by injection e2)⟩)
  exact ⟨blk_below (hk.blk (blk_below m.rb hbg) hRi (by simp)) hbi, blk_below (hk.blk (blk_below m.eb hbg) hEi (by simp)) hbi, (pr_fill (p0.below hbg) hk (pfar_old k.pr hgi)).below hbi, (pr_fill (m.pr.below hbg) hk m.pf).below hbi, ⟨by omega, by omega⟩,
    fun h1 ad e => ⟨(k.fa h1 ad e).1, (k.fa h1 ad e).2, by have := pr_alt k.pr h1 ad e; omega, by have := pr_alt k.pr h1 ad e; omega⟩, fun h1 ad e => ⟨(m.fa h1 ad e).1, (m.fa h1 ad e).2.1, by have := (m.fa h1 ad e).2.2; omega, by have := (m.fa h1 ad e).2.2; omega⟩⟩
end Go.Proofs.YtoeiaimoppmjdaaDoor.Wr
