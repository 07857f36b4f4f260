/- The calls of CodeFresh over the blocks that are held. -/
import Derived.Test.YtoeiaimoppmjdaaFresh0
namespace Go.Proofs.Ytoeiaimoppmjdaa.Fr
open Go.RowKit Go.Proofs.YtoeiaimoppmjdaaW.PrintWords Go.Proofs.Ytoeiaimoppmjdaa.Mem Go.Proofs.Ytoeiaimoppmjdaa.Wr Go.Proofs.Ytoeiaimoppmjdaa.Bytes
open Go.Proofs.Ytoeiaimoppmjdaa.Late (gotE)
set_option linter.unusedVariables false
set_option linter.unusedSimpArgs false
theorem St.nerow {w0 W : World} {R : List Ent} {g : Nat} {v h : Value} {xs zs : List Int} (H : St w0 W (wtrE g v xs ++ (byR h zs ++ R))) (hv : byV v xs) (hh : byV h zs) : NeRow v h := by
  intro k hk e
  obtain ⟨p, hp, h1⟩ := row_in (e := 5) hv hk
  obtain ⟨q, hq, h2⟩ := row_in (e := 5) hh e
  have hn := (H.re (M := byR v xs ++ byR h zs) (fun a => by simp only [wtrE, cnt_append, cnt_cons]; omega)).nd
  rw [List.map_append] at hn
  exact (List.nodup_append.1 hn).2.2 p.1 (List.mem_map.2 ⟨p, hp, rfl⟩) q.1 (List.mem_map.2 ⟨q, hq, rfl⟩) (by rw [h1, h2])
section
variable {w0 W : World} {R : List Ent}
/-- One call of writes. -/
theorem wr_calls {g : Nat} {v h : Value} {xs : List Int} (p : Stp) (hp : GoodM w0 p) (H : St w0 W (wtrE g v xs ++ (byR h xs ++ R))) (hv : byV v xs) (hh : byV h xs) (hm : xs.length ≤ 35184372088832) :
    Calls Try.prog 8 #[pt g, h, .agg #[.int .i64 p.kind, .int .i64 p.which, .int .i64 p.m, .int .u64 p.n, .slice p.A p.b.length p.c]] W fun e w' => ∃ v' h', e = .returned (.tuple #[h', .bool true]) ∧ byV v' (xs ++ opBytes p.kind p.n p.b) ∧ byV h' (xs ++ opBytes p.kind p.n p.b) ∧ St w0 w' (wtrE g v' (xs ++ opBytes p.kind p.n p.b) ++ (byR h' (xs ++ opBytes p.kind p.n p.b) ++ R)) := by
  have hw := St.wtr H hv
  have ho : W.ownsRow w0.heap.size 5 1 h xs.length (encs I xs) := H.own_in (fun a => by simp only [wtrE, byR, cnt_append, cnt_cons]; omega) hh
  have hn := St.nerow H hv hh
  have hr : ∀ W', Below w0.heap.size W W' → ReadsOf I 0 W' p.A p.b.length p.b := fun W' hb => hp.1.rd.below (H.bl.trans hb)
  have key : ∀ {e : Ending} {w' : World}, (∃ v' h', e = .returned (.tuple #[h', .bool true]) ∧ Two W w' w0.heap.size g v h v' h' (xs ++ opBytes p.kind p.n p.b) (xs ++ opBytes p.kind p.n p.b)) →
      ∃ v' h', e = .returned (.tuple #[h', .bool true]) ∧ byV v' (xs ++ opBytes p.kind p.n p.b) ∧ byV h' (xs ++ opBytes p.kind p.n p.b) ∧ St w0 w' (wtrE g v' (xs ++ opBytes p.kind p.n p.b) ++ (byR h' (xs ++ opBytes p.kind p.n p.b) ++ R)) := fun ⟨v', h', he, t⟩ => by
    obtain ⟨k1, k2, k3⟩ := St.two H hv hh t
    exact ⟨v', h', he, k2, k3, k1⟩
  obtain ⟨kind, which, m, n, b, A, c⟩ := p
  simp only at key hr ⊢
  by_cases h1 : kind = 1
  · subst h1; exact (writes_1 which m n b A c W w0.heap.size g v h xs hw ho hn H.bl.size hr hp.1.n64 hp.1.bl hm).mono fun e w' q => key q
  by_cases h2 : kind = 2
  · subst h2; exact (writes_2 which m n b A c W w0.heap.size g v h xs hw ho hn H.bl.size hr hp.1.n64 hp.1.bl hm).mono fun e w' q => key q
  by_cases h3 : kind = 3
  · subst h3; exact (writes_3 which m n b A c W w0.heap.size g v h xs hw ho hn H.bl.size hr hp.1.n64 hp.1.bl hm).mono fun e w' q => key q
  by_cases h4 : kind = 4
  · subst h4; exact (writes_4 which m n b A c W w0.heap.size g v h xs hw ho hn H.bl.size hr hp.1.n64 hp.1.bl hm).mono fun e w' q => key q
  by_cases h5 : kind = 5
  · subst h5; exact (writes_5 which m n b A c W w0.heap.size g v h xs hw ho hn H.bl.size hr hp.1.n64 hp.1.bl hm).mono fun e w' q => key q
  by_cases h6 : kind = 6
  · subst h6; exact (writes_6 which m n b A c W w0.heap.size g v h xs hw ho hn H.bl.size hr hp.1.n64 hp.1.bl hm).mono fun e w' q => key q
  by_cases h7 : kind = 7
  · subst h7; exact (writes_7 which m n b A c W w0.heap.size g v h xs hw ho hn H.bl.size hr hp.1.n64 hp.1.bl hm).mono fun e w' q => key q
  by_cases h8 : kind = 8
  · subst h8; exact (writes_8 which m n b A c W w0.heap.size g v h xs hw ho hn H.bl.size hr hp.1.n64 hp.1.bl hm).mono fun e w' q => key q
  exact (writes_0 kind ⟨h1, h2, h3, h4, h5, h6, h7, h8⟩ which m n b A c W w0.heap.size g v h xs hw ho hn H.bl.size hr hp.1.n64 hp.1.bl hm).mono fun e w' q => key q
/-- What a list that was handed out is: nil, or in a block of its own. -/
def Out (w0 : World) (l : List Int) (R : List Ent) (e : Ending) (w' : World) : Prop := ∃ (g : Option Nat) (A : Option Addr) (c : Nat), A = (g.map fun g => ⟨g, 0, none⟩) ∧ e = .returned (.slice A l.length c) ∧ (g = none → l = [] ∧ c = 0) ∧ St w0 w' (gotE g l c ++ R)
theorem out_of {u : Value} {l : List Int} {e : Ending} (he : e = .returned u) (h : St w0 W (byR u l ++ R)) (hu : byV u l) : Out w0 l R e W := by
  obtain ⟨g, c, hq, hn, hs⟩ := by_got h hu
  exact ⟨g, _, c, rfl, by rw [he, hq], hn, hs⟩
theorem rb_calls {g : Nat} {v : Value} {xs : List Int} {s : RS} (m : Int) (H : St w0 W (rdrE g v xs s ++ R)) (hv : byV v xs) (hs : s.Ok xs) (hx : Byt xs) (hxl : xs.length ≤ 1048576) (hm1 : -9223372036854775808 ≤ m) (hm2 : m ≤ 9223372036854775807) :
    Calls Try.prog 9 #[pt g, .int .i64 m] W (Out w0 (rBytes xs s m).1 (rdrE g v xs (rBytes xs s m).2 ++ R)) :=
  (bytesR_calls W w0.heap.size g v xs s m (St.rdr H hv) hs H.bl.size hx (by omega) hm1 hm2).mono fun e w' ⟨u, he, ho, t⟩ => out_of he (St.taken H hv t ho).1 (St.taken H hv t ho).2
theorem rr_calls {g : Nat} {v : Value} {xs : List Int} {s : RS} (n : Int) (H : St w0 W (rdrE g v xs s ++ R)) (hv : byV v xs) (hs : s.Ok xs) (hxl : xs.length ≤ 1048576) :
    Calls Try.prog 12 #[pt g, .int .i64 n] W (Out w0 (rRaw xs s n).1 (rdrE g v xs (rRaw xs s n).2 ++ R)) :=
  (rawR_calls W w0.heap.size g v xs s n (St.rdr H hv) hs H.bl.size (by omega)).mono fun e w' ⟨u, he, ho, t⟩ => out_of he (St.taken H hv t ho).1 (St.taken H hv t ho).2
/-- What the document's own makes: a list that is read. -/
def Own (w0 : World) (l : List Int) (R : List Ent) (e : Ending) (w' : World) : Prop := ∃ (A : Option Addr) (c : Nat), e = .returned (.slice A l.length c) ∧ byV (.slice A l.length c) l ∧ St w0 w' (byR (.slice A l.length c) l ++ R)
theorem byV_form {v : Value} {l : List Int} (h : byV v l) : ∃ A c, v = .slice A l.length c := Go.Proofs.Ytoeiaimoppmjdaa.Book.rowV_form h
theorem own_of {u : Value} {l : List Int} {e : Ending} (he : e = .returned u) (h : St w0 W (byR u l ++ R)) (hu : byV u l) : Own w0 l R e W := by
  obtain ⟨A, c, rfl⟩ := byV_form hu
  exact ⟨A, c, he, hu, h⟩
theorem et_calls {g : Nat} {A : Option Addr} {c : Nat} {xs : List Int} {s : RS} (m : Int) (H : St w0 W (eyE g A c xs s :: R)) (hr : ReadsOf I 0 w0 A xs.length xs) (hc : xs.length ≤ c) (hs : s.Ok xs) (hx : Byt xs) (hxl : xs.length ≤ 1048576) (hm2 : m ≤ 9223372036854775807) :
    Calls Try.prog 11 #[pt g, .int .i64 m] W (Own w0 (rBytes xs s m).1 (eyE g A c xs (rBytes xs s m).2 :: R)) :=
  (etext_calls W w0.heap.size g A c xs s m (St.eye H hr hc) hs H.bl.size (by omega) hx hm2).mono fun e w' ⟨u, he, ho, t⟩ => own_of he (St.etaken H t ho).1 (St.etaken H t ho).2
theorem er_calls {g : Nat} {A : Option Addr} {c : Nat} {xs : List Int} {s : RS} (n : Int) (H : St w0 W (eyE g A c xs s :: R)) (hr : ReadsOf I 0 w0 A xs.length xs) (hc : xs.length ≤ c) (hs : s.Ok xs) (hxl : xs.length ≤ 1048576) :
    Calls Try.prog 14 #[pt g, .int .i64 n] W (Own w0 (rRaw xs s n).1 (eyE g A c xs (rRaw xs s n).2 :: R)) :=
  (eraw_calls W w0.heap.size g A c xs s n (St.eye H hr hc) hs H.bl.size (by omega)).mono fun e w' ⟨u, he, ho, t⟩ => own_of he (St.etaken H t ho).1 (St.etaken H t ho).2
theorem ou_calls {g : Nat} {v : Value} {xs : List Int} (H : St w0 W (wtrE g v xs ++ R)) (hv : byV v xs) (hm : xs.length ≤ 16777216) :
    Calls Try.prog 15 #[pt g] W (Out w0 xs (wtrE g v xs ++ R)) :=
  (out_calls W w0.heap.size W.heap.size g v xs (St.wtr H hv) (Nat.le_refl _) (by omega)).mono fun e w' ⟨u, he, ho, hb⟩ => out_of he (H.fresh hb ho).1 (H.fresh hb ho).2
/-- A row that is held reads as its list. -/
theorem by_reads {L : List Ent} {A : Option Addr} {c : Nat} {l : List Int} (h : St w0 W L) (hc : ∀ a, cnt a (byR (.slice A l.length c) l) ≤ cnt a L) (hV : byV (.slice A l.length c) l) : ReadsOf I 0 W A l.length l :=
  own_reads (xs := l) (h.own_in hc hV) (by simp)
end
end Go.Proofs.Ytoeiaimoppmjdaa.Fr
