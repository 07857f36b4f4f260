/- A book of byte lists: the new lists are appended to (growBytes). -/
import Derived.Test.YtfmggmpllggbnaaBookG
import Derived.Test.YtfmggmpllggbnaaBookB
namespace Go.Proofs.Ytfmggmpllggbnaa.Book
open Go.RowKit Go.Proofs.YtfmggmpllggbnaaW.PrintWords Go.Proofs.Ytfmggmpllggbnaa.Mem
set_option linter.unusedVariables false
set_option linter.unusedSimpArgs false
/-- What two appends to the book's rows come to: the operations' runs, the cells between them, the book behind them. -/
structure Two (w0 w1 : World) (b : Nat) (R : List Ent) (s s' : BkS) (l : BL) (A : Option Addr) (A0 A1 A2 A6 : Option Addr) (c0 c1 c2 c6 : Nat) (W3 W6 : World) : Prop where
  e0 : s.v = .slice A0 s.kept.length c0
  e1 : s.vo = .slice A1 s.kept.length c1
  r2 : (Builtin.append_ #[88, 88] 88 #[.slice A0 s.kept.length c0, .slice (some ⟨w1.heap.size, 0, none⟩) 1 1]).run Try.prog (w1.alloc (.cells #[.slice A l.n l.c] 62)) = .ok (.slice A2 (s.kept.length + 1) c2) W3
  r6 : (Builtin.append_ #[38, 38] 38 #[.slice A1 s.kept.length c1, .slice (some ⟨W3.heap.size, 0, none⟩) 1 1]).run Try.prog ((W3.setCell ⟨b, 0, none⟩ (.slice A2 (s.kept.length + 1) c2)).alloc (.cells #[.int .i64 (l.m : Int)] 3)) = .ok (.slice A6 (s.kept.length + 1) c6) W6
  x0 : w1.cell? ⟨b, 0, none⟩ = some (.slice A0 s.kept.length c0)
  y0 : W3.cell? ⟨b, 0, none⟩ = some (.slice A0 s.kept.length c0)
  f0 : W3.frozen? ⟨b, 0, none⟩ = false
  z1 : (W3.setCell ⟨b, 0, none⟩ (.slice A2 (s.kept.length + 1) c2)).cell? ⟨b, 1, none⟩ = some (.slice A1 s.kept.length c1)
  y1 : W6.cell? ⟨b, 1, none⟩ = some (.slice A1 s.kept.length c1)
  f1 : W6.frozen? ⟨b, 1, none⟩ = false
  st : St w0 (W6.setCell ⟨b, 1, none⟩ (.slice A6 (s.kept.length + 1) c6)) (bkE b s' ++ R)
  es : s' = { s with v := .slice A2 (s.kept.length + 1) c2, vo := .slice A6 (s.kept.length + 1) c6, kept := s.kept ++ [l] }
  v : rowV s'.v 1 s'.kept.length (s'.kept.map BL.val)
  vo : rowV s'.vo 1 s'.kept.length (marksOf s'.kept)
theorem two_appends {w0 w1 : World} {b : Nat} {R : List Ent} {s : BkS} (hs1 : St w0 w1 (bkE b s ++ R)) (hv : rowV s.v 1 s.kept.length (s.kept.map BL.val)) (hvo : rowV s.vo 1 s.kept.length (marksOf s.kept)) (hl : s.kept.length ≤ 16777216) (l : BL) (A : Option Addr) (hA : A = l.g.map fun g => ⟨g, 0, none⟩) :
    ∃ s' A0 A1 A2 A6 c0 c1 c2 c6 W3 W6, Two w0 w1 b R s s' l A A0 A1 A2 A6 c0 c1 c2 c6 W3 W6 := by
  obtain ⟨A0, c0, e0⟩ := rowV_form hv
  obtain ⟨A1, c1, e1⟩ := rowV_form hvo
  have x0 : w1.cell? ⟨b, 0, none⟩ = some s.v := hs1.cellOf (g := b) (cs := bkC s) (t := 107) (by simp [bkE]) 0 rfl
  have h2 := hs1.newB #[.slice A l.n l.c] 62
  obtain ⟨v2, W3, hr2, hs3, hv3⟩ := row_append (P := Try.prog) (h2.re (M := rowE s.v 62 1 s.kept.length (s.kept.map BL.val) ++ (B b (bkC s) 107 :: (rowE s.vo 3 1 s.kept.length (marksOf s.kept) ++ (blkE s.Bs ++ R)))) (fun x => by simp only [bkE, bkR, cnt_append, cnt_cons]; omega)) hv 88 88 (.slice none 0 0) 24 Try.underlying88 infoL rfl (by omega) (by omega) ⟨w1.heap.size, 0, none⟩ 1 (.slice A l.n l.c) (blk_cell h2.hd 0) rfl
  obtain ⟨A2, c2, rfl⟩ := rowV_form hv3
  have y0 : W3.cell? ⟨b, 0, none⟩ = some s.v := hs3.cellOf (g := b) (cs := bkC s) (t := 107) (by simp) 0 rfl
  have g0 := hs3.freeOf (g := b) (cs := bkC s) (t := 107) (by simp) 0
  have hs4 := (hs3.re (M := B b (bkC s) 107 :: (rowE s.vo 3 1 s.kept.length (marksOf s.kept) ++ (rowE (.slice A2 (s.kept.length + 1) c2) 62 1 (s.kept.length + 1) (s.kept.map BL.val ++ [.slice A l.n l.c]) ++ (blkE s.Bs ++ R)))) (fun x => by simp only [cnt_append, cnt_cons]; omega)).put (cs' := bkC { s with v := .slice A2 (s.kept.length + 1) c2 }) 0 (.slice A2 (s.kept.length + 1) c2) rfl
  have z1 : (W3.setCell ⟨b, 0, none⟩ (.slice A2 (s.kept.length + 1) c2)).cell? ⟨b, 1, none⟩ = some s.vo := blk_cell hs4.hd 1
  have h5 := hs4.newB #[.int .i64 (l.m : Int)] 3
  rw [show (W3.setCell ⟨b, 0, none⟩ (.slice A2 (s.kept.length + 1) c2)).heap.size = W3.heap.size by simp [World.setCell]] at h5
  obtain ⟨v6, W6, hr6, hs6, hv6⟩ := row_append (P := Try.prog) (h5.re (M := rowE s.vo 3 1 s.kept.length (marksOf s.kept) ++ (B b (bkC { s with v := .slice A2 (s.kept.length + 1) c2 }) 107 :: (rowE (.slice A2 (s.kept.length + 1) c2) 62 1 (s.kept.length + 1) (s.kept.map BL.val ++ [.slice A l.n l.c]) ++ (blkE s.Bs ++ R)))) (fun x => by simp only [cnt_append, cnt_cons]; omega)) hvo 38 38 (.int .i64 0) 8 Try.underlying38 infoN rfl (by omega) (by omega) ⟨W3.heap.size, 0, none⟩ 1 (.int .i64 (l.m : Int)) (blk_cell h5.hd 0) rfl
  obtain ⟨A6, c6, rfl⟩ := rowV_form hv6
  have y1 : W6.cell? ⟨b, 1, none⟩ = some s.vo := hs6.cellOf (g := b) (cs := bkC { s with v := .slice A2 (s.kept.length + 1) c2 }) (t := 107) (by simp) 1 rfl
  have g1 := hs6.freeOf (g := b) (cs := bkC { s with v := .slice A2 (s.kept.length + 1) c2 }) (t := 107) (by simp) 1
  have hs7 := (hs6.re (M := B b (bkC { s with v := .slice A2 (s.kept.length + 1) c2 }) 107 :: (rowE (.slice A2 (s.kept.length + 1) c2) 62 1 (s.kept.length + 1) (s.kept.map BL.val ++ [.slice A l.n l.c]) ++ (rowE (.slice A6 (s.kept.length + 1) c6) 3 1 (s.kept.length + 1) (marksOf s.kept ++ [.int .i64 (l.m : Int)]) ++ (blkE s.Bs ++ R)))) (fun x => by simp only [cnt_append, cnt_cons]; omega)).put (cs' := bkC { s with v := .slice A2 (s.kept.length + 1) c2, vo := .slice A6 (s.kept.length + 1) c6 }) 1 (.slice A6 (s.kept.length + 1) c6) rfl
  refine ⟨_, A0, A1, A2, A6, c0, c1, c2, c6, W3, W6, e0, e1, by rw [← e0]; exact hr2, by rw [← e1]; exact hr6, by rw [← e0]; exact x0, by rw [← e0]; exact y0, g0, by rw [← e1]; exact z1, by rw [← e1]; exact y1, g1, ?_, rfl, ?_, ?_⟩
  · exact hs7.re (fun x => by simp only [bkE, bkR, bkC, marksOf, BL.val, hA, List.length_append, List.length_cons, List.length_nil, List.map_append, List.map_cons, List.map_nil, Nat.zero_add, cnt_append, cnt_cons]; omega)
  · simpa [BL.val, hA] using hv3
  · simpa [marksOf] using hv6
/-- While the lists from at_ on are grown: list k is next, then i more appends to the one at hand. -/
structure Gr (s s1 : BkS) (k i : Nat) : Prop where
  v : rowV s1.v 1 s1.kept.length (s1.kept.map BL.val)
  vo : rowV s1.vo 1 s1.kept.length (marksOf s1.kept)
  good : ∀ l, l ∈ s1.kept → Good s1.Bs l
  pre : ∀ j, j < s.kept.length → s1.kept[j]? = s.kept[j]?
  len : s.kept.length ≤ s1.kept.length
  at_ : s1.at_ = s.at_
  turn : s1.turn = s.turn
  done : s1.done = s.done
  used : s1.used = s.used
  num : s1.kept.length + i + 96 * (s.kept.length - k) ≤ s.used
  sz : ∀ l, l ∈ s1.kept → l.n ≤ 33554432 ∧ l.m ≤ s.turn
theorem Gr.start {s : BkS} (h : BkV s) : Gr s s s.at_ 0 := ⟨h.v, h.vo, h.good, fun _ _ => rfl, Nat.le_refl _, rfl, rfl, rfl, rfl, by have := h.num; omega, h.sz⟩
theorem Gr.keep {s s1 s' : BkS} {k i : Nat} {l : BL} (h : Gr s s1 k (i + 1)) (v vo : Value) (e : s' = { s1 with v := v, vo := vo, kept := s1.kept ++ [l] }) (hv : rowV s'.v 1 s'.kept.length (s'.kept.map BL.val)) (hvo : rowV s'.vo 1 s'.kept.length (marksOf s'.kept)) (hg : Good s1.Bs l) (hn : l.n ≤ 33554432) (hm : l.m ≤ s.turn) : Gr s s' k i := by
  subst e
  refine ⟨hv, hvo, fun x hx => ?_, fun j hj => ?_, by have := h.len; simp; omega, h.at_, h.turn, h.done, h.used, by have := h.num; simp; omega, fun x hx => ?_⟩
  · rcases List.mem_append.1 hx with hx | hx
    · exact h.good x hx
    · obtain rfl := List.mem_singleton.1 hx; exact hg
  · show (s1.kept ++ [l])[j]? = _
    rw [List.getElem?_append_left (by have := h.len; omega)]; exact h.pre j hj
  · rcases List.mem_append.1 hx with hx | hx
    · exact h.sz x hx
    · obtain rfl := List.mem_singleton.1 hx; exact ⟨hn, hm⟩
theorem Gr.more {s s1 : BkS} {k i : Nat} (h : Gr s s1 k i) (Bs : List BB) (hm : More s1.Bs Bs) : Gr s { s1 with Bs := Bs } k i := ⟨h.v, h.vo, fun l hl => hm l (h.good l hl), h.pre, h.len, h.at_, h.turn, h.done, h.used, h.num, h.sz⟩
theorem Gr.less {s s1 : BkS} {k i j : Nat} (h : Gr s s1 k i) (hj : j ≤ i) : Gr s s1 k j := ⟨h.v, h.vo, h.good, h.pre, h.len, h.at_, h.turn, h.done, h.used, by have := h.num; omega, h.sz⟩
theorem Gr.next {s s1 : BkS} {k : Nat} (h : Gr s s1 k 0) (hk : k < s.kept.length) : Gr s s1 (k + 1) 96 := ⟨h.v, h.vo, h.good, h.pre, h.len, h.at_, h.turn, h.done, h.used, by have := h.num; omega, h.sz⟩
theorem Gr.fin {s s1 : BkS} (h : Gr s s1 s.kept.length 0) (hV : BkV s) : BkV { s1 with at_ := s1.kept.length } :=
  ⟨h.v, h.vo, h.good, Nat.le_refl _, by have := h.num; have := h.used; simp only; omega, by have := hV.used; have := h.used; simp only; omega, fun l hl => by have := h.sz l hl; have := h.turn; simp only; omega, fun i hi hge => by simp at hge hi; omega, by have := hV.done; have := h.done; have := h.turn; simp only; omega⟩
end Go.Proofs.Ytfmggmpllggbnaa.Book
