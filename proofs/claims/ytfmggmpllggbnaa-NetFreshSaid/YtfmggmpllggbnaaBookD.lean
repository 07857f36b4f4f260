/- A book of byte lists in memory: what is kept, the blocks that bear marks; append to such a list. -/
import Derived.Test.YtfmggmpllggbnaaMem
import Derived.WalkKit
import Derived.OwnWalk
import Derived.Deep.AppendLies
import Derived.Deep.RegionLaw
namespace Go.Proofs.Ytfmggmpllggbnaa.Book
open Go.RowKit Go.Proofs.YtfmggmpllggbnaaW.PrintWords Go.Proofs.Ytfmggmpllggbnaa.Mem
set_option linter.unusedVariables false
set_option linter.unusedSimpArgs false
abbrev NL : Value := .slice none 0 0
abbrev Z : Value := .int .i64 0
abbrev pt (g : Nat) : Value := .pointer (some ⟨g, 0, none⟩)
/-- The book's cells: two rows (lists, marks), how many have been grown; all other kinds are empty; the turn, the turn that has been grown, bytes that are kept. -/
abbrev bookC (v vo : Value) (at_ turn done used : Nat) : Array Value := #[v, vo, .int .i64 (at_ : Int), NL, NL, Z, NL, NL, Z, NL, NL, Z, NL, NL, Z, NL, NL, Z, NL, NL, Z, NL, NL, Z, NL, NL, Z, NL, NL, Z, NL, NL, Z, NL, NL, Z, NL, NL, Z, NL, NL, Z, NL, NL, Z, NL, NL, Z, NL, NL, Z, NL, NL, Z, .int .i64 (turn : Int), .int .i64 (done : Int), .int .i64 (used : Int)]
/-- Byte k of the mark of list m. -/
def atV (m k : Nat) : Nat := if k % 2 = 0 then 1 + m % 251 else 1 + (7 * m + m / 251) % 251
theorem atV_le (m k : Nat) : atV m k ≤ 251 := by unfold atV; split <;> omega
/-- A list that is kept: its block (none: nil), length, capacity, mark. -/
structure BL where
  g : Option Nat
  n : Nat
  c : Nat
  m : Nat
def BL.val (l : BL) : Value := .slice (l.g.map fun g => ⟨g, 0, none⟩) l.n l.c
/-- A block that bears mark m in its first N cells. -/
structure BB where
  g : Nat
  m : Nat
  N : Nat
  c : Nat
/-- A block of bytes of which no cell is frozen. -/
def freeP (n c : Nat) (o : Obj) : Prop := ∃ (cur : Array Value) (f : Nat × Nat), o = .cells cur 5 f ∧ (f = (0, 0) ∨ f.1 = cur.size) ∧ c ≤ cur.size ∧ n ≤ cur.size
/-- Its first k bytes are the mark's, n of them are to be. -/
def fillP (m k n c : Nat) (o : Obj) : Prop := ∃ (cur : Array Value) (f : Nat × Nat), o = .cells cur 5 f ∧ (f = (0, 0) ∨ f.1 = cur.size) ∧ c ≤ cur.size ∧ n ≤ cur.size ∧ ∀ j, j < k → cur[j]? = some (.int .u8 (atV m j : Int))
def markP (m N c : Nat) (o : Obj) : Prop := ∃ (cur : Array Value) (f : Nat × Nat), o = .cells cur 5 f ∧ (f = (0, 0) ∨ f.1 = cur.size) ∧ c ≤ cur.size ∧ N ≤ cur.size ∧ ∀ j, j < N → cur[j]? = some (.int .u8 (atV m j : Int))
def blkE (Bs : List BB) : List Ent := Bs.map fun b => (b.g, markP b.m b.N b.c)
/-- A list lies in a block with its own mark, as far as it reaches. -/
def Good (Bs : List BB) (l : BL) : Prop := (l.g = none ∧ l.n = 0 ∧ l.c = 0) ∨ ∃ b, b ∈ Bs ∧ l.g = some b.g ∧ l.m = b.m ∧ l.n ≤ b.N ∧ l.c = b.c
/-- All that was good is good. -/
def More (Bs Bs' : List BB) : Prop := ∀ l, Good Bs l → Good Bs' l
theorem More.refl (Bs : List BB) : More Bs Bs := fun _ h => h
theorem More.trans {A B C : List BB} (h : More A B) (k : More B C) : More A C := fun l hl => k l (h l hl)
theorem more_cons (b : BB) (Bs : List BB) : More Bs (b :: Bs) := fun l h => by
  rcases h with h | ⟨x, hx, h⟩
  · exact .inl h
  · exact .inr ⟨x, List.mem_cons_of_mem _ hx, h⟩
theorem more_up {A C : List BB} {b : BB} (k : Nat) (h : b.N ≤ k) : More (A ++ b :: C) (A ++ { b with N := k } :: C) := fun l hl => by
  rcases hl with hl | ⟨x, hx, h1, h2, h3, h4⟩
  · exact .inl hl
  · rcases List.mem_append.1 hx with hx | hx
    · exact .inr ⟨x, List.mem_append_left _ hx, h1, h2, h3, h4⟩
    · rcases List.mem_cons.1 hx with rfl | hx
      · exact .inr ⟨{ x with N := k }, by simp, h1, h2, Nat.le_trans h3 h, h4⟩
      · exact .inr ⟨x, by simp [hx], h1, h2, h3, h4⟩
theorem blkE_mid (A C : List BB) (b : BB) (x : Ent) : cnt x (blkE (A ++ b :: C)) = one x (b.g, markP b.m b.N b.c) + cnt x (blkE A) + cnt x (blkE C) := by
  simp only [blkE, List.map_append, List.map_cons, cnt_append, cnt_cons]; omega
theorem blkE_cons (b : BB) (C : List BB) (x : Ent) : cnt x (blkE (b :: C)) = one x (b.g, markP b.m b.N b.c) + cnt x (blkE C) := by
  simp only [blkE, List.map_cons, cnt_cons]
theorem free_of_mark {W : World} {g : Nat} {cur : Array Value} {f : Nat × Nat} (h : W.heap[g]? = some (.cells cur 5 f)) (hf : f = (0, 0) ∨ f.1 = cur.size) (j : Nat) (hj : j < cur.size) : W.frozen? ⟨g, j, none⟩ = false := by
  unfold World.frozen?
  rw [h]
  rcases hf with rfl | hf
  · simp
  · obtain ⟨a, b⟩ := f
    simp only at hf
    simp [hf]
    omega
/-- A cell of a list that is kept is its mark's. -/
theorem good_at {w0 W : World} {Bs : List BB} {R : List Ent} (h : St w0 W (blkE Bs ++ R)) {l : BL} (hl : Good Bs l) (j : Nat) (hj : j < l.n) : ∃ g, l.g = some g ∧ W.cell? ⟨g, j, none⟩ = some (.int .u8 (atV l.m j : Int)) := by
  rcases hl with ⟨_, h0, _⟩ | ⟨b, hb, h1, h2, h3, h4⟩
  · omega
  · obtain ⟨o, ho, cur, f, rfl, hf, hc, hN, hm⟩ := h.has (b.g, markP b.m b.N b.c) (List.mem_append_left _ (List.mem_map.2 ⟨b, hb, rfl⟩))
    exact ⟨b.g, h1, by rw [cell_of_row W b.g j _ _ _ ho, h2]; exact hm j (by omega)⟩
theorem setCell_mark {W : World} {g n : Nat} {cur : Array Value} {f : Nat × Nat} (h : W.heap[g]? = some (.cells cur 5 f)) (u : Value) : (W.setCell ⟨g, n, none⟩ u).heap[g]? = some (.cells (cur.setIfInBounds n u) 5 f) := by
  simp only [World.setCell, Array.getElem?_modify, h]
  simp
section
variable {P : Program}
/-- Behind an append of the mark's next byte: the list is longer by one, in its block or in a new one. -/
theorem book_append {w0 W : World} {Bs : List BB} {R : List Ent} (h : St w0 W (blkE Bs ++ R)) {l : BL} (hl : Good Bs l) (hn : l.n ≤ 1099511627776) (t ty : TypeId) (ht : P.underlying t = some (.slice 5)) (hinfo : (P.info? 5).map (fun i => (i.zero, i.size, i.bytes)) = some (some (.int .u8 0), 1, 1))
    (ad : Addr) (c1 : Nat) (hx : W.cell? ad = some (.int .u8 (atV l.m l.n : Int))) :
    ∃ (l' : BL) (Bs' : List BB) (W' : World), (Builtin.append_ #[t, t] ty #[l.val, .slice (some ad) 1 c1]).run P W = .ok l'.val W' ∧ St w0 W' (blkE Bs' ++ R) ∧ Good Bs' l' ∧ More Bs Bs' ∧ l'.n = l.n + 1 ∧ l'.m = l.m := by
  obtain ⟨i0, hi, hzz⟩ := Option.map_eq_some_iff.1 hinfo
  simp only [Prod.mk.injEq] at hzz
  obtain ⟨hz0, hz1, hz2⟩ := hzz
  have hnews : ∀ j u, [Value.int .u8 (atV l.m l.n : Int)][j]? = some u → W.cell? (ad.add j) = some u := by
    intro j u hu
    have : j = 0 := by
      rcases Nat.eq_zero_or_pos j with h0 | h0
      · exact h0
      · rw [List.getElem?_eq_none (by simp; omega)] at hu; cases hu
    subst this
    simp at hu
    have e : ad.add 0 = ad := by unfold Addr.add; split <;> first | rfl | (rename_i h0; exact absurd rfl h0)
    rw [e, hx, hu]
  -- a new block
  have newB : ∀ (old : Nat) (cs : List Value), cs.length = l.n → (∀ j, j < l.n → cs[j]? = some (.int .u8 (atV l.m j : Int))) →
      ∃ Bs', St w0 (W.drew.alloc (.cells (cs.toArray ++ [Value.int .u8 (atV l.m l.n : Int)].toArray ++ Builtin.zeroCells (Value.int .u8 0).cells (grownCap W (l.n + 1) old 5 - (l.n + 1))) 5)) (blkE Bs' ++ R) ∧ Good Bs' ⟨some W.heap.size, l.n + 1, grownCap W (l.n + 1) old 5, l.m⟩ ∧ More Bs Bs' := by
    intro old cs hcl hcs
    have hge := grownCap_ge W (l.n + 1) old 5
    refine ⟨⟨W.heap.size, l.m, l.n + 1, grownCap W (l.n + 1) old 5⟩ :: Bs, (show St w0 _ ((W.heap.size, markP l.m (l.n + 1) (grownCap W (l.n + 1) old 5)) :: (blkE Bs ++ R)) from h.drew.new _ ⟨_, (0, 0), rfl, .inl rfl, ?_, ?_, fun j hj => ?_⟩).re (fun x => by simp only [blkE, List.map_cons, cnt_append, cnt_cons]; omega), .inr ⟨_, List.mem_cons_self .., rfl, rfl, Nat.le_refl _, rfl⟩, more_cons _ _⟩
    · have hz : (Value.int IntKind.u8 0).cells.size = 1 := rfl
      simp only [Array.size_append, List.size_toArray, size_zeroCells, hz, hcl, List.length_singleton]
      omega
    · have hz : (Value.int IntKind.u8 0).cells.size = 1 := rfl
      simp only [Array.size_append, List.size_toArray, size_zeroCells, hz, hcl, List.length_singleton]
      omega
    · rw [Array.getElem?_append_left (by simp; omega)]
      rw [List.append_toArray, List.getElem?_toArray]
      by_cases hj' : j < l.n
      · rw [List.getElem?_append_left (by omega)]; exact hcs j hj'
      · obtain rfl : j = l.n := by omega
        rw [List.getElem?_append_right (by omega)]; simp [hcl]
  rcases hl with ⟨h1, h2, h3⟩ | ⟨b, hb, h1, h2, h3, h4⟩
  · obtain ⟨Bs', hs, hg, hm⟩ := newB 0 [] (by simp [h2]) (by omega)
    refine ⟨⟨some W.heap.size, l.n + 1, grownCap W (l.n + 1) 0 5, l.m⟩, Bs', _, ?_, hs, hg, hm, rfl, rfl⟩
    have hr := run_append_nil (P := P) (w := W) t ty 5 i0 (.int .u8 0) ht hi hz0 ad 1 c1 [.int .u8 (atV l.m l.n : Int)] (by rw [hz1]; simp) hnews (by omega) (by omega) (by rw [hz2]; exact growslice_fits (need := 1) (old := 0) (bytes := 1) (by omega) (by omega))
    have e : l.val = .slice none 0 0 := by simp [BL.val, h1, h2, h3]
    rw [e, hr]
    simp [BL.val, h2]
  · obtain ⟨o, ho, cur, f, rfl, hf, hc, hN, hmk⟩ := h.has (b.g, markP b.m b.N b.c) (List.mem_append_left _ (List.mem_map.2 ⟨b, hb, rfl⟩))
    have ev : l.val = .slice (some ⟨b.g, 0, none⟩) l.n b.c := by simp [BL.val, h1, h4]
    by_cases hroom : l.n + 1 ≤ b.c
    · have hcell : (W.cell? ⟨b.g, l.n, none⟩).isSome = true := by
        rw [cell_of_row W b.g l.n _ _ _ ho, Array.getElem?_eq_getElem (by omega)]; rfl
      have hfree := free_of_mark ho hf l.n (by omega)
      have hr := run_append_room_cells (P := P) W t ty 5 i0 ht hi b.g 0 l.n b.c ad 1 c1 [.int .u8 (atV l.m l.n : Int)] (by rw [hz1]; simp) hnews (by intro u hu; simp at hu; subst hu; rfl) hroom (fun j hj => by
        have : j = 0 := by simp at hj; omega
        subst this; rw [hz1]; simpa using hcell) (fun j hj => by
        have : j = 0 := by simp at hj; omega
        subst this; rw [hz1]; simpa using hfree)
      rw [hz1] at hr
      simp only [Nat.mul_one, Nat.zero_add] at hr
      obtain ⟨A, C, rfl⟩ := List.append_of_mem hb
      refine ⟨⟨some b.g, l.n + 1, b.c, l.m⟩, A ++ { b with N := max b.N (l.n + 1) } :: C, W.setCell ⟨b.g, l.n, none⟩ (.int .u8 (atV l.m l.n : Int)), by rw [ev, hr]; rfl, ?_, .inr ⟨{ b with N := max b.N (l.n + 1) }, by simp, rfl, h2, by simp only; omega, rfl⟩, more_up _ (by omega), rfl, rfl⟩
      have hF := h.re (M := [(b.g, markP b.m b.N b.c)] ++ (blkE A ++ (blkE C ++ R))) (fun x => by simp only [cnt_append, cnt_cons, cnt_nil]; have := blkE_mid A C b x; omega)
      have hge := h.ge (b.g, markP b.m b.N b.c) (List.mem_append_left _ (List.mem_map.2 ⟨b, hb, rfl⟩))
      have hst := hF.step (G := [(b.g, markP b.m (max b.N (l.n + 1)) b.c)]) (W1 := W.setCell ⟨b.g, l.n, none⟩ (.int .u8 (atV l.m l.n : Int))) (h.bl.setCell hge _) (by simp [World.setCell]) (fun k hk hne => Below.heap_setCell W _ _ k (fun e => hne _ (List.mem_singleton.2 rfl) e.symm)) (by simp)
        (fun p hp => by
          obtain rfl := List.mem_singleton.1 hp
          refine ⟨_, setCell_mark ho _, cur.setIfInBounds l.n (.int .u8 (atV l.m l.n : Int)), f, rfl, by simpa using hf, by simpa using hc, by simp; omega, fun j hj => ?_⟩
          by_cases hjn : j = l.n
          · subst hjn; rw [Array.getElem?_setIfInBounds_self_of_lt (by omega), h2]
          · rw [Array.getElem?_setIfInBounds_ne (by omega)]; exact hmk j (by omega)) (fun p hp => .inl ⟨_, List.mem_singleton.2 rfl, by obtain rfl := List.mem_singleton.1 hp; rfl⟩)
      exact hst.re (fun x => by simp only [cnt_append, cnt_cons, cnt_nil]; have := blkE_mid A C { b with N := max b.N (l.n + 1) } x; simp only at this; omega)
    · have holds : ∀ j u, (cur.toList.take l.n)[j]? = some u → W.cell? ((⟨b.g, 0, none⟩ : Addr).add j) = some u := by
        intro j u hu
        have hj : j < l.n := by
          rcases Nat.lt_or_ge j l.n with hj | hj
          · exact hj
          · rw [List.getElem?_eq_none (by simp; omega)] at hu; cases hu
        rw [add_plain, cell_of_row W b.g j _ _ _ ho, ← hu, List.getElem?_take_of_lt hj]; simp
      have hlen : (cur.toList.take l.n).length = l.n := by simp; omega
      have hr := run_append_grow (P := P) (w := W) t ty 5 i0 (.int .u8 0) ht hi hz0 ⟨b.g, 0, none⟩ l.n b.c (cur.toList.take l.n) (by rw [hz1]; simpa using hlen) holds ad 1 c1 [.int .u8 (atV l.m l.n : Int)] (by rw [hz1]; simp) hnews (by omega) (by omega) (by rw [hz2]; exact growslice_fits (by omega) (by omega))
      obtain ⟨Bs', hs, hg, hm⟩ := newB b.c (cur.toList.take l.n) hlen (fun j hj => by rw [List.getElem?_take_of_lt hj]; have := hmk j (by omega); rw [h2]; simpa using this)
      exact ⟨⟨some W.heap.size, l.n + 1, grownCap W (l.n + 1) b.c 5, l.m⟩, Bs', _, by rw [ev, hr]; rfl, hs, hg, hm, rfl, rfl⟩
/-- append at a list of operations, by what it comes to. -/
theorem wpList_append_run {ops : Array Oper} {rest : List Oper} {o : Oper} {a : Act} {W : World} {Q : Exit → Act → World → Prop} (hgd : o.guard = none) (s x : Operand) (t : TypeId)
    (ho : o.op = .call { callee := .builtin .append, args := #[s, x], argTypes := #[t, t] }) (v y v' : Value) (W' : World) (hs : a.eval s = v) (hx : a.eval x = y) (hr : (Builtin.append_ #[t, t] o.type #[v, y]).run P W = .ok v' W') (h : wpList P ops Q rest (a.put o.dst v') W') :
    wpList P ops Q (o :: rest) a W :=
  wpList_plain hgd fun K hK => by
    unfold Oper.wp execOp
    simp only [ho, resolve, invoke, builtin, Sem.run_bind, Sem.run_pure, Result.andThen_ok, List.map_toArray, List.map_cons, List.map_nil, hs, hx, hr]
    exact hK _ _ h
end
/-- A book: its rows, what is kept, how many have been grown, the turns, the bytes; its blocks. -/
structure BkS where
  v : Value
  vo : Value
  kept : List BL
  at_ : Nat
  turn : Nat
  done : Nat
  used : Nat
  Bs : List BB
def marksOf (l : List BL) : List Value := l.map fun x => .int .i64 (x.m : Int)
def bkR (s : BkS) : List Ent := rowE s.v 62 1 s.kept.length (s.kept.map BL.val) ++ rowE s.vo 3 1 s.kept.length (marksOf s.kept)
def bkC (s : BkS) : Array Value := bookC s.v s.vo s.at_ s.turn s.done s.used
def bkE (b : Nat) (s : BkS) : List Ent := B b (bkC s) 107 :: (bkR s ++ blkE s.Bs)
structure BkV (s : BkS) : Prop where
  v : rowV s.v 1 s.kept.length (s.kept.map BL.val)
  vo : rowV s.vo 1 s.kept.length (marksOf s.kept)
  good : ∀ l, l ∈ s.kept → Good s.Bs l
  at_ : s.at_ ≤ s.kept.length
  num : s.kept.length + 96 * (s.kept.length - s.at_) ≤ s.used
  used : s.used ≤ 16777216
  sz : ∀ l, l ∈ s.kept → l.n ≤ 33554432 ∧ l.m ≤ s.turn
  new : ∀ (i : Nat) (h : i < s.kept.length), s.at_ ≤ i → (s.kept[i]).n ≤ 16777216
  done : s.done ≤ s.turn
end Go.Proofs.Ytfmggmpllggbnaa.Book
