/- What is held of memory, as a list of blocks and what each holds: blocks apart from one another, all made since the law began. -/
import Derived.Test.YtoeiaimoppmjdaaDoorWWords
import Derived.Below
import Derived.Lib.Hide
namespace Go.Proofs.YtoeiaimoppmjdaaDoor.Mem
open Go.RowKit Go.Proofs.YtoeiaimoppmjdaaDoorW.PrintWords
set_option linter.unusedVariables false
set_option linter.unusedSimpArgs false
/-- A block and what is known of it. -/
abbrev Ent := Nat × (Obj → Prop)
open Classical in
/-- How often an entry stands in a list: to say that one list is another, in another order, or a part of it. -/
noncomputable def cnt (a : Ent) (L : List Ent) : Nat := L.countP (fun x => decide (x = a))
theorem cnt_nil (a : Ent) : cnt a [] = 0 := rfl
noncomputable def one (a b : Ent) : Nat := cnt a [b]
theorem cnt_cons (a b : Ent) (L : List Ent) : cnt a (b :: L) = one a b + cnt a L := by
  unfold one cnt; simp only [List.countP_cons, List.countP_nil]; omega
theorem cnt_append (a : Ent) (L M : List Ent) : cnt a (L ++ M) = cnt a L + cnt a M := by unfold cnt; exact List.countP_append
theorem cnt_pos {a : Ent} {L : List Ent} : 0 < cnt a L ↔ a ∈ L := by
  unfold cnt; rw [List.countP_pos_iff]; simp
/-- A list that has each entry at most as often is a part of one in another order. -/
theorem subperm_of {L M : List Ent} (h : ∀ a, cnt a M ≤ cnt a L) : ∃ K, L.Perm (M ++ K) := by
  induction M generalizing L with
  | nil => exact ⟨L, List.Perm.refl _⟩
  | cons b M ih =>
    have hb : b ∈ L := cnt_pos.1 (by have := h b; rw [cnt_cons] at this; have h2 : 0 < one b b := cnt_pos.2 (List.mem_singleton.2 rfl); omega)
    obtain ⟨l1, l2, rfl⟩ := List.append_of_mem hb
    obtain ⟨K, hK⟩ := ih (L := l1 ++ l2) (fun a => by have := h a; rw [cnt_cons, cnt_append, cnt_cons a b l2] at this; rw [cnt_append]; omega)
    exact ⟨K, List.perm_middle.trans (by simpa using hK.cons b)⟩
/-- Of what has been made since world w0 these blocks are held, each apart from the others; what was there in w0 is as it was. -/
structure St (w0 W : World) (L : List Ent) : Prop where
  bl : Below w0.heap.size w0 W
  nd : (L.map (·.1)).Nodup
  ge : ∀ p, p ∈ L → w0.heap.size ≤ p.1
  has : ∀ p, p ∈ L → ∃ o, W.heap[p.1]? = some o ∧ p.2 o
theorem St.start (w : World) : St w w [] := ⟨Below.refl _ _, List.nodup_nil, by simp, by simp⟩
theorem St.lt {w0 W : World} {L : List Ent} (h : St w0 W L) {p : Ent} (hp : p ∈ L) : p.1 < W.heap.size := by
  obtain ⟨o, ho, _⟩ := h.has p hp
  exact (Array.getElem?_eq_some_iff.1 ho).1
/-- In another order; a part of it. -/
theorem St.re {w0 W : World} {L M : List Ent} (h : St w0 W L) (hc : ∀ a, cnt a M ≤ cnt a L) : St w0 W M := by
  obtain ⟨K, hK⟩ := subperm_of hc
  have hm : ∀ p, p ∈ M → p ∈ L := fun p hp => hK.symm.subset (List.mem_append_left _ hp)
  refine ⟨h.bl, ?_, fun p hp => h.ge p (hm p hp), fun p hp => h.has p (hm p hp)⟩
  have hn := (hK.map (·.1)).nodup_iff.1 h.nd
  rw [List.map_append] at hn
  exact (List.nodup_append.1 hn).1
theorem St.tail {w0 W : World} {L M : List Ent} (h : St w0 W (L ++ M)) : St w0 W M := h.re (fun a => by rw [cnt_append]; omega)
theorem St.front {w0 W : World} {L M : List Ent} (h : St w0 W (L ++ M)) : St w0 W L := h.re (fun a => by rw [cnt_append]; omega)
theorem St.swap {w0 W : World} {L M : List Ent} (h : St w0 W (L ++ M)) : St w0 W (M ++ L) := h.re (fun a => by rw [cnt_append, cnt_append]; omega)
/-- Less is known. -/
theorem St.weak {w0 W : World} {g : Nat} {P Q : Obj → Prop} {R : List Ent} (h : St w0 W ((g, P) :: R)) (hPQ : ∀ o, P o → Q o) : St w0 W ((g, Q) :: R) :=
  ⟨h.bl, h.nd, fun p hp => by
    rcases List.mem_cons.1 hp with rfl | hp
    · exact h.ge (g, P) (List.mem_cons_self ..)
    · exact h.ge p (List.mem_cons_of_mem _ hp), fun p hp => by
    rcases List.mem_cons.1 hp with rfl | hp
    · obtain ⟨o, ho, hP⟩ := h.has (g, P) (List.mem_cons_self ..)
      exact ⟨o, ho, hPQ o hP⟩
    · exact h.has p (List.mem_cons_of_mem _ hp)⟩
/-- A step that changes blocks of F alone: what it leaves of them, and what it makes. -/
theorem St.step {w0 W W1 : World} {F G R : List Ent} (h : St w0 W (F ++ R)) (hb : Below w0.heap.size w0 W1) (hs : W.heap.size ≤ W1.heap.size)
    (hk : ∀ k, k < W.heap.size → (∀ p, p ∈ F → p.1 ≠ k) → W1.heap[k]? = W.heap[k]?)
    (hn : (G.map (·.1)).Nodup) (hG : ∀ p, p ∈ G → ∃ o, W1.heap[p.1]? = some o ∧ p.2 o) (hF : ∀ p, p ∈ G → (∃ q, q ∈ F ∧ q.1 = p.1) ∨ W.heap.size ≤ p.1) : St w0 W1 (G ++ R) := by
  have hnd := h.nd
  rw [List.map_append] at hnd
  obtain ⟨n1, n2, n3⟩ := List.nodup_append.1 hnd
  refine ⟨hb, ?_, ?_, ?_⟩
  · rw [List.map_append]
    refine List.nodup_append.2 ⟨hn, n2, ?_⟩
    intro a ha b hb' e
    obtain ⟨p, hp, rfl⟩ := List.mem_map.1 ha
    obtain ⟨q, hq, rfl⟩ := List.mem_map.1 hb'
    rcases hF p hp with ⟨r, hr, e2⟩ | hge
    · exact n3 r.1 (List.mem_map.2 ⟨r, hr, rfl⟩) q.1 hb' (by rw [e2, e])
    · have := h.lt (List.mem_append_right F hq)
      omega
  · intro p hp
    rcases List.mem_append.1 hp with hp | hp
    · rcases hF p hp with ⟨r, hr, e2⟩ | hge
      · rw [← e2]; exact h.ge r (List.mem_append_left _ hr)
      · exact Nat.le_trans h.bl.size hge
    · exact h.ge p (List.mem_append_right _ hp)
  · intro p hp
    rcases List.mem_append.1 hp with hp | hp
    · exact hG p hp
    · obtain ⟨o, ho, hP⟩ := h.has p (List.mem_append_right _ hp)
      refine ⟨o, ?_, hP⟩
      rw [hk p.1 (h.lt (List.mem_append_right _ hp)) (fun q hq e => n3 q.1 (List.mem_map.2 ⟨q, hq, rfl⟩) p.1 (List.mem_map.2 ⟨p, hp, rfl⟩) e)]
      exact ho
/-- Nothing that was there has changed. -/
theorem St.below {w0 W W1 : World} {L : List Ent} (h : St w0 W L) (hb : Below W.heap.size W W1) : St w0 W1 L := by
  have h' := St.step (F := L) (G := L) (R := []) (by simpa using h) (h.bl.trans (hb.mono h.bl.size)) hb.size (fun k hk _ => hb.block k hk) h.nd
    (fun p hp => by obtain ⟨o, ho, hP⟩ := h.has p hp; exact ⟨o, by rw [hb.block p.1 (h.lt hp)]; exact ho, hP⟩) (fun p hp => .inl ⟨p, hp, rfl⟩)
  simpa using h'
theorem St.drew {w0 W : World} {L : List Ent} (h : St w0 W L) : St w0 W.drew L := h.below (Below.refl _ _).drew
/-- A block known whole. -/
abbrev B (g : Nat) (cs : Array Value) (t : TypeId) : Ent := (g, fun o => o = .cells cs t (0, 0))
theorem St.new {w0 W : World} {L : List Ent} (h : St w0 W L) (o : Obj) {P : Obj → Prop} (hP : P o) : St w0 (W.alloc o) ((W.heap.size, P) :: L) := by
  have hb : Below W.heap.size W (W.alloc o) := (Below.refl _ _).alloc (Nat.le_refl _) _
  have := St.step (F := []) (G := [(W.heap.size, P)]) (R := L) (by simpa using h) (h.bl.trans (hb.mono h.bl.size)) hb.size (fun k hk _ => hb.block k hk) (by simp)
    (fun p hp => by obtain rfl := List.mem_singleton.1 hp; exact ⟨o, by show (W.heap.push o)[W.heap.size]? = _; simp, hP⟩) (fun p hp => by obtain rfl := List.mem_singleton.1 hp; exact .inr (Nat.le_refl _))
  simpa using this
theorem St.newB {w0 W : World} {L : List Ent} (h : St w0 W L) (cs : Array Value) (t : TypeId) : St w0 (W.alloc (.cells cs t)) (B W.heap.size cs t :: L) := h.new _ rfl
theorem St.blk {w0 W : World} {L : List Ent} (h : St w0 W L) {g : Nat} {cs : Array Value} {t : TypeId} (hm : B g cs t ∈ L) : W.heap[g]? = some (.cells cs t (0, 0)) := by
  obtain ⟨o, ho, rfl⟩ := h.has _ hm
  exact ho
theorem St.hd {w0 W : World} {R : List Ent} {g : Nat} {cs : Array Value} {t : TypeId} (h : St w0 W (B g cs t :: R)) : W.heap[g]? = some (.cells cs t (0, 0)) := h.blk (List.mem_cons_self ..)
/-- A store into a block known whole. -/
theorem St.put {w0 W : World} {R : List Ent} {g : Nat} {cs cs' : Array Value} {t : TypeId} (h : St w0 W (B g cs t :: R)) (j : Nat) (u : Value) (e : cs.setIfInBounds j u = cs') : St w0 (W.setCell ⟨g, j, none⟩ u) (B g cs' t :: R) := by
  have hg := h.ge _ (List.mem_cons_self ..)
  refine St.step (F := [B g cs t]) (G := [B g cs' t]) (R := R) h (h.bl.setCell hg u) (by simp [World.setCell]) (fun k hk hne => Below.heap_setCell W _ u k (fun e => hne _ (List.mem_singleton.2 rfl) e.symm)) (by simp)
    (fun p hp => by obtain rfl := List.mem_singleton.1 hp; exact ⟨_, blk_put h.hd j u e, rfl⟩) (fun p hp => .inl ⟨_, List.mem_singleton.2 rfl, by obtain rfl := List.mem_singleton.1 hp; rfl⟩)
/-- A row of n elements in a slice's value: its block, where it has one. -/
def rowP (cap : Nat) (e : TypeId) (s n : Nat) (xs : List Value) (o : Obj) : Prop := ∃ cur : Array Value, o = .cells cur e (0, 0) ∧ cur.size = cap * s ∧ cur.toList.take (n * s) = xs
def rowE (v : Value) (e : TypeId) (s n : Nat) (xs : List Value) : List Ent :=
  match v with
  | .slice (some ad) _ cap => [(ad.block, rowP cap e s n xs)]
  | _ => []
theorem mem_row (g m cap : Nat) (e : TypeId) (s n : Nat) (xs : List Value) : (g, rowP cap e s n xs) ∈ rowE (.slice (some ⟨g, 0, none⟩) m cap) e s n xs := List.mem_singleton.2 rfl
/-- The value of such a row. -/
def rowV (v : Value) (s n : Nat) (xs : List Value) : Prop := xs.length = n * s ∧ ((v = .slice none 0 0 ∧ n = 0) ∨ ∃ g cap, v = .slice (some ⟨g, 0, none⟩) n cap ∧ n ≤ cap ∧ cap ≤ maxLen)
theorem rowE_nil (e : TypeId) (s n : Nat) (xs : List Value) : rowE (.slice none 0 0) e s n xs = [] := rfl
theorem rowV_nil (s : Nat) : rowV (.slice none 0 0) s 0 [] := ⟨by simp, .inl ⟨rfl, rfl⟩⟩
theorem rowE_blk {v : Value} {e : TypeId} {s n : Nat} {xs : List Value} {p : Ent} (h : p ∈ rowE v e s n xs) (hv : rowV v s n xs) : v.ownBlock = some p.1 := by
  rcases hv.2 with ⟨rfl, _⟩ | ⟨g, cap, rfl, _⟩
  · simp [rowE] at h
  · simp [rowE] at h; rw [h]; rfl
theorem rowE_nd (v : Value) (e : TypeId) (s n : Nat) (xs : List Value) : ((rowE v e s n xs).map (·.1)).Nodup := by
  unfold rowE; split <;> simp
theorem own_rowV {w : World} {b s n : Nat} {e : TypeId} {v : Value} {xs : List Value} (h : w.ownsRow b e s v n xs) : rowV v s n xs := by
  refine ⟨h.1, ?_⟩
  rcases h.2 with h | ⟨g, cap, cur, rfl, _, _, h1, h2, _⟩
  · exact .inl h
  · exact .inr ⟨g, cap, rfl, h1, h2⟩
theorem own_has {w : World} {b s n : Nat} {e : TypeId} {v : Value} {xs : List Value} (h : w.ownsRow b e s v n xs) : ∀ p, p ∈ rowE v e s n xs → ∃ o, w.heap[p.1]? = some o ∧ p.2 o := by
  intro p hp
  rcases h.2 with ⟨rfl, _⟩ | ⟨g, cap, cur, rfl, _, hg, _, _, h3, h4⟩
  · simp [rowE] at hp
  · simp [rowE] at hp
    subst hp
    exact ⟨_, hg, cur, rfl, h3, h4⟩
/-- What is held of a row's block is that one owns the row. -/
theorem St.own {w0 W : World} {R : List Ent} {v : Value} {e : TypeId} {s n : Nat} {xs : List Value} (h : St w0 W (rowE v e s n xs ++ R)) (hV : rowV v s n xs) : W.ownsRow w0.heap.size e s v n xs := by
  refine ⟨hV.1, ?_⟩
  rcases hV.2 with h' | ⟨g, cap, rfl, h1, h2⟩
  · exact .inl h'
  · obtain ⟨o, ho, cur, rfl, h3, h4⟩ := h.has _ (List.mem_append_left _ (mem_row ..))
    exact .inr ⟨g, cap, cur, rfl, h.ge _ (List.mem_append_left _ (mem_row ..)), ho, h1, h2, h3, h4⟩
theorem St.own_in {w0 W : World} {L : List Ent} {v : Value} {e : TypeId} {s n : Nat} {xs : List Value} (h : St w0 W L) (hc : ∀ a, cnt a (rowE v e s n xs) ≤ cnt a L) (hV : rowV v s n xs) : W.ownsRow w0.heap.size e s v n xs :=
  St.own (R := []) (by simpa using h.re hc) hV
/-- Behind a law that may have written this row, or made another for it. -/
theorem St.grown {w0 W W1 : World} {R : List Ent} {v v1 : Value} {e e1 : TypeId} {s s1 n n1 b : Nat} {xs xs1 : List Value} (h : St w0 W (rowE v e s n xs ++ R)) (hV : rowV v s n xs) (hg : W.grownBy W1 v.ownBlock) (ho : W1.ownsRow b e1 s1 v1 n1 xs1)
    (hat : v1.ownBlock = v.ownBlock ∨ ∀ k, v1.ownBlock = some k → W.heap.size ≤ k) : St w0 W1 (rowE v1 e1 s1 n1 xs1 ++ R) ∧ rowV v1 s1 n1 xs1 := by
  have hV1 := own_rowV ho
  refine ⟨h.step (h.bl.grown hg h.bl.size (fun k hk => (h.own hV).lt k hk |>.1)) hg.size (fun k hk hne => hg.block k hk (fun e => ?_)) (rowE_nd ..) (own_has ho) (fun p hp => ?_), hV1⟩
  · rcases hV.2 with ⟨rfl, _⟩ | ⟨g, cap, rfl, _⟩
    · simp [Value.ownBlock] at e
    · exact hne _ (mem_row ..) (by simpa [Value.ownBlock] using e.symm)
  · have e1 := rowE_blk hp hV1
    rcases hat with e2 | e2
    · left
      rcases hV.2 with ⟨rfl, _⟩ | ⟨g, cap, rfl, _⟩
      · rw [e1] at e2; simp [Value.ownBlock] at e2
      · rw [e1] at e2
        exact ⟨_, mem_row .., by simpa [Value.ownBlock] using e2.symm⟩
    · exact .inr (e2 _ e1)
/-- A row that was made, where nothing that was there has changed. -/
theorem St.fresh {w0 W W1 : World} {L : List Ent} {v : Value} {e : TypeId} {s n : Nat} {xs : List Value} (h : St w0 W L) (hb : Below W.heap.size W W1) (ho : W1.ownsRow W.heap.size e s v n xs) : St w0 W1 (rowE v e s n xs ++ L) ∧ rowV v s n xs := by
  refine ⟨St.step (F := []) (by simpa using h) (h.bl.trans (hb.mono h.bl.size)) hb.size (fun k hk _ => hb.block k hk) (rowE_nd ..) (own_has ho) (fun p hp => .inr ((ho.lt _ (rowE_blk hp (own_rowV ho))).1)), own_rowV ho⟩
/-- A block that was made so. -/
theorem St.made {w0 W W1 : World} {L : List Ent} (h : St w0 W L) (hb : Below W.heap.size W W1) {g : Nat} (hg : W.heap.size ≤ g) {P : Obj → Prop} {o : Obj} (ho : W1.heap[g]? = some o) (hP : P o) : St w0 W1 ((g, P) :: L) := by
  have := St.step (F := []) (G := [(g, P)]) (R := L) (by simpa using h) (h.bl.trans (hb.mono h.bl.size)) hb.size (fun k hk _ => hb.block k hk) (by simp)
    (fun p hp => by obtain rfl := List.mem_singleton.1 hp; exact ⟨o, ho, hP⟩) (fun p hp => by obtain rfl := List.mem_singleton.1 hp; exact .inr hg)
  simpa using this
/-- A cell of a row, and that it is free. -/
theorem St.at {w0 W : World} {R : List Ent} {g cap : Nat} {e : TypeId} {s n : Nat} {xs : List Value} (h : St w0 W (rowE (.slice (some ⟨g, 0, none⟩) n cap) e s n xs ++ R)) (j : Nat) (hj : j < xs.length) (hn : xs.length = n * s) : W.cell? ⟨g, j, none⟩ = xs[j]? ∧ W.frozen? ⟨g, j, none⟩ = false := by
  obtain ⟨o, ho, cur, rfl, h3, h4⟩ := h.has _ (List.mem_append_left _ (mem_row ..))
  refine ⟨?_, blk_frozen ho j⟩
  rw [cell_of_row W g j _ _ _ ho, ← h4, List.getElem?_take_of_lt (by omega)]
  simp
/-- A store into a row. -/
theorem St.store {w0 W : World} {R : List Ent} {g cap : Nat} {e : TypeId} {s n : Nat} {xs : List Value} (h : St w0 W (rowE (.slice (some ⟨g, 0, none⟩) n cap) e s n xs ++ R)) (j : Nat) (u : Value) : St w0 (W.setCell ⟨g, j, none⟩ u) (rowE (.slice (some ⟨g, 0, none⟩) n cap) e s n (xs.set j u) ++ R) := by
  have hg := h.ge _ (List.mem_append_left _ (mem_row ..))
  obtain ⟨o, ho, cur, rfl, h3, h4⟩ := h.has _ (List.mem_append_left _ (mem_row ..))
  refine h.step (h.bl.setCell hg u) (by simp [World.setCell]) (fun k hk hne => Below.heap_setCell W _ u k (fun e => hne _ (mem_row ..) e.symm)) (rowE_nd ..) (fun p hp => ?_) (fun p hp => .inl ?_)
  · simp [rowE] at hp
    subst hp
    refine ⟨_, blk_put ho j u rfl, _, rfl, by simp [h3], ?_⟩
    simp [← h4, List.take_set]
  · simp [rowE] at hp
    subst hp
    exact ⟨_, mem_row .., rfl⟩
/-- What lies in memory that was there when the law began reads as it did. -/
theorem St.reads {α : Type} {enc : α → Value} {d : α} {w0 W : World} {L : List Ent} (h : St w0 W L) {A : Option Addr} {n : Nat} {xs : List α} (hr : ReadsOf enc d w0 A n xs) : ReadsOf enc d W A n xs := hr.below h.bl
/-- One more block, apart from those that are held. -/
theorem St.add {w0 W : World} {L : List Ent} (h : St w0 W L) {g : Nat} (hg : w0.heap.size ≤ g) (hn : ∀ p, p ∈ L → p.1 ≠ g) {P : Obj → Prop} {o : Obj} (ho : W.heap[g]? = some o) (hP : P o) : St w0 W ((g, P) :: L) :=
  ⟨h.bl, List.nodup_cons.2 ⟨fun hm => by obtain ⟨p, hp, e⟩ := List.mem_map.1 hm; exact hn p hp e, h.nd⟩, fun p hp => by
    rcases List.mem_cons.1 hp with rfl | hp
    · exact hg
    · exact h.ge p hp, fun p hp => by
    rcases List.mem_cons.1 hp with rfl | hp
    · exact ⟨o, ho, hP⟩
    · exact h.has p hp⟩
theorem St.cellOf {w0 W : World} {L : List Ent} (h : St w0 W L) {g : Nat} {cs : Array Value} {t : TypeId} (hm : B g cs t ∈ L) (j : Nat) {v : Value} (hj : cs[j]? = some v) : W.cell? ⟨g, j, none⟩ = some v := by
  rw [cell_of_row W g j _ _ _ (h.blk hm)]; exact hj
theorem St.freeOf {w0 W : World} {L : List Ent} (h : St w0 W L) {g : Nat} {cs : Array Value} {t : TypeId} (hm : B g cs t ∈ L) (j : Nat) : W.frozen? ⟨g, j, none⟩ = false := blk_frozen (h.blk hm) j
end Go.Proofs.YtoeiaimoppmjdaaDoor.Mem
