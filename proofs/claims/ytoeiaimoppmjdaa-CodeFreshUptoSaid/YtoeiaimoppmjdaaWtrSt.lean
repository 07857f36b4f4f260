/- Writers, Readers, the document's Eye over the blocks that are held. -/
import Derived.Test.YtoeiaimoppmjdaaLate
import Derived.Test.YtoeiaimoppmjdaaWrites
import Derived.Test.YtoeiaimoppmjdaaRBytes
import Derived.Test.YtoeiaimoppmjdaaEye5
namespace Go.Proofs.Ytoeiaimoppmjdaa.Fr
open Go.RowKit Go.Proofs.YtoeiaimoppmjdaaW.PrintWords Go.Proofs.Ytoeiaimoppmjdaa.Mem Go.Proofs.Ytoeiaimoppmjdaa.Wr Go.Proofs.Ytoeiaimoppmjdaa.Bytes Go.Proofs.Ytoeiaimoppmjdaa.Late
set_option linter.unusedVariables false
set_option linter.unusedSimpArgs false
abbrev pt (g : Nat) : Value := .pointer (some ⟨g, 0, none⟩)
def byR (v : Value) (xs : List Int) : List Ent := rowE v 5 1 xs.length (encs I xs)
def byV (v : Value) (xs : List Int) : Prop := rowV v 1 xs.length (encs I xs)
def wtrE (g : Nat) (v : Value) (xs : List Int) : List Ent := B g #[v] 75 :: byR v xs
def rdrE (g : Nat) (v : Value) (xs : List Int) (s : RS) : List Ent := B g #[v, .int .i64 (s.at_ : Int), .int .i64 (s.met : Int)] 77 :: byR v xs
def eyE (g : Nat) (A : Option Addr) (c : Nat) (xs : List Int) (s : RS) : Ent := B g #[.slice A xs.length c, .int .i64 (s.at_ : Int), .int .i64 (errN s.met)] 34
theorem St.wtr {w0 W : World} {R : List Ent} {g : Nat} {v : Value} {xs : List Int} (h : St w0 W (wtrE g v xs ++ R)) (hV : byV v xs) : Wtr W w0.heap.size g v xs :=
  ⟨h.blk (List.mem_append_left _ (List.mem_cons_self ..)), h.ge (B g _ _) (List.mem_append_left _ (List.mem_cons_self ..)), h.own_in (fun a => by rw [cnt_append, wtrE, cnt_cons, byR]; omega) hV⟩
theorem St.rdr {w0 W : World} {R : List Ent} {g : Nat} {v : Value} {xs : List Int} {s : RS} (h : St w0 W (rdrE g v xs s ++ R)) (hV : byV v xs) : Rdr W w0.heap.size g v xs s.at_ s.met :=
  ⟨h.blk (List.mem_append_left _ (List.mem_cons_self ..)), h.ge (B g _ _) (List.mem_append_left _ (List.mem_cons_self ..)), h.own_in (fun a => by rw [cnt_append, rdrE, cnt_cons, byR]; omega) hV⟩
theorem St.eye {w0 W : World} {R : List Ent} {g : Nat} {A : Option Addr} {c : Nat} {xs : List Int} {s : RS} (h : St w0 W (eyE g A c xs s :: R)) (hr : ReadsOf I 0 w0 A xs.length xs) (hc : xs.length ≤ c) : Eyd W w0.heap.size g A c xs s :=
  ⟨h.hd, h.ge _ (List.mem_cons_self ..), h.reads hr, hc, fun h0 ad e => by
    obtain ⟨ad', e', hcl⟩ := hr.2.2 h0
    obtain rfl : ad = ad' := by rw [e] at e'; injection e'
    have hlt := World.block_lt_of_cell? w0 _ (hcl 0 h0)
    have eb : (ad.add 0).block = ad.block := by unfold Addr.add; split <;> rfl
    rw [eb] at hlt
    have := h.ge _ (List.mem_cons_self ..)
    show ad.block ≠ g
    have h2 : w0.heap.size ≤ g := this
    omega⟩
theorem row_in {v : Value} {e : TypeId} {s n k : Nat} {xs : List Value} (hV : rowV v s n xs) (hk : v.ownBlock = some k) : ∃ p, p ∈ rowE v e s n xs ∧ p.1 = k := by
  rcases hV.2 with ⟨rfl, _⟩ | ⟨g, cap, rfl, _⟩
  · simp [Value.ownBlock] at hk
  · exact ⟨_, mem_row .., by simpa [Value.ownBlock] using hk⟩
theorem rowE_eq {v : Value} {e : TypeId} {s n : Nat} {xs : List Value} {p q : Ent} (hp : p ∈ rowE v e s n xs) (hq : q ∈ rowE v e s n xs) : p = q := by
  unfold rowE at hp hq
  split at hp
  · rw [List.mem_singleton.1 hp, List.mem_singleton.1 hq]
  · cases hp
/-- Behind a call of writes: the Writer and the list that it ought to hold. -/
theorem St.two {w0 W W' : World} {R : List Ent} {g : Nat} {v h v' h' : Value} {xs zs xs' zs' : List Int} (H : St w0 W (wtrE g v xs ++ (byR h zs ++ R))) (hv : byV v xs) (hh : byV h zs) (t : Two W W' w0.heap.size g v h v' h' xs' zs') :
    St w0 W' (wtrE g v' xs' ++ (byR h' zs' ++ R)) ∧ byV v' xs' ∧ byV h' zs' := by
  have hv' : byV v' xs' := own_rowV t.wt.own
  have hh' : byV h' zs' := own_rowV t.ho
  have HF : St w0 W ((B g #[v] 75 :: (byR v xs ++ byR h zs)) ++ R) := H.re (fun a => by simp only [wtrE, cnt_append, cnt_cons]; omega)
  have hst := HF.step (G := B g #[v'] 75 :: (byR v' xs' ++ byR h' zs')) (H.bl.trans t.bl) t.bl.size
    (fun k hk hne => t.fr k hk (fun e => hne (B g _ _) (List.mem_cons_self ..) e.symm)
      (fun e => by obtain ⟨p, hp, h1⟩ := row_in (e := 5) hv e.symm; exact hne p (List.mem_cons_of_mem _ (List.mem_append_left _ hp)) h1)
      (fun e => by obtain ⟨p, hp, h1⟩ := row_in (e := 5) hh e.symm; exact hne p (List.mem_cons_of_mem _ (List.mem_append_right _ hp)) h1)) ?_ ?_ ?_
  · exact ⟨hst.re (fun a => by simp only [wtrE, cnt_append, cnt_cons]; omega), hv', hh'⟩
  · show (g :: (byR v' xs' ++ byR h' zs').map (·.1)).Nodup
    rw [List.map_append]
    refine List.nodup_cons.2 ⟨fun hm => ?_, List.nodup_append.2 ⟨rowE_nd .., rowE_nd .., fun a ha b hb e => ?_⟩⟩
    · rcases List.mem_append.1 hm with hm | hm
      · obtain ⟨p, hp, e⟩ := List.mem_map.1 hm
        exact t.wt.ne (by rw [rowE_blk hp hv', e])
      · obtain ⟨p, hp, e⟩ := List.mem_map.1 hm
        exact ne_block t.wt.blk (by decide) t.ho (by rw [rowE_blk hp hh', e])
    · obtain ⟨p, hp, rfl⟩ := List.mem_map.1 ha
      obtain ⟨q, hq, rfl⟩ := List.mem_map.1 hb
      have h1 := rowE_blk hp hv'
      have h2 := rowE_blk hq hh'
      rcases ne_to t.ne with h3 | h3
      · rw [h2] at h3; cases h3
      · exact h3 (by rw [h1, h2, e])
  · intro p hp
    rcases List.mem_cons.1 hp with rfl | hp
    · exact ⟨_, t.wt.blk, rfl⟩
    · rcases List.mem_append.1 hp with hp | hp
      · exact own_has t.wt.own p hp
      · exact own_has t.ho p hp
  · intro p hp
    rcases List.mem_cons.1 hp with rfl | hp
    · exact .inl ⟨_, List.mem_cons_self .., rfl⟩
    · rcases List.mem_append.1 hp with hp | hp
      · have e1 := rowE_blk hp hv'
        rcases t.hv with e | ⟨b, e, hb⟩
        · obtain ⟨q, hq, e2⟩ := row_in (e := 5) hv (e ▸ e1)
          exact .inl ⟨q, List.mem_cons_of_mem _ (List.mem_append_left _ hq), e2⟩
        · rw [e1] at e; injection e with e; exact .inr (by rw [e]; exact hb)
      · have e1 := rowE_blk hp hh'
        rcases t.hh with e | ⟨b, e, hb⟩
        · obtain ⟨q, hq, e2⟩ := row_in (e := 5) hh (e ▸ e1)
          exact .inl ⟨q, List.mem_cons_of_mem _ (List.mem_append_right _ hq), e2⟩
        · rw [e1] at e; injection e with e; exact .inr (by rw [e]; exact hb)
/-- Behind a call of a Reader that makes a list: the Reader, and the list in new memory. -/
theorem St.taken {w0 W W' : World} {R : List Ent} {g : Nat} {v u : Value} {xs l : List Int} {s s1 : RS} (H : St w0 W (rdrE g v xs s ++ R)) (hv : byV v xs) (t : RdTo W W' w0.heap.size g v xs s1) (ho : W'.ownsRow W.heap.size 5 1 u l.length (encs I l)) :
    St w0 W' (byR u l ++ (rdrE g v xs s1 ++ R)) ∧ byV u l := by
  have hu : byV u l := own_rowV ho
  have hst := H.step (G := byR u l ++ rdrE g v xs s1) (H.bl.trans t.bl) t.bl.size (fun k hk hne => t.kb.2 k hk (fun e => hne (B g _ _) (List.mem_cons_self ..) e.symm) (by simp)) ?_ ?_ ?_
  · exact ⟨hst.re (fun a => by simp only [cnt_append]; omega), hu⟩
  · rw [List.map_append]
    have hrv : ((rdrE g v xs s1).map (·.1)).Nodup := by
      show (g :: (byR v xs).map (·.1)).Nodup
      refine List.nodup_cons.2 ⟨fun hm => ?_, rowE_nd ..⟩
      obtain ⟨p, hp, e⟩ := List.mem_map.1 hm
      exact rdr_ne t.rd (by rw [rowE_blk hp hv, e])
    refine List.nodup_append.2 ⟨rowE_nd .., hrv, fun a ha b hb e => ?_⟩
    obtain ⟨p, hp, rfl⟩ := List.mem_map.1 ha
    have h1 := (ho.lt _ (rowE_blk hp hu)).1
    obtain ⟨q, hq, rfl⟩ := List.mem_map.1 hb
    have h2 : q.1 < W.heap.size := by
      rcases List.mem_cons.1 hq with rfl | hq
      · exact H.lt (p := B g #[v, .int .i64 (s.at_ : Int), .int .i64 (s.met : Int)] 77) (List.mem_append_left _ (List.mem_cons_self ..))
      · exact H.lt (List.mem_append_left _ (List.mem_cons_of_mem _ hq))
    omega
  · intro p hp
    rcases List.mem_append.1 hp with hp | hp
    · exact own_has ho p hp
    · rcases List.mem_cons.1 hp with rfl | hp
      · exact ⟨_, t.rd.blk, rfl⟩
      · exact own_has t.rd.own p hp
  · intro p hp
    rcases List.mem_append.1 hp with hp | hp
    · exact .inr (ho.lt _ (rowE_blk hp hu)).1
    · rcases List.mem_cons.1 hp with rfl | hp
      · exact .inl ⟨_, List.mem_cons_self .., rfl⟩
      · exact .inl ⟨p, List.mem_cons_of_mem _ hp, rfl⟩
/-- Behind a call of the Eye that makes a list. -/
theorem St.etaken {w0 W W' : World} {R : List Ent} {g : Nat} {A : Option Addr} {c : Nat} {u : Value} {xs l : List Int} {s s1 : RS} (H : St w0 W (eyE g A c xs s :: R)) (t : EyTo W W' w0.heap.size g A c xs s1) (ho : W'.ownsRow W.heap.size 5 1 u l.length (encs I l)) :
    St w0 W' (byR u l ++ (eyE g A c xs s1 :: R)) ∧ byV u l := by
  have hu : byV u l := own_rowV ho
  have hst := St.step (F := [eyE g A c xs s]) (R := R) H (G := byR u l ++ [eyE g A c xs s1]) (H.bl.trans t.bl) t.bl.size (fun k hk hne => t.kb.2 k hk (fun e => hne _ (List.mem_singleton.2 rfl) e.symm) (by simp)) ?_ ?_ ?_
  · exact ⟨hst.re (fun a => by simp only [cnt_append, cnt_cons, cnt_nil]; omega), hu⟩
  · rw [List.map_append]
    refine List.nodup_append.2 ⟨rowE_nd .., by simp, fun a ha b hb e => ?_⟩
    obtain ⟨p, hp, rfl⟩ := List.mem_map.1 ha
    have h1 := (ho.lt _ (rowE_blk hp hu)).1
    obtain rfl : b = g := by simpa [eyE] using hb
    have h2 : b < W.heap.size := H.lt (List.mem_cons_self ..)
    omega
  · intro p hp
    rcases List.mem_append.1 hp with hp | hp
    · exact own_has ho p hp
    · obtain rfl := List.mem_singleton.1 hp
      exact ⟨_, t.ey.blk, rfl⟩
  · intro p hp
    rcases List.mem_append.1 hp with hp | hp
    · exact .inr (ho.lt _ (rowE_blk hp hu)).1
    · obtain rfl := List.mem_singleton.1 hp
      exact .inl ⟨_, List.mem_singleton.2 rfl, rfl⟩
/-- A row of bytes of one's own, handed over. -/
theorem by_got {w0 W : World} {R : List Ent} {v : Value} {xs : List Int} (h : St w0 W (byR v xs ++ R)) (hV : byV v xs) : ∃ (g : Option Nat) (c : Nat), v = .slice (g.map fun g => ⟨g, 0, none⟩) xs.length c ∧ (g = none → xs = [] ∧ c = 0) ∧ St w0 W (gotE g xs c ++ R) := by
  rcases hV.2 with ⟨rfl, h0⟩ | ⟨g, cap, rfl, h1, h2⟩
  · have hx : xs = [] := List.eq_nil_of_length_eq_zero h0
    subst hx
    exact ⟨none, 0, rfl, fun _ => ⟨rfl, rfl⟩, h⟩
  · refine ⟨some g, cap, rfl, fun e => (by cases e), ?_⟩
    refine St.weak (P := rowP cap 5 1 xs.length (encs I xs)) h (fun o ⟨cur, e, h3, h4⟩ => ⟨cur, (0, 0), e, .inl rfl, by omega, by omega, fun j hj => ?_⟩)
    have h5 : (cur.toList.take (xs.length * 1))[j]? = some (I (xs.getD j 0)) := by rw [h4]; exact encs_get (d := 0) xs j hj
    rw [List.getElem?_take_of_lt (by omega)] at h5
    simpa using h5
end Go.Proofs.Ytoeiaimoppmjdaa.Fr
