/- Writers and Readers as blocks that are held (the part of WtrSt that wants no book). -/
import Derived.Test.YtoeiaimoppmjdaaDoorMem
import Derived.Test.YtoeiaimoppmjdaaDoorTexts
import Derived.Test.YtoeiaimoppmjdaaDoorRBytes
namespace Go.Proofs.YtoeiaimoppmjdaaDoor.Lk
open Go.RowKit Go.Proofs.YtoeiaimoppmjdaaDoorW.PrintWords Go.Proofs.YtoeiaimoppmjdaaDoor.Mem Go.Proofs.YtoeiaimoppmjdaaDoor.Wr Go.Proofs.YtoeiaimoppmjdaaDoor.Bytes
set_option linter.unusedVariables false
set_option linter.unusedSimpArgs false
abbrev pt (g : Nat) : Value := .pointer (some ⟨g, 0, none⟩)
abbrev nilp : Value := .pointer none
abbrev NL : Value := .slice none 0 0
def byR (v : Value) (xs : List Int) : List Ent := rowE v 5 1 xs.length (encs I xs)
def byV (v : Value) (xs : List Int) : Prop := rowV v 1 xs.length (encs I xs)
theorem byV_nil : byV NL [] := rowV_nil 1
theorem byR_nil : byR NL [] = [] := rfl
def wtrE (g : Nat) (v : Value) (xs : List Int) : List Ent := B g #[v] 112 :: byR v xs
def rdrE (g : Nat) (v : Value) (xs : List Int) (s : RS) : List Ent := B g #[v, .int .i64 (s.at_ : Int), .int .i64 (s.met : Int)] 105 :: byR v xs
theorem byV_form {v : Value} {xs : List Int} (h : byV v xs) : ∃ A c, v = .slice A xs.length c := by
  rcases h.2 with ⟨rfl, h0⟩ | ⟨g, c, rfl, _⟩
  · exact ⟨none, 0, by rw [h0]⟩
  · exact ⟨_, _, rfl⟩
theorem by_reads {w0 W : World} {L : List Ent} {A : Option Addr} {c : Nat} {xs : List Int} (h : St w0 W L) (hc : ∀ a, cnt a (byR (.slice A xs.length c) xs) ≤ cnt a L) (hV : byV (.slice A xs.length c) xs) : ReadsOf I 0 W A xs.length xs := by
  have hx := h.own_in (e := 5) hc hV
  exact own_reads (xs := xs) hx (by simp)
theorem St.wtr {w0 W : World} {R : List Ent} {g : Nat} {v : Value} {xs : List Int} (h : St w0 W (wtrE g v xs ++ R)) (hV : byV v xs) : Wtr W w0.heap.size g v xs :=
  ⟨h.blk (List.mem_append_left _ (List.mem_cons_self ..)), h.ge (B g _ _) (List.mem_append_left _ (List.mem_cons_self ..)), h.own_in (fun a => by rw [cnt_append, wtrE, cnt_cons, byR]; omega) hV⟩
theorem St.rdr {w0 W : World} {R : List Ent} {g : Nat} {v : Value} {xs : List Int} {s : RS} (h : St w0 W (rdrE g v xs s ++ R)) (hV : byV v xs) : Rdr W w0.heap.size g v xs s.at_ s.met :=
  ⟨h.blk (List.mem_append_left _ (List.mem_cons_self ..)), h.ge (B g _ _) (List.mem_append_left _ (List.mem_cons_self ..)), h.own_in (fun a => by rw [cnt_append, rdrE, cnt_cons, byR]; omega) hV⟩
/-- What a call that begins in the world W makes, beside what was held. -/
theorem St.lift {w0 W W' : World} {R M : List Ent} (h : St w0 W R) (k : St W W' M) : St w0 W' (M ++ R) := by
  have := St.step (F := []) (G := M) (R := R) (by simpa using h) (h.bl.trans (k.bl.mono h.bl.size)) k.bl.size (fun i hi _ => k.bl.block i hi) k.nd k.has (fun p hp => .inr (k.ge p hp))
  exact this
theorem row_in {v : Value} {e : TypeId} {s n k : Nat} {xs : List Value} (hV : rowV v s n xs) (hk : v.ownBlock = some k) : ∃ p, p ∈ rowE v e s n xs ∧ p.1 = k := by
  rcases hV.2 with ⟨rfl, _⟩ | ⟨g, cap, rfl, _⟩
  · simp [Value.ownBlock] at hk
  · exact ⟨_, mem_row .., by simpa [Value.ownBlock] using hk⟩
/-- Behind a call of a Writer. -/
theorem St.wput {w0 W W' : World} {R : List Ent} {g : Nat} {v v' : Value} {xs xs' : List Int} (H : St w0 W (wtrE g v xs ++ R)) (hv : byV v xs) (t : Put W W' w0.heap.size g v v' xs') : St w0 W' (wtrE g v' xs' ++ R) ∧ byV v' xs' := by
  have hv' : byV v' xs' := own_rowV t.wt.own
  refine ⟨H.step (H.bl.trans t.bl) t.bl.size (fun k hk hne => t.kb.2 k hk (fun e => hne (B g _ _) (List.mem_cons_self ..) e.symm) (fun e => ?_)) ?_ (fun p hp => ?_) (fun p hp => ?_), hv'⟩
  · obtain ⟨p, hp, h1⟩ := row_in (e := 5) hv e.symm
    exact hne p (List.mem_cons_of_mem _ hp) h1
  · show (g :: (byR v' xs').map (·.1)).Nodup
    refine List.nodup_cons.2 ⟨fun hm => ?_, rowE_nd ..⟩
    obtain ⟨p, hp, e⟩ := List.mem_map.1 hm
    exact t.wt.ne (by rw [rowE_blk hp hv', e])
  · rcases List.mem_cons.1 hp with rfl | hp
    · exact ⟨_, t.wt.blk, rfl⟩
    · exact own_has t.wt.own p hp
  · rcases List.mem_cons.1 hp with rfl | hp
    · exact .inl ⟨_, List.mem_cons_self .., rfl⟩
    · have e1 := rowE_blk hp hv'
      rcases t.hat with e | ⟨b, e, hb⟩
      · obtain ⟨q, hq, e2⟩ := row_in (e := 5) hv (e ▸ e1)
        exact .inl ⟨q, List.mem_cons_of_mem _ hq, e2⟩
      · rw [e1] at e; injection e with e; exact .inr (by rw [e]; exact hb)
/-- Behind a call of a Reader. -/
theorem St.rd {w0 W W' : World} {R : List Ent} {g : Nat} {v : Value} {xs : List Int} {s s1 : RS} (H : St w0 W (rdrE g v xs s ++ R)) (hv : byV v xs) (t : RdTo W W' w0.heap.size g v xs s1) : St w0 W' (rdrE g v xs s1 ++ R) := by
  refine H.step (H.bl.trans t.bl) t.bl.size (fun k hk hne => t.kb.2 k hk (fun e => hne (B g _ _) (List.mem_cons_self ..) e.symm) (by simp)) ?_ (fun p hp => ?_) (fun p hp => ?_)
  · show (g :: (byR v xs).map (·.1)).Nodup
    refine List.nodup_cons.2 ⟨fun hm => ?_, rowE_nd ..⟩
    obtain ⟨p, hp, e⟩ := List.mem_map.1 hm
    exact rdr_ne t.rd (by rw [rowE_blk hp hv, e])
  · rcases List.mem_cons.1 hp with rfl | hp
    · exact ⟨_, t.rd.blk, rfl⟩
    · exact own_has t.rd.own p hp
  · rcases List.mem_cons.1 hp with rfl | hp
    · exact .inl ⟨_, List.mem_cons_self .., rfl⟩
    · exact .inl ⟨p, List.mem_cons_of_mem _ hp, rfl⟩
/-- Behind a call of a Reader that makes a list. -/
theorem St.taken {w0 W W' : World} {R : List Ent} {g : Nat} {v u : Value} {xs l : List Int} {s s1 : RS} (H : St w0 W (rdrE g v xs s ++ R)) (hv : byV v xs) (t : RdTo W W' w0.heap.size g v xs s1) (ho : W'.ownsRow W.heap.size 5 1 u l.length (encs I l)) :
    St w0 W' (byR u l ++ (rdrE g v xs s1 ++ R)) ∧ byV u l := by
  have hu : byV u l := own_rowV ho
  have hst := H.step (G := byR u l ++ rdrE g v xs s1) (H.bl.trans t.bl) t.bl.size (fun k hk hne => t.kb.2 k hk (fun e => hne (B g _ _) (List.mem_cons_self ..) e.symm) (by simp)) ?_ ?_ ?_
  · exact ⟨hst.re (fun a => by simp only [cnt_append]; omega), hu⟩
  · rw [List.map_append]
    have hrv : ((rdrE g v xs s1).map (·.1)).Nodup := by
      show (g :: (byR v xs).map (·.1)).Nodup
      refine List.nodup_cons.2 ⟨fun hm => ?_, rowE_nd ..⟩
      obtain ⟨p, hp, e⟩ := List.mem_map.1 hm
      exact rdr_ne t.rd (by rw [rowE_blk hp hv, e])
    refine List.nodup_append.2 ⟨rowE_nd .., hrv, fun a ha b hb e => ?_⟩
    obtain ⟨p, hp, rfl⟩ := List.mem_map.1 ha
    have h1 := (ho.lt _ (rowE_blk hp hu)).1
    obtain ⟨q, hq, rfl⟩ := List.mem_map.1 hb
    have h2 : q.1 < W.heap.size := by
      rcases List.mem_cons.1 hq with rfl | hq
      · exact H.lt (p := B g #[v, .int .i64 (s.at_ : Int), .int .i64 (s.met : Int)] 105) (List.mem_append_left _ (List.mem_cons_self ..))
      · exact H.lt (List.mem_append_left _ (List.mem_cons_of_mem _ hq))
    omega
  · intro p hp
    rcases List.mem_append.1 hp with hp | hp
    · exact own_has ho p hp
    · rcases List.mem_cons.1 hp with rfl | hp
      · exact ⟨_, t.rd.blk, rfl⟩
      · exact own_has t.rd.own p hp
  · intro p hp
    rcases List.mem_append.1 hp with hp | hp
    · exact .inr (ho.lt _ (rowE_blk hp hu)).1
    · rcases List.mem_cons.1 hp with rfl | hp
      · exact .inl ⟨_, List.mem_cons_self .., rfl⟩
      · exact .inl ⟨p, List.mem_cons_of_mem _ hp, rfl⟩
end Go.Proofs.YtoeiaimoppmjdaaDoor.Lk
