/- The nets, as blocks that are held. -/
import Derived.Test.YtfmggmpllggbnaaSide
import Derived.Test.YtfmggmpllggbnaaMem
namespace Go.Proofs.Ytfmggmpllggbnaa.RNet
open Go.RowKit Go.Proofs.YtfmggmpllggbnaaW.PrintWords Go.Proofs.Ytfmggmpllggbnaa.Net Go.Proofs.Ytfmggmpllggbnaa.Mem
set_option linter.unusedVariables false
set_option linter.unusedSimpArgs false
def netE (g : Nat) (v : Value) (room : Int) (lost : Nat) (ms : List (Int × ByteArray)) : List Ent := B g #[v, .int .i64 room, .int .u64 (lost : Int)] 69 :: rowE v 130 2 ms.length (cellsOf ms)
def netV (v : Value) (ms : List (Int × ByteArray)) : Prop := rowV v 2 ms.length (cellsOf ms)
def byE (rs : List RM) : List Ent := rs.flatMap fun r => rowE r.2.1 5 1 r.2.2.length (encs U r.2.2)
def rnetE (g : Nat) (v : Value) (room : Int) (gone : Nat) (rs : List RM) : List Ent := B g #[v, .int .i64 room, .int .u64 (gone : Int)] 143 :: (rowE v 71 2 rs.length (rCells rs) ++ byE rs)
def rnetV (v : Value) (rs : List RM) : Prop := rowV v 2 rs.length (rCells rs) ∧ ∀ r, r ∈ rs → rowV r.2.1 1 r.2.2.length (encs U r.2.2)
theorem St.nt {w0 W : World} {R : List Ent} {g : Nat} {v : Value} {room : Int} {lost : Nat} {ms : List (Int × ByteArray)} (h : St w0 W (netE g v room lost ms ++ R)) (hV : netV v ms) : Nt W w0.heap.size g v room lost ms :=
  ⟨h.blk (List.mem_append_left _ (List.mem_cons_self ..)), h.ge (B g _ 69) (List.mem_append_left _ (List.mem_cons_self ..)), h.own_in (fun a => by rw [cnt_append, netE, cnt_cons]; omega) hV⟩
theorem row_in {v : Value} {e : TypeId} {s n k : Nat} {xs : List Value} (hV : rowV v s n xs) (hk : v.ownBlock = some k) : ∃ p, p ∈ rowE v e s n xs ∧ p.1 = k := by
  rcases hV.2 with ⟨rfl, _⟩ | ⟨g, cap, rfl, _⟩
  · simp [Value.ownBlock] at hk
  · exact ⟨(g, _), by simp [rowE]; rfl, by simpa [Value.ownBlock] using hk⟩
theorem St.nput {w0 W W1 : World} {R : List Ent} {g : Nat} {v v' : Value} {room room' : Int} {lost lost' : Nat} {ms ms' : List (Int × ByteArray)} (h : St w0 W (netE g v room lost ms ++ R)) (hV : netV v ms) (k : NtPut W W1 w0.heap.size g v v' room' lost' ms') :
    St w0 W1 (netE g v' room' lost' ms' ++ R) ∧ netV v' ms' := by
  have hV' := own_rowV k.nt.own
  refine ⟨h.step (h.bl.trans k.bl) k.kb.1 (fun i hi hne => k.kb.2 i hi (fun e => hne (B g _ 69) (List.mem_cons_self ..) e.symm) (fun e => ?_)) ?_ (fun p hp => ?_) (fun p hp => ?_), hV'⟩
  · obtain ⟨p, hp, hp1⟩ := row_in (e := 130) hV e.symm
    exact hne p (List.mem_cons_of_mem _ hp) hp1
  · show (g :: (rowE _ _ _ _ _).map (·.1)).Nodup
    refine List.nodup_cons.2 ⟨fun hm => ?_, rowE_nd ..⟩
    obtain ⟨p, hp, e⟩ := List.mem_map.1 hm
    exact k.nt.ne (by rw [rowE_blk hp hV', e])
  · rcases List.mem_cons.1 hp with rfl | hp
    · exact ⟨_, k.nt.blk, rfl⟩
    · exact own_has k.nt.own p hp
  · rcases List.mem_cons.1 hp with rfl | hp
    · exact .inl ⟨_, List.mem_cons_self .., rfl⟩
    · have e1 := rowE_blk hp hV'
      rcases k.hat with e | ⟨b, e, hb⟩
      · obtain ⟨q, hq, e2⟩ := row_in (e := 130) hV (e ▸ e1)
        exact .inl ⟨q, List.mem_cons_of_mem _ hq, e2⟩
      · rw [e1] at e; injection e with e; exact .inr (by rw [e]; exact hb)
theorem St.rn {w0 W : World} {R : List Ent} {g : Nat} {v : Value} {room : Int} {gone : Nat} {rs : List RM} (h : St w0 W (rnetE g v room gone rs ++ R)) (hV : rnetV v rs) : Rn W w0.heap.size g v room gone rs :=
  ⟨h.blk (List.mem_append_left _ (List.mem_cons_self ..)), h.ge (B g _ 143) (List.mem_append_left _ (List.mem_cons_self ..)), h.own_in (fun a => by rw [cnt_append, rnetE, cnt_cons, cnt_append]; omega) hV.1, fun r hr => by
    refine h.own_in (fun a => ?_) (hV.2 r hr)
    obtain ⟨l1, l2, rfl⟩ := List.append_of_mem hr
    have e : byE (l1 ++ r :: l2) = byE l1 ++ (rowE r.2.1 5 1 r.2.2.length (encs U r.2.2) ++ byE l2) := by simp [byE]
    rw [cnt_append, rnetE, cnt_cons, cnt_append, e, cnt_append, cnt_append]
    omega⟩
theorem sub_flat {α β : Type} (f : α → List β) {l m : List α} (h : l.Sublist m) : (l.flatMap f).Sublist (m.flatMap f) := by
  induction h with
  | slnil => exact List.Sublist.refl _
  | cons a _ ih => simp only [List.flatMap_cons]; exact ih.trans (List.sublist_append_right _ _)
  | cons_cons a _ ih => simp only [List.flatMap_cons]; exact (List.Sublist.refl _).append ih
theorem by_type {W : World} {base : Nat} {rs : List RM} (h : ∀ r, r ∈ rs → W.ownsRow base 5 1 r.2.1 r.2.2.length (encs U r.2.2)) {p : Ent} (hp : p ∈ byE rs) : ∃ cs, W.heap[p.1]? = some (.cells cs 5 (0, 0)) := by
  obtain ⟨r, hr, hpr⟩ := List.mem_flatMap.1 hp
  exact own_kind (h r hr) p.1 (rowE_blk hpr (own_rowV (h r hr)))
/-- What a call of the document's net leaves: the messages are some of those that there were, or those and a new one in new memory. -/
theorem St.rput {w0 W W1 : World} {R : List Ent} {g : Nat} {v v' : Value} {room room' : Int} {gone gone' : Nat} {rs rs' : List RM} (h : St w0 W (rnetE g v room gone rs ++ R)) (hV : rnetV v rs) (k : RPut W W1 w0.heap.size g v v' room' gone' rs')
    (hn : rs'.Sublist rs ∨ ∃ m, rs' = rs ++ [m] ∧ ∀ q, m.2.1.ownBlock = some q → W.heap.size ≤ q) :
    St w0 W1 (rnetE g v' room' gone' rs' ++ R) ∧ rnetV v' rs' := by
  have hV' : rnetV v' rs' := ⟨own_rowV k.rn.own, fun r hr => own_rowV (k.rn.by_ r hr)⟩
  have hold : ((byE rs).map (·.1)).Nodup := by
    have := h.re (M := byE rs) (fun a => by rw [cnt_append, rnetE, cnt_cons, cnt_append]; omega)
    exact this.nd
  have hin : ∀ p, p ∈ byE rs → p.1 < W.heap.size := fun p hp => h.lt (List.mem_append_left _ (List.mem_cons_of_mem _ (List.mem_append_right _ hp)))
  have hby : ((byE rs').map (·.1)).Nodup ∧ ∀ p, p ∈ byE rs' → (∃ q, q ∈ byE rs ∧ q.1 = p.1) ∨ W.heap.size ≤ p.1 := by
    rcases hn with hs | ⟨m, rfl, hm⟩
    · have hss : (byE rs').Sublist (byE rs) := sub_flat _ hs
      exact ⟨(hss.map _).nodup hold, fun p hp => .inl ⟨p, hss.subset hp, rfl⟩⟩
    · have e : byE (rs ++ [m]) = byE rs ++ rowE m.2.1 5 1 m.2.2.length (encs U m.2.2) := by simp [byE]
      have hmV := hV'.2 m (by simp)
      rw [e]
      refine ⟨?_, fun p hp => ?_⟩
      · rw [List.map_append]
        refine List.nodup_append.2 ⟨hold, rowE_nd .., fun a ha b hb e => ?_⟩
        obtain ⟨p, hp, rfl⟩ := List.mem_map.1 ha
        obtain ⟨q, hq, rfl⟩ := List.mem_map.1 hb
        have h1 := hin p hp
        have h2 := hm _ (rowE_blk hq hmV)
        omega
      · rcases List.mem_append.1 hp with hp | hp
        · exact .inl ⟨p, hp, rfl⟩
        · exact .inr (hm _ (rowE_blk hp hmV))
  refine ⟨h.step (h.bl.trans k.bl) k.kb.1 (fun i hi hne => k.kb.2 i hi (fun e => hne (B g _ 143) (List.mem_cons_self ..) e.symm) (fun e => ?_)) ?_ (fun p hp => ?_) (fun p hp => ?_), hV'⟩
  · obtain ⟨p, hp, hp1⟩ := row_in (e := 71) hV.1 e.symm
    exact hne p (List.mem_cons_of_mem _ (List.mem_append_left _ hp)) hp1
  · show (g :: (rowE _ _ _ _ _ ++ byE rs').map (·.1)).Nodup
    rw [List.map_append]
    refine List.nodup_cons.2 ⟨fun hm => ?_, List.nodup_append.2 ⟨rowE_nd .., hby.1, fun a ha b hb e => ?_⟩⟩
    · rcases List.mem_append.1 hm with hm | hm
      · obtain ⟨p, hp, e⟩ := List.mem_map.1 hm
        exact k.rn.ne (by rw [rowE_blk hp hV'.1, e])
      · obtain ⟨p, hp, e⟩ := List.mem_map.1 hm
        obtain ⟨cs, hk⟩ := by_type k.rn.by_ hp
        rw [e, k.rn.blk] at hk
        simp at hk
    · obtain ⟨p, hp, rfl⟩ := List.mem_map.1 ha
      obtain ⟨q, hq, rfl⟩ := List.mem_map.1 hb
      obtain ⟨cs, hk⟩ := by_type k.rn.by_ hq
      obtain ⟨cs', hk'⟩ := own_kind k.rn.own _ (rowE_blk hp hV'.1)
      rw [e, hk] at hk'
      simp at hk'
  · rcases List.mem_cons.1 hp with rfl | hp
    · exact ⟨_, k.rn.blk, rfl⟩
    · rcases List.mem_append.1 hp with hp | hp
      · exact own_has k.rn.own p hp
      · obtain ⟨r, hr, hpr⟩ := List.mem_flatMap.1 hp
        exact own_has (k.rn.by_ r hr) p hpr
  · rcases List.mem_cons.1 hp with rfl | hp
    · exact .inl ⟨_, List.mem_cons_self .., rfl⟩
    · rcases List.mem_append.1 hp with hp | hp
      · have e1 := rowE_blk hp hV'.1
        rcases k.hat with e | e | ⟨b, e, hb⟩
        · rw [e1] at e; cases e
        · obtain ⟨q, hq, e2⟩ := row_in (e := 71) hV.1 (e ▸ e1)
          exact .inl ⟨q, List.mem_cons_of_mem _ (List.mem_append_left _ hq), e2⟩
        · rw [e1] at e; injection e with e; exact .inr (by rw [e]; exact hb)
      · rcases hby.2 p hp with ⟨q, hq, e⟩ | h1
        · exact .inl ⟨q, List.mem_cons_of_mem _ (List.mem_append_right _ hq), e⟩
        · exact .inr h1
end Go.Proofs.Ytfmggmpllggbnaa.RNet
