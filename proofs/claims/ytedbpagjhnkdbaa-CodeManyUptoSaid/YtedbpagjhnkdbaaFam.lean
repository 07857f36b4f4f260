/- Any number of Writers, the lists that they ought to hold: what each call keeps. -/
import Derived.Test.YtedbpagjhnkdbaaCore
namespace Go.Proofs.Ytedbpagjhnkdbaa.Wr
open Go.RowKit Go.Proofs.YtedbpagjhnkdbaaW.PrintWords Go.Proofs.Ytedbpagjhnkdbaa.Bytes
set_option linter.unusedVariables false
set_option linter.unusedSimpArgs false
def upd {α : Type} (f : Nat → α) (k : Nat) (a : α) : Nat → α := fun i => if i = k then a else f i
theorem upd_self {α : Type} (f : Nat → α) (k : Nat) (a : α) : upd f k a k = a := by simp [upd]
theorem upd_ne {α : Type} (f : Nat → α) {k i : Nat} (a : α) (h : i ≠ k) : upd f k a i = f i := by simp [upd, h]
theorem map_upd {α β : Type} (f : Nat → α) (e : α → β) (n k : Nat) (a : α) (h : k < n) : ((List.range n).map fun i => e (f i)).set k (e a) = (List.range n).map fun i => e (upd f k a i) := by
  apply List.ext_getElem
  · simp
  · intro i h1 h2
    rw [List.getElem_set]
    by_cases hi : k = i
    · subst hi; simp [upd_self]
    · rw [if_neg hi]; simp [upd_ne f a (fun q => hi q.symm)]
theorem map_add {α β : Type} (f : Nat → α) (e : α → β) (n : Nat) (a : α) : ((List.range n).map fun i => e (f i)) ++ [e a] = (List.range (n + 1)).map fun i => e (upd f n a i) := by
  rw [List.range_succ, List.map_append, List.map_singleton, upd_self]
  congr 1
  apply List.map_congr_left
  intro i hi
  rw [upd_ne f a (by have := List.mem_range.1 hi; omega)]
structure Fam (W : World) (B n : Nat) (g : Nat → Nat) (v h : Nat → Value) (x : Nat → List Int) : Prop where
  wt : ∀ i, i < n → Wtr W B (g i) (v i) (x i)
  ho : ∀ i, i < n → W.ownsRow B 5 1 (h i) (x i).length (encs I (x i))
  nvh : ∀ i j, i < n → j < n → NeRow (v i) (h j)
  nvv : ∀ i j, i < n → j < n → i ≠ j → NeRow (v i) (v j)
  nhh : ∀ i j, i < n → j < n → i ≠ j → NeRow (h i) (h j)
  gg : ∀ i j, i < n → j < n → i ≠ j → g i ≠ g j
theorem Fam.zero (W : World) (B : Nat) (g : Nat → Nat) (v h : Nat → Value) (x : Nat → List Int) : Fam W B 0 g v h x :=
  ⟨fun i h => absurd h (by omega), fun i h => absurd h (by omega), fun i j h => absurd h (by omega), fun i j h => absurd h (by omega), fun i j h => absurd h (by omega), fun i j h => absurd h (by omega)⟩
theorem Fam.below {W W' : World} {B n : Nat} {g : Nat → Nat} {v h : Nat → Value} {x : Nat → List Int} (f : Fam W B n g v h x) (hb : Below W.heap.size W W') : Fam W' B n g v h x :=
  ⟨fun i hi => wtr_below (f.wt i hi) hb, fun i hi => pw_own_below (f.ho i hi) hb, f.nvh, f.nvv, f.nhh, f.gg⟩
/-- A row of another type is written. -/
theorem Fam.grow {W W' : World} {B n : Nat} {g : Nat → Nat} {v h : Nat → Value} {x : Nat → List Int} (f : Fam W B n g v h x) {row : Option Nat} (hg : W.grownBy W' row)
    (hrow : ∀ b, row = some b → ∃ cs t, W.heap[b]? = some (.cells cs t (0, 0)) ∧ t ≠ 5 ∧ t ≠ 100) : Fam W' B n g v h x := by
  have key : ∀ {u : Value} {m : Nat} {us : List Value}, W.ownsRow B 5 1 u m us → u.ownBlock = .none ∨ u.ownBlock ≠ row := by
    intro u m us hu
    cases hub : u.ownBlock with
    | none => exact .inl rfl
    | some b =>
      refine .inr fun e => ?_
      obtain ⟨cs, t, hb, h5, _⟩ := hrow b e.symm
      exact ne_block hb h5 hu hub
  refine ⟨fun i hi => wtr_grown (f.wt i hi) hg (fun e => ?_) (key (f.wt i hi).own), fun i hi => own_other (f.ho i hi) hg (key (f.ho i hi)), f.nvh, f.nvv, f.nhh, f.gg⟩
  obtain ⟨cs, t, hb, _, h100⟩ := hrow (g i) e.symm
  rw [(f.wt i hi).blk] at hb
  injection hb with hb
  injection hb with _ hb
  exact h100 hb.symm
theorem Fam.step {W W' : World} {B n : Nat} {g : Nat → Nat} {v h : Nat → Value} {x : Nat → List Int} (f : Fam W B n g v h x) {k : Nat} (hk : k < n) {v' h' : Value} {y : List Int} (t : Two W W' B (g k) (v k) (h k) v' h' y y) :
    Fam W' B n g (upd v k v') (upd h k h') (upd x k y) := by
  have wk := f.wt k hk
  have ok := f.ho k hk
  have hblk : ∀ i, i < n → i ≠ k → W'.heap[g i]? = some (.cells #[v i] 100 (0, 0)) := fun i hi hne => t.block (f.wt i hi).blk (by decide) (f.gg i k hi hk hne) wk.own ok
  have hv : ∀ i, i < n → i ≠ k → W'.ownsRow B 5 1 (v i) (x i).length (encs I (x i)) := fun i hi hne => t.other (f.wt i hi).own (ne_blockT wk.blk (by decide) (f.wt i hi).own) (ne_to (f.nvv k i hk hi (fun q => hne q.symm))) (ne_to (ne_symm (f.nvh i k hi hk)))
  have hh : ∀ i, i < n → i ≠ k → W'.ownsRow B 5 1 (h i) (x i).length (encs I (x i)) := fun i hi hne => t.other (f.ho i hi) (ne_blockT wk.blk (by decide) (f.ho i hi)) (ne_to (f.nvh k i hk hi)) (ne_to (f.nhh k i hk hi (fun q => hne q.symm)))
  refine ⟨fun i hi => ?_, fun i hi => ?_, fun i j hi hj => ?_, fun i j hi hj hne => ?_, fun i j hi hj hne => ?_, f.gg⟩
  · by_cases e : i = k
    · subst e; rw [upd_self, upd_self]; exact t.wt
    · rw [upd_ne v _ e, upd_ne x _ e]; exact ⟨hblk i hi e, (f.wt i hi).le, hv i hi e⟩
  · by_cases e : i = k
    · subst e; rw [upd_self, upd_self]; exact t.ho
    · rw [upd_ne h _ e, upd_ne x _ e]; exact hh i hi e
  · by_cases e : i = k
    · subst e
      by_cases e2 : j = i
      · subst e2; rw [upd_self, upd_self]; exact t.ne
      · rw [upd_self, upd_ne h _ e2]; exact ne_append (f.nvh i j hi hj) t.hv (f.ho j hj)
    · by_cases e2 : j = k
      · subst e2; rw [upd_self, upd_ne v _ e]; exact ne_append' (f.nvh i j hi hj) t.hh (f.wt i hi).own
      · rw [upd_ne v _ e, upd_ne h _ e2]; exact f.nvh i j hi hj
  · by_cases e : i = k
    · subst e
      rw [upd_self, upd_ne v _ (fun q => hne q.symm)]; exact ne_append (f.nvv i j hi hj hne) t.hv (f.wt j hj).own
    · by_cases e2 : j = k
      · subst e2; rw [upd_self, upd_ne v _ e]; exact ne_append' (f.nvv i j hi hj hne) t.hv (f.wt i hi).own
      · rw [upd_ne v _ e, upd_ne v _ e2]; exact f.nvv i j hi hj hne
  · by_cases e : i = k
    · subst e
      rw [upd_self, upd_ne h _ (fun q => hne q.symm)]; exact ne_append (f.nhh i j hi hj hne) t.hh (f.ho j hj)
    · by_cases e2 : j = k
      · subst e2; rw [upd_self, upd_ne h _ e]; exact ne_append' (f.nhh i j hi hj hne) t.hh (f.ho i hi)
      · rw [upd_ne h _ e, upd_ne h _ e2]; exact f.nhh i j hi hj hne
/-- One more, new. -/
theorem Fam.add {W : World} {B n : Nat} {g : Nat → Nat} {v h : Nat → Value} {x : Nat → List Int} (f : Fam W B n g v h x) {g' : Nat} (hw : Wtr W B g' (.slice .none 0 0) []) (hne : ∀ i, i < n → g i ≠ g') :
    Fam W B (n + 1) (upd g n g') (upd v n (.slice .none 0 0)) (upd h n (.slice .none 0 0)) (upd x n []) := by
  refine ⟨fun i hi => ?_, fun i hi => ?_, fun i j hi hj => ?_, fun i j hi hj hq => ?_, fun i j hi hj hq => ?_, fun i j hi hj hq => ?_⟩
  · by_cases e : i = n
    · subst e; rw [upd_self, upd_self, upd_self]; exact hw
    · rw [upd_ne g _ e, upd_ne v _ e, upd_ne x _ e]; exact f.wt i (by omega)
  · by_cases e : i = n
    · subst e; rw [upd_self, upd_self]; exact own_nil _ _ _ _
    · rw [upd_ne h _ e, upd_ne x _ e]; exact f.ho i (by omega)
  · by_cases e : i = n
    · subst e; rw [upd_self]; exact ne_nil _
    · by_cases e2 : j = n
      · subst e2; rw [upd_self]; exact ne_nil' _
      · rw [upd_ne v _ e, upd_ne h _ e2]; exact f.nvh i j (by omega) (by omega)
  · by_cases e : i = n
    · subst e; rw [upd_self]; exact ne_nil _
    · by_cases e2 : j = n
      · subst e2; rw [upd_self]; exact ne_nil' _
      · rw [upd_ne v _ e, upd_ne v _ e2]; exact f.nvv i j (by omega) (by omega) hq
  · by_cases e : i = n
    · subst e; rw [upd_self]; exact ne_nil _
    · by_cases e2 : j = n
      · subst e2; rw [upd_self]; exact ne_nil' _
      · rw [upd_ne h _ e, upd_ne h _ e2]; exact f.nhh i j (by omega) (by omega) hq
  · by_cases e : i = n
    · subst e
      rw [upd_self, upd_ne g _ (fun q => hq q.symm)]; exact fun q => hne j (by omega) q.symm
    · by_cases e2 : j = n
      · subst e2; rw [upd_self, upd_ne g _ e]; exact hne i (by omega)
      · rw [upd_ne g _ e, upd_ne g _ e2]; exact f.gg i j (by omega) (by omega) hq
/-- The list of the Writers and the list of what they ought to hold. -/
structure Many (W : World) (B n : Nat) (g : Nat → Nat) (v h : Nat → Value) (x : Nat → List Int) (wv hv : Value) : Prop where
  fam : Fam W B n g v h x
  wr : W.ownsRow B 42 1 wv n ((List.range n).map fun i => Value.pointer (some ⟨g i, 0, .none⟩))
  hr : W.ownsRow B 27 1 hv n ((List.range n).map fun i => h i)
theorem Many.below {W W' : World} {B n : Nat} {g : Nat → Nat} {v h : Nat → Value} {x : Nat → List Int} {wv hv : Value} (m : Many W B n g v h x wv hv) (hb : Below W.heap.size W W') : Many W' B n g v h x wv hv :=
  ⟨m.fam.below hb, pw_own_below m.wr hb, pw_own_below m.hr hb⟩
theorem own_types {W : World} {B n : Nat} {e : TypeId} {u : Value} {us : List Value} (h : W.ownsRow B e 1 u n us) (h5 : e ≠ 5) (h100 : e ≠ 100) : ∀ b, u.ownBlock = some b → ∃ cs t, W.heap[b]? = some (.cells cs t (0, 0)) ∧ t ≠ 5 ∧ t ≠ 100 := by
  intro b hb
  obtain ⟨cs, hk⟩ := own_kind h b hb
  exact ⟨cs, e, hk, h5, h100⟩
/-- A call on Writer k, what it gives laid into place k of the list. -/
theorem Many.step {W W' : World} {B n : Nat} {g : Nat → Nat} {v h : Nat → Value} {x : Nat → List Int} {wv : Value} {gh cap : Nat} (m : Many W B n g v h x wv (.slice (some ⟨gh, 0, .none⟩) n cap)) {k : Nat} (hk : k < n) {v' h' : Value} {y : List Int}
    (t : Two W W' B (g k) (v k) (h k) v' h' y y) : Many (W'.setCell ⟨gh, k, .none⟩ h') B n g (upd v k v') (upd h k h') (upd x k y) wv (.slice (some ⟨gh, 0, .none⟩) n cap) := by
  have wk := m.fam.wt k hk
  have ok := m.fam.ho k hk
  have r1 := t.other m.wr (ne_blockT wk.blk (by decide) m.wr) (type_ne m.wr wk.own (by decide)) (type_ne m.wr ok (by decide))
  have r2 := t.other m.hr (ne_blockT wk.blk (by decide) m.hr) (type_ne m.hr wk.own (by decide)) (type_ne m.hr ok (by decide))
  have hs := r2.stored k h'
  refine ⟨(m.fam.step hk t).grow hs.2 (own_types r2 (by decide) (by decide)), own_other r1 hs.2 (type_ne r1 r2 (by decide)), ?_⟩
  have e := map_upd h (fun a => a) n k h' hk
  rw [← e]; exact hs.1
end Go.Proofs.Ytedbpagjhnkdbaa.Wr
