/- A region that draws its order, in which a cell is loaded that the region itself stores into at its end: the condition on the world may fall when a named operation (which waits for that load) has come up. -/
import Derived.Test.YtoeiaimoppmjdaaDoorProg
import Derived.OrdersHeld
import Derived.RegionTactic
import Derived.Deep.RegionWith
namespace Go.Proofs.YtoeiaimoppmjdaaDoor.RegL
open Go
section
variable {P : Program} {ops : Array Oper} {Q : Exit → Act → World → Prop} {md : Region.Mode} {S : Bool → World → Prop} {k : Nat}
/-- Whatever order is picked from here on; behind each operation S holds of the world, its flag telling whether number k has come up. -/
def anyL (P : Program) (md : Region.Mode) (ops : Array Oper) (Q : Exit → Act → World → Prop) (S : Bool → World → Prop) (k : Nat) : Nat → Array Bool → Act → World → Prop
  | 0, listed, a, w => Region.ready md ops listed = [] ∧ Q .normal a w
  | n + 1, listed, a, w => (Region.ready md ops listed = [] → Q .normal a w) ∧
      ∀ i ∈ Region.ready md ops listed, wpOp P ops Q i (fun a' w' => S ((listed.setIfInBounds i true).getD k true) w' ∧ anyL P md ops Q S k n (listed.setIfInBounds i true) a' w') a w
theorem any_of : ∀ (n : Nat) (listed : Array Bool) (a : Act) (w : World), anyL P md ops Q S k n listed a w → wpAny P md ops Q n listed a w
  | 0, _, _, _, h => h
  | n + 1, _, _, _, h => ⟨h.1, fun i hi => wpOp_mono (fun a' w' q => any_of n _ a' w' q.2) (h.2 i hi)⟩
theorem first_of {i : Nat} {oi : Oper} {v : Value} {T : World → Prop} {G : Array Bool → Prop} (hi : ops[i]? = some oi) (hsel : ∀ (j : Nat) (o : Oper) cs b, ops[j]? = some o → o.op ≠ .select cs b)
    (hQ : ∀ c a w, Q (.panic c) (a.put oi.dst v) w → Q (.panic c) a w) (hik : i ≠ k)
    (hT : ∀ (listed : Array Bool) (j : Nat) (w' : World), i ∈ Region.ready md ops listed → j ∈ Region.ready md ops listed → j ≠ i → G listed → S ((listed.setIfInBounds j true).getD k true) w' → T w' ∧ G (listed.setIfInBounds j true)) :
    ∀ (n : Nat) (listed : Array Bool) (a : Act) (w : World),
      (∀ j oj, ops[j]? = some oj → j ≠ i → listed.getD j true = false → (∀ e ∈ oj.after, Region.binds md e = true → e.on ≠ i) → oi.apart ops oj = true) →
      i ∈ Region.ready md ops listed → G listed → YieldsIf P ops T oi v a → T w → S (listed.getD k true) w →
      anyL P md ops Q S k n (listed.setIfInBounds i true) (a.put oi.dst v) w → anyL P md ops Q S k (n + 1) listed a w := by
  intro n
  induction n with
  | zero =>
    intro listed a w _ hr _ hy hTw hS H
    refine ⟨fun h => (by rw [h] at hr; cases hr), fun j hj => ?_⟩
    by_cases hji : j = i
    · subst hji
      exact hy.wpOp hi hTw ⟨by rw [getD_set_ne true hik]; exact hS, H⟩
    · have := ready_mono hj hji
      rw [H.1] at this
      cases this
  | succ n ih =>
    intro listed a w hfree hr hG hy hTw hS H
    refine ⟨fun h => (by rw [h] at hr; cases hr), fun j hj => ?_⟩
    by_cases hji : j = i
    · subst hji
      exact hy.wpOp hi hTw ⟨by rw [getD_set_ne true hik]; exact hS, H⟩
    · have h1 := H.2 j (ready_mono hj hji)
      obtain ⟨hjun, oj, hoj, hall⟩ := mem_ready.1 hj
      have hnot : ∀ e ∈ oj.after, Region.binds md e = true → e.on ≠ i := by
        intro e he hb heq
        have q1 := hall e he hb
        have q0 := (mem_ready.1 hr).1
        rw [heq] at q1
        rcases Nat.lt_or_ge i listed.size with h' | h'
        · simp [h'] at q0 q1; rw [q0] at q1; cases q1
        · simp [Array.getElem?_eq_none h'] at q1
      have h2 := wpOp_putIf hoj (hfree j oj hoj hji hjun hnot) (fun cs b => hsel i oi cs b hi) (fun cs b => hsel j oj cs b hoj) hQ hy h1
      refine wpOp_mono (fun a' w' h3 => ?_) h2
      have e1 : ((listed.setIfInBounds i true).setIfInBounds j true).getD k true = (listed.setIfInBounds j true).getD k true := by
        rw [Array.setIfInBounds_comm _ _ (Ne.symm hji), getD_set_ne true hik]
      have hS' : S ((listed.setIfInBounds j true).getD k true) w' := by rw [← e1]; exact h3.2.1
      obtain ⟨hT', hG'⟩ := hT listed j w' hr hj hji hG hS'
      refine ⟨hS', ih (listed.setIfInBounds j true) a' w' (fun q oq hq hqi hun hno => ?_) (ready_mono hr (Ne.symm hji)) hG' h3.1 hT' hS' ?_⟩
      · refine hfree q oq hq hqi ?_ hno
        by_cases hjq : j = q
        · subst hjq; exact hjun
        · rw [getD_set_ne true hjq] at hun; exact hun
      · rw [Array.setIfInBounds_comm _ _ hji]
        exact h3.2.2
/-- A load of a cell that nobody in the region writes. -/
theorem take_w {i : Nat} {oi : Oper} {v : Value} {n : Nat} {listed : Array Bool} {a : Act} {w : World} (hm : ∀ b w, S b w → S true w) (hi : ops[i]? = some oi) (hik : i ≠ k)
    (hs : Region.noSelect ops = true) (hf : Region.free md ops listed i = true) (hr : (Region.ready md ops listed).contains i = true)
    (hQ : ∀ c a w, Q (.panic c) (a.put oi.dst v) w → Q (.panic c) a w) (hy : YieldsIf P ops (S true) oi v a) (hS : S (listed.getD k true) w)
    (h : anyL P md ops Q S k n (listed.setIfInBounds i true) (a.put oi.dst v) w) : anyL P md ops Q S k (n + 1) listed a w :=
  first_of (T := S true) (G := fun _ => True) hi (Region.noSelect_spec hs) hQ hik (fun _ _ w' _ _ _ _ q => ⟨hm _ _ q, trivial⟩) n listed a w (Region.free_spec hi hf) (by simpa using hr) trivial hy (hm _ _ hS) hS h
/-- A load of the cell that is stored into behind number k, which waits for it. -/
theorem take_s {i : Nat} {oi ok : Oper} {v : Value} {n : Nat} {listed : Array Bool} {a : Act} {w : World} (hi : ops[i]? = some oi) (hik : i ≠ k) (hok : ops[k]? = some ok) (hw : (ok.after.any fun e => Region.binds md e && e.on == i) = true)
    (hs : Region.noSelect ops = true) (hf : Region.free md ops listed i = true) (hr : (Region.ready md ops listed).contains i = true) (hk : listed.getD k true = false)
    (hQ : ∀ c a w, Q (.panic c) (a.put oi.dst v) w → Q (.panic c) a w) (hy : YieldsIf P ops (S false) oi v a) (hS : S false w)
    (h : anyL P md ops Q S k n (listed.setIfInBounds i true) (a.put oi.dst v) w) : anyL P md ops Q S k (n + 1) listed a w := by
  refine first_of (T := S false) (G := fun l => l.getD k true = false) hi (Region.noSelect_spec hs) hQ hik (fun l j w' hir hjr hji hG q => ?_) n listed a w (Region.free_spec hi hf) (by simpa using hr) hk hy hS (by rw [hk]; exact hS) h
  have hjk : j ≠ k := by
    rintro rfl
    obtain ⟨_, oj, hoj, hall⟩ := mem_ready.1 hjr
    rw [hok] at hoj
    injection hoj with hoj
    subst hoj
    rw [Array.any_eq_true] at hw
    obtain ⟨x, hx, hb⟩ := hw
    simp only [Bool.and_eq_true, beq_iff_eq] at hb
    have q1 := hall ok.after[x] (Array.getElem_mem hx) hb.1
    have q0 := (mem_ready.1 hir).1
    rw [hb.2] at q1
    rcases Nat.lt_or_ge i l.size with h' | h'
    · simp [h'] at q0 q1; rw [q0] at q1; cases q1
    · simp [Array.getElem?_eq_none h'] at q1
  have e : (l.setIfInBounds j true).getD k true = false := by rw [getD_set_ne true hjk]; exact hG
  rw [e] at q
  exact ⟨q, e⟩
theorem all_of {rs : List Nat} {n : Nat} {listed : Array Bool} {a : Act} {w : World} (hr : Region.ready md ops listed = rs) (hne : rs ≠ [])
    (h : ∀ i ∈ rs, wpOp P ops Q i (fun a' w' => S ((listed.setIfInBounds i true).getD k true) w' ∧ anyL P md ops Q S k n (listed.setIfInBounds i true) a' w') a w) : anyL P md ops Q S k (n + 1) listed a w :=
  ⟨fun h0 => absurd (hr ▸ h0) hne, hr ▸ h⟩
theorem done_of {listed : Array Bool} {a : Act} {w : World} (hr : Region.ready md ops listed = []) (h : Q .normal a w) : ∀ n, anyL P md ops Q S k n listed a w
  | 0 => ⟨hr, h⟩
  | _ + 1 => ⟨fun _ => h, by rw [hr]; simp⟩
/-- One that alone may come up: it is carried out; S behind it. -/
theorem step_of {i n : Nat} {o : Oper} {listed : Array Bool} {a : Act} {w : World} (hr : Region.ready md ops listed = [i]) (ho : ops[i]? = some o)
    (h : ∀ K' : Act → World → Prop, (∀ a' w', S ((listed.setIfInBounds i true).getD k true) w' → anyL P md ops Q S k n (listed.setIfInBounds i true) a' w' → K' a' w') → if Region.wanted o (yielded ops a.tmps) = true then Oper.wp P o a w K' Q else K' (a.put o.dst undef) w) :
    anyL P md ops Q S k (n + 1) listed a w :=
  all_of hr (by simp) (fun j hj => by
    obtain rfl := List.mem_singleton.1 hj
    exact wpOp_step ho (fun K' hK => h K' (fun a' w' q1 q2 => hK a' w' ⟨q1, q2⟩)))
theorem begin_of {id : Nat} {a : Act} {w : World} (hm : P.follows .mixedOrders = true) (h : anyL P .any ops Q S k ops.size (Array.replicate ops.size false) a w.drew) : (Code.region id ops true).wp P Q a w :=
  wp_region_any hm (any_of _ _ _ _ h)
end
end Go.Proofs.YtoeiaimoppmjdaaDoor.RegL
