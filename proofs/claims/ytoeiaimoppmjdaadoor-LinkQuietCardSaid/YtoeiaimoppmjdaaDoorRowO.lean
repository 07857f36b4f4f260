/- A row of one's own that begins anywhere in its block: what is left when its first ones have gone. -/
import Derived.Test.YtoeiaimoppmjdaaDoorRowApp
import Derived.Deep.RegionLawGrows
namespace Go.Proofs.YtoeiaimoppmjdaaDoor.App
open Go.RowKit Go.Proofs.YtoeiaimoppmjdaaDoorW.PrintWords Go.Proofs.YtoeiaimoppmjdaaDoor.Mem
set_option linter.unusedVariables false
set_option linter.unusedSimpArgs false
def oP (off cap : Nat) (e : TypeId) (n : Nat) (xs : List Value) (o : Obj) : Prop := ∃ cur : Array Value, o = .cells cur e (0, 0) ∧ off + cap ≤ cur.size ∧ (cur.toList.drop off).take n = xs
def oE (v : Value) (e : TypeId) (n : Nat) (xs : List Value) : List Ent :=
  match v with
  | .slice (some ad) _ cap => [(ad.block, oP ad.off cap e n xs)]
  | _ => []
def oV (v : Value) (n : Nat) (xs : List Value) : Prop := xs.length = n ∧ ((v = .slice none 0 0 ∧ n = 0) ∨ ∃ g off cap, v = .slice (some ⟨g, off, none⟩) n cap ∧ n ≤ cap ∧ cap ≤ maxLen)
theorem oE_nil (e : TypeId) (n : Nat) (xs : List Value) : oE (.slice none 0 0) e n xs = [] := rfl
theorem oV_nil : oV (.slice none 0 0) 0 [] := ⟨rfl, .inl ⟨rfl, rfl⟩⟩
theorem oV_form {v : Value} {n : Nat} {xs : List Value} (h : oV v n xs) : ∃ A c, v = .slice A n c := by
  rcases h.2 with ⟨rfl, rfl⟩ | ⟨g, off, cap, rfl, _⟩
  · exact ⟨none, 0, rfl⟩
  · exact ⟨_, _, rfl⟩
theorem mem_o (g off m cap : Nat) (e : TypeId) (n : Nat) (xs : List Value) : (g, oP off cap e n xs) ∈ oE (.slice (some ⟨g, off, none⟩) m cap) e n xs := List.mem_singleton.2 rfl
/-- A row that begins where its block does is such a one. -/
theorem o_of_row {w0 W : World} {R : List Ent} {v : Value} {e : TypeId} {n : Nat} {xs : List Value} (h : St w0 W (rowE v e 1 n xs ++ R)) (hV : rowV v 1 n xs) : St w0 W (oE v e n xs ++ R) ∧ oV v n xs := by
  have hl : xs.length = n := by rw [hV.1]; omega
  rcases hV.2 with ⟨rfl, h0⟩ | ⟨g, cap, rfl, h1, h2⟩
  · exact ⟨by simpa [oE, rowE] using h, hl, .inl ⟨rfl, h0⟩⟩
  · refine ⟨?_, hl, .inr ⟨g, 0, cap, rfl, h1, h2⟩⟩
    exact St.weak (P := rowP cap e 1 n xs) h (fun o ⟨cur, e1, e2, e3⟩ => ⟨cur, e1, by show 0 + cap ≤ _; omega, by simpa using e3⟩)
theorem o_blk {w0 W : World} {R : List Ent} {g off m cap n : Nat} {e : TypeId} {xs : List Value} (h : St w0 W (oE (.slice (some ⟨g, off, none⟩) m cap) e n xs ++ R)) :
    ∃ cur : Array Value, W.heap[g]? = some (.cells cur e (0, 0)) ∧ off + cap ≤ cur.size ∧ (cur.toList.drop off).take n = xs := by
  obtain ⟨o, ho, cur, rfl, h1, h2⟩ := h.has _ (List.mem_append_left _ (mem_o g off m cap e n xs))
  exact ⟨cur, ho, h1, h2⟩
/-- What stands in it. -/
theorem o_at {w0 W : World} {R : List Ent} {g off m cap n : Nat} {e : TypeId} {xs : List Value} (h : St w0 W (oE (.slice (some ⟨g, off, none⟩) m cap) e n xs ++ R)) (hn : xs.length = n) (j : Nat) (hj : j < n) : W.cell? ⟨g, off + j, none⟩ = xs[j]? := by
  obtain ⟨cur, hg, h1, h2⟩ := o_blk h
  rw [cell_of_row W g (off + j) cur e (0, 0) hg, ← h2, List.getElem?_take_of_lt hj, List.getElem?_drop]
  simp
/-- Its first one goes. -/
theorem o_cut {w0 W : World} {R : List Ent} {g off cap n : Nat} {e : TypeId} {x : Value} {xs : List Value} (h : St w0 W (oE (.slice (some ⟨g, off, none⟩) (n + 1) cap) e (n + 1) (x :: xs) ++ R)) (hV : oV (.slice (some ⟨g, off, none⟩) (n + 1) cap) (n + 1) (x :: xs)) :
    St w0 W (oE (.slice (if cap = 1 then some ⟨g, off, none⟩ else some ⟨g, off + 1, none⟩) n (cap - 1)) e n xs ++ R) ∧ oV (.slice (if cap = 1 then some ⟨g, off, none⟩ else some ⟨g, off + 1, none⟩) n (cap - 1)) n xs := by
  have hl : xs.length = n := by have := hV.1; simp at this; exact this
  have hc : n + 1 ≤ cap ∧ cap ≤ maxLen := by
    rcases hV.2 with ⟨h1, _⟩ | ⟨_, _, _, h1, h2, h3⟩
    · cases h1
    · injection h1 with _ _ h1; subst h1; exact ⟨h2, h3⟩
  by_cases h1 : cap = 1
  · subst h1
    obtain rfl : n = 0 := by omega
    obtain rfl : xs = [] := List.eq_nil_of_length_eq_zero hl
    rw [if_pos rfl]
    refine ⟨St.weak (P := oP off 1 e 1 [x]) h (fun o ⟨cur, e1, e2, e3⟩ => ⟨cur, e1, by show off + 0 ≤ _; omega, by simp⟩), rfl, .inr ⟨g, off, 0, rfl, Nat.le_refl _, Nat.zero_le _⟩⟩
  · rw [if_neg h1]
    refine ⟨St.weak (P := oP off cap e (n + 1) (x :: xs)) h (fun o ⟨cur, e1, e2, e3⟩ => ⟨cur, e1, by show off + 1 + (cap - 1) ≤ _; omega, ?_⟩), hl, .inr ⟨g, off + 1, cap - 1, rfl, by omega, by omega⟩⟩
    show (cur.toList.drop (off + 1)).take n = xs
    rw [← List.drop_drop]
    have h4 : cur.toList.drop off = x :: ((cur.toList.drop off).drop 1) := by
      cases e5 : cur.toList.drop off with
      | nil => rw [e5] at e3; simp at e3
      | cons a l => rw [e5] at e3; simp at e3; rw [e3.1]; rfl
    rw [h4] at e3
    simpa using e3
/-- One more element behind it. -/
theorem o_append {P : Program} {w0 W : World} {R : List Ent} {v : Value} {e : TypeId} {n : Nat} {xs : List Value} (h : St w0 W (oE v e n xs ++ R)) (hV : oV v n xs) (t ty : TypeId) (z : Value) (bytes : Nat) (ht : P.underlying t = some (.slice e)) (hinfo : (P.info? e).map (fun i => (i.zero, i.size, i.bytes)) = some (some z, 1, bytes)) (hz : z.cells.size = 1)
    (hl : (n + 1) * bytes ≤ 140737488355328) (hl2 : n + 1 ≤ 140737488355328) (ad : Addr) (c1 : Nat) (u : Value) (hx : W.cell? ad = some u) (hu : u.oneCell' = true) :
    ∃ (v' : Value) (W' : World), (Builtin.append_ #[t, t] ty #[v, .slice (some ad) 1 c1]).run P W = .ok v' W' ∧ St w0 W' (oE v' e (n + 1) (xs ++ [u]) ++ R) ∧ oV v' (n + 1) (xs ++ [u]) := by
  have hlen := hV.1
  rcases hV.2 with ⟨rfl, rfl⟩ | ⟨g, off, cap, rfl, hc1, hc2⟩
  · obtain rfl : xs = [] := List.eq_nil_of_length_eq_zero hlen
    obtain ⟨v', W', hr, h1, h2⟩ := row_append (P := P) (xs := []) (v := .slice none 0 0) (n := 0) (e := e) (by simpa [oE, rowE] using h) (rowV_nil 1) t ty z bytes ht hinfo hz hl hl2 ad c1 u hx hu
    obtain ⟨k1, k2⟩ := o_of_row h1 h2
    exact ⟨v', W', hr, k1, k2⟩
  obtain ⟨i0, hi, hzz⟩ := Option.map_eq_some_iff.1 hinfo
  simp only [Prod.mk.injEq] at hzz
  obtain ⟨hz0, hz1, hz2⟩ := hzz
  have hnews : ∀ j w, [u][j]? = some w → W.cell? (ad.add j) = some w := by
    intro j w hw
    have : j = 0 := by
      rcases Nat.eq_zero_or_pos j with h0 | h0
      · exact h0
      · rw [List.getElem?_eq_none (by simp; omega)] at hw; cases hw
    subst this
    simp at hw
    have e : ad.add 0 = ad := by unfold Addr.add; split <;> first | rfl | (rename_i h0; exact absurd rfl h0)
    rw [e, hx, hw]
  obtain ⟨cur, hg, q1, q2⟩ := o_blk h
  by_cases hroom : n + 1 ≤ cap
  · have hrun := run_append_room_cells (P := P) W t ty e i0 ht hi g off n cap ad 1 c1 [u] (by rw [hz1]; rfl) hnews (by intro q hq; simp at hq; subst hq; exact hu) hroom
      (fun j hj => by
        have : j = 0 := by simp at hj; exact hj
        subst this
        rw [hz1, cell_of_row W g _ cur e (0, 0) hg, Array.getElem?_eq_getElem (by omega)]; rfl)
      (fun j hj => blk_frozen hg _)
    rw [hz1, Nat.mul_one] at hrun
    refine ⟨_, _, hrun, ?_, by simp [hlen], .inr ⟨g, off, cap, rfl, hroom, hc2⟩⟩
    show St w0 (W.setCell ⟨g, off + n, none⟩ u) _
    have hge := h.ge _ (List.mem_append_left _ (mem_o g off n cap e n xs))
    refine h.step (h.bl.setCell hge u) (by simp [World.setCell]) (fun k hk hne => Below.heap_setCell W _ u k (fun e1 => hne _ (mem_o g off n cap e n xs) e1.symm)) (by simp [oE]) (fun p hp => ?_) (fun p hp => .inl ⟨_, mem_o g off n cap e n xs, ?_⟩)
    · simp [oE] at hp
      subst hp
      refine ⟨_, blk_put hg (off + n) u rfl, _, rfl, by simpa using q1, ?_⟩
      have hn2 : off + n < cur.size := by omega
      simp only [Array.toList_setIfInBounds]
      rw [← q2]
      have e1 : ((cur.toList.set (off + n) u).drop off) = (cur.toList.drop off).set n u := by
        rw [List.drop_set, if_neg (by omega)]; simp
      rw [e1]
      have e2 : n < (cur.toList.drop off).length := by simp; omega
      rw [List.take_succ_eq_append_getElem (by simpa using e2), List.take_set_of_le (Nat.le_refl _)]
      simp
    · simp [oE] at hp; subst hp; rfl
  · obtain rfl : n = cap := by omega
    obtain ⟨v', W', hrun, r1, r2⟩ := run_append_arg_grows (P := P) W t ty e i0 z 1 bytes ht hi hz0 hz1 hz2 hz (by omega) ⟨g, off, none⟩ n n xs (by omega)
      (fun j w hw => by
        have hj : j < n := by
          rcases Nat.lt_or_ge j n with h0 | h0
          · exact h0
          · rw [List.getElem?_eq_none (by omega)] at hw; cases hw
        have := o_at h hlen j hj
        rw [hw] at this
        rw [← this]
        simp [Addr.add]; split <;> first | rfl | simp_all)
      ad 1 c1 [u] (by simp) hnews (by omega) (by simp only [maxLen]; omega) hl
    have hb : Below W.heap.size W W' := (Below.refl _ _).grown r2 (Nat.le_refl _) (fun k hk => by cases hk)
    obtain ⟨k1, k2⟩ := (St.tail h).fresh hb r1
    obtain ⟨j1, j2⟩ := o_of_row k1 k2
    exact ⟨v', W', hrun, j1, j2⟩
end Go.Proofs.YtoeiaimoppmjdaaDoor.App
