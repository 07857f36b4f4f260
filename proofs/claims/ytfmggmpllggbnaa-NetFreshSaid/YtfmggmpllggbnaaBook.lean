/- A book of byte lists: contracts of at, tight, Bytes, plain, growBytes, grow, holds, Look. -/
import Derived.Test.YtfmggmpllggbnaaBookF
import Derived.Deep.QuietTactic
import Derived.BigQuiet
namespace Go.Proofs.Ytfmggmpllggbnaa.Book
open Go.RowKit Go.Proofs.YtfmggmpllggbnaaW.PrintWords Go.Proofs.Ytfmggmpllggbnaa.Mem
set_option linter.unusedVariables false
set_option linter.unusedSimpArgs false
theorem infoU : (Try.prog.info? 5).map (fun i => (i.zero, i.size, i.bytes)) = some (some (.int .u8 0), 1, 1) := by kernel_rfl
theorem infoL : (Try.prog.info? 62).map (fun i => (i.zero, i.size, i.bytes)) = some (some (.slice none 0 0), 1, 24) := by kernel_rfl
theorem infoN : (Try.prog.info? 3).map (fun i => (i.zero, i.size, i.bytes)) = some (some (.int .i64 0), 1, 8) := by kernel_rfl
set_option maxRecDepth 20000 in
set_option maxHeartbeats 1600000 in
theorem at_calls (m k : Nat) (w : World) (hm : m ≤ 1099511627776) (hk : k ≤ 1099511627776) : Calls Try.prog 96 #[.int .i64 (m : Int), .int .i64 (k : Int)] w fun e w' => e = .returned (.int .u8 (atV m k : Int)) ∧ w = w' := by
  unfold atV
  have q4 : (k : Int) ≤ 1099511627776 := by omega
  have q5 : (m : Int) ≤ 1099511627776 := by omega
  by_cases h : k % 2 = 0
  · rw [if_pos h]
    obtain ⟨a, ha⟩ : ∃ a : Nat, a = m % 251 := ⟨_, rfl⟩
    have q1 : (m : Int) % 251 = (a : Int) := by omega
    have q2 : (a : Int) ≤ 250 := by omega
    have q3 : (k : Int) % 2 = 0 := by omega
    rw [← ha]
    clear h hk hm ha
    go_enter Try.func96, Try.ntmps96
    go_wp2_with fail
    go_ret
    exact ⟨by first | rfl | (congr 2; omega) | trivial, rfl⟩
  · rw [if_neg h]
    obtain ⟨a, ha⟩ : ∃ a : Nat, a = m / 251 := ⟨_, rfl⟩
    obtain ⟨d, hd⟩ : ∃ d : Nat, d = (7 * m + a) % 251 := ⟨_, rfl⟩
    have q1 : (m : Int) / 251 = (a : Int) := by omega
    have q6 : (7 * (m : Int) + (a : Int)) % 251 = (d : Int) := by omega
    have q2 : (d : Int) ≤ 250 := by omega
    have q7 : (a : Int) ≤ 1099511627776 := by omega
    have q3 : ((k : Int) % 2 == 0) = false := by simp; omega
    rw [← ha, ← hd]
    clear h hk hm ha hd
    go_enter Try.func96, Try.ntmps96
    go_wp2_with fail
    go_ret
    exact ⟨by first | rfl | (congr 2; omega) | trivial, rfl⟩
/-- One more element behind a row of one's own. -/
theorem row_append {P : Program} {w0 W : World} {R : List Ent} {v : Value} {e : TypeId} {n : Nat} {xs : List Value} (h : St w0 W (rowE v e 1 n xs ++ R)) (hV : rowV v 1 n xs) (t ty : TypeId) (z : Value) (bytes : Nat) (ht : P.underlying t = some (.slice e)) (hinfo : (P.info? e).map (fun i => (i.zero, i.size, i.bytes)) = some (some z, 1, bytes)) (hz : z.cells.size = 1)
    (hl : (n + 1) * bytes ≤ 140737488355328) (hl2 : n + 1 ≤ 140737488355328) (ad : Addr) (c1 : Nat) (u : Value) (hx : W.cell? ad = some u) (hu : u.oneCell' = true) :
    ∃ (v' : Value) (W' : World), (Builtin.append_ #[t, t] ty #[v, .slice (some ad) 1 c1]).run P W = .ok v' W' ∧ St w0 W' (rowE v' e 1 (n + 1) (xs ++ [u]) ++ R) ∧ rowV v' 1 (n + 1) (xs ++ [u]) := by
  obtain ⟨i0, hi, hzz⟩ := Option.map_eq_some_iff.1 hinfo
  simp only [Prod.mk.injEq] at hzz
  obtain ⟨hz0, hz1, hz2⟩ := hzz
  have hnews : ∀ j w, [u][j]? = some w → W.cell? (ad.add j) = some w := by
    intro j w hw
    have : j = 0 := by
      rcases Nat.eq_zero_or_pos j with h0 | h0
      · exact h0
      · rw [List.getElem?_eq_none (by simp; omega)] at hw; cases hw
    subst this
    simp at hw
    have e : ad.add 0 = ad := by unfold Addr.add; split <;> first | rfl | (rename_i h0; exact absurd rfl h0)
    rw [e, hx, hw]
  obtain ⟨v1, w1, hr, h2, h3, _, h5⟩ := run_append_own_at (P := P) W w0.heap.size t ty e i0 z 1 bytes ht hi hz0 hz1 hz2 hz (by omega) v n xs (h.own hV) ad 1 c1 [u] (by simp) hnews
    (by intro q hq; simp at hq; subst hq; exact hu) (by simp only [maxLen]; omega) hl h.bl.size
  obtain ⟨k1, k2⟩ := h.grown hV h3 h2 (by
    rcases h5 with h5 | h5
    · exact .inl h5
    · right; intro k hk; rw [h5] at hk; injection hk with hk; omega)
  exact ⟨v1, w1, hr, k1, k2⟩
theorem mark_store {w0 W : World} {R : List Ent} {x m k n c : Nat} (h : St w0 W ((x, fillP m k n c) :: R)) (hk : k < n) :
    (∃ u, W.cell? ⟨x, k, none⟩ = some u) ∧ W.frozen? ⟨x, k, none⟩ = false ∧ St w0 (W.setCell ⟨x, k, none⟩ (.int .u8 (atV m k : Int))) ((x, fillP m (k + 1) n c) :: R) := by
  obtain ⟨o, ho, cur, f, rfl, hf, hc, hN, hm⟩ := h.has _ (List.mem_cons_self ..)
  have hge := h.ge _ (List.mem_cons_self ..)
  refine ⟨⟨cur[k]'(by omega), by rw [cell_of_row W x k _ _ _ ho]; exact Array.getElem?_eq_getElem (by omega)⟩, free_of_mark ho hf k (by omega), ?_⟩
  have hst := St.step (F := [(x, fillP m k n c)]) (G := [(x, fillP m (k + 1) n c)]) (W1 := W.setCell ⟨x, k, none⟩ (.int .u8 (atV m k : Int))) (R := R) h (h.bl.setCell hge _) (by simp [World.setCell]) (fun q hq hne => Below.heap_setCell W _ _ q (fun e => hne _ (List.mem_singleton.2 rfl) e.symm)) (by simp)
    (fun p hp => by
      obtain rfl := List.mem_singleton.1 hp
      refine ⟨_, setCell_mark ho _, cur.setIfInBounds k (.int .u8 (atV m k : Int)), f, rfl, by simpa using hf, by simpa using hc, by simp; omega, fun j hj => ?_⟩
      by_cases hjn : j = k
      · subst hjn; rw [Array.getElem?_setIfInBounds_self_of_lt (by omega)]
      · rw [Array.getElem?_setIfInBounds_ne (by omega)]; exact hm j (by omega)) (fun p hp => .inl ⟨_, List.mem_singleton.2 rfl, by obtain rfl := List.mem_singleton.1 hp; rfl⟩)
  exact hst
set_option maxRecDepth 20000 in
set_option maxHeartbeats 1600000 in
theorem tight_yes (W : World) (b : Nat) (s : BkS) (n : Nat) (h : W.heap[b]? = some (.cells (bkC s) 107 (0, 0))) (hu : s.used ≤ 16777216) (hn : n ≤ 1099511627776) (ht : 16777216 < s.used + n) : Calls Try.prog 97 #[pt b, .int .i64 (n : Int)] W fun e w' => e = .returned (.bool true) ∧ W = w' := by
  have c56 : W.cell? ⟨b, 56, none⟩ = some (.int .i64 (s.used : Int)) := blk_cell h 56
  have i1 : (16777216 : Int) < (s.used : Int) + (n : Int) := by omega
  have i2 : (s.used : Int) ≤ 16777216 := by omega
  have i3 : (n : Int) ≤ 1099511627776 := by omega
  clear h ht hu hn
  go_enter Try.func97, Try.ntmps97
  go_wp2_with fail
  go_ret
  exact ⟨rfl, rfl⟩
set_option maxRecDepth 20000 in
set_option maxHeartbeats 1600000 in
theorem tight_no (w0 W : World) (R : List Ent) (b : Nat) (s : BkS) (n : Nat) (h : St w0 W (B b (bkC s) 107 :: R)) (ht : s.used + n ≤ 16777216) : Calls Try.prog 97 #[pt b, .int .i64 (n : Int)] W fun e w' => e = .returned (.bool false) ∧ St w0 w' (B b (bkC { s with used := s.used + n }) 107 :: R) := by
  have c56 : W.cell? ⟨b, 56, none⟩ = some (.int .i64 (s.used : Int)) := blk_cell h.hd 56
  have f56 := blk_frozen h.hd 56
  have HP := Lib.hid (h.put (cs' := bkC { s with used := s.used + n }) 56 (.int .i64 ((s.used + n : Nat) : Int)) rfl)
  have i1 : ¬ (16777216 : Int) < (s.used : Int) + (n : Int) := by omega
  have i2 : (s.used : Int) ≤ 16777216 := by omega
  have i3 : (n : Int) ≤ 16777216 := by omega
  clear h ht
  go_enter Try.func97, Try.ntmps97
  go_wp2_with fail
  go_ret
  refine ⟨rfl, ?_⟩
  have := HP.out
  rw [Int.natCast_add] at this
  exact this
end Go.Proofs.Ytfmggmpllggbnaa.Book
