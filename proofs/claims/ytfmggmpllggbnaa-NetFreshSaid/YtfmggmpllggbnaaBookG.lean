/- A book of byte lists holds its marks (plain). -/
import Derived.Test.YtfmggmpllggbnaaBook
namespace Go.Proofs.Ytfmggmpllggbnaa.Book
open Go.RowKit Go.Proofs.YtfmggmpllggbnaaW.PrintWords Go.Proofs.Ytfmggmpllggbnaa.Mem
set_option linter.unusedVariables false
set_option linter.unusedSimpArgs false
theorem rowV_nth {w0 W : World} {L : List Ent} {v : Value} {e : TypeId} {n : Nat} {xs : List Value} (h : St w0 W L) (hc : ∀ a, cnt a (rowE v e 1 n xs) ≤ cnt a L) (hV : rowV v 1 n xs) (hn : 0 < n) : ∃ g c, v = .slice (some ⟨g, 0, none⟩) n c ∧ ∀ k, k < n → W.cell? ⟨g, k, none⟩ = xs[k]? := by
  rcases hV.2 with ⟨_, h0⟩ | ⟨g, c, rfl, h1, h2⟩
  · omega
  · have hr := h.re hc
    refine ⟨g, c, rfl, fun k hk => ?_⟩
    have hl := hV.1
    exact (St.at (R := []) (by simpa using hr) k (by omega) (by omega)).1
theorem rowV_val {v : Value} {n : Nat} {xs : List Value} (hV : rowV v 1 n xs) (hn : 0 < n) : ∃ g c, v = .slice (some ⟨g, 0, none⟩) n c := by
  rcases hV.2 with ⟨_, h0⟩ | ⟨g, c, rfl, h1, h2⟩
  · omega
  · exact ⟨g, c, rfl⟩
/-- What the book's cells say of list k, in any world in which the book is held so. -/
theorem kept_facts' {s : BkS} (hv : rowV s.v 1 s.kept.length (s.kept.map BL.val)) (hvo : rowV s.vo 1 s.kept.length (marksOf s.kept)) (hgood : ∀ l, l ∈ s.kept → Good s.Bs l) (w0 : World) (R : List Ent) (b k : Nat) (hk : k < s.kept.length) (l : BL) (hl : l = s.kept[k]) :
    ∃ g c g2 c2, s.v = .slice (some ⟨g, 0, none⟩) s.kept.length c ∧ s.vo = .slice (some ⟨g2, 0, none⟩) s.kept.length c2 ∧ ∀ w', St w0 w' (bkE b s ++ R) →
      (w'.cell? ⟨b, 0, none⟩ = some (.slice (some ⟨g, 0, none⟩) s.kept.length c) ∧ w'.cell? ⟨b, 1, none⟩ = some (.slice (some ⟨g2, 0, none⟩) s.kept.length c2) ∧
      w'.cell? ⟨g, k, none⟩ = some (.slice (l.g.map fun g => ⟨g, 0, none⟩) l.n l.c) ∧ w'.cell? ⟨g2, k, none⟩ = some (.int .i64 (l.m : Int)) ∧
      ∀ j, j < l.n → ∃ x, l.g = some x ∧ w'.cell? ⟨x, j, none⟩ = some (.int .u8 (atV l.m j : Int))) := by
  obtain ⟨g, c, e⟩ := rowV_val hv (by omega)
  obtain ⟨g2, c2, e2⟩ := rowV_val hvo (by omega)
  refine ⟨g, c, g2, c2, e, e2, fun w' h => ⟨?_, ?_, ?_, ?_, ?_⟩⟩
  · rw [← e]; exact h.cellOf (g := b) (cs := bkC s) (t := 107) (by simp [bkE]) 0 rfl
  · rw [← e2]; exact h.cellOf (g := b) (cs := bkC s) (t := 107) (by simp [bkE]) 1 rfl
  · obtain ⟨g', c', e', hc⟩ := rowV_nth (e := 62) h (fun x => by simp only [bkE, bkR, cnt_append, cnt_cons]; omega) hv (by omega)
    rw [e] at e'; simp at e'
    rw [e'.1, hc k hk]; simp [hk, hl, BL.val]
  · obtain ⟨g', c', e', hc⟩ := rowV_nth (e := 3) h (fun x => by simp only [bkE, bkR, cnt_append, cnt_cons]; omega) hvo (by omega)
    rw [e2] at e'; simp at e'
    rw [e'.1, hc k hk]; simp [marksOf, hk, hl]
  · intro j hj
    exact good_at (R := B b (bkC s) 107 :: (bkR s ++ R)) (h.re (fun x => by simp only [bkE, cnt_append, cnt_cons]; omega)) (hgood l (by rw [hl]; exact List.getElem_mem hk)) j hj
theorem kept_facts {s : BkS} (hV : BkV s) (w0 : World) (R : List Ent) (b k : Nat) (hk : k < s.kept.length) (l : BL) (hl : l = s.kept[k]) :
    ∃ g c g2 c2, s.v = .slice (some ⟨g, 0, none⟩) s.kept.length c ∧ s.vo = .slice (some ⟨g2, 0, none⟩) s.kept.length c2 ∧ ∀ w', St w0 w' (bkE b s ++ R) →
      (w'.cell? ⟨b, 0, none⟩ = some (.slice (some ⟨g, 0, none⟩) s.kept.length c) ∧ w'.cell? ⟨b, 1, none⟩ = some (.slice (some ⟨g2, 0, none⟩) s.kept.length c2) ∧
      w'.cell? ⟨g, k, none⟩ = some (.slice (l.g.map fun g => ⟨g, 0, none⟩) l.n l.c) ∧ w'.cell? ⟨g2, k, none⟩ = some (.int .i64 (l.m : Int)) ∧
      ∀ j, j < l.n → ∃ x, l.g = some x ∧ w'.cell? ⟨x, j, none⟩ = some (.int .u8 (atV l.m j : Int))) := kept_facts' hV.v hV.vo hV.good w0 R b k hk l hl
set_option maxRecDepth 20000 in
set_option maxHeartbeats 3200000 in
theorem plain_calls (w0 W : World) (R : List Ent) (b : Nat) (s : BkS) (h : St w0 W (bkE b s ++ R)) (hV : BkV s) (ht : s.turn ≤ 1099511627776) : Calls Try.prog 73 #[pt b] W fun e w' => e = .returned (.bool true) ∧ St w0 w' (bkE b s ++ R) := by
  have hnum := hV.num
  have i6 : s.used ≤ 16777216 := hV.used
  have hkl : s.kept.length ≤ 16777216 := by omega
  have HS := Lib.hid h
  have HV := Lib.hid hV
  obtain ⟨A0, q0, e0⟩ : ∃ A c, s.v = .slice A s.kept.length c := by
    rcases hV.v.2 with ⟨e, e2⟩ | ⟨g, cap, e, _⟩
    · exact ⟨none, 0, by rw [e]; simp [e2]⟩
    · exact ⟨_, _, e⟩
  have HE0 := Lib.hid e0
  clear h hV hnum e0 i6
  go_enter Try.func73, Try.ntmps73
  go_wp2_with fail
  go_loopw [3] (fun i wr => ∃ k : Nat, i = .int .i64 k ∧ k ≤ s.kept.length ∧ St w0 wr (bkE b s ++ R)) (fun i _ => s.kept.length - (intOf i).toNat)
  case atStart => exact ⟨0, rfl, Nat.zero_le _, HS.out⟩
  case round =>
    obtain ⟨k, rfl, hk, hs⟩ := hrel
    have c3 : wr.cell? ⟨b, 3, none⟩ = some NL := hs.cellOf (g := b) (cs := bkC s) (t := 107) (by simp [bkE]) 3 rfl
    by_cases hlt : k < s.kept.length
    · obtain ⟨l, hl⟩ : ∃ l, l = s.kept[k] := ⟨_, rfl⟩
      obtain ⟨g, cg, g2, cg2, ev, evo, hf⟩ := kept_facts HV.out w0 R b k hlt l hl
      have hmem : l ∈ s.kept := by rw [hl]; exact List.getElem_mem hlt
      have hsz := HV.out.sz l hmem
      have HF := Lib.hid hf
      obtain ⟨x0, x1, x2, x3, _⟩ := hf wr hs
      obtain ⟨n, hn⟩ : ∃ n, n = l.n := ⟨_, rfl⟩
      obtain ⟨m, hm⟩ : ∃ m, m = l.m := ⟨_, rfl⟩
      obtain ⟨A1, hA1⟩ : ∃ A1 : Option Addr, A1 = l.g.map fun g => ⟨g, 0, none⟩ := ⟨_, rfl⟩
      rw [← hn, ← hm] at hsz
      rw [← hn, ← hm, ← hA1] at HF
      rw [← hn, ← hA1] at x2
      obtain ⟨hsz1, hsz2⟩ := hsz
      have j1 : (k : Int) < (s.kept.length : Int) := by omega
      have j2 : (0 : Int) ≤ (k : Int) := by omega
      have j3 : (n : Int) ≤ 33554432 := by omega
      have HA1 := Lib.hid hA1
      have HRS := Lib.hid hs
      clear ev evo hf hmem hl hn hm hA1 hs c3
      go_wp2_with fail
      clear x0 x1 x2 x3
      go_loopw [4] (fun i wr2 => ∃ j : Nat, i = .int .i64 j ∧ j ≤ n ∧ St w0 wr2 (bkE b s ++ R)) (fun i _ => n - (intOf i).toNat)
      case atStart => exact ⟨0, rfl, Nat.zero_le _, HRS.out⟩
      case round =>
        obtain ⟨j, rfl, hj, hs⟩ := hrel
        obtain ⟨x0, x1, x2, x3, x4⟩ := HF.out wr hs
        have HR2 := Lib.hid hs
        by_cases hjn : j < n
        · obtain ⟨x, hx, x5⟩ := x4 j hjn
          obtain rfl : A1 = some ⟨x, 0, none⟩ := by rw [HA1.out, hx]; rfl
          have CA := fun w => Lib.hid (at_calls m j w (by omega) (by omega))
          have j4 : (j : Int) < (n : Int) := by omega
          have j5 : (0 : Int) ≤ (j : Int) := by omega
          obtain ⟨av, hav⟩ : ∃ av : Int, av = (atV m j : Int) := ⟨_, rfl⟩
          rw [← hav] at x5 CA
          have hne : (av != av) = false := by simp
          clear hs hav x4 hx
          go_wp2_with fail
          go_quiet ((go_at_call 96; exact Calls.quiet_of_same ((CA _).out.mono fun e w' h => ⟨h.1, h.2.symm⟩)))
          go_wp2_with fail
          go_roundw
          case rel => exact ⟨j + 1, by go_num, by omega, HR2.out.below (pw_below_drewN (Below.refl _ _) _)⟩
          case measure => simp [intOf]; omega
        · clear hs x4
          go_wp2_with fail
          go_roundw
          case rel => exact ⟨k + 1, by go_num, by omega, HR2.out⟩
          case measure => simp [intOf]; omega
    · have x0 : wr.cell? ⟨b, 0, none⟩ = some (.slice A0 s.kept.length q0) := by rw [← HE0.out]; exact hs.cellOf (g := b) (cs := bkC s) (t := 107) (by simp [bkE]) 0 rfl
      have HR := Lib.hid hs
      clear hs
      go_wp2_with fail
      go_loop [5] (fun i => i = .int .i64 0) (fun _ => 0)
      case atStart => rfl
      case round =>
        subst hrel
        go_wp2_with fail
        go_ret
        exact ⟨rfl, HR.out⟩
end Go.Proofs.Ytfmggmpllggbnaa.Book
