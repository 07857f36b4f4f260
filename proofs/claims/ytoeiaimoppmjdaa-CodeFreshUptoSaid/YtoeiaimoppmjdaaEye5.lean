/- The document's Reader: a text. -/
import Derived.Test.YtoeiaimoppmjdaaEye4
namespace Go.Proofs.Ytoeiaimoppmjdaa.Wr
open Go.RowKit Go.Proofs.YtoeiaimoppmjdaaW.PrintWords Go.Proofs.Ytoeiaimoppmjdaa.Bytes
open Go.Sort (grow)
set_option linter.unusedVariables false
set_option linter.unusedSimpArgs false
theorem erVar_at (xs : List Int) (s : RS) (most : Nat) (h : (rVar xs s most).2.met ≠ 0) : (rVar xs s most).2.at_ = s.at_ := by
  unfold rVar at h ⊢
  split
  · rename_i h0
    rw [if_pos h0] at h
    split
    · rename_i e
      rw [e] at h
      exact absurd rfl h
    · rfl
  · rfl
/-- What Text makes of it. -/
theorem rBytes_raw (xs : List Int) (s : RS) (most : Int) : rBytes xs s most = if (rRaw xs (rVar xs s most.toNat).2 ((rVar xs s most.toNat).1 : Int)).2.met = 0 then rRaw xs (rVar xs s most.toNat).2 ((rVar xs s most.toNat).1 : Int) else ([], ⟨s.at_, (rRaw xs (rVar xs s most.toNat).2 ((rVar xs s most.toNat).1 : Int)).2.met⟩) := by
  have hat := erVar_at xs s most.toNat
  unfold rBytes
  generalize rVar xs s most.toNat = v at *
  obtain ⟨n, a, m⟩ := v
  have e : rRaw xs ⟨a, m⟩ (n : Int) = rNext xs ⟨a, m⟩ n := by unfold rRaw; rw [if_neg (by omega)]
  simp only at *
  rw [e]
  unfold rNext
  by_cases hm : m = 0
  · subst hm
    by_cases hl : (n : Int) ≤ (xs.length : Int) - a
    · simp [hl]; omega
    · simp [hl]; omega
  · simp [hm, hat hm]
theorem eyto_trans {W W1 W2 : World} {base g : Nat} {A : Option Addr} {c : Nat} {xs : List Int} {s s1 : RS} (h : EyTo W W1 base g A c xs s) (k : EyTo W1 W2 base g A c xs s1) : EyTo W W2 base g A c xs s1 := h.trans k
set_option maxRecDepth 20000 in
set_option maxHeartbeats 1600000 in
theorem etext_calls (W : World) (base g : Nat) (A : Option Addr) (c : Nat) (xs : List Int) (s : RS) (most : Int) (h : Eyd W base g A c xs s) (hs : s.Ok xs) (hb : base ≤ W.heap.size) (hxl : xs.length ≤ 140737488355328) (hx : Byt xs) (hmost : most ≤ 9223372036854775807) :
    Calls Try.prog 11 #[.pointer (some ⟨g, 0, none⟩), .int .i64 most] W (ETaken W base g A c xs (rBytes xs s most).1 (rBytes xs s most).2) := by
  have HR : Hid _ := rBytes_raw xs s most
  have CV := evar_calls W base g A c xs s most.toNat h hs hb hxl hx
  have hok := rVar_ok hs most.toNat
  obtain ⟨v, hv⟩ : ∃ v, v = rVar xs s most.toNat := ⟨_, rfl⟩
  rw [← hv] at CV HR hok
  obtain ⟨n, s1⟩ := v
  have hok1 : s1.Ok xs := hok.1
  have hok2 : n ≤ most.toNat := hok.2
  have CW : Hid (∀ w1, EyTo W w1 base g A c xs s1 → Calls Try.prog 14 #[.pointer (some ⟨g, 0, none⟩), .int .i64 n] w1 (ETaken w1 base g A c xs (rRaw xs s1 n).1 (rRaw xs s1 n).2)) := fun w1 h1 => eraw_calls w1 base g A c xs s1 n h1.ey hok1 (Nat.le_trans hb h1.bl.size) hxl
  obtain ⟨q, hq⟩ : ∃ q, q = rRaw xs s1 (n : Int) := ⟨_, rfl⟩
  have HR2 : Hid (rBytes xs s most = if q.2.met = 0 then q else ([], ⟨s.at_, q.2.met⟩)) := by rw [hq]; exact HR
  rw [← hq] at CW
  obtain ⟨l, s2⟩ := q
  obtain ⟨a2, m2⟩ := s2
  have c1 := blk_cell h.blk 1
  simp at c1
  have HB := Lib.hid hb
  have HCV := Lib.hid CV
  have hn : (n : Int) ≤ 9223372036854775807 := by omega
  have hcase : (most < 0 ∧ most.toNat = 0 ∧ n = 0) ∨ (¬ most < 0 ∧ ∃ k : Nat, most = (k : Int)) := by
    by_cases h0 : most < 0
    · exact .inl ⟨h0, by omega, by omega⟩
    · exact .inr ⟨h0, most.toNat, by omega⟩
  obtain ⟨sa, hsa⟩ : ∃ sa, sa = s.at_ := ⟨_, rfl⟩
  rw [← hsa] at c1 HR2
  clear h hs hb hx hxl hq hv CV hok hok1 hok2 HR hsa
  rcases hcase with ⟨h0, hz, hn0⟩ | ⟨h0, k, hk⟩
  · rw [hz] at HCV
    have t1 : decide (most < 0) = true := decide_eq_true h0
    subst hn0
    clear hz h0 hn
    go_enter Try.func11, Try.ntmps11
    go_wp2_with fail
    refine HCV.out.mono ?_; rintro e w1 ⟨rfl, h1⟩
    have H1 := Lib.hid h1
    have C1 := Lib.hid (CW.out w1 h1)
    clear h1
    go_wp2_with fail
    refine C1.out.mono ?_; rintro e w2 ⟨u, rfl, hu, h2⟩
    have HU := Lib.hid hu
    have h12 := H1.out.trans h2
    have j1 := blk_frozen h12.ey.blk 1
    have g1 := blk_cell h12.ey.blk 1
    have g2 := blk_cell h12.ey.blk 2
    simp at g1 g2
    have H2 := Lib.hid h12
    clear hu h2 h12
    by_cases hm : m2 = 0
    · subst hm
      rw [show errN 0 = 0 from rfl] at g2
      go_wp2_with fail
      go_ret
      rw [HR2.out]
      exact ⟨u, rfl, own_less HU.out H1.out.bl.size, H2.out⟩
    · have hm2 : (errN m2 == 0) = false := by simpa using fun e => hm (errN_zero.1 e)
      have FIN := Lib.hid (eyto_at H2.out sa)
      go_wp2_with fail
      go_ret
      rw [HR2.out, if_neg hm]
      exact ⟨_, rfl, own_nil _ _ _ _, FIN.out⟩
  · subst hk
    rw [Int.toNat_natCast] at HCV
    have t1 : decide ((k : Int) < 0) = false := decide_eq_false h0
    have p1 : IntKind.u64.wrap (k : Int) = (k : Int) := IntWalk.u64_in _ ⟨by omega, by omega⟩
    have p2 : IntKind.i64.wrap (n : Int) = (n : Int) := wrap_in (by omega) hn
    clear h0 hn hmost
    go_enter Try.func11, Try.ntmps11
    go_wp2_with fail
    refine HCV.out.mono ?_; rintro e w1 ⟨rfl, h1⟩
    have H1 := Lib.hid h1
    have C1 := Lib.hid (CW.out w1 h1)
    clear h1
    go_wp2_with fail
    refine C1.out.mono ?_; rintro e w2 ⟨u, rfl, hu, h2⟩
    have HU := Lib.hid hu
    have h12 := H1.out.trans h2
    have j1 := blk_frozen h12.ey.blk 1
    have g1 := blk_cell h12.ey.blk 1
    have g2 := blk_cell h12.ey.blk 2
    simp at g1 g2
    have H2 := Lib.hid h12
    clear hu h2 h12
    by_cases hm : m2 = 0
    · subst hm
      rw [show errN 0 = 0 from rfl] at g2
      go_wp2_with fail
      go_ret
      rw [HR2.out]
      exact ⟨u, rfl, own_less HU.out H1.out.bl.size, H2.out⟩
    · have hm2 : (errN m2 == 0) = false := by simpa using fun e => hm (errN_zero.1 e)
      have FIN := Lib.hid (eyto_at H2.out sa)
      go_wp2_with fail
      go_ret
      rw [HR2.out, if_neg hm]
      exact ⟨_, rfl, own_nil _ _ _ _, FIN.out⟩
end Go.Proofs.Ytoeiaimoppmjdaa.Wr
