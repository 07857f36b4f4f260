/- Contracts of tilllaw1's Over and of clip. -/
import Derived.Test.YtfmggmpllggbnaaBookE
import Derived.Test.YtfmggmpllggbnaaBytes
namespace Go.Proofs.Ytfmggmpllggbnaa.RNet
open Go.RowKit Go.Proofs.YtfmggmpllggbnaaW.PrintWords Go.Proofs.Ytfmggmpllggbnaa.Net
set_option linter.unusedVariables false
set_option linter.unusedSimpArgs false
/-- The list that was lent is written over: all else is kept. -/
structure Fill (W W1 : World) (base gi cap n : Nat) : Prop where
  ow : ∃ ms : List Int, ms.length = n ∧ W1.ownsRow base 5 1 (.slice (some ⟨gi, 0, none⟩) n cap) n (encs U ms)
  bl : Below base W W1
  kb : KeepBut W W1 gi none
theorem Fill.put {W W1 : World} {base gi cap n : Nat} (h : Fill W W1 base gi cap n) (hb : base ≤ gi) (k : Nat) : Fill W (W1.setCell ⟨gi, k, none⟩ (.int .u8 238)) base gi cap n := by
  obtain ⟨ms, hm, ho⟩ := h.ow
  subst hm
  have hst := own_store_of ho (k : Int) (238 : Int)
  rw [Int.toNat_natCast] at hst
  exact ⟨⟨ms.set k 238, by simp, hst.1⟩, h.bl.setCell hb _, h.kb.set_ k _⟩
set_option maxRecDepth 20000 in
theorem over_calls (W : World) (base gi cap n m : Nat) (ms : List Int) (hl : ms.length = n) (hm : m ≤ n) (hmx : m ≤ 1048576) (ho : W.ownsRow base 5 1 (.slice (some ⟨gi, 0, none⟩) n cap) n (encs U ms)) :
    Calls Try.prog 56 #[.slice (some ⟨gi, 0, none⟩) m cap] W fun e w' => e = .returned (.tuple #[]) ∧ Fill W w' base gi cap n := by
  have HO := Lib.hid ho
  have HG : Hid (base ≤ gi) := own_base ho gi rfl
  clear ho
  go_enter Try.func56, Try.ntmps56
  go_wp2_with fail
  go_loopw [2] (fun j wr => ∃ k : Nat, j = .int .i64 k ∧ k ≤ m ∧ Fill W wr base gi cap n) (fun j _ => m - (intOf j).toNat)
  case atStart => exact ⟨0, rfl, Nat.zero_le _, ⟨ms, hl, HO.out⟩, Below.refl _ _, KeepBut.refl _ _ _⟩
  case round =>
    obtain ⟨k, rfl, hk, hf⟩ := hrel
    have HF := Lib.hid hf
    obtain ⟨qs, hqs, how⟩ := hf.ow
    by_cases hlt : k < m
    · have hmn : k < qs.length := by omega
      have hat := own_at_of (d := 0) how (k : Int) (by omega) (by omega)
      rw [Int.toNat_natCast] at hat
      have a1 := hat.1
      have a2 := hat.2
      have i1 : (k : Int) < (m : Int) := by omega
      have i2 : (0 : Int) ≤ (k : Int) := by omega
      have i5 : (k : Int) ≤ 1048576 := by omega
      have NX := Lib.hid (hf.put HG.out k)
      clear hf how hqs hmn hat
      go_wp2_with fail
      exact ⟨⟨k + 1, by go_num, by omega, NX.out⟩, by simp [intOf]; omega⟩
    · have i1 : ¬ (k : Int) < (m : Int) := by omega
      clear how hqs hf
      go_wp2_with fail
      go_end0
      exact ⟨rfl, HF.out⟩
theorem clip_short (A : Option Addr) (n c : Nat) (w : World) (hn : n ≤ 4096) : Calls Try.prog 42 #[.slice A n c] w fun e w' => e = .returned (.slice A n c) ∧ w' = w := by
  have i1 : ¬ (4096 : Int) < (n : Int) := by omega
  go_enter Try.func42, Try.ntmps42
  go_wp2_with fail
  go_ret
  exact ⟨rfl, rfl⟩
theorem clip_long (A : Option Addr) (n c : Nat) (w : World) (hn : 4096 < n) (hc : n ≤ c) : Calls Try.prog 42 #[.slice A n c] w fun e w' => e = .returned (.slice A 4096 c) ∧ w' = w := by
  have i1 : (4096 : Int) < (n : Int) := by omega
  obtain ⟨i0, hi0, _⟩ := Option.map_eq_some_iff.1 info5
  have q := cut_to (P := Try.prog) 62 5 .i64 Try.underlying62 hi0 A n c (4096 : Int) (by omega) (by omega) hc
  go_enter Try.func42, Try.ntmps42
  go_wp2_with fail
  go_ret
  exact ⟨rfl, rfl⟩
end Go.Proofs.Ytfmggmpllggbnaa.RNet
