/- The document's Reader: the end of a number in its shortest form. -/
import Derived.Test.YtoeiaimoppmjdaaEye2
namespace Go.Proofs.Ytoeiaimoppmjdaa.Wr
open Go.RowKit Go.Proofs.YtoeiaimoppmjdaaW.PrintWords Go.Proofs.Ytoeiaimoppmjdaa.Bytes
open Go.Sort (grow)
set_option linter.unusedVariables false
set_option linter.unusedSimpArgs false
def lastOf (xs : List Int) (a : Nat) : Int := match lastJ (xs.drop a) 0 with
  | some j => ((a + j : Nat) : Int)
  | none => -1
theorem lastJ_drop (xs : List Int) (b k : Nat) (h : b < xs.length) : lastJ (xs.drop b) k = if 10 ≤ k then none else if xs.getD b 0 < 128 then some k else lastJ (xs.drop (b + 1)) (k + 1) := by
  rw [List.drop_eq_getElem_cons h, lastJ]; simp [List.getD, List.getElem?_eq_getElem h]
theorem lastJ_end (l : List Int) : lastJ l 10 = none := by
  cases l with
  | nil => rfl
  | cons c t => simp [lastJ]
set_option maxRecDepth 20000 in
theorem elast_calls (W : World) (base g : Nat) (A : Option Addr) (c : Nat) (xs : List Int) (s : RS) (h : Eyd W base g A c xs s) (hs : s.Ok xs) (hxl : xs.length ≤ 140737488355328) (hx : Byt xs) :
    Calls Try.prog 48 #[.pointer (some ⟨g, 0, none⟩)] W fun e w' => e = .returned (.int .i64 (lastOf xs s.at_)) ∧ Below W.heap.size W w' := by
  obtain ⟨a, m⟩ := s
  have H := Lib.hid h
  have HX := Lib.hid hx
  have ha : a ≤ xs.length := hs.at_
  clear h hs hx
  go_enter Try.func48, Try.ntmps48
  go_wp2_with fail
  go_loopw [3] (fun j wr => ∃ k : Nat, j = .int .i64 k ∧ k ≤ 10 ∧ lastJ (xs.drop a) 0 = lastJ (xs.drop (a + k)) k ∧ Below W.heap.size W wr) (fun j _ => 10 - (intOf j).toNat)
  case atStart => exact ⟨0, rfl, by omega, rfl, Below.refl _ _⟩
  case round =>
    obtain ⟨k, rfl, hk, hj, hb3⟩ := hrel
    have h3 := H.out.below hb3
    have d0 := blk_cell h3.blk 0
    have d1 := blk_cell h3.blk 1
    simp at d0 d1
    have HJ := Lib.hid hj
    have HB3 := Lib.hid hb3
    have hrr := h3.rd
    clear hb3 hj h3
    by_cases hk1 : k < 10
    · have t1 : decide ((k : Int) < 10) = true := decide_eq_true (by omega)
      have p1 : IntKind.i64.wrap ((a : Int) + (k : Int)) = (a : Int) + (k : Int) := wrap_in (by omega) (by omega)
      by_cases hlt : a + k < xs.length
      · have t2 : decide ((a : Int) + (k : Int) < (xs.length : Int)) = true := decide_eq_true (by omega)
        obtain ⟨ad, hA, hc⟩ := hrr.2.2 (by omega)
        obtain ⟨cc, hcc⟩ : ∃ cc, cc = xs.getD (a + k) 0 := ⟨_, rfl⟩
        have x1 := hc (a + k) hlt
        rw [← hcc] at x1
        have p2 : ((a : Int) + (k : Int)).toNat = a + k := by omega
        have i1 : (0 : Int) ≤ (a : Int) + (k : Int) := by omega
        have i2 : (a : Int) + (k : Int) < (xs.length : Int) := by omega
        subst hA
        by_cases hc1 : cc < 128
        · have t3 : decide (cc < 128) = true := decide_eq_true hc1
          have HF : Hid (lastOf xs a = (a : Int) + (k : Int)) := by
            show _ = _
            unfold lastOf
            rw [HJ.out, lastJ_drop xs (a + k) k hlt, if_neg (by omega), ← hcc, if_pos hc1]
            push_cast; rfl
          clear hcc hc hrr hlt hc1 hk1
          go_wp2_with fail
          go_quiet (fail)
          go_wp2_with fail
          go_quiet (fail)
          go_wp2_with fail
          go_ret
          rw [HF.out]
          exact ⟨rfl, by first | exact HB3.out | exact HB3.out.drew | exact pw_below_drewN HB3.out _⟩
        · have t3 : decide (cc < 128) = false := decide_eq_false hc1
          have HF : Hid (lastJ (xs.drop a) 0 = lastJ (xs.drop (a + (k + 1))) (k + 1)) := by
            show _ = _
            rw [HJ.out, lastJ_drop xs (a + k) k hlt, if_neg (by omega), ← hcc, if_neg hc1]
            rfl
          clear hcc hc hrr hlt hc1
          go_wp2_with fail
          go_quiet (fail)
          go_wp2_with fail
          go_quiet (fail)
          go_wp2_with fail
          exact ⟨⟨k + 1, by go_num, by omega, HF.out, by first | exact HB3.out | exact HB3.out.drew | exact pw_below_drewN HB3.out _⟩, by simp [intOf]; omega⟩
      · have t2 : decide ((a : Int) + (k : Int) < (xs.length : Int)) = false := decide_eq_false (by omega)
        have HF : Hid (lastOf xs a = -1) := by
          show _ = _
          unfold lastOf
          rw [HJ.out, List.drop_of_length_le (by omega)]
          rfl
        clear hrr hlt hk1
        go_wp2_with fail
        go_quiet (fail)
        go_wp2_with fail
        go_ret
        rw [HF.out]
        exact ⟨rfl, by first | exact HB3.out | exact HB3.out.drew | exact pw_below_drewN HB3.out _⟩
    · obtain rfl : k = 10 := by omega
      have HF : Hid (lastOf xs a = -1) := by
        show _ = _
        unfold lastOf
        rw [HJ.out, lastJ_end]
      clear hrr hk1
      go_wp2_with fail
      go_quiet (fail)
      go_wp2_with fail
      go_ret
      rw [HF.out]
      exact ⟨rfl, by first | exact HB3.out | exact HB3.out.drew | exact pw_below_drewN HB3.out _⟩
end Go.Proofs.Ytoeiaimoppmjdaa.Wr
