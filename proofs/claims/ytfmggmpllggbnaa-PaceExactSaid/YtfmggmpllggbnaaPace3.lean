/- tilllaw7.bounded: the gaps and the number of times. -/
import Derived.Test.YtfmggmpllggbnaaPace2
namespace Go.Proofs.Ytfmggmpllggbnaa.Pace
open Go.RowKit
set_option linter.unusedVariables false
set_option linter.unusedSimpArgs false
theorem only_trans {a b c : World} {g : Nat} (h1 : a.grownBy b (some g)) (h2 : b.grownBy c (some g)) : a.grownBy c (some g) :=
  ⟨h2.os.trans h1.os, h2.tape.trans h1.tape, h2.output.trans h1.output, Nat.le_trans h1.size h2.size, fun k hk hne => (h2.block k (Nat.lt_of_lt_of_le hk h1.size) hne).trans (h1.block k hk hne)⟩
structure J (w0 w : World) (g : Nat) (most n times gap since k left pg : Int) : Prop where
  o : IsO w g most left pg
  gw : w0.grownBy w (some g)
  kk : 0 ≤ k ∧ k ≤ n
  t : 0 ≤ times ∧ times ≤ k
  gp : 0 ≤ gap ∧ gap ≤ most
  s : 0 ≤ since ∧ since ≤ most
  q : (times = 0 ∧ k = 0 ∧ gap = 0 ∧ since = 0 ∧ left = 0 ∧ pg = 1) ∨
    (1 ≤ times ∧ 1 ≤ left ∧ left + since ≤ most ∧ pg = dbl most (left + since) ∧ ((gap = 0 ∧ times = 1 ∧ left + since = 1) ∨ (1 ≤ gap ∧ left + since = dbl most gap)) ∧ k + most ≤ 1 + times * most + since)
theorem J.no {w0 w w' : World} {g : Nat} {most n times gap since k left pg : Int} (h : J w0 w g most n times gap since k left pg) (hk : k < n) (hl : 1 < left) (ho : IsO w' g most (left - 1) pg) (hw : w.grownBy w' (some g)) :
    J w0 w' g most n times gap (since + 1) (k + 1) (left - 1) pg := by
  have := h.kk; have := h.t; have := h.s; have := h.gp
  rcases h.q with hq | ⟨q1, q2, q3, q4, q5, q6⟩
  · omega
  · have e : left - 1 + (since + 1) = left + since := by omega
    exact ⟨ho, only_trans h.gw hw, by omega, by omega, h.gp, by omega, .inr ⟨q1, by omega, by omega, by rw [e]; exact q4, by rw [e]; exact q5, by omega⟩⟩
theorem J.yes {w0 w w' : World} {g : Nat} {most n times gap since k left pg : Int} (h : J w0 w g most n times gap since k left pg) (hk : k < n) (hl : left ≤ 1) (ho : IsO w' g most pg (dbl most pg)) (hw : w.grownBy w' (some g)) :
    J w0 w' g most n (times + 1) (if 0 < times then since + 1 else gap) 0 (k + 1) pg (dbl most pg) := by
  have hk' := h.kk; have := h.t; have := h.s; have := h.gp; have hc := ho.c; have := ho.l
  have hm : (times + 1) * most = times * most + most := by rw [Int.add_mul, Int.one_mul]
  rcases h.q with ⟨q1, q2, q3, q4, q5, q6⟩ | ⟨q1, q2, q3, q4, q5, q6⟩
  · subst q1 q2 q3 q4 q5 q6
    rw [if_neg (by omega)]
    refine ⟨ho, only_trans h.gw hw, by omega, by omega, by omega, by omega, .inr ⟨by omega, by omega, by omega, by simp, .inl ⟨rfl, by omega, by omega⟩, by rw [hm]; omega⟩⟩
  · have hl1 : left = 1 := by omega
    subst hl1
    rw [if_pos (by omega)]
    have e : (1 : Int) + since = since + 1 := by omega
    rw [e] at q3 q4
    have hp := dbl_range most (since + 1) hc (by omega)
    refine ⟨ho, only_trans h.gw hw, by omega, by omega, by omega, by omega, .inr ⟨by omega, by omega, by omega, by simp, .inr ⟨by omega, by simpa using q4⟩, by rw [hm]; omega⟩⟩
set_option maxHeartbeats 3200000 in
set_option maxRecDepth 100000 in
theorem bounded_calls (g : Nat) (most n : Int) (w : World) (h : IsO w g most 0 1) (hn : 1 ≤ n ∧ n ≤ 100000) :
    Calls Try.prog 18 #[ptr g, .int .i64 most, .int .i64 n] w fun e w' => e = .returned (.bool true) ∧ w.grownBy w' (some g) ∧ ∃ left pg, IsO w' g most left pg := by
  have C0 := Lib.hid (wait_tells g most 0 1 w h)
  have hc := h.c
  have H := Lib.hid h
  clear h
  go_enter Try.func18, Try.ntmps18
  go_wp2_with fail
  refine C0.out.mono ?_; rintro e w' ⟨rfl, rfl⟩
  go_wp2_with fail
  go_loopw [7, 8, 9, 10] (fun vt vg vs vi wr => ∃ times gap since k left pg : Int, vt = .int .i64 times ∧ vg = .int .i64 gap ∧ vs = .int .i64 since ∧ vi = .int .i64 k ∧ J w wr g most n times gap since k left pg) (fun _ _ _ vi _ => (n - intOf vi).toNat)
  case atStart => exact ⟨0, 0, 0, 0, 0, 1, rfl, rfl, rfl, rfl, ⟨H.out, only_refl _ _, by omega, by omega, by omega, by omega, .inl ⟨rfl, rfl, rfl, rfl, rfl, rfl⟩⟩⟩
  case round =>
    obtain ⟨times, gap, since, k, left, pg, rfl, rfl, rfl, rfl, hj⟩ := hrel
    have HJ := Lib.hid hj
    have hk := hj.kk
    have ht := hj.t
    have hgp := hj.gp
    have hs := hj.s
    have hl := hj.o.l
    have hcc := hj.o.c
    have C15 := Lib.hid (wait_tells g most left pg wr hj.o)
    by_cases hlt : k < n
    · by_cases hl1 : left ≤ 1
      · have CT := Lib.hid (tick_yes g most left pg wr hj.o hl1)
        have dl : decide (left ≤ 1) = true := decide_eq_true hl1
        by_cases ht0 : 0 < times
        · have hq : since + 1 ≤ most ∧ ((gap = 0 ∧ since + 1 = 1) ∨ (1 ≤ gap ∧ since + 1 = dbl most gap)) := by
            rcases hj.q with q | ⟨q1, q2, q3, q4, q5, q6⟩
            · omega
            · have : left = 1 := by omega
              subst this
              rw [show (1 : Int) + since = since + 1 by omega] at q5
              rcases q5 with q5 | q5
              · exact ⟨by omega, .inl ⟨q5.1, q5.2.2⟩⟩
              · exact ⟨by omega, .inr q5⟩
          have hJ : Hid (∀ w', IsO w' g most pg (dbl most pg) → wr.grownBy w' (some g) → J w w' g most n (times + 1) (since + 1) 0 (k + 1) pg (dbl most pg)) := fun w' h1 h2 => by
            have := HJ.out.yes hlt hl1 h1 h2
            rwa [if_pos ht0] at this
          have dt : decide (0 < times) = true := decide_eq_true ht0
          have d1 : decide (since + 1 < gap) = false := by
            refine decide_eq_false ?_
            rcases hq.2 with q | ⟨q1, q2⟩
            · omega
            · unfold dbl at q2; split at q2 <;> omega
          have d2 : decide (most < since + 1) = false := decide_eq_false (by omega)
          rcases hq.2 with ⟨q1, q2⟩ | ⟨q1, q2⟩
          · subst q1
            have : since = 0 := by omega
            subst this
            clear hq q2
            clear hj
            go_wp2_with fail
            refine C15.out.mono ?_; rintro e w' ⟨rfl, rfl⟩
            go_wp2_with fail
            refine CT.out.mono ?_; rintro e w' ⟨rfl, hi, hw⟩
            have HI := Lib.hid hi
            have HWW := Lib.hid hw
            clear hi hw
            go_wp2_with fail
            go_roundw
            case rel => exact ⟨_, _, _, _, _, _, rfl, rfl, rfl, rfl, hJ.out _ HI.out HWW.out⟩
            case measure => simp [intOf]; omega
          · have d3 : decide (0 < gap) = true := decide_eq_true (by omega)
            have d4 : decide (2 * gap < since + 1) = false := by
              refine decide_eq_false ?_
              unfold dbl at q2; split at q2 <;> omega
            by_cases hm : since + 1 < most
            · have d5 : decide (since + 1 < most) = true := decide_eq_true hm
              have d6 : (since + 1 != 2 * gap) = false := by
                have : since + 1 = 2 * gap := by unfold dbl at q2; split at q2 <;> omega
                rw [this]; simp
              clear hq q2
              clear hj
              go_wp2_with fail
              refine C15.out.mono ?_; rintro e w' ⟨rfl, rfl⟩
              go_wp2_with fail
              refine CT.out.mono ?_; rintro e w' ⟨rfl, hi, hw⟩
              have HI := Lib.hid hi
              have HWW := Lib.hid hw
              clear hi hw
              go_wp2_with fail
              go_roundw
              case rel => exact ⟨_, _, _, _, _, _, rfl, rfl, rfl, rfl, hJ.out _ HI.out HWW.out⟩
              case measure => simp [intOf]; omega
            · have d5 : decide (since + 1 < most) = false := decide_eq_false hm
              clear hq q2
              clear hj
              go_wp2_with fail
              refine C15.out.mono ?_; rintro e w' ⟨rfl, rfl⟩
              go_wp2_with fail
              refine CT.out.mono ?_; rintro e w' ⟨rfl, hi, hw⟩
              have HI := Lib.hid hi
              have HWW := Lib.hid hw
              clear hi hw
              go_wp2_with fail
              go_roundw
              case rel => exact ⟨_, _, _, _, _, _, rfl, rfl, rfl, rfl, hJ.out _ HI.out HWW.out⟩
              case measure => simp [intOf]; omega
        · have dt : decide (0 < times) = false := decide_eq_false ht0
          have hq : times = 0 ∧ k = 0 ∧ gap = 0 ∧ since = 0 ∧ left = 0 ∧ pg = 1 := by
            rcases hj.q with q | q
            · exact q
            · omega
          have hJ : Hid (∀ w', IsO w' g most pg (dbl most pg) → wr.grownBy w' (some g) → J w w' g most n (times + 1) gap 0 (k + 1) pg (dbl most pg)) := fun w' h1 h2 => by
            have := HJ.out.yes hlt hl1 h1 h2
            rwa [if_neg ht0] at this
          clear hq
          clear hj
          go_wp2_with fail
          refine C15.out.mono ?_; rintro e w' ⟨rfl, rfl⟩
          go_wp2_with fail
          refine CT.out.mono ?_; rintro e w' ⟨rfl, hi, hw⟩
          have HI := Lib.hid hi
          have HWW := Lib.hid hw
          clear hi hw
          go_wp2_with fail
          go_roundw
          case rel => exact ⟨_, _, _, _, _, _, rfl, rfl, rfl, rfl, hJ.out _ HI.out HWW.out⟩
          case measure => simp [intOf]; omega
      · have hl2 : 1 < left := by omega
        have CT := Lib.hid (tick_no g most left pg wr hj.o hl2)
        have dl : decide (left ≤ 1) = false := decide_eq_false hl1
        have hq : 1 ≤ k ∧ since + 1 < most := by
          rcases hj.q with q | ⟨q1, q2, q3, q4, q5, q6⟩ <;> omega
        have di : (k == 0) = false := by rw [beq_eq_false_iff_ne]; omega
        have dm : decide (most ≤ since + 1) = false := decide_eq_false (by omega)
        have hJ : Hid (∀ w', IsO w' g most (left - 1) pg → wr.grownBy w' (some g) → J w w' g most n times gap (since + 1) (k + 1) (left - 1) pg) := fun w' h1 h2 => HJ.out.no hlt hl2 h1 h2
        clear hj
        go_wp2_with fail
        refine C15.out.mono ?_; rintro e w' ⟨rfl, rfl⟩
        go_wp2_with fail
        refine CT.out.mono ?_; rintro e w' ⟨rfl, hi, hw⟩
        have HI := Lib.hid hi
        have HWW := Lib.hid hw
        have C16 := Lib.hid (wait_tells g most (left - 1) pg w' hi)
        clear hi hw
        go_wp2_with fail
        refine C16.out.mono ?_; rintro e w' ⟨rfl, rfl⟩
        go_wp2_with fail
        go_roundw
        case rel => exact ⟨_, _, _, _, _, _, rfl, rfl, rfl, rfl, hJ.out _ HI.out HWW.out⟩
        case measure => simp [intOf]; omega
    · have hd : n = k := by omega
      subst hd
      have hdv : wrap64 (Int.tdiv n most) = n / most := by
        have h1 : Int.tdiv n most = n / most := Int.tdiv_eq_ediv_of_nonneg (by omega)
        have h2 : n / most ≤ n := Int.ediv_le_self _ (by omega)
        have h3 : 0 ≤ n / most := Int.ediv_nonneg (by omega) (by omega)
        rw [h1]; unfold wrap64; omega
      have hge : decide (n / most ≤ times) = true := by
        refine decide_eq_true ?_
        rcases hj.q with q | ⟨q1, q2, q3, q4, q5, q6⟩
        · omega
        · have : n < (times + 1) * most := by rw [Int.add_mul, Int.one_mul]; omega
          have := Int.ediv_lt_of_lt_mul (show 0 < most by omega) this
          omega
      have hne : most ≠ 0 := by omega
      clear hj
      go_wp2_with fail
      go_ret
      exact ⟨rfl, HJ.out.gw, _, _, HJ.out.o⟩
end Go.Proofs.Ytfmggmpllggbnaa.Pace
