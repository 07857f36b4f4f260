-- PRINTED BY print.sh 35421559b90ae4d0a3588c463048766b98c2df88dd9212a6774a882060cdf62d: not written by this session
import Derived.Test.YtidofjmflpcglaaPApiLimitsx0
namespace Go.Proofs.Ytidofjmflpcglaa.PApiLimits
open Go.RowKit Go.Proofs.YtidofjmflpcglaaW.PrintWords Go.Proofs.YtidofjmflpcglaaW.PrintLast Go.Proofs.YtidofjmflpcglaaW.PrintMore
attribute [local go_sem] max2_int min2_int max_two min_two max_three min_three max_four min_four   -- for this text's walks alone
set_option linter.unusedVariables false
set_option linter.unusedSimpArgs false

/-! ### tilllaw0_same: function 14 -/
def tilllaw0_same.l0 : Nat → List (S27) → Int → Option (Bool)
  | 0, _, _ => none
  | k + 1, x0, x3 => if x3 < (x0.length : Int) then (if 0 ≤ x3 then (if ((rd_T27 x0 x3).f0) = ((rd_T27 x0 x3).f1) then (tilllaw0_same.l0 k x0 (wrap64 (x3 + 1))) else (some false)) else (none)) else (some true)
def tilllaw0_same.f (k : Nat) (l0 : List (S27)) : Option (Bool) := tilllaw0_same.l0 k l0 0
theorem tilllaw0_same.mono_l : ∀ k, (∀ y0 y1, LeO (tilllaw0_same.l0 k y0 y1) (tilllaw0_same.l0 (k + 1) y0 y1))
  | 0 => fun _ _ r h => by simp [tilllaw0_same.l0] at h
  | k + 1 => by
    have ih0 := tilllaw0_same.mono_l k
    · intro y0 y1
      unfold tilllaw0_same.l0
      repeat' first
      | (with_reducible exact ih0 _ _)
      | (with_reducible exact LeO.refl _)
      | (with_reducible exact LeO.none _)
      | (with_reducible refine LeO.ite ?_ ?_)
      | (with_reducible refine LeO.bind ?_ (fun _ => ?_))
      | exact ih0 _ _
      | exact LeO.none _
      | refine LeO.ite ?_ ?_
      | refine LeO.bind ?_ (fun _ => ?_)
theorem tilllaw0_same.mono : ∀ a0 k, LeO (tilllaw0_same.f k a0) (tilllaw0_same.f (k + 1) a0) := by
  intro a0 k
  have ih0 := tilllaw0_same.mono_l k
  unfold tilllaw0_same.f
  repeat' first
      | (with_reducible exact ih0 _ _)
      | (with_reducible exact LeO.refl _)
      | (with_reducible exact LeO.none _)
      | (with_reducible refine LeO.ite ?_ ?_)
      | (with_reducible refine LeO.bind ?_ (fun _ => ?_))
      | exact ih0 _ _
      | exact LeO.none _
      | refine LeO.ite ?_ ?_
      | refine LeO.bind ?_ (fun _ => ?_)
set_option maxHeartbeats 8000000 in
set_option maxRecDepth 100000 in
theorem tilllaw0_same.calls (k : Nat) (A0 : Option Addr) (c0 : Nat) (l0 : List (S27)) (r : Bool) (w : World) (hr0 : Kd.C k27 w A0 l0.length l0) (hc0 : l0.length ≤ c0) (h : tilllaw0_same.f k l0 = some r) :
    Calls Try.prog 14 #[.slice A0 l0.length c0] w fun e w' => e = .returned (.bool r) ∧ Drawn0 w w' := by
  have HR0 := Aside0.mk hr0
  have HC0 := Aside0.mk hc0
  clear hr0 hc0
  have H : (tilllaw0_same.l0 k l0 0) = some r := h
  clear h
  have H' := Aside0.mk H
  clear H
  go_enter Try.func14, Try.ntmps14
  go_wp2
  repeat (go_quiet (fail); try go_wp2)
  go_loopg [3] k (fun kq v3 w' => ∃ (x3_1 : Int), v3 = .int .i64 x3_1 ∧ Aside0 (tilllaw0_same.l0 kq l0 x3_1 = some r) ∧ Aside0 (kq ≤ k) ∧ Drawn0 w w')
  case atStart => exact ⟨(0), (by first | rfl | (simp; done) | (simp [*]; done)), H', ⟨Nat.le_refl _⟩, by repeat (first | exact Drawn0.refl _ | apply Drawn0.step)⟩
  case round =>
    clear H'
    try clear c1
    obtain ⟨x3_1, rfl, HA, HK1, ⟨m1, rfl⟩⟩ := hrel
    cases gk with
    | zero => exact absurd HA.out (by simp [tilllaw0_same.l0])
    | succ k1 =>
      have H := HA.out
      clear HA
      simp only [tilllaw0_same.l0] at H
      by_cases c2 : x3_1 < (l0.length : Int)
      · rw [if_pos c2] at H
        have c2b0 : decide (x3_1 < (l0.length : Int)) = true := decide_eq_true c2
        clear c2
        by_cases c3 : 0 ≤ x3_1
        · rw [if_pos c3] at H
          have c3b0 : decide (0 ≤ x3_1) = true := decide_eq_true c3
          clear c3
          by_cases c4 : ((rd_T27 l0 x3_1).f0) = ((rd_T27 l0 x3_1).f1)
          · rw [if_pos c4] at H
            have c4b0 : (((rd_T27 l0 x3_1).f0) == ((rd_T27 l0 x3_1).f1)) = true := beq_iff_eq.mpr c4
            have c4b1 : (((rd_T27 l0 x3_1).f0) != ((rd_T27 l0 x3_1).f1)) = false := bne_eq_false_iff_eq.mpr c4
            clear c4
            have H' := Aside0.mk H
            clear H
            have p101 : 0 ≤ (x3_1 : Int) := of_decide_eq_true (by first | (with_reducible assumption) | assumption)
            have q101 : x3_1 < (l0.length : Int) := of_decide_eq_true (by first | (with_reducible assumption) | assumption)
            obtain ⟨ad101, e101, hx101_0, hx101_1⟩ := at_T27 HR0.out x3_1 p101 q101
            cases e101
            replace p101 := eq_true p101
            replace q101 := eq_true q101
            have p102 : 0 ≤ (x3_1 : Int) := of_decide_eq_true (by first | (with_reducible assumption) | assumption)
            have q102 : x3_1 < (l0.length : Int) := of_decide_eq_true (by first | (with_reducible assumption) | assumption)
            obtain ⟨ad102, e102, hx102_0, hx102_1⟩ := at_T27 HR0.out x3_1 p102 q102
            obtain rfl : ad101 = ad102 := (by injection e102)
            replace p102 := eq_true p102
            replace q102 := eq_true q102
            go_wp2
            repeat (go_quiet (fail); try go_wp2)
            go_roundg k1
            case measure => have := HK1.out; omega
            case rel => exact ⟨(wrap64 (x3_1 + 1)), (by first | rfl | (simp; done) | (simp [*]; done)), H', ⟨by have := HK1.out; omega⟩, by repeat (first | exact Drawn0.refl _ | apply Drawn0.step)⟩
          · rw [if_neg c4] at H
            have c4b0 : (((rd_T27 l0 x3_1).f0) == ((rd_T27 l0 x3_1).f1)) = false := beq_eq_false_iff_ne.mpr c4
            have c4b1 : (((rd_T27 l0 x3_1).f0) != ((rd_T27 l0 x3_1).f1)) = true := bne_iff_ne.mpr c4
            obtain rfl := Option.some.inj H
            have p101 : 0 ≤ (x3_1 : Int) := of_decide_eq_true (by first | (with_reducible assumption) | assumption)
            have q101 : x3_1 < (l0.length : Int) := of_decide_eq_true (by first | (with_reducible assumption) | assumption)
            obtain ⟨ad101, e101, hx101_0, hx101_1⟩ := at_T27 HR0.out x3_1 p101 q101
            cases e101
            replace p101 := eq_true p101
            replace q101 := eq_true q101
            have p102 : 0 ≤ (x3_1 : Int) := of_decide_eq_true (by first | (with_reducible assumption) | assumption)
            have q102 : x3_1 < (l0.length : Int) := of_decide_eq_true (by first | (with_reducible assumption) | assumption)
            obtain ⟨ad102, e102, hx102_0, hx102_1⟩ := at_T27 HR0.out x3_1 p102 q102
            obtain rfl : ad101 = ad102 := (by injection e102)
            replace p102 := eq_true p102
            replace q102 := eq_true q102
            go_wp2
            repeat (go_quiet (fail); try go_wp2)
            go_ret
            exact ⟨by first | rfl | (simp; done) | (simp [*]; done), by repeat (first | exact Drawn0.refl _ | apply Drawn0.step)⟩
        · rw [if_neg c3] at H
          exact absurd H (by simp)
      · rw [if_neg c2] at H
        have c2b0 : decide (x3_1 < (l0.length : Int)) = false := decide_eq_false c2
        clear c2
        obtain rfl := Option.some.inj H
        go_wp2
        repeat (go_quiet (fail); try go_wp2)
        go_ret
        exact ⟨by first | rfl | (simp; done) | (simp [*]; done), by repeat (first | exact Drawn0.refl _ | apply Drawn0.step)⟩

/-! ### tilllaw0_ApiLimits: function 4 -/
def tilllaw0_ApiLimits.f (k : Nat)  : Option (Bool) := (tilllaw0_same.f k (([(⟨8, 8⟩ : S27), (⟨64, 64⟩ : S27), (⟨64, 64⟩ : S27), (⟨8, 8⟩ : S27), (⟨4, 4⟩ : S27), (⟨4, 4⟩ : S27), (⟨1099511627776, 1099511627776⟩ : S27), (⟨9007199254740992, 9007199254740992⟩ : S27), (⟨18014398509481984, 18014398509481984⟩ : S27), (⟨64, 64⟩ : S27), (⟨2048, 2048⟩ : S27), (⟨1099511627776, 1099511627776⟩ : S27), (⟨1024, 1024⟩ : S27), (⟨16, 16⟩ : S27), (⟨64, 64⟩ : S27), (⟨8192, 8192⟩ : S27), (⟨2048, 2048⟩ : S27), (⟨2112, 2112⟩ : S27), (⟨64, 64⟩ : S27), (⟨1024, 1024⟩ : S27), (⟨16777216, 16777216⟩ : S27), (⟨64, 64⟩ : S27), (⟨4096, 4096⟩ : S27), (⟨4194304, 4194304⟩ : S27), (⟨256, 256⟩ : S27), (⟨8388608, 8388608⟩ : S27)] : List (S27)))).bind fun t106 => (some t106)
theorem tilllaw0_ApiLimits.mono : ∀ k, LeO (tilllaw0_ApiLimits.f k ) (tilllaw0_ApiLimits.f (k + 1) ) := by
  intro  k
  unfold tilllaw0_ApiLimits.f
  repeat' first
      | (with_reducible exact tilllaw0_same.mono _ _)
      | (with_reducible exact LeO.refl _)
      | (with_reducible exact LeO.none _)
      | (with_reducible refine LeO.ite ?_ ?_)
      | (with_reducible refine LeO.bind ?_ (fun _ => ?_))
      | exact tilllaw0_same.mono _ _
      | exact LeO.none _
      | refine LeO.ite ?_ ?_
      | refine LeO.bind ?_ (fun _ => ?_)
set_option maxHeartbeats 8000000 in
set_option maxRecDepth 100000 in
theorem tilllaw0_ApiLimits.calls (k : Nat)  (r : Bool) (w : World) (h : tilllaw0_ApiLimits.f k  = some r) :
    Calls Try.prog 4 #[] w fun e w' => e = .returned (.bool r) ∧ Below w.heap.size w w' := by
  have hu27 := Try.underlying27
  have HB := Aside0.mk (Below.refl w.heap.size w)
  have H : ((tilllaw0_same.f k (([(⟨8, 8⟩ : S27), (⟨64, 64⟩ : S27), (⟨64, 64⟩ : S27), (⟨8, 8⟩ : S27), (⟨4, 4⟩ : S27), (⟨4, 4⟩ : S27), (⟨1099511627776, 1099511627776⟩ : S27), (⟨9007199254740992, 9007199254740992⟩ : S27), (⟨18014398509481984, 18014398509481984⟩ : S27), (⟨64, 64⟩ : S27), (⟨2048, 2048⟩ : S27), (⟨1099511627776, 1099511627776⟩ : S27), (⟨1024, 1024⟩ : S27), (⟨16, 16⟩ : S27), (⟨64, 64⟩ : S27), (⟨8192, 8192⟩ : S27), (⟨2048, 2048⟩ : S27), (⟨2112, 2112⟩ : S27), (⟨64, 64⟩ : S27), (⟨1024, 1024⟩ : S27), (⟨16777216, 16777216⟩ : S27), (⟨64, 64⟩ : S27), (⟨4096, 4096⟩ : S27), (⟨4194304, 4194304⟩ : S27), (⟨256, 256⟩ : S27), (⟨8388608, 8388608⟩ : S27)] : List (S27)))).bind fun t106 => (some t106)) = some r := h
  clear h
  obtain ⟨y103, hy103⟩ : ∃ y_ : List (S27), y_ = (([(⟨8, 8⟩ : S27), (⟨64, 64⟩ : S27), (⟨64, 64⟩ : S27), (⟨8, 8⟩ : S27), (⟨4, 4⟩ : S27), (⟨4, 4⟩ : S27), (⟨1099511627776, 1099511627776⟩ : S27), (⟨9007199254740992, 9007199254740992⟩ : S27), (⟨18014398509481984, 18014398509481984⟩ : S27), (⟨64, 64⟩ : S27), (⟨2048, 2048⟩ : S27), (⟨1099511627776, 1099511627776⟩ : S27), (⟨1024, 1024⟩ : S27), (⟨16, 16⟩ : S27), (⟨64, 64⟩ : S27), (⟨8192, 8192⟩ : S27), (⟨2048, 2048⟩ : S27), (⟨2112, 2112⟩ : S27), (⟨64, 64⟩ : S27), (⟨1024, 1024⟩ : S27), (⟨16777216, 16777216⟩ : S27), (⟨64, 64⟩ : S27), (⟨4096, 4096⟩ : S27), (⟨4194304, 4194304⟩ : S27), (⟨256, 256⟩ : S27), (⟨8388608, 8388608⟩ : S27)] : List (S27))) := ⟨_, rfl⟩
  replace H : ((tilllaw0_same.f k y103).bind fun t106 => (some t106)) = some r := by first | (rw [hy103]; with_reducible exact H) | (have H2_ := (Option.bind_some _ _).symm.trans H; rw [hy103]; with_reducible exact H2_) | (have H2_ := (Option.bind_some _ _).symm.trans H; with_reducible exact H2_) | with_reducible exact H | (rw [hy103]; exact H) | exact H
  have Ny103 := Aside0.mk hy103
  clear hy103
  replace H := Option.bind_eq_some_iff.mp H
  obtain ⟨t106, A10, H⟩ := H
  replace H : (some t106) = some r := H
  have A1 := Aside0.mk A10
  clear A10
  obtain rfl := Option.some.inj H
  go_enter Try.func4, Try.ntmps4
  go_wp2_with (first | ((with_reducible refine gate_dst (N := 27) rfl ?_); refine Kd.R_lit k27 _ 27 ?hg (N := 27) ?hd (xs := ([(⟨8, 8⟩ : S27), (⟨64, 64⟩ : S27), (⟨64, 64⟩ : S27), (⟨8, 8⟩ : S27), (⟨4, 4⟩ : S27), (⟨4, 4⟩ : S27), (⟨1099511627776, 1099511627776⟩ : S27), (⟨9007199254740992, 9007199254740992⟩ : S27), (⟨18014398509481984, 18014398509481984⟩ : S27), (⟨64, 64⟩ : S27), (⟨2048, 2048⟩ : S27), (⟨1099511627776, 1099511627776⟩ : S27), (⟨1024, 1024⟩ : S27), (⟨16, 16⟩ : S27), (⟨64, 64⟩ : S27), (⟨8192, 8192⟩ : S27), (⟨2048, 2048⟩ : S27), (⟨2112, 2112⟩ : S27), (⟨64, 64⟩ : S27), (⟨1024, 1024⟩ : S27), (⟨16777216, 16777216⟩ : S27), (⟨64, 64⟩ : S27), (⟨4096, 4096⟩ : S27), (⟨4194304, 4194304⟩ : S27), (⟨256, 256⟩ : S27), (⟨8388608, 8388608⟩ : S27)] : List (S27))) (inner := [.int .i64 8, .int .i64 8, .int .i64 64, .int .i64 64, .int .i64 64, .int .i64 64, .int .i64 8, .int .i64 8, .int .i64 4, .int .i64 4, .int .i64 4, .int .i64 4, .int .i64 1099511627776, .int .i64 1099511627776, .int .i64 9007199254740992, .int .i64 9007199254740992, .int .i64 18014398509481984, .int .i64 18014398509481984, .int .i64 64, .int .i64 64, .int .i64 2048, .int .i64 2048, .int .i64 1099511627776, .int .i64 1099511627776, .int .i64 1024, .int .i64 1024, .int .i64 16, .int .i64 16, .int .i64 64, .int .i64 64, .int .i64 8192, .int .i64 8192, .int .i64 2048, .int .i64 2048, .int .i64 2112, .int .i64 2112, .int .i64 64, .int .i64 64, .int .i64 1024, .int .i64 1024, .int .i64 16777216, .int .i64 16777216, .int .i64 64, .int .i64 64, .int .i64 4096, .int .i64 4096, .int .i64 4194304, .int .i64 4194304, .int .i64 256, .int .i64 256, .int .i64 8388608, .int .i64 8388608]) (ok := fun _ => True) (okp := fun _ => True) ?hr ?hp (fun _ hk => hk) trivial (Below.refl _ _) (Nat.le_refl _) (by simp) ?_; (case hd => rfl); (case hg => rfl); (case hr => first | (go_simp; done) | (go_simp; rfl)); (case hp => exact (Reps.c2 (show Kd.M k27 _ _ _ (⟨8, 8⟩ : S27) [.int .i64 8, .int .i64 8] from (k27_mkM _ _ _ (⟨8, 8⟩ : S27) )) (Reps.c2 (show Kd.M k27 _ _ _ (⟨64, 64⟩ : S27) [.int .i64 64, .int .i64 64] from (k27_mkM _ _ _ (⟨64, 64⟩ : S27) )) (Reps.c2 (show Kd.M k27 _ _ _ (⟨64, 64⟩ : S27) [.int .i64 64, .int .i64 64] from (k27_mkM _ _ _ (⟨64, 64⟩ : S27) )) (Reps.c2 (show Kd.M k27 _ _ _ (⟨8, 8⟩ : S27) [.int .i64 8, .int .i64 8] from (k27_mkM _ _ _ (⟨8, 8⟩ : S27) )) (Reps.c2 (show Kd.M k27 _ _ _ (⟨4, 4⟩ : S27) [.int .i64 4, .int .i64 4] from (k27_mkM _ _ _ (⟨4, 4⟩ : S27) )) (Reps.c2 (show Kd.M k27 _ _ _ (⟨4, 4⟩ : S27) [.int .i64 4, .int .i64 4] from (k27_mkM _ _ _ (⟨4, 4⟩ : S27) )) (Reps.c2 (show Kd.M k27 _ _ _ (⟨1099511627776, 1099511627776⟩ : S27) [.int .i64 1099511627776, .int .i64 1099511627776] from (k27_mkM _ _ _ (⟨1099511627776, 1099511627776⟩ : S27) )) (Reps.c2 (show Kd.M k27 _ _ _ (⟨9007199254740992, 9007199254740992⟩ : S27) [.int .i64 9007199254740992, .int .i64 9007199254740992] from (k27_mkM _ _ _ (⟨9007199254740992, 9007199254740992⟩ : S27) )) (Reps.c2 (show Kd.M k27 _ _ _ (⟨18014398509481984, 18014398509481984⟩ : S27) [.int .i64 18014398509481984, .int .i64 18014398509481984] from (k27_mkM _ _ _ (⟨18014398509481984, 18014398509481984⟩ : S27) )) (Reps.c2 (show Kd.M k27 _ _ _ (⟨64, 64⟩ : S27) [.int .i64 64, .int .i64 64] from (k27_mkM _ _ _ (⟨64, 64⟩ : S27) )) (Reps.c2 (show Kd.M k27 _ _ _ (⟨2048, 2048⟩ : S27) [.int .i64 2048, .int .i64 2048] from (k27_mkM _ _ _ (⟨2048, 2048⟩ : S27) )) (Reps.c2 (show Kd.M k27 _ _ _ (⟨1099511627776, 1099511627776⟩ : S27) [.int .i64 1099511627776, .int .i64 1099511627776] from (k27_mkM _ _ _ (⟨1099511627776, 1099511627776⟩ : S27) )) (Reps.c2 (show Kd.M k27 _ _ _ (⟨1024, 1024⟩ : S27) [.int .i64 1024, .int .i64 1024] from (k27_mkM _ _ _ (⟨1024, 1024⟩ : S27) )) (Reps.c2 (show Kd.M k27 _ _ _ (⟨16, 16⟩ : S27) [.int .i64 16, .int .i64 16] from (k27_mkM _ _ _ (⟨16, 16⟩ : S27) )) (Reps.c2 (show Kd.M k27 _ _ _ (⟨64, 64⟩ : S27) [.int .i64 64, .int .i64 64] from (k27_mkM _ _ _ (⟨64, 64⟩ : S27) )) (Reps.c2 (show Kd.M k27 _ _ _ (⟨8192, 8192⟩ : S27) [.int .i64 8192, .int .i64 8192] from (k27_mkM _ _ _ (⟨8192, 8192⟩ : S27) )) (Reps.c2 (show Kd.M k27 _ _ _ (⟨2048, 2048⟩ : S27) [.int .i64 2048, .int .i64 2048] from (k27_mkM _ _ _ (⟨2048, 2048⟩ : S27) )) (Reps.c2 (show Kd.M k27 _ _ _ (⟨2112, 2112⟩ : S27) [.int .i64 2112, .int .i64 2112] from (k27_mkM _ _ _ (⟨2112, 2112⟩ : S27) )) (Reps.c2 (show Kd.M k27 _ _ _ (⟨64, 64⟩ : S27) [.int .i64 64, .int .i64 64] from (k27_mkM _ _ _ (⟨64, 64⟩ : S27) )) (Reps.c2 (show Kd.M k27 _ _ _ (⟨1024, 1024⟩ : S27) [.int .i64 1024, .int .i64 1024] from (k27_mkM _ _ _ (⟨1024, 1024⟩ : S27) )) (Reps.c2 (show Kd.M k27 _ _ _ (⟨16777216, 16777216⟩ : S27) [.int .i64 16777216, .int .i64 16777216] from (k27_mkM _ _ _ (⟨16777216, 16777216⟩ : S27) )) (Reps.c2 (show Kd.M k27 _ _ _ (⟨64, 64⟩ : S27) [.int .i64 64, .int .i64 64] from (k27_mkM _ _ _ (⟨64, 64⟩ : S27) )) (Reps.c2 (show Kd.M k27 _ _ _ (⟨4096, 4096⟩ : S27) [.int .i64 4096, .int .i64 4096] from (k27_mkM _ _ _ (⟨4096, 4096⟩ : S27) )) (Reps.c2 (show Kd.M k27 _ _ _ (⟨4194304, 4194304⟩ : S27) [.int .i64 4194304, .int .i64 4194304] from (k27_mkM _ _ _ (⟨4194304, 4194304⟩ : S27) )) (Reps.c2 (show Kd.M k27 _ _ _ (⟨256, 256⟩ : S27) [.int .i64 256, .int .i64 256] from (k27_mkM _ _ _ (⟨256, 256⟩ : S27) )) (Reps.c2 (show Kd.M k27 _ _ _ (⟨8388608, 8388608⟩ : S27) [.int .i64 8388608, .int .i64 8388608] from (k27_mkM _ _ _ (⟨8388608, 8388608⟩ : S27) )) (Reps.none _ _)))))))))))))))))))))))))))); intro v104 w2 ho3 hb hg_ hnew_; clear hg_ hnew_; (first | rw [← Ny103.out] at ho3 | (simp only [Int.reduceToNat] at ho3; rw [← Ny103.out] at ho3)); have n0_ := Aside0.mk (Kd.R_lower ho3 (below_size (by repeat (first | (with_reducible first | exact HB.out | apply below_alloc | apply pw_below_drewN | apply below_drew1) | exact HB.out)))); have n1_ := Aside0.mk (below_step (by repeat (first | (with_reducible first | exact HB.out | apply below_alloc | apply pw_below_drewN | apply below_drew1) | exact HB.out)) hb); clear HB; have HO105 := n0_; have HB := n1_; clear n0_ n1_; clear hb ho3; obtain ⟨Ao4, co4, eo4⟩ := Kd.R_slice HO105.out; subst eo4) | ((with_reducible refine gate_callee (f := 14) rfl ?_); refine goesL_ (some 28) rfl rfl Try.func14 (by kernel_rfl) rfl #[.slice Ao4 y103.length co4] rfl (by (try simp only [List.map_toArray, List.map_cons, List.map_nil]); first | done | rfl | (simp only [List.length_drop, List.length_take]; rfl)) ?_; (with_reducible refine (tilllaw0_same.calls k _ _ y103 t106 _ ?side1 ?side2 A1.out).mono ?_); (case side1 => repeat (first | exact (Kd.R_reads' HO105.out).2.2 | (with_reducible refine Kd.C_alloc ?_ _) | (with_reducible refine Kd.C_drewN ?_ _) | (with_reducible refine Kd.C_drew ?_))); (case side2 => exact (Kd.R_reads' HO105.out).2.1); rintro e w' ⟨rfl, ⟨nd, rfl⟩⟩; refine ⟨_, rfl, ?_⟩))
  go_ret
  exact ⟨by first | rfl | (simp [errW_none, errW_some] <;> rfl) | (simp [*, errW_none, errW_some] <;> rfl), by repeat (first | (with_reducible first | exact HB.out | apply below_alloc | apply pw_below_drewN | apply below_drew1) | exact HB.out)⟩

/-- THE ONE PURE STATEMENT of tilllaw0_ApiLimits: yours. -/
def tilllaw0_ApiLimits.Pure : Prop := ∃ k, tilllaw0_ApiLimits.f k  = some true
theorem tilllaw0_ApiLimits.walk (P : tilllaw0_ApiLimits.Pure)  (w : World)  :
    Calls Try.prog 4 #[] w fun e w' => e = .returned (.bool true) ∧ Below w.heap.size w w' := by
  obtain ⟨k, h⟩ := P  
  refine (tilllaw0_ApiLimits.calls k  true w h).mono ?_
  rintro e w' ⟨rfl, hd⟩
  exact ⟨rfl, hd⟩

end Go.Proofs.Ytidofjmflpcglaa.PApiLimits
