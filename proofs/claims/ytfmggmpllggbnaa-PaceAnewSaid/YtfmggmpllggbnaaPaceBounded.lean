/- PaceBounded: the gaps and the number of times, behind the beginning and each Reset. -/
import Derived.Test.YtfmggmpllggbnaaPace3
import Derived.Test.YtfmggmpllggbnaaOpen
namespace Go.Proofs.Ytfmggmpllggbnaa.PaceBounded
open Go.RowKit Go.Proofs.Ytfmggmpllggbnaa.Pace Go.Proofs.YtfmggmpllggbnaaW.PrintWords Go.Proofs.Ytfmggmpllggbnaa.Opn
set_option linter.unusedVariables false
set_option linter.unusedSimpArgs false
abbrev I64 (a : Int) : Prop := -9223372036854775808 ≤ a ∧ a ≤ 9223372036854775807
theorem rd_mem (xs : List Int) (k : Nat) (h : k < xs.length) : rd xs (k : Int) ∈ xs := by
  have : rd xs (k : Int) = xs[k] := by unfold rd; simp [h]
  rw [this]; exact List.getElem_mem h
set_option maxHeartbeats 3200000 in
set_option maxRecDepth 100000 in
theorem walk (cap ticks : Int) (rs : List Int) (A : Option Addr) (c : Nat) (w : World)
    (hr : (Kd.int .i64).C w A rs.length rs) (hv : ∀ a, a ∈ rs → I64 a) (hcap : I64 cap) (hticks : I64 ticks) :
    Calls Try.prog 4 #[.agg #[.int .i64 cap, .slice A rs.length c, .int .i64 ticks]] w fun e w' => e = .returned (.bool true) ∧ Below w.heap.size w w' := by
  have hn := Kd.C_max hr
  have HR := Lib.hid hr
  have HV := Lib.hid hv
  have HCI := Lib.hid (into_calls cap 64 · hcap (by omega))
  have HTI := Lib.hid (into_calls ticks 2000 · hticks (by omega))
  have HB0 : Hid (Below w.heap.size w (w.alloc (.cells #[.int .i64 cap, .slice A rs.length c, .int .i64 ticks] 40))) := (Below.refl _ _).alloc (Nat.le_refl _) _
  have hbox0 : (w.alloc (.cells #[.int .i64 cap, .slice A rs.length c, .int .i64 ticks] 40)).cell? ⟨w.heap.size, 0, none⟩ = some (.int .i64 cap) := by go_simp
  have hbox1 : (w.alloc (.cells #[.int .i64 cap, .slice A rs.length c, .int .i64 ticks] 40)).cell? ⟨w.heap.size, 1, none⟩ = some (.slice A rs.length c) := by go_simp
  have hbox2 : (w.alloc (.cells #[.int .i64 cap, .slice A rs.length c, .int .i64 ticks] 40)).cell? ⟨w.heap.size, 2, none⟩ = some (.int .i64 ticks) := by go_simp
  obtain ⟨W0, hW0⟩ : ∃ W0, W0 = w.alloc (.cells #[.int .i64 cap, .slice A rs.length c, .int .i64 ticks] 40) := ⟨_, rfl⟩
  have hsz : W0.heap.size = w.heap.size + 1 := by rw [hW0]; simp
  rw [← hW0] at hbox0 hbox1 hbox2 HB0
  have HX1 := Lib.hid hbox1
  have HX2 := Lib.hid hbox2
  have HW0 := Lib.hid hW0
  have HSZ := Lib.hid hsz
  have box : ∀ (W : World) (j : Nat) (v : Value), Below W0.heap.size W0 W → W0.cell? ⟨w.heap.size, j, none⟩ = some v → W.cell? ⟨w.heap.size, j, none⟩ = some v := fun W j v hb h => (hb.cell (p := ⟨w.heap.size, j, none⟩) (by have := HSZ.out; simp; omega)).trans h
  have HBX := Lib.hid box
  obtain ⟨m0, hm0⟩ : ∃ m, m = cap % 64 := ⟨_, rfl⟩
  obtain ⟨t0, ht0⟩ : ∃ m, m = ticks % 2000 := ⟨_, rfl⟩
  have hm0r : 0 ≤ m0 ∧ m0 < 64 := by omega
  have ht0r : 0 ≤ t0 ∧ t0 < 2000 := by omega
  rw [← hm0] at HCI
  rw [← ht0] at HTI
  clear box hW0 hsz hbox1 hbox2 hr hv hcap hticks hm0 ht0
  have CN := Lib.hid (new_yes (1 + m0) · (by omega))
  go_enter Try.func4, Try.ntmps4
  go_wp2_with fail
  rw [← HW0.out]
  go_wp2_with fail
  refine (HCI.out _).mono ?_; rintro e w' ⟨rfl, rfl⟩
  go_wp2_with fail
  refine (CN.out _).mono ?_; rintro e w1 ⟨rfl, hi, hb⟩
  have HI := Lib.hid hi
  have HB := Lib.hid hb
  clear hi hb
  go_wp2_with fail
  go_loopw [6] (fun i wr => ∃ k : Nat, i = .int .i64 k ∧ k ≤ rs.length ∧ k ≤ 30 ∧ Below W0.heap.size W0 wr ∧ IsO wr W0.heap.size (1 + m0) 0 1) (fun i _ => 30 - (intOf i).toNat)
  case atStart => exact ⟨0, rfl, by omega, by omega, HB.out, HI.out⟩
  case round =>
    obtain ⟨k, rfl, hk, hk30, hbk, hok⟩ := hrel
    have HBK := Lib.hid hbk
    have HOK := Lib.hid hok
    clear hbk hok
    have hx1 := HBX.out _ _ _ HBK.out HX1.out
    have hx2 := HBX.out _ _ _ HBK.out HX2.out
    by_cases hgo : k < rs.length ∧ k < 30
    · obtain ⟨g1, g2⟩ := hgo
      obtain ⟨ad, rfl, hc⟩ := Kd.at_int (Kd.C_below (Kd.C_below HR.out HB0.out) HBK.out) k (by omega) (by omega)
      rw [Int.toNat_natCast] at hc
      have CI := Lib.hid (into_calls (rd rs k) 500 · (HV.out _ (rd_mem rs k g1)) (by omega))
      obtain ⟨m1, hm1⟩ : ∃ m, m = rd rs k % 500 := ⟨_, rfl⟩
      have hm1r : 0 ≤ m1 ∧ m1 < 500 := by omega
      rw [← hm1] at CI
      clear hm1
      have b1 : (k : Int) < (rs.length : Int) := by omega
      have CB := Lib.hid (bounded_calls W0.heap.size (1 + m0) (1 + m1) · · (by omega))
      go_wp2_with fail
      refine (CI.out _).mono ?_; rintro e w' ⟨rfl, rfl⟩
      go_wp2_with fail
      refine (CB.out _ HOK.out).mono ?_; rintro e w' ⟨rfl, hg1, left, pg, ho1⟩
      have CR := Lib.hid (reset_calls _ _ _ _ _ ho1)
      have HG1 := Lib.hid hg1
      clear hg1 ho1
      go_wp2_with fail
      refine CR.out.mono ?_; rintro e w2 ⟨rfl, ho2, hg2⟩
      have HG2 := Lib.hid hg2
      have HO2 := Lib.hid ho2
      clear hg2 ho2
      go_wp2_with fail
      go_roundw
      case rel => exact ⟨k + 1, by go_num, by omega, by omega, (HBK.out.grown HG1.out HBK.out.size (by rintro k ⟨⟩; exact Nat.le_refl _)).grown HG2.out (Nat.le_trans HBK.out.size HG1.out.size) (by rintro k ⟨⟩; exact Nat.le_refl _), HO2.out⟩
      case measure => simp [intOf]; omega
    · have CB := Lib.hid (bounded_calls W0.heap.size (1 + m0) (1 + t0) · · (by omega))
      have hcase : (¬ k < rs.length) ∨ (k < rs.length ∧ ¬ k < 30) := by omega
      clear hgo
      rcases hcase with g1 | ⟨g1, g2⟩
      all_goals
        go_wp2_with fail
        refine (HTI.out _).mono ?_; rintro e w' ⟨rfl, rfl⟩
        go_wp2_with fail
        refine (CB.out _ HOK.out).mono ?_; rintro e w' ⟨rfl, hg1, left, pg, ho1⟩
        have HG1 := Lib.hid hg1
        clear hg1 ho1
        go_wp2_with fail
        go_ret
        exact ⟨rfl, HB0.out.trans ((HBK.out.grown HG1.out HBK.out.size (by rintro k ⟨⟩; exact Nat.le_refl _)).mono (by have := HSZ.out; omega))⟩
theorem in64 {n : Int} (h : (Lit.int .i64 n).wf = true) : I64 n := by
  simpa [Lit.wf, IntKind.min, IntKind.max, IntKind.signed, IntKind.bits, I64] using h
abbrev KI := Kd.int .i64
abbrev V (n : Int) : Prop := (Lit.int .i64 n).wf = true
theorem opens_ints : Opens Try.prog 38 (Kd.slice 3 KI) (fun l => ∀ a, a ∈ l → V a) (fun l => sumB (fun _ => 1) l + 1) := opens_slice Try.underlying38 (by kernel_rfl) (opens_int Try.underlying3 (by kernel_rfl))
theorem opens_Run : Opens Try.prog 40 (Kd.pair KI (Kd.pair (Kd.slice 3 KI) KI)) (fun x => V x.1 ∧ (∀ a, a ∈ x.2.1 → V a) ∧ V x.2.2) (fun x => 1 + ((sumB (fun _ => 1) x.2.1 + 1) + 1) + 1) := by
  have ho := opens_struct (P := Try.prog) Try.underlying40 (by kernel_rfl) (opensF_cons (opens_int Try.underlying3 (by kernel_rfl)) (opensF_cons opens_ints (opensF_one (opens_int Try.underlying3 (by kernel_rfl))) rfl) rfl)
  exact ho
set_option maxRecDepth 20000 in
theorem contract {H : Type} {enc : TypeId × Value → H} (W : World) (base : Nat) (v0 : Value) (d0 : DataW H) (p0 : List MemPlace) (hok : Value.okWide Try.prog W .any base 40 v0)
    (h0 : DataW.Trod enc Try.prog W 0 (fun _ => true) true 40 v0 d0 p0) (hlt : ∀ x ∈ p0, x.block < W.heap.size) (hsz : (DataW.weightsEach Try.prog [40] [d0]).all (· ≤ reachBytes) = true) :
    Calls Try.prog 4 #[v0] W fun e W' => e = .returned (.bool true) ∧ Below W.heap.size W W' := by
  obtain ⟨⟨cap, rs, ticks⟩, cs, rfl, hK, hV, _⟩ := open_arg Try.underlying40 opens_Run hok h0
  obtain ⟨_, _, hcs, rfl, _, _, rfl, ⟨A1, c1, rfl, _, hC1⟩, rfl⟩ := hK
  obtain rfl : cs = #[.int .i64 cap, .slice A1 rs.length c1, .int .i64 ticks] := by cases cs; simp at hcs; rw [hcs]
  exact walk cap ticks rs A1 c1 W hC1 (fun a h => in64 (hV.2.1 a h)) (in64 hV.1) (in64 hV.2.2)
end Go.Proofs.Ytfmggmpllggbnaa.PaceBounded
