/- PaceAnew: behind a Reset a pace answers as a new one. -/
import Derived.Test.YtfmggmpllggbnaaPaceBounded
namespace Go.Proofs.Ytfmggmpllggbnaa.PaceAnew
open Go.RowKit Go.Proofs.Ytfmggmpllggbnaa.PaceBounded Go.Proofs.Ytfmggmpllggbnaa.Pace Go.Proofs.YtfmggmpllggbnaaW.PrintWords Go.Proofs.Ytfmggmpllggbnaa.Opn
set_option linter.unusedVariables false
set_option linter.unusedSimpArgs false
theorem below_only {B g : Nat} {a w w' : World} (h : Below B a w) (hg : w.grownBy w' (some g)) (hB : B ≤ w.heap.size) (hr : B ≤ g) : Below B a w' := h.grown hg hB (by rintro k ⟨⟩; exact hr)
theorem isO_only {g g' : Nat} {cap left gap : Int} {w w' : World} (h : IsO w g cap left gap) (hg : w.grownBy w' (some g')) (hne : g ≠ g') : IsO w' g cap left gap :=
  ⟨(hg.block g h.p.lt (by rintro ⟨⟩; exact hne rfl)).trans h.p, h.c, h.g, h.l⟩
theorem isO_below {B g : Nat} {cap left gap : Int} {w w' : World} (h : IsO w g cap left gap) (hb : Below B w w') (hg : g < B) : IsO w' g cap left gap :=
  ⟨(hb.block g hg).trans h.p, h.c, h.g, h.l⟩
/-- A tick, whatever it answers. -/
def told (left : Int) : Bool := decide (left ≤ 1)
def leftA (left pg : Int) : Int := if left ≤ 1 then pg else left - 1
def gapA (cap left pg : Int) : Int := if left ≤ 1 then dbl cap pg else pg
theorem tick_calls (g : Nat) (cap left gap : Int) (w : World) (h : IsO w g cap left gap) :
    Calls Try.prog 11 #[ptr g] w fun e w' => e = .returned (.bool (told left)) ∧ IsO w' g cap (leftA left gap) (gapA cap left gap) ∧ w.grownBy w' (some g) := by
  unfold told leftA gapA
  by_cases hl : left ≤ 1
  · rw [if_pos hl, if_pos hl, decide_eq_true hl]; exact tick_yes g cap left gap w h hl
  · rw [if_neg hl, if_neg hl, decide_eq_false hl]; exact tick_no g cap left gap w h (by omega)
set_option maxHeartbeats 3200000 in
set_option maxRecDepth 100000 in
theorem walk (cap ticks : Int) (rs : List Int) (A : Option Addr) (c : Nat) (w : World)
    (hr : (Kd.int .i64).C w A rs.length rs) (hv : ∀ a, a ∈ rs → I64 a) (hcap : I64 cap) (hticks : I64 ticks) :
    Calls Try.prog 5 #[.agg #[.int .i64 cap, .slice A rs.length c, .int .i64 ticks]] w fun e w' => e = .returned (.bool true) ∧ Below w.heap.size w w' := by
  have hn := Kd.C_max hr
  have HR := Lib.hid hr
  have HV := Lib.hid hv
  have HCI := Lib.hid (into_calls cap 64 · hcap (by omega))
  have HTI := Lib.hid (into_calls ticks 300 · hticks (by omega))
  have HB0 : Hid (Below w.heap.size w (w.alloc (.cells #[.int .i64 cap, .slice A rs.length c, .int .i64 ticks] 40))) := (Below.refl _ _).alloc (Nat.le_refl _) _
  have hbox0 : (w.alloc (.cells #[.int .i64 cap, .slice A rs.length c, .int .i64 ticks] 40)).cell? ⟨w.heap.size, 0, none⟩ = some (.int .i64 cap) := by go_simp
  have hbox1 : (w.alloc (.cells #[.int .i64 cap, .slice A rs.length c, .int .i64 ticks] 40)).cell? ⟨w.heap.size, 1, none⟩ = some (.slice A rs.length c) := by go_simp
  have hbox2 : (w.alloc (.cells #[.int .i64 cap, .slice A rs.length c, .int .i64 ticks] 40)).cell? ⟨w.heap.size, 2, none⟩ = some (.int .i64 ticks) := by go_simp
  obtain ⟨W0, hW0⟩ : ∃ W0, W0 = w.alloc (.cells #[.int .i64 cap, .slice A rs.length c, .int .i64 ticks] 40) := ⟨_, rfl⟩
  have hsz : W0.heap.size = w.heap.size + 1 := by rw [hW0]; simp
  rw [← hW0] at hbox0 hbox1 hbox2 HB0
  have HX1 := Lib.hid hbox1
  have HX2 := Lib.hid hbox2
  have HW0 := Lib.hid hW0
  have HSZ := Lib.hid hsz
  have box : ∀ (W : World) (j : Nat) (v : Value), Below W0.heap.size W0 W → W0.cell? ⟨w.heap.size, j, none⟩ = some v → W.cell? ⟨w.heap.size, j, none⟩ = some v := fun W j v hb h => (hb.cell (p := ⟨w.heap.size, j, none⟩) (by have := HSZ.out; simp; omega)).trans h
  have HBX := Lib.hid box
  obtain ⟨m0, hm0⟩ : ∃ m, m = cap % 64 := ⟨_, rfl⟩
  obtain ⟨t0, ht0⟩ : ∃ m, m = ticks % 300 := ⟨_, rfl⟩
  have hm0r : 0 ≤ m0 ∧ m0 < 64 := by omega
  have ht0r : 0 ≤ t0 ∧ t0 < 300 := by omega
  rw [← hm0] at HCI
  rw [← ht0] at HTI
  clear box hW0 hsz hbox1 hbox2 hr hv hcap hticks hm0 ht0
  have CN := Lib.hid (new_yes (1 + m0) · (by omega))
  go_enter Try.func5, Try.ntmps5
  go_wp2_with fail
  rw [← HW0.out]
  go_wp2_with fail
  refine (HCI.out _).mono ?_; rintro e w' ⟨rfl, rfl⟩
  go_wp2_with fail
  refine (CN.out _).mono ?_; rintro e w1 ⟨rfl, hi, hb⟩
  have HI := Lib.hid hi
  have HB := Lib.hid hb
  clear hi hb
  go_wp2_with fail
  go_loopw [6] (fun i wr => ∃ (k : Nat) (left pg : Int), i = .int .i64 k ∧ k ≤ rs.length ∧ k ≤ 30 ∧ Below W0.heap.size W0 wr ∧ IsO wr W0.heap.size (1 + m0) left pg) (fun i _ => 30 - (intOf i).toNat)
  case atStart => exact ⟨0, 0, 1, rfl, by omega, by omega, HB.out, HI.out⟩
  case round =>
    obtain ⟨k, left, pg, rfl, hk, hk30, hbk, hok⟩ := hrel
    have HBK := Lib.hid hbk
    have HOK := Lib.hid hok
    clear hbk hok
    have hx1 := HBX.out _ _ _ HBK.out HX1.out
    have hx2 := HBX.out _ _ _ HBK.out HX2.out
    by_cases hgo : k < rs.length ∧ k < 30
    · obtain ⟨g1, g2⟩ := hgo
      obtain ⟨ad, rfl, hc⟩ := Kd.at_int (Kd.C_below (Kd.C_below HR.out HB0.out) HBK.out) k (by omega) (by omega)
      rw [Int.toNat_natCast] at hc
      have CI := Lib.hid (into_calls (rd rs k) 300 · (HV.out _ (rd_mem rs k g1)) (by omega))
      obtain ⟨m1, hm1⟩ : ∃ m, m = rd rs k % 300 := ⟨_, rfl⟩
      have hm1r : 0 ≤ m1 ∧ m1 < 300 := by omega
      rw [← hm1] at CI
      clear hm1
      have b1 : (k : Int) < (rs.length : Int) := by omega
      obtain ⟨wo, rfl⟩ : ∃ wo : World, wo = wr := ⟨_, rfl⟩
      go_wp2_with fail
      refine (CI.out _).mono ?_; rintro e w' ⟨rfl, rfl⟩
      go_wp2_with fail
      go_loopw [7] (fun i wr => ∃ (q left pg : Int), i = .int .i64 q ∧ 0 ≤ q ∧ q < 300 ∧ Below W0.heap.size W0 wr ∧ IsO wr W0.heap.size (1 + m0) left pg) (fun i _ => (intOf i).toNat)
      case atStart => exact ⟨m1, left, pg, rfl, hm1r.1, hm1r.2, HBK.out, HOK.out⟩
      case round =>
        obtain ⟨q, left2, pg2, rfl, q0, q1, hbq, hoq⟩ := hrel
        have HBQ := Lib.hid hbq
        have HOQ := Lib.hid hoq
        have CT := Lib.hid (tick_calls _ _ _ _ _ hoq)
        have hx2 := HBX.out _ _ _ HBQ.out HX2.out
        clear hbq hoq
        by_cases hq : 0 < q
        · go_wp2_with fail
          refine CT.out.mono ?_; rintro e w2 ⟨rfl, ho, hg⟩
          have HO := Lib.hid ho
          have HG := Lib.hid hg
          clear ho hg
          go_wp2_with fail
          go_roundw
          case rel => exact ⟨q - 1, _, _, by go_num, by omega, by omega, below_only HBQ.out HG.out HBQ.out.size (Nat.le_refl _), HO.out⟩
          case measure => simp [intOf]; omega
        · have CR := Lib.hid (reset_calls _ _ _ _ _ HOQ.out)
          go_wp2_with fail
          refine CR.out.mono ?_; rintro e w2 ⟨rfl, ho2, hg2⟩
          have HG2 := Lib.hid hg2
          have HB2 := Lib.hid (below_only HBQ.out hg2 HBQ.out.size (Nat.le_refl _))
          have HO2 := Lib.hid ho2
          have hx2 := HBX.out _ _ _ HB2.out HX2.out
          clear hg2 ho2
          go_wp2_with fail
          refine (CN.out _).mono ?_; rintro e w3 ⟨rfl, hi3, hb3⟩
          have HB3 := Lib.hid (HB2.out.trans (hb3.mono HB2.out.size))
          have HI3 := Lib.hid hi3
          have HO3 := Lib.hid (isO_below HO2.out hb3 HO2.out.p.lt)
          have HLT : Hid (W0.heap.size < w2.heap.size) := HO2.out.p.lt
          have hx2 := HBX.out _ _ _ HB3.out HX2.out
          clear hi3 hb3
          go_wp2_with fail
          refine (HTI.out _).mono ?_; rintro e w' ⟨rfl, rfl⟩
          go_wp2_with fail
          go_loopw [10] (fun i wr => ∃ (q left pg : Int), i = .int .i64 q ∧ -1 ≤ q ∧ q < 300 ∧ Below W0.heap.size W0 wr ∧ IsO wr W0.heap.size (1 + m0) left pg ∧ IsO wr w2.heap.size (1 + m0) left pg) (fun i _ => (intOf i + 1).toNat)
          case atStart => exact ⟨t0, 0, 1, rfl, by omega, by omega, HB3.out, HO3.out, HI3.out⟩
          case round =>
            obtain ⟨q', left3, pg3, rfl, q0', q1', hbq', hoq', hoq2⟩ := hrel
            have HBQ' := Lib.hid hbq'
            have HOQ' := Lib.hid hoq'
            have HOQ2 := Lib.hid hoq2
            have CW := Lib.hid (wait_tells _ _ _ _ _ hoq')
            have CW2 := Lib.hid (wait_tells _ _ _ _ _ hoq2)
            have CT := Lib.hid (tick_calls _ _ _ _ _ hoq')
            clear hbq' hoq' hoq2
            by_cases hq' : 0 ≤ q'
            · go_wp2_with fail
              refine CW.out.mono ?_; rintro e w' ⟨rfl, rfl⟩
              go_wp2_with fail
              refine CW2.out.mono ?_; rintro e w' ⟨rfl, rfl⟩
              go_wp2_with fail
              refine CT.out.mono ?_; rintro e w4 ⟨rfl, ho4, hg4⟩
              have HO4 := Lib.hid ho4
              have HG4 := Lib.hid hg4
              have HB4 := Lib.hid (below_only HBQ'.out hg4 HBQ'.out.size (Nat.le_refl _))
              have HN4 := Lib.hid (isO_only HOQ2.out hg4 (by have := HLT.out; omega))
              have CT2 := Lib.hid (tick_calls _ _ _ _ _ HN4.out)
              clear ho4 hg4
              go_wp2_with fail
              refine CT2.out.mono ?_; rintro e w5 ⟨rfl, ho5, hg5⟩
              have HO5 := Lib.hid ho5
              have HB5 := Lib.hid (below_only HB4.out hg5 HB4.out.size (Nat.le_of_lt HLT.out))
              have HN5 := Lib.hid (isO_only HO4.out hg5 (by have := HLT.out; omega))
              clear ho5 hg5
              go_wp2_with fail
              go_roundw
              case rel => exact ⟨q' - 1, _, _, by go_num, by omega, by omega, HB5.out, HN5.out, HO5.out⟩
              case measure => simp [intOf]; omega
            · go_wp2_with fail
              go_roundw
              case rel => exact ⟨k + 1, _, _, by go_num, by omega, by omega, HBQ'.out, HOQ'.out⟩
              case measure => simp [intOf]; omega
    · have CW := Lib.hid (wait_tells _ _ _ _ _ HOK.out)
      have dl : decide (left ≤ 1 + m0) = true := decide_eq_true HOK.out.l.2
      have hcase : (¬ k < rs.length) ∨ (k < rs.length ∧ ¬ k < 30) := by omega
      clear hgo
      rcases hcase with g1 | ⟨g1, g2⟩
      all_goals
        go_wp2_with fail
        refine CW.out.mono ?_; rintro e w' ⟨rfl, rfl⟩
        go_wp2_with fail
        go_ret
        exact ⟨rfl, HB0.out.trans (HBK.out.mono (by have := HSZ.out; omega))⟩
set_option maxRecDepth 20000 in
theorem contract {H : Type} {enc : TypeId × Value → H} (W : World) (base : Nat) (v0 : Value) (d0 : DataW H) (p0 : List MemPlace) (hok : Value.okWide Try.prog W .any base 40 v0)
    (h0 : DataW.Trod enc Try.prog W 0 (fun _ => true) true 40 v0 d0 p0) (hlt : ∀ x ∈ p0, x.block < W.heap.size) (hsz : (DataW.weightsEach Try.prog [40] [d0]).all (· ≤ reachBytes) = true) :
    Calls Try.prog 5 #[v0] W fun e W' => e = .returned (.bool true) ∧ Below W.heap.size W W' := by
  obtain ⟨⟨cap, rs, ticks⟩, cs, rfl, hK, hV, _⟩ := open_arg Try.underlying40 opens_Run hok h0
  obtain ⟨_, _, hcs, rfl, _, _, rfl, ⟨A1, c1, rfl, _, hC1⟩, rfl⟩ := hK
  obtain rfl : cs = #[.int .i64 cap, .slice A1 rs.length c1, .int .i64 ticks] := by cases cs; simp at hcs; rw [hcs]
  exact walk cap ticks rs A1 c1 W hC1 (fun a h => in64 (hV.2.1 a h)) (in64 hV.1) (in64 hV.2.2)
end Go.Proofs.Ytfmggmpllggbnaa.PaceAnew
