/- The document's own pace: Times, Tick, Reset, Wait, New; and how the two tell the same. -/
import Derived.Test.YtfmggmpllggbnaaPace3
namespace Go.Proofs.Ytfmggmpllggbnaa.Pace
open Go.RowKit
set_option linter.unusedVariables false
set_option linter.unusedSimpArgs false
/-- The k-th time's tick and the gap behind it. -/
def ag (most : Int) : Nat → Int × Int
  | 0 => (1, 1)
  | k + 1 => ((ag most k).1 + (ag most k).2, dbl most (ag most k).2)
theorem ag_gap (most : Int) (h : 1 ≤ most ∧ most ≤ 64) (k : Nat) : 1 ≤ (ag most k).2 ∧ (ag most k).2 ≤ most := by
  induction k with
  | zero => simp [ag]; omega
  | succ k ih => exact dbl_range most _ h ih
theorem ag_at (most : Int) (h : 1 ≤ most ∧ most ≤ 64) (k : Nat) : (k : Int) + 1 ≤ (ag most k).1 := by
  induction k with
  | zero => simp [ag]
  | succ k ih => have := ag_gap most h k; simp only [ag]; omega
structure T (most n : Int) (K : Nat) : Prop where
  lo : ∀ j, j < K → (ag most j).1 ≤ n
  hi : n < (ag most K).1
theorem T.one {most n : Int} {K K' : Nat} (h : T most n K) (h' : T most n K') : K = K' := by
  rcases Nat.lt_trichotomy K K' with hl | hl | hl
  · have := h'.lo K hl; have := h.hi; omega
  · exact hl
  · have := h.lo K' hl; have := h'.hi; omega
set_option maxHeartbeats 1600000 in
theorem times_calls (most n : Int) (w : World) (hm : 1 ≤ most ∧ most ≤ 64) (hn : 0 ≤ n ∧ n ≤ 100000) :
    Calls Try.prog 35 #[.int .i64 most, .int .i64 n] w fun e w' => ∃ K : Nat, e = .returned (.tuple #[.int .i64 K, .int .i64 (ag most K).1]) ∧ T most n K ∧ w = w' := by
  go_enter Try.func35, Try.ntmps35
  go_wp2_with fail
  go_loop [6, 7, 8] (fun vg va vk => ∃ k : Nat, vg = .int .i64 (ag most k).2 ∧ va = .int .i64 (ag most k).1 ∧ vk = .int .i64 k ∧ (∀ j, j < k → (ag most j).1 ≤ n)) (fun _ va _ => (n + 1 - intOf va).toNat)
  case atStart => exact ⟨0, rfl, rfl, rfl, fun j hj => by omega⟩
  case round =>
    obtain ⟨k, rfl, rfl, rfl, hlo⟩ := hrel
    have HLO := Lib.hid hlo
    have hg := ag_gap most hm k
    have ha := ag_at most hm k
    have hs : ag most (k + 1) = ((ag most k).1 + (ag most k).2, dbl most (ag most k).2) := rfl
    have HS := Lib.hid hs
    clear hlo hs
    obtain ⟨⟨a, g⟩, hag⟩ : ∃ p, p = ag most k := ⟨_, rfl⟩
    rw [← hag] at hg ha HS ⊢
    have HAG := Lib.hid hag
    clear hag
    by_cases hle : a ≤ n
    · by_cases hd : most < 2 * g
      · go_wp2_with fail
        go_round
        case rel => exact ⟨k + 1, by rw [HS.out]; simp only [dbl]; rw [if_pos hd], by rw [HS.out], by go_num, fun j hj => by rcases Nat.lt_succ_iff_lt_or_eq.1 hj with h | rfl; exact HLO.out j h; rw [← HAG.out]; exact hle⟩
        case measure => simp [intOf]; omega
      · go_wp2_with fail
        go_round
        case rel => exact ⟨k + 1, by rw [HS.out]; simp only [dbl]; rw [if_neg hd], by rw [HS.out], by go_num, fun j hj => by rcases Nat.lt_succ_iff_lt_or_eq.1 hj with h | rfl; exact HLO.out j h; rw [← HAG.out]; exact hle⟩
        case measure => simp [intOf]; omega
    · go_wp2_with fail
      go_ret2
      exact ⟨k, by rw [← HAG.out]; rfl, ⟨HLO.out, by rw [← HAG.out]; simp only; omega⟩, rfl⟩
def IsQ (w : World) (g : Nat) (most n : Int) : Prop := w.heap[g]? = some (.cells #[.int .i64 most, .int .i64 n] 85 (0, 0))
theorem IsQ.cell {w : World} {g : Nat} {most n : Int} (h : IsQ w g most n) (i : Nat) : w.cell? ⟨g, i, none⟩ = (#[Value.int .i64 most, .int .i64 n])[i]? := cell_of_row w g i _ 85 (0, 0) h
theorem IsQ.frozen {w : World} {g : Nat} {most n : Int} (h : IsQ w g most n) (i : Nat) : w.frozen? ⟨g, i, none⟩ = false := by
  unfold IsQ at h; simp [World.frozen?, h]
theorem IsQ.lt {w : World} {g : Nat} {most n : Int} (h : IsQ w g most n) : g < w.heap.size := (Array.getElem?_eq_some_iff.1 h).1
theorem IsQ.set1 {w : World} {g : Nat} {most n : Int} (h : IsQ w g most n) (x : Int) : IsQ (w.setCell ⟨g, 1, none⟩ (.int .i64 x)) g most x := by
  unfold IsQ at *; simp [World.setCell, Array.getElem?_modify, h]
theorem IsQ.only {g g' : Nat} {most n : Int} {w w' : World} (h : IsQ w g most n) (hg : w.grownBy w' (some g')) (hne : g ≠ g') : IsQ w' g most n :=
  (hg.block g h.lt (by rintro ⟨⟩; exact hne rfl)).trans h
theorem IsQ.below {B g : Nat} {most n : Int} {w w' : World} (h : IsQ w g most n) (hb : Below B w w') (hg : g < B) : IsQ w' g most n := (hb.block g hg).trans h
theorem qnew_no (most : Int) (w : World) (h : most < 1 ∨ 64 < most) : Calls Try.prog 34 #[.int .i64 most] w fun e w' => e = .returned (.tuple #[.pointer none, .int .i64 70]) ∧ w = w' := by
  rcases h with h | h
  · have d : decide (most < 1) = true := decide_eq_true h
    clear h
    go_enter Try.func34, Try.ntmps34
    go_wp2
    go_ret2
    exact ⟨rfl, rfl⟩
  · have d : decide (most < 1) = false := decide_eq_false (by omega)
    have d2 : decide (64 < most) = true := decide_eq_true h
    clear h
    go_enter Try.func34, Try.ntmps34
    go_wp2
    go_ret2
    exact ⟨rfl, rfl⟩
theorem qnew_yes (most : Int) (w : World) (h : 1 ≤ most ∧ most ≤ 64) : Calls Try.prog 34 #[.int .i64 most] w fun e w' => e = .returned (.tuple #[ptr w.heap.size, .int .i64 0]) ∧ IsQ w' w.heap.size most 0 ∧ Below w.heap.size w w' := by
  have d : decide (most < 1) = false := decide_eq_false (by omega)
  have d2 : decide (64 < most) = false := decide_eq_false (by omega)
  go_enter Try.func34, Try.ntmps34
  go_wp2
  go_ret2
  refine ⟨rfl, ?_, ?_⟩
  · exact heap_alloc_new w _
  · exact (Below.refl _ _).alloc (Nat.le_refl _) _
theorem qreset_calls (g : Nat) (most n : Int) (w : World) (h : IsQ w g most n) :
    Calls Try.prog 14 #[ptr g] w fun e w' => e = .returned (.tuple #[]) ∧ IsQ w' g most 0 ∧ w.grownBy w' (some g) := by
  have c1 : w.cell? ⟨g, 1, none⟩ = some (.int .i64 n) := h.cell 1
  have f1 := h.frozen 1
  have H := Lib.hid h
  clear h
  go_enter Try.func14, Try.ntmps14
  go_wp2
  go_end0
  exact ⟨rfl, H.out.set1 0, only_set (only_refl _ _) _ _⟩
end Go.Proofs.Ytfmggmpllggbnaa.Pace
