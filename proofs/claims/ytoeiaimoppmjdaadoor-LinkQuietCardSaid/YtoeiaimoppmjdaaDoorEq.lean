/- Contract of tillref0's Eq. -/
import Derived.Test.YtoeiaimoppmjdaaDoorInto
import Derived.BigRegion
namespace Go.Proofs.YtoeiaimoppmjdaaDoor.Wr
open Go.RowKit Go.Proofs.YtoeiaimoppmjdaaDoorW.PrintWords Go.Proofs.YtoeiaimoppmjdaaDoor.Bytes
set_option linter.unusedVariables false
set_option linter.unusedSimpArgs false
set_option maxRecDepth 20000 in
set_option maxHeartbeats 1600000 in
theorem eq_calls (xs ys : List Int) (A B : Option Addr) (c d : Nat) (w : World) (hx : ReadsOf I 0 w A xs.length xs) (hy : ReadsOf I 0 w B ys.length ys) (hm : ys.length ≤ 140737488355328) :
    Calls Tryd.prog 34 #[.slice A xs.length c, .slice B ys.length d] w fun e w' => ∃ b : Bool, e = .returned (.bool b) ∧ (b = true ↔ xs = ys) ∧ Below w.heap.size w w' := by
  have HX := Lib.hid hx
  have HY := Lib.hid hy
  clear hx hy
  by_cases hl : xs.length = ys.length
  · have HL := Lib.hid hl
    rw [hl]
    clear hl
    go_enter Tryd.func34, Tryd.ntmps34
    go_wp2_with fail
    go_loopw [5] (fun i wr => ∃ k : Nat, i = .int .i64 k ∧ k ≤ ys.length ∧ (∀ j, j < k → xs.getD j 0 = ys.getD j 0) ∧ Below w.heap.size w wr) (fun i _ => ys.length - (intOf i).toNat)
    case atStart => exact ⟨0, rfl, by omega, by omega, Below.refl _ _⟩
    case round =>
      obtain ⟨k, rfl, hk, hs, hb⟩ := hrel
      have HS := Lib.hid hs
      have HB := Lib.hid hb
      clear hs hb
      by_cases hlt : k < ys.length
      · obtain ⟨a1, rfl, x1⟩ := reads_at HX.out k (by have := HL.out; omega)
        obtain ⟨a2, rfl, x2⟩ := reads_at HY.out k hlt
        have y1 := pw_cell_below HB.out x1
        have y2 := pw_cell_below HB.out x2
        obtain ⟨p, hp⟩ : ∃ p, p = xs.getD k 0 := ⟨_, rfl⟩
        obtain ⟨q, hq⟩ : ∃ p, p = ys.getD k 0 := ⟨_, rfl⟩
        rw [← hp] at y1
        rw [← hq] at y2
        have HP := Lib.hid hp
        have HQ := Lib.hid hq
        have i1 : (0 : Int) ≤ (k : Int) := by omega
        have i2 : (k : Int) < (ys.length : Int) := by omega
        clear hp hq x1 x2
        by_cases hpq : p = q
        · have hb2 : (p != q) = false := bne_eq_false_iff_eq.2 hpq
          have HPQ := Lib.hid hpq
          clear hpq
          go_wp2_with fail
          go_region
          go_wp2_with fail
          go_roundw
          case rel => exact ⟨k + 1, by go_num, by omega, fun j hj => by
            rcases Nat.lt_or_ge j k with h | h
            · exact HS.out j h
            · obtain rfl : j = k := by omega
              rw [← HP.out, ← HQ.out]; exact HPQ.out, by first | exact HB.out.drew | exact HB.out⟩
          case measure => simp [intOf]; omega
        · have hne : ¬ xs = ys := fun e => hpq (by rw [HP.out, HQ.out, e])
          have HD := Lib.hid hne
          have hb2 : (p != q) = true := bne_iff_ne.2 hpq
          clear hne hpq
          go_wp2_with fail
          go_region
          go_wp2_with fail
          go_ret
          exact ⟨false, rfl, ⟨fun h => (by simp at h), fun h => absurd h HD.out⟩, by first | exact HB.out.drew | exact HB.out⟩
      · have he : xs = ys := by
          apply List.ext_getElem HL.out
          intro j h1 h2
          have := HS.out j (by omega)
          rwa [List.getD_eq_getElem?_getD, List.getD_eq_getElem?_getD, List.getElem?_eq_getElem h1, List.getElem?_eq_getElem h2] at this
        have HD := Lib.hid he
        clear he
        go_wp2_with fail
        go_ret
        exact ⟨true, rfl, ⟨fun _ => HD.out, fun _ => rfl⟩, HB.out⟩
  · have HD : Hid (¬ xs = ys) := fun e => hl (by rw [e])
    have hl' : ((xs.length : Int) != (ys.length : Int)) = true := bne_iff_ne.2 (by omega)
    clear hl
    go_enter Tryd.func34, Tryd.ntmps34
    go_wp2_with fail
    go_ret
    exact ⟨false, rfl, ⟨fun h => (by simp at h), fun h => absurd h HD.out⟩, Below.refl _ _⟩
end Go.Proofs.YtoeiaimoppmjdaaDoor.Wr
