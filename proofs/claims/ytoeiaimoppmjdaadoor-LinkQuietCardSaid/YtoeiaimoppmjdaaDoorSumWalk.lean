/- code.Sum: what it computes. -/
import Derived.Test.YtoeiaimoppmjdaaDoorProg
import Derived.WalkKit
import Derived.WalkSpells
import Derived.WalkLawsBesides
import Derived.Below
import Derived.Outline
import Derived.Lib.Hide
import Derived.LoopTactic
import Derived.Deep.QuietTactic
import Derived.BigQuiet
import Derived.BigRegion
import Derived.Laws.Rows
import Derived.KernelRfl
import Derived.Test.YtoeiaimoppmjdaaDoorCrc
namespace Go.Proofs.YtoeiaimoppmjdaaDoor.Crc
open Go.RowKit
set_option linter.unusedVariables false
set_option linter.unusedSimpArgs false
def Tab (w : World) (g k : Nat) : Prop := ∃ cs : Array Value, w.heap[g]? = some (.cells cs 133 (0, 0)) ∧ cs.size = 16 ∧ ∀ i, i < k → cs[i]? = some (val (it 4 (BitVec.ofNat 32 i)))
theorem Tab.cell {w : World} {g k : Nat} (h : Tab w g k) (i : Nat) (hi : i < k) : w.cell? ⟨g, i, none⟩ = some (val (it 4 (BitVec.ofNat 32 i))) := by
  obtain ⟨cs, h1, h2, h3⟩ := h
  rw [cell_of_row w g i cs 133 (0, 0) h1]; exact h3 i hi
theorem Tab.frozen {w : World} {g k : Nat} (h : Tab w g k) (i : Nat) : w.frozen? ⟨g, i, none⟩ = false := by
  obtain ⟨cs, h1, h2, h3⟩ := h
  simp [World.frozen?, h1]
theorem Tab.any {w : World} {g k : Nat} (h : Tab w g k) (i : Nat) (hi : i < 16) : ∃ v, w.cell? ⟨g, i, none⟩ = some v := by
  obtain ⟨cs, h1, h2, h3⟩ := h
  rw [cell_of_row w g i cs 133 (0, 0) h1]
  exact ⟨cs[i], by rw [Array.getElem?_eq_getElem]⟩
theorem Tab.put {w : World} {g k : Nat} (h : Tab w g k) (hk : k < 16) : Tab (w.setCell ⟨g, k, none⟩ (val (it 4 (BitVec.ofNat 32 k)))) g (k + 1) := by
  obtain ⟨cs, h1, h2, h3⟩ := h
  refine ⟨cs.set! k (val (it 4 (BitVec.ofNat 32 k))), ?_, by simp [h2], fun i hi => ?_⟩
  · simp [World.setCell, Array.getElem?_modify, h1, Array.set!_eq_setIfInBounds]
  · rw [Array.set!_eq_setIfInBounds, Array.getElem?_setIfInBounds]
    by_cases hik : i = k
    · rw [if_pos hik.symm, if_pos (by omega), hik]
    · rw [if_neg (fun e => hik e.symm)]
      exact h3 i (by omega)
set_option maxHeartbeats 3200000 in
set_option maxRecDepth 100000 in
/-- A byte slice read by its cells: 'at' gives each one's cell. -/
theorem sum_walk (xs : List Int) (A : Option Addr) (c : Nat) (w : World) (hn : xs.length ≤ 9223372036854775807) (hat : ∀ k, k < xs.length → ∃ ad, A = some ad ∧ w.cell? (ad.add k) = some (.int .u8 (xs.getD k 0))) (hv : ∀ a, a ∈ xs → 0 ≤ a ∧ a ≤ 255) :
    Calls Tryd.prog 85 #[.slice A xs.length c] w fun e w' => e = .returned (.int .u32 ((crc xs).toNat : Int)) ∧ Below w.heap.size w w' := by
  have HAT := Lib.hid hat
  have HV := Lib.hid hv
  clear hat hv
  have HT0 : Hid (Tab (w.alloc (.cells #[.int .u32 0, .int .u32 0, .int .u32 0, .int .u32 0, .int .u32 0, .int .u32 0, .int .u32 0, .int .u32 0, .int .u32 0, .int .u32 0, .int .u32 0, .int .u32 0, .int .u32 0, .int .u32 0, .int .u32 0, .int .u32 0] 133)) w.heap.size 0) := ⟨_, heap_alloc_new w _, rfl, fun i hi => by omega⟩
  go_enter Tryd.func85, Tryd.ntmps85
  go_wp2_with fail
  go_loopw [9] (fun i wr => ∃ k : Nat, i = .int .i64 k ∧ k ≤ 16 ∧ Tab wr w.heap.size k ∧ Below w.heap.size w wr) (fun i _ => 16 - (intOf i).toNat)
  case atStart => exact ⟨0, rfl, by omega, HT0.out, (Below.refl _ _).alloc (Nat.le_refl _) _⟩
  case round =>
    obtain ⟨k, rfl, hk, ht, hb⟩ := hrel
    have HT := Lib.hid ht
    have HB := Lib.hid hb
    clear ht hb
    by_cases hk16 : k < 16
    · have f1 := HT.out.frozen k
      obtain ⟨v1, e1⟩ := HT.out.any k hk16
      have dk : decide ((k : Int) < 16) = true := decide_eq_true (by omega)
      have hofn : (((BitVec.ofNat 32 k).toNat : Nat) : Int) = (k : Int) := by rw [BitVec.toNat_ofNat]; omega
      have HOF := Lib.hid hofn
      clear hofn
      go_wp2_with fail
      go_loop [5, 14] (fun n j => ∃ q : Nat, n = val (it q (BitVec.ofNat 32 k)) ∧ j = .int .i64 q ∧ q ≤ 4) (fun _ j => 4 - (intOf j).toNat)
      case atStart => exact ⟨0, by simp only [it, val]; rw [HOF.out], rfl, by omega⟩
      case round =>
        obtain ⟨q, rfl, rfl, hq4⟩ := hrel
        obtain ⟨s, hs⟩ : ∃ s, s = it q (BitVec.ofNat 32 k) := ⟨_, rfl⟩
        have hsv := st_val s
        have HSV := Lib.hid hsv
        clear hsv
        have HS : Hid (it (q + 1) (BitVec.ofNat 32 k) = st s) := by show st (it q (BitVec.ofNat 32 k)) = st s; rw [← hs]
        rw [← hs]
        by_cases hq : q < 4
        · clear hs
          obtain ⟨n, hn⟩ : ∃ n : Int, n = (s.toNat : Int) := ⟨_, rfl⟩
          rw [← hn] at HSV
          go_wp2_with fail
          go_round
          case rel => exact ⟨q + 1, by rw [HS.out]; exact congrArg _ (st_val s), by go_num, by omega⟩
          case measure => simp [intOf]; omega
        · have hq' : q = 4 := by omega
          subst hq'
          have HP := Lib.hid (HT.out.put hk16)
          rw [← hs] at HP
          clear hs
          go_wp2_with fail
          go_roundw
          case rel => exact ⟨k + 1, by go_num, by omega, HP.out, HB.out.setCell (Nat.le_refl _) _⟩
          case measure => simp [intOf]; omega
    · have h16 : k = 16 := by omega
      have HT16 : Hid (Tab wr w.heap.size 16) := by rw [← h16]; exact HT.out
      clear h16
      go_wp2_with fail
      go_loop [6, 30] (fun n j => ∃ q : Nat, n = val (reg (xs.take q)) ∧ j = .int .i64 q ∧ q ≤ xs.length) (fun _ j => xs.length - (intOf j).toNat)
      case atStart => exact ⟨0, rfl, rfl, by omega⟩
      case round =>
        obtain ⟨q, rfl, rfl, hql⟩ := hrel
        by_cases hq : q < xs.length
        · obtain ⟨ad, rfl, hcell⟩ := HAT.out q hq
          have hcw : wr.cell? (ad.add q) = some (.int .u8 (xs.getD q 0)) := (HB.out.cell (World.block_lt_of_cell? w _ hcell)).trans hcell
          have hby : 0 ≤ xs.getD q 0 ∧ xs.getD q 0 ≤ 255 := by
            rw [List.getD_eq_getElem?_getD, List.getElem?_eq_getElem hq]; exact HV.out _ (List.getElem_mem hq)
          have htk : reg (xs.take (q + 1)) = eat (reg (xs.take q)) (xs.getD q 0) := by
            unfold reg
            rw [List.take_add_one, List.foldl_append, List.getElem?_eq_getElem hq, List.getD_eq_getElem?_getD, List.getElem?_eq_getElem hq]; rfl
          have HTK := Lib.hid htk
          obtain ⟨b, hb⟩ : ∃ b, b = xs.getD q 0 := ⟨_, rfl⟩
          rw [← hb] at hcw hby HTK
          obtain ⟨r, hr⟩ : ∃ r, r = reg (xs.take q) := ⟨_, rfl⟩
          rw [← hr] at HTK ⊢
          obtain ⟨y, hy⟩ : ∃ y, y = r ^^^ BitVec.ofInt 32 b := ⟨_, rfl⟩
          have key : ∀ s : B, ∃ i : Nat, Go.bits .and .u32 (s.toNat : Int) 15 = (i : Int) ∧ i < 16 ∧ wr.cell? ⟨w.heap.size, i, none⟩ = some (.int .u32 ((it 4 (s &&& 15#32)).toNat : Int)) ∧ Go.bits .xor .u32 ((s.toNat : Int) / 16) ((it 4 (s &&& 15#32)).toNat : Int) = ((it 4 s).toNat : Int) := by
            intro s
            have h1 := and_bv s 15#32
            have h2 : (s &&& 15#32).toNat < 16 := by
              rw [BitVec.toNat_and]; exact Nat.lt_of_le_of_lt Nat.and_le_right (by decide)
            refine ⟨(s &&& 15#32).toNat, h1, h2, ?_, ?_⟩
            · have := HT16.out.cell _ h2
              rwa [BitVec.ofNat_toNat, BitVec.setWidth_eq] at this
            · have h3 := shr_bv s 4
              rw [show ((2 ^ 4 : Nat) : Int) = 16 from rfl] at h3
              rw [h3, xor_bv, nib]
          have hx := eat_val r b hby
          rw [← hy] at hx
          obtain ⟨i1, a1, a2, a3, a4⟩ := key y
          obtain ⟨i2, b1, b2, b3, b4⟩ := key (it 4 y)
          have HE : Hid ((((it 4 (it 4 y)).toNat : Nat) : Int) = ((reg (xs.take (q + 1))).toNat : Int)) := by rw [HTK.out, eat, ← hy]; exact rfl
          obtain ⟨X, hX⟩ : ∃ n : Int, n = (r.toNat : Int) := ⟨_, rfl⟩
          obtain ⟨Y, hY⟩ : ∃ n : Int, n = (y.toNat : Int) := ⟨_, rfl⟩
          obtain ⟨Z, hZ⟩ : ∃ n : Int, n = ((it 4 y).toNat : Int) := ⟨_, rfl⟩
          obtain ⟨Z2, hZ2⟩ : ∃ n : Int, n = ((it 4 (it 4 y)).toNat : Int) := ⟨_, rfl⟩
          obtain ⟨T1, hT1⟩ : ∃ n : Int, n = ((it 4 (y &&& 15#32)).toNat : Int) := ⟨_, rfl⟩
          obtain ⟨T2, hT2⟩ : ∃ n : Int, n = ((it 4 (it 4 y &&& 15#32)).toNat : Int) := ⟨_, rfl⟩
          rw [← hX, ← hY] at hx
          rw [← hY] at a1 a4
          rw [← hT1] at a3 a4
          rw [← hZ] at a4 b1 b4
          rw [← hT2] at b3 b4
          rw [← hZ2] at b4 HE
          simp only [val]
          rw [← hX]
          have c1 : (0 : Int) ≤ (i1 : Int) := by omega
          have c2 : (i1 : Int) < 16 := by omega
          have c3 : (0 : Int) ≤ (i2 : Int) := by omega
          have c4 : (i2 : Int) < 16 := by omega
          have c5 : (q : Int) < (xs.length : Int) := by omega
          clear hcell htk hb hr hy hX hY hZ hZ2 hT1 hT2 key
          go_wp2_with fail
          go_roundw
          case rel => exact ⟨q + 1, congrArg _ HE.out, by go_num, by omega⟩
          case measure => simp [intOf]; omega
        · have htk : xs.take q = xs := List.take_of_length_le (by omega)
          rw [htk]
          have HN := Lib.hid (not_val (reg xs))
          obtain ⟨X, hX⟩ : ∃ n : Int, n = ((reg xs).toNat : Int) := ⟨_, rfl⟩
          rw [← hX] at HN
          simp only [val]
          rw [← hX]
          clear hX htk
          go_wp2_with fail
          go_ret
          exact ⟨by unfold crc; rw [← HN.out]; rfl, HB.out⟩
end Go.Proofs.YtoeiaimoppmjdaaDoor.Crc
