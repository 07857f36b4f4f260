/- Merged by merge2.py out of the texts: Crc, SumWalk, CrcRef, RefSum, Open, Bytes, Other, Into, VarPlain, Writers, Eq, Fixed, WFix, Nums, Texts, Reader, Reader2, RPlain, Gen, Rdr, Rdr2, ErrTab, Mem, RVar, RBytes, LkSt. -/
import Derived.WalkKit
import Derived.Laws.BitsAllLaws
import Derived.Test.YtoeiaimoppmjdaaDoorProg
import Derived.WalkSpells
import Derived.WalkLawsBesides
import Derived.Below
import Derived.Outline
import Derived.Lib.Hide
import Derived.LoopTactic
import Derived.Deep.QuietTactic
import Derived.BigQuiet
import Derived.BigRegion
import Derived.Laws.Rows
import Derived.KernelRfl
import Derived.Deep.RegionHeld3
import Derived.Test.YtoeiaimoppmjdaaDoorRows
import Derived.Test.YtoeiaimoppmjdaaDoorTrim
import Derived.Deep.Slices
import Derived.OpenShut
import Derived.ProofKit
import Derived.OwnWalk
import Derived.Laws.Closers25b
import Derived.Test.YtoeiaimoppmjdaaDoorLen64
import Derived.Lib.ItoaNum
import Derived.Deep.AppendLies
import Derived.Deep.RegionLaw
import Derived.Lib.QuietBelow
import Derived.Laws.ResultCell
import Derived.Lib.LaidTab
/- The register of a check sum, over 32 bits: one step, four steps, a byte. -/
namespace Go.Proofs.YtoeiaimoppmjdaaDoor.Crc
set_option linter.unusedVariables false
set_option linter.unusedSimpArgs false
abbrev B := BitVec 32
def poly : B := 3988292384#32
def st (s : B) : B := (s >>> 1) ^^^ (if s.getLsbD 0 = true then poly else 0#32)
def it : Nat → B → B
  | 0, s => s
  | n + 1, s => st (it n s)
theorem st_xor (a b : B) : st (a ^^^ b) = st a ^^^ st b := by
  unfold st
  rw [BitVec.getLsbD_xor, BitVec.ushiftRight_xor_distrib]
  cases a.getLsbD 0 <;> cases b.getLsbD 0 <;> simp
  · rw [BitVec.xor_assoc]
  · rw [BitVec.xor_assoc, BitVec.xor_assoc, BitVec.xor_comm (b >>> 1) poly]
  · rw [BitVec.xor_assoc, ← BitVec.xor_assoc poly, BitVec.xor_comm poly (b >>> 1), BitVec.xor_assoc (b >>> 1), BitVec.xor_self, BitVec.xor_zero]
theorem it_xor (n : Nat) (a b : B) : it n (a ^^^ b) = it n a ^^^ it n b := by
  induction n with
  | zero => rfl
  | succ n ih => simp only [it]; rw [ih, st_xor]
theorem it_add (m n : Nat) (s : B) : it (m + n) s = it m (it n s) := by
  induction m with
  | zero => rw [Nat.zero_add]; rfl
  | succ m ih => rw [Nat.succ_add]; simp only [it]; rw [ih]
theorem st_low (s : B) (h : s.getLsbD 0 = false) : st s = s >>> 1 := by
  unfold st; rw [h]; simp
theorem high (s : B) : it 4 (s &&& 4294967280#32) = s >>> 4 := by
  have m : ∀ i, i < 4 → (4294967280#32).getLsbD i = false := by decide
  simp only [it]
  rw [st_low (s &&& 4294967280#32) (by rw [BitVec.getLsbD_and, m 0 (by omega)]; simp)]
  rw [st_low ((s &&& 4294967280#32) >>> 1) (by rw [BitVec.getLsbD_ushiftRight, BitVec.getLsbD_and, m 1 (by omega)]; simp)]
  rw [st_low ((s &&& 4294967280#32) >>> 1 >>> 1) (by rw [BitVec.getLsbD_ushiftRight, BitVec.getLsbD_ushiftRight, BitVec.getLsbD_and, m 2 (by omega)]; simp)]
  rw [st_low ((s &&& 4294967280#32) >>> 1 >>> 1 >>> 1) (by rw [BitVec.getLsbD_ushiftRight, BitVec.getLsbD_ushiftRight, BitVec.getLsbD_ushiftRight, BitVec.getLsbD_and, m 3 (by omega)]; simp)]
  rw [← BitVec.shiftRight_add, ← BitVec.shiftRight_add, ← BitVec.shiftRight_add, BitVec.ushiftRight_and_distrib]
  apply BitVec.eq_of_getLsbD_eq
  intro i hi
  rw [BitVec.getLsbD_and, BitVec.getLsbD_ushiftRight, BitVec.getLsbD_ushiftRight]
  have m2 : ∀ i, i < 28 → (4294967280#32).getLsbD (4 + i) = true := by decide
  by_cases h : i < 28
  · rw [m2 i h]; simp
  · have : s.getLsbD (4 + i) = false := BitVec.getLsbD_of_ge _ _ (by omega)
    simp [this]
theorem split (s : B) : (s &&& 4294967280#32) ^^^ (s &&& 15#32) = s := by
  apply BitVec.eq_of_getLsbD_eq
  intro i hi
  rw [BitVec.getLsbD_xor, BitVec.getLsbD_and, BitVec.getLsbD_and]
  have m : ∀ i, i < 32 → ((4294967280#32).getLsbD i ^^ (15#32).getLsbD i) = true := by decide
  have := m i hi
  cases h1 : (4294967280#32).getLsbD i <;> cases h2 : (15#32).getLsbD i <;> rw [h1, h2] at this <;> simp_all
theorem nib (s : B) : (s >>> 4) ^^^ it 4 (s &&& 15#32) = it 4 s := by
  conv => rhs; rw [← split s]
  rw [it_xor, high]
/-- The value of a register. -/
abbrev val (s : B) : Value := .int .u32 (s.toNat : Int)
theorem xor_bv (a b : B) : Go.bits .xor .u32 (a.toNat : Int) (b.toNat : Int) = ((a ^^^ b).toNat : Int) := by
  rw [u32_xor_nat _ _ a.isLt b.isLt, BitVec.toNat_xor]
theorem and_bv (a b : B) : Go.bits .and .u32 (a.toNat : Int) (b.toNat : Int) = ((a &&& b).toNat : Int) := by
  rw [u32_and_nat _ _ a.isLt b.isLt, BitVec.toNat_and]
theorem shr_bv (a : B) (n : Nat) : ((a.toNat : Int) / ((2 ^ n : Nat) : Int)) = ((a >>> n).toNat : Int) := by
  rw [BitVec.toNat_ushiftRight, Nat.shiftRight_eq_div_pow]; rfl
theorem st_val (s : B) : Go.bits .xor .u32 ((s.toNat : Int) / 2) (Go.bits .and .u32 (-Go.bits .and .u32 (s.toNat : Int) 1 % 4294967296) 3988292384) = ((st s).toNat : Int) := by
  have h1 : Go.bits .and .u32 (s.toNat : Int) 1 = if s.getLsbD 0 = true then 1 else 0 := by
    have := and_bv s 1#32
    rw [show (((1#32 : B).toNat : Nat) : Int) = 1 from rfl] at this
    rw [this, BitVec.toNat_and, show (1#32 : B).toNat = 1 from rfl, Nat.and_one_is_mod]
    rw [BitVec.getLsbD, Nat.testBit_zero]
    rcases Nat.mod_two_eq_zero_or_one s.toNat with h | h <;> simp [h]
  have h2 := shr_bv s 1
  rw [show ((2 ^ 1 : Nat) : Int) = 2 from rfl] at h2
  rw [h1, h2]
  unfold st
  by_cases hl : s.getLsbD 0 = true
  · rw [if_pos hl, if_pos hl]
    have h3 := and_bv (BitVec.allOnes 32) poly
    have h4 := xor_bv (s >>> 1) poly
    rw [show ((BitVec.allOnes 32).toNat : Int) = -1 % 4294967296 from by decide, show ((poly.toNat : Nat) : Int) = 3988292384 from rfl, BitVec.allOnes_and] at h3
    rw [h3]
    exact xor_bv (s >>> 1) poly
  · rw [if_neg hl, if_neg hl]
    have h3 := and_bv 0#32 poly
    rw [show ((0#32 : B).toNat : Int) = -0 % 4294967296 from rfl, show ((poly.toNat : Nat) : Int) = 3988292384 from rfl, BitVec.zero_and] at h3
    rw [h3]
    exact xor_bv (s >>> 1) 0#32
/-- A byte taken in. -/
def eat (s : B) (a : Int) : B := it 4 (it 4 (s ^^^ BitVec.ofInt 32 a))
def reg (xs : List Int) : B := xs.foldl eat (BitVec.allOnes 32)
def crc (xs : List Int) : B := ~~~ reg xs
theorem byte_bv (a : Int) (h : 0 ≤ a ∧ a ≤ 255) : ((BitVec.ofInt 32 a).toNat : Int) = a := by
  obtain ⟨n, rfl⟩ := Int.eq_ofNat_of_zero_le h.1
  rw [BitVec.ofInt_natCast, BitVec.toNat_ofNat]; omega
theorem eat_val (s : B) (a : Int) (h : 0 ≤ a ∧ a ≤ 255) : Go.bits .xor .u32 (s.toNat : Int) a = ((s ^^^ BitVec.ofInt 32 a).toNat : Int) := by
  have := xor_bv s (BitVec.ofInt 32 a)
  rwa [byte_bv a h] at this
theorem not_val (s : B) : Go.bits .xor .u32 IntKind.u32.max (s.toNat : Int) = ((~~~ s).toNat : Int) := by
  have h := xor_bv (BitVec.allOnes 32) s
  rw [BitVec.allOnes_xor] at h
  rw [← h]
  rfl
end Go.Proofs.YtoeiaimoppmjdaaDoor.Crc
/- code.Sum: what it computes. -/
namespace Go.Proofs.YtoeiaimoppmjdaaDoor.Crc
open Go.RowKit
set_option linter.unusedVariables false
set_option linter.unusedSimpArgs false
def Tab (w : World) (g k : Nat) : Prop := ∃ cs : Array Value, w.heap[g]? = some (.cells cs 133 (0, 0)) ∧ cs.size = 16 ∧ ∀ i, i < k → cs[i]? = some (val (it 4 (BitVec.ofNat 32 i)))
theorem Tab.cell {w : World} {g k : Nat} (h : Tab w g k) (i : Nat) (hi : i < k) : w.cell? ⟨g, i, none⟩ = some (val (it 4 (BitVec.ofNat 32 i))) := by
  obtain ⟨cs, h1, h2, h3⟩ := h
  rw [cell_of_row w g i cs 133 (0, 0) h1]; exact h3 i hi
theorem Tab.frozen {w : World} {g k : Nat} (h : Tab w g k) (i : Nat) : w.frozen? ⟨g, i, none⟩ = false := by
  obtain ⟨cs, h1, h2, h3⟩ := h
  simp [World.frozen?, h1]
theorem Tab.any {w : World} {g k : Nat} (h : Tab w g k) (i : Nat) (hi : i < 16) : ∃ v, w.cell? ⟨g, i, none⟩ = some v := by
  obtain ⟨cs, h1, h2, h3⟩ := h
  rw [cell_of_row w g i cs 133 (0, 0) h1]
  exact ⟨cs[i], by rw [Array.getElem?_eq_getElem]⟩
theorem Tab.put {w : World} {g k : Nat} (h : Tab w g k) (hk : k < 16) : Tab (w.setCell ⟨g, k, none⟩ (val (it 4 (BitVec.ofNat 32 k)))) g (k + 1) := by
  obtain ⟨cs, h1, h2, h3⟩ := h
  refine ⟨cs.set! k (val (it 4 (BitVec.ofNat 32 k))), ?_, by simp [h2], fun i hi => ?_⟩
  · simp [World.setCell, Array.getElem?_modify, h1, Array.set!_eq_setIfInBounds]
  · rw [Array.set!_eq_setIfInBounds, Array.getElem?_setIfInBounds]
    by_cases hik : i = k
    · rw [if_pos hik.symm, if_pos (by omega), hik]
    · rw [if_neg (fun e => hik e.symm)]
      exact h3 i (by omega)
set_option maxHeartbeats 3200000 in
set_option maxRecDepth 100000 in
/-- A byte slice read by its cells: 'at' gives each one's cell. -/
theorem sum_walk (xs : List Int) (A : Option Addr) (c : Nat) (w : World) (hn : xs.length ≤ 9223372036854775807) (hat : ∀ k, k < xs.length → ∃ ad, A = some ad ∧ w.cell? (ad.add k) = some (.int .u8 (xs.getD k 0))) (hv : ∀ a, a ∈ xs → 0 ≤ a ∧ a ≤ 255) :
    Calls Tryd.prog 85 #[.slice A xs.length c] w fun e w' => e = .returned (.int .u32 ((crc xs).toNat : Int)) ∧ Below w.heap.size w w' := by
  have HAT := Lib.hid hat
  have HV := Lib.hid hv
  clear hat hv
  have HT0 : Hid (Tab (w.alloc (.cells #[.int .u32 0, .int .u32 0, .int .u32 0, .int .u32 0, .int .u32 0, .int .u32 0, .int .u32 0, .int .u32 0, .int .u32 0, .int .u32 0, .int .u32 0, .int .u32 0, .int .u32 0, .int .u32 0, .int .u32 0, .int .u32 0] 133)) w.heap.size 0) := ⟨_, heap_alloc_new w _, rfl, fun i hi => by omega⟩
  go_enter Tryd.func85, Tryd.ntmps85
  go_wp2_with fail
  go_loopw [9] (fun i wr => ∃ k : Nat, i = .int .i64 k ∧ k ≤ 16 ∧ Tab wr w.heap.size k ∧ Below w.heap.size w wr) (fun i _ => 16 - (intOf i).toNat)
  case atStart => exact ⟨0, rfl, by omega, HT0.out, (Below.refl _ _).alloc (Nat.le_refl _) _⟩
  case round =>
    obtain ⟨k, rfl, hk, ht, hb⟩ := hrel
    have HT := Lib.hid ht
    have HB := Lib.hid hb
    clear ht hb
    by_cases hk16 : k < 16
    · have f1 := HT.out.frozen k
      obtain ⟨v1, e1⟩ := HT.out.any k hk16
      have dk : decide ((k : Int) < 16) = true := decide_eq_true (by omega)
      have hofn : (((BitVec.ofNat 32 k).toNat : Nat) : Int) = (k : Int) := by rw [BitVec.toNat_ofNat]; omega
      have HOF := Lib.hid hofn
      clear hofn
      go_wp2_with fail
      go_loop [5, 14] (fun n j => ∃ q : Nat, n = val (it q (BitVec.ofNat 32 k)) ∧ j = .int .i64 q ∧ q ≤ 4) (fun _ j => 4 - (intOf j).toNat)
      case atStart => exact ⟨0, by simp only [it, val]; rw [HOF.out], rfl, by omega⟩
      case round =>
        obtain ⟨q, rfl, rfl, hq4⟩ := hrel
        obtain ⟨s, hs⟩ : ∃ s, s = it q (BitVec.ofNat 32 k) := ⟨_, rfl⟩
        have hsv := st_val s
        have HSV := Lib.hid hsv
        clear hsv
        have HS : Hid (it (q + 1) (BitVec.ofNat 32 k) = st s) := by show st (it q (BitVec.ofNat 32 k)) = st s; rw [← hs]
        rw [← hs]
        by_cases hq : q < 4
        · clear hs
          obtain ⟨n, hn⟩ : ∃ n : Int, n = (s.toNat : Int) := ⟨_, rfl⟩
          rw [← hn] at HSV
          go_wp2_with fail
          go_round
          case rel => exact ⟨q + 1, by rw [HS.out]; exact congrArg _ (st_val s), by go_num, by omega⟩
          case measure => simp [intOf]; omega
        · have hq' : q = 4 := by omega
          subst hq'
          have HP := Lib.hid (HT.out.put hk16)
          rw [← hs] at HP
          clear hs
          go_wp2_with fail
          go_roundw
          case rel => exact ⟨k + 1, by go_num, by omega, HP.out, HB.out.setCell (Nat.le_refl _) _⟩
          case measure => simp [intOf]; omega
    · have h16 : k = 16 := by omega
      have HT16 : Hid (Tab wr w.heap.size 16) := by rw [← h16]; exact HT.out
      clear h16
      go_wp2_with fail
      go_loop [6, 30] (fun n j => ∃ q : Nat, n = val (reg (xs.take q)) ∧ j = .int .i64 q ∧ q ≤ xs.length) (fun _ j => xs.length - (intOf j).toNat)
      case atStart => exact ⟨0, rfl, rfl, by omega⟩
      case round =>
        obtain ⟨q, rfl, rfl, hql⟩ := hrel
        by_cases hq : q < xs.length
        · obtain ⟨ad, rfl, hcell⟩ := HAT.out q hq
          have hcw : wr.cell? (ad.add q) = some (.int .u8 (xs.getD q 0)) := (HB.out.cell (World.block_lt_of_cell? w _ hcell)).trans hcell
          have hby : 0 ≤ xs.getD q 0 ∧ xs.getD q 0 ≤ 255 := by
            rw [List.getD_eq_getElem?_getD, List.getElem?_eq_getElem hq]; exact HV.out _ (List.getElem_mem hq)
          have htk : reg (xs.take (q + 1)) = eat (reg (xs.take q)) (xs.getD q 0) := by
            unfold reg
            rw [List.take_add_one, List.foldl_append, List.getElem?_eq_getElem hq, List.getD_eq_getElem?_getD, List.getElem?_eq_getElem hq]; rfl
          have HTK := Lib.hid htk
          obtain ⟨b, hb⟩ : ∃ b, b = xs.getD q 0 := ⟨_, rfl⟩
          rw [← hb] at hcw hby HTK
          obtain ⟨r, hr⟩ : ∃ r, r = reg (xs.take q) := ⟨_, rfl⟩
          rw [← hr] at HTK ⊢
          obtain ⟨y, hy⟩ : ∃ y, y = r ^^^ BitVec.ofInt 32 b := ⟨_, rfl⟩
          have key : ∀ s : B, ∃ i : Nat, Go.bits .and .u32 (s.toNat : Int) 15 = (i : Int) ∧ i < 16 ∧ wr.cell? ⟨w.heap.size, i, none⟩ = some (.int .u32 ((it 4 (s &&& 15#32)).toNat : Int)) ∧ Go.bits .xor .u32 ((s.toNat : Int) / 16) ((it 4 (s &&& 15#32)).toNat : Int) = ((it 4 s).toNat : Int) := by
            intro s
            have h1 := and_bv s 15#32
            have h2 : (s &&& 15#32).toNat < 16 := by
              rw [BitVec.toNat_and]; exact Nat.lt_of_le_of_lt Nat.and_le_right (by decide)
            refine ⟨(s &&& 15#32).toNat, h1, h2, ?_, ?_⟩
            · have := HT16.out.cell _ h2
              rwa [BitVec.ofNat_toNat, BitVec.setWidth_eq] at this
            · have h3 := shr_bv s 4
              rw [show ((2 ^ 4 : Nat) : Int) = 16 from rfl] at h3
              rw [h3, xor_bv, nib]
          have hx := eat_val r b hby
          rw [← hy] at hx
          obtain ⟨i1, a1, a2, a3, a4⟩ := key y
          obtain ⟨i2, b1, b2, b3, b4⟩ := key (it 4 y)
          have HE : Hid ((((it 4 (it 4 y)).toNat : Nat) : Int) = ((reg (xs.take (q + 1))).toNat : Int)) := by rw [HTK.out, eat, ← hy]; exact rfl
          obtain ⟨X, hX⟩ : ∃ n : Int, n = (r.toNat : Int) := ⟨_, rfl⟩
          obtain ⟨Y, hY⟩ : ∃ n : Int, n = (y.toNat : Int) := ⟨_, rfl⟩
          obtain ⟨Z, hZ⟩ : ∃ n : Int, n = ((it 4 y).toNat : Int) := ⟨_, rfl⟩
          obtain ⟨Z2, hZ2⟩ : ∃ n : Int, n = ((it 4 (it 4 y)).toNat : Int) := ⟨_, rfl⟩
          obtain ⟨T1, hT1⟩ : ∃ n : Int, n = ((it 4 (y &&& 15#32)).toNat : Int) := ⟨_, rfl⟩
          obtain ⟨T2, hT2⟩ : ∃ n : Int, n = ((it 4 (it 4 y &&& 15#32)).toNat : Int) := ⟨_, rfl⟩
          rw [← hX, ← hY] at hx
          rw [← hY] at a1 a4
          rw [← hT1] at a3 a4
          rw [← hZ] at a4 b1 b4
          rw [← hT2] at b3 b4
          rw [← hZ2] at b4 HE
          simp only [val]
          rw [← hX]
          have c1 : (0 : Int) ≤ (i1 : Int) := by omega
          have c2 : (i1 : Int) < 16 := by omega
          have c3 : (0 : Int) ≤ (i2 : Int) := by omega
          have c4 : (i2 : Int) < 16 := by omega
          have c5 : (q : Int) < (xs.length : Int) := by omega
          clear hcell htk hb hr hy hX hY hZ hZ2 hT1 hT2 key
          go_wp2_with fail
          go_roundw
          case rel => exact ⟨q + 1, congrArg _ HE.out, by go_num, by omega⟩
          case measure => simp [intOf]; omega
        · have htk : xs.take q = xs := List.take_of_length_le (by omega)
          rw [htk]
          have HN := Lib.hid (not_val (reg xs))
          obtain ⟨X, hX⟩ : ∃ n : Int, n = ((reg xs).toNat : Int) := ⟨_, rfl⟩
          rw [← hX] at HN
          simp only [val]
          rw [← hX]
          clear hX htk
          go_wp2_with fail
          go_ret
          exact ⟨by unfold crc; rw [← HN.out]; rfl, HB.out⟩
end Go.Proofs.YtoeiaimoppmjdaaDoor.Crc
/- The document's own sum, bit by bit from the highest: it is the register's. Plain. -/
namespace Go.Proofs.YtoeiaimoppmjdaaDoor.Crc
set_option linter.unusedVariables false
set_option linter.unusedSimpArgs false
def top : B := 2147483648#32
def bit (b : Bool) : B := if b = true then top else 0#32
/-- Bits of c taken in, from the lowest, at the register's far end. -/
def ms (s c : B) : Nat → B
  | 0 => s
  | k + 1 => st (ms s c k) ^^^ bit (c.getLsbD k)
theorem ms_xor (s c : B) (k : Nat) : ms s c k = it k s ^^^ ms 0#32 c k := by
  induction k with
  | zero => simp [ms, it]
  | succ k ih => simp only [ms, it]; rw [ih, st_xor, BitVec.xor_assoc]
theorem ms_zero : ∀ n : Fin 256, ms 0#32 (BitVec.ofNat 32 n.val) 8 = (BitVec.ofNat 32 n.val) <<< 24 := by decide +kernel
theorem ms_byte (s c : B) (h : c.toNat < 256) : ms s c 8 = it 8 s ^^^ (c <<< 24) := by
  rw [ms_xor]
  have := ms_zero ⟨c.toNat, h⟩
  simp only [BitVec.ofNat_toNat, BitVec.setWidth_eq] at this
  rw [this]
theorem it_shl (x : B) (h : x.toNat < 16777216) : it 8 (x <<< 8) = x := by
  have hb : ∀ i, 24 ≤ i → x.getLsbD i = false := fun i hi => by
    rw [BitVec.getLsbD]; exact Nat.testBit_lt_two_pow (Nat.lt_of_lt_of_le (show x.toNat < 2 ^ 24 from h) (Nat.pow_le_pow_right (by omega) hi))
  have key : ∀ k, k ≤ 8 → it k (x <<< 8) = x <<< (8 - k) := by
    intro k hk
    induction k with
    | zero => rfl
    | succ k ih =>
      simp only [it]
      rw [ih (by omega), st_low]
      · apply BitVec.eq_of_getLsbD_eq
        intro i hi
        rw [BitVec.getLsbD_ushiftRight, BitVec.getLsbD_shiftLeft, BitVec.getLsbD_shiftLeft]
        by_cases h1 : i < 8 - (k + 1)
        · have : 1 + i < 8 - k := by omega
          simp [h1, this]; intro _ hh; omega
        · have h2 : ¬ 1 + i < 8 - k := by omega
          have e : 1 + i - (8 - k) = i - (8 - (k + 1)) := by omega
          rw [e]
          by_cases h3 : 1 + i < 32
          · simp [h1, h2, h3, hi]; intro _; omega
          · have : x.getLsbD (i - (8 - (k + 1))) = false := hb _ (by omega)
            have e2 : i - (8 - (k + 1)) = i - (7 - k) := by omega
            rw [e2] at this
            simp [this]
      · rw [BitVec.getLsbD_shiftLeft]
        have : 0 < 8 - k := by omega
        simp [this]
  have := key 8 (by omega)
  rw [this]; simp
/-- The document's register (mirrored), byte by byte. -/
def sb (s c : B) : B := it 8 s ^^^ (c <<< 24)
/-- The byte at place i, 0 behind the end. -/
def at_ (xs : List Int) (i : Nat) : B := BitVec.ofInt 32 (xs.getD i 0)
def neg (i : Nat) (c : B) : B := if i < 4 then c ^^^ 255#32 else c
def S (xs : List Int) : Nat → B
  | 0 => 0#32
  | i + 1 => sb (S xs i) (neg i (at_ xs i))
def W (xs : List Int) (j : Nat) : B := at_ xs j ^^^ (at_ xs (j + 1) ^^^ (at_ xs (j + 2) ^^^ at_ xs (j + 3) <<< 8) <<< 8) <<< 8
theorem xor_lt (a b : B) (n : Nat) (ha : a.toNat < 2 ^ n) (hb : b.toNat < 2 ^ n) : (a ^^^ b).toNat < 2 ^ n := by
  rw [BitVec.toNat_xor]; exact Nat.xor_lt_two_pow ha hb
theorem shl_lt (a : B) (n : Nat) (ha : a.toNat < 2 ^ n) (hn : n ≤ 24) : (a <<< 8).toNat < 2 ^ (n + 8) := by
  rw [BitVec.toNat_shiftLeft, Nat.shiftLeft_eq]
  have : a.toNat * 2 ^ 8 < 2 ^ (n + 8) := by rw [Nat.pow_add]; exact Nat.mul_lt_mul_of_pos_right ha (by omega)
  exact Nat.lt_of_le_of_lt (Nat.mod_le _ _) this
theorem at_lt (xs : List Int) (hv : ∀ a, a ∈ xs → 0 ≤ a ∧ a ≤ 255) (i : Nat) : (at_ xs i).toNat < 2 ^ 8 := by
  unfold at_
  rw [List.getD_eq_getElem?_getD]
  by_cases h : i < xs.length
  · rw [List.getElem?_eq_getElem h]
    have := byte_bv _ (hv _ (List.getElem_mem h))
    have h2 := hv _ (List.getElem_mem h)
    simp only [Option.getD_some]
    omega
  · rw [List.getElem?_eq_none (by omega)]; decide
theorem at_end (xs : List Int) (i : Nat) (h : xs.length ≤ i) : at_ xs i = 0#32 := by
  unfold at_; rw [List.getD_eq_getElem?_getD, List.getElem?_eq_none h]; rfl
theorem shl_shl (x : B) (a b : Nat) : x <<< a <<< b = x <<< (a + b) := (BitVec.shiftLeft_add x a b).symm
theorem W_next (xs : List Int) (hv : ∀ a, a ∈ xs → 0 ≤ a ∧ a ≤ 255) (j : Nat) : it 8 (W xs j) ^^^ (at_ xs (j + 4) <<< 24) = it 8 (at_ xs j) ^^^ W xs (j + 1) := by
  have h1 : (at_ xs (j + 2) ^^^ at_ xs (j + 3) <<< 8).toNat < 2 ^ 16 := xor_lt _ _ 16 (Nat.lt_trans (at_lt xs hv _) (by omega)) (shl_lt _ 8 (at_lt xs hv _) (by omega))
  have h2 : (at_ xs (j + 1) ^^^ (at_ xs (j + 2) ^^^ at_ xs (j + 3) <<< 8) <<< 8).toNat < 2 ^ 24 := xor_lt _ _ 24 (Nat.lt_trans (at_lt xs hv _) (by omega)) (shl_lt _ 16 h1 (by omega))
  unfold W
  rw [it_xor, it_shl _ h2]
  simp only [BitVec.shiftLeft_xor_distrib, shl_shl, BitVec.xor_assoc]
theorem it8_24 (c : B) (hc : c.toNat < 2 ^ 8) : it 8 (c <<< 24) = c <<< 16 := by
  rw [show c <<< 24 = (c <<< 16) <<< 8 from (shl_shl c 16 8).symm]
  exact it_shl _ (by
    have h1 := shl_lt c 8 hc (by omega)
    have h2 := shl_lt (c <<< 8) 16 h1 (by omega)
    rw [shl_shl] at h2; exact h2)
theorem it8_16 (c : B) (hc : c.toNat < 2 ^ 8) : it 8 (c <<< 16) = c <<< 8 := by
  rw [show c <<< 16 = (c <<< 8) <<< 8 from (shl_shl c 8 8).symm]
  exact it_shl _ (Nat.lt_trans (shl_lt c 8 hc (by omega)) (by omega))
theorem it8_8 (c : B) (hc : c.toNat < 2 ^ 8) : it 8 (c <<< 8) = c := it_shl _ (Nat.lt_trans hc (by omega))
theorem it_zero (n : Nat) : it n 0#32 = 0#32 := by
  induction n with
  | zero => rfl
  | succ n ih => simp only [it]; rw [ih]; decide
theorem four (c0 c1 c2 c3 : B) (h0 : c0.toNat < 2 ^ 8) (h1 : c1.toNat < 2 ^ 8) (h2 : c2.toNat < 2 ^ 8) : sb (sb (sb (sb 0#32 c0) c1) c2) c3 = (c0 ^^^ c1 <<< 8 ^^^ c2 <<< 16) ^^^ c3 <<< 24 := by
  have e1 : sb 0#32 c0 = c0 <<< 24 := by unfold sb; rw [it_zero, BitVec.zero_xor]
  have e2 : sb (c0 <<< 24) c1 = c0 <<< 16 ^^^ c1 <<< 24 := by unfold sb; rw [it8_24 c0 h0]
  have e3 : sb (c0 <<< 16 ^^^ c1 <<< 24) c2 = (c0 <<< 8 ^^^ c1 <<< 16) ^^^ c2 <<< 24 := by unfold sb; rw [it_xor, it8_16 c0 h0, it8_24 c1 h1]
  rw [e1, e2, e3]
  unfold sb
  rw [it_xor, it_xor, it8_8 c0 h0, it8_16 c1 h1, it8_24 c2 h2]
theorem ones (a0 a1 a2 a3 : B) : ((a0 ^^^ 255#32) ^^^ (a1 ^^^ 255#32) <<< 8 ^^^ (a2 ^^^ 255#32) <<< 16) ^^^ (a3 ^^^ 255#32) <<< 24 = BitVec.allOnes 32 ^^^ (a0 ^^^ (a1 ^^^ (a2 ^^^ a3 <<< 8) <<< 8) <<< 8) := by
  have hall : BitVec.allOnes 32 = 255#32 ^^^ (255#32 <<< 8) ^^^ (255#32 <<< 16) ^^^ (255#32 <<< 24) := by decide
  rw [hall, BitVec.shiftLeft_xor_distrib a1, BitVec.shiftLeft_xor_distrib a2 (255#32), BitVec.shiftLeft_xor_distrib a3 (255#32), BitVec.shiftLeft_xor_distrib a2, BitVec.shiftLeft_xor_distrib a1, BitVec.shiftLeft_xor_distrib (a2 <<< 8), shl_shl, shl_shl, shl_shl]
  generalize (255#32 : B) <<< 8 = p
  generalize (255#32 : B) <<< 16 = q
  generalize (255#32 : B) <<< 24 = r
  generalize (255#32 : B) = s
  generalize a1 <<< 8 = b1
  generalize a2 <<< (8 + 8) = b2
  generalize a2 <<< 16 = b2
  generalize a3 <<< (8 + 8 + 8) = b3
  generalize a3 <<< 24 = b3
  ac_rfl
theorem S_reg (xs : List Int) (hv : ∀ a, a ∈ xs → 0 ≤ a ∧ a ≤ 255) (j : Nat) (hj : j ≤ xs.length) : S xs (j + 4) = reg (xs.take j) ^^^ W xs j := by
  induction j with
  | zero =>
    have n8 : ∀ i, ((at_ xs i) ^^^ 255#32).toNat < 2 ^ 8 := fun i => xor_lt _ _ 8 (at_lt xs hv i) (by decide)
    show sb (sb (sb (sb 0#32 (at_ xs 0 ^^^ 255#32)) (at_ xs 1 ^^^ 255#32)) (at_ xs 2 ^^^ 255#32)) (at_ xs 3 ^^^ 255#32) = BitVec.allOnes 32 ^^^ W xs 0
    rw [four _ _ _ _ (n8 0) (n8 1) (n8 2)]
    exact ones _ _ _ _
  | succ j ih =>
    have hj' : j < xs.length := by omega
    have htk : reg (xs.take (j + 1)) = it 8 (reg (xs.take j) ^^^ at_ xs j) := by
      unfold reg at_
      rw [List.take_add_one, List.foldl_append, List.getElem?_eq_getElem hj', List.getD_eq_getElem?_getD, List.getElem?_eq_getElem hj']; rfl
    show sb (S xs (j + 4)) (neg (j + 4) (at_ xs (j + 4))) = _
    rw [ih (by omega), htk]
    unfold sb neg
    rw [if_neg (by omega), it_xor, it_xor, BitVec.xor_assoc, W_next xs hv j, ← BitVec.xor_assoc]
theorem S_end (xs : List Int) (hv : ∀ a, a ∈ xs → 0 ≤ a ∧ a ≤ 255) : S xs (xs.length + 4) = reg xs := by
  rw [S_reg xs hv _ (Nat.le_refl _), List.take_length]
  unfold W
  rw [at_end _ _ (Nat.le_refl _), at_end _ _ (by omega), at_end _ _ (by omega), at_end _ _ (by omega)]
  simp
end Go.Proofs.YtoeiaimoppmjdaaDoor.Crc
/- tillref1.Sum: what it computes. -/
namespace Go.Proofs.YtoeiaimoppmjdaaDoor.Crc
open Go.RowKit
set_option linter.unusedVariables false
set_option linter.unusedSimpArgs false
theorem rev_bit (s : B) (i : Nat) (h : i < 32) : s.reverse.getLsbD i = s.getLsbD (31 - i) := by
  rw [BitVec.getLsbD_reverse, BitVec.getMsbD]; simp [h]
theorem rev_top (s : B) : s.reverse.toNat / 2147483648 = if s.getLsbD 0 = true then 1 else 0 := by
  have h := rev_bit s 31 (by omega)
  rw [BitVec.getLsbD, Nat.testBit_eq_decide_div_mod_eq] at h
  have hl := s.reverse.isLt
  rw [show (31 - 31 : Nat) = 0 from rfl] at h
  rw [← h]
  by_cases h2 : s.reverse.toNat / 2 ^ 31 % 2 = 1
  · rw [if_pos (by simp [h2])]; omega
  · rw [if_neg (by simp [h2])]; omega
def b01 (b : Bool) : B := if b = true then 1#32 else 0#32
theorem rev_shift (s : B) (b : Bool) : (s.reverse <<< 1) ||| b01 b = ((s >>> 1) ^^^ bit b).reverse := by
  apply BitVec.eq_of_getLsbD_eq
  intro i hi
  rw [rev_bit _ i hi, BitVec.getLsbD_or, BitVec.getLsbD_xor, BitVec.getLsbD_shiftLeft, BitVec.getLsbD_ushiftRight]
  have t1 : ∀ i, i < 32 → top.getLsbD i = decide (i = 31) := by decide
  have t2 : ∀ i, i < 32 → (1#32 : B).getLsbD i = decide (i = 0) := by decide
  by_cases h0 : i = 0
  · subst h0
    have : s.getLsbD (1 + (31 - 0)) = false := BitVec.getLsbD_of_ge _ _ (by omega)
    rw [this]
    unfold b01 bit
    cases b <;> simp [top]
  · rw [rev_bit s (i - 1) (by omega), show 31 - (i - 1) = 1 + (31 - i) by omega]
    have h1 : (b01 b).getLsbD i = false := by
      unfold b01; cases b <;> simp [t2 i hi, h0]
    have h2 : (bit b).getLsbD (31 - i) = false := by
      unfold bit; cases b <;> simp [t1 (31 - i) (by omega)]; omega
    rw [h1, h2]
    have : ¬ i < 1 := by omega
    simp [hi, this]
theorem rev_val (s : B) (b : Bool) : (s.reverse.toNat * 2 + (if b = true then 1 else 0)) % 4294967296 = ((s >>> 1) ^^^ bit b).reverse.toNat := by
  rw [← rev_shift]
  have h : s.reverse <<< 1 &&& b01 b = 0#32 := by
    apply BitVec.eq_of_getLsbD_eq
    intro i hi
    have t2 : ∀ i, i < 32 → (1#32 : B).getLsbD i = decide (i = 0) := by decide
    rw [BitVec.getLsbD_and, BitVec.getLsbD_shiftLeft]
    unfold b01
    by_cases h0 : i = 0
    · subst h0; simp
    · cases b <;> simp [t2 i hi, h0]
  rw [← BitVec.add_eq_or_of_and_eq_zero _ _ h, BitVec.toNat_add, BitVec.toNat_shiftLeft, Nat.shiftLeft_eq]
  have h2 : (b01 b).toNat = if b = true then 1 else 0 := by cases b <;> simp [b01]
  rw [h2]
  omega
theorem rev_poly : poly.reverse = 79764919#32 := by decide +kernel
theorem rev_xor (a b : B) : (a ^^^ b).reverse = a.reverse ^^^ b.reverse := by
  apply BitVec.eq_of_getLsbD_eq
  intro i hi
  rw [rev_bit _ i hi, BitVec.getLsbD_xor, BitVec.getLsbD_xor, rev_bit _ i hi, rev_bit _ i hi]
theorem rev_rev (a : B) : a.reverse.reverse = a := by
  apply BitVec.eq_of_getLsbD_eq
  intro i hi
  rw [rev_bit _ i hi, rev_bit _ _ (by omega)]
  congr 1; omega
/-- A step of the document's: the bit out at the top; doubled; the polynomial where it was one. -/
theorem step_no (s : B) (b : Bool) (h : s.getLsbD 0 = false) : (s.reverse.toNat * 2 + (if b = true then 1 else 0)) % 4294967296 = (st s ^^^ bit b).reverse.toNat := by
  rw [rev_val, st_low s h]
theorem step_yes (s : B) (b : Bool) (h : s.getLsbD 0 = true) : Go.bits .xor .u32 (((s.reverse.toNat * 2 + (if b = true then 1 else 0)) % 4294967296 : Nat) : Int) 79764919 = ((st s ^^^ bit b).reverse.toNat : Int) := by
  rw [rev_val]
  have h2 := xor_bv ((s >>> 1) ^^^ bit b).reverse poly.reverse
  rw [show ((poly.reverse.toNat : Nat) : Int) = 79764919 from by rw [rev_poly]; rfl] at h2
  rw [h2, ← rev_xor]
  unfold st
  rw [if_pos h, BitVec.xor_assoc, BitVec.xor_assoc, BitVec.xor_comm poly]
theorem byte_bit (c : B) (k : Nat) : c.toNat / 2 ^ k % 2 = if c.getLsbD k = true then 1 else 0 := by
  rw [BitVec.getLsbD, Nat.testBit_eq_decide_div_mod_eq]
  by_cases h : c.toNat / 2 ^ k % 2 = 1
  · rw [if_pos (by simp [h])]; exact h
  · rw [if_neg (by simp [h])]; omega
theorem neg_bit (c : B) (k : Nat) (hk : k < 8) : (c ^^^ 255#32).getLsbD k = ! c.getLsbD k := by
  have : ∀ k, k < 8 → (255#32 : B).getLsbD k = true := by decide
  rw [BitVec.getLsbD_xor, this k hk]; simp
theorem power_calls (k : Nat) (hk : k ≤ 8) (p : Int) (hp : p = ((2 ^ k : Nat) : Int)) (w : World) : Calls Tryd.prog 109 #[.int .i64 (k : Int)] w fun e w' => e = .returned (.int .u32 p) ∧ w = w' := by
  have HPP := Lib.hid hp
  clear hp
  go_enter Tryd.func109, Tryd.ntmps109
  go_wp2_with fail
  go_loop [3, 4] (fun p i => ∃ j : Nat, p = .int .u32 ((2 ^ j : Nat) : Int) ∧ i = .int .i64 j ∧ j ≤ k) (fun _ i => k - (intOf i).toNat)
  case atStart => exact ⟨0, rfl, rfl, by omega⟩
  case round =>
    obtain ⟨j, rfl, rfl, hj⟩ := hrel
    have hp : 2 ^ j ≤ 2 ^ 8 := Nat.pow_le_pow_right (by omega) (by omega)
    have hs : (2 : Nat) ^ (j + 1) = 2 ^ j * 2 := Nat.pow_succ 2 j
    have HS := Lib.hid hs
    obtain ⟨P, hP⟩ : ∃ P : Nat, P = 2 ^ j := ⟨_, rfl⟩
    rw [← hP] at hp HS ⊢
    have HP := Lib.hid hP
    clear hs hP
    by_cases hlt : j < k
    · go_wp2_with fail
      go_round
      case rel => exact ⟨j + 1, by rw [HS.out]; go_num, by go_num, by omega⟩
      case measure => simp [intOf]; omega
    · have he : j = k := by omega
      have HE := Lib.hid he
      go_wp2_with fail
      go_ret
      exact ⟨by rw [HPP.out, ← HE.out, ← HP.out]; rfl, rfl⟩
theorem mirrored_calls (n : B) (w : World) : Calls Tryd.prog 110 #[.int .u32 (n.toNat : Int)] w fun e w' => e = .returned (.int .u32 (n.reverse.toNat : Int)) ∧ w = w' := by
  go_enter Tryd.func110, Tryd.ntmps110
  go_wp2_with fail
  go_loop [0, 3, 4] (fun v x i => ∃ j : Nat, v = .int .u32 ((n.toNat / 2 ^ j : Nat) : Int) ∧ x = .int .u32 ((n.reverse.toNat / 2 ^ (32 - j) : Nat) : Int) ∧ i = .int .i64 j ∧ j ≤ 32) (fun _ _ i => 32 - (intOf i).toNat)
  case atStart => exact ⟨0, by simp, by simp [Nat.div_eq_of_lt n.reverse.isLt], rfl, by omega⟩
  case round =>
    obtain ⟨j, rfl, rfl, rfl, hj⟩ := hrel
    by_cases hlt : j < 32
    · have h1 : n.toNat / 2 ^ (j + 1) = n.toNat / 2 ^ j / 2 := by rw [Nat.pow_succ, Nat.div_div_eq_div_mul]
      have h2 : n.reverse.toNat / 2 ^ (32 - (j + 1)) = n.reverse.toNat / 2 ^ (32 - j) * 2 + n.toNat / 2 ^ j % 2 := by
        have e1 : (2 : Nat) ^ (32 - j) = 2 ^ (32 - (j + 1)) * 2 := by rw [← Nat.pow_succ]; congr 1; omega
        have e2 := byte_bit n.reverse (32 - (j + 1))
        have e3 := byte_bit n j
        rw [rev_bit n _ (by omega), show 31 - (32 - (j + 1)) = j by omega] at e2
        rw [e1, ← Nat.div_div_eq_div_mul, e3, ← e2]
        omega
      have h3 : n.reverse.toNat / 2 ^ (32 - j) < 2147483648 := by
        have e1 : (2 : Nat) ≤ 2 ^ (32 - j) := by
          calc (2 : Nat) = 2 ^ 1 := rfl
            _ ≤ _ := Nat.pow_le_pow_right (by omega) (by omega)
        exact Nat.lt_of_le_of_lt (Nat.div_le_div_left e1 (by omega)) (by have := n.reverse.isLt; omega)
      have h4 : n.toNat / 2 ^ j < 4294967296 := Nat.lt_of_le_of_lt (Nat.div_le_self _ _) n.isLt
      have H1 := Lib.hid h1
      have H2 := Lib.hid h2
      clear h1 h2
      obtain ⟨N, hN⟩ : ∃ N : Nat, N = n.toNat / 2 ^ j := ⟨_, rfl⟩
      obtain ⟨X, hX⟩ : ∃ X : Nat, X = n.reverse.toNat / 2 ^ (32 - j) := ⟨_, rfl⟩
      rw [← hN] at H1 H2 h4 ⊢
      rw [← hX] at H2 h3 ⊢
      clear hN hX
      go_wp2_with fail
      go_round
      case rel => exact ⟨j + 1, by rw [H1.out]; go_num, by rw [H2.out]; go_num, by go_num, by omega⟩
      case measure => simp [intOf]; omega
    · have he : j = 32 := by omega
      have HE : Hid (((n.reverse.toNat / 2 ^ (32 - j) : Nat) : Int) = (n.reverse.toNat : Int)) := by rw [he]; exact congrArg _ (Nat.div_one _)
      clear he
      obtain ⟨X, hX⟩ : ∃ X : Int, X = ((n.reverse.toNat / 2 ^ (32 - j) : Nat) : Int) := ⟨_, rfl⟩
      rw [← hX] at HE ⊢
      clear hX
      go_wp2_with fail
      go_ret
      exact ⟨by rw [← HE.out]; rfl, rfl⟩
theorem bit_val (b : Bool) : ((if b = true then 1 else 0 : Nat) : Int) = if b = true then 1 else 0 := by cases b <;> rfl
/-- One bit taken in by the document's sum. -/
theorem ms_val (s c : B) (k : Nat) : ms s c (k + 1) = st (ms s c k) ^^^ bit (c.getLsbD k) := rfl
set_option maxHeartbeats 6400000 in
set_option maxRecDepth 100000 in
theorem rsum_walk (xs : List Int) (A : Option Addr) (c : Nat) (w : World) (hn : xs.length ≤ 4611686018427387904) (hat : ∀ k, k < xs.length → ∃ ad, A = some ad ∧ w.cell? (ad.add k) = some (.int .u8 (xs.getD k 0))) (hv : ∀ a, a ∈ xs → 0 ≤ a ∧ a ≤ 255) :
    Calls Tryd.prog 106 #[.slice A xs.length c] w fun e w' => e = .returned (.int .u32 ((crc xs).toNat : Int)) ∧ Below w.heap.size w w' := by
  have HAT := Lib.hid hat
  have HV := Lib.hid hv
  clear hat hv
  go_enter Tryd.func106, Tryd.ntmps106
  go_wp2_with fail
  go_loopw [3, 4] (fun r i wr => ∃ j : Nat, r = .int .u32 ((S xs j).reverse.toNat : Int) ∧ i = .int .i64 j ∧ j ≤ xs.length + 4 ∧ Below w.heap.size w wr) (fun _ i _ => xs.length + 4 - (intOf i).toNat)
  case atStart => exact ⟨0, by simp [S]; decide, rfl, by omega, Below.refl _ _⟩
  case round =>
    obtain ⟨j, rfl, rfl, hj, hb⟩ := hrel
    have HB := Lib.hid hb
    clear hb
    by_cases hlt : j < xs.length + 4
    · have hlt' : (j : Int) < (xs.length : Int) + 4 := by omega
      have HST : Hid (S xs (j + 1) = ms (S xs j) (neg j (at_ xs j)) 8) := by
        have hl : (neg j (at_ xs j)).toNat < 256 := by
          unfold neg; split
          · exact xor_lt _ _ 8 (at_lt xs HV.out j) (by decide)
          · exact at_lt xs HV.out j
        show sb _ _ = _
        rw [ms_byte _ _ hl]; rfl
      obtain ⟨wo, rfl⟩ : ∃ wo : World, wo = wr := ⟨_, rfl⟩
      obtain ⟨R0, hR0⟩ : ∃ R0 : Int, R0 = ((S xs j).reverse.toNat : Int) := ⟨_, rfl⟩
      have HR0 := Lib.hid hR0
      rw [← hR0]
      clear hR0
      go_wp2_with fail
      go_loopw [3, 5] (fun r i wr => ∃ k : Nat, r = .int .u32 ((ms (S xs j) (neg j (at_ xs j)) k).reverse.toNat : Int) ∧ i = .int .i64 k ∧ k ≤ 8 ∧ Below w.heap.size w wr) (fun _ i _ => 8 - (intOf i).toNat)
      case atStart => exact ⟨0, by rw [HR0.out]; rfl, rfl, by omega, HB.out⟩
      case round =>
        obtain ⟨k, rfl, rfl, hk, hbk⟩ := hrel
        have HBK := Lib.hid hbk
        clear hbk
        by_cases hk8 : k < 8
        · obtain ⟨s, hs⟩ : ∃ s, s = ms (S xs j) (neg j (at_ xs j)) k := ⟨_, rfl⟩
          obtain ⟨e, he⟩ : ∃ e, e = neg j (at_ xs j) := ⟨_, rfl⟩
          have hnext : ms (S xs j) (neg j (at_ xs j)) (k + 1) = st s ^^^ bit (e.getLsbD k) := by rw [ms_val, ← hs, ← he]
          have HNX := Lib.hid hnext
          rw [← hs]
          obtain ⟨v, hv⟩ : ∃ v : Nat, v = if e.getLsbD k = true then 1 else 0 := ⟨_, rfl⟩
          have hv1 : v ≤ 1 := by rw [hv]; split <;> omega
          obtain ⟨R, hR⟩ : ∃ R : Int, R = (s.reverse.toNat : Int) := ⟨_, rfl⟩
          obtain ⟨N, hN⟩ : ∃ N : Int, N = ((ms (S xs j) (neg j (at_ xs j)) (k + 1)).reverse.toNat : Int) := ⟨_, rfl⟩
          have hRr : 0 ≤ R ∧ R < 4294967296 := by rw [hR]; have := s.reverse.isLt; omega
          have HNN := Lib.hid hN
          have hstep : (R / 2147483648 = 0 ∧ (R * 2 + (v : Int)) % 4294967296 = N) ∨ (R / 2147483648 = 1 ∧ Go.bits .xor .u32 ((R * 2 + (v : Int)) % 4294967296) 79764919 = N) := by
            have ht := rev_top s
            by_cases hl : s.getLsbD 0 = true
            · right
              rw [if_pos hl] at ht
              refine ⟨by rw [hR]; omega, ?_⟩
              have := step_yes s (e.getLsbD k) hl
              rw [← hv, ← hnext, ← hN] at this
              rw [← this, hR]
              congr 1
            · left
              rw [if_neg hl] at ht
              refine ⟨by rw [hR]; omega, ?_⟩
              have := step_no s (e.getLsbD k) (by simpa using hl)
              rw [← hv, ← hnext] at this
              rw [hN, ← this, hR]; omega
          have hbits : j < xs.length → ∃ q : Nat, q ≤ 1 ∧ xs.getD j 0 / ((2 ^ k : Nat) : Int) % 2 = (q : Int) ∧ v = if j < 4 then 1 - q else q := fun hjl => by
            have hb := byte_bit (at_ xs j) k
            have hc : ((at_ xs j).toNat : Int) = xs.getD j 0 := byte_bv _ (by rw [List.getD_eq_getElem?_getD, List.getElem?_eq_getElem hjl]; exact HV.out _ (List.getElem_mem hjl))
            refine ⟨if (at_ xs j).getLsbD k = true then 1 else 0, by split <;> omega, ?_, ?_⟩
            · rw [← hc, ← hb]; rfl
            · rw [hv, he]
              unfold neg
              by_cases h4 : j < 4
              · rw [if_pos h4, if_pos h4, neg_bit _ _ hk8]
                cases (at_ xs j).getLsbD k <;> rfl
              · rw [if_neg h4, if_neg h4]
          have hnil : ¬ j < xs.length → v = if j < 4 then 1 else 0 := fun hjl => by
            rw [hv, he, at_end _ _ (by omega)]
            unfold neg
            by_cases h4 : j < 4
            · rw [if_pos h4, if_pos h4, neg_bit _ _ hk8]; simp
            · rw [if_neg h4, if_neg h4]; simp
          have HBITS := Lib.hid hbits
          have HNIL := Lib.hid hnil
          rw [← hR]
          clear hbits hnil hnext hs he hv hR hN
          have hk8' : (k : Int) < 8 := by omega
          by_cases hjl : j < xs.length
          · obtain ⟨ad, rfl, hcell⟩ := HAT.out j hjl
            have hcw : wr.cell? (ad.add j) = some (.int .u8 (xs.getD j 0)) := (HBK.out.cell (World.block_lt_of_cell? w _ hcell)).trans hcell
            have hby : 0 ≤ xs.getD j 0 ∧ xs.getD j 0 ≤ 255 := by
              rw [List.getD_eq_getElem?_getD, List.getElem?_eq_getElem hjl]; exact HV.out _ (List.getElem_mem hjl)
            obtain ⟨q, q1, q2, q3⟩ := HBITS.out hjl
            obtain ⟨b, hbb⟩ : ∃ b, b = xs.getD j 0 := ⟨_, rfl⟩
            obtain ⟨P, hP⟩ : ∃ P : Int, P = ((2 ^ k : Nat) : Int) := ⟨_, rfl⟩
            have hp : 1 ≤ P ∧ P ≤ 256 := by
              have h1 : 1 ≤ 2 ^ k := Nat.one_le_two_pow
              have h2 : 2 ^ k ≤ 2 ^ 8 := Nat.pow_le_pow_right (by omega) hk
              omega
            have CP := Lib.hid (power_calls k hk P hP)
            rw [← hbb, ← hP] at q2
            rw [← hbb] at hcw hby
            obtain ⟨D, hD⟩ : ∃ D : Int, b / P = D := ⟨_, rfl⟩
            rw [hD] at q2
            have hDr : 0 ≤ D ∧ D ≤ 255 := by
              rw [← hD]
              exact ⟨Int.ediv_nonneg hby.1 (by omega), Int.le_trans (Int.ediv_le_self _ hby.1) hby.2⟩
            have hjl' : (j : Int) < (xs.length : Int) := by omega
            have hp0 : P ≠ 0 := by omega
            clear hcell hbb hP
            by_cases h4 : j < 4
            · have h4' : (j : Int) < 4 := by omega
              rw [if_pos h4] at q3
              rcases hstep with ⟨hs1, hs2⟩ | ⟨hs1, hs2⟩
              · have HS2 := Lib.hid hs2
                clear hs2
                go_wp2_with fail
                go_region_held3 (fun w' => w'.cell? (ad.add j) = some (.int .u8 b)) (go_keep)
                    (first | (go_at_call 109; refine (CP.out _).mono ?_; rintro e w9 ⟨rfl, rfl⟩))
                go_wp2_with fail
                have hs2 := HS2.out
                go_roundw
                case rel => exact ⟨k + 1, (by rw [← HNN.out, ← hs2]; congr 1; omega), by go_num, by omega, by first | exact HBK.out.drew | exact HBK.out⟩
                case measure => simp [intOf]; omega
              · have HS2 := Lib.hid hs2
                clear hs2
                go_wp2_with fail
                go_region_held3 (fun w' => w'.cell? (ad.add j) = some (.int .u8 b)) (go_keep)
                    (first | (go_at_call 109; refine (CP.out _).mono ?_; rintro e w9 ⟨rfl, rfl⟩))
                go_wp2_with fail
                have hs2 := HS2.out
                go_roundw
                case rel => exact ⟨k + 1, (by rw [← HNN.out, ← hs2]; congr 2; omega), by go_num, by omega, by first | exact HBK.out.drew | exact HBK.out⟩
                case measure => simp [intOf]; omega
            · have h4' : ¬ (j : Int) < 4 := by omega
              rw [if_neg h4] at q3
              rcases hstep with ⟨hs1, hs2⟩ | ⟨hs1, hs2⟩
              · have HS2 := Lib.hid hs2
                clear hs2
                go_wp2_with fail
                go_region_held3 (fun w' => w'.cell? (ad.add j) = some (.int .u8 b)) (go_keep)
                    (first | (go_at_call 109; refine (CP.out _).mono ?_; rintro e w9 ⟨rfl, rfl⟩))
                go_wp2_with fail
                have hs2 := HS2.out
                go_roundw
                case rel => exact ⟨k + 1, (by rw [← HNN.out, ← hs2]; congr 1; omega), by go_num, by omega, by first | exact HBK.out.drew | exact HBK.out⟩
                case measure => simp [intOf]; omega
              · have HS2 := Lib.hid hs2
                clear hs2
                go_wp2_with fail
                go_region_held3 (fun w' => w'.cell? (ad.add j) = some (.int .u8 b)) (go_keep)
                    (first | (go_at_call 109; refine (CP.out _).mono ?_; rintro e w9 ⟨rfl, rfl⟩))
                go_wp2_with fail
                have hs2 := HS2.out
                go_roundw
                case rel => exact ⟨k + 1, (by rw [← HNN.out, ← hs2]; congr 2; omega), by go_num, by omega, by first | exact HBK.out.drew | exact HBK.out⟩
                case measure => simp [intOf]; omega
          · have q3 := HNIL.out hjl
            have hjl' : ¬ (j : Int) < (xs.length : Int) := by omega
            by_cases h4 : j < 4
            · have h4' : (j : Int) < 4 := by omega
              rw [if_pos h4] at q3
              rcases hstep with ⟨hs1, hs2⟩ | ⟨hs1, hs2⟩
              · have HS2 := Lib.hid hs2
                clear hs2
                go_wp2_with fail
                have hs2 := HS2.out
                go_roundw
                case rel => exact ⟨k + 1, (by rw [← HNN.out, ← hs2]; congr 1; omega), by go_num, by omega, by first | exact HBK.out.drew | exact HBK.out⟩
                case measure => simp [intOf]; omega
              · have HS2 := Lib.hid hs2
                clear hs2
                go_wp2_with fail
                have hs2 := HS2.out
                go_roundw
                case rel => exact ⟨k + 1, (by rw [← HNN.out, ← hs2]; congr 2; omega), by go_num, by omega, by first | exact HBK.out.drew | exact HBK.out⟩
                case measure => simp [intOf]; omega
            · have h4' : ¬ (j : Int) < 4 := by omega
              rw [if_neg h4] at q3
              rcases hstep with ⟨hs1, hs2⟩ | ⟨hs1, hs2⟩
              · have HS2 := Lib.hid hs2
                clear hs2
                go_wp2_with fail
                have hs2 := HS2.out
                go_roundw
                case rel => exact ⟨k + 1, (by rw [← HNN.out, ← hs2]; congr 1; omega), by go_num, by omega, by first | exact HBK.out.drew | exact HBK.out⟩
                case measure => simp [intOf]; omega
              · have HS2 := Lib.hid hs2
                clear hs2
                go_wp2_with fail
                have hs2 := HS2.out
                go_roundw
                case rel => exact ⟨k + 1, (by rw [← HNN.out, ← hs2]; congr 2; omega), by go_num, by omega, by first | exact HBK.out.drew | exact HBK.out⟩
                case measure => simp [intOf]; omega
        · have hk9 : k = 8 := by omega
          have HE : Hid (((ms (S xs j) (neg j (at_ xs j)) k).reverse.toNat : Int) = ((S xs (j + 1)).reverse.toNat : Int)) := by rw [HST.out, hk9]; exact rfl
          obtain ⟨R, hR⟩ : ∃ R : Int, R = ((ms (S xs j) (neg j (at_ xs j)) k).reverse.toNat : Int) := ⟨_, rfl⟩
          rw [← hR] at HE ⊢
          clear hR hk9
          go_wp2_with fail
          go_roundw
          case rel => exact ⟨j + 1, by rw [HE.out], by go_num, by omega, HBK.out⟩
          case measure => simp [intOf]; omega
    · have hj4 : j = xs.length + 4 := by omega
      have HE : Hid ((S xs j).reverse.reverse = reg xs) := by rw [hj4, S_end xs HV.out, rev_rev]; exact rfl
      have CM := Lib.hid (mirrored_calls (S xs j).reverse)
      have HN := Lib.hid (not_val (S xs j).reverse.reverse)
      obtain ⟨X, hX⟩ : ∃ X : Int, X = ((S xs j).reverse.toNat : Int) := ⟨_, rfl⟩
      obtain ⟨Y, hY⟩ : ∃ Y : Int, Y = ((S xs j).reverse.reverse.toNat : Int) := ⟨_, rfl⟩
      rw [← hX, ← hY] at CM
      rw [← hY] at HN
      rw [← hX]
      clear hX hY hj4
      have hge : ¬ (j : Int) < (xs.length : Int) + 4 := by omega
      go_wp2_with fail
      refine (CM.out _).mono ?_; rintro e w' ⟨rfl, rfl⟩
      go_wp2_with fail
      go_ret
      exact ⟨by unfold crc; rw [← HE.out, ← HN.out]; rfl, HB.out⟩
end Go.Proofs.YtoeiaimoppmjdaaDoor.Crc
/- Arguments opened: from the form's own reading of an argument to what its cells say (the print's kinds), type by type; the bulk of the reading bounds every length. -/
namespace Go.Proofs.YtoeiaimoppmjdaaDoor.Opn
open Go Go.ChangeShapes Go.WideShapes Go.RowKit Go.Deep Go.Proofs.YtoeiaimoppmjdaaDoorW.PrintWords
set_option linter.unusedVariables false
set_option linter.unusedSimpArgs false

theorem bulk_one {H : Type} (d : DataW H) : 1 ≤ Rows.uptoBulk d := by
  cases d with
  | lit l => cases l <;> simp [Rows.uptoBulk]
  | nil => simp [Rows.uptoBulk]
  | ptr d => simp [Rows.uptoBulk]
  | slice elems spare => simp [Rows.uptoBulk]
  | agg parts => simp [Rows.uptoBulk]
  | iface t d => simp [Rows.uptoBulk]
  | map entries => simp [Rows.uptoBulk]
  | held h => simp [Rows.uptoBulk]

/-- Every reading of type T has its cells as kind d says, of a value that is valid (V), and is at least of bulk B. -/
structure Opens {α : Type} (P : Program) (T : TypeId) (d : Kd α) (V : α → Prop) (B : α → Nat) : Prop where
  sz : P.cellsOf T = d.sz
  go : ∀ {H : Type} {enc : TypeId × Value → H} {w : World} {fuel : Nat} {cs : List Value} {x : DataW H × List MemPlace},
    DataW.trod enc P w 0 (fun _ => true) true fuel T cs = some x → ∃ a, d.K w a cs ∧ V a ∧ B a ≤ Rows.uptoBulk x.1

theorem opens_int {P : Program} {T : TypeId} {k : IntKind} (ht : P.underlying T = some (.int k)) (hc : P.cellsOf T = 1) : Opens P T (Kd.int k) (fun n => (Lit.int k n).wf = true) (fun _ => 1) :=
  ⟨hc, fun h => by
    obtain ⟨n, rfl, rfl, wf⟩ := DataW.trod_int ht h
    exact ⟨n, rfl, wf, bulk_one _⟩⟩
theorem opens_bool {P : Program} {T : TypeId} (ht : P.underlying T = some .bool) (hc : P.cellsOf T = 1) : Opens P T Kd.bool (fun _ => True) (fun _ => 1) :=
  ⟨hc, fun h => by
    obtain ⟨b, rfl, rfl⟩ := DataW.trod_bool ht h
    exact ⟨b, rfl, trivial, bulk_one _⟩⟩
theorem opens_string {P : Program} {T : TypeId} (ht : P.underlying T = some .string) (hc : P.cellsOf T = 1) : Opens P T Kd.string (fun _ => True) (fun s => s.size + 1) :=
  ⟨hc, fun h => by
    obtain ⟨s, rfl, rfl, _⟩ := DataW.trod_string ht h
    refine ⟨s, rfl, trivial, ?_⟩
    simp [Rows.uptoBulk]⟩
/-- A list's bulk. -/
def sumB {α : Type} (B : α → Nat) : List α → Nat
  | [] => 0
  | a :: l => B a + sumB B l
theorem sumB_le {α H : Type} (B : α → Nat) (f : Nat → α) (D : Nat → DataW H) : ∀ n, (∀ i, i < n → B (f i) ≤ Rows.uptoBulk (D i)) → sumB B ((List.range n).map f) ≤ Rows.uptoBulkAll ((List.range n).map D) := by
  intro n h
  have key : ∀ l : List Nat, (∀ i, i ∈ l → B (f i) ≤ Rows.uptoBulk (D i)) → sumB B (l.map f) ≤ Rows.uptoBulkAll (l.map D) := by
    intro l
    induction l with
    | nil => intro _; simp [sumB]
    | cons x l ih =>
      intro h
      have h1 := h x (List.mem_cons_self)
      have h2 := ih (fun i hi => h i (List.mem_cons_of_mem _ hi))
      simp only [List.map_cons, sumB, Rows.uptoBulkAll]
      omega
  exact key _ (fun i hi => h i (List.mem_range.1 hi))
theorem sumB_mem {α : Type} {B : α → Nat} {a : α} {l : List α} (h : a ∈ l) : B a ≤ sumB B l := by
  induction l with
  | nil => cases h
  | cons x l ih =>
    simp only [sumB]
    rcases List.mem_cons.1 h with rfl | h
    · omega
    · have := ih h; omega
theorem sumB_length {α : Type} {B : α → Nat} (hB : ∀ a, 1 ≤ B a) (l : List α) : l.length ≤ sumB B l := by
  induction l with
  | nil => simp [sumB]
  | cons x l ih => have := hB x; simp only [sumB, List.length_cons]; omega

theorem opens_slice {α : Type} [Inhabited α] {P : Program} {T e : TypeId} {d : Kd α} {V : α → Prop} {B : α → Nat} (ht : P.underlying T = some (.slice e)) (hc : P.cellsOf T = 1) (he : Opens P e d V B) :
    Opens P T (Kd.slice e d) (fun l => ∀ a, a ∈ l → V a) (fun l => sumB B l + 1) :=
  ⟨hc, by
    intro H enc w fuel cs x h
    rcases open_slice ht h with ⟨rfl, rfl⟩ | ⟨a, len, cap, m, n, D, Pl, rfl, _, hl, hm, hmm, rfl, hi⟩
    · exact ⟨([] : List α), ⟨none, 0, rfl, Nat.le_refl _, rfl, Nat.zero_le _, fun h => absurd h (Nat.lt_irrefl 0)⟩, ⟨fun a ha => absurd ha List.not_mem_nil, by simp [sumB, Rows.uptoBulk]⟩⟩
    · have hlm : len ≤ m := by simp at hmm; omega
      obtain ⟨f, hf⟩ := choose_lt (α := α) (n := len) (p := fun i y => ∃ cs', w.cells? 0 (a.add (i * P.cellsOf e)) (P.cellsOf e) = some cs' ∧ d.K w y cs' ∧ V y ∧ B y ≤ Rows.uptoBulk (D i)) (fun i hil => by
        obtain ⟨cs', h1, h2⟩ := hi i (by omega)
        obtain ⟨y, hK, hV, hB⟩ := he.go h2
        exact ⟨y, cs', h1, hK, hV, hB⟩)
      refine ⟨(List.range len).map f, ⟨some a, cap, by simp, by simpa using hl, by simp, by simp only [maxLen] at hm; simp; omega, fun hp => ⟨a, rfl, fun j p hj => ?_⟩⟩, fun y hy => ?_, ?_⟩
      · have hjl : j < len := by
          have := (List.getElem?_eq_some_iff.1 hj).1
          simpa using this
        obtain ⟨cs', h1, hK, _, _⟩ := hf j hjl
        have hp' : p = f j := by
          rw [List.getElem?_map, List.getElem?_range hjl] at hj
          simpa using hj.symm
        subst hp'
        obtain ⟨_, hlen, hcell⟩ := World.cells?_some h1
        refine ⟨cs', d.K_len hK, hK, fun i u hu => ?_⟩
        have hil : i < cs'.length := (List.getElem?_eq_some_iff.1 hu).1
        rw [he.sz] at hcell hlen
        have := hcell i (by omega)
        rw [Go.Deep.add_add] at this
        rw [this]; exact hu
      · obtain ⟨i, hi', rfl⟩ := List.mem_map.1 hy
        exact (hf i (List.mem_range.1 hi')).choose_spec.2.2.1
      · have := sumB_le B f D len (fun i hil => (hf i hil).choose_spec.2.2.2)
        simp only [Rows.uptoBulk]
        omega⟩

/-- The fields from place i on, whose cells begin at off. -/
structure OpensF {α : Type} (P : Program) (fs : List Go.Field) (off : Nat) (d : Kd α) (V : α → Prop) (B : α → Nat) : Prop where
  go : ∀ {H : Type} {enc : TypeId × Value → H} {w : World} {n : Nat} {cs : List Value} {ys : List (DataW H × List MemPlace)}, off + d.sz ≤ cs.length → ys.length = fs.length →
    (∀ (i : Nat) (f : Go.Field), fs[i]? = some f → DataW.trod enc P w 0 (fun _ => true) true n f.type ((cs.drop f.offset).take (P.cellsOf f.type)) = ys[i]?) →
    ∃ a, d.K w a ((cs.drop off).take d.sz) ∧ V a ∧ B a ≤ Rows.uptoBulkAll (ys.map (·.1))
theorem opensF_one {α : Type} {P : Program} {f : Go.Field} {d : Kd α} {V : α → Prop} {B : α → Nat} (h : Opens P f.type d V B) : OpensF P [f] f.offset d V B :=
  ⟨by
    intro H enc w n cs ys hl hy hg
    match ys, hy with
    | [y], _ =>
      have h0 := hg 0 f rfl
      rw [h.sz] at h0
      obtain ⟨a, hK, hV, hB⟩ := h.go h0
      refine ⟨a, hK, hV, ?_⟩
      simp only [List.map_cons, List.map_nil, Rows.uptoBulkAll]
      omega⟩
theorem opensF_cons {α β : Type} {P : Program} {f : Go.Field} {fs : List Go.Field} {off : Nat} {d : Kd α} {V : α → Prop} {B : α → Nat} {d' : Kd β} {V' : β → Prop} {B' : β → Nat} (h : Opens P f.type d V B) (h' : OpensF P fs off d' V' B') (ho : off = f.offset + d.sz) :
    OpensF P (f :: fs) f.offset (Kd.pair d d') (fun x => V x.1 ∧ V' x.2) (fun x => B x.1 + B' x.2) :=
  ⟨by
    intro H enc w n cs ys hl hy hg
    match ys, hy with
    | y :: ys, hy =>
      have h0 := hg 0 f rfl
      rw [h.sz] at h0
      obtain ⟨a, hK, hV, hB⟩ := h.go h0
      have hl' : f.offset + (d.sz + d'.sz) ≤ cs.length := hl
      obtain ⟨b, hK', hV', hB'⟩ := h'.go (ys := ys) (cs := cs) (n := n) (w := w) (enc := enc) (by omega) (by simpa using hy) (fun i f' hf' => hg (i + 1) f' hf')
      refine ⟨(a, b), ⟨_, _, ?_, hK, hK'⟩, ⟨hV, hV'⟩, ?_⟩
      · subst ho
        show (cs.drop f.offset).take (d.sz + d'.sz) = _
        rw [List.take_add, List.drop_drop]
      · simp only [List.map_cons, Rows.uptoBulkAll]
        omega⟩
theorem opens_struct {α : Type} {P : Program} {T : TypeId} {fs : Array Go.Field} {d : Kd α} {V : α → Prop} {B : α → Nat} (ht : P.underlying T = some (.struct fs)) (hc : P.cellsOf T = d.sz) (h : OpensF P fs.toList 0 d V B) :
    Opens P T d V (fun x => B x + 1) :=
  ⟨hc, by
    intro H enc w fuel cs x hx
    obtain ⟨xs, n, _, rfl, hlen, hxl, hg⟩ := DataW.trod_struct ht hx
    obtain ⟨a, hK, hV, hB⟩ := h.go (cs := cs) (ys := xs) (n := n) (w := w) (enc := enc) (by omega) (by simpa using hxl) (fun i f hf => hg i f (by simpa using hf))
    refine ⟨a, ?_, hV, ?_⟩
    · rw [hc] at hlen
      simpa [← hlen] using hK
    · simp only [Rows.uptoBulk]
      omega⟩
/-- An array of two. -/
theorem opens_two {α : Type} {P : Program} {T e : TypeId} {d : Kd α} {V : α → Prop} {B : α → Nat} (ht : P.underlying T = some (.array 2 e)) (hc : P.cellsOf T = d.sz + d.sz) (h : Opens P e d V B) :
    Opens P T (Kd.pair d d) (fun x => V x.1 ∧ V x.2) (fun x => B x.1 + B x.2 + 1) :=
  ⟨hc, by
    intro H enc w fuel cs x hx
    obtain ⟨xs, n, _, rfl, hlen, hxl, hg⟩ := DataW.trod_array ht hx
    match xs, hxl with
    | [y0, y1], _ =>
      have h0 := hg 0 (by omega)
      have h1 := hg 1 (by omega)
      rw [h.sz] at h0 h1
      rw [hc] at hlen
      obtain ⟨a, hK, hV, hB⟩ := h.go h0
      obtain ⟨b, hK', hV', hB'⟩ := h.go h1
      refine ⟨(a, b), ⟨_, _, ?_, hK, hK'⟩, ⟨hV, hV'⟩, ?_⟩
      · rw [Nat.zero_mul, List.drop_zero, Nat.one_mul]
        have : (cs.drop d.sz).take d.sz = cs.drop d.sz := List.take_of_length_le (by simp; omega)
        rw [this, List.take_append_drop]
      · simp only [List.map_cons, List.map_nil, Rows.uptoBulk, Rows.uptoBulkAll]
        omega⟩
/-- The value of a struct parameter: its cells. -/
theorem open_arg {P : Program} {H : Type} {enc : TypeId × Value → H} {W : World} {T : TypeId} {fs : Array Go.Field} {base : Nat} {v : Value} {x : DataW H} {ps : List MemPlace} {α : Type} {d : Kd α} {V : α → Prop} {B : α → Nat} (ht : P.underlying T = some (.struct fs)) (ho : Opens P T d V B)
    (hok : Value.okWide P W .any base T v) (h : DataW.Trod enc P W 0 (fun _ => true) true T v x ps) : ∃ a cs, v = .agg cs ∧ d.K W a cs.toList ∧ V a ∧ B a ≤ Rows.uptoBulk x := by
  obtain ⟨cs, rfl, _⟩ := okWide_struct ht hok
  obtain ⟨fuel, hf⟩ := h
  obtain ⟨a, hK, hV, hB⟩ := ho.go hf
  exact ⟨a, cs, rfl, hK, hV, hB⟩
end Go.Proofs.YtoeiaimoppmjdaaDoor.Opn
/- Contracts of tilllaw1's lending: markAt, Lend. -/
namespace Go.Proofs.YtoeiaimoppmjdaaDoor.Bytes
open Go.RowKit Go.Proofs.YtoeiaimoppmjdaaDoorW.PrintWords
set_option linter.unusedVariables false
set_option linter.unusedSimpArgs false
theorem info5 : (Tryd.prog.info? 5).map (fun i => (i.zero, i.size, i.bytes)) = some (some (.int .u8 0), 1, 1) := by kernel_rfl
abbrev I := Value.int IntKind.u8
def marksL (k : Nat) : List Int := (List.range k).map fun (i : Nat) => 165 - (i : Int)
theorem marksL_succ (k : Nat) : marksL (k + 1) = marksL k ++ [165 - (k : Int)] := by simp [marksL, List.range_succ]
theorem marksL_length (k : Nat) : (marksL k).length = k := by simp [marksL]
def marked (xs : List Int) : List Int := xs ++ marksL 70
theorem marked_length (xs : List Int) : (marked xs).length = xs.length + 70 := by simp [marked, marksL_length]
theorem own_cap {w : World} {base n cap size : Nat} {e : TypeId} {A : Option Addr} {xs : List Value} (h : w.ownsRow base e size (.slice A n cap) n xs) : n ≤ cap := by
  rcases h.2 with ⟨h', h0⟩ | ⟨g', cap', cur, h', _, _, hn, _⟩
  · omega
  · injection h' with _ _ h'; omega
theorem reads_keep {w w' : World} {A : Option Addr} {n : Nat} {xs : List Int} (h : ReadsOf I 0 w A n xs) (hb : Below w.heap.size w w') : ReadsOf I 0 w' A n xs :=
  ⟨h.1, h.2.1, fun h0 => by obtain ⟨ad, e, hc⟩ := h.2.2 h0; exact ⟨ad, e, fun j hj => pw_cell_below hb (hc j hj)⟩⟩
theorem mark_calls (k : Nat) (hk : k < 70) (w : World) : Calls Tryd.prog 63 #[.int .i64 (k : Int)] w fun e w' => e = .returned (.int .u8 (165 - (k : Int))) ∧ w = w' := by
  go_enter Tryd.func63, Tryd.ntmps63
  go_wp2
  go_ret
  exact ⟨rfl, rfl⟩
set_option maxHeartbeats 1600000 in
set_option maxRecDepth 20000 in
theorem lend_calls (xs : List Int) (A : Option Addr) (c : Nat) (w : World) (hr : (Kd.int .u8).C w A xs.length xs) (hb : xs.length ≤ 1048576) :
    Calls Tryd.prog 13 #[.slice A xs.length c] w fun e w' => ∃ g cap, e = .returned (.slice (some ⟨g, 0, none⟩) xs.length cap) ∧
      w'.ownsRow w.heap.size 5 1 (.slice (some ⟨g, 0, none⟩) (marked xs).length cap) (marked xs).length (encs I (marked xs)) ∧ Below w.heap.size w w' := by
  have HR : Hid (ReadsOf I 0 w A xs.length xs) := Kd.reads_of_C hr
  clear hr
  obtain ⟨i0, hi, hz, hz1, hz2⟩ := info_parts info5
  have HI := Lib.hid (And.intro hi (And.intro hz (And.intro hz1 hz2)))
  clear hi hz hz1 hz2
  go_enter Tryd.func13, Tryd.ntmps13
  go_wp2_with (first
    | (at_make; refine wpList_make_own _ rfl _ _ 22 rfl w.heap.size 5 i0 (.int .u8 0) 1 Tryd.underlying22 HI.out.1 HI.out.2.1 HI.out.2.2.1 .i64 .i64 _ (xs.length + 70) rfl rfl (by simp) (by rw [HI.out.2.2.2]; omega) (by unfold maxLen; omega) (Nat.le_refl _) ?_; intro w0 hown0 hgrow0; have HO0 := Lib.hid hown0; have HB0 := Lib.hid ((Below.refl w.heap.size w).grown hgrow0 (Nat.le_refl _) (fun k h => by cases h)); have HR0 : Hid (ReadsOf I 0 w0 A xs.length xs) := reads_keep HR.out HB0.out; clear hown0 hgrow0)
    | (at_builtin; refine print_append_row_of I 0 (w0 := w) w.heap.size rfl (.tmp 9) (.tmp 10) 22 5 (.int .u8 0) 1 rfl Tryd.underlying22 info5 rfl (by omega) (fun _ => rfl) (.slice (some ⟨w.heap.size, 0, none⟩) 0 (xs.length + 70)) [] xs A xs.length c rfl rfl ?h1 ?hh ?h2 ?h0 ?h3 ?_; (case h1 => exact HO0.out); (case hh => exact HR0.out); (case h2 => exact HB0.out); (case h0 => exact HB0.out.size); (case h3 => simp only [List.length_nil]; omega); intro v1 w1 ho1 hb1 hg1 hat1; rw [List.nil_append] at ho1; have HO1 := Lib.hid ho1; have HB1 := Lib.hid hb1; clear ho1 hb1 hg1 hat1))
  go_loopw [3, 4] (fun v i wr => ∃ k : Nat, i = .int .i64 k ∧ k ≤ 70 ∧ wr.ownsRow w.heap.size 5 1 v (xs ++ marksL k).length (encs I (xs ++ marksL k)) ∧ Below w.heap.size w wr) (fun _ i _ => 70 - (intOf i).toNat)
  case atStart => exact ⟨0, rfl, by omega, by simpa [marksL] using HO1.out, HB1.out⟩
  case round =>
    obtain ⟨k, rfl, hk, ho, hbb⟩ := hrel
    have HO := Lib.hid ho
    have HB := Lib.hid hbb
    clear ho hbb
    by_cases hk70 : k < 70
    · have CM := Lib.hid (mark_calls k hk70)
      have HSZ : Hid ((xs ++ marksL k).length = xs.length + k) := by rw [List.length_append, marksL_length]; exact rfl
      obtain ⟨vo, rfl⟩ : ∃ vo, vo = u3 := ⟨_, rfl⟩
      go_wp2_with (first
        | (go_at_call 63; refine (CM.out _).mono ?_; rintro e w' ⟨rfl, rfl⟩)
        | (at_builtin; refine print_append_of I (w0 := w) w.heap.size rfl (.tmp 16) (.tmp 19) 22 5 (.int .u8 0) 1 rfl Tryd.underlying22 info5 rfl (by omega) vo (xs ++ marksL k) (165 - (k : Int)) rfl rfl rfl ?h1 ?h2 ?h3 ?h4 ?_; (case h1 => exact HO.out); (case h2 => exact HB.out); (case h3 => exact HB.out.size); (case h4 => rw [HSZ.out]; omega); intro v1 w1 ho1 hb1 hg1 hat1; have HO2 := Lib.hid ho1; have HB2 := Lib.hid hb1; clear ho1 hb1 hg1 hat1))
      go_roundw
      case rel => exact ⟨k + 1, by go_num, by omega, by rw [marksL_succ, ← List.append_assoc]; exact HO2.out, HB2.out⟩
      case measure => simp [intOf]; omega
    · have hk' : k = 70 := by omega
      have HOM : Hid (wr.ownsRow w.heap.size 5 1 u3 (marked xs).length (encs I (marked xs))) := by
        have := HO.out; rw [hk'] at this; exact this
      obtain ⟨g, cap, rfl, hgb, hgl⟩ := HOM.out.form (by rw [marked_length]; omega)
      have hcap : xs.length ≤ cap := by have h9 := own_cap HOM.out; rw [marked_length] at h9; omega
      have hml := marked_length xs
      have HCUT := Lib.hid (cut_to (P := Tryd.prog) 22 5 .i64 Tryd.underlying22 HI.out.1 (some ⟨g, 0, none⟩) (marked xs).length cap (xs.length : Int) (by omega) (by rw [hml]; omega) (by rw [hml]; have h9 := own_cap HOM.out; rw [marked_length] at h9; omega))
      clear hk' hml
      go_wp2_with fail
      go_ret
      exact ⟨g, cap, rfl, HOM.out, HB.out⟩
theorem rd_mark (xs : List Int) (k : Nat) (hk : k < 70) : (marked xs).getD (xs.length + k) 0 = 165 - (k : Int) := by
  unfold marked
  rw [List.getD_eq_getElem?_getD, List.getElem?_append_right (by omega), show xs.length + k - xs.length = k by omega]
  simp [marksL, hk]
/-- Element j of a row of one's own. -/
theorem own_cell {w : World} {base g n cap : Nat} {e : TypeId} {xs : List Int} (h : w.ownsRow base e 1 (.slice (some ⟨g, 0, none⟩) n cap) n (encs I xs)) (j : Nat) (hj : j < xs.length) : w.cell? ⟨g, j, none⟩ = some (I (xs.getD j 0)) := by
  have hl : xs.length = n := by have := h.1; rw [encs_length] at this; omega
  have := (own_at_of (d := 0) h (j : Int) (by omega) (by omega)).1
  rw [Int.toNat_natCast] at this
  exact this
/-- A beginning of a row of one's own is read. -/
theorem own_reads {w : World} {base n cap : Nat} {e : TypeId} {A : Option Addr} {ys xs : List Int} (h : w.ownsRow base e 1 (.slice A n cap) n (encs I ys)) (hp : xs = ys.take xs.length) : ReadsOf I 0 w A xs.length xs := by
  obtain ⟨A', c', he, hr⟩ := own_reads_of (d := 0) h
  injection he with h1 h2 h3
  subst h1
  have hl : ys.length = n := hr.1
  have hle : xs.length ≤ n := by have := congrArg List.length hp; simp at this; omega
  have := hr.take_ xs.length hle
  rw [← hp] at this
  exact this
theorem marked_take (xs : List Int) : xs = (marked xs).take xs.length := by simp [marked]
set_option maxHeartbeats 1600000 in
set_option maxRecDepth 20000 in
theorem intact_calls (xs : List Int) (A : Option Addr) (c g cap base : Nat) (w : World) (hr : ReadsOf I 0 w A xs.length xs) (hb : xs.length ≤ 1048576)
    (ho : w.ownsRow base 5 1 (.slice (some ⟨g, 0, none⟩) (marked xs).length cap) (marked xs).length (encs I (marked xs))) :
    Calls Tryd.prog 16 #[.slice (some ⟨g, 0, none⟩) xs.length cap, .slice A xs.length c] w fun e w' => e = .returned (.bool true) ∧ Below w.heap.size w w' := by
  have hcap : xs.length + 70 ≤ cap := by have h9 := own_cap ho; rwa [marked_length] at h9
  have s1 := string_of_reads (P := Tryd.prog) (src := 22) (dst := 9) (c := c) Tryd.underlying22 Tryd.underlying5 Tryd.underlying9 hr
  have s2 := string_of_reads (P := Tryd.prog) (src := 22) (dst := 9) (c := cap) Tryd.underlying22 Tryd.underlying5 Tryd.underlying9 (own_reads ho (marked_take xs))
  have HO := Lib.hid ho
  clear ho hr
  go_enter Tryd.func16, Tryd.ntmps16
  go_wp2_with fail
  go_loopw [6] (fun i wr => ∃ k : Nat, k ≤ 70 ∧ i = .int .i64 k ∧ Below w.heap.size w wr) (fun i _ => 70 - (intOf i).toNat)
  case atStart => exact ⟨0, Nat.zero_le _, rfl, Below.refl _ _⟩
  case round =>
    obtain ⟨k, hk, rfl, hbb⟩ := hrel
    have HB := Lib.hid hbb
    by_cases hlt : k < 70
    · have hcl : w.cell? ⟨g, xs.length + k, none⟩ = some (I (165 - (k : Int))) := by have := own_cell HO.out (xs.length + k) (by rw [marked_length]; omega); rwa [rd_mark xs k hlt] at this
      have hcw : wr.cell? ⟨g, xs.length + k, none⟩ = some (.int .u8 (165 - (k : Int))) := pw_cell_below hbb hcl
      have CM := Lib.hid (mark_calls k hlt)
      have b1 : (0 : Int) ≤ (xs.length : Int) + (k : Int) := by omega
      have b2 : (xs.length : Int) + (k : Int) < (xs.length : Int) + 70 := by omega
      have b3 : IntKind.i64.wrap ((xs.length : Int) + (k : Int)) = (xs.length : Int) + (k : Int) := by rw [IntKind.wrap_i64]; omega
      have b4 : ((xs.length : Int) + (k : Int)).toNat = xs.length + k := by omega
      clear hbb hcl
      go_wp2_with fail
      go_region_held3 (fun w' => w'.cell? ⟨g, xs.length + k, none⟩ = some (.int .u8 (165 - (k : Int)))) (go_keep)
        (first | (go_at_call 63; refine (CM.out _).mono ?_; rintro e w9 ⟨rfl, rfl⟩))
      go_wp2_with fail
      go_roundw
      case rel => exact ⟨k + 1, by omega, by go_num, by first | exact HB.out.drew | exact HB.out⟩
      case measure => simp [intOf]; omega
    · clear hbb
      go_wp2_with fail
      go_ret
      exact ⟨rfl, HB.out⟩
end Go.Proofs.YtoeiaimoppmjdaaDoor.Bytes
/- Contracts of tilllaw1's Other and Into. -/
namespace Go.Proofs.YtoeiaimoppmjdaaDoor.Bytes
open Go.RowKit Go.Proofs.YtoeiaimoppmjdaaDoorW.PrintWords
set_option linter.unusedVariables false
set_option linter.unusedSimpArgs false
abbrev Byt (xs : List Int) : Prop := ∀ a, a ∈ xs → 0 ≤ a ∧ a ≤ 255
theorem reads_at {w : World} {A : Option Addr} {xs : List Int} (h : ReadsOf I 0 w A xs.length xs) (k : Nat) (hk : k < xs.length) : ∃ ad, A = some ad ∧ w.cell? (ad.add k) = some (.int .u8 (xs.getD k 0)) := by
  obtain ⟨ad, e, hc⟩ := h.2.2 (by omega)
  exact ⟨ad, e, hc k hk⟩
theorem byt_get {xs : List Int} (h : Byt xs) (k : Nat) (hk : k < xs.length) : 0 ≤ xs.getD k 0 ∧ xs.getD k 0 ≤ 255 := by
  rw [List.getD_eq_getElem?_getD, List.getElem?_eq_getElem hk]; exact h _ (List.getElem_mem hk)
theorem rev_take (xs : List Int) (k : Nat) (hk : k < xs.length) : xs.reverse.take (k + 1) = xs.reverse.take k ++ [xs.getD (xs.length - 1 - k) 0] := by
  have hk' : k < xs.reverse.length := by simpa using hk
  rw [List.take_succ_eq_append_getElem hk', List.getElem_reverse, List.getD_eq_getElem?_getD, List.getElem?_eq_getElem (by omega)]; rfl
theorem Closers25b_u8 (b : Int) : 0 ≤ Go.bits .xor .u8 b 1 ∧ Go.bits .xor .u8 b 1 ≤ 255 := by
  exact ⟨bits_lo_u8 _ _ _, bits_hi_u8 _ _ _⟩
set_option maxHeartbeats 1600000 in
set_option maxRecDepth 20000 in
theorem other_calls (xs : List Int) (A : Option Addr) (c : Nat) (w : World) (hr : ReadsOf I 0 w A xs.length xs) (hv : Byt xs) (hb : xs.length ≤ 1048576) :
    Calls Tryd.prog 28 #[.slice A xs.length c] w fun e w' => ∃ (ys : List Int) (D : Option Addr) (cap : Nat), e = .returned (.slice D ys.length cap) ∧ ys.length = xs.length ∧ Byt ys ∧
      w'.ownsRow w.heap.size 5 1 (.slice D ys.length cap) ys.length (encs I ys) ∧ Below w.heap.size w w' := by
  have HR := Lib.hid hr
  have HV : Hid (Byt xs) := hv
  clear hr hv
  go_enter Tryd.func28, Tryd.ntmps28
  go_wp2_with fail
  go_loopw [3, 4] (fun v i wr => ∃ k : Nat, i = .int .i64 ((xs.length : Int) - 1 - k) ∧ k ≤ xs.length ∧ wr.ownsRow w.heap.size 5 1 v (xs.reverse.take k).length (encs I (xs.reverse.take k)) ∧ Below w.heap.size w wr) (fun _ i _ => (intOf i + 1).toNat)
  case atStart => exact ⟨0, by simp, by omega, own_nil _ _ _ _, Below.refl _ _⟩
  case round =>
    obtain ⟨k, rfl, hk, ho, hbb⟩ := hrel
    have HO := Lib.hid ho
    have HB := Lib.hid hbb
    clear ho hbb
    obtain ⟨vo, rfl⟩ : ∃ vo, vo = u3 := ⟨_, rfl⟩
    by_cases hlt : k < xs.length
    · obtain ⟨j, hj⟩ : ∃ j : Nat, j = xs.length - 1 - k := ⟨_, rfl⟩
      have hji : (xs.length : Int) - 1 - (k : Int) = (j : Int) := by omega
      obtain ⟨ad, rfl, hc⟩ := reads_at HR.out j (by omega)
      have hcw : wr.cell? (ad.add j) = some (.int .u8 (xs.getD j 0)) := pw_cell_below HB.out hc
      have HRT := Lib.hid (rev_take xs k hlt)
      rw [← hj] at HRT
      have HSZ : Hid ((xs.reverse.take k).length = k) := by rw [List.length_take]; simp; exact Nat.min_eq_left hk
      rw [hji]
      have b1 : (0 : Int) ≤ (j : Int) := by omega
      have b2 : (j : Int) < (xs.length : Int) := by omega
      have HJ := Lib.hid hji
      clear hji hj hc
      go_wp2_with (first
        | (at_builtin; refine print_append_of I (w0 := w) w.heap.size rfl (.tmp 12) (.tmp 17) 22 5 (.int .u8 0) 1 rfl Tryd.underlying22 info5 rfl (by omega) vo (xs.reverse.take k) (xs.getD j 0) rfl rfl rfl ?h1 ?h2 ?h3 ?h4 ?_; (case h1 => exact HO.out); (case h2 => exact HB.out); (case h3 => exact HB.out.size); (case h4 => rw [HSZ.out]; omega); intro v1 w1 ho1 hb1 hg1 hat1; have HO2 := Lib.hid ho1; have HB2 := Lib.hid hb1; clear ho1 hb1 hg1 hat1))
      go_roundw
      case rel => exact ⟨k + 1, congrArg _ (by have := HJ.out; omega), by omega, by rw [HRT.out]; exact HO2.out, HB2.out⟩
      case measure => first | (simp [intOf]; done) | (simp [intOf]; omega)
    · have hk' : k = xs.length := by omega
      have hrt : xs.reverse.take k = xs.reverse := by rw [hk']; exact List.take_of_length_le (by simp)
      rw [hrt] at HO
      have hi : (xs.length : Int) - 1 - (k : Int) = -1 := by omega
      rw [hi]
      obtain ⟨D, cap, rfl⟩ := own_slice HO.out
      have s1 := own_string (P := Tryd.prog) (src := 22) (dst := 9) Tryd.underlying22 Tryd.underlying5 Tryd.underlying9 HO.out
      have HR2 := Lib.hid (reads_keep HR.out HB.out)
      have s2 := string_of_reads (P := Tryd.prog) (src := 22) (dst := 9) (c := c) Tryd.underlying22 Tryd.underlying5 Tryd.underlying9 HR2.out
      have hBR : Byt xs.reverse := fun a ha => HV.out a (by simpa using ha)
      have HBR := Lib.hid hBR
      have hlr : xs.reverse.length = xs.length := by simp
      rw [hlr] at HO s1 ⊢
      clear hi hk' hrt hBR
      by_cases h0 : 0 < xs.length
      · obtain ⟨g, cap', hD, hgb, hgl⟩ := HO.out.form (by omega)
        injection hD with hD1 hD2 hD3
        subst hD1
        clear hD2 hD3
        obtain ⟨m, hm⟩ : ∃ m : Nat, m = xs.length - 1 := ⟨_, rfl⟩
        have hmi : (xs.length : Int) - 1 = (m : Int) := by omega
        have hm1 : (m : Int) < (xs.length : Int) := by omega
        have hat := own_at_of (d := 0) HO.out (m : Int) (by omega) hm1
        rw [Int.toNat_natCast] at hat
        obtain ⟨b, hbd⟩ : ∃ b, b = rdOf 0 xs.reverse (m : Int) := ⟨_, rfl⟩
        rw [← hbd] at hat
        have a1 := hat.1
        have a2 := hat.2
        have hst := own_store_of HO.out (m : Int) (Go.bits .xor .u8 b 1)
        rw [Int.toNat_natCast] at hst
        have HST := Lib.hid hst
        have hn0 : (0 : Int) < (xs.length : Int) := by omega
        have hget : 0 ≤ (m : Int) := by omega
        have HBB := Lib.hid (Closers25b_u8 b)
        clear hat hbd hst hm
        cases hs : ((strOfNums xs.reverse).toList == (strOfNums xs).toList) with
        | true =>
          go_wp2_with fail
          go_ret
          refine ⟨xs.reverse.set m (Go.bits .xor .u8 b 1), _, cap, by rw [List.length_set, hlr]; rfl, by rw [List.length_set, hlr], fun a ha => ?_, ?_, ?_⟩
          · rcases List.mem_or_eq_of_mem_set ha with h | h
            · exact HBR.out a h
            · rw [h]; exact HBB.out
          · have := HST.out.1
            rw [List.length_set, hlr]; exact this
          · exact HB.out.grown HST.out.2 HB.out.size (by intro k hk; injection hk with hk; omega)
        | false =>
          go_wp2_with fail
          go_ret
          exact ⟨xs.reverse, _, cap, by rw [hlr]; rfl, hlr, HBR.out, by rw [hlr]; exact HO.out, HB.out⟩
      · have hn0 : ¬ (0 : Int) < (xs.length : Int) := by omega
        go_wp2_with fail
        go_ret
        exact ⟨xs.reverse, _, cap, by rw [hlr]; rfl, hlr, HBR.out, by rw [hlr]; exact HO.out, HB.out⟩
end Go.Proofs.YtoeiaimoppmjdaaDoor.Bytes
/- Contract of tilllaw1's Into; the sums' contracts over what is read. -/
namespace Go.Proofs.YtoeiaimoppmjdaaDoor.Bytes
open Go.RowKit Go.Proofs.YtoeiaimoppmjdaaDoorW.PrintWords Go.Proofs.YtoeiaimoppmjdaaDoor.Crc
set_option linter.unusedVariables false
set_option linter.unusedSimpArgs false
theorem only_refl (w : World) (g : Nat) : w.grownBy w (some g) := ⟨rfl, rfl, rfl, Nat.le_refl _, fun _ _ _ => rfl⟩
theorem only_trans {a b c : World} {g : Nat} (h1 : a.grownBy b (some g)) (h2 : b.grownBy c (some g)) : a.grownBy c (some g) :=
  ⟨h2.os.trans h1.os, h2.tape.trans h1.tape, h2.output.trans h1.output, Nat.le_trans h1.size h2.size, fun k hk hne => (h2.block k (Nat.lt_of_lt_of_le hk h1.size) hne).trans (h1.block k hk hne)⟩
def mix (ys zs : List Int) (k : Nat) : List Int := ys.take k ++ zs.drop k
theorem mix_length (ys zs : List Int) (k : Nat) (h1 : k ≤ ys.length) (h2 : k ≤ zs.length) : (mix ys zs k).length = zs.length := by simp [mix]; omega
theorem mix_set (ys zs : List Int) (k : Nat) (h1 : k < ys.length) (h2 : k < zs.length) : (mix ys zs k).set k (ys.getD k 0) = mix ys zs (k + 1) := by
  have hl : (ys.take k).length = k := by simp; omega
  unfold mix
  have hd : zs.drop k = zs[k] :: zs.drop (k + 1) := List.drop_eq_getElem_cons h2
  rw [hd, List.set_append_right _ _ (by omega), hl, Nat.sub_self, List.take_succ_eq_append_getElem h1, List.append_assoc, List.getD_eq_getElem?_getD, List.getElem?_eq_getElem h1]
  rfl
set_option maxHeartbeats 1600000 in
set_option maxRecDepth 20000 in
theorem into_calls (n : Nat) (ys zs : List Int) (g cap : Nat) (D : Option Addr) (cap2 base base2 : Nat) (w : World) (hl : ys.length = n) (hz : n ≤ zs.length) (hn : n ≤ 1048576)
    (ho : w.ownsRow base 5 1 (.slice (some ⟨g, 0, none⟩) zs.length cap) zs.length (encs I zs)) (hb : w.ownsRow base2 5 1 (.slice D ys.length cap2) ys.length (encs I ys)) (hne : (Value.slice D ys.length cap2).ownBlock = none ∨ (Value.slice D ys.length cap2).ownBlock ≠ some g) :
    Calls Tryd.prog 32 #[.slice (some ⟨g, 0, none⟩) n cap, .slice D n cap2] w fun e w' => e = .returned (.tuple #[]) ∧ w'.ownsRow base 5 1 (.slice (some ⟨g, 0, none⟩) zs.length cap) zs.length (encs I (ys ++ zs.drop n)) ∧ w.grownBy w' (some g) := by
  have HO := Lib.hid ho
  have HBO := Lib.hid hb
  have HNE := Lib.hid hne
  clear ho hb hne
  go_enter Tryd.func32, Tryd.ntmps32
  go_wp2_with fail
  go_loopw [4] (fun i wr => ∃ k : Nat, i = .int .i64 k ∧ k ≤ n ∧ wr.ownsRow base 5 1 (.slice (some ⟨g, 0, none⟩) zs.length cap) zs.length (encs I (mix ys zs k)) ∧ w.grownBy wr (some g)) (fun i _ => n - (intOf i).toNat)
  case atStart => exact ⟨0, rfl, by omega, by simpa [mix] using HO.out, only_refl _ _⟩
  case round =>
    obtain ⟨k, rfl, hk, hok, hgk⟩ := hrel
    have HOK := Lib.hid hok
    have HGK := Lib.hid hgk
    clear hok hgk
    by_cases hlt : k < n
    · have hb2 := own_other HBO.out HGK.out HNE.out
      obtain ⟨g2, cap3, hD, _, _⟩ := hb2.form (by omega)
      injection hD with hD1 hD2 hD3
      subst hD1
      clear hD2 hD3
      have c1 := own_cell hb2 k (by omega)
      have hat := own_at_of (d := 0) HOK.out (k : Int) (by omega) (by omega)
      rw [Int.toNat_natCast] at hat
      obtain ⟨b, hbd⟩ : ∃ b, b = ys.getD k 0 := ⟨_, rfl⟩
      have hst := own_store_of HOK.out (k : Int) (ys.getD k 0)
      rw [Int.toNat_natCast, mix_set ys zs k (by omega) (by omega)] at hst
      rw [← hbd] at c1 hst
      have a1 := hat.1
      have a2 := hat.2
      have HST := Lib.hid hst
      have i1 : (0 : Int) ≤ (k : Int) := by omega
      have i2 : (k : Int) < (n : Int) := by omega
      clear hb2 hat hst hbd
      go_wp2_with fail
      go_roundw
      case rel => exact ⟨k + 1, by go_num, by omega, HST.out.1, only_trans HGK.out HST.out.2⟩
      case measure => simp [intOf]; omega
    · have hk' : k = n := by omega
      have HF : Hid (wr.ownsRow base 5 1 (.slice (some ⟨g, 0, none⟩) zs.length cap) zs.length (encs I (ys ++ zs.drop n))) := by
        have := HOK.out
        rw [hk', mix, List.take_of_length_le (by omega)] at this
        exact this
      clear hk'
      go_wp2_with fail
      go_end0
      exact ⟨rfl, HF.out, HGK.out⟩
theorem sum_reads (xs : List Int) (A : Option Addr) (c : Nat) (w : World) (hr : ReadsOf I 0 w A xs.length xs) (hv : Byt xs) :
    Calls Tryd.prog 85 #[.slice A xs.length c] w fun e w' => e = .returned (.int .u32 ((crc xs).toNat : Int)) ∧ Below w.heap.size w w' :=
  sum_walk xs A c w hr.2.1 (fun k hk => reads_at hr k hk) hv
theorem rsum_reads (xs : List Int) (A : Option Addr) (c : Nat) (w : World) (hr : ReadsOf I 0 w A xs.length xs) (hv : Byt xs) (hb : xs.length ≤ 1048576) :
    Calls Tryd.prog 106 #[.slice A xs.length c] w fun e w' => e = .returned (.int .u32 ((crc xs).toNat : Int)) ∧ Below w.heap.size w w' :=
  rsum_walk xs A c w (by omega) (fun k hk => reads_at hr k hk) hv
theorem crc_five : ((crc [1, 2, 3, 4, 5]).toNat : Int) = 1191942644 := by decide +kernel
theorem crc_nil : ((crc []).toNat : Int) = 0 := by decide +kernel
theorem nil_reads (w : World) : ReadsOf I 0 w none 0 [] := ⟨rfl, by omega, fun h => by omega⟩
theorem lit_reads (W : World) (e : TypeId) (xs : List Int) (hm : xs.length ≤ 9223372036854775807) : ReadsOf I 0 (W.alloc (.cells (encs I xs).toArray e)) (some ⟨W.heap.size, 0, none⟩) xs.length xs := by
  obtain ⟨A, c, he, hr⟩ := own_reads_of (d := 0) (own_lit_of (enc := I) W W.heap.size e xs (Nat.le_refl _) hm)
  injection he with h1 h2 h3
  rw [h1]; exact hr
/-- Element k of a list of lists that came in. -/
theorem at_list {α : Type} {e : Nat} {d : Kd α} {w : World} {A : Option Addr} {ll : List (List α)} (h : (Kd.slice e d).C w A ll.length ll) (k : Nat) (hk : k < ll.length) :
    ∃ ad Ak ck, A = some ad ∧ w.cell? (ad.add k) = some (.slice Ak (ll[k]'hk).length ck) ∧ (ll[k]'hk).length ≤ ck ∧ d.C w Ak (ll[k]'hk).length (ll[k]'hk) := by
  obtain ⟨ad, c, e1, _, hK, hc⟩ := Kd.C_get h [] (k : Int) (by omega) (by omega)
  have hg : ll.getD (k : Int).toNat [] = ll[k]'hk := by rw [Int.toNat_natCast, List.getD_eq_getElem?_getD, List.getElem?_eq_getElem hk]; rfl
  rw [hg] at hK
  obtain ⟨Ak, ck, rfl, hl, hC⟩ := hK
  refine ⟨ad, Ak, ck, e1, ?_, hl, hC⟩
  have := hc 0 _ rfl
  rw [Int.toNat_natCast] at this
  simpa [Kd.slice] using this
end Go.Proofs.YtoeiaimoppmjdaaDoor.Bytes
/- Plain: numbers in bytes: of fixed size, in their shortest form. -/
namespace Go.Proofs.YtoeiaimoppmjdaaDoor.Wr
open Go.RowKit Go.Proofs.YtoeiaimoppmjdaaDoor.Bytes
set_option linter.unusedVariables false
set_option linter.unusedSimpArgs false
/-- A number in size bytes, the highest first. -/
def fixL (n size : Nat) : List Int := (List.range size).map fun i => ((n / 256 ^ (size - 1 - i) % 256 : Nat) : Int)
theorem fixL_length (n size : Nat) : (fixL n size).length = size := by simp [fixL]
theorem fixL_get (n size i : Nat) (h : i < size) : (fixL n size).getD i 0 = ((n / 256 ^ (size - 1 - i) % 256 : Nat) : Int) := by
  simp [fixL, List.getD_eq_getElem?_getD, h]
theorem fixL_byt (n size : Nat) : Byt (fixL n size) := by
  intro a ha
  simp only [fixL, List.mem_map] at ha
  obtain ⟨i, _, rfl⟩ := ha
  omega
theorem take_getD (xs : List Int) (k : Nat) (h : k < xs.length) : xs.take (k + 1) = xs.take k ++ [xs.getD k 0] := by
  rw [List.take_succ_eq_append_getElem h, List.getD_eq_getElem?_getD, List.getElem?_eq_getElem h]
  rfl
/-- A number in its shortest form. -/
def vr (n : Nat) : List Int := if h : n < 128 then [(n : Int)] else ((128 + n % 128 : Nat) : Int) :: vr (n / 128)
termination_by n
decreasing_by omega
theorem vr_small {n : Nat} (h : n < 128) : vr n = [(n : Int)] := by rw [vr]; simp [h]
theorem vr_great {n : Nat} (h : ¬ n < 128) : vr n = ((128 + n % 128 : Nat) : Int) :: vr (n / 128) := by rw [vr]; simp [h]
theorem vr_byt (n : Nat) : Byt (vr n) := by
  induction n using Nat.strongRecOn with
  | _ n ih =>
    by_cases h : n < 128
    · rw [vr_small h]; intro a ha; simp at ha; omega
    · rw [vr_great h]
      intro a ha
      rcases List.mem_cons.1 ha with rfl | ha
      · omega
      · exact ih (n / 128) (by omega) a ha
theorem vr_length (n k : Nat) (h : n < 128 ^ (k + 1)) : (vr n).length ≤ k + 1 := by
  induction k generalizing n with
  | zero => rw [vr_small (by simpa using h)]; simp
  | succ k ih =>
    by_cases h1 : n < 128
    · rw [vr_small h1]; simp
    · rw [vr_great h1]
      have := ih (n / 128) (by rw [Nat.pow_succ] at h; omega)
      simp; omega
theorem vr_pos (n : Nat) : 0 < (vr n).length := by
  by_cases h : n < 128
  · rw [vr_small h]; simp
  · rw [vr_great h]; simp
/-- Its first k bytes. -/
def digs (n : Nat) : Nat → List Int
  | 0 => []
  | k + 1 => digs n k ++ [((128 + n / 128 ^ k % 128 : Nat) : Int)]
theorem vr_digs (n k : Nat) (h : k = 0 ∨ 128 ^ k ≤ n) : vr n = digs n k ++ vr (n / 128 ^ k) := by
  induction k with
  | zero => simp [digs]
  | succ k ih =>
    have h1 : 128 ^ (k + 1) ≤ n := by simpa using h
    have hp : 0 < 128 ^ k := Nat.pow_pos (by omega)
    rw [ih (.inr (by rw [Nat.pow_succ] at h1; omega))]
    have h2 : ¬ n / 128 ^ k < 128 := by
      rw [Nat.div_lt_iff_lt_mul hp, Nat.mul_comm, ← Nat.pow_succ]; omega
    rw [vr_great h2, digs, List.append_assoc, Nat.div_div_eq_div_mul, ← Nat.pow_succ]
    rfl
/-- How many rounds there are, off the number of bits. -/
theorem rounds (n b : Nat) (h1 : n < 2 ^ b) (h2 : 0 < b → 2 ^ (b - 1) ≤ n) : ((max 1 b - 1) / 7 = 0 ∨ 128 ^ ((max 1 b - 1) / 7) ≤ n) ∧ n / 128 ^ ((max 1 b - 1) / 7) < 128 := by
  obtain ⟨K, hK⟩ : ∃ K, K = (max 1 b - 1) / 7 := ⟨_, rfl⟩
  rw [← hK]
  have e : ∀ k, 128 ^ k = 2 ^ (7 * k) := fun k => by rw [Nat.pow_mul]
  have hlt : n < 2 ^ (7 * K + 7) := Nat.lt_of_lt_of_le h1 (Nat.pow_le_pow_right (by omega) (by omega))
  constructor
  · by_cases h0 : K = 0
    · exact .inl h0
    · right
      rw [e]
      exact Nat.le_trans (Nat.pow_le_pow_right (by omega) (by omega)) (h2 (by omega))
  · rw [Nat.div_lt_iff_lt_mul (Nat.pow_pos (by omega)), e, show (128 : Nat) = 2 ^ 7 from rfl, ← Nat.pow_add]
    rwa [Nat.add_comm] at hlt
theorem or_128 : ∀ r : Nat, r < 256 → Go.bits .or .u8 (r : Int) 128 = ((128 + r % 128 : Nat) : Int) := by decide +kernel
end Go.Proofs.YtoeiaimoppmjdaaDoor.Wr
/- Writers in memory: what one holds, what a call leaves; contracts of the small functions. -/
namespace Go.Proofs.YtoeiaimoppmjdaaDoor.Wr
open Go.RowKit Go.Proofs.YtoeiaimoppmjdaaDoorW.PrintWords Go.Proofs.YtoeiaimoppmjdaaDoor.Bytes
set_option linter.unusedVariables false
set_option linter.unusedSimpArgs false
theorem own_kind {w : World} {b s n : Nat} {e : TypeId} {v : Value} {xs : List Value} (h : w.ownsRow b e s v n xs) (g : Nat) (hg : v.ownBlock = some g) : ∃ cs, w.heap[g]? = some (.cells cs e (0, 0)) := by
  rcases h.2 with ⟨rfl, _⟩ | ⟨g', cap, cur, rfl, _, hh, _⟩
  · simp [Value.ownBlock] at hg
  · have : g' = g := by simpa [Value.ownBlock] using hg
    exact ⟨_, this ▸ hh⟩
/-- Writer g holds xs, in the row v. -/
structure Wtr (W : World) (base g : Nat) (v : Value) (xs : List Int) : Prop where
  blk : W.heap[g]? = some (.cells #[v] 112 (0, 0))
  le : base ≤ g
  own : W.ownsRow base 5 1 v xs.length (encs I xs)
theorem Wtr.ne {W : World} {base g : Nat} {v : Value} {xs : List Int} (h : Wtr W base g v xs) : some g ≠ v.ownBlock := by
  intro e
  obtain ⟨cs, hk⟩ := own_kind h.own g e.symm
  have := h.blk
  rw [this] at hk
  simp at hk
/-- What a writing call leaves. -/
structure Put (W W' : World) (base g : Nat) (v v' : Value) (xs' : List Int) : Prop where
  wt : Wtr W' base g v' xs'
  bl : Below base W W'
  kb : KeepBut W W' g v.ownBlock
  hat : v'.ownBlock = v.ownBlock ∨ ∃ b, v'.ownBlock = some b ∧ W.heap.size ≤ b
theorem Put.refl {W : World} {base g : Nat} {v : Value} {xs : List Int} (h : Wtr W base g v xs) : Put W W base g v v xs := ⟨h, Below.refl _ _, KeepBut.refl _ _ _, .inl rfl⟩
theorem Put.trans {W W1 W2 : World} {base g : Nat} {v v1 v2 : Value} {xs1 xs2 : List Int} (h : Put W W1 base g v v1 xs1) (k : Put W1 W2 base g v1 v2 xs2) : Put W W2 base g v v2 xs2 := by
  refine ⟨k.wt, h.bl.trans k.bl, h.kb.trans k.kb h.hat, ?_⟩
  rcases k.hat with e | ⟨b, e, hb⟩
  · rw [e]; exact h.hat
  · exact .inr ⟨b, e, Nat.le_trans h.kb.1 hb⟩
theorem grown_set (W : World) (g j : Nat) (u : Value) : W.grownBy (W.setCell ⟨g, j, none⟩ u) (some g) :=
  ⟨rfl, rfl, rfl, by simp [World.setCell], fun k _ hne => Below.heap_setCell W ⟨g, j, none⟩ u k (fun e => hne (by rw [e]))⟩
theorem put_one {W w1 : World} {base g : Nat} {v v1 : Value} {xs ys : List Int} (h : Wtr W base g v xs) (hb : base ≤ W.heap.size) (ho : w1.ownsRow base 5 1 v1 (xs ++ ys).length (encs I (xs ++ ys))) (hg : W.grownBy w1 v.ownBlock)
    (hat : v1.ownBlock = v.ownBlock ∨ ∃ b, v1.ownBlock = some b ∧ W.heap.size ≤ b) : Put W (w1.setCell ⟨g, 0, none⟩ v1) base g v v1 (xs ++ ys) := by
  have hblk := blk_grown h.blk hg h.ne
  have hne : v1.ownBlock ≠ some g := by
    intro e
    obtain ⟨cs, hk⟩ := own_kind ho g e
    rw [hblk] at hk
    simp at hk
  refine ⟨⟨blk_put hblk 0 v1 rfl, h.le, own_other ho (grown_set w1 g 0 v1) (.inr hne)⟩, ?_, (KeepBut.of_grown hg g).set_ 0 v1, hat⟩
  exact ((Below.refl base W).grown hg hb (own_base h.own)).grown (grown_set w1 g 0 v1) (Nat.le_trans hb hg.size) (fun k hk => by injection hk with hk; rw [← hk]; exact h.le)
theorem slice_form {w : World} {base size n : Nat} {e : TypeId} {v : Value} {xs : List Value} (h : w.ownsRow base e size v n xs) : ∃ A m c, v = .slice A m c := by
  rcases h.2 with ⟨rfl, _⟩ | ⟨g', cap, cur, rfl, _⟩
  · exact ⟨_, _, _, rfl⟩
  · exact ⟨_, _, _, rfl⟩
theorem new_calls (w : World) (base : Nat) (hb : base ≤ w.heap.size) : Calls Tryd.prog 29 #[] w fun e w' => e = .returned (.pointer (some ⟨w.heap.size, 0, none⟩)) ∧ Wtr w' base w.heap.size (.slice none 0 0) [] ∧ Below w.heap.size w w' := by
  go_enter Tryd.func29, Tryd.ntmps29
  go_wp2_with fail
  go_ret
  refine ⟨rfl, ⟨by simpa using heap_alloc_new w _, hb, own_nil _ _ _ _⟩, (Below.refl _ _).alloc (Nat.le_refl _) _⟩
/-- A row of bytes made and copied: Out. -/
theorem info5' : (Tryd.prog.info? 5).map (·.size) = some 1 := by kernel_rfl
set_option maxRecDepth 20000 in
set_option maxHeartbeats 1600000 in
theorem taken_calls (xs : List Int) (A : Option Addr) (c : Nat) (w : World) (base : Nat) (hbase : base ≤ w.heap.size) (hr : ReadsOf I 0 w A xs.length xs) (hm : xs.length ≤ 140737488355328) :
    Calls Tryd.prog 64 #[.slice A xs.length c] w fun e w' => ∃ v, e = .returned v ∧ w'.ownsRow base 5 1 v xs.length (encs I xs) ∧ Below base w w' := by
  have HR := Lib.hid hr
  have HBS := Lib.hid hbase
  have hmk := print_make_of (P := Tryd.prog) 22 5 (.int .u8 0) 1 Tryd.underlying22 info5 rfl (by omega) xs.length (by omega)
  have HO := Lib.hid (own_made_of' (enc := I) (d := (0 : Int)) w base 5 xs.length hbase (by omega))
  clear hr hbase
  go_enter Tryd.func64, Tryd.ntmps64
  go_wp2_with (refine Kd.R_copy (enc := I) (h1 := fun _ => rfl) (0 : Int) (w0 := w) base rfl (.tmp 7) (.tmp 8) 22 22 5 rfl Tryd.underlying22 info5' (.slice (some ⟨w.heap.size, 0, none⟩) xs.length xs.length) (List.replicate xs.length 0) xs A xs.length c (fun _ => True) rfl rfl ?h1 ?h2 ?h3 ?h4 ?_; (case h1 => exact Kd.R_of_own HO.out (fun _ _ => trivial)); (case h2 => exact Kd.C_of_reads (reads_keep HR.out ((Below.refl _ _).alloc (Nat.le_refl _) _))); (case h3 => exact (Below.refl _ _).alloc HBS.out _); (case h4 => have := HBS.out; simp; omega); intro w1 ho1 hb1 hg1; have HO1 := Lib.hid (Kd.own_of_R ho1); have HB1 := Lib.hid hb1; clear ho1 hb1 hg1)
  go_wp2_with fail
  go_ret
  exact ⟨_, rfl, by simpa using HO1.out, HB1.out⟩
theorem len_calls (W : World) (base g : Nat) (v : Value) (xs : List Int) (h : Wtr W base g v xs) : Calls Tryd.prog 41 #[.pointer (some ⟨g, 0, none⟩)] W fun e w' => e = .returned (.int .i64 (xs.length : Int)) ∧ w' = W := by
  obtain ⟨A, c, rfl, hr⟩ := own_reads_of (d := (0 : Int)) h.own
  have hc := blk_cell h.blk 0
  simp at hc
  clear hr h
  go_enter Tryd.func41, Tryd.ntmps41
  go_wp2_with fail
  go_ret
  exact ⟨rfl, rfl⟩
theorem out_calls (W : World) (base base' g : Nat) (v : Value) (xs : List Int) (h : Wtr W base g v xs) (hbase : base' ≤ W.heap.size) (hm : xs.length ≤ 140737488355328) :
    Calls Tryd.prog 36 #[.pointer (some ⟨g, 0, none⟩)] W fun e w' => ∃ v', e = .returned v' ∧ w'.ownsRow base' 5 1 v' xs.length (encs I xs) ∧ Below base' W w' := by
  obtain ⟨A, c, rfl, hr⟩ := own_reads_of (d := (0 : Int)) h.own
  have hc := blk_cell h.blk 0
  simp at hc
  have HC := Lib.hid (taken_calls xs A c W base' hbase hr hm)
  clear hr h
  go_enter Tryd.func36, Tryd.ntmps36
  go_wp2_with fail
  refine HC.out.mono ?_; rintro e w1 ⟨v1, rfl, ho1, hb1⟩
  have HO1 := Lib.hid ho1
  have HB1 := Lib.hid hb1
  clear ho1 hb1
  go_wp2_with fail
  go_ret
  exact ⟨_, rfl, HO1.out, HB1.out⟩
set_option maxRecDepth 20000 in
theorem raw_calls (W : World) (base g : Nat) (v : Value) (xs ys : List Int) (A : Option Addr) (c : Nat) (h : Wtr W base g v xs) (hbase : base ≤ W.heap.size) (hr : ReadsOf I 0 W A ys.length ys) (hm : xs.length + ys.length ≤ 140737488355328) :
    Calls Tryd.prog 33 #[.pointer (some ⟨g, 0, none⟩), .slice A ys.length c] W fun e w' => e = .returned (.tuple #[]) ∧ ∃ v', Put W w' base g v v' (xs ++ ys) := by
  have H := Lib.hid h
  have HR := Lib.hid hr
  have HBS := Lib.hid hbase
  have HM := Lib.hid hm
  have hc := blk_cell h.blk 0
  simp at hc
  clear h hr hbase hm
  go_enter Tryd.func33, Tryd.ntmps33
  go_wp2_with (at_builtin; refine print_append_row_of I 0 (w0 := W) base rfl (.tmp 8) (.tmp 9) 22 5 (.int .u8 0) 1 rfl Tryd.underlying22 info5 rfl (by omega) (fun _ => rfl) v xs ys A ys.length c rfl rfl ?h1 ?h2 ?h3 ?h4 ?h5 ?_; (case h1 => exact H.out.own); (case h2 => exact HR.out); (case h3 => exact Below.refl _ _); (case h4 => exact HBS.out); (case h5 => have := HM.out; simp; omega); intro v1 w1 ho1 hb1 hg1 hat1; obtain ⟨A1, m1, c1, rfl⟩ := slice_form ho1; have HP := Lib.hid (put_one H.out HBS.out ho1 hg1 hat1); have hblk := blk_grown H.out.blk hg1 H.out.ne; have f0 := blk_frozen hblk 0; have c0 := blk_cell hblk 0; simp at c0; clear ho1 hb1 hg1 hat1 hblk)
  go_wp2_with fail
  go_end0
  exact ⟨rfl, _, HP.out⟩
end Go.Proofs.YtoeiaimoppmjdaaDoor.Wr
/- Contract of tillref0's Eq. -/
namespace Go.Proofs.YtoeiaimoppmjdaaDoor.Wr
open Go.RowKit Go.Proofs.YtoeiaimoppmjdaaDoorW.PrintWords Go.Proofs.YtoeiaimoppmjdaaDoor.Bytes
set_option linter.unusedVariables false
set_option linter.unusedSimpArgs false
set_option maxRecDepth 20000 in
set_option maxHeartbeats 1600000 in
theorem eq_calls (xs ys : List Int) (A B : Option Addr) (c d : Nat) (w : World) (hx : ReadsOf I 0 w A xs.length xs) (hy : ReadsOf I 0 w B ys.length ys) (hm : ys.length ≤ 140737488355328) :
    Calls Tryd.prog 34 #[.slice A xs.length c, .slice B ys.length d] w fun e w' => ∃ b : Bool, e = .returned (.bool b) ∧ (b = true ↔ xs = ys) ∧ Below w.heap.size w w' := by
  have HX := Lib.hid hx
  have HY := Lib.hid hy
  clear hx hy
  by_cases hl : xs.length = ys.length
  · have HL := Lib.hid hl
    rw [hl]
    clear hl
    go_enter Tryd.func34, Tryd.ntmps34
    go_wp2_with fail
    go_loopw [5] (fun i wr => ∃ k : Nat, i = .int .i64 k ∧ k ≤ ys.length ∧ (∀ j, j < k → xs.getD j 0 = ys.getD j 0) ∧ Below w.heap.size w wr) (fun i _ => ys.length - (intOf i).toNat)
    case atStart => exact ⟨0, rfl, by omega, by omega, Below.refl _ _⟩
    case round =>
      obtain ⟨k, rfl, hk, hs, hb⟩ := hrel
      have HS := Lib.hid hs
      have HB := Lib.hid hb
      clear hs hb
      by_cases hlt : k < ys.length
      · obtain ⟨a1, rfl, x1⟩ := reads_at HX.out k (by have := HL.out; omega)
        obtain ⟨a2, rfl, x2⟩ := reads_at HY.out k hlt
        have y1 := pw_cell_below HB.out x1
        have y2 := pw_cell_below HB.out x2
        obtain ⟨p, hp⟩ : ∃ p, p = xs.getD k 0 := ⟨_, rfl⟩
        obtain ⟨q, hq⟩ : ∃ p, p = ys.getD k 0 := ⟨_, rfl⟩
        rw [← hp] at y1
        rw [← hq] at y2
        have HP := Lib.hid hp
        have HQ := Lib.hid hq
        have i1 : (0 : Int) ≤ (k : Int) := by omega
        have i2 : (k : Int) < (ys.length : Int) := by omega
        clear hp hq x1 x2
        by_cases hpq : p = q
        · have hb2 : (p != q) = false := bne_eq_false_iff_eq.2 hpq
          have HPQ := Lib.hid hpq
          clear hpq
          go_wp2_with fail
          go_region
          go_wp2_with fail
          go_roundw
          case rel => exact ⟨k + 1, by go_num, by omega, fun j hj => by
            rcases Nat.lt_or_ge j k with h | h
            · exact HS.out j h
            · obtain rfl : j = k := by omega
              rw [← HP.out, ← HQ.out]; exact HPQ.out, by first | exact HB.out.drew | exact HB.out⟩
          case measure => simp [intOf]; omega
        · have hne : ¬ xs = ys := fun e => hpq (by rw [HP.out, HQ.out, e])
          have HD := Lib.hid hne
          have hb2 : (p != q) = true := bne_iff_ne.2 hpq
          clear hne hpq
          go_wp2_with fail
          go_region
          go_wp2_with fail
          go_ret
          exact ⟨false, rfl, ⟨fun h => (by simp at h), fun h => absurd h HD.out⟩, by first | exact HB.out.drew | exact HB.out⟩
      · have he : xs = ys := by
          apply List.ext_getElem HL.out
          intro j h1 h2
          have := HS.out j (by omega)
          rwa [List.getD_eq_getElem?_getD, List.getD_eq_getElem?_getD, List.getElem?_eq_getElem h1, List.getElem?_eq_getElem h2] at this
        have HD := Lib.hid he
        clear he
        go_wp2_with fail
        go_ret
        exact ⟨true, rfl, ⟨fun _ => HD.out, fun _ => rfl⟩, HB.out⟩
  · have HD : Hid (¬ xs = ys) := fun e => hl (by rw [e])
    have hl' : ((xs.length : Int) != (ys.length : Int)) = true := bne_iff_ne.2 (by omega)
    clear hl
    go_enter Tryd.func34, Tryd.ntmps34
    go_wp2_with fail
    go_ret
    exact ⟨false, rfl, ⟨fun h => (by simp at h), fun h => absurd h HD.out⟩, Below.refl _ _⟩
end Go.Proofs.YtoeiaimoppmjdaaDoor.Wr
/- Contracts: numbers of fixed size, written and by the reference. -/
namespace Go.Proofs.YtoeiaimoppmjdaaDoor.Wr
open Go.RowKit Go.Proofs.YtoeiaimoppmjdaaDoorW.PrintWords Go.Proofs.YtoeiaimoppmjdaaDoor.Bytes
set_option linter.unusedVariables false
set_option linter.unusedSimpArgs false
theorem sh (n k : Nat) : ((n : Int) / 2 ^ (8 * k)) % 256 = ((n / 256 ^ k % 256 : Nat) : Int) := by
  have : (256 : Nat) ^ k = 2 ^ (8 * k) := by rw [show (256 : Nat) = 2 ^ 8 from rfl, ← Nat.pow_mul]
  rw [this]; simp
theorem fixL_step (n size j : Nat) (h : j < size) : (List.replicate (j + 1) (0 : Int) ++ (fixL n size).drop (j + 1)).set j ((n / 256 ^ (size - (j + 1)) % 256 : Nat) : Int) = List.replicate j 0 ++ (fixL n size).drop j := by
  have hl : j < (fixL n size).length := by rw [fixL_length]; exact h
  have hd : (fixL n size).drop j = (fixL n size)[j] :: (fixL n size).drop (j + 1) := List.drop_eq_getElem_cons hl
  have hg : (fixL n size)[j] = ((n / 256 ^ (size - (j + 1)) % 256 : Nat) : Int) := by
    have := fixL_get n size j h
    rw [List.getD_eq_getElem?_getD, List.getElem?_eq_getElem hl] at this
    rw [show size - (j + 1) = size - 1 - j by omega]
    exact this
  rw [hd, hg, List.replicate_succ', List.append_assoc, List.set_append_right _ _ (by simp), List.length_replicate, Nat.sub_self]
  rfl
set_option maxRecDepth 20000 in
set_option maxHeartbeats 1600000 in
theorem rfixed_calls (n size : Nat) (w : World) (base : Nat) (hbase : base ≤ w.heap.size) (hn : n < 18446744073709551616) (hs : size ≤ 8) :
    Calls Tryd.prog 108 #[.int .u64 n, .int .i64 size] w fun e w' => ∃ v, e = .returned v ∧ w'.ownsRow base 5 1 v size (encs I (fixL n size)) ∧ Below base w w' := by
  have HBS := Lib.hid hbase
  have HN := Lib.hid hn
  have hmk := print_make_of (P := Tryd.prog) 22 5 (.int .u8 0) 1 Tryd.underlying22 info5 rfl (by omega) size (by omega)
  have HO := Lib.hid (own_made_of (enc := I) (d := (0 : Int)) w base 5 size hbase (by omega))
  clear hbase hn
  go_enter Tryd.func108, Tryd.ntmps108
  go_wp2_with fail
  go_loopw [0, 6] (fun m i wr => ∃ k : Nat, i = .int .i64 ((k : Int) - 1) ∧ k ≤ size ∧ m = .int .u64 ((n / 256 ^ (size - k) : Nat) : Int) ∧ wr.ownsRow base 5 1 (.slice (some ⟨w.heap.size, 0, none⟩) size size) size (encs I (List.replicate k 0 ++ (fixL n size).drop k)) ∧ Below base w wr) (fun _ i _ => (intOf i + 1).toNat)
  case atStart => exact ⟨size, rfl, by omega, by simp, by rw [List.drop_eq_nil_of_le (by rw [fixL_length]; exact Nat.le_refl _), List.append_nil]; exact HO.out, (Below.refl _ _).alloc HBS.out _⟩
  case round =>
    obtain ⟨k, rfl, hk, rfl, ho, hb⟩ := hrel
    have HOK := Lib.hid ho
    have HB := Lib.hid hb
    clear ho hb
    cases k with
    | zero =>
      have e0 : (((0 : Nat) : Int) - 1) = -1 := rfl
      rw [e0]
      go_wp2_with fail
      go_ret
      exact ⟨_, rfl, by simpa using HOK.out, HB.out⟩
    | succ j =>
      have e0 : (((j + 1 : Nat) : Int) - 1) = (j : Int) := by omega
      rw [e0]
      have hl2 : (List.replicate (j + 1) (0 : Int) ++ (fixL n size).drop (j + 1)).length = size := by simp [fixL_length]; omega
      have hat := own_at_of (d := 0) HOK.out (j : Int) (by omega) (by omega)
      rw [Int.toNat_natCast] at hat
      have f2 := hat.2
      have hst := own_store_of HOK.out (j : Int) ((n / 256 ^ (size - (j + 1)) % 256 : Nat) : Int)
      rw [Int.toNat_natCast, fixL_step n size j (by omega)] at hst
      obtain ⟨m, hm⟩ : ∃ m, m = n / 256 ^ (size - (j + 1)) := ⟨_, rfl⟩
      have hm2 : m / 256 = n / 256 ^ (size - j) := by
        rw [hm, Nat.div_div_eq_div_mul, ← Nat.pow_succ, show (size - (j + 1)).succ = size - j by omega]
      have hmb : (m : Int) ≤ 18446744073709551615 := by
        have := HN.out
        have := Nat.div_le_self n (256 ^ (size - (j + 1)))
        omega
      rw [← hm] at hst ⊢
      have HST := Lib.hid hst
      have HM := Lib.hid hm2
      have i1 : (0 : Int) ≤ (j : Int) := by omega
      have i2 : (j : Int) < (size : Int) := by omega
      have c1 := hat.1
      clear hat hst hm hm2 hl2
      go_wp2_with fail
      exact ⟨⟨j, rfl, by omega, by rw [← HM.out]; rfl, HST.out.1, HB.out.grown HST.out.2 (Nat.le_trans HBS.out HB.out.size) (own_base HOK.out)⟩, by simp [intOf]⟩
end Go.Proofs.YtoeiaimoppmjdaaDoor.Wr
/- Contract of the Writer's fixed. -/
namespace Go.Proofs.YtoeiaimoppmjdaaDoor.Wr
open Go.RowKit Go.Proofs.YtoeiaimoppmjdaaDoorW.PrintWords Go.Proofs.YtoeiaimoppmjdaaDoor.Bytes
set_option linter.unusedVariables false
set_option linter.unusedSimpArgs false
theorem wrap_in {n : Int} (h1 : -9223372036854775808 ≤ n) (h2 : n ≤ 9223372036854775807) : IntKind.i64.wrap n = n := by
  rw [IntKind.wrap_i64]; omega
theorem put_lies {W w1 w2 : World} {base g g2 cap2 n : Nat} {v : Value} {xs ys : List Int} (h : Wtr W base g v xs) (hb : base ≤ W.heap.size) (hn : n = xs.length + ys.length) (ho : w2.ownsRow base 5 1 (.slice (some ⟨g2, 0, none⟩) n cap2) n (encs I xs ++ encs I ys))
    (h1 : W.grownBy w1 v.ownBlock) (hg : w1.grownBy w2 v.ownBlock) (hat : v.ownBlock = some g2 ∨ g2 = w1.heap.size) : Put W (w2.setCell ⟨g, 0, none⟩ (.slice (some ⟨g2, 0, none⟩) n cap2)) base g v (.slice (some ⟨g2, 0, none⟩) n cap2) (xs ++ ys) := by
  refine put_one h hb ?_ (World.grownBy.trans h1 hg) ?_
  · rw [encs_append, show (xs ++ ys).length = n by simp [hn]]; exact ho
  · rcases hat with e | e
    · exact .inl e.symm
    · exact .inr ⟨g2, rfl, by rw [e]; exact h1.size⟩
theorem grown_alloc_drew (W : World) (o : Obj) (row : Option Nat) : W.grownBy (W.alloc o).drew row :=
  have h := World.grownBy_alloc W o row
  ⟨h.os, h.tape, h.output, h.size, h.block⟩
set_option maxRecDepth 20000 in
set_option maxHeartbeats 1600000 in
theorem wfixed_calls (n size : Nat) (W : World) (base g : Nat) (v : Value) (xs : List Int) (h : Wtr W base g v xs) (hbase : base ≤ W.heap.size) (hn : n < 18446744073709551616) (hs : size ≤ 8) (hm : xs.length ≤ 70368744177664) :
    Calls Tryd.prog 80 #[.pointer (some ⟨g, 0, none⟩), .int .u64 n, .int .i64 size] W fun e w' => e = .returned (.tuple #[]) ∧ ∃ v', Put W w' base g v v' (xs ++ fixL n size) := by
  have HBS := Lib.hid hbase
  have HN := Lib.hid hn
  have H := Lib.hid h
  have HM := Lib.hid hm
  clear h hbase hm
  go_enter Tryd.func80, Tryd.ntmps80
  go_wp2_with fail
  go_loopw [8] (fun i wr => ∃ (k : Nat) (v' : Value), i = .int .i64 k ∧ k ≤ size ∧ Put W wr base g v v' (xs ++ (fixL n size).take k)) (fun i _ => size - (intOf i).toNat)
  case atStart => exact ⟨0, v, rfl, by omega, by simpa using Put.refl H.out⟩
  case round =>
    obtain ⟨k, v', rfl, hk, hp⟩ := hrel
    have HP := Lib.hid hp
    by_cases hlt : k < size
    · obtain ⟨r, hr⟩ : ∃ r, r = size - 1 - k := ⟨_, rfl⟩
      have q1 : IntKind.i64.wrap ((size : Int) - 1) = (size : Int) - 1 := wrap_in (by omega) (by omega)
      have q2 : IntKind.i64.wrap ((size : Int) - 1 - (k : Int)) = (r : Int) := by rw [wrap_in (by omega) (by omega)]; omega
      have q3 : IntKind.i64.wrap (8 * (r : Int)) = ((8 * r : Nat) : Int) := by rw [wrap_in (by omega) (by omega)]; omega
      have j1 : (0 : Int) ≤ 8 * (r : Int) := by omega
      have j2 : 8 * (r : Int) ≤ 64 := by omega
      obtain ⟨x, hx⟩ : ∃ x : Int, x = ((n / 256 ^ r % 256 : Nat) : Int) := ⟨_, rfl⟩
      have qv : IntKind.u8.wrap ((n : Int) / 2 ^ (8 * (r : Int)).toNat) = x := by
        rw [show (8 * (r : Int)).toNat = 8 * r by omega, IntKind.wrap_u8, sh, hx]
      have HXX : Hid ((fixL n size).take (k + 1) = (fixL n size).take k ++ [x]) := by
        show (fixL n size).take (k + 1) = (fixL n size).take k ++ [x]
        rw [take_getD _ _ (by rw [fixL_length]; omega), fixL_get _ _ _ (by omega), hx, hr]
      have HRR := Lib.hid hr
      clear hr hx
      have hc := blk_cell hp.wt.blk 0
      simp at hc
      have hca : ∀ o, (wr.alloc o).cell? ⟨g, 0, none⟩ = some v' := fun o => by simpa using blk_cell (blk_alloc hp.wt.blk o) 0
      have i1 : (k : Int) < (size : Int) := by omega
      obtain ⟨i0, hi0, hz0, hs0, hb0⟩ := info_parts info5
      have HLEN : Hid ((xs ++ (fixL n size).take k).length ≤ 70368744177680) := by
        have := HM.out
        show (xs ++ (fixL n size).take k).length ≤ 70368744177680
        rw [List.length_append, List.length_take, fixL_length]; omega
      obtain ⟨zs, hzs⟩ : ∃ zs, zs = xs ++ (fixL n size).take k := ⟨_, rfl⟩
      rw [← hzs] at HP HLEN hp
      have HZ := Lib.hid hzs
      clear hp hzs
      go_wp2_with fail
      go_region_law (refine step_append_lies _ rfl (.tmp 15) (.tmp 24) 22 rfl base 5 i0 (.int .u8 0) 1 1 Tryd.underlying22 hi0 hz0 hs0 hb0 rfl (by omega) v' zs.length (encs I zs) rfl ?h1 ⟨wr.heap.size, 0, none⟩ 1 1 (encs I [x]) rfl rfl ?h2 ?h3 (by omega) ?h4 ?h5 ?h6 _ rfl ?_; (case h1 => exact own_drew (own_alloc HP.out.wt.own _)); (case h2 => exact World.news_of_block (blk_drew (blk_new wr _))); (case h3 => simp [encs, Value.oneCell']); (case h4 => have := HLEN.out; simp [maxLen]; omega); (case h5 => have := HLEN.out; omega); (case h6 => have := HBS.out; have := HP.out.bl.size; simp; omega); intro g2 cap2 w2 ho2 hg2 hat2 hlt2; have HP2 := Lib.hid (put_lies HP.out.wt (Nat.le_trans HBS.out HP.out.bl.size) rfl ho2 (grown_alloc_drew wr _ _) hg2 hat2); have hblk := blk_grown HP.out.wt.blk (World.grownBy.trans (grown_alloc_drew wr _ _) hg2) HP.out.wt.ne; have f0 := blk_frozen hblk 0; have c0 := blk_cell hblk 0; simp at c0; clear ho2 hg2 hat2 hlt2 hblk)
      all_goals (go_wp2_with fail; go_roundw; (case rel => exact ⟨k + 1, _, by go_num, by omega, by have h := HP.out.trans HP2.out; rw [show zs ++ [x] = xs ++ (fixL n size).take (k + 1) by rw [HXX.out, HZ.out, List.append_assoc]] at h; exact h⟩); (case measure => simp [intOf]; omega))
    · have HF : Hid (Put W wr base g v v' (xs ++ fixL n size)) := by
        have h := hp
        rw [List.take_of_length_le (by rw [fixL_length]; omega)] at h
        exact h
      clear hp
      have i1 : ¬ (k : Int) < (size : Int) := by omega
      go_wp2_with fail
      go_end0
      exact ⟨rfl, _, HF.out⟩
end Go.Proofs.YtoeiaimoppmjdaaDoor.Wr
/- Contracts: U8, U32, U64 of the Writer and of the reference; Var of both; Bytes, Text. -/
namespace Go.Proofs.YtoeiaimoppmjdaaDoor.Wr
open Go.RowKit Go.Proofs.YtoeiaimoppmjdaaDoorW.PrintWords Go.Proofs.YtoeiaimoppmjdaaDoor.Bytes
set_option linter.unusedVariables false
set_option linter.unusedSimpArgs false
theorem wu8_calls (n : Nat) (W : World) (base g : Nat) (v : Value) (xs : List Int) (h : Wtr W base g v xs) (hbase : base ≤ W.heap.size) (hn : n < 256) (hm : xs.length ≤ 70368744177664) :
    Calls Tryd.prog 39 #[.pointer (some ⟨g, 0, none⟩), .int .u8 n] W fun e w' => e = .returned (.tuple #[]) ∧ ∃ v', Put W w' base g v v' (xs ++ fixL n 1) := by
  have HC := Lib.hid (wfixed_calls n 1 W base g v xs h hbase (by omega) (by omega) hm)
  clear h
  go_enter Tryd.func39, Tryd.ntmps39
  go_wp2_with fail
  refine HC.out.mono ?_; rintro e w1 ⟨rfl, v1, hp1⟩
  have HP := Lib.hid hp1
  clear hp1
  go_wp2_with fail
  go_end0
  exact ⟨rfl, _, HP.out⟩
theorem wu32_calls (n : Nat) (W : World) (base g : Nat) (v : Value) (xs : List Int) (h : Wtr W base g v xs) (hbase : base ≤ W.heap.size) (hn : n < 4294967296) (hm : xs.length ≤ 70368744177664) :
    Calls Tryd.prog 81 #[.pointer (some ⟨g, 0, none⟩), .int .u32 n] W fun e w' => e = .returned (.tuple #[]) ∧ ∃ v', Put W w' base g v v' (xs ++ fixL n 4) := by
  have HC := Lib.hid (wfixed_calls n 4 W base g v xs h hbase (by omega) (by omega) hm)
  clear h
  go_enter Tryd.func81, Tryd.ntmps81
  go_wp2_with fail
  refine HC.out.mono ?_; rintro e w1 ⟨rfl, v1, hp1⟩
  have HP := Lib.hid hp1
  clear hp1
  go_wp2_with fail
  go_end0
  exact ⟨rfl, _, HP.out⟩
theorem ru32_calls (n : Nat) (w : World) (base : Nat) (hbase : base ≤ w.heap.size) (hn : n < 4294967296) :
    Calls Tryd.prog 105 #[.int .u32 n] w fun e w' => ∃ v, e = .returned v ∧ w'.ownsRow base 5 1 v 4 (encs I (fixL n 4)) ∧ Below base w w' := by
  have HC := Lib.hid (rfixed_calls n 4 w base hbase (by omega) (by omega))
  go_enter Tryd.func105, Tryd.ntmps105
  go_wp2_with fail
  refine HC.out.mono ?_; rintro e w1 ⟨v1, rfl, ho1, hb1⟩
  have HO1 := Lib.hid ho1
  have HB1 := Lib.hid hb1
  clear ho1 hb1
  go_wp2_with fail
  go_ret
  exact ⟨_, rfl, HO1.out, HB1.out⟩
theorem wu64_calls (n : Nat) (W : World) (base g : Nat) (v : Value) (xs : List Int) (h : Wtr W base g v xs) (hbase : base ≤ W.heap.size) (hn : n < 18446744073709551616) (hm : xs.length ≤ 70368744177664) :
    Calls Tryd.prog 82 #[.pointer (some ⟨g, 0, none⟩), .int .u64 n] W fun e w' => e = .returned (.tuple #[]) ∧ ∃ v', Put W w' base g v v' (xs ++ fixL n 8) := by
  have HC := Lib.hid (wfixed_calls n 8 W base g v xs h hbase (by omega) (by omega) hm)
  clear h
  go_enter Tryd.func82, Tryd.ntmps82
  go_wp2_with fail
  refine HC.out.mono ?_; rintro e w1 ⟨rfl, v1, hp1⟩
  have HP := Lib.hid hp1
  clear hp1
  go_wp2_with fail
  go_end0
  exact ⟨rfl, _, HP.out⟩
theorem len64_calls (x : Nat) (w : World) (h : x < 18446744073709551616) : Calls Tryd.prog 103 #[.int .u64 x] w fun e w' => ∃ b : Nat, e = .returned (.int .i64 b) ∧ w' = w ∧ x < 2 ^ b ∧ (0 < b → 2 ^ (b - 1) ≤ x) ∧ b ≤ 64 := by
  refine (bits_Len64 (x : Int) w (by omega) (by omega)).mono ?_
  rintro e w' ⟨rfl, rfl⟩
  refine ⟨Lib.bitLen x, by simp, rfl, ?_⟩
  by_cases h0 : x = 0
  · subst h0; exact ⟨by decide, by decide, by decide⟩
  · have hb := Lib.bitLenAux_bounds 64 x h h0
    refine ⟨hb.2.2, fun _ => hb.2.1, ?_⟩
    exact Lib.bitLen_le x 64 (by omega) h
set_option maxRecDepth 20000 in
set_option maxHeartbeats 1600000 in
theorem wvar_calls (n : Nat) (W : World) (base g : Nat) (v : Value) (xs : List Int) (h : Wtr W base g v xs) (hbase : base ≤ W.heap.size) (hn : n < 18446744073709551616) (hm : xs.length ≤ 70368744177664) :
    Calls Tryd.prog 76 #[.pointer (some ⟨g, 0, none⟩), .int .u64 n] W fun e w' => e = .returned (.tuple #[]) ∧ ∃ v', Put W w' base g v v' (xs ++ vr n) := by
  have HC := Lib.hid (len64_calls n W hn)
  have HBS := Lib.hid hbase
  have HN := Lib.hid hn
  have H := Lib.hid h
  have HM := Lib.hid hm
  clear h hbase hm
  go_enter Tryd.func76, Tryd.ntmps76
  go_wp2_with fail
  refine HC.out.mono ?_; rintro e w1 ⟨b, rfl, rfl, hb1, hb2, hb3⟩
  have hrr := rounds n b hb1 hb2
  obtain ⟨K, hK⟩ : ∃ K, K = (max 1 b - 1) / 7 := ⟨_, rfl⟩
  rw [← hK] at hrr
  have HR := Lib.hid hrr
  have HK := Lib.hid hK
  have e1 : (max (1 : Int) (b : Int) - 1) / 7 = (K : Int) := by omega
  have e2 : (K : Int) ≤ 9 := by omega
  clear hb1 hb2 hrr hK
  go_wp2_with fail
  rw [e1]
  go_loopw [1, 9] (fun m i wr => ∃ (k : Nat) (v' : Value), m = .int .u64 ((n / 128 ^ k : Nat) : Int) ∧ i = .int .i64 k ∧ k ≤ K ∧ Put w1 wr base g v v' (xs ++ digs n k)) (fun _ i _ => K - (intOf i).toNat)
  case atStart => exact ⟨0, v, by simp, rfl, by omega, by simpa [digs] using Put.refl H.out⟩
  case round =>
    obtain ⟨k, v', rfl, rfl, hk, hp⟩ := hrel
    have HP := Lib.hid hp
    obtain ⟨m, hmm⟩ : ∃ m, m = n / 128 ^ k := ⟨_, rfl⟩
    rw [← hmm]
    have hmb : (m : Int) ≤ 18446744073709551615 := by
      have := HN.out
      have := Nat.div_le_self n (128 ^ k)
      omega
    have hc := blk_cell hp.wt.blk 0
    simp at hc
    obtain ⟨zs, hzs⟩ : ∃ zs, zs = xs ++ digs n k := ⟨_, rfl⟩
    have HLEN : Hid (zs.length ≤ 70368744177680) := by
      have hdl : (digs n k).length = k := by
        clear hzs hp hmm HP
        induction k with
        | zero => rfl
        | succ k ih => simp [digs, ih (by omega)]
      have := HM.out
      show zs.length ≤ 70368744177680
      rw [hzs, List.length_append, hdl]; omega
    rw [← hzs] at HP hp
    by_cases hlt : k < K
    · obtain ⟨x, hx⟩ : ∃ x : Int, x = ((128 + m % 128 : Nat) : Int) := ⟨_, rfl⟩
      have qv : Go.bits .or .u8 ((m : Int) % 256) 128 = x := by
        rw [hx, show (m : Int) % 256 = ((m % 256 : Nat) : Int) by omega, or_128 (m % 256) (by omega)]
        congr 2; omega
      have HXX : Hid (zs ++ [x] = xs ++ digs n (k + 1)) := by
        show zs ++ [x] = xs ++ digs n (k + 1)
        rw [hzs, hx, hmm, digs, List.append_assoc]
      have HMM : Hid (m / 128 = n / 128 ^ (k + 1)) := by
        show m / 128 = n / 128 ^ (k + 1)
        rw [hmm, Nat.div_div_eq_div_mul, ← Nat.pow_succ]
      have i1 : (k : Int) < (K : Int) := by omega
      clear hx hzs hmm hp
      go_wp2_with (at_builtin; refine print_append_of I (w0 := w1) base rfl (.tmp 15) (.tmp 19) 22 5 (.int .u8 0) 1 rfl Tryd.underlying22 info5 rfl (by omega) v' zs x rfl rfl rfl ?h1 ?h2 ?h3 ?h4 ?_; (case h1 => exact HP.out.wt.own); (case h2 => exact HP.out.bl); (case h3 => exact Nat.le_trans HBS.out HP.out.bl.size); (case h4 => have := HLEN.out; omega); intro v2 w2 ho1 hb1 hg1 hat1; obtain ⟨A1, m1, c1, rfl⟩ := slice_form ho1; have HP2 := Lib.hid (put_one HP.out.wt (Nat.le_trans HBS.out HP.out.bl.size) ho1 hg1 hat1); have hblk := blk_grown HP.out.wt.blk hg1 HP.out.wt.ne; have f0 := blk_frozen hblk 0; have c0 := blk_cell hblk 0; simp at c0; clear ho1 hb1 hg1 hat1 hblk)
      go_wp2_with fail
      go_roundw
      case rel => exact ⟨k + 1, _, by rw [← HMM.out]; rfl, by go_num, by omega, by have h := HP.out.trans HP2.out; rw [HXX.out] at h; exact h⟩
      case measure => simp [intOf]; omega
    · obtain rfl : k = K := by omega
      have hm2 : m < 128 := by rw [hmm]; exact HR.out.2
      have HXX : Hid (zs ++ [(m : Int)] = xs ++ vr n) := by
        show zs ++ [(m : Int)] = xs ++ vr n
        rw [vr_digs n k HR.out.1, ← hmm, vr_small hm2, hzs, List.append_assoc]
      have i1 : ¬ (k : Int) < (k : Int) := by omega
      have i2 : (m : Int) < 128 := by omega
      clear hzs hmm hp
      go_wp2_with (at_builtin; refine print_append_of I (w0 := w1) base rfl (.tmp 30) (.tmp 33) 22 5 (.int .u8 0) 1 rfl Tryd.underlying22 info5 rfl (by omega) v' zs (m : Int) rfl rfl rfl ?h1 ?h2 ?h3 ?h4 ?_; (case h1 => exact HP.out.wt.own); (case h2 => exact HP.out.bl); (case h3 => exact Nat.le_trans HBS.out HP.out.bl.size); (case h4 => have := HLEN.out; omega); intro v2 w2 ho1 hb1 hg1 hat1; obtain ⟨A1, m1, c1, rfl⟩ := slice_form ho1; have HP2 := Lib.hid (put_one HP.out.wt (Nat.le_trans HBS.out HP.out.bl.size) ho1 hg1 hat1); have hblk := blk_grown HP.out.wt.blk hg1 HP.out.wt.ne; have f0 := blk_frozen hblk 0; have c0 := blk_cell hblk 0; simp at c0; clear ho1 hb1 hg1 hat1 hblk)
      go_wp2_with fail
      go_end0
      exact ⟨rfl, _, by have h := HP.out.trans HP2.out; rw [HXX.out] at h; exact h⟩
end Go.Proofs.YtoeiaimoppmjdaaDoor.Wr
/- Contracts: the reference's Var and Text; the Writer's Bytes. -/
namespace Go.Proofs.YtoeiaimoppmjdaaDoor.Wr
open Go.RowKit Go.Proofs.YtoeiaimoppmjdaaDoorW.PrintWords Go.Proofs.YtoeiaimoppmjdaaDoor.Bytes
set_option linter.unusedVariables false
set_option linter.unusedSimpArgs false
theorem reads_of_own {w : World} {base n : Nat} {e : TypeId} {v : Value} {xs : List Int} (h : w.ownsRow base e 1 v n (encs I xs)) : ∃ A c, v = .slice A n c ∧ ReadsOf I 0 w A n xs := own_reads_of (d := (0 : Int)) h
set_option maxRecDepth 20000 in
set_option maxHeartbeats 1600000 in
theorem rvar_calls (n : Nat) : ∀ (w : World) (base : Nat), base ≤ w.heap.size → n < 18446744073709551616 →
    Calls Tryd.prog 79 #[.int .u64 n] w fun e w' => ∃ v, e = .returned v ∧ w'.ownsRow base 5 1 v (vr n).length (encs I (vr n)) ∧ Below base w w' := by
  induction n using Nat.strongRecOn with
  | _ n ih =>
    intro w base hbase hn
    have HBS := Lib.hid hbase
    by_cases h : n < 128
    · have i1 : (n : Int) < 128 := by omega
      have HV := Lib.hid (vr_small h)
      have HO := Lib.hid (own_lit_of (enc := I) w base 5 [(n : Int)] hbase (by simp))
      clear hbase hn h ih
      go_enter Tryd.func79, Tryd.ntmps79
      go_wp2_with fail
      go_ret
      exact ⟨_, rfl, by rw [HV.out]; exact HO.out, (Below.refl _ _).alloc HBS.out _⟩
    · obtain ⟨m, hmm⟩ : ∃ m, m = n / 128 := ⟨_, rfl⟩
      have HC := Lib.hid (fun W => ih m (by omega) W W.heap.size (Nat.le_refl _) (by omega))
      have i1 : ¬ (n : Int) < 128 := by omega
      obtain ⟨x, hx⟩ : ∃ x : Int, x = ((128 + n % 128 : Nat) : Int) := ⟨_, rfl⟩
      have qv : 128 + (n : Int) % 128 = x := by rw [hx]; omega
      have qw : IntKind.u64.wrap (m : Int) = (m : Int) := by rw [IntKind.wrap_u64]; omega
      have qd : (n : Int) / 128 = (m : Int) := by omega
      have HV : Hid (vr n = [x] ++ vr m) := by
        show vr n = [x] ++ vr m
        rw [vr_great h, hx, hmm]; rfl
      have HL : Hid ((vr m).length ≤ 10) := vr_length m 9 (by omega)
      have HO := Lib.hid (own_lit_of (enc := I) w base 5 [x] hbase (by simp))
      have HN : Hid ((n : Int) ≤ 18446744073709551615) := by show _ ≤ _; omega
      have n0 : (0 : Int) ≤ (n : Int) % 128 := by omega
      have n1 : (n : Int) % 128 < 128 := by omega
      clear hbase hn h ih hx hmm
      go_enter Tryd.func79, Tryd.ntmps79
      go_wp2_with fail
      refine (HC.out _).mono ?_; rintro e w1 ⟨v1, rfl, ho1, hb1'⟩
      obtain ⟨A1, c1, rfl, hr1⟩ := reads_of_own ho1
      have HR1 := Lib.hid hr1
      have HO1 := Lib.hid ho1
      have HBW : Hid (Below base w w1) := (((Below.refl base w).alloc HBS.out _).trans (hb1'.mono (by have := HBS.out; simp; omega)))
      clear hr1 ho1
      have HO2 := Lib.hid (pw_own_below HO.out hb1')
      go_wp2_with (at_builtin; refine print_append_row_of I 0 (w0 := w) base rfl (.tmp 14) (.tmp 17) 22 5 (.int .u8 0) 1 rfl Tryd.underlying22 info5 rfl (by omega) (fun _ => rfl) (.slice (some ⟨w.heap.size, 0, none⟩) 1 1) [x] (vr m) A1 (vr m).length c1 rfl rfl ?h1 ?h2 ?h3 ?h4 ?h5 ?_; (case h1 => exact HO2.out); (case h2 => exact HR1.out); (case h3 => exact HBW.out); (case h4 => exact Nat.le_trans HBS.out HBW.out.size); (case h5 => have := HL.out; simp; omega); intro v2 w2 ho2 hb2 hg2 hat2; have HO3 := Lib.hid ho2; have HB3 := Lib.hid hb2; clear ho2 hb2 hg2 hat2)
      go_wp2_with fail
      go_ret
      exact ⟨_, rfl, by rw [HV.out]; exact HO3.out, HB3.out⟩
set_option maxRecDepth 20000 in
set_option maxHeartbeats 1600000 in
theorem rtext_calls (ys : List Int) (A : Option Addr) (c : Nat) (w : World) (base : Nat) (hbase : base ≤ w.heap.size) (hr : ReadsOf I 0 w A ys.length ys) (hm : ys.length ≤ 70368744177664) :
    Calls Tryd.prog 37 #[.slice A ys.length c] w fun e w' => ∃ v, e = .returned v ∧ w'.ownsRow base 5 1 v (vr ys.length ++ ys).length (encs I (vr ys.length ++ ys)) ∧ Below base w w' := by
  have HBS := Lib.hid hbase
  have HR := Lib.hid hr
  have HM := Lib.hid hm
  have HC := Lib.hid (rvar_calls ys.length w w.heap.size (Nat.le_refl _) (by omega))
  have HL : Hid ((vr ys.length).length ≤ 10) := vr_length ys.length 9 (by omega)
  have l1 : (ys.length : Int) ≤ 9223372036854775807 := by omega
  clear hbase hr hm
  go_enter Tryd.func37, Tryd.ntmps37
  go_wp2_with fail
  refine HC.out.mono ?_; rintro e w1 ⟨v1, rfl, ho1, hb1⟩
  obtain ⟨A1, c1, rfl, hr1⟩ := reads_of_own ho1
  have HO1 := Lib.hid (own_less ho1 HBS.out)
  have HB1 : Hid (Below base w w1) := hb1.mono HBS.out
  have HR1 := Lib.hid (reads_keep HR.out hb1)
  clear ho1 hr1 hb1
  go_wp2_with (at_builtin; refine print_append_row_of I 0 (w0 := w) base rfl (.tmp 8) (.tmp 9) 22 5 (.int .u8 0) 1 rfl Tryd.underlying22 info5 rfl (by omega) (fun _ => rfl) (.slice A1 (vr ys.length).length c1) (vr ys.length) ys A ys.length c rfl rfl ?h1 ?h2 ?h3 ?h4 ?h5 ?_; (case h1 => exact HO1.out); (case h2 => exact HR1.out); (case h3 => exact HB1.out); (case h4 => exact Nat.le_trans HBS.out HB1.out.size); (case h5 => have := HL.out; have := HM.out; omega); intro v2 w2 ho2 hb2 hg2 hat2; have HO3 := Lib.hid ho2; have HB3 := Lib.hid hb2; clear ho2 hb2 hg2 hat2)
  go_wp2_with fail
  go_ret
  exact ⟨_, rfl, HO3.out, HB3.out⟩
theorem wbytes_calls (ys : List Int) (A : Option Addr) (c : Nat) (W : World) (base g : Nat) (v : Value) (xs : List Int) (h : Wtr W base g v xs) (hbase : base ≤ W.heap.size) (hr : ∀ w', KeepBut W w' g v.ownBlock → ReadsOf I 0 w' A ys.length ys) (hm : xs.length + ys.length ≤ 70368744177600) :
    Calls Tryd.prog 31 #[.pointer (some ⟨g, 0, none⟩), .slice A ys.length c] W fun e w' => e = .returned (.tuple #[]) ∧ ∃ v', Put W w' base g v v' (xs ++ (vr ys.length ++ ys)) := by
  have HBS := Lib.hid hbase
  have HR := Lib.hid hr
  have HM := Lib.hid hm
  have HC := Lib.hid (wvar_calls ys.length W base g v xs h hbase (by omega) (by omega))
  have HL : Hid ((vr ys.length).length ≤ 10) := vr_length ys.length 9 (by omega)
  have l1 : (ys.length : Int) ≤ 9223372036854775807 := by omega
  clear hbase hr hm h
  go_enter Tryd.func31, Tryd.ntmps31
  go_wp2_with fail
  refine HC.out.mono ?_; rintro e w1 ⟨rfl, v1, hp1⟩
  have HP := Lib.hid hp1
  have HC2 := Lib.hid (raw_calls w1 base g v1 (xs ++ vr ys.length) ys A c hp1.wt (Nat.le_trans HBS.out hp1.bl.size) (HR.out w1 hp1.kb) (by have := HL.out; have := HM.out; simp; omega))
  clear hp1
  go_wp2_with fail
  refine HC2.out.mono ?_; rintro e w2 ⟨rfl, v2, hp2⟩
  have HP2 := Lib.hid hp2
  clear hp2
  go_wp2_with fail
  go_end0
  exact ⟨rfl, _, by have h := HP.out.trans HP2.out; rw [List.append_assoc] at h; exact h⟩
theorem into_calls (i : Int) (w : World) (h1 : -9223372036854775808 ≤ i) (h2 : i ≤ 9223372036854775807) :
    Calls Tryd.prog 18 #[.int .i64 i, .int .i64 2] w fun e w' => e = .returned (.int .i64 (i % 2)) ∧ w' = w := by
  have b1 := Int.tmod_lt_of_pos i (show (0 : Int) < 2 by omega)
  have b2 := Int.lt_tmod_of_pos i (show (0 : Int) < 2 by omega)
  by_cases hi : i.tmod 2 < 0
  · have e : i % 2 = wrap64 (i.tmod 2 + 2) := by
      rw [show wrap64 (i.tmod 2 + 2) = i.tmod 2 + 2 by unfold wrap64; omega]
      have h := Int.mul_tdiv_add_tmod i 2
      rw [← Int.emod_eq_of_lt (a := i.tmod 2 + 2) (b := 2) (by omega) (by omega)]
      conv => lhs; rw [← h]
      rw [Int.mul_add_emod_self_left, Int.add_emod_right]
    rw [e]
    clear e b1 b2
    go_enter Tryd.func18, Tryd.ntmps18
    go_wp2_with fail
    go_ret
    exact ⟨rfl, rfl⟩
  · have e : i % 2 = i.tmod 2 := by
      have h := Int.mul_tdiv_add_tmod i 2
      rw [← Int.emod_eq_of_lt (a := i.tmod 2) (b := 2) (by omega) b1]
      conv => lhs; rw [← h]
      rw [Int.mul_add_emod_self_left]
    rw [e]
    clear e b1 b2
    go_enter Tryd.func18, Tryd.ntmps18
    go_wp2_with fail
    go_ret
    exact ⟨rfl, rfl⟩
end Go.Proofs.YtoeiaimoppmjdaaDoor.Wr
/- Readers in memory; contracts of Read, Left, next, fixed, U32. -/
namespace Go.Proofs.YtoeiaimoppmjdaaDoor.Wr
open Go.RowKit Go.Proofs.YtoeiaimoppmjdaaDoorW.PrintWords Go.Proofs.YtoeiaimoppmjdaaDoor.Bytes
set_option linter.unusedVariables false
set_option linter.unusedSimpArgs false
/-- Reader g is over xs, in the row v, at that place, with that fault. -/
structure Rdr (W : World) (base g : Nat) (v : Value) (xs : List Int) (at_ met : Int) : Prop where
  blk : W.heap[g]? = some (.cells #[v, .int .i64 at_, .int .i64 met] 105 (0, 0))
  le : base ≤ g
  own : W.ownsRow base 5 1 v xs.length (encs I xs)
theorem rdr_below {W W1 : World} {base g : Nat} {v : Value} {xs : List Int} {a m : Int} (h : Rdr W base g v xs a m) (hb : Below W.heap.size W W1) : Rdr W1 base g v xs a m :=
  ⟨blk_below h.blk hb, h.le, pw_own_below h.own hb⟩
theorem rdr_put {W : World} {base g : Nat} {v : Value} {xs : List Int} {a m : Int} (h : Rdr W base g v xs a m) (b : Int) : Rdr (W.setCell ⟨g, 1, none⟩ (.int .i64 b)) base g v xs b m :=
  ⟨blk_put h.blk 1 _ rfl, h.le, own_other h.own (grown_set W g 1 _) (.inr (by
    intro e
    obtain ⟨cs, hk⟩ := own_kind h.own g e
    rw [h.blk] at hk
    simp at hk))⟩
set_option maxRecDepth 20000 in
theorem read_calls (xs : List Int) (A : Option Addr) (c : Nat) (w : World) (base : Nat) (hbase : base ≤ w.heap.size) (hr : ReadsOf I 0 w A xs.length xs) (hm : xs.length ≤ 140737488355328) :
    Calls Tryd.prog 14 #[.slice A xs.length c] w fun e w' => ∃ g v, e = .returned (.pointer (some ⟨g, 0, none⟩)) ∧ Rdr w' base g v xs 0 0 ∧ Below base w w' ∧ w.heap.size ≤ g ∧ (∀ b, v.ownBlock = some b → w.heap.size ≤ b) := by
  have HBS := Lib.hid hbase
  have HC := Lib.hid (taken_calls xs A c w w.heap.size (Nat.le_refl _) hr hm)
  clear hr hbase
  go_enter Tryd.func14, Tryd.ntmps14
  go_wp2_with fail
  refine HC.out.mono ?_; rintro e w1 ⟨v1, rfl, ho1, hb1⟩
  obtain ⟨A1, n1, c1, rfl⟩ := slice_form ho1
  have HO1 := Lib.hid ho1
  have HB1 := Lib.hid hb1
  clear ho1 hb1
  go_wp2_with fail
  go_ret
  refine ⟨w1.heap.size, .slice A1 n1 c1, rfl, ⟨blk_new w1 _, Nat.le_trans HBS.out HB1.out.size, own_alloc (own_less HO1.out HBS.out) _⟩, (HB1.out.mono HBS.out).alloc (Nat.le_trans HBS.out HB1.out.size) _, HB1.out.size, fun b hb => own_base HO1.out b hb⟩
set_option maxRecDepth 20000 in
theorem left_calls (W : World) (base g : Nat) (v : Value) (xs : List Int) (a m : Int) (h : Rdr W base g v xs a m) (h0 : 0 ≤ a) (h1 : a ≤ xs.length) :
    Calls Tryd.prog 17 #[.pointer (some ⟨g, 0, none⟩)] W fun e w' => e = .returned (.int .i64 ((xs.length : Int) - a)) ∧ Below W.heap.size W w' := by
  obtain ⟨A, c, rfl, hr⟩ := reads_of_own h.own
  have c0 := blk_cell h.blk 0
  have c1 := blk_cell h.blk 1
  simp at c0 c1
  have hl : (xs.length : Int) ≤ 9223372036854775807 := by have := hr.2.1; omega
  have q1 : IntKind.i64.wrap ((xs.length : Int) - a) = (xs.length : Int) - a := wrap_in (by omega) (by omega)
  clear hr h
  go_enter Tryd.func17, Tryd.ntmps17
  go_wp2_with fail
  go_quiet (fail)
  go_wp2_with fail
  go_ret
  exact ⟨rfl, pw_below_drewN (Below.refl _ _) _⟩
theorem cut_reads {W : World} {base : Nat} {A : Option Addr} {len c : Nat} {xs : List Int} (h : W.ownsRow base 5 1 (.slice A xs.length c) xs.length (encs I xs)) (a n : Nat) (hn : a + n ≤ xs.length) :
    ReadsOf I 0 W (if c = a then A else A.map (·.add (a * 1))) n ((xs.drop a).take n) := by
  have hr : ReadsOf I 0 W A xs.length xs := own_reads h (by simp)
  refine ⟨by simp; omega, by have := hr.2.1; omega, fun h0 => ?_⟩
  obtain ⟨ad, rfl, hc⟩ := hr.2.2 (by omega)
  obtain ⟨g, cap, hf, _, _⟩ := h.form (by omega)
  injection hf with hf _ hc2
  injection hf with hf
  subst hf
  have hcap : xs.length ≤ c := by
    rcases h.2 with ⟨e, _⟩ | ⟨_, _, _, e, _, _, h5, _⟩
    · cases e
    · injection e with _ _ e; omega
  rw [if_neg (by omega)]
  refine ⟨⟨g, a, none⟩, by simp [Addr.add]; exact fun e => e.symm, fun j hj => ?_⟩
  have := hc (a + j) (by omega)
  rw [add_plain] at this
  have e : (⟨g, a, none⟩ : Addr).add j = ⟨g, a + j, none⟩ := by unfold Addr.add; split <;> simp_all
  rw [e, this]
  simp [List.getD_eq_getElem?_getD, List.getElem?_take, hj]
set_option maxRecDepth 20000 in
set_option maxHeartbeats 1600000 in
theorem next_calls (W : World) (base g : Nat) (v : Value) (xs : List Int) (a n : Nat) (h : Rdr W base g v xs a 0) (hb : base ≤ W.heap.size) (hn : a + n ≤ xs.length) :
    Calls Tryd.prog 78 #[.pointer (some ⟨g, 0, none⟩), .int .i64 n] W fun e w' => ∃ A2 c2, e = .returned (.slice A2 n c2) ∧ ReadsOf I 0 w' A2 n ((xs.drop a).take n) ∧ Rdr w' base g v xs ((a + n : Nat) : Int) 0 ∧ Below base W w' ∧ KeepBut W w' g none := by
  obtain ⟨A, c, rfl, hr⟩ := reads_of_own h.own
  have hcap : xs.length ≤ c := by
    rcases h.own.2 with ⟨e, e2⟩ | ⟨_, _, _, e, _, _, h5, _⟩
    · omega
    · injection e with _ _ e; omega
  have c2 := blk_cell h.blk 2
  simp at c2
  obtain ⟨i0, hi0, _, hs0, _⟩ := info_parts info5
  have q : ∀ W : World, (Instr.slice 22 (.slice A xs.length c) (some (.int .i64 (a : Int))) (some (.int .i64 ((a : Int) + (n : Int)))) none).run Tryd.prog W = .ok (.slice (if c = a then A else A.map (·.add (a * 1))) n (c - a)) W := fun W => by
    have h := cut_mid (P := Tryd.prog) 22 5 .i64 .i64 Tryd.underlying22 hi0 1 hs0 A xs.length c (a : Int) ((a : Int) + n) (by omega) (by omega) (by omega) hcap W
    rw [Int.toNat_natCast, show ((a : Int) + (n : Int)).toNat - a = n by omega] at h
    exact h
  have HQ : Hid (∀ W : World, W.ownsRow base 5 1 (.slice A xs.length c) xs.length (encs I xs) → ReadsOf I 0 W (if c = a then A else A.map (·.add (a * 1))) n ((xs.drop a).take n)) := fun W ho => cut_reads (len := 0) ho a n hn
  obtain ⟨A2, hA2⟩ : ∃ A2, A2 = (if c = a then A else A.map (·.add (a * 1))) := ⟨_, rfl⟩
  rw [← hA2] at HQ
  simp only [← hA2] at q
  have hl : (xs.length : Int) ≤ 9223372036854775807 := by have := hr.2.1; omega
  have p1 : ¬ (xs.length : Int) - (a : Int) < (n : Int) := by omega
  have p2 : IntKind.i64.wrap ((a : Int) + (n : Int)) = (a : Int) + (n : Int) := wrap_in (by omega) (by omega)
  have CL := Lib.hid (left_calls W base g _ xs a 0 h (by omega) (by omega))
  have H := Lib.hid h
  have HBS := Lib.hid hb
  have HN := Lib.hid hn
  clear hr h hA2 hcap hb hn
  go_enter Tryd.func78, Tryd.ntmps78
  go_wp2_with fail
  refine CL.out.mono ?_; rintro e w1 ⟨rfl, hb1⟩
  have h1 := rdr_below H.out hb1
  have H1 := Lib.hid h1
  have HB1 := Lib.hid hb1
  have d0 := blk_cell h1.blk 0
  have d1 := blk_cell h1.blk 1
  simp at d0 d1
  have f1 := blk_frozen h1.blk 1
  clear h1 hb1 c2
  go_wp2_with fail
  go_quiet (fail)
  go_wp2_with fail
  go_ret
  have HR2 := rdr_put (rdr_below H1.out (pw_below_drewN (Below.refl _ _) nq)) ((a : Int) + (n : Int))
  have HB2 : Below base W ((w1.drewN nq).setCell ⟨g, 1, none⟩ (.int .i64 ((a : Int) + (n : Int)))) := ((HB1.out.mono HBS.out).trans (pw_below_drewN (Below.refl _ _) nq)).setCell H.out.le _
  have HK2 : KeepBut W ((w1.drewN nq).setCell ⟨g, 1, none⟩ (.int .i64 ((a : Int) + (n : Int)))) g none := (keep_drewN (KeepBut.of_below HB1.out g none) nq).set_ 1 _
  exact ⟨A2, _, rfl, HQ.out _ HR2.own, HR2, HB2, HK2⟩
end Go.Proofs.YtoeiaimoppmjdaaDoor.Wr
/- Contracts: numbers of fixed size, read. -/
namespace Go.Proofs.YtoeiaimoppmjdaaDoor.Wr
open Go.RowKit Go.Proofs.YtoeiaimoppmjdaaDoorW.PrintWords Go.Proofs.YtoeiaimoppmjdaaDoor.Bytes
set_option linter.unusedVariables false
set_option linter.unusedSimpArgs false
set_option maxRecDepth 4000 in
theorem or_low (m c : Nat) (hc : c < 256) (hm : m * 256 + c < 18446744073709551616) : Go.bits .or .u64 ((m : Int) * 256) (c : Int) = ((m * 256 + c : Nat) : Int) := by
  have h := u64_or_nat (m * 256) c (Nat.lt_of_le_of_lt (Nat.le_add_right _ _) hm) (Nat.lt_of_le_of_lt (Nat.le_add_left _ _) hm)
  rw [show ((m * 256 : Nat) : Int) = (m : Int) * 256 by simp] at h
  rw [h]
  have h2 := Nat.two_pow_add_eq_or_of_lt (i := 8) (b := c) (by simpa using hc) m
  rw [show (2 : Nat) ^ 8 = 256 from rfl, Nat.mul_comm 256 m] at h2
  rw [h2]
set_option maxRecDepth 20000 in
set_option maxHeartbeats 1600000 in
theorem rdfixed_calls (W : World) (base g : Nat) (v : Value) (xs : List Int) (a size i : Nat) (h : Rdr W base g v xs a 0) (hb : base ≤ W.heap.size) (hn : a + size ≤ xs.length) (hs : size ≤ 8) (hi : i < 18446744073709551616) (hi2 : i / 256 ^ size = 0)
    (hx : (xs.drop a).take size = fixL i size) :
    Calls Tryd.prog 75 #[.pointer (some ⟨g, 0, none⟩), .int .i64 size] W fun e w' => e = .returned (.int .u64 i) ∧ Rdr w' base g v xs ((a + size : Nat) : Int) 0 ∧ Below base W w' ∧ KeepBut W w' g none := by
  have CN := Lib.hid (next_calls W base g v xs a size h hb hn)
  have HI := Lib.hid hi
  have HI2 := Lib.hid hi2
  have HX := Lib.hid hx
  have HBS := Lib.hid hb
  have s1 : (size : Int) ≤ 8 := by omega
  clear h hb hn hi hi2 hx
  go_enter Tryd.func75, Tryd.ntmps75
  go_wp2_with fail
  refine CN.out.mono ?_; rintro e w1 ⟨A2, c2, rfl, hr2, h2, hb2, hk2⟩
  rw [HX.out] at hr2
  have HR2 := Lib.hid hr2
  have H2 := Lib.hid h2
  have HB2 := Lib.hid hb2
  have HK2 := Lib.hid hk2
  clear hr2 h2 hb2 hk2
  go_wp2_with fail
  go_loopw [5, 12] (fun m j wr => ∃ k : Nat, m = .int .u64 ((i / 256 ^ (size - k) : Nat) : Int) ∧ j = .int .i64 k ∧ k ≤ size ∧ Below w1.heap.size w1 wr) (fun _ j _ => size - (intOf j).toNat)
  case atStart => exact ⟨0, by have := HI2.out; simp only [Nat.sub_zero]; rw [this]; rfl, rfl, by omega, Below.refl _ _⟩
  case round =>
    obtain ⟨k, rfl, rfl, hk, hb3⟩ := hrel
    have HB3 := Lib.hid hb3
    clear hb3
    by_cases hlt : k < size
    · have hrr := HR2.out
      have hfl := fixL_length i size
      obtain ⟨ad, hA, hc⟩ := hrr.2.2 (by omega)
      subst hA
      obtain ⟨m0, hm0⟩ : ∃ m, m = i / 256 ^ (size - k) := ⟨_, rfl⟩
      obtain ⟨cc, hcc⟩ : ∃ m, m = i / 256 ^ (size - 1 - k) % 256 := ⟨_, rfl⟩
      have hm1 : m0 * 256 + cc = i / 256 ^ (size - (k + 1)) := by
        have e1 : size - k = (size - 1 - k) + 1 := by omega
        rw [hm0, hcc, e1, Nat.pow_succ, ← Nat.div_div_eq_div_mul, show size - (k + 1) = size - 1 - k by omega]
        omega
      have hml : m0 * 256 + cc < 18446744073709551616 := by
        rw [hm1]; have := HI.out; exact Nat.lt_of_le_of_lt (Nat.div_le_self _ _) this
      have x1 := pw_cell_below HB3.out (hc k (by omega))
      rw [fixL_get i size k hlt, ← hcc] at x1
      obtain ⟨m1, hmm1⟩ : ∃ m1, m1 = m0 * 256 + cc := ⟨_, rfl⟩
      have qo : Go.bits .or .u64 ((m0 : Int) * 256) (cc : Int) = (m1 : Int) := by rw [hmm1]; exact or_low m0 cc (by omega) hml
      have HM : Hid (m1 = i / 256 ^ (size - (k + 1))) := hmm1.trans hm1
      rw [← hm0]
      have i1 : (k : Int) < (size : Int) := by omega
      have i2 : (0 : Int) ≤ (k : Int) := by omega
      have i3 : (m0 : Int) * 256 ≤ 18446744073709551615 := by omega
      have cb : (cc : Int) ≤ 255 := by omega
      clear hm0 hcc hm1 hml hmm1 hrr hfl hc
      go_wp2_with fail
      exact ⟨⟨k + 1, by rw [HM.out], by go_num, by omega, HB3.out⟩, by simp [intOf]; omega⟩
    · have e0 : i / 256 ^ (size - k) = i := by rw [show size - k = 0 by omega]; simp
      rw [e0]
      have i1 : ¬ (k : Int) < (size : Int) := by omega
      have H3 := Lib.hid (rdr_below H2.out HB3.out)
      clear e0
      go_wp2_with fail
      go_ret
      exact ⟨rfl, H3.out, HB2.out.trans (HB3.out.mono (Nat.le_trans HBS.out HB2.out.size)), HK2.out.trans (KeepBut.of_below HB3.out g none) (.inl rfl)⟩
theorem rdu32_calls (W : World) (base g : Nat) (v : Value) (xs : List Int) (a i : Nat) (h : Rdr W base g v xs a 0) (hb : base ≤ W.heap.size) (hn : a + 4 ≤ xs.length) (hi : i < 4294967296) (hx : (xs.drop a).take 4 = fixL i 4) :
    Calls Tryd.prog 66 #[.pointer (some ⟨g, 0, none⟩)] W fun e w' => e = .returned (.int .u32 i) ∧ Rdr w' base g v xs ((a + 4 : Nat) : Int) 0 ∧ Below base W w' ∧ KeepBut W w' g none := by
  have HC := Lib.hid (rdfixed_calls W base g v xs a 4 i h hb hn (by omega) (by omega) (by omega) hx)
  have i1 : (i : Int) < 4294967296 := by omega
  clear h
  go_enter Tryd.func66, Tryd.ntmps66
  go_wp2_with fail
  refine HC.out.mono ?_; rintro e w1 ⟨rfl, h1, hb1, hk1⟩
  have H1 := Lib.hid h1
  have HB1 := Lib.hid hb1
  have HK1 := Lib.hid hk1
  clear h1 hb1 hk1
  go_wp2_with fail
  go_ret
  exact ⟨rfl, H1.out, HB1.out, HK1.out⟩
end Go.Proofs.YtoeiaimoppmjdaaDoor.Wr
/- Plain: what a Reader answers, as a function of its bytes, its place and what it has met. -/
namespace Go.Proofs.YtoeiaimoppmjdaaDoor.Wr
open Go.RowKit Go.Proofs.YtoeiaimoppmjdaaDoor.Bytes
set_option linter.unusedVariables false
set_option linter.unusedSimpArgs false
/-- A Reader's place, and what it has met. -/
structure RS where
  at_ : Nat
  met : Nat
  deriving DecidableEq
def numBE (l : List Int) : Nat := l.foldl (fun m c => m * 256 + c.toNat) 0
theorem numBE_snoc (l : List Int) (c : Int) : numBE (l ++ [c]) = numBE l * 256 + c.toNat := by simp [numBE]
theorem numBE_lt {l : List Int} (h : Byt l) : numBE l < 256 ^ l.length := by
  induction hl : l.length generalizing l with
  | zero => obtain rfl := List.eq_nil_of_length_eq_zero hl; simp [numBE]
  | succ n ih =>
    have hne : l ≠ [] := fun e => by rw [e] at hl; cases hl
    have e := (List.dropLast_concat_getLast hne).symm
    have h1 := ih (l := l.dropLast) (fun a ha => h a ((List.dropLast_sublist l).subset ha)) (by simp [hl])
    have h2 := h (l.getLast hne) (List.getLast_mem hne)
    rw [e, numBE_snoc, Nat.pow_succ]
    omega
/-- A number of so many bytes. -/
def rFix (xs : List Int) (s : RS) (size : Nat) : Nat × RS :=
  if s.met = 0 then if s.at_ + size ≤ xs.length then (numBE ((xs.drop s.at_).take size), ⟨s.at_ + size, 0⟩) else (0, ⟨s.at_, 1⟩) else (0, s)
/-- What a number in its shortest form comes to: it, and how many bytes it takes; or what is met. -/
inductive VR where
  | ok (n k : Nat)
  | bad (m : Nat)
def varR (most : Nat) : List Int → Nat → Nat → VR
  | [], i, _ => .bad (if i < 10 then 1 else 2)
  | c :: t, i, n =>
    if 10 ≤ i then .bad 2
    else if i = 9 ∧ 1 < c then .bad 2
    else if 128 ≤ c then varR most t (i + 1) (n + (c.toNat % 128) * 128 ^ i)
    else if c = 0 ∧ 0 < i then .bad 2
    else if most < n + (c.toNat % 128) * 128 ^ i then .bad 3
    else .ok (n + (c.toNat % 128) * 128 ^ i) (i + 1)
def rVar (xs : List Int) (s : RS) (most : Nat) : Nat × RS :=
  if s.met = 0 then match varR most (xs.drop s.at_) 0 0 with
    | .ok n k => (n, ⟨s.at_ + k, 0⟩)
    | .bad m => (0, ⟨s.at_, m⟩)
  else (0, s)
/-- So many bytes (0 or more, where nothing has been met). -/
def rNext (xs : List Int) (s : RS) (n : Int) : List Int × RS :=
  if s.met = 0 then if n ≤ (xs.length : Int) - s.at_ then ((xs.drop s.at_).take n.toNat, ⟨s.at_ + n.toNat, 0⟩) else ([], ⟨s.at_, 1⟩) else ([], s)
def rRaw (xs : List Int) (s : RS) (n : Int) : List Int × RS := if n < 0 ∧ s.met = 0 then ([], ⟨s.at_, 4⟩) else rNext xs s n
def rBytes (xs : List Int) (s : RS) (most : Int) : List Int × RS :=
  if (rVar xs s most.toNat).2.met = 0 ∧ xs.length < (rVar xs s most.toNat).2.at_ + (rVar xs s most.toNat).1 then ([], ⟨s.at_, 1⟩) else rNext xs (rVar xs s most.toNat).2 ((rVar xs s most.toNat).1 : Int)
/-- The errors' numbers. -/
def errN : Nat → Int
  | 0 => 0
  | 1 => 10
  | 2 => 11
  | 3 => 12
  | _ => 14
def rEnd (xs : List Int) (s : RS) : Int := if s.met = 0 ∧ s.at_ < xs.length then 13 else errN s.met
/-- Where a Reader may stand. -/
structure RS.Ok (s : RS) (xs : List Int) : Prop where
  at_ : s.at_ ≤ xs.length
  met : s.met ≤ 4
theorem varR_ok (most : Nat) (l : List Int) : ∀ (i n r k : Nat), varR most l i n = .ok r k → i < k ∧ k ≤ i + l.length ∧ k ≤ 10 ∧ r ≤ most := by
  induction l with
  | nil => intro i n r k h; simp [varR] at h
  | cons c t ih =>
    intro i n r k h
    rw [varR] at h
    split at h
    · cases h
    split at h
    · cases h
    split at h
    · have := ih _ _ _ _ h; simp; omega
    split at h
    · cases h
    split at h
    · cases h
    · injection h with h1 h2; subst h2; simp; omega
theorem varR_bad (most : Nat) (l : List Int) : ∀ (i n m : Nat), varR most l i n = .bad m → 1 ≤ m ∧ m ≤ 3 := by
  induction l with
  | nil =>
    intro i n m h
    simp only [varR] at h
    injection h with h
    split at h <;> omega
  | cons c t ih =>
    intro i n m h
    rw [varR] at h
    split at h
    · injection h with h; omega
    split at h
    · injection h with h; omega
    split at h
    · exact ih _ _ _ h
    split at h
    · injection h with h; omega
    split at h
    · injection h with h; omega
    · cases h
theorem rFix_ok {xs : List Int} {s : RS} (h : s.Ok xs) (size : Nat) : (rFix xs s size).2.Ok xs := by
  unfold rFix
  split
  · split
    · exact ⟨by assumption, by simp⟩
    · exact ⟨h.at_, by simp⟩
  · exact h
theorem rVar_ok {xs : List Int} {s : RS} (h : s.Ok xs) (most : Nat) : (rVar xs s most).2.Ok xs ∧ (rVar xs s most).1 ≤ most := by
  unfold rVar
  split
  · split
    · rename_i n k hv
      have hk := varR_ok _ _ _ _ _ _ hv
      have := h.at_
      exact ⟨⟨by simp at hk ⊢; omega, by simp⟩, hk.2.2.2⟩
    · rename_i m hv
      have hm := varR_bad _ _ _ _ _ hv
      exact ⟨⟨h.at_, by simp; omega⟩, by simp⟩
  · exact ⟨h, by simp⟩
theorem rNext_ok {xs : List Int} {s : RS} (h : s.Ok xs) (n : Int) : (rNext xs s n).2.Ok xs := by
  unfold rNext
  split
  · split
    · exact ⟨by have := h.at_; simp; omega, by simp⟩
    · exact ⟨h.at_, by simp⟩
  · exact h
theorem rRaw_ok {xs : List Int} {s : RS} (h : s.Ok xs) (n : Int) : (rRaw xs s n).2.Ok xs := by
  unfold rRaw
  split
  · exact ⟨h.at_, by simp⟩
  · exact rNext_ok h n
theorem rBytes_ok {xs : List Int} {s : RS} (h : s.Ok xs) (most : Int) : (rBytes xs s most).2.Ok xs := by
  unfold rBytes
  split
  · exact ⟨h.at_, by simp⟩
  · exact rNext_ok (rVar_ok h _).1 _
theorem rFix_stopped {xs : List Int} {s : RS} (h : s.met ≠ 0) (size : Nat) : rFix xs s size = (0, s) := by simp [rFix, h]
theorem rVar_stopped {xs : List Int} {s : RS} (h : s.met ≠ 0) (most : Nat) : rVar xs s most = (0, s) := by simp [rVar, h]
theorem rNext_stopped {xs : List Int} {s : RS} (h : s.met ≠ 0) (n : Int) : rNext xs s n = ([], s) := by simp [rNext, h]
theorem rRaw_stopped {xs : List Int} {s : RS} (h : s.met ≠ 0) (n : Int) : rRaw xs s n = ([], s) := by simp [rRaw, h, rNext]
theorem rBytes_stopped {xs : List Int} {s : RS} (h : s.met ≠ 0) (most : Int) : rBytes xs s most = ([], s) := by simp [rBytes, rVar_stopped h, h, rNext]
theorem rFix_lt {xs : List Int} (hb : Byt xs) (s : RS) (size : Nat) : (rFix xs s size).1 < 256 ^ size := by
  unfold rFix
  have hp : 0 < 256 ^ size := Nat.pow_pos (by omega)
  split
  · split
    · have h := numBE_lt (l := (xs.drop s.at_).take size) (fun a ha => hb a (List.mem_of_mem_drop (List.mem_of_mem_take ha)))
      have hl : ((xs.drop s.at_).take size).length = size := by simp; omega
      rw [hl] at h; exact h
    · exact hp
  · exact hp
theorem u8_and127 (c : Nat) (h : c < 256) : Go.bits .and .u8 (c : Int) 127 = ((c % 128 : Nat) : Int) := by
  have := u8_and_nat c 127 h (by omega)
  rw [nat_mask7] at this; exact this
theorem nat_and128 (c : Nat) (h : c < 256) : c &&& 128 = if 128 ≤ c then 128 else 0 := by
  have : ∀ c : Fin 256, c.1 &&& 128 = if 128 ≤ c.1 then 128 else 0 := by decide +kernel
  exact this ⟨c, h⟩
theorem u8_and128 (c : Nat) (h : c < 256) : Go.bits .and .u8 (c : Int) 128 = if 128 ≤ c then 128 else 0 := by
  have := u8_and_nat c 128 h (by omega)
  rw [nat_and128 c h] at this
  rw [show ((128 : Nat) : Int) = 128 from rfl] at this
  rw [this]; split <;> rfl
theorem u64_shift_or (n d i : Nat) (hn : n < 128 ^ i) (hd : d < 128) (h : n + d * 128 ^ i < 18446744073709551616) : Go.bits .or .u64 (n : Int) ((d * 128 ^ i : Nat) : Int) = ((n + d * 128 ^ i : Nat) : Int) := by
  have h0 := u64_or_nat n (d * 128 ^ i) (by omega) (by omega)
  rw [h0]
  have e : (128 : Nat) ^ i = 2 ^ (7 * i) := by rw [show (128 : Nat) = 2 ^ 7 from rfl, ← Nat.pow_mul]
  rw [e] at hn h ⊢
  have h2 := Nat.two_pow_add_eq_or_of_lt (i := 7 * i) (b := n) hn d
  rw [Nat.or_comm, Nat.mul_comm d, ← h2, Nat.add_comm]
end Go.Proofs.YtoeiaimoppmjdaaDoor.Wr
/- Laws of no program: append of what is read, at a run, at a list, at a step of a region; results in cells; a call that keeps what was there, inside a region. -/
namespace Go.Proofs.YtoeiaimoppmjdaaDoor.Gen
open Go.RowKit Go.Proofs.YtoeiaimoppmjdaaDoorW.PrintWords Go.Sort
set_option linter.unusedVariables false
set_option linter.unusedSimpArgs false
section
variable {P : Program} {α : Type}
/-- append(v, ys...): ys a slice that is read (nil and empty too), v a row of one's own. -/
theorem run_append_reads (W : World) (enc : α → Value) (d : α) (base : Nat) (t e ty : TypeId) (z : Value) (bytes : Nat)
    (ht : P.underlying t = some (.slice e)) (hinfo : (P.info? e).map (fun i => (i.zero, i.size, i.bytes)) = some (some z, 1, bytes)) (hz : z.cells.size = 1) (hb0 : 0 < bytes) (h1 : ∀ x : α, (enc x).oneCell' = true)
    (v : Value) (xs ys : List α) (A : Option Addr) (m c : Nat) (HO : W.ownsRow base e 1 v xs.length (encs enc xs)) (HR : ReadsOf enc d W A m ys) (hbase : base ≤ W.heap.size) (hl : (xs.length + m) * bytes ≤ 140737488355328) (n' : Nat) (hn : xs.length + m = n') :
    ∃ A1 c1 w1, (Builtin.append_ #[t, t] ty #[v, .slice A m c]).run P W = .ok (.slice A1 n' c1) w1 ∧ w1.ownsRow base e 1 (.slice A1 n' c1) n' (encs enc (xs ++ ys)) ∧ W.grownBy w1 v.ownBlock ∧
      ((Value.slice A1 n' c1).ownBlock = v.ownBlock ∨ (Value.slice A1 n' c1).ownBlock = some W.heap.size) := by
  subst hn
  obtain ⟨i0, hi, hzz⟩ := Option.map_eq_some_iff.1 hinfo
  simp only [Prod.mk.injEq] at hzz
  obtain ⟨hz0, hz1, hz2⟩ := hzz
  have hm : ys.length = m := HR.1
  have hlen : xs.length + m ≤ 140737488355328 := Nat.le_trans (Nat.le_mul_of_pos_right _ hb0) hl
  suffices h : ∃ v1 w1, (Builtin.append_ #[t, t] ty #[v, .slice A m c]).run P W = .ok v1 w1 ∧ w1.ownsRow base e 1 v1 (xs.length + m) (encs enc (xs ++ ys)) ∧ W.grownBy w1 v.ownBlock ∧ (v1.ownBlock = v.ownBlock ∨ v1.ownBlock = some W.heap.size) by
    obtain ⟨v1, w1, hr, ho, hg, hat⟩ := h
    obtain ⟨A1, c1, rfl⟩ := own_slice ho
    exact ⟨A1, c1, w1, hr, ho, hg, hat⟩
  rcases A with _ | ad
  · have h0 : m = 0 := by
      rcases Nat.eq_zero_or_pos m with h0 | h0
      · exact h0
      · obtain ⟨ad, h, _⟩ := HR.2.2 h0
        cases h
    subst h0
    obtain rfl : ys = [] := List.eq_nil_of_length_eq_zero hm
    refine ⟨v, W, ?_, by simpa using HO, World.grownBy.refl W _, .inl rfl⟩
    rcases HO.2 with ⟨rfl, hn⟩ | ⟨g, cap, cur, rfl, _, _, hnc, _⟩
    · simp [Builtin.append_, run_underlying ht, sizeOf, typeInfo, hi, Builtin.lenOf, Builtin.firstCells]
    · simp [Builtin.append_, run_underlying ht, sizeOf, typeInfo, hi, Builtin.lenOf, Builtin.firstCells, hnc, storeCells]
  · have hcells : ∀ j u, (encs enc ys)[j]? = some u → W.cell? (ad.add j) = some u := by
      intro j u hu
      have hj : j < ys.length := by
        rcases Nat.lt_or_ge j ys.length with h | h
        · exact h
        · simp [encs, List.getElem?_eq_none h] at hu
      obtain ⟨ad', h', hc⟩ := HR.2.2 (by omega)
      injection h' with h'
      subst h'
      rw [encs_get (d := d) ys j hj] at hu
      rw [← hu]
      exact hc j (by omega)
    obtain ⟨v1, w1, hr, h2, h3, _, h5⟩ := run_append_own_at (P := P) W base t ty e i0 z 1 bytes ht hi hz0 hz1 hz2 hz (by omega) v xs.length (encs enc xs) HO ad m c (encs enc ys) (by simp [encs, hm]) hcells
      (by intro u hu; simp only [encs, List.mem_map] at hu; obtain ⟨q, _, rfl⟩ := hu; exact h1 q) (by simp only [maxLen]; omega) hl hbase
    exact ⟨v1, w1, hr, by simpa [encs] using h2, h3, h5⟩
/-- The same at a step of a region that draws its order: for go_region_law. -/
theorem step_append_reads {ops : Array Oper} {o : Oper} {a : Act} {W : World} {K : Act → World → Prop} {Q : Exit → Act → World → Prop} {E : Prop} (hgd : o.guard = none) (s x : Operand) (t e : TypeId)
    (ho : o.op = .call { callee := .builtin .append, args := #[s, x], argTypes := #[t, t] }) (enc : α → Value) (d : α) (base : Nat) (z : Value) (bytes : Nat)
    (ht : P.underlying t = some (.slice e)) (hinfo : (P.info? e).map (fun i => (i.zero, i.size, i.bytes)) = some (some z, 1, bytes)) (hz : z.cells.size = 1) (hb0 : 0 < bytes) (h1 : ∀ x : α, (enc x).oneCell' = true)
    (v : Value) (xs ys : List α) (A : Option Addr) (m c : Nat) (hs : a.eval s = v) (hx : a.eval x = .slice A m c) (HO : W.ownsRow base e 1 v xs.length (encs enc xs)) (HR : ReadsOf enc d W A m ys) (hbase : base ≤ W.heap.size) (hl : (xs.length + m) * bytes ≤ 140737488355328) (n' : Nat) (hn : xs.length + m = n')
    (h : ∀ A1 c1 w1, w1.ownsRow base e 1 (.slice A1 n' c1) n' (encs enc (xs ++ ys)) → W.grownBy w1 v.ownBlock →
      ((Value.slice A1 n' c1).ownBlock = v.ownBlock ∨ (Value.slice A1 n' c1).ownBlock = some W.heap.size) → K (a.put o.dst (.slice A1 n' c1)) w1) :
    if Region.wanted o (yielded ops a.tmps) = true then Oper.wp P o a W K Q else E := by
  have hw : Region.wanted o (yielded ops a.tmps) = true := by simp [Region.wanted, hgd]
  rw [if_pos hw]
  obtain ⟨A1, c1, w1, hr, h2, h3, h4⟩ := run_append_reads (P := P) W enc d base t e o.type z bytes ht hinfo hz hb0 h1 v xs ys A m c HO HR hbase hl n' hn
  unfold Oper.wp execOp
  simp only [ho, resolve, invoke, builtin, Sem.run_bind, Sem.run_pure, Result.andThen_ok, List.map_toArray, List.map_cons, List.map_nil, hs, hx, hr]
  exact h A1 c1 w1 h2 h3 h4
/-- The same at a list of operations. -/
theorem wpList_append_reads {ops : Array Oper} {rest : List Oper} {o : Oper} {a : Act} {W : World} {Q : Exit → Act → World → Prop} (hgd : o.guard = none) (s x : Operand) (t e : TypeId)
    (ho : o.op = .call { callee := .builtin .append, args := #[s, x], argTypes := #[t, t] }) (enc : α → Value) (d : α) (base : Nat) (z : Value) (bytes : Nat)
    (ht : P.underlying t = some (.slice e)) (hinfo : (P.info? e).map (fun i => (i.zero, i.size, i.bytes)) = some (some z, 1, bytes)) (hz : z.cells.size = 1) (hb0 : 0 < bytes) (h1 : ∀ x : α, (enc x).oneCell' = true)
    (v : Value) (xs ys : List α) (A : Option Addr) (m c : Nat) (hs : a.eval s = v) (hx : a.eval x = .slice A m c) (HO : W.ownsRow base e 1 v xs.length (encs enc xs)) (HR : ReadsOf enc d W A m ys) (hbase : base ≤ W.heap.size) (hl : (xs.length + m) * bytes ≤ 140737488355328) (n' : Nat) (hn : xs.length + m = n')
    (h : ∀ A1 c1 w1, w1.ownsRow base e 1 (.slice A1 n' c1) n' (encs enc (xs ++ ys)) → W.grownBy w1 v.ownBlock →
      ((Value.slice A1 n' c1).ownBlock = v.ownBlock ∨ (Value.slice A1 n' c1).ownBlock = some W.heap.size) → wpList P ops Q rest (a.put o.dst (.slice A1 n' c1)) w1) :
    wpList P ops Q (o :: rest) a W := by
  obtain ⟨A1, c1, w1, hr, h2, h3, h4⟩ := run_append_reads (P := P) W enc d base t e o.type z bytes ht hinfo hz hb0 h1 v xs ys A m c HO HR hbase hl n' hn
  refine wpList_plain hgd fun K hK => ?_
  unfold Oper.wp execOp
  simp only [ho, resolve, invoke, builtin, Sem.run_bind, Sem.run_pure, Result.andThen_ok, List.map_toArray, List.map_cons, List.map_nil, hs, hx, hr]
  exact hK _ _ (h A1 c1 w1 h2 h3 h4)
theorem results_cell {fn : Func} {a : Nat} {t : TypeId} (h : fn.results = #[.cell a t]) (tmps : Array Value) (P : Program) (w : World) (ad : Addr) (v : Value) (ha : tmps.getD a undef = .pointer (some ad)) (hl : (loadVar t ad).run P w = .ok v w) :
    (results fn tmps).run P w = .ok v w := by
  rw [Array.getD_eq_getD_getElem?] at ha
  simp [results, h, ha, asAddr, hl]
theorem results_cell2 {fn : Func} {a u : Nat} {t : TypeId} (h : fn.results = #[.cell a t, .tmp u]) (tmps : Array Value) (P : Program) (w : World) (ad : Addr) (v x : Value) (ha : tmps.getD a undef = .pointer (some ad)) (hl : (loadVar t ad).run P w = .ok v w) (hx : tmps.getD u undef = x) :
    (results fn tmps).run P w = .ok (.tuple #[v, x]) w := by
  rw [results_cell_tmp h, ha]
  simp [asAddr, Result.andThen, hl, hx]
theorem calls_regrown {f : FuncId} {args : Array Value} {w W : World} {v : Value} (h : Calls P f args W fun e w' => e = .returned v ∧ Below w.heap.size w w') :
    Calls P f args W fun e w' => e = .returned v ∧ ∃ p : Regrown, w' = grow (redrawn w p.d) p.os := h.mono fun _ _ ⟨he, hb⟩ => ⟨he, regrown_of_below hb⟩
theorem reads_below {enc : α → Value} {d : α} {w w1 : World} {A : Option Addr} {n : Nat} {xs : List α} (h : ReadsOf enc d w A n xs) (hb : Below w.heap.size w w1) : ReadsOf enc d w1 A n xs := h.below hb
theorem grown_drew (W : World) (row : Option Nat) : W.grownBy W.drew row := ⟨rfl, rfl, rfl, Nat.le_refl _, fun _ _ _ => rfl⟩
theorem grown_below {W W1 : World} (h : Below W.heap.size W W1) (row : Option Nat) : W.grownBy W1 row := grown_of_below h row
end
end Go.Proofs.YtoeiaimoppmjdaaDoor.Gen
/- Contracts of a Reader's functions, whatever it has met. -/
namespace Go.Proofs.YtoeiaimoppmjdaaDoor.Wr
open Go.RowKit Go.Proofs.YtoeiaimoppmjdaaDoorW.PrintWords Go.Proofs.YtoeiaimoppmjdaaDoor.Bytes
set_option linter.unusedVariables false
set_option linter.unusedSimpArgs false
/-- What a call of a Reader leaves. -/
structure RdTo (W W' : World) (base g : Nat) (v : Value) (xs : List Int) (s : RS) : Prop where
  rd : Rdr W' base g v xs s.at_ s.met
  bl : Below base W W'
  kb : KeepBut W W' g none
theorem RdTo.refl {W : World} {base g : Nat} {v : Value} {xs : List Int} {s : RS} (h : Rdr W base g v xs s.at_ s.met) : RdTo W W base g v xs s := ⟨h, Below.refl _ _, KeepBut.refl _ _ _⟩
theorem RdTo.trans {W W1 W2 : World} {base g : Nat} {v : Value} {xs : List Int} {s s1 : RS} (h : RdTo W W1 base g v xs s) (k : RdTo W1 W2 base g v xs s1) : RdTo W W2 base g v xs s1 :=
  ⟨k.rd, h.bl.trans k.bl, h.kb.trans k.kb (.inl rfl)⟩
theorem RdTo.below {W W1 W2 : World} {base g : Nat} {v : Value} {xs : List Int} {s : RS} (h : RdTo W W1 base g v xs s) (hb : base ≤ W.heap.size) (k : Below W1.heap.size W1 W2) : RdTo W W2 base g v xs s :=
  ⟨rdr_below h.rd k, h.bl.trans (k.mono (Nat.le_trans hb h.bl.size)), h.kb.trans (KeepBut.of_below k g none) (.inl rfl)⟩
theorem RdTo.drewN {W W1 : World} {base g : Nat} {v : Value} {xs : List Int} {s : RS} (h : RdTo W W1 base g v xs s) (hb : base ≤ W.heap.size) (n : Nat) : RdTo W (W1.drewN n) base g v xs s := h.below hb (pw_below_drewN (Below.refl _ _) n)
theorem rdr_ne {W : World} {base g : Nat} {v : Value} {xs : List Int} {a m : Int} (h : Rdr W base g v xs a m) : v.ownBlock ≠ some g := by
  intro e
  obtain ⟨cs, hk⟩ := own_kind h.own g e
  rw [h.blk] at hk
  simp at hk
theorem rdr_set {W : World} {base g : Nat} {v : Value} {xs : List Int} {a m : Int} (h : Rdr W base g v xs a m) (b c : Int) : Rdr ((W.setCell ⟨g, 1, none⟩ (.int .i64 b)).setCell ⟨g, 2, none⟩ (.int .i64 c)) base g v xs b c :=
  ⟨blk_put (blk_put h.blk 1 _ rfl) 2 _ rfl, h.le, own_other (own_other h.own (grown_set W g 1 _) (.inr (rdr_ne h))) (grown_set _ g 2 _) (.inr (rdr_ne h))⟩
theorem rdto_set {W W1 : World} {base g : Nat} {v : Value} {xs : List Int} {s : RS} (h : RdTo W W1 base g v xs s) (b c : Nat) : RdTo W ((W1.setCell ⟨g, 1, none⟩ (.int .i64 b)).setCell ⟨g, 2, none⟩ (.int .i64 c)) base g v xs ⟨b, c⟩ :=
  ⟨rdr_set h.rd b c, (h.bl.setCell h.rd.le _).setCell h.rd.le _, (h.kb.set_ 1 _).set_ 2 _⟩
theorem rdto_put {W W1 : World} {base g : Nat} {v : Value} {xs : List Int} {s : RS} (h : RdTo W W1 base g v xs s) (b : Nat) : RdTo W (W1.setCell ⟨g, 1, none⟩ (.int .i64 b)) base g v xs ⟨b, s.met⟩ :=
  ⟨rdr_put h.rd b, h.bl.setCell h.rd.le _, h.kb.set_ 1 _⟩
set_option maxRecDepth 20000 in
theorem stop_calls (W : World) (base g : Nat) (v : Value) (xs : List Int) (s : RS) (a m : Nat) (h : Rdr W base g v xs s.at_ s.met) :
    Calls Tryd.prog 77 #[.pointer (some ⟨g, 0, none⟩), .int .i64 (a : Int), .int .i64 (m : Int)] W fun e w' => e = .returned (.tuple #[]) ∧ RdTo W w' base g v xs ⟨a, m⟩ := by
  have c1 := blk_cell h.blk 1
  have c2 := blk_cell h.blk 2
  have f1 := blk_frozen h.blk 1
  have f2 := blk_frozen h.blk 2
  simp at c1 c2
  have H := Lib.hid (rdto_set (RdTo.refl h) a m)
  clear h
  go_enter Tryd.func77, Tryd.ntmps77
  go_wp2_with fail
  go_end0
  exact ⟨rfl, H.out⟩
def NextPost (W : World) (base g : Nat) (v : Value) (xs l : List Int) (s1 : RS) (e : Ending) (w' : World) : Prop := ∃ A2 c2, e = .returned (.slice A2 l.length c2) ∧ ReadsOf I 0 w' A2 l.length l ∧ RdTo W w' base g v xs s1
set_option maxRecDepth 20000 in
theorem nextR_calls (W : World) (base g : Nat) (v : Value) (xs : List Int) (s : RS) (n : Int) (h : Rdr W base g v xs s.at_ s.met) (hs : s.Ok xs) (hb : base ≤ W.heap.size) (hn : s.met = 0 → 0 ≤ n) :
    Calls Tryd.prog 78 #[.pointer (some ⟨g, 0, none⟩), .int .i64 n] W (NextPost W base g v xs (rNext xs s n).1 (rNext xs s n).2) := by
  obtain ⟨a, m⟩ := s
  by_cases hm : m = 0
  · subst hm
    have h0 : 0 ≤ n := hn rfl
    by_cases hl : n ≤ (xs.length : Int) - a
    · obtain ⟨k, rfl⟩ := Int.eq_ofNat_of_zero_le h0
      have e : rNext xs ⟨a, 0⟩ (k : Int) = ((xs.drop a).take k, ⟨a + k, 0⟩) := by simp only [rNext, if_true]; rw [if_pos hl, Int.toNat_natCast]
      have hle : a + k ≤ xs.length := by omega
      rw [e]
      have e2 : ((xs.drop a).take k).length = k := by simp; omega
      refine (next_calls W base g v xs a k h hb hle).mono fun e w' ⟨A2, c2, he, hr, hd, hb2, hk⟩ => ⟨A2, c2, by rw [e2]; exact he, by rw [e2]; exact hr, ⟨hd, hb2, hk⟩⟩
    · have e : rNext xs ⟨a, 0⟩ n = ([], ⟨a, 1⟩) := by simp [rNext, hl]
      rw [e]
      have CL := Lib.hid (left_calls W base g v xs a 0 h (by omega) (by have := hs.at_; simp at this; omega))
      have CS := fun W' h' => Lib.hid (stop_calls W' base g v xs ⟨a, 0⟩ a 1 h')
      have HC := Lib.hid CS
      have c1 := blk_cell h.blk 1
      have c2 := blk_cell h.blk 2
      simp at c1 c2
      have i1 : (xs.length : Int) - (a : Int) < n := by omega
      have H := Lib.hid h
      have HB := Lib.hid hb
      clear h hb hs hn hl CS e h0
      go_enter Tryd.func78, Tryd.ntmps78
      go_wp2_with fail
      refine CL.out.mono ?_; rintro e w1 ⟨rfl, hb1⟩
      have hr1 := rdr_below H.out hb1
      have d1 := blk_cell hr1.blk 1
      simp at d1
      have HS := Lib.hid (HC.out w1 hr1)
      have HB1 := Lib.hid hb1
      clear hr1 hb1 c1 c2
      go_wp2_with fail
      refine HS.out.out.mono ?_; rintro e w2 ⟨rfl, h2⟩
      have H2 := Lib.hid h2
      clear h2
      go_wp2_with fail
      go_ret
      exact ⟨none, 0, rfl, ReadsOf.nil I 0 w2, ((RdTo.refl (s := ⟨a, 0⟩) H.out).below HB.out HB1.out).trans H2.out⟩
  · have hm' : ¬ (m : Int) = 0 := by omega
    have e : rNext xs ⟨a, m⟩ n = ([], ⟨a, m⟩) := rNext_stopped hm n
    rw [e]
    have c2 := blk_cell h.blk 2
    simp at c2
    have H := Lib.hid h
    clear h hb hs hn e hm
    go_enter Tryd.func78, Tryd.ntmps78
    go_wp2_with fail
    go_ret
    exact ⟨none, 0, rfl, ReadsOf.nil I 0 W, RdTo.refl (s := ⟨a, m⟩) H.out⟩
theorem numBE_take (l : List Int) (k : Nat) (h : k < l.length) : numBE (l.take (k + 1)) = numBE (l.take k) * 256 + (l.getD k 0).toNat := by
  rw [take_getD l k h, numBE_snoc]
theorem byt_take {xs : List Int} (h : Byt xs) (n : Nat) : Byt (xs.take n) := fun a ha => h a (List.mem_of_mem_take ha)
theorem byt_drop {xs : List Int} (h : Byt xs) (n : Nat) : Byt (xs.drop n) := fun a ha => h a (List.mem_of_mem_drop ha)
set_option maxRecDepth 20000 in
set_option maxHeartbeats 1600000 in
theorem fixR_calls (W : World) (base g : Nat) (v : Value) (xs : List Int) (s : RS) (size : Nat) (h : Rdr W base g v xs s.at_ s.met) (hs : s.Ok xs) (hb : base ≤ W.heap.size) (hz : size ≤ 8) (hx : Byt xs) :
    Calls Tryd.prog 75 #[.pointer (some ⟨g, 0, none⟩), .int .i64 size] W fun e w' => e = .returned (.int .u64 ((rFix xs s size).1 : Int)) ∧ RdTo W w' base g v xs (rFix xs s size).2 := by
  have CN := Lib.hid (nextR_calls W base g v xs s size h hs hb (fun _ => by omega))
  obtain ⟨l, hl⟩ : ∃ l, l = (rNext xs s size).1 := ⟨_, rfl⟩
  obtain ⟨s1, hs1⟩ : ∃ s1, s1 = (rNext xs s size).2 := ⟨_, rfl⟩
  have HF : Hid (rFix xs s size = (numBE l, s1)) := by
    show _ = _
    rw [hl, hs1]
    unfold rFix rNext
    split
    · by_cases hle : s.at_ + size ≤ xs.length
      · rw [if_pos hle, if_pos (by omega)]; simp
      · rw [if_neg hle, if_neg (by omega)]; simp [numBE]
    · simp [numBE]
  have hly : Byt l := by
    rw [hl]; unfold rNext
    split
    · split
      · exact byt_take (byt_drop hx _) _
      · intro a ha; cases ha
    · intro a ha; cases ha
  have hll : l.length ≤ 8 := by
    rw [hl]; unfold rNext
    split
    · split
      · simp; omega
      · simp
    · simp
  rw [← hl, ← hs1] at CN
  have HY := Lib.hid hly
  have HBS := Lib.hid hb
  have s1' : (size : Int) ≤ 8 := by omega
  clear h hb hs hx hly hl hs1
  go_enter Tryd.func75, Tryd.ntmps75
  go_wp2_with fail
  refine CN.out.mono ?_; rintro e w1 ⟨A2, c2, rfl, hr2, h2⟩
  have HR2 := Lib.hid hr2
  have H2 := Lib.hid h2
  clear hr2 h2
  go_wp2_with fail
  go_loopw [5, 12] (fun m j wr => ∃ k : Nat, m = .int .u64 ((numBE (l.take k) : Nat) : Int) ∧ j = .int .i64 k ∧ k ≤ l.length ∧ Below w1.heap.size w1 wr) (fun _ j _ => l.length - (intOf j).toNat)
  case atStart => exact ⟨0, by simp [numBE], rfl, by omega, Below.refl _ _⟩
  case round =>
    obtain ⟨k, rfl, rfl, hk, hb3⟩ := hrel
    have HB3 := Lib.hid hb3
    clear hb3
    by_cases hlt : k < l.length
    · have hrr := HR2.out
      obtain ⟨ad, hA, hc⟩ := hrr.2.2 (by omega)
      subst hA
      obtain ⟨m0, hm0⟩ : ∃ m, m = numBE (l.take k) := ⟨_, rfl⟩
      obtain ⟨cc, hcc⟩ : ∃ m, m = (l.getD k 0).toNat := ⟨_, rfl⟩
      have hcb := byt_get HY.out k hlt
      have hm1 : m0 * 256 + cc = numBE (l.take (k + 1)) := by rw [hm0, hcc, numBE_take l k hlt]
      have hml : m0 * 256 + cc < 18446744073709551616 := by
        rw [hm1]
        have h1 := numBE_lt (byt_take HY.out (k + 1))
        have h2 : (l.take (k + 1)).length ≤ 8 := by simp; omega
        exact Nat.lt_of_lt_of_le h1 (Nat.le_trans (Nat.pow_le_pow_right (by omega) h2) (by decide))
      have x1 := pw_cell_below HB3.out (hc k (by omega))
      rw [show l.getD k 0 = (cc : Int) by omega] at x1
      obtain ⟨m1, hmm1⟩ : ∃ m1, m1 = m0 * 256 + cc := ⟨_, rfl⟩
      have hc9 : cc < 256 := by omega
      have qo : Go.bits .or .u64 ((m0 : Int) * 256) (cc : Int) = (m1 : Int) := by rw [hmm1]; exact or_low m0 cc hc9 hml
      have HM : Hid (m1 = numBE (l.take (k + 1))) := hmm1.trans hm1
      rw [← hm0]
      have i1 : (k : Int) < (l.length : Int) := by omega
      have i2 : (0 : Int) ≤ (k : Int) := by omega
      have i3 : (m0 : Int) * 256 ≤ 18446744073709551615 := by omega
      have cb : (cc : Int) ≤ 255 := by omega
      clear hm0 hcc hm1 hml hmm1 hrr hc hcb
      go_wp2_with fail
      exact ⟨⟨k + 1, by rw [HM.out], by go_num, by omega, HB3.out⟩, by simp [intOf]; omega⟩
    · have e0 : numBE (l.take k) = numBE l := by rw [List.take_of_length_le (by omega)]
      rw [e0]
      have i1 : ¬ (k : Int) < (l.length : Int) := by omega
      clear e0
      go_wp2_with fail
      go_ret
      rw [HF.out]
      exact ⟨rfl, H2.out.below HBS.out HB3.out⟩
theorem rd8_calls (W : World) (base g : Nat) (v : Value) (xs : List Int) (s : RS) (h : Rdr W base g v xs s.at_ s.met) (hs : s.Ok xs) (hb : base ≤ W.heap.size) (hx : Byt xs) :
    Calls Tryd.prog 42 #[.pointer (some ⟨g, 0, none⟩)] W fun e w' => e = .returned (.int .u8 ((rFix xs s 1).1 : Int)) ∧ RdTo W w' base g v xs (rFix xs s 1).2 := by
  have HC := Lib.hid (fixR_calls W base g v xs s 1 h hs hb (by omega) hx)
  have hlt := rFix_lt hx s 1
  obtain ⟨q, hq⟩ : ∃ q, q = rFix xs s 1 := ⟨_, rfl⟩
  rw [← hq] at HC hlt ⊢
  obtain ⟨r, s1⟩ := q
  clear hq
  have i1 : (r : Int) ≤ 255 := by simp at hlt; omega
  clear h hs hb hx hlt
  go_enter Tryd.func42, Tryd.ntmps42
  go_wp2_with fail
  refine HC.out.mono ?_; rintro e w1 ⟨rfl, h1⟩
  have H1 := Lib.hid h1
  clear h1
  go_wp2_with fail
  go_ret
  exact ⟨rfl, H1.out⟩
theorem rd32_calls (W : World) (base g : Nat) (v : Value) (xs : List Int) (s : RS) (h : Rdr W base g v xs s.at_ s.met) (hs : s.Ok xs) (hb : base ≤ W.heap.size) (hx : Byt xs) :
    Calls Tryd.prog 66 #[.pointer (some ⟨g, 0, none⟩)] W fun e w' => e = .returned (.int .u32 ((rFix xs s 4).1 : Int)) ∧ RdTo W w' base g v xs (rFix xs s 4).2 := by
  have HC := Lib.hid (fixR_calls W base g v xs s 4 h hs hb (by omega) hx)
  have hlt := rFix_lt hx s 4
  obtain ⟨q, hq⟩ : ∃ q, q = rFix xs s 4 := ⟨_, rfl⟩
  rw [← hq] at HC hlt ⊢
  obtain ⟨r, s1⟩ := q
  clear hq
  have i1 : (r : Int) ≤ 4294967295 := by simp at hlt; omega
  clear h hs hb hx hlt
  go_enter Tryd.func66, Tryd.ntmps66
  go_wp2_with fail
  refine HC.out.mono ?_; rintro e w1 ⟨rfl, h1⟩
  have H1 := Lib.hid h1
  clear h1
  go_wp2_with fail
  go_ret
  exact ⟨rfl, H1.out⟩
theorem rd64_calls (W : World) (base g : Nat) (v : Value) (xs : List Int) (s : RS) (h : Rdr W base g v xs s.at_ s.met) (hs : s.Ok xs) (hb : base ≤ W.heap.size) (hx : Byt xs) :
    Calls Tryd.prog 25 #[.pointer (some ⟨g, 0, none⟩)] W fun e w' => e = .returned (.int .u64 ((rFix xs s 8).1 : Int)) ∧ RdTo W w' base g v xs (rFix xs s 8).2 := by
  have HC := Lib.hid (fixR_calls W base g v xs s 8 h hs hb (by omega) hx)
  obtain ⟨q, hq⟩ : ∃ q, q = rFix xs s 8 := ⟨_, rfl⟩
  rw [← hq] at HC ⊢
  obtain ⟨r, s1⟩ := q
  clear hq
  clear h hs hb hx
  go_enter Tryd.func25, Tryd.ntmps25
  go_wp2_with fail
  refine HC.out.mono ?_; rintro e w1 ⟨rfl, h1⟩
  have H1 := Lib.hid h1
  clear h1
  go_wp2_with fail
  go_ret
  exact ⟨rfl, H1.out⟩
end Go.Proofs.YtoeiaimoppmjdaaDoor.Wr
/- Contracts of a Reader's functions: At, Fault, End, Raw, Var, Bytes. -/
namespace Go.Proofs.YtoeiaimoppmjdaaDoor.Wr
open Go.RowKit Go.Proofs.YtoeiaimoppmjdaaDoorW.PrintWords Go.Proofs.YtoeiaimoppmjdaaDoor.Bytes
open Go.Sort (grow)
set_option linter.unusedVariables false
set_option linter.unusedSimpArgs false
/-- The table of the errors' numbers. -/
def ErrTab (W : World) : Prop := ∀ k, k < 5 → W.cell? ⟨0, k, none⟩ = some (.int .i64 (errN k))
theorem ErrTab.below {W W1 : World} {base : Nat} (h : ErrTab W) (hb : Below base W W1) (hz : 0 < base) : ErrTab W1 := fun k hk => (hb.cell (p := ⟨0, k, none⟩) hz).trans (h k hk)
theorem at_calls (W : World) (base g : Nat) (v : Value) (xs : List Int) (s : RS) (h : Rdr W base g v xs s.at_ s.met) :
    Calls Tryd.prog 20 #[.pointer (some ⟨g, 0, none⟩)] W fun e w' => e = .returned (.int .i64 (s.at_ : Int)) ∧ w' = W := by
  have c1 := blk_cell h.blk 1
  simp at c1
  clear h
  go_enter Tryd.func20, Tryd.ntmps20
  go_wp2_with fail
  go_ret
  exact ⟨rfl, rfl⟩
theorem fault_calls (W : World) (base g : Nat) (v : Value) (xs : List Int) (s : RS) (h : Rdr W base g v xs s.at_ s.met) (hs : s.Ok xs) (ht : ErrTab W) :
    Calls Tryd.prog 22 #[.pointer (some ⟨g, 0, none⟩)] W fun e w' => e = .returned (.int .i64 (errN s.met)) ∧ w' = W := by
  have c2 := blk_cell h.blk 2
  simp at c2
  have c3 := ht s.met (by have := hs.met; omega)
  have i1 : (0 : Int) ≤ (s.met : Int) := by omega
  have i2 : (s.met : Int) < 5 := by have := hs.met; omega
  clear h hs ht
  go_enter Tryd.func22, Tryd.ntmps22
  go_wp2_with fail
  go_ret
  exact ⟨rfl, rfl⟩
theorem end_calls (W : World) (base g : Nat) (v : Value) (xs : List Int) (s : RS) (h : Rdr W base g v xs s.at_ s.met) (hs : s.Ok xs) (ht : ErrTab W) (hz : 0 < W.heap.size) :
    Calls Tryd.prog 23 #[.pointer (some ⟨g, 0, none⟩)] W fun e w' => e = .returned (.int .i64 (rEnd xs s)) ∧ Below W.heap.size W w' := by
  have c2 := blk_cell h.blk 2
  simp at c2
  by_cases hm : s.met = 0
  · have CL := Lib.hid (left_calls W base g v xs s.at_ 0 (by rw [hm] at h; exact h) (by omega) (by have := hs.at_; omega))
    have hm' : (s.met : Int) = 0 := by omega
    by_cases hl : s.at_ < xs.length
    · have e : rEnd xs s = 13 := by simp [rEnd, hm, hl]
      rw [e]
      have i1 : (0 : Int) < (xs.length : Int) - (s.at_ : Int) := by omega
      rw [hm'] at c2
      clear h hs ht hm hm' hl e
      go_enter Tryd.func23, Tryd.ntmps23
      go_wp2_with fail
      refine CL.out.mono ?_; rintro e w1 ⟨rfl, hb1⟩
      have HB1 := Lib.hid hb1
      clear hb1
      go_wp2_with fail
      go_ret
      exact ⟨rfl, HB1.out⟩
    · have e : rEnd xs s = errN s.met := by simp [rEnd, hl]
      rw [e]
      have i1 : ¬ (0 : Int) < (xs.length : Int) - (s.at_ : Int) := by omega
      have CF := fun W1 (hb : Below W.heap.size W W1) => fault_calls W1 base g v xs s (rdr_below h hb) hs (ht.below hb hz)
      have HF := Lib.hid CF
      rw [hm'] at c2
      clear h hs ht hm hm' hl e CF hz
      go_enter Tryd.func23, Tryd.ntmps23
      go_wp2_with fail
      refine CL.out.mono ?_; rintro e w1 ⟨rfl, hb1⟩
      have HB1 := Lib.hid hb1
      clear hb1
      go_wp2_with fail
      refine (HF.out _ HB1.out).mono ?_; rintro e w2 ⟨rfl, rfl⟩
      go_wp2_with fail
      go_ret
      exact ⟨rfl, HB1.out⟩
  · have hm' : ¬ (s.met : Int) = 0 := by omega
    have e : rEnd xs s = errN s.met := by simp [rEnd, hm]
    rw [e]
    have HF := Lib.hid (fault_calls W base g v xs s h hs ht)
    clear h hs ht hm e
    go_enter Tryd.func23, Tryd.ntmps23
    go_wp2_with fail
    refine HF.out.mono ?_; rintro e w2 ⟨rfl, rfl⟩
    go_wp2_with fail
    go_ret
    exact ⟨rfl, Below.refl _ _⟩
/-- A list of bytes that a call hands out: in memory of its own. -/
def TakenPost (W : World) (base g : Nat) (v : Value) (xs l : List Int) (s1 : RS) (e : Ending) (w' : World) : Prop :=
  ∃ u, e = .returned u ∧ w'.ownsRow W.heap.size 5 1 u l.length (encs I l) ∧ RdTo W w' base g v xs s1
set_option maxRecDepth 20000 in
theorem rawR_calls (W : World) (base g : Nat) (v : Value) (xs : List Int) (s : RS) (n : Int) (h : Rdr W base g v xs s.at_ s.met) (hs : s.Ok xs) (hb : base ≤ W.heap.size) (hxl : xs.length ≤ 140737488355328) :
    Calls Tryd.prog 35 #[.pointer (some ⟨g, 0, none⟩), .int .i64 n] W (TakenPost W base g v xs (rRaw xs s n).1 (rRaw xs s n).2) := by
  have c1 := blk_cell h.blk 1
  have c2 := blk_cell h.blk 2
  simp at c1 c2
  have HB := Lib.hid hb
  by_cases hneg : n < 0 ∧ s.met = 0
  · obtain ⟨h1, h2⟩ := hneg
    have e : rRaw xs s n = ([], ⟨s.at_, 4⟩) := by simp [rRaw, h1, h2]
    rw [e]
    have CS := Lib.hid (stop_calls W base g v xs s s.at_ 4 h)
    have CN := fun W' h' => Lib.hid (nextR_calls W' base g v xs ⟨s.at_, 4⟩ n h' ⟨hs.at_, by simp⟩)
    have HC := Lib.hid CN
    rw [h2] at c2
    clear h hs hb h2 CN e
    go_enter Tryd.func35, Tryd.ntmps35
    go_wp2_with fail
    refine CS.out.mono ?_; rintro e w1 ⟨rfl, h1⟩
    have H1 := Lib.hid h1
    have C1 := Lib.hid (HC.out w1 h1.rd (Nat.le_trans HB.out h1.kb.1) (fun e => by simp at e))
    clear h1
    go_wp2_with fail
    refine C1.out.mono ?_; rintro e w2 ⟨A2, c2', rfl, hr2, h2⟩
    rw [rNext_stopped (by simp)] at hr2 h2
    rw [rNext_stopped (by simp)]
    have CT := Lib.hid (taken_calls [] A2 c2' w2 w2.heap.size (Nat.le_refl _) hr2 (by simp))
    have H2 := Lib.hid h2
    clear hr2 h2
    go_wp2_with fail
    refine CT.out.mono ?_; rintro e w3 ⟨u, rfl, hu, hb3⟩
    have HU := Lib.hid hu
    have HB3 := Lib.hid hb3
    clear hu hb3
    go_wp2_with fail
    go_ret
    exact ⟨u, rfl, own_less HU.out (Nat.le_trans H1.out.kb.1 H2.out.kb.1), (H1.out.trans H2.out).below HB.out HB3.out⟩
  · have e : rRaw xs s n = rNext xs s n := by simp [rRaw, hneg]
    rw [e]
    have C1 := Lib.hid (nextR_calls W base g v xs s n h hs hb (fun h0 => by omega))
    obtain ⟨q, hq⟩ : ∃ q, q = rNext xs s n := ⟨_, rfl⟩
    have HLN : Hid (q.1.length ≤ 140737488355328) := by
      show _ ≤ _
      rw [hq]; unfold rNext
      split
      · split
        · simp; omega
        · simp
      · simp
    rw [← hq] at C1 ⊢
    obtain ⟨l, s1⟩ := q
    have hcase : ¬ n < 0 ∨ (n < 0 ∧ ¬ (s.met : Int) = 0) := by omega
    clear h hs hb e hneg hq
    rcases hcase with h0 | ⟨h0, h1⟩
    all_goals
      go_enter Tryd.func35, Tryd.ntmps35
      go_wp2_with fail
      refine C1.out.mono ?_; rintro e w2 ⟨A2, c2', rfl, hr2, h2⟩
      have CT := Lib.hid (taken_calls l A2 c2' w2 w2.heap.size (Nat.le_refl _) hr2 HLN.out)
      have H2 := Lib.hid h2
      clear hr2 h2
      go_wp2_with fail
      refine CT.out.mono ?_; rintro e w3 ⟨u, rfl, hu, hb3⟩
      have HU := Lib.hid hu
      have HB3 := Lib.hid hb3
      clear hu hb3
      go_wp2_with fail
      go_ret
      exact ⟨u, rfl, own_less HU.out H2.out.kb.1, H2.out.below HB.out HB3.out⟩
end Go.Proofs.YtoeiaimoppmjdaaDoor.Wr
/- What the rows' list gives: the table of the errors' numbers. -/
namespace Go.Proofs.YtoeiaimoppmjdaaDoor.Wr
open Go.RowKit Go.Proofs.YtoeiaimoppmjdaaDoor.Bytes
theorem gTab : Tryd.prog.globalNamed "till/code.errnos" = some 0 := by kernel_rfl
theorem gTabType : (Tryd.prog.globals[0]?).map (·.type) = some 109 := by kernel_rfl
theorem cellsTab : Tryd.prog.cellsOf 109 = 5 := by kernel_rfl
theorem cellsErr : Tryd.prog.cellsOf 43 = 1 := by kernel_rfl
theorem errtab {W : World} (h : laidMetH Tryd.prog [("till/code.errnos", Rows.laid_till_code_errnos)] W) : ErrTab W ∧ 0 < W.heap.size := by
  have t : Lib.TabIs Tryd.prog W "till/code.errnos" .i64 [0, 10, 11, 12, 14] := Lib.tabIs_of_head (rest := []) gTab gTabType Tryd.underlying109 Tryd.underlying43 cellsErr cellsTab h
  have c0 := t.cell gTab 0 (by decide)
  have c1 := t.cell gTab 1 (by decide)
  have c2 := t.cell gTab 2 (by decide)
  have c3 := t.cell gTab 3 (by decide)
  have c4 := t.cell gTab 4 (by decide)
  refine ⟨fun k hk => ?_, World.block_lt_of_cell? W _ c0⟩
  have : k = 0 ∨ k = 1 ∨ k = 2 ∨ k = 3 ∨ k = 4 := by omega
  rcases this with rfl | rfl | rfl | rfl | rfl
  · exact c0
  · exact c1
  · exact c2
  · exact c3
  · exact c4
end Go.Proofs.YtoeiaimoppmjdaaDoor.Wr
/- What is held of memory, as a list of blocks and what each holds: blocks apart from one another, all made since the law began. -/
namespace Go.Proofs.YtoeiaimoppmjdaaDoor.Mem
open Go.RowKit Go.Proofs.YtoeiaimoppmjdaaDoorW.PrintWords
set_option linter.unusedVariables false
set_option linter.unusedSimpArgs false
/-- A block and what is known of it. -/
abbrev Ent := Nat × (Obj → Prop)
open Classical in
/-- How often an entry stands in a list: to say that one list is another, in another order, or a part of it. -/
noncomputable def cnt (a : Ent) (L : List Ent) : Nat := L.countP (fun x => decide (x = a))
theorem cnt_nil (a : Ent) : cnt a [] = 0 := rfl
noncomputable def one (a b : Ent) : Nat := cnt a [b]
theorem cnt_cons (a b : Ent) (L : List Ent) : cnt a (b :: L) = one a b + cnt a L := by
  unfold one cnt; simp only [List.countP_cons, List.countP_nil]; omega
theorem cnt_append (a : Ent) (L M : List Ent) : cnt a (L ++ M) = cnt a L + cnt a M := by unfold cnt; exact List.countP_append
theorem cnt_pos {a : Ent} {L : List Ent} : 0 < cnt a L ↔ a ∈ L := by
  unfold cnt; rw [List.countP_pos_iff]; simp
/-- A list that has each entry at most as often is a part of one in another order. -/
theorem subperm_of {L M : List Ent} (h : ∀ a, cnt a M ≤ cnt a L) : ∃ K, L.Perm (M ++ K) := by
  induction M generalizing L with
  | nil => exact ⟨L, List.Perm.refl _⟩
  | cons b M ih =>
    have hb : b ∈ L := cnt_pos.1 (by have := h b; rw [cnt_cons] at this; have h2 : 0 < one b b := cnt_pos.2 (List.mem_singleton.2 rfl); omega)
    obtain ⟨l1, l2, rfl⟩ := List.append_of_mem hb
    obtain ⟨K, hK⟩ := ih (L := l1 ++ l2) (fun a => by have := h a; rw [cnt_cons, cnt_append, cnt_cons a b l2] at this; rw [cnt_append]; omega)
    exact ⟨K, List.perm_middle.trans (by simpa using hK.cons b)⟩
/-- Of what has been made since world w0 these blocks are held, each apart from the others; what was there in w0 is as it was. -/
structure St (w0 W : World) (L : List Ent) : Prop where
  bl : Below w0.heap.size w0 W
  nd : (L.map (·.1)).Nodup
  ge : ∀ p, p ∈ L → w0.heap.size ≤ p.1
  has : ∀ p, p ∈ L → ∃ o, W.heap[p.1]? = some o ∧ p.2 o
theorem St.start (w : World) : St w w [] := ⟨Below.refl _ _, List.nodup_nil, by simp, by simp⟩
theorem St.lt {w0 W : World} {L : List Ent} (h : St w0 W L) {p : Ent} (hp : p ∈ L) : p.1 < W.heap.size := by
  obtain ⟨o, ho, _⟩ := h.has p hp
  exact (Array.getElem?_eq_some_iff.1 ho).1
/-- In another order; a part of it. -/
theorem St.re {w0 W : World} {L M : List Ent} (h : St w0 W L) (hc : ∀ a, cnt a M ≤ cnt a L) : St w0 W M := by
  obtain ⟨K, hK⟩ := subperm_of hc
  have hm : ∀ p, p ∈ M → p ∈ L := fun p hp => hK.symm.subset (List.mem_append_left _ hp)
  refine ⟨h.bl, ?_, fun p hp => h.ge p (hm p hp), fun p hp => h.has p (hm p hp)⟩
  have hn := (hK.map (·.1)).nodup_iff.1 h.nd
  rw [List.map_append] at hn
  exact (List.nodup_append.1 hn).1
theorem St.tail {w0 W : World} {L M : List Ent} (h : St w0 W (L ++ M)) : St w0 W M := h.re (fun a => by rw [cnt_append]; omega)
theorem St.front {w0 W : World} {L M : List Ent} (h : St w0 W (L ++ M)) : St w0 W L := h.re (fun a => by rw [cnt_append]; omega)
theorem St.swap {w0 W : World} {L M : List Ent} (h : St w0 W (L ++ M)) : St w0 W (M ++ L) := h.re (fun a => by rw [cnt_append, cnt_append]; omega)
/-- Less is known. -/
theorem St.weak {w0 W : World} {g : Nat} {P Q : Obj → Prop} {R : List Ent} (h : St w0 W ((g, P) :: R)) (hPQ : ∀ o, P o → Q o) : St w0 W ((g, Q) :: R) :=
  ⟨h.bl, h.nd, fun p hp => by
    rcases List.mem_cons.1 hp with rfl | hp
    · exact h.ge (g, P) (List.mem_cons_self ..)
    · exact h.ge p (List.mem_cons_of_mem _ hp), fun p hp => by
    rcases List.mem_cons.1 hp with rfl | hp
    · obtain ⟨o, ho, hP⟩ := h.has (g, P) (List.mem_cons_self ..)
      exact ⟨o, ho, hPQ o hP⟩
    · exact h.has p (List.mem_cons_of_mem _ hp)⟩
/-- A step that changes blocks of F alone: what it leaves of them, and what it makes. -/
theorem St.step {w0 W W1 : World} {F G R : List Ent} (h : St w0 W (F ++ R)) (hb : Below w0.heap.size w0 W1) (hs : W.heap.size ≤ W1.heap.size)
    (hk : ∀ k, k < W.heap.size → (∀ p, p ∈ F → p.1 ≠ k) → W1.heap[k]? = W.heap[k]?)
    (hn : (G.map (·.1)).Nodup) (hG : ∀ p, p ∈ G → ∃ o, W1.heap[p.1]? = some o ∧ p.2 o) (hF : ∀ p, p ∈ G → (∃ q, q ∈ F ∧ q.1 = p.1) ∨ W.heap.size ≤ p.1) : St w0 W1 (G ++ R) := by
  have hnd := h.nd
  rw [List.map_append] at hnd
  obtain ⟨n1, n2, n3⟩ := List.nodup_append.1 hnd
  refine ⟨hb, ?_, ?_, ?_⟩
  · rw [List.map_append]
    refine List.nodup_append.2 ⟨hn, n2, ?_⟩
    intro a ha b hb' e
    obtain ⟨p, hp, rfl⟩ := List.mem_map.1 ha
    obtain ⟨q, hq, rfl⟩ := List.mem_map.1 hb'
    rcases hF p hp with ⟨r, hr, e2⟩ | hge
    · exact n3 r.1 (List.mem_map.2 ⟨r, hr, rfl⟩) q.1 hb' (by rw [e2, e])
    · have := h.lt (List.mem_append_right F hq)
      omega
  · intro p hp
    rcases List.mem_append.1 hp with hp | hp
    · rcases hF p hp with ⟨r, hr, e2⟩ | hge
      · rw [← e2]; exact h.ge r (List.mem_append_left _ hr)
      · exact Nat.le_trans h.bl.size hge
    · exact h.ge p (List.mem_append_right _ hp)
  · intro p hp
    rcases List.mem_append.1 hp with hp | hp
    · exact hG p hp
    · obtain ⟨o, ho, hP⟩ := h.has p (List.mem_append_right _ hp)
      refine ⟨o, ?_, hP⟩
      rw [hk p.1 (h.lt (List.mem_append_right _ hp)) (fun q hq e => n3 q.1 (List.mem_map.2 ⟨q, hq, rfl⟩) p.1 (List.mem_map.2 ⟨p, hp, rfl⟩) e)]
      exact ho
/-- Nothing that was there has changed. -/
theorem St.below {w0 W W1 : World} {L : List Ent} (h : St w0 W L) (hb : Below W.heap.size W W1) : St w0 W1 L := by
  have h' := St.step (F := L) (G := L) (R := []) (by simpa using h) (h.bl.trans (hb.mono h.bl.size)) hb.size (fun k hk _ => hb.block k hk) h.nd
    (fun p hp => by obtain ⟨o, ho, hP⟩ := h.has p hp; exact ⟨o, by rw [hb.block p.1 (h.lt hp)]; exact ho, hP⟩) (fun p hp => .inl ⟨p, hp, rfl⟩)
  simpa using h'
theorem St.drew {w0 W : World} {L : List Ent} (h : St w0 W L) : St w0 W.drew L := h.below (Below.refl _ _).drew
/-- A block known whole. -/
abbrev B (g : Nat) (cs : Array Value) (t : TypeId) : Ent := (g, fun o => o = .cells cs t (0, 0))
theorem St.new {w0 W : World} {L : List Ent} (h : St w0 W L) (o : Obj) {P : Obj → Prop} (hP : P o) : St w0 (W.alloc o) ((W.heap.size, P) :: L) := by
  have hb : Below W.heap.size W (W.alloc o) := (Below.refl _ _).alloc (Nat.le_refl _) _
  have := St.step (F := []) (G := [(W.heap.size, P)]) (R := L) (by simpa using h) (h.bl.trans (hb.mono h.bl.size)) hb.size (fun k hk _ => hb.block k hk) (by simp)
    (fun p hp => by obtain rfl := List.mem_singleton.1 hp; exact ⟨o, by show (W.heap.push o)[W.heap.size]? = _; simp, hP⟩) (fun p hp => by obtain rfl := List.mem_singleton.1 hp; exact .inr (Nat.le_refl _))
  simpa using this
theorem St.newB {w0 W : World} {L : List Ent} (h : St w0 W L) (cs : Array Value) (t : TypeId) : St w0 (W.alloc (.cells cs t)) (B W.heap.size cs t :: L) := h.new _ rfl
theorem St.blk {w0 W : World} {L : List Ent} (h : St w0 W L) {g : Nat} {cs : Array Value} {t : TypeId} (hm : B g cs t ∈ L) : W.heap[g]? = some (.cells cs t (0, 0)) := by
  obtain ⟨o, ho, rfl⟩ := h.has _ hm
  exact ho
theorem St.hd {w0 W : World} {R : List Ent} {g : Nat} {cs : Array Value} {t : TypeId} (h : St w0 W (B g cs t :: R)) : W.heap[g]? = some (.cells cs t (0, 0)) := h.blk (List.mem_cons_self ..)
/-- A store into a block known whole. -/
theorem St.put {w0 W : World} {R : List Ent} {g : Nat} {cs cs' : Array Value} {t : TypeId} (h : St w0 W (B g cs t :: R)) (j : Nat) (u : Value) (e : cs.setIfInBounds j u = cs') : St w0 (W.setCell ⟨g, j, none⟩ u) (B g cs' t :: R) := by
  have hg := h.ge _ (List.mem_cons_self ..)
  refine St.step (F := [B g cs t]) (G := [B g cs' t]) (R := R) h (h.bl.setCell hg u) (by simp [World.setCell]) (fun k hk hne => Below.heap_setCell W _ u k (fun e => hne _ (List.mem_singleton.2 rfl) e.symm)) (by simp)
    (fun p hp => by obtain rfl := List.mem_singleton.1 hp; exact ⟨_, blk_put h.hd j u e, rfl⟩) (fun p hp => .inl ⟨_, List.mem_singleton.2 rfl, by obtain rfl := List.mem_singleton.1 hp; rfl⟩)
/-- A row of n elements in a slice's value: its block, where it has one. -/
def rowP (cap : Nat) (e : TypeId) (s n : Nat) (xs : List Value) (o : Obj) : Prop := ∃ cur : Array Value, o = .cells cur e (0, 0) ∧ cur.size = cap * s ∧ cur.toList.take (n * s) = xs
def rowE (v : Value) (e : TypeId) (s n : Nat) (xs : List Value) : List Ent :=
  match v with
  | .slice (some ad) _ cap => [(ad.block, rowP cap e s n xs)]
  | _ => []
theorem mem_row (g m cap : Nat) (e : TypeId) (s n : Nat) (xs : List Value) : (g, rowP cap e s n xs) ∈ rowE (.slice (some ⟨g, 0, none⟩) m cap) e s n xs := List.mem_singleton.2 rfl
/-- The value of such a row. -/
def rowV (v : Value) (s n : Nat) (xs : List Value) : Prop := xs.length = n * s ∧ ((v = .slice none 0 0 ∧ n = 0) ∨ ∃ g cap, v = .slice (some ⟨g, 0, none⟩) n cap ∧ n ≤ cap ∧ cap ≤ maxLen)
theorem rowE_nil (e : TypeId) (s n : Nat) (xs : List Value) : rowE (.slice none 0 0) e s n xs = [] := rfl
theorem rowV_nil (s : Nat) : rowV (.slice none 0 0) s 0 [] := ⟨by simp, .inl ⟨rfl, rfl⟩⟩
theorem rowE_blk {v : Value} {e : TypeId} {s n : Nat} {xs : List Value} {p : Ent} (h : p ∈ rowE v e s n xs) (hv : rowV v s n xs) : v.ownBlock = some p.1 := by
  rcases hv.2 with ⟨rfl, _⟩ | ⟨g, cap, rfl, _⟩
  · simp [rowE] at h
  · simp [rowE] at h; rw [h]; rfl
theorem rowE_nd (v : Value) (e : TypeId) (s n : Nat) (xs : List Value) : ((rowE v e s n xs).map (·.1)).Nodup := by
  unfold rowE; split <;> simp
theorem own_rowV {w : World} {b s n : Nat} {e : TypeId} {v : Value} {xs : List Value} (h : w.ownsRow b e s v n xs) : rowV v s n xs := by
  refine ⟨h.1, ?_⟩
  rcases h.2 with h | ⟨g, cap, cur, rfl, _, _, h1, h2, _⟩
  · exact .inl h
  · exact .inr ⟨g, cap, rfl, h1, h2⟩
theorem own_has {w : World} {b s n : Nat} {e : TypeId} {v : Value} {xs : List Value} (h : w.ownsRow b e s v n xs) : ∀ p, p ∈ rowE v e s n xs → ∃ o, w.heap[p.1]? = some o ∧ p.2 o := by
  intro p hp
  rcases h.2 with ⟨rfl, _⟩ | ⟨g, cap, cur, rfl, _, hg, _, _, h3, h4⟩
  · simp [rowE] at hp
  · simp [rowE] at hp
    subst hp
    exact ⟨_, hg, cur, rfl, h3, h4⟩
/-- What is held of a row's block is that one owns the row. -/
theorem St.own {w0 W : World} {R : List Ent} {v : Value} {e : TypeId} {s n : Nat} {xs : List Value} (h : St w0 W (rowE v e s n xs ++ R)) (hV : rowV v s n xs) : W.ownsRow w0.heap.size e s v n xs := by
  refine ⟨hV.1, ?_⟩
  rcases hV.2 with h' | ⟨g, cap, rfl, h1, h2⟩
  · exact .inl h'
  · obtain ⟨o, ho, cur, rfl, h3, h4⟩ := h.has _ (List.mem_append_left _ (mem_row ..))
    exact .inr ⟨g, cap, cur, rfl, h.ge _ (List.mem_append_left _ (mem_row ..)), ho, h1, h2, h3, h4⟩
theorem St.own_in {w0 W : World} {L : List Ent} {v : Value} {e : TypeId} {s n : Nat} {xs : List Value} (h : St w0 W L) (hc : ∀ a, cnt a (rowE v e s n xs) ≤ cnt a L) (hV : rowV v s n xs) : W.ownsRow w0.heap.size e s v n xs :=
  St.own (R := []) (by simpa using h.re hc) hV
/-- Behind a law that may have written this row, or made another for it. -/
theorem St.grown {w0 W W1 : World} {R : List Ent} {v v1 : Value} {e e1 : TypeId} {s s1 n n1 b : Nat} {xs xs1 : List Value} (h : St w0 W (rowE v e s n xs ++ R)) (hV : rowV v s n xs) (hg : W.grownBy W1 v.ownBlock) (ho : W1.ownsRow b e1 s1 v1 n1 xs1)
    (hat : v1.ownBlock = v.ownBlock ∨ ∀ k, v1.ownBlock = some k → W.heap.size ≤ k) : St w0 W1 (rowE v1 e1 s1 n1 xs1 ++ R) ∧ rowV v1 s1 n1 xs1 := by
  have hV1 := own_rowV ho
  refine ⟨h.step (h.bl.grown hg h.bl.size (fun k hk => (h.own hV).lt k hk |>.1)) hg.size (fun k hk hne => hg.block k hk (fun e => ?_)) (rowE_nd ..) (own_has ho) (fun p hp => ?_), hV1⟩
  · rcases hV.2 with ⟨rfl, _⟩ | ⟨g, cap, rfl, _⟩
    · simp [Value.ownBlock] at e
    · exact hne _ (mem_row ..) (by simpa [Value.ownBlock] using e.symm)
  · have e1 := rowE_blk hp hV1
    rcases hat with e2 | e2
    · left
      rcases hV.2 with ⟨rfl, _⟩ | ⟨g, cap, rfl, _⟩
      · rw [e1] at e2; simp [Value.ownBlock] at e2
      · rw [e1] at e2
        exact ⟨_, mem_row .., by simpa [Value.ownBlock] using e2.symm⟩
    · exact .inr (e2 _ e1)
/-- A row that was made, where nothing that was there has changed. -/
theorem St.fresh {w0 W W1 : World} {L : List Ent} {v : Value} {e : TypeId} {s n : Nat} {xs : List Value} (h : St w0 W L) (hb : Below W.heap.size W W1) (ho : W1.ownsRow W.heap.size e s v n xs) : St w0 W1 (rowE v e s n xs ++ L) ∧ rowV v s n xs := by
  refine ⟨St.step (F := []) (by simpa using h) (h.bl.trans (hb.mono h.bl.size)) hb.size (fun k hk _ => hb.block k hk) (rowE_nd ..) (own_has ho) (fun p hp => .inr ((ho.lt _ (rowE_blk hp (own_rowV ho))).1)), own_rowV ho⟩
/-- A block that was made so. -/
theorem St.made {w0 W W1 : World} {L : List Ent} (h : St w0 W L) (hb : Below W.heap.size W W1) {g : Nat} (hg : W.heap.size ≤ g) {P : Obj → Prop} {o : Obj} (ho : W1.heap[g]? = some o) (hP : P o) : St w0 W1 ((g, P) :: L) := by
  have := St.step (F := []) (G := [(g, P)]) (R := L) (by simpa using h) (h.bl.trans (hb.mono h.bl.size)) hb.size (fun k hk _ => hb.block k hk) (by simp)
    (fun p hp => by obtain rfl := List.mem_singleton.1 hp; exact ⟨o, ho, hP⟩) (fun p hp => by obtain rfl := List.mem_singleton.1 hp; exact .inr hg)
  simpa using this
/-- A cell of a row, and that it is free. -/
theorem St.at {w0 W : World} {R : List Ent} {g cap : Nat} {e : TypeId} {s n : Nat} {xs : List Value} (h : St w0 W (rowE (.slice (some ⟨g, 0, none⟩) n cap) e s n xs ++ R)) (j : Nat) (hj : j < xs.length) (hn : xs.length = n * s) : W.cell? ⟨g, j, none⟩ = xs[j]? ∧ W.frozen? ⟨g, j, none⟩ = false := by
  obtain ⟨o, ho, cur, rfl, h3, h4⟩ := h.has _ (List.mem_append_left _ (mem_row ..))
  refine ⟨?_, blk_frozen ho j⟩
  rw [cell_of_row W g j _ _ _ ho, ← h4, List.getElem?_take_of_lt (by omega)]
  simp
/-- A store into a row. -/
theorem St.store {w0 W : World} {R : List Ent} {g cap : Nat} {e : TypeId} {s n : Nat} {xs : List Value} (h : St w0 W (rowE (.slice (some ⟨g, 0, none⟩) n cap) e s n xs ++ R)) (j : Nat) (u : Value) : St w0 (W.setCell ⟨g, j, none⟩ u) (rowE (.slice (some ⟨g, 0, none⟩) n cap) e s n (xs.set j u) ++ R) := by
  have hg := h.ge _ (List.mem_append_left _ (mem_row ..))
  obtain ⟨o, ho, cur, rfl, h3, h4⟩ := h.has _ (List.mem_append_left _ (mem_row ..))
  refine h.step (h.bl.setCell hg u) (by simp [World.setCell]) (fun k hk hne => Below.heap_setCell W _ u k (fun e => hne _ (mem_row ..) e.symm)) (rowE_nd ..) (fun p hp => ?_) (fun p hp => .inl ?_)
  · simp [rowE] at hp
    subst hp
    refine ⟨_, blk_put ho j u rfl, _, rfl, by simp [h3], ?_⟩
    simp [← h4, List.take_set]
  · simp [rowE] at hp
    subst hp
    exact ⟨_, mem_row .., rfl⟩
/-- What lies in memory that was there when the law began reads as it did. -/
theorem St.reads {α : Type} {enc : α → Value} {d : α} {w0 W : World} {L : List Ent} (h : St w0 W L) {A : Option Addr} {n : Nat} {xs : List α} (hr : ReadsOf enc d w0 A n xs) : ReadsOf enc d W A n xs := hr.below h.bl
/-- One more block, apart from those that are held. -/
theorem St.add {w0 W : World} {L : List Ent} (h : St w0 W L) {g : Nat} (hg : w0.heap.size ≤ g) (hn : ∀ p, p ∈ L → p.1 ≠ g) {P : Obj → Prop} {o : Obj} (ho : W.heap[g]? = some o) (hP : P o) : St w0 W ((g, P) :: L) :=
  ⟨h.bl, List.nodup_cons.2 ⟨fun hm => by obtain ⟨p, hp, e⟩ := List.mem_map.1 hm; exact hn p hp e, h.nd⟩, fun p hp => by
    rcases List.mem_cons.1 hp with rfl | hp
    · exact hg
    · exact h.ge p hp, fun p hp => by
    rcases List.mem_cons.1 hp with rfl | hp
    · exact ⟨o, ho, hP⟩
    · exact h.has p hp⟩
theorem St.cellOf {w0 W : World} {L : List Ent} (h : St w0 W L) {g : Nat} {cs : Array Value} {t : TypeId} (hm : B g cs t ∈ L) (j : Nat) {v : Value} (hj : cs[j]? = some v) : W.cell? ⟨g, j, none⟩ = some v := by
  rw [cell_of_row W g j _ _ _ (h.blk hm)]; exact hj
theorem St.freeOf {w0 W : World} {L : List Ent} (h : St w0 W L) {g : Nat} {cs : Array Value} {t : TypeId} (hm : B g cs t ∈ L) (j : Nat) : W.frozen? ⟨g, j, none⟩ = false := blk_frozen (h.blk hm) j
end Go.Proofs.YtoeiaimoppmjdaaDoor.Mem
/- Contract of a Reader's Var: a number in its shortest form. -/
namespace Go.Proofs.YtoeiaimoppmjdaaDoor.Wr
open Go.RowKit Go.Proofs.YtoeiaimoppmjdaaDoorW.PrintWords Go.Proofs.YtoeiaimoppmjdaaDoor.Bytes
open Go.Sort (grow)
set_option linter.unusedVariables false
set_option linter.unusedSimpArgs false
theorem rdr_regrown {W : World} {base g : Nat} {v : Value} {xs : List Int} {a m : Int} (h : Rdr W base g v xs a m) (d : Nat) (os : Array Obj) : Rdr (grow (redrawn W d) os) base g v xs a m := rdr_below h (below_regrown W d os)
set_option maxRecDepth 100000 in
set_option maxHeartbeats 3200000 in
theorem varR_calls (W : World) (base g : Nat) (v : Value) (xs : List Int) (s : RS) (most : Nat) (h : Rdr W base g v xs s.at_ s.met) (hs : s.Ok xs) (hb : base ≤ W.heap.size) (hx : Byt xs) (hxl : xs.length ≤ 140737488355328) :
    Calls Tryd.prog 69 #[.pointer (some ⟨g, 0, none⟩), .int .u64 (most : Int)] W fun e w' => e = .returned (.int .u64 ((rVar xs s most).1 : Int)) ∧ RdTo W w' base g v xs (rVar xs s most).2 := by
  obtain ⟨a, m⟩ := s
  by_cases hm : m = 0
  · subst hm
    obtain ⟨A, c, rfl, hr⟩ := reads_of_own h.own
    have hal : a ≤ xs.length := hs.at_
    have hcap : xs.length ≤ c := by
      rcases h.own.2 with ⟨e, e2⟩ | ⟨_, _, _, e, _, _, h5, _⟩
      · omega
      · injection e with _ _ e; omega
    obtain ⟨l, hl⟩ : ∃ l, l = xs.drop a := ⟨_, rfl⟩
    have hll : l.length = xs.length - a := by rw [hl]; simp
    obtain ⟨n, hn⟩ : ∃ n, n = min 10 l.length := ⟨_, rfl⟩
    have hbl : Byt l := by rw [hl]; exact byt_drop hx a
    obtain ⟨i0, hi0, _, hs0, _⟩ := info_parts info5
    have hna : a + n ≤ xs.length := by omega
    have q : ∀ W : World, (Instr.slice 22 (.slice A xs.length c) (some (.int .i64 (a : Int))) (some (.int .i64 ((a : Int) + (n : Int)))) none).run Tryd.prog W = .ok (.slice (if c = a then A else A.map (·.add (a * 1))) n (c - a)) W := fun W => by
      have h := cut_mid (P := Tryd.prog) 22 5 .i64 .i64 Tryd.underlying22 hi0 1 hs0 A xs.length c (a : Int) ((a : Int) + n) (by omega) (by omega) (by omega) hcap W
      rw [Int.toNat_natCast, show ((a : Int) + (n : Int)).toNat - a = n by omega] at h
      exact h
    have hcut : ReadsOf I 0 W (if c = a then A else A.map (·.add (a * 1))) n ((xs.drop a).take n) := cut_reads (len := 0) h.own a n hna
    obtain ⟨A2, hA2⟩ : ∃ A2, A2 = (if c = a then A else A.map (·.add (a * 1))) := ⟨_, rfl⟩
    rw [← hA2, ← hl] at hcut
    simp only [← hA2] at q
    have HCUT := Lib.hid hcut
    have CL : ∀ d os, Calls Tryd.prog 17 #[.pointer (some ⟨g, 0, none⟩)] (grow (redrawn W d) os) fun e w'' => e = .returned (.int .i64 ((xs.length : Int) - (a : Int))) ∧ ∃ p : Regrown, w'' = grow (redrawn W p.d) p.os := fun d os =>
      Gen.calls_regrown ((left_calls (grow (redrawn W d) os) base g _ xs a 0 (rdr_regrown h d os) (by omega) (by omega)).mono fun e w' ⟨he, hb⟩ => ⟨he, (below_regrown W d os).trans (hb.mono (below_regrown W d os).size)⟩)
    have c2 := blk_cell h.blk 2
    have d0 := blk_cell h.blk 0
    have d1 := blk_cell h.blk 1
    simp at c2 d0 d1
    have y0 := cell_regrown d0
    have y1 := cell_regrown d1
    have hminl : min (10 : Int) ((xs.length : Int) - (a : Int)) = (n : Int) := by omega
    have p2 : IntKind.i64.wrap ((a : Int) + (n : Int)) = (a : Int) + (n : Int) := wrap_in (by omega) (by omega)
    have H := Lib.hid h
    have HB := Lib.hid hb
    have HBL := Lib.hid hbl
    have HL := Lib.hid hl
    have HN := Lib.hid hn
    have HLL := Lib.hid hll
    have hn10 : n ≤ 10 := by omega
    have hnl : n ≤ l.length := by omega
    clear h hs hb hx hr hal hcap hl hll hn hbl hna hcut hA2 d0 d1 hi0 hs0
    go_enter Tryd.func69, Tryd.ntmps69
    go_wp2_with fail
    refine wp_region_quiet_below (by kernel_rfl) (by kernel_rfl) ?_
    repeat (quiet_step (first | with_reducible exact CL _ _))
    refine wpQuiet_nil ?_
    intro w1 hw'
    have hb1 : Below W.heap.size W w1 := by obtain ⟨⟨dq, osq⟩, hw''⟩ := hw'; rw [hw'']; exact below_regrown W dq osq
    have H1 := Lib.hid (rdr_below H.out hb1)
    have HC1 := Lib.hid (Gen.reads_below HCUT.out hb1)
    have HB1 := Lib.hid hb1
    clear hw' hb1 y0 y1 CL q p2 c2
    go_wp2_with fail
    go_loop [5, 33] (fun u j => ∃ k nn : Nat, u = .int .u64 (nn : Int) ∧ j = .int .i64 (k : Int) ∧ k ≤ n ∧ nn < 128 ^ k ∧ varR most l 0 0 = varR most (l.drop k) k nn) (fun _ j => n - (intOf j).toNat)
    case atStart => exact ⟨0, 0, rfl, rfl, Nat.zero_le _, by simp, by simp⟩
    case round =>
      obtain ⟨k, nn, rfl, rfl, hk, hnn, hvr⟩ := hrel
      have HVR := Lib.hid hvr
      have HNN := Lib.hid hnn
      clear hvr hnn
      by_cases hlt : k < n
      · obtain ⟨ad, hA, hc⟩ := HC1.out.2.2 (by omega)
        subst hA
        have hkl : k < l.length := by omega
        have hx1 := hc k hlt
        have hbk := byt_get HBL.out k hkl
        have hg : (l.take n).getD k 0 = l.getD k 0 := by simp [List.getD_eq_getElem?_getD, List.getElem?_take, hlt]
        rw [hg] at hx1
        obtain ⟨cc, hcc⟩ := Int.eq_ofNat_of_zero_le hbk.1
        have hc255 : cc < 256 := by omega
        rw [hcc] at hx1
        have HDR : Hid (l.drop k = (cc : Int) :: l.drop (k + 1)) := by
          show _ = _
          rw [List.drop_eq_getElem_cons hkl]
          congr 1
          rw [← hcc, List.getD_eq_getElem?_getD, List.getElem?_eq_getElem hkl]; rfl
        have i1 : (k : Int) < (n : Int) := by omega
        have i2 : (0 : Int) ≤ (k : Int) := by omega
        have cb : (cc : Int) ≤ 255 := by omega
        have hk9 : (k : Int) ≤ 9 := by omega
        clear hg hbk hcc hc
        by_cases hbr : k = 9 ∧ 1 < cc
        · obtain ⟨h9, h1⟩ := hbr
          have h2 : (1 : Int) < (cc : Int) := by omega
          have h9t : ((k : Int) == 9) = true := by simp; omega
          have hn10' : ¬ (n : Int) < 10 := by omega
          have HE : Hid (rVar xs ⟨a, 0⟩ most = (0, ⟨a, 2⟩)) := by
            show _ = _
            have e : varR most l 0 0 = .bad 2 := by
              rw [HVR.out, HDR.out, varR, if_neg (by omega), if_pos ⟨h9, by omega⟩]
            unfold rVar
            rw [← HL.out, e]; rfl
          have CS := Lib.hid (stop_calls w1 base g _ xs ⟨a, 0⟩ a 2 H1.out)
          have e1 := blk_cell H1.out.blk 1
          simp at e1
          clear h9 h1
          go_wp2_with fail
          refine CS.out.mono ?_; rintro e w2 ⟨rfl, h2⟩
          have H2 := Lib.hid h2
          clear h2
          go_wp2_with fail
          go_ret
          rw [HE.out]
          exact ⟨rfl, ((RdTo.refl (s := ⟨a, 0⟩) H.out).below HB.out HB1.out).trans H2.out⟩
        · obtain ⟨n1, hn1⟩ : ∃ n1, n1 = nn + (cc % 128) * 128 ^ k := ⟨_, rfl⟩
          have hcase : ((k : Int) == 9) = false ∨ (((k : Int) == 9) = true ∧ ¬ (1 : Int) < (cc : Int)) := by
            by_cases h9 : k = 9
            · exact .inr ⟨by simp; omega, by omega⟩
            · exact .inl (by simp; omega)
          have hlt64 : nn + (cc % 128) * 128 ^ k < 18446744073709551616 := by
            by_cases h9 : k = 9
            · subst h9
              have h1 : nn < 128 ^ 9 := HNN.out
              have h2 : cc % 128 ≤ 1 := by omega
              have h3 := Nat.mul_le_mul_right (128 ^ 9) h2
              have h4 : (128 : Nat) ^ 9 = 9223372036854775808 := by decide
              rw [h4] at h1 h3 ⊢
              omega
            · have h1 : nn < 128 ^ k := HNN.out
              have h2 : cc % 128 + 1 ≤ 128 := by omega
              have h3 := Nat.mul_le_mul_right (128 ^ k) h2
              have h4 : (128 : Nat) * 128 ^ k ≤ 128 ^ 9 := by rw [Nat.mul_comm, ← Nat.pow_succ]; exact Nat.pow_le_pow_right (by omega) (by omega)
              have h5 : (128 : Nat) ^ 9 = 9223372036854775808 := by decide
              rw [Nat.add_mul] at h3
              omega
          have hn1k : n1 < 128 ^ (k + 1) := by
            have h1 : nn < 128 ^ k := HNN.out
            have h2 : cc % 128 + 1 ≤ 128 := by omega
            have h3 := Nat.mul_le_mul_right (128 ^ k) h2
            rw [Nat.add_mul] at h3
            rw [Nat.pow_succ, Nat.mul_comm (128 ^ k), hn1]
            omega
          obtain ⟨dd, hdd⟩ : ∃ dd, dd = cc % 128 := ⟨_, rfl⟩
          have e1 : Go.bits .and .u8 (cc : Int) 127 = (dd : Int) := by rw [u8_and127 cc hc255, hdd]
          have qs : Go.bits .or .u64 (nn : Int) (IntKind.u64.wrap ((dd : Int) * 2 ^ (7 * k))) = (n1 : Int) := by
            have e1 : (dd : Int) * 2 ^ (7 * k) = ((dd * 128 ^ k : Nat) : Int) := by
              rw [show (128 : Nat) = 2 ^ 7 from rfl, ← Nat.pow_mul]; simp
            rw [e1, IntKind.wrap_u64, Int.emod_eq_of_lt (by omega) (by rw [hdd]; omega), u64_shift_or nn dd k HNN.out (by omega) (by rw [hdd]; exact hlt64), hn1, hdd]
          have qs2 : Go.bits .or .u64 (nn : Int) ((dd : Int) * 2 ^ (7 * k)) = (n1 : Int) := by
            have e1 : (dd : Int) * 2 ^ (7 * k) = ((dd * 128 ^ k : Nat) : Int) := by
              rw [show (128 : Nat) = 2 ^ 7 from rfl, ← Nat.pow_mul]; simp
            rw [e1, u64_shift_or nn dd k HNN.out (by omega) (by rw [hdd]; exact hlt64), hn1, hdd]
          have hdd2 : (dd : Int) ≤ 127 := by omega
          have HVN : Hid (varR most l 0 0 = if 128 ≤ cc then varR most (l.drop (k + 1)) (k + 1) n1 else if cc = 0 ∧ 0 < k then .bad 2 else if most < n1 then .bad 3 else .ok n1 (k + 1)) := by
            show _ = _
            rw [HVR.out, HDR.out, varR, if_neg (by omega), if_neg (by omega)]
            simp only [Int.toNat_natCast, ← hn1]
            by_cases g1 : 128 ≤ cc
            · rw [if_pos g1, if_pos (by omega)]
            · rw [if_neg g1, if_neg (by omega)]
              by_cases g2 : cc = 0 ∧ 0 < k
              · rw [if_pos g2, if_pos (by omega)]
              · rw [if_neg g2, if_neg (by omega)]
          have HN1 := Lib.hid hn1k
          have hn1b : (n1 : Int) ≤ 18446744073709551615 := by omega
          clear hbr hn1 hlt64 hn1k hdd
          have ea := u8_and128 cc hc255
          by_cases hgo : 128 ≤ cc
          · have ea2 : Go.bits .and .u8 (cc : Int) 128 = 128 := by rw [ea, if_pos hgo]
            clear ea
            rcases hcase with h9 | ⟨h9, h8⟩
            all_goals
              go_wp2_with fail
              go_round
              case rel => exact ⟨k + 1, n1, rfl, by go_num, by omega, HN1.out, by rw [HVN.out, if_pos hgo]⟩
              case measure => simp [intOf]; omega
          · have ea2 : Go.bits .and .u8 (cc : Int) 128 = 0 := by rw [ea, if_neg hgo]
            clear ea
            have w1c := blk_cell H1.out.blk 1
            have w1f := blk_frozen H1.out.blk 1
            simp at w1c
            by_cases hz : cc = 0 ∧ 0 < k
            · have HE : Hid (rVar xs ⟨a, 0⟩ most = (0, ⟨a, 2⟩)) := by
                show _ = _
                have e : varR most l 0 0 = .bad 2 := by rw [HVN.out, if_neg hgo, if_pos hz]
                unfold rVar
                rw [← HL.out, e]; rfl
              have CS := Lib.hid (stop_calls w1 base g _ xs ⟨a, 0⟩ a 2 H1.out)
              obtain ⟨h0, hk0⟩ := hz
              have z1 : ((cc : Int) == 0) = true := by simp; omega
              have z2 : (0 : Int) < (k : Int) := by omega
              clear h0
              rcases hcase with h9 | ⟨h9, h8⟩
              all_goals
                go_wp2_with fail
                refine CS.out.mono ?_; rintro e w2 ⟨rfl, h2⟩
                have H2 := Lib.hid h2
                clear h2
                go_wp2_with fail
                go_ret
                rw [HE.out]
                exact ⟨rfl, ((RdTo.refl (s := ⟨a, 0⟩) H.out).below HB.out HB1.out).trans H2.out⟩
            · have hzc : ((cc : Int) == 0) = false ∨ (((cc : Int) == 0) = true ∧ ¬ (0 : Int) < (k : Int)) := by
                by_cases h0 : cc = 0
                · exact .inr ⟨by simp; omega, by omega⟩
                · exact .inl (by simp; omega)
              by_cases hmo : most < n1
              · have HE : Hid (rVar xs ⟨a, 0⟩ most = (0, ⟨a, 3⟩)) := by
                  show _ = _
                  have e : varR most l 0 0 = .bad 3 := by rw [HVN.out, if_neg hgo, if_neg hz, if_pos hmo]
                  unfold rVar
                  rw [← HL.out, e]; rfl
                have CS := Lib.hid (stop_calls w1 base g _ xs ⟨a, 0⟩ a 3 H1.out)
                have m1 : (most : Int) < (n1 : Int) := by omega
                clear hz hmo
                rcases hcase with h9 | ⟨h9, h8⟩ <;> rcases hzc with z1 | ⟨z1, z2⟩
                all_goals
                  go_wp2_with fail
                  refine CS.out.mono ?_; rintro e w2 ⟨rfl, h2⟩
                  have H2 := Lib.hid h2
                  clear h2
                  go_wp2_with fail
                  go_ret
                  rw [HE.out]
                  exact ⟨rfl, ((RdTo.refl (s := ⟨a, 0⟩) H.out).below HB.out HB1.out).trans H2.out⟩
              · have HE : Hid (rVar xs ⟨a, 0⟩ most = (n1, ⟨a + (k + 1), 0⟩)) := by
                  show _ = _
                  have e : varR most l 0 0 = .ok n1 (k + 1) := by rw [HVN.out, if_neg hgo, if_neg hz, if_neg hmo]
                  unfold rVar
                  rw [← HL.out, e]; rfl
                have m1 : ¬ (most : Int) < (n1 : Int) := by omega
                have HP := Lib.hid (rdto_put ((RdTo.refl (s := ⟨a, 0⟩) H.out).below HB.out HB1.out) (a + (k + 1)))
                have wk : (a : Int) ≤ 140737488355328 := by have := HLL.out; omega
                have hxl2 := Lib.hid hxl
                clear hz hmo hn1b hxl
                rcases hcase with h9 | ⟨h9, h8⟩ <;> rcases hzc with z1 | ⟨z1, z2⟩
                all_goals
                  go_wp2_with fail
                  go_ret
                  rw [HE.out]
                  exact ⟨rfl, by have := HP.out; simpa using this⟩
      · have hke : k = n := by omega
        have HE : Hid (rVar xs ⟨a, 0⟩ most = (0, ⟨a, if n < 10 then 1 else 2⟩)) := by
          show _ = _
          have e : varR most l 0 0 = .bad (if n < 10 then 1 else 2) := by
            rw [HVR.out, hke]
            by_cases h10 : n < 10
            · rw [if_pos h10]
              have : l.drop n = [] := by apply List.drop_of_length_le; have := HN.out; omega
              rw [this, varR, if_pos h10]
            · rw [if_neg h10]
              cases hd : l.drop n with
              | nil => rw [varR, if_neg h10]
              | cons c t => rw [varR, if_pos (by omega)]
          unfold rVar
          rw [← HL.out, e]; rfl
        have i1 : ¬ (k : Int) < (n : Int) := by omega
        have w1c := blk_cell H1.out.blk 1
        simp at w1c
        clear hke hlt
        by_cases h10 : n < 10
        · have CS := Lib.hid (stop_calls w1 base g _ xs ⟨a, 0⟩ a 1 H1.out)
          rw [if_pos h10] at HE
          have i2 : (n : Int) < 10 := by omega
          clear h10
          go_wp2_with fail
          refine CS.out.mono ?_; rintro e w2 ⟨rfl, h2⟩
          have H2 := Lib.hid h2
          clear h2
          go_wp2_with fail
          go_ret
          rw [HE.out]
          exact ⟨rfl, ((RdTo.refl (s := ⟨a, 0⟩) H.out).below HB.out HB1.out).trans H2.out⟩
        · have CS := Lib.hid (stop_calls w1 base g _ xs ⟨a, 0⟩ a 2 H1.out)
          rw [if_neg h10] at HE
          have i2 : ¬ (n : Int) < 10 := by omega
          clear h10
          go_wp2_with fail
          refine CS.out.mono ?_; rintro e w2 ⟨rfl, h2⟩
          have H2 := Lib.hid h2
          clear h2
          go_wp2_with fail
          go_ret
          rw [HE.out]
          exact ⟨rfl, ((RdTo.refl (s := ⟨a, 0⟩) H.out).below HB.out HB1.out).trans H2.out⟩
  · have hm' : ¬ (m : Int) = 0 := by omega
    rw [rVar_stopped hm]
    have c2 := blk_cell h.blk 2
    simp at c2
    have H := Lib.hid (RdTo.refl (s := ⟨a, m⟩) h)
    clear h hs hb hx hm hxl
    go_enter Tryd.func69, Tryd.ntmps69
    go_wp2_with fail
    go_ret
    exact ⟨rfl, H.out⟩
end Go.Proofs.YtoeiaimoppmjdaaDoor.Wr
/- Contract of a Reader's Bytes: the length, and the bytes. -/
namespace Go.Proofs.YtoeiaimoppmjdaaDoor.Wr
open Go.RowKit Go.Proofs.YtoeiaimoppmjdaaDoorW.PrintWords Go.Proofs.YtoeiaimoppmjdaaDoor.Bytes
set_option linter.unusedVariables false
set_option linter.unusedSimpArgs false
theorem rNext_len (xs : List Int) (s : RS) (n : Int) : (rNext xs s n).1.length ≤ xs.length := by
  unfold rNext
  split
  · split
    · simp; omega
    · simp
  · simp
set_option maxRecDepth 20000 in
set_option maxHeartbeats 1600000 in
theorem bytesR_calls (W : World) (base g : Nat) (v : Value) (xs : List Int) (s : RS) (most : Int) (h : Rdr W base g v xs s.at_ s.met) (hs : s.Ok xs) (hb : base ≤ W.heap.size) (hx : Byt xs) (hxl : xs.length ≤ 140737488355328) (hm1 : -9223372036854775808 ≤ most) (hm2 : most ≤ 9223372036854775807) :
    Calls Tryd.prog 71 #[.pointer (some ⟨g, 0, none⟩), .int .i64 most] W (TakenPost W base g v xs (rBytes xs s most).1 (rBytes xs s most).2) := by
  obtain ⟨mm, hmm⟩ : ∃ mm, mm = most.toNat := ⟨_, rfl⟩
  have hmax : max (0 : Int) most = (mm : Int) := by omega
  have CV := Lib.hid (varR_calls W base g v xs s mm h hs hb hx hxl)
  have hok := rVar_ok hs mm
  have HF : Hid (rBytes xs s most = if (rVar xs s mm).2.met = 0 ∧ xs.length < (rVar xs s mm).2.at_ + (rVar xs s mm).1 then ([], ⟨s.at_, 1⟩) else rNext xs (rVar xs s mm).2 ((rVar xs s mm).1 : Int)) := by
    show _ = _
    rw [hmm]; rfl
  obtain ⟨q, hq⟩ : ∃ q, q = rVar xs s mm := ⟨_, rfl⟩
  rw [← hq] at CV hok HF
  obtain ⟨n, s1⟩ := q
  have hn63 : n ≤ mm := hok.2
  have c1 := blk_cell h.blk 1
  simp at c1
  have hwm : (mm : Int) ≤ 9223372036854775807 := by omega
  have hnn : (n : Int) ≤ 9223372036854775807 := by omega
  have HB := Lib.hid hb
  have HOK : Hid (s1.Ok xs) := hok.1
  have HS0 := Lib.hid hs
  have HXL := Lib.hid hxl
  clear h hs hb hx hm2 hok hq hmm hn63 hm1
  go_enter Tryd.func71, Tryd.ntmps71
  go_wp2_with fail
  refine CV.out.mono ?_; rintro e w1 ⟨rfl, h1⟩
  have H1 := Lib.hid h1
  have d2 := blk_cell h1.rd.blk 2
  simp at d2
  by_cases hm : s1.met = 0
  · have hm' : (s1.met : Int) = 0 := by omega
    rw [hm'] at d2
    have CL := Lib.hid (left_calls w1 base g v xs s1.at_ 0 (by have := h1.rd; rwa [hm'] at this) (by omega) (by have := HOK.out.at_; omega))
    by_cases hov : xs.length < s1.at_ + n
    · have e : rBytes xs s most = ([], ⟨s.at_, 1⟩) := by rw [HF.out, if_pos ⟨hm, hov⟩]
      have HE := Lib.hid e
      have o1 : (xs.length : Int) - (s1.at_ : Int) < (n : Int) := by omega
      have o2 : (0 : Int) ≤ (xs.length : Int) - (s1.at_ : Int) := by have := HOK.out.at_; omega
      have o3 : (xs.length : Int) ≤ 140737488355328 := by have := HXL.out; omega
      have CS := fun W' h' => Lib.hid (stop_calls W' base g v xs s1 s.at_ 1 h')
      have HS := Lib.hid CS
      have CN := fun W' h' => Lib.hid (nextR_calls W' base g v xs ⟨s.at_, 1⟩ (n : Int) h')
      have HCN := Lib.hid CN
      clear h1 hm hm' hov e CS CN hxl
      go_wp2_with fail
      refine CL.out.mono ?_; rintro e w2 ⟨rfl, hb2⟩
      have CS2 := Lib.hid (HS.out w2 (rdr_below H1.out.rd hb2))
      have HB2 := Lib.hid hb2
      clear hb2
      go_wp2_with fail
      refine CS2.out.out.mono ?_; rintro e w3 ⟨rfl, h3⟩
      have H13 := Lib.hid ((H1.out.below HB.out HB2.out).trans h3)
      have CN3 := Lib.hid (HCN.out w3 h3.rd ⟨HS0.out.at_, by simp⟩ (Nat.le_trans HB.out H13.out.kb.1) (fun e => by simp at e))
      rw [rNext_stopped (by simp)] at CN3
      clear h3
      go_wp2_with fail
      refine CN3.out.mono ?_; rintro e w4 ⟨A2, c2', rfl, hr4, h4⟩
      have CT := Lib.hid (taken_calls [] A2 c2' w4 w4.heap.size (Nat.le_refl _) hr4 (by simp))
      have H4 := Lib.hid (H13.out.trans h4)
      clear hr4 h4
      go_wp2_with fail
      refine CT.out.mono ?_; rintro e w5 ⟨u, rfl, hu, hb5⟩
      have HU := Lib.hid hu
      have HB5 := Lib.hid hb5
      clear hu hb5
      go_wp2_with fail
      go_ret
      rw [HE.out]; exact ⟨u, rfl, own_less HU.out H4.out.kb.1, H4.out.below HB.out HB5.out⟩
    · have e : rBytes xs s most = rNext xs s1 (n : Int) := by rw [HF.out, if_neg (by simp [hov])]
      have o1 : ¬ (xs.length : Int) - (s1.at_ : Int) < (n : Int) := by omega
      have o2 : (0 : Int) ≤ (xs.length : Int) - (s1.at_ : Int) := by have := HOK.out.at_; omega
      have o3 : (xs.length : Int) ≤ 140737488355328 := by have := HXL.out; omega
      have CN := fun W' h' => Lib.hid (nextR_calls W' base g v xs s1 (n : Int) h' HOK.out)
      have HCN := Lib.hid CN
      have HLN : Hid ((rNext xs s1 (n : Int)).1.length ≤ 140737488355328) := Nat.le_trans (rNext_len xs s1 n) HXL.out
      obtain ⟨q, hq⟩ : ∃ q, q = rNext xs s1 (n : Int) := ⟨_, rfl⟩
      rw [← hq] at HLN HCN
      obtain ⟨l, s2⟩ := q
      have HE : Hid (rBytes xs s most = (l, s2)) := e.trans hq.symm
      clear h1 hm hm' hov e CN hxl hq
      go_wp2_with fail
      refine CL.out.mono ?_; rintro e w2 ⟨rfl, hb2⟩
      have H12 := Lib.hid (H1.out.below HB.out hb2)
      have CN3 := Lib.hid (HCN.out w2 H12.out.rd (Nat.le_trans HB.out H12.out.kb.1) (fun e => by omega))
      clear hb2
      go_wp2_with fail
      refine CN3.out.mono ?_; rintro e w4 ⟨A2, c2', rfl, hr4, h4⟩
      have CT := Lib.hid (taken_calls l A2 c2' w4 w4.heap.size (Nat.le_refl _) hr4 HLN.out)
      have H4 := Lib.hid (H12.out.trans h4)
      clear hr4 h4
      go_wp2_with fail
      refine CT.out.mono ?_; rintro e w5 ⟨u, rfl, hu, hb5⟩
      have HU := Lib.hid hu
      have HB5 := Lib.hid hb5
      clear hu hb5
      go_wp2_with fail
      go_ret
      rw [HE.out]; exact ⟨u, rfl, own_less HU.out H4.out.kb.1, H4.out.below HB.out HB5.out⟩
  · have hm' : ¬ (s1.met : Int) = 0 := by omega
    have e : rBytes xs s most = rNext xs s1 (n : Int) := by rw [HF.out, if_neg (by simp [hm])]
    have CN := Lib.hid (nextR_calls w1 base g v xs s1 (n : Int) h1.rd HOK.out (Nat.le_trans HB.out h1.kb.1) (fun e => absurd e hm))
    have HLN : Hid ((rNext xs s1 (n : Int)).1.length ≤ 140737488355328) := Nat.le_trans (rNext_len xs s1 n) HXL.out
    obtain ⟨q, hq⟩ : ∃ q, q = rNext xs s1 (n : Int) := ⟨_, rfl⟩
    rw [← hq] at HLN CN
    obtain ⟨l, s2⟩ := q
    have HE : Hid (rBytes xs s most = (l, s2)) := e.trans hq.symm
    clear h1 hm e hxl hq
    go_wp2_with fail
    refine CN.out.mono ?_; rintro e w4 ⟨A2, c2', rfl, hr4, h4⟩
    have CT := Lib.hid (taken_calls l A2 c2' w4 w4.heap.size (Nat.le_refl _) hr4 HLN.out)
    have H4 := Lib.hid (H1.out.trans h4)
    clear hr4 h4
    go_wp2_with fail
    refine CT.out.mono ?_; rintro e w5 ⟨u, rfl, hu, hb5⟩
    have HU := Lib.hid hu
    have HB5 := Lib.hid hb5
    clear hu hb5
    go_wp2_with fail
    go_ret
    rw [HE.out]; exact ⟨u, rfl, own_less HU.out H4.out.kb.1, H4.out.below HB.out HB5.out⟩
end Go.Proofs.YtoeiaimoppmjdaaDoor.Wr
/- Writers and Readers as blocks that are held (the part of WtrSt that wants no book). -/
namespace Go.Proofs.YtoeiaimoppmjdaaDoor.Lk
open Go.RowKit Go.Proofs.YtoeiaimoppmjdaaDoorW.PrintWords Go.Proofs.YtoeiaimoppmjdaaDoor.Mem Go.Proofs.YtoeiaimoppmjdaaDoor.Wr Go.Proofs.YtoeiaimoppmjdaaDoor.Bytes
set_option linter.unusedVariables false
set_option linter.unusedSimpArgs false
abbrev pt (g : Nat) : Value := .pointer (some ⟨g, 0, none⟩)
abbrev nilp : Value := .pointer none
abbrev NL : Value := .slice none 0 0
def byR (v : Value) (xs : List Int) : List Ent := rowE v 5 1 xs.length (encs I xs)
def byV (v : Value) (xs : List Int) : Prop := rowV v 1 xs.length (encs I xs)
theorem byV_nil : byV NL [] := rowV_nil 1
theorem byR_nil : byR NL [] = [] := rfl
def wtrE (g : Nat) (v : Value) (xs : List Int) : List Ent := B g #[v] 112 :: byR v xs
def rdrE (g : Nat) (v : Value) (xs : List Int) (s : RS) : List Ent := B g #[v, .int .i64 (s.at_ : Int), .int .i64 (s.met : Int)] 105 :: byR v xs
theorem byV_form {v : Value} {xs : List Int} (h : byV v xs) : ∃ A c, v = .slice A xs.length c := by
  rcases h.2 with ⟨rfl, h0⟩ | ⟨g, c, rfl, _⟩
  · exact ⟨none, 0, by rw [h0]⟩
  · exact ⟨_, _, rfl⟩
theorem by_reads {w0 W : World} {L : List Ent} {A : Option Addr} {c : Nat} {xs : List Int} (h : St w0 W L) (hc : ∀ a, cnt a (byR (.slice A xs.length c) xs) ≤ cnt a L) (hV : byV (.slice A xs.length c) xs) : ReadsOf I 0 W A xs.length xs := by
  have hx := h.own_in (e := 5) hc hV
  exact own_reads (xs := xs) hx (by simp)
theorem St.wtr {w0 W : World} {R : List Ent} {g : Nat} {v : Value} {xs : List Int} (h : St w0 W (wtrE g v xs ++ R)) (hV : byV v xs) : Wtr W w0.heap.size g v xs :=
  ⟨h.blk (List.mem_append_left _ (List.mem_cons_self ..)), h.ge (B g _ _) (List.mem_append_left _ (List.mem_cons_self ..)), h.own_in (fun a => by rw [cnt_append, wtrE, cnt_cons, byR]; omega) hV⟩
theorem St.rdr {w0 W : World} {R : List Ent} {g : Nat} {v : Value} {xs : List Int} {s : RS} (h : St w0 W (rdrE g v xs s ++ R)) (hV : byV v xs) : Rdr W w0.heap.size g v xs s.at_ s.met :=
  ⟨h.blk (List.mem_append_left _ (List.mem_cons_self ..)), h.ge (B g _ _) (List.mem_append_left _ (List.mem_cons_self ..)), h.own_in (fun a => by rw [cnt_append, rdrE, cnt_cons, byR]; omega) hV⟩
/-- What a call that begins in the world W makes, beside what was held. -/
theorem St.lift {w0 W W' : World} {R M : List Ent} (h : St w0 W R) (k : St W W' M) : St w0 W' (M ++ R) := by
  have := St.step (F := []) (G := M) (R := R) (by simpa using h) (h.bl.trans (k.bl.mono h.bl.size)) k.bl.size (fun i hi _ => k.bl.block i hi) k.nd k.has (fun p hp => .inr (k.ge p hp))
  exact this
theorem row_in {v : Value} {e : TypeId} {s n k : Nat} {xs : List Value} (hV : rowV v s n xs) (hk : v.ownBlock = some k) : ∃ p, p ∈ rowE v e s n xs ∧ p.1 = k := by
  rcases hV.2 with ⟨rfl, _⟩ | ⟨g, cap, rfl, _⟩
  · simp [Value.ownBlock] at hk
  · exact ⟨_, mem_row .., by simpa [Value.ownBlock] using hk⟩
/-- Behind a call of a Writer. -/
theorem St.wput {w0 W W' : World} {R : List Ent} {g : Nat} {v v' : Value} {xs xs' : List Int} (H : St w0 W (wtrE g v xs ++ R)) (hv : byV v xs) (t : Put W W' w0.heap.size g v v' xs') : St w0 W' (wtrE g v' xs' ++ R) ∧ byV v' xs' := by
  have hv' : byV v' xs' := own_rowV t.wt.own
  refine ⟨H.step (H.bl.trans t.bl) t.bl.size (fun k hk hne => t.kb.2 k hk (fun e => hne (B g _ _) (List.mem_cons_self ..) e.symm) (fun e => ?_)) ?_ (fun p hp => ?_) (fun p hp => ?_), hv'⟩
  · obtain ⟨p, hp, h1⟩ := row_in (e := 5) hv e.symm
    exact hne p (List.mem_cons_of_mem _ hp) h1
  · show (g :: (byR v' xs').map (·.1)).Nodup
    refine List.nodup_cons.2 ⟨fun hm => ?_, rowE_nd ..⟩
    obtain ⟨p, hp, e⟩ := List.mem_map.1 hm
    exact t.wt.ne (by rw [rowE_blk hp hv', e])
  · rcases List.mem_cons.1 hp with rfl | hp
    · exact ⟨_, t.wt.blk, rfl⟩
    · exact own_has t.wt.own p hp
  · rcases List.mem_cons.1 hp with rfl | hp
    · exact .inl ⟨_, List.mem_cons_self .., rfl⟩
    · have e1 := rowE_blk hp hv'
      rcases t.hat with e | ⟨b, e, hb⟩
      · obtain ⟨q, hq, e2⟩ := row_in (e := 5) hv (e ▸ e1)
        exact .inl ⟨q, List.mem_cons_of_mem _ hq, e2⟩
      · rw [e1] at e; injection e with e; exact .inr (by rw [e]; exact hb)
/-- Behind a call of a Reader. -/
theorem St.rd {w0 W W' : World} {R : List Ent} {g : Nat} {v : Value} {xs : List Int} {s s1 : RS} (H : St w0 W (rdrE g v xs s ++ R)) (hv : byV v xs) (t : RdTo W W' w0.heap.size g v xs s1) : St w0 W' (rdrE g v xs s1 ++ R) := by
  refine H.step (H.bl.trans t.bl) t.bl.size (fun k hk hne => t.kb.2 k hk (fun e => hne (B g _ _) (List.mem_cons_self ..) e.symm) (by simp)) ?_ (fun p hp => ?_) (fun p hp => ?_)
  · show (g :: (byR v xs).map (·.1)).Nodup
    refine List.nodup_cons.2 ⟨fun hm => ?_, rowE_nd ..⟩
    obtain ⟨p, hp, e⟩ := List.mem_map.1 hm
    exact rdr_ne t.rd (by rw [rowE_blk hp hv, e])
  · rcases List.mem_cons.1 hp with rfl | hp
    · exact ⟨_, t.rd.blk, rfl⟩
    · exact own_has t.rd.own p hp
  · rcases List.mem_cons.1 hp with rfl | hp
    · exact .inl ⟨_, List.mem_cons_self .., rfl⟩
    · exact .inl ⟨p, List.mem_cons_of_mem _ hp, rfl⟩
/-- Behind a call of a Reader that makes a list. -/
theorem St.taken {w0 W W' : World} {R : List Ent} {g : Nat} {v u : Value} {xs l : List Int} {s s1 : RS} (H : St w0 W (rdrE g v xs s ++ R)) (hv : byV v xs) (t : RdTo W W' w0.heap.size g v xs s1) (ho : W'.ownsRow W.heap.size 5 1 u l.length (encs I l)) :
    St w0 W' (byR u l ++ (rdrE g v xs s1 ++ R)) ∧ byV u l := by
  have hu : byV u l := own_rowV ho
  have hst := H.step (G := byR u l ++ rdrE g v xs s1) (H.bl.trans t.bl) t.bl.size (fun k hk hne => t.kb.2 k hk (fun e => hne (B g _ _) (List.mem_cons_self ..) e.symm) (by simp)) ?_ ?_ ?_
  · exact ⟨hst.re (fun a => by simp only [cnt_append]; omega), hu⟩
  · rw [List.map_append]
    have hrv : ((rdrE g v xs s1).map (·.1)).Nodup := by
      show (g :: (byR v xs).map (·.1)).Nodup
      refine List.nodup_cons.2 ⟨fun hm => ?_, rowE_nd ..⟩
      obtain ⟨p, hp, e⟩ := List.mem_map.1 hm
      exact rdr_ne t.rd (by rw [rowE_blk hp hv, e])
    refine List.nodup_append.2 ⟨rowE_nd .., hrv, fun a ha b hb e => ?_⟩
    obtain ⟨p, hp, rfl⟩ := List.mem_map.1 ha
    have h1 := (ho.lt _ (rowE_blk hp hu)).1
    obtain ⟨q, hq, rfl⟩ := List.mem_map.1 hb
    have h2 : q.1 < W.heap.size := by
      rcases List.mem_cons.1 hq with rfl | hq
      · exact H.lt (p := B g #[v, .int .i64 (s.at_ : Int), .int .i64 (s.met : Int)] 105) (List.mem_append_left _ (List.mem_cons_self ..))
      · exact H.lt (List.mem_append_left _ (List.mem_cons_of_mem _ hq))
    omega
  · intro p hp
    rcases List.mem_append.1 hp with hp | hp
    · exact own_has ho p hp
    · rcases List.mem_cons.1 hp with rfl | hp
      · exact ⟨_, t.rd.blk, rfl⟩
      · exact own_has t.rd.own p hp
  · intro p hp
    rcases List.mem_append.1 hp with hp | hp
    · exact .inr (ho.lt _ (rowE_blk hp hu)).1
    · rcases List.mem_cons.1 hp with rfl | hp
      · exact .inl ⟨_, List.mem_cons_self .., rfl⟩
      · exact .inl ⟨p, List.mem_cons_of_mem _ hp, rfl⟩
end Go.Proofs.YtoeiaimoppmjdaaDoor.Lk
