/- Plain: the sum of a mixture of three texts by exclusive or is the sums' mixture. -/
import Derived.Test.YtedbpagjhnkdbaaInto
namespace Go.Proofs.Ytedbpagjhnkdbaa.Crc
open Go.RowKit Go.Proofs.Ytedbpagjhnkdbaa.Bytes
set_option linter.unusedVariables false
set_option linter.unusedSimpArgs false
def x3 (a b c : Int) : Int := Go.bits .xor .u8 (Go.bits .xor .u8 a b) c
theorem ofInt_nat (n : Nat) : BitVec.ofInt 32 (n : Int) = BitVec.ofNat 32 n := BitVec.ofInt_natCast 32 n
theorem xor8 (a b : Int) (ha : 0 ≤ a ∧ a ≤ 255) (hb : 0 ≤ b ∧ b ≤ 255) : BitVec.ofInt 32 (Go.bits .xor .u8 a b) = BitVec.ofInt 32 a ^^^ BitVec.ofInt 32 b := by
  obtain ⟨m, rfl⟩ := Int.eq_ofNat_of_zero_le ha.1
  obtain ⟨n, rfl⟩ := Int.eq_ofNat_of_zero_le hb.1
  have hx : m ^^^ n < 2 ^ 8 := Nat.xor_lt_two_pow (by omega) (by omega)
  rw [u8_xor_nat m n (by omega) (by omega), ofInt_nat, ofInt_nat, ofInt_nat]
  apply BitVec.eq_of_toNat_eq
  rw [BitVec.toNat_xor, BitVec.toNat_ofNat, BitVec.toNat_ofNat, BitVec.toNat_ofNat, Nat.mod_eq_of_lt (by omega), Nat.mod_eq_of_lt (by omega), Nat.mod_eq_of_lt (by omega)]
theorem x3_byte (a b c : Int) : 0 ≤ x3 a b c ∧ x3 a b c ≤ 255 := ⟨bits_lo_u8 _ _ _, bits_hi_u8 _ _ _⟩
theorem x3_bv (a b c : Int) (ha : 0 ≤ a ∧ a ≤ 255) (hb : 0 ≤ b ∧ b ≤ 255) (hc : 0 ≤ c ∧ c ≤ 255) : BitVec.ofInt 32 (x3 a b c) = BitVec.ofInt 32 a ^^^ BitVec.ofInt 32 b ^^^ BitVec.ofInt 32 c := by
  unfold x3
  rw [xor8 _ _ ⟨bits_lo_u8 _ _ _, bits_hi_u8 _ _ _⟩ hc, xor8 a b ha hb]
theorem eat_mix (r s t : B) (a b c : Int) (ha : 0 ≤ a ∧ a ≤ 255) (hb : 0 ≤ b ∧ b ≤ 255) (hc : 0 ≤ c ∧ c ≤ 255) : eat (r ^^^ s ^^^ t) (x3 a b c) = eat r a ^^^ eat s b ^^^ eat t c := by
  unfold eat
  rw [x3_bv a b c ha hb hc]
  have e : (r ^^^ s ^^^ t) ^^^ (BitVec.ofInt 32 a ^^^ BitVec.ofInt 32 b ^^^ BitVec.ofInt 32 c) = (r ^^^ BitVec.ofInt 32 a) ^^^ (s ^^^ BitVec.ofInt 32 b) ^^^ (t ^^^ BitVec.ofInt 32 c) := by
    generalize BitVec.ofInt 32 a = p
    generalize BitVec.ofInt 32 b = q
    generalize BitVec.ofInt 32 c = u
    ac_rfl
  rw [e]
  simp only [it_xor]
def mix3 : List Int → List Int → List Int → List Int
  | a :: as', b :: bs, c :: cs => x3 a b c :: mix3 as' bs cs
  | _, _, _ => []
theorem fold_mix (xs ys zs : List Int) (h1 : ys.length = xs.length) (h2 : zs.length = xs.length) (hx : Byt xs) (hy : Byt ys) (hz : Byt zs) (r s t : B) :
    (mix3 xs ys zs).foldl eat (r ^^^ s ^^^ t) = xs.foldl eat r ^^^ ys.foldl eat s ^^^ zs.foldl eat t := by
  induction xs generalizing ys zs r s t with
  | nil =>
    obtain rfl : ys = [] := List.eq_nil_of_length_eq_zero h1
    obtain rfl : zs = [] := List.eq_nil_of_length_eq_zero h2
    rfl
  | cons a as' ih =>
    cases ys with
    | nil => simp at h1
    | cons b bs =>
      cases zs with
      | nil => simp at h2
      | cons c cs =>
        simp only [mix3, List.foldl_cons]
        rw [eat_mix r s t a b c (hx a (by simp)) (hy b (by simp)) (hz c (by simp))]
        exact ih bs cs (by simpa using h1) (by simpa using h2) (fun q hq => hx q (by simp [hq])) (fun q hq => hy q (by simp [hq])) (fun q hq => hz q (by simp [hq])) _ _ _
theorem not_xor3 (a b c : B) : ~~~ (a ^^^ b ^^^ c) = ~~~ a ^^^ ~~~ b ^^^ ~~~ c := by
  apply BitVec.eq_of_getLsbD_eq
  intro i hi
  simp only [BitVec.getLsbD_not, BitVec.getLsbD_xor, hi, decide_true, Bool.true_and]
  cases a.getLsbD i <;> cases b.getLsbD i <;> cases c.getLsbD i <;> rfl
theorem crc_mix (xs ys zs : List Int) (h1 : ys.length = xs.length) (h2 : zs.length = xs.length) (hx : Byt xs) (hy : Byt ys) (hz : Byt zs) : crc (mix3 xs ys zs) = crc xs ^^^ crc ys ^^^ crc zs := by
  unfold crc reg
  have h := fold_mix xs ys zs h1 h2 hx hy hz (BitVec.allOnes 32) (BitVec.allOnes 32) (BitVec.allOnes 32)
  have e : (BitVec.allOnes 32 ^^^ BitVec.allOnes 32 ^^^ BitVec.allOnes 32 : B) = BitVec.allOnes 32 := by decide
  rw [e] at h
  rw [h, not_xor3]
theorem crc_mix_val (xs ys zs : List Int) (h1 : ys.length = xs.length) (h2 : zs.length = xs.length) (hx : Byt xs) (hy : Byt ys) (hz : Byt zs) :
    Go.bits .xor .u32 (Go.bits .xor .u32 ((crc xs).toNat : Int) ((crc ys).toNat : Int)) ((crc zs).toNat : Int) = ((crc (mix3 xs ys zs)).toNat : Int) := by
  rw [xor_bv, xor_bv, crc_mix xs ys zs h1 h2 hx hy hz]
theorem mix3_length (xs ys zs : List Int) (h1 : ys.length = xs.length) (h2 : zs.length = xs.length) : (mix3 xs ys zs).length = xs.length := by
  induction xs generalizing ys zs with
  | nil => simp [mix3]
  | cons a as' ih =>
    cases ys with
    | nil => simp at h1
    | cons b bs =>
      cases zs with
      | nil => simp at h2
      | cons c cs => simp only [mix3, List.length_cons]; rw [ih bs cs (by simpa using h1) (by simpa using h2)]
theorem mix3_get (xs ys zs : List Int) (h1 : ys.length = xs.length) (h2 : zs.length = xs.length) (k : Nat) (hk : k < xs.length) : (mix3 xs ys zs).getD k 0 = x3 (xs.getD k 0) (ys.getD k 0) (zs.getD k 0) := by
  induction xs generalizing ys zs k with
  | nil => simp at hk
  | cons a as' ih =>
    cases ys with
    | nil => simp at h1
    | cons b bs =>
      cases zs with
      | nil => simp at h2
      | cons c cs =>
        cases k with
        | zero => rfl
        | succ k =>
          have := ih bs cs (by simpa using h1) (by simpa using h2) k (by simpa using hk)
          simpa [mix3] using this
theorem crc_k7 : ((crc [107, 55]).toNat : Int) = 2137851292 := by decide +kernel
end Go.Proofs.Ytedbpagjhnkdbaa.Crc
