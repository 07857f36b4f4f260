/- Plain: what a Reader answers, as a function of its bytes, its place and what it has met. -/
import Derived.Test.YtoeiaimoppmjdaaDoorVarPlain
import Derived.Laws.BitsAllLaws
namespace Go.Proofs.YtoeiaimoppmjdaaDoor.Wr
open Go.RowKit Go.Proofs.YtoeiaimoppmjdaaDoor.Bytes
set_option linter.unusedVariables false
set_option linter.unusedSimpArgs false
/-- A Reader's place, and what it has met. -/
structure RS where
  at_ : Nat
  met : Nat
  deriving DecidableEq
def numBE (l : List Int) : Nat := l.foldl (fun m c => m * 256 + c.toNat) 0
theorem numBE_snoc (l : List Int) (c : Int) : numBE (l ++ [c]) = numBE l * 256 + c.toNat := by simp [numBE]
theorem numBE_lt {l : List Int} (h : Byt l) : numBE l < 256 ^ l.length := by
  induction hl : l.length generalizing l with
  | zero => obtain rfl := List.eq_nil_of_length_eq_zero hl; simp [numBE]
  | succ n ih =>
    have hne : l ≠ [] := fun e => by rw [e] at hl; cases hl
    have e := (List.dropLast_concat_getLast hne).symm
    have h1 := ih (l := l.dropLast) (fun a ha => h a ((List.dropLast_sublist l).subset ha)) (by simp [hl])
    have h2 := h (l.getLast hne) (List.getLast_mem hne)
    rw [e, numBE_snoc, Nat.pow_succ]
    omega
/-- A number of so many bytes. -/
def rFix (xs : List Int) (s : RS) (size : Nat) : Nat × RS :=
  if s.met = 0 then if s.at_ + size ≤ xs.length then (numBE ((xs.drop s.at_).take size), ⟨s.at_ + size, 0⟩) else (0, ⟨s.at_, 1⟩) else (0, s)
/-- What a number in its shortest form comes to: it, and how many bytes it takes; or what is met. -/
inductive VR where
  | ok (n k : Nat)
  | bad (m : Nat)
def varR (most : Nat) : List Int → Nat → Nat → VR
  | [], i, _ => .bad (if i < 10 then 1 else 2)
  | c :: t, i, n =>
    if 10 ≤ i then .bad 2
    else if i = 9 ∧ 1 < c then .bad 2
    else if 128 ≤ c then varR most t (i + 1) (n + (c.toNat % 128) * 128 ^ i)
    else if c = 0 ∧ 0 < i then .bad 2
    else if most < n + (c.toNat % 128) * 128 ^ i then .bad 3
    else .ok (n + (c.toNat % 128) * 128 ^ i) (i + 1)
def rVar (xs : List Int) (s : RS) (most : Nat) : Nat × RS :=
  if s.met = 0 then match varR most (xs.drop s.at_) 0 0 with
    | .ok n k => (n, ⟨s.at_ + k, 0⟩)
    | .bad m => (0, ⟨s.at_, m⟩)
  else (0, s)
/-- So many bytes (0 or more, where nothing has been met). -/
def rNext (xs : List Int) (s : RS) (n : Int) : List Int × RS :=
  if s.met = 0 then if n ≤ (xs.length : Int) - s.at_ then ((xs.drop s.at_).take n.toNat, ⟨s.at_ + n.toNat, 0⟩) else ([], ⟨s.at_, 1⟩) else ([], s)
def rRaw (xs : List Int) (s : RS) (n : Int) : List Int × RS := if n < 0 ∧ s.met = 0 then ([], ⟨s.at_, 4⟩) else rNext xs s n
def rBytes (xs : List Int) (s : RS) (most : Int) : List Int × RS :=
  if (rVar xs s most.toNat).2.met = 0 ∧ xs.length < (rVar xs s most.toNat).2.at_ + (rVar xs s most.toNat).1 then ([], ⟨s.at_, 1⟩) else rNext xs (rVar xs s most.toNat).2 ((rVar xs s most.toNat).1 : Int)
/-- The errors' numbers. -/
def errN : Nat → Int
  | 0 => 0
  | 1 => 10
  | 2 => 11
  | 3 => 12
  | _ => 14
def rEnd (xs : List Int) (s : RS) : Int := if s.met = 0 ∧ s.at_ < xs.length then 13 else errN s.met
/-- Where a Reader may stand. -/
structure RS.Ok (s : RS) (xs : List Int) : Prop where
  at_ : s.at_ ≤ xs.length
  met : s.met ≤ 4
theorem varR_ok (most : Nat) (l : List Int) : ∀ (i n r k : Nat), varR most l i n = .ok r k → i < k ∧ k ≤ i + l.length ∧ k ≤ 10 ∧ r ≤ most := by
  induction l with
  | nil => intro i n r k h; simp [varR] at h
  | cons c t ih =>
    intro i n r k h
    rw [varR] at h
    split at h
    · cases h
    split at h
    · cases h
    split at h
    · have := ih _ _ _ _ h; simp; omega
    split at h
    · cases h
    split at h
    · cases h
    · injection h with h1 h2; subst h2; simp; omega
theorem varR_bad (most : Nat) (l : List Int) : ∀ (i n m : Nat), varR most l i n = .bad m → 1 ≤ m ∧ m ≤ 3 := by
  induction l with
  | nil =>
    intro i n m h
    simp only [varR] at h
    injection h with h
    split at h <;> omega
  | cons c t ih =>
    intro i n m h
    rw [varR] at h
    split at h
    · injection h with h; omega
    split at h
    · injection h with h; omega
    split at h
    · exact ih _ _ _ h
    split at h
    · injection h with h; omega
    split at h
    · injection h with h; omega
    · cases h
theorem rFix_ok {xs : List Int} {s : RS} (h : s.Ok xs) (size : Nat) : (rFix xs s size).2.Ok xs := by
  unfold rFix
  split
  · split
    · exact ⟨by assumption, by simp⟩
    · exact ⟨h.at_, by simp⟩
  · exact h
theorem rVar_ok {xs : List Int} {s : RS} (h : s.Ok xs) (most : Nat) : (rVar xs s most).2.Ok xs ∧ (rVar xs s most).1 ≤ most := by
  unfold rVar
  split
  · split
    · rename_i n k hv
      have hk := varR_ok _ _ _ _ _ _ hv
      have := h.at_
      exact ⟨⟨by simp at hk ⊢; omega, by simp⟩, hk.2.2.2⟩
    · rename_i m hv
      have hm := varR_bad _ _ _ _ _ hv
      exact ⟨⟨h.at_, by simp; omega⟩, by simp⟩
  · exact ⟨h, by simp⟩
theorem rNext_ok {xs : List Int} {s : RS} (h : s.Ok xs) (n : Int) : (rNext xs s n).2.Ok xs := by
  unfold rNext
  split
  · split
    · exact ⟨by have := h.at_; simp; omega, by simp⟩
    · exact ⟨h.at_, by simp⟩
  · exact h
theorem rRaw_ok {xs : List Int} {s : RS} (h : s.Ok xs) (n : Int) : (rRaw xs s n).2.Ok xs := by
  unfold rRaw
  split
  · exact ⟨h.at_, by simp⟩
  · exact rNext_ok h n
theorem rBytes_ok {xs : List Int} {s : RS} (h : s.Ok xs) (most : Int) : (rBytes xs s most).2.Ok xs := by
  unfold rBytes
  split
  · exact ⟨h.at_, by simp⟩
  · exact rNext_ok (rVar_ok h _).1 _
theorem rFix_stopped {xs : List Int} {s : RS} (h : s.met ≠ 0) (size : Nat) : rFix xs s size = (0, s) := by simp [rFix, h]
theorem rVar_stopped {xs : List Int} {s : RS} (h : s.met ≠ 0) (most : Nat) : rVar xs s most = (0, s) := by simp [rVar, h]
theorem rNext_stopped {xs : List Int} {s : RS} (h : s.met ≠ 0) (n : Int) : rNext xs s n = ([], s) := by simp [rNext, h]
theorem rRaw_stopped {xs : List Int} {s : RS} (h : s.met ≠ 0) (n : Int) : rRaw xs s n = ([], s) := by simp [rRaw, h, rNext]
theorem rBytes_stopped {xs : List Int} {s : RS} (h : s.met ≠ 0) (most : Int) : rBytes xs s most = ([], s) := by simp [rBytes, rVar_stopped h, h, rNext]
theorem rFix_lt {xs : List Int} (hb : Byt xs) (s : RS) (size : Nat) : (rFix xs s size).1 < 256 ^ size := by
  unfold rFix
  have hp : 0 < 256 ^ size := Nat.pow_pos (by omega)
  split
  · split
    · have h := numBE_lt (l := (xs.drop s.at_).take size) (fun a ha => hb a (List.mem_of_mem_drop (List.mem_of_mem_take ha)))
      have hl : ((xs.drop s.at_).take size).length = size := by simp; omega
      rw [hl] at h; exact h
    · exact hp
  · exact hp
theorem u8_and127 (c : Nat) (h : c < 256) : Go.bits .and .u8 (c : Int) 127 = ((c % 128 : Nat) : Int) := by
  have := u8_and_nat c 127 h (by omega)
  rw [nat_mask7] at this; exact this
theorem nat_and128 (c : Nat) (h : c < 256) : c &&& 128 = if 128 ≤ c then 128 else 0 := by
  have : ∀ c : Fin 256, c.1 &&& 128 = if 128 ≤ c.1 then 128 else 0 := by decide +kernel
  exact this ⟨c, h⟩
theorem u8_and128 (c : Nat) (h : c < 256) : Go.bits .and .u8 (c : Int) 128 = if 128 ≤ c then 128 else 0 := by
  have := u8_and_nat c 128 h (by omega)
  rw [nat_and128 c h] at this
  rw [show ((128 : Nat) : Int) = 128 from rfl] at this
  rw [this]; split <;> rfl
theorem u64_shift_or (n d i : Nat) (hn : n < 128 ^ i) (hd : d < 128) (h : n + d * 128 ^ i < 18446744073709551616) : Go.bits .or .u64 (n : Int) ((d * 128 ^ i : Nat) : Int) = ((n + d * 128 ^ i : Nat) : Int) := by
  have h0 := u64_or_nat n (d * 128 ^ i) (by omega) (by omega)
  rw [h0]
  have e : (128 : Nat) ^ i = 2 ^ (7 * i) := by rw [show (128 : Nat) = 2 ^ 7 from rfl, ← Nat.pow_mul]
  rw [e] at hn h ⊢
  have h2 := Nat.two_pow_add_eq_or_of_lt (i := 7 * i) (b := n) hn d
  rw [Nat.or_comm, Nat.mul_comm d, ← h2, Nat.add_comm]
end Go.Proofs.YtoeiaimoppmjdaaDoor.Wr
