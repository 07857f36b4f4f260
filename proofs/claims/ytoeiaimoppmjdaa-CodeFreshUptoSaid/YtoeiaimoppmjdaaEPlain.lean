/- Plain: the document's Reader answers as the program's: a number in its shortest form is taken from its last byte, written anew and compared. -/
import Derived.Test.YtoeiaimoppmjdaaRWPlain
namespace Go.Proofs.Ytoeiaimoppmjdaa.Wr
open Go.RowKit Go.Proofs.Ytoeiaimoppmjdaa.Bytes
set_option linter.unusedVariables false
set_option linter.unusedSimpArgs false
/-- The number that bytes of seven bits each spell, the lowest first. -/
def val : List Int → Nat
  | [] => 0
  | c :: t => val t * 128 + c.toNat % 128
/-- The place of the first byte below 128, of ten. -/
def lastJ : List Int → Nat → Option Nat
  | [], _ => none
  | c :: t, i => if 10 ≤ i then none else if c < 128 then some i else lastJ t (i + 1)
/-- Bytes of which all but the last go on, and the last ends. -/
def Ends : List Int → Prop
  | [] => False
  | [c] => 0 ≤ c ∧ c < 128
  | c :: t => 128 ≤ c ∧ c ≤ 255 ∧ Ends t
theorem ends_cons {c : Int} {t : List Int} (h1 : 128 ≤ c) (h2 : c ≤ 255) (h : Ends t) : Ends (c :: t) := by
  cases t with
  | nil => exact absurd h id
  | cons a r => exact ⟨h1, h2, h⟩
/-- The last of them. -/
def lastB : List Int → Int
  | [] => 0
  | [c] => c
  | _ :: t => lastB t
theorem lastB_cons (c : Int) {t : List Int} (h : t ≠ []) : lastB (c :: t) = lastB t := by
  cases t with
  | nil => exact absurd rfl h
  | cons a r => rfl
theorem ends_ne {w : List Int} (h : Ends w) : w ≠ [] := fun e => by subst e; exact h
theorem val_pos {w : List Int} (h : Ends w) (hl : lastB w ≠ 0) : 0 < val w := by
  induction w with
  | nil => exact absurd h id
  | cons c t ih =>
    cases t with
    | nil => have h : 0 ≤ c ∧ c < 128 := h; have hl : c ≠ 0 := hl; simp [val]; omega
    | cons a r =>
      have h3 : Ends (a :: r) := h.2.2
      have := ih h3 hl
      rw [val]; omega
theorem vr_val {w : List Int} (h : Ends w) (hl : lastB w ≠ 0 ∨ w.length = 1) : vr (val w) = w := by
  induction w with
  | nil => exact absurd h id
  | cons c t ih =>
    cases t with
    | nil =>
      have h : 0 ≤ c ∧ c < 128 := h
      have e : val [c] = c.toNat := by simp [val]; omega
      rw [e, vr_small (by omega)]
      congr 1; omega
    | cons a r =>
      obtain ⟨h1, h2, h3⟩ : 128 ≤ c ∧ c ≤ 255 ∧ Ends (a :: r) := h
      have hl' : lastB (a :: r) ≠ 0 := by
        rcases hl with hl | hl
        · exact hl
        · simp at hl
      have hp := val_pos h3 hl'
      rw [val, vr_great (by omega)]
      congr 1
      · omega
      · rw [show (val (a :: r) * 128 + c.toNat % 128) / 128 = val (a :: r) by omega]
        exact ih h3 (.inl hl')
theorem val_vr (n : Nat) : val (vr n) = n := by
  induction n using Nat.strongRecOn with
  | _ n ih =>
    by_cases h : n < 128
    · rw [vr_small h]; simp [val]; omega
    · rw [vr_great h, val, ih (n / 128) (by omega)]
      simp; omega
theorem vr_lastB (n : Nat) (h : 0 < n) : lastB (vr n) ≠ 0 := by
  induction n using Nat.strongRecOn with
  | _ n ih =>
    by_cases h1 : n < 128
    · rw [vr_small h1]; simp [lastB]; omega
    · rw [vr_great h1, lastB_cons _ (fun e => by have := vr_pos (n / 128); rw [e] at this; simp at this)]
      exact ih (n / 128) (by omega) (by omega)
theorem val_lt {w : List Int} (h : Ends w) : val w < ((lastB w).toNat + 1) * 128 ^ (w.length - 1) := by
  induction w with
  | nil => exact absurd h id
  | cons c t ih =>
    cases t with
    | nil => have h : 0 ≤ c ∧ c < 128 := h; simp [val, lastB]; omega
    | cons a r =>
      have h3 : Ends (a :: r) := h.2.2
      have h4 := ih h3
      rw [val, lastB_cons _ (by simp)]
      have e : (c :: a :: r).length - 1 = ((a :: r).length - 1) + 1 := by simp
      rw [e, Nat.pow_succ, ← Nat.mul_assoc]
      omega
theorem val_ge {w : List Int} (h : Ends w) : (lastB w).toNat * 128 ^ (w.length - 1) ≤ val w := by
  induction w with
  | nil => exact absurd h id
  | cons c t ih =>
    cases t with
    | nil => have h : 0 ≤ c ∧ c < 128 := h; simp [val, lastB]; omega
    | cons a r =>
      have h3 : Ends (a :: r) := h.2.2
      have h4 := ih h3
      rw [val, lastB_cons _ (by simp)]
      have e : (c :: a :: r).length - 1 = ((a :: r).length - 1) + 1 := by simp
      rw [e, Nat.pow_succ, ← Nat.mul_assoc]
      omega
/-- Written anew it is the same just where it was written shortest, and is a number of 64 bits. -/
theorem vr_iff {w : List Int} (h : Ends w) (hw : w.length ≤ 10) : vr (val w % 18446744073709551616) = w ↔ ¬ (w.length = 10 ∧ 1 < lastB w) ∧ ¬ (lastB w = 0 ∧ 1 < w.length) := by
  have hlt := val_lt h
  have hge := val_ge h
  have hlen : 1 ≤ w.length := by cases w with | nil => exact absurd h id | cons _ _ => simp
  have p9 : (128 : Nat) ^ 9 = 9223372036854775808 := by decide
  have hlast : 0 ≤ lastB w ∧ lastB w < 128 := by
    clear hlt hge hlen hw
    induction w with
    | nil => exact absurd h id
    | cons c t ih =>
      cases t with
      | nil => exact h
      | cons a r => rw [lastB_cons _ (by simp)]; exact ih h.2.2
  constructor
  · intro e
    have h2 := val_vr (val w % 18446744073709551616)
    rw [e] at h2
    have h64 : val w < 18446744073709551616 := by omega
    refine ⟨fun ⟨a, b⟩ => ?_, fun ⟨a, b⟩ => ?_⟩
    · rw [a] at hge
      have h3 := Nat.mul_le_mul_right (128 ^ (10 - 1)) (show 2 ≤ (lastB w).toNat by omega)
      rw [show 10 - 1 = 9 from rfl, p9] at hge h3
      omega
    · have hz : val w % 18446744073709551616 ≠ 0 := fun e0 => by
        rw [e0, vr_small (by omega)] at e
        rw [← e] at b; simp at b
      have := vr_lastB _ (Nat.pos_of_ne_zero hz)
      rw [e] at this
      exact this a
  · intro ⟨a, b⟩
    have h64 : val w < 18446744073709551616 := by
      by_cases h10 : w.length = 10
      · rw [h10] at hlt
        have h3 := Nat.mul_le_mul_right (128 ^ (10 - 1)) (show (lastB w).toNat + 1 ≤ 2 by omega)
        rw [show 10 - 1 = 9 from rfl, p9] at hlt h3
        omega
      · have h3 := Nat.mul_le_mul_right (128 ^ (w.length - 1)) (show (lastB w).toNat + 1 ≤ 128 by omega)
        have h4 : 128 * 128 ^ (w.length - 1) ≤ 128 ^ 9 := by rw [Nat.mul_comm, ← Nat.pow_succ]; exact Nat.pow_le_pow_right (by omega) (by omega)
        rw [p9] at h4
        omega
    rw [Nat.mod_eq_of_lt h64]
    refine vr_val h ?_
    by_cases h0 : lastB w = 0
    · exact .inr (by omega)
    · exact .inl h0
theorem lastJ_none (most : Nat) (l : List Int) (hb : Byt l) : ∀ (i n : Nat), lastJ l i = none → i ≤ 10 → varR most l i n = .bad (if i + l.length < 10 then 1 else 2) := by
  induction l with
  | nil => intro i n _ hi; simp only [varR]; simp
  | cons c t ih =>
    intro i n h hi
    have hc := hb c (List.mem_cons_self)
    rw [lastJ] at h
    rw [varR]
    by_cases h10 : 10 ≤ i
    · rw [if_pos h10, if_neg (by omega)]
    · rw [if_neg h10] at h ⊢
      split at h
      · cases h
      · rename_i h128
        by_cases h9 : i = 9 ∧ 1 < c
        · rw [if_pos h9, if_neg (by simp only [List.length_cons]; omega)]
        · have hi9 : i ≠ 9 := fun e => h9 ⟨e, by omega⟩
          rw [if_neg h9, if_pos (by omega), ih (fun a ha => hb a (List.mem_cons_of_mem _ ha)) (i + 1) _ h (by omega)]
          congr 1
          simp only [List.length_cons]
          by_cases hh : i + 1 + t.length < 10
          · rw [if_pos hh, if_pos (by omega)]
          · rw [if_neg hh, if_neg (by omega)]
theorem lastJ_some (most : Nat) (l : List Int) (hb : Byt l) : ∀ (i n j : Nat), lastJ l i = some j → i ≤ j ∧ j < 10 ∧ j - i < l.length ∧ Ends (l.take (j - i + 1)) ∧
    varR most l i n = (if j = 9 ∧ 1 < lastB (l.take (j - i + 1)) then .bad 2 else if lastB (l.take (j - i + 1)) = 0 ∧ 0 < j then .bad 2 else if most < n + val (l.take (j - i + 1)) * 128 ^ i then .bad 3 else .ok (n + val (l.take (j - i + 1)) * 128 ^ i) (j + 1)) := by
  induction l with
  | nil => intro i n j h; simp [lastJ] at h
  | cons c t ih =>
    intro i n j h
    have hc := hb c (List.mem_cons_self)
    rw [lastJ] at h
    split at h
    · cases h
    · rename_i h10
      split at h
      · rename_i h128
        injection h with h
        subst h
        have e : (c :: t).take (i - i + 1) = [c] := by simp
        refine ⟨Nat.le_refl _, by omega, by simp, by rw [e]; exact ⟨hc.1, h128⟩, ?_⟩
        rw [e, varR, if_neg h10]
        have el : lastB [c] = c := rfl
        have ev : val [c] = c.toNat % 128 := by simp [val]
        rw [el, ev]
        by_cases h9 : i = 9 ∧ 1 < c
        · rw [if_pos h9, if_pos h9]
        · rw [if_neg h9, if_neg h9, if_neg (by omega)]
      · rename_i h128
        obtain ⟨g1, g2, g3, g4, g5⟩ := ih (fun a ha => hb a (List.mem_cons_of_mem _ ha)) (i + 1) (n + (c.toNat % 128) * 128 ^ i) j h
        have e : (c :: t).take (j - i + 1) = c :: t.take (j - (i + 1) + 1) := by
          rw [show j - i + 1 = (j - (i + 1) + 1) + 1 by omega, List.take_succ_cons]
        refine ⟨by omega, g2, by simp; omega, by rw [e]; exact ends_cons (by omega) hc.2 g4, ?_⟩
        have h9 : ¬ (i = 9 ∧ 1 < c) := fun ⟨a, b⟩ => by omega
        rw [varR, if_neg h10, if_neg h9, if_pos (by omega), g5, e, lastB_cons _ (ends_ne g4)]
        have ev : n + c.toNat % 128 * 128 ^ i + val (t.take (j - (i + 1) + 1)) * 128 ^ (i + 1) = n + val (c :: t.take (j - (i + 1) + 1)) * 128 ^ i := by
          rw [val, Nat.pow_succ, Nat.add_mul, Nat.mul_assoc, Nat.mul_comm 128 (128 ^ i)]
          omega
        rw [ev]
/-- What the document's Reader makes of a number in its shortest form. -/
def eVar (xs : List Int) (s : RS) (most : Nat) : Nat × RS :=
  if s.met = 0 then match lastJ (xs.drop s.at_) 0 with
    | none => (0, ⟨s.at_, if (xs.drop s.at_).length < 10 then 1 else 2⟩)
    | some j =>
      if vr (val ((xs.drop s.at_).take (j + 1)) % 18446744073709551616) = (xs.drop s.at_).take (j + 1) then
        if most < val ((xs.drop s.at_).take (j + 1)) % 18446744073709551616 then (0, ⟨s.at_, 3⟩) else (val ((xs.drop s.at_).take (j + 1)) % 18446744073709551616, ⟨s.at_ + (j + 1), 0⟩)
      else (0, ⟨s.at_, 2⟩)
  else (0, s)
theorem eVar_eq {xs : List Int} (hb : Byt xs) (s : RS) (most : Nat) : eVar xs s most = rVar xs s most := by
  unfold eVar rVar
  have hbl : Byt (xs.drop s.at_) := fun a ha => hb a (List.mem_of_mem_drop ha)
  split
  · cases hj : lastJ (xs.drop s.at_) 0 with
    | none =>
      have h := lastJ_none most _ hbl 0 0 hj (by omega)
      rw [Nat.zero_add] at h
      rw [h]
    | some j =>
      obtain ⟨_, g2, g3, g4, g5⟩ := lastJ_some most _ hbl 0 0 j hj
      simp only [Nat.sub_zero, Nat.pow_zero, Nat.mul_one, Nat.zero_add] at g3 g4 g5
      obtain ⟨w, hw⟩ : ∃ w, w = (xs.drop s.at_).take (j + 1) := ⟨_, rfl⟩
      have hwl : w.length = j + 1 := by rw [hw, List.length_take]; omega
      dsimp only
      rw [← hw] at g4 g5 ⊢
      have hiff := vr_iff g4 (by omega)
      rw [hwl] at hiff
      rw [g5]
      by_cases hc : vr (val w % 18446744073709551616) = w
      · obtain ⟨a, b⟩ := hiff.1 hc
        have h64 : val w % 18446744073709551616 = val w := by
          have := val_vr (val w % 18446744073709551616)
          rw [hc] at this
          exact this.symm
        have n1 : ¬ (j = 9 ∧ 1 < lastB w) := fun ⟨p, q⟩ => a ⟨by omega, q⟩
        have n2 : ¬ (lastB w = 0 ∧ 0 < j) := fun ⟨p, q⟩ => b ⟨p, by omega⟩
        rw [if_pos hc, if_neg n1, if_neg n2, h64]
        by_cases hm : most < val w
        · rw [if_pos hm, if_pos hm]
        · rw [if_neg hm, if_neg hm]
      · rw [if_neg hc]
        have hn : ¬ (¬ (j + 1 = 10 ∧ 1 < lastB w) ∧ ¬ (lastB w = 0 ∧ 1 < j + 1)) := fun h => hc (hiff.2 h)
        by_cases h1 : j = 9 ∧ 1 < lastB w
        · rw [if_pos h1]
        · rw [if_neg h1]
          have h2 : lastB w = 0 ∧ 0 < j := by
            by_cases h2 : lastB w = 0 ∧ 0 < j
            · exact h2
            · exact absurd ⟨fun ⟨p, q⟩ => h1 ⟨by omega, q⟩, fun ⟨p, q⟩ => h2 ⟨p, by omega⟩⟩ hn
          rw [if_pos h2]
  · rfl
theorem rFix_raw (xs : List Int) (s : RS) (size : Nat) : rFix xs s size = (numBE (rRaw xs s size).1, (rRaw xs s size).2) := by
  have e : rRaw xs s size = rNext xs s size := by unfold rRaw; rw [if_neg (by omega)]
  rw [e]
  unfold rFix rNext
  split
  · by_cases hle : s.at_ + size ≤ xs.length
    · rw [if_pos hle, if_pos (by omega)]; simp
    · rw [if_neg hle, if_neg (by omega)]; simp [numBE]
  · simp [numBE]
end Go.Proofs.Ytoeiaimoppmjdaa.Wr
