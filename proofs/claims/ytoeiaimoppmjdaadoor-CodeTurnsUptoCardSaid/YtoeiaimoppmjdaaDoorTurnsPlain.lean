/- Plain: what is written is read, item by item; without the last byte it is not. -/
import Derived.Test.YtoeiaimoppmjdaaDoorTurns
namespace Go.Proofs.YtoeiaimoppmjdaaDoor.Wr
open Go.RowKit Go.Proofs.YtoeiaimoppmjdaaDoor.Bytes
set_option linter.unusedVariables false
set_option linter.unusedSimpArgs false
theorem take_mid (p b t : List Int) : ((p ++ b ++ t).drop p.length).take b.length = b := by simp
theorem varR_of_vr (most : Nat) (h64 : most < 18446744073709551616) (m : Nat) : ∀ (t : List Int) (i n0 : Nat), n0 + m * 128 ^ i ≤ most → (0 < i → 0 < m) → varR most (vr m ++ t) i n0 = .ok (n0 + m * 128 ^ i) (i + (vr m).length) := by
  induction m using Nat.strongRecOn with
  | _ m ih =>
    intro t i n0 hle hpos
    have hi10 : ¬ 10 ≤ i := by
      intro h10
      have hm := hpos (by omega)
      have h1 : (128 : Nat) ^ 10 ≤ 128 ^ i := Nat.pow_le_pow_right (by omega) h10
      have h2 : 1 * 128 ^ i ≤ m * 128 ^ i := Nat.mul_le_mul_right _ hm
      have h3 : (128 : Nat) ^ 10 = 1180591620717411303424 := by decide
      omega
    have h9 : i = 9 → m ≤ 1 := by
      intro e
      subst e
      have h3 : (128 : Nat) ^ 9 = 9223372036854775808 := by decide
      rw [h3] at hle
      omega
    by_cases h : m < 128
    · rw [vr_small h]
      show varR most ((m : Int) :: t) i n0 = _
      rw [varR, if_neg hi10, if_neg (by intro ⟨a, b⟩; have := h9 a; omega), if_neg (by omega), if_neg (by intro ⟨a, b⟩; have := hpos b; omega)]
      simp only [Int.toNat_natCast, Nat.mod_eq_of_lt h]
      rw [if_neg (by omega)]
      simp
    · rw [vr_great h]
      show varR most (((128 + m % 128 : Nat) : Int) :: (vr (m / 128) ++ t)) i n0 = _
      have e : n0 + (m % 128) * 128 ^ i + m / 128 * 128 ^ (i + 1) = n0 + m * 128 ^ i := by
        rw [Nat.pow_succ, Nat.mul_comm (128 ^ i) 128, ← Nat.mul_assoc, Nat.add_assoc, ← Nat.add_mul]
        congr 2
        omega
      rw [varR, if_neg hi10, if_neg (by intro ⟨a, b⟩; have := h9 a; omega), if_pos (by omega)]
      simp only [Int.toNat_natCast]
      rw [show (128 + m % 128) % 128 = m % 128 by omega, ih (m / 128) (by omega) t (i + 1) _ (by rw [e]; exact hle) (fun _ => by omega), e]
      simp; omega
/-- Bytes that all go on: too few. -/
theorem varR_short (most : Nat) (l : List Int) (h : ∀ a, a ∈ l → 128 ≤ a) : ∀ (i n : Nat), i + l.length < 10 → varR most l i n = .bad 1 := by
  induction l with
  | nil => intro i n hi; simp [varR]; simp at hi; omega
  | cons c t ih =>
    intro i n hi
    simp at hi
    rw [varR, if_neg (by omega), if_neg (by omega), if_pos (h c (List.mem_cons_self))]
    exact ih (fun a ha => h a (List.mem_cons_of_mem _ ha)) _ _ (by omega)
theorem vr_init (n : Nat) : ∀ a, a ∈ (vr n).dropLast → 128 ≤ a := by
  induction n using Nat.strongRecOn with
  | _ n ih =>
    by_cases h : n < 128
    · rw [vr_small h]; simp
    · rw [vr_great h]
      have hne : vr (n / 128) ≠ [] := fun e => by have := vr_pos (n / 128); rw [e] at this; simp at this
      rw [List.dropLast_cons_of_ne_nil hne]
      intro a ha
      rcases List.mem_cons.1 ha with rfl | ha
      · omega
      · exact ih (n / 128) (by omega) a ha
theorem rVar_of (p t : List Int) (n most : Nat) (hn : n ≤ most) (h64 : most < 18446744073709551616) : rVar (p ++ vr n ++ t) ⟨p.length, 0⟩ most = (n, ⟨p.length + (vr n).length, 0⟩) := by
  unfold rVar
  simp only [if_true]
  have e : (p ++ vr n ++ t).drop p.length = vr n ++ t := by simp
  rw [e, varR_of_vr most h64 n t 0 0 (by simpa using hn) (fun h => by omega)]
  simp
theorem rNext_of (p b t : List Int) : rNext (p ++ b ++ t) ⟨p.length, 0⟩ (b.length : Int) = (b, ⟨p.length + b.length, 0⟩) := by
  unfold rNext
  simp only [if_true, Int.toNat_natCast]
  rw [if_pos (by simp; omega), take_mid]
theorem rFix_of (p t : List Int) (n size : Nat) (h : n < 256 ^ size) : rFix (p ++ fixL n size ++ t) ⟨p.length, 0⟩ size = (n, ⟨p.length + size, 0⟩) := by
  unfold rFix
  simp only [if_true]
  have h2 := take_mid p (fixL n size) t
  rw [fixL_length] at h2
  rw [if_pos (by simp [fixL_length]), h2, numBE_fixL n size h]
/-- An item is read back. -/
theorem back_good (p t : List Int) (kind : Int) (n : Nat) (b : List Int) (hn : n < 18446744073709551616) (hbl : b.length ≤ 1048576) : backP (p ++ opB kind n b ++ t) ⟨p.length, 0⟩ kind n b = (true, ⟨p.length + (opB kind n b).length, 0⟩) := by
  unfold backP opB
  by_cases k1 : kind = 1
  · simp only [if_pos k1]; rw [rFix_of p t (n % 256) 1 (by omega), fixL_length]; simp
  simp only [if_neg k1]
  by_cases k2 : kind = 2
  · simp only [if_pos k2]; rw [rFix_of p t (n % 4294967296) 4 (by omega), fixL_length]; simp
  simp only [if_neg k2]
  by_cases k3 : kind = 3
  · simp only [if_pos k3]; rw [rFix_of p t n 8 (by omega), fixL_length]; simp
  simp only [if_neg k3]
  by_cases k4 : kind = 4
  · simp only [if_pos k4]; rw [rVar_of p t n n (Nat.le_refl _) hn]; simp
  simp only [if_neg k4]
  by_cases k5 : kind = 5
  · simp only [if_pos k5]
    have e : p ++ (vr b.length ++ b) ++ t = p ++ vr b.length ++ (b ++ t) := by simp
    have hv := rVar_of p (b ++ t) b.length b.length (Nat.le_refl _) (by omega)
    have hr : rBytes (p ++ (vr b.length ++ b) ++ t) ⟨p.length, 0⟩ (b.length : Int) = (b, ⟨p.length + (vr b.length ++ b).length, 0⟩) := by
      unfold rBytes
      rw [Int.toNat_natCast, e, hv]
      simp only
      rw [if_neg (by simp; omega)]
      have h2 := rNext_of (p ++ vr b.length) b t
      rw [List.length_append] at h2
      have e3 : p ++ vr b.length ++ b ++ t = p ++ vr b.length ++ (b ++ t) := by simp
      rw [e3] at h2
      rw [h2, List.length_append]
      simp; omega
    rw [hr]; simp
  simp only [if_neg k5]
  by_cases k6 : kind = 6
  · simp only [if_pos k6]
    have hr : rRaw (p ++ b ++ t) ⟨p.length, 0⟩ (b.length : Int) = (b, ⟨p.length + b.length, 0⟩) := by
      unfold rRaw
      rw [if_neg (by omega), rNext_of]
    rw [hr]; simp
  · simp only [if_neg k6]; simp
/-- The last item, without its last byte: too few. -/
theorem back_short (p : List Int) (kind : Int) (n : Nat) (b : List Int) (hn : n < 18446744073709551616) (hbl : b.length ≤ 1048576) (hne : opB kind n b ≠ []) : (backP (p ++ (opB kind n b).dropLast) ⟨p.length, 0⟩ kind n b).2.met = 1 := by
  have hfix : ∀ (m size : Nat), 0 < size → (rFix (p ++ (fixL m size).dropLast) ⟨p.length, 0⟩ size).2.met = 1 := fun m size h0 => by
    unfold rFix
    simp only [if_true]
    rw [if_neg (by simp [fixL_length]; omega)]
  have hvar : ∀ (m most : Nat), m < 18446744073709551616 → (rVar (p ++ (vr m).dropLast) ⟨p.length, 0⟩ most).2 = ⟨p.length, 1⟩ := fun m most hm => by
    have hl := vr_length m 9 (by omega)
    have hp := vr_pos m
    unfold rVar
    simp only [if_true]
    have e : (p ++ (vr m).dropLast).drop p.length = (vr m).dropLast := by simp
    rw [e, varR_short most _ (vr_init m) 0 0 (by simp; omega)]
  unfold backP opB at *
  by_cases k1 : kind = 1
  · simp only [if_pos k1]; exact hfix _ 1 (by omega)
  simp only [if_neg k1] at hne ⊢
  by_cases k2 : kind = 2
  · simp only [if_pos k2]; exact hfix _ 4 (by omega)
  simp only [if_neg k2] at hne ⊢
  by_cases k3 : kind = 3
  · simp only [if_pos k3]; exact hfix _ 8 (by omega)
  simp only [if_neg k3] at hne ⊢
  by_cases k4 : kind = 4
  · simp only [if_pos k4]; rw [hvar n n hn]
  simp only [if_neg k4] at hne ⊢
  by_cases k5 : kind = 5
  · simp only [if_pos k5]
    by_cases hb0 : b = []
    · subst hb0
      unfold rBytes
      rw [List.append_nil, Int.toNat_natCast]
      have h2 := hvar 0 0 (by omega)
      rw [show (([] : List Int).length) = 0 from rfl] at *
      obtain ⟨q, hq⟩ : ∃ q, q = rVar (p ++ (vr 0).dropLast) ⟨p.length, 0⟩ 0 := ⟨_, rfl⟩
      rw [← hq] at h2 ⊢
      obtain ⟨r, s1⟩ := q
      simp only at h2
      subst h2
      rw [if_neg (by simp), rNext_stopped (by simp)]
    · have e : (vr b.length ++ b).dropLast = vr b.length ++ b.dropLast := List.dropLast_append_of_ne_nil hb0
      rw [e]
      unfold rBytes
      have hv := rVar_of p b.dropLast b.length b.length (Nat.le_refl _) (by omega)
      rw [Int.toNat_natCast, ← List.append_assoc, hv]
      simp only
      have : 0 < b.length := by cases b with | nil => exact absurd rfl hb0 | cons _ _ => simp
      rw [if_pos (by simp; omega)]
  simp only [if_neg k5] at hne ⊢
  by_cases k6 : kind = 6
  · simp only [if_pos k6] at hne ⊢
    have : 0 < b.length := by cases b with | nil => exact absurd rfl hne | cons _ _ => simp
    unfold rRaw
    rw [if_neg (by omega)]
    unfold rNext
    simp only [if_true]
    rw [if_neg (by simp; omega)]
  · simp only [if_neg k6] at hne; exact absurd rfl hne
theorem backP_stopped (xs : List Int) {s : RS} (h : s.met ≠ 0) (kind : Int) (n : Nat) (b : List Int) : (backP xs s kind n b).2 = s := by
  unfold backP
  rw [rFix_stopped h, rFix_stopped h, rFix_stopped h, rVar_stopped h, rBytes_stopped h, rRaw_stopped h]
  repeat (first | rfl | split)
theorem backP_ok {xs : List Int} {s : RS} (hok : s.Ok xs) (kind : Int) (n : Nat) (b : List Int) : (backP xs s kind n b).2.Ok xs := by
  unfold backP
  split
  · exact rFix_ok hok 1
  split
  · exact rFix_ok hok 4
  split
  · exact rFix_ok hok 8
  split
  · exact (rVar_ok hok _).1
  split
  · exact rBytes_ok hok _
  split
  · exact rRaw_ok hok _
  · exact hok
/-- Where a Reader over all but the last byte stands, at a place of the whole. -/
structure Cut (bs : List Int) (at_ : Nat) (s : RS) : Prop where
  ok : s.Ok bs.dropLast
  on : at_ < bs.length → s = ⟨at_, 0⟩
  off : ¬ at_ < bs.length → s.met = 1
theorem cut_step (p t : List Int) (kind : Int) (n : Nat) (b : List Int) (hn : n < 18446744073709551616) (hbl : b.length ≤ 1048576) (s : RS) (h : Cut (p ++ opB kind n b ++ t) p.length s) :
    Cut (p ++ opB kind n b ++ t) (p.length + (opB kind n b).length) (backP (p ++ opB kind n b ++ t).dropLast s kind n b).2 := by
  refine ⟨backP_ok h.ok kind n b, fun hlt => ?_, fun hge => ?_⟩
  · have hs := h.on (by omega)
    subst hs
    have ht : t ≠ [] := fun e => by subst e; simp at hlt
    rw [List.dropLast_append_of_ne_nil ht, back_good p t.dropLast kind n b hn hbl]
  · by_cases h1 : p.length < (p ++ opB kind n b ++ t).length
    · have hs := h.on h1
      subst hs
      have ht : t = [] := by
        cases t with
        | nil => rfl
        | cons a r => simp at hge
      subst ht
      have hne : opB kind n b ≠ [] := fun e => by rw [e] at h1; simp at h1
      rw [List.append_nil, List.dropLast_append_of_ne_nil hne]
      exact back_short p kind n b hn hbl hne
    · have hm := h.off h1
      rw [backP_stopped _ (by omega)]
      exact hm
end Go.Proofs.YtoeiaimoppmjdaaDoor.Wr
