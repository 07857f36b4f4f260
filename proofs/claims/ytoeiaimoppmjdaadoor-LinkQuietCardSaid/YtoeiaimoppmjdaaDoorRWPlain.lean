/- Plain: what is read, written anew, is what was read. -/
import Derived.Test.YtoeiaimoppmjdaaDoorRPlain
namespace Go.Proofs.YtoeiaimoppmjdaaDoor.Wr
open Go.RowKit Go.Proofs.YtoeiaimoppmjdaaDoor.Bytes
set_option linter.unusedVariables false
set_option linter.unusedSimpArgs false
theorem fixL_snoc (m c n : Nat) (hc : c < 256) : fixL (m * 256 + c) (n + 1) = fixL m n ++ [(c : Int)] := by
  apply List.ext_getElem
  · simp [fixL]
  · intro i h1 h2
    have hi : i < n + 1 := by simpa [fixL] using h1
    by_cases hn : i < n
    · rw [List.getElem_append_left (by simpa [fixL] using hn)]
      simp only [fixL, List.getElem_map, List.getElem_range]
      have e : n + 1 - 1 - i = (n - 1 - i) + 1 := by omega
      rw [e, Nat.pow_succ, Nat.mul_comm (256 ^ _) 256, ← Nat.div_div_eq_div_mul]
      congr 2
      have : (m * 256 + c) / 256 = m := by omega
      rw [this]
    · obtain rfl : i = n := by omega
      rw [List.getElem_append_right (by simp [fixL])]
      simp [fixL]
      omega
theorem fixL_numBE {l : List Int} (h : Byt l) : fixL (numBE l) l.length = l := by
  induction hl : l.length generalizing l with
  | zero => obtain rfl := List.eq_nil_of_length_eq_zero hl; simp [fixL]
  | succ n ih =>
    have hne : l ≠ [] := fun e => by rw [e] at hl; cases hl
    have e := (List.dropLast_concat_getLast hne).symm
    have h1 := ih (l := l.dropLast) (fun a ha => h a ((List.dropLast_sublist l).subset ha)) (by simp [hl])
    have h2 := h (l.getLast hne) (List.getLast_mem hne)
    rw [e, numBE_snoc, fixL_snoc _ _ _ (by omega), h1]
    congr 2
    omega
theorem numBE_fixL (n size : Nat) (h : n < 256 ^ size) : numBE (fixL n size) = n := by
  induction size generalizing n with
  | zero => simp at h; subst h; simp [fixL, numBE]
  | succ k ih =>
    have e : n = n / 256 * 256 + n % 256 := by omega
    rw [e, fixL_snoc _ _ _ (by omega), numBE_snoc, ih (n / 256) (by rw [Nat.pow_succ] at h; omega)]
    simp
    omega
theorem varR_vr (most : Nat) (l : List Int) (hb : Byt l) : ∀ (i n r k : Nat), varR most l i n = .ok r k → ∃ m, r = n + m * 128 ^ i ∧ i < k ∧ vr m = l.take (k - i) ∧ (0 < i → 0 < m) := by
  induction l with
  | nil => intro i n r k h; simp [varR] at h
  | cons c t ih =>
    intro i n r k h
    have hc := hb c (List.mem_cons_self)
    rw [varR] at h
    split at h
    · cases h
    split at h
    · cases h
    split at h
    · rename_i h1 h2 h128
      obtain ⟨m, hr, hk, hv, hm⟩ := ih (fun a ha => hb a (List.mem_cons_of_mem _ ha)) _ _ _ _ h
      have hm0 := hm (by omega)
      refine ⟨c.toNat % 128 + 128 * m, ?_, by omega, ?_, fun _ => by omega⟩
      · rw [hr, Nat.pow_succ, Nat.add_mul, Nat.add_assoc]
        congr 2
        rw [Nat.mul_comm 128 m, Nat.mul_assoc, Nat.mul_comm 128]
      · rw [vr_great (by omega), show k - i = (k - (i + 1)) + 1 by omega, List.take_succ_cons]
        congr 1
        · omega
        · rw [← hv]; congr 1; omega
    · rename_i h1 h2 h128
      split at h
      · cases h
      · rename_i hz
        split at h
        · cases h
        · injection h with hr hk
          subst hk
          refine ⟨c.toNat, ?_, by omega, ?_, fun h0 => by omega⟩
          · rw [← hr, Nat.mod_eq_of_lt (by omega)]
          · rw [vr_small (by omega), show i + 1 - i = 1 by omega]
            simp
            omega
theorem rVar_vr {xs : List Int} (hb : Byt xs) (s : RS) (most : Nat) (hs : s.met = 0) (h : (rVar xs s most).2.met = 0) :
    s.at_ < (rVar xs s most).2.at_ ∧ vr (rVar xs s most).1 = (xs.drop s.at_).take ((rVar xs s most).2.at_ - s.at_) := by
  unfold rVar at h ⊢
  rw [if_pos hs] at h ⊢
  split
  · rename_i n k hv
    obtain ⟨m, hr, hk, hm, _⟩ := varR_vr most _ (fun a ha => hb a (List.mem_of_mem_drop ha)) 0 0 n k hv
    simp only [Nat.pow_zero, Nat.mul_one, Nat.zero_add] at hr
    subst hr
    refine ⟨by simp; omega, ?_⟩
    rw [hm]
    simp
  · rename_i m hv
    rw [hv] at h
    have := varR_bad _ _ _ _ _ hv
    simp at h
    omega
theorem rVar_at {xs : List Int} (s : RS) (most : Nat) (h : (rVar xs s most).2.met ≠ 0) : (rVar xs s most).2.at_ = s.at_ := by
  unfold rVar at h ⊢
  split
  · rename_i h0
    rw [if_pos h0] at h
    split
    · rename_i n k hv; rw [hv] at h; simp at h
    · rfl
  · rfl
theorem rFix_at {xs : List Int} (s : RS) (size : Nat) (h : (rFix xs s size).2.met ≠ 0) : (rFix xs s size).2.at_ = s.at_ := by
  unfold rFix at h ⊢
  split
  · split
    · rename_i h0 h1; rw [if_pos h0, if_pos h1] at h; simp at h
    · rfl
  · rfl
theorem rNext_at {xs : List Int} (s : RS) (n : Int) (h : (rNext xs s n).2.met ≠ 0) : (rNext xs s n).2.at_ = s.at_ := by
  unfold rNext at h ⊢
  split
  · split
    · rename_i h0 h1; rw [if_pos h0, if_pos h1] at h; simp at h
    · rfl
  · rfl
theorem take_more (xs : List Int) (a b : Nat) (h : a ≤ b) : xs.take a ++ (xs.drop a).take (b - a) = xs.take b := by
  rw [← List.take_add, show a + (b - a) = b by omega]
/-- What a call reads, written anew: the bytes, and the state behind it. -/
structure Again (xs : List Int) (s : RS) (b : List Int) (s1 : RS) : Prop where
  bad : s1.met ≠ 0 → s1.at_ = s.at_
  good : s1.met = 0 → s.at_ ≤ s1.at_ ∧ s1.at_ ≤ xs.length ∧ b = (xs.drop s.at_).take (s1.at_ - s.at_)
theorem again_fix {xs : List Int} (hb : Byt xs) (s : RS) (size : Nat) (hs : s.met = 0) : Again xs s (fixL (rFix xs s size).1 size) (rFix xs s size).2 := by
  refine ⟨rFix_at s size, fun h => ?_⟩
  unfold rFix at h ⊢
  rw [if_pos hs] at h ⊢
  split at h
  · rename_i hle
    rw [if_pos hle]
    refine ⟨by simp, hle, ?_⟩
    have hl : ((xs.drop s.at_).take size).length = size := by simp; omega
    have := fixL_numBE (l := (xs.drop s.at_).take size) (fun a ha => hb a (List.mem_of_mem_drop (List.mem_of_mem_take ha)))
    rw [hl] at this
    simp only [Nat.add_sub_cancel_left]
    exact this
  · simp at h
theorem again_var {xs : List Int} (hb : Byt xs) (s : RS) (most : Nat) (hs : s.met = 0) (hok : s.Ok xs) : Again xs s (vr (rVar xs s most).1) (rVar xs s most).2 :=
  ⟨rVar_at s most, fun h => by
    have h2 := rVar_vr hb s most hs h
    exact ⟨by omega, (rVar_ok hok most).1.at_, h2.2⟩⟩
theorem rNext_good {xs : List Int} {s : RS} {n : Int} (hs : s.met = 0) (hok : s.Ok xs) (h : (rNext xs s n).2.met = 0) : s.at_ ≤ (rNext xs s n).2.at_ ∧ (rNext xs s n).2.at_ ≤ xs.length ∧ (rNext xs s n).1 = (xs.drop s.at_).take ((rNext xs s n).2.at_ - s.at_) := by
  unfold rNext at h ⊢
  rw [if_pos hs] at h ⊢
  split at h
  · rename_i hle
    rw [if_pos hle]
    have := hok.at_
    refine ⟨by simp, by simp; omega, ?_⟩
    simp only [Nat.add_sub_cancel_left]
  · simp at h
theorem again_raw {xs : List Int} (s : RS) (n : Int) (hs : s.met = 0) (hok : s.Ok xs) : Again xs s (rRaw xs s n).1 (rRaw xs s n).2 := by
  unfold rRaw
  split
  · exact ⟨fun _ => rfl, fun h => by simp at h⟩
  · exact ⟨rNext_at s n, fun h => rNext_good hs hok h⟩
theorem again_bytes {xs : List Int} (hb : Byt xs) (s : RS) (most : Int) (hs : s.met = 0) (hok : s.Ok xs) : Again xs s (vr (rBytes xs s most).1.length ++ (rBytes xs s most).1) (rBytes xs s most).2 := by
  unfold rBytes
  split
  · exact ⟨fun _ => rfl, fun h => by simp at h⟩
  · rename_i hov
    have hav := again_var hb s most.toNat hs hok
    obtain ⟨q, hq⟩ : ∃ q, q = rVar xs s most.toNat := ⟨_, rfl⟩
    rw [← hq] at hav hov ⊢
    obtain ⟨n, s1⟩ := q
    have hok1 : s1.Ok xs := by have := (rVar_ok hok most.toNat).1; rw [← hq] at this; exact this
    by_cases h1 : s1.met = 0
    · obtain ⟨g1, g2, g3⟩ := hav.good h1
      simp only at hov g1 g2 g3 ⊢
      have hle : ¬ xs.length < s1.at_ + n := fun e => hov ⟨h1, e⟩
      have e : rNext xs s1 (n : Int) = ((xs.drop s1.at_).take n, ⟨s1.at_ + n, 0⟩) := by
        unfold rNext
        rw [if_pos h1, if_pos (by omega), Int.toNat_natCast]
      rw [e]
      refine ⟨fun h => absurd rfl h, fun _ => ⟨by simp; omega, by simp; omega, ?_⟩⟩
      have hl : ((xs.drop s1.at_).take n).length = n := by simp; omega
      simp only
      rw [hl, g3]
      have : (xs.drop s1.at_) = (xs.drop s.at_).drop (s1.at_ - s.at_) := by rw [List.drop_drop]; congr 1; omega
      rw [this, show s1.at_ + n - s.at_ = (s1.at_ - s.at_) + n by omega, List.take_add]
    · have e := rNext_stopped (xs := xs) h1 (n : Int)
      simp only
      rw [e]
      exact ⟨fun _ => hav.bad h1, fun h => absurd h h1⟩
end Go.Proofs.YtoeiaimoppmjdaaDoor.Wr
