/- Merged by merge2.py out of the texts: EPlain, Eye, Eye2, Eye3, Eye4, Eye5. -/
import Derived.Test.YtoeiaimoppmjdaaDoorRWPlain
import Derived.Test.YtoeiaimoppmjdaaDoorCopy
import Derived.Test.YtoeiaimoppmjdaaDoorRdr2
import Derived.Test.YtoeiaimoppmjdaaDoorRBytes
import Derived.Lib.QuietBelow
import Derived.Test.YtoeiaimoppmjdaaDoorTexts
import Derived.Test.YtoeiaimoppmjdaaDoorEq
/- Plain: the document's Reader answers as the program's: a number in its shortest form is taken from its last byte, written anew and compared. -/
namespace Go.Proofs.YtoeiaimoppmjdaaDoor.Wr
open Go.RowKit Go.Proofs.YtoeiaimoppmjdaaDoor.Bytes
set_option linter.unusedVariables false
set_option linter.unusedSimpArgs false
/-- The number that bytes of seven bits each spell, the lowest first. -/
def val : List Int → Nat
  | [] => 0
  | c :: t => val t * 128 + c.toNat % 128
/-- The place of the first byte below 128, of ten. -/
def lastJ : List Int → Nat → Option Nat
  | [], _ => none
  | c :: t, i => if 10 ≤ i then none else if c < 128 then some i else lastJ t (i + 1)
/-- Bytes of which all but the last go on, and the last ends. -/
def Ends : List Int → Prop
  | [] => False
  | [c] => 0 ≤ c ∧ c < 128
  | c :: t => 128 ≤ c ∧ c ≤ 255 ∧ Ends t
theorem ends_cons {c : Int} {t : List Int} (h1 : 128 ≤ c) (h2 : c ≤ 255) (h : Ends t) : Ends (c :: t) := by
  cases t with
  | nil => exact absurd h id
  | cons a r => exact ⟨h1, h2, h⟩
/-- The last of them. -/
def lastB : List Int → Int
  | [] => 0
  | [c] => c
  | _ :: t => lastB t
theorem lastB_cons (c : Int) {t : List Int} (h : t ≠ []) : lastB (c :: t) = lastB t := by
  cases t with
  | nil => exact absurd rfl h
  | cons a r => rfl
theorem ends_ne {w : List Int} (h : Ends w) : w ≠ [] := fun e => by subst e; exact h
theorem val_pos {w : List Int} (h : Ends w) (hl : lastB w ≠ 0) : 0 < val w := by
  induction w with
  | nil => exact absurd h id
  | cons c t ih =>
    cases t with
    | nil => have h : 0 ≤ c ∧ c < 128 := h; have hl : c ≠ 0 := hl; simp [val]; omega
    | cons a r =>
      have h3 : Ends (a :: r) := h.2.2
      have := ih h3 hl
      rw [val]; omega
theorem vr_val {w : List Int} (h : Ends w) (hl : lastB w ≠ 0 ∨ w.length = 1) : vr (val w) = w := by
  induction w with
  | nil => exact absurd h id
  | cons c t ih =>
    cases t with
    | nil =>
      have h : 0 ≤ c ∧ c < 128 := h
      have e : val [c] = c.toNat := by simp [val]; omega
      rw [e, vr_small (by omega)]
      congr 1; omega
    | cons a r =>
      obtain ⟨h1, h2, h3⟩ : 128 ≤ c ∧ c ≤ 255 ∧ Ends (a :: r) := h
      have hl' : lastB (a :: r) ≠ 0 := by
        rcases hl with hl | hl
        · exact hl
        · simp at hl
      have hp := val_pos h3 hl'
      rw [val, vr_great (by omega)]
      congr 1
      · omega
      · rw [show (val (a :: r) * 128 + c.toNat % 128) / 128 = val (a :: r) by omega]
        exact ih h3 (.inl hl')
theorem val_vr (n : Nat) : val (vr n) = n := by
  induction n using Nat.strongRecOn with
  | _ n ih =>
    by_cases h : n < 128
    · rw [vr_small h]; simp [val]; omega
    · rw [vr_great h, val, ih (n / 128) (by omega)]
      simp; omega
theorem vr_lastB (n : Nat) (h : 0 < n) : lastB (vr n) ≠ 0 := by
  induction n using Nat.strongRecOn with
  | _ n ih =>
    by_cases h1 : n < 128
    · rw [vr_small h1]; simp [lastB]; omega
    · rw [vr_great h1, lastB_cons _ (fun e => by have := vr_pos (n / 128); rw [e] at this; simp at this)]
      exact ih (n / 128) (by omega) (by omega)
theorem val_lt {w : List Int} (h : Ends w) : val w < ((lastB w).toNat + 1) * 128 ^ (w.length - 1) := by
  induction w with
  | nil => exact absurd h id
  | cons c t ih =>
    cases t with
    | nil => have h : 0 ≤ c ∧ c < 128 := h; simp [val, lastB]; omega
    | cons a r =>
      have h3 : Ends (a :: r) := h.2.2
      have h4 := ih h3
      rw [val, lastB_cons _ (by simp)]
      have e : (c :: a :: r).length - 1 = ((a :: r).length - 1) + 1 := by simp
      rw [e, Nat.pow_succ, ← Nat.mul_assoc]
      omega
theorem val_ge {w : List Int} (h : Ends w) : (lastB w).toNat * 128 ^ (w.length - 1) ≤ val w := by
  induction w with
  | nil => exact absurd h id
  | cons c t ih =>
    cases t with
    | nil => have h : 0 ≤ c ∧ c < 128 := h; simp [val, lastB]; omega
    | cons a r =>
      have h3 : Ends (a :: r) := h.2.2
      have h4 := ih h3
      rw [val, lastB_cons _ (by simp)]
      have e : (c :: a :: r).length - 1 = ((a :: r).length - 1) + 1 := by simp
      rw [e, Nat.pow_succ, ← Nat.mul_assoc]
      omega
/-- Written anew it is the same just where it was written shortest, and is a number of 64 bits. -/
theorem vr_iff {w : List Int} (h : Ends w) (hw : w.length ≤ 10) : vr (val w % 18446744073709551616) = w ↔ ¬ (w.length = 10 ∧ 1 < lastB w) ∧ ¬ (lastB w = 0 ∧ 1 < w.length) := by
  have hlt := val_lt h
  have hge := val_ge h
  have hlen : 1 ≤ w.length := by cases w with | nil => exact absurd h id | cons _ _ => simp
  have p9 : (128 : Nat) ^ 9 = 9223372036854775808 := by decide
  have hlast : 0 ≤ lastB w ∧ lastB w < 128 := by
    clear hlt hge hlen hw
    induction w with
    | nil => exact absurd h id
    | cons c t ih =>
      cases t with
      | nil => exact h
      | cons a r => rw [lastB_cons _ (by simp)]; exact ih h.2.2
  constructor
  · intro e
    have h2 := val_vr (val w % 18446744073709551616)
    rw [e] at h2
    have h64 : val w < 18446744073709551616 := by omega
    refine ⟨fun ⟨a, b⟩ => ?_, fun ⟨a, b⟩ => ?_⟩
    · rw [a] at hge
      have h3 := Nat.mul_le_mul_right (128 ^ (10 - 1)) (show 2 ≤ (lastB w).toNat by omega)
      rw [show 10 - 1 = 9 from rfl, p9] at hge h3
      omega
    · have hz : val w % 18446744073709551616 ≠ 0 := fun e0 => by
        rw [e0, vr_small (by omega)] at e
        rw [← e] at b; simp at b
      have := vr_lastB _ (Nat.pos_of_ne_zero hz)
      rw [e] at this
      exact this a
  · intro ⟨a, b⟩
    have h64 : val w < 18446744073709551616 := by
      by_cases h10 : w.length = 10
      · rw [h10] at hlt
        have h3 := Nat.mul_le_mul_right (128 ^ (10 - 1)) (show (lastB w).toNat + 1 ≤ 2 by omega)
        rw [show 10 - 1 = 9 from rfl, p9] at hlt h3
        omega
      · have h3 := Nat.mul_le_mul_right (128 ^ (w.length - 1)) (show (lastB w).toNat + 1 ≤ 128 by omega)
        have h4 : 128 * 128 ^ (w.length - 1) ≤ 128 ^ 9 := by rw [Nat.mul_comm, ← Nat.pow_succ]; exact Nat.pow_le_pow_right (by omega) (by omega)
        rw [p9] at h4
        omega
    rw [Nat.mod_eq_of_lt h64]
    refine vr_val h ?_
    by_cases h0 : lastB w = 0
    · exact .inr (by omega)
    · exact .inl h0
theorem lastJ_none (most : Nat) (l : List Int) (hb : Byt l) : ∀ (i n : Nat), lastJ l i = none → i ≤ 10 → varR most l i n = .bad (if i + l.length < 10 then 1 else 2) := by
  induction l with
  | nil => intro i n _ hi; simp only [varR]; simp
  | cons c t ih =>
    intro i n h hi
    have hc := hb c (List.mem_cons_self)
    rw [lastJ] at h
    rw [varR]
    by_cases h10 : 10 ≤ i
    · rw [if_pos h10, if_neg (by omega)]
    · rw [if_neg h10] at h ⊢
      split at h
      · cases h
      · rename_i h128
        by_cases h9 : i = 9 ∧ 1 < c
        · rw [if_pos h9, if_neg (by simp only [List.length_cons]; omega)]
        · have hi9 : i ≠ 9 := fun e => h9 ⟨e, by omega⟩
          rw [if_neg h9, if_pos (by omega), ih (fun a ha => hb a (List.mem_cons_of_mem _ ha)) (i + 1) _ h (by omega)]
          congr 1
          simp only [List.length_cons]
          by_cases hh : i + 1 + t.length < 10
          · rw [if_pos hh, if_pos (by omega)]
          · rw [if_neg hh, if_neg (by omega)]
theorem lastJ_some (most : Nat) (l : List Int) (hb : Byt l) : ∀ (i n j : Nat), lastJ l i = some j → i ≤ j ∧ j < 10 ∧ j - i < l.length ∧ Ends (l.take (j - i + 1)) ∧
    varR most l i n = (if j = 9 ∧ 1 < lastB (l.take (j - i + 1)) then .bad 2 else if lastB (l.take (j - i + 1)) = 0 ∧ 0 < j then .bad 2 else if most < n + val (l.take (j - i + 1)) * 128 ^ i then .bad 3 else .ok (n + val (l.take (j - i + 1)) * 128 ^ i) (j + 1)) := by
  induction l with
  | nil => intro i n j h; simp [lastJ] at h
  | cons c t ih =>
    intro i n j h
    have hc := hb c (List.mem_cons_self)
    rw [lastJ] at h
    split at h
    · cases h
    · rename_i h10
      split at h
      · rename_i h128
        injection h with h
        subst h
        have e : (c :: t).take (i - i + 1) = [c] := by simp
        refine ⟨Nat.le_refl _, by omega, by simp, by rw [e]; exact ⟨hc.1, h128⟩, ?_⟩
        rw [e, varR, if_neg h10]
        have el : lastB [c] = c := rfl
        have ev : val [c] = c.toNat % 128 := by simp [val]
        rw [el, ev]
        by_cases h9 : i = 9 ∧ 1 < c
        · rw [if_pos h9, if_pos h9]
        · rw [if_neg h9, if_neg h9, if_neg (by omega)]
      · rename_i h128
        obtain ⟨g1, g2, g3, g4, g5⟩ := ih (fun a ha => hb a (List.mem_cons_of_mem _ ha)) (i + 1) (n + (c.toNat % 128) * 128 ^ i) j h
        have e : (c :: t).take (j - i + 1) = c :: t.take (j - (i + 1) + 1) := by
          rw [show j - i + 1 = (j - (i + 1) + 1) + 1 by omega, List.take_succ_cons]
        refine ⟨by omega, g2, by simp; omega, by rw [e]; exact ends_cons (by omega) hc.2 g4, ?_⟩
        have h9 : ¬ (i = 9 ∧ 1 < c) := fun ⟨a, b⟩ => by omega
        rw [varR, if_neg h10, if_neg h9, if_pos (by omega), g5, e, lastB_cons _ (ends_ne g4)]
        have ev : n + c.toNat % 128 * 128 ^ i + val (t.take (j - (i + 1) + 1)) * 128 ^ (i + 1) = n + val (c :: t.take (j - (i + 1) + 1)) * 128 ^ i := by
          rw [val, Nat.pow_succ, Nat.add_mul, Nat.mul_assoc, Nat.mul_comm 128 (128 ^ i)]
          omega
        rw [ev]
/-- What the document's Reader makes of a number in its shortest form. -/
def eVar (xs : List Int) (s : RS) (most : Nat) : Nat × RS :=
  if s.met = 0 then match lastJ (xs.drop s.at_) 0 with
    | none => (0, ⟨s.at_, if (xs.drop s.at_).length < 10 then 1 else 2⟩)
    | some j =>
      if vr (val ((xs.drop s.at_).take (j + 1)) % 18446744073709551616) = (xs.drop s.at_).take (j + 1) then
        if most < val ((xs.drop s.at_).take (j + 1)) % 18446744073709551616 then (0, ⟨s.at_, 3⟩) else (val ((xs.drop s.at_).take (j + 1)) % 18446744073709551616, ⟨s.at_ + (j + 1), 0⟩)
      else (0, ⟨s.at_, 2⟩)
  else (0, s)
theorem eVar_eq {xs : List Int} (hb : Byt xs) (s : RS) (most : Nat) : eVar xs s most = rVar xs s most := by
  unfold eVar rVar
  have hbl : Byt (xs.drop s.at_) := fun a ha => hb a (List.mem_of_mem_drop ha)
  split
  · cases hj : lastJ (xs.drop s.at_) 0 with
    | none =>
      have h := lastJ_none most _ hbl 0 0 hj (by omega)
      rw [Nat.zero_add] at h
      rw [h]
    | some j =>
      obtain ⟨_, g2, g3, g4, g5⟩ := lastJ_some most _ hbl 0 0 j hj
      simp only [Nat.sub_zero, Nat.pow_zero, Nat.mul_one, Nat.zero_add] at g3 g4 g5
      obtain ⟨w, hw⟩ : ∃ w, w = (xs.drop s.at_).take (j + 1) := ⟨_, rfl⟩
      have hwl : w.length = j + 1 := by rw [hw, List.length_take]; omega
      dsimp only
      rw [← hw] at g4 g5 ⊢
      have hiff := vr_iff g4 (by omega)
      rw [hwl] at hiff
      rw [g5]
      by_cases hc : vr (val w % 18446744073709551616) = w
      · obtain ⟨a, b⟩ := hiff.1 hc
        have h64 : val w % 18446744073709551616 = val w := by
          have := val_vr (val w % 18446744073709551616)
          rw [hc] at this
          exact this.symm
        have n1 : ¬ (j = 9 ∧ 1 < lastB w) := fun ⟨p, q⟩ => a ⟨by omega, q⟩
        have n2 : ¬ (lastB w = 0 ∧ 0 < j) := fun ⟨p, q⟩ => b ⟨p, by omega⟩
        rw [if_pos hc, if_neg n1, if_neg n2, h64]
        by_cases hm : most < val w
        · rw [if_pos hm, if_pos hm]
        · rw [if_neg hm, if_neg hm]
      · rw [if_neg hc]
        have hn : ¬ (¬ (j + 1 = 10 ∧ 1 < lastB w) ∧ ¬ (lastB w = 0 ∧ 1 < j + 1)) := fun h => hc (hiff.2 h)
        by_cases h1 : j = 9 ∧ 1 < lastB w
        · rw [if_pos h1]
        · rw [if_neg h1]
          have h2 : lastB w = 0 ∧ 0 < j := by
            by_cases h2 : lastB w = 0 ∧ 0 < j
            · exact h2
            · exact absurd ⟨fun ⟨p, q⟩ => h1 ⟨by omega, q⟩, fun ⟨p, q⟩ => h2 ⟨p, by omega⟩⟩ hn
          rw [if_pos h2]
  · rfl
theorem rFix_raw (xs : List Int) (s : RS) (size : Nat) : rFix xs s size = (numBE (rRaw xs s size).1, (rRaw xs s size).2) := by
  have e : rRaw xs s size = rNext xs s size := by unfold rRaw; rw [if_neg (by omega)]
  rw [e]
  unfold rFix rNext
  split
  · by_cases hle : s.at_ + size ≤ xs.length
    · rw [if_pos hle, if_pos (by omega)]; simp
    · rw [if_neg hle, if_neg (by omega)]; simp [numBE]
  · simp [numBE]
end Go.Proofs.YtoeiaimoppmjdaaDoor.Wr
/- The document's Reader in memory: contracts of its functions. -/
namespace Go.Proofs.YtoeiaimoppmjdaaDoor.Wr
open Go.RowKit Go.Proofs.YtoeiaimoppmjdaaDoorW.PrintWords Go.Proofs.YtoeiaimoppmjdaaDoor.Bytes
open Go.Sort (grow)
set_option linter.unusedVariables false
set_option linter.unusedSimpArgs false
/-- The document's Reader g over xs, in the slice (A, c), in state s. -/
structure Eyd (W : World) (base g : Nat) (A : Option Addr) (c : Nat) (xs : List Int) (s : RS) : Prop where
  blk : W.heap[g]? = some (.cells #[.slice A xs.length c, .int .i64 s.at_, .int .i64 (errN s.met)] 34 (0, 0))
  le : base ≤ g
  rd : ReadsOf I 0 W A xs.length xs
  cap : xs.length ≤ c
  ne : 0 < xs.length → ∀ ad, A = some ad → ad.block ≠ g
/-- What a call of it leaves. -/
structure EyTo (W W' : World) (base g : Nat) (A : Option Addr) (c : Nat) (xs : List Int) (s : RS) : Prop where
  ey : Eyd W' base g A c xs s
  bl : Below base W W'
  kb : KeepBut W W' g none
theorem Eyd.below {W W1 : World} {base g : Nat} {A : Option Addr} {c : Nat} {xs : List Int} {s : RS} (h : Eyd W base g A c xs s) (hb : Below W.heap.size W W1) : Eyd W1 base g A c xs s :=
  ⟨blk_below h.blk hb, h.le, h.rd.below hb, h.cap, h.ne⟩
theorem EyTo.refl {W : World} {base g : Nat} {A : Option Addr} {c : Nat} {xs : List Int} {s : RS} (h : Eyd W base g A c xs s) : EyTo W W base g A c xs s := ⟨h, Below.refl _ _, KeepBut.refl _ _ _⟩
theorem EyTo.trans {W W1 W2 : World} {base g : Nat} {A : Option Addr} {c : Nat} {xs : List Int} {s s1 : RS} (h : EyTo W W1 base g A c xs s) (k : EyTo W1 W2 base g A c xs s1) : EyTo W W2 base g A c xs s1 :=
  ⟨k.ey, h.bl.trans k.bl, h.kb.trans k.kb (.inl rfl)⟩
theorem EyTo.below {W W1 W2 : World} {base g : Nat} {A : Option Addr} {c : Nat} {xs : List Int} {s : RS} (h : EyTo W W1 base g A c xs s) (hb : base ≤ W.heap.size) (k : Below W1.heap.size W1 W2) : EyTo W W2 base g A c xs s :=
  ⟨h.ey.below k, h.bl.trans (k.mono (Nat.le_trans hb h.bl.size)), h.kb.trans (KeepBut.of_below k g none) (.inl rfl)⟩
theorem reads_set {W : World} {A : Option Addr} {n g : Nat} {xs : List Int} (h : ReadsOf I 0 W A n xs) (hne : 0 < n → ∀ ad, A = some ad → ad.block ≠ g) (j : Nat) (u : Value) : ReadsOf I 0 (W.setCell ⟨g, j, none⟩ u) A n xs :=
  ⟨h.1, h.2.1, fun h0 => by
    obtain ⟨ad, e, hc⟩ := h.2.2 h0
    refine ⟨ad, e, fun k hk => ?_⟩
    have hb := hne h0 ad e
    rw [World.cell?_setCell_far _ _ _ _ (by
      have e2 : (ad.add k).block = ad.block := by unfold Addr.add; split <;> rfl
      rw [e2]; exact fun e3 => hb e3.symm)]
    exact hc k hk⟩
theorem eyto_met {W W1 : World} {base g : Nat} {A : Option Addr} {c : Nat} {xs : List Int} {s : RS} (h : EyTo W W1 base g A c xs s) (m : Nat) : EyTo W (W1.setCell ⟨g, 2, none⟩ (.int .i64 (errN m))) base g A c xs ⟨s.at_, m⟩ :=
  ⟨⟨blk_put h.ey.blk 2 _ rfl, h.ey.le, reads_set h.ey.rd h.ey.ne 2 _, h.ey.cap, h.ey.ne⟩, h.bl.setCell h.ey.le _, h.kb.set_ 2 _⟩
theorem eyto_at {W W1 : World} {base g : Nat} {A : Option Addr} {c : Nat} {xs : List Int} {s : RS} (h : EyTo W W1 base g A c xs s) (a : Nat) : EyTo W (W1.setCell ⟨g, 1, none⟩ (.int .i64 (a : Int))) base g A c xs ⟨a, s.met⟩ :=
  ⟨⟨blk_put h.ey.blk 1 _ rfl, h.ey.le, reads_set h.ey.rd h.ey.ne 1 _, h.ey.cap, h.ey.ne⟩, h.bl.setCell h.ey.le _, h.kb.set_ 1 _⟩
theorem errN_zero {m : Nat} : errN m = 0 ↔ m = 0 := by
  constructor
  · intro h
    match m with
    | 0 => rfl
    | 1 => simp [errN] at h
    | 2 => simp [errN] at h
    | 3 => simp [errN] at h
    | k + 4 => simp [errN] at h
  · intro h; subst h; rfl
set_option maxRecDepth 20000 in
theorem eleft_calls (W : World) (base g : Nat) (A : Option Addr) (c : Nat) (xs : List Int) (s : RS) (h : Eyd W base g A c xs s) (hs : s.Ok xs) :
    Calls Tryd.prog 74 #[.pointer (some ⟨g, 0, none⟩)] W fun e w' => e = .returned (.int .i64 ((xs.length : Int) - (s.at_ : Int))) ∧ Below W.heap.size W w' := by
  have c0 := blk_cell h.blk 0
  have c1 := blk_cell h.blk 1
  simp at c0 c1
  have hl : (xs.length : Int) ≤ 9223372036854775807 := by have := h.rd.2.1; omega
  have ha : (s.at_ : Int) ≤ (xs.length : Int) := by have := hs.at_; omega
  have q1 : IntKind.i64.wrap ((xs.length : Int) - (s.at_ : Int)) = (xs.length : Int) - (s.at_ : Int) := wrap_in (by omega) (by omega)
  clear hs h
  go_enter Tryd.func74, Tryd.ntmps74
  go_wp2_with fail
  go_quiet (fail)
  go_wp2_with fail
  go_ret
  exact ⟨rfl, pw_below_drewN (Below.refl _ _) _⟩
theorem eend_calls (W : World) (base g : Nat) (A : Option Addr) (c : Nat) (xs : List Int) (s : RS) (h : Eyd W base g A c xs s) (hs : s.Ok xs) :
    Calls Tryd.prog 24 #[.pointer (some ⟨g, 0, none⟩)] W fun e w' => e = .returned (.int .i64 (rEnd xs s)) ∧ Below W.heap.size W w' := by
  have c2 := blk_cell h.blk 2
  simp at c2
  by_cases hm : s.met = 0
  · have CL := Lib.hid (eleft_calls W base g A c xs s h hs)
    have hm' : errN s.met = 0 := errN_zero.2 hm
    rw [hm'] at c2
    have H := Lib.hid h
    by_cases hl : s.at_ < xs.length
    · have e : rEnd xs s = 13 := by simp [rEnd, hm, hl]
      rw [e]
      have i1 : (0 : Int) < (xs.length : Int) - (s.at_ : Int) := by omega
      clear h hs hm hm' hl e
      go_enter Tryd.func24, Tryd.ntmps24
      go_wp2_with fail
      refine CL.out.mono ?_; rintro e w1 ⟨rfl, hb1⟩
      have HB1 := Lib.hid hb1
      clear hb1
      go_wp2_with fail
      go_ret
      exact ⟨rfl, HB1.out⟩
    · have e : rEnd xs s = 0 := by rw [← hm']; simp [rEnd, hl]
      rw [e]
      have i1 : ¬ (0 : Int) < (xs.length : Int) - (s.at_ : Int) := by omega
      have HM := Lib.hid hm'
      clear h hs hm hm' hl e
      go_enter Tryd.func24, Tryd.ntmps24
      go_wp2_with fail
      refine CL.out.mono ?_; rintro e w1 ⟨rfl, hb1⟩
      have d2 := blk_cell (H.out.below hb1).blk 2
      simp at d2
      rw [HM.out] at d2
      have HB1 := Lib.hid hb1
      clear hb1
      go_wp2_with fail
      go_ret
      exact ⟨rfl, HB1.out⟩
  · have hm' : ¬ errN s.met = 0 := fun e => hm (errN_zero.1 e)
    have e : rEnd xs s = errN s.met := by simp [rEnd, hm]
    rw [e]
    obtain ⟨er, her⟩ : ∃ er, er = errN s.met := ⟨_, rfl⟩
    rw [← her] at c2 hm' ⊢
    clear h hs hm e her
    go_enter Tryd.func24, Tryd.ntmps24
    go_wp2_with fail
    go_ret
    exact ⟨rfl, Below.refl _ _⟩
/-- A list that a call of it hands out. -/
def ETaken (W : World) (base g : Nat) (A : Option Addr) (c : Nat) (xs l : List Int) (s1 : RS) (e : Ending) (w' : World) : Prop :=
  ∃ u, e = .returned u ∧ w'.ownsRow W.heap.size 5 1 u l.length (encs I l) ∧ EyTo W w' base g A c xs s1
theorem ecut {W : World} {A : Option Addr} {c n : Nat} {xs : List Int} (h : ReadsOf I 0 W A xs.length xs) (hcap : xs.length ≤ c) (a : Nat) (hn : a + n ≤ xs.length) : ReadsOf I 0 W (if c = a then A else A.map (·.add (a * 1))) n ((xs.drop a).take n) := by
  have h1 := h.drop_ (c := c) a (by omega) hcap
  rw [Nat.mul_one]
  have h2 := h1.take_ n (by omega)
  exact h2
theorem own_put {W : World} {B g n : Nat} {u : Value} {l : List Int} (h : W.ownsRow B 5 1 u n (encs I l)) {A : Option Addr} {c base : Nat} {xs : List Int} {s : RS} (hE : Eyd W base g A c xs s) (j : Nat) (v : Value) : (W.setCell ⟨g, j, none⟩ v).ownsRow B 5 1 u n (encs I l) :=
  own_other h (grown_set W g j v) (.inr (fun e => by
    obtain ⟨cs, hk⟩ := own_kind h g e
    rw [hE.blk] at hk
    simp at hk))
set_option maxRecDepth 20000 in
set_option maxHeartbeats 1600000 in
theorem eraw_calls (W : World) (base g : Nat) (A : Option Addr) (c : Nat) (xs : List Int) (s : RS) (n : Int) (h : Eyd W base g A c xs s) (hs : s.Ok xs) (hb : base ≤ W.heap.size) (hxl : xs.length ≤ 140737488355328) :
    Calls Tryd.prog 73 #[.pointer (some ⟨g, 0, none⟩), .int .i64 n] W (ETaken W base g A c xs (rRaw xs s n).1 (rRaw xs s n).2) := by
  obtain ⟨a, m⟩ := s
  have c0 := blk_cell h.blk 0
  have c1 := blk_cell h.blk 1
  have c2 := blk_cell h.blk 2
  have f1 := blk_frozen h.blk 1
  have f2 := blk_frozen h.blk 2
  simp at c0 c1 c2
  have HB := Lib.hid hb
  have H := Lib.hid h
  by_cases hm : m = 0
  · subst hm
    have e0 : errN 0 = 0 := rfl
    rw [e0] at c2
    by_cases hneg : n < 0
    · have e : rRaw xs ⟨a, 0⟩ n = ([], ⟨a, 4⟩) := by simp [rRaw, hneg]
      rw [e]
      have FIN := Lib.hid (eyto_met (EyTo.refl h) 4)
      clear h hs hb e e0
      go_enter Tryd.func73, Tryd.ntmps73
      go_wp2_with fail
      go_ret
      exact ⟨_, rfl, own_nil _ _ _ _, FIN.out⟩
    · have CL := Lib.hid (eleft_calls W base g A c xs ⟨a, 0⟩ h hs)
      by_cases hov : n ≤ (xs.length : Int) - (a : Int)
      · obtain ⟨k, rfl⟩ := Int.eq_ofNat_of_zero_le (show 0 ≤ n by omega)
        have e : rRaw xs ⟨a, 0⟩ (k : Int) = ((xs.drop a).take k, ⟨a + k, 0⟩) := by simp only [rRaw, rNext, if_true]; rw [if_neg (by omega), if_pos hov, Int.toNat_natCast]
        rw [e]
        have hle : a + k ≤ xs.length := by omega
        have hlk : ((xs.drop a).take k).length = k := by simp; omega
        obtain ⟨i0, hi0, _, hs0, _⟩ := info_parts info5
        have q : ∀ W : World, (Instr.slice 22 (.slice A xs.length c) (some (.int .i64 (a : Int))) (some (.int .i64 ((a : Int) + (k : Int)))) none).run Tryd.prog W = .ok (.slice (if c = a then A else A.map (·.add (a * 1))) k (c - a)) W := fun W => by
          have h := cut_mid (P := Tryd.prog) 22 5 .i64 .i64 Tryd.underlying22 hi0 1 hs0 A xs.length c (a : Int) ((a : Int) + k) (by omega) (by omega) (by omega) H.out.cap W
          rw [Int.toNat_natCast, show ((a : Int) + (k : Int)).toNat - a = k by omega] at h
          exact h
        have HCUT : Hid (ReadsOf I 0 W (if c = a then A else A.map (·.add (a * 1))) k ((xs.drop a).take k)) := ecut h.rd h.cap a hle
        obtain ⟨A2, hA2⟩ : ∃ A2, A2 = (if c = a then A else A.map (·.add (a * 1))) := ⟨_, rfl⟩
        rw [← hA2] at HCUT
        simp only [← hA2] at q
        have HLK := Lib.hid hlk
        have p2 : IntKind.i64.wrap ((a : Int) + (k : Int)) = (a : Int) + (k : Int) := wrap_in (by omega) (by omega)
        have o1 : decide ((xs.length : Int) - (a : Int) < (k : Int)) = false := decide_eq_false (by omega)
        have o2 : decide ((k : Int) < 0) = false := decide_eq_false (by omega)
        have hak : (a : Int) + (k : Int) ≤ 140737488355328 := by omega
        clear h hs hb e e0 hA2 hle hlk hi0 hs0 hov
        go_enter Tryd.func73, Tryd.ntmps73
        go_wp2_with fail
        refine CL.out.mono ?_; rintro e w1 ⟨rfl, hb1⟩
        have h1 := H.out.below hb1
        have d0 := blk_cell h1.blk 0
        have d1 := blk_cell h1.blk 1
        simp at d0 d1
        have CC : Hid (∀ W', Below w1.heap.size w1 W' → Calls Tryd.prog 15 #[.slice A2 k (c - a)] W' fun e w' => ∃ u, e = .returned u ∧ w'.ownsRow W'.heap.size 5 1 u ((xs.drop a).take k).length (encs I ((xs.drop a).take k)) ∧ Below W'.heap.size W' w') := fun W' hw => by
          have hr : ReadsOf I 0 W' A2 ((xs.drop a).take k).length ((xs.drop a).take k) := by rw [HLK.out]; exact (HCUT.out.below hb1).below hw
          have h := copy_calls ((xs.drop a).take k) A2 (c - a) W' W'.heap.size (Nat.le_refl _) hr (by rw [HLK.out]; omega)
          rw [HLK.out] at h ⊢
          exact h
        have HB1 := Lib.hid hb1
        have H1 := Lib.hid h1
        clear hb1 h1 c0 c1 c2 f1 f2
        go_wp2_with fail
        first | (go_region_law (first | (go_simp; go_at_call 15; refine (CC.out _ (by first | exact Below.refl _ _ | exact (Below.refl _ _).drew | exact pw_below_drewN (Below.refl _ _) _)).mono ?_; rintro e w3 ⟨u3, rfl, hu3, hb3⟩; have HU3 := Lib.hid hu3; have HB3 := Lib.hid hb3; clear hu3 hb3; have h3 := H1.out.below ((Below.refl _ w1).drew.trans HB3.out); have g1 := blk_cell h3.blk 1; have k1 := blk_frozen h3.blk 1; simp at g1; have H3 := Lib.hid h3; clear h3))) | fail
        all_goals go_wp2_with fail
        all_goals go_ret
        all_goals exact ⟨u3, rfl, own_put (own_less HU3.out (Nat.le_trans HB1.out.size (Nat.le_of_eq (by simp)))) H3.out _ _, eyto_at (((EyTo.refl H.out).below HB.out HB1.out).below HB.out ((Below.refl _ w1).drew.trans HB3.out)) _⟩
      · have e : rRaw xs ⟨a, 0⟩ n = ([], ⟨a, 1⟩) := by simp [rRaw, rNext, hneg, hov]
        rw [e]
        have o1 : decide ((xs.length : Int) - (a : Int) < n) = true := decide_eq_true (by omega)
        have o2 : decide (n < 0) = false := decide_eq_false hneg
        clear h hs hb e e0 hov hneg
        go_enter Tryd.func73, Tryd.ntmps73
        go_wp2_with fail
        refine CL.out.mono ?_; rintro e w1 ⟨rfl, hb1⟩
        have h1 := H.out.below hb1
        have d2 := blk_cell h1.blk 2
        have k2 := blk_frozen h1.blk 2
        simp at d2
        have FIN := Lib.hid (eyto_met ((EyTo.refl H.out).below HB.out hb1) 1)
        have HB1 := Lib.hid hb1
        clear hb1 h1 c0 c1 c2 f1 f2
        go_wp2_with fail
        go_ret
        exact ⟨_, rfl, own_nil _ _ _ _, FIN.out⟩
  · have hm' : ¬ errN m = 0 := fun e => hm (errN_zero.1 e)
    have e : rRaw xs ⟨a, m⟩ n = ([], ⟨a, m⟩) := by simp [rRaw, rNext, hm]
    rw [e]
    have hm2 : (errN m == 0) = false := by simpa using hm'
    have FIN := Lib.hid (EyTo.refl h)
    clear h hs hb e hm hm'
    go_enter Tryd.func73, Tryd.ntmps73
    go_wp2_with fail
    go_ret
    exact ⟨_, rfl, own_nil _ _ _ _, FIN.out⟩
end Go.Proofs.YtoeiaimoppmjdaaDoor.Wr
/- The document's Reader: numbers of a fixed size. -/
namespace Go.Proofs.YtoeiaimoppmjdaaDoor.Wr
open Go.RowKit Go.Proofs.YtoeiaimoppmjdaaDoorW.PrintWords Go.Proofs.YtoeiaimoppmjdaaDoor.Bytes
open Go.Sort (grow)
set_option linter.unusedVariables false
set_option linter.unusedSimpArgs false
theorem erRaw_byt {xs : List Int} (h : Byt xs) (s : RS) (n : Int) : Byt (rRaw xs s n).1 := by
  unfold rRaw rNext
  split
  · intro a ha; cases ha
  · split
    · split
      · exact byt_take (byt_drop h _) _
      · intro a ha; cases ha
    · intro a ha; cases ha
theorem erRaw_len (xs : List Int) (s : RS) (n : Nat) : (rRaw xs s (n : Int)).1.length ≤ n := by
  unfold rRaw rNext
  split
  · simp
  · split
    · split
      · simp; omega
      · simp
    · simp
set_option maxRecDepth 20000 in
theorem efix_calls (W : World) (base g : Nat) (A : Option Addr) (c : Nat) (xs : List Int) (s : RS) (size : Nat) (h : Eyd W base g A c xs s) (hs : s.Ok xs) (hb : base ≤ W.heap.size) (hxl : xs.length ≤ 140737488355328) (hz : size ≤ 8) (hx : Byt xs) :
    Calls Tryd.prog 101 #[.pointer (some ⟨g, 0, none⟩), .int .i64 size] W fun e w' => e = .returned (.int .u64 ((rFix xs s size).1 : Int)) ∧ EyTo W w' base g A c xs (rFix xs s size).2 := by
  have CN := Lib.hid (eraw_calls W base g A c xs s size h hs hb hxl)
  have HF : Hid (rFix xs s size = (numBE (rRaw xs s size).1, (rRaw xs s size).2)) := rFix_raw xs s size
  have hly := erRaw_byt hx s size
  have hll := Nat.le_trans (erRaw_len xs s size) hz
  obtain ⟨l, hl⟩ : ∃ l, l = (rRaw xs s size).1 := ⟨_, rfl⟩
  obtain ⟨s1, hs1⟩ : ∃ s1, s1 = (rRaw xs s size).2 := ⟨_, rfl⟩
  rw [← hl] at hly hll
  rw [← hl, ← hs1] at CN HF
  have HY := Lib.hid hly
  have HBS := Lib.hid hb
  have s1' : (size : Int) ≤ 8 := by omega
  clear h hb hs hx hly hl hs1 hxl
  go_enter Tryd.func101, Tryd.ntmps101
  go_wp2_with fail
  refine CN.out.mono ?_; rintro e w1 ⟨u, rfl, hu, h2⟩
  obtain ⟨A2, c2, rfl, hr2⟩ := own_reads_of (d := 0) hu
  have HR2 : Hid (ReadsOf I 0 w1 A2 l.length l) := hr2
  clear hr2
  have H2 := Lib.hid h2
  clear hu h2
  go_wp2_with fail
  go_loopw [6, 7] (fun m j wr => ∃ k : Nat, m = .int .u64 ((numBE (l.take k) : Nat) : Int) ∧ j = .int .i64 k ∧ k ≤ l.length ∧ Below w1.heap.size w1 wr) (fun _ j _ => l.length - (intOf j).toNat)
  case atStart => exact ⟨0, by simp [numBE], rfl, by omega, Below.refl _ _⟩
  case round =>
    obtain ⟨k, rfl, rfl, hk, hb3⟩ := hrel
    have HB3 := Lib.hid hb3
    clear hb3
    by_cases hlt : k < l.length
    · have hrr := HR2.out
      obtain ⟨ad, hA, hc⟩ := hrr.2.2 (by omega)
      subst hA
      obtain ⟨m0, hm0⟩ : ∃ m, m = numBE (l.take k) := ⟨_, rfl⟩
      obtain ⟨cc, hcc⟩ : ∃ m, m = (l.getD k 0).toNat := ⟨_, rfl⟩
      have hcb := byt_get HY.out k hlt
      have hm1 : m0 * 256 + cc = numBE (l.take (k + 1)) := by rw [hm0, hcc, numBE_take l k hlt]
      have hml : m0 * 256 + cc < 18446744073709551616 := by
        rw [hm1]
        have h1 := numBE_lt (byt_take HY.out (k + 1))
        have h2 : (l.take (k + 1)).length ≤ 8 := by simp; omega
        exact Nat.lt_of_lt_of_le h1 (Nat.le_trans (Nat.pow_le_pow_right (by omega) h2) (by decide))
      have x1 := pw_cell_below HB3.out (hc k (by omega))
      rw [show l.getD k 0 = (cc : Int) by omega] at x1
      obtain ⟨p, hp⟩ : ∃ p : Int, p = (m0 : Int) * 256 := ⟨_, rfl⟩
      have q1 : IntKind.u64.wrap ((m0 : Int) * 256) = p := by rw [hp]; exact IntWalk.u64_in _ ⟨by omega, by omega⟩
      have q2 : IntKind.u64.wrap (p + (cc : Int)) = ((m0 * 256 + cc : Nat) : Int) := by rw [hp]; rw [IntWalk.u64_in _ ⟨by omega, by omega⟩]; push_cast; rfl
      obtain ⟨m1, hmm1⟩ : ∃ m1, m1 = m0 * 256 + cc := ⟨_, rfl⟩
      rw [← hmm1] at q2
      have HM : Hid (m1 = numBE (l.take (k + 1))) := hmm1.trans hm1
      rw [← hm0]
      have i1 : (k : Int) < (l.length : Int) := by omega
      have i2 : (0 : Int) ≤ (k : Int) := by omega
      have cb : (cc : Int) ≤ 255 := by omega
      have kl : (k : Int) ≤ 8 := by omega
      clear hm0 hcc hm1 hml hmm1 hrr hc hcb hp
      go_wp2_with fail
      exact ⟨⟨k + 1, by rw [HM.out], by go_num, by omega, HB3.out⟩, by simp [intOf]; omega⟩
    · have e0 : numBE (l.take k) = numBE l := by rw [List.take_of_length_le (by omega)]
      rw [e0]
      have i1 : ¬ (k : Int) < (l.length : Int) := by omega
      clear e0
      go_wp2_with fail
      go_ret
      rw [HF.out]
      exact ⟨rfl, H2.out.below HBS.out HB3.out⟩
theorem e8_calls (W : World) (base g : Nat) (A : Option Addr) (c : Nat) (xs : List Int) (s : RS) (h : Eyd W base g A c xs s) (hs : s.Ok xs) (hb : base ≤ W.heap.size) (hxl : xs.length ≤ 140737488355328) (hx : Byt xs) :
    Calls Tryd.prog 65 #[.pointer (some ⟨g, 0, none⟩)] W fun e w' => e = .returned (.int .u8 ((rFix xs s 1).1 : Int)) ∧ EyTo W w' base g A c xs (rFix xs s 1).2 := by
  have HC := Lib.hid (efix_calls W base g A c xs s 1 h hs hb hxl (by omega) hx)
  have hlt := rFix_lt hx s 1
  obtain ⟨q, hq⟩ : ∃ q, q = rFix xs s 1 := ⟨_, rfl⟩
  rw [← hq] at HC hlt ⊢
  obtain ⟨r, s1⟩ := q
  clear hq
  have i1 : (r : Int) ≤ 255 := by simp at hlt; omega
  clear h hs hb hx hlt hxl
  go_enter Tryd.func65, Tryd.ntmps65
  go_wp2_with fail
  refine HC.out.mono ?_; rintro e w1 ⟨rfl, h1⟩
  have H1 := Lib.hid h1
  clear h1
  go_wp2_with fail
  go_ret
  exact ⟨rfl, H1.out⟩
theorem e32_calls (W : World) (base g : Nat) (A : Option Addr) (c : Nat) (xs : List Int) (s : RS) (h : Eyd W base g A c xs s) (hs : s.Ok xs) (hb : base ≤ W.heap.size) (hxl : xs.length ≤ 140737488355328) (hx : Byt xs) :
    Calls Tryd.prog 67 #[.pointer (some ⟨g, 0, none⟩)] W fun e w' => e = .returned (.int .u32 ((rFix xs s 4).1 : Int)) ∧ EyTo W w' base g A c xs (rFix xs s 4).2 := by
  have HC := Lib.hid (efix_calls W base g A c xs s 4 h hs hb hxl (by omega) hx)
  have hlt := rFix_lt hx s 4
  obtain ⟨q, hq⟩ : ∃ q, q = rFix xs s 4 := ⟨_, rfl⟩
  rw [← hq] at HC hlt ⊢
  obtain ⟨r, s1⟩ := q
  clear hq
  have i1 : (r : Int) ≤ 4294967295 := by simp at hlt; omega
  clear h hs hb hx hlt hxl
  go_enter Tryd.func67, Tryd.ntmps67
  go_wp2_with fail
  refine HC.out.mono ?_; rintro e w1 ⟨rfl, h1⟩
  have H1 := Lib.hid h1
  clear h1
  go_wp2_with fail
  go_ret
  exact ⟨rfl, H1.out⟩
theorem e64_calls (W : World) (base g : Nat) (A : Option Addr) (c : Nat) (xs : List Int) (s : RS) (h : Eyd W base g A c xs s) (hs : s.Ok xs) (hb : base ≤ W.heap.size) (hxl : xs.length ≤ 140737488355328) (hx : Byt xs) :
    Calls Tryd.prog 68 #[.pointer (some ⟨g, 0, none⟩)] W fun e w' => e = .returned (.int .u64 ((rFix xs s 8).1 : Int)) ∧ EyTo W w' base g A c xs (rFix xs s 8).2 := by
  have HC := Lib.hid (efix_calls W base g A c xs s 8 h hs hb hxl (by omega) hx)
  have hlt := rFix_lt hx s 8
  obtain ⟨q, hq⟩ : ∃ q, q = rFix xs s 8 := ⟨_, rfl⟩
  rw [← hq] at HC hlt ⊢
  obtain ⟨r, s1⟩ := q
  clear hq
  clear h hs hb hx hlt hxl
  go_enter Tryd.func68, Tryd.ntmps68
  go_wp2_with fail
  refine HC.out.mono ?_; rintro e w1 ⟨rfl, h1⟩
  have H1 := Lib.hid h1
  clear h1
  go_wp2_with fail
  go_ret
  exact ⟨rfl, H1.out⟩
end Go.Proofs.YtoeiaimoppmjdaaDoor.Wr
/- The document's Reader: the end of a number in its shortest form. -/
namespace Go.Proofs.YtoeiaimoppmjdaaDoor.Wr
open Go.RowKit Go.Proofs.YtoeiaimoppmjdaaDoorW.PrintWords Go.Proofs.YtoeiaimoppmjdaaDoor.Bytes
open Go.Sort (grow)
set_option linter.unusedVariables false
set_option linter.unusedSimpArgs false
def lastOf (xs : List Int) (a : Nat) : Int := match lastJ (xs.drop a) 0 with
  | some j => ((a + j : Nat) : Int)
  | none => -1
theorem lastJ_drop (xs : List Int) (b k : Nat) (h : b < xs.length) : lastJ (xs.drop b) k = if 10 ≤ k then none else if xs.getD b 0 < 128 then some k else lastJ (xs.drop (b + 1)) (k + 1) := by
  rw [List.drop_eq_getElem_cons h, lastJ]; simp [List.getD, List.getElem?_eq_getElem h]
theorem lastJ_end (l : List Int) : lastJ l 10 = none := by
  cases l with
  | nil => rfl
  | cons c t => simp [lastJ]
set_option maxRecDepth 20000 in
theorem elast_calls (W : World) (base g : Nat) (A : Option Addr) (c : Nat) (xs : List Int) (s : RS) (h : Eyd W base g A c xs s) (hs : s.Ok xs) (hxl : xs.length ≤ 140737488355328) (hx : Byt xs) :
    Calls Tryd.prog 102 #[.pointer (some ⟨g, 0, none⟩)] W fun e w' => e = .returned (.int .i64 (lastOf xs s.at_)) ∧ Below W.heap.size W w' := by
  obtain ⟨a, m⟩ := s
  have H := Lib.hid h
  have HX := Lib.hid hx
  have ha : a ≤ xs.length := hs.at_
  clear h hs hx
  go_enter Tryd.func102, Tryd.ntmps102
  go_wp2_with fail
  go_loopw [3] (fun j wr => ∃ k : Nat, j = .int .i64 k ∧ k ≤ 10 ∧ lastJ (xs.drop a) 0 = lastJ (xs.drop (a + k)) k ∧ Below W.heap.size W wr) (fun j _ => 10 - (intOf j).toNat)
  case atStart => exact ⟨0, rfl, by omega, rfl, Below.refl _ _⟩
  case round =>
    obtain ⟨k, rfl, hk, hj, hb3⟩ := hrel
    have h3 := H.out.below hb3
    have d0 := blk_cell h3.blk 0
    have d1 := blk_cell h3.blk 1
    simp at d0 d1
    have HJ := Lib.hid hj
    have HB3 := Lib.hid hb3
    have hrr := h3.rd
    clear hb3 hj h3
    by_cases hk1 : k < 10
    · have t1 : decide ((k : Int) < 10) = true := decide_eq_true (by omega)
      have p1 : IntKind.i64.wrap ((a : Int) + (k : Int)) = (a : Int) + (k : Int) := wrap_in (by omega) (by omega)
      by_cases hlt : a + k < xs.length
      · have t2 : decide ((a : Int) + (k : Int) < (xs.length : Int)) = true := decide_eq_true (by omega)
        obtain ⟨ad, hA, hc⟩ := hrr.2.2 (by omega)
        obtain ⟨cc, hcc⟩ : ∃ cc, cc = xs.getD (a + k) 0 := ⟨_, rfl⟩
        have x1 := hc (a + k) hlt
        rw [← hcc] at x1
        have p2 : ((a : Int) + (k : Int)).toNat = a + k := by omega
        have i1 : (0 : Int) ≤ (a : Int) + (k : Int) := by omega
        have i2 : (a : Int) + (k : Int) < (xs.length : Int) := by omega
        subst hA
        by_cases hc1 : cc < 128
        · have t3 : decide (cc < 128) = true := decide_eq_true hc1
          have HF : Hid (lastOf xs a = (a : Int) + (k : Int)) := by
            show _ = _
            unfold lastOf
            rw [HJ.out, lastJ_drop xs (a + k) k hlt, if_neg (by omega), ← hcc, if_pos hc1]
            push_cast; rfl
          clear hcc hc hrr hlt hc1 hk1
          go_wp2_with fail
          go_quiet (fail)
          go_wp2_with fail
          go_quiet (fail)
          go_wp2_with fail
          go_ret
          rw [HF.out]
          exact ⟨rfl, by first | exact HB3.out | exact HB3.out.drew | exact pw_below_drewN HB3.out _⟩
        · have t3 : decide (cc < 128) = false := decide_eq_false hc1
          have HF : Hid (lastJ (xs.drop a) 0 = lastJ (xs.drop (a + (k + 1))) (k + 1)) := by
            show _ = _
            rw [HJ.out, lastJ_drop xs (a + k) k hlt, if_neg (by omega), ← hcc, if_neg hc1]
            rfl
          clear hcc hc hrr hlt hc1
          go_wp2_with fail
          go_quiet (fail)
          go_wp2_with fail
          go_quiet (fail)
          go_wp2_with fail
          exact ⟨⟨k + 1, by go_num, by omega, HF.out, by first | exact HB3.out | exact HB3.out.drew | exact pw_below_drewN HB3.out _⟩, by simp [intOf]; omega⟩
      · have t2 : decide ((a : Int) + (k : Int) < (xs.length : Int)) = false := decide_eq_false (by omega)
        have HF : Hid (lastOf xs a = -1) := by
          show _ = _
          unfold lastOf
          rw [HJ.out, List.drop_of_length_le (by omega)]
          rfl
        clear hrr hlt hk1
        go_wp2_with fail
        go_quiet (fail)
        go_wp2_with fail
        go_ret
        rw [HF.out]
        exact ⟨rfl, by first | exact HB3.out | exact HB3.out.drew | exact pw_below_drewN HB3.out _⟩
    · obtain rfl : k = 10 := by omega
      have HF : Hid (lastOf xs a = -1) := by
        show _ = _
        unfold lastOf
        rw [HJ.out, lastJ_end]
      clear hrr hk1
      go_wp2_with fail
      go_quiet (fail)
      go_wp2_with fail
      go_ret
      rw [HF.out]
      exact ⟨rfl, by first | exact HB3.out | exact HB3.out.drew | exact pw_below_drewN HB3.out _⟩
end Go.Proofs.YtoeiaimoppmjdaaDoor.Wr
/- The document's Reader: a number in its shortest form. -/
namespace Go.Proofs.YtoeiaimoppmjdaaDoor.Wr
open Go.RowKit Go.Proofs.YtoeiaimoppmjdaaDoorW.PrintWords Go.Proofs.YtoeiaimoppmjdaaDoor.Bytes
open Go.Sort (grow)
set_option linter.unusedVariables false
set_option linter.unusedSimpArgs false
theorem eleft_ok (xs : List Int) (a : Nat) : (xs.drop a).length = xs.length - a := by simp
set_option maxRecDepth 20000 in
theorem evar_stop (W : World) (base g : Nat) (A : Option Addr) (c : Nat) (xs : List Int) (s : RS) (most : Int) (h : Eyd W base g A c xs s) (hm : s.met ≠ 0) :
    Calls Tryd.prog 70 #[.pointer (some ⟨g, 0, none⟩), .int .u64 most] W fun e w' => e = .returned (.int .u64 0) ∧ EyTo W w' base g A c xs s := by
  obtain ⟨a, m⟩ := s
  have c2 := blk_cell h.blk 2
  simp at c2
  have hm' : ¬ errN m = 0 := fun e => hm (errN_zero.1 e)
  have hm2 : (errN m == 0) = false := by simpa using hm'
  have FIN := Lib.hid (EyTo.refl h)
  clear h hm hm'
  go_enter Tryd.func70, Tryd.ntmps70
  go_wp2_with fail
  go_ret
  exact ⟨rfl, FIN.out⟩
set_option maxRecDepth 20000 in
theorem evar_none (W : World) (base g : Nat) (A : Option Addr) (c : Nat) (xs : List Int) (a : Nat) (most : Int) (h : Eyd W base g A c xs ⟨a, 0⟩) (hs : RS.Ok ⟨a, 0⟩ xs) (hb : base ≤ W.heap.size) (hxl : xs.length ≤ 140737488355328) (hx : Byt xs) (hj : lastJ (xs.drop a) 0 = none) :
    Calls Tryd.prog 70 #[.pointer (some ⟨g, 0, none⟩), .int .u64 most] W fun e w' => e = .returned (.int .u64 0) ∧ EyTo W w' base g A c xs ⟨a, if (xs.drop a).length < 10 then 1 else 2⟩ := by
  have c2 := blk_cell h.blk 2
  simp at c2
  rw [show errN 0 = 0 from rfl] at c2
  have CL := Lib.hid (elast_calls W base g A c xs ⟨a, 0⟩ h hs hxl hx)
  have e1 : lastOf xs a = -1 := by unfold lastOf; rw [hj]
  rw [show (RS.mk a 0).at_ = a from rfl, e1] at CL
  have H := Lib.hid h
  have HB := Lib.hid hb
  have hal : a ≤ xs.length := hs.at_
  have HS : Hid (RS.Ok ⟨a, 2⟩ xs) := ⟨hs.at_, by simp⟩
  clear h hs hb hx hj e1
  by_cases hl : (xs.length : Int) - (a : Int) < 10
  · have e : (if (xs.drop a).length < 10 then 1 else 2) = 1 := by rw [if_pos]; simp; omega
    rw [e]
    have t1 : decide ((xs.length : Int) - (a : Int) < 10) = true := decide_eq_true hl
    clear e hl
    go_enter Tryd.func70, Tryd.ntmps70
    go_wp2_with fail
    refine CL.out.mono ?_; rintro e w1 ⟨rfl, hb1⟩
    have h1 := (EyTo.refl H.out).below HB.out hb1
    have k2 := blk_frozen h1.ey.blk 2
    have h2 := eyto_met h1 2
    have d2 := blk_cell h1.ey.blk 2
    simp at d2
    have CE := Lib.hid (eleft_calls _ base g A c xs ⟨a, 2⟩ h2.ey HS.out)
    have H2 := Lib.hid h2
    have e2 : errN 2 = 11 := rfl
    rw [e2] at CE H2
    clear h1 h2 hb1 e2
    go_wp2_with fail
    refine CE.out.mono ?_; rintro e w3 ⟨rfl, hb3⟩
    have h3 := H2.out.below HB.out hb3
    have j2 := blk_frozen h3.ey.blk 2
    have g2 := blk_cell h3.ey.blk 2
    simp at g2
    have FIN := Lib.hid (eyto_met h3 1)
    clear h3 hb3
    go_wp2_with fail
    go_ret
    exact ⟨rfl, FIN.out⟩
  · have e : (if (xs.drop a).length < 10 then 1 else 2) = 2 := by rw [if_neg]; simp; omega
    rw [e]
    have t1 : decide ((xs.length : Int) - (a : Int) < 10) = false := decide_eq_false hl
    clear e hl
    go_enter Tryd.func70, Tryd.ntmps70
    go_wp2_with fail
    refine CL.out.mono ?_; rintro e w1 ⟨rfl, hb1⟩
    have h1 := (EyTo.refl H.out).below HB.out hb1
    have k2 := blk_frozen h1.ey.blk 2
    have h2 := eyto_met h1 2
    have d2 := blk_cell h1.ey.blk 2
    simp at d2
    have CE := Lib.hid (eleft_calls _ base g A c xs ⟨a, 2⟩ h2.ey HS.out)
    have H2 := Lib.hid h2
    have e2 : errN 2 = 11 := rfl
    rw [e2] at CE H2
    clear h1 h2 hb1 e2
    go_wp2_with fail
    refine CE.out.mono ?_; rintro e w3 ⟨rfl, hb3⟩
    have FIN := Lib.hid (H2.out.below HB.out hb3)
    clear hb3
    go_wp2_with fail
    go_ret
    exact ⟨rfl, FIN.out⟩
theorem u64_fold (m c : Nat) : IntKind.u64.wrap (IntKind.u64.wrap ((m : Int) * 128) + (c : Int) % 128) = (((m * 128 + c % 128) % 18446744073709551616 : Nat) : Int) := by
  simp [IntKind.wrap, IntKind.bits, IntKind.signed]
theorem val_step (c : Int) (t : List Int) (M : Nat) (hM : M = 18446744073709551616) : (val t % M * 128 + c.toNat % 128) % M = val (c :: t) % M := by
  subst hM; simp only [val]; omega
/-- What the loop has read: the last bytes, up from place t. -/
def eAt (xs : List Int) (a j t : Nat) : Nat := val ((xs.drop (a + t)).take (j + 1 - t)) % 18446744073709551616
theorem eAt_top (xs : List Int) (a j : Nat) : eAt xs a j (j + 1) = 0 := by simp [eAt, val]
theorem eAt_step (xs : List Int) (a j t : Nat) (ht : t ≤ j) (hl : a + t < xs.length) : eAt xs a j t = (eAt xs a j (t + 1) * 128 + (xs.getD (a + t) 0).toNat % 128) % 18446744073709551616 := by
  unfold eAt
  rw [List.drop_eq_getElem_cons hl, show j + 1 - t = (j - t) + 1 by omega, List.take_succ_cons, show j + 1 - (t + 1) = j - t by omega, ← val_step _ _ _ rfl]
  simp [List.getD, List.getElem?_eq_getElem hl, Nat.add_assoc]
set_option maxRecDepth 20000 in
set_option maxHeartbeats 6400000 in
theorem evar_some (W : World) (base g : Nat) (A : Option Addr) (c : Nat) (xs : List Int) (a j : Nat) (most : Nat) (h : Eyd W base g A c xs ⟨a, 0⟩) (hs : RS.Ok ⟨a, 0⟩ xs) (hb : base ≤ W.heap.size) (hxl : xs.length ≤ 140737488355328) (hx : Byt xs) (hj : lastJ (xs.drop a) 0 = some j) (hjl : a + j < xs.length) (hj10 : j < 10) :
    Calls Tryd.prog 70 #[.pointer (some ⟨g, 0, none⟩), .int .u64 most] W fun e w' => e = .returned (.int .u64 ((eVar xs ⟨a, 0⟩ most).1 : Int)) ∧ EyTo W w' base g A c xs (eVar xs ⟨a, 0⟩ most).2 := by
  have c2 := blk_cell h.blk 2
  simp at c2
  rw [show errN 0 = 0 from rfl] at c2
  have CL := Lib.hid (elast_calls W base g A c xs ⟨a, 0⟩ h hs hxl hx)
  have e1 : lastOf xs a = (a : Int) + (j : Int) := by unfold lastOf; rw [hj]; push_cast; rfl
  rw [show (RS.mk a 0).at_ = a from rfl, e1] at CL
  have H := Lib.hid h
  have HB := Lib.hid hb
  have hal : a ≤ xs.length := hs.at_
  have HX := Lib.hid hx
  obtain ⟨N, hN⟩ : ∃ N, N = eAt xs a j 0 := ⟨_, rfl⟩
  obtain ⟨L, hL⟩ : ∃ L, L = (xs.drop a).take (j + 1) := ⟨_, rfl⟩
  have hN2 : N = val L % 18446744073709551616 := by rw [hN, hL]; simp [eAt]
  have HV : Hid (eVar xs ⟨a, 0⟩ most = if vr N = L then if most < N then (0, ⟨a, 3⟩) else (N, ⟨a + (j + 1), 0⟩) else (0, ⟨a, 2⟩)) := by
    show _ = _
    unfold eVar
    rw [if_pos rfl]
    show (match lastJ (xs.drop a) 0 with | none => _ | some j => _) = _
    rw [hj, hN2, hL]
  have HN : Hid (eAt xs a j 0 = N) := hN.symm
  have hN64 : N < 18446744073709551616 := by rw [hN2]; exact Nat.mod_lt _ (by omega)
  have HLL : Hid (L.length = j + 1) := by show _ = _; rw [hL]; simp; omega
  obtain ⟨i0, hi0, _, hs0, _⟩ := info_parts info5
  have q : ∀ W : World, (Instr.slice 22 (.slice A xs.length c) (some (.int .i64 (a : Int))) (some (.int .i64 ((a : Int) + (j : Int) + 1))) none).run Tryd.prog W = .ok (.slice (if c = a then A else A.map (·.add (a * 1))) (j + 1) (c - a)) W := fun W => by
    have h := cut_mid (P := Tryd.prog) 22 5 .i64 .i64 Tryd.underlying22 hi0 1 hs0 A xs.length c (a : Int) ((a : Int) + j + 1) (by omega) (by omega) (by omega) H.out.cap W
    rw [Int.toNat_natCast, show ((a : Int) + (j : Int) + 1).toNat - a = j + 1 by omega] at h
    exact h
  have HCUT : Hid (ReadsOf I 0 W (if c = a then A else A.map (·.add (a * 1))) (j + 1) L) := by rw [hL]; exact ecut h.rd h.cap a (by omega)
  rw [← HLL.out] at HCUT
  rw [← HLL.out] at q
  obtain ⟨A2, hA2⟩ : ∃ A2, A2 = (if c = a then A else A.map (·.add (a * 1))) := ⟨_, rfl⟩
  rw [← hA2] at HCUT
  simp only [← hA2] at q
  have HQ := Lib.hid q
  have HN64 := Lib.hid hN64
  have p3 : IntKind.i64.wrap ((a : Int) + (j : Int) + 1) = (a : Int) + (j : Int) + 1 := wrap_in (by omega) (by omega)
  have t0 : decide ((a : Int) + (j : Int) < 0) = false := decide_eq_false (by omega)
  clear h hs hb hx hj e1 hN hL hN2 hA2 hi0 hs0 q hN64
  go_enter Tryd.func70, Tryd.ntmps70
  go_wp2_with fail
  refine CL.out.mono ?_; rintro e w1 ⟨rfl, hb1⟩
  have HB1 := Lib.hid hb1
  clear hb1 c2
  go_wp2_with fail
  go_loopw [6, 7] (fun n i wr => ∃ t : Nat, n = .int .u64 (eAt xs a j t : Nat) ∧ i = .int .i64 ((a : Int) + (t : Int) - 1) ∧ t ≤ j + 1 ∧ Below W.heap.size W wr) (fun _ i _ => (intOf i + 1 - a).toNat)
  case atStart => exact ⟨j + 1, by rw [eAt_top]; rfl, by congr 1; omega, by omega, HB1.out⟩
  case round =>
    obtain ⟨t, rfl, rfl, ht, hb3⟩ := hrel
    have h3 := H.out.below hb3
    have d0 := blk_cell h3.blk 0
    have d1 := blk_cell h3.blk 1
    simp at d0 d1
    have HB3 := Lib.hid hb3
    have hrr := h3.rd
    clear hb3 h3
    by_cases ht0 : t = 0
    · subst ht0
      have t1 : decide ((a : Int) ≤ (a : Int) + ((0 : Nat) : Int) - 1) = false := decide_eq_false (by omega)
      rw [HN.out]
      have CV : Hid (∀ W', Below wr.heap.size wr W' → Calls Tryd.prog 79 #[.int .u64 N] W' fun e w' => ∃ v, e = .returned v ∧ w'.ownsRow W'.heap.size 5 1 v (vr N).length (encs I (vr N)) ∧ Below W'.heap.size W' w') := fun W' _ => rvar_calls N W' W'.heap.size (Nat.le_refl _) HN64.out
      have q := HQ.out
      have HLV : Hid (L.length ≤ 140737488355328) := by show _ ≤ _; rw [HLL.out]; omega
      clear hrr ht t1
      go_wp2_with fail
      first | (go_region_law (first | (go_simp; go_at_call 79; refine (CV.out _ (by first | exact Below.refl _ _ | exact (Below.refl _ _).drew | exact pw_below_drewN (Below.refl _ _) _)).mono ?_; rintro e w3 ⟨v3, rfl, hu3, hb4⟩; obtain ⟨A3, c3, rfl, hr3⟩ := own_reads_of (d := 0) hu3; have hw3 : Below wr.heap.size wr w3 := (Below.refl _ wr).drew.trans hb4; have h4 := H.out.below (HB3.out.trans (hw3.mono HB3.out.size)); have g0 := blk_cell h4.blk 0; have g1 := blk_cell h4.blk 1; simp at g0 g1; have HR3 := Lib.hid hr3; have HW3 := Lib.hid hw3; clear hu3 hb4 hr3 h4 hw3) | (go_simp; go_at_call 34; refine (eq_calls (vr N) L A3 A2 c3 (c - a) w3 HR3.out ((HCUT.out.below HB3.out).below HW3.out) HLV.out).mono ?_; rintro e w5 ⟨b, rfl, hbb, hb5⟩; have HBB := Lib.hid hbb; have HB5 := Lib.hid hb5; clear hbb hb5))) | fail
      all_goals
        have h5 := (EyTo.refl H.out).below HB.out (HB3.out.trans ((HW3.out.trans (HB5.out.mono HW3.out.size)).mono HB3.out.size))
        have k1 := blk_frozen h5.ey.blk 1
        have k2 := blk_frozen h5.ey.blk 2
        have r1 := blk_cell h5.ey.blk 1
        have r2 := blk_cell h5.ey.blk 2
        simp at r1 r2
        have FB := Lib.hid (eyto_met h5 2)
        have FM := Lib.hid (eyto_met h5 3)
        have FA := Lib.hid (eyto_at h5 (a + (j + 1)))
        have ea : ((a + (j + 1) : Nat) : Int) = (a : Int) + (j : Int) + 1 := by omega
        rw [ea] at FA
        clear h5 q ea d0 d1 g0 g1
        rcases b with _ | _
        · have HE : Hid (eVar xs ⟨a, 0⟩ most = (0, ⟨a, 2⟩)) := by
            show _ = _
            rw [HV.out, if_neg (fun e => by have := HBB.out.2 e; cases this)]
          go_wp2_with fail
          go_ret
          rw [HE.out]
          exact ⟨rfl, FB.out⟩
        · by_cases hmn : most < N
          · have HE : Hid (eVar xs ⟨a, 0⟩ most = (0, ⟨a, 3⟩)) := by
              show _ = _
              rw [HV.out, if_pos (HBB.out.1 rfl), if_pos hmn]
            go_wp2_with fail
            go_ret
            rw [HE.out]
            exact ⟨rfl, FM.out⟩
          · have HE : Hid (eVar xs ⟨a, 0⟩ most = (N, ⟨a + (j + 1), 0⟩)) := by
              show _ = _
              rw [HV.out, if_pos (HBB.out.1 rfl), if_neg hmn]
            go_wp2_with fail
            go_ret
            rw [HE.out]
            exact ⟨rfl, FA.out⟩
    · obtain ⟨t, rfl⟩ : ∃ t', t = t' + 1 := ⟨t - 1, by omega⟩
      have ei : (a : Int) + ((t + 1 : Nat) : Int) - 1 = (a : Int) + (t : Int) := by omega
      rw [ei]
      have t1 : decide ((a : Int) ≤ (a : Int) + (t : Int)) = true := decide_eq_true (by omega)
      obtain ⟨ad, hA, hc⟩ := hrr.2.2 (by omega)
      subst hA
      have hlt : a + t < xs.length := by omega
      obtain ⟨cc, hcc⟩ : ∃ m, m = (xs.getD (a + t) 0).toNat := ⟨_, rfl⟩
      have hcb := byt_get HX.out (a + t) hlt
      have x1 := hc (a + t) hlt
      rw [show xs.getD (a + t) 0 = (cc : Int) by omega] at x1
      obtain ⟨m0, hm0⟩ : ∃ m, m = eAt xs a j (t + 1) := ⟨_, rfl⟩
      obtain ⟨m1, hm1⟩ : ∃ m, m = eAt xs a j t := ⟨_, rfl⟩
      have hst : m1 = (m0 * 128 + cc % 128) % 18446744073709551616 := by rw [hm1, hm0, hcc]; exact eAt_step xs a j t (by omega) hlt
      have hm0l : m0 < 18446744073709551616 := by rw [hm0]; exact Nat.mod_lt _ (by omega)
      rw [← hm0]
      have HM := Lib.hid hm1
      obtain ⟨p, hp⟩ : ∃ p : Int, p = IntKind.u64.wrap ((m0 : Int) * 128) := ⟨_, rfl⟩
      have p2 : ((a : Int) + (t : Int)).toNat = a + t := by omega
      have i1 : (0 : Int) ≤ (a : Int) + (t : Int) := by omega
      have i2 : (a : Int) + (t : Int) < (xs.length : Int) := by omega
      have cb : (cc : Int) ≤ 255 := by omega
      clear hcc hc hrr hm0 hm1 hcb
      go_wp2_with fail
      exact ⟨⟨t, by rw [← HM.out, u64_fold, hst], rfl, by omega, HB3.out⟩, by simp [intOf]; omega⟩
theorem evar_calls (W : World) (base g : Nat) (A : Option Addr) (c : Nat) (xs : List Int) (s : RS) (most : Nat) (h : Eyd W base g A c xs s) (hs : s.Ok xs) (hb : base ≤ W.heap.size) (hxl : xs.length ≤ 140737488355328) (hx : Byt xs) :
    Calls Tryd.prog 70 #[.pointer (some ⟨g, 0, none⟩), .int .u64 most] W fun e w' => e = .returned (.int .u64 ((rVar xs s most).1 : Int)) ∧ EyTo W w' base g A c xs (rVar xs s most).2 := by
  rw [← eVar_eq hx s most]
  by_cases hm : s.met = 0
  · obtain ⟨a, m⟩ := s
    have hm : m = 0 := hm
    subst hm
    cases hj : lastJ (xs.drop a) 0 with
    | none =>
      have e : eVar xs ⟨a, 0⟩ most = (0, ⟨a, if (xs.drop a).length < 10 then 1 else 2⟩) := by unfold eVar; rw [if_pos rfl]; show (match lastJ (xs.drop a) 0 with | none => _ | some j => _) = _; rw [hj]
      rw [e]
      exact evar_none W base g A c xs a most h hs hb hxl hx hj
    | some j =>
      have h1 := lastJ_some most (xs.drop a) (byt_drop hx a) 0 0 j hj
      have h2 := h1.2.2.1
      simp at h2
      exact evar_some W base g A c xs a j most h hs hb hxl hx hj (by omega) h1.2.1
  · have e : eVar xs s most = (0, s) := by unfold eVar; rw [if_neg hm]
    rw [e]
    exact evar_stop W base g A c xs s most h hm
end Go.Proofs.YtoeiaimoppmjdaaDoor.Wr
/- The document's Reader: a text. -/
namespace Go.Proofs.YtoeiaimoppmjdaaDoor.Wr
open Go.RowKit Go.Proofs.YtoeiaimoppmjdaaDoorW.PrintWords Go.Proofs.YtoeiaimoppmjdaaDoor.Bytes
open Go.Sort (grow)
set_option linter.unusedVariables false
set_option linter.unusedSimpArgs false
theorem erVar_at (xs : List Int) (s : RS) (most : Nat) (h : (rVar xs s most).2.met ≠ 0) : (rVar xs s most).2.at_ = s.at_ := by
  unfold rVar at h ⊢
  split
  · rename_i h0
    rw [if_pos h0] at h
    split
    · rename_i e
      rw [e] at h
      exact absurd rfl h
    · rfl
  · rfl
/-- What Text makes of it. -/
theorem rBytes_raw (xs : List Int) (s : RS) (most : Int) : rBytes xs s most = if (rRaw xs (rVar xs s most.toNat).2 ((rVar xs s most.toNat).1 : Int)).2.met = 0 then rRaw xs (rVar xs s most.toNat).2 ((rVar xs s most.toNat).1 : Int) else ([], ⟨s.at_, (rRaw xs (rVar xs s most.toNat).2 ((rVar xs s most.toNat).1 : Int)).2.met⟩) := by
  have hat := erVar_at xs s most.toNat
  unfold rBytes
  generalize rVar xs s most.toNat = v at *
  obtain ⟨n, a, m⟩ := v
  have e : rRaw xs ⟨a, m⟩ (n : Int) = rNext xs ⟨a, m⟩ n := by unfold rRaw; rw [if_neg (by omega)]
  simp only at *
  rw [e]
  unfold rNext
  by_cases hm : m = 0
  · subst hm
    by_cases hl : (n : Int) ≤ (xs.length : Int) - a
    · simp [hl]; omega
    · simp [hl]; omega
  · simp [hm, hat hm]
theorem eyto_trans {W W1 W2 : World} {base g : Nat} {A : Option Addr} {c : Nat} {xs : List Int} {s s1 : RS} (h : EyTo W W1 base g A c xs s) (k : EyTo W1 W2 base g A c xs s1) : EyTo W W2 base g A c xs s1 := h.trans k
set_option maxRecDepth 20000 in
set_option maxHeartbeats 1600000 in
theorem etext_calls (W : World) (base g : Nat) (A : Option Addr) (c : Nat) (xs : List Int) (s : RS) (most : Int) (h : Eyd W base g A c xs s) (hs : s.Ok xs) (hb : base ≤ W.heap.size) (hxl : xs.length ≤ 140737488355328) (hx : Byt xs) (hmost : most ≤ 9223372036854775807) :
    Calls Tryd.prog 72 #[.pointer (some ⟨g, 0, none⟩), .int .i64 most] W (ETaken W base g A c xs (rBytes xs s most).1 (rBytes xs s most).2) := by
  have HR : Hid _ := rBytes_raw xs s most
  have CV := evar_calls W base g A c xs s most.toNat h hs hb hxl hx
  have hok := rVar_ok hs most.toNat
  obtain ⟨v, hv⟩ : ∃ v, v = rVar xs s most.toNat := ⟨_, rfl⟩
  rw [← hv] at CV HR hok
  obtain ⟨n, s1⟩ := v
  have hok1 : s1.Ok xs := hok.1
  have hok2 : n ≤ most.toNat := hok.2
  have CW : Hid (∀ w1, EyTo W w1 base g A c xs s1 → Calls Tryd.prog 73 #[.pointer (some ⟨g, 0, none⟩), .int .i64 n] w1 (ETaken w1 base g A c xs (rRaw xs s1 n).1 (rRaw xs s1 n).2)) := fun w1 h1 => eraw_calls w1 base g A c xs s1 n h1.ey hok1 (Nat.le_trans hb h1.bl.size) hxl
  obtain ⟨q, hq⟩ : ∃ q, q = rRaw xs s1 (n : Int) := ⟨_, rfl⟩
  have HR2 : Hid (rBytes xs s most = if q.2.met = 0 then q else ([], ⟨s.at_, q.2.met⟩)) := by rw [hq]; exact HR
  rw [← hq] at CW
  obtain ⟨l, s2⟩ := q
  obtain ⟨a2, m2⟩ := s2
  have c1 := blk_cell h.blk 1
  simp at c1
  have HB := Lib.hid hb
  have HCV := Lib.hid CV
  have hn : (n : Int) ≤ 9223372036854775807 := by omega
  have hcase : (most < 0 ∧ most.toNat = 0 ∧ n = 0) ∨ (¬ most < 0 ∧ ∃ k : Nat, most = (k : Int)) := by
    by_cases h0 : most < 0
    · exact .inl ⟨h0, by omega, by omega⟩
    · exact .inr ⟨h0, most.toNat, by omega⟩
  obtain ⟨sa, hsa⟩ : ∃ sa, sa = s.at_ := ⟨_, rfl⟩
  rw [← hsa] at c1 HR2
  clear h hs hb hx hxl hq hv CV hok hok1 hok2 HR hsa
  rcases hcase with ⟨h0, hz, hn0⟩ | ⟨h0, k, hk⟩
  · rw [hz] at HCV
    have t1 : decide (most < 0) = true := decide_eq_true h0
    subst hn0
    clear hz h0 hn
    go_enter Tryd.func72, Tryd.ntmps72
    go_wp2_with fail
    refine HCV.out.mono ?_; rintro e w1 ⟨rfl, h1⟩
    have H1 := Lib.hid h1
    have C1 := Lib.hid (CW.out w1 h1)
    clear h1
    go_wp2_with fail
    refine C1.out.mono ?_; rintro e w2 ⟨u, rfl, hu, h2⟩
    have HU := Lib.hid hu
    have h12 := H1.out.trans h2
    have j1 := blk_frozen h12.ey.blk 1
    have g1 := blk_cell h12.ey.blk 1
    have g2 := blk_cell h12.ey.blk 2
    simp at g1 g2
    have H2 := Lib.hid h12
    clear hu h2 h12
    by_cases hm : m2 = 0
    · subst hm
      rw [show errN 0 = 0 from rfl] at g2
      go_wp2_with fail
      go_ret
      rw [HR2.out]
      exact ⟨u, rfl, own_less HU.out H1.out.bl.size, H2.out⟩
    · have hm2 : (errN m2 == 0) = false := by simpa using fun e => hm (errN_zero.1 e)
      have FIN := Lib.hid (eyto_at H2.out sa)
      go_wp2_with fail
      go_ret
      rw [HR2.out, if_neg hm]
      exact ⟨_, rfl, own_nil _ _ _ _, FIN.out⟩
  · subst hk
    rw [Int.toNat_natCast] at HCV
    have t1 : decide ((k : Int) < 0) = false := decide_eq_false h0
    have p1 : IntKind.u64.wrap (k : Int) = (k : Int) := IntWalk.u64_in _ ⟨by omega, by omega⟩
    have p2 : IntKind.i64.wrap (n : Int) = (n : Int) := wrap_in (by omega) hn
    clear h0 hn hmost
    go_enter Tryd.func72, Tryd.ntmps72
    go_wp2_with fail
    refine HCV.out.mono ?_; rintro e w1 ⟨rfl, h1⟩
    have H1 := Lib.hid h1
    have C1 := Lib.hid (CW.out w1 h1)
    clear h1
    go_wp2_with fail
    refine C1.out.mono ?_; rintro e w2 ⟨u, rfl, hu, h2⟩
    have HU := Lib.hid hu
    have h12 := H1.out.trans h2
    have j1 := blk_frozen h12.ey.blk 1
    have g1 := blk_cell h12.ey.blk 1
    have g2 := blk_cell h12.ey.blk 2
    simp at g1 g2
    have H2 := Lib.hid h12
    clear hu h2 h12
    by_cases hm : m2 = 0
    · subst hm
      rw [show errN 0 = 0 from rfl] at g2
      go_wp2_with fail
      go_ret
      rw [HR2.out]
      exact ⟨u, rfl, own_less HU.out H1.out.bl.size, H2.out⟩
    · have hm2 : (errN m2 == 0) = false := by simpa using fun e => hm (errN_zero.1 e)
      have FIN := Lib.hid (eyto_at H2.out sa)
      go_wp2_with fail
      go_ret
      rw [HR2.out, if_neg hm]
      exact ⟨_, rfl, own_nil _ _ _ _, FIN.out⟩
end Go.Proofs.YtoeiaimoppmjdaaDoor.Wr
