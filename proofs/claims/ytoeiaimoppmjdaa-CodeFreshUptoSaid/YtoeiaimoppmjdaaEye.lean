/- The document's Reader in memory: contracts of its functions. -/
import Derived.Test.YtoeiaimoppmjdaaCopy
import Derived.Test.YtoeiaimoppmjdaaEPlain
import Derived.Test.YtoeiaimoppmjdaaRdr2
import Derived.Test.YtoeiaimoppmjdaaRBytes
import Derived.Lib.QuietBelow
namespace Go.Proofs.Ytoeiaimoppmjdaa.Wr
open Go.RowKit Go.Proofs.YtoeiaimoppmjdaaW.PrintWords Go.Proofs.Ytoeiaimoppmjdaa.Bytes
open Go.Sort (grow)
set_option linter.unusedVariables false
set_option linter.unusedSimpArgs false
/-- The document's Reader g over xs, in the slice (A, c), in state s. -/
structure Eyd (W : World) (base g : Nat) (A : Option Addr) (c : Nat) (xs : List Int) (s : RS) : Prop where
  blk : W.heap[g]? = some (.cells #[.slice A xs.length c, .int .i64 s.at_, .int .i64 (errN s.met)] 34 (0, 0))
  le : base ≤ g
  rd : ReadsOf I 0 W A xs.length xs
  cap : xs.length ≤ c
  ne : 0 < xs.length → ∀ ad, A = some ad → ad.block ≠ g
/-- What a call of it leaves. -/
structure EyTo (W W' : World) (base g : Nat) (A : Option Addr) (c : Nat) (xs : List Int) (s : RS) : Prop where
  ey : Eyd W' base g A c xs s
  bl : Below base W W'
  kb : KeepBut W W' g none
theorem Eyd.below {W W1 : World} {base g : Nat} {A : Option Addr} {c : Nat} {xs : List Int} {s : RS} (h : Eyd W base g A c xs s) (hb : Below W.heap.size W W1) : Eyd W1 base g A c xs s :=
  ⟨blk_below h.blk hb, h.le, h.rd.below hb, h.cap, h.ne⟩
theorem EyTo.refl {W : World} {base g : Nat} {A : Option Addr} {c : Nat} {xs : List Int} {s : RS} (h : Eyd W base g A c xs s) : EyTo W W base g A c xs s := ⟨h, Below.refl _ _, KeepBut.refl _ _ _⟩
theorem EyTo.trans {W W1 W2 : World} {base g : Nat} {A : Option Addr} {c : Nat} {xs : List Int} {s s1 : RS} (h : EyTo W W1 base g A c xs s) (k : EyTo W1 W2 base g A c xs s1) : EyTo W W2 base g A c xs s1 :=
  ⟨k.ey, h.bl.trans k.bl, h.kb.trans k.kb (.inl rfl)⟩
theorem EyTo.below {W W1 W2 : World} {base g : Nat} {A : Option Addr} {c : Nat} {xs : List Int} {s : RS} (h : EyTo W W1 base g A c xs s) (hb : base ≤ W.heap.size) (k : Below W1.heap.size W1 W2) : EyTo W W2 base g A c xs s :=
  ⟨h.ey.below k, h.bl.trans (k.mono (Nat.le_trans hb h.bl.size)), h.kb.trans (KeepBut.of_below k g none) (.inl rfl)⟩
theorem reads_set {W : World} {A : Option Addr} {n g : Nat} {xs : List Int} (h : ReadsOf I 0 W A n xs) (hne : 0 < n → ∀ ad, A = some ad → ad.block ≠ g) (j : Nat) (u : Value) : ReadsOf I 0 (W.setCell ⟨g, j, none⟩ u) A n xs :=
  ⟨h.1, h.2.1, fun h0 => by
    obtain ⟨ad, e, hc⟩ := h.2.2 h0
    refine ⟨ad, e, fun k hk => ?_⟩
    have hb := hne h0 ad e
    rw [World.cell?_setCell_far _ _ _ _ (by
      have e2 : (ad.add k).block = ad.block := by unfold Addr.add; split <;> rfl
      rw [e2]; exact fun e3 => hb e3.symm)]
    exact hc k hk⟩
theorem eyto_met {W W1 : World} {base g : Nat} {A : Option Addr} {c : Nat} {xs : List Int} {s : RS} (h : EyTo W W1 base g A c xs s) (m : Nat) : EyTo W (W1.setCell ⟨g, 2, none⟩ (.int .i64 (errN m))) base g A c xs ⟨s.at_, m⟩ :=
  ⟨⟨blk_put h.ey.blk 2 _ rfl, h.ey.le, reads_set h.ey.rd h.ey.ne 2 _, h.ey.cap, h.ey.ne⟩, h.bl.setCell h.ey.le _, h.kb.set_ 2 _⟩
theorem eyto_at {W W1 : World} {base g : Nat} {A : Option Addr} {c : Nat} {xs : List Int} {s : RS} (h : EyTo W W1 base g A c xs s) (a : Nat) : EyTo W (W1.setCell ⟨g, 1, none⟩ (.int .i64 (a : Int))) base g A c xs ⟨a, s.met⟩ :=
  ⟨⟨blk_put h.ey.blk 1 _ rfl, h.ey.le, reads_set h.ey.rd h.ey.ne 1 _, h.ey.cap, h.ey.ne⟩, h.bl.setCell h.ey.le _, h.kb.set_ 1 _⟩
theorem errN_zero {m : Nat} : errN m = 0 ↔ m = 0 := by
  constructor
  · intro h
    match m with
    | 0 => rfl
    | 1 => simp [errN] at h
    | 2 => simp [errN] at h
    | 3 => simp [errN] at h
    | k + 4 => simp [errN] at h
  · intro h; subst h; rfl
set_option maxRecDepth 20000 in
theorem eleft_calls (W : World) (base g : Nat) (A : Option Addr) (c : Nat) (xs : List Int) (s : RS) (h : Eyd W base g A c xs s) (hs : s.Ok xs) :
    Calls Try.prog 39 #[.pointer (some ⟨g, 0, none⟩)] W fun e w' => e = .returned (.int .i64 ((xs.length : Int) - (s.at_ : Int))) ∧ Below W.heap.size W w' := by
  have c0 := blk_cell h.blk 0
  have c1 := blk_cell h.blk 1
  simp at c0 c1
  have hl : (xs.length : Int) ≤ 9223372036854775807 := by have := h.rd.2.1; omega
  have ha : (s.at_ : Int) ≤ (xs.length : Int) := by have := hs.at_; omega
  have q1 : IntKind.i64.wrap ((xs.length : Int) - (s.at_ : Int)) = (xs.length : Int) - (s.at_ : Int) := wrap_in (by omega) (by omega)
  clear hs h
  go_enter Try.func39, Try.ntmps39
  go_wp2_with fail
  go_quiet (fail)
  go_wp2_with fail
  go_ret
  exact ⟨rfl, pw_below_drewN (Below.refl _ _) _⟩
/-- A list that a call of it hands out. -/
def ETaken (W : World) (base g : Nat) (A : Option Addr) (c : Nat) (xs l : List Int) (s1 : RS) (e : Ending) (w' : World) : Prop :=
  ∃ u, e = .returned u ∧ w'.ownsRow W.heap.size 5 1 u l.length (encs I l) ∧ EyTo W w' base g A c xs s1
theorem ecut {W : World} {A : Option Addr} {c n : Nat} {xs : List Int} (h : ReadsOf I 0 W A xs.length xs) (hcap : xs.length ≤ c) (a : Nat) (hn : a + n ≤ xs.length) : ReadsOf I 0 W (if c = a then A else A.map (·.add (a * 1))) n ((xs.drop a).take n) := by
  have h1 := h.drop_ (c := c) a (by omega) hcap
  rw [Nat.mul_one]
  have h2 := h1.take_ n (by omega)
  exact h2
theorem own_put {W : World} {B g n : Nat} {u : Value} {l : List Int} (h : W.ownsRow B 5 1 u n (encs I l)) {A : Option Addr} {c base : Nat} {xs : List Int} {s : RS} (hE : Eyd W base g A c xs s) (j : Nat) (v : Value) : (W.setCell ⟨g, j, none⟩ v).ownsRow B 5 1 u n (encs I l) :=
  own_other h (grown_set W g j v) (.inr (fun e => by
    obtain ⟨cs, hk⟩ := own_kind h g e
    rw [hE.blk] at hk
    simp at hk))
set_option maxRecDepth 20000 in
set_option maxHeartbeats 1600000 in
theorem eraw_calls (W : World) (base g : Nat) (A : Option Addr) (c : Nat) (xs : List Int) (s : RS) (n : Int) (h : Eyd W base g A c xs s) (hs : s.Ok xs) (hb : base ≤ W.heap.size) (hxl : xs.length ≤ 140737488355328) :
    Calls Try.prog 14 #[.pointer (some ⟨g, 0, none⟩), .int .i64 n] W (ETaken W base g A c xs (rRaw xs s n).1 (rRaw xs s n).2) := by
  obtain ⟨a, m⟩ := s
  have c0 := blk_cell h.blk 0
  have c1 := blk_cell h.blk 1
  have c2 := blk_cell h.blk 2
  have f1 := blk_frozen h.blk 1
  have f2 := blk_frozen h.blk 2
  simp at c0 c1 c2
  have HB := Lib.hid hb
  have H := Lib.hid h
  by_cases hm : m = 0
  · subst hm
    have e0 : errN 0 = 0 := rfl
    rw [e0] at c2
    by_cases hneg : n < 0
    · have e : rRaw xs ⟨a, 0⟩ n = ([], ⟨a, 4⟩) := by simp [rRaw, hneg]
      rw [e]
      have FIN := Lib.hid (eyto_met (EyTo.refl h) 4)
      clear h hs hb e e0
      go_enter Try.func14, Try.ntmps14
      go_wp2_with fail
      go_ret
      exact ⟨_, rfl, own_nil _ _ _ _, FIN.out⟩
    · have CL := Lib.hid (eleft_calls W base g A c xs ⟨a, 0⟩ h hs)
      by_cases hov : n ≤ (xs.length : Int) - (a : Int)
      · obtain ⟨k, rfl⟩ := Int.eq_ofNat_of_zero_le (show 0 ≤ n by omega)
        have e : rRaw xs ⟨a, 0⟩ (k : Int) = ((xs.drop a).take k, ⟨a + k, 0⟩) := by simp only [rRaw, rNext, if_true]; rw [if_neg (by omega), if_pos hov, Int.toNat_natCast]
        rw [e]
        have hle : a + k ≤ xs.length := by omega
        have hlk : ((xs.drop a).take k).length = k := by simp; omega
        obtain ⟨i0, hi0, _, hs0, _⟩ := info_parts info5
        have q : ∀ W : World, (Instr.slice 22 (.slice A xs.length c) (some (.int .i64 (a : Int))) (some (.int .i64 ((a : Int) + (k : Int)))) none).run Try.prog W = .ok (.slice (if c = a then A else A.map (·.add (a * 1))) k (c - a)) W := fun W => by
          have h := cut_mid (P := Try.prog) 22 5 .i64 .i64 Try.underlying22 hi0 1 hs0 A xs.length c (a : Int) ((a : Int) + k) (by omega) (by omega) (by omega) H.out.cap W
          rw [Int.toNat_natCast, show ((a : Int) + (k : Int)).toNat - a = k by omega] at h
          exact h
        have HCUT : Hid (ReadsOf I 0 W (if c = a then A else A.map (·.add (a * 1))) k ((xs.drop a).take k)) := ecut h.rd h.cap a hle
        obtain ⟨A2, hA2⟩ : ∃ A2, A2 = (if c = a then A else A.map (·.add (a * 1))) := ⟨_, rfl⟩
        rw [← hA2] at HCUT
        simp only [← hA2] at q
        have HLK := Lib.hid hlk
        have p2 : IntKind.i64.wrap ((a : Int) + (k : Int)) = (a : Int) + (k : Int) := wrap_in (by omega) (by omega)
        have o1 : decide ((xs.length : Int) - (a : Int) < (k : Int)) = false := decide_eq_false (by omega)
        have o2 : decide ((k : Int) < 0) = false := decide_eq_false (by omega)
        have hak : (a : Int) + (k : Int) ≤ 140737488355328 := by omega
        clear h hs hb e e0 hA2 hle hlk hi0 hs0 hov
        go_enter Try.func14, Try.ntmps14
        go_wp2_with fail
        refine CL.out.mono ?_; rintro e w1 ⟨rfl, hb1⟩
        have h1 := H.out.below hb1
        have d0 := blk_cell h1.blk 0
        have d1 := blk_cell h1.blk 1
        simp at d0 d1
        have CC : Hid (∀ W', Below w1.heap.size w1 W' → Calls Try.prog 6 #[.slice A2 k (c - a)] W' fun e w' => ∃ u, e = .returned u ∧ w'.ownsRow W'.heap.size 5 1 u ((xs.drop a).take k).length (encs I ((xs.drop a).take k)) ∧ Below W'.heap.size W' w') := fun W' hw => by
          have hr : ReadsOf I 0 W' A2 ((xs.drop a).take k).length ((xs.drop a).take k) := by rw [HLK.out]; exact (HCUT.out.below hb1).below hw
          have h := copy_calls ((xs.drop a).take k) A2 (c - a) W' W'.heap.size (Nat.le_refl _) hr (by rw [HLK.out]; omega)
          rw [HLK.out] at h ⊢
          exact h
        have HB1 := Lib.hid hb1
        have H1 := Lib.hid h1
        clear hb1 h1 c0 c1 c2 f1 f2
        go_wp2_with fail
        first | (go_region_law (first | (go_simp; go_at_call 6; refine (CC.out _ (by first | exact Below.refl _ _ | exact (Below.refl _ _).drew | exact pw_below_drewN (Below.refl _ _) _)).mono ?_; rintro e w3 ⟨u3, rfl, hu3, hb3⟩; have HU3 := Lib.hid hu3; have HB3 := Lib.hid hb3; clear hu3 hb3; have h3 := H1.out.below ((Below.refl _ w1).drew.trans HB3.out); have g1 := blk_cell h3.blk 1; have k1 := blk_frozen h3.blk 1; simp at g1; have H3 := Lib.hid h3; clear h3))) | fail
        all_goals go_wp2_with fail
        all_goals go_ret
        all_goals exact ⟨u3, rfl, own_put (own_less HU3.out (Nat.le_trans HB1.out.size (Nat.le_of_eq (by simp)))) H3.out _ _, eyto_at (((EyTo.refl H.out).below HB.out HB1.out).below HB.out ((Below.refl _ w1).drew.trans HB3.out)) _⟩
      · have e : rRaw xs ⟨a, 0⟩ n = ([], ⟨a, 1⟩) := by simp [rRaw, rNext, hneg, hov]
        rw [e]
        have o1 : decide ((xs.length : Int) - (a : Int) < n) = true := decide_eq_true (by omega)
        have o2 : decide (n < 0) = false := decide_eq_false hneg
        clear h hs hb e e0 hov hneg
        go_enter Try.func14, Try.ntmps14
        go_wp2_with fail
        refine CL.out.mono ?_; rintro e w1 ⟨rfl, hb1⟩
        have h1 := H.out.below hb1
        have d2 := blk_cell h1.blk 2
        have k2 := blk_frozen h1.blk 2
        simp at d2
        have FIN := Lib.hid (eyto_met ((EyTo.refl H.out).below HB.out hb1) 1)
        have HB1 := Lib.hid hb1
        clear hb1 h1 c0 c1 c2 f1 f2
        go_wp2_with fail
        go_ret
        exact ⟨_, rfl, own_nil _ _ _ _, FIN.out⟩
  · have hm' : ¬ errN m = 0 := fun e => hm (errN_zero.1 e)
    have e : rRaw xs ⟨a, m⟩ n = ([], ⟨a, m⟩) := by simp [rRaw, rNext, hm]
    rw [e]
    have hm2 : (errN m == 0) = false := by simpa using hm'
    have FIN := Lib.hid (EyTo.refl h)
    clear h hs hb e hm hm'
    go_enter Try.func14, Try.ntmps14
    go_wp2_with fail
    go_ret
    exact ⟨_, rfl, own_nil _ _ _ _, FIN.out⟩
end Go.Proofs.Ytoeiaimoppmjdaa.Wr
