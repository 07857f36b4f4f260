/- The two paces side by side; twelve pairs in two arrays. -/
import Derived.Test.YtfmggmpllggbnaaPaceRef2
namespace Go.Proofs.Ytfmggmpllggbnaa.Pace
open Go.RowKit
set_option linter.unusedVariables false
set_option linter.unusedSimpArgs false
theorem below_only {B g : Nat} {a w w' : World} (h : Below B a w) (hg : w.grownBy w' (some g)) (hB : B ≤ w.heap.size) (hr : B ≤ g) : Below B a w' := h.grown hg hB (by rintro k ⟨⟩; exact hr)
theorem isO_only {g g' : Nat} {cap left gap : Int} {w w' : World} (h : IsO w g cap left gap) (hg : w.grownBy w' (some g')) (hne : g ≠ g') : IsO w' g cap left gap :=
  ⟨(hg.block g h.p.lt (by rintro ⟨⟩; exact hne rfl)).trans h.p, h.c, h.g, h.l⟩
theorem isO_below {B g : Nat} {cap left gap : Int} {w w' : World} (h : IsO w g cap left gap) (hb : Below B w w') (hg : g < B) : IsO w' g cap left gap :=
  ⟨(hb.block g hg).trans h.p, h.c, h.g, h.l⟩
/-- A tick, whatever it answers. -/
def told (left : Int) : Bool := decide (left ≤ 1)
def leftA (left pg : Int) : Int := if left ≤ 1 then pg else left - 1
def gapA (cap left pg : Int) : Int := if left ≤ 1 then dbl cap pg else pg
theorem tick_calls (g : Nat) (cap left gap : Int) (w : World) (h : IsO w g cap left gap) :
    Calls Try.prog 11 #[ptr g] w fun e w' => e = .returned (.bool (told left)) ∧ IsO w' g cap (leftA left gap) (gapA cap left gap) ∧ w.grownBy w' (some g) := by
  unfold told leftA gapA
  by_cases hl : left ≤ 1
  · rw [if_pos hl, if_pos hl, decide_eq_true hl]; exact tick_yes g cap left gap w h hl
  · rw [if_neg hl, if_neg hl, decide_eq_false hl]; exact tick_no g cap left gap w h (by omega)
def S (most n left gap : Int) : Prop := (n = 0 ∧ left = 0 ∧ gap = 1) ∨ ∃ K, 1 ≤ n ∧ T most n K ∧ left = (ag most K).1 - n ∧ gap = (ag most K).2
theorem two_wait {w : World} {b : Nat} {most n left gap : Int} (hq : IsQ w b most n) (hs : S most n left gap) (hm : 1 ≤ most ∧ most ≤ 64) (hn : 0 ≤ n ∧ n ≤ 100000) :
    Calls Try.prog 16 #[ptr b] w fun e w' => e = .returned (.int .i64 left) ∧ IsQ w' b most n ∧ w.grownBy w' (some b) :=
  (qwait_calls b most n w hq hm hn).mono fun e w' ⟨h1, h2, h3, h4⟩ => ⟨by
    rcases hs with ⟨s1, s2, s3⟩ | ⟨K, s1, s2, s3, s4⟩
    · rw [h1 s1, s2]
    · obtain ⟨K', e1, e2⟩ := h2 (by omega)
      rw [e2, T.one e1 s2, s3], h4, h3⟩
theorem T.zero {most : Int} {K : Nat} (h : T most 0 K) (hm : 1 ≤ most ∧ most ≤ 64) : K = 0 := by
  rcases Nat.eq_zero_or_pos K with h0 | h0
  · exact h0
  · have := h.lo 0 h0; simp [ag] at this
theorem S.tick {most n left gap : Int} {K K' : Nat} (h : S most n left gap) (hm : 1 ≤ most ∧ most ≤ 64) (hn : 0 ≤ n) (h1 : T most n K) (h2 : T most (n + 1) K') :
    decide (K < K') = told left ∧ S most (n + 1) (leftA left gap) (gapA most left gap) := by
  unfold told leftA gapA
  rcases h with ⟨q1, q2, q3⟩ | ⟨K2, q1, q2, q3, q4⟩
  · subst q1 q2 q3
    have e1 := h1.zero hm
    subst e1
    have t1 : T most (0 + 1) 1 := ⟨fun j hj => by have : j = 0 := by omega
                                                  subst this; simp [ag], by simp [ag]⟩
    have e2 := T.one h2 t1
    subst e2
    exact ⟨by simp, .inr ⟨1, by omega, t1, by simp [ag], by simp [ag]⟩⟩
  · have e1 := T.one h1 q2
    subst e1
    by_cases hl : left ≤ 1
    · have hat : (ag most K).1 = n + 1 := by have := h1.hi; omega
      have hg := ag_gap most hm K
      have t1 : T most (n + 1) (K + 1) := ⟨fun j hj => by
        rcases Nat.lt_succ_iff_lt_or_eq.1 hj with h | rfl
        · have := h1.lo j h; omega
        · omega, by simp only [ag]; omega⟩
      have e2 := T.one h2 t1
      subst e2
      rw [if_pos hl, if_pos hl]
      exact ⟨by simp [hl], .inr ⟨K + 1, by omega, t1, by simp only [ag]; omega, by simp only [ag]; rw [q4]⟩⟩
    · have t1 : T most (n + 1) K := ⟨fun j hj => by have := h1.lo j hj; omega, by omega⟩
      have e2 := T.one h2 t1
      subst e2
      rw [if_neg hl, if_neg hl]
      exact ⟨by simp [hl], .inr ⟨_, by omega, t1, by omega, q4⟩⟩
theorem two_tick {w : World} {b : Nat} {most n left gap : Int} (hq : IsQ w b most n) (hs : S most n left gap) (hm : 1 ≤ most ∧ most ≤ 64) (hn : 0 ≤ n ∧ n ≤ 99999) :
    Calls Try.prog 12 #[ptr b] w fun e w' => e = .returned (.bool (told left)) ∧ IsQ w' b most (n + 1) ∧ S most (n + 1) (leftA left gap) (gapA most left gap) ∧ w.grownBy w' (some b) :=
  (qtick_calls b most n w hq hm hn).mono fun e w' ⟨⟨K, K', h1, h2, h3⟩, h4, h5⟩ => by
    obtain ⟨e1, e2⟩ := hs.tick hm hn.1 h1 h2
    exact ⟨by rw [h3, e1], h4, e2, h5⟩
theorem IsO.heap {w w' : World} {g : Nat} {cap left gap : Int} (h : IsO w g cap left gap) (e : w'.heap = w.heap) : IsO w' g cap left gap := ⟨by have := h.p; unfold IsP at *; rw [e]; exact this, h.c, h.g, h.l⟩
theorem IsQ.heap {w w' : World} {g : Nat} {most n : Int} (h : IsQ w g most n) (e : w'.heap = w.heap) : IsQ w' g most n := by unfold IsQ at *; rw [e]; exact h
structure Two (w : World) (a b : Nat) (most n left gap N : Int) : Prop where
  m : 1 ≤ most ∧ most ≤ 64
  nn : 0 ≤ n ∧ n ≤ N
  o : IsO w a most left gap
  q : IsQ w b most n
  s : S most n left gap
theorem ne_oq {w : World} {a b : Nat} {most n left gap most' : Int} (h : IsO w a most left gap) (k : IsQ w b most' n) : a ≠ b := by
  rintro rfl
  have h1 := h.p
  unfold IsP at h1
  unfold IsQ at k
  rw [h1] at k
  simp at k
def Twos (w : World) (a b : Nat) (N : Int) : Prop := ∃ most n left gap, Two w a b most n left gap N
theorem Twos.below {w w' : World} {a b : Nat} {N N' : Int} (h : Twos w a b N) (hb : Below w.heap.size w w') (hN : N ≤ N') : Twos w' a b N' := by
  obtain ⟨most, n, left, gap, h⟩ := h
  exact ⟨most, n, left, gap, h.m, ⟨h.nn.1, Int.le_trans h.nn.2 hN⟩, isO_below h.o hb h.o.p.lt, h.q.below hb h.q.lt, h.s⟩
theorem Twos.only {w w' : World} {a b g : Nat} {N N' : Int} (h : Twos w a b N) (hb : w.grownBy w' (some g)) (hN : N ≤ N') (h1 : a ≠ g) (h2 : b ≠ g) : Twos w' a b N' := by
  obtain ⟨most, n, left, gap, h⟩ := h
  exact ⟨most, n, left, gap, h.m, ⟨h.nn.1, Int.le_trans h.nn.2 hN⟩, isO_only h.o hb h1, h.q.only hb h2, h.s⟩
/-- An array of twelve pointers: so many of them are laid. -/
def Arr (w : World) (g : Nat) (t : TypeId) (m : Nat) (pa : Nat → Nat) : Prop := ∃ cs : Array Value, w.heap[g]? = some (.cells cs t (0, 0)) ∧ cs.size = 12 ∧ ∀ i, i < m → cs[i]? = some (ptr (pa i))
theorem Arr.cell {w : World} {g : Nat} {t : TypeId} {m : Nat} {pa : Nat → Nat} (h : Arr w g t m pa) (i : Nat) (hi : i < m) : w.cell? ⟨g, i, none⟩ = some (ptr (pa i)) := by
  obtain ⟨cs, h1, h2, h3⟩ := h
  rw [cell_of_row w g i cs t (0, 0) h1]; exact h3 i hi
theorem Arr.frozen {w : World} {g : Nat} {t : TypeId} {m : Nat} {pa : Nat → Nat} (h : Arr w g t m pa) (i : Nat) : w.frozen? ⟨g, i, none⟩ = false := by
  obtain ⟨cs, h1, h2, h3⟩ := h
  simp [World.frozen?, h1]
theorem Arr.any {w : World} {g : Nat} {t : TypeId} {m : Nat} {pa : Nat → Nat} (h : Arr w g t m pa) (i : Nat) (hi : i < 12) : ∃ v, w.cell? ⟨g, i, none⟩ = some v := by
  obtain ⟨cs, h1, h2, h3⟩ := h
  rw [cell_of_row w g i cs t (0, 0) h1]
  exact ⟨cs[i], by rw [Array.getElem?_eq_getElem]⟩
theorem Arr.lt {w : World} {g : Nat} {t : TypeId} {m : Nat} {pa : Nat → Nat} (h : Arr w g t m pa) : g < w.heap.size := by
  obtain ⟨cs, h1, h2, h3⟩ := h
  exact (Array.getElem?_eq_some_iff.1 h1).1
theorem Arr.same {w w' : World} {g : Nat} {t : TypeId} {m : Nat} {pa : Nat → Nat} (h : Arr w g t m pa) (hh : w'.heap[g]? = w.heap[g]?) : Arr w' g t m pa := by
  obtain ⟨cs, h1, h2, h3⟩ := h
  exact ⟨cs, hh.trans h1, h2, h3⟩
def put (pa : Nat → Nat) (k a : Nat) : Nat → Nat := fun i => if i = k then a else pa i
theorem Arr.put {w : World} {g : Nat} {t : TypeId} {m m' : Nat} {pa : Nat → Nat} (h : Arr w g t m pa) (k a : Nat) (hk : k < 12) (hm : m' = if m = k then k + 1 else m) : Arr (w.setCell ⟨g, k, none⟩ (ptr a)) g t m' (Pace.put pa k a) := by
  obtain ⟨cs, h1, h2, h3⟩ := h
  refine ⟨cs.set! k (ptr a), ?_, by simp [h2], fun i hi => ?_⟩
  · simp [World.setCell, Array.getElem?_modify, h1, Array.set!_eq_setIfInBounds]
  · rw [Array.set!_eq_setIfInBounds, Array.getElem?_setIfInBounds]
    unfold Pace.put
    by_cases hik : i = k
    · rw [if_pos hik.symm, if_pos hik, if_pos (by omega)]
    · rw [if_neg (fun e => hik e.symm), if_neg hik]
      exact h3 i (by split at hm <;> omega)
structure Inv (w0 w : World) (B m : Nat) (N : Int) (pa pb : Nat → Nat) : Prop where
  c : Arr w B 27 m pa
  d : Arr w (B + 1) 29 m pb
  two : ∀ i, i < m → Twos w (pa i) (pb i) N ∧ B + 2 ≤ pa i ∧ B + 2 ≤ pb i
  ne : ∀ i j, i < m → j < m → i ≠ j → pa i ≠ pa j ∧ pb i ≠ pb j
  b : Below B w0 w
theorem Inv.keep {w0 w w' : World} {B m : Nat} {N N' : Int} {pa pb : Nat → Nat} (h : Inv w0 w B m N pa pb) (hb : Below w.heap.size w w') (hN : N ≤ N') : Inv w0 w' B m N' pa pb :=
  ⟨h.c.same (hb.block _ h.c.lt), h.d.same (hb.block _ h.d.lt), fun i hi => ⟨(h.two i hi).1.below hb hN, (h.two i hi).2⟩, h.ne, h.b.trans (hb.mono (Nat.le_of_lt h.c.lt))⟩
theorem Twos.ne {w : World} {a b a' b' : Nat} {N N' : Int} (h : Twos w a b N) (h' : Twos w a' b' N') : a ≠ b' := by
  obtain ⟨_, _, _, _, h⟩ := h
  obtain ⟨_, _, _, _, h'⟩ := h'
  exact ne_oq h.o h'.q
theorem Inv.turn {w0 w w1 w2 : World} {B m k : Nat} {N N' : Int} {pa pb : Nat → Nat} (h : Inv w0 w B m N pa pb) (hk : k < m) (h1 : w.grownBy w1 (some (pa k))) (h2 : w1.grownBy w2 (some (pb k))) (ht : Twos w2 (pa k) (pb k) N') (hN : N ≤ N') :
    Inv w0 w2 B m N' pa pb := by
  have hk2 := h.two k hk
  refine ⟨h.c.same ?_, h.d.same ?_, fun i hi => ⟨?_, (h.two i hi).2⟩, h.ne, below_only (below_only h.b h1 (Nat.le_of_lt h.c.lt) (by omega)) h2 (Nat.le_trans (Nat.le_of_lt h.c.lt) h1.size) (by omega)⟩
  · have := h.c.lt; have := h1.size
    exact (h2.block _ (by omega) (by intro e; injection e; omega)).trans (h1.block _ (by omega) (by intro e; injection e; omega))
  · have := h.d.lt; have := h1.size
    exact (h2.block _ (by omega) (by intro e; injection e; omega)).trans (h1.block _ (by omega) (by intro e; injection e; omega))
  · by_cases hik : i = k
    · subst hik; exact ht
    · have hne := h.ne i k hi hk hik
      have n1 := (h.two i hi).1.ne (hk2.1)
      have n2 := (hk2.1).ne (h.two i hi).1
      exact ((h.two i hi).1.only h1 (Int.le_refl _) hne.1 (fun e => n2 e.symm)).only h2 hN n1 hne.2
theorem Inv.arr {w0 w w' : World} {B m g : Nat} {N : Int} {pa pb : Nat → Nat} (h : Inv w0 w B m N pa pb) (hg : w.grownBy w' (some g)) (hB : B + 2 ≤ g) : Arr w' B 27 m pa ∧ Arr w' (B + 1) 29 m pb :=
  ⟨h.c.same (hg.block _ h.c.lt (by intro e; injection e; omega)), h.d.same (hg.block _ h.d.lt (by intro e; injection e; omega))⟩
theorem only_of {a w : World} {g : Nat} (h1 : w.os = a.os) (h2 : w.tape = a.tape) (h3 : w.output = a.output) (h4 : w.heap = a.heap) : a.grownBy w (some g) := ⟨h1, h2, h3, by rw [h4]; exact Nat.le_refl _, fun _ _ _ => by rw [h4]⟩
theorem set_only (w : World) (g i : Nat) (v : Value) : w.grownBy (w.setCell ⟨g, i, none⟩ v) (some g) := only_set (only_refl _ _) _ _
theorem Inv.put {w0 w w1 : World} {B m m' k a b : Nat} {N N' : Int} {pa pb : Nat → Nat} (h : Inv w0 w B m N pa pb) (hk : k < 12) (hm : m' = if m = k then k + 1 else m) (hb : Below w.heap.size w w1) (ha : w.heap.size ≤ a) (hb' : w.heap.size ≤ b) (ht : Twos w1 a b N') (hN : N ≤ N')
    (hB : B + 2 ≤ w.heap.size) : Inv w0 ((w1.setCell ⟨B, k, none⟩ (ptr a)).setCell ⟨B + 1, k, none⟩ (ptr b)) B m' N' (Pace.put pa k a) (Pace.put pb k b) := by
  have h1 := h.keep hb hN
  have g1 := set_only w1 B k (ptr a)
  have g2 := set_only (w1.setCell ⟨B, k, none⟩ (ptr a)) (B + 1) k (ptr b)
  have hold : ∀ i, i < m → pa i < w.heap.size ∧ pb i < w.heap.size := fun i hi => by
    obtain ⟨most, n, left, gap, hh⟩ := (h.two i hi).1
    exact ⟨hh.o.p.lt, hh.q.lt⟩
  have hne : a ≠ b := by
    exact ht.ne ht
  have hs : B + 1 < w1.heap.size := h1.d.lt
  refine ⟨?_, ?_, fun i hi => ?_, fun i j hi hj hij => ?_, below_only (below_only h1.b g1 (by omega) (Nat.le_refl _)) g2 (by have := g1.size; omega) (by omega)⟩
  · exact (h1.c.put k a hk hm).same (g2.block _ (by have := g1.size; omega) (by intro e; injection e; omega))
  · exact (h1.d.same (g1.block _ hs (by intro e; injection e; omega))).put k b hk hm
  · unfold Pace.put
    by_cases hik : i = k
    · rw [if_pos hik, if_pos hik]
      exact ⟨(ht.only g1 (Int.le_refl _) (by omega) (by omega)).only g2 (Int.le_refl _) (by omega) (by omega), by omega, by omega⟩
    · rw [if_neg hik, if_neg hik]
      have him : i < m := by split at hm <;> omega
      have h2 := h1.two i him
      exact ⟨(h2.1.only g1 (Int.le_refl _) (by omega) (by omega)).only g2 (Int.le_refl _) (by omega) (by omega), h2.2⟩
  · unfold Pace.put
    by_cases hik : i = k
    · rw [if_pos hik, if_pos hik, if_neg (fun e => hij (hik.trans e.symm)), if_neg (fun e => hij (hik.trans e.symm))]
      have := hold j (by split at hm <;> omega)
      omega
    · rw [if_neg hik, if_neg hik]
      have := hold i (by split at hm <;> omega)
      by_cases hjk : j = k
      · rw [if_pos hjk, if_pos hjk]; omega
      · rw [if_neg hjk, if_neg hjk]
        exact h.ne i j (by split at hm <;> omega) (by split at hm <;> omega) hij
theorem made_yes (most : Int) (w : World) (h : 1 ≤ most ∧ most ≤ 64) :
    Calls Try.prog 9 #[.int .i64 most] w fun e w' => ∃ a b, e = .returned (.tuple #[ptr a, ptr b, .bool true]) ∧ Twos w' a b 0 ∧ w.heap.size ≤ a ∧ w.heap.size ≤ b ∧ Below w.heap.size w w' := by
  have C1 := Lib.hid (new_yes most w h)
  have C2 := Lib.hid (qnew_yes most · h)
  go_enter Try.func9, Try.ntmps9
  go_wp2_with fail
  refine C1.out.mono ?_; rintro e w1 ⟨rfl, hi, hb⟩
  have HI := Lib.hid hi
  have HB := Lib.hid hb
  clear hi hb
  go_wp2_with fail
  refine (C2.out _).mono ?_; rintro e w2 ⟨rfl, hq, hb2⟩
  have HQ := Lib.hid hq
  have HB2 := Lib.hid hb2
  clear hq hb2
  go_wp2_with fail
  go_ret3
  exact ⟨_, _, rfl, ⟨most, 0, 0, 1, h, by omega, isO_below HI.out HB2.out HI.out.p.lt, HQ.out, .inl ⟨rfl, rfl, rfl⟩⟩, Nat.le_refl _, HB.out.size, HB.out.trans (HB2.out.mono HB.out.size)⟩
theorem made_no (most : Int) (w : World) (h : most < 1 ∨ 64 < most) :
    Calls Try.prog 9 #[.int .i64 most] w fun e w' => e = .returned (.tuple #[.pointer none, .pointer none, .bool true]) ∧ w = w' := by
  have C1 := Lib.hid (new_no most w h)
  have C2 := Lib.hid (qnew_no most · h)
  clear h
  go_enter Try.func9, Try.ntmps9
  go_wp2_with fail
  refine C1.out.mono ?_; rintro e w1 ⟨rfl, rfl⟩
  go_wp2_with fail
  refine (C2.out _).mono ?_; rintro e w2 ⟨rfl, rfl⟩
  go_wp2_with fail
  go_ret3
  exact ⟨rfl, rfl⟩
structure Same (a b : World) : Prop where
  heap : b.heap = a.heap
  os : b.os = a.os
  tape : b.tape = a.tape
  output : b.output = a.output
theorem Same.refl (w : World) : Same w w := ⟨rfl, rfl, rfl, rfl⟩
theorem Same.drew (w : World) : Same w w.drew := ⟨rfl, rfl, rfl, rfl⟩
theorem Same.drewN (w : World) (n : Nat) : Same w (w.drewN n) := ⟨rfl, rfl, rfl, rfl⟩
theorem Same.only {a b : World} (h : Same a b) (g : Nat) : a.grownBy b (some g) := only_of h.os h.tape h.output h.heap
theorem Same.below {a b : World} (h : Same a b) (B : Nat) : Below B a b := ⟨h.os, h.tape, h.output, by rw [h.heap]; exact Nat.le_refl _, fun _ _ => by rw [h.heap]⟩
theorem Inv.tick {w0 w : World} {B m k : Nat} {N : Int} {pa pb : Nat → Nat} (h : Inv w0 w B m N pa pb) (hk : k < m) (hN : N ≤ 99999) :
    ∃ r : Bool, ∀ W, Same w W → Calls Try.prog 11 #[ptr (pa k)] W fun e w2 => e = .returned (.bool r) ∧ w2.cell? ⟨B, k, none⟩ = some (ptr (pa k)) ∧ w2.cell? ⟨B + 1, k, none⟩ = some (ptr (pb k)) ∧
      ∀ W', Same w2 W' → Calls Try.prog 12 #[ptr (pb k)] W' fun e w3 => e = .returned (.bool r) ∧ Inv w0 w3 B m (N + 1) pa pb := by
  obtain ⟨h0, hB1, hB2⟩ := h.two k hk
  obtain ⟨most, n, left, gap, ht⟩ := h0
  refine ⟨told left, fun W hW => (tick_calls (pa k) most left gap W (ht.o.heap hW.heap)).mono fun e w2 ⟨he, ho, hg⟩ => ?_⟩
  have hg' := only_trans (hW.only _) hg
  have har := h.arr hg' hB1
  have hne := ne_oq ht.o ht.q
  refine ⟨he, har.1.cell k hk, har.2.cell k hk, fun W' hW' => (two_tick ((ht.q.only hg' hne.symm).heap hW'.heap) ht.s ht.m (by have := ht.nn; omega)).mono fun e w3 ⟨he, hq, hs, hg3⟩ => ⟨he, ?_⟩⟩
  have hg3' := only_trans (hW'.only _) hg3
  exact h.turn hk hg' hg3' ⟨most, n + 1, _, _, ht.m, by have := ht.nn; omega, isO_only ho hg3' hne, hq, hs⟩ (by omega)
theorem Inv.reset {w0 w : World} {B m k : Nat} {N : Int} {pa pb : Nat → Nat} (h : Inv w0 w B m N pa pb) (hk : k < m) (hN : 0 ≤ N) :
    Calls Try.prog 13 #[ptr (pa k)] w fun e w2 => e = .returned (.tuple #[]) ∧ w2.cell? ⟨B, k, none⟩ = some (ptr (pa k)) ∧ w2.cell? ⟨B + 1, k, none⟩ = some (ptr (pb k)) ∧
      Calls Try.prog 14 #[ptr (pb k)] w2 fun e w3 => e = .returned (.tuple #[]) ∧ Inv w0 w3 B m (N + 1) pa pb := by
  obtain ⟨h0, hB1, hB2⟩ := h.two k hk
  obtain ⟨most, n, left, gap, ht⟩ := h0
  refine (reset_calls (pa k) most left gap w ht.o).mono fun e w2 ⟨he, ho, hg⟩ => ?_
  have har := h.arr hg hB1
  have hne := ne_oq ht.o ht.q
  refine ⟨he, har.1.cell k hk, har.2.cell k hk, (qreset_calls (pb k) most n w2 (ht.q.only hg hne.symm)).mono fun e w3 ⟨he, hq, hg3⟩ => ⟨he, ?_⟩⟩
  exact h.turn hk hg hg3 ⟨most, 0, 0, 1, ht.m, by omega, isO_only ho hg3 hne, hq, .inl ⟨rfl, rfl, rfl⟩⟩ (by omega)
theorem Inv.wait {w0 w : World} {B m k : Nat} {N : Int} {pa pb : Nat → Nat} (h : Inv w0 w B m N pa pb) (hk : k < m) (hN : N ≤ 100000) :
    ∃ r : Int, ∀ W, Same w W → Calls Try.prog 15 #[ptr (pa k)] W fun e w2 => e = .returned (.int .i64 r) ∧ W = w2 ∧
      ∀ W', Same w W' → Calls Try.prog 16 #[ptr (pb k)] W' fun e w3 => e = .returned (.int .i64 r) ∧ Inv w0 w3 B m N pa pb := by
  obtain ⟨h0, hB1, hB2⟩ := h.two k hk
  obtain ⟨most, n, left, gap, ht⟩ := h0
  refine ⟨left, fun W hW => (wait_tells (pa k) most left gap W (ht.o.heap hW.heap)).mono fun e w2 ⟨he, hw⟩ => ?_⟩
  have hne := ne_oq ht.o ht.q
  refine ⟨he, hw, fun W' hW' => (two_wait (ht.q.heap hW'.heap) ht.s ht.m (by have := ht.nn; omega)).mono fun e w3 ⟨he, hq, hg3⟩ => ⟨he, ?_⟩⟩
  have hg3' := only_trans (hW'.only _) hg3
  exact h.turn hk (only_refl _ _) hg3' ⟨most, n, left, gap, ht.m, ht.nn, isO_only ht.o hg3' hne, hq, ht.s⟩ (Int.le_refl _)
end Go.Proofs.Ytfmggmpllggbnaa.Pace
