/- The document's Reader: numbers of a fixed size. -/
import Derived.Test.YtoeiaimoppmjdaaDoorEye
namespace Go.Proofs.YtoeiaimoppmjdaaDoor.Wr
open Go.RowKit Go.Proofs.YtoeiaimoppmjdaaDoorW.PrintWords Go.Proofs.YtoeiaimoppmjdaaDoor.Bytes
open Go.Sort (grow)
set_option linter.unusedVariables false
set_option linter.unusedSimpArgs false
theorem erRaw_byt {xs : List Int} (h : Byt xs) (s : RS) (n : Int) : Byt (rRaw xs s n).1 := by
  unfold rRaw rNext
  split
  · intro a ha; cases ha
  · split
    · split
      · exact byt_take (byt_drop h _) _
      · intro a ha; cases ha
    · intro a ha; cases ha
theorem erRaw_len (xs : List Int) (s : RS) (n : Nat) : (rRaw xs s (n : Int)).1.length ≤ n := by
  unfold rRaw rNext
  split
  · simp
  · split
    · split
      · simp; omega
      · simp
    · simp
set_option maxRecDepth 20000 in
theorem efix_calls (W : World) (base g : Nat) (A : Option Addr) (c : Nat) (xs : List Int) (s : RS) (size : Nat) (h : Eyd W base g A c xs s) (hs : s.Ok xs) (hb : base ≤ W.heap.size) (hxl : xs.length ≤ 140737488355328) (hz : size ≤ 8) (hx : Byt xs) :
    Calls Tryd.prog 101 #[.pointer (some ⟨g, 0, none⟩), .int .i64 size] W fun e w' => e = .returned (.int .u64 ((rFix xs s size).1 : Int)) ∧ EyTo W w' base g A c xs (rFix xs s size).2 := by
  have CN := Lib.hid (eraw_calls W base g A c xs s size h hs hb hxl)
  have HF : Hid (rFix xs s size = (numBE (rRaw xs s size).1, (rRaw xs s size).2)) := rFix_raw xs s size
  have hly := erRaw_byt hx s size
  have hll := Nat.le_trans (erRaw_len xs s size) hz
  obtain ⟨l, hl⟩ : ∃ l, l = (rRaw xs s size).1 := ⟨_, rfl⟩
  obtain ⟨s1, hs1⟩ : ∃ s1, s1 = (rRaw xs s size).2 := ⟨_, rfl⟩
  rw [← hl] at hly hll
  rw [← hl, ← hs1] at CN HF
  have HY := Lib.hid hly
  have HBS := Lib.hid hb
  have s1' : (size : Int) ≤ 8 := by omega
  clear h hb hs hx hly hl hs1 hxl
  go_enter Tryd.func101, Tryd.ntmps101
  go_wp2_with fail
  refine CN.out.mono ?_; rintro e w1 ⟨u, rfl, hu, h2⟩
  obtain ⟨A2, c2, rfl, hr2⟩ := own_reads_of (d := 0) hu
  have HR2 : Hid (ReadsOf I 0 w1 A2 l.length l) := hr2
  clear hr2
  have H2 := Lib.hid h2
  clear hu h2
  go_wp2_with fail
  go_loopw [6, 7] (fun m j wr => ∃ k : Nat, m = .int .u64 ((numBE (l.take k) : Nat) : Int) ∧ j = .int .i64 k ∧ k ≤ l.length ∧ Below w1.heap.size w1 wr) (fun _ j _ => l.length - (intOf j).toNat)
  case atStart => exact ⟨0, by simp [numBE], rfl, by omega, Below.refl _ _⟩
  case round =>
    obtain ⟨k, rfl, rfl, hk, hb3⟩ := hrel
    have HB3 := Lib.hid hb3
    clear hb3
    by_cases hlt : k < l.length
    · have hrr := HR2.out
      obtain ⟨ad, hA, hc⟩ := hrr.2.2 (by omega)
      subst hA
      obtain ⟨m0, hm0⟩ : ∃ m, m = numBE (l.take k) := ⟨_, rfl⟩
      obtain ⟨cc, hcc⟩ : ∃ m, m = (l.getD k 0).toNat := ⟨_, rfl⟩
      have hcb := byt_get HY.out k hlt
      have hm1 : m0 * 256 + cc = numBE (l.take (k + 1)) := by rw [hm0, hcc, numBE_take l k hlt]
      have hml : m0 * 256 + cc < 18446744073709551616 := by
        rw [hm1]
        have h1 := numBE_lt (byt_take HY.out (k + 1))
        have h2 : (l.take (k + 1)).length ≤ 8 := by simp; omega
        exact Nat.lt_of_lt_of_le h1 (Nat.le_trans (Nat.pow_le_pow_right (by omega) h2) (by decide))
      have x1 := pw_cell_below HB3.out (hc k (by omega))
      rw [show l.getD k 0 = (cc : Int) by omega] at x1
      obtain ⟨p, hp⟩ : ∃ p : Int, p = (m0 : Int) * 256 := ⟨_, rfl⟩
      have q1 : IntKind.u64.wrap ((m0 : Int) * 256) = p := by rw [hp]; exact IntWalk.u64_in _ ⟨by omega, by omega⟩
      have q2 : IntKind.u64.wrap (p + (cc : Int)) = ((m0 * 256 + cc : Nat) : Int) := by rw [hp]; rw [IntWalk.u64_in _ ⟨by omega, by omega⟩]; push_cast; rfl
      obtain ⟨m1, hmm1⟩ : ∃ m1, m1 = m0 * 256 + cc := ⟨_, rfl⟩
      rw [← hmm1] at q2
      have HM : Hid (m1 = numBE (l.take (k + 1))) := hmm1.trans hm1
      rw [← hm0]
      have i1 : (k : Int) < (l.length : Int) := by omega
      have i2 : (0 : Int) ≤ (k : Int) := by omega
      have cb : (cc : Int) ≤ 255 := by omega
      have kl : (k : Int) ≤ 8 := by omega
      clear hm0 hcc hm1 hml hmm1 hrr hc hcb hp
      go_wp2_with fail
      exact ⟨⟨k + 1, by rw [HM.out], by go_num, by omega, HB3.out⟩, by simp [intOf]; omega⟩
    · have e0 : numBE (l.take k) = numBE l := by rw [List.take_of_length_le (by omega)]
      rw [e0]
      have i1 : ¬ (k : Int) < (l.length : Int) := by omega
      clear e0
      go_wp2_with fail
      go_ret
      rw [HF.out]
      exact ⟨rfl, H2.out.below HBS.out HB3.out⟩
theorem e8_calls (W : World) (base g : Nat) (A : Option Addr) (c : Nat) (xs : List Int) (s : RS) (h : Eyd W base g A c xs s) (hs : s.Ok xs) (hb : base ≤ W.heap.size) (hxl : xs.length ≤ 140737488355328) (hx : Byt xs) :
    Calls Tryd.prog 65 #[.pointer (some ⟨g, 0, none⟩)] W fun e w' => e = .returned (.int .u8 ((rFix xs s 1).1 : Int)) ∧ EyTo W w' base g A c xs (rFix xs s 1).2 := by
  have HC := Lib.hid (efix_calls W base g A c xs s 1 h hs hb hxl (by omega) hx)
  have hlt := rFix_lt hx s 1
  obtain ⟨q, hq⟩ : ∃ q, q = rFix xs s 1 := ⟨_, rfl⟩
  rw [← hq] at HC hlt ⊢
  obtain ⟨r, s1⟩ := q
  clear hq
  have i1 : (r : Int) ≤ 255 := by simp at hlt; omega
  clear h hs hb hx hlt hxl
  go_enter Tryd.func65, Tryd.ntmps65
  go_wp2_with fail
  refine HC.out.mono ?_; rintro e w1 ⟨rfl, h1⟩
  have H1 := Lib.hid h1
  clear h1
  go_wp2_with fail
  go_ret
  exact ⟨rfl, H1.out⟩
theorem e32_calls (W : World) (base g : Nat) (A : Option Addr) (c : Nat) (xs : List Int) (s : RS) (h : Eyd W base g A c xs s) (hs : s.Ok xs) (hb : base ≤ W.heap.size) (hxl : xs.length ≤ 140737488355328) (hx : Byt xs) :
    Calls Tryd.prog 67 #[.pointer (some ⟨g, 0, none⟩)] W fun e w' => e = .returned (.int .u32 ((rFix xs s 4).1 : Int)) ∧ EyTo W w' base g A c xs (rFix xs s 4).2 := by
  have HC := Lib.hid (efix_calls W base g A c xs s 4 h hs hb hxl (by omega) hx)
  have hlt := rFix_lt hx s 4
  obtain ⟨q, hq⟩ : ∃ q, q = rFix xs s 4 := ⟨_, rfl⟩
  rw [← hq] at HC hlt ⊢
  obtain ⟨r, s1⟩ := q
  clear hq
  have i1 : (r : Int) ≤ 4294967295 := by simp at hlt; omega
  clear h hs hb hx hlt hxl
  go_enter Tryd.func67, Tryd.ntmps67
  go_wp2_with fail
  refine HC.out.mono ?_; rintro e w1 ⟨rfl, h1⟩
  have H1 := Lib.hid h1
  clear h1
  go_wp2_with fail
  go_ret
  exact ⟨rfl, H1.out⟩
theorem e64_calls (W : World) (base g : Nat) (A : Option Addr) (c : Nat) (xs : List Int) (s : RS) (h : Eyd W base g A c xs s) (hs : s.Ok xs) (hb : base ≤ W.heap.size) (hxl : xs.length ≤ 140737488355328) (hx : Byt xs) :
    Calls Tryd.prog 68 #[.pointer (some ⟨g, 0, none⟩)] W fun e w' => e = .returned (.int .u64 ((rFix xs s 8).1 : Int)) ∧ EyTo W w' base g A c xs (rFix xs s 8).2 := by
  have HC := Lib.hid (efix_calls W base g A c xs s 8 h hs hb hxl (by omega) hx)
  have hlt := rFix_lt hx s 8
  obtain ⟨q, hq⟩ : ∃ q, q = rFix xs s 8 := ⟨_, rfl⟩
  rw [← hq] at HC hlt ⊢
  obtain ⟨r, s1⟩ := q
  clear hq
  clear h hs hb hx hlt hxl
  go_enter Tryd.func68, Tryd.ntmps68
  go_wp2_with fail
  refine HC.out.mono ?_; rintro e w1 ⟨rfl, h1⟩
  have H1 := Lib.hid h1
  clear h1
  go_wp2_with fail
  go_ret
  exact ⟨rfl, H1.out⟩
end Go.Proofs.YtoeiaimoppmjdaaDoor.Wr
