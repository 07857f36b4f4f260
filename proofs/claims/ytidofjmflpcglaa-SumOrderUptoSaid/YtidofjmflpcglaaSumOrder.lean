/- Proved: whatever list of int64 numbers comes in (at most 1048576 values), sum.Total of it is that of the list turned round and, where both parts have one, sum.Add of its parts' sums, cut anywhere. -/
import Derived.Test.YtidofjmflpcglaaLend
import Derived.Test.YtidofjmflpcglaaOpen
namespace Go.Proofs.Ytidofjmflpcglaa.SumOrder
open Go.RowKit Go.Proofs.Ytidofjmflpcglaa.SumPlain Go.Proofs.YtidofjmflpcglaaW.PrintWords Go.Proofs.Ytidofjmflpcglaa.Total Go.Proofs.Ytidofjmflpcglaa.Mul Go.Proofs.Ytidofjmflpcglaa.Opn
set_option linter.unusedVariables false
set_option linter.unusedSimpArgs false
theorem total_n (xs : List Int) (A : Option Addr) (n c : Nat) (w : World) (hr : (Kd.int .i64).C w A n xs) (hv : ∀ a, a ∈ xs → I64 a) :
    Calls Try.prog 22 #[.slice A n c] w fun e w' => e = .returned (.tuple #[.int .i64 (fit xs.sum).1, .bool (fit xs.sum).2]) ∧ w = w' := by
  have hl := Kd.C_len hr
  subst hl
  exact total_calls xs A c w hr hv
theorem and_mask (a : Int) (ha : I64 a) : Go.bits .and .i64 a 16777215 = a % 16777216 := by
  rw [bits_and]
  have h1 : (BitVec.ofInt 64 a &&& BitVec.ofInt 64 16777215).toNat = (BitVec.ofInt 64 a).toNat % 16777216 := by
    rw [BitVec.toNat_and]
    have : (BitVec.ofInt 64 16777215).toNat = 16777215 := by decide
    rw [this]
    exact Nat.and_two_pow_sub_one_eq_mod _ 24
  have h2 : (BitVec.ofInt 64 a).toNat = (a % 18446744073709551616).toNat := by
    rw [BitVec.toNat_ofInt]; rfl
  rw [← wrap_toInt, h1, h2, IntKind.wrap_i64]
  unfold I64 at ha
  omega
theorem sum_rev (xs : List Int) : xs.reverse.sum = xs.sum := by
  induction xs with
  | nil => rfl
  | cons x xs ih => rw [List.reverse_cons, List.sum_append, ih]; simp; omega
theorem sum_split (xs : List Int) (k : Nat) : (xs.take k).sum + (xs.drop k).sum = xs.sum := by
  rw [← List.sum_append, List.take_append_drop]
theorem rev_step (xs : List Int) (m : Nat) (h : m < xs.length) : (xs.drop m).reverse = (xs.drop (m + 1)).reverse ++ [rd xs (m : Int)] := by
  rw [rd_get xs m h, ← List.reverse_cons]
  congr 1
  exact List.drop_eq_getElem_cons h

set_option maxHeartbeats 1000000 in
set_option maxRecDepth 100000 in
theorem walk (xs : List Int) (at_ : Int) (A : Option Addr) (c : Nat) (w : World) (hc : xs.length ≤ c) (hr : (Kd.int .i64).C w A xs.length xs) (hv : ∀ a, a ∈ xs → I64 a) (hb : xs.length ≤ 1048576) (ha : I64 at_) :
    Calls Try.prog 9 #[.agg #[.slice A xs.length c, .int .i64 at_]] w fun e w' => e = .returned (.bool true) ∧ Below w.heap.size w w' := by
  have hn := Kd.C_max hr
  have HR := Lib.hid hr
  have HV := Lib.hid hv
  have hm0 : 0 ≤ Go.bits .and .i64 at_ 16777215 := by rw [and_mask at_ ha]; omega
  have hm1 : Go.bits .and .i64 at_ 16777215 ≤ 16777215 := by rw [and_mask at_ ha]; omega
  obtain ⟨k, hk⟩ : ∃ k : Nat, Go.bits .and .i64 at_ 16777215 % ((xs.length : Int) + 1) = (k : Int) := ⟨(Go.bits .and .i64 at_ 16777215 % ((xs.length : Int) + 1)).toNat, (Int.toNat_of_nonneg (Int.emod_nonneg _ (by omega))).symm⟩
  have hkn : k ≤ xs.length := by have := Int.emod_lt_of_pos (Go.bits .and .i64 at_ 16777215) (show (0 : Int) < (xs.length : Int) + 1 by omega); omega
  obtain ⟨i0, hi0, hzz⟩ := Option.map_eq_some_iff.1 info2
  have hsz1 : i0.size = 1 := by simp only [Prod.mk.injEq] at hzz; exact hzz.2.1
  have hct := cut_to (P := Try.prog) 49 2 .i64 Try.underlying49 hi0 A xs.length c (k : Int) (by omega) (by omega) hc
  rw [Int.toNat_natCast] at hct
  obtain ⟨A1, hcf, hA1⟩ := print_cut_of (P := Try.prog) I 0 49 2 .i64 Try.underlying49 hi0 hsz1 A xs.length c k hkn
  have HA1 := Lib.hid (hA1 w xs hc (Kd.reads_of_C HR.out))
  have HHK := Lib.hid hk
  clear hr hv ha hA1 hzz hi0 hsz1
  have HB0 : Hid (Below w.heap.size w (w.alloc (.cells #[.slice A xs.length c, .int .i64 at_] 58))) := (Below.refl _ _).alloc (Nat.le_refl _) _
  have hbox0 : (w.alloc (.cells #[.slice A xs.length c, .int .i64 at_] 58)).cell? ⟨w.heap.size, 0, none⟩ = some (.slice A xs.length c) := by go_simp
  have hbox1 : (w.alloc (.cells #[.slice A xs.length c, .int .i64 at_] 58)).cell? ⟨w.heap.size, 1, none⟩ = some (.int .i64 at_) := by go_simp
  obtain ⟨W0, hW0⟩ : ∃ W0, W0 = w.alloc (.cells #[.slice A xs.length c, .int .i64 at_] 58) := ⟨_, rfl⟩
  have hsz : W0.heap.size = w.heap.size + 1 := by rw [hW0]; simp
  rw [← hW0] at hbox0 hbox1 HB0
  have HBOX0 := Lib.hid hbox0
  have HBOX1 := Lib.hid hbox1
  have HW0 := Lib.hid hW0
  have HSZ := Lib.hid hsz
  have HCT := Lib.hid hct
  have HCF := Lib.hid hcf
  clear hW0 hsz hbox0 hbox1 hk hct hcf
  go_enter Try.func9, Try.ntmps9
  go_wp2_with fail
  refine (total_n xs A _ c _ (Kd.C_below HR.out (by rw [← HW0.out]; exact HB0.out)) HV.out).mono ?_; rintro e w' ⟨rfl, rfl⟩
  go_wp2_with fail
  rw [← HW0.out]
  go_loopw [5, 6] (fun b i wr => ∃ m : Nat, m ≤ xs.length ∧ i = .int .i64 ((m : Int) - 1) ∧ wr.ownsRow W0.heap.size 2 1 b (xs.drop m).reverse.length (encs I (xs.drop m).reverse) ∧ Below W0.heap.size W0 wr) (fun _ i _ => (intOf i + 1).toNat)
  case atStart => exact ⟨xs.length, Nat.le_refl _, rfl, by rw [List.drop_length]; exact own_nil W0 W0.heap.size 2 1, Below.refl _ _⟩
  case round =>
    obtain ⟨m, hm, rfl, hown, hbel⟩ := hrel
    have HO := Lib.hid hown
    have HBEL := Lib.hid hbel
    clear hown hbel
    have hsz1 : W0.heap.size ≤ wr.heap.size := HBEL.out.size
    have hbx : wr.cell? ⟨w.heap.size, 0, none⟩ = some (.slice A xs.length c) := (HBEL.out.cell (p := ⟨w.heap.size, 0, none⟩) (by have := HSZ.out; simp; omega)).trans HBOX0.out
    have hbx1 : wr.cell? ⟨w.heap.size, 1, none⟩ = some (.int .i64 at_) := (HBEL.out.cell (p := ⟨w.heap.size, 1, none⟩) (by have := HSZ.out; simp; omega)).trans HBOX1.out
    have hRr : (Kd.int .i64).C wr A xs.length xs := Kd.C_below (Kd.C_below HR.out HB0.out) HBEL.out
    have HRR := Lib.hid hRr
    clear hRr
    rcases Nat.eq_zero_or_pos m with rfl | hpos
    · rw [List.drop_zero] at HO
      obtain ⟨A', c', rfl, hrd⟩ := own_reads_of (d := 0) HO.out
      rw [List.length_reverse] at hrd
      have C2 : Hid (∀ W, Below wr.heap.size wr W → Calls Try.prog 22 #[.slice A' xs.length c'] W fun e w' => e = .returned (.tuple #[.int .i64 (fit xs.sum).1, .bool (fit xs.sum).2]) ∧ W = w') := by
        intro W hW
        have := total_n xs.reverse A' xs.length c' W (Kd.C_below (Kd.C_of_reads hrd) hW) (fun a ha => HV.out a (List.mem_reverse.1 ha))
        rwa [sum_rev] at this
      have C3 : Hid (∀ W, Below wr.heap.size wr W → Calls Try.prog 22 #[.slice A k c] W fun e w' => e = .returned (.tuple #[.int .i64 (fit (xs.take k).sum).1, .bool (fit (xs.take k).sum).2]) ∧ W = w') := by
        intro W hW
        have h1 := (Kd.reads_of_C (d := 0) (Kd.C_below HRR.out hW)).take_ k hkn
        exact total_n (xs.take k) A k c W (Kd.C_of_reads h1) (fun a ha => HV.out a (List.mem_of_mem_take ha))
      have C4 : Hid (∀ W, Below wr.heap.size wr W → Calls Try.prog 22 #[.slice A1 (xs.length - k) (c - k)] W fun e w' => e = .returned (.tuple #[.int .i64 (fit (xs.drop k).sum).1, .bool (fit (xs.drop k).sum).2]) ∧ W = w') := by
        intro W hW
        have h1 : (Kd.int .i64).C w A1 (xs.length - k) (xs.drop k) := Kd.C_of_reads HA1.out
        exact total_n (xs.drop k) A1 _ _ W (Kd.C_below (Kd.C_below (Kd.C_below h1 HB0.out) HBEL.out) hW) (fun a ha => HV.out a (List.mem_of_mem_drop ha))
      have C5 : Hid (Calls Try.prog 22 #[.slice (some ⟨wr.heap.size, 0, none⟩) 1 1] (wr.alloc (.cells #[.int .i64 41] 2)) fun e w' => e = .returned (.tuple #[.int .i64 41, .bool true]) ∧ (wr.alloc (.cells #[.int .i64 41] 2)) = w') := by
        have h1 := lit_reads wr 2 [41] (by simp)
        have := total_n [41] (some ⟨wr.heap.size, 0, none⟩) 1 1 _ (Kd.C_of_reads h1) (fun a ha => by simp at ha; subst ha; unfold I64; omega)
        exact this
      have HFIN : Hid (Below w.heap.size w (wr.alloc (.cells #[.int .i64 41] 2))) := by
        have h1 : Below w.heap.size w wr := HB0.out.trans (HBEL.out.mono (by have := HSZ.out; omega))
        exact h1.alloc h1.size _
      have hbr : Below wr.heap.size wr wr := Below.refl _ _
      have HBR := Lib.hid hbr
      clear hrd hbr
      have hk := HHK.out
      have hct := HCT.out
      have hcf := HCF.out
      have hS := sum_split xs k
      have HS := Lib.hid hS
      clear hS
      by_cases q1 : I64 (xs.take k).sum
      · by_cases q2 : I64 (xs.drop k).sum
        · rw [fit_in q1] at C3
          rw [fit_in q2] at C4
          have C6 : Hid (∀ W, Calls Try.prog 26 #[.int .i64 (xs.take k).sum, .int .i64 (xs.drop k).sum] W fun e w' => e = .returned (.tuple #[.int .i64 (fit xs.sum).1, .bool (fit xs.sum).2]) ∧ W = w') := by
            intro W
            have := add_calls _ _ q1 q2 W
            rwa [HS.out] at this
          clear q1 q2
          go_wp2_with fail
          refine (C2.out _ HBR.out).mono ?_; rintro e w' ⟨rfl, rfl⟩
          go_wp2_with fail
          refine (same_calls _ _ _).mono ?_; rintro e w' ⟨rfl, rfl⟩
          go_wp2_with fail
          refine (C3.out _ HBR.out).mono ?_; rintro e w' ⟨rfl, rfl⟩
          go_wp2_with fail
          refine (C4.out _ HBR.out).mono ?_; rintro e w' ⟨rfl, rfl⟩
          go_wp2_with fail
          refine (C6.out _).mono ?_; rintro e w' ⟨rfl, rfl⟩
          go_wp2_with fail
          refine (same_calls _ _ _).mono ?_; rintro e w' ⟨rfl, rfl⟩
          go_wp2_with fail
          refine C5.out.mono ?_; rintro e w' ⟨rfl, rfl⟩
          go_wp2_with fail
          go_ret
          exact ⟨rfl, HFIN.out⟩
        · rw [fit_in q1] at C3
          rw [fit_out q2] at C4
          clear q1 q2
          go_wp2_with fail
          refine (C2.out _ HBR.out).mono ?_; rintro e w' ⟨rfl, rfl⟩
          go_wp2_with fail
          refine (same_calls _ _ _).mono ?_; rintro e w' ⟨rfl, rfl⟩
          go_wp2_with fail
          refine (C3.out _ HBR.out).mono ?_; rintro e w' ⟨rfl, rfl⟩
          go_wp2_with fail
          refine (C4.out _ HBR.out).mono ?_; rintro e w' ⟨rfl, rfl⟩
          go_wp2_with fail
          refine C5.out.mono ?_; rintro e w' ⟨rfl, rfl⟩
          go_wp2_with fail
          go_ret
          exact ⟨rfl, HFIN.out⟩
      · rw [fit_out q1] at C3
        clear q1
        go_wp2_with fail
        refine (C2.out _ HBR.out).mono ?_; rintro e w' ⟨rfl, rfl⟩
        go_wp2_with fail
        refine (same_calls _ _ _).mono ?_; rintro e w' ⟨rfl, rfl⟩
        go_wp2_with fail
        refine (C3.out _ HBR.out).mono ?_; rintro e w' ⟨rfl, rfl⟩
        go_wp2_with fail
        refine (C4.out _ HBR.out).mono ?_; rintro e w' ⟨rfl, rfl⟩
        go_wp2_with fail
        refine C5.out.mono ?_; rintro e w' ⟨rfl, rfl⟩
        go_wp2_with fail
        go_ret
        exact ⟨rfl, HFIN.out⟩
    · obtain ⟨m', rfl⟩ : ∃ m', m = m' + 1 := ⟨m - 1, by omega⟩
      have hi : ((m' + 1 : Nat) : Int) - 1 = (m' : Int) := by omega
      rw [hi]
      clear hi
      obtain ⟨ad, rfl, hc1⟩ := Kd.at_int HRR.out m' (by omega) (by omega)
      rw [Int.toNat_natCast] at hc1
      go_wp2_with (at_builtin; refine print_append_of I (w0 := W0) W0.heap.size rfl (.tmp 32) (.tmp 38) 49 2 (.int .i64 0) 8 rfl Try.underlying49 info2 rfl (by omega) u5 (xs.drop (m' + 1)).reverse (rd xs m') rfl rfl rfl ?h1 ?h2 ?h3 ?h4 ?_; (case h1 => exact HO.out); (case h2 => exact HBEL.out); (case h3 => exact HBEL.out.size); (case h4 => simp <;> omega); intro v1 w1 ho1 hb1 hg1 hat1; rw [← rev_step xs m' (by omega)] at ho1; have HO1 := Lib.hid ho1; have HB1 := Lib.hid hb1; clear ho1 hb1 hg1 hat1)
      go_roundw
      case rel => exact ⟨m', by omega, by go_num, HO1.out, HB1.out⟩
      case measure => simp [intOf]
theorem in64 {n : Int} (h : (Lit.int .i64 n).wf = true) : I64 n := by
  simpa [Lit.wf, IntKind.min, IntKind.max, IntKind.signed, IntKind.bits, I64] using h
abbrev KRow := Kd.pair (Kd.slice 2 (Kd.int .i64)) (Kd.int .i64)
theorem opens_Row : Opens Try.prog 58 KRow (fun x => (∀ a, a ∈ x.1 → (Lit.int .i64 a).wf = true) ∧ (Lit.int .i64 x.2).wf = true) (fun x => (sumB (fun _ => 1) x.1 + 1) + 1 + 1) :=
  opens_struct Try.underlying58 (by kernel_rfl) (opensF_cons (opens_slice Try.underlying49 (by kernel_rfl) (opens_int Try.underlying2 (by kernel_rfl))) (opensF_one (opens_int Try.underlying3 (by kernel_rfl))) rfl)
theorem contract {H : Type} {enc : TypeId × Value → H} (W : World) (base : Nat) (v0 : Value) (d0 : DataW H) (p0 : List MemPlace) (hok : Value.okWide Try.prog W .any base 58 v0)
    (h0 : DataW.Trod enc Try.prog W 0 (fun _ => true) true 58 v0 d0 p0) (hlt : ∀ x ∈ p0, x.block < W.heap.size) (hsz : (DataW.weightsEach Try.prog [58] [d0]).all (· ≤ reachBytes) = true) (hk : Rows.uptoSmall H [d0] = true) :
    Calls Try.prog 9 #[v0] W fun e W' => e = .returned (.bool true) ∧ Below W.heap.size W W' := by
  obtain ⟨⟨xs, a⟩, cs, rfl, hK, hV, hB⟩ := open_arg Try.underlying58 opens_Row hok h0
  obtain ⟨c0, c1, hcs, ⟨A, c, rfl, hl, hC⟩, rfl⟩ := hK
  obtain rfl : cs = #[.slice A xs.length c, .int .i64 a] := by cases cs; simp at hcs; rw [hcs]
  have hb : Rows.uptoBulk d0 ≤ 1048576 := by
    have := of_decide_eq_true hk
    simpa [Rows.uptoBulkAll] using this
  have h2 := sumB_length (B := fun _ : Int => 1) (fun _ => Nat.le_refl _) xs
  have hB' : (sumB (fun _ => 1) xs + 1) + 1 + 1 ≤ Rows.uptoBulk d0 := hB
  exact walk xs a A c W hl hC (fun a ha => in64 (hV.1 a ha)) (by omega) (in64 hV.2)
end Go.Proofs.Ytidofjmflpcglaa.SumOrder
