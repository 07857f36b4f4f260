/- Contracts of tilllaw1's Other and Into. -/
import Derived.Test.YtoeiaimoppmjdaaDoorBytes
import Derived.Laws.Closers25b
namespace Go.Proofs.YtoeiaimoppmjdaaDoor.Bytes
open Go.RowKit Go.Proofs.YtoeiaimoppmjdaaDoorW.PrintWords
set_option linter.unusedVariables false
set_option linter.unusedSimpArgs false
abbrev Byt (xs : List Int) : Prop := ∀ a, a ∈ xs → 0 ≤ a ∧ a ≤ 255
theorem reads_at {w : World} {A : Option Addr} {xs : List Int} (h : ReadsOf I 0 w A xs.length xs) (k : Nat) (hk : k < xs.length) : ∃ ad, A = some ad ∧ w.cell? (ad.add k) = some (.int .u8 (xs.getD k 0)) := by
  obtain ⟨ad, e, hc⟩ := h.2.2 (by omega)
  exact ⟨ad, e, hc k hk⟩
theorem byt_get {xs : List Int} (h : Byt xs) (k : Nat) (hk : k < xs.length) : 0 ≤ xs.getD k 0 ∧ xs.getD k 0 ≤ 255 := by
  rw [List.getD_eq_getElem?_getD, List.getElem?_eq_getElem hk]; exact h _ (List.getElem_mem hk)
theorem rev_take (xs : List Int) (k : Nat) (hk : k < xs.length) : xs.reverse.take (k + 1) = xs.reverse.take k ++ [xs.getD (xs.length - 1 - k) 0] := by
  have hk' : k < xs.reverse.length := by simpa using hk
  rw [List.take_succ_eq_append_getElem hk', List.getElem_reverse, List.getD_eq_getElem?_getD, List.getElem?_eq_getElem (by omega)]; rfl
theorem Closers25b_u8 (b : Int) : 0 ≤ Go.bits .xor .u8 b 1 ∧ Go.bits .xor .u8 b 1 ≤ 255 := by
  exact ⟨bits_lo_u8 _ _ _, bits_hi_u8 _ _ _⟩
set_option maxHeartbeats 1600000 in
set_option maxRecDepth 20000 in
theorem other_calls (xs : List Int) (A : Option Addr) (c : Nat) (w : World) (hr : ReadsOf I 0 w A xs.length xs) (hv : Byt xs) (hb : xs.length ≤ 1048576) :
    Calls Tryd.prog 28 #[.slice A xs.length c] w fun e w' => ∃ (ys : List Int) (D : Option Addr) (cap : Nat), e = .returned (.slice D ys.length cap) ∧ ys.length = xs.length ∧ Byt ys ∧
      w'.ownsRow w.heap.size 5 1 (.slice D ys.length cap) ys.length (encs I ys) ∧ Below w.heap.size w w' := by
  have HR := Lib.hid hr
  have HV : Hid (Byt xs) := hv
  clear hr hv
  go_enter Tryd.func28, Tryd.ntmps28
  go_wp2_with fail
  go_loopw [3, 4] (fun v i wr => ∃ k : Nat, i = .int .i64 ((xs.length : Int) - 1 - k) ∧ k ≤ xs.length ∧ wr.ownsRow w.heap.size 5 1 v (xs.reverse.take k).length (encs I (xs.reverse.take k)) ∧ Below w.heap.size w wr) (fun _ i _ => (intOf i + 1).toNat)
  case atStart => exact ⟨0, by simp, by omega, own_nil _ _ _ _, Below.refl _ _⟩
  case round =>
    obtain ⟨k, rfl, hk, ho, hbb⟩ := hrel
    have HO := Lib.hid ho
    have HB := Lib.hid hbb
    clear ho hbb
    obtain ⟨vo, rfl⟩ : ∃ vo, vo = u3 := ⟨_, rfl⟩
    by_cases hlt : k < xs.length
    · obtain ⟨j, hj⟩ : ∃ j : Nat, j = xs.length - 1 - k := ⟨_, rfl⟩
      have hji : (xs.length : Int) - 1 - (k : Int) = (j : Int) := by omega
      obtain ⟨ad, rfl, hc⟩ := reads_at HR.out j (by omega)
      have hcw : wr.cell? (ad.add j) = some (.int .u8 (xs.getD j 0)) := pw_cell_below HB.out hc
      have HRT := Lib.hid (rev_take xs k hlt)
      rw [← hj] at HRT
      have HSZ : Hid ((xs.reverse.take k).length = k) := by rw [List.length_take]; simp; exact Nat.min_eq_left hk
      rw [hji]
      have b1 : (0 : Int) ≤ (j : Int) := by omega
      have b2 : (j : Int) < (xs.length : Int) := by omega
      have HJ := Lib.hid hji
      clear hji hj hc
      go_wp2_with (first
        | (at_builtin; refine print_append_of I (w0 := w) w.heap.size rfl (.tmp 12) (.tmp 17) 22 5 (.int .u8 0) 1 rfl Tryd.underlying22 info5 rfl (by omega) vo (xs.reverse.take k) (xs.getD j 0) rfl rfl rfl ?h1 ?h2 ?h3 ?h4 ?_; (case h1 => exact HO.out); (case h2 => exact HB.out); (case h3 => exact HB.out.size); (case h4 => rw [HSZ.out]; omega); intro v1 w1 ho1 hb1 hg1 hat1; have HO2 := Lib.hid ho1; have HB2 := Lib.hid hb1; clear ho1 hb1 hg1 hat1))
      go_roundw
      case rel => exact ⟨k + 1, congrArg _ (by have := HJ.out; omega), by omega, by rw [HRT.out]; exact HO2.out, HB2.out⟩
      case measure => first | (simp [intOf]; done) | (simp [intOf]; omega)
    · have hk' : k = xs.length := by omega
      have hrt : xs.reverse.take k = xs.reverse := by rw [hk']; exact List.take_of_length_le (by simp)
      rw [hrt] at HO
      have hi : (xs.length : Int) - 1 - (k : Int) = -1 := by omega
      rw [hi]
      obtain ⟨D, cap, rfl⟩ := own_slice HO.out
      have s1 := own_string (P := Tryd.prog) (src := 22) (dst := 9) Tryd.underlying22 Tryd.underlying5 Tryd.underlying9 HO.out
      have HR2 := Lib.hid (reads_keep HR.out HB.out)
      have s2 := string_of_reads (P := Tryd.prog) (src := 22) (dst := 9) (c := c) Tryd.underlying22 Tryd.underlying5 Tryd.underlying9 HR2.out
      have hBR : Byt xs.reverse := fun a ha => HV.out a (by simpa using ha)
      have HBR := Lib.hid hBR
      have hlr : xs.reverse.length = xs.length := by simp
      rw [hlr] at HO s1 ⊢
      clear hi hk' hrt hBR
      by_cases h0 : 0 < xs.length
      · obtain ⟨g, cap', hD, hgb, hgl⟩ := HO.out.form (by omega)
        injection hD with hD1 hD2 hD3
        subst hD1
        clear hD2 hD3
        obtain ⟨m, hm⟩ : ∃ m : Nat, m = xs.length - 1 := ⟨_, rfl⟩
        have hmi : (xs.length : Int) - 1 = (m : Int) := by omega
        have hm1 : (m : Int) < (xs.length : Int) := by omega
        have hat := own_at_of (d := 0) HO.out (m : Int) (by omega) hm1
        rw [Int.toNat_natCast] at hat
        obtain ⟨b, hbd⟩ : ∃ b, b = rdOf 0 xs.reverse (m : Int) := ⟨_, rfl⟩
        rw [← hbd] at hat
        have a1 := hat.1
        have a2 := hat.2
        have hst := own_store_of HO.out (m : Int) (Go.bits .xor .u8 b 1)
        rw [Int.toNat_natCast] at hst
        have HST := Lib.hid hst
        have hn0 : (0 : Int) < (xs.length : Int) := by omega
        have hget : 0 ≤ (m : Int) := by omega
        have HBB := Lib.hid (Closers25b_u8 b)
        clear hat hbd hst hm
        cases hs : ((strOfNums xs.reverse).toList == (strOfNums xs).toList) with
        | true =>
          go_wp2_with fail
          go_ret
          refine ⟨xs.reverse.set m (Go.bits .xor .u8 b 1), _, cap, by rw [List.length_set, hlr]; rfl, by rw [List.length_set, hlr], fun a ha => ?_, ?_, ?_⟩
          · rcases List.mem_or_eq_of_mem_set ha with h | h
            · exact HBR.out a h
            · rw [h]; exact HBB.out
          · have := HST.out.1
            rw [List.length_set, hlr]; exact this
          · exact HB.out.grown HST.out.2 HB.out.size (by intro k hk; injection hk with hk; omega)
        | false =>
          go_wp2_with fail
          go_ret
          exact ⟨xs.reverse, _, cap, by rw [hlr]; rfl, hlr, HBR.out, by rw [hlr]; exact HO.out, HB.out⟩
      · have hn0 : ¬ (0 : Int) < (xs.length : Int) := by omega
        go_wp2_with fail
        go_ret
        exact ⟨xs.reverse, _, cap, by rw [hlr]; rfl, hlr, HBR.out, by rw [hlr]; exact HO.out, HB.out⟩
end Go.Proofs.YtoeiaimoppmjdaaDoor.Bytes
