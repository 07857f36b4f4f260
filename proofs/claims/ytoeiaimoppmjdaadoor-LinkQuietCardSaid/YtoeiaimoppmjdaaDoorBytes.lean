/- Contracts of tilllaw1's lending: markAt, Lend. -/
import Derived.Test.YtoeiaimoppmjdaaDoorRefSum
import Derived.Test.YtoeiaimoppmjdaaDoorOpen
import Derived.OwnWalk
namespace Go.Proofs.YtoeiaimoppmjdaaDoor.Bytes
open Go.RowKit Go.Proofs.YtoeiaimoppmjdaaDoorW.PrintWords
set_option linter.unusedVariables false
set_option linter.unusedSimpArgs false
theorem info5 : (Tryd.prog.info? 5).map (fun i => (i.zero, i.size, i.bytes)) = some (some (.int .u8 0), 1, 1) := by kernel_rfl
abbrev I := Value.int IntKind.u8
def marksL (k : Nat) : List Int := (List.range k).map fun (i : Nat) => 165 - (i : Int)
theorem marksL_succ (k : Nat) : marksL (k + 1) = marksL k ++ [165 - (k : Int)] := by simp [marksL, List.range_succ]
theorem marksL_length (k : Nat) : (marksL k).length = k := by simp [marksL]
def marked (xs : List Int) : List Int := xs ++ marksL 70
theorem marked_length (xs : List Int) : (marked xs).length = xs.length + 70 := by simp [marked, marksL_length]
theorem own_cap {w : World} {base n cap size : Nat} {e : TypeId} {A : Option Addr} {xs : List Value} (h : w.ownsRow base e size (.slice A n cap) n xs) : n ≤ cap := by
  rcases h.2 with ⟨h', h0⟩ | ⟨g', cap', cur, h', _, _, hn, _⟩
  · omega
  · injection h' with _ _ h'; omega
theorem reads_keep {w w' : World} {A : Option Addr} {n : Nat} {xs : List Int} (h : ReadsOf I 0 w A n xs) (hb : Below w.heap.size w w') : ReadsOf I 0 w' A n xs :=
  ⟨h.1, h.2.1, fun h0 => by obtain ⟨ad, e, hc⟩ := h.2.2 h0; exact ⟨ad, e, fun j hj => pw_cell_below hb (hc j hj)⟩⟩
theorem mark_calls (k : Nat) (hk : k < 70) (w : World) : Calls Tryd.prog 63 #[.int .i64 (k : Int)] w fun e w' => e = .returned (.int .u8 (165 - (k : Int))) ∧ w = w' := by
  go_enter Tryd.func63, Tryd.ntmps63
  go_wp2
  go_ret
  exact ⟨rfl, rfl⟩
set_option maxHeartbeats 1600000 in
set_option maxRecDepth 20000 in
theorem lend_calls (xs : List Int) (A : Option Addr) (c : Nat) (w : World) (hr : (Kd.int .u8).C w A xs.length xs) (hb : xs.length ≤ 1048576) :
    Calls Tryd.prog 13 #[.slice A xs.length c] w fun e w' => ∃ g cap, e = .returned (.slice (some ⟨g, 0, none⟩) xs.length cap) ∧
      w'.ownsRow w.heap.size 5 1 (.slice (some ⟨g, 0, none⟩) (marked xs).length cap) (marked xs).length (encs I (marked xs)) ∧ Below w.heap.size w w' := by
  have HR : Hid (ReadsOf I 0 w A xs.length xs) := Kd.reads_of_C hr
  clear hr
  obtain ⟨i0, hi, hz, hz1, hz2⟩ := info_parts info5
  have HI := Lib.hid (And.intro hi (And.intro hz (And.intro hz1 hz2)))
  clear hi hz hz1 hz2
  go_enter Tryd.func13, Tryd.ntmps13
  go_wp2_with (first
    | (at_make; refine wpList_make_own _ rfl _ _ 22 rfl w.heap.size 5 i0 (.int .u8 0) 1 Tryd.underlying22 HI.out.1 HI.out.2.1 HI.out.2.2.1 .i64 .i64 _ (xs.length + 70) rfl rfl (by simp) (by rw [HI.out.2.2.2]; omega) (by unfold maxLen; omega) (Nat.le_refl _) ?_; intro w0 hown0 hgrow0; have HO0 := Lib.hid hown0; have HB0 := Lib.hid ((Below.refl w.heap.size w).grown hgrow0 (Nat.le_refl _) (fun k h => by cases h)); have HR0 : Hid (ReadsOf I 0 w0 A xs.length xs) := reads_keep HR.out HB0.out; clear hown0 hgrow0)
    | (at_builtin; refine print_append_row_of I 0 (w0 := w) w.heap.size rfl (.tmp 9) (.tmp 10) 22 5 (.int .u8 0) 1 rfl Tryd.underlying22 info5 rfl (by omega) (fun _ => rfl) (.slice (some ⟨w.heap.size, 0, none⟩) 0 (xs.length + 70)) [] xs A xs.length c rfl rfl ?h1 ?hh ?h2 ?h0 ?h3 ?_; (case h1 => exact HO0.out); (case hh => exact HR0.out); (case h2 => exact HB0.out); (case h0 => exact HB0.out.size); (case h3 => simp only [List.length_nil]; omega); intro v1 w1 ho1 hb1 hg1 hat1; rw [List.nil_append] at ho1; have HO1 := Lib.hid ho1; have HB1 := Lib.hid hb1; clear ho1 hb1 hg1 hat1))
  go_loopw [3, 4] (fun v i wr => ∃ k : Nat, i = .int .i64 k ∧ k ≤ 70 ∧ wr.ownsRow w.heap.size 5 1 v (xs ++ marksL k).length (encs I (xs ++ marksL k)) ∧ Below w.heap.size w wr) (fun _ i _ => 70 - (intOf i).toNat)
  case atStart => exact ⟨0, rfl, by omega, by simpa [marksL] using HO1.out, HB1.out⟩
  case round =>
    obtain ⟨k, rfl, hk, ho, hbb⟩ := hrel
    have HO := Lib.hid ho
    have HB := Lib.hid hbb
    clear ho hbb
    by_cases hk70 : k < 70
    · have CM := Lib.hid (mark_calls k hk70)
      have HSZ : Hid ((xs ++ marksL k).length = xs.length + k) := by rw [List.length_append, marksL_length]; exact rfl
      obtain ⟨vo, rfl⟩ : ∃ vo, vo = u3 := ⟨_, rfl⟩
      go_wp2_with (first
        | (go_at_call 63; refine (CM.out _).mono ?_; rintro e w' ⟨rfl, rfl⟩)
        | (at_builtin; refine print_append_of I (w0 := w) w.heap.size rfl (.tmp 16) (.tmp 19) 22 5 (.int .u8 0) 1 rfl Tryd.underlying22 info5 rfl (by omega) vo (xs ++ marksL k) (165 - (k : Int)) rfl rfl rfl ?h1 ?h2 ?h3 ?h4 ?_; (case h1 => exact HO.out); (case h2 => exact HB.out); (case h3 => exact HB.out.size); (case h4 => rw [HSZ.out]; omega); intro v1 w1 ho1 hb1 hg1 hat1; have HO2 := Lib.hid ho1; have HB2 := Lib.hid hb1; clear ho1 hb1 hg1 hat1))
      go_roundw
      case rel => exact ⟨k + 1, by go_num, by omega, by rw [marksL_succ, ← List.append_assoc]; exact HO2.out, HB2.out⟩
      case measure => simp [intOf]; omega
    · have hk' : k = 70 := by omega
      have HOM : Hid (wr.ownsRow w.heap.size 5 1 u3 (marked xs).length (encs I (marked xs))) := by
        have := HO.out; rw [hk'] at this; exact this
      obtain ⟨g, cap, rfl, hgb, hgl⟩ := HOM.out.form (by rw [marked_length]; omega)
      have hcap : xs.length ≤ cap := by have h9 := own_cap HOM.out; rw [marked_length] at h9; omega
      have hml := marked_length xs
      have HCUT := Lib.hid (cut_to (P := Tryd.prog) 22 5 .i64 Tryd.underlying22 HI.out.1 (some ⟨g, 0, none⟩) (marked xs).length cap (xs.length : Int) (by omega) (by rw [hml]; omega) (by rw [hml]; have h9 := own_cap HOM.out; rw [marked_length] at h9; omega))
      clear hk' hml
      go_wp2_with fail
      go_ret
      exact ⟨g, cap, rfl, HOM.out, HB.out⟩
theorem rd_mark (xs : List Int) (k : Nat) (hk : k < 70) : (marked xs).getD (xs.length + k) 0 = 165 - (k : Int) := by
  unfold marked
  rw [List.getD_eq_getElem?_getD, List.getElem?_append_right (by omega), show xs.length + k - xs.length = k by omega]
  simp [marksL, hk]
/-- Element j of a row of one's own. -/
theorem own_cell {w : World} {base g n cap : Nat} {e : TypeId} {xs : List Int} (h : w.ownsRow base e 1 (.slice (some ⟨g, 0, none⟩) n cap) n (encs I xs)) (j : Nat) (hj : j < xs.length) : w.cell? ⟨g, j, none⟩ = some (I (xs.getD j 0)) := by
  have hl : xs.length = n := by have := h.1; rw [encs_length] at this; omega
  have := (own_at_of (d := 0) h (j : Int) (by omega) (by omega)).1
  rw [Int.toNat_natCast] at this
  exact this
/-- A beginning of a row of one's own is read. -/
theorem own_reads {w : World} {base n cap : Nat} {e : TypeId} {A : Option Addr} {ys xs : List Int} (h : w.ownsRow base e 1 (.slice A n cap) n (encs I ys)) (hp : xs = ys.take xs.length) : ReadsOf I 0 w A xs.length xs := by
  obtain ⟨A', c', he, hr⟩ := own_reads_of (d := 0) h
  injection he with h1 h2 h3
  subst h1
  have hl : ys.length = n := hr.1
  have hle : xs.length ≤ n := by have := congrArg List.length hp; simp at this; omega
  have := hr.take_ xs.length hle
  rw [← hp] at this
  exact this
theorem marked_take (xs : List Int) : xs = (marked xs).take xs.length := by simp [marked]
set_option maxHeartbeats 1600000 in
set_option maxRecDepth 20000 in
theorem intact_calls (xs : List Int) (A : Option Addr) (c g cap base : Nat) (w : World) (hr : ReadsOf I 0 w A xs.length xs) (hb : xs.length ≤ 1048576)
    (ho : w.ownsRow base 5 1 (.slice (some ⟨g, 0, none⟩) (marked xs).length cap) (marked xs).length (encs I (marked xs))) :
    Calls Tryd.prog 16 #[.slice (some ⟨g, 0, none⟩) xs.length cap, .slice A xs.length c] w fun e w' => e = .returned (.bool true) ∧ Below w.heap.size w w' := by
  have hcap : xs.length + 70 ≤ cap := by have h9 := own_cap ho; rwa [marked_length] at h9
  have s1 := string_of_reads (P := Tryd.prog) (src := 22) (dst := 9) (c := c) Tryd.underlying22 Tryd.underlying5 Tryd.underlying9 hr
  have s2 := string_of_reads (P := Tryd.prog) (src := 22) (dst := 9) (c := cap) Tryd.underlying22 Tryd.underlying5 Tryd.underlying9 (own_reads ho (marked_take xs))
  have HO := Lib.hid ho
  clear ho hr
  go_enter Tryd.func16, Tryd.ntmps16
  go_wp2_with fail
  go_loopw [6] (fun i wr => ∃ k : Nat, k ≤ 70 ∧ i = .int .i64 k ∧ Below w.heap.size w wr) (fun i _ => 70 - (intOf i).toNat)
  case atStart => exact ⟨0, Nat.zero_le _, rfl, Below.refl _ _⟩
  case round =>
    obtain ⟨k, hk, rfl, hbb⟩ := hrel
    have HB := Lib.hid hbb
    by_cases hlt : k < 70
    · have hcl : w.cell? ⟨g, xs.length + k, none⟩ = some (I (165 - (k : Int))) := by have := own_cell HO.out (xs.length + k) (by rw [marked_length]; omega); rwa [rd_mark xs k hlt] at this
      have hcw : wr.cell? ⟨g, xs.length + k, none⟩ = some (.int .u8 (165 - (k : Int))) := pw_cell_below hbb hcl
      have CM := Lib.hid (mark_calls k hlt)
      have b1 : (0 : Int) ≤ (xs.length : Int) + (k : Int) := by omega
      have b2 : (xs.length : Int) + (k : Int) < (xs.length : Int) + 70 := by omega
      have b3 : IntKind.i64.wrap ((xs.length : Int) + (k : Int)) = (xs.length : Int) + (k : Int) := by rw [IntKind.wrap_i64]; omega
      have b4 : ((xs.length : Int) + (k : Int)).toNat = xs.length + k := by omega
      clear hbb hcl
      go_wp2_with fail
      go_region_held3 (fun w' => w'.cell? ⟨g, xs.length + k, none⟩ = some (.int .u8 (165 - (k : Int)))) (go_keep)
        (first | (go_at_call 63; refine (CM.out _).mono ?_; rintro e w9 ⟨rfl, rfl⟩))
      go_wp2_with fail
      go_roundw
      case rel => exact ⟨k + 1, by omega, by go_num, by first | exact HB.out.drew | exact HB.out⟩
      case measure => simp [intOf]; omega
    · clear hbb
      go_wp2_with fail
      go_ret
      exact ⟨rfl, HB.out⟩
end Go.Proofs.YtoeiaimoppmjdaaDoor.Bytes
