/- Proved: whatever lists of int64 numbers come in (together at most 1048576 values), sum.Total of each is the exact sum and whether it is an int64, as the document says; the list and the marks behind it stay as they are; other numbers in the same place have their own sum. -/
import Derived.Test.YtidofjmflpcglaaLend
import Derived.Test.YtidofjmflpcglaaOpen
namespace Go.Proofs.Ytidofjmflpcglaa.SumTotal
open Go.RowKit Go.Proofs.Ytidofjmflpcglaa.SumPlain Go.Proofs.YtidofjmflpcglaaW.PrintWords Go.Proofs.Ytidofjmflpcglaa.Total Go.Proofs.Ytidofjmflpcglaa.Mul Go.Proofs.Ytidofjmflpcglaa.Opn
set_option linter.unusedVariables false
set_option linter.unusedSimpArgs false
abbrev KL := Kd.slice 2 (Kd.int .i64)
theorem opens_ints : Opens Try.prog 49 KL (fun l => ∀ a, a ∈ l → (Lit.int .i64 a).wf = true) (fun l => sumB (fun _ => 1) l + 1) :=
  opens_slice Try.underlying49 (by kernel_rfl) (opens_int Try.underlying2 (by kernel_rfl))
theorem opens_lists : Opens Try.prog 46 (Kd.slice 49 KL) (fun ll => ∀ l, l ∈ ll → ∀ a, a ∈ l → (Lit.int .i64 a).wf = true) (fun ll => sumB (fun l => sumB (fun _ => 1) l + 1) ll + 1) :=
  opens_slice Try.underlying46 (by kernel_rfl) opens_ints
theorem opens_Lists : Opens Try.prog 48 (Kd.slice 49 KL) (fun ll => ∀ l, l ∈ ll → ∀ a, a ∈ l → (Lit.int .i64 a).wf = true) (fun ll => sumB (fun l => sumB (fun _ => 1) l + 1) ll + 1 + 1) :=
  opens_struct Try.underlying48 (by kernel_rfl) (opensF_one opens_lists)

theorem in64 {n : Int} (h : (Lit.int .i64 n).wf = true) : I64 n := by
  simpa [Lit.wf, IntKind.min, IntKind.max, IntKind.signed, IntKind.bits, I64] using h
set_option maxHeartbeats 3200000 in
set_option maxRecDepth 100000 in
theorem walk (ll : List (List Int)) (A : Option Addr) (c : Nat) (w : World) (hr : (Kd.slice 2 (Kd.int .i64)).C w A ll.length ll) (hv : ∀ l, l ∈ ll → ∀ a, a ∈ l → I64 a) (hb : ∀ l, l ∈ ll → l.length ≤ 1048576) :
    Calls Try.prog 8 #[.agg #[.slice A ll.length c]] w fun e w' => e = .returned (.bool true) ∧ Below w.heap.size w w' := by
  have hn := Kd.C_max hr
  have HR := Lib.hid hr
  have HV := Lib.hid hv
  have HL := Lib.hid hb
  clear hr hv hb
  have hbox : (w.alloc (.cells #[.slice A ll.length c] 48)).cell? ⟨w.heap.size, 0, none⟩ = some (.slice A ll.length c) := by go_simp
  have HB0 : Hid (Below w.heap.size w (w.alloc (.cells #[.slice A ll.length c] 48))) := (Below.refl _ _).alloc (Nat.le_refl _) _
  obtain ⟨W0, hW0⟩ : ∃ W0, W0 = w.alloc (.cells #[.slice A ll.length c] 48) := ⟨_, rfl⟩
  have hsz : W0.heap.size = w.heap.size + 1 := by rw [hW0]; simp
  rw [← hW0] at hbox HB0
  have HBOX := Lib.hid hbox
  have HW0 := Lib.hid hW0
  have HSZ := Lib.hid hsz
  clear hbox hW0 hsz
  go_enter Try.func8, Try.ntmps8
  go_wp2_with fail
  rw [← HW0.out]
  go_loopw [3] (fun i wr => ∃ k : Nat, k ≤ ll.length ∧ i = .int .i64 k ∧ Below W0.heap.size W0 wr) (fun i _ => ll.length - (intOf i).toNat)
  case atStart => exact ⟨0, Nat.zero_le _, rfl, Below.refl _ _⟩
  case round =>
    obtain ⟨k, hk, rfl, hbel⟩ := hrel
    have HBEL := Lib.hid hbel
    clear hbel
    have hbx : wr.cell? ⟨w.heap.size, 0, none⟩ = some (.slice A ll.length c) := (HBEL.out.cell (p := ⟨w.heap.size, 0, none⟩) (by have := HSZ.out; simp; omega)).trans HBOX.out
    by_cases hlt : k < ll.length
    · have hRr : (Kd.slice 2 (Kd.int .i64)).C wr A ll.length ll := Kd.C_below (Kd.C_below HR.out (by have := HB0.out; exact this)) HBEL.out
      obtain ⟨ad, Ak, ck, rfl, hcell, hck, hC⟩ := at_list hRr k hlt
      have hxv := HV.out ll[k] (List.getElem_mem hlt)
      have hxl := HL.out ll[k] (List.getElem_mem hlt)
      obtain ⟨xs, hxs⟩ : ∃ xs, xs = ll[k] := ⟨_, rfl⟩
      rw [← hxs] at hcell hck hC hxv hxl
      have HC := Lib.hid hC
      have HXV := Lib.hid hxv
      have HCELL := Lib.hid hcell
      have C22n := fun (W : World) (A : Option Addr) (c : Nat) (h : (Kd.int .i64).C W A (xs.map neg1).length (xs.map neg1)) => total_calls (xs.map neg1) A c W h (fun a ha => by obtain ⟨b, hb, rfl⟩ := List.mem_map.1 ha; exact neg1_in (HXV.out b hb))
      have C23n := fun (W : World) (A : Option Addr) (c : Nat) (h : (Kd.int .i64).C W A (xs.map neg1).length (xs.map neg1)) => rtotal_calls (xs.map neg1) A c W h (fun a ha => by obtain ⟨b, hb, rfl⟩ := List.mem_map.1 ha; exact neg1_in (HXV.out b hb))
      rw [List.length_map] at C22n C23n
      have N22 := Lib.hid C22n
      have N23 := Lib.hid C23n
      clear hxs hC hxv C22n C23n hRr
      go_wp2_with fail
      refine (lend_calls xs Ak ck _ HC.out hxl).mono ?_; rintro e w1 ⟨g, cap, rfl, ho, hb1⟩
      have hO : (Kd.int .i64).C w1 (some ⟨g, 0, none⟩) xs.length xs := own_C ho (by simp [marked])
      have hC1 := Kd.C_below HC.out hb1
      have hbx1 : w1.cell? ⟨w.heap.size, 0, none⟩ = some (.slice (some ad) ll.length c) := pw_cell_below hb1 hbx
      have hcell1 : w1.cell? (ad.add k) = some (.slice Ak xs.length ck) := pw_cell_below hb1 hcell
      have hgB : wr.heap.size ≤ g := own_base ho g rfl
      have HO := Lib.hid ho
      have HB1 := Lib.hid hb1
      have HOC := Lib.hid hO
      have HC1 := Lib.hid hC1
      clear ho hb1 hO hC1 hbx hcell
      go_wp2_with fail
      refine (total_calls xs _ _ _ HOC.out HXV.out).mono ?_; rintro e w' ⟨rfl, rfl⟩
      go_wp2_with fail
      refine (rtotal_calls xs _ _ _ HC1.out HXV.out).mono ?_; rintro e w' ⟨rfl, rfl⟩
      go_wp2_with fail
      refine (same_calls _ _ _).mono ?_; rintro e w' ⟨rfl, rfl⟩
      go_wp2_with fail
      refine (intact_calls xs Ak ck g cap _ _ HC1.out hxl HO.out).mono ?_; rintro e w' ⟨rfl, ⟨nd, rfl⟩⟩
      go_wp2_with fail
      obtain ⟨wo, hwo⟩ : ∃ wo : World, wo = wr := ⟨_, rfl⟩
      rw [← hwo] at HB1 HO HBEL hgB
      clear hwo
      go_loopw [9] (fun i wr2 => ∃ j : Nat, j ≤ xs.length ∧ i = .int .i64 j ∧ Below wo.heap.size wo wr2 ∧ wr2.ownsRow wo.heap.size 2 1 (.slice (some ⟨g, 0, none⟩) (marked xs).length cap) (marked xs).length (encs I (fl j xs ++ [4242, -4242]))) (fun i _ => xs.length - (intOf i).toNat)
      case atStart => exact ⟨0, Nat.zero_le _, rfl, pw_below_drewN HB1.out nd, by rw [fl_zero]; exact pw_own_below HO.out (pw_below_drewN (Below.refl _ _) nd)⟩
      case round =>
        obtain ⟨j, hj, rfl, hb2, ho2⟩ := hrel
        have HB2 := Lib.hid hb2
        have HO2 := Lib.hid ho2
        clear hb2 ho2
        by_cases hjl : j < xs.length
        · have hcj := own_at_of (d := 0) HO2.out (j : Int) (by omega) (by rw [marked_length]; omega)
          obtain ⟨hcj, hfj⟩ := hcj
          rw [Int.toNat_natCast] at hcj hfj
          have hrd : rdOf 0 (fl j xs ++ [4242, -4242]) (j : Int) = rd xs (j : Int) := fl_rd j xs _ hjl
          rw [hrd] at hcj
          have hx := HXV.out xs[j] (List.getElem_mem hjl)
          rw [← rd_get xs j hjl] at hx
          obtain ⟨hx1, hx2⟩ := hx
          clear hrd
          have hst : (wr.setCell ⟨g, j, none⟩ (I (-1 - rd xs (j : Int)))).ownsRow wo.heap.size 2 1 (.slice (some ⟨g, 0, none⟩) (marked xs).length cap) (marked xs).length (encs I (fl (j + 1) xs ++ [4242, -4242])) := by
            have h1 := (own_store_of HO2.out (j : Int) (neg1 (rd xs (j : Int)))).1
            rw [Int.toNat_natCast, fl_set j xs _ hjl] at h1
            exact h1
          have HST := Lib.hid hst
          clear hst
          go_wp2_with fail
          go_roundw
          case rel => exact ⟨j + 1, by omega, by go_num, HB2.out.setCell hgB _, HST.out⟩
          case measure => simp [intOf]; omega
        · obtain rfl : j = xs.length := by omega
          have hO3 : (Kd.int .i64).C wr (some ⟨g, 0, none⟩) xs.length (xs.map neg1) := by
            have h9 : (Kd.int .i64).C wr (some ⟨g, 0, none⟩) (xs.map neg1).length (xs.map neg1) := own_C HO2.out (by rw [fl_all, List.take_append_of_le_length (by simp), List.take_of_length_le (Nat.le_refl _)])
            rwa [List.length_map] at h9
          have HO3 := Lib.hid hO3
          clear hO3
          go_wp2_with fail
          refine (N22.out wr _ _ HO3.out).mono ?_; rintro e w' ⟨rfl, rfl⟩
          go_wp2_with fail
          refine (N23.out wr _ _ HO3.out).mono ?_; rintro e w' ⟨rfl, rfl⟩
          go_wp2_with fail
          refine (same_calls _ _ _).mono ?_; rintro e w' ⟨rfl, rfl⟩
          go_wp2_with fail
          go_roundw
          case rel => exact ⟨k + 1, by omega, by go_num, HBEL.out.trans (HB2.out.mono HBEL.out.size)⟩
          case measure => simp [intOf]; omega
    · have hnil := total_calls [] none 0 wr (Kd.C_nil _ _) (fun a ha => by cases ha)
      have hf0 : fit ([] : List Int).sum = (0, true) := by decide
      rw [hf0] at hnil
      have HN := Lib.hid hnil
      clear hnil hf0
      go_wp2_with fail
      refine HN.out.mono ?_; rintro e w' ⟨rfl, rfl⟩
      go_wp2_with fail
      go_ret
      exact ⟨rfl, HB0.out.trans (HBEL.out.mono (by have := HSZ.out; omega))⟩
theorem contract {H : Type} {enc : TypeId × Value → H} (W : World) (base : Nat) (v0 : Value) (d0 : DataW H) (p0 : List MemPlace) (hok : Value.okWide Try.prog W .any base 48 v0)
    (h0 : DataW.Trod enc Try.prog W 0 (fun _ => true) true 48 v0 d0 p0) (hlt : ∀ x ∈ p0, x.block < W.heap.size) (hsz : (DataW.weightsEach Try.prog [48] [d0]).all (· ≤ reachBytes) = true) (hk : Rows.uptoSmall H [d0] = true) :
    Calls Try.prog 8 #[v0] W fun e W' => e = .returned (.bool true) ∧ Below W.heap.size W W' := by
  obtain ⟨ll, cs, rfl, hK, hV, hB⟩ := open_arg Try.underlying48 opens_Lists hok h0
  obtain ⟨A, c, hcs, hl, hC⟩ := hK
  obtain rfl : cs = #[.slice A ll.length c] := by cases cs; simp at hcs; rw [hcs]
  have hb : Rows.uptoBulk d0 ≤ 1048576 := by
    have := of_decide_eq_true hk
    simpa [Rows.uptoBulkAll] using this
  refine walk ll A c W hC (fun l hl a ha => in64 (hV l hl a ha)) (fun l hl => ?_)
  have h1 := sumB_mem (B := fun l : List Int => sumB (fun _ => 1) l + 1) hl
  have h2 := sumB_length (B := fun _ : Int => 1) (fun _ => Nat.le_refl _) l
  omega
end Go.Proofs.Ytidofjmflpcglaa.SumTotal
