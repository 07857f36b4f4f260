/- played, with how many bytes are laid in all. -/
import Derived.Test.YtoeiaimoppmjdaaPlayed
namespace Go.Proofs.Ytoeiaimoppmjdaa.Wr
open Go.RowKit Go.Proofs.YtoeiaimoppmjdaaW.PrintWords Go.Proofs.Ytoeiaimoppmjdaa.Bytes
set_option linter.unusedVariables false
set_option linter.unusedSimpArgs false
/-- A step that is good, with its number M. -/
def GoodM (w : World) (p : Stp) : Prop := p.Good w ∧ -9223372036854775808 ≤ p.m ∧ p.m ≤ 9223372036854775807
def laidB (ps : List Stp) : Nat := (ps.map fun p => p.b.length).sum
theorem laidB_snoc (ps : List Stp) (p : Stp) : laidB (ps ++ [p]) = laidB ps + p.b.length := by simp [laidB]
set_option maxRecDepth 40000 in
set_option maxHeartbeats 3200000 in
theorem played2_calls (os : List (Int × Int × Int × Int × List Int)) (A : Option Addr) (c : Nat) (wE w : World) (hE : Below wE.heap.size wE w) (hr : KOp.C wE A os.length os)
    (hv : ∀ o, o ∈ os → ((-9223372036854775808 ≤ o.2.1 ∧ o.2.1 ≤ 9223372036854775807) ∧ (0 ≤ o.2.2.2.1 ∧ o.2.2.2.1 ≤ 18446744073709551615) ∧ Byt o.2.2.2.2 ∧ o.2.2.2.2.length ≤ 1048576) ∧ -9223372036854775808 ≤ o.2.2.1 ∧ o.2.2.1 ≤ 9223372036854775807) :
    Calls Try.prog 7 #[.slice A os.length c] w fun e w' => ∃ (ps : List Stp) (v : Value), e = .returned v ∧ w'.ownsRow w.heap.size 63 5 v ps.length (stpCells ps) ∧ Below w.heap.size w w' ∧ ps.length ≤ 400 ∧ laidB ps ≤ 4194304 ∧ ∀ p, p ∈ ps → GoodM wE p := by
  have hn := Kd.C_max hr
  have HR := Lib.hid hr
  have HV := Lib.hid hv
  have HE := Lib.hid hE
  clear hr hv hE
  go_enter Try.func7, Try.ntmps7
  go_wp2_with fail
  go_loopw [3, 4, 5] (fun v r i wr => ∃ (k : Nat) (R : Int) (ps : List Stp), i = .int .i64 k ∧ r = .int .i64 R ∧ 0 ≤ R ∧ (laidB ps : Int) + R ≤ 4194304 ∧ k ≤ os.length ∧ k ≤ 400 ∧ ps.length = k ∧ wr.ownsRow w.heap.size 63 5 v k (stpCells ps) ∧ Below w.heap.size w wr ∧ ∀ p, p ∈ ps → GoodM wE p) (fun _ _ i _ => 400 - (intOf i).toNat)
  case atStart => exact ⟨0, 4194304, [], rfl, rfl, by omega, by simp [laidB], by omega, by omega, rfl, by simpa [stpCells] using own_nil w w.heap.size 63 5, Below.refl _ _, by simp⟩
  case round =>
    obtain ⟨k, R, ps, rfl, rfl, hR0, hR1, hk, hk4, hpl, ho, hb, hg⟩ := hrel
    have HO := Lib.hid ho
    have HB := Lib.hid hb
    have HGD := Lib.hid hg
    have HPL := Lib.hid hpl
    have hRm : R ≤ 4194304 := by omega
    clear ho hb hg hpl
    by_cases hgo : k < os.length ∧ k < 400
    · obtain ⟨g1, g2⟩ := hgo
      obtain ⟨ad, cq, rfl, hlq, hKq, hcq⟩ := Kd.C_get HR.out (0, 0, 0, 0, []) (k : Int) (by omega) (by omega)
      have hgq : os.getD (k : Int).toNat (0, 0, 0, 0, []) = os[k] := by rw [Int.toNat_natCast, List.getD_eq_getElem?_getD, List.getElem?_eq_getElem g1]; rfl
      have hvq := HV.out os[k] (List.getElem_mem g1)
      rw [hgq] at hKq
      obtain ⟨q, hqd⟩ : ∃ q, q = os[k] := ⟨_, rfl⟩
      rw [← hqd] at hKq hvq
      clear hqd hgq
      obtain ⟨kind, which, m, nn, b⟩ := q
      obtain ⟨_, _, rfl, rfl, _, _, rfl, rfl, _, _, rfl, rfl, _, _, rfl, rfl, hKb⟩ := hKq
      obtain ⟨B, cb, rfl, hlb, hCb⟩ := hKb
      obtain ⟨⟨hwh, hnn, hbt, hbl⟩, hmm⟩ := hvq
      simp only at hwh hnn hbt hbl hmm
      obtain ⟨n, rfl⟩ := Int.eq_ofNat_of_zero_le hnn.1
      have hrb := Kd.reads_of_C (enc := I) (d := (0 : Int)) (h1 := fun _ => rfl) hCb
      rw [Int.toNat_natCast] at hcq
      have hq0 : wr.cell? (ad.add (k * 5)) = some (.int .i64 kind) := pw_cell_below (HE.out.trans (HB.out.mono HE.out.size)) (hcq 0 _ rfl)
      have hq1 : wr.cell? ⟨(ad.add (k * 5)).block, (ad.add (k * 5)).off + 1, none⟩ = some (.int .i64 which) := pw_cell_below (HE.out.trans (HB.out.mono HE.out.size)) (by rw [← add_field _ _ 1 (by omega)]; exact hcq 1 _ rfl)
      have hq2 : wr.cell? ⟨(ad.add (k * 5)).block, (ad.add (k * 5)).off + 2, none⟩ = some (.int .i64 m) := pw_cell_below (HE.out.trans (HB.out.mono HE.out.size)) (by rw [← add_field _ _ 2 (by omega)]; exact hcq 2 _ rfl)
      have hq3 : wr.cell? ⟨(ad.add (k * 5)).block, (ad.add (k * 5)).off + 3, none⟩ = some (.int .u64 n) := pw_cell_below (HE.out.trans (HB.out.mono HE.out.size)) (by rw [← add_field _ _ 3 (by omega)]; exact hcq 3 _ rfl)
      have hq4 : wr.cell? ⟨(ad.add (k * 5)).block, (ad.add (k * 5)).off + 4, none⟩ = some (.slice B b.length cb) := pw_cell_below (HE.out.trans (HB.out.mono HE.out.size)) (by rw [← add_field _ _ 4 (by omega)]; exact hcq 4 _ rfl)
      have b1 : (k : Int) < (os.length : Int) := by omega
      have b2 : (k : Int) < 400 := by omega
      have hn64 : n < 18446744073709551616 := by omega
      have HG2 : Hid (∀ p, p ∈ ps ++ [Stp.mk kind which m n b B cb] → GoodM wE p) := fun p hp => by
        rcases List.mem_append.1 hp with h | h
        · exact HGD.out p h
        · have : p = Stp.mk kind which m n b B cb := by simpa using h
          subst this
          exact ⟨⟨hrb, hbt, hbl, hn64, hwh⟩, hmm⟩
      have HG3 : Hid (∀ p, p ∈ ps ++ [Stp.mk kind which m n [] none 0] → GoodM wE p) := fun p hp => by
        rcases List.mem_append.1 hp with h | h
        · exact HGD.out p h
        · have : p = Stp.mk kind which m n [] none 0 := by simpa using h
          subst this
          exact ⟨⟨nil_reads wE, by intro a ha; simp at ha, by simp, hn64, hwh⟩, hmm⟩
      have bb : (b.length : Int) ≤ 1048576 := by omega
      clear hmm hcq hlq hrb hnn hbt hwh hCb hlb hn64 hbl
      obtain ⟨i0, hi0, hzz⟩ := Option.map_eq_some_iff.1 info48
      simp only [Prod.mk.injEq] at hzz
      obtain ⟨hz0, hs0, hb0⟩ := hzz
      by_cases hroom : R < (b.length : Int)
      · go_wp2_with (at_builtin; refine wpList_append_lies _ rfl (.tmp 32) (.tmp 34) 24 rfl w.heap.size 63 i0 (.agg #[.int .i64 0, .int .i64 0, .int .i64 0, .int .u64 0, .slice none 0 0]) 5 56 Try.underlying24 hi0 hz0 hs0 hb0 rfl (by omega) u3 k (stpCells ps) rfl ?h2 ⟨wr.heap.size + 1, 0, none⟩ 1 1 (Stp.mk kind which m n [] none 0).cells rfl rfl ?hn ?h1 (by omega) ?h3 ?h5 ?h4 _ rfl ?_; (case h2 => exact own_alloc (own_alloc HO.out _) _); (case hn => exact World.news_of_block (by have h := blk_new (wr.alloc (.cells (Stp.mk kind which m n [] none 0).cells.toArray 63)) (.cells (Stp.mk kind which m n [] none 0).cells.toArray 63); rw [show (wr.alloc (.cells (Stp.mk kind which m n [] none 0).cells.toArray 63)).heap.size = wr.heap.size + 1 by simp] at h; exact h)); (case h1 => simp [Stp.cells, Value.oneCell']); (case h3 => simp [maxLen]; omega); (case h5 => omega); (case h4 => have := HB.out.size; simp; omega); intro g2 cap2 w2 ho2 hg2 hat2 hlt2; have HO2 := Lib.hid ho2; have HB2 : Hid (Below w.heap.size w w2) := (((HB.out.alloc HB.out.size _).alloc (by have := HB.out.size; simp; omega) _).grown hg2 (by have := HB.out.size; simp; omega) (own_base HO.out)); clear ho2 hg2 hat2 hlt2)
        go_wp2_with fail
        go_roundw
        case rel => exact ⟨k + 1, R, ps ++ [Stp.mk kind which m n [] none 0], by go_num, by go_num, by omega, by rw [laidB_snoc]; simp only [List.length_nil]; omega, by omega, by omega, by rw [List.length_append, HPL.out]; rfl, by rw [stpCells_append]; exact HO2.out, HB2.out, HG3.out⟩
        case measure => simp [intOf]; omega
      · go_wp2_with (at_builtin; refine wpList_append_lies _ rfl (.tmp 32) (.tmp 34) 24 rfl w.heap.size 63 i0 (.agg #[.int .i64 0, .int .i64 0, .int .i64 0, .int .u64 0, .slice none 0 0]) 5 56 Try.underlying24 hi0 hz0 hs0 hb0 rfl (by omega) u3 k (stpCells ps) rfl ?h2 ⟨wr.heap.size + 1, 0, none⟩ 1 1 (Stp.mk kind which m n b B cb).cells rfl rfl ?hn ?h1 (by omega) ?h3 ?h5 ?h4 _ rfl ?_; (case h2 => exact own_alloc (own_alloc HO.out _) _); (case hn => exact World.news_of_block (by have h := blk_new (wr.alloc (.cells (Stp.mk kind which m n b B cb).cells.toArray 63)) (.cells (Stp.mk kind which m n b B cb).cells.toArray 63); rw [show (wr.alloc (.cells (Stp.mk kind which m n b B cb).cells.toArray 63)).heap.size = wr.heap.size + 1 by simp] at h; exact h)); (case h1 => simp [Stp.cells, Value.oneCell']); (case h3 => simp [maxLen]; omega); (case h5 => omega); (case h4 => have := HB.out.size; simp; omega); intro g2 cap2 w2 ho2 hg2 hat2 hlt2; have HO2 := Lib.hid ho2; have HB2 : Hid (Below w.heap.size w w2) := (((HB.out.alloc HB.out.size _).alloc (by have := HB.out.size; simp; omega) _).grown hg2 (by have := HB.out.size; simp; omega) (own_base HO.out)); clear ho2 hg2 hat2 hlt2)
        go_wp2_with fail
        go_roundw
        case rel => exact ⟨k + 1, R - b.length, ps ++ [Stp.mk kind which m n b B cb], by go_num, by go_num, by omega, by rw [laidB_snoc]; simp only; omega, by omega, by omega, by rw [List.length_append, HPL.out]; rfl, by rw [stpCells_append]; exact HO2.out, HB2.out, HG2.out⟩
        case measure => simp [intOf]; omega
    · have hcase : ¬ (k : Int) < (os.length : Int) ∨ ((k : Int) < (os.length : Int) ∧ ¬ (k : Int) < 400) := by omega
      clear hgo
      rcases hcase with p1 | ⟨p1, p2⟩
      · go_wp2_with fail
        go_ret
        exact ⟨ps, _, rfl, by rw [HPL.out]; exact HO.out, HB.out, by rw [HPL.out]; exact hk4, by omega, HGD.out⟩
      · go_wp2_with fail
        go_ret
        exact ⟨ps, _, rfl, by rw [HPL.out]; exact HO.out, HB.out, by rw [HPL.out]; exact hk4, by omega, HGD.out⟩
end Go.Proofs.Ytoeiaimoppmjdaa.Wr
