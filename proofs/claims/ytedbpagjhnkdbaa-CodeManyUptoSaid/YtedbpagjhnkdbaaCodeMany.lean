/- CodeMany: any number of Writers and Readers live side by side, each by itself. -/
import Derived.Test.YtedbpagjhnkdbaaMany
import Derived.Test.YtedbpagjhnkdbaaTurned
import Derived.Deep.RegionHeld3
import Derived.Deep.RegionLaw
namespace Go.Proofs.Ytedbpagjhnkdbaa.CodeMany
open Go.RowKit Go.Proofs.YtedbpagjhnkdbaaW.PrintWords Go.Proofs.Ytedbpagjhnkdbaa.Bytes Go.Proofs.Ytedbpagjhnkdbaa.Wr
set_option linter.unusedVariables false
set_option linter.unusedSimpArgs false
theorem held_cell {W W' : World} {B n : Nat} {g : Nat → Nat} {v h : Nat → Value} {x : Nat → List Int} {wv : Value} {gh cap : Nat} (m : Many W B n g v h x wv (.slice (some ⟨gh, 0, none⟩) n cap)) {k : Nat} (hk : k < n) {v' h' : Value} {y z : List Int}
    (t : Two W W' B (g k) (v k) (h k) v' h' y z) {j : Nat} (hj : j < n) : W'.cell? ⟨gh, j, none⟩ = some (h j) ∧ W'.frozen? ⟨gh, j, none⟩ = false := by
  have wk := m.fam.wt k hk
  have ok := m.fam.ho k hk
  have r2 := t.other m.hr (ne_blockT wk.blk (by decide) m.hr) (type_ne m.hr wk.own (by decide)) (type_ne m.hr ok (by decide))
  exact ⟨by rw [r2.cellAt j (by omega)]; simp [hj], r2.frozenAt j⟩
theorem reads_keepbut {w W w' : World} {A : Option Addr} {n g : Nat} {row : Option Nat} {xs : List Int} (h : ReadsOf I 0 w A n xs) (hb : Below w.heap.size w W) (hk : KeepBut W w' g row) (hg : w.heap.size ≤ g) (hr : ∀ b, row = some b → w.heap.size ≤ b) : ReadsOf I 0 w' A n xs :=
  ⟨h.1, h.2.1, fun h0 => by
    obtain ⟨ad, e, hc⟩ := h.2.2 h0
    refine ⟨ad, e, fun j hj => ?_⟩
    have h1 := hc j hj
    have hlt := World.block_lt_of_cell? w _ h1
    have e2 := hk.2 (ad.add j).block (Nat.lt_of_lt_of_le hlt hb.size) (by omega) (fun q => by have := hr _ q.symm; omega)
    have h2 := pw_cell_below hb h1
    rw [← h2]
    exact World.cell?_of_block e2⟩
set_option maxRecDepth 100000 in
set_option maxHeartbeats 6400000 in
/-- The first loop: n Writers are made, a number laid into each. -/
theorem walk (N : Int) (ll : List (List Int)) (A : Option Addr) (c : Nat) (w : World) (hN : -9223372036854775808 ≤ N ∧ N ≤ 9223372036854775807) (hr : (Kd.slice 5 (Kd.int .u8)).C w A ll.length ll) (hv : ∀ l, l ∈ ll → Byt l) (hb : ∀ l, l ∈ ll → l.length ≤ 1048576) :
    Calls Try.prog 7 #[.agg #[.int .i64 N, .slice A ll.length c]] w fun e w' => e = .returned (.bool true) ∧ Below w.heap.size w w' := by
  have hn := Kd.C_max hr
  obtain ⟨W0, hW0⟩ : ∃ W0, W0 = w.alloc (.cells #[.int .i64 N, .slice A ll.length c] 55) := ⟨_, rfl⟩
  have hB0 : Below w.heap.size w W0 := by rw [hW0]; exact (Below.refl _ _).alloc (Nat.le_refl _) _
  have hblk : W0.heap[w.heap.size]? = some (.cells #[.int .i64 N, .slice A ll.length c] 55 (0, 0)) := by rw [hW0]; exact blk_new w _
  have hx0 := blk_cell hblk 0
  simp at hx0
  obtain ⟨n, hnn, hnl, hnp⟩ : ∃ n : Nat, 1 + N % 64 = (n : Int) ∧ n ≤ 64 ∧ 0 < n := ⟨(1 + N % 64).toNat, by omega, by omega, by omega⟩
  have CI := Lib.hid (into_gen N 64 W0 (by omega) (by omega) hN.1 hN.2)
  have HB0 := Lib.hid hB0
  have HW0 := Lib.hid hW0
  have HR := Lib.hid hr
  have HV := Lib.hid hv
  have HB := Lib.hid hb
  have HSZ : Hid (W0.heap.size = w.heap.size + 1) := by rw [hW0]; show _ = _; simp
  have HBK := Lib.hid hblk
  have HNL := Lib.hid hnl
  have HNP := Lib.hid hnp
  have n64 : (n : Int) ≤ 64 := by omega
  clear hW0 hB0 hblk hr hv hb hnl hnp
  go_enter Try.func7, Try.ntmps7
  go_wp2_with fail
  rw [← HW0.out]
  go_wp2_with fail
  refine CI.out.mono ?_; rintro e w1 ⟨rfl, hq⟩
  have hq2 := hq.symm
  clear hq
  subst hq2
  have nw : IntKind.i64.wrap (1 + N % 64) = (n : Int) := by rw [wrap_in (by omega) (by omega)]; exact hnn
  clear hx0
  go_wp2_with fail
  go_loopw [4, 5, 6] (fun wv hv i wr => ∃ (k : Nat) (g : Nat → Nat) (v h : Nat → Value) (x : Nat → List Int), i = .int .i64 k ∧ k ≤ n ∧ Many wr W0.heap.size k g v h x wv hv ∧ (∀ j, j < k → x j = fixL j 4) ∧ Below W0.heap.size W0 wr) (fun _ _ i _ => n - (intOf i).toNat)
  case atStart => exact ⟨0, fun _ => 0, fun _ => .slice none 0 0, fun _ => .slice none 0 0, fun _ => [], rfl, by omega, ⟨Fam.zero _ _ _ _ _ _, own_nil _ _ _ _, own_nil _ _ _ _⟩, fun j hj => absurd hj (by omega), Below.refl _ _⟩
  case round =>
    obtain ⟨k, g, v, h, x, rfl, hk, hm, hx, hbr⟩ := hrel
    have HM := Lib.hid hm
    have HXX := Lib.hid hx
    have HBR := Lib.hid hbr
    clear hm hx hbr
    by_cases hlt : k < n
    · have i1 : (k : Int) < (n : Int) := by omega
      have CN := Lib.hid (new_calls wr W0.heap.size HBR.out.size)
      go_wp2_with fail
      refine CN.out.mono ?_; rintro e w1 ⟨rfl, hw1, hb1⟩
      have T1 := Lib.hid hw1
      have B1 := Lib.hid hb1
      have M1 := Lib.hid (HM.out.below hb1)
      have HB1 : Hid (Below W0.heap.size W0 w1) := HBR.out.trans (hb1.mono HBR.out.size)
      clear hw1 hb1
      go_wp2_with (first
        | (at_builtin; refine print_append_cells (w0 := W0) W0.heap.size rfl (.tmp 22) (.tmp 24) 56 42 (.pointer none) 1 8 rfl Try.underlying56 info42 rfl (by omega) (by omega) u4 k ((List.range k).map fun i => Value.pointer (some ⟨g i, 0, none⟩)) [Value.pointer (some ⟨wr.heap.size, 0, none⟩)] rfl rfl rfl ?h1 ?h2 ?h3 ?h4 ?h5 ?_; (case h1 => simp [Value.oneCell']); (case h2 => exact M1.out.wr); (case h3 => exact HB1.out); (case h4 => exact HB1.out.size); (case h5 => omega); intro v2 w2 ho2 hb2 hg2 hat2; obtain ⟨gw, cw, rfl, _, _⟩ := ho2.form (by omega); have O2 := Lib.hid ho2; have B2 := Lib.hid hb2; have G2 := Lib.hid hg2; have R2 : Hid (w2.ownsRow W0.heap.size 27 1 u5 k ((List.range k).map fun i => h i)) := own_other M1.out.hr hg2 (type_ne M1.out.hr M1.out.wr (by decide)); clear ho2 hb2 hg2 hat2)
        | (at_builtin; refine print_append_cells (w0 := W0) W0.heap.size rfl (.tmp 26) (.tmp 27) 22 27 (.slice none 0 0) 1 24 rfl Try.underlying22 info27 rfl (by omega) (by omega) u5 k ((List.range k).map fun i => h i) [Value.slice none 0 0] rfl rfl rfl ?h1 ?h2 ?h3 ?h4 ?h5 ?_; (case h1 => simp [Value.oneCell']); (case h2 => exact R2.out); (case h3 => exact B2.out); (case h4 => exact B2.out.size); (case h5 => omega); intro v3 w3 ho3 hb3 hg3 hat3; obtain ⟨gh, ch, rfl, _, _⟩ := ho3.form (by omega); have B3 := Lib.hid hb3; have M3 := Lib.hid (HM.out.add B1.out T1.out (Nat.le_refl _) G2.out O2.out hg3 ho3); have cw0 : w3.cell? ⟨gw, k, none⟩ = some (.pointer (some ⟨wr.heap.size, 0, none⟩)) := by { rw [M3.out.wr.cellAt k (by omega)]; simp [upd_self] }; clear ho3 hb3 hg3 hat3))
      have wk : Wtr w3 W0.heap.size wr.heap.size (.slice none 0 0) [] := by have h := M3.out.fam.wt k (by omega); rwa [upd_self, upd_self, upd_self] at h
      have WK := Lib.hid wk
      have CW := Lib.hid (wu32_calls k w3 W0.heap.size wr.heap.size (.slice none 0 0) [] wk B3.out.size (by have := HNL.out; omega) (by simp))
      clear wk
      refine CW.out.mono ?_; rintro e w4 ⟨rfl, v4, hp4⟩
      have T4 := Lib.hid ((Two.refl WK.out (own_nil w3 W0.heap.size 5 1) (ne_nil (.slice none 0 0)) : Two w3 w3 W0.heap.size wr.heap.size (.slice none 0 0) (.slice none 0 0) (.slice none 0 0) (.slice none 0 0) [] []).put hp4)
      have CR := Lib.hid (ru32_calls k w4 w4.heap.size (Nat.le_refl _) (by have := HNL.out; omega))
      clear hp4
      go_wp2_with fail
      refine CR.out.mono ?_; rintro e w5 ⟨r, rfl, ho5, hb5⟩
      have T5 : Hid (Two w3 w5 W0.heap.size wr.heap.size (.slice none 0 0) (.slice none 0 0) v4 r (fixL k 4) (fixL k 4)) := T4.out.swap B3.out.size hb5 (by rw [fixL_length]; exact ho5) (by rw [fixL_length]; omega)
      have hce := held_cell M3.out (k := k) (by omega) (show Two w3 w5 W0.heap.size (upd g k wr.heap.size k) (upd v k (.slice none 0 0) k) (upd h k (.slice none 0 0) k) v4 r (fixL k 4) (fixL k 4) by rw [upd_self, upd_self, upd_self]; exact T5.out) (j := k) (by omega)
      rw [upd_self] at hce
      have ce1 := hce.1
      have ce2 := hce.2
      obtain ⟨Ar, nr, cr, rfl⟩ := slice_form ho5
      have M5 := Lib.hid (M3.out.step (k := k) (by omega) (show Two w3 w5 W0.heap.size (upd g k wr.heap.size k) (upd v k (.slice none 0 0) k) (upd h k (.slice none 0 0) k) v4 (.slice Ar nr cr) (fixL k 4) (fixL k 4) by rw [upd_self, upd_self, upd_self]; exact T5.out))
      have B5 : Hid (Below W0.heap.size W0 (w5.setCell ⟨gh, k, none⟩ (.slice Ar nr cr))) := (B3.out.trans T5.out.bl).setCell (own_base M3.out.hr gh rfl) _
      have HX2 : Hid (∀ j, j < k + 1 → upd (upd x k []) k (fixL k 4) j = fixL j 4) := fun j hj => by
        by_cases e : j = k
        · subst e; rw [upd_self]
        · rw [upd_ne _ _ e, upd_ne _ _ e]; exact HXX.out j (by omega)
      clear ho5 hb5 hce
      go_wp2_with fail
      go_roundw
      case rel => exact ⟨k + 1, _, _, _, _, by go_num, by omega, M5.out, HX2.out, B5.out⟩
      case measure => simp [intOf]; omega
    · have i1 : ¬ (k : Int) < (n : Int) := by omega
      obtain rfl : k = n := by omega
      obtain ⟨gw, cw, hgw, _, _⟩ := HM.out.wr.form HNP.out
      obtain ⟨gh, ch, hgh, _, _⟩ := HM.out.hr.form HNP.out
      subst hgw
      subst hgh
      go_wp2_with fail
      go_loopw [7, 8] (fun r i wr2 => ∃ (R : Int) (j : Nat) (v h : Nat → Value) (x : Nat → List Int), r = .int .i64 R ∧ 0 ≤ R ∧ R ≤ 4194304 ∧ i = .int .i64 j ∧ j ≤ ll.length ∧ j ≤ 400 ∧ Many wr2 W0.heap.size k g v h x (.slice (some ⟨gw, 0, none⟩) k cw) (.slice (some ⟨gh, 0, none⟩) k ch) ∧ (∀ q, q < k → ∃ rest, x q = fixL q 4 ++ rest) ∧ (∀ q, q < k → (x q).length ≤ 4 + j * 1048600) ∧ Below W0.heap.size W0 wr2) (fun _ i _ => 400 - (intOf i).toNat)
      case atStart => exact ⟨4194304, 0, v, h, x, rfl, by omega, by omega, rfl, by omega, by omega, HM.out, fun q hq => ⟨[], by rw [HXX.out q hq, List.append_nil]⟩, fun q hq => by rw [HXX.out q hq, fixL_length]; omega, HBR.out⟩
      case round =>
        obtain ⟨R, j, v, h, x, rfl, hR0, hR1, rfl, hj, hj4, hm, hx, hxl, hbr⟩ := hrel
        have HM2 := Lib.hid hm
        have HX2 := Lib.hid hx
        have HL2 := Lib.hid hxl
        have HB2 := Lib.hid hbr
        have box := pw_cell_below (hbr : Below W0.heap.size W0 wr) (show W0.cell? ⟨w.heap.size, 1, none⟩ = some (.slice A ll.length c) from blk_cell HBK.out 1)
        clear hm hx hxl hbr
        by_cases hgo : j < ll.length ∧ j < 400
        · obtain ⟨g1, g2⟩ := hgo
          obtain ⟨ad, Ab, cb, rfl, hel, hlb, hCb⟩ := at_list HR.out j g1
          have hvb := HV.out _ (List.getElem_mem g1)
          have hbb := HB.out _ (List.getElem_mem g1)
          obtain ⟨b, hbd⟩ : ∃ b, b = ll[j] := ⟨_, rfl⟩
          rw [← hbd] at hel hlb hCb hvb hbb
          have hrb := Kd.reads_of_C (enc := I) (d := (0 : Int)) (h1 := fun _ => rfl) hCb
          have HRB := Lib.hid hrb
          have HW2 : Hid (Below w.heap.size w wr) := HB0.out.trans (HB2.out.mono (by have := HSZ.out; omega))
          have el := pw_cell_below HW2.out hel
          have EL := Lib.hid hel
          have b1 : (j : Int) < (ll.length : Int) := by omega
          have b2 : (j : Int) < 400 := by omega
          have b3 : (b.length : Int) ≤ 1048576 := by omega
          have HBB := Lib.hid hbb
          clear hbd hCb hrb hel hlb
          by_cases hroom : R < (b.length : Int)
          · go_wp2_with fail
            go_roundw
            case rel => exact ⟨R, j + 1, v, h, x, rfl, hR0, hR1, by go_num, by omega, by omega, HM2.out, HX2.out, fun q hq => Nat.le_trans (HL2.out q hq) (Nat.add_le_add_left (Nat.mul_le_mul_right _ (Nat.le_succ j)) 4), HB2.out⟩
            case measure => simp [intOf]; omega
          · obtain ⟨q, hq⟩ : ∃ q, q = j % k := ⟨_, rfl⟩
            have hqk : q < k := by rw [hq]; exact Nat.mod_lt _ HNP.out
            have hqe : (j : Int) % (k : Int) = (q : Int) := by rw [hq]; simp
            have hqm : (j : Int).tmod (k : Int) = (q : Int) := by rw [Int.tmod_eq_emod_of_nonneg (by omega)]; exact hqe
            have kz : ¬ (k : Int) = 0 := by have := HNP.out; omega
            have qi0 : (0 : Int) ≤ (q : Int) := by omega
            have qi1 : (q : Int) < (k : Int) := by omega
            have md := HM2.out.below ((Below.refl wr.heap.size wr).drew)
            have MD := Lib.hid md
            have HQK := Lib.hid hqk
            have cw1 : wr.cell? ⟨gw, q, none⟩ = some (.pointer (some ⟨g q, 0, none⟩)) := by rw [HM2.out.wr.cellAt q (by omega)]; simp [hqk]
            have CW := Lib.hid (wbytes_calls b Ab cb wr.drew W0.heap.size (g q) (v q) (x q) (md.fam.wt q hqk) HB2.out.size (fun w' hk => reads_keepbut HRB.out (HW2.out.drew) hk (by have := (HM2.out.fam.wt q hqk).le; have := HSZ.out; omega) (fun b hb => by have := own_base (HM2.out.fam.wt q hqk).own b hb; have := HSZ.out; omega)) (by have := HL2.out q hqk; have := HBB.out; omega))
            have T0 := Lib.hid (Two.refl (md.fam.wt q hqk) (md.fam.ho q hqk) (md.fam.nvh q q hqk hqk))
            have SK : Hid (∀ w' v', Put wr.drew w' W0.heap.size (g q) (v q) v' (x q ++ (vr b.length ++ b)) → w'.cell? ⟨gw, q, none⟩ = some (.pointer (some ⟨g q, 0, none⟩)) ∧ w'.cell? ⟨w.heap.size, 1, none⟩ = some (.slice (some ad) ll.length c) ∧ w'.cell? (ad.add j) = some (.slice Ab b.length cb)) := fun w' v' hp => by
              have t := T0.out.put hp
              have r1 := t.other MD.out.wr (ne_blockT (MD.out.fam.wt q hqk).blk (by decide) MD.out.wr) (type_ne MD.out.wr (MD.out.fam.wt q hqk).own (by decide)) (type_ne MD.out.wr (MD.out.fam.ho q hqk) (by decide))
              have hbb : Below W0.heap.size W0 w' := HB2.out.trans (((Below.refl W0.heap.size wr).drew).trans hp.bl)
              refine ⟨by rw [r1.cellAt q (by omega)]; simp [hqk], pw_cell_below hbb (blk_cell HBK.out 1), ?_⟩
              exact pw_cell_below (HB0.out.trans (hbb.mono (by have := HSZ.out; omega))) EL.out
            clear hq hqk md
            go_wp2_with fail
            go_region_held3 (fun w' => w'.cell? ⟨gw, q, none⟩ = some (.pointer (some ⟨g q, 0, none⟩)) ∧ w'.cell? ⟨w.heap.size, 1, none⟩ = some (.slice (some ad) ll.length c) ∧ w'.cell? (ad.add j) = some (.slice Ab b.length cb))
              (first | exact SK.out _ _ HP9.out | exact ⟨cw1, box, el⟩)
              (first | (go_at_call 27; with_reducible refine CW.out.mono ?_; rintro e w9 ⟨rfl, v9, hp9⟩; have HP9 := Lib.hid hp9; clear hp9))
            obtain ⟨tb, htb⟩ : ∃ tb, tb = vr b.length ++ b := ⟨_, rfl⟩
            have HTB := Lib.hid htb
            have T9' := T0.out.put HP9.out
            rw [← htb] at T9'
            have T9 := Lib.hid T9'
            have hb9w : Below W0.heap.size W0 w9 := HB2.out.trans (((Below.refl W0.heap.size wr).drew).trans HP9.out.bl)
            have HB9 := Lib.hid hb9w
            have BX := Lib.hid (pw_cell_below hb9w (show W0.cell? ⟨w.heap.size, 1, none⟩ = some (.slice (some ad) ll.length c) from blk_cell HBK.out 1))
            have EL9 := Lib.hid (pw_cell_below (HB0.out.trans (hb9w.mono (by have := HSZ.out; omega))) EL.out)
            have HC9 := Lib.hid (held_cell MD.out HQK.out T9' HQK.out)
            have CT : Hid (∀ W', Below w9.heap.size w9 W' → Calls Try.prog 28 #[.slice Ab b.length cb] W' fun e w'' => ∃ ad3 c3, e = .returned (.slice (some ad3) tb.length c3) ∧ (∀ i u, (encs I tb)[i]? = some u → w''.cell? (ad3.add i) = some u) ∧ Below w9.heap.size w9 w'') := fun W' hW => by
              have hrd : ReadsOf I 0 W' Ab b.length b := reads_keep HRB.out ((HB0.out.trans (HB9.out.mono (by have := HSZ.out; omega))).trans (hW.mono (by have := HB0.out.size; have := HB9.out.size; omega)))
              refine (rtext_calls b Ab cb W' W'.heap.size (Nat.le_refl _) hrd (by have := HBB.out; omega)).mono fun e w'' ⟨r, he, ho, hb⟩ => ?_
              obtain ⟨A3, c3, rfl, hr3⟩ := reads_of_own ho
              rw [← HTB.out] at hr3 he
              obtain ⟨ad3, rfl, hc3⟩ := hr3.2.2 (by rw [HTB.out, List.length_append]; have := vr_pos b.length; omega)
              refine ⟨ad3, c3, he, fun i u hu => ?_, hW.trans (hb.mono hW.size)⟩
              have hi : i < tb.length := by
                rcases Nat.lt_or_ge i tb.length with h | h
                · exact h
                · rw [List.getElem?_eq_none (by simp [encs]; exact h)] at hu; cases hu
              rw [encs_get (d := (0 : Int)) tb i hi] at hu
              injection hu with hu
              rw [← hu]; exact hc3 i hi
            have e1 := HC9.out.1
            have e2 := BX.out
            have e3 := EL9.out
            have HLT : Hid (tb.length ≤ 1048600) := by
              have := vr_length b.length 9 (by have := HBB.out; omega)
              have := HBB.out
              show tb.length ≤ 1048600
              rw [htb, List.length_append]; omega
            have HXQ : Hid ((x q).length ≤ 419440004) := by have := HL2.out q HQK.out; show (x q).length ≤ 419440004; omega
            obtain ⟨i0, hi0, hz0, hs0, hbb0⟩ := info_parts info5
            have HX3 : Hid (∀ p, p < k → ∃ rest, upd x q (x q ++ tb) p = fixL p 4 ++ rest) := fun p hp => by
              by_cases e : p = q
              · subst e
                obtain ⟨rest, hrest⟩ := HX2.out p hp
                exact ⟨rest ++ tb, by rw [upd_self, hrest, List.append_assoc]⟩
              · rw [upd_ne _ _ e]; exact HX2.out p hp
            have HL3 : Hid (∀ p, p < k → (upd x q (x q ++ tb) p).length ≤ 4 + (j + 1) * 1048600) := fun p hp => by
              have h0 := HL2.out p hp
              have h1 : (j + 1) * 1048600 = j * 1048600 + 1048600 := Nat.succ_mul j 1048600
              rw [h1]
              by_cases e : p = q
              · subst e
                rw [upd_self, List.length_append]
                exact Nat.le_trans (Nat.add_le_add h0 HLT.out) (Nat.le_of_eq (Nat.add_assoc _ _ _))
              · rw [upd_ne _ _ e]; exact Nat.le_trans h0 (Nat.add_le_add_left (Nat.le_add_right _ _) 4)
            have HJ : Hid (j + 1 ≤ ll.length) := g1
            have HJ4 : Hid (j + 1 ≤ 400) := g2
            clear T9' hb9w htb
            go_wp2_with fail
            go_region_law (first
              | (refine step_append_lies _ rfl (.tmp 92) (.tmp 98) 27 rfl W0.heap.size 5 i0 (.int .u8 0) 1 1 Try.underlying27 hi0 hz0 hs0 hbb0 rfl (by omega) (h q) (x q).length (encs I (x q)) rfl ?h1 ad3 tb.length c3 (encs I tb) rfl (by simp [encs]) ?h2 ?h3 ?h4 ?h5 ?h6 ?h7 _ rfl ?_; (case h1 => exact T10.out.ho); (case h2 => exact HC3.out); (case h3 => intro u hu; simp only [encs, List.mem_map] at hu; obtain ⟨_, _, rfl⟩ := hu; rfl); (case h4 => rw [HTB.out, List.length_append]; have := vr_pos b.length; omega); (case h5 => have := HLT.out; have := HXQ.out; simp only [maxLen]; omega); (case h6 => have := HLT.out; have := HXQ.out; omega); (case h7 => exact Nat.le_trans HB9.out.size (Nat.le_trans HB10.out.size (Nat.le_refl _))); intro g2 cap2 w11 ho11 hg11 hat11 hlt11; have T11 := Lib.hid (T10.out.held HB2.out.size hg11 (zs2 := x q ++ tb) (by rw [encs_append, List.length_append]; exact ho11) (by rcases hat11 with h | h; exact .inl h.symm; exact .inr ⟨g2, rfl, by rw [h]; exact Nat.le_refl _⟩)); have e1 := (held_cell MD.out HQK.out T11.out HQK.out).1; have e5 := (held_cell MD.out HQK.out T11.out HQK.out).2; clear ho11 hg11 hat11 hlt11)
              | (go_simp; go_at_call 28; refine (CT.out _ (below_drew (Below.refl _ _))).mono ?_; rintro e w10 ⟨ad3, c3, rfl, hc3, hb10⟩; have HB10 := Lib.hid hb10; have HC3 := Lib.hid hc3; have T10 := Lib.hid (T9.out.below HB2.out.size hb10); have e1 := (held_cell MD.out HQK.out T10.out HQK.out).1; have e2 := pw_cell_below hb10 BX.out; have e3 := pw_cell_below hb10 EL9.out; clear hc3 hb10))
            all_goals (have M11 := Lib.hid (MD.out.step HQK.out T11.out); have B11 : Hid (Below W0.heap.size W0 (w11.setCell ⟨gh, q, none⟩ (.slice (some ⟨g2, 0, none⟩) ((x q).length + tb.length) cap2))) := ((HB2.out.trans (((Below.refl W0.heap.size wr).drew).trans T11.out.bl))).setCell (own_base MD.out.hr gh rfl) _; go_wp2_with fail; go_roundw; (case rel => exact ⟨R - b.length, j + 1, _, _, _, rfl, by omega, by omega, by go_num, HJ.out, HJ4.out, M11.out, HX3.out, HL3.out, B11.out⟩); (case measure => simp [intOf]; omega))
        · have hcase : ¬ (j : Int) < (ll.length : Int) ∨ ((j : Int) < (ll.length : Int) ∧ ¬ (j : Int) < 400) := by omega
          clear hgo
          rcases hcase with p1 | ⟨p1, p2⟩
          · go_wp2_with fail
            go_loopw [10, 11] (fun u i wr3 => ∃ (m : Nat) (gr : Nat → Nat) (rv : Nat → Value), i = .int .i64 m ∧ m ≤ k ∧ Many wr3 W0.heap.size k g v h x (.slice (some ⟨gw, 0, none⟩) k cw) (.slice (some ⟨gh, 0, none⟩) k ch) ∧ Rds wr3 W0.heap.size m 0 gr rv x u ∧ Below W0.heap.size W0 wr3) (fun _ i _ => k - (intOf i).toNat)
            case atStart => exact ⟨0, fun _ => 0, fun _ => .slice none 0 0, rfl, by omega, HM2.out, Rds.zero _ _ _ _ _, HB2.out⟩
            case round =>
              obtain ⟨m, gr, rv, rfl, hmk, hm3, hrd, hb3⟩ := hrel
              have HM3 := Lib.hid hm3
              have HRD := Lib.hid hrd
              have HB3 := Lib.hid hb3
              clear hm3 hrd hb3
              by_cases hlt3 : m < k
              · have i3 : (m : Int) < (k : Int) := by omega
                have i30 : (0 : Int) ≤ (m : Int) := by omega
                have ch1 : wr.cell? ⟨gh, m, none⟩ = some (h m) := by rw [HM3.out.hr.cellAt m (by omega)]; simp [hlt3]
                obtain ⟨Ah, chh, hhm, hrh⟩ := reads_of_own (HM3.out.fam.ho m hlt3)
                rw [hhm] at ch1
                have HXM : Hid ((x m).length ≤ 419440004) := by have := HL2.out m hlt3; show (x m).length ≤ 419440004; omega
                have CC := Lib.hid (copy_calls (x m) Ah chh wr wr.heap.size (Nat.le_refl _) hrh (by have := HXM.out; omega))
                have HLT3 := Lib.hid hlt3
                clear hhm hrh
                go_wp2_with fail
                refine CC.out.mono ?_; rintro e w4 ⟨r4, rfl, ho4, hb4⟩
                obtain ⟨A4, c4, rfl, hr4⟩ := reads_of_own ho4
                have CRD := Lib.hid (read_calls (x m) A4 c4 w4 w4.heap.size (Nat.le_refl _) hr4 (by have := HXM.out; omega))
                have HB4 := Lib.hid hb4
                clear ho4 hr4 hb4
                go_wp2_with fail
                refine CRD.out.mono ?_; rintro e w5 ⟨g5, v5, rfl, hd5, hb5, hg5, _⟩
                have hb45 : Below wr.heap.size wr w5 := HB4.out.trans (hb5.mono HB4.out.size)
                have hd5' : Rdr w5 W0.heap.size g5 v5 (x m) 0 0 := ⟨hd5.blk, Nat.le_trans (Nat.le_trans HB3.out.size HB4.out.size) hd5.le, own_less hd5.own (Nat.le_trans HB3.out.size HB4.out.size)⟩
                have HD5 := Lib.hid hd5'
                have HB45 := Lib.hid hb45
                have HG5 : Hid (wr.heap.size ≤ g5) := Nat.le_trans HB4.out.size hg5
                have HB5 : Hid (Below W0.heap.size W0 w5) := HB3.out.trans (hb45.mono HB3.out.size)
                have R5 := Lib.hid (HRD.out.below hb45)
                have M5 := Lib.hid (HM3.out.below hb45)
                clear hd5 hb5 hg5 hb45 hd5'
                go_wp2_with (at_builtin; refine print_append_cells (w0 := W0) W0.heap.size rfl (.tmp 106) (.tmp 113) 60 61 (.pointer none) 1 8 rfl Try.underlying60 info61 rfl (by omega) (by omega) u10 m ((List.range m).map fun i => Value.pointer (some ⟨gr i, 0, none⟩)) [Value.pointer (some ⟨g5, 0, none⟩)] rfl rfl rfl ?h1 ?h2 ?h3 ?h4 ?h5 ?_; (case h1 => simp [Value.oneCell']); (case h2 => exact R5.out.row); (case h3 => exact HB5.out); (case h4 => exact HB5.out.size); (case h5 => have := HNL.out; omega); intro v6 w6 ho6 hb6 hg6 hat6; obtain ⟨g6, c6, rfl, _, _⟩ := ho6.form (by omega); have HB6 := Lib.hid hb6; have R6 := Lib.hid (HRD.out.add HB45.out HD5.out HG5.out hg6 ho6); have M6 := Lib.hid (M5.out.grown R5.out.row hg6); have cr0 : w6.cell? ⟨g6, m, none⟩ = some (.pointer (some ⟨g5, 0, none⟩)) := by { rw [R6.out.row.cellAt m (by omega)]; simp [upd_self] }; clear ho6 hb6 hg6 hat6)
                go_wp2_with fail
                go_roundw
                case rel => exact ⟨m + 1, _, _, by go_num, HLT3.out, M6.out, R6.out, HB6.out⟩
                case measure => simp [intOf]; omega
              · have i3 : ¬ (m : Int) < (k : Int) := by omega
                obtain rfl : m = k := by omega
                obtain ⟨g6, c6, hu6, _, _⟩ := HRD.out.row.form HNP.out
                subst hu6
                go_wp2_with fail
                go_loopw [12] (fun i wr4 => ∃ (t : Nat), i = .int .i64 t ∧ t ≤ m ∧ Many wr4 W0.heap.size m g v h x (.slice (some ⟨gw, 0, none⟩) m cw) (.slice (some ⟨gh, 0, none⟩) m ch) ∧ Rds wr4 W0.heap.size m t gr rv x (.slice (some ⟨g6, 0, none⟩) m c6) ∧ Below W0.heap.size W0 wr4) (fun i _ => m - (intOf i).toNat)
                case atStart => exact ⟨0, rfl, by omega, HM3.out, HRD.out, HB3.out⟩
                case round =>
                  obtain ⟨t, rfl, htm, hm4, hr4, hb4⟩ := hrel
                  have HM4 := Lib.hid hm4
                  have HR4 := Lib.hid hr4
                  have HB4 := Lib.hid hb4
                  clear hm4 hr4 hb4
                  by_cases hlt4 : t < m
                  · have i4 : (t : Int) < (m : Int) := by omega
                    have i40 : (0 : Int) ≤ (t : Int) := by omega
                    obtain ⟨Ah, chh, hhm, _⟩ := reads_of_own (HM4.out.fam.ho t hlt4)
                    have HHO : Hid (wr.ownsRow W0.heap.size 5 1 (.slice Ah (x t).length chh) (x t).length (encs I (x t))) := hhm ▸ HM4.out.fam.ho t hlt4
                    have y0 : wr.cell? ⟨gw, t, none⟩ = some (.pointer (some ⟨g t, 0, none⟩)) := by rw [HM4.out.wr.cellAt t (by omega)]; simp [hlt4]
                    have y1 : wr.cell? ⟨gh, t, none⟩ = some (.slice Ah (x t).length chh) := by rw [HM4.out.hr.cellAt t (by omega)]; simp [hlt4, hhm]
                    have y2 : wr.cell? ⟨g6, t, none⟩ = some (.pointer (some ⟨gr t, 0, none⟩)) := by rw [HR4.out.row.cellAt t (by omega)]; simp [hlt4]
                    have RT := Lib.hid (HR4.out.rd t hlt4 (Nat.le_refl _))
                    obtain ⟨rest, hrest⟩ := HX2.out t hlt4
                    have hxt : (x t).length ≤ 419440004 := by have := HL2.out t hlt4; omega
                    have hx4 : ((x t).drop 0).take 4 = fixL t 4 := by rw [List.drop_zero, hrest, List.take_append_of_le_length (by rw [fixL_length]; omega), List.take_of_length_le (by rw [fixL_length]; omega)]
                    have hlen : 4 ≤ (x t).length := by rw [hrest, List.length_append, fixL_length]; omega
                    have HT := Lib.hid hlt4
                    have ht64 : t < 4294967296 := by have := HNL.out; omega
                    have wu : IntKind.u32.wrap (t : Int) = (t : Int) := by rw [IntKind.wrap_u32]; omega
                    have wl : IntKind.i64.wrap (((x t).length : Int) - 4) = ((x t).length : Int) - 4 := wrap_in (by omega) (by omega)
                    have HO : Hid (∀ W, Below wr.heap.size wr W → Calls Try.prog 23 #[.pointer (some ⟨g t, 0, none⟩)] W fun e w' => ∃ A c, e = .returned (.slice A (x t).length c) ∧ ReadsOf I 0 w' A (x t).length (x t) ∧ Below wr.heap.size wr w') := fun W hW =>
                      (out_calls W W0.heap.size W.heap.size (g t) (v t) (x t) (wtr_below (HM4.out.fam.wt t HT.out) hW) (Nat.le_refl _) (by omega)).mono fun e w' ⟨r, he, ho, hb⟩ => by
                        obtain ⟨A', c', rfl, hr'⟩ := reads_of_own ho
                        exact ⟨A', c', he, hr', hW.trans (hb.mono hW.size)⟩
                    have HE : Hid (∀ W A c, Below wr.heap.size wr W → ReadsOf I 0 W A (x t).length (x t) → Calls Try.prog 22 #[.slice A (x t).length c, .slice Ah (x t).length chh] W fun e w' => e = .returned (.bool true) ∧ Below wr.heap.size wr w') := fun W A c hW hr =>
                      (eq_calls (x t) (x t) A Ah c chh W hr (own_reads (pw_own_below HHO.out hW) (by simp)) (by omega)).mono fun e w' ⟨q, he, hq, hb⟩ => by
                        obtain rfl : q = true := by simpa using hq
                        exact ⟨he, hW.trans (hb.mono hW.size)⟩
                    have HU : Hid (∀ W, Below wr.heap.size wr W → Calls Try.prog 30 #[.pointer (some ⟨gr t, 0, none⟩)] W fun e w' => e = .returned (.int .u32 t) ∧ Rdr w' W0.heap.size (gr t) (rv t) (x t) 4 0 ∧ KeepBut wr w' (gr t) none ∧ Below W0.heap.size W0 w') := fun W hW =>
                      (rdu32_calls W W0.heap.size (gr t) (rv t) (x t) 0 t (rdr_below RT.out hW) (Nat.le_trans HB4.out.size hW.size) (by omega) ht64 hx4).mono fun e w' ⟨he, hd, hb, hk⟩ =>
                        ⟨he, hd, (KeepBut.of_below hW (gr t) none).trans hk (.inl rfl), (HB4.out.trans (hW.mono HB4.out.size)).trans hb⟩
                    have HLF : Hid (∀ W, Rdr W W0.heap.size (gr t) (rv t) (x t) 4 0 → KeepBut wr W (gr t) none → Below W0.heap.size W0 W → Calls Try.prog 31 #[.pointer (some ⟨gr t, 0, none⟩)] W fun e w' => e = .returned (.int .i64 (((x t).length : Int) - 4)) ∧ KeepBut wr w' (gr t) none ∧ Below W0.heap.size W0 w') := fun W hd hk hb0 =>
                      (left_calls W W0.heap.size (gr t) (rv t) (x t) 4 0 hd (by omega) (by omega)).mono fun e w' ⟨he, hb⟩ =>
                        ⟨he, hk.trans (KeepBut.of_below hb (gr t) none) (.inl rfl), hb0.trans (hb.mono hb0.size)⟩
                    have Y0 := Lib.hid y0
                    have Y1 := Lib.hid y1
                    have Y2 := Lib.hid y2
                    have N0 : Hid (gw ≠ gr t) := fun e => ne_blockT RT.out.blk (by decide) HM4.out.wr (by rw [← e]; rfl)
                    have N1 : Hid (gh ≠ gr t) := fun e => ne_blockT RT.out.blk (by decide) HM4.out.hr (by rw [← e]; rfl)
                    have N2 : Hid (g6 ≠ gr t) := fun e => ne_blockT RT.out.blk (by decide) HR4.out.row (by rw [← e]; rfl)
                    clear hhm hrest hx4 hlen hlt4 hxt
                    go_wp2_with fail
                    go_region_held3 (fun w' => w'.cell? ⟨gw, t, none⟩ = some (.pointer (some ⟨g t, 0, none⟩)) ∧ w'.cell? ⟨gh, t, none⟩ = some (.slice Ah (x t).length chh) ∧ w'.cell? ⟨g6, t, none⟩ = some (.pointer (some ⟨gr t, 0, none⟩)))
                      (first | exact ⟨keep_cell KU9.out Y0.out N0.out, keep_cell KU9.out Y1.out N1.out, keep_cell KU9.out Y2.out N2.out⟩ | exact ⟨pw_cell_below hb9.out Y0.out, pw_cell_below hb9.out Y1.out, pw_cell_below hb9.out Y2.out⟩ | exact ⟨Y0.out, Y1.out, Y2.out⟩)
                      (first
                        | (go_at_call 23; with_reducible refine (HO.out _ ?hh).mono ?_; (case hh => repeat (first | exact hb9.out | exact Below.refl _ _ | apply below_drew | apply pw_below_drewN)); rintro e w9 ⟨Ar, cr, rfl, hr9, hb9'⟩; have RR9 := Lib.hid hr9; have hb9 := Lib.hid hb9'; clear hb9' hr9)
                        | (go_at_call 22; with_reducible refine (HE.out _ _ _ ?hh ?hr).mono ?_; (case hh => repeat (first | exact hb9.out | exact Below.refl _ _ | apply below_drew | apply pw_below_drewN)); (case hr => exact RR9.out); rintro e w9 ⟨rfl, hb9'⟩; have hb9 := Lib.hid hb9'; clear hb9')
                        | (go_at_call 30; with_reducible refine (HU.out _ ?hh).mono ?_; (case hh => repeat (first | exact hb9.out | exact Below.refl _ _ | apply below_drew | apply pw_below_drewN)); rintro e w9 ⟨rfl, hd9, hk9, hbb9⟩; have RU9 := Lib.hid hd9; have KU9 := Lib.hid hk9; have BU9 := Lib.hid hbb9; clear hd9 hk9 hbb9)
                        | (go_at_call 31; with_reducible refine (HLF.out _ ?h1 ?h2 ?h3).mono ?_; (case h1 => exact RU9.out); (case h2 => exact KU9.out); (case h3 => exact BU9.out); rintro e w9 ⟨rfl, hk9, hbb9⟩; have KU9 := Lib.hid hk9; have BU9 := Lib.hid hbb9; clear hk9 hbb9))
                    all_goals (go_wp2_with fail; go_roundw; (case rel => exact ⟨t + 1, by go_num, HT.out, HM4.out.keep KU9.out RT.out.blk, HR4.out.step HT.out KU9.out, BU9.out⟩); (case measure => simp [intOf]; omega))
                  · have i4 : ¬ (t : Int) < (m : Int) := by omega
                    go_wp2_with fail
                    go_ret
                    exact ⟨rfl, HB0.out.trans (HB4.out.mono (by have := HSZ.out; omega))⟩
          · go_wp2_with fail
            go_loopw [10, 11] (fun u i wr3 => ∃ (m : Nat) (gr : Nat → Nat) (rv : Nat → Value), i = .int .i64 m ∧ m ≤ k ∧ Many wr3 W0.heap.size k g v h x (.slice (some ⟨gw, 0, none⟩) k cw) (.slice (some ⟨gh, 0, none⟩) k ch) ∧ Rds wr3 W0.heap.size m 0 gr rv x u ∧ Below W0.heap.size W0 wr3) (fun _ i _ => k - (intOf i).toNat)
            case atStart => exact ⟨0, fun _ => 0, fun _ => .slice none 0 0, rfl, by omega, HM2.out, Rds.zero _ _ _ _ _, HB2.out⟩
            case round =>
              obtain ⟨m, gr, rv, rfl, hmk, hm3, hrd, hb3⟩ := hrel
              have HM3 := Lib.hid hm3
              have HRD := Lib.hid hrd
              have HB3 := Lib.hid hb3
              clear hm3 hrd hb3
              by_cases hlt3 : m < k
              · have i3 : (m : Int) < (k : Int) := by omega
                have i30 : (0 : Int) ≤ (m : Int) := by omega
                have ch1 : wr.cell? ⟨gh, m, none⟩ = some (h m) := by rw [HM3.out.hr.cellAt m (by omega)]; simp [hlt3]
                obtain ⟨Ah, chh, hhm, hrh⟩ := reads_of_own (HM3.out.fam.ho m hlt3)
                rw [hhm] at ch1
                have HXM : Hid ((x m).length ≤ 419440004) := by have := HL2.out m hlt3; show (x m).length ≤ 419440004; omega
                have CC := Lib.hid (copy_calls (x m) Ah chh wr wr.heap.size (Nat.le_refl _) hrh (by have := HXM.out; omega))
                have HLT3 := Lib.hid hlt3
                clear hhm hrh
                go_wp2_with fail
                refine CC.out.mono ?_; rintro e w4 ⟨r4, rfl, ho4, hb4⟩
                obtain ⟨A4, c4, rfl, hr4⟩ := reads_of_own ho4
                have CRD := Lib.hid (read_calls (x m) A4 c4 w4 w4.heap.size (Nat.le_refl _) hr4 (by have := HXM.out; omega))
                have HB4 := Lib.hid hb4
                clear ho4 hr4 hb4
                go_wp2_with fail
                refine CRD.out.mono ?_; rintro e w5 ⟨g5, v5, rfl, hd5, hb5, hg5, _⟩
                have hb45 : Below wr.heap.size wr w5 := HB4.out.trans (hb5.mono HB4.out.size)
                have hd5' : Rdr w5 W0.heap.size g5 v5 (x m) 0 0 := ⟨hd5.blk, Nat.le_trans (Nat.le_trans HB3.out.size HB4.out.size) hd5.le, own_less hd5.own (Nat.le_trans HB3.out.size HB4.out.size)⟩
                have HD5 := Lib.hid hd5'
                have HB45 := Lib.hid hb45
                have HG5 : Hid (wr.heap.size ≤ g5) := Nat.le_trans HB4.out.size hg5
                have HB5 : Hid (Below W0.heap.size W0 w5) := HB3.out.trans (hb45.mono HB3.out.size)
                have R5 := Lib.hid (HRD.out.below hb45)
                have M5 := Lib.hid (HM3.out.below hb45)
                clear hd5 hb5 hg5 hb45 hd5'
                go_wp2_with (at_builtin; refine print_append_cells (w0 := W0) W0.heap.size rfl (.tmp 106) (.tmp 113) 60 61 (.pointer none) 1 8 rfl Try.underlying60 info61 rfl (by omega) (by omega) u10 m ((List.range m).map fun i => Value.pointer (some ⟨gr i, 0, none⟩)) [Value.pointer (some ⟨g5, 0, none⟩)] rfl rfl rfl ?h1 ?h2 ?h3 ?h4 ?h5 ?_; (case h1 => simp [Value.oneCell']); (case h2 => exact R5.out.row); (case h3 => exact HB5.out); (case h4 => exact HB5.out.size); (case h5 => have := HNL.out; omega); intro v6 w6 ho6 hb6 hg6 hat6; obtain ⟨g6, c6, rfl, _, _⟩ := ho6.form (by omega); have HB6 := Lib.hid hb6; have R6 := Lib.hid (HRD.out.add HB45.out HD5.out HG5.out hg6 ho6); have M6 := Lib.hid (M5.out.grown R5.out.row hg6); have cr0 : w6.cell? ⟨g6, m, none⟩ = some (.pointer (some ⟨g5, 0, none⟩)) := by { rw [R6.out.row.cellAt m (by omega)]; simp [upd_self] }; clear ho6 hb6 hg6 hat6)
                go_wp2_with fail
                go_roundw
                case rel => exact ⟨m + 1, _, _, by go_num, HLT3.out, M6.out, R6.out, HB6.out⟩
                case measure => simp [intOf]; omega
              · have i3 : ¬ (m : Int) < (k : Int) := by omega
                obtain rfl : m = k := by omega
                obtain ⟨g6, c6, hu6, _, _⟩ := HRD.out.row.form HNP.out
                subst hu6
                go_wp2_with fail
                go_loopw [12] (fun i wr4 => ∃ (t : Nat), i = .int .i64 t ∧ t ≤ m ∧ Many wr4 W0.heap.size m g v h x (.slice (some ⟨gw, 0, none⟩) m cw) (.slice (some ⟨gh, 0, none⟩) m ch) ∧ Rds wr4 W0.heap.size m t gr rv x (.slice (some ⟨g6, 0, none⟩) m c6) ∧ Below W0.heap.size W0 wr4) (fun i _ => m - (intOf i).toNat)
                case atStart => exact ⟨0, rfl, by omega, HM3.out, HRD.out, HB3.out⟩
                case round =>
                  obtain ⟨t, rfl, htm, hm4, hr4, hb4⟩ := hrel
                  have HM4 := Lib.hid hm4
                  have HR4 := Lib.hid hr4
                  have HB4 := Lib.hid hb4
                  clear hm4 hr4 hb4
                  by_cases hlt4 : t < m
                  · have i4 : (t : Int) < (m : Int) := by omega
                    have i40 : (0 : Int) ≤ (t : Int) := by omega
                    obtain ⟨Ah, chh, hhm, _⟩ := reads_of_own (HM4.out.fam.ho t hlt4)
                    have HHO : Hid (wr.ownsRow W0.heap.size 5 1 (.slice Ah (x t).length chh) (x t).length (encs I (x t))) := hhm ▸ HM4.out.fam.ho t hlt4
                    have y0 : wr.cell? ⟨gw, t, none⟩ = some (.pointer (some ⟨g t, 0, none⟩)) := by rw [HM4.out.wr.cellAt t (by omega)]; simp [hlt4]
                    have y1 : wr.cell? ⟨gh, t, none⟩ = some (.slice Ah (x t).length chh) := by rw [HM4.out.hr.cellAt t (by omega)]; simp [hlt4, hhm]
                    have y2 : wr.cell? ⟨g6, t, none⟩ = some (.pointer (some ⟨gr t, 0, none⟩)) := by rw [HR4.out.row.cellAt t (by omega)]; simp [hlt4]
                    have RT := Lib.hid (HR4.out.rd t hlt4 (Nat.le_refl _))
                    obtain ⟨rest, hrest⟩ := HX2.out t hlt4
                    have hxt : (x t).length ≤ 419440004 := by have := HL2.out t hlt4; omega
                    have hx4 : ((x t).drop 0).take 4 = fixL t 4 := by rw [List.drop_zero, hrest, List.take_append_of_le_length (by rw [fixL_length]; omega), List.take_of_length_le (by rw [fixL_length]; omega)]
                    have hlen : 4 ≤ (x t).length := by rw [hrest, List.length_append, fixL_length]; omega
                    have HT := Lib.hid hlt4
                    have ht64 : t < 4294967296 := by have := HNL.out; omega
                    have wu : IntKind.u32.wrap (t : Int) = (t : Int) := by rw [IntKind.wrap_u32]; omega
                    have wl : IntKind.i64.wrap (((x t).length : Int) - 4) = ((x t).length : Int) - 4 := wrap_in (by omega) (by omega)
                    have HO : Hid (∀ W, Below wr.heap.size wr W → Calls Try.prog 23 #[.pointer (some ⟨g t, 0, none⟩)] W fun e w' => ∃ A c, e = .returned (.slice A (x t).length c) ∧ ReadsOf I 0 w' A (x t).length (x t) ∧ Below wr.heap.size wr w') := fun W hW =>
                      (out_calls W W0.heap.size W.heap.size (g t) (v t) (x t) (wtr_below (HM4.out.fam.wt t HT.out) hW) (Nat.le_refl _) (by omega)).mono fun e w' ⟨r, he, ho, hb⟩ => by
                        obtain ⟨A', c', rfl, hr'⟩ := reads_of_own ho
                        exact ⟨A', c', he, hr', hW.trans (hb.mono hW.size)⟩
                    have HE : Hid (∀ W A c, Below wr.heap.size wr W → ReadsOf I 0 W A (x t).length (x t) → Calls Try.prog 22 #[.slice A (x t).length c, .slice Ah (x t).length chh] W fun e w' => e = .returned (.bool true) ∧ Below wr.heap.size wr w') := fun W A c hW hr =>
                      (eq_calls (x t) (x t) A Ah c chh W hr (own_reads (pw_own_below HHO.out hW) (by simp)) (by omega)).mono fun e w' ⟨q, he, hq, hb⟩ => by
                        obtain rfl : q = true := by simpa using hq
                        exact ⟨he, hW.trans (hb.mono hW.size)⟩
                    have HU : Hid (∀ W, Below wr.heap.size wr W → Calls Try.prog 30 #[.pointer (some ⟨gr t, 0, none⟩)] W fun e w' => e = .returned (.int .u32 t) ∧ Rdr w' W0.heap.size (gr t) (rv t) (x t) 4 0 ∧ KeepBut wr w' (gr t) none ∧ Below W0.heap.size W0 w') := fun W hW =>
                      (rdu32_calls W W0.heap.size (gr t) (rv t) (x t) 0 t (rdr_below RT.out hW) (Nat.le_trans HB4.out.size hW.size) (by omega) ht64 hx4).mono fun e w' ⟨he, hd, hb, hk⟩ =>
                        ⟨he, hd, (KeepBut.of_below hW (gr t) none).trans hk (.inl rfl), (HB4.out.trans (hW.mono HB4.out.size)).trans hb⟩
                    have HLF : Hid (∀ W, Rdr W W0.heap.size (gr t) (rv t) (x t) 4 0 → KeepBut wr W (gr t) none → Below W0.heap.size W0 W → Calls Try.prog 31 #[.pointer (some ⟨gr t, 0, none⟩)] W fun e w' => e = .returned (.int .i64 (((x t).length : Int) - 4)) ∧ KeepBut wr w' (gr t) none ∧ Below W0.heap.size W0 w') := fun W hd hk hb0 =>
                      (left_calls W W0.heap.size (gr t) (rv t) (x t) 4 0 hd (by omega) (by omega)).mono fun e w' ⟨he, hb⟩ =>
                        ⟨he, hk.trans (KeepBut.of_below hb (gr t) none) (.inl rfl), hb0.trans (hb.mono hb0.size)⟩
                    have Y0 := Lib.hid y0
                    have Y1 := Lib.hid y1
                    have Y2 := Lib.hid y2
                    have N0 : Hid (gw ≠ gr t) := fun e => ne_blockT RT.out.blk (by decide) HM4.out.wr (by rw [← e]; rfl)
                    have N1 : Hid (gh ≠ gr t) := fun e => ne_blockT RT.out.blk (by decide) HM4.out.hr (by rw [← e]; rfl)
                    have N2 : Hid (g6 ≠ gr t) := fun e => ne_blockT RT.out.blk (by decide) HR4.out.row (by rw [← e]; rfl)
                    clear hhm hrest hx4 hlen hlt4 hxt
                    go_wp2_with fail
                    go_region_held3 (fun w' => w'.cell? ⟨gw, t, none⟩ = some (.pointer (some ⟨g t, 0, none⟩)) ∧ w'.cell? ⟨gh, t, none⟩ = some (.slice Ah (x t).length chh) ∧ w'.cell? ⟨g6, t, none⟩ = some (.pointer (some ⟨gr t, 0, none⟩)))
                      (first | exact ⟨keep_cell KU9.out Y0.out N0.out, keep_cell KU9.out Y1.out N1.out, keep_cell KU9.out Y2.out N2.out⟩ | exact ⟨pw_cell_below hb9.out Y0.out, pw_cell_below hb9.out Y1.out, pw_cell_below hb9.out Y2.out⟩ | exact ⟨Y0.out, Y1.out, Y2.out⟩)
                      (first
                        | (go_at_call 23; with_reducible refine (HO.out _ ?hh).mono ?_; (case hh => repeat (first | exact hb9.out | exact Below.refl _ _ | apply below_drew | apply pw_below_drewN)); rintro e w9 ⟨Ar, cr, rfl, hr9, hb9'⟩; have RR9 := Lib.hid hr9; have hb9 := Lib.hid hb9'; clear hb9' hr9)
                        | (go_at_call 22; with_reducible refine (HE.out _ _ _ ?hh ?hr).mono ?_; (case hh => repeat (first | exact hb9.out | exact Below.refl _ _ | apply below_drew | apply pw_below_drewN)); (case hr => exact RR9.out); rintro e w9 ⟨rfl, hb9'⟩; have hb9 := Lib.hid hb9'; clear hb9')
                        | (go_at_call 30; with_reducible refine (HU.out _ ?hh).mono ?_; (case hh => repeat (first | exact hb9.out | exact Below.refl _ _ | apply below_drew | apply pw_below_drewN)); rintro e w9 ⟨rfl, hd9, hk9, hbb9⟩; have RU9 := Lib.hid hd9; have KU9 := Lib.hid hk9; have BU9 := Lib.hid hbb9; clear hd9 hk9 hbb9)
                        | (go_at_call 31; with_reducible refine (HLF.out _ ?h1 ?h2 ?h3).mono ?_; (case h1 => exact RU9.out); (case h2 => exact KU9.out); (case h3 => exact BU9.out); rintro e w9 ⟨rfl, hk9, hbb9⟩; have KU9 := Lib.hid hk9; have BU9 := Lib.hid hbb9; clear hk9 hbb9))
                    all_goals (go_wp2_with fail; go_roundw; (case rel => exact ⟨t + 1, by go_num, HT.out, HM4.out.keep KU9.out RT.out.blk, HR4.out.step HT.out KU9.out, BU9.out⟩); (case measure => simp [intOf]; omega))
                  · have i4 : ¬ (t : Int) < (m : Int) := by omega
                    go_wp2_with fail
                    go_ret
                    exact ⟨rfl, HB0.out.trans (HB4.out.mono (by have := HSZ.out; omega))⟩
end Go.Proofs.Ytedbpagjhnkdbaa.CodeMany
