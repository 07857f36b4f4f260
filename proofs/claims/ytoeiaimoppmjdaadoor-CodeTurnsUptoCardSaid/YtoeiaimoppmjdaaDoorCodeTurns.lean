/- CodeTurns: what is written is read, item by item, with nothing left; and of the bytes without the last one the last item of any bytes is not. -/
import Derived.Test.YtoeiaimoppmjdaaDoorTurnsPlain
import Derived.Test.YtoeiaimoppmjdaaDoorErrTab
import Derived.Below
namespace Go.Proofs.YtoeiaimoppmjdaaDoor.CodeTurns
open Go Go.ChangeShapes Go.WideShapes Go.RowKit Go.Deep Go.Proofs.YtoeiaimoppmjdaaDoorW.PrintWords Go.Proofs.YtoeiaimoppmjdaaDoor.Bytes Go.Proofs.YtoeiaimoppmjdaaDoor.Wr Go.Proofs.YtoeiaimoppmjdaaDoor.OpnS
set_option linter.unusedVariables false
set_option linter.unusedSimpArgs false
theorem num_calls (e : Int) (w : World) : Calls Tryd.prog 21 #[.int .i64 e] w fun x w' => x = .returned (.int .i64 e) ∧ w' = w := by
  go_enter Tryd.func21, Tryd.ntmps21
  go_wp2_with fail
  go_ret
  exact ⟨rfl, rfl⟩
def Stp.bytes (p : Stp) : List Int := opB p.kind p.n p.b
/-- What has been written behind k items. -/
def pre (ps : List Stp) (k : Nat) : List Int := fixL 7 1 ++ (ps.take k).flatMap Stp.bytes
theorem pre_succ (ps : List Stp) (k : Nat) (hk : k < ps.length) : pre ps (k + 1) = pre ps k ++ Stp.bytes ps[k] := by
  unfold pre
  rw [List.take_succ_eq_append_getElem hk, List.flatMap_append, List.append_assoc]
  simp
theorem pre_split (ps : List Stp) (k : Nat) (hk : k < ps.length) : pre ps ps.length = pre ps k ++ Stp.bytes ps[k] ++ (ps.drop (k + 1)).flatMap Stp.bytes := by
  rw [← pre_succ ps k hk]
  unfold pre
  rw [List.append_assoc, ← List.flatMap_append, List.take_append_drop, List.take_length]
theorem pre_zero (ps : List Stp) : pre ps 0 = fixL 7 1 := by simp [pre]
theorem opB_byt (kind : Int) (n : Nat) (b : List Int) (hb : Byt b) : Byt (opB kind n b) := by
  unfold opB
  split
  · exact fixL_byt _ _
  split
  · exact fixL_byt _ _
  split
  · exact fixL_byt _ _
  split
  · exact vr_byt _
  split
  · intro a ha
    rcases List.mem_append.1 ha with h | h
    · exact vr_byt _ a h
    · exact hb a h
  split
  · exact hb
  · intro a ha; cases ha
theorem pre_byt (wE : World) (ps : List Stp) (hg : ∀ p, p ∈ ps → p.Good wE) (k : Nat) : Byt (pre ps k) := by
  intro a ha
  rcases List.mem_append.1 ha with h | h
  · exact fixL_byt _ _ a h
  · obtain ⟨p, hp, h⟩ := List.mem_flatMap.1 h
    exact opB_byt _ _ _ (hg p (List.mem_of_mem_take hp)).bt a h
theorem pre_length (wE : World) (ps : List Stp) (hg : ∀ p, p ∈ ps → p.Good wE) (k : Nat) (hk : k ≤ ps.length) : (pre ps k).length ≤ 1 + k * 1048600 := by
  induction k with
  | zero => rw [pre_zero, fixL_length]; omega
  | succ k ih =>
    rw [pre_succ ps k (by omega), List.length_append]
    have h1 := ih (by omega)
    have h2 := hg _ (List.getElem_mem (show k < ps.length by omega))
    have h3 := opB_length ps[k].kind ps[k].n ps[k].b h2.n64 h2.bl
    have h4 : (k + 1) * 1048600 = k * 1048600 + 1048600 := Nat.succ_mul k 1048600
    unfold Stp.bytes
    omega
theorem pre_le (ps : List Stp) (k : Nat) (hk : k ≤ ps.length) : (pre ps k).length ≤ (pre ps ps.length).length := by
  by_cases h : k < ps.length
  · rw [pre_split ps k h]; simp only [List.length_append]; omega
  · have : k = ps.length := by omega
    rw [this]; exact Nat.le_refl _
theorem pre_pos (ps : List Stp) (k : Nat) : 1 ≤ (pre ps k).length := by simp [pre, fixL_length]
theorem stp_cell {w : World} {base gv cap : Nat} {ps : List Stp} (h : w.ownsRow base 39 5 (.slice (some ⟨gv, 0, none⟩) ps.length cap) ps.length (stpCells ps)) (k j : Nat) (hk : k < ps.length) (hj : j < 5) : w.cell? ⟨gv, k * 5 + j, none⟩ = (ps[k]'hk).cells[j]? := by
  rw [h.cellAt (k * 5 + j) (by omega), stpCells_get ps k j hk hj]
/-- A Reader, the steps, the bytes: each in memory of its own. -/
structure St (W0 W : World) (B g : Nat) (v vo vb : Value) (xs bs : List Int) (s : RS) (ps : List Stp) : Prop where
  rd : Rdr W B g v xs s.at_ s.met
  op : W.ownsRow B 39 5 vo ps.length (stpCells ps)
  ob : W.ownsRow B 5 1 vb bs.length (encs I bs)
  bl : Below B W0 W
theorem St.step {W0 W W1 : World} {B g : Nat} {v vo vb : Value} {xs bs : List Int} {s s1 : RS} {ps : List Stp} (h : St W0 W B g v vo vb xs bs s ps) (k : RdTo W W1 B g v xs s1) : St W0 W1 B g v vo vb xs bs s1 ps :=
  ⟨k.rd, k.kb.own h.op (fun e => by obtain ⟨cs, hk⟩ := own_kind h.op _ e; rw [h.rd.blk] at hk; simp at hk) (by cases vo.ownBlock <;> simp),
    k.kb.own h.ob (fun e => by obtain ⟨cs, hk⟩ := own_kind h.ob _ e; rw [h.rd.blk] at hk; simp at hk) (by cases vb.ownBlock <;> simp), h.bl.trans k.bl⟩
theorem St.below {W0 W W1 : World} {B g : Nat} {v vo vb : Value} {xs bs : List Int} {s : RS} {ps : List Stp} (h : St W0 W B g v vo vb xs bs s ps) (hz : B ≤ W0.heap.size) (k : Below W.heap.size W W1) : St W0 W1 B g v vo vb xs bs s ps :=
  ⟨rdr_below h.rd k, pw_own_below h.op k, pw_own_below h.ob k, h.bl.trans (k.mono (Nat.le_trans hz h.bl.size))⟩
set_option maxRecDepth 100000 in
set_option maxHeartbeats 12800000 in
theorem walk (os : List (Int × Int × Int × Int × List Int)) (V0 V1 : Value) (A : Option Addr) (c : Nat) (w : World) (hr : KOp.C w A os.length os)
    (hv : ∀ o, o ∈ os → (-9223372036854775808 ≤ o.2.1 ∧ o.2.1 ≤ 9223372036854775807) ∧ (0 ≤ o.2.2.2.1 ∧ o.2.2.2.1 ≤ 18446744073709551615) ∧ Byt o.2.2.2.2 ∧ o.2.2.2.2.length ≤ 1048576)
    (ht : ErrTab w) (hz : 0 < w.heap.size) :
    Calls Tryd.prog 6 #[.agg #[V0, V1, .slice A os.length c]] w fun e w' => e = .returned (.bool true) ∧ Below w.heap.size w w' := by
  obtain ⟨W0, hW0⟩ : ∃ W0, W0 = w.alloc (.cells #[V0, V1, .slice A os.length c] 26) := ⟨_, rfl⟩
  have hB0 : Below w.heap.size w W0 := by rw [hW0]; exact (Below.refl _ _).alloc (Nat.le_refl _) _
  have hblk := blk_new w (.cells #[V0, V1, .slice A os.length c] 26)
  rw [← hW0] at hblk
  have HB0 := Lib.hid hB0
  have HW0 := Lib.hid hW0
  have HBK := Lib.hid hblk
  have HSZ : Hid (W0.heap.size = w.heap.size + 1) := by rw [hW0]; show _ = _; simp
  have HZ : Hid (0 < w.heap.size) := hz
  have HT := Lib.hid (ht.below hB0 hz)
  have HR := Lib.hid hr
  have HV := Lib.hid hv
  have CN := Lib.hid (new_calls W0 W0.heap.size (Nat.le_refl _))
  have CU := fun e w => Lib.hid (num_calls e w)
  clear hW0 hB0 hblk hr hv ht hz
  go_enter Tryd.func6, Tryd.ntmps6
  go_wp2_with fail
  rw [← HW0.out]
  go_wp2_with fail
  refine CN.out.mono ?_; rintro e w1 ⟨rfl, hw1, hb1⟩
  have HW1 := Lib.hid hw1
  have HB1 := Lib.hid hb1
  have hx := blk_cell (blk_below HBK.out hb1) 2
  simp at hx
  have CP := Lib.hid (played_calls os A c w w1 (HB0.out.trans (hb1.mono HB0.out.size)) HR.out HV.out)
  clear hw1 hb1
  go_wp2_with fail
  refine CP.out.mono ?_; rintro e w2 ⟨ps, vo, rfl, hop, hbp, hpl, hpg⟩
  obtain ⟨Ao, co, rfl⟩ : ∃ Ao co, vo = .slice Ao ps.length co := by
    rcases hop.2 with ⟨rfl, e⟩ | ⟨g', cap, cur, rfl, _⟩
    · exact ⟨none, 0, by rw [e]⟩
    · exact ⟨_, _, rfl⟩
  have HPL := Lib.hid hpl
  have hpl4 : (ps.length : Int) ≤ 400 := by omega
  have HPG := Lib.hid hpg
  have HOP := Lib.hid (own_less hop HB1.out.size)
  have hwt2 : Wtr w2 W0.heap.size W0.heap.size (.slice none 0 0) [] := ⟨blk_below HW1.out.blk hbp, HW1.out.le, pw_own_below HW1.out.own hbp⟩
  have HB2 : Hid (Below W0.heap.size W0 w2) := HB1.out.trans (hbp.mono HB1.out.size)
  have CU8 := Lib.hid (wu8_calls 7 w2 W0.heap.size W0.heap.size (.slice none 0 0) [] hwt2 HB2.out.size (by omega) (by simp))
  have HWT2 := Lib.hid hwt2
  clear hop hbp hpl hpg hx hwt2
  go_wp2_with fail
  refine CU8.out.mono ?_; rintro e w3 ⟨rfl, u3, hp3⟩
  have HOP3 := Lib.hid (hp3.kb.own HOP.out (fun e => by obtain ⟨cs, hk⟩ := own_kind HOP.out _ e; rw [HWT2.out.blk] at hk; simp at hk) (own_type_ne HOP.out HWT2.out.own (by decide)))
  have HB3 : Hid (Below W0.heap.size W0 w3) := HB2.out.trans hp3.bl
  have HWT3 : Hid (Wtr w3 W0.heap.size W0.heap.size u3 (pre ps 0)) := by rw [pre_zero]; have := hp3.wt; rw [List.nil_append] at this; exact this
  clear hp3
  go_wp2_with fail
  go_loopw [5] (fun i wr => ∃ (k : Nat) (u : Value), i = .int .i64 k ∧ k ≤ ps.length ∧ Wtr wr W0.heap.size W0.heap.size u (pre ps k) ∧ wr.ownsRow W0.heap.size 39 5 (.slice Ao ps.length co) ps.length (stpCells ps) ∧ Below W0.heap.size W0 wr) (fun i _ => ps.length - (intOf i).toNat)
  case atStart => exact ⟨0, _, rfl, Nat.zero_le _, HWT3.out, HOP3.out, HB3.out⟩
  case round =>
    obtain ⟨k, u, rfl, hk, hwt, hop, hb⟩ := hrel
    have HWT := Lib.hid hwt
    have HOPK := Lib.hid hop
    have HBK2 := Lib.hid hb
    clear hwt hop hb
    by_cases hlt : k < ps.length
    · obtain ⟨go, _, hA, _, _⟩ := HOPK.out.form (by omega)
      injection hA with hA1 hA2 hA3
      subst hA1
      clear hA2 hA3
      have hgd := HPG.out _ (List.getElem_mem hlt)
      have z0 := stp_cell HOPK.out k 0 hlt (by omega)
      have z1 := stp_cell HOPK.out k 1 hlt (by omega)
      have z2 := stp_cell HOPK.out k 2 hlt (by omega)
      have z3 := stp_cell HOPK.out k 3 hlt (by omega)
      have z4 := stp_cell HOPK.out k 4 hlt (by omega)
      obtain ⟨p, hp⟩ : ∃ p, p = ps[k] := ⟨_, rfl⟩
      have hps := pre_succ ps k hlt
      rw [← hp] at hgd z0 z1 z2 z3 z4 hps
      simp [Stp.cells] at z0 z1 z2 z3 z4
      have hlen := pre_length w ps HPG.out k hk
      have CLY := Lib.hid (lays_calls p.kind p.which p.m p.n p.b p.A p.c w wr W0.heap.size W0.heap.size u (pre ps k) HWT.out HBK2.out.size (HB0.out.trans (HBK2.out.mono HB0.out.size)) HB0.out.size hgd.rd hgd.n64 hgd.bl (by have := HPL.out; omega))
      have HPS : Hid (pre ps k ++ opB p.kind p.n p.b = pre ps (k + 1)) := hps.symm
      rw [HPS.out] at CLY
      have i1 : (k : Int) < (ps.length : Int) := by omega
      have i2 : (0 : Int) ≤ (k : Int) := by omega
      clear hgd hp hps hlen
      go_wp2_with fail
      refine CLY.out.mono ?_; rintro e w4 ⟨rfl, u4, hp4⟩
      have HOP4 := Lib.hid (hp4.kb.own HOPK.out (fun e => by obtain ⟨cs, hk⟩ := own_kind HOPK.out _ e; rw [HWT.out.blk] at hk; simp at hk) (own_type_ne HOPK.out HWT.out.own (by decide)))
      have HP4 := Lib.hid hp4
      clear hp4
      go_wp2_with fail
      go_roundw
      case rel => exact ⟨k + 1, u4, by go_num, by omega, HP4.out.wt, HOP4.out, HBK2.out.trans HP4.out.bl⟩
      case measure => simp [intOf]; omega
    · obtain rfl : k = ps.length := by omega
      obtain ⟨bs, hbs⟩ : ∃ bs, bs = pre ps ps.length := ⟨_, rfl⟩
      have hbl : bs.length ≤ 419440001 := by rw [hbs]; have := pre_length w ps HPG.out ps.length (Nat.le_refl _); have := HPL.out; omega
      have hbp : 1 ≤ bs.length := by rw [hbs]; exact pre_pos ps _
      have hby : Byt bs := by rw [hbs]; exact pre_byt w ps HPG.out _
      rw [← hbs] at HWT
      have CO := Lib.hid (out_calls wr W0.heap.size wr.heap.size W0.heap.size u bs HWT.out (Nat.le_refl _) (by omega))
      have HBS := Lib.hid hbs
      have HBY := Lib.hid hby
      have HBP := Lib.hid hbp
      clear hbs hby hlt
      go_wp2_with fail
      refine CO.out.mono ?_; rintro e w4 ⟨vb, rfl, hob, hb4⟩
      obtain ⟨Ab, cb, rfl, hrb⟩ := reads_of_own hob
      have HWT4 : Hid (Wtr w4 W0.heap.size W0.heap.size u bs) := ⟨blk_below HWT.out.blk hb4, HWT.out.le, pw_own_below HWT.out.own hb4⟩
      have HB4 : Hid (Below W0.heap.size W0 w4) := HBK2.out.trans (hb4.mono HBK2.out.size)
      have HOP4 := Lib.hid (pw_own_below HOPK.out hb4)
      have HOB := Lib.hid (own_less hob HBK2.out.size)
      have hcapb : bs.length ≤ cb := own_le hob
      have CRD := Lib.hid (read_calls bs Ab cb w4 w4.heap.size (Nat.le_refl _) hrb (by omega))
      clear hob hb4 hrb
      go_wp2_with fail
      refine CRD.out.mono ?_; rintro e w5 ⟨g, v, rfl, hd5, hb5, hg5, hv5⟩
      have HWT5 : Hid (Wtr w5 W0.heap.size W0.heap.size u bs) := ⟨blk_below HWT4.out.blk hb5, HWT4.out.le, pw_own_below HWT4.out.own hb5⟩
      have HB5 : Hid (Below W0.heap.size W0 w5) := HB4.out.trans (hb5.mono HB4.out.size)
      have HOP5 := Lib.hid (pw_own_below HOP4.out hb5)
      have HOB5 := Lib.hid (pw_own_below HOB.out hb5)
      have HD5 : Hid (Rdr w5 W0.heap.size g v bs 0 0) := ⟨hd5.blk, Nat.le_trans HB4.out.size hd5.le, own_less hd5.own HB4.out.size⟩
      have HGV : Hid (w4.heap.size ≤ g ∧ ∀ b, v.ownBlock = some b → w4.heap.size ≤ b) := ⟨hg5, hv5⟩
      have CLN := Lib.hid (len_calls w5 W0.heap.size W0.heap.size u bs HWT5.out)
      have CR8 := Lib.hid (rd8_calls w5 W0.heap.size g v bs ⟨0, 0⟩ HD5.out ⟨by simp, by simp⟩ HB5.out.size HBY.out)
      have hsp : rFix bs ⟨0, 0⟩ 1 = (7, ⟨1, 0⟩) := by
        have h := rFix_of [] ((ps.take ps.length).flatMap Stp.bytes) 7 1 (by omega)
        rw [List.nil_append] at h
        have e : bs = fixL 7 1 ++ (ps.take ps.length).flatMap Stp.bytes := by rw [HBS.out]; rfl
        rw [e]; exact h
      rw [hsp] at CR8
      have hbz : ((bs.length : Int) == 0) = false := by rw [beq_eq_false_iff_ne]; omega
      have hbz2 : ¬ bs.length = 0 := by omega
      clear hd5 hb5 hg5 hv5 hsp
      go_wp2_with fail
      refine CLN.out.mono ?_; rintro e w6 ⟨rfl, rfl⟩
      go_wp2_with fail
      refine CR8.out.mono ?_; rintro e w7 ⟨rfl, h7⟩
      have HOP7 := Lib.hid (h7.kb.own HOP5.out (fun e => by obtain ⟨cs, hk⟩ := own_kind HOP5.out _ e; rw [HD5.out.blk] at hk; simp at hk) (by cases (Value.slice Ao ps.length co).ownBlock <;> simp))
      have HOB7 := Lib.hid (h7.kb.own HOB5.out (fun e => by obtain ⟨cs, hk⟩ := own_kind HOB5.out _ e; rw [HD5.out.blk] at hk; simp at hk) (by cases (Value.slice Ab bs.length cb).ownBlock <;> simp))
      have HB7 : Hid (Below W0.heap.size W0 w7) := HB5.out.trans h7.bl
      have H7 := Lib.hid h7.rd
      clear h7
      go_wp2_with fail
      have ST7 : Hid (St W0 w7 W0.heap.size g v (.slice Ao ps.length co) (.slice Ab bs.length cb) bs bs ⟨1, 0⟩ ps) := ⟨H7.out, HOP7.out, HOB7.out, HB7.out⟩
      have hp1 : (pre ps 0).length = 1 := by rw [pre_zero, fixL_length]
      have HP1 := Lib.hid hp1
      clear hp1
      go_loopw [8] (fun i wr => ∃ k : Nat, i = .int .i64 k ∧ k ≤ ps.length ∧ St W0 wr W0.heap.size g v (.slice Ao ps.length co) (.slice Ab bs.length cb) bs bs ⟨(pre ps k).length, 0⟩ ps) (fun i _ => ps.length - (intOf i).toNat)
      case atStart => exact ⟨0, rfl, Nat.zero_le _, by rw [HP1.out]; exact ST7.out⟩
      case round =>
        obtain ⟨k, rfl, hk, hst⟩ := hrel
        have ST := Lib.hid hst
        clear hst
        have hple := pre_le ps k hk
        rw [← HBS.out] at hple
        have HPLE := Lib.hid hple
        clear hple
        by_cases hlt : k < ps.length
        · obtain ⟨go, _, hA, _, _⟩ := ST.out.op.form (by omega)
          injection hA with hA1 hA2 hA3
          subst hA1
          clear hA2 hA3
          have hgd := HPG.out _ (List.getElem_mem hlt)
          have z0 := stp_cell ST.out.op k 0 hlt (by omega)
          have z1 := stp_cell ST.out.op k 1 hlt (by omega)
          have z2 := stp_cell ST.out.op k 2 hlt (by omega)
          have z3 := stp_cell ST.out.op k 3 hlt (by omega)
          have z4 := stp_cell ST.out.op k 4 hlt (by omega)
          obtain ⟨p, hp⟩ : ∃ p, p = ps[k] := ⟨_, rfl⟩
          have hps := pre_succ ps k hlt
          have hsp := pre_split ps k hlt
          rw [← hp] at hgd z0 z1 z2 z3 z4 hps hsp
          rw [← HBS.out] at hsp
          simp [Stp.cells] at z0 z1 z2 z3 z4
          have CBK := Lib.hid (back_calls p.kind p.which p.m p.n p.b p.A p.c w wr W0.heap.size g v bs ⟨(pre ps k).length, 0⟩ ST.out.rd ⟨HPLE.out, by simp⟩ ST.out.bl.size HBY.out (by omega) (HB0.out.trans (ST.out.bl.mono HB0.out.size)) HB0.out.size hgd.rd hgd.n64 hgd.bl)
          have hbk : backP bs ⟨(pre ps k).length, 0⟩ p.kind p.n p.b = (true, ⟨(pre ps (k + 1)).length, 0⟩) := by
            have h := back_good (pre ps k) ((ps.drop (k + 1)).flatMap Stp.bytes) p.kind p.n p.b hgd.n64 hgd.bl
            rw [hps, List.length_append]
            have e : bs = pre ps k ++ opB p.kind p.n p.b ++ (ps.drop (k + 1)).flatMap Stp.bytes := hsp
            rw [← e] at h
            exact h
          rw [hbk] at CBK
          have hpl1 := pre_le ps (k + 1) (by omega)
          rw [← HBS.out] at hpl1
          have HPL1 := Lib.hid hpl1
          have i1 : (k : Int) < (ps.length : Int) := by omega
          have i2 : (0 : Int) ≤ (k : Int) := by omega
          clear hgd hp hps hsp hbk hpl1
          go_wp2_with fail
          refine CBK.out.mono ?_; rintro e w8 ⟨rfl, h8⟩
          have ST8 := Lib.hid (ST.out.step h8)
          have HT8 := HT.out.below ST8.out.bl (by have := HSZ.out; have := HZ.out; omega)
          have CF := Lib.hid (fault_calls w8 W0.heap.size g v bs ⟨(pre ps (k + 1)).length, 0⟩ ST8.out.rd ⟨HPL1.out, by simp⟩ HT8)
          have e0 : errN (RS.mk (pre ps (k + 1)).length 0).met = 0 := rfl
          rw [e0] at CF
          clear h8 HT8 z0 z1 z2 z3 z4 e0
          go_wp2_with fail
          refine CF.out.mono ?_; rintro e w9 ⟨rfl, rfl⟩
          go_wp2_with fail
          refine (CU _ _).out.mono ?_; rintro e w10 ⟨rfl, rfl⟩
          go_wp2_with fail
          go_roundw
          case rel => exact ⟨k + 1, by go_num, by omega, ST8.out⟩
          case measure => simp [intOf]; omega
        · obtain rfl : k = ps.length := by omega
          have ST9 : Hid (St W0 wr W0.heap.size g v (.slice Ao ps.length co) (.slice Ab bs.length cb) bs bs ⟨bs.length, 0⟩ ps) := by have := ST.out; rw [← HBS.out] at this; exact this
          have HTR := HT.out.below ST9.out.bl (by have := HSZ.out; have := HZ.out; omega)
          have CE := Lib.hid (end_calls wr W0.heap.size g v bs ⟨bs.length, 0⟩ ST9.out.rd ⟨Nat.le_refl _, by simp⟩ HTR (Nat.lt_of_lt_of_le HZ.out (Nat.le_trans HB0.out.size ST9.out.bl.size)))
          have e0 : rEnd bs ⟨bs.length, 0⟩ = 0 := by simp [rEnd, errN]
          rw [e0] at CE
          clear HTR hlt e0
          go_wp2_with fail
          refine CE.out.mono ?_; rintro e w8 ⟨rfl, hb8⟩
          have ST10 := Lib.hid (ST9.out.below (Nat.le_refl _) hb8)
          have CL := Lib.hid (left_calls w8 W0.heap.size g v bs bs.length 0 ST10.out.rd (by omega) (by omega))
          have e3 : (bs.length : Int) - (bs.length : Int) = 0 := by omega
          rw [e3] at CL
          clear hb8 e3
          go_wp2_with fail
          refine (CU _ _).out.mono ?_; rintro e w9 ⟨rfl, rfl⟩
          go_wp2_with fail
          refine CL.out.mono ?_; rintro e w10 ⟨rfl, hb10⟩
          have ST11 := Lib.hid (ST10.out.below (Nat.le_refl _) hb10)
          have CA := Lib.hid (at_calls w10 W0.heap.size g v bs ⟨bs.length, 0⟩ ST11.out.rd)
          clear hb10
          go_wp2_with fail
          refine CA.out.mono ?_; rintro e w11 ⟨rfl, rfl⟩
          obtain ⟨N, hN⟩ : ∃ N, bs.length = N + 1 := ⟨bs.length - 1, by omega⟩
          have hcutb : ∀ W : World, (Instr.slice 22 (.slice Ab bs.length cb) none (some (.int .i64 (N : Int))) none).run Tryd.prog W = .ok (.slice Ab N cb) W := fun W => by
            obtain ⟨i0, hi0, hz0, hz1, hz2⟩ := info_parts info5
            have h := cut_to (P := Tryd.prog) 22 5 .i64 Tryd.underlying22 hi0 Ab bs.length cb (N : Int) (by omega) (by omega) hcapb W
            rwa [Int.toNat_natCast] at h
          have hdl : bs.dropLast.length = N := by simp; omega
          have hrd : ReadsOf I 0 w11 Ab bs.dropLast.length bs.dropLast := by
            have h := (own_reads_of' (d := (0 : Int)) ST11.out.ob).take_ N (by omega)
            rw [hdl, List.dropLast_eq_take, hN, Nat.add_sub_cancel]
            exact h
          have CRD := Lib.hid (read_calls bs.dropLast Ab cb w11 w11.heap.size (Nat.le_refl _) hrd (by omega))
          rw [hdl] at CRD
          have HDL := Lib.hid hdl
          have HN := Lib.hid hN
          have j1 : (bs.length : Int) = (N : Int) + 1 := by omega
          have j2 : N ≤ cb := by omega
          have j3 : (N : Int) ≤ 419440001 := by omega
          clear hdl hrd hN
          go_wp2_with fail
          refine CRD.out.mono ?_; rintro e w12 ⟨g2, v2, rfl, hd12, hb12, hg12, hv12⟩
          have HDB := Lib.hid (byt_take HBY.out N)
          have hby2 : Byt bs.dropLast := fun a ha => HBY.out a ((List.dropLast_sublist bs).subset ha)
          have HBY2 := Lib.hid hby2
          have ST12 := Lib.hid (ST11.out.below (Nat.le_refl _) hb12)
          have HD12 : Hid (Rdr w12 W0.heap.size g2 v2 bs.dropLast 0 0) := ⟨hd12.blk, Nat.le_trans ST11.out.bl.size hd12.le, own_less hd12.own ST11.out.bl.size⟩
          have CR8 := Lib.hid (rd8_calls w12 W0.heap.size g2 v2 bs.dropLast ⟨0, 0⟩ HD12.out ⟨by simp, by simp⟩ ST12.out.bl.size hby2)
          clear hd12 hb12 hg12 hv12 hby2
          go_wp2_with fail
          refine CR8.out.mono ?_; rintro e w13 ⟨rfl, h13⟩
          have ST13 : Hid (St W0 w13 W0.heap.size g2 v2 (.slice Ao ps.length co) (.slice Ab bs.length cb) bs.dropLast bs (rFix bs.dropLast ⟨0, 0⟩ 1).2 ps) := (St.mk (s := ⟨0, 0⟩) HD12.out ST12.out.op ST12.out.ob ST12.out.bl).step h13
          have hsp1 : bs = fixL 7 1 ++ (ps.take ps.length).flatMap Stp.bytes := HBS.out
          have CUT0 : Hid (Cut bs (pre ps 0).length (rFix bs.dropLast ⟨0, 0⟩ 1).2) := by
            rw [HP1.out]
            have h0 : Cut bs 0 ⟨0, 0⟩ := ⟨⟨by simp, by simp⟩, fun _ => rfl, fun h => absurd (show 0 < bs.length by omega) h⟩
            have h1 := cut_step [] ((ps.take ps.length).flatMap Stp.bytes) 1 7 [] (by omega) (by simp) ⟨0, 0⟩ (by
              have e : opB 1 7 [] = fixL 7 1 := rfl
              rw [e, List.nil_append, ← hsp1]; exact h0)
            have e : opB 1 7 [] = fixL 7 1 := rfl
            rw [e, List.nil_append, ← hsp1, fixL_length] at h1
            have e2 : (backP bs.dropLast ⟨0, 0⟩ 1 7 []).2 = (rFix bs.dropLast ⟨0, 0⟩ 1).2 := rfl
            rw [e2] at h1
            exact h1
          obtain ⟨s0, hs0⟩ : ∃ s0, s0 = (rFix bs.dropLast ⟨0, 0⟩ 1).2 := ⟨_, rfl⟩
          rw [← hs0] at ST13 CUT0
          clear h13 hsp1 hs0
          go_wp2_with fail
          go_loopw [10] (fun i wr2 => ∃ (k : Nat) (s : RS), i = .int .i64 k ∧ k ≤ ps.length ∧ St W0 wr2 W0.heap.size g2 v2 (.slice Ao ps.length co) (.slice Ab bs.length cb) bs.dropLast bs s ps ∧ Cut bs (pre ps k).length s) (fun i _ => ps.length - (intOf i).toNat)
          case atStart => exact ⟨0, s0, rfl, Nat.zero_le _, ST13.out, CUT0.out⟩
          case round =>
            obtain ⟨k, s, rfl, hk, hst, hcut⟩ := hrel
            have ST := Lib.hid hst
            have HCUT := Lib.hid hcut
            clear hst hcut
            by_cases hlt : k < ps.length
            · obtain ⟨go, _, hA, _, _⟩ := ST.out.op.form (by omega)
              injection hA with hA1 hA2 hA3
              subst hA1
              clear hA2 hA3
              have hgd := HPG.out _ (List.getElem_mem hlt)
              have z0 := stp_cell ST.out.op k 0 hlt (by omega)
              have z1 := stp_cell ST.out.op k 1 hlt (by omega)
              have z2 := stp_cell ST.out.op k 2 hlt (by omega)
              have z3 := stp_cell ST.out.op k 3 hlt (by omega)
              have z4 := stp_cell ST.out.op k 4 hlt (by omega)
              obtain ⟨p, hp⟩ : ∃ p, p = ps[k] := ⟨_, rfl⟩
              have hps := pre_succ ps k hlt
              have hsp := pre_split ps k hlt
              rw [← hp] at hgd z0 z1 z2 z3 z4 hps hsp
              rw [← HBS.out] at hsp
              simp [Stp.cells] at z0 z1 z2 z3 z4
              have CBK := Lib.hid (back_calls p.kind p.which p.m p.n p.b p.A p.c w wr W0.heap.size g2 v2 bs.dropLast s ST.out.rd HCUT.out.ok ST.out.bl.size HBY2.out (by have := HDL.out; omega) (HB0.out.trans (ST.out.bl.mono HB0.out.size)) HB0.out.size hgd.rd hgd.n64 hgd.bl)
              have HCUT1 : Hid (Cut bs (pre ps (k + 1)).length (backP bs.dropLast s p.kind p.n p.b).2) := by
                have e : bs = pre ps k ++ opB p.kind p.n p.b ++ (ps.drop (k + 1)).flatMap Stp.bytes := hsp
                have h := cut_step (pre ps k) ((ps.drop (k + 1)).flatMap Stp.bytes) p.kind p.n p.b hgd.n64 hgd.bl s (by rw [← e]; exact HCUT.out)
                rw [← e] at h
                have e2 : (pre ps (k + 1)).length = (pre ps k).length + (opB p.kind p.n p.b).length := by rw [hps, List.length_append]; rfl
                rw [e2]; exact h
              obtain ⟨q, hq⟩ : ∃ q, q = backP bs.dropLast s p.kind p.n p.b := ⟨_, rfl⟩
              rw [← hq] at CBK HCUT1
              obtain ⟨bq, sq⟩ := q
              have i1 : (k : Int) < (ps.length : Int) := by omega
              have i2 : (0 : Int) ≤ (k : Int) := by omega
              clear hgd hp hps hsp hq
              go_wp2_with fail
              refine CBK.out.mono ?_; rintro e w14 ⟨rfl, h14⟩
              have ST14 := Lib.hid (ST.out.step h14)
              clear h14 z0 z1 z2 z3 z4
              go_wp2_with fail
              go_roundw
              case rel => exact ⟨k + 1, sq, by go_num, by omega, ST14.out, HCUT1.out⟩
              case measure => simp [intOf]; omega
            · obtain rfl : k = ps.length := by omega
              have hm : s.met = 1 := HCUT.out.off (by rw [← HBS.out]; omega)
              have HTR := HT.out.below ST.out.bl (by have := HSZ.out; have := HZ.out; omega)
              have CF := Lib.hid (fault_calls wr W0.heap.size g2 v2 bs.dropLast s ST.out.rd HCUT.out.ok HTR)
              have CE := Lib.hid (end_calls wr W0.heap.size g2 v2 bs.dropLast s ST.out.rd HCUT.out.ok HTR (Nat.lt_of_lt_of_le HZ.out (Nat.le_trans HB0.out.size ST.out.bl.size)))
              have e1 : errN s.met = 10 := by rw [hm]; rfl
              have e2 : rEnd bs.dropLast s = 10 := by unfold rEnd; rw [if_neg (by omega), e1]
              rw [e1] at CF
              rw [e2] at CE
              clear HTR hm e1 e2 hlt
              go_wp2_with fail
              refine CF.out.mono ?_; rintro e w15 ⟨rfl, rfl⟩
              go_wp2_with fail
              refine (CU _ _).out.mono ?_; rintro e w16 ⟨rfl, rfl⟩
              go_wp2_with fail
              refine CE.out.mono ?_; rintro e w17 ⟨rfl, hb17⟩
              have HB17 := Lib.hid hb17
              clear hb17
              go_wp2_with fail
              refine (CU _ _).out.mono ?_; rintro e w18 ⟨rfl, rfl⟩
              go_wp2_with fail
              go_ret
              exact ⟨rfl, HB0.out.trans ((ST.out.bl.trans (HB17.out.mono ST.out.bl.size)).mono (by have := HSZ.out; omega))⟩
theorem in8 {n : Int} (h : (Lit.int .u8 n).wf = true) : 0 ≤ n ∧ n ≤ 255 := by
  simpa [Lit.wf, IntKind.min, IntKind.max, IntKind.signed, IntKind.bits] using h
set_option maxRecDepth 20000 in
theorem contract {H : Type} {enc : TypeId × Value → H} (W : World) (base : Nat) (v0 : Value) (d0 : DataW H) (p0 : List MemPlace) (hok : Value.okWide Tryd.prog W .any base 26 v0)
    (h0 : DataW.Trod enc Tryd.prog W 0 (fun _ => true) true 26 v0 d0 p0) (hlt : ∀ x ∈ p0, x.block < W.heap.size) (hsz : (DataW.weightsEach Tryd.prog [26] [d0]).all (· ≤ reachBytes) = true) (hk : Rows.uptoSmall H [d0] = true)
    (hL : laidMetH Tryd.prog [("till/code.errnos", Rows.laid_till_code_errnos)] W) :
    Calls Tryd.prog 6 #[v0] W fun e W' => e = .returned (.bool true) ∧ Below W.heap.size W W' := by
  obtain ⟨⟨⟨xa, xb⟩, os⟩, cs, rfl, ⟨c1, c2, hcs, ⟨c3, c4, rfl, hK1, hK2⟩, hK3⟩, ⟨⟨_, _⟩, hVO, _⟩, hB⟩ := open_arg Tryd.underlying26 Args.opens_Script hok h0 hsz
  obtain ⟨A1, n1, rfl, hcap1, hC1⟩ := hK1
  obtain ⟨A2, n2, rfl, _, _⟩ := hK2
  obtain ⟨A, c, rfl, hl, hC⟩ := hK3
  obtain rfl : cs = #[.slice A1 xa.length n1, .slice A2 xb.length n2, .slice A os.length c] := by cases cs; simp at hcs; rw [hcs]
  obtain ⟨ht, hz⟩ := Wr.errtab hL
  have hb : Rows.uptoBulk d0 ≤ 1048576 := by
    have := of_decide_eq_true hk
    simpa [Rows.uptoBulkAll] using this
  refine walk os _ _ A c W hC (fun o ho => ?_) ht hz
  have hv := hVO o ho
  have h1 := sumB_mem (B := Args.BOp) ho
  have h2 := sumB_length (B := fun _ : Int => 1) (fun _ => Nat.le_refl _) o.2.2.2.2
  have h3 : sumB (fun _ => 1) o.2.2.2.2 ≤ Args.BOp o := by
    show sumB (fun _ => 1) o.2.2.2.2 ≤ 1 + (1 + (1 + (1 + (sumB (fun _ => 1) o.2.2.2.2 + 1)))) + 1
    omega
  simp only at hB h1
  exact ⟨Args.in64 hv.2.1, Args.inu64 hv.2.2.2.1, Args.wb_byt hv.2.2.2.2, by omega⟩
end Go.Proofs.YtoeiaimoppmjdaaDoor.CodeTurns
