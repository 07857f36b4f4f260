/- CodeFresh: what is handed out is left as it is for a while, then written full by the caller: nothing else is changed by that. -/
import Derived.Test.YtoeiaimoppmjdaaFresh1
import Derived.Below
namespace Go.Proofs.Ytoeiaimoppmjdaa.Fr
open Go.RowKit Go.Proofs.YtoeiaimoppmjdaaW.PrintWords Go.Proofs.Ytoeiaimoppmjdaa.Mem Go.Proofs.Ytoeiaimoppmjdaa.Wr Go.Proofs.Ytoeiaimoppmjdaa.Bytes
open Go.Proofs.Ytoeiaimoppmjdaa.Late (gotE lateE LateV LI LateTo LateAdd lateV_nil settle_calls add_calls lateR)
open Go.Proofs.Ytoeiaimoppmjdaa.Book (BkS BkV bkE bkC bkR NL rowV_form look_calls)
set_option linter.unusedVariables false
set_option linter.unusedSimpArgs false
theorem rBytes_byt {xs : List Int} (h : Byt xs) (s : RS) (m : Int) : Byt (rBytes xs s m).1 := by
  rw [rBytes_raw]
  split
  · exact erRaw_byt h _ _
  · intro a ha; cases ha
/-- A book that nothing was laid into. -/
def bk0 : BkS := ⟨NL, NL, [], 0, 0, 0, 0, []⟩
theorem bk0V : BkV bk0 := ⟨rowV_nil 1, rowV_nil 1, fun l hl => (by cases hl), Nat.le_refl _, by simp [bk0], by simp [bk0], fun l hl => (by cases hl), fun i hi => (by simp [bk0] at hi), Nat.le_refl _⟩
theorem builtBook : Try.prog.built 56 [] = some (bkC bk0) := by kernel_rfl
theorem wpList_book {ops : Array Oper} {rest : List Oper} {o : Oper} {a : Act} {w : World} {Q : Exit → Act → World → Prop} (hg : o.guard = none) (ho : o.op = .build 56 #[]) (h : wpList Try.prog ops Q rest (a.put o.dst (.agg (bkC bk0))) w) : wpList Try.prog ops Q (o :: rest) a w :=
  wpList_plain hg fun _ hK => by
    unfold Oper.wp execOp
    simp only [ho, Sem.run_bind, List.map_toArray, List.map_nil, Array.map_empty, run_build w 56 #[] (bkC bk0) builtBook, Result.andThen_ok]
    exact hK _ _ h
theorem St.newRdr {w0 W W1 : World} {L : List Ent} {g : Nat} {v : Value} {xs : List Int} (H : St w0 W L) (hb : Below W.heap.size W W1) (hd : Rdr W1 W.heap.size g v xs 0 0) (hg : W.heap.size ≤ g) : St w0 W1 (rdrE g v xs ⟨0, 0⟩ ++ L) ∧ byV v xs := by
  obtain ⟨h1, h2⟩ := H.fresh hb hd.own
  refine ⟨(show St w0 W1 (B g #[v, .int .i64 ((0 : Nat) : Int), .int .i64 ((0 : Nat) : Int)] 77 :: (rowE v 5 1 xs.length (encs I xs) ++ L)) from h1.add (Nat.le_trans H.bl.size hg) (fun p hp e => ?_) hd.blk rfl).re (fun x => by simp only [rdrE, byR, cnt_append, cnt_cons]; omega), h2⟩
  rcases List.mem_append.1 hp with hp | hp
  · exact rdr_ne hd (by rw [rowE_blk hp h2, e])
  · have := H.lt hp; omega
/-- What is held while the steps are played. -/
def FrI (w0 : World) (gw gr ge lt b : Nat) (vr : Value) (A : Option Addr) (c : Nat) (xs : List Int) (R : List Ent) (lim items : Nat) (hv : Value) (W : World) : Prop :=
  ∃ (v : Value) (held : List Int) (s : RS) (gv wv : Value) (l : List LI) (bs : BkS), byV v held ∧ byV hv held ∧ Byt held ∧ held.length ≤ lim ∧ s.Ok xs ∧ LateV gv wv l ∧ BkV bs ∧ bs.turn + l.length ≤ items ∧
    St w0 W (wtrE gw v held ++ (byR hv held ++ (rdrE gr vr xs s ++ (eyE ge A c xs s :: (lateE lt gv wv l ++ (bkE b bs ++ R))))))
abbrev scr (A0 A1 A : Option Addr) (n0 c0 n1 c1 n c : Nat) : Array Value := #[.slice A0 n0 c0, .slice A1 n1 c1, .slice A n c]
set_option maxRecDepth 100000 in
set_option maxHeartbeats 6400000 in
theorem walk (xa xb : List Int) (os : List (Int × Int × Int × Int × List Int)) (A0 A1 A : Option Addr) (c0 c1 c : Nat) (w : World) (hr0 : ReadsOf I 0 w A0 xa.length xa) (hc0 : xa.length ≤ c0) (hx0 : Byt xa) (hxl : xa.length ≤ 1048576) (hr : Wr.KOp.C w A os.length os)
    (hv : ∀ o, o ∈ os → ((-9223372036854775808 ≤ o.2.1 ∧ o.2.1 ≤ 9223372036854775807) ∧ (0 ≤ o.2.2.2.1 ∧ o.2.2.2.1 ≤ 18446744073709551615) ∧ Byt o.2.2.2.2 ∧ o.2.2.2.2.length ≤ 1048576) ∧ -9223372036854775808 ≤ o.2.2.1 ∧ o.2.2.1 ≤ 9223372036854775807) :
    Calls Try.prog 3 #[.agg (scr A0 A1 A xa.length c0 xb.length c1 os.length c)] w fun e w' => e = .returned (.bool true) ∧ Below w.heap.size w w' := by
  obtain ⟨W1, hW1⟩ : ∃ W1, W1 = w.alloc (.cells (scr A0 A1 A xa.length c0 xb.length c1 os.length c) 26) := ⟨_, rfl⟩
  obtain ⟨bs, hbs⟩ : ∃ bs, bs = w.heap.size := ⟨_, rfl⟩
  have h1 := (St.start w).newB (scr A0 A1 A xa.length c0 xb.length c1 os.length c) 26
  rw [← hW1, ← hbs] at h1
  have CN := Lib.hid (new_calls W1 w.heap.size h1.bl.size)
  have H1 := Lib.hid h1
  have HW1 := Lib.hid hW1
  have HBS := Lib.hid hbs
  have HR0 := Lib.hid hr0
  have HX0 := Lib.hid hx0
  have HR := Lib.hid hr
  have HV := Lib.hid hv
  clear h1 hW1 hbs hr0 hx0 hr hv
  go_enter Try.func3, Try.ntmps3
  go_wp2_with fail
  rw [← HBS.out, ← HW1.out]
  refine CN.out.mono ?_; rintro e w2 ⟨rfl, hw2, hb2⟩
  obtain ⟨gw, hgw⟩ : ∃ gw, gw = W1.heap.size := ⟨_, rfl⟩
  rw [← hgw] at hw2
  rw [← hgw]
  have h2 : St w w2 (wtrE gw (.slice none 0 0) [] ++ [B bs (scr A0 A1 A xa.length c0 xb.length c1 os.length c) 26]) :=
    (H1.out.made hb2 (by omega) hw2.blk (P := fun o => o = .cells #[.slice none 0 0] 75 (0, 0)) rfl).re (fun x => by simp only [wtrE, byR, rowE_nil, cnt_append, cnt_cons, cnt_nil]; exact Nat.le_refl _)
  have x0 := h2.cellOf (g := bs) (cs := scr A0 A1 A xa.length c0 xb.length c1 os.length c) (t := 26) (by simp) 0 rfl
  have CC := Lib.hid (copy_calls xa A0 c0 w2 w2.heap.size (Nat.le_refl _) (h2.reads HR0.out) (by omega))
  have H2 := Lib.hid h2
  clear hw2 hb2 hgw h2
  go_wp2_with fail
  refine CC.out.mono ?_; rintro e w3 ⟨u3, rfl, ho3, hb3⟩
  obtain ⟨Au, cu, rfl, hru⟩ := own_reads_of (d := (0 : Int)) ho3
  have CR := Lib.hid (read_calls xa Au cu w3 w3.heap.size (Nat.le_refl _) hru (by omega))
  have H3 := Lib.hid (H2.out.below hb3)
  clear ho3 hb3 hru x0
  go_wp2_with fail
  refine CR.out.mono ?_; rintro e w4 ⟨gr, vr, rfl, hd, hb4, hgr, hvr⟩
  obtain ⟨h4, hvV⟩ := St.newRdr H3.out hb4 hd hgr
  obtain ⟨ge, hge⟩ : ∃ ge, ge = w4.heap.size := ⟨_, rfl⟩
  obtain ⟨W5, hW5⟩ : ∃ W5, W5 = w4.alloc (.cells #[.slice A0 xa.length c0, .int .i64 0, .int .i64 0] 34) := ⟨_, rfl⟩
  obtain ⟨b, hb⟩ : ∃ b, b = W5.heap.size := ⟨_, rfl⟩
  obtain ⟨W6, hW6⟩ : ∃ W6, W6 = W5.alloc (.cells (bkC bk0) 56) := ⟨_, rfl⟩
  obtain ⟨lt, hlt⟩ : ∃ lt, lt = W6.heap.size := ⟨_, rfl⟩
  obtain ⟨W7, hW7⟩ : ∃ W7, W7 = W6.alloc (.cells #[NL, NL] 59) := ⟨_, rfl⟩
  have h5 := h4.newB #[.slice A0 xa.length c0, .int .i64 0, .int .i64 0] 34
  rw [← hge, ← hW5] at h5
  have h6 := h5.newB (bkC bk0) 56
  rw [← hb, ← hW6] at h6
  have h7 := h6.newB #[NL, NL] 59
  rw [← hlt, ← hW7] at h7
  have h8 : St w W7 (wtrE gw NL [] ++ (byR NL [] ++ (rdrE gr vr xa ⟨0, 0⟩ ++ (eyE ge A0 c0 xa ⟨0, 0⟩ :: (lateE lt NL NL [] ++ (bkE b bk0 ++ [B bs (scr A0 A1 A xa.length c0 xb.length c1 os.length c) 26])))))) :=
    (show St w W7 ([B lt #[NL, NL] 59, B b (bkC bk0) 56, eyE ge A0 c0 xa ⟨0, 0⟩] ++ (rdrE gr vr xa ⟨0, 0⟩ ++ (wtrE gw NL [] ++ [B bs (scr A0 A1 A xa.length c0 xb.length c1 os.length c) 26]))) from h7).re (fun x => by
      have e1 : cnt x (bkE b bk0) = one x (B b (bkC bk0) 56) := rfl
      have e2 : cnt x (lateE lt NL NL []) = one x (B lt #[NL, NL] 59) := rfl
      have e3 : cnt x (byR NL []) = 0 := rfl
      simp only [cnt_append, cnt_cons, cnt_nil, e1, e2, e3]; omega)
  have x1 := h4.cellOf (g := bs) (cs := scr A0 A1 A xa.length c0 xb.length c1 os.length c) (t := 26) (by simp) 0 rfl
  have x2 := h7.cellOf (g := bs) (cs := scr A0 A1 A xa.length c0 xb.length c1 os.length c) (t := 26) (by simp) 2 rfl
  have CP := Lib.hid (played2_calls os A c w W7 h8.bl HR.out HV.out)
  have HGE := Lib.hid hge
  have HB : Hid (b = ge + 1) := by show b = _; rw [hb, hW5, hge]; simp
  have HLT : Hid (lt = b + 1) := by show lt = _; rw [hlt, hW6, hb]; simp
  have HW5 := Lib.hid hW5
  have HW6 := Lib.hid hW6
  have HW7 := Lib.hid hW7
  have H8 := Lib.hid h8
  have HVV := Lib.hid hvV
  rw [hW7, hW6, hW5] at x2
  clear hd hb4 hgr hvr h4 h5 h6 h7 h8 hge hW5 hW6 hW7 hb hlt hvV
  go_wp2_with (refine wpList_book rfl rfl ?_)
  rw [← HGE.out, ← HB.out, ← HLT.out, ← HW5.out, ← HW6.out, ← HW7.out]
  refine CP.out.mono ?_; rintro e w9 ⟨ps, pv, rfl, hop, hb9, hpl, hpb, hpg⟩
  obtain ⟨h9, hpV⟩ := H8.out.fresh hb9 hop
  obtain ⟨Ap, cp, rfl⟩ := rowV_form hpV
  obtain ⟨R, hR⟩ : ∃ R, R = rowE (.slice Ap ps.length cp) 63 5 ps.length (stpCells ps) ++ [B bs (scr A0 A1 A xa.length c0 xb.length c1 os.length c) 26] := ⟨_, rfl⟩
  have hI : FrI w gw gr ge lt b vr A0 c0 xa R 0 0 NL w9 := ⟨NL, [], ⟨0, 0⟩, NL, NL, [], bk0, rowV_nil 1, rowV_nil 1, fun a ha => (by cases ha), Nat.le_refl _, ⟨Nat.zero_le _, by decide⟩, lateV_nil, bk0V, Nat.le_refl _, by rw [hR]; exact h9.re (fun x => by simp only [cnt_append, cnt_cons, cnt_nil]; omega)⟩
  have HI := Lib.hid hI
  have HPB := Lib.hid hpb
  have HPG := Lib.hid hpg
  have HPV := Lib.hid hpV
  have HRR := Lib.hid hR
  have HPC : Hid (∀ w' L k, St w w' L → (∀ a, cnt a R ≤ cnt a L) → (hk : k < ps.length) → ∃ gp, Ap = some ⟨gp, 0, none⟩ ∧ ∀ j, j < 5 → w'.cell? ⟨gp, k * 5 + j, none⟩ = (ps[k]).cells[j]?) := fun w' L k hs hc hk => by
    have hr := hs.re hc
    rw [hR] at hr
    rcases hpV.2 with ⟨e, h0⟩ | ⟨gp, cap, e, h1, h2⟩
    · omega
    · injection e with e e2 e3
      subst e
      refine ⟨gp, rfl, fun j hj => ?_⟩
      have hlen := hpV.1
      rw [(St.at (R := [B bs (scr A0 A1 A xa.length c0 xb.length c1 os.length c) 26]) hr (k * 5 + j) (by rw [hlen]; omega) hlen).1]
      exact stpCells_get ps k j hk hj
  clear hop hb9 hpb hpg h9 hpV hI hR x1 x2
  go_wp2_with fail
  go_loopw [8, 10] (fun hv i wr => ∃ k : Nat, i = .int .i64 k ∧ k ≤ ps.length ∧ FrI w gw gr ge lt b vr A0 c0 xa R (laidB (ps.take k) + 10 * k) (4 * k) hv wr) (fun _ i _ => ps.length - (intOf i).toNat)
  case atStart => exact ⟨0, rfl, Nat.zero_le _, by simpa [laidB] using HI.out⟩
  case round =>
    obtain ⟨k, rfl, hk, v, held, s, gv, wv, l, bs2, hv1, hv2, hby, hlen, hsok, hlv, hbv, hcnt, hs⟩ := hrel
    have HLV := Lib.hid hlv
    have HBV := Lib.hid hbv
    have HCN := Lib.hid hcnt
    have HSK := Lib.hid hsok
    have HK4 : Hid (k ≤ 400) := by show _ ≤ _; omega
    clear hlv hbv hcnt hsok
    by_cases hgo : k < ps.length
    · obtain ⟨gp, eA, hcl⟩ := HPC.out wr _ k hs (fun x => by simp only [cnt_append, cnt_cons, cnt_nil]; omega) hgo
      obtain ⟨p, hp⟩ : ∃ p, p = ps[k] := ⟨_, rfl⟩
      have hpg := HPG.out ps[k] (List.getElem_mem hgo)
      have htk := laidB_take ps k hgo
      have htl := laidB_take_le ps (k + 1)
      rw [← hp] at hpg hcl htk
      obtain ⟨kind, which, m, n, bb, A3, c3⟩ := p
      have hm1 := hpg.2.1
      have hm2 := hpg.2.2
      simp only [Stp.cells] at hm1 hm2 hcl htk
      obtain ⟨ad, had⟩ : ∃ ad : Addr, ad = ⟨gp, 0, none⟩ := ⟨_, rfl⟩
      rw [← had] at eA
      subst eA
      have hq0 : wr.cell? (ad.add (k * 5)) = some (.int .i64 kind) := by rw [had, add_plain]; exact hcl 0 (by omega)
      have hq1 : wr.cell? ⟨(ad.add (k * 5)).block, (ad.add (k * 5)).off + 1, none⟩ = some (.int .i64 which) := by rw [had, add_plain]; exact hcl 1 (by omega)
      have hq2 : wr.cell? ⟨(ad.add (k * 5)).block, (ad.add (k * 5)).off + 2, none⟩ = some (.int .i64 m) := by rw [had, add_plain]; exact hcl 2 (by omega)
      have hq3 : wr.cell? ⟨(ad.add (k * 5)).block, (ad.add (k * 5)).off + 3, none⟩ = some (.int .u64 n) := by rw [had, add_plain]; exact hcl 3 (by omega)
      have hq4 : wr.cell? ⟨(ad.add (k * 5)).block, (ad.add (k * 5)).off + 4, none⟩ = some (.slice A3 bb.length c3) := by rw [had, add_plain]; exact hcl 4 (by omega)
      obtain ⟨W1, hW1⟩ : ∃ W1, W1 = wr.alloc (.cells #[.int .i64 kind, .int .i64 which, .int .i64 m, .int .u64 (n : Int), .slice A3 bb.length c3] 63) := ⟨_, rfl⟩
      obtain ⟨q, hq⟩ : ∃ q, q = wr.heap.size := ⟨_, rfl⟩
      have h1 := hs.newB #[.int .i64 kind, .int .i64 which, .int .i64 m, .int .u64 (n : Int), .slice A3 bb.length c3] 63
      rw [← hW1, ← hq] at h1
      have CW := Lib.hid (wr_calls ⟨kind, which, m, n, bb, A3, c3⟩ hpg (h1.re (M := wtrE gw v held ++ (byR u8 held ++ (rdrE gr vr xa s ++ (eyE ge A0 c0 xa s :: (lateE lt gv wv l ++ (bkE b bs2 ++ (B q #[.int .i64 kind, .int .i64 which, .int .i64 m, .int .u64 (n : Int), .slice A3 bb.length c3] 63 :: R))))))) (fun x => by simp only [cnt_append, cnt_cons, cnt_nil]; omega)) hv1 hv2 (by have := HPB.out; have := laidB_take_le ps k; omega))
      obtain ⟨hl, ehl⟩ : ∃ hl, hl = held ++ opBytes kind n bb := ⟨_, rfl⟩
      have HBY : Hid (Byt hl) := by show Byt _; rw [ehl]; exact byt_app hby (opBytes_byt kind n bb hpg.1.bt)
      have HLN : Hid (hl.length ≤ laidB (ps.take (k + 1)) + 10 * (k + 1)) := by
        show _ ≤ _
        have := opBytes_len kind n bb hpg.1.n64 hpg.1.bl
        rw [ehl, List.length_append]; omega
      have HLM : Hid (hl.length ≤ 4300000) := by show _ ≤ _; have := HLN.out; have := HPB.out; omega
      simp only [← ehl] at CW
      have HW1 := Lib.hid hW1
      have HQ := Lib.hid hq
      have x0 := h1.cellOf (g := q) (cs := #[.int .i64 kind, .int .i64 which, .int .i64 m, .int .u64 (n : Int), .slice A3 bb.length c3]) (t := 63) (by simp) 0 rfl
      have x1 := h1.cellOf (g := q) (cs := #[.int .i64 kind, .int .i64 which, .int .i64 m, .int .u64 (n : Int), .slice A3 bb.length c3]) (t := 63) (by simp) 1 rfl
      have x2 := h1.cellOf (g := q) (cs := #[.int .i64 kind, .int .i64 which, .int .i64 m, .int .u64 (n : Int), .slice A3 bb.length c3]) (t := 63) (by simp) 2 rfl
      have x3 := h1.cellOf (g := q) (cs := #[.int .i64 kind, .int .i64 which, .int .i64 m, .int .u64 (n : Int), .slice A3 bb.length c3]) (t := 63) (by simp) 3 rfl
      have x4 := h1.cellOf (g := q) (cs := #[.int .i64 kind, .int .i64 which, .int .i64 m, .int .u64 (n : Int), .slice A3 bb.length c3]) (t := 63) (by simp) 4 rfl
      rw [hW1, hq] at x0 x1 x2 x3 x4
      have j1 : (k : Int) < (ps.length : Int) := by omega
      clear hp hpg htk htl had hcl h1 hW1 hq ehl hby hlen hv1 hv2 hs
      go_wp2_with fail
      rw [← HQ.out, ← HW1.out]
      refine CW.out.mono ?_; rintro e w2 ⟨v1, h1', rfl, hv1, hh1, hs2⟩
      obtain ⟨Ah, ch, rfl⟩ := byV_form hh1
      have HV1 := Lib.hid hv1
      have HH1 := Lib.hid hh1
      have H2 := Lib.hid hs2
      have y0 := hs2.cellOf (g := q) (cs := #[.int .i64 kind, .int .i64 which, .int .i64 m, .int .u64 (n : Int), .slice A3 bb.length c3]) (t := 63) (by simp) 0 rfl
      have y2 := hs2.cellOf (g := q) (cs := #[.int .i64 kind, .int .i64 which, .int .i64 m, .int .u64 (n : Int), .slice A3 bb.length c3]) (t := 63) (by simp) 2 rfl
      clear hv1 hh1 hs2 x0 x1 x2 x3 x4 hq0 hq1 hq2 hq3 hq4
      by_cases hkd : kind = 5 ∨ kind = 6
      · have CB := Lib.hid (rb_calls m (H2.out.re (M := rdrE gr vr xa s ++ (wtrE gw v1 hl ++ (byR (.slice Ah hl.length ch) hl ++ (eyE ge A0 c0 xa s :: (lateE lt gv wv l ++ (bkE b bs2 ++ (B q #[.int .i64 kind, .int .i64 which, .int .i64 m, .int .u64 (n : Int), .slice A3 bb.length c3] 63 :: R))))))) (fun x => by simp only [cnt_append, cnt_cons, cnt_nil]; omega)) HVV.out HSK.out HX0.out hxl hm1 hm2)
        rcases hkd with rfl | rfl
        · go_wp2_with fail
          refine CB.out.mono ?_; rintro e w3 ⟨gx, Ax, cx, hAx, rfl, hnx, hs3⟩
          have CT := Lib.hid (et_calls m (hs3.re (M := eyE ge A0 c0 xa s :: (gotE gx (rBytes xa s m).1 cx ++ (rdrE gr vr xa (rBytes xa s m).2 ++ (wtrE gw v1 hl ++ (byR (.slice Ah hl.length ch) hl ++ (lateE lt gv wv l ++ (bkE b bs2 ++ (B q #[.int .i64 5, .int .i64 which, .int .i64 m, .int .u64 (n : Int), .slice A3 bb.length c3] 63 :: R)))))))) (fun x => by simp only [cnt_append, cnt_cons, cnt_nil]; omega)) HR0.out hc0 HSK.out HX0.out hxl hm2)
          have x2 := hs3.cellOf (g := q) (cs := #[.int .i64 5, .int .i64 which, .int .i64 m, .int .u64 (n : Int), .slice A3 bb.length c3]) (t := 63) (by simp) 2 rfl
          obtain ⟨x1s, hx1⟩ : ∃ x1s, x1s = (rBytes xa s m).1 := ⟨_, rfl⟩
          obtain ⟨s1, hs1⟩ : ∃ s1, s1 = (rBytes xa s m).2 := ⟨_, rfl⟩
          have HB1 : Hid (Byt x1s) := by show Byt _; rw [hx1]; exact rBytes_byt HX0.out s m
          have HL1 : Hid (x1s.length ≤ 1048576) := by show _ ≤ _; rw [hx1]; exact Nat.le_trans (rBytes_len xa s m) hxl
          have HSK1 : Hid (s1.Ok xa) := by show RS.Ok _ _; rw [hs1]; exact rBytes_ok HSK.out m
          rw [← hx1, ← hs1] at CT
          rw [← hx1] at hnx ⊢
          have HNX := Lib.hid hnx
          have HAX := Lib.hid hAx
          clear hs3 hx1 hs1 hnx hAx
          go_wp2_with fail
          refine CT.out.mono ?_; rintro e w4 ⟨Ay, cy, rfl, hvy, hs4⟩
          have CA := Lib.hid (add_calls w w4 (byR (.slice Ay x1s.length cy) x1s ++ (eyE ge A0 c0 xa s1 :: (rdrE gr vr xa s1 ++ (wtrE gw v1 hl ++ (byR (.slice Ah hl.length ch) hl ++ (bkE b bs2 ++ (B q #[.int .i64 5, .int .i64 which, .int .i64 m, .int .u64 (n : Int), .slice A3 bb.length c3] 63 :: R))))))) lt gv wv l gx x1s cx Ax Ay cy HAX.out (hs4.re (fun x => by simp only [cnt_append, cnt_cons, cnt_nil]; omega)) HLV.out HNX.out HB1.out (by have := HL1.out; omega) (by have := HCN.out; have := HK4.out; omega) (fun W' h => by_reads h (fun x => by simp only [cnt_append, cnt_cons, cnt_nil]; omega) hvy))
          clear hvy hs4 x2
          go_wp2_with fail
          refine CA.out.mono ?_; rintro e w5 ⟨rfl, gv1, wv1, i1, hlv1, hs5⟩
          have HLV1 := Lib.hid hlv1
          have CI := Lib.hid (into_gen m 5 w5 (by omega) (by omega) hm1 hm2)
          have CR := Lib.hid (rr_calls (m % 5) (hs5.re (M := rdrE gr vr xa s1 ++ (eyE ge A0 c0 xa s1 :: (lateE lt gv1 wv1 (l ++ [i1]) ++ (wtrE gw v1 hl ++ (byR (.slice Ah hl.length ch) hl ++ (bkE b bs2 ++ (B q #[.int .i64 5, .int .i64 which, .int .i64 m, .int .u64 (n : Int), .slice A3 bb.length c3] 63 :: R))))))) (fun x => by simp only [cnt_append, cnt_cons, cnt_nil]; omega)) HVV.out HSK1.out hxl)
          have x2 := hs5.cellOf (g := q) (cs := #[.int .i64 5, .int .i64 which, .int .i64 m, .int .u64 (n : Int), .slice A3 bb.length c3]) (t := 63) (by simp) 2 rfl
          clear hlv1 hs5
          go_wp2_with fail
          refine CI.out.mono ?_; rintro e w5 ⟨rfl, rfl⟩
          go_wp2_with fail
          refine CR.out.mono ?_; rintro e w6 ⟨gz, Az, cz, hAz, rfl, hnz, hs6⟩
          have CI := Lib.hid (into_gen m 5 w6 (by omega) (by omega) hm1 hm2)
          have CT := Lib.hid (er_calls (m % 5) (hs6.re (M := eyE ge A0 c0 xa s1 :: (gotE gz (rRaw xa s1 (m % 5)).1 cz ++ (rdrE gr vr xa (rRaw xa s1 (m % 5)).2 ++ (wtrE gw v1 hl ++ (byR (.slice Ah hl.length ch) hl ++ (lateE lt gv1 wv1 (l ++ [i1]) ++ (bkE b bs2 ++ R))))))) (fun x => by simp only [cnt_append, cnt_cons, cnt_nil]; omega)) HR0.out hc0 HSK1.out hxl)
          have x3 := hs6.cellOf (g := q) (cs := #[.int .i64 5, .int .i64 which, .int .i64 m, .int .u64 (n : Int), .slice A3 bb.length c3]) (t := 63) (by simp) 2 rfl
          obtain ⟨x2s, hx2⟩ : ∃ x2s, x2s = (rRaw xa s1 (m % 5)).1 := ⟨_, rfl⟩
          obtain ⟨s2, hs2⟩ : ∃ s2, s2 = (rRaw xa s1 (m % 5)).2 := ⟨_, rfl⟩
          have HB2 : Hid (Byt x2s) := by show Byt _; rw [hx2]; exact erRaw_byt HX0.out s1 _
          have HL2 : Hid (x2s.length ≤ 1048576) := by show _ ≤ _; rw [hx2]; exact Nat.le_trans (rRaw_len xa s1 _) hxl
          have HSK2 : Hid (s2.Ok xa) := by show RS.Ok _ _; rw [hs2]; exact rRaw_ok HSK1.out _
          rw [← hx2, ← hs2] at CT
          rw [← hx2] at hnz ⊢
          have HNZ := Lib.hid hnz
          have HAZ := Lib.hid hAz
          clear hs6 hx2 hs2 hnz hAz x2
          go_wp2_with fail
          refine CI.out.mono ?_; rintro e w6 ⟨rfl, rfl⟩
          go_wp2_with fail
          refine CT.out.mono ?_; rintro e w8 ⟨Ay, cy, rfl, hvy, hs8⟩
          have CA := Lib.hid (add_calls w w8 (byR (.slice Ay x2s.length cy) x2s ++ (eyE ge A0 c0 xa s2 :: (rdrE gr vr xa s2 ++ (wtrE gw v1 hl ++ (byR (.slice Ah hl.length ch) hl ++ (bkE b bs2 ++ R)))))) lt gv1 wv1 (l ++ [i1]) gz x2s cz Az Ay cy HAZ.out (hs8.re (fun x => by simp only [cnt_append, cnt_cons, cnt_nil]; omega)) HLV1.out HNZ.out HB2.out (by have := HL2.out; omega) (by have := HCN.out; have := HK4.out; simp; omega) (fun W' h => by_reads h (fun x => by simp only [cnt_append, cnt_cons, cnt_nil]; omega) hvy))
          clear hvy hs8 x3
          go_wp2_with fail
          refine CA.out.mono ?_; rintro e w9' ⟨rfl, gv2, wv2, i2, hlv2, hs9⟩
          have HLV2 := Lib.hid hlv2
          have H9 := Lib.hid hs9
          clear hlv2 hs9
          go_wp2_with fail
          go_loopw [16] (fun i wr => ∃ (k2 : Nat) (gv3 wv3 : Value) (l3 : List LI), i = .int .i64 k2 ∧ k2 ≤ 2 ∧ LateV gv3 wv3 l3 ∧ l3.length = l.length + 2 + k2 ∧ St w wr (wtrE gw v1 hl ++ (byR (.slice Ah hl.length ch) hl ++ (rdrE gr vr xa s2 ++ (eyE ge A0 c0 xa s2 :: (lateE lt gv3 wv3 l3 ++ (bkE b bs2 ++ R))))))) (fun i _ => 2 - (intOf i).toNat)
          case atStart => exact ⟨0, gv2, wv2, _, rfl, by omega, HLV2.out, by simp, H9.out.re (fun x => by simp only [cnt_append, cnt_cons, cnt_nil]; omega)⟩
          case round =>
            obtain ⟨k2, gv3, wv3, l3, rfl, hk2, hlv3, hl3, hs10⟩ := hrel
            have HLV3 := Lib.hid hlv3
            have HL3 := Lib.hid hl3
            by_cases hgo2 : k2 < 2
            · have CO := Lib.hid (ou_calls hs10 HV1.out (by have := HLM.out; omega))
              have j1 : (k2 : Int) < 2 := by omega
              clear hlv3 hl3 hs10
              go_wp2_with fail
              refine CO.out.mono ?_; rintro e w10 ⟨go, Ao, co, hAo, rfl, hno, hs11⟩
              have CA := Lib.hid (add_calls w w10 (wtrE gw v1 hl ++ (byR (.slice Ah hl.length ch) hl ++ (rdrE gr vr xa s2 ++ (eyE ge A0 c0 xa s2 :: (bkE b bs2 ++ R))))) lt gv3 wv3 l3 go hl co Ao Ah ch hAo (hs11.re (fun x => by simp only [cnt_append, cnt_cons, cnt_nil]; omega)) HLV3.out hno HBY.out (by have := HLM.out; omega) (by have := HCN.out; have := HK4.out; have := HL3.out; omega) (fun W' h => by_reads h (fun x => by simp only [cnt_append, cnt_cons, cnt_nil]; omega) HH1.out))
              clear hAo hno hs11
              go_wp2_with fail
              refine CA.out.mono ?_; rintro e w11 ⟨rfl, gv4, wv4, i4, hlv4, hs12⟩
              have HLV4 := Lib.hid hlv4
              have H12 := Lib.hid hs12
              clear hlv4 hs12
              go_wp2_with fail
              go_roundw
              case rel => exact ⟨k2 + 1, gv4, wv4, _, by go_num, by omega, HLV4.out, by have := HL3.out; simp; omega, H12.out.re (fun x => by simp only [cnt_append, cnt_cons, cnt_nil]; omega)⟩
              case measure => simp [intOf]; omega
            · have H10 := Lib.hid hs10
              have j1 : ¬ (k2 : Int) < 2 := by omega
              have HL4 : Hid (l3.length = l.length + 4) := by show _ = _; omega
              clear hlv3 hl3 hs10
              have CS := Lib.hid (settle_calls w _ (wtrE gw v1 hl ++ (byR (.slice Ah hl.length ch) hl ++ (rdrE gr vr xa s2 ++ (eyE ge A0 c0 xa s2 :: R)))) lt b gv3 wv3 l3 bs2 6 (H10.out.re (fun x => by simp only [cnt_append, cnt_cons, cnt_nil]; omega)) HLV3.out HBV.out (by have := HCN.out; have := HL4.out; have := HK4.out; omega))
              go_wp2_with fail
              refine CS.out.mono ?_; rintro e w6 ⟨rfl, gv5, wv5, l5, bs5, hlv5, hbv5, hcn5, hs6⟩
              have CK := Lib.hid (look_calls w w6 (lateE lt gv5 wv5 l5 ++ (wtrE gw v1 hl ++ (byR (.slice Ah hl.length ch) hl ++ (rdrE gr vr xa s2 ++ (eyE ge A0 c0 xa s2 :: R))))) b bs5 (hs6.re (fun x => by simp only [cnt_append, cnt_cons, cnt_nil]; omega)) hbv5 (by have := HCN.out; have := HL4.out; have := HK4.out; omega))
              have HLV5 := Lib.hid hlv5
              have HCN5 : Hid (bs5.turn + l5.length ≤ 4 * (k + 1)) := by show _ ≤ _; have := HCN.out; have := HL4.out; omega
              clear hlv5 hbv5 hcn5 hs6
              go_wp2_with fail
              refine CK.out.mono ?_; rintro e w7 ⟨rfl, bs7, hbv7, ht7, hs7⟩
              have HBV7 := Lib.hid hbv7
              have HT7 := Lib.hid ht7
              have H7 := Lib.hid hs7
              clear hbv7 ht7 hs7
              go_wp2_with fail
              go_roundw
              case rel => exact ⟨k + 1, by go_num, by omega, v1, hl, s2, gv5, wv5, l5, bs7, HV1.out, HH1.out, HBY.out, HLN.out, HSK2.out, HLV5.out, HBV7.out, by have h1 := HT7.out; have h2 := HCN5.out; omega, H7.out.re (fun x => by simp only [cnt_append, cnt_cons, cnt_nil]; omega)⟩
              case measure => simp [intOf]; omega
        · go_wp2_with fail
          refine CB.out.mono ?_; rintro e w3 ⟨gx, Ax, cx, hAx, rfl, hnx, hs3⟩
          have CT := Lib.hid (et_calls m (hs3.re (M := eyE ge A0 c0 xa s :: (gotE gx (rBytes xa s m).1 cx ++ (rdrE gr vr xa (rBytes xa s m).2 ++ (wtrE gw v1 hl ++ (byR (.slice Ah hl.length ch) hl ++ (lateE lt gv wv l ++ (bkE b bs2 ++ (B q #[.int .i64 6, .int .i64 which, .int .i64 m, .int .u64 (n : Int), .slice A3 bb.length c3] 63 :: R)))))))) (fun x => by simp only [cnt_append, cnt_cons, cnt_nil]; omega)) HR0.out hc0 HSK.out HX0.out hxl hm2)
          have x2 := hs3.cellOf (g := q) (cs := #[.int .i64 6, .int .i64 which, .int .i64 m, .int .u64 (n : Int), .slice A3 bb.length c3]) (t := 63) (by simp) 2 rfl
          obtain ⟨x1s, hx1⟩ : ∃ x1s, x1s = (rBytes xa s m).1 := ⟨_, rfl⟩
          obtain ⟨s1, hs1⟩ : ∃ s1, s1 = (rBytes xa s m).2 := ⟨_, rfl⟩
          have HB1 : Hid (Byt x1s) := by show Byt _; rw [hx1]; exact rBytes_byt HX0.out s m
          have HL1 : Hid (x1s.length ≤ 1048576) := by show _ ≤ _; rw [hx1]; exact Nat.le_trans (rBytes_len xa s m) hxl
          have HSK1 : Hid (s1.Ok xa) := by show RS.Ok _ _; rw [hs1]; exact rBytes_ok HSK.out m
          rw [← hx1, ← hs1] at CT
          rw [← hx1] at hnx ⊢
          have HNX := Lib.hid hnx
          have HAX := Lib.hid hAx
          clear hs3 hx1 hs1 hnx hAx
          go_wp2_with fail
          refine CT.out.mono ?_; rintro e w4 ⟨Ay, cy, rfl, hvy, hs4⟩
          have CA := Lib.hid (add_calls w w4 (byR (.slice Ay x1s.length cy) x1s ++ (eyE ge A0 c0 xa s1 :: (rdrE gr vr xa s1 ++ (wtrE gw v1 hl ++ (byR (.slice Ah hl.length ch) hl ++ (bkE b bs2 ++ (B q #[.int .i64 6, .int .i64 which, .int .i64 m, .int .u64 (n : Int), .slice A3 bb.length c3] 63 :: R))))))) lt gv wv l gx x1s cx Ax Ay cy HAX.out (hs4.re (fun x => by simp only [cnt_append, cnt_cons, cnt_nil]; omega)) HLV.out HNX.out HB1.out (by have := HL1.out; omega) (by have := HCN.out; have := HK4.out; omega) (fun W' h => by_reads h (fun x => by simp only [cnt_append, cnt_cons, cnt_nil]; omega) hvy))
          clear hvy hs4 x2
          go_wp2_with fail
          refine CA.out.mono ?_; rintro e w5 ⟨rfl, gv1, wv1, i1, hlv1, hs5⟩
          have HLV1 := Lib.hid hlv1
          have CI := Lib.hid (into_gen m 5 w5 (by omega) (by omega) hm1 hm2)
          have CR := Lib.hid (rr_calls (m % 5) (hs5.re (M := rdrE gr vr xa s1 ++ (eyE ge A0 c0 xa s1 :: (lateE lt gv1 wv1 (l ++ [i1]) ++ (wtrE gw v1 hl ++ (byR (.slice Ah hl.length ch) hl ++ (bkE b bs2 ++ (B q #[.int .i64 6, .int .i64 which, .int .i64 m, .int .u64 (n : Int), .slice A3 bb.length c3] 63 :: R))))))) (fun x => by simp only [cnt_append, cnt_cons, cnt_nil]; omega)) HVV.out HSK1.out hxl)
          have x2 := hs5.cellOf (g := q) (cs := #[.int .i64 6, .int .i64 which, .int .i64 m, .int .u64 (n : Int), .slice A3 bb.length c3]) (t := 63) (by simp) 2 rfl
          clear hlv1 hs5
          go_wp2_with fail
          refine CI.out.mono ?_; rintro e w5 ⟨rfl, rfl⟩
          go_wp2_with fail
          refine CR.out.mono ?_; rintro e w6 ⟨gz, Az, cz, hAz, rfl, hnz, hs6⟩
          have CI := Lib.hid (into_gen m 5 w6 (by omega) (by omega) hm1 hm2)
          have CT := Lib.hid (er_calls (m % 5) (hs6.re (M := eyE ge A0 c0 xa s1 :: (gotE gz (rRaw xa s1 (m % 5)).1 cz ++ (rdrE gr vr xa (rRaw xa s1 (m % 5)).2 ++ (wtrE gw v1 hl ++ (byR (.slice Ah hl.length ch) hl ++ (lateE lt gv1 wv1 (l ++ [i1]) ++ (bkE b bs2 ++ R))))))) (fun x => by simp only [cnt_append, cnt_cons, cnt_nil]; omega)) HR0.out hc0 HSK1.out hxl)
          have x3 := hs6.cellOf (g := q) (cs := #[.int .i64 6, .int .i64 which, .int .i64 m, .int .u64 (n : Int), .slice A3 bb.length c3]) (t := 63) (by simp) 2 rfl
          obtain ⟨x2s, hx2⟩ : ∃ x2s, x2s = (rRaw xa s1 (m % 5)).1 := ⟨_, rfl⟩
          obtain ⟨s2, hs2⟩ : ∃ s2, s2 = (rRaw xa s1 (m % 5)).2 := ⟨_, rfl⟩
          have HB2 : Hid (Byt x2s) := by show Byt _; rw [hx2]; exact erRaw_byt HX0.out s1 _
          have HL2 : Hid (x2s.length ≤ 1048576) := by show _ ≤ _; rw [hx2]; exact Nat.le_trans (rRaw_len xa s1 _) hxl
          have HSK2 : Hid (s2.Ok xa) := by show RS.Ok _ _; rw [hs2]; exact rRaw_ok HSK1.out _
          rw [← hx2, ← hs2] at CT
          rw [← hx2] at hnz ⊢
          have HNZ := Lib.hid hnz
          have HAZ := Lib.hid hAz
          clear hs6 hx2 hs2 hnz hAz x2
          go_wp2_with fail
          refine CI.out.mono ?_; rintro e w6 ⟨rfl, rfl⟩
          go_wp2_with fail
          refine CT.out.mono ?_; rintro e w8 ⟨Ay, cy, rfl, hvy, hs8⟩
          have CA := Lib.hid (add_calls w w8 (byR (.slice Ay x2s.length cy) x2s ++ (eyE ge A0 c0 xa s2 :: (rdrE gr vr xa s2 ++ (wtrE gw v1 hl ++ (byR (.slice Ah hl.length ch) hl ++ (bkE b bs2 ++ R)))))) lt gv1 wv1 (l ++ [i1]) gz x2s cz Az Ay cy HAZ.out (hs8.re (fun x => by simp only [cnt_append, cnt_cons, cnt_nil]; omega)) HLV1.out HNZ.out HB2.out (by have := HL2.out; omega) (by have := HCN.out; have := HK4.out; simp; omega) (fun W' h => by_reads h (fun x => by simp only [cnt_append, cnt_cons, cnt_nil]; omega) hvy))
          clear hvy hs8 x3
          go_wp2_with fail
          refine CA.out.mono ?_; rintro e w9' ⟨rfl, gv2, wv2, i2, hlv2, hs9⟩
          have HLV2 := Lib.hid hlv2
          have H9 := Lib.hid hs9
          clear hlv2 hs9
          go_wp2_with fail
          go_loopw [16] (fun i wr => ∃ (k2 : Nat) (gv3 wv3 : Value) (l3 : List LI), i = .int .i64 k2 ∧ k2 ≤ 2 ∧ LateV gv3 wv3 l3 ∧ l3.length = l.length + 2 + k2 ∧ St w wr (wtrE gw v1 hl ++ (byR (.slice Ah hl.length ch) hl ++ (rdrE gr vr xa s2 ++ (eyE ge A0 c0 xa s2 :: (lateE lt gv3 wv3 l3 ++ (bkE b bs2 ++ R))))))) (fun i _ => 2 - (intOf i).toNat)
          case atStart => exact ⟨0, gv2, wv2, _, rfl, by omega, HLV2.out, by simp, H9.out.re (fun x => by simp only [cnt_append, cnt_cons, cnt_nil]; omega)⟩
          case round =>
            obtain ⟨k2, gv3, wv3, l3, rfl, hk2, hlv3, hl3, hs10⟩ := hrel
            have HLV3 := Lib.hid hlv3
            have HL3 := Lib.hid hl3
            by_cases hgo2 : k2 < 2
            · have CO := Lib.hid (ou_calls hs10 HV1.out (by have := HLM.out; omega))
              have j1 : (k2 : Int) < 2 := by omega
              clear hlv3 hl3 hs10
              go_wp2_with fail
              refine CO.out.mono ?_; rintro e w10 ⟨go, Ao, co, hAo, rfl, hno, hs11⟩
              have CA := Lib.hid (add_calls w w10 (wtrE gw v1 hl ++ (byR (.slice Ah hl.length ch) hl ++ (rdrE gr vr xa s2 ++ (eyE ge A0 c0 xa s2 :: (bkE b bs2 ++ R))))) lt gv3 wv3 l3 go hl co Ao Ah ch hAo (hs11.re (fun x => by simp only [cnt_append, cnt_cons, cnt_nil]; omega)) HLV3.out hno HBY.out (by have := HLM.out; omega) (by have := HCN.out; have := HK4.out; have := HL3.out; omega) (fun W' h => by_reads h (fun x => by simp only [cnt_append, cnt_cons, cnt_nil]; omega) HH1.out))
              clear hAo hno hs11
              go_wp2_with fail
              refine CA.out.mono ?_; rintro e w11 ⟨rfl, gv4, wv4, i4, hlv4, hs12⟩
              have HLV4 := Lib.hid hlv4
              have H12 := Lib.hid hs12
              clear hlv4 hs12
              go_wp2_with fail
              go_roundw
              case rel => exact ⟨k2 + 1, gv4, wv4, _, by go_num, by omega, HLV4.out, by have := HL3.out; simp; omega, H12.out.re (fun x => by simp only [cnt_append, cnt_cons, cnt_nil]; omega)⟩
              case measure => simp [intOf]; omega
            · have H10 := Lib.hid hs10
              have j1 : ¬ (k2 : Int) < 2 := by omega
              have HL4 : Hid (l3.length = l.length + 4) := by show _ = _; omega
              clear hlv3 hl3 hs10
              have CS := Lib.hid (settle_calls w _ (wtrE gw v1 hl ++ (byR (.slice Ah hl.length ch) hl ++ (rdrE gr vr xa s2 ++ (eyE ge A0 c0 xa s2 :: R)))) lt b gv3 wv3 l3 bs2 6 (H10.out.re (fun x => by simp only [cnt_append, cnt_cons, cnt_nil]; omega)) HLV3.out HBV.out (by have := HCN.out; have := HL4.out; have := HK4.out; omega))
              go_wp2_with fail
              refine CS.out.mono ?_; rintro e w6 ⟨rfl, gv5, wv5, l5, bs5, hlv5, hbv5, hcn5, hs6⟩
              have CK := Lib.hid (look_calls w w6 (lateE lt gv5 wv5 l5 ++ (wtrE gw v1 hl ++ (byR (.slice Ah hl.length ch) hl ++ (rdrE gr vr xa s2 ++ (eyE ge A0 c0 xa s2 :: R))))) b bs5 (hs6.re (fun x => by simp only [cnt_append, cnt_cons, cnt_nil]; omega)) hbv5 (by have := HCN.out; have := HL4.out; have := HK4.out; omega))
              have HLV5 := Lib.hid hlv5
              have HCN5 : Hid (bs5.turn + l5.length ≤ 4 * (k + 1)) := by show _ ≤ _; have := HCN.out; have := HL4.out; omega
              clear hlv5 hbv5 hcn5 hs6
              go_wp2_with fail
              refine CK.out.mono ?_; rintro e w7 ⟨rfl, bs7, hbv7, ht7, hs7⟩
              have HBV7 := Lib.hid hbv7
              have HT7 := Lib.hid ht7
              have H7 := Lib.hid hs7
              clear hbv7 ht7 hs7
              go_wp2_with fail
              go_roundw
              case rel => exact ⟨k + 1, by go_num, by omega, v1, hl, s2, gv5, wv5, l5, bs7, HV1.out, HH1.out, HBY.out, HLN.out, HSK2.out, HLV5.out, HBV7.out, by have h1 := HT7.out; have h2 := HCN5.out; omega, H7.out.re (fun x => by simp only [cnt_append, cnt_cons, cnt_nil]; omega)⟩
              case measure => simp [intOf]; omega
      · have n5 : ¬ kind = 5 := fun e => hkd (Or.inl e)
        have n6 : ¬ kind = 6 := fun e => hkd (Or.inr e)
        clear hkd
        have HZ : Hid (l.length ≤ l.length + 4) := by show _ ≤ _; omega
        have CS := Lib.hid (settle_calls w w2 (wtrE gw v1 hl ++ (byR (.slice Ah hl.length ch) hl ++ (rdrE gr vr xa s ++ (eyE ge A0 c0 xa s :: R)))) lt b gv wv l bs2 6 (H2.out.re (fun x => by simp only [cnt_append, cnt_cons, cnt_nil]; omega)) HLV.out HBV.out (by have := HCN.out; have := HZ.out; have := HK4.out; omega))
        go_wp2_with fail
        refine CS.out.mono ?_; rintro e w6 ⟨rfl, gv5, wv5, l5, bs5, hlv5, hbv5, hcn5, hs6⟩
        have CK := Lib.hid (look_calls w w6 (lateE lt gv5 wv5 l5 ++ (wtrE gw v1 hl ++ (byR (.slice Ah hl.length ch) hl ++ (rdrE gr vr xa s ++ (eyE ge A0 c0 xa s :: R))))) b bs5 (hs6.re (fun x => by simp only [cnt_append, cnt_cons, cnt_nil]; omega)) hbv5 (by have := HCN.out; have := HZ.out; have := HK4.out; omega))
        have HLV5 := Lib.hid hlv5
        have HCN5 : Hid (bs5.turn + l5.length ≤ 4 * (k + 1)) := by show _ ≤ _; have := HCN.out; have := HZ.out; omega
        clear hlv5 hbv5 hcn5 hs6
        go_wp2_with fail
        refine CK.out.mono ?_; rintro e w7 ⟨rfl, bs7, hbv7, ht7, hs7⟩
        have HBV7 := Lib.hid hbv7
        have HT7 := Lib.hid ht7
        have H7 := Lib.hid hs7
        clear hbv7 ht7 hs7
        go_wp2_with fail
        go_roundw
        case rel => exact ⟨k + 1, by go_num, by omega, v1, hl, s, gv5, wv5, l5, bs7, HV1.out, HH1.out, HBY.out, HLN.out, HSK.out, HLV5.out, HBV7.out, by have h1 := HT7.out; have h2 := HCN5.out; omega, H7.out.re (fun x => by simp only [cnt_append, cnt_cons, cnt_nil]; omega)⟩
        case measure => simp [intOf]; omega
    · have j1 : ¬ (k : Int) < (ps.length : Int) := by omega
      have CS := Lib.hid (settle_calls w wr (wtrE gw v held ++ (byR u8 held ++ (rdrE gr vr xa s ++ (eyE ge A0 c0 xa s :: R)))) lt b gv wv l bs2 0 (hs.re (fun x => by simp only [cnt_append, cnt_cons, cnt_nil]; omega)) HLV.out HBV.out (by have := HCN.out; have := HK4.out; omega))
      have HV1 := Lib.hid hv1
      have HV2 := Lib.hid hv2
      obtain ⟨Ah, ch, eh⟩ := byV_form hv2
      have HEH := Lib.hid eh
      have HLM : Hid (held.length ≤ 4300000) := by show _ ≤ _; have := laidB_take_le ps k; have := HPB.out; omega
      clear hv1 hv2 eh hby hlen hs
      go_wp2_with fail
      refine CS.out.mono ?_; rintro e w6 ⟨rfl, gv5, wv5, l5, bs5, hlv5, hbv5, hcn5, hs6⟩
      have CO := Lib.hid (ou_calls (hs6.re (M := wtrE gw v held ++ (byR u8 held ++ (rdrE gr vr xa s ++ R))) (fun x => by simp only [cnt_append, cnt_cons, cnt_nil]; omega)) HV1.out (by have := HLM.out; omega))
      clear hlv5 hbv5 hcn5 hs6
      go_wp2_with fail
      refine CO.out.mono ?_; rintro e w10 ⟨go, Ao, co, hAo, rfl, hno, hs11⟩
      have HV2' := HV2.out
      rw [HEH.out] at HV2' hs11
      have CE := Lib.hid (eq_calls held held Ao Ah co ch w10 (by rw [hAo]; exact Late.got_reads hs11 (c := co) (fun p hp => List.mem_append_left _ hp) (fun e => (hno e).1) (by have := HLM.out; omega)) (by_reads hs11 (fun x => by simp only [cnt_append, cnt_cons, cnt_nil]; omega) HV2') (by have := HLM.out; omega))
      have H11 := Lib.hid hs11
      clear HV2' hAo hno hs11
      go_wp2_with fail
      rw [HEH.out]
      refine CE.out.mono ?_; rintro e w12 ⟨bb, rfl, hbb, hb12⟩
      obtain rfl : bb = true := by simpa using hbb
      clear hbb
      go_wp2_with fail
      go_ret
      exact ⟨rfl, (H11.out.below hb12).bl⟩
end Go.Proofs.Ytoeiaimoppmjdaa.Fr
