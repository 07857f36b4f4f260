/- held: what is sent always lies at one place; each message is looked at twice behind each call, and held untouched till the end; other nets are made meanwhile. -/
import Derived.Test.YtfmggmpllggbnaaHeldB
import Derived.Deep.DeepCutAuto
import Derived.Deep.CutBlock
namespace Go.Proofs.Ytfmggmpllggbnaa.RNet
open Go Go.ChangeShapes Go.WideShapes Go.RowKit Go.Deep Go.Proofs.YtfmggmpllggbnaaW.PrintWords Go.Proofs.Ytfmggmpllggbnaa.Net Go.Proofs.Ytfmggmpllggbnaa.Mem
open Go.Proofs.Ytfmggmpllggbnaa.Late (gotE gotP LI lateE LateV LateAdd add_calls lateV_nil settle_calls LateTo)
open Go.Proofs.Ytfmggmpllggbnaa.Book (BkS BkV bkE bkC NL rowV_form wpList_append_run)
set_option linter.unusedVariables false
set_option linter.unusedSimpArgs false
/-- A row of bytes of one's own reads as them. -/
theorem rd_own {w : World} {b : Nat} {A : Option Addr} {c : Nat} {xs : List Int} (h : w.ownsRow b 5 1 (.slice A xs.length c) xs.length (encs U xs)) : ReadsOf Late.U 0 w A xs.length xs :=
  Go.Proofs.Ytfmggmpllggbnaa.Bytes.own_reads (xs := xs) h (by simp)
set_option maxRecDepth 20000 in
set_option maxHeartbeats 25600000 in
theorem held_calls (w0 W : World) (R : List Ent) (r0 r1 : Int) (A : Option Addr) (os : List CO) (c : Nat) (H : St w0 W R) (hr : KOp.C w0 A os.length os) (hm : os.length ≤ 9223372036854775807)
    (hv : ∀ o, o ∈ os → I64 o.2.1 ∧ I64 o.2.2.1 ∧ Byt o.2.2.2.2) :
    Calls Try.prog 20 #[.agg (scr r0 r1 A os.length c)] W fun e W' => e = .returned (.bool true) ∧ St w0 W' R := by
  obtain ⟨W1, hW1⟩ : ∃ W1, W1 = W.alloc (.cells (scr r0 r1 A os.length c) 48) := ⟨_, rfl⟩
  obtain ⟨W2, hW2⟩ : ∃ W2, W2 = W1.alloc (.cells (bkC bk0) 107) := ⟨_, rfl⟩
  obtain ⟨bs, hbs⟩ : ∃ bs, bs = W.heap.size := ⟨_, rfl⟩
  obtain ⟨b, hb⟩ : ∃ b, b = W1.heap.size := ⟨_, rfl⟩
  obtain ⟨t, ht⟩ : ∃ t, t = W2.heap.size := ⟨_, rfl⟩
  obtain ⟨W3, hW3⟩ : ∃ W3, W3 = W2.alloc (.cells #[nilp, nilp, nilp, nilp, pt b, .bool false] 112) := ⟨_, rfl⟩
  have h1 := H.newB (scr r0 r1 A os.length c) 48
  rw [← hW1, ← hbs] at h1
  have h2 := h1.newB (bkC bk0) 107
  rw [← hW2, ← hb] at h2
  have h3 := h2.newB #[nilp, nilp, nilp, nilp, pt b, .bool false] 112
  rw [← hW3, ← ht] at h3
  have h3' : St w0 W3 (B t (stg b false none none) 112 :: (B b (bkC bk0) 107 :: B bs (scr r0 r1 A os.length c) 48 :: R)) := h3
  have CF := Lib.hid (fresh_calls w0 W3 _ t 0 (stg b false none none) r0 h3' (by omega) rfl)
  have HS := Lib.hid h3'
  have HW1 := Lib.hid hW1
  have HW2 := Lib.hid hW2
  have HW3 := Lib.hid hW3
  have HBS := Lib.hid hbs
  have HB : Hid (b = bs + 1) := by show b = _; rw [hb, hW1, hbs]; simp
  have HT : Hid (t = b + 1) := by show t = _; rw [ht, hW2, hb]; simp
  have HR := Lib.hid hr
  have HV := Lib.hid hv
  clear hW1 hW2 hW3 hbs hb ht h1 h2 h3 h3' H hr hv
  go_enter Try.func20, Try.ntmps20
  go_wp2_with (refine wpList_bookM rfl rfl ?_)
  rw [← HBS.out, ← HB.out, ← HT.out, ← HW1.out, ← HW2.out, ← HW3.out]
  refine CF.out.mono ?_; rintro e w4 ⟨rfl, o0, hv0, hs4⟩
  have hs4' : St w0 w4 (B t (stg b false o0 none) 112 :: (plE o0 ++ (B b (bkC bk0) 107 :: B bs (scr r0 r1 A os.length c) 48 :: R))) := hs4
  have x1 := hs4'.cellOf (g := bs) (cs := scr r0 r1 A os.length c) (t := 48) (by simp) 1 rfl
  have CF2 := Lib.hid (fresh_calls w0 w4 _ t 1 (stg b false o0 none) r1 hs4' (by omega) rfl)
  have HV0 := Lib.hid hv0
  clear hv0 hs4 hs4'
  go_wp2_with fail
  refine CF2.out.mono ?_; rintro e w5 ⟨rfl, o1, hv1, hs5⟩
  have hs5' : St w0 w5 (B t (stg b false o0 o1) 112 :: (plE o0 ++ (plE o1 ++ (B b (bkC bk0) 107 :: B bs (scr r0 r1 A os.length c) 48 :: R)))) := (show St w0 w5 (B t (stg b false o0 o1) 112 :: (plE o1 ++ (plE o0 ++ (B b (bkC bk0) 107 :: B bs (scr r0 r1 A os.length c) 48 :: R)))) from hs5).re (fun x => by simp only [cnt_append, cnt_cons]; omega)
  obtain ⟨W6, hW6⟩ : ∃ W6, W6 = w5.alloc (.cells #[.slice none 0 0, .slice none 0 0] 119) := ⟨_, rfl⟩
  obtain ⟨lt, hlt⟩ : ∃ lt, lt = w5.heap.size := ⟨_, rfl⟩
  obtain ⟨W7, hW7⟩ : ∃ W7, W7 = W6.alloc (.cells #[.slice none 0 0, .slice none 0 0] 122) := ⟨_, rfl⟩
  obtain ⟨p, hp⟩ : ∃ p, p = W6.heap.size := ⟨_, rfl⟩
  have h6 := hs5'.newB #[.slice none 0 0, .slice none 0 0] 119
  rw [← hW6, ← hlt] at h6
  have h7 := h6.newB #[.slice none 0 0, .slice none 0 0] 122
  rw [← hW7, ← hp] at h7
  have HREL : Hid (HRel w0 t b lt p bs (scr r0 r1 A os.length c) R 0 (.slice none 0 0) W7) := ⟨o0, o1, _, _, [], none, [], HV0.out, hv1, lateV_nil, Nat.le_refl _, trivial, othV_nil, Nat.zero_le _, h7.re (fun x => by simp only [hE, lateE, Late.lateR, plcO, othE, NL, rowE_nil, List.flatMap_nil, List.length_nil, List.map_nil, cnt_append, cnt_cons, cnt_nil]; omega)⟩
  have HLT := Lib.hid hlt
  have HP : Hid (p = lt + 1) := by show p = _; rw [hp, hW6, hlt]; simp
  have HW6 := Lib.hid hW6
  have HW7 := Lib.hid hW7
  clear hv1 hs5 hs5' x1 h6 h7 hW6 hW7 hlt hp
  go_upto_block 0 with fail
  rw [← HLT.out, ← HP.out, ← HW6.out, ← HW7.out]
  go_cut [6] (fun s6 wx => ∃ q : Nat, q ≤ 400 ∧ HRel w0 t b lt p bs (scr r0 r1 A os.length c) R q s6 wx)
  case first =>
   as_aux_lemma =>
     go_wp2_with fail
     go_loopg [6, 7] 400 (fun gk s6 s7 wr => ∃ q : Nat, gk = 400 - q ∧ s7 = .int .i64 q ∧ q ≤ os.length ∧ q ≤ 400 ∧ HRel w0 t b lt p bs (scr r0 r1 A os.length c) R q s6 wr)
     case atStart => exact ⟨0, rfl, rfl, Nat.zero_le _, by omega, HREL.out⟩
     case round =>
      obtain ⟨q, hgk, rfl, hq, hq4, hrel⟩ := hrel
      obtain ⟨s0, s1, gv, wv, l, po, ol, v0, v1, vl, hll, vp, vo, hol, hs⟩ := hrel
      obtain ⟨Ao, co, rfl⟩ := rowV_form vo.row
      have HGK := Lib.hid hgk
      have V0 := Lib.hid v0
      have V1 := Lib.hid v1
      have VL := Lib.hid vl
      have HLL := Lib.hid hll
      have VP := Lib.hid vp
      have VO := Lib.hid vo
      have HOL := Lib.hid hol
      have HS0 := Lib.hid hs
      have x2 := hs.cellOf (g := bs) (cs := scr r0 r1 A os.length c) (t := 48) (by simp [hE]) 2 rfl
      clear hgk v0 v1 vl hll vp vo hol
      by_cases hlt : q < os.length ∧ q < 400
      · obtain ⟨hlt, hlt4⟩ := hlt
        have i1 : (q : Int) < (os.length : Int) := by omega
        have i2 : (q : Int) < 400 := by omega
        have i3 : (0 : Int) ≤ (q : Int) := by omega
        obtain ⟨ad, Ab, cb, rfl, ho⟩ := op_at HR.out q hlt rfl
        obtain ⟨o, hoo⟩ : ∃ o, o = os[q] := ⟨_, rfl⟩
        have hvo := HV.out o (by rw [hoo]; exact List.getElem_mem hlt)
        rw [← hoo] at ho
        clear hoo
        obtain ⟨d, wh, a, tt, xs⟩ := o
        replace hvo : I64 wh ∧ I64 a ∧ Byt xs := hvo
        have hb := ho.below hs.bl
        have z0 : wr.cell? (ad.add (q * 5)) = some (.int .i64 d) := hb.c0
        have z1 : wr.cell? ⟨(ad.add (q * 5)).block, (ad.add (q * 5)).off + 1, none⟩ = some (.int .i64 wh) := hb.c1
        have z2 : wr.cell? ⟨(ad.add (q * 5)).block, (ad.add (q * 5)).off + 2, none⟩ = some (.int .i64 a) := hb.c2
        have z3 : wr.cell? ⟨(ad.add (q * 5)).block, (ad.add (q * 5)).off + 3, none⟩ = some (.int .i64 tt) := hb.c3
        have z4 : wr.cell? ⟨(ad.add (q * 5)).block, (ad.add (q * 5)).off + 4, none⟩ = some (.slice Ab xs.length cb) := hb.c4
        obtain ⟨k, hk, hkw⟩ : ∃ k : Nat, k < 2 ∧ wh % 2 = (k : Int) := ⟨(wh % 2).toNat, by omega, by omega⟩
        have CI := fun W' => Lib.hid (into_gen wh 2 W' (by omega) (by omega) hvo.1.1 hvo.1.2)
        rw [hkw] at CI
        obtain ⟨oc, hoc⟩ : ∃ oc, oc = opCells d wh a tt Ab xs.length cb := ⟨_, rfl⟩
        obtain ⟨W1, hW1⟩ : ∃ W1, W1 = wr.alloc (.cells (opCells d wh a tt Ab xs.length cb) 116) := ⟨_, rfl⟩
        obtain ⟨bo, hbo⟩ : ∃ bo, bo = wr.heap.size := ⟨_, rfl⟩
        have h1 := hs.newB oc 116
        rw [hoc, ← hW1, ← hbo, ← hoc] at h1
        have H1 := Lib.hid h1
        have w1x := h1.cellOf (g := bo) (cs := oc) (t := 116) (by simp) 1 (v := .int .i64 wh) (by rw [hoc]; rfl)
        rw [hbo, hW1] at w1x
        have HW1 := Lib.hid hW1
        have HBO := Lib.hid hbo
        have HOC := Lib.hid hoc
        have HKW := Lib.hid hkw
        have HVO := Lib.hid hvo
        have HRD := Lib.hid (show ReadsOf U 0 w0 Ab xs.length xs from ho.rd)
        have HCP := Lib.hid (show xs.length ≤ cb from ho.cap)
        clear hs hvo ho hb h1 hW1 hbo hkw hoc
        go_wp2_with fail
        refine (CI _).out.mono ?_; rintro e w1 ⟨rfl, rfl⟩
        clear w1x x2 z0 z1 z2 z3 z4 CI
        go_upto_region 12 with fail
        rw [← HW1.out, ← HBO.out]
        obtain ⟨sk, hsk⟩ : ∃ sk, sk = sel k s0 s1 := ⟨_, rfl⟩
        have HSK := Lib.hid hsk
        clear hsk
        go_cut [76] (fun s76 wx => s76 = .bool (tstB d sk) ∧ wx = W1)
        case first =>
          as_aux_lemma =>
            have k1 : (0 : Int) ≤ (k : Int) := by omega
            have k2 : (k : Int) < 2 := by omega
            have y2 := H1.out.cellOf (g := t) (cs := stg b false s0 s1) (t := 112) (by simp) (2 + k) (stg_m b false k hk s0 s1)
            have b0 := H1.out.cellOf (g := bo) (cs := oc) (t := 116) (by simp) 0 (v := .int .i64 d) (by rw [HOC.out]; rfl)
            rw [← HSK.out] at y2
            by_cases hd : d = 1
            · subst hd
              cases sk with
              | none =>
                replace y2 : W1.cell? ⟨t, 2 + k, none⟩ = some (.pointer none) := y2
                go_wp2_with fail
                go_meet
                exact ⟨rfl, rfl⟩
              | some s =>
                replace y2 : W1.cell? ⟨t, 2 + k, none⟩ = some (pt s.h) := y2
                go_wp2_with fail
                go_meet
                exact ⟨rfl, rfl⟩
            · go_wp2_with fail
              go_meet
              exact ⟨by rw [tstB_ne hd], rfl⟩
        case rest =>
          as_aux_lemma =>
            obtain ⟨hs76, hwc⟩ := hcut
            obtain ⟨bt, hbt⟩ : ∃ bt, bt = tstB d sk := ⟨_, rfl⟩
            rw [← hbt] at hs76
            subst hs76
            rw [hwc]
            clear hwc
            go_upto_if 76 with fail
            go_cut [] (fun wx => HMid w0 t b lt p bs bo (scr r0 r1 (some ad) os.length c) oc R q 0 (.slice Ao ol.length co) ol wx)
            case first =>
              as_aux_lemma =>
                have b0 := H1.out.cellOf (g := bo) (cs := oc) (t := 116) (by simp) 0 (v := .int .i64 d) (by rw [HOC.out]; rfl)
                have b1 := H1.out.cellOf (g := bo) (cs := oc) (t := 116) (by simp) 1 (v := .int .i64 wh) (by rw [HOC.out]; rfl)
                have b2 := H1.out.cellOf (g := bo) (cs := oc) (t := 116) (by simp) 2 (v := .int .i64 a) (by rw [HOC.out]; rfl)
                have b3 := H1.out.cellOf (g := bo) (cs := oc) (t := 116) (by simp) 3 (v := .int .i64 tt) (by rw [HOC.out]; rfl)
                have b4 := H1.out.cellOf (g := bo) (cs := oc) (t := 116) (by simp) 4 (v := .slice Ab xs.length cb) (by rw [HOC.out]; rfl)
                have k1 : (0 : Int) ≤ (k : Int) := by omega
                have k2 : (k : Int) < 2 := by omega
                cases bt with
                | true =>
                  have CP := Lib.hid (plays_calls w0 W1 (hE lt p b bs (scr r0 r1 (some ad) os.length c) gv wv l po (.slice Ao ol.length co) ol R ++ [B bo oc 116]) t b (9000 * q) s0 s1 d wh a tt Ab xs cb (H1.out.re (fun x => by simp only [cnt_append, cnt_cons, cnt_nil]; omega)) V0.out V1.out (by omega) HVO.out.1.1 HVO.out.1.2 HVO.out.2.1.1 HVO.out.2.1.2 HRD.out HVO.out.2.2 HCP.out)
                  clear hbt
                  go_wp2_with fail
                  refine CP.out.mono ?_; rintro e w2 ⟨rfl, s0', s1', v0', v1', hs2⟩
                  have V0' := Lib.hid v0'
                  have V1' := Lib.hid v1'
                  have H2 := Lib.hid hs2
                  clear v0' v1' hs2
                  go_wp2_with fail
                  go_meet
                  exact ⟨s0', s1', gv, wv, l, po, plV_mono V0'.out (by omega), plV_mono V1'.out (by omega), VL.out, by have := HLL.out; omega, VP.out, H2.out.re (fun x => by simp only [cnt_append, cnt_cons, cnt_nil]; omega)⟩
                | false =>
                  obtain ⟨rfl, s, hsk⟩ := tstB_false hbt.symm
                  subst hsk
                  clear hbt
                  have hc0 := stg_n b false k hk s0 s1
                  have hc1 := stg_m b false k hk s0 s1
                  rw [← HSK.out] at hc0 hc1
                  have HC0 := Lib.hid (show (stg b false s0 s1)[k]? = some (pt s.g) from hc0)
                  have HC1 := Lib.hid (show (stg b false s0 s1)[2 + k]? = some (pt s.h) from hc1)
                  have hvs : plV (9000 * q) (some s) := by rw [HSK.out]; exact plV_sel V0.out V1.out
                  obtain ⟨cs, hcs⟩ : ∃ cs, cs = stg b false s0 s1 := ⟨_, rfl⟩
                  rw [← hcs] at HC0 HC1
                  obtain ⟨Y, hY⟩ : ∃ Y, Y = B bo oc 116 :: B t cs 112 :: (plE (nsel k s0 s1) ++ (lateE lt gv wv l ++ (othE (.slice Ao ol.length co) ol ++ (B b (bkC bk0) 107 :: B bs (scr r0 r1 (some ad) os.length c) 48 :: R)))) := ⟨_, rfl⟩
                  have ha : St w0 W1 (sdE s ++ (plcO p po ++ Y)) := H1.out.re (fun x => by have e := sel_cnt k s0 s1 x; rw [← HSK.out] at e; simp only [hY, hcs, hE, plE, cnt_append, cnt_cons] at e ⊢; omega)
                  have hbo : B bo oc 116 ∈ Y := by rw [hY]; simp
                  have hbt : B t cs 112 ∈ Y := by rw [hY]; simp
                  have y1 := ha.cellOf (g := t) (cs := cs) (t := 112) (by simp [hbt]) k HC0.out
                  have y2 := ha.cellOf (g := t) (cs := cs) (t := 112) (by simp [hbt]) (2 + k) HC1.out
                  have O3 := Lib.hid (show oc[3]? = some (.int .i64 tt) by rw [HOC.out]; rfl)
                  have O4 := Lib.hid (show oc[4]? = some (.slice Ab xs.length cb) by rw [HOC.out]; rfl)
                  have CC := fun W' => Lib.hid (clip_any Ab xs cb W' HCP.out)
                  have hy := reads_take HRD.out 4096
                  have hyb : Byt (xs.take 4096) := fun a h => HVO.out.2.2 a (List.mem_of_mem_take h)
                  have hyl : (xs.take 4096).length ≤ 4096 := by simp; omega
                  obtain ⟨ys, hys⟩ : ∃ ys, ys = xs.take 4096 := ⟨_, rfl⟩
                  rw [← hys] at hy hyb hyl CC
                  have HY := Lib.hid hy
                  have HYB := Lib.hid hyb
                  have HYL := Lib.hid hyl
                  have CP := Lib.hid (plc_bytes w0 W1.drew (sdE s ++ Y) p po Ab cb ys (ha.drew.re (fun x => by simp only [cnt_append]; omega)) VP.out hy hyl)
                  have HYY := Lib.hid hY
                  have HCS := Lib.hid hcs
                  have HBO2 := Lib.hid hbo
                  have HBT2 := Lib.hid hbt
                  have HVS := Lib.hid hvs
                  clear hc0 hc1 hys hy hyb hyl hY hcs ha hbo hbt hvs
                  have SK : Hid (∀ w' M, St w0 w' (Y ++ M) → w'.cell? ⟨t, k, none⟩ = some (pt s.g) ∧ w'.cell? ⟨t, 2 + k, none⟩ = some (pt s.h) ∧ w'.cell? ⟨bo, 3, none⟩ = some (.int .i64 tt) ∧ w'.cell? ⟨bo, 4, none⟩ = some (.slice Ab xs.length cb)) := fun w' M h =>
                    ⟨h.cellOf (g := t) (cs := cs) (t := 112) (List.mem_append_left _ HBT2.out) k HC0.out, h.cellOf (g := t) (cs := cs) (t := 112) (List.mem_append_left _ HBT2.out) (2 + k) HC1.out, h.cellOf (g := bo) (cs := oc) (t := 116) (List.mem_append_left _ HBO2.out) 3 O3.out, h.cellOf (g := bo) (cs := oc) (t := 116) (List.mem_append_left _ HBO2.out) 4 O4.out⟩
                  by_cases hr : (s.rs.length : Int) < s.room
                  · have CA : Hid (∀ w vo vi Ax cx, PlcOV (some (vo, vi, .slice Ax ys.length cx, ys)) → St w0 w (Y ++ (plcO p (some (vo, vi, .slice Ax ys.length cx, ys)) ++ sdE s)) → Calls Try.prog 25 #[pt s.g, .int .i64 tt, .slice Ax ys.length cx] w fun e w' => e = .returned (.bool true) ∧ ∃ v', netV v' (tell s.rs ++ [(tt, strOfNums ys)]) ∧ St w0 w' (netE s.g v' s.room s.lost (tell s.rs ++ [(tt, strOfNums ys)]) ++ (rnetE s.h s.vr s.room s.lost s.rs ++ (plcO p (some (vo, vi, .slice Ax ys.length cx, ys)) ++ Y)))) := fun w vo vi Ax cx hpv h =>
                      nsendR tt Ax ys.length cx ys (plc_reads (p := p) (vo := vo) (vi := vi) (Ax := Ax) (cx := cx) (xs := ys) h (fun x => by simp only [cnt_append]; omega) hpv) (h.re (fun x => by simp only [sdE, cnt_append]; omega)) HVS.out.1.nv (by rw [tell_length]; exact hr) HVS.out.1.r2
                    have CB : Hid (∀ w v3 po', St w0 w (Y ++ (netE s.g v3 s.room s.lost (tell s.rs ++ [(tt, strOfNums ys)]) ++ (rnetE s.h s.vr s.room s.lost s.rs ++ plcO p po'))) → Calls Try.prog 43 #[pt s.h, .int .i64 tt, .slice Ab ys.length cb] w fun e w' => e = .returned (.bool true) ∧ ∃ v' u, rnetV v' (s.rs ++ [(tt, u, ys)]) ∧ St w0 w' (rnetE s.h v' s.room s.lost (s.rs ++ [(tt, u, ys)]) ++ (netE s.g v3 s.room s.lost (tell s.rs ++ [(tt, strOfNums ys)]) ++ (plcO p po' ++ Y)))) := fun w v3 po' h =>
                      msendR tt Ab cb ys (h.reads HY.out) HYL.out (h.re (fun x => by simp only [cnt_append]; omega)) HVS.out.1.rv hr HVS.out.1.r2
                    have HR2 := Lib.hid hr
                    clear hr
                    go_wp2_with fail
                    go_region_held3 (fun w' => w'.cell? ⟨t, k, none⟩ = some (pt s.g) ∧ w'.cell? ⟨t, 2 + k, none⟩ = some (pt s.h) ∧ w'.cell? ⟨bo, 3, none⟩ = some (.int .i64 tt) ∧ w'.cell? ⟨bo, 4, none⟩ = some (.slice Ab xs.length cb))
                      (first | exact ⟨y1, y2, b3, b4⟩ | exact SK.out _ _ HS2.out | exact SK.out _ _ HS3.out | exact SK.out _ _ HS4.out)
                      (first
                        | (go_at_call 42; (with_reducible refine (CC _).out.mono ?_); rintro e w1 ⟨rfl, rfl⟩)
                        | (go_at_call 41; (with_reducible refine CP.out.mono ?_); rintro e w2 ⟨vo', vi', Ax, cx, rfl, hpv, hs2⟩; have HS2 := Lib.hid (hs2.re (M := Y ++ (plcO p (some (vo', vi', .slice Ax ys.length cx, ys)) ++ sdE s)) (fun x => by simp only [cnt_append]; omega)); have HPV := Lib.hid hpv; clear hs2 hpv)
                        | (go_at_call 25; (with_reducible refine (CA.out w2 vo' vi' Ax cx HPV.out HS2.out).mono ?_); rintro e w3 ⟨rfl, v3, hn3, hs3⟩; have HS3 := Lib.hid (hs3.re (M := Y ++ (netE s.g v3 s.room s.lost (tell s.rs ++ [(tt, strOfNums ys)]) ++ (rnetE s.h s.vr s.room s.lost s.rs ++ plcO p (some (vo', vi', .slice Ax ys.length cx, ys))))) (fun x => by simp only [cnt_append]; omega)); have HN3 := Lib.hid hn3; clear hs3 hn3)
                        | (go_at_call 43; (with_reducible refine (CB.out w3 v3 _ HS3.out).mono ?_); rintro e w4 ⟨rfl, v4, um, hn4, hs4⟩; have HS4 := Lib.hid (hs4.re (M := Y ++ (rnetE s.h v4 s.room s.lost (s.rs ++ [(tt, um, ys)]) ++ (netE s.g v3 s.room s.lost (tell s.rs ++ [(tt, strOfNums ys)]) ++ plcO p (some (vo', vi', .slice Ax ys.length cx, ys))))) (fun x => by simp only [cnt_append]; omega)); have HN4 := Lib.hid hn4; clear hs4 hn4))
                    all_goals
                      go_wp2_with fail
                      go_meet
                      have hV7 : SdV { s with v := v3, vr := v4, rs := s.rs ++ [(tt, um, ys)] } := both_room HVS.out.1 tt um v3 v4 HYB.out HYL.out HR2.out HN3.out HN4.out
                      obtain ⟨s0', s1', q0, q1, q2, q3, q4⟩ := sel_put (b := b) (m := false) hk HSK.out.symm (s' := { s with v := v3, vr := v4, rs := s.rs ++ [(tt, um, ys)] }) rfl rfl V0.out V1.out ⟨hV7, HVS.out.2⟩
                      exact ⟨s0', s1', gv, wv, l, some (vo', vi', .slice Ax ys.length cx, ys), plV_mono q0 (by omega), plV_mono q1 (by omega), VL.out, by have := HLL.out; omega, HPV.out, HS4.out.re (fun x => by have e := q4 x; rw [q2]; simp only [HYY.out, HCS.out, hE, sdE, tell_append, cnt_append, cnt_cons] at e ⊢; omega)⟩
                  · have hr' : s.room ≤ (s.rs.length : Int) := by omega
                    have hlo : s.lost < 18446744073709551615 := by have := HVS.out.2; omega
                    have CA : Hid (∀ w vo vi Ax cx, PlcOV (some (vo, vi, .slice Ax ys.length cx, ys)) → St w0 w (Y ++ (plcO p (some (vo, vi, .slice Ax ys.length cx, ys)) ++ sdE s)) → Calls Try.prog 25 #[pt s.g, .int .i64 tt, .slice Ax ys.length cx] w fun e w' => e = .returned (.bool false) ∧ St w0 w' (netE s.g s.v s.room (s.lost + 1) (tell s.rs) ++ (rnetE s.h s.vr s.room s.lost s.rs ++ (plcO p (some (vo, vi, .slice Ax ys.length cx, ys)) ++ Y)))) := fun w vo vi Ax cx hpv h =>
                      nsendF tt Ax ys.length cx ys (plc_reads (p := p) (vo := vo) (vi := vi) (Ax := Ax) (cx := cx) (xs := ys) h (fun x => by simp only [cnt_append]; omega) hpv) (h.re (fun x => by simp only [sdE, cnt_append]; omega)) HVS.out.1.nv (by rw [tell_length]; exact hr') hlo
                    have CB : Hid (∀ w po', St w0 w (Y ++ (netE s.g s.v s.room (s.lost + 1) (tell s.rs) ++ (rnetE s.h s.vr s.room s.lost s.rs ++ plcO p po'))) → Calls Try.prog 43 #[pt s.h, .int .i64 tt, .slice Ab ys.length cb] w fun e w' => e = .returned (.bool false) ∧ St w0 w' (rnetE s.h s.vr s.room (s.lost + 1) s.rs ++ (netE s.g s.v s.room (s.lost + 1) (tell s.rs) ++ (plcO p po' ++ Y)))) := fun w po' h =>
                      msendF tt _ (h.re (fun x => by simp only [cnt_append]; omega)) HVS.out.1.rv hr' hlo
                    clear hr hr' hlo
                    go_wp2_with fail
                    go_region_held3 (fun w' => w'.cell? ⟨t, k, none⟩ = some (pt s.g) ∧ w'.cell? ⟨t, 2 + k, none⟩ = some (pt s.h) ∧ w'.cell? ⟨bo, 3, none⟩ = some (.int .i64 tt) ∧ w'.cell? ⟨bo, 4, none⟩ = some (.slice Ab xs.length cb))
                      (first | exact ⟨y1, y2, b3, b4⟩ | exact SK.out _ _ HS2.out | exact SK.out _ _ HS3.out | exact SK.out _ _ HS4.out)
                      (first
                        | (go_at_call 42; (with_reducible refine (CC _).out.mono ?_); rintro e w1 ⟨rfl, rfl⟩)
                        | (go_at_call 41; (with_reducible refine CP.out.mono ?_); rintro e w2 ⟨vo', vi', Ax, cx, rfl, hpv, hs2⟩; have HS2 := Lib.hid (hs2.re (M := Y ++ (plcO p (some (vo', vi', .slice Ax ys.length cx, ys)) ++ sdE s)) (fun x => by simp only [cnt_append]; omega)); have HPV := Lib.hid hpv; clear hs2 hpv)
                        | (go_at_call 25; (with_reducible refine (CA.out w2 vo' vi' Ax cx HPV.out HS2.out).mono ?_); rintro e w3 ⟨rfl, hs3⟩; have HS3 := Lib.hid (hs3.re (M := Y ++ (netE s.g s.v s.room (s.lost + 1) (tell s.rs) ++ (rnetE s.h s.vr s.room s.lost s.rs ++ plcO p (some (vo', vi', .slice Ax ys.length cx, ys))))) (fun x => by simp only [cnt_append]; omega)); clear hs3)
                        | (go_at_call 43; (with_reducible refine (CB.out w3 _ HS3.out).mono ?_); rintro e w4 ⟨rfl, hs4⟩; have HS4 := Lib.hid (hs4.re (M := Y ++ (rnetE s.h s.vr s.room (s.lost + 1) s.rs ++ (netE s.g s.v s.room (s.lost + 1) (tell s.rs) ++ plcO p (some (vo', vi', .slice Ax ys.length cx, ys))))) (fun x => by simp only [cnt_append]; omega)); clear hs4))
                    all_goals
                      go_wp2_with fail
                      go_meet
                      have hV7 : SdV { s with lost := s.lost + 1 } := ⟨HVS.out.1.nv, HVS.out.1.rv, HVS.out.1.r1, HVS.out.1.r2, HVS.out.1.len, HVS.out.1.by_⟩
                      obtain ⟨s0', s1', q0, q1, q2, q3, q4⟩ := sel_put (N := 9000 * q + 1) (b := b) (m := false) hk HSK.out.symm (s' := { s with lost := s.lost + 1 }) rfl rfl (plV_mono V0.out (by omega)) (plV_mono V1.out (by omega)) ⟨hV7, by have := HVS.out.2; show s.lost + 1 ≤ _; omega⟩
                      exact ⟨s0', s1', gv, wv, l, some (vo', vi', .slice Ax ys.length cx, ys), plV_mono q0 (by omega), plV_mono q1 (by omega), VL.out, by have := HLL.out; omega, HPV.out, HS4.out.re (fun x => by have e := q4 x; rw [q2]; simp only [HYY.out, HCS.out, hE, sdE, tell_append, cnt_append, cnt_cons] at e ⊢; omega)⟩
            case rest =>
              as_aux_lemma =>
                obtain ⟨s0n, s1n, gvn, wvn, ln, pon, v0, v1, vl, hll, vp, hs⟩ := hcut
                obtain ⟨sn, hsn⟩ : ∃ sn, sn = sel k s0n s1n := ⟨_, rfl⟩
                have hc0 := stg_n b false k hk s0n s1n
                have hc1 := stg_m b false k hk s0n s1n
                rw [← hsn] at hc0 hc1
                obtain ⟨cs, hcs⟩ : ∃ cs, cs = stg b false s0n s1n := ⟨_, rfl⟩
                rw [← hcs] at hc0 hc1
                obtain ⟨X, hX⟩ : ∃ X, X = plE (nsel k s0n s1n) ++ (plcO p pon ++ (othE (.slice Ao ol.length co) ol ++ (B b (bkC bk0) 107 :: B bs (scr r0 r1 (some ad) os.length c) 48 :: R))) := ⟨_, rfl⟩
                have hs' : St w0 wc (B bo oc 116 :: B t cs 112 :: (plE sn ++ (lateE lt gvn wvn ln ++ X))) := hs.re (fun x => by have e := sel_cnt k s0n s1n x; rw [← hsn] at e; simp only [hX, hcs, hE, cnt_append, cnt_cons] at e ⊢; omega)
                have VSN := Lib.hid (show plV (9000 * (q + 1)) sn by rw [hsn]; exact plV_sel v0 v1)
                have HCS := Lib.hid hcs
                have HX := Lib.hid hX
                have HSN := Lib.hid hsn
                have L0 := Lib.hid hs'
                have V0N := Lib.hid v0
                have V1N := Lib.hid v1
                have VLN := Lib.hid vl
                have HLN := Lib.hid hll
                have VPN := Lib.hid vp
                have HC0' := Lib.hid hc0
                have HC1' := Lib.hid hc1
                have HO2 := Lib.hid (show oc[2]? = some (.int .i64 a) by rw [HOC.out]; rfl)
                have k1 : (0 : Int) ≤ (k : Int) := by omega
                have k2 : (k : Int) < 2 := by omega
                clear hcs hX hsn hs hs' v0 v1 vl hll vp hc0 hc1 hbt
                obtain ⟨wa, hwa⟩ : ∃ wa, wa = wc := ⟨_, rfl⟩
                rw [← hwa] at L0 ⊢
                clear hwa
                go_upto_block 2 with fail
                go_cut [] (fun wx => ∃ (gv : Value) (wv : Value) (l : List LI), LateV gv wv l ∧ l.length ≤ 4 * q + 4 ∧ St w0 wx (B bo oc 116 :: B t cs 112 :: (plE sn ++ (lateE lt gv wv l ++ X))))
                case first =>
                  as_aux_lemma =>
                    cases sn with
                    | none =>
                      have y2 : wa.cell? ⟨t, 2 + k, none⟩ = some (.pointer none) := L0.out.cellOf (g := t) (cs := cs) (t := 112) (by simp) (2 + k) HC1'.out
                      go_wp2_with fail
                      go_loopg [10] 1 (fun gj s10 wx => gj = 1 ∧ s10 = .int .i64 0 ∧ wx = wa)
                      case atStart => exact ⟨rfl, rfl, rfl⟩
                      case round =>
                        obtain ⟨hgj, rfl, hwr⟩ := hrel
                        rw [hwr]
                        clear hwr hgj
                        go_wp2_with fail
                        go_meet
                        exact ⟨gvn, wvn, ln, VLN.out, by have := HLN.out; omega, L0.out⟩
                    | some s =>
                      have HC0 : Hid (cs[k]? = some (pt s.g)) := HC0'.out
                      have HC1 : Hid (cs[2 + k]? = some (pt s.h)) := HC1'.out
                      have hVs : SdV s := VSN.out.1
                      obtain ⟨N1, xs1, b1, hx1, hb1, l1, m1⟩ := look_two (w0 := w0) hVs a
                      obtain ⟨N2, xs2, b2, hx2, hb2, l2, m2⟩ := look_two (w0 := w0) hVs ((s.rs.length : Int) - 1)
                      have LN1 := Lib.hid l1
                      have LM1 := Lib.hid m1
                      have LN2 := Lib.hid l2
                      have LM2 := Lib.hid m2
                      have HX1 := Lib.hid hx1
                      have HX2 := Lib.hid hx2
                      have HB1 := Lib.hid hb1
                      have HB2 := Lib.hid hb2
                      have LL : Hid (∀ (W : World) (R : List Ent), St w0 W (sdE s ++ R) → Calls Try.prog 45 #[pt s.h] W fun e w' => e = .returned (.int .i64 (s.rs.length : Int)) ∧ W = w') := fun W R h =>
                        (mlen (h.re (M := rnetE s.h s.vr s.room s.lost s.rs ++ (netE s.g s.v s.room s.lost (tell s.rs) ++ R)) (fun x => by simp only [sdE, cnt_append]; omega)) hVs.rv).mono fun e w' ⟨q1, q2⟩ => ⟨q1, q2.symm⟩
                      have hsl : (s.rs.length : Int) ≤ 8192 := by have := hVs.len; have := hVs.r2; omega
                      have n1 : IntKind.i64.wrap ((s.rs.length : Int) - 1) = (s.rs.length : Int) - 1 := IntWalk.i64_in _ (by omega)
                      clear l1 m1 l2 m2 hx1 hx2 hb1 hb2 hVs
                      go_wp2_with fail
                      go_loopg [10] 2 (fun gj s10 wx => ∃ (j : Nat) (gv : Value) (wv : Value) (l : List LI), gj = 2 - j ∧ j ≤ 2 ∧ s10 = .int .i64 j ∧ LateV gv wv l ∧ l.length ≤ 4 * q + 2 * j ∧ St w0 wx (B bo oc 116 :: B t cs 112 :: (sdE s ++ (lateE lt gv wv l ++ X))))
                      case atStart => exact ⟨0, gvn, wvn, ln, rfl, by omega, rfl, VLN.out, by have := HLN.out; omega, L0.out⟩
                      case round =>
                        obtain ⟨j, gv, wv, l, hgj, hj, rfl, vl, hll, hs⟩ := hrel
                        obtain ⟨wi, hwi⟩ : ∃ wi, wi = wr := ⟨_, rfl⟩
                        rw [← hwi] at hs ⊢
                        have HGJ := Lib.hid hgj
                        have VLJ := Lib.hid vl
                        have HLJ := Lib.hid hll
                        have L1 := Lib.hid hs
                        have y2 : wi.cell? ⟨t, 2 + k, none⟩ = some (pt s.h) := hs.cellOf (g := t) (cs := cs) (t := 112) (by simp) (2 + k) HC1.out
                        clear hwi hgj vl hll hs
                        by_cases hj2 : j < 2
                        · have j1 : (j : Int) < 2 := by omega
                          have j0 : (0 : Int) ≤ (j : Int) := by omega
                          go_upto_region 20 with fail
                          go_cut [11, 12] (fun s11 s12 wx => ∃ (p1 : Nat) (g1 : Option Nat) (A1 : Option Addr) (c1 : Nat), s11 = pt p1 ∧ (A1 = (g1.map fun g => ⟨g, 0, none⟩) ∧ (g1 = none → xs1 = [] ∧ c1 = 0)) ∧ St w0 wx (B p1 #[.int .i64 N1, .slice A1 xs1.length c1] 71 :: (gotE g1 xs1 c1 ++ (B bo oc 116 :: B t cs 112 :: (sdE s ++ (lateE lt gv wv l ++ X))))))
                          case first =>
                            as_aux_lemma =>
                              have hs := L1.out
                              obtain ⟨wf, hwf⟩ : ∃ wf, wf = wi := ⟨_, rfl⟩
                              rw [← hwf] at hs ⊢
                              clear hwf
                              have y1 := hs.cellOf (g := t) (cs := cs) (t := 112) (by simp) k HC0.out
                              have x2 := hs.cellOf (g := bo) (cs := oc) (t := 116) (by simp) 2 HO2.out
                              obtain ⟨pf, hpf⟩ : ∃ pf, pf = wf.heap.size := ⟨_, rfl⟩
                              have h1a := (hs.newB #[.int .i64 0, .slice none 0 0] 71).drew
                              rw [← hpf] at h1a
                              have y1a : ∀ o, (wf.alloc o).cell? ⟨t, k, none⟩ = some (pt s.g) := fun o => (hs.new o (P := fun _ => True) trivial).cellOf (g := t) (cs := cs) (t := 112) (by simp) k HC0.out
                              have x2a : ∀ o, (wf.alloc o).cell? ⟨bo, 2, none⟩ = some (.int .i64 a) := fun o => (hs.new o (P := fun _ => True) trivial).cellOf (g := bo) (cs := oc) (t := 116) (by simp) 2 HO2.out
                              have CD := Lib.hid ((LN1.out wf.drew) _ (hs.drew.re (M := sdE s ++ (B bo oc 116 :: B t cs 112 :: ((lateE lt gv wv l ++ X)))) (fun x => by simp only [gotE, sdE, cnt_append, cnt_cons, cnt_nil, List.append_eq, List.nil_append]; omega)))
                              have CE := Lib.hid ((LN1.out (wf.alloc (.cells #[.int .i64 0, .slice none 0 0] 71)).drew) _ (h1a.re (M := sdE s ++ (B pf #[.int .i64 0, .slice none 0 0] 71 :: (B bo oc 116 :: B t cs 112 :: ((lateE lt gv wv l ++ X))))) (fun x => by simp only [gotE, sdE, cnt_append, cnt_cons, cnt_nil, List.append_eq, List.nil_append]; omega)))
                              have HSA := Lib.hid h1a
                              have HPF := Lib.hid hpf
                              have HS := Lib.hid hs
                              clear h1a hpf hs
                              have SK : Hid (∀ (w9 : World) (L : List Ent), St w0 w9 L → B t cs 112 ∈ L → B bo oc 116 ∈ L → w9.cell? ⟨t, k, none⟩ = some (pt s.g) ∧ w9.cell? ⟨bo, 2, none⟩ = some (.int .i64 a)) := fun w9 L h hm hn => ⟨h.cellOf (g := t) (cs := cs) (t := 112) hm k HC0.out, h.cellOf (g := bo) (cs := oc) (t := 116) hn 2 HO2.out⟩
                              go_region_held3 (fun w' => w'.cell? ⟨t, k, none⟩ = some (pt s.g) ∧ w'.cell? ⟨bo, 2, none⟩ = some (.int .i64 a))
                                (first | (with_reducible exact SK.out _ _ HS.out (by simp) (by simp)) | (with_reducible exact SK.out _ _ HS.out.drew (by simp) (by simp)) | (with_reducible exact SK.out _ _ HSA.out (by simp) (by simp)) | (with_reducible exact SK.out _ _ HS4.out (by simp) (by simp)) | (with_reducible exact SK.out _ _ (HS4.out.newB #[.int .i64 0, .slice none 0 0] 71) (by simp) (by simp)) | (with_reducible exact SK.out _ _ (HS4.out.newB #[.int .i64 N1, .slice A1 xs1.length c1] 71) (by simp) (by simp)) | (with_reducible exact SK.out _ _ HP4.out (by simp) (by simp)))
                                (first
                                  | (go_at_call 44; (with_reducible refine CD.out.mono ?_); rintro e w4 ⟨g1, A1, c1, rfl, hA1, hg01, hs4⟩; have hg1 := And.intro hA1 hg01; clear hA1 hg01; have HS4 := Lib.hid hs4; have HG := Lib.hid hg1; clear hs4 hg1)
                                  | (go_at_call 44; (with_reducible refine CE.out.mono ?_); rintro e w4 ⟨g1, A1, c1, rfl, hA1, hg01, hs4⟩; have hg1 := And.intro hA1 hg01; clear hA1 hg01; have hs5 := hs4.re (M := B pf #[.int .i64 0, .slice none 0 0] 71 :: (gotE g1 xs1 c1 ++ (B bo oc 116 :: B t cs 112 :: (sdE s ++ (lateE lt gv wv l ++ X))))) (fun x => by simp only [gotE, sdE, cnt_append, cnt_cons, cnt_nil, List.append_eq, List.nil_append]; omega); have m0 := hs5.cellOf (g := pf) (cs := #[.int .i64 0, .slice none 0 0]) (t := 71) (by simp) 0 rfl; have m1 := hs5.cellOf (g := pf) (cs := #[.int .i64 0, .slice none 0 0]) (t := 71) (by simp) 1 rfl; have f0 := hs5.freeOf (g := pf) (cs := #[.int .i64 0, .slice none 0 0]) (t := 71) (by simp) 0; have f1 := hs5.freeOf (g := pf) (cs := #[.int .i64 0, .slice none 0 0]) (t := 71) (by simp) 1; rw [HPF.out] at m0 m1 f0 f1; have HS4 := Lib.hid (show St w0 w4 (B pf #[.int .i64 0, .slice none 0 0] 71 :: _) from hs5); have HG := Lib.hid hg1; clear hs4 hs5 hg1; have HP4 := Lib.hid ((HS4.out.put (cs' := #[.int .i64 N1, .slice none 0 0]) 0 (.int .i64 N1) rfl).put (cs' := #[.int .i64 N1, .slice A1 xs1.length c1]) 1 (.slice A1 xs1.length c1) rfl); rw [HPF.out] at HP4))
                              all_goals
                                first
                                  | (obtain ⟨W5, hW5⟩ : ∃ W5, W5 = w4.alloc (.cells #[.int .i64 N1, .slice A1 xs1.length c1] 71) := ⟨_, rfl⟩; rw [← hW5]; have h5 := (HS4.out.re (M := gotE g1 xs1 c1 ++ (B bo oc 116 :: B t cs 112 :: (sdE s ++ (lateE lt gv wv l ++ X)))) (fun x => by simp only [gotE, sdE, cnt_append, cnt_cons, cnt_nil, List.append_eq, List.nil_append]; omega)).newB #[.int .i64 N1, .slice A1 xs1.length c1] 71; rw [← hW5] at h5; obtain ⟨pg, hpg⟩ : ∃ pg, pg = w4.heap.size := ⟨_, rfl⟩; rw [← hpg]; rw [← hpg] at h5; have H5 := Lib.hid h5; clear h5 hW5 hpg)
                                  | (obtain ⟨W5, hW5⟩ : ∃ W5, W5 = (w4.setCell ⟨wf.heap.size, 0, none⟩ (.int .i64 N1)).setCell ⟨wf.heap.size, 1, none⟩ (.slice A1 xs1.length c1) := ⟨_, rfl⟩; rw [← hW5]; have h5 := ((HS4.out.put (cs' := #[.int .i64 N1, .slice none 0 0]) 0 (.int .i64 N1) rfl).put (cs' := #[.int .i64 N1, .slice A1 xs1.length c1]) 1 (.slice A1 xs1.length c1) rfl); rw [HPF.out, ← hW5] at h5; obtain ⟨pg, hpg⟩ : ∃ pg, pg = wf.heap.size := ⟨_, rfl⟩; rw [← hpg]; rw [← hpg] at h5; have H5 := Lib.hid h5; clear h5 hW5 hpg)
                                go_wp2_with fail
                                go_meet
                                exact ⟨pg, g1, A1, c1, rfl, HG.out, H5.out⟩
                          case rest =>
                            as_aux_lemma =>
                              obtain ⟨p1, g1, A1, c1, rfl, hg1, hs1⟩ := hcut
                              have HG1 := Lib.hid hg1
                              have L2 := Lib.hid hs1
                              obtain ⟨w20, hw20⟩ : ∃ w20, w20 = wc := ⟨_, rfl⟩
                              rw [← hw20] at L2 ⊢
                              clear hg1 hs1 hw20
                              go_upto_region 21 with fail
                              go_cut [13, 14] (fun s13 s14 wx => ∃ (p2 : Nat) (g2 : Option Nat) (A2 : Option Addr) (c2 : Nat), s13 = pt p2 ∧ (A2 = (g2.map fun g => ⟨g, 0, none⟩) ∧ (g2 = none → xs2 = [] ∧ c2 = 0)) ∧ St w0 wx (B p2 #[.int .i64 N2, .slice A2 xs2.length c2] 71 :: (gotE g2 xs2 c2 ++ (B p1 #[.int .i64 N1, .slice A1 xs1.length c1] 71 :: (gotE g1 xs1 c1 ++ (B bo oc 116 :: B t cs 112 :: (sdE s ++ (lateE lt gv wv l ++ X))))))))
                              case first =>
                                as_aux_lemma =>
                                  have hs := L2.out
                                  obtain ⟨wf, hwf⟩ : ∃ wf, wf = w20 := ⟨_, rfl⟩
                                  rw [← hwf] at hs ⊢
                                  clear hwf
                                  have y1 := hs.cellOf (g := t) (cs := cs) (t := 112) (by simp) k HC0.out
                                  have y2 := hs.cellOf (g := t) (cs := cs) (t := 112) (by simp) (2 + k) HC1.out
                                  obtain ⟨pf, hpf⟩ : ∃ pf, pf = wf.heap.size := ⟨_, rfl⟩
                                  have h1a := (hs.newB #[.int .i64 0, .slice none 0 0] 71).drew
                                  rw [← hpf] at h1a
                                  have y1a : ∀ o, (wf.alloc o).cell? ⟨t, k, none⟩ = some (pt s.g) := fun o => (hs.new o (P := fun _ => True) trivial).cellOf (g := t) (cs := cs) (t := 112) (by simp) k HC0.out
                                  have y2a : ∀ o, (wf.alloc o).cell? ⟨t, 2 + k, none⟩ = some (pt s.h) := fun o => (hs.new o (P := fun _ => True) trivial).cellOf (g := t) (cs := cs) (t := 112) (by simp) (2 + k) HC1.out
                                  have CD := Lib.hid ((LN2.out wf.drew) _ (hs.drew.re (M := sdE s ++ (B p1 #[.int .i64 N1, .slice A1 xs1.length c1] 71 :: (gotE g1 xs1 c1 ++ (B bo oc 116 :: B t cs 112 :: ((lateE lt gv wv l ++ X)))))) (fun x => by simp only [gotE, sdE, cnt_append, cnt_cons, cnt_nil, List.append_eq, List.nil_append]; omega)))
                                  have CE := Lib.hid ((LN2.out (wf.alloc (.cells #[.int .i64 0, .slice none 0 0] 71)).drew) _ (h1a.re (M := sdE s ++ (B pf #[.int .i64 0, .slice none 0 0] 71 :: (B p1 #[.int .i64 N1, .slice A1 xs1.length c1] 71 :: (gotE g1 xs1 c1 ++ (B bo oc 116 :: B t cs 112 :: ((lateE lt gv wv l ++ X))))))) (fun x => by simp only [gotE, sdE, cnt_append, cnt_cons, cnt_nil, List.append_eq, List.nil_append]; omega)))
                                  have ND := Lib.hid ((LL.out wf.drew) _ (hs.drew.re (M := sdE s ++ (B p1 #[.int .i64 N1, .slice A1 xs1.length c1] 71 :: (gotE g1 xs1 c1 ++ (B bo oc 116 :: B t cs 112 :: ((lateE lt gv wv l ++ X)))))) (fun x => by simp only [gotE, sdE, cnt_append, cnt_cons, cnt_nil, List.append_eq, List.nil_append]; omega)))
                                  have NE := Lib.hid ((LL.out (wf.alloc (.cells #[.int .i64 0, .slice none 0 0] 71)).drew) _ (h1a.re (M := sdE s ++ (B pf #[.int .i64 0, .slice none 0 0] 71 :: (B p1 #[.int .i64 N1, .slice A1 xs1.length c1] 71 :: (gotE g1 xs1 c1 ++ (B bo oc 116 :: B t cs 112 :: ((lateE lt gv wv l ++ X))))))) (fun x => by simp only [gotE, sdE, cnt_append, cnt_cons, cnt_nil, List.append_eq, List.nil_append]; omega)))
                                  have HSA := Lib.hid h1a
                                  have HPF := Lib.hid hpf
                                  have HS := Lib.hid hs
                                  clear h1a hpf hs
                                  have SK : Hid (∀ (w9 : World) (L : List Ent), St w0 w9 L → B t cs 112 ∈ L → B bo oc 116 ∈ L → w9.cell? ⟨t, k, none⟩ = some (pt s.g) ∧ w9.cell? ⟨t, 2 + k, none⟩ = some (pt s.h)) := fun w9 L h hm hn => ⟨h.cellOf (g := t) (cs := cs) (t := 112) hm k HC0.out, h.cellOf (g := t) (cs := cs) (t := 112) hm (2 + k) HC1.out⟩
                                  go_region_held3 (fun w' => w'.cell? ⟨t, k, none⟩ = some (pt s.g) ∧ w'.cell? ⟨t, 2 + k, none⟩ = some (pt s.h))
                                    (first | (with_reducible exact SK.out _ _ HS.out (by simp) (by simp)) | (with_reducible exact SK.out _ _ HS.out.drew (by simp) (by simp)) | (with_reducible exact SK.out _ _ HSA.out (by simp) (by simp)) | (with_reducible exact SK.out _ _ HS4.out (by simp) (by simp)) | (with_reducible exact SK.out _ _ (HS4.out.newB #[.int .i64 0, .slice none 0 0] 71) (by simp) (by simp)) | (with_reducible exact SK.out _ _ (HS4.out.newB #[.int .i64 N2, .slice A2 xs2.length c2] 71) (by simp) (by simp)) | (with_reducible exact SK.out _ _ HP4.out (by simp) (by simp)))
                                    (first
                                      | (go_at_call 45; (with_reducible refine ND.out.mono ?_); rintro e w4 ⟨rfl, rfl⟩)
                                      | (go_at_call 45; (with_reducible refine NE.out.mono ?_); rintro e w4 ⟨rfl, rfl⟩)
                                      | (go_at_call 44; (with_reducible refine CD.out.mono ?_); rintro e w4 ⟨g2, A2, c2, rfl, hA2, hg02, hs4⟩; have hg2 := And.intro hA2 hg02; clear hA2 hg02; have HS4 := Lib.hid hs4; have HG := Lib.hid hg2; clear hs4 hg2)
                                      | (go_at_call 44; (with_reducible refine CE.out.mono ?_); rintro e w4 ⟨g2, A2, c2, rfl, hA2, hg02, hs4⟩; have hg2 := And.intro hA2 hg02; clear hA2 hg02; have hs5 := hs4.re (M := B pf #[.int .i64 0, .slice none 0 0] 71 :: (gotE g2 xs2 c2 ++ (B p1 #[.int .i64 N1, .slice A1 xs1.length c1] 71 :: (gotE g1 xs1 c1 ++ (B bo oc 116 :: B t cs 112 :: (sdE s ++ (lateE lt gv wv l ++ X))))))) (fun x => by simp only [gotE, sdE, cnt_append, cnt_cons, cnt_nil, List.append_eq, List.nil_append]; omega); have m0 := hs5.cellOf (g := pf) (cs := #[.int .i64 0, .slice none 0 0]) (t := 71) (by simp) 0 rfl; have m1 := hs5.cellOf (g := pf) (cs := #[.int .i64 0, .slice none 0 0]) (t := 71) (by simp) 1 rfl; have f0 := hs5.freeOf (g := pf) (cs := #[.int .i64 0, .slice none 0 0]) (t := 71) (by simp) 0; have f1 := hs5.freeOf (g := pf) (cs := #[.int .i64 0, .slice none 0 0]) (t := 71) (by simp) 1; rw [HPF.out] at m0 m1 f0 f1; have HS4 := Lib.hid (show St w0 w4 (B pf #[.int .i64 0, .slice none 0 0] 71 :: _) from hs5); have HG := Lib.hid hg2; clear hs4 hs5 hg2; have HP4 := Lib.hid ((HS4.out.put (cs' := #[.int .i64 N2, .slice none 0 0]) 0 (.int .i64 N2) rfl).put (cs' := #[.int .i64 N2, .slice A2 xs2.length c2]) 1 (.slice A2 xs2.length c2) rfl); rw [HPF.out] at HP4))
                                  all_goals
                                    first
                                      | (obtain ⟨W5, hW5⟩ : ∃ W5, W5 = w4.alloc (.cells #[.int .i64 N2, .slice A2 xs2.length c2] 71) := ⟨_, rfl⟩; rw [← hW5]; have h5 := (HS4.out.re (M := gotE g2 xs2 c2 ++ (B p1 #[.int .i64 N1, .slice A1 xs1.length c1] 71 :: (gotE g1 xs1 c1 ++ (B bo oc 116 :: B t cs 112 :: (sdE s ++ (lateE lt gv wv l ++ X)))))) (fun x => by simp only [gotE, sdE, cnt_append, cnt_cons, cnt_nil, List.append_eq, List.nil_append]; omega)).newB #[.int .i64 N2, .slice A2 xs2.length c2] 71; rw [← hW5] at h5; obtain ⟨pg, hpg⟩ : ∃ pg, pg = w4.heap.size := ⟨_, rfl⟩; rw [← hpg]; rw [← hpg] at h5; have H5 := Lib.hid h5; clear h5 hW5 hpg)
                                      | (obtain ⟨W5, hW5⟩ : ∃ W5, W5 = (w4.setCell ⟨wf.heap.size, 0, none⟩ (.int .i64 N2)).setCell ⟨wf.heap.size, 1, none⟩ (.slice A2 xs2.length c2) := ⟨_, rfl⟩; rw [← hW5]; have h5 := ((HS4.out.put (cs' := #[.int .i64 N2, .slice none 0 0]) 0 (.int .i64 N2) rfl).put (cs' := #[.int .i64 N2, .slice A2 xs2.length c2]) 1 (.slice A2 xs2.length c2) rfl); rw [HPF.out, ← hW5] at h5; obtain ⟨pg, hpg⟩ : ∃ pg, pg = wf.heap.size := ⟨_, rfl⟩; rw [← hpg]; rw [← hpg] at h5; have H5 := Lib.hid h5; clear h5 hW5 hpg)
                                    go_wp2_with fail
                                    go_meet
                                    exact ⟨pg, g2, A2, c2, rfl, HG.out, H5.out⟩
                              case rest =>
                                as_aux_lemma =>
                                  obtain ⟨p2, g2, A2, c2, rfl, hg2, hs2⟩ := hcut
                                  have HG2 := Lib.hid hg2
                                  have L3 := Lib.hid hs2
                                  obtain ⟨w21, hw21⟩ : ∃ w21, w21 = wc := ⟨_, rfl⟩
                                  rw [← hw21] at L3 ⊢
                                  clear hg2 hs2 hw21
                                  go_upto_region 22 with fail
                                  go_cut [15, 16] (fun s15 s16 wx => ∃ (p3 : Nat) (A3 : Option Addr) (c3 : Nat), s15 = pt p3 ∧ rowV (.slice A3 xs1.length c3) 1 xs1.length (encs U xs1) ∧ St w0 wx (B p3 #[.int .i64 N1, .slice A3 xs1.length c3] 71 :: (rowE (.slice A3 xs1.length c3) 5 1 xs1.length (encs U xs1) ++ (B p2 #[.int .i64 N2, .slice A2 xs2.length c2] 71 :: (gotE g2 xs2 c2 ++ (B p1 #[.int .i64 N1, .slice A1 xs1.length c1] 71 :: (gotE g1 xs1 c1 ++ (B bo oc 116 :: B t cs 112 :: (sdE s ++ (lateE lt gv wv l ++ X))))))))))
                                  case first =>
                                    as_aux_lemma =>
                                      have hs := L3.out
                                      obtain ⟨wf, hwf⟩ : ∃ wf, wf = w21 := ⟨_, rfl⟩
                                      rw [← hwf] at hs ⊢
                                      clear hwf
                                      have y2 := hs.cellOf (g := t) (cs := cs) (t := 112) (by simp) (2 + k) HC1.out
                                      have x2 := hs.cellOf (g := bo) (cs := oc) (t := 116) (by simp) 2 HO2.out
                                      obtain ⟨pf, hpf⟩ : ∃ pf, pf = wf.heap.size := ⟨_, rfl⟩
                                      have h1a := (hs.newB #[.int .i64 0, .slice none 0 0] 71).drew
                                      rw [← hpf] at h1a
                                      have y2a : ∀ o, (wf.alloc o).cell? ⟨t, 2 + k, none⟩ = some (pt s.h) := fun o => (hs.new o (P := fun _ => True) trivial).cellOf (g := t) (cs := cs) (t := 112) (by simp) (2 + k) HC1.out
                                      have x2a : ∀ o, (wf.alloc o).cell? ⟨bo, 2, none⟩ = some (.int .i64 a) := fun o => (hs.new o (P := fun _ => True) trivial).cellOf (g := bo) (cs := oc) (t := 116) (by simp) 2 HO2.out
                                      have CD := Lib.hid ((LM1.out wf.drew) _ (hs.drew.re (M := sdE s ++ (B p2 #[.int .i64 N2, .slice A2 xs2.length c2] 71 :: (gotE g2 xs2 c2 ++ (B p1 #[.int .i64 N1, .slice A1 xs1.length c1] 71 :: (gotE g1 xs1 c1 ++ (B bo oc 116 :: B t cs 112 :: ((lateE lt gv wv l ++ X)))))))) (fun x => by simp only [gotE, sdE, cnt_append, cnt_cons, cnt_nil, List.append_eq, List.nil_append]; omega)))
                                      have CE := Lib.hid ((LM1.out (wf.alloc (.cells #[.int .i64 0, .slice none 0 0] 71)).drew) _ (h1a.re (M := sdE s ++ (B pf #[.int .i64 0, .slice none 0 0] 71 :: (B p2 #[.int .i64 N2, .slice A2 xs2.length c2] 71 :: (gotE g2 xs2 c2 ++ (B p1 #[.int .i64 N1, .slice A1 xs1.length c1] 71 :: (gotE g1 xs1 c1 ++ (B bo oc 116 :: B t cs 112 :: ((lateE lt gv wv l ++ X))))))))) (fun x => by simp only [gotE, sdE, cnt_append, cnt_cons, cnt_nil, List.append_eq, List.nil_append]; omega)))
                                      have HSA := Lib.hid h1a
                                      have HPF := Lib.hid hpf
                                      have HS := Lib.hid hs
                                      clear h1a hpf hs
                                      have SK : Hid (∀ (w9 : World) (L : List Ent), St w0 w9 L → B t cs 112 ∈ L → B bo oc 116 ∈ L → w9.cell? ⟨t, 2 + k, none⟩ = some (pt s.h) ∧ w9.cell? ⟨bo, 2, none⟩ = some (.int .i64 a)) := fun w9 L h hm hn => ⟨h.cellOf (g := t) (cs := cs) (t := 112) hm (2 + k) HC1.out, h.cellOf (g := bo) (cs := oc) (t := 116) hn 2 HO2.out⟩
                                      go_region_held3 (fun w' => w'.cell? ⟨t, 2 + k, none⟩ = some (pt s.h) ∧ w'.cell? ⟨bo, 2, none⟩ = some (.int .i64 a))
                                        (first | (with_reducible exact SK.out _ _ HS.out (by simp) (by simp)) | (with_reducible exact SK.out _ _ HS.out.drew (by simp) (by simp)) | (with_reducible exact SK.out _ _ HSA.out (by simp) (by simp)) | (with_reducible exact SK.out _ _ HS4.out (by simp) (by simp)) | (with_reducible exact SK.out _ _ (HS4.out.newB #[.int .i64 0, .slice none 0 0] 71) (by simp) (by simp)) | (with_reducible exact SK.out _ _ (HS4.out.newB #[.int .i64 N1, .slice A3 xs1.length c3] 71) (by simp) (by simp)) | (with_reducible exact SK.out _ _ HP4.out (by simp) (by simp)))
                                        (first
                                          | (go_at_call 46; (with_reducible refine CD.out.mono ?_); rintro e w4 ⟨A3, c3, rfl, hg3, hs4⟩; have HS4 := Lib.hid hs4; have HG := Lib.hid hg3; clear hs4 hg3)
                                          | (go_at_call 46; (with_reducible refine CE.out.mono ?_); rintro e w4 ⟨A3, c3, rfl, hg3, hs4⟩; have hs5 := hs4.re (M := B pf #[.int .i64 0, .slice none 0 0] 71 :: (rowE (.slice A3 xs1.length c3) 5 1 xs1.length (encs U xs1) ++ (B p2 #[.int .i64 N2, .slice A2 xs2.length c2] 71 :: (gotE g2 xs2 c2 ++ (B p1 #[.int .i64 N1, .slice A1 xs1.length c1] 71 :: (gotE g1 xs1 c1 ++ (B bo oc 116 :: B t cs 112 :: (sdE s ++ (lateE lt gv wv l ++ X))))))))) (fun x => by simp only [gotE, sdE, cnt_append, cnt_cons, cnt_nil, List.append_eq, List.nil_append]; omega); have m0 := hs5.cellOf (g := pf) (cs := #[.int .i64 0, .slice none 0 0]) (t := 71) (by simp) 0 rfl; have m1 := hs5.cellOf (g := pf) (cs := #[.int .i64 0, .slice none 0 0]) (t := 71) (by simp) 1 rfl; have f0 := hs5.freeOf (g := pf) (cs := #[.int .i64 0, .slice none 0 0]) (t := 71) (by simp) 0; have f1 := hs5.freeOf (g := pf) (cs := #[.int .i64 0, .slice none 0 0]) (t := 71) (by simp) 1; rw [HPF.out] at m0 m1 f0 f1; have HS4 := Lib.hid (show St w0 w4 (B pf #[.int .i64 0, .slice none 0 0] 71 :: _) from hs5); have HG := Lib.hid hg3; clear hs4 hs5 hg3; have HP4 := Lib.hid ((HS4.out.put (cs' := #[.int .i64 N1, .slice none 0 0]) 0 (.int .i64 N1) rfl).put (cs' := #[.int .i64 N1, .slice A3 xs1.length c3]) 1 (.slice A3 xs1.length c3) rfl); rw [HPF.out] at HP4))
                                      all_goals
                                        first
                                          | (obtain ⟨W5, hW5⟩ : ∃ W5, W5 = w4.alloc (.cells #[.int .i64 N1, .slice A3 xs1.length c3] 71) := ⟨_, rfl⟩; rw [← hW5]; have h5 := (HS4.out.re (M := rowE (.slice A3 xs1.length c3) 5 1 xs1.length (encs U xs1) ++ (B p2 #[.int .i64 N2, .slice A2 xs2.length c2] 71 :: (gotE g2 xs2 c2 ++ (B p1 #[.int .i64 N1, .slice A1 xs1.length c1] 71 :: (gotE g1 xs1 c1 ++ (B bo oc 116 :: B t cs 112 :: (sdE s ++ (lateE lt gv wv l ++ X)))))))) (fun x => by simp only [gotE, sdE, cnt_append, cnt_cons, cnt_nil, List.append_eq, List.nil_append]; omega)).newB #[.int .i64 N1, .slice A3 xs1.length c3] 71; rw [← hW5] at h5; obtain ⟨pg, hpg⟩ : ∃ pg, pg = w4.heap.size := ⟨_, rfl⟩; rw [← hpg]; rw [← hpg] at h5; have H5 := Lib.hid h5; clear h5 hW5 hpg)
                                          | (obtain ⟨W5, hW5⟩ : ∃ W5, W5 = (w4.setCell ⟨wf.heap.size, 0, none⟩ (.int .i64 N1)).setCell ⟨wf.heap.size, 1, none⟩ (.slice A3 xs1.length c3) := ⟨_, rfl⟩; rw [← hW5]; have h5 := ((HS4.out.put (cs' := #[.int .i64 N1, .slice none 0 0]) 0 (.int .i64 N1) rfl).put (cs' := #[.int .i64 N1, .slice A3 xs1.length c3]) 1 (.slice A3 xs1.length c3) rfl); rw [HPF.out, ← hW5] at h5; obtain ⟨pg, hpg⟩ : ∃ pg, pg = wf.heap.size := ⟨_, rfl⟩; rw [← hpg]; rw [← hpg] at h5; have H5 := Lib.hid h5; clear h5 hW5 hpg)
                                        go_wp2_with fail
                                        go_meet
                                        exact ⟨pg, A3, c3, rfl, HG.out, H5.out⟩
                                  case rest =>
                                    as_aux_lemma =>
                                      obtain ⟨p3, A3, c3, rfl, hg3, hs3⟩ := hcut
                                      have HG3 := Lib.hid hg3
                                      have L4 := Lib.hid hs3
                                      obtain ⟨w22, hw22⟩ : ∃ w22, w22 = wc := ⟨_, rfl⟩
                                      rw [← hw22] at L4 ⊢
                                      clear hg3 hs3 hw22
                                      go_upto_region 23 with fail
                                      go_cut [17, 18] (fun s17 s18 wx => ∃ (p4 : Nat) (A4 : Option Addr) (c4 : Nat), s17 = pt p4 ∧ rowV (.slice A4 xs2.length c4) 1 xs2.length (encs U xs2) ∧ St w0 wx (B p4 #[.int .i64 N2, .slice A4 xs2.length c4] 71 :: (rowE (.slice A4 xs2.length c4) 5 1 xs2.length (encs U xs2) ++ (B p3 #[.int .i64 N1, .slice A3 xs1.length c3] 71 :: (rowE (.slice A3 xs1.length c3) 5 1 xs1.length (encs U xs1) ++ (B p2 #[.int .i64 N2, .slice A2 xs2.length c2] 71 :: (gotE g2 xs2 c2 ++ (B p1 #[.int .i64 N1, .slice A1 xs1.length c1] 71 :: (gotE g1 xs1 c1 ++ (B bo oc 116 :: B t cs 112 :: (sdE s ++ (lateE lt gv wv l ++ X))))))))))))
                                      case first =>
                                        as_aux_lemma =>
                                          have hs := L4.out
                                          obtain ⟨wf, hwf⟩ : ∃ wf, wf = w22 := ⟨_, rfl⟩
                                          rw [← hwf] at hs ⊢
                                          clear hwf
                                          have y1 := hs.cellOf (g := t) (cs := cs) (t := 112) (by simp) k HC0.out
                                          have y2 := hs.cellOf (g := t) (cs := cs) (t := 112) (by simp) (2 + k) HC1.out
                                          obtain ⟨pf, hpf⟩ : ∃ pf, pf = wf.heap.size := ⟨_, rfl⟩
                                          have h1a := (hs.newB #[.int .i64 0, .slice none 0 0] 71).drew
                                          rw [← hpf] at h1a
                                          have y1a : ∀ o, (wf.alloc o).cell? ⟨t, k, none⟩ = some (pt s.g) := fun o => (hs.new o (P := fun _ => True) trivial).cellOf (g := t) (cs := cs) (t := 112) (by simp) k HC0.out
                                          have y2a : ∀ o, (wf.alloc o).cell? ⟨t, 2 + k, none⟩ = some (pt s.h) := fun o => (hs.new o (P := fun _ => True) trivial).cellOf (g := t) (cs := cs) (t := 112) (by simp) (2 + k) HC1.out
                                          have CD := Lib.hid ((LM2.out wf.drew) _ (hs.drew.re (M := sdE s ++ (B p3 #[.int .i64 N1, .slice A3 xs1.length c3] 71 :: (rowE (.slice A3 xs1.length c3) 5 1 xs1.length (encs U xs1) ++ (B p2 #[.int .i64 N2, .slice A2 xs2.length c2] 71 :: (gotE g2 xs2 c2 ++ (B p1 #[.int .i64 N1, .slice A1 xs1.length c1] 71 :: (gotE g1 xs1 c1 ++ (B bo oc 116 :: B t cs 112 :: ((lateE lt gv wv l ++ X)))))))))) (fun x => by simp only [gotE, sdE, cnt_append, cnt_cons, cnt_nil, List.append_eq, List.nil_append]; omega)))
                                          have CE := Lib.hid ((LM2.out (wf.alloc (.cells #[.int .i64 0, .slice none 0 0] 71)).drew) _ (h1a.re (M := sdE s ++ (B pf #[.int .i64 0, .slice none 0 0] 71 :: (B p3 #[.int .i64 N1, .slice A3 xs1.length c3] 71 :: (rowE (.slice A3 xs1.length c3) 5 1 xs1.length (encs U xs1) ++ (B p2 #[.int .i64 N2, .slice A2 xs2.length c2] 71 :: (gotE g2 xs2 c2 ++ (B p1 #[.int .i64 N1, .slice A1 xs1.length c1] 71 :: (gotE g1 xs1 c1 ++ (B bo oc 116 :: B t cs 112 :: ((lateE lt gv wv l ++ X))))))))))) (fun x => by simp only [gotE, sdE, cnt_append, cnt_cons, cnt_nil, List.append_eq, List.nil_append]; omega)))
                                          have ND := Lib.hid ((LL.out wf.drew) _ (hs.drew.re (M := sdE s ++ (B p3 #[.int .i64 N1, .slice A3 xs1.length c3] 71 :: (rowE (.slice A3 xs1.length c3) 5 1 xs1.length (encs U xs1) ++ (B p2 #[.int .i64 N2, .slice A2 xs2.length c2] 71 :: (gotE g2 xs2 c2 ++ (B p1 #[.int .i64 N1, .slice A1 xs1.length c1] 71 :: (gotE g1 xs1 c1 ++ (B bo oc 116 :: B t cs 112 :: ((lateE lt gv wv l ++ X)))))))))) (fun x => by simp only [gotE, sdE, cnt_append, cnt_cons, cnt_nil, List.append_eq, List.nil_append]; omega)))
                                          have NE := Lib.hid ((LL.out (wf.alloc (.cells #[.int .i64 0, .slice none 0 0] 71)).drew) _ (h1a.re (M := sdE s ++ (B pf #[.int .i64 0, .slice none 0 0] 71 :: (B p3 #[.int .i64 N1, .slice A3 xs1.length c3] 71 :: (rowE (.slice A3 xs1.length c3) 5 1 xs1.length (encs U xs1) ++ (B p2 #[.int .i64 N2, .slice A2 xs2.length c2] 71 :: (gotE g2 xs2 c2 ++ (B p1 #[.int .i64 N1, .slice A1 xs1.length c1] 71 :: (gotE g1 xs1 c1 ++ (B bo oc 116 :: B t cs 112 :: ((lateE lt gv wv l ++ X))))))))))) (fun x => by simp only [gotE, sdE, cnt_append, cnt_cons, cnt_nil, List.append_eq, List.nil_append]; omega)))
                                          have HSA := Lib.hid h1a
                                          have HPF := Lib.hid hpf
                                          have HS := Lib.hid hs
                                          clear h1a hpf hs
                                          have SK : Hid (∀ (w9 : World) (L : List Ent), St w0 w9 L → B t cs 112 ∈ L → B bo oc 116 ∈ L → w9.cell? ⟨t, k, none⟩ = some (pt s.g) ∧ w9.cell? ⟨t, 2 + k, none⟩ = some (pt s.h)) := fun w9 L h hm hn => ⟨h.cellOf (g := t) (cs := cs) (t := 112) hm k HC0.out, h.cellOf (g := t) (cs := cs) (t := 112) hm (2 + k) HC1.out⟩
                                          go_region_held3 (fun w' => w'.cell? ⟨t, k, none⟩ = some (pt s.g) ∧ w'.cell? ⟨t, 2 + k, none⟩ = some (pt s.h))
                                            (first | (with_reducible exact SK.out _ _ HS.out (by simp) (by simp)) | (with_reducible exact SK.out _ _ HS.out.drew (by simp) (by simp)) | (with_reducible exact SK.out _ _ HSA.out (by simp) (by simp)) | (with_reducible exact SK.out _ _ HS4.out (by simp) (by simp)) | (with_reducible exact SK.out _ _ (HS4.out.newB #[.int .i64 0, .slice none 0 0] 71) (by simp) (by simp)) | (with_reducible exact SK.out _ _ (HS4.out.newB #[.int .i64 N2, .slice A4 xs2.length c4] 71) (by simp) (by simp)) | (with_reducible exact SK.out _ _ HP4.out (by simp) (by simp)))
                                            (first
                                              | (go_at_call 45; (with_reducible refine ND.out.mono ?_); rintro e w4 ⟨rfl, rfl⟩)
                                              | (go_at_call 45; (with_reducible refine NE.out.mono ?_); rintro e w4 ⟨rfl, rfl⟩)
                                              | (go_at_call 46; (with_reducible refine CD.out.mono ?_); rintro e w4 ⟨A4, c4, rfl, hg4, hs4⟩; have HS4 := Lib.hid hs4; have HG := Lib.hid hg4; clear hs4 hg4)
                                              | (go_at_call 46; (with_reducible refine CE.out.mono ?_); rintro e w4 ⟨A4, c4, rfl, hg4, hs4⟩; have hs5 := hs4.re (M := B pf #[.int .i64 0, .slice none 0 0] 71 :: (rowE (.slice A4 xs2.length c4) 5 1 xs2.length (encs U xs2) ++ (B p3 #[.int .i64 N1, .slice A3 xs1.length c3] 71 :: (rowE (.slice A3 xs1.length c3) 5 1 xs1.length (encs U xs1) ++ (B p2 #[.int .i64 N2, .slice A2 xs2.length c2] 71 :: (gotE g2 xs2 c2 ++ (B p1 #[.int .i64 N1, .slice A1 xs1.length c1] 71 :: (gotE g1 xs1 c1 ++ (B bo oc 116 :: B t cs 112 :: (sdE s ++ (lateE lt gv wv l ++ X))))))))))) (fun x => by simp only [gotE, sdE, cnt_append, cnt_cons, cnt_nil, List.append_eq, List.nil_append]; omega); have m0 := hs5.cellOf (g := pf) (cs := #[.int .i64 0, .slice none 0 0]) (t := 71) (by simp) 0 rfl; have m1 := hs5.cellOf (g := pf) (cs := #[.int .i64 0, .slice none 0 0]) (t := 71) (by simp) 1 rfl; have f0 := hs5.freeOf (g := pf) (cs := #[.int .i64 0, .slice none 0 0]) (t := 71) (by simp) 0; have f1 := hs5.freeOf (g := pf) (cs := #[.int .i64 0, .slice none 0 0]) (t := 71) (by simp) 1; rw [HPF.out] at m0 m1 f0 f1; have HS4 := Lib.hid (show St w0 w4 (B pf #[.int .i64 0, .slice none 0 0] 71 :: _) from hs5); have HG := Lib.hid hg4; clear hs4 hs5 hg4; have HP4 := Lib.hid ((HS4.out.put (cs' := #[.int .i64 N2, .slice none 0 0]) 0 (.int .i64 N2) rfl).put (cs' := #[.int .i64 N2, .slice A4 xs2.length c4]) 1 (.slice A4 xs2.length c4) rfl); rw [HPF.out] at HP4))
                                          all_goals
                                            first
                                              | (obtain ⟨W5, hW5⟩ : ∃ W5, W5 = w4.alloc (.cells #[.int .i64 N2, .slice A4 xs2.length c4] 71) := ⟨_, rfl⟩; rw [← hW5]; have h5 := (HS4.out.re (M := rowE (.slice A4 xs2.length c4) 5 1 xs2.length (encs U xs2) ++ (B p3 #[.int .i64 N1, .slice A3 xs1.length c3] 71 :: (rowE (.slice A3 xs1.length c3) 5 1 xs1.length (encs U xs1) ++ (B p2 #[.int .i64 N2, .slice A2 xs2.length c2] 71 :: (gotE g2 xs2 c2 ++ (B p1 #[.int .i64 N1, .slice A1 xs1.length c1] 71 :: (gotE g1 xs1 c1 ++ (B bo oc 116 :: B t cs 112 :: (sdE s ++ (lateE lt gv wv l ++ X)))))))))) (fun x => by simp only [gotE, sdE, cnt_append, cnt_cons, cnt_nil, List.append_eq, List.nil_append]; omega)).newB #[.int .i64 N2, .slice A4 xs2.length c4] 71; rw [← hW5] at h5; obtain ⟨pg, hpg⟩ : ∃ pg, pg = w4.heap.size := ⟨_, rfl⟩; rw [← hpg]; rw [← hpg] at h5; have H5 := Lib.hid h5; clear h5 hW5 hpg)
                                              | (obtain ⟨W5, hW5⟩ : ∃ W5, W5 = (w4.setCell ⟨wf.heap.size, 0, none⟩ (.int .i64 N2)).setCell ⟨wf.heap.size, 1, none⟩ (.slice A4 xs2.length c4) := ⟨_, rfl⟩; rw [← hW5]; have h5 := ((HS4.out.put (cs' := #[.int .i64 N2, .slice none 0 0]) 0 (.int .i64 N2) rfl).put (cs' := #[.int .i64 N2, .slice A4 xs2.length c4]) 1 (.slice A4 xs2.length c4) rfl); rw [HPF.out, ← hW5] at h5; obtain ⟨pg, hpg⟩ : ∃ pg, pg = wf.heap.size := ⟨_, rfl⟩; rw [← hpg]; rw [← hpg] at h5; have H5 := Lib.hid h5; clear h5 hW5 hpg)
                                            go_wp2_with fail
                                            go_meet
                                            exact ⟨pg, A4, c4, rfl, HG.out, H5.out⟩
                                      case rest =>
                                        as_aux_lemma =>
                                          obtain ⟨p4, A4, c4, rfl, hg4, hs4⟩ := hcut
                                          have HG4 := Lib.hid hg4
                                          have L5 := Lib.hid hs4
                                          obtain ⟨w23, hw23⟩ : ∃ w23, w23 = wc := ⟨_, rfl⟩
                                          rw [← hw23] at L5 ⊢
                                          clear hg4 hs4 hw23
                                          obtain ⟨Y, hY⟩ : ∃ Y, Y = B p4 #[.int .i64 N2, .slice A4 xs2.length c4] 71 :: (rowE (.slice A4 xs2.length c4) 5 1 xs2.length (encs U xs2) ++ (B p3 #[.int .i64 N1, .slice A3 xs1.length c3] 71 :: (rowE (.slice A3 xs1.length c3) 5 1 xs1.length (encs U xs1) ++ (B p2 #[.int .i64 N2, .slice A2 xs2.length c2] 71 :: (B p1 #[.int .i64 N1, .slice A1 xs1.length c1] 71 :: (B bo oc 116 :: B t cs 112 :: (sdE s ++ X))))))) := ⟨_, rfl⟩
                                          have hs5 : St w0 w23 (lateE lt gv wv l ++ (gotE g1 xs1 c1 ++ (gotE g2 xs2 c2 ++ Y))) := L5.out.re (fun x => by simp only [hY, cnt_append, cnt_cons, cnt_nil]; omega)
                                          have hy1 : B p1 #[.int .i64 N1, .slice A1 xs1.length c1] 71 ∈ Y := by rw [hY]; simp
                                          have hy2 : B p2 #[.int .i64 N2, .slice A2 xs2.length c2] 71 ∈ Y := by rw [hY]; simp
                                          have hy3 : B p3 #[.int .i64 N1, .slice A3 xs1.length c3] 71 ∈ Y := by rw [hY]; simp
                                          have hy4 : B p4 #[.int .i64 N2, .slice A4 xs2.length c4] 71 ∈ Y := by rw [hY]; simp
                                          have q1 := hs5.cellOf (g := p1) (cs := #[.int .i64 N1, .slice A1 xs1.length c1]) (t := 71) (by simp [hy1]) 1 rfl
                                          have q3 := hs5.cellOf (g := p3) (cs := #[.int .i64 N1, .slice A3 xs1.length c3]) (t := 71) (by simp [hy3]) 1 rfl
                                          have r3 : ∀ x, cnt x (rowE (.slice A3 xs1.length c3) 5 1 xs1.length (encs U xs1)) ≤ cnt x Y := fun x => by simp only [hY, cnt_append, cnt_cons, cnt_nil]; omega
                                          have r4 : ∀ x, cnt x (rowE (.slice A4 xs2.length c4) 5 1 xs2.length (encs U xs2)) ≤ cnt x Y := fun x => by simp only [hY, cnt_append, cnt_cons, cnt_nil]; omega
                                          have CA1 := Lib.hid (add_calls w0 w23 (gotE g2 xs2 c2 ++ Y) lt gv wv l g1 xs1 c1 A1 A3 c3 HG1.out.1 hs5 VLJ.out HG1.out.2 HB1.out (by have := HX1.out; omega) (by have := HLJ.out; omega) (fun W' h => rd_own (xs := xs1) (h.own_in (e := 5) (fun x => by have := r3 x; simp only [cnt_append]; omega) (show rowV (.slice A3 xs1.length c3) 1 xs1.length (encs U xs1) from HG3.out))))
                                          have HYY := Lib.hid hY
                                          have R4 := Lib.hid r4
                                          have HY2 := Lib.hid hy2
                                          have HY4 := Lib.hid hy4
                                          clear hY hs5 hy1 hy2 hy3 hy4 r3 r4
                                          go_wp2_with fail
                                          refine CA1.out.mono ?_; rintro e w24 ⟨rfl, gv2, wv2, i2, vl2, hs6⟩
                                          have z2 := hs6.cellOf (g := p2) (cs := #[.int .i64 N2, .slice A2 xs2.length c2]) (t := 71) (by simp [HY2.out]) 1 rfl
                                          have z4 := hs6.cellOf (g := p4) (cs := #[.int .i64 N2, .slice A4 xs2.length c4]) (t := 71) (by simp [HY4.out]) 1 rfl
                                          have CA2 := Lib.hid (add_calls w0 w24 Y lt gv2 wv2 (l ++ [i2]) g2 xs2 c2 A2 A4 c4 HG2.out.1 hs6 vl2 HG2.out.2 HB2.out (by have := HX2.out; omega) (by have := HLJ.out; simp; omega) (fun W' h => rd_own (xs := xs2) (h.own_in (e := 5) (fun x => by have := R4.out x; simp only [cnt_append]; omega) (show rowV (.slice A4 xs2.length c4) 1 xs2.length (encs U xs2) from HG4.out))))
                                          clear hs6 vl2 q1 q3
                                          go_wp2_with fail
                                          refine CA2.out.mono ?_; rintro e w25 ⟨rfl, gv3, wv3, i3, vl3, hs7⟩
                                          have VL3 := Lib.hid vl3
                                          have H7 := Lib.hid hs7
                                          clear vl3 hs7 z2 z4
                                          go_wp2_with fail
                                          go_roundg (2 - (j + 1))
                                          case measure => have := HGJ.out; omega
                                          case rel => exact ⟨j + 1, gv3, wv3, l ++ [i2] ++ [i3], rfl, by omega, by go_num, VL3.out, by have := HLJ.out; simp; omega, H7.out.re (fun x => by simp only [HYY.out, cnt_append, cnt_cons]; omega)⟩
                        · have j1 : ¬ (j : Int) < 2 := by omega
                          go_wp2_with fail
                          go_meet
                          exact ⟨gv, wv, l, VLJ.out, by have := HLJ.out; omega, L1.out⟩
                case rest =>
                  as_aux_lemma =>
                    obtain ⟨gv2, wv2, l2, vl, hll, hs⟩ := hcut
                    obtain ⟨wm, hwm⟩ : ∃ wm, wm = wc := ⟨_, rfl⟩
                    rw [← hwm] at hs ⊢
                    have hs2 : St w0 wm (B t (stg b false s0n s1n) 112 :: (plE s0n ++ (plE s1n ++ hE lt p b bs (scr r0 r1 (some ad) os.length c) gv2 wv2 l2 pon (.slice Ao ol.length co) ol R))) := hs.re (fun x => by have e := sel_cnt k s0n s1n x; rw [← HSN.out] at e; simp only [HX.out, HCS.out, hE, cnt_append, cnt_cons] at e ⊢; omega)
                    have H2 := Lib.hid hs2
                    have VL2 := Lib.hid vl
                    have HL2 := Lib.hid hll
                    clear hwm vl hll hs hs2
                    by_cases h5 : q % 8 = 5
                    · have hq5 : ((q : Int) % 8 == 5) = true := by simp; omega
                      have hq6 : decide ((q : Int) % 8 = 5) = true := by simp; omega
                      have hq7 : (q : Int) % 8 = 5 := by omega
                      have hol2 : 8 * ol.length + 5 ≤ q := by have := HOL.out; omega
                      have CN := Lib.hid (new_calls 1 wm w0.heap.size H2.out.bl.size (by omega) (by omega))
                      go_wp2_with fail
                      refine CN.out.mono ?_; rintro e w6 ⟨rfl, hn6, hb6⟩
                      have h6 := madeB H2.out hb6 (Nat.le_refl _) hn6.blk
                      obtain ⟨gn, hgn⟩ : ∃ gn, gn = wm.heap.size := ⟨_, rfl⟩
                      rw [← hgn] at h6 ⊢
                      obtain ⟨W7, hW7⟩ : ∃ W7, W7 = w6.alloc (.cells #[.int .u8 (ol.length : Int), .int .u8 111] 5) := ⟨_, rfl⟩
                      obtain ⟨gb, hgb⟩ : ∃ gb, gb = w6.heap.size := ⟨_, rfl⟩
                      have h7 := h6.newB #[.int .u8 (ol.length : Int), .int .u8 111] 5
                      rw [← hW7, ← hgb] at h7
                      have h7' : St w0 W7 (netE gn (.slice none 0 0) 1 0 [] ++ (B gb #[.int .u8 (ol.length : Int), .int .u8 111] 5 :: (B t (stg b false s0n s1n) 112 :: (plE s0n ++ (plE s1n ++ hE lt p b bs (scr r0 r1 (some ad) os.length c) gv2 wv2 l2 pon (.slice Ao ol.length co) ol R))))) := h7.re (fun x => by simp only [netE, cellsOf, List.length_nil, List.map_nil, List.flatMap_nil, rowE_nil, Int.ofNat_zero, Int.natCast_zero, cnt_append, cnt_cons, cnt_nil]; omega)
                      have CS := Lib.hid (nsendR (ol.length : Int) (some ⟨gb, 0, none⟩) 2 2 (two ol.length) (two_reads (h7.blk (g := gb) (cs := #[.int .u8 (ol.length : Int), .int .u8 111]) (t := 5) (by simp))) h7' (rowV_nil 2) (by simp) (by omega))
                      have wu : IntKind.u8.wrap (ol.length : Int) = (ol.length : Int) := IntWalk.u8_in _ (by omega)
                      have HW7 := Lib.hid hW7
                      have HGB := Lib.hid hgb
                      clear hn6 hb6 h6 hgn hW7 hgb h7 h7'
                      go_wp2_with (refine (num_calls _ _).mono ?_; rintro e w9 ⟨rfl, hw9⟩; rw [hw9]; clear hw9)
                      rw [← HGB.out, ← HW7.out]
                      refine CS.out.mono ?_; rintro e w8 ⟨rfl, vn, hvn, hs8⟩
                      obtain ⟨gl, v', W', hgl, hrun, hov, hs9⟩ := oth_add (v := .slice Ao ol.length co) (l := ol) gn VO.out (hs8.re (M := netE gn vn 1 0 [((ol.length : Int), strOfNums (two ol.length))] ++ (othE (.slice Ao ol.length co) ol ++ (B t (stg b false s0n s1n) 112 :: (plE s0n ++ (plE s1n ++ (lateE lt gv2 wv2 l2 ++ (plcO p pon ++ (B b (bkC bk0) 107 :: B bs (scr r0 r1 (some ad) os.length c) 48 :: R)))))))) (fun x => by simp only [hE, List.nil_append, cnt_append, cnt_cons]; omega)) hvn (by omega)
                      obtain ⟨An, cn, rfl⟩ := rowV_form hov.row
                      rw [hgl] at hrun
                      rw [show (ol ++ [(gn, vn, ol.length)]).length = ol.length + 1 by simp] at hrun hov hs9
                      have HRUN := Lib.hid hrun
                      have HOV := Lib.hid hov
                      have H9 := Lib.hid hs9
                      clear hgl hrun hov hs8 hs9 hvn
                      go_wp2_with (at_builtin; refine wpList_append_run (o := ⟨some 225, _, _, _, _, _⟩) rfl (.tmp 222) (.tmp 224) 123 rfl (.slice Ao ol.length co) (.slice (some ⟨w8.heap.size, 0, none⟩) 1 1) (.slice An (ol.length + 1) cn) W' rfl rfl HRUN.out ?_)
                      go_roundg (400 - (q + 1))
                      case measure => have := HGK.out; omega
                      case rel => exact ⟨q + 1, rfl, by go_num, by omega, by omega, s0n, s1n, gv2, wv2, l2, pon, ol ++ [(gn, vn, ol.length)], V0N.out, V1N.out, VL2.out, by have := HL2.out; omega, VPN.out, HOV.out, by simp; omega, H9.out.re (fun x => by simp only [hE, cnt_append, cnt_cons]; omega)⟩
                    · have hq5 : ((q : Int) % 8 == 5) = false := by simp; omega
                      have hq6 : decide ((q : Int) % 8 = 5) = false := by simp; omega
                      have hq7 : ¬ (q : Int) % 8 = 5 := by omega
                      go_wp2_with fail
                      go_roundg (400 - (q + 1))
                      case measure => have := HGK.out; omega
                      case rel => exact ⟨q + 1, rfl, by go_num, by omega, by omega, s0n, s1n, gv2, wv2, l2, pon, ol, V0N.out, V1N.out, VL2.out, by have := HL2.out; omega, VPN.out, VO.out, by have := HOL.out; omega, H2.out⟩
      · have hcase : ¬ (q : Int) < (os.length : Int) ∨ ((q : Int) < (os.length : Int) ∧ ¬ (q : Int) < 400) := by omega
        clear hlt
        rcases hcase with p1 | ⟨p1, p2⟩
        all_goals
          go_wp2_with fail
          go_meet
          exact ⟨q, hq4, s0, s1, gv, wv, l, po, ol, V0.out, V1.out, VL.out, HLL.out, VP.out, VO.out, HOL.out, HS0.out⟩
  case rest =>
    as_aux_lemma =>
      obtain ⟨q, hq4, s0, s1, gv, wv, l, po, ol, v0, v1, vl, hll, vp, vo, hol, hs⟩ := hcut
      obtain ⟨Ao, co, rfl⟩ := rowV_form vo.row
      obtain ⟨Z, hZ⟩ : ∃ Z, Z = B t (stg b false s0 s1) 112 :: (plE s0 ++ (plE s1 ++ (lateE lt gv wv l ++ (plcO p po ++ (B b (bkC bk0) 107 :: B bs (scr r0 r1 A os.length c) 48 :: R))))) := ⟨_, rfl⟩
      have hs' : St w0 wc (rowE (.slice Ao ol.length co) 54 1 ol.length (ol.map fun o => pt o.1) ++ (ol.flatMap othN ++ Z)) := hs.re (fun x => by simp only [hZ, hE, othE, cnt_append, cnt_cons]; omega)
      have HZ := Lib.hid hZ
      have V0 := Lib.hid v0
      have V1 := Lib.hid v1
      have VL := Lib.hid vl
      have HLL := Lib.hid hll
      have VO := Lib.hid vo
      have L0 := Lib.hid hs'
      have hol2 : ol.length ≤ 60 := by omega
      clear hZ v0 v1 vl hll vp vo hol hs hs'
      go_wp2_with fail
      go_loopg [21] ol.length (fun gj s21 wx => ∃ j : Nat, gj = ol.length - j ∧ s21 = .int .i64 j ∧ j ≤ ol.length ∧ St w0 wx (rowE (.slice Ao ol.length co) 54 1 ol.length (ol.map fun o => pt o.1) ++ ((ol.drop j).flatMap othN ++ Z)))
      case atStart => exact ⟨0, rfl, rfl, Nat.zero_le _, L0.out⟩
      case round =>
        obtain ⟨j, hgj, rfl, hj, hs⟩ := hrel
        have HGJ := Lib.hid hgj
        clear hgj
        by_cases hlt : j < ol.length
        · have i1 : (j : Int) < (ol.length : Int) := by omega
          have i3 : (0 : Int) ≤ (j : Int) := by omega
          have wu : IntKind.u8.wrap (j : Int) = (j : Int) := IntWalk.u8_in _ (by omega)
          obtain ⟨g', c', e', hc'⟩ := Book.rowV_nth (e := 54) hs (fun x => by simp only [cnt_append]; omega) VO.out.row (by omega)
          injection e' with e1 e2 e3
          subst e1
          obtain ⟨o, ho⟩ : ∃ o, o = ol[j] := ⟨_, rfl⟩
          have hcj : wr.cell? ⟨g', j, none⟩ = some (pt o.1) := by rw [hc' j hlt]; simp [ho, hlt]
          have hon : o.2.2 = j := by rw [ho]; exact VO.out.at_ j hlt
          have hoV := VO.out.by_ o (by rw [ho]; exact List.getElem_mem hlt)
          have ed : ol.drop j = o :: ol.drop (j + 1) := by rw [ho]; exact List.drop_eq_getElem_cons hlt
          rw [ed] at hs
          obtain ⟨on, ov, oi⟩ := o
          obtain rfl : oi = j := hon
          have CT := Lib.hid (ntake1 0 (oi : Int) (strOfNums (two oi)) (g := on) (v := ov) (room := 1) (lost := 0) (ms := [((oi : Int), strOfNums (two oi))]) (hs.re (M := netE on ov 1 0 [((oi : Int), strOfNums (two oi))] ++ (rowE (.slice (some ⟨g', 0, none⟩) ol.length co) 54 1 ol.length (ol.map fun o => pt o.1) ++ ((ol.drop (oi + 1)).flatMap othN ++ Z))) (fun x => by simp only [List.flatMap_cons, othN, cnt_append]; omega)) hoV (by simp) (by simp) rfl)
          rw [strOfNums_size, show (two oi).length = 2 from rfl] at CT
          clear hs hc' e2 e3 ho hoV ed hlt
          go_wp2_with fail
          refine CT.out.mono ?_; rintro e w6 ⟨g2, c2, vn, rfl, hvn, hs6⟩
          obtain ⟨W7, hW7⟩ : ∃ W7, W7 = w6.alloc (.cells #[.int .i64 (oi : Int), .slice (some ⟨g2, 0, none⟩) 2 c2] 71) := ⟨_, rfl⟩
          obtain ⟨pf, hpf⟩ : ∃ pf, pf = w6.heap.size := ⟨_, rfl⟩
          have h7 := hs6.newB #[.int .i64 (oi : Int), .slice (some ⟨g2, 0, none⟩) 2 c2] 71
          rw [← hW7, ← hpf] at h7
          have f0 := h7.cellOf (g := pf) (cs := #[.int .i64 (oi : Int), .slice (some ⟨g2, 0, none⟩) 2 c2]) (t := 71) (by simp) 0 rfl
          have f1 := h7.cellOf (g := pf) (cs := #[.int .i64 (oi : Int), .slice (some ⟨g2, 0, none⟩) 2 c2]) (t := 71) (by simp) 1 rfl
          obtain ⟨W8, hW8⟩ : ∃ W8, W8 = W7.alloc (.cells #[.int .u8 (oi : Int), .int .u8 111] 5) := ⟨_, rfl⟩
          obtain ⟨gb, hgb⟩ : ∃ gb, gb = W7.heap.size := ⟨_, rfl⟩
          have h8 := h7.newB #[.int .u8 (oi : Int), .int .u8 111] 5
          rw [← hW8, ← hgb] at h8
          have hbt : Byt (two oi) := by intro x hx; simp [two] at hx; omega
          have SM := Lib.hid (same_calls (oi : Int) (oi : Int) (two oi) (two oi) (some ⟨g2, 0, none⟩) (some ⟨gb, 0, none⟩) c2 2 W8 (St.toldReads h8 (g := g2) (c := c2) (xs := two oi) (by simp [toldE]) hbt (by simp [two])) (two_reads (h8.blk (g := gb) (cs := #[.int .u8 (oi : Int), .int .u8 111]) (t := 5) (by simp))) (by simp [two]))
          rw [show (two oi).length = 2 from rfl] at SM
          have H8 := Lib.hid h8
          have HW7 := Lib.hid hW7
          have HPF := Lib.hid hpf
          have HW8 := Lib.hid hW8
          have HGB : Hid (gb = w6.heap.size + 1) := by show gb = _; rw [hgb, hW7]; simp
          rw [hpf] at f0 f1
          rw [hW7] at f0 f1
          clear hcj hvn hs6 h7 h8 hW7 hpf hW8 hgb hbt
          go_wp2_with fail
          rw [← HW7.out, ← HGB.out, ← HW8.out]
          refine SM.out.mono ?_; rintro e w9 ⟨b9, rfl, hb9, hbw⟩
          obtain rfl : b9 = true := by first | exact hb9.2 ⟨rfl, rfl⟩ | exact hb9.2 trivial | simpa using hb9
          have H9 := Lib.hid (H8.out.below hbw)
          clear hb9 hbw f0 f1
          go_wp2_with fail
          go_roundg (ol.length - (oi + 1))
          case measure => have := HGJ.out; omega
          case rel => exact ⟨oi + 1, rfl, by go_num, by omega, H9.out.re (fun x => by simp only [cnt_append, cnt_cons]; omega)⟩
        · have i1 : ¬ (j : Int) < (ol.length : Int) := by omega
          have y4 : wr.cell? ⟨t, 4, none⟩ = some (pt b) := hs.cellOf (g := t) (cs := stg b false s0 s1) (t := 112) (by simp [HZ.out]) 4 rfl
          have eb : ∀ x, cnt x (bkE b bk0) = one x (B b (bkC bk0) 107) := fun x => rfl
          have CST := Lib.hid (settle_calls w0 wr (B t (stg b false s0 s1) 112 :: (plE s0 ++ (plE s1 ++ R))) lt b gv wv l bk0 0 (hs.re (fun x => by simp only [HZ.out, eb, cnt_append, cnt_cons]; omega)) VL.out bk0V (by have := HLL.out; show 0 + l.length ≤ _; omega))
          clear hs eb
          go_wp2_with fail
          refine CST.out.mono ?_; rintro e w6 ⟨rfl, gv', wv', l', s', hl', hb', ht', hst⟩
          have CA0 := Lib.hid (all_calls w0 w6 (lateE lt gv' wv' l' ++ (bkE b s' ++ R)) t b (9000 * q) false s0 s1 (hst.re (fun x => by simp only [cnt_append, cnt_cons]; omega)) V0.out V1.out 0 (by omega))
          have CA1 : Hid (∀ w', St w0 w' (B t (stg b false s0 s1) 112 :: (plE s0 ++ (plE s1 ++ (lateE lt gv' wv' l' ++ (bkE b s' ++ R))))) → _) := fun w' h' => all_calls w0 w' _ t b (9000 * q) false s0 s1 h' V0.out V1.out 1 (by omega)
          clear hl' hb' ht' hst y4
          go_wp2_with fail
          refine CA0.out.mono ?_; rintro e w7 ⟨rfl, hs7⟩
          have H7 := Lib.hid hs7
          clear hs7
          go_wp2_with fail
          refine (CA1.out w7 H7.out).mono ?_; rintro e w8 ⟨rfl, hs8⟩
          have H8 := Lib.hid hs8
          clear hs8
          go_wp2_with fail
          go_ret
          exact ⟨rfl, H8.out.re (fun x => by simp only [cnt_append, cnt_cons]; omega)⟩
end Go.Proofs.Ytfmggmpllggbnaa.RNet
