/- A book of byte lists: growBytes walked. -/
import Derived.Test.YtfmggmpllggbnaaBookH
namespace Go.Proofs.Ytfmggmpllggbnaa.Book
open Go.RowKit Go.Proofs.YtfmggmpllggbnaaW.PrintWords Go.Proofs.Ytfmggmpllggbnaa.Mem
set_option linter.unusedVariables false
set_option linter.unusedSimpArgs false
def GB (w0 : World) (b : Nat) (R : List Ent) (s : BkS) (w' : World) : Prop := ∃ s' : BkS, BkV s' ∧ s'.turn = s.turn ∧ s'.done = s.done ∧ St w0 w' (bkE b s' ++ R)
set_option maxRecDepth 20000 in
set_option maxHeartbeats 6400000 in
theorem growBytes_calls (w0 W : World) (R : List Ent) (b : Nat) (s : BkS) (h : St w0 W (bkE b s ++ R)) (hV : BkV s) (ht : s.turn ≤ 1099511627776) : Calls Try.prog 78 #[pt b] W fun e w' => e = .returned (.tuple #[]) ∧ GB w0 b R s w' := by
  have hnum := hV.num
  have i6 : s.used ≤ 16777216 := hV.used
  have hkl : s.kept.length ≤ 16777216 := by omega
  have hat := hV.at_
  obtain ⟨A0, q0, e0⟩ := rowV_form hV.v
  have x0 : W.cell? ⟨b, 0, none⟩ = some s.v := h.cellOf (g := b) (cs := bkC s) (t := 107) (by simp [bkE]) 0 rfl
  have x2 : W.cell? ⟨b, 2, none⟩ = some (.int .i64 (s.at_ : Int)) := h.cellOf (g := b) (cs := bkC s) (t := 107) (by simp [bkE]) 2 rfl
  rw [e0] at x0
  have HS := Lib.hid h
  have HV := Lib.hid hV
  clear h hV hnum e0 i6
  go_enter Try.func78, Try.ntmps78
  go_wp2_with fail
  clear x0 x2
  go_loopw [3] (fun i wr => ∃ (k : Nat) (s1 : BkS), i = .int .i64 k ∧ s.at_ ≤ k ∧ k ≤ s.kept.length ∧ Gr s s1 k 0 ∧ St w0 wr (bkE b s1 ++ R)) (fun i _ => s.kept.length - (intOf i).toNat)
  case atStart => exact ⟨s.at_, s, rfl, Nat.le_refl _, hat, Gr.start HV.out, HS.out⟩
  case round =>
    obtain ⟨k, s1, rfl, hk0, hk, hgr, hs⟩ := hrel
    by_cases hlt : k < s.kept.length
    · obtain ⟨l, hl⟩ : ∃ l, l = s.kept[k] := ⟨_, rfl⟩
      have hlen := hgr.len
      have hk1 : k < s1.kept.length := by omega
      have hl1 : l = s1.kept[k] := by
        have h1 := hgr.pre k hlt
        rw [List.getElem?_eq_getElem hk1, List.getElem?_eq_getElem hlt] at h1
        rw [hl]; injection h1 with h1; exact h1.symm
      obtain ⟨g, cg, g2, cg2, ev, evo, hf⟩ := kept_facts' hgr.v hgr.vo hgr.good w0 R b k hk1 l hl1
      obtain ⟨x0, x1, x2, x3, _⟩ := hf wr hs
      have hgood := hgr.good l (by rw [hl1]; exact List.getElem_mem hk1)
      have hnew := HV.out.new k hlt hk0
      rw [← hl] at hnew
      have hsz := (HV.out.sz l (by rw [hl]; exact List.getElem_mem hlt)).2
      obtain ⟨m, hm⟩ : ∃ m, m = l.m := ⟨_, rfl⟩
      obtain ⟨n0, hn0⟩ : ∃ n0, n0 = l.n := ⟨_, rfl⟩
      obtain ⟨c0, hc0⟩ : ∃ c0, c0 = l.c := ⟨_, rfl⟩
      obtain ⟨Al, hAl⟩ : ∃ Al : Option Addr, Al = l.g.map fun g => ⟨g, 0, none⟩ := ⟨_, rfl⟩
      rw [← hn0, ← hc0, ← hAl] at x2
      rw [← hm] at x3 hsz
      rw [← hn0] at hnew
      have HM := Lib.hid hm
      have HN := Lib.hid hn0
      have HC := Lib.hid hc0
      have HA := Lib.hid hAl
      have HGd := Lib.hid hgood
      have HGR := Lib.hid hgr
      have HRS := Lib.hid hs
      have HK1 := Lib.hid hk1
      have j1 : (k : Int) < (s.kept.length : Int) := by omega
      have j2 : (0 : Int) ≤ (k : Int) := by omega
      have j3 : (k : Int) < (s1.kept.length : Int) := by omega
      clear ev evo hf hgood hl hl1 hm hn0 hc0 hAl hs hgr hlen hk1
      go_wp2_with fail
      clear x0 x1 x2 x3
      go_loopw [4, 6] (fun gv i wr2 => ∃ (q : Nat) (cur : BL) (s2 : BkS) (A : Option Addr), i = .int .i64 q ∧ 1 ≤ q ∧ q ≤ 97 ∧ gv = .slice A cur.n cur.c ∧ A = (cur.g.map fun g => ⟨g, 0, none⟩) ∧ cur.m = m ∧ cur.n + 1 = n0 + q ∧ Good s2.Bs cur ∧ Gr s s2 (k + 1) (97 - q) ∧ St w0 wr2 (bkE b s2 ++ R)) (fun _ i _ => 97 - (intOf i).toNat)
      case atStart => exact ⟨1, l, s1, Al, rfl, by omega, by omega, by rw [HN.out, HC.out], HA.out, HM.out.symm, by rw [HN.out], HGd.out, HGR.out.next hlt, HRS.out⟩
      case round =>
        obtain ⟨q, cur, s2, A, rfl, hq1, hq2, rfl, hA, hcm, hcn, hgd, hg2, hs2⟩ := hrel
        by_cases hq : q ≤ 96
        · have CA := fun w => Lib.hid (at_calls m cur.n w (by omega) (by omega))
          have h3 := hs2.newB #[.int .u8 (atV m cur.n : Int)] 5
          obtain ⟨l', Bs', W', hr, hs3, hgd', hmore, hn', hm'⟩ := book_append (P := Try.prog) (h3.re (M := blkE s2.Bs ++ (B b (bkC s2) 107 :: (bkR s2 ++ R))) (fun x => by simp only [bkE, cnt_append, cnt_cons]; omega)) hgd (by omega) 62 62 Try.underlying62 infoU ⟨wr.heap.size, 0, none⟩ 1 (by rw [hcm]; exact blk_cell h3.hd 0)
          have hs3' : St w0 W' (bkE b { s2 with Bs := Bs' } ++ R) := hs3.re (fun x => by simp only [bkE, bkR, bkC, cnt_append, cnt_cons]; omega)
          have hg3 := hg2.more Bs' hmore
          have hk2 : s2.kept.length ≤ 16777216 := by have := hg2.num; have := HV.out.used; omega
          obtain ⟨A', hA'⟩ : ∃ A' : Option Addr, A' = l'.g.map fun g => ⟨g, 0, none⟩ := ⟨_, rfl⟩
          obtain ⟨c', hc'⟩ : ∃ c', c' = l'.c := ⟨_, rfl⟩
          have ecv : cur.val = .slice A cur.n cur.c := by rw [hA]; rfl
          have elv : l'.val = .slice A' (cur.n + 1) c' := by rw [hA', hc', ← hn']; rfl
          rw [ecv, elv] at hr
          obtain ⟨s4, A0', A1', A2', A6', c0', c1', c2', c6', W3, W6, ht2⟩ := two_appends hs3' hg3.v hg3.vo hk2 l' A' hA'
          have HR := Lib.hid hr
          have HT2 := Lib.hid ht2
          have HG3 := Lib.hid hg3
          have HS3 := Lib.hid hs3'
          have HL' : Hid (l'.m = m ∧ l'.n = cur.n + 1 ∧ Good Bs' l') := ⟨by rw [hm', hcm], hn', hgd'⟩
          have HA' := Lib.hid hA'
          have HC' := Lib.hid hc'
          have HCM := Lib.hid hcm
          have HCN := Lib.hid hcn
          have j4 : (q : Int) ≤ 96 := by omega
          have x0 := ht2.x0
          have y0 := ht2.y0
          have f0 := ht2.f0
          have z1 := ht2.z1
          have y1 := ht2.y1
          have f1 := ht2.f1
          have h2r := ht2.r2
          have h6r := ht2.r6
          rw [hn', ← hc'] at h2r
          rw [hm', hcm] at h6r
          have HR2 := Lib.hid h2r
          have HR6 := Lib.hid h6r
          clear h2r h6r h3 hr hs3 hs3' hgd' hmore hn' hm' hg3 hA' hc' ecv elv ht2 hA hgd hg2 hs2 hcm hcn
          have hcase : q < 4 ∨ (4 ≤ q ∧ q % 16 = 0) ∨ (4 ≤ q ∧ q % 16 ≠ 0) := by omega
          rcases hcase with p1 | ⟨p1, p2⟩ | ⟨p1, p2⟩
          · have d1 : (q : Int) < 4 := by omega
            clear p1
            go_wp2_with fail
            refine (CA _).out.mono ?_; rintro e w1 ⟨rfl, rfl⟩
            go_wp2_with (at_builtin; first | (refine wpList_append_run (o := ⟨some 45, _, _, _, _, _⟩) rfl (.tmp 39) (.tmp 44) 62 rfl (.slice A cur.n cur.c) (.slice (some ⟨wr.heap.size, 0, none⟩) 1 1) (.slice A' (cur.n + 1) c') W' rfl rfl HR.out ?_) | (refine wpList_append_run (o := ⟨some 60, _, _, _, _, _⟩) rfl (.tmp 57) (.tmp 59) 88 rfl (.slice A0' s2.kept.length c0') (.slice (some ⟨W'.heap.size, 0, none⟩) 1 1) (.slice A2' (s2.kept.length + 1) c2') W3 rfl rfl HR2.out ?_) | (refine wpList_append_run (o := ⟨some 70, _, _, _, _, _⟩) rfl (.tmp 67) (.tmp 69) 38 rfl (.slice A1' s2.kept.length c1') (.slice (some ⟨W3.heap.size, 0, none⟩) 1 1) (.slice A6' (s2.kept.length + 1) c6') W6 rfl rfl HR6.out ?_))
            go_roundw
            case rel => exact ⟨q + 1, l', s4, A', by go_num, by omega, by omega, by rw [HL'.out.2.1, HC'.out], HA'.out, HL'.out.1, by rw [HL'.out.2.1]; have := HCN.out; omega, by rw [HT2.out.es]; exact HL'.out.2.2, Gr.keep (i := 97 - (q + 1)) (by rw [show 97 - (q + 1) + 1 = 97 - q by omega]; exact HG3.out) _ _ HT2.out.es HT2.out.v HT2.out.vo HL'.out.2.2 (by rw [HL'.out.2.1]; have := HCN.out; omega) (by rw [HL'.out.1]; exact hsz), HT2.out.st⟩
            case measure => simp [intOf]; omega
          · have d1 : ¬ (q : Int) < 4 := by omega
            have d2 : (q : Int) % 16 = 0 := by omega
            clear p1 p2
            go_wp2_with fail
            refine (CA _).out.mono ?_; rintro e w1 ⟨rfl, rfl⟩
            go_wp2_with (at_builtin; first | (refine wpList_append_run (o := ⟨some 45, _, _, _, _, _⟩) rfl (.tmp 39) (.tmp 44) 62 rfl (.slice A cur.n cur.c) (.slice (some ⟨wr.heap.size, 0, none⟩) 1 1) (.slice A' (cur.n + 1) c') W' rfl rfl HR.out ?_) | (refine wpList_append_run (o := ⟨some 60, _, _, _, _, _⟩) rfl (.tmp 57) (.tmp 59) 88 rfl (.slice A0' s2.kept.length c0') (.slice (some ⟨W'.heap.size, 0, none⟩) 1 1) (.slice A2' (s2.kept.length + 1) c2') W3 rfl rfl HR2.out ?_) | (refine wpList_append_run (o := ⟨some 70, _, _, _, _, _⟩) rfl (.tmp 67) (.tmp 69) 38 rfl (.slice A1' s2.kept.length c1') (.slice (some ⟨W3.heap.size, 0, none⟩) 1 1) (.slice A6' (s2.kept.length + 1) c6') W6 rfl rfl HR6.out ?_))
            go_roundw
            case rel => exact ⟨q + 1, l', s4, A', by go_num, by omega, by omega, by rw [HL'.out.2.1, HC'.out], HA'.out, HL'.out.1, by rw [HL'.out.2.1]; have := HCN.out; omega, by rw [HT2.out.es]; exact HL'.out.2.2, Gr.keep (i := 97 - (q + 1)) (by rw [show 97 - (q + 1) + 1 = 97 - q by omega]; exact HG3.out) _ _ HT2.out.es HT2.out.v HT2.out.vo HL'.out.2.2 (by rw [HL'.out.2.1]; have := HCN.out; omega) (by rw [HL'.out.1]; exact hsz), HT2.out.st⟩
            case measure => simp [intOf]; omega
          · have d1 : ¬ (q : Int) < 4 := by omega
            have d2 : ((q : Int) % 16 == 0) = false := by simp; omega
            clear p1 p2
            go_wp2_with fail
            refine (CA _).out.mono ?_; rintro e w1 ⟨rfl, rfl⟩
            go_wp2_with (at_builtin; first | (refine wpList_append_run (o := ⟨some 45, _, _, _, _, _⟩) rfl (.tmp 39) (.tmp 44) 62 rfl (.slice A cur.n cur.c) (.slice (some ⟨wr.heap.size, 0, none⟩) 1 1) (.slice A' (cur.n + 1) c') W' rfl rfl HR.out ?_) | (refine wpList_append_run (o := ⟨some 60, _, _, _, _, _⟩) rfl (.tmp 57) (.tmp 59) 88 rfl (.slice A0' s2.kept.length c0') (.slice (some ⟨W'.heap.size, 0, none⟩) 1 1) (.slice A2' (s2.kept.length + 1) c2') W3 rfl rfl HR2.out ?_) | (refine wpList_append_run (o := ⟨some 70, _, _, _, _, _⟩) rfl (.tmp 67) (.tmp 69) 38 rfl (.slice A1' s2.kept.length c1') (.slice (some ⟨W3.heap.size, 0, none⟩) 1 1) (.slice A6' (s2.kept.length + 1) c6') W6 rfl rfl HR6.out ?_))
            go_roundw
            case rel => exact ⟨q + 1, l', { s2 with Bs := Bs' }, A', by go_num, by omega, by omega, by rw [HL'.out.2.1, HC'.out], HA'.out, HL'.out.1, by rw [HL'.out.2.1]; have := HCN.out; omega, HL'.out.2.2, HG3.out.less (by omega), HS3.out⟩
            case measure => simp [intOf]; omega
        · obtain rfl : q = 97 := by omega
          have HG2 := Lib.hid hg2
          have HS2 := Lib.hid hs2
          clear hA hcm hcn hgd hg2 hs2
          go_wp2_with fail
          go_roundw
          case rel => exact ⟨k + 1, s2, by go_num, by omega, by omega, HG2.out.less (Nat.zero_le _), HS2.out⟩
          case measure => simp [intOf]; omega
    · obtain rfl : k = s.kept.length := by omega
      obtain ⟨A1, q1, e1⟩ := rowV_form hgr.v
      have x0 : wr.cell? ⟨b, 0, none⟩ = some s1.v := hs.cellOf (g := b) (cs := bkC s1) (t := 107) (by simp [bkE]) 0 rfl
      have x2 : wr.cell? ⟨b, 2, none⟩ = some (.int .i64 (s1.at_ : Int)) := hs.cellOf (g := b) (cs := bkC s1) (t := 107) (by simp [bkE]) 2 rfl
      have f2 := hs.freeOf (g := b) (cs := bkC s1) (t := 107) (by simp [bkE]) 2
      rw [e1] at x0
      have hp := (hs.re (M := B b (bkC s1) 107 :: (bkR s1 ++ (blkE s1.Bs ++ R))) (fun x => by simp only [bkE, cnt_append, cnt_cons]; omega)).put (cs' := bkC { s1 with at_ := s1.kept.length }) 2 (.int .i64 (s1.kept.length : Int)) rfl
      have HP := Lib.hid hp
      have HG := Lib.hid hgr
      clear hp hgr hs e1
      go_wp2_with fail
      go_end0
      exact ⟨rfl, { s1 with at_ := s1.kept.length }, HG.out.fin HV.out, HG.out.turn, HG.out.done, HP.out.re (fun x => by simp only [bkE, bkR, cnt_append, cnt_cons]; omega)⟩
end Go.Proofs.Ytfmggmpllggbnaa.Book
