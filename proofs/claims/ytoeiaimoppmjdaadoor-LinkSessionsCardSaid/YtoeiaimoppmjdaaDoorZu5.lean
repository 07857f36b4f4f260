/- Merged by merge2.py out of the texts: PTick, PHear, PTurn, Quiet, Sess. -/
import Derived.Test.YtoeiaimoppmjdaaDoorZu4
import Derived.Test.YtoeiaimoppmjdaaDoorZu2
import Derived.Test.YtoeiaimoppmjdaaDoorZu3
import Derived.Deep.LoopGhost
/- A side of a pair ticks: the walk. Printed by gen_ptick.py. -/
namespace Go.Proofs.YtoeiaimoppmjdaaDoor.Lk
open Go.RowKit Go.Proofs.YtoeiaimoppmjdaaDoorW.PrintWords Go.Proofs.YtoeiaimoppmjdaaDoor.Mem Go.Proofs.YtoeiaimoppmjdaaDoor.Wr Go.Proofs.YtoeiaimoppmjdaaDoor.Bytes Go.Proofs.YtoeiaimoppmjdaaDoor.App
set_option linter.unusedVariables false
set_option linter.unusedSimpArgs false
theorem tickP_known (s : LS) : (tickP s).known = s.known := by obtain ⟨a, b, e⟩ := paced_same s; unfold tickP; rw [e]
set_option maxRecDepth 20000 in
set_option maxHeartbeats 6400000 in
theorem ptick_calls {w0 W : World} {R : List Ent} {gp g : Nat} {p : PS} {s : LS} {fs : List SF} (i : Nat) (hi : i < 2) (h : St w0 W (B gp (pC p) 86 :: (lkE g s ++ (sentE p.sent fs ++ R)))) (hl : p.l i = pt g) (hV : LkV s) (hS : SentV p.sent fs)
    (hme : s.me = 5 * (i : Int)) (hot : s.other = 5 - 5 * (i : Int)) (hlf : p.life i = s.life) (hlf2 : 1 ≤ s.life ∧ s.life ≤ 1099511627776) (hkn : s.known ≤ 1099511627776) (hhe : s.heard ≤ 1099511627776) (hgo : s.gone + s.items.length < 1099511627776) (hou : s.out < 18446744073709551616) (hni : s.items.length ≤ 900) (hwi : s.window = p.window) (hw : 1 ≤ p.window ∧ p.window ≤ 64) (hfs : fs.length ≤ 900000)
    (ht : ErrTab w0) (hz : 0 < w0.heap.size) :
    Calls Tryd.prog 88 #[pt gp, .int .i64 i] W fun e w' => e = .returned (.bool (decide (((saidP s).length : Int) ≤ p.window))) ∧ ∃ sv ns, ns.map (fun x => x.2) = saidP s ∧ SentV sv (fs ++ ns) ∧ LkV (tickP s) ∧ St w0 w' (B gp (pC { p with sent := sv }) 86 :: (lkE g (tickP s) ++ (sentE sv (fs ++ ns) ++ R))) := by
  have i1 : (0 : Int) ≤ (i : Int) := by omega
  have i2 : (i : Int) < 2 := by omega
  have u5 : IntKind.i64.wrap (5 * (i : Int)) = 5 * (i : Int) := IntWalk.i64_in _ ⟨by omega, by omega⟩
  have u6 : IntKind.i64.wrap (5 - 5 * (i : Int)) = 5 - 5 * (i : Int) := IntWalk.i64_in _ ⟨by omega, by omega⟩
  have x4 : W.cell? ⟨gp, 4 + i, none⟩ = some (pt g) := h.cellOf (g := gp) (cs := pC p) (t := 86) (by simp) (4 + i) (by rw [pC_l p hi, hl])
  have CT := Lib.hid (tick_calls w0 W (B gp (pC p) 86 :: (sentE p.sent fs ++ R)) g s (h.re (fun x => by simp only [cnt_append, cnt_cons]; omega)) hV (by omega) (by omega) hou hni)
  have HF : Hid (∀ F, F ∈ saidP s → Fit F ∧ Byt F.body ∧ F.src = s.me ∧ F.dst = s.other ∧ F.mine = s.life ∧ F.yours = s.known) := said_fit hV (by omega) (by omega) hlf2 hkn hhe (by omega)
  have HI := Lib.hid hi
  have HL := Lib.hid hl
  have HS := Lib.hid hS
  have HME := Lib.hid hme
  have HOT := Lib.hid hot
  have HLF := Lib.hid hlf
  have HW := Lib.hid hw
  have HFS := Lib.hid hfs
  have HT := Lib.hid ht
  have HZ := Lib.hid hz
  have HSL : Hid ((saidP s).length ≤ 901) := by
    show _ ≤ _
    unfold saidP; split
    · simp
    · unfold rowP'; split
      · have := sayTo_len s (timeP s) (mayP s)
        have h2 : mayP s ≤ s.items.length := Nat.min_le_left _ _
        omega
      · simp
  clear h hi hl hV hS hme hot hlf hlf2 hkn hhe hgo hou hni hwi hw hfs ht hz
  go_enter Tryd.func88, Tryd.ntmps88
  go_wp2_with fail
  refine CT.out.mono ?_; rintro e w1 ⟨ov, l, rfl, hov, hll, hV1, hs1⟩
  obtain ⟨n, hn⟩ : ∃ n, n = l.length := ⟨_, rfl⟩
  have hnl : n = (saidP s).length := by have := congrArg List.length hll; simp at this; rw [hn, this]
  obtain ⟨Ao, co, rfl⟩ := row_form hov.row
  have h1 : St w0 w1 (B gp (pC { p with sent := p.sent }) 86 :: (lkE g (tickP s) ++ (sentE p.sent (fs ++ []) ++ (outE (.slice Ao l.length co) l ++ R)))) := by
    rw [List.append_nil]; exact hs1.re (fun x => by simp only [cnt_append, cnt_cons]; omega)
  have H1 := Lib.hid h1
  have HOV := Lib.hid hov
  have HLL := Lib.hid hll
  have HV1 := Lib.hid hV1
  have HN := Lib.hid hn
  have HNL := Lib.hid hnl
  have n9 : n ≤ 901 := by have := HSL.out; omega
  rw [← hn]
  clear CT hs1 h1 hov hll hV1 hn hnl x4
  go_wp2_with fail
  go_loopg [6] n (fun gk s6 wr => ∃ j : Nat, gk = n - j ∧ j ≤ n ∧ s6 = .int .i64 j ∧ ∃ sv ns, ns.map (fun x => x.2) = (saidP s).take j ∧ SentV sv (fs ++ ns) ∧ St w0 wr (B gp (pC { p with sent := sv }) 86 :: (lkE g (tickP s) ++ (sentE sv (fs ++ ns) ++ (outE (.slice Ao l.length co) l ++ R)))))
  case atStart => exact ⟨0, rfl, Nat.zero_le _, rfl, p.sent, [], rfl, by rw [List.append_nil]; exact HS.out, H1.out⟩
  case round =>
    obtain ⟨j, hgk, hj, rfl, sv, ns, hns, hsv, hs⟩ := hrel
    have HGK := Lib.hid hgk
    have HNS := Lib.hid hns
    have HSV := Lib.hid hsv
    have HST := Lib.hid hs
    clear hgk hns hsv hs
    by_cases hlt : j < n
    · have j1 : (j : Int) < (n : Int) := by omega
      have j2 : (0 : Int) ≤ (j : Int) := by omega
      have hjl : j < l.length := by rw [← HN.out]; exact hlt
      have hjs : j < (saidP s).length := by rw [← HNL.out]; exact hlt
      obtain ⟨go, rfl⟩ : ∃ go, Ao = some ⟨go, 0, none⟩ := by
        rcases HOV.out.row.2 with ⟨q1, q2⟩ | ⟨go, _, q1, _⟩
        · omega
        · injection q1 with q1; exact ⟨go, q1⟩
      obtain ⟨F, hF⟩ : ∃ F, F = (saidP s)[j] := ⟨_, rfl⟩
      have hFm : F ∈ saidP s := by rw [hF]; exact List.getElem_mem _
      obtain ⟨hfit, hfb, f0, f1, f2, f3⟩ := HF.out F hFm
      obtain ⟨it, hit⟩ : ∃ it, it = l[j] := ⟨_, rfl⟩
      have him : it ∈ l := by rw [hit]; exact List.getElem_mem _
      have hib := HOV.out.by_ it him
      have hie : it.2 = encF F := by
        have e : (l.map fun i => i.2)[j]? = ((saidP s).map encF)[j]? := by rw [HLL.out]
        rw [List.getElem?_map, List.getElem?_map, List.getElem?_eq_getElem hjl, List.getElem?_eq_getElem hjs] at e
        simp only [Option.map_some, Option.some.injEq] at e
        rw [hit, hF]; exact e
      have zc := (St.at (HST.out.re (M := rowE (.slice (some ⟨go, 0, none⟩) l.length co) 22 1 l.length (l.map fun i => i.1) ++ []) (fun x => by simp only [outE, cnt_append, cnt_cons, cnt_nil]; omega)) j (by simp; exact hjl) (by simp)).1
      rw [List.getElem?_map, List.getElem?_eq_getElem hjl, Option.map_some, ← hit] at zc
      have hcb := flat_le l it him
      obtain ⟨iv, ys⟩ := it
      simp only at hib zc hcb hie
      subst hie
      obtain ⟨Ai, ci, rfl⟩ := byV_form hib
      have hry := by_reads HST.out (fun x => by have := hcb x; simp only [outE, cnt_append, cnt_cons]; omega) hib
      have CD := Lib.hid (dec_calls (encF F) Ai ci wr hry (encF_byt' hfb) (HT.out.below HST.out.bl HZ.out) (Nat.lt_of_lt_of_le HZ.out HST.out.bl.size) (by have := encF_len hfit; omega))
      have HFIT := Lib.hid hfit
      have HFB := Lib.hid hfb
      have F0 : Hid (F.src = 5 * (i : Int)) := by show _ = _; rw [f0, HME.out]
      have F1 : Hid (F.dst = 5 - 5 * (i : Int)) := by show _ = _; rw [f1, HOT.out]
      have F2 : Hid (F.mine = p.life i) := by show _ = _; rw [f2, HLF.out]
      have F3 := Lib.hid f3
      have HFT : Hid ((saidP s).take (j + 1) = (saidP s).take j ++ [F]) := by show _ = _; rw [hF, List.take_succ_eq_append_getElem hjs]
      have HLT := Lib.hid hlt
      clear hjl hjs hF hFm hfit hfb f0 f1 f2 f3 hit him hib hcb hry hlt
      go_wp2_with fail
      refine CD.out.mono ?_; rintro e w3 hpost
      obtain ⟨ok, rd⟩ := dec_enc HFIT.out
      rcases hpost with ⟨_, A7, c7, rfl, hb7, h7⟩ | ⟨h, _⟩
      rotate_left
      · rw [ok] at h; cases h
      rw [rd] at hb7 h7 ⊢
      have h8 := St.lift HST.out h7
      obtain ⟨W8, hW8⟩ : ∃ W8, W8 = w3.alloc (.cells (frC F A7 c7) 69) := ⟨_, rfl⟩
      obtain ⟨bd, hbd⟩ : ∃ bd, bd = w3.heap.size := ⟨_, rfl⟩
      have h9 := h8.newB (frC F A7 c7) 69
      rw [← hW8, ← hbd] at h9
      have hd := h9.drew
      have HALL : Hid (W8.drew.cell? ⟨bd, 0, none⟩ = some (.int .i64 (5 * (i : Int))) ∧ W8.drew.cell? ⟨bd, 1, none⟩ = some (.int .i64 (5 - 5 * (i : Int))) ∧ W8.drew.cell? ⟨bd, 2, none⟩ = some (.int .u64 (p.life i : Int)) ∧ W8.drew.cell? ⟨bd, 3, none⟩ = some (.int .u64 (s.known : Int)) ∧ W8.drew.cell? ⟨gp, 2 + i, none⟩ = some (.int .u64 (p.life i : Int)) ∧ W8.drew.cell? ⟨gp, 4 + i, none⟩ = some (pt g)) := ⟨by have : W8.drew.cell? ⟨bd, 0, none⟩ = some (.int .i64 F.src) := hd.cellOf (g := bd) (cs := frC F A7 c7) (t := 69) (by simp) 0 rfl; rw [F0.out] at this; exact this, by have : W8.drew.cell? ⟨bd, 1, none⟩ = some (.int .i64 F.dst) := hd.cellOf (g := bd) (cs := frC F A7 c7) (t := 69) (by simp) 1 rfl; rw [F1.out] at this; exact this, by have : W8.drew.cell? ⟨bd, 2, none⟩ = some (.int .u64 (F.mine : Int)) := hd.cellOf (g := bd) (cs := frC F A7 c7) (t := 69) (by simp) 2 rfl; rw [F2.out] at this; exact this, by have : W8.drew.cell? ⟨bd, 3, none⟩ = some (.int .u64 (F.yours : Int)) := hd.cellOf (g := bd) (cs := frC F A7 c7) (t := 69) (by simp) 3 rfl; rw [F3.out] at this; exact this, hd.cellOf (g := gp) (cs := pC { p with sent := sv }) (t := 86) (by simp) (2 + i) (pC_life _ HI.out), hd.cellOf (g := gp) (cs := pC { p with sent := sv }) (t := 86) (by simp) (4 + i) (by rw [pC_l _ HI.out]; exact congrArg some HL.out)⟩
      have cl := llife_calls (g := g) (s := tickP s) (W := W8.drew) (w0 := w0) (hd.re (M := lkE g (tickP s) ++ []) (fun x => by simp only [cnt_append, cnt_cons, cnt_nil]; omega))
      rw [tickP_known] at cl
      have CL := Lib.hid cl
      have H9 := Lib.hid h9
      have HB7 := Lib.hid hb7
      have HW8 := Lib.hid hW8
      have HBD := Lib.hid hbd
      clear CD h7 h8 h9 hb7 hW8 hbd hd cl ok rd zc
      go_upto_region 6 with fail
      rw [← HW8.out, ← HBD.out]
      go_cut [69] (fun s69 wx => s69 = .bool false ∧ wx = W8.drew)
      case first =>
        have SM : ∀ (bb0 : Bool) (w9 : World), (fun (_ : Bool) (w9 : World) => w9.cell? ⟨bd, 0, none⟩ = some (.int .i64 (5 * (i : Int))) ∧ w9.cell? ⟨bd, 1, none⟩ = some (.int .i64 (5 - 5 * (i : Int))) ∧ w9.cell? ⟨bd, 2, none⟩ = some (.int .u64 (p.life i : Int)) ∧ w9.cell? ⟨bd, 3, none⟩ = some (.int .u64 (s.known : Int)) ∧ w9.cell? ⟨gp, 2 + i, none⟩ = some (.int .u64 (p.life i : Int)) ∧ w9.cell? ⟨gp, 4 + i, none⟩ = some (pt g)) bb0 w9 → (fun (_ : Bool) (w9 : World) => w9.cell? ⟨bd, 0, none⟩ = some (.int .i64 (5 * (i : Int))) ∧ w9.cell? ⟨bd, 1, none⟩ = some (.int .i64 (5 - 5 * (i : Int))) ∧ w9.cell? ⟨bd, 2, none⟩ = some (.int .u64 (p.life i : Int)) ∧ w9.cell? ⟨bd, 3, none⟩ = some (.int .u64 (s.known : Int)) ∧ w9.cell? ⟨gp, 2 + i, none⟩ = some (.int .u64 (p.life i : Int)) ∧ w9.cell? ⟨gp, 4 + i, none⟩ = some (pt g)) true w9 := fun _ _ h => h
        refine RegL.begin_of (k := 99) (S := fun (_ : Bool) (w9 : World) => w9.cell? ⟨bd, 0, none⟩ = some (.int .i64 (5 * (i : Int))) ∧ w9.cell? ⟨bd, 1, none⟩ = some (.int .i64 (5 - 5 * (i : Int))) ∧ w9.cell? ⟨bd, 2, none⟩ = some (.int .u64 (p.life i : Int)) ∧ w9.cell? ⟨bd, 3, none⟩ = some (.int .u64 (s.known : Int)) ∧ w9.cell? ⟨gp, 2 + i, none⟩ = some (.int .u64 (p.life i : Int)) ∧ w9.cell? ⟨gp, 4 + i, none⟩ = some (pt g)) (by kernel_rfl) ?_
        refine RegL.take_w (i := 0) (oi := ⟨some 30, _, _, _, _, _⟩) (v := ?_) SM rfl (by decide) (by kernel_rfl) (by kernel_rfl) (by kernel_rfl) (fun _ _ _ h => h) (Or.inl ⟨by rfl, ?_⟩) (HALL.out) ?_
        rotate_left
        · intro w9 hw9; obtain ⟨q1, q2, q3, q4, q5, q6⟩ := hw9; go_simp; try with_reducible rfl
        try simp only [Act.put, List.setIfInBounds_toArray, List.set_cons_zero, List.set_cons_succ]
        refine RegL.take_w (i := 1) (oi := ⟨some 31, _, _, _, _, _⟩) (v := ?_) SM rfl (by decide) (by kernel_rfl) (by kernel_rfl) (by kernel_rfl) (fun _ _ _ h => h) (Or.inl ⟨by rfl, ?_⟩) (HALL.out) ?_
        rotate_left
        · intro w9 hw9; obtain ⟨q1, q2, q3, q4, q5, q6⟩ := hw9; go_simp; try with_reducible rfl
        try simp only [Act.put, List.setIfInBounds_toArray, List.set_cons_zero, List.set_cons_succ]
        refine RegL.take_w (i := 2) (oi := ⟨some 32, _, _, _, _, _⟩) (v := ?_) SM rfl (by decide) (by kernel_rfl) (by kernel_rfl) (by kernel_rfl) (fun _ _ _ h => h) (Or.inl ⟨by rfl, ?_⟩) (HALL.out) ?_
        rotate_left
        · intro w9 hw9; obtain ⟨q1, q2, q3, q4, q5, q6⟩ := hw9; go_simp; try with_reducible rfl
        try simp only [Act.put, List.setIfInBounds_toArray, List.set_cons_zero, List.set_cons_succ]
        refine RegL.take_w (i := 3) (oi := ⟨some 33, _, _, _, _, _⟩) (v := ?_) SM rfl (by decide) (by kernel_rfl) (by kernel_rfl) (by kernel_rfl) (fun _ _ _ h => h) (Or.inl ⟨by rfl, ?_⟩) (HALL.out) ?_
        rotate_left
        · intro w9 hw9; obtain ⟨q1, q2, q3, q4, q5, q6⟩ := hw9; go_simp; try with_reducible rfl
        try simp only [Act.put, List.setIfInBounds_toArray, List.set_cons_zero, List.set_cons_succ]
        refine RegL.take_w (i := 4) (oi := ⟨some 34, _, _, _, _, _⟩) (v := ?_) SM rfl (by decide) (by kernel_rfl) (by kernel_rfl) (by kernel_rfl) (fun _ _ _ h => h) (Or.inl ⟨by rfl, ?_⟩) (HALL.out) ?_
        rotate_left
        · intro w9 hw9; obtain ⟨q1, q2, q3, q4, q5, q6⟩ := hw9; go_simp; try with_reducible rfl
        try simp only [Act.put, List.setIfInBounds_toArray, List.set_cons_zero, List.set_cons_succ]
        refine RegL.take_w (i := 5) (oi := ⟨some 35, _, _, _, _, _⟩) (v := ?_) SM rfl (by decide) (by kernel_rfl) (by kernel_rfl) (by kernel_rfl) (fun _ _ _ h => h) (Or.inl ⟨by rfl, ?_⟩) (HALL.out) ?_
        rotate_left
        · intro w9 hw9; obtain ⟨q1, q2, q3, q4, q5, q6⟩ := hw9; go_simp; try with_reducible rfl
        try simp only [Act.put, List.setIfInBounds_toArray, List.set_cons_zero, List.set_cons_succ]
        refine RegL.take_w (i := 6) (oi := ⟨some 36, _, _, _, _, _⟩) (v := ?_) SM rfl (by decide) (by kernel_rfl) (by kernel_rfl) (by kernel_rfl) (fun _ _ _ h => h) (Or.inl ⟨by rfl, ?_⟩) (HALL.out) ?_
        rotate_left
        · intro w9 hw9; obtain ⟨q1, q2, q3, q4, q5, q6⟩ := hw9; go_simp; try with_reducible rfl
        try simp only [Act.put, List.setIfInBounds_toArray, List.set_cons_zero, List.set_cons_succ]
        refine RegL.take_w (i := 7) (oi := ⟨some 37, _, _, _, _, _⟩) (v := ?_) SM rfl (by decide) (by kernel_rfl) (by kernel_rfl) (by kernel_rfl) (fun _ _ _ h => h) (Or.inl ⟨by rfl, ?_⟩) (HALL.out) ?_
        rotate_left
        · intro w9 hw9; obtain ⟨q1, q2, q3, q4, q5, q6⟩ := hw9; go_simp; try with_reducible rfl
        try simp only [Act.put, List.setIfInBounds_toArray, List.set_cons_zero, List.set_cons_succ]
        refine RegL.take_w (i := 8) (oi := ⟨some 38, _, _, _, _, _⟩) (v := ?_) SM rfl (by decide) (by kernel_rfl) (by kernel_rfl) (by kernel_rfl) (fun _ _ _ h => h) (Or.inl ⟨by rfl, ?_⟩) (HALL.out) ?_
        rotate_left
        · intro w9 hw9; obtain ⟨q1, q2, q3, q4, q5, q6⟩ := hw9; go_simp; try with_reducible rfl
        try simp only [Act.put, List.setIfInBounds_toArray, List.set_cons_zero, List.set_cons_succ]
        refine RegL.take_w (i := 9) (oi := ⟨some 39, _, _, _, _, _⟩) (v := ?_) SM rfl (by decide) (by kernel_rfl) (by kernel_rfl) (by kernel_rfl) (fun _ _ _ h => h) (Or.inl ⟨by rfl, ?_⟩) (HALL.out) ?_
        rotate_left
        · intro w9 hw9; obtain ⟨q1, q2, q3, q4, q5, q6⟩ := hw9; go_simp; try with_reducible rfl
        try simp only [Act.put, List.setIfInBounds_toArray, List.set_cons_zero, List.set_cons_succ]
        refine RegL.take_w (i := 10) (oi := ⟨some 40, _, _, _, _, _⟩) (v := ?_) SM rfl (by decide) (by kernel_rfl) (by kernel_rfl) (by kernel_rfl) (fun _ _ _ h => h) (Or.inl ⟨by rfl, ?_⟩) (HALL.out) ?_
        rotate_left
        · intro w9 hw9; obtain ⟨q1, q2, q3, q4, q5, q6⟩ := hw9; go_simp; try with_reducible rfl
        try simp only [Act.put, List.setIfInBounds_toArray, List.set_cons_zero, List.set_cons_succ]
        refine RegL.take_w (i := 11) (oi := ⟨some 41, _, _, _, _, _⟩) (v := ?_) SM rfl (by decide) (by kernel_rfl) (by kernel_rfl) (by kernel_rfl) (fun _ _ _ h => h) (Or.inl ⟨by rfl, ?_⟩) (HALL.out) ?_
        rotate_left
        · intro w9 hw9; obtain ⟨q1, q2, q3, q4, q5, q6⟩ := hw9; go_simp; try with_reducible rfl
        try simp only [Act.put, List.setIfInBounds_toArray, List.set_cons_zero, List.set_cons_succ]
        refine RegL.take_w (i := 12) (oi := ⟨some 42, _, _, _, _, _⟩) (v := ?_) SM rfl (by decide) (by kernel_rfl) (by kernel_rfl) (by kernel_rfl) (fun _ _ _ h => h) (Or.inl ⟨by rfl, ?_⟩) (HALL.out) ?_
        rotate_left
        · intro w9 hw9; obtain ⟨q1, q2, q3, q4, q5, q6⟩ := hw9; go_simp; try with_reducible rfl
        try simp only [Act.put, List.setIfInBounds_toArray, List.set_cons_zero, List.set_cons_succ]
        refine RegL.take_w (i := 13) (oi := ⟨some 43, _, _, _, _, _⟩) (v := ?_) SM rfl (by decide) (by kernel_rfl) (by kernel_rfl) (by kernel_rfl) (fun _ _ _ h => h) (Or.inl ⟨by rfl, ?_⟩) (HALL.out) ?_
        rotate_left
        · intro w9 hw9; obtain ⟨q1, q2, q3, q4, q5, q6⟩ := hw9; go_simp; try with_reducible rfl
        try simp only [Act.put, List.setIfInBounds_toArray, List.set_cons_zero, List.set_cons_succ]
        refine RegL.take_w (i := 14) (oi := ⟨some 44, _, _, _, _, _⟩) (v := ?_) SM rfl (by decide) (by kernel_rfl) (by kernel_rfl) (by kernel_rfl) (fun _ _ _ h => h) (Or.inl ⟨by rfl, ?_⟩) (HALL.out) ?_
        rotate_left
        · intro w9 hw9; obtain ⟨q1, q2, q3, q4, q5, q6⟩ := hw9; go_simp; try with_reducible rfl
        try simp only [Act.put, List.setIfInBounds_toArray, List.set_cons_zero, List.set_cons_succ]
        refine RegL.take_w (i := 15) (oi := ⟨some 45, _, _, _, _, _⟩) (v := ?_) SM rfl (by decide) (by kernel_rfl) (by kernel_rfl) (by kernel_rfl) (fun _ _ _ h => h) (Or.inl ⟨by rfl, ?_⟩) (HALL.out) ?_
        rotate_left
        · intro w9 hw9; obtain ⟨q1, q2, q3, q4, q5, q6⟩ := hw9; go_simp; try with_reducible rfl
        try simp only [Act.put, List.setIfInBounds_toArray, List.set_cons_zero, List.set_cons_succ]
        refine RegL.take_w (i := 16) (oi := ⟨some 46, _, _, _, _, _⟩) (v := ?_) SM rfl (by decide) (by kernel_rfl) (by kernel_rfl) (by kernel_rfl) (fun _ _ _ h => h) (Or.inl ⟨by rfl, ?_⟩) (HALL.out) ?_
        rotate_left
        · intro w9 hw9; obtain ⟨q1, q2, q3, q4, q5, q6⟩ := hw9; go_simp; try with_reducible rfl
        try simp only [Act.put, List.setIfInBounds_toArray, List.set_cons_zero, List.set_cons_succ]
        refine RegL.take_w (i := 17) (oi := ⟨some 47, _, _, _, _, _⟩) (v := ?_) SM rfl (by decide) (by kernel_rfl) (by kernel_rfl) (by kernel_rfl) (fun _ _ _ h => h) (Or.inl ⟨by rfl, ?_⟩) (HALL.out) ?_
        rotate_left
        · intro w9 hw9; obtain ⟨q1, q2, q3, q4, q5, q6⟩ := hw9; go_simp; try with_reducible rfl
        try simp only [Act.put, List.setIfInBounds_toArray, List.set_cons_zero, List.set_cons_succ]
        refine RegL.take_w (i := 18) (oi := ⟨some 48, _, _, _, _, _⟩) (v := ?_) SM rfl (by decide) (by kernel_rfl) (by kernel_rfl) (by kernel_rfl) (fun _ _ _ h => h) (Or.inl ⟨by rfl, ?_⟩) (HALL.out) ?_
        rotate_left
        · intro w9 hw9; obtain ⟨q1, q2, q3, q4, q5, q6⟩ := hw9; go_simp; try with_reducible rfl
        try simp only [Act.put, List.setIfInBounds_toArray, List.set_cons_zero, List.set_cons_succ]
        refine RegL.take_w (i := 19) (oi := ⟨some 49, _, _, _, _, _⟩) (v := ?_) SM rfl (by decide) (by kernel_rfl) (by kernel_rfl) (by kernel_rfl) (fun _ _ _ h => h) (Or.inl ⟨by rfl, ?_⟩) (HALL.out) ?_
        rotate_left
        · intro w9 hw9; obtain ⟨q1, q2, q3, q4, q5, q6⟩ := hw9; go_simp; try with_reducible rfl
        try simp only [Act.put, List.setIfInBounds_toArray, List.set_cons_zero, List.set_cons_succ]
        refine RegL.take_w (i := 20) (oi := ⟨some 50, _, _, _, _, _⟩) (v := ?_) SM rfl (by decide) (by kernel_rfl) (by kernel_rfl) (by kernel_rfl) (fun _ _ _ h => h) (Or.inl ⟨by rfl, ?_⟩) (HALL.out) ?_
        rotate_left
        · intro w9 hw9; obtain ⟨q1, q2, q3, q4, q5, q6⟩ := hw9; go_simp; try with_reducible rfl
        try simp only [Act.put, List.setIfInBounds_toArray, List.set_cons_zero, List.set_cons_succ]
        refine RegL.take_w (i := 21) (oi := ⟨some 51, _, _, _, _, _⟩) (v := ?_) SM rfl (by decide) (by kernel_rfl) (by kernel_rfl) (by kernel_rfl) (fun _ _ _ h => h) (Or.inl ⟨by rfl, ?_⟩) (HALL.out) ?_
        rotate_left
        · intro w9 hw9; obtain ⟨q1, q2, q3, q4, q5, q6⟩ := hw9; go_simp; try with_reducible rfl
        try simp only [Act.put, List.setIfInBounds_toArray, List.set_cons_zero, List.set_cons_succ]
        refine RegL.take_w (i := 22) (oi := ⟨some 52, _, _, _, _, _⟩) (v := ?_) SM rfl (by decide) (by kernel_rfl) (by kernel_rfl) (by kernel_rfl) (fun _ _ _ h => h) (Or.inl ⟨by rfl, ?_⟩) (HALL.out) ?_
        rotate_left
        · intro w9 hw9; obtain ⟨q1, q2, q3, q4, q5, q6⟩ := hw9; go_simp; try with_reducible rfl
        try simp only [Act.put, List.setIfInBounds_toArray, List.set_cons_zero, List.set_cons_succ]
        refine RegL.take_w (i := 23) (oi := ⟨some 53, _, _, _, _, _⟩) (v := ?_) SM rfl (by decide) (by kernel_rfl) (by kernel_rfl) (by kernel_rfl) (fun _ _ _ h => h) (Or.inl ⟨by rfl, ?_⟩) (HALL.out) ?_
        rotate_left
        · intro w9 hw9; obtain ⟨q1, q2, q3, q4, q5, q6⟩ := hw9; go_simp; try with_reducible rfl
        try simp only [Act.put, List.setIfInBounds_toArray, List.set_cons_zero, List.set_cons_succ]
        refine RegL.take_w (i := 24) (oi := ⟨some 54, _, _, _, _, _⟩) (v := ?_) SM rfl (by decide) (by kernel_rfl) (by kernel_rfl) (by kernel_rfl) (fun _ _ _ h => h) (Or.inl ⟨by rfl, ?_⟩) (HALL.out) ?_
        rotate_left
        · intro w9 hw9; obtain ⟨q1, q2, q3, q4, q5, q6⟩ := hw9; go_simp; try with_reducible rfl
        try simp only [Act.put, List.setIfInBounds_toArray, List.set_cons_zero, List.set_cons_succ]
        refine RegL.take_w (i := 25) (oi := ⟨some 55, _, _, _, _, _⟩) (v := ?_) SM rfl (by decide) (by kernel_rfl) (by kernel_rfl) (by kernel_rfl) (fun _ _ _ h => h) (Or.inl ⟨by rfl, ?_⟩) (HALL.out) ?_
        rotate_left
        · intro w9 hw9; obtain ⟨q1, q2, q3, q4, q5, q6⟩ := hw9; go_simp; try with_reducible rfl
        try simp only [Act.put, List.setIfInBounds_toArray, List.set_cons_zero, List.set_cons_succ]
        refine RegL.take_w (i := 26) (oi := ⟨some 56, _, _, _, _, _⟩) (v := ?_) SM rfl (by decide) (by kernel_rfl) (by kernel_rfl) (by kernel_rfl) (fun _ _ _ h => h) (Or.inl ⟨by rfl, ?_⟩) (HALL.out) ?_
        rotate_left
        · intro w9 hw9; obtain ⟨q1, q2, q3, q4, q5, q6⟩ := hw9; go_simp; try with_reducible rfl
        try simp only [Act.put, List.setIfInBounds_toArray, List.set_cons_zero, List.set_cons_succ]
        refine RegL.take_w (i := 27) (oi := ⟨some 57, _, _, _, _, _⟩) (v := ?_) SM rfl (by decide) (by kernel_rfl) (by kernel_rfl) (by kernel_rfl) (fun _ _ _ h => h) (Or.inl ⟨by rfl, ?_⟩) (HALL.out) ?_
        rotate_left
        · intro w9 hw9; obtain ⟨q1, q2, q3, q4, q5, q6⟩ := hw9; go_simp; try with_reducible rfl
        try simp only [Act.put, List.setIfInBounds_toArray, List.set_cons_zero, List.set_cons_succ]
        refine RegL.take_w (i := 28) (oi := ⟨some 58, _, _, _, _, _⟩) (v := ?_) SM rfl (by decide) (by kernel_rfl) (by kernel_rfl) (by kernel_rfl) (fun _ _ _ h => h) (Or.inl ⟨by rfl, ?_⟩) (HALL.out) ?_
        rotate_left
        · intro w9 hw9; obtain ⟨q1, q2, q3, q4, q5, q6⟩ := hw9; go_simp; try with_reducible rfl
        try simp only [Act.put, List.setIfInBounds_toArray, List.set_cons_zero, List.set_cons_succ]
        refine RegL.take_w (i := 29) (oi := ⟨some 59, _, _, _, _, _⟩) (v := ?_) SM rfl (by decide) (by kernel_rfl) (by kernel_rfl) (by kernel_rfl) (fun _ _ _ h => h) (Or.inl ⟨by rfl, ?_⟩) (HALL.out) ?_
        rotate_left
        · intro w9 hw9; obtain ⟨q1, q2, q3, q4, q5, q6⟩ := hw9; go_simp; try with_reducible rfl
        try simp only [Act.put, List.setIfInBounds_toArray, List.set_cons_zero, List.set_cons_succ]
        refine RegL.take_w (i := 30) (oi := ⟨some 60, _, _, _, _, _⟩) (v := ?_) SM rfl (by decide) (by kernel_rfl) (by kernel_rfl) (by kernel_rfl) (fun _ _ _ h => h) (Or.inl ⟨by rfl, ?_⟩) (HALL.out) ?_
        rotate_left
        · intro w9 hw9; obtain ⟨q1, q2, q3, q4, q5, q6⟩ := hw9; go_simp; try with_reducible rfl
        try simp only [Act.put, List.setIfInBounds_toArray, List.set_cons_zero, List.set_cons_succ]
        refine RegL.take_w (i := 31) (oi := ⟨some 61, _, _, _, _, _⟩) (v := ?_) SM rfl (by decide) (by kernel_rfl) (by kernel_rfl) (by kernel_rfl) (fun _ _ _ h => h) (Or.inl ⟨by rfl, ?_⟩) (HALL.out) ?_
        rotate_left
        · intro w9 hw9; obtain ⟨q1, q2, q3, q4, q5, q6⟩ := hw9; go_simp; try with_reducible rfl
        try simp only [Act.put, List.setIfInBounds_toArray, List.set_cons_zero, List.set_cons_succ]
        refine RegL.take_w (i := 32) (oi := ⟨some 62, _, _, _, _, _⟩) (v := ?_) SM rfl (by decide) (by kernel_rfl) (by kernel_rfl) (by kernel_rfl) (fun _ _ _ h => h) (Or.inl ⟨by rfl, ?_⟩) (HALL.out) ?_
        rotate_left
        · intro w9 hw9; obtain ⟨q1, q2, q3, q4, q5, q6⟩ := hw9; go_simp; try with_reducible rfl
        try simp only [Act.put, List.setIfInBounds_toArray, List.set_cons_zero, List.set_cons_succ]
        refine RegL.take_w (i := 33) (oi := ⟨some 63, _, _, _, _, _⟩) (v := ?_) SM rfl (by decide) (by kernel_rfl) (by kernel_rfl) (by kernel_rfl) (fun _ _ _ h => h) (Or.inl ⟨by rfl, ?_⟩) (HALL.out) ?_
        rotate_left
        · intro w9 hw9; obtain ⟨q1, q2, q3, q4, q5, q6⟩ := hw9; go_simp; try with_reducible rfl
        try simp only [Act.put, List.setIfInBounds_toArray, List.set_cons_zero, List.set_cons_succ]
        refine RegL.take_w (i := 34) (oi := ⟨some 64, _, _, _, _, _⟩) (v := ?_) SM rfl (by decide) (by kernel_rfl) (by kernel_rfl) (by kernel_rfl) (fun _ _ _ h => h) (Or.inl ⟨by rfl, ?_⟩) (HALL.out) ?_
        rotate_left
        · intro w9 hw9; obtain ⟨q1, q2, q3, q4, q5, q6⟩ := hw9; go_simp; try with_reducible rfl
        try simp only [Act.put, List.setIfInBounds_toArray, List.set_cons_zero, List.set_cons_succ]
        refine RegL.take_w (i := 35) (oi := ⟨some 65, _, _, _, _, _⟩) (v := ?_) SM rfl (by decide) (by kernel_rfl) (by kernel_rfl) (by kernel_rfl) (fun _ _ _ h => h) (Or.inl ⟨by rfl, ?_⟩) (HALL.out) ?_
        rotate_left
        · intro w9 hw9; obtain ⟨q1, q2, q3, q4, q5, q6⟩ := hw9; go_simp; try with_reducible rfl
        try simp only [Act.put, List.setIfInBounds_toArray, List.set_cons_zero, List.set_cons_succ]
        refine RegL.take_w (i := 36) (oi := ⟨some 66, _, _, _, _, _⟩) (v := ?_) SM rfl (by decide) (by kernel_rfl) (by kernel_rfl) (by kernel_rfl) (fun _ _ _ h => h) (Or.inl ⟨by rfl, ?_⟩) (HALL.out) ?_
        rotate_left
        · intro w9 hw9; obtain ⟨q1, q2, q3, q4, q5, q6⟩ := hw9; go_simp; try with_reducible rfl
        try simp only [Act.put, List.setIfInBounds_toArray, List.set_cons_zero, List.set_cons_succ]
        refine RegL.step_of (i := 37) (o := ⟨some 67, _, _, _, _, _⟩) (by kernel_rfl) rfl (fun K' hK => ?_)
        go_simp
        go_at_call 59
        (with_reducible refine CL.out.mono ?_)
        rintro e w9 ⟨rfl, rfl⟩
        refine hK _ _ (HALL.out) ?_
        clear hK K'
        try simp only [Act.put, List.setIfInBounds_toArray, List.set_cons_zero, List.set_cons_succ]
        refine RegL.take_w (i := 38) (oi := ⟨some 68, _, _, _, _, _⟩) (v := ?_) SM rfl (by decide) (by kernel_rfl) (by kernel_rfl) (by kernel_rfl) (fun _ _ _ h => h) (Or.inl ⟨by rfl, ?_⟩) (HALL.out) ?_
        rotate_left
        · intro w9 hw9; obtain ⟨q1, q2, q3, q4, q5, q6⟩ := hw9; go_simp; try with_reducible rfl
        try simp only [Act.put, List.setIfInBounds_toArray, List.set_cons_zero, List.set_cons_succ]
        refine RegL.take_w (i := 39) (oi := ⟨some 69, _, _, _, _, _⟩) (v := ?_) SM rfl (by decide) (by kernel_rfl) (by kernel_rfl) (by kernel_rfl) (fun _ _ _ h => h) (Or.inl ⟨by rfl, ?_⟩) (HALL.out) ?_
        rotate_left
        · intro w9 hw9; obtain ⟨q1, q2, q3, q4, q5, q6⟩ := hw9; go_simp; try with_reducible rfl
        try simp only [Act.put, List.setIfInBounds_toArray, List.set_cons_zero, List.set_cons_succ]
        refine RegL.done_of (by kernel_rfl) ?_ _
        go_wp2_with fail
        go_meet
        exact ⟨rfl, rfl⟩
      case rest =>
        obtain ⟨hs69, hwc⟩ := hcut
        subst hs69
        rw [hwc]
        clear hwc HALL CL
        obtain ⟨As, cs, rfl⟩ := row_form HSV.out.row
        obtain ⟨N, hN⟩ : ∃ N, N = (fs ++ ns).length := ⟨_, rfl⟩
        have hN9 : N ≤ 901000 := by
          have q1 := congrArg List.length HNS.out
          rw [List.length_map, List.length_take] at q1
          have := HFS.out
          rw [hN, List.length_append]; omega
        obtain ⟨W10, hW10⟩ : ∃ W10, W10 = W8.drew := ⟨_, rfl⟩
        have h10 := H9.out.drew
        rw [← hW10] at h10 ⊢
        have hd := h10.drew
        obtain ⟨Wb, hWb⟩ : ∃ Wb, Wb = (W10.alloc (.cells (frC F A7 c7) 69)).drew := ⟨_, rfl⟩
        obtain ⟨bb, hbb⟩ : ∃ bb, bb = W10.heap.size := ⟨_, rfl⟩
        have hb : St w0 ((W10.alloc (.cells (frC F A7 c7) 69)).drew) (B W10.heap.size (frC F A7 c7) 69 :: _) := hd.newB (frC F A7 c7) 69
        rw [← hWb, ← hbb] at hb
        rw [← hN] at hd hb
        have hx : ∀ (k : Nat) (u : Value), (frV F (.slice A7 F.body.length c7)).toList[k]? = some u → Wb.cell? ((⟨bb, 0, none⟩ : Addr).add k) = some u := by
          intro k u hu
          rw [Addr.add_mid, Nat.zero_add, cell_of_row _ _ _ _ _ _ hb.hd]
          rw [← hu]
          exact (Array.getElem?_toList ..).symm
        obtain ⟨A2, c2, Wa, hrun, ha, hva⟩ := sent_append (w0 := w0) (W := Wb) (sv := .slice As (fs ++ ns).length cs) (fs := fs ++ ns) (hb.re (M := rowE (.slice As (fs ++ ns).length cs) 69 7 (fs ++ ns).length (frsL (fs ++ ns)) ++ (B bd (frC F A7 c7) 69 :: (B gp (pC { p with sent := .slice As N cs }) 86 :: (byR (.slice A7 F.body.length c7) F.body ++ ((fs ++ ns).flatMap (fun x => byR x.1 x.2.body) ++ (lkE g (tickP s) ++ (outE (.slice (some ⟨go, 0, none⟩) l.length co) l ++ R))))))) (fun x => by simp only [sentE, hN, cnt_append, cnt_cons]; omega)) HSV.out.row F (.slice A7 F.body.length c7) (by omega) ⟨bb, 0, none⟩ 1 rfl hx
        rw [← hN] at hrun ha hva
        have za6 : Wa.cell? ⟨gp, 6, none⟩ = some (.slice As N cs) := ha.cellOf (g := gp) (cs := pC { p with sent := .slice As N cs }) (t := 86) (by simp) 6 rfl
        have fza6 := ha.freeOf (g := gp) (cs := pC { p with sent := .slice As N cs }) (t := 86) (by simp) 6
        have hc := (ha.re (M := B gp (pC { p with sent := .slice As N cs }) 86 :: (B bd (frC F A7 c7) 69 :: (rowE (.slice A2 (N + 1) c2) 69 7 (N + 1) (frsL ((fs ++ ns) ++ [(.slice A7 F.body.length c7, F)])) ++ (byR (.slice A7 F.body.length c7) F.body ++ ((fs ++ ns).flatMap (fun x => byR x.1 x.2.body) ++ (lkE g (tickP s) ++ (outE (.slice (some ⟨go, 0, none⟩) l.length co) l ++ R))))))) (fun x => by simp only [cnt_append, cnt_cons]; omega)).put (cs' := pC { p with sent := .slice A2 (N + 1) c2 }) 6 (.slice A2 (N + 1) c2) rfl
        have MK : ∀ (w9 : World) (L : List Ent), St w0 w9 L → B bd (frC F A7 c7) 69 ∈ L → w9.cell? ⟨bd, 0, none⟩ = some (.int .i64 F.src) ∧ w9.cell? ⟨bd, 1, none⟩ = some (.int .i64 F.dst) ∧ w9.cell? ⟨bd, 2, none⟩ = some (.int .u64 (F.mine : Int)) ∧ w9.cell? ⟨bd, 3, none⟩ = some (.int .u64 (F.yours : Int)) ∧ w9.cell? ⟨bd, 4, none⟩ = some (.int .u64 (F.seq : Int)) ∧ w9.cell? ⟨bd, 5, none⟩ = some (.int .u64 (F.ack : Int)) ∧ w9.cell? ⟨bd, 6, none⟩ = some (.slice A7 F.body.length c7) := fun w9 L h hm => ⟨h.cellOf hm 0 rfl, h.cellOf hm 1 rfl, h.cellOf hm 2 rfl, h.cellOf hm 3 rfl, h.cellOf hm 4 rfl, h.cellOf hm 5 rfl, h.cellOf hm 6 rfl⟩
        have HALL : Hid (∀ bb1 : Bool, (W10.drew.cell? ⟨bd, 0, none⟩ = some (.int .i64 F.src) ∧ W10.drew.cell? ⟨bd, 1, none⟩ = some (.int .i64 F.dst) ∧ W10.drew.cell? ⟨bd, 2, none⟩ = some (.int .u64 (F.mine : Int)) ∧ W10.drew.cell? ⟨bd, 3, none⟩ = some (.int .u64 (F.yours : Int)) ∧ W10.drew.cell? ⟨bd, 4, none⟩ = some (.int .u64 (F.seq : Int)) ∧ W10.drew.cell? ⟨bd, 5, none⟩ = some (.int .u64 (F.ack : Int)) ∧ W10.drew.cell? ⟨bd, 6, none⟩ = some (.slice A7 F.body.length c7)) ∧ (bb1 = false → W10.drew.cell? ⟨gp, 6, none⟩ = some (.slice As N cs))) := fun _ => ⟨MK _ _ hd (by simp), fun _ => hd.cellOf (g := gp) (cs := pC { p with sent := .slice As N cs }) (t := 86) (by simp) 6 rfl⟩
        have M2 : Hid ((Wb.cell? ⟨bd, 0, none⟩ = some (.int .i64 F.src) ∧ Wb.cell? ⟨bd, 1, none⟩ = some (.int .i64 F.dst) ∧ Wb.cell? ⟨bd, 2, none⟩ = some (.int .u64 (F.mine : Int)) ∧ Wb.cell? ⟨bd, 3, none⟩ = some (.int .u64 (F.yours : Int)) ∧ Wb.cell? ⟨bd, 4, none⟩ = some (.int .u64 (F.seq : Int)) ∧ Wb.cell? ⟨bd, 5, none⟩ = some (.int .u64 (F.ack : Int)) ∧ Wb.cell? ⟨bd, 6, none⟩ = some (.slice A7 F.body.length c7)) ∧ Wb.cell? ⟨gp, 6, none⟩ = some (.slice As N cs)) := ⟨MK _ _ hb (by simp), hb.cellOf (g := gp) (cs := pC { p with sent := .slice As N cs }) (t := 86) (by simp) 6 rfl⟩
        have M3 : Hid (Wa.cell? ⟨bd, 0, none⟩ = some (.int .i64 F.src) ∧ Wa.cell? ⟨bd, 1, none⟩ = some (.int .i64 F.dst) ∧ Wa.cell? ⟨bd, 2, none⟩ = some (.int .u64 (F.mine : Int)) ∧ Wa.cell? ⟨bd, 3, none⟩ = some (.int .u64 (F.yours : Int)) ∧ Wa.cell? ⟨bd, 4, none⟩ = some (.int .u64 (F.seq : Int)) ∧ Wa.cell? ⟨bd, 5, none⟩ = some (.int .u64 (F.ack : Int)) ∧ Wa.cell? ⟨bd, 6, none⟩ = some (.slice A7 F.body.length c7)) := MK _ _ ha (by simp)
        have M4 : Hid ((Wa.setCell ⟨gp, 6, none⟩ (.slice A2 (N + 1) c2)).cell? ⟨bd, 0, none⟩ = some (.int .i64 F.src) ∧ (Wa.setCell ⟨gp, 6, none⟩ (.slice A2 (N + 1) c2)).cell? ⟨bd, 1, none⟩ = some (.int .i64 F.dst) ∧ (Wa.setCell ⟨gp, 6, none⟩ (.slice A2 (N + 1) c2)).cell? ⟨bd, 2, none⟩ = some (.int .u64 (F.mine : Int)) ∧ (Wa.setCell ⟨gp, 6, none⟩ (.slice A2 (N + 1) c2)).cell? ⟨bd, 3, none⟩ = some (.int .u64 (F.yours : Int)) ∧ (Wa.setCell ⟨gp, 6, none⟩ (.slice A2 (N + 1) c2)).cell? ⟨bd, 4, none⟩ = some (.int .u64 (F.seq : Int)) ∧ (Wa.setCell ⟨gp, 6, none⟩ (.slice A2 (N + 1) c2)).cell? ⟨bd, 5, none⟩ = some (.int .u64 (F.ack : Int)) ∧ (Wa.setCell ⟨gp, 6, none⟩ (.slice A2 (N + 1) c2)).cell? ⟨bd, 6, none⟩ = some (.slice A7 F.body.length c7)) := MK _ _ hc (by simp)
        have HRUN := Lib.hid hrun
        have HC := Lib.hid hc
        have HVA := Lib.hid hva
        have HWb := Lib.hid hWb
        have HBB := Lib.hid hbb
        have HN2 := Lib.hid hN
        clear hW10 h10 hd hWb hbb hb hx hrun ha hva hc MK hN
        go_upto_region 8 with fail
        have SM : ∀ (bb0 : Bool) (w9 : World), (fun (bb1 : Bool) (w9 : World) => (w9.cell? ⟨bd, 0, none⟩ = some (.int .i64 F.src) ∧ w9.cell? ⟨bd, 1, none⟩ = some (.int .i64 F.dst) ∧ w9.cell? ⟨bd, 2, none⟩ = some (.int .u64 (F.mine : Int)) ∧ w9.cell? ⟨bd, 3, none⟩ = some (.int .u64 (F.yours : Int)) ∧ w9.cell? ⟨bd, 4, none⟩ = some (.int .u64 (F.seq : Int)) ∧ w9.cell? ⟨bd, 5, none⟩ = some (.int .u64 (F.ack : Int)) ∧ w9.cell? ⟨bd, 6, none⟩ = some (.slice A7 F.body.length c7)) ∧ (bb1 = false → w9.cell? ⟨gp, 6, none⟩ = some (.slice As N cs))) bb0 w9 → (fun (bb1 : Bool) (w9 : World) => (w9.cell? ⟨bd, 0, none⟩ = some (.int .i64 F.src) ∧ w9.cell? ⟨bd, 1, none⟩ = some (.int .i64 F.dst) ∧ w9.cell? ⟨bd, 2, none⟩ = some (.int .u64 (F.mine : Int)) ∧ w9.cell? ⟨bd, 3, none⟩ = some (.int .u64 (F.yours : Int)) ∧ w9.cell? ⟨bd, 4, none⟩ = some (.int .u64 (F.seq : Int)) ∧ w9.cell? ⟨bd, 5, none⟩ = some (.int .u64 (F.ack : Int)) ∧ w9.cell? ⟨bd, 6, none⟩ = some (.slice A7 F.body.length c7)) ∧ (bb1 = false → w9.cell? ⟨gp, 6, none⟩ = some (.slice As N cs))) true w9 := fun _ _ h => ⟨h.1, fun e => by cases e⟩
        refine RegL.begin_of (k := 7) (S := fun (bb1 : Bool) (w9 : World) => (w9.cell? ⟨bd, 0, none⟩ = some (.int .i64 F.src) ∧ w9.cell? ⟨bd, 1, none⟩ = some (.int .i64 F.dst) ∧ w9.cell? ⟨bd, 2, none⟩ = some (.int .u64 (F.mine : Int)) ∧ w9.cell? ⟨bd, 3, none⟩ = some (.int .u64 (F.yours : Int)) ∧ w9.cell? ⟨bd, 4, none⟩ = some (.int .u64 (F.seq : Int)) ∧ w9.cell? ⟨bd, 5, none⟩ = some (.int .u64 (F.ack : Int)) ∧ w9.cell? ⟨bd, 6, none⟩ = some (.slice A7 F.body.length c7)) ∧ (bb1 = false → w9.cell? ⟨gp, 6, none⟩ = some (.slice As N cs))) (by kernel_rfl) ?_
        refine RegL.take_w (i := 0) (oi := ⟨some 70, _, _, _, _, _⟩) (v := ?_) SM rfl (by decide) (by kernel_rfl) (by kernel_rfl) (by kernel_rfl) (fun _ _ _ h => h) (Or.inl ⟨by rfl, ?_⟩) (HALL.out _) ?_
        rotate_left
        · intro w9 hw9; obtain ⟨q1, q2⟩ := hw9; go_simp; try with_reducible rfl
        try simp only [Act.put, List.setIfInBounds_toArray, List.set_cons_zero, List.set_cons_succ]
        refine RegL.take_w (i := 1) (oi := ⟨some 71, _, _, _, _, _⟩) (v := ?_) SM rfl (by decide) (by kernel_rfl) (by kernel_rfl) (by kernel_rfl) (fun _ _ _ h => h) (Or.inl ⟨by rfl, ?_⟩) (HALL.out _) ?_
        rotate_left
        · intro w9 hw9; obtain ⟨q1, q2⟩ := hw9; go_simp; try with_reducible rfl
        try simp only [Act.put, List.setIfInBounds_toArray, List.set_cons_zero, List.set_cons_succ]
        refine RegL.take_w (i := 2) (oi := ⟨some 72, _, _, _, _, _⟩) (v := ?_) SM rfl (by decide) (by kernel_rfl) (by kernel_rfl) (by kernel_rfl) (fun _ _ _ h => h) (Or.inl ⟨by rfl, ?_⟩) (HALL.out _) ?_
        rotate_left
        · intro w9 hw9; obtain ⟨q1, q2⟩ := hw9; go_simp; try with_reducible rfl
        try simp only [Act.put, List.setIfInBounds_toArray, List.set_cons_zero, List.set_cons_succ]
        refine RegL.take_w (i := 3) (oi := ⟨some 73, _, _, _, _, _⟩) (v := ?_) SM rfl (by decide) (by kernel_rfl) (by kernel_rfl) (by kernel_rfl) (fun _ _ _ h => h) (Or.inl ⟨by rfl, ?_⟩) (HALL.out _) ?_
        rotate_left
        · intro w9 hw9; obtain ⟨q1, q2⟩ := hw9; go_simp; try with_reducible rfl
        try simp only [Act.put, List.setIfInBounds_toArray, List.set_cons_zero, List.set_cons_succ]
        refine RegL.take_s (i := 4) (oi := ⟨some 74, _, _, _, _, _⟩) (ok := ⟨some 77, _, _, _, _, _⟩) (v := ?_) rfl (by decide) rfl (by kernel_rfl) (by kernel_rfl) (by kernel_rfl) (by kernel_rfl) (by kernel_rfl) (fun _ _ _ h => h) (Or.inl ⟨by rfl, ?_⟩) (HALL.out _) ?_
        rotate_left
        · intro w9 hw9; have q1 := hw9.2 rfl; go_simp; try with_reducible rfl
        try simp only [Act.put, List.setIfInBounds_toArray, List.set_cons_zero, List.set_cons_succ]
        refine RegL.take_w (i := 5) (oi := ⟨some 75, _, _, _, _, _⟩) (v := .agg #[(.int .i64 F.src), (.int .i64 F.dst), (.int .u64 (F.mine : Int)), (.int .u64 (F.yours : Int)), (.int .u64 (F.seq : Int)), (.int .u64 (F.ack : Int)), (.slice A7 F.body.length c7)]) SM rfl (by decide) (by kernel_rfl) (by kernel_rfl) (by kernel_rfl) (fun _ _ _ h => h) (yieldsIf_load_mid (by rfl) 69 (.tmp 7) rfl bd 0 rfl [(.int .i64 F.src), (.int .i64 F.dst), (.int .u64 (F.mine : Int)), (.int .u64 (F.yours : Int)), (.int .u64 (F.seq : Int)), (.int .u64 (F.ack : Int)), (.slice A7 F.body.length c7)] _ (fun w9 hw9 => by obtain ⟨⟨q1, q2, q3, q4, q5, q6, q7⟩, _⟩ := hw9; exact range7 q1 q2 q3 q4 q5 q6 q7) Tryd.underlying69 rfl infoF) (HALL.out _) ?_
        try simp only [Act.put, List.setIfInBounds_toArray, List.set_cons_zero, List.set_cons_succ]
        refine RegL.step_of (i := 6) (o := ⟨some 76, _, _, _, _, _⟩) (by kernel_rfl) rfl (fun K' hK => ?_)
        go_simp
        rw [← HWb.out, ← HBB.out]
        refine hK _ _ (⟨M2.out.1, fun _ => M2.out.2⟩) ?_
        clear hK K'
        try simp only [Act.put, List.setIfInBounds_toArray, List.set_cons_zero, List.set_cons_succ]
        refine RegL.step_of (i := 7) (o := ⟨some 77, _, _, _, _, _⟩) (by kernel_rfl) rfl (fun K' hK => ?_)
        refine step_append_run (o := ⟨some 77, _, _, _, _, _⟩) rfl (.tmp 74) (.tmp 76) 60 rfl (.slice As N cs) (.slice (some ⟨bb, 0, none⟩) 1 1) (.slice A2 (N + 1) c2) Wa rfl rfl HRUN.out ?_
        refine hK _ _ ⟨M3.out, fun e => by cases e⟩ ?_
        clear hK K'
        try simp only [Act.put, List.setIfInBounds_toArray, List.set_cons_zero, List.set_cons_succ]
        refine RegL.take_w (i := 8) (oi := ⟨some 78, _, _, _, _, _⟩) (v := ?_) SM rfl (by decide) (by kernel_rfl) (by kernel_rfl) (by kernel_rfl) (fun _ _ _ h => h) (Or.inl ⟨by rfl, ?_⟩) (⟨M3.out, fun e => by cases e⟩) ?_
        rotate_left
        · intro w9 hw9; obtain ⟨q1, q2⟩ := hw9; go_simp; try with_reducible rfl
        try simp only [Act.put, List.setIfInBounds_toArray, List.set_cons_zero, List.set_cons_succ]
        refine RegL.take_w (i := 9) (oi := ⟨some 79, _, _, _, _, _⟩) (v := ?_) SM rfl (by decide) (by kernel_rfl) (by kernel_rfl) (by kernel_rfl) (fun _ _ _ h => h) (Or.inl ⟨by rfl, ?_⟩) (⟨M3.out, fun e => by cases e⟩) ?_
        rotate_left
        · intro w9 hw9; obtain ⟨q1, q2⟩ := hw9; go_simp; try with_reducible rfl
        try simp only [Act.put, List.setIfInBounds_toArray, List.set_cons_zero, List.set_cons_succ]
        refine RegL.step_of (i := 10) (o := ⟨none, _, _, _, _, _⟩) (by kernel_rfl) rfl (fun K' hK => ?_)
        go_simp
        refine hK _ _ (⟨M4.out, fun e => by cases e⟩) ?_
        clear hK K'
        try simp only [Act.put, List.setIfInBounds_toArray, List.set_cons_zero, List.set_cons_succ]
        refine RegL.done_of (by kernel_rfl) ?_ _
        go_wp2_with fail
        go_roundg (n - (j + 1))
        case measure => have := HGK.out; have := HLT.out; omega
        case rel =>
          have e : fs ++ (ns ++ [(Value.slice A7 F.body.length c7, F)]) = (fs ++ ns) ++ [(Value.slice A7 F.body.length c7, F)] := (List.append_assoc ..).symm
          refine ⟨j + 1, rfl, by have := HLT.out; omega, by go_num, .slice A2 (N + 1) c2, ns ++ [(.slice A7 F.body.length c7, F)], by rw [List.map_append, HNS.out, HFT.out]; rfl, ?_, ?_⟩
          · rw [e]
            refine ⟨by rw [List.length_append, ← HN2.out]; exact HVA.out, fun x hx => ?_⟩
            rcases List.mem_append.1 hx with hx | hx
            · exact HSV.out.by_ x hx
            · obtain rfl := List.mem_singleton.1 hx; exact ⟨HB7.out, HFIT.out, HFB.out⟩
          · rw [e]
            exact HC.out.re (fun x => by simp only [sentE, List.length_append, List.length_cons, List.length_nil, Nat.zero_add, ← HN2.out, List.flatMap_append, List.flatMap_cons, List.flatMap_nil, cnt_append, cnt_cons, cnt_nil]; omega)
    · have hjn : j = n := by omega
      have j1 : ¬ (j : Int) < (n : Int) := by omega
      have x0 : wr.cell? ⟨gp, 0, none⟩ = some (.int .i64 p.window) := HST.out.cellOf (g := gp) (cs := pC { p with sent := sv }) (t := 86) (by simp) 0 rfl
      have HJN := Lib.hid hjn
      clear hjn
      by_cases hle : (n : Int) ≤ p.window
      · have hd := Lib.hid (decide_eq_true hle)
        go_wp2_with fail
        go_ret
        refine ⟨by show Ending.returned (.bool true) = _; rw [← HNL.out, hd.out], sv, ns, ?_, HSV.out, HV1.out, HST.out.re (fun x => by simp only [cnt_append, cnt_cons]; omega)⟩
        rw [HNS.out, HJN.out, HNL.out, List.take_length]
      · have hd := Lib.hid (decide_eq_false hle)
        go_wp2_with fail
        go_ret
        refine ⟨by show Ending.returned (.bool false) = _; rw [← HNL.out, hd.out], sv, ns, ?_, HSV.out, HV1.out, HST.out.re (fun x => by simp only [cnt_append, cnt_cons]; omega)⟩
        rw [HNS.out, HJN.out, HNL.out, List.take_length]
end Go.Proofs.YtoeiaimoppmjdaaDoor.Lk
/- A side of a pair hears a frame that hands nothing up. Printed by gen_phear.py. -/
namespace Go.Proofs.YtoeiaimoppmjdaaDoor.Lk
open Go.RowKit Go.Proofs.YtoeiaimoppmjdaaDoorW.PrintWords Go.Proofs.YtoeiaimoppmjdaaDoor.Mem Go.Proofs.YtoeiaimoppmjdaaDoor.Wr Go.Proofs.YtoeiaimoppmjdaaDoor.Bytes Go.Proofs.YtoeiaimoppmjdaaDoor.App
set_option linter.unusedVariables false
set_option linter.unusedSimpArgs false
set_option maxRecDepth 20000 in
set_option maxHeartbeats 6400000 in
theorem phear_calls {w0 W : World} {R : List Ent} {gp g : Nat} {p : PS} {s : LS} (i : Nat) (hi : i < 2) (F : Frm) (A : Option Addr) (c : Nat) (h : St w0 W (B gp (pC p) 86 :: (lkE g s ++ R))) (hl : p.l i = pt g) (hV : LkV s) (hr : RdR w0 R A F.body)
    (hfit : Fit F) (hby : Byt F.body) (hsrc : F.src = s.other) (hdst : F.dst = s.me) (hme : s.me = 5 * (i : Int)) (hlf : p.life i = s.life) (hgo : s.gone + s.items.length < 18446744073709551616) (hhe : s.heard + 1 < 18446744073709551616) (hh : handedP s F = false) :
    Calls Tryd.prog 89 #[pt gp, .agg (frC F A c)] W fun e w' => e = .returned (.bool true) ∧ ∃ iv, LkV { hearP s F with iv := iv } ∧ St w0 w' (B gp (pC p) 86 :: (lkE g { hearP s F with iv := iv } ++ R)) := by
  obtain ⟨W1, hW1⟩ : ∃ W1, W1 = W.alloc (.cells (frC F A c) 69) := ⟨_, rfl⟩
  obtain ⟨b3, hb3⟩ : ∃ b3, b3 = W.heap.size := ⟨_, rfl⟩
  have h1 := h.newB (frC F A c) 69
  rw [← hW1, ← hb3] at h1
  have hd5 : F.dst = 5 * (i : Int) := by rw [hdst, hme]
  have HI := Lib.hid hi
  have HL := Lib.hid hl
  have HV := Lib.hid hV
  have HR := Lib.hid hr
  have HFIT := Lib.hid hfit
  have HBY := Lib.hid hby
  have HSRC := Lib.hid hsrc
  have HDST := Lib.hid hdst
  have HLF := Lib.hid hlf
  have HGO := Lib.hid hgo
  have HHE := Lib.hid hhe
  have HH := Lib.hid hh
  have HD5 := Lib.hid hd5
  have H1 := Lib.hid h1
  have HW1 := Lib.hid hW1
  have HB3 := Lib.hid hb3
  clear h h1 hi hl hV hr hfit hby hsrc hdst hme hlf hgo hhe hh hd5 hW1 hb3
  go_enter Tryd.func89, Tryd.ntmps89
  go_upto_region 2 with fail
  rw [← HW1.out, ← HB3.out]
  go_cut [14] (fun s14 wx => s14 = .bool (decide (i = 1)) ∧ wx = W1)
  case first =>
    have x1 : W1.cell? ⟨b3, 1, none⟩ = some (.int .i64 (5 * (i : Int))) := by
      have q : W1.cell? ⟨b3, 1, none⟩ = some (.int .i64 F.dst) := H1.out.cellOf (g := b3) (cs := frC F A c) (t := 69) (by simp) 1 rfl
      rw [HD5.out] at q; exact q
    rcases (show i = 0 ∨ i = 1 by have := HI.out; omega) with rfl | rfl
    · have x1' : W1.cell? ⟨b3, 1, none⟩ = some (.int .i64 0) := x1
      clear x1
      go_wp2_with fail
      go_meet
      exact ⟨rfl, rfl⟩
    · have x1' : W1.cell? ⟨b3, 1, none⟩ = some (.int .i64 5) := x1
      clear x1
      go_wp2_with fail
      go_meet
      exact ⟨rfl, rfl⟩
  case rest =>
    obtain ⟨hs14, hwc⟩ := hcut
    subst hs14
    rw [hwc]
    clear hwc
    go_upto_if 14 with fail
    go_cut [5] (fun s5 wx => s5 = .int .i64 i ∧ wx = W1)
    case first =>
      rcases (show i = 0 ∨ i = 1 by have := HI.out; omega) with rfl | rfl
      · rw [show decide (0 = 1) = false from rfl]
        go_wp2_with fail
        go_meet
        exact ⟨rfl, rfl⟩
      · rw [show decide (1 = 1) = true from rfl]
        go_wp2_with fail
        go_meet
        exact ⟨rfl, rfl⟩
    case rest =>
      obtain ⟨hs5, hwc⟩ := hcut
      subst hs5
      rw [hwc]
      clear hwc
      have h2 := H1.out.newB (frC F A c) 69
      obtain ⟨W2, hW2⟩ : ∃ W2, W2 = W1.alloc (.cells (frC F A c) 69) := ⟨_, rfl⟩
      obtain ⟨b6, hb6⟩ : ∃ b6, b6 = W1.heap.size := ⟨_, rfl⟩
      rw [← hW2, ← hb6] at h2
      have x0 := H1.out.cellOf (g := b3) (cs := frC F A c) (t := 69) (by simp) 0 rfl
      have x1 := H1.out.cellOf (g := b3) (cs := frC F A c) (t := 69) (by simp) 1 rfl
      have x2 := H1.out.cellOf (g := b3) (cs := frC F A c) (t := 69) (by simp) 2 rfl
      have x3 := H1.out.cellOf (g := b3) (cs := frC F A c) (t := 69) (by simp) 3 rfl
      have x4 := H1.out.cellOf (g := b3) (cs := frC F A c) (t := 69) (by simp) 4 rfl
      have x5 := H1.out.cellOf (g := b3) (cs := frC F A c) (t := 69) (by simp) 5 rfl
      have x6 := H1.out.cellOf (g := b3) (cs := frC F A c) (t := 69) (by simp) 6 rfl
      have y6 := h2.cellOf (g := b3) (cs := frC F A c) (t := 69) (by simp) 6 rfl
      have CC := Lib.hid (copy_st F.body F.body.length A c h2 rfl (HR.out _ (B b6 (frC F A c) 69 :: B b3 (frC F A c) 69 :: B gp (pC p) 86 :: lkE g s) (h2.re (fun x => by simp only [cnt_append, cnt_cons]; omega))) (by have := HFIT.out.b; omega))
      have H2 := Lib.hid h2
      have HW2 := Lib.hid hW2
      have HB6 := Lib.hid hb6
      clear h2 hW2 hb6
      go_upto_region 5 with fail
      rw [← HW2.out, ← HB6.out]
      clear x0 x1 x2 x3 x4 x5 x6
      go_wp2_with fail
      refine CC.out.mono ?_; rintro e w3 ⟨A6, c6, rfl, hv6, h3⟩
      have z6 := h3.cellOf (g := b6) (cs := frC F A c) (t := 69) (by simp) 6 rfl
      have fz6 := h3.freeOf (g := b6) (cs := frC F A c) (t := 69) (by simp) 6
      obtain ⟨W4, hW4⟩ : ∃ W4, W4 = w3.setCell ⟨b6, 6, none⟩ (.slice A6 F.body.length c6) := ⟨_, rfl⟩
      have h4 : St w0 W4 (B b6 (frC F A6 c6) 69 :: (byR (.slice A6 F.body.length c6) F.body ++ (B b3 (frC F A c) 69 :: (B gp (pC p) 86 :: (lkE g s ++ R))))) := by
        rw [hW4]
        exact (h3.re (M := B b6 (frC F A c) 69 :: (byR (.slice A6 F.body.length c6) F.body ++ (B b3 (frC F A c) 69 :: (B gp (pC p) 86 :: (lkE g s ++ R))))) (fun x => by simp only [cnt_append, cnt_cons]; omega)).put (cs' := frC F A6 c6) 6 (.slice A6 F.body.length c6) rfl
      have x4 : W4.cell? ⟨gp, 4 + i, none⟩ = some (pt g) := h4.cellOf (g := gp) (cs := pC p) (t := 86) (by simp) (4 + i) (by rw [pC_l p HI.out]; exact congrArg some HL.out)
      have i1 : (0 : Int) ≤ (i : Int) := by omega
      have i2 : (i : Int) < 2 := by have := HI.out; omega
      have CL := Lib.hid (llife_calls (g := g) (s := s) (W := W4) (w0 := w0) (h4.re (M := lkE g s ++ []) (fun x => by simp only [cnt_append, cnt_cons, cnt_nil]; omega)))
      have H4 := Lib.hid h4
      have HV6 := Lib.hid hv6
      have HW4 := Lib.hid hW4
      clear CC hv6 h3 h4 hW4 y6
      go_upto_region 6 with fail
      rw [← HW4.out]
      clear z6 fz6
      go_wp2_with fail
      refine CL.out.mono ?_; rintro e w5 ⟨rfl, rfl⟩
      go_upto_region 7 with fail
      have CH : Hid (∀ (w9 : World) (M : List Ent), St w0 w9 (lkE g s ++ (byR (.slice A6 F.body.length c6) F.body ++ M)) → Calls Tryd.prog 54 #[pt g, .agg (frC F A6 c6)] w9 fun e w' => ∃ iv v, e = .returned (.agg #[v, .bool false, .bool (anewP s F), .bool (fineP s F)]) ∧ byV v [] ∧ LkV { hearP s F with iv := iv } ∧ St w0 w' (lkE g { hearP s F with iv := iv } ++ (byR v [] ++ (byR (.slice A6 F.body.length c6) F.body ++ M)))) := fun w9 M hM => by
        have ch := hear_calls F A6 c6 hM HV.out (rdR_held HV6.out (fun x => by rw [cnt_append]; exact Nat.le_add_right _ _)) HBY.out (by have := HFIT.out.b; omega) HGO.out HHE.out
        have eb : bodyP s F = [] := by unfold bodyP; rw [HH.out]; rfl
        rw [HH.out, eb] at ch
        exact ch
      have hdr := H4.out.drew
      have HALL : Hid (W4.drew.cell? ⟨b6, 0, none⟩ = some (.int .i64 F.src) ∧ W4.drew.cell? ⟨b6, 1, none⟩ = some (.int .i64 F.dst) ∧ W4.drew.cell? ⟨b6, 2, none⟩ = some (.int .u64 (F.mine : Int)) ∧ W4.drew.cell? ⟨b6, 3, none⟩ = some (.int .u64 (F.yours : Int)) ∧ W4.drew.cell? ⟨b6, 4, none⟩ = some (.int .u64 (F.seq : Int)) ∧ W4.drew.cell? ⟨b6, 5, none⟩ = some (.int .u64 (F.ack : Int)) ∧ W4.drew.cell? ⟨b6, 6, none⟩ = some (.slice A6 F.body.length c6) ∧ W4.drew.cell? ⟨gp, 4 + i, none⟩ = some (pt g)) := ⟨hdr.cellOf (g := b6) (cs := frC F A6 c6) (t := 69) (by simp) 0 rfl, hdr.cellOf (g := b6) (cs := frC F A6 c6) (t := 69) (by simp) 1 rfl, hdr.cellOf (g := b6) (cs := frC F A6 c6) (t := 69) (by simp) 2 rfl, hdr.cellOf (g := b6) (cs := frC F A6 c6) (t := 69) (by simp) 3 rfl, hdr.cellOf (g := b6) (cs := frC F A6 c6) (t := 69) (by simp) 4 rfl, hdr.cellOf (g := b6) (cs := frC F A6 c6) (t := 69) (by simp) 5 rfl, hdr.cellOf (g := b6) (cs := frC F A6 c6) (t := 69) (by simp) 6 rfl, hdr.cellOf (g := gp) (cs := pC p) (t := 86) (by simp) (4 + i) (by rw [pC_l p HI.out]; exact congrArg some HL.out)⟩
      clear hdr x4
      go_cut [8] (fun s8 wx => ∃ bh iv Av cv, s8 = .pointer (some ⟨bh, 0, none⟩) ∧ byV (.slice Av 0 cv) [] ∧ LkV { hearP s F with iv := iv } ∧ St w0 wx (B bh #[.slice Av 0 cv, .bool false, .bool (anewP s F), .bool (fineP s F)] 91 :: (lkE g { hearP s F with iv := iv } ++ (B b3 (frC F A c) 69 :: (B gp (pC p) 86 :: R)))))
      case first =>
        have SM : ∀ (bb0 : Bool) (w9 : World), (fun (_ : Bool) (w9 : World) => w9.cell? ⟨b6, 0, none⟩ = some (.int .i64 F.src) ∧ w9.cell? ⟨b6, 1, none⟩ = some (.int .i64 F.dst) ∧ w9.cell? ⟨b6, 2, none⟩ = some (.int .u64 (F.mine : Int)) ∧ w9.cell? ⟨b6, 3, none⟩ = some (.int .u64 (F.yours : Int)) ∧ w9.cell? ⟨b6, 4, none⟩ = some (.int .u64 (F.seq : Int)) ∧ w9.cell? ⟨b6, 5, none⟩ = some (.int .u64 (F.ack : Int)) ∧ w9.cell? ⟨b6, 6, none⟩ = some (.slice A6 F.body.length c6) ∧ w9.cell? ⟨gp, 4 + i, none⟩ = some (pt g)) bb0 w9 → (fun (_ : Bool) (w9 : World) => w9.cell? ⟨b6, 0, none⟩ = some (.int .i64 F.src) ∧ w9.cell? ⟨b6, 1, none⟩ = some (.int .i64 F.dst) ∧ w9.cell? ⟨b6, 2, none⟩ = some (.int .u64 (F.mine : Int)) ∧ w9.cell? ⟨b6, 3, none⟩ = some (.int .u64 (F.yours : Int)) ∧ w9.cell? ⟨b6, 4, none⟩ = some (.int .u64 (F.seq : Int)) ∧ w9.cell? ⟨b6, 5, none⟩ = some (.int .u64 (F.ack : Int)) ∧ w9.cell? ⟨b6, 6, none⟩ = some (.slice A6 F.body.length c6) ∧ w9.cell? ⟨gp, 4 + i, none⟩ = some (pt g)) true w9 := fun _ _ h => h
        refine RegL.begin_of (k := 99) (S := fun (_ : Bool) (w9 : World) => w9.cell? ⟨b6, 0, none⟩ = some (.int .i64 F.src) ∧ w9.cell? ⟨b6, 1, none⟩ = some (.int .i64 F.dst) ∧ w9.cell? ⟨b6, 2, none⟩ = some (.int .u64 (F.mine : Int)) ∧ w9.cell? ⟨b6, 3, none⟩ = some (.int .u64 (F.yours : Int)) ∧ w9.cell? ⟨b6, 4, none⟩ = some (.int .u64 (F.seq : Int)) ∧ w9.cell? ⟨b6, 5, none⟩ = some (.int .u64 (F.ack : Int)) ∧ w9.cell? ⟨b6, 6, none⟩ = some (.slice A6 F.body.length c6) ∧ w9.cell? ⟨gp, 4 + i, none⟩ = some (pt g)) (by kernel_rfl) ?_
        refine RegL.take_w (i := 0) (oi := ⟨some 27, _, _, _, _, _⟩) (v := ?_) SM rfl (by decide) (by kernel_rfl) (by kernel_rfl) (by kernel_rfl) (fun _ _ _ h => h) (Or.inl ⟨by rfl, ?_⟩) (HALL.out) ?_
        rotate_left
        · intro w9 hw9; obtain ⟨q1, q2, q3, q4, q5, q6, q7, q8⟩ := hw9; go_simp; try with_reducible rfl
        try simp only [Act.put, List.setIfInBounds_toArray, List.set_cons_zero, List.set_cons_succ]
        refine RegL.take_w (i := 1) (oi := ⟨some 28, _, _, _, _, _⟩) (v := ?_) SM rfl (by decide) (by kernel_rfl) (by kernel_rfl) (by kernel_rfl) (fun _ _ _ h => h) (Or.inl ⟨by rfl, ?_⟩) (HALL.out) ?_
        rotate_left
        · intro w9 hw9; obtain ⟨q1, q2, q3, q4, q5, q6, q7, q8⟩ := hw9; go_simp; try with_reducible rfl
        try simp only [Act.put, List.setIfInBounds_toArray, List.set_cons_zero, List.set_cons_succ]
        refine RegL.take_w (i := 2) (oi := ⟨some 29, _, _, _, _, _⟩) (v := ?_) SM rfl (by decide) (by kernel_rfl) (by kernel_rfl) (by kernel_rfl) (fun _ _ _ h => h) (Or.inl ⟨by rfl, ?_⟩) (HALL.out) ?_
        rotate_left
        · intro w9 hw9; obtain ⟨q1, q2, q3, q4, q5, q6, q7, q8⟩ := hw9; go_simp; try with_reducible rfl
        try simp only [Act.put, List.setIfInBounds_toArray, List.set_cons_zero, List.set_cons_succ]
        refine RegL.take_w (i := 3) (oi := ⟨some 30, _, _, _, _, _⟩) (v := ?_) SM rfl (by decide) (by kernel_rfl) (by kernel_rfl) (by kernel_rfl) (fun _ _ _ h => h) (Or.inl ⟨by rfl, ?_⟩) (HALL.out) ?_
        rotate_left
        · intro w9 hw9; obtain ⟨q1, q2, q3, q4, q5, q6, q7, q8⟩ := hw9; go_simp; try with_reducible rfl
        try simp only [Act.put, List.setIfInBounds_toArray, List.set_cons_zero, List.set_cons_succ]
        refine RegL.take_w (i := 4) (oi := ⟨some 31, _, _, _, _, _⟩) (v := ?_) SM rfl (by decide) (by kernel_rfl) (by kernel_rfl) (by kernel_rfl) (fun _ _ _ h => h) (Or.inl ⟨by rfl, ?_⟩) (HALL.out) ?_
        rotate_left
        · intro w9 hw9; obtain ⟨q1, q2, q3, q4, q5, q6, q7, q8⟩ := hw9; go_simp; try with_reducible rfl
        try simp only [Act.put, List.setIfInBounds_toArray, List.set_cons_zero, List.set_cons_succ]
        refine RegL.take_w (i := 5) (oi := ⟨some 32, _, _, _, _, _⟩) (v := ?_) SM rfl (by decide) (by kernel_rfl) (by kernel_rfl) (by kernel_rfl) (fun _ _ _ h => h) (Or.inl ⟨by rfl, ?_⟩) (HALL.out) ?_
        rotate_left
        · intro w9 hw9; obtain ⟨q1, q2, q3, q4, q5, q6, q7, q8⟩ := hw9; go_simp; try with_reducible rfl
        try simp only [Act.put, List.setIfInBounds_toArray, List.set_cons_zero, List.set_cons_succ]
        refine RegL.take_w (i := 6) (oi := ⟨some 33, _, _, _, _, _⟩) (v := .agg #[(.int .i64 F.src), (.int .i64 F.dst), (.int .u64 (F.mine : Int)), (.int .u64 (F.yours : Int)), (.int .u64 (F.seq : Int)), (.int .u64 (F.ack : Int)), (.slice A6 F.body.length c6)]) SM rfl (by decide) (by kernel_rfl) (by kernel_rfl) (by kernel_rfl) (fun _ _ _ h => h) (yieldsIf_load_mid (by rfl) 69 (.tmp 6) rfl b6 0 rfl [(.int .i64 F.src), (.int .i64 F.dst), (.int .u64 (F.mine : Int)), (.int .u64 (F.yours : Int)), (.int .u64 (F.seq : Int)), (.int .u64 (F.ack : Int)), (.slice A6 F.body.length c6)] _ (fun w9 hw9 => by obtain ⟨q1, q2, q3, q4, q5, q6, q7, _⟩ := hw9; exact range7 q1 q2 q3 q4 q5 q6 q7) Tryd.underlying69 rfl infoF) (HALL.out) ?_
        try simp only [Act.put, List.setIfInBounds_toArray, List.set_cons_zero, List.set_cons_succ]
        refine RegL.all_of (rs := [7, 8]) (by kernel_rfl) (by simp) (fun jj hjj => ?_)
        have MK : ∀ (wx : World) (L : List Ent), St w0 wx L → B b6 (frC F A6 c6) 69 ∈ L → B gp (pC p) 86 ∈ L → wx.cell? ⟨b6, 0, none⟩ = some (.int .i64 F.src) ∧ wx.cell? ⟨b6, 1, none⟩ = some (.int .i64 F.dst) ∧ wx.cell? ⟨b6, 2, none⟩ = some (.int .u64 (F.mine : Int)) ∧ wx.cell? ⟨b6, 3, none⟩ = some (.int .u64 (F.yours : Int)) ∧ wx.cell? ⟨b6, 4, none⟩ = some (.int .u64 (F.seq : Int)) ∧ wx.cell? ⟨b6, 5, none⟩ = some (.int .u64 (F.ack : Int)) ∧ wx.cell? ⟨b6, 6, none⟩ = some (.slice A6 F.body.length c6) ∧ wx.cell? ⟨gp, 4 + i, none⟩ = some (pt g) := fun wx L h hm hn => ⟨h.cellOf hm 0 rfl, h.cellOf hm 1 rfl, h.cellOf hm 2 rfl, h.cellOf hm 3 rfl, h.cellOf hm 4 rfl, h.cellOf hm 5 rfl, h.cellOf hm 6 rfl, h.cellOf hn (4 + i) (by rw [pC_l p HI.out]; exact congrArg some HL.out)⟩
        rcases (show jj = 7 ∨ jj = 8 by simpa using hjj) with rfl | rfl
        · refine wpOp_step (o := ⟨some 34, _, _, _, _, _⟩) rfl (fun K' hK => ?_)
          go_simp
          go_at_call 54
          (with_reducible refine (CH.out W4.drew (B b6 (frC F A6 c6) 69 :: (B b3 (frC F A c) 69 :: (B gp (pC p) 86 :: R))) (H4.out.drew.re (fun x => by simp only [cnt_append, cnt_cons]; omega))).mono ?_)
          rintro e w9 ⟨iv, v, rfl, hv9, hV9, h9⟩
          obtain ⟨Av, cv, rfl⟩ := byV_form hv9
          refine hK _ _ ⟨MK _ _ h9 (by simp) (by simp), ?_⟩
          clear hK K'
          refine RegL.step_of (i := 8) (o := ⟨some 8, _, _, _, _, _⟩) (by kernel_rfl) rfl (fun K' hK => ?_)
          go_simp
          have hb := h9.newB #[NL, .bool false, .bool false, .bool false] 91
          refine hK _ _ (MK _ _ hb (by simp) (by simp)) ?_
          clear hK K'
          try simp only [Act.put, List.setIfInBounds_toArray, List.set_cons_zero, List.set_cons_succ]
          refine RegL.step_of (i := 9) (o := ⟨none, _, _, _, _, _⟩) (by kernel_rfl) rfl (fun K' hK => ?_)
          go_simp
          have hc := h9.newB #[.slice Av 0 cv, .bool false, .bool (anewP s F), .bool (fineP s F)] 91
          refine hK _ _ (MK _ _ hc (by simp) (by simp)) ?_
          clear hK K'
          refine RegL.done_of (by kernel_rfl) ?_ _
          go_wp2_with fail
          go_meet
          exact ⟨w9.heap.size, iv, Av, cv, rfl, hv9, hV9, hc.re (fun x => by simp only [cnt_append, cnt_cons]; omega)⟩
        · refine wpOp_step (o := ⟨some 8, _, _, _, _, _⟩) rfl (fun K' hK => ?_)
          go_simp
          have hb : St w0 ((W4.alloc (.cells #[NL, .bool false, .bool false, .bool false] 91)).drew) (B W4.heap.size #[NL, .bool false, .bool false, .bool false] 91 :: _) := H4.out.drew.newB #[NL, .bool false, .bool false, .bool false] 91
          refine hK _ _ ⟨MK _ _ hb (by simp) (by simp), ?_⟩
          clear hK K'
          try simp only [Act.put, List.setIfInBounds_toArray, List.set_cons_zero, List.set_cons_succ]
          obtain ⟨bh, hbh⟩ : ∃ bh, bh = W4.heap.size := ⟨_, rfl⟩
          rw [← hbh] at hb
          have HBH := Lib.hid hbh
          refine RegL.step_of (i := 7) (o := ⟨some 34, _, _, _, _, _⟩) (by kernel_rfl) rfl (fun K' hK => ?_)
          go_simp
          go_at_call 54
          (with_reducible refine (CH.out ((W4.alloc (.cells #[NL, .bool false, .bool false, .bool false] 91)).drew) (B bh #[NL, .bool false, .bool false, .bool false] 91 :: (B b6 (frC F A6 c6) 69 :: (B b3 (frC F A c) 69 :: (B gp (pC p) 86 :: R)))) (hb.re (fun x => by simp only [cnt_append, cnt_cons]; omega))).mono ?_)
          rintro e w9 ⟨iv, v, rfl, hv9, hV9, h9⟩
          obtain ⟨Av, cv, rfl⟩ := byV_form hv9
          refine hK _ _ (MK _ _ h9 (by simp) (by simp)) ?_
          clear hK K' hb
          try simp only [Act.put, List.setIfInBounds_toArray, List.set_cons_zero, List.set_cons_succ]
          have ebh := HBH.out
          subst ebh
          have y0 : w9.cell? ⟨W4.heap.size, 0, none⟩ = some NL := h9.cellOf (g := W4.heap.size) (cs := #[NL, .bool false, .bool false, .bool false]) (t := 91) (by simp) 0 rfl
          have y1 : w9.cell? ⟨W4.heap.size, 1, none⟩ = some (.bool false) := h9.cellOf (g := W4.heap.size) (cs := #[NL, .bool false, .bool false, .bool false]) (t := 91) (by simp) 1 rfl
          have y2 : w9.cell? ⟨W4.heap.size, 2, none⟩ = some (.bool false) := h9.cellOf (g := W4.heap.size) (cs := #[NL, .bool false, .bool false, .bool false]) (t := 91) (by simp) 2 rfl
          have y3 : w9.cell? ⟨W4.heap.size, 3, none⟩ = some (.bool false) := h9.cellOf (g := W4.heap.size) (cs := #[NL, .bool false, .bool false, .bool false]) (t := 91) (by simp) 3 rfl
          have fy0 := h9.freeOf (g := W4.heap.size) (cs := #[NL, .bool false, .bool false, .bool false]) (t := 91) (by simp) 0
          have fy1 := h9.freeOf (g := W4.heap.size) (cs := #[NL, .bool false, .bool false, .bool false]) (t := 91) (by simp) 1
          have fy2 := h9.freeOf (g := W4.heap.size) (cs := #[NL, .bool false, .bool false, .bool false]) (t := 91) (by simp) 2
          have fy3 := h9.freeOf (g := W4.heap.size) (cs := #[NL, .bool false, .bool false, .bool false]) (t := 91) (by simp) 3
          refine RegL.step_of (i := 9) (o := ⟨none, _, _, _, _, _⟩) (by kernel_rfl) rfl (fun K' hK => ?_)
          go_simp
          have hc := ((((h9.re (M := B W4.heap.size #[NL, .bool false, .bool false, .bool false] 91 :: (lkE g { hearP s F with iv := iv } ++ (B b6 (frC F A6 c6) 69 :: (B b3 (frC F A c) 69 :: (B gp (pC p) 86 :: R))))) (fun x => by simp only [cnt_append, cnt_cons]; omega)).put (cs' := #[.slice Av 0 cv, .bool false, .bool false, .bool false]) 0 (.slice Av 0 cv) rfl).put (cs' := #[.slice Av 0 cv, .bool false, .bool false, .bool false]) 1 (.bool false) rfl).put (cs' := #[.slice Av 0 cv, .bool false, .bool (anewP s F), .bool false]) 2 (.bool (anewP s F)) rfl).put (cs' := #[.slice Av 0 cv, .bool false, .bool (anewP s F), .bool (fineP s F)]) 3 (.bool (fineP s F)) rfl
          refine hK _ _ (MK _ _ hc (by simp) (by simp)) ?_
          clear hK K'
          refine RegL.done_of (by kernel_rfl) ?_ _
          go_wp2_with fail
          go_meet
          exact ⟨W4.heap.size, iv, Av, cv, rfl, hv9, hV9, hc.re (fun x => by simp only [cnt_append, cnt_cons]; omega)⟩
      case rest =>
        obtain ⟨bh, iv, Av, cv, hs8, hv9, hV9, h9⟩ := hcut
        subst hs8
        have HV9 := Lib.hid hV9
        have HB9 := Lib.hid hv9
        have hba : badP s F = decide (F.mine < s.known) := by
          have e1 : fitB F = true := (fit_iff F).2 HFIT.out
          unfold badP
          rw [e1, HSRC.out, HDST.out]
          simp
        have han : anewP s F = decide (s.known < F.mine) := by
          unfold anewP; rw [hba]
          by_cases q : s.known < F.mine
          · have q2 : ¬ F.mine < s.known := by omega
            simp [q, q2]
          · simp [q]
        have hfi : fineP s F = (decide (s.known ≤ F.mine) && decide (F.yours = s.life)) := by
          unfold fineP; rw [hba]
          by_cases q : s.known ≤ F.mine
          · have q2 : ¬ F.mine < s.known := by omega
            simp [q, q2]
          · have q2 : F.mine < s.known := by omega
            simp [q, q2]
        have HAN := Lib.hid han
        have HFI := Lib.hid hfi
        obtain ⟨wd, hwd⟩ : ∃ wd, wd = wc := ⟨_, rfl⟩
        rw [← hwd] at h9 ⊢
        have HZ := Lib.hid h9
        clear h9 hV9 hv9 hba han hfi hwd
        go_upto_region 8 with fail
        go_cut [70] (fun s70 wx => s70 = .bool false ∧ wx = wd.drew)
        case first =>
          have c1 : wd.drew.cell? ⟨b3, 2, none⟩ = some (.int .u64 (F.mine : Int)) := HZ.out.drew.cellOf (g := b3) (cs := frC F A c) (t := 69) (by simp) 2 rfl
          have c2 : wd.drew.cell? ⟨b3, 3, none⟩ = some (.int .u64 (F.yours : Int)) := HZ.out.drew.cellOf (g := b3) (cs := frC F A c) (t := 69) (by simp) 3 rfl
          have c3 : wd.drew.cell? ⟨bh, 1, none⟩ = some (.bool false) := HZ.out.drew.cellOf (g := bh) (cs := #[.slice Av 0 cv, .bool false, .bool (anewP s F), .bool (fineP s F)]) (t := 91) (by simp) 1 rfl
          have c4 : wd.drew.cell? ⟨bh, 2, none⟩ = some (.bool (anewP s F)) := HZ.out.drew.cellOf (g := bh) (cs := #[.slice Av 0 cv, .bool false, .bool (anewP s F), .bool (fineP s F)]) (t := 91) (by simp) 2 rfl
          have c5 : wd.drew.cell? ⟨bh, 3, none⟩ = some (.bool (fineP s F)) := HZ.out.drew.cellOf (g := bh) (cs := #[.slice Av 0 cv, .bool false, .bool (anewP s F), .bool (fineP s F)]) (t := 91) (by simp) 3 rfl
          have c6 : wd.drew.cell? ⟨gp, 2 + i, none⟩ = some (.int .u64 (p.life i : Int)) := HZ.out.drew.cellOf (g := gp) (cs := pC p) (t := 86) (by simp) (2 + i) (pC_life p HI.out)
          rw [HLF.out] at c6
          have i1 : (0 : Int) ≤ (i : Int) := by omega
          have i2 : (i : Int) < 2 := by have := HI.out; omega
          rw [HAN.out] at c4
          rw [HFI.out] at c5
          rcases (show F.mine < s.known ∨ (F.mine = s.known ∧ F.yours = s.life) ∨ (F.mine = s.known ∧ F.yours ≠ s.life) ∨ (s.known < F.mine ∧ F.yours = s.life) ∨ (s.known < F.mine ∧ F.yours ≠ s.life) by omega) with q | ⟨q, q'⟩ | ⟨q, q'⟩ | ⟨q, q'⟩ | ⟨q, q'⟩
          · -- lt -
            have a1 : decide (s.known < F.mine) = false := by simp; omega
            have a2 : decide (s.known ≤ F.mine) = false := by simp; omega
            have a3 : decide ((s.known : Int) < (F.mine : Int)) = false := by simp; omega
            have a4 : decide ((s.known : Int) ≤ (F.mine : Int)) = false := by simp; omega
            rw [a1] at c4; rw [a2, Bool.false_and] at c5
            have H8 : Hid (wd.drew.cell? ⟨b3, 2, none⟩ = some (.int .u64 (F.mine : Int)) ∧ wd.drew.cell? ⟨b3, 3, none⟩ = some (.int .u64 (F.yours : Int)) ∧ wd.drew.cell? ⟨bh, 1, none⟩ = some (.bool false) ∧ wd.drew.cell? ⟨bh, 2, none⟩ = some (.bool false) ∧ wd.drew.cell? ⟨bh, 3, none⟩ = some (.bool false) ∧ wd.drew.cell? ⟨gp, 2 + i, none⟩ = some (.int .u64 (s.life : Int))) := ⟨c1, c2, c3, c4, c5, c6⟩
            clear c1 c2 c3 c4 c5 c6 HAN HFI HZ
            have SM : ∀ (bb0 : Bool) (w9 : World), (fun (_ : Bool) (w9 : World) => w9.cell? ⟨b3, 2, none⟩ = some (.int .u64 (F.mine : Int)) ∧ w9.cell? ⟨b3, 3, none⟩ = some (.int .u64 (F.yours : Int)) ∧ w9.cell? ⟨bh, 1, none⟩ = some (.bool false) ∧ w9.cell? ⟨bh, 2, none⟩ = some (.bool false) ∧ w9.cell? ⟨bh, 3, none⟩ = some (.bool false) ∧ w9.cell? ⟨gp, 2 + i, none⟩ = some (.int .u64 (s.life : Int))) bb0 w9 → (fun (_ : Bool) (w9 : World) => w9.cell? ⟨b3, 2, none⟩ = some (.int .u64 (F.mine : Int)) ∧ w9.cell? ⟨b3, 3, none⟩ = some (.int .u64 (F.yours : Int)) ∧ w9.cell? ⟨bh, 1, none⟩ = some (.bool false) ∧ w9.cell? ⟨bh, 2, none⟩ = some (.bool false) ∧ w9.cell? ⟨bh, 3, none⟩ = some (.bool false) ∧ w9.cell? ⟨gp, 2 + i, none⟩ = some (.int .u64 (s.life : Int))) true w9 := fun _ _ h => h
            refine RegL.begin_of (k := 99) (S := fun (_ : Bool) (w9 : World) => w9.cell? ⟨b3, 2, none⟩ = some (.int .u64 (F.mine : Int)) ∧ w9.cell? ⟨b3, 3, none⟩ = some (.int .u64 (F.yours : Int)) ∧ w9.cell? ⟨bh, 1, none⟩ = some (.bool false) ∧ w9.cell? ⟨bh, 2, none⟩ = some (.bool false) ∧ w9.cell? ⟨bh, 3, none⟩ = some (.bool false) ∧ w9.cell? ⟨gp, 2 + i, none⟩ = some (.int .u64 (s.life : Int))) (by kernel_rfl) ?_
            refine RegL.take_w (i := 0) (oi := ⟨some 35, _, _, _, _, _⟩) (v := ?_) SM rfl (by decide) (by kernel_rfl) (by kernel_rfl) (by kernel_rfl) (fun _ _ _ h => h) (Or.inl ⟨by rfl, ?_⟩) (H8.out) ?_
            rotate_left
            · intro w9 hw9; obtain ⟨q1, q2, q3, q4, q5, q6⟩ := hw9; go_simp; try with_reducible rfl
            try simp only [Act.put, List.setIfInBounds_toArray, List.set_cons_zero, List.set_cons_succ]
            refine RegL.take_w (i := 1) (oi := ⟨some 36, _, _, _, _, _⟩) (v := ?_) SM rfl (by decide) (by kernel_rfl) (by kernel_rfl) (by kernel_rfl) (fun _ _ _ h => h) (Or.inl ⟨by rfl, ?_⟩) (H8.out) ?_
            rotate_left
            · intro w9 hw9; obtain ⟨q1, q2, q3, q4, q5, q6⟩ := hw9; go_simp; try with_reducible rfl
            try simp only [Act.put, List.setIfInBounds_toArray, List.set_cons_zero, List.set_cons_succ]
            refine RegL.take_w (i := 2) (oi := ⟨some 37, _, _, _, _, _⟩) (v := ?_) SM rfl (by decide) (by kernel_rfl) (by kernel_rfl) (by kernel_rfl) (fun _ _ _ h => h) (Or.inl ⟨by rfl, ?_⟩) (H8.out) ?_
            rotate_left
            · intro w9 hw9; obtain ⟨q1, q2, q3, q4, q5, q6⟩ := hw9; go_simp; try with_reducible rfl
            try simp only [Act.put, List.setIfInBounds_toArray, List.set_cons_zero, List.set_cons_succ]
            refine RegL.take_w (i := 3) (oi := ⟨some 38, _, _, _, _, _⟩) (v := ?_) SM rfl (by decide) (by kernel_rfl) (by kernel_rfl) (by kernel_rfl) (fun _ _ _ h => h) (Or.inl ⟨by rfl, ?_⟩) (H8.out) ?_
            rotate_left
            · intro w9 hw9; obtain ⟨q1, q2, q3, q4, q5, q6⟩ := hw9; go_simp; try with_reducible rfl
            try simp only [Act.put, List.setIfInBounds_toArray, List.set_cons_zero, List.set_cons_succ]
            refine RegL.take_w (i := 4) (oi := ⟨some 39, _, _, _, _, _⟩) (v := ?_) SM rfl (by decide) (by kernel_rfl) (by kernel_rfl) (by kernel_rfl) (fun _ _ _ h => h) (Or.inl ⟨by rfl, ?_⟩) (H8.out) ?_
            rotate_left
            · intro w9 hw9; obtain ⟨q1, q2, q3, q4, q5, q6⟩ := hw9; go_simp; try with_reducible rfl
            try simp only [Act.put, List.setIfInBounds_toArray, List.set_cons_zero, List.set_cons_succ]
            refine RegL.take_w (i := 5) (oi := ⟨some 40, _, _, _, _, _⟩) (v := ?_) SM rfl (by decide) (by kernel_rfl) (by kernel_rfl) (by kernel_rfl) (fun _ _ _ h => h) (Or.inl ⟨by rfl, ?_⟩) (H8.out) ?_
            rotate_left
            · intro w9 hw9; obtain ⟨q1, q2, q3, q4, q5, q6⟩ := hw9; go_simp; try with_reducible rfl
            try simp only [Act.put, List.setIfInBounds_toArray, List.set_cons_zero, List.set_cons_succ]
            refine RegL.take_w (i := 6) (oi := ⟨some 41, _, _, _, _, _⟩) (v := ?_) SM rfl (by decide) (by kernel_rfl) (by kernel_rfl) (by kernel_rfl) (fun _ _ _ h => h) (Or.inl ⟨by rfl, ?_⟩) (H8.out) ?_
            rotate_left
            · intro w9 hw9; obtain ⟨q1, q2, q3, q4, q5, q6⟩ := hw9; go_simp; try with_reducible rfl
            try simp only [Act.put, List.setIfInBounds_toArray, List.set_cons_zero, List.set_cons_succ]
            refine RegL.take_w (i := 7) (oi := ⟨some 42, _, _, _, _, _⟩) (v := ?_) SM rfl (by decide) (by kernel_rfl) (by kernel_rfl) (by kernel_rfl) (fun _ _ _ h => h) (Or.inl ⟨by rfl, ?_⟩) (H8.out) ?_
            rotate_left
            · intro w9 hw9; obtain ⟨q1, q2, q3, q4, q5, q6⟩ := hw9; go_simp; try with_reducible rfl
            try simp only [Act.put, List.setIfInBounds_toArray, List.set_cons_zero, List.set_cons_succ]
            refine RegL.take_w (i := 8) (oi := ⟨some 43, _, _, _, _, _⟩) (v := ?_) SM rfl (by decide) (by kernel_rfl) (by kernel_rfl) (by kernel_rfl) (fun _ _ _ h => h) (Or.inl ⟨by rfl, ?_⟩) (H8.out) ?_
            rotate_left
            · intro w9 hw9; obtain ⟨q1, q2, q3, q4, q5, q6⟩ := hw9; go_simp; try with_reducible rfl
            try simp only [Act.put, List.setIfInBounds_toArray, List.set_cons_zero, List.set_cons_succ]
            refine RegL.take_w (i := 9) (oi := ⟨some 44, _, _, _, _, _⟩) (v := ?_) SM rfl (by decide) (by kernel_rfl) (by kernel_rfl) (by kernel_rfl) (fun _ _ _ h => h) (Or.inl ⟨by rfl, ?_⟩) (H8.out) ?_
            rotate_left
            · intro w9 hw9; obtain ⟨q1, q2, q3, q4, q5, q6⟩ := hw9; go_simp; try with_reducible rfl
            try simp only [Act.put, List.setIfInBounds_toArray, List.set_cons_zero, List.set_cons_succ]
            refine RegL.take_w (i := 10) (oi := ⟨some 45, _, _, _, _, _⟩) (v := ?_) SM rfl (by decide) (by kernel_rfl) (by kernel_rfl) (by kernel_rfl) (fun _ _ _ h => h) (Or.inl ⟨by rfl, ?_⟩) (H8.out) ?_
            rotate_left
            · intro w9 hw9; obtain ⟨q1, q2, q3, q4, q5, q6⟩ := hw9; go_simp; try with_reducible rfl
            try simp only [Act.put, List.setIfInBounds_toArray, List.set_cons_zero, List.set_cons_succ]
            refine RegL.take_w (i := 11) (oi := ⟨some 46, _, _, _, _, _⟩) (v := undef) SM rfl (by decide) (by kernel_rfl) (by kernel_rfl) (by kernel_rfl) (fun _ _ _ h => h) (Or.inr ⟨by rfl, rfl⟩) (H8.out) ?_
            try simp only [Act.put, List.setIfInBounds_toArray, List.set_cons_zero, List.set_cons_succ]
            refine RegL.take_w (i := 12) (oi := ⟨some 47, _, _, _, _, _⟩) (v := undef) SM rfl (by decide) (by kernel_rfl) (by kernel_rfl) (by kernel_rfl) (fun _ _ _ h => h) (Or.inr ⟨by rfl, rfl⟩) (H8.out) ?_
            try simp only [Act.put, List.setIfInBounds_toArray, List.set_cons_zero, List.set_cons_succ]
            refine RegL.take_w (i := 13) (oi := ⟨some 48, _, _, _, _, _⟩) (v := undef) SM rfl (by decide) (by kernel_rfl) (by kernel_rfl) (by kernel_rfl) (fun _ _ _ h => h) (Or.inr ⟨by rfl, rfl⟩) (H8.out) ?_
            try simp only [Act.put, List.setIfInBounds_toArray, List.set_cons_zero, List.set_cons_succ]
            refine RegL.take_w (i := 14) (oi := ⟨some 49, _, _, _, _, _⟩) (v := ?_) SM rfl (by decide) (by kernel_rfl) (by kernel_rfl) (by kernel_rfl) (fun _ _ _ h => h) (Or.inl ⟨by rfl, ?_⟩) (H8.out) ?_
            rotate_left
            · intro w9 hw9; obtain ⟨q1, q2, q3, q4, q5, q6⟩ := hw9; go_simp; try with_reducible rfl
            try simp only [Act.put, List.setIfInBounds_toArray, List.set_cons_zero, List.set_cons_succ]
            refine RegL.take_w (i := 15) (oi := ⟨some 50, _, _, _, _, _⟩) (v := ?_) SM rfl (by decide) (by kernel_rfl) (by kernel_rfl) (by kernel_rfl) (fun _ _ _ h => h) (Or.inl ⟨by rfl, ?_⟩) (H8.out) ?_
            rotate_left
            · intro w9 hw9; obtain ⟨q1, q2, q3, q4, q5, q6⟩ := hw9; go_simp; try with_reducible rfl
            try simp only [Act.put, List.setIfInBounds_toArray, List.set_cons_zero, List.set_cons_succ]
            refine RegL.take_w (i := 16) (oi := ⟨some 51, _, _, _, _, _⟩) (v := ?_) SM rfl (by decide) (by kernel_rfl) (by kernel_rfl) (by kernel_rfl) (fun _ _ _ h => h) (Or.inl ⟨by rfl, ?_⟩) (H8.out) ?_
            rotate_left
            · intro w9 hw9; obtain ⟨q1, q2, q3, q4, q5, q6⟩ := hw9; go_simp; try with_reducible rfl
            try simp only [Act.put, List.setIfInBounds_toArray, List.set_cons_zero, List.set_cons_succ]
            refine RegL.take_w (i := 17) (oi := ⟨some 52, _, _, _, _, _⟩) (v := ?_) SM rfl (by decide) (by kernel_rfl) (by kernel_rfl) (by kernel_rfl) (fun _ _ _ h => h) (Or.inl ⟨by rfl, ?_⟩) (H8.out) ?_
            rotate_left
            · intro w9 hw9; obtain ⟨q1, q2, q3, q4, q5, q6⟩ := hw9; go_simp; try with_reducible rfl
            try simp only [Act.put, List.setIfInBounds_toArray, List.set_cons_zero, List.set_cons_succ]
            refine RegL.take_w (i := 18) (oi := ⟨some 53, _, _, _, _, _⟩) (v := ?_) SM rfl (by decide) (by kernel_rfl) (by kernel_rfl) (by kernel_rfl) (fun _ _ _ h => h) (Or.inl ⟨by rfl, ?_⟩) (H8.out) ?_
            rotate_left
            · intro w9 hw9; obtain ⟨q1, q2, q3, q4, q5, q6⟩ := hw9; go_simp; try with_reducible rfl
            try simp only [Act.put, List.setIfInBounds_toArray, List.set_cons_zero, List.set_cons_succ]
            refine RegL.take_w (i := 19) (oi := ⟨some 54, _, _, _, _, _⟩) (v := ?_) SM rfl (by decide) (by kernel_rfl) (by kernel_rfl) (by kernel_rfl) (fun _ _ _ h => h) (Or.inl ⟨by rfl, ?_⟩) (H8.out) ?_
            rotate_left
            · intro w9 hw9; obtain ⟨q1, q2, q3, q4, q5, q6⟩ := hw9; go_simp; try with_reducible rfl
            try simp only [Act.put, List.setIfInBounds_toArray, List.set_cons_zero, List.set_cons_succ]
            refine RegL.take_w (i := 20) (oi := ⟨some 55, _, _, _, _, _⟩) (v := ?_) SM rfl (by decide) (by kernel_rfl) (by kernel_rfl) (by kernel_rfl) (fun _ _ _ h => h) (Or.inl ⟨by rfl, ?_⟩) (H8.out) ?_
            rotate_left
            · intro w9 hw9; obtain ⟨q1, q2, q3, q4, q5, q6⟩ := hw9; go_simp; try with_reducible rfl
            try simp only [Act.put, List.setIfInBounds_toArray, List.set_cons_zero, List.set_cons_succ]
            refine RegL.take_w (i := 21) (oi := ⟨some 56, _, _, _, _, _⟩) (v := ?_) SM rfl (by decide) (by kernel_rfl) (by kernel_rfl) (by kernel_rfl) (fun _ _ _ h => h) (Or.inl ⟨by rfl, ?_⟩) (H8.out) ?_
            rotate_left
            · intro w9 hw9; obtain ⟨q1, q2, q3, q4, q5, q6⟩ := hw9; go_simp; try with_reducible rfl
            try simp only [Act.put, List.setIfInBounds_toArray, List.set_cons_zero, List.set_cons_succ]
            refine RegL.take_w (i := 22) (oi := ⟨some 57, _, _, _, _, _⟩) (v := ?_) SM rfl (by decide) (by kernel_rfl) (by kernel_rfl) (by kernel_rfl) (fun _ _ _ h => h) (Or.inl ⟨by rfl, ?_⟩) (H8.out) ?_
            rotate_left
            · intro w9 hw9; obtain ⟨q1, q2, q3, q4, q5, q6⟩ := hw9; go_simp; try with_reducible rfl
            try simp only [Act.put, List.setIfInBounds_toArray, List.set_cons_zero, List.set_cons_succ]
            refine RegL.take_w (i := 23) (oi := ⟨some 58, _, _, _, _, _⟩) (v := ?_) SM rfl (by decide) (by kernel_rfl) (by kernel_rfl) (by kernel_rfl) (fun _ _ _ h => h) (Or.inl ⟨by rfl, ?_⟩) (H8.out) ?_
            rotate_left
            · intro w9 hw9; obtain ⟨q1, q2, q3, q4, q5, q6⟩ := hw9; go_simp; try with_reducible rfl
            try simp only [Act.put, List.setIfInBounds_toArray, List.set_cons_zero, List.set_cons_succ]
            refine RegL.take_w (i := 24) (oi := ⟨some 59, _, _, _, _, _⟩) (v := undef) SM rfl (by decide) (by kernel_rfl) (by kernel_rfl) (by kernel_rfl) (fun _ _ _ h => h) (Or.inr ⟨by rfl, rfl⟩) (H8.out) ?_
            try simp only [Act.put, List.setIfInBounds_toArray, List.set_cons_zero, List.set_cons_succ]
            refine RegL.take_w (i := 25) (oi := ⟨some 60, _, _, _, _, _⟩) (v := undef) SM rfl (by decide) (by kernel_rfl) (by kernel_rfl) (by kernel_rfl) (fun _ _ _ h => h) (Or.inr ⟨by rfl, rfl⟩) (H8.out) ?_
            try simp only [Act.put, List.setIfInBounds_toArray, List.set_cons_zero, List.set_cons_succ]
            refine RegL.take_w (i := 26) (oi := ⟨some 61, _, _, _, _, _⟩) (v := undef) SM rfl (by decide) (by kernel_rfl) (by kernel_rfl) (by kernel_rfl) (fun _ _ _ h => h) (Or.inr ⟨by rfl, rfl⟩) (H8.out) ?_
            try simp only [Act.put, List.setIfInBounds_toArray, List.set_cons_zero, List.set_cons_succ]
            refine RegL.take_w (i := 27) (oi := ⟨some 62, _, _, _, _, _⟩) (v := undef) SM rfl (by decide) (by kernel_rfl) (by kernel_rfl) (by kernel_rfl) (fun _ _ _ h => h) (Or.inr ⟨by rfl, rfl⟩) (H8.out) ?_
            try simp only [Act.put, List.setIfInBounds_toArray, List.set_cons_zero, List.set_cons_succ]
            refine RegL.take_w (i := 28) (oi := ⟨some 63, _, _, _, _, _⟩) (v := undef) SM rfl (by decide) (by kernel_rfl) (by kernel_rfl) (by kernel_rfl) (fun _ _ _ h => h) (Or.inr ⟨by rfl, rfl⟩) (H8.out) ?_
            try simp only [Act.put, List.setIfInBounds_toArray, List.set_cons_zero, List.set_cons_succ]
            refine RegL.take_w (i := 29) (oi := ⟨some 64, _, _, _, _, _⟩) (v := undef) SM rfl (by decide) (by kernel_rfl) (by kernel_rfl) (by kernel_rfl) (fun _ _ _ h => h) (Or.inr ⟨by rfl, rfl⟩) (H8.out) ?_
            try simp only [Act.put, List.setIfInBounds_toArray, List.set_cons_zero, List.set_cons_succ]
            refine RegL.take_w (i := 30) (oi := ⟨some 65, _, _, _, _, _⟩) (v := undef) SM rfl (by decide) (by kernel_rfl) (by kernel_rfl) (by kernel_rfl) (fun _ _ _ h => h) (Or.inr ⟨by rfl, rfl⟩) (H8.out) ?_
            try simp only [Act.put, List.setIfInBounds_toArray, List.set_cons_zero, List.set_cons_succ]
            refine RegL.take_w (i := 31) (oi := ⟨some 66, _, _, _, _, _⟩) (v := undef) SM rfl (by decide) (by kernel_rfl) (by kernel_rfl) (by kernel_rfl) (fun _ _ _ h => h) (Or.inr ⟨by rfl, rfl⟩) (H8.out) ?_
            try simp only [Act.put, List.setIfInBounds_toArray, List.set_cons_zero, List.set_cons_succ]
            refine RegL.take_w (i := 32) (oi := ⟨some 67, _, _, _, _, _⟩) (v := undef) SM rfl (by decide) (by kernel_rfl) (by kernel_rfl) (by kernel_rfl) (fun _ _ _ h => h) (Or.inr ⟨by rfl, rfl⟩) (H8.out) ?_
            try simp only [Act.put, List.setIfInBounds_toArray, List.set_cons_zero, List.set_cons_succ]
            refine RegL.take_w (i := 33) (oi := ⟨some 68, _, _, _, _, _⟩) (v := ?_) SM rfl (by decide) (by kernel_rfl) (by kernel_rfl) (by kernel_rfl) (fun _ _ _ h => h) (Or.inl ⟨by rfl, ?_⟩) (H8.out) ?_
            rotate_left
            · intro w9 hw9; obtain ⟨q1, q2, q3, q4, q5, q6⟩ := hw9; go_simp; try with_reducible rfl
            try simp only [Act.put, List.setIfInBounds_toArray, List.set_cons_zero, List.set_cons_succ]
            refine RegL.take_w (i := 34) (oi := ⟨some 69, _, _, _, _, _⟩) (v := ?_) SM rfl (by decide) (by kernel_rfl) (by kernel_rfl) (by kernel_rfl) (fun _ _ _ h => h) (Or.inl ⟨by rfl, ?_⟩) (H8.out) ?_
            rotate_left
            · intro w9 hw9; obtain ⟨q1, q2, q3, q4, q5, q6⟩ := hw9; go_simp; try with_reducible rfl
            try simp only [Act.put, List.setIfInBounds_toArray, List.set_cons_zero, List.set_cons_succ]
            refine RegL.take_w (i := 35) (oi := ⟨some 70, _, _, _, _, _⟩) (v := ?_) SM rfl (by decide) (by kernel_rfl) (by kernel_rfl) (by kernel_rfl) (fun _ _ _ h => h) (Or.inl ⟨by rfl, ?_⟩) (H8.out) ?_
            rotate_left
            · intro w9 hw9; obtain ⟨q1, q2, q3, q4, q5, q6⟩ := hw9; go_simp; try with_reducible rfl
            try simp only [Act.put, List.setIfInBounds_toArray, List.set_cons_zero, List.set_cons_succ]
            refine RegL.done_of (by kernel_rfl) ?_ _
            go_wp2_with fail
            go_meet
            exact ⟨rfl, rfl⟩
          · -- eq true
            have a1 : decide (s.known < F.mine) = false := by simp; omega
            have a2 : decide (s.known ≤ F.mine) = true := by simp; omega
            have a3 : decide ((s.known : Int) < (F.mine : Int)) = false := by simp; omega
            have a4 : decide ((s.known : Int) ≤ (F.mine : Int)) = true := by simp; omega
            have a5 : ((F.yours : Int) == (s.life : Int)) = true := by simp; omega
            have a6 : decide (F.yours = s.life) = true := by simp; omega
            have a7 : (F.yours == s.life) = true := by simp; omega
            rw [a1] at c4; rw [a2, a6] at c5
            rw [show (true && true) = true from rfl] at c5
            have H8 : Hid (wd.drew.cell? ⟨b3, 2, none⟩ = some (.int .u64 (F.mine : Int)) ∧ wd.drew.cell? ⟨b3, 3, none⟩ = some (.int .u64 (F.yours : Int)) ∧ wd.drew.cell? ⟨bh, 1, none⟩ = some (.bool false) ∧ wd.drew.cell? ⟨bh, 2, none⟩ = some (.bool false) ∧ wd.drew.cell? ⟨bh, 3, none⟩ = some (.bool true) ∧ wd.drew.cell? ⟨gp, 2 + i, none⟩ = some (.int .u64 (s.life : Int))) := ⟨c1, c2, c3, c4, c5, c6⟩
            clear c1 c2 c3 c4 c5 c6 HAN HFI HZ
            have SM : ∀ (bb0 : Bool) (w9 : World), (fun (_ : Bool) (w9 : World) => w9.cell? ⟨b3, 2, none⟩ = some (.int .u64 (F.mine : Int)) ∧ w9.cell? ⟨b3, 3, none⟩ = some (.int .u64 (F.yours : Int)) ∧ w9.cell? ⟨bh, 1, none⟩ = some (.bool false) ∧ w9.cell? ⟨bh, 2, none⟩ = some (.bool false) ∧ w9.cell? ⟨bh, 3, none⟩ = some (.bool true) ∧ w9.cell? ⟨gp, 2 + i, none⟩ = some (.int .u64 (s.life : Int))) bb0 w9 → (fun (_ : Bool) (w9 : World) => w9.cell? ⟨b3, 2, none⟩ = some (.int .u64 (F.mine : Int)) ∧ w9.cell? ⟨b3, 3, none⟩ = some (.int .u64 (F.yours : Int)) ∧ w9.cell? ⟨bh, 1, none⟩ = some (.bool false) ∧ w9.cell? ⟨bh, 2, none⟩ = some (.bool false) ∧ w9.cell? ⟨bh, 3, none⟩ = some (.bool true) ∧ w9.cell? ⟨gp, 2 + i, none⟩ = some (.int .u64 (s.life : Int))) true w9 := fun _ _ h => h
            refine RegL.begin_of (k := 99) (S := fun (_ : Bool) (w9 : World) => w9.cell? ⟨b3, 2, none⟩ = some (.int .u64 (F.mine : Int)) ∧ w9.cell? ⟨b3, 3, none⟩ = some (.int .u64 (F.yours : Int)) ∧ w9.cell? ⟨bh, 1, none⟩ = some (.bool false) ∧ w9.cell? ⟨bh, 2, none⟩ = some (.bool false) ∧ w9.cell? ⟨bh, 3, none⟩ = some (.bool true) ∧ w9.cell? ⟨gp, 2 + i, none⟩ = some (.int .u64 (s.life : Int))) (by kernel_rfl) ?_
            refine RegL.take_w (i := 0) (oi := ⟨some 35, _, _, _, _, _⟩) (v := ?_) SM rfl (by decide) (by kernel_rfl) (by kernel_rfl) (by kernel_rfl) (fun _ _ _ h => h) (Or.inl ⟨by rfl, ?_⟩) (H8.out) ?_
            rotate_left
            · intro w9 hw9; obtain ⟨q1, q2, q3, q4, q5, q6⟩ := hw9; go_simp; try with_reducible rfl
            try simp only [Act.put, List.setIfInBounds_toArray, List.set_cons_zero, List.set_cons_succ]
            refine RegL.take_w (i := 1) (oi := ⟨some 36, _, _, _, _, _⟩) (v := ?_) SM rfl (by decide) (by kernel_rfl) (by kernel_rfl) (by kernel_rfl) (fun _ _ _ h => h) (Or.inl ⟨by rfl, ?_⟩) (H8.out) ?_
            rotate_left
            · intro w9 hw9; obtain ⟨q1, q2, q3, q4, q5, q6⟩ := hw9; go_simp; try with_reducible rfl
            try simp only [Act.put, List.setIfInBounds_toArray, List.set_cons_zero, List.set_cons_succ]
            refine RegL.take_w (i := 2) (oi := ⟨some 37, _, _, _, _, _⟩) (v := ?_) SM rfl (by decide) (by kernel_rfl) (by kernel_rfl) (by kernel_rfl) (fun _ _ _ h => h) (Or.inl ⟨by rfl, ?_⟩) (H8.out) ?_
            rotate_left
            · intro w9 hw9; obtain ⟨q1, q2, q3, q4, q5, q6⟩ := hw9; go_simp; try with_reducible rfl
            try simp only [Act.put, List.setIfInBounds_toArray, List.set_cons_zero, List.set_cons_succ]
            refine RegL.take_w (i := 3) (oi := ⟨some 38, _, _, _, _, _⟩) (v := ?_) SM rfl (by decide) (by kernel_rfl) (by kernel_rfl) (by kernel_rfl) (fun _ _ _ h => h) (Or.inl ⟨by rfl, ?_⟩) (H8.out) ?_
            rotate_left
            · intro w9 hw9; obtain ⟨q1, q2, q3, q4, q5, q6⟩ := hw9; go_simp; try with_reducible rfl
            try simp only [Act.put, List.setIfInBounds_toArray, List.set_cons_zero, List.set_cons_succ]
            refine RegL.take_w (i := 4) (oi := ⟨some 39, _, _, _, _, _⟩) (v := ?_) SM rfl (by decide) (by kernel_rfl) (by kernel_rfl) (by kernel_rfl) (fun _ _ _ h => h) (Or.inl ⟨by rfl, ?_⟩) (H8.out) ?_
            rotate_left
            · intro w9 hw9; obtain ⟨q1, q2, q3, q4, q5, q6⟩ := hw9; go_simp; try with_reducible rfl
            try simp only [Act.put, List.setIfInBounds_toArray, List.set_cons_zero, List.set_cons_succ]
            refine RegL.take_w (i := 5) (oi := ⟨some 40, _, _, _, _, _⟩) (v := ?_) SM rfl (by decide) (by kernel_rfl) (by kernel_rfl) (by kernel_rfl) (fun _ _ _ h => h) (Or.inl ⟨by rfl, ?_⟩) (H8.out) ?_
            rotate_left
            · intro w9 hw9; obtain ⟨q1, q2, q3, q4, q5, q6⟩ := hw9; go_simp; try with_reducible rfl
            try simp only [Act.put, List.setIfInBounds_toArray, List.set_cons_zero, List.set_cons_succ]
            refine RegL.take_w (i := 6) (oi := ⟨some 41, _, _, _, _, _⟩) (v := ?_) SM rfl (by decide) (by kernel_rfl) (by kernel_rfl) (by kernel_rfl) (fun _ _ _ h => h) (Or.inl ⟨by rfl, ?_⟩) (H8.out) ?_
            rotate_left
            · intro w9 hw9; obtain ⟨q1, q2, q3, q4, q5, q6⟩ := hw9; go_simp; try with_reducible rfl
            try simp only [Act.put, List.setIfInBounds_toArray, List.set_cons_zero, List.set_cons_succ]
            refine RegL.take_w (i := 7) (oi := ⟨some 42, _, _, _, _, _⟩) (v := ?_) SM rfl (by decide) (by kernel_rfl) (by kernel_rfl) (by kernel_rfl) (fun _ _ _ h => h) (Or.inl ⟨by rfl, ?_⟩) (H8.out) ?_
            rotate_left
            · intro w9 hw9; obtain ⟨q1, q2, q3, q4, q5, q6⟩ := hw9; go_simp; try with_reducible rfl
            try simp only [Act.put, List.setIfInBounds_toArray, List.set_cons_zero, List.set_cons_succ]
            refine RegL.take_w (i := 8) (oi := ⟨some 43, _, _, _, _, _⟩) (v := ?_) SM rfl (by decide) (by kernel_rfl) (by kernel_rfl) (by kernel_rfl) (fun _ _ _ h => h) (Or.inl ⟨by rfl, ?_⟩) (H8.out) ?_
            rotate_left
            · intro w9 hw9; obtain ⟨q1, q2, q3, q4, q5, q6⟩ := hw9; go_simp; try with_reducible rfl
            try simp only [Act.put, List.setIfInBounds_toArray, List.set_cons_zero, List.set_cons_succ]
            refine RegL.take_w (i := 9) (oi := ⟨some 44, _, _, _, _, _⟩) (v := ?_) SM rfl (by decide) (by kernel_rfl) (by kernel_rfl) (by kernel_rfl) (fun _ _ _ h => h) (Or.inl ⟨by rfl, ?_⟩) (H8.out) ?_
            rotate_left
            · intro w9 hw9; obtain ⟨q1, q2, q3, q4, q5, q6⟩ := hw9; go_simp; try with_reducible rfl
            try simp only [Act.put, List.setIfInBounds_toArray, List.set_cons_zero, List.set_cons_succ]
            refine RegL.take_w (i := 10) (oi := ⟨some 45, _, _, _, _, _⟩) (v := ?_) SM rfl (by decide) (by kernel_rfl) (by kernel_rfl) (by kernel_rfl) (fun _ _ _ h => h) (Or.inl ⟨by rfl, ?_⟩) (H8.out) ?_
            rotate_left
            · intro w9 hw9; obtain ⟨q1, q2, q3, q4, q5, q6⟩ := hw9; go_simp; try with_reducible rfl
            try simp only [Act.put, List.setIfInBounds_toArray, List.set_cons_zero, List.set_cons_succ]
            refine RegL.take_w (i := 11) (oi := ⟨some 46, _, _, _, _, _⟩) (v := undef) SM rfl (by decide) (by kernel_rfl) (by kernel_rfl) (by kernel_rfl) (fun _ _ _ h => h) (Or.inr ⟨by rfl, rfl⟩) (H8.out) ?_
            try simp only [Act.put, List.setIfInBounds_toArray, List.set_cons_zero, List.set_cons_succ]
            refine RegL.take_w (i := 12) (oi := ⟨some 47, _, _, _, _, _⟩) (v := undef) SM rfl (by decide) (by kernel_rfl) (by kernel_rfl) (by kernel_rfl) (fun _ _ _ h => h) (Or.inr ⟨by rfl, rfl⟩) (H8.out) ?_
            try simp only [Act.put, List.setIfInBounds_toArray, List.set_cons_zero, List.set_cons_succ]
            refine RegL.take_w (i := 13) (oi := ⟨some 48, _, _, _, _, _⟩) (v := undef) SM rfl (by decide) (by kernel_rfl) (by kernel_rfl) (by kernel_rfl) (fun _ _ _ h => h) (Or.inr ⟨by rfl, rfl⟩) (H8.out) ?_
            try simp only [Act.put, List.setIfInBounds_toArray, List.set_cons_zero, List.set_cons_succ]
            refine RegL.take_w (i := 14) (oi := ⟨some 49, _, _, _, _, _⟩) (v := ?_) SM rfl (by decide) (by kernel_rfl) (by kernel_rfl) (by kernel_rfl) (fun _ _ _ h => h) (Or.inl ⟨by rfl, ?_⟩) (H8.out) ?_
            rotate_left
            · intro w9 hw9; obtain ⟨q1, q2, q3, q4, q5, q6⟩ := hw9; go_simp; try with_reducible rfl
            try simp only [Act.put, List.setIfInBounds_toArray, List.set_cons_zero, List.set_cons_succ]
            refine RegL.take_w (i := 15) (oi := ⟨some 50, _, _, _, _, _⟩) (v := ?_) SM rfl (by decide) (by kernel_rfl) (by kernel_rfl) (by kernel_rfl) (fun _ _ _ h => h) (Or.inl ⟨by rfl, ?_⟩) (H8.out) ?_
            rotate_left
            · intro w9 hw9; obtain ⟨q1, q2, q3, q4, q5, q6⟩ := hw9; go_simp; try with_reducible rfl
            try simp only [Act.put, List.setIfInBounds_toArray, List.set_cons_zero, List.set_cons_succ]
            refine RegL.take_w (i := 16) (oi := ⟨some 51, _, _, _, _, _⟩) (v := ?_) SM rfl (by decide) (by kernel_rfl) (by kernel_rfl) (by kernel_rfl) (fun _ _ _ h => h) (Or.inl ⟨by rfl, ?_⟩) (H8.out) ?_
            rotate_left
            · intro w9 hw9; obtain ⟨q1, q2, q3, q4, q5, q6⟩ := hw9; go_simp; try with_reducible rfl
            try simp only [Act.put, List.setIfInBounds_toArray, List.set_cons_zero, List.set_cons_succ]
            refine RegL.take_w (i := 17) (oi := ⟨some 52, _, _, _, _, _⟩) (v := ?_) SM rfl (by decide) (by kernel_rfl) (by kernel_rfl) (by kernel_rfl) (fun _ _ _ h => h) (Or.inl ⟨by rfl, ?_⟩) (H8.out) ?_
            rotate_left
            · intro w9 hw9; obtain ⟨q1, q2, q3, q4, q5, q6⟩ := hw9; go_simp; try with_reducible rfl
            try simp only [Act.put, List.setIfInBounds_toArray, List.set_cons_zero, List.set_cons_succ]
            refine RegL.take_w (i := 18) (oi := ⟨some 53, _, _, _, _, _⟩) (v := ?_) SM rfl (by decide) (by kernel_rfl) (by kernel_rfl) (by kernel_rfl) (fun _ _ _ h => h) (Or.inl ⟨by rfl, ?_⟩) (H8.out) ?_
            rotate_left
            · intro w9 hw9; obtain ⟨q1, q2, q3, q4, q5, q6⟩ := hw9; go_simp; try with_reducible rfl
            try simp only [Act.put, List.setIfInBounds_toArray, List.set_cons_zero, List.set_cons_succ]
            refine RegL.take_w (i := 19) (oi := ⟨some 54, _, _, _, _, _⟩) (v := ?_) SM rfl (by decide) (by kernel_rfl) (by kernel_rfl) (by kernel_rfl) (fun _ _ _ h => h) (Or.inl ⟨by rfl, ?_⟩) (H8.out) ?_
            rotate_left
            · intro w9 hw9; obtain ⟨q1, q2, q3, q4, q5, q6⟩ := hw9; go_simp; try with_reducible rfl
            try simp only [Act.put, List.setIfInBounds_toArray, List.set_cons_zero, List.set_cons_succ]
            refine RegL.take_w (i := 20) (oi := ⟨some 55, _, _, _, _, _⟩) (v := ?_) SM rfl (by decide) (by kernel_rfl) (by kernel_rfl) (by kernel_rfl) (fun _ _ _ h => h) (Or.inl ⟨by rfl, ?_⟩) (H8.out) ?_
            rotate_left
            · intro w9 hw9; obtain ⟨q1, q2, q3, q4, q5, q6⟩ := hw9; go_simp; try with_reducible rfl
            try simp only [Act.put, List.setIfInBounds_toArray, List.set_cons_zero, List.set_cons_succ]
            refine RegL.take_w (i := 21) (oi := ⟨some 56, _, _, _, _, _⟩) (v := ?_) SM rfl (by decide) (by kernel_rfl) (by kernel_rfl) (by kernel_rfl) (fun _ _ _ h => h) (Or.inl ⟨by rfl, ?_⟩) (H8.out) ?_
            rotate_left
            · intro w9 hw9; obtain ⟨q1, q2, q3, q4, q5, q6⟩ := hw9; go_simp; try with_reducible rfl
            try simp only [Act.put, List.setIfInBounds_toArray, List.set_cons_zero, List.set_cons_succ]
            refine RegL.take_w (i := 22) (oi := ⟨some 57, _, _, _, _, _⟩) (v := ?_) SM rfl (by decide) (by kernel_rfl) (by kernel_rfl) (by kernel_rfl) (fun _ _ _ h => h) (Or.inl ⟨by rfl, ?_⟩) (H8.out) ?_
            rotate_left
            · intro w9 hw9; obtain ⟨q1, q2, q3, q4, q5, q6⟩ := hw9; go_simp; try with_reducible rfl
            try simp only [Act.put, List.setIfInBounds_toArray, List.set_cons_zero, List.set_cons_succ]
            refine RegL.take_w (i := 23) (oi := ⟨some 58, _, _, _, _, _⟩) (v := ?_) SM rfl (by decide) (by kernel_rfl) (by kernel_rfl) (by kernel_rfl) (fun _ _ _ h => h) (Or.inl ⟨by rfl, ?_⟩) (H8.out) ?_
            rotate_left
            · intro w9 hw9; obtain ⟨q1, q2, q3, q4, q5, q6⟩ := hw9; go_simp; try with_reducible rfl
            try simp only [Act.put, List.setIfInBounds_toArray, List.set_cons_zero, List.set_cons_succ]
            refine RegL.take_w (i := 24) (oi := ⟨some 59, _, _, _, _, _⟩) (v := ?_) SM rfl (by decide) (by kernel_rfl) (by kernel_rfl) (by kernel_rfl) (fun _ _ _ h => h) (Or.inl ⟨by rfl, ?_⟩) (H8.out) ?_
            rotate_left
            · intro w9 hw9; obtain ⟨q1, q2, q3, q4, q5, q6⟩ := hw9; go_simp; try with_reducible rfl
            try simp only [Act.put, List.setIfInBounds_toArray, List.set_cons_zero, List.set_cons_succ]
            refine RegL.take_w (i := 25) (oi := ⟨some 60, _, _, _, _, _⟩) (v := ?_) SM rfl (by decide) (by kernel_rfl) (by kernel_rfl) (by kernel_rfl) (fun _ _ _ h => h) (Or.inl ⟨by rfl, ?_⟩) (H8.out) ?_
            rotate_left
            · intro w9 hw9; obtain ⟨q1, q2, q3, q4, q5, q6⟩ := hw9; go_simp; try with_reducible rfl
            try simp only [Act.put, List.setIfInBounds_toArray, List.set_cons_zero, List.set_cons_succ]
            refine RegL.take_w (i := 26) (oi := ⟨some 61, _, _, _, _, _⟩) (v := ?_) SM rfl (by decide) (by kernel_rfl) (by kernel_rfl) (by kernel_rfl) (fun _ _ _ h => h) (Or.inl ⟨by rfl, ?_⟩) (H8.out) ?_
            rotate_left
            · intro w9 hw9; obtain ⟨q1, q2, q3, q4, q5, q6⟩ := hw9; go_simp; try with_reducible rfl
            try simp only [Act.put, List.setIfInBounds_toArray, List.set_cons_zero, List.set_cons_succ]
            refine RegL.take_w (i := 27) (oi := ⟨some 62, _, _, _, _, _⟩) (v := ?_) SM rfl (by decide) (by kernel_rfl) (by kernel_rfl) (by kernel_rfl) (fun _ _ _ h => h) (Or.inl ⟨by rfl, ?_⟩) (H8.out) ?_
            rotate_left
            · intro w9 hw9; obtain ⟨q1, q2, q3, q4, q5, q6⟩ := hw9; go_simp; try with_reducible rfl
            try simp only [Act.put, List.setIfInBounds_toArray, List.set_cons_zero, List.set_cons_succ]
            refine RegL.take_w (i := 28) (oi := ⟨some 63, _, _, _, _, _⟩) (v := ?_) SM rfl (by decide) (by kernel_rfl) (by kernel_rfl) (by kernel_rfl) (fun _ _ _ h => h) (Or.inl ⟨by rfl, ?_⟩) (H8.out) ?_
            rotate_left
            · intro w9 hw9; obtain ⟨q1, q2, q3, q4, q5, q6⟩ := hw9; go_simp; try with_reducible rfl
            try simp only [Act.put, List.setIfInBounds_toArray, List.set_cons_zero, List.set_cons_succ]
            refine RegL.take_w (i := 29) (oi := ⟨some 64, _, _, _, _, _⟩) (v := ?_) SM rfl (by decide) (by kernel_rfl) (by kernel_rfl) (by kernel_rfl) (fun _ _ _ h => h) (Or.inl ⟨by rfl, ?_⟩) (H8.out) ?_
            rotate_left
            · intro w9 hw9; obtain ⟨q1, q2, q3, q4, q5, q6⟩ := hw9; go_simp; try with_reducible rfl
            try simp only [Act.put, List.setIfInBounds_toArray, List.set_cons_zero, List.set_cons_succ]
            refine RegL.take_w (i := 30) (oi := ⟨some 65, _, _, _, _, _⟩) (v := ?_) SM rfl (by decide) (by kernel_rfl) (by kernel_rfl) (by kernel_rfl) (fun _ _ _ h => h) (Or.inl ⟨by rfl, ?_⟩) (H8.out) ?_
            rotate_left
            · intro w9 hw9; obtain ⟨q1, q2, q3, q4, q5, q6⟩ := hw9; go_simp; try with_reducible rfl
            try simp only [Act.put, List.setIfInBounds_toArray, List.set_cons_zero, List.set_cons_succ]
            refine RegL.take_w (i := 31) (oi := ⟨some 66, _, _, _, _, _⟩) (v := ?_) SM rfl (by decide) (by kernel_rfl) (by kernel_rfl) (by kernel_rfl) (fun _ _ _ h => h) (Or.inl ⟨by rfl, ?_⟩) (H8.out) ?_
            rotate_left
            · intro w9 hw9; obtain ⟨q1, q2, q3, q4, q5, q6⟩ := hw9; go_simp; try with_reducible rfl
            try simp only [Act.put, List.setIfInBounds_toArray, List.set_cons_zero, List.set_cons_succ]
            refine RegL.take_w (i := 32) (oi := ⟨some 67, _, _, _, _, _⟩) (v := ?_) SM rfl (by decide) (by kernel_rfl) (by kernel_rfl) (by kernel_rfl) (fun _ _ _ h => h) (Or.inl ⟨by rfl, ?_⟩) (H8.out) ?_
            rotate_left
            · intro w9 hw9; obtain ⟨q1, q2, q3, q4, q5, q6⟩ := hw9; go_simp; try with_reducible rfl
            try simp only [Act.put, List.setIfInBounds_toArray, List.set_cons_zero, List.set_cons_succ]
            refine RegL.take_w (i := 33) (oi := ⟨some 68, _, _, _, _, _⟩) (v := ?_) SM rfl (by decide) (by kernel_rfl) (by kernel_rfl) (by kernel_rfl) (fun _ _ _ h => h) (Or.inl ⟨by rfl, ?_⟩) (H8.out) ?_
            rotate_left
            · intro w9 hw9; obtain ⟨q1, q2, q3, q4, q5, q6⟩ := hw9; go_simp; try with_reducible rfl
            try simp only [Act.put, List.setIfInBounds_toArray, List.set_cons_zero, List.set_cons_succ]
            refine RegL.take_w (i := 34) (oi := ⟨some 69, _, _, _, _, _⟩) (v := ?_) SM rfl (by decide) (by kernel_rfl) (by kernel_rfl) (by kernel_rfl) (fun _ _ _ h => h) (Or.inl ⟨by rfl, ?_⟩) (H8.out) ?_
            rotate_left
            · intro w9 hw9; obtain ⟨q1, q2, q3, q4, q5, q6⟩ := hw9; go_simp; try with_reducible rfl
            try simp only [Act.put, List.setIfInBounds_toArray, List.set_cons_zero, List.set_cons_succ]
            refine RegL.take_w (i := 35) (oi := ⟨some 70, _, _, _, _, _⟩) (v := ?_) SM rfl (by decide) (by kernel_rfl) (by kernel_rfl) (by kernel_rfl) (fun _ _ _ h => h) (Or.inl ⟨by rfl, ?_⟩) (H8.out) ?_
            rotate_left
            · intro w9 hw9; obtain ⟨q1, q2, q3, q4, q5, q6⟩ := hw9; go_simp; try with_reducible rfl
            try simp only [Act.put, List.setIfInBounds_toArray, List.set_cons_zero, List.set_cons_succ]
            refine RegL.done_of (by kernel_rfl) ?_ _
            go_wp2_with fail
            go_meet
            exact ⟨rfl, rfl⟩
          · -- eq false
            have a1 : decide (s.known < F.mine) = false := by simp; omega
            have a2 : decide (s.known ≤ F.mine) = true := by simp; omega
            have a3 : decide ((s.known : Int) < (F.mine : Int)) = false := by simp; omega
            have a4 : decide ((s.known : Int) ≤ (F.mine : Int)) = true := by simp; omega
            have a5 : ((F.yours : Int) == (s.life : Int)) = false := by simp; omega
            have a6 : decide (F.yours = s.life) = false := by simp; omega
            have a7 : (F.yours == s.life) = false := by simp; omega
            rw [a1] at c4; rw [a2, a6] at c5
            rw [show (true && false) = false from rfl] at c5
            have H8 : Hid (wd.drew.cell? ⟨b3, 2, none⟩ = some (.int .u64 (F.mine : Int)) ∧ wd.drew.cell? ⟨b3, 3, none⟩ = some (.int .u64 (F.yours : Int)) ∧ wd.drew.cell? ⟨bh, 1, none⟩ = some (.bool false) ∧ wd.drew.cell? ⟨bh, 2, none⟩ = some (.bool false) ∧ wd.drew.cell? ⟨bh, 3, none⟩ = some (.bool false) ∧ wd.drew.cell? ⟨gp, 2 + i, none⟩ = some (.int .u64 (s.life : Int))) := ⟨c1, c2, c3, c4, c5, c6⟩
            clear c1 c2 c3 c4 c5 c6 HAN HFI HZ
            have SM : ∀ (bb0 : Bool) (w9 : World), (fun (_ : Bool) (w9 : World) => w9.cell? ⟨b3, 2, none⟩ = some (.int .u64 (F.mine : Int)) ∧ w9.cell? ⟨b3, 3, none⟩ = some (.int .u64 (F.yours : Int)) ∧ w9.cell? ⟨bh, 1, none⟩ = some (.bool false) ∧ w9.cell? ⟨bh, 2, none⟩ = some (.bool false) ∧ w9.cell? ⟨bh, 3, none⟩ = some (.bool false) ∧ w9.cell? ⟨gp, 2 + i, none⟩ = some (.int .u64 (s.life : Int))) bb0 w9 → (fun (_ : Bool) (w9 : World) => w9.cell? ⟨b3, 2, none⟩ = some (.int .u64 (F.mine : Int)) ∧ w9.cell? ⟨b3, 3, none⟩ = some (.int .u64 (F.yours : Int)) ∧ w9.cell? ⟨bh, 1, none⟩ = some (.bool false) ∧ w9.cell? ⟨bh, 2, none⟩ = some (.bool false) ∧ w9.cell? ⟨bh, 3, none⟩ = some (.bool false) ∧ w9.cell? ⟨gp, 2 + i, none⟩ = some (.int .u64 (s.life : Int))) true w9 := fun _ _ h => h
            refine RegL.begin_of (k := 99) (S := fun (_ : Bool) (w9 : World) => w9.cell? ⟨b3, 2, none⟩ = some (.int .u64 (F.mine : Int)) ∧ w9.cell? ⟨b3, 3, none⟩ = some (.int .u64 (F.yours : Int)) ∧ w9.cell? ⟨bh, 1, none⟩ = some (.bool false) ∧ w9.cell? ⟨bh, 2, none⟩ = some (.bool false) ∧ w9.cell? ⟨bh, 3, none⟩ = some (.bool false) ∧ w9.cell? ⟨gp, 2 + i, none⟩ = some (.int .u64 (s.life : Int))) (by kernel_rfl) ?_
            refine RegL.take_w (i := 0) (oi := ⟨some 35, _, _, _, _, _⟩) (v := ?_) SM rfl (by decide) (by kernel_rfl) (by kernel_rfl) (by kernel_rfl) (fun _ _ _ h => h) (Or.inl ⟨by rfl, ?_⟩) (H8.out) ?_
            rotate_left
            · intro w9 hw9; obtain ⟨q1, q2, q3, q4, q5, q6⟩ := hw9; go_simp; try with_reducible rfl
            try simp only [Act.put, List.setIfInBounds_toArray, List.set_cons_zero, List.set_cons_succ]
            refine RegL.take_w (i := 1) (oi := ⟨some 36, _, _, _, _, _⟩) (v := ?_) SM rfl (by decide) (by kernel_rfl) (by kernel_rfl) (by kernel_rfl) (fun _ _ _ h => h) (Or.inl ⟨by rfl, ?_⟩) (H8.out) ?_
            rotate_left
            · intro w9 hw9; obtain ⟨q1, q2, q3, q4, q5, q6⟩ := hw9; go_simp; try with_reducible rfl
            try simp only [Act.put, List.setIfInBounds_toArray, List.set_cons_zero, List.set_cons_succ]
            refine RegL.take_w (i := 2) (oi := ⟨some 37, _, _, _, _, _⟩) (v := ?_) SM rfl (by decide) (by kernel_rfl) (by kernel_rfl) (by kernel_rfl) (fun _ _ _ h => h) (Or.inl ⟨by rfl, ?_⟩) (H8.out) ?_
            rotate_left
            · intro w9 hw9; obtain ⟨q1, q2, q3, q4, q5, q6⟩ := hw9; go_simp; try with_reducible rfl
            try simp only [Act.put, List.setIfInBounds_toArray, List.set_cons_zero, List.set_cons_succ]
            refine RegL.take_w (i := 3) (oi := ⟨some 38, _, _, _, _, _⟩) (v := ?_) SM rfl (by decide) (by kernel_rfl) (by kernel_rfl) (by kernel_rfl) (fun _ _ _ h => h) (Or.inl ⟨by rfl, ?_⟩) (H8.out) ?_
            rotate_left
            · intro w9 hw9; obtain ⟨q1, q2, q3, q4, q5, q6⟩ := hw9; go_simp; try with_reducible rfl
            try simp only [Act.put, List.setIfInBounds_toArray, List.set_cons_zero, List.set_cons_succ]
            refine RegL.take_w (i := 4) (oi := ⟨some 39, _, _, _, _, _⟩) (v := ?_) SM rfl (by decide) (by kernel_rfl) (by kernel_rfl) (by kernel_rfl) (fun _ _ _ h => h) (Or.inl ⟨by rfl, ?_⟩) (H8.out) ?_
            rotate_left
            · intro w9 hw9; obtain ⟨q1, q2, q3, q4, q5, q6⟩ := hw9; go_simp; try with_reducible rfl
            try simp only [Act.put, List.setIfInBounds_toArray, List.set_cons_zero, List.set_cons_succ]
            refine RegL.take_w (i := 5) (oi := ⟨some 40, _, _, _, _, _⟩) (v := ?_) SM rfl (by decide) (by kernel_rfl) (by kernel_rfl) (by kernel_rfl) (fun _ _ _ h => h) (Or.inl ⟨by rfl, ?_⟩) (H8.out) ?_
            rotate_left
            · intro w9 hw9; obtain ⟨q1, q2, q3, q4, q5, q6⟩ := hw9; go_simp; try with_reducible rfl
            try simp only [Act.put, List.setIfInBounds_toArray, List.set_cons_zero, List.set_cons_succ]
            refine RegL.take_w (i := 6) (oi := ⟨some 41, _, _, _, _, _⟩) (v := ?_) SM rfl (by decide) (by kernel_rfl) (by kernel_rfl) (by kernel_rfl) (fun _ _ _ h => h) (Or.inl ⟨by rfl, ?_⟩) (H8.out) ?_
            rotate_left
            · intro w9 hw9; obtain ⟨q1, q2, q3, q4, q5, q6⟩ := hw9; go_simp; try with_reducible rfl
            try simp only [Act.put, List.setIfInBounds_toArray, List.set_cons_zero, List.set_cons_succ]
            refine RegL.take_w (i := 7) (oi := ⟨some 42, _, _, _, _, _⟩) (v := ?_) SM rfl (by decide) (by kernel_rfl) (by kernel_rfl) (by kernel_rfl) (fun _ _ _ h => h) (Or.inl ⟨by rfl, ?_⟩) (H8.out) ?_
            rotate_left
            · intro w9 hw9; obtain ⟨q1, q2, q3, q4, q5, q6⟩ := hw9; go_simp; try with_reducible rfl
            try simp only [Act.put, List.setIfInBounds_toArray, List.set_cons_zero, List.set_cons_succ]
            refine RegL.take_w (i := 8) (oi := ⟨some 43, _, _, _, _, _⟩) (v := ?_) SM rfl (by decide) (by kernel_rfl) (by kernel_rfl) (by kernel_rfl) (fun _ _ _ h => h) (Or.inl ⟨by rfl, ?_⟩) (H8.out) ?_
            rotate_left
            · intro w9 hw9; obtain ⟨q1, q2, q3, q4, q5, q6⟩ := hw9; go_simp; try with_reducible rfl
            try simp only [Act.put, List.setIfInBounds_toArray, List.set_cons_zero, List.set_cons_succ]
            refine RegL.take_w (i := 9) (oi := ⟨some 44, _, _, _, _, _⟩) (v := ?_) SM rfl (by decide) (by kernel_rfl) (by kernel_rfl) (by kernel_rfl) (fun _ _ _ h => h) (Or.inl ⟨by rfl, ?_⟩) (H8.out) ?_
            rotate_left
            · intro w9 hw9; obtain ⟨q1, q2, q3, q4, q5, q6⟩ := hw9; go_simp; try with_reducible rfl
            try simp only [Act.put, List.setIfInBounds_toArray, List.set_cons_zero, List.set_cons_succ]
            refine RegL.take_w (i := 10) (oi := ⟨some 45, _, _, _, _, _⟩) (v := ?_) SM rfl (by decide) (by kernel_rfl) (by kernel_rfl) (by kernel_rfl) (fun _ _ _ h => h) (Or.inl ⟨by rfl, ?_⟩) (H8.out) ?_
            rotate_left
            · intro w9 hw9; obtain ⟨q1, q2, q3, q4, q5, q6⟩ := hw9; go_simp; try with_reducible rfl
            try simp only [Act.put, List.setIfInBounds_toArray, List.set_cons_zero, List.set_cons_succ]
            refine RegL.take_w (i := 11) (oi := ⟨some 46, _, _, _, _, _⟩) (v := undef) SM rfl (by decide) (by kernel_rfl) (by kernel_rfl) (by kernel_rfl) (fun _ _ _ h => h) (Or.inr ⟨by rfl, rfl⟩) (H8.out) ?_
            try simp only [Act.put, List.setIfInBounds_toArray, List.set_cons_zero, List.set_cons_succ]
            refine RegL.take_w (i := 12) (oi := ⟨some 47, _, _, _, _, _⟩) (v := undef) SM rfl (by decide) (by kernel_rfl) (by kernel_rfl) (by kernel_rfl) (fun _ _ _ h => h) (Or.inr ⟨by rfl, rfl⟩) (H8.out) ?_
            try simp only [Act.put, List.setIfInBounds_toArray, List.set_cons_zero, List.set_cons_succ]
            refine RegL.take_w (i := 13) (oi := ⟨some 48, _, _, _, _, _⟩) (v := undef) SM rfl (by decide) (by kernel_rfl) (by kernel_rfl) (by kernel_rfl) (fun _ _ _ h => h) (Or.inr ⟨by rfl, rfl⟩) (H8.out) ?_
            try simp only [Act.put, List.setIfInBounds_toArray, List.set_cons_zero, List.set_cons_succ]
            refine RegL.take_w (i := 14) (oi := ⟨some 49, _, _, _, _, _⟩) (v := ?_) SM rfl (by decide) (by kernel_rfl) (by kernel_rfl) (by kernel_rfl) (fun _ _ _ h => h) (Or.inl ⟨by rfl, ?_⟩) (H8.out) ?_
            rotate_left
            · intro w9 hw9; obtain ⟨q1, q2, q3, q4, q5, q6⟩ := hw9; go_simp; try with_reducible rfl
            try simp only [Act.put, List.setIfInBounds_toArray, List.set_cons_zero, List.set_cons_succ]
            refine RegL.take_w (i := 15) (oi := ⟨some 50, _, _, _, _, _⟩) (v := ?_) SM rfl (by decide) (by kernel_rfl) (by kernel_rfl) (by kernel_rfl) (fun _ _ _ h => h) (Or.inl ⟨by rfl, ?_⟩) (H8.out) ?_
            rotate_left
            · intro w9 hw9; obtain ⟨q1, q2, q3, q4, q5, q6⟩ := hw9; go_simp; try with_reducible rfl
            try simp only [Act.put, List.setIfInBounds_toArray, List.set_cons_zero, List.set_cons_succ]
            refine RegL.take_w (i := 16) (oi := ⟨some 51, _, _, _, _, _⟩) (v := ?_) SM rfl (by decide) (by kernel_rfl) (by kernel_rfl) (by kernel_rfl) (fun _ _ _ h => h) (Or.inl ⟨by rfl, ?_⟩) (H8.out) ?_
            rotate_left
            · intro w9 hw9; obtain ⟨q1, q2, q3, q4, q5, q6⟩ := hw9; go_simp; try with_reducible rfl
            try simp only [Act.put, List.setIfInBounds_toArray, List.set_cons_zero, List.set_cons_succ]
            refine RegL.take_w (i := 17) (oi := ⟨some 52, _, _, _, _, _⟩) (v := ?_) SM rfl (by decide) (by kernel_rfl) (by kernel_rfl) (by kernel_rfl) (fun _ _ _ h => h) (Or.inl ⟨by rfl, ?_⟩) (H8.out) ?_
            rotate_left
            · intro w9 hw9; obtain ⟨q1, q2, q3, q4, q5, q6⟩ := hw9; go_simp; try with_reducible rfl
            try simp only [Act.put, List.setIfInBounds_toArray, List.set_cons_zero, List.set_cons_succ]
            refine RegL.take_w (i := 18) (oi := ⟨some 53, _, _, _, _, _⟩) (v := ?_) SM rfl (by decide) (by kernel_rfl) (by kernel_rfl) (by kernel_rfl) (fun _ _ _ h => h) (Or.inl ⟨by rfl, ?_⟩) (H8.out) ?_
            rotate_left
            · intro w9 hw9; obtain ⟨q1, q2, q3, q4, q5, q6⟩ := hw9; go_simp; try with_reducible rfl
            try simp only [Act.put, List.setIfInBounds_toArray, List.set_cons_zero, List.set_cons_succ]
            refine RegL.take_w (i := 19) (oi := ⟨some 54, _, _, _, _, _⟩) (v := ?_) SM rfl (by decide) (by kernel_rfl) (by kernel_rfl) (by kernel_rfl) (fun _ _ _ h => h) (Or.inl ⟨by rfl, ?_⟩) (H8.out) ?_
            rotate_left
            · intro w9 hw9; obtain ⟨q1, q2, q3, q4, q5, q6⟩ := hw9; go_simp; try with_reducible rfl
            try simp only [Act.put, List.setIfInBounds_toArray, List.set_cons_zero, List.set_cons_succ]
            refine RegL.take_w (i := 20) (oi := ⟨some 55, _, _, _, _, _⟩) (v := ?_) SM rfl (by decide) (by kernel_rfl) (by kernel_rfl) (by kernel_rfl) (fun _ _ _ h => h) (Or.inl ⟨by rfl, ?_⟩) (H8.out) ?_
            rotate_left
            · intro w9 hw9; obtain ⟨q1, q2, q3, q4, q5, q6⟩ := hw9; go_simp; try with_reducible rfl
            try simp only [Act.put, List.setIfInBounds_toArray, List.set_cons_zero, List.set_cons_succ]
            refine RegL.take_w (i := 21) (oi := ⟨some 56, _, _, _, _, _⟩) (v := ?_) SM rfl (by decide) (by kernel_rfl) (by kernel_rfl) (by kernel_rfl) (fun _ _ _ h => h) (Or.inl ⟨by rfl, ?_⟩) (H8.out) ?_
            rotate_left
            · intro w9 hw9; obtain ⟨q1, q2, q3, q4, q5, q6⟩ := hw9; go_simp; try with_reducible rfl
            try simp only [Act.put, List.setIfInBounds_toArray, List.set_cons_zero, List.set_cons_succ]
            refine RegL.take_w (i := 22) (oi := ⟨some 57, _, _, _, _, _⟩) (v := ?_) SM rfl (by decide) (by kernel_rfl) (by kernel_rfl) (by kernel_rfl) (fun _ _ _ h => h) (Or.inl ⟨by rfl, ?_⟩) (H8.out) ?_
            rotate_left
            · intro w9 hw9; obtain ⟨q1, q2, q3, q4, q5, q6⟩ := hw9; go_simp; try with_reducible rfl
            try simp only [Act.put, List.setIfInBounds_toArray, List.set_cons_zero, List.set_cons_succ]
            refine RegL.take_w (i := 23) (oi := ⟨some 58, _, _, _, _, _⟩) (v := ?_) SM rfl (by decide) (by kernel_rfl) (by kernel_rfl) (by kernel_rfl) (fun _ _ _ h => h) (Or.inl ⟨by rfl, ?_⟩) (H8.out) ?_
            rotate_left
            · intro w9 hw9; obtain ⟨q1, q2, q3, q4, q5, q6⟩ := hw9; go_simp; try with_reducible rfl
            try simp only [Act.put, List.setIfInBounds_toArray, List.set_cons_zero, List.set_cons_succ]
            refine RegL.take_w (i := 24) (oi := ⟨some 59, _, _, _, _, _⟩) (v := ?_) SM rfl (by decide) (by kernel_rfl) (by kernel_rfl) (by kernel_rfl) (fun _ _ _ h => h) (Or.inl ⟨by rfl, ?_⟩) (H8.out) ?_
            rotate_left
            · intro w9 hw9; obtain ⟨q1, q2, q3, q4, q5, q6⟩ := hw9; go_simp; try with_reducible rfl
            try simp only [Act.put, List.setIfInBounds_toArray, List.set_cons_zero, List.set_cons_succ]
            refine RegL.take_w (i := 25) (oi := ⟨some 60, _, _, _, _, _⟩) (v := ?_) SM rfl (by decide) (by kernel_rfl) (by kernel_rfl) (by kernel_rfl) (fun _ _ _ h => h) (Or.inl ⟨by rfl, ?_⟩) (H8.out) ?_
            rotate_left
            · intro w9 hw9; obtain ⟨q1, q2, q3, q4, q5, q6⟩ := hw9; go_simp; try with_reducible rfl
            try simp only [Act.put, List.setIfInBounds_toArray, List.set_cons_zero, List.set_cons_succ]
            refine RegL.take_w (i := 26) (oi := ⟨some 61, _, _, _, _, _⟩) (v := ?_) SM rfl (by decide) (by kernel_rfl) (by kernel_rfl) (by kernel_rfl) (fun _ _ _ h => h) (Or.inl ⟨by rfl, ?_⟩) (H8.out) ?_
            rotate_left
            · intro w9 hw9; obtain ⟨q1, q2, q3, q4, q5, q6⟩ := hw9; go_simp; try with_reducible rfl
            try simp only [Act.put, List.setIfInBounds_toArray, List.set_cons_zero, List.set_cons_succ]
            refine RegL.take_w (i := 27) (oi := ⟨some 62, _, _, _, _, _⟩) (v := ?_) SM rfl (by decide) (by kernel_rfl) (by kernel_rfl) (by kernel_rfl) (fun _ _ _ h => h) (Or.inl ⟨by rfl, ?_⟩) (H8.out) ?_
            rotate_left
            · intro w9 hw9; obtain ⟨q1, q2, q3, q4, q5, q6⟩ := hw9; go_simp; try with_reducible rfl
            try simp only [Act.put, List.setIfInBounds_toArray, List.set_cons_zero, List.set_cons_succ]
            refine RegL.take_w (i := 28) (oi := ⟨some 63, _, _, _, _, _⟩) (v := ?_) SM rfl (by decide) (by kernel_rfl) (by kernel_rfl) (by kernel_rfl) (fun _ _ _ h => h) (Or.inl ⟨by rfl, ?_⟩) (H8.out) ?_
            rotate_left
            · intro w9 hw9; obtain ⟨q1, q2, q3, q4, q5, q6⟩ := hw9; go_simp; try with_reducible rfl
            try simp only [Act.put, List.setIfInBounds_toArray, List.set_cons_zero, List.set_cons_succ]
            refine RegL.take_w (i := 29) (oi := ⟨some 64, _, _, _, _, _⟩) (v := ?_) SM rfl (by decide) (by kernel_rfl) (by kernel_rfl) (by kernel_rfl) (fun _ _ _ h => h) (Or.inl ⟨by rfl, ?_⟩) (H8.out) ?_
            rotate_left
            · intro w9 hw9; obtain ⟨q1, q2, q3, q4, q5, q6⟩ := hw9; go_simp; try with_reducible rfl
            try simp only [Act.put, List.setIfInBounds_toArray, List.set_cons_zero, List.set_cons_succ]
            refine RegL.take_w (i := 30) (oi := ⟨some 65, _, _, _, _, _⟩) (v := ?_) SM rfl (by decide) (by kernel_rfl) (by kernel_rfl) (by kernel_rfl) (fun _ _ _ h => h) (Or.inl ⟨by rfl, ?_⟩) (H8.out) ?_
            rotate_left
            · intro w9 hw9; obtain ⟨q1, q2, q3, q4, q5, q6⟩ := hw9; go_simp; try with_reducible rfl
            try simp only [Act.put, List.setIfInBounds_toArray, List.set_cons_zero, List.set_cons_succ]
            refine RegL.take_w (i := 31) (oi := ⟨some 66, _, _, _, _, _⟩) (v := ?_) SM rfl (by decide) (by kernel_rfl) (by kernel_rfl) (by kernel_rfl) (fun _ _ _ h => h) (Or.inl ⟨by rfl, ?_⟩) (H8.out) ?_
            rotate_left
            · intro w9 hw9; obtain ⟨q1, q2, q3, q4, q5, q6⟩ := hw9; go_simp; try with_reducible rfl
            try simp only [Act.put, List.setIfInBounds_toArray, List.set_cons_zero, List.set_cons_succ]
            refine RegL.take_w (i := 32) (oi := ⟨some 67, _, _, _, _, _⟩) (v := ?_) SM rfl (by decide) (by kernel_rfl) (by kernel_rfl) (by kernel_rfl) (fun _ _ _ h => h) (Or.inl ⟨by rfl, ?_⟩) (H8.out) ?_
            rotate_left
            · intro w9 hw9; obtain ⟨q1, q2, q3, q4, q5, q6⟩ := hw9; go_simp; try with_reducible rfl
            try simp only [Act.put, List.setIfInBounds_toArray, List.set_cons_zero, List.set_cons_succ]
            refine RegL.take_w (i := 33) (oi := ⟨some 68, _, _, _, _, _⟩) (v := ?_) SM rfl (by decide) (by kernel_rfl) (by kernel_rfl) (by kernel_rfl) (fun _ _ _ h => h) (Or.inl ⟨by rfl, ?_⟩) (H8.out) ?_
            rotate_left
            · intro w9 hw9; obtain ⟨q1, q2, q3, q4, q5, q6⟩ := hw9; go_simp; try with_reducible rfl
            try simp only [Act.put, List.setIfInBounds_toArray, List.set_cons_zero, List.set_cons_succ]
            refine RegL.take_w (i := 34) (oi := ⟨some 69, _, _, _, _, _⟩) (v := ?_) SM rfl (by decide) (by kernel_rfl) (by kernel_rfl) (by kernel_rfl) (fun _ _ _ h => h) (Or.inl ⟨by rfl, ?_⟩) (H8.out) ?_
            rotate_left
            · intro w9 hw9; obtain ⟨q1, q2, q3, q4, q5, q6⟩ := hw9; go_simp; try with_reducible rfl
            try simp only [Act.put, List.setIfInBounds_toArray, List.set_cons_zero, List.set_cons_succ]
            refine RegL.take_w (i := 35) (oi := ⟨some 70, _, _, _, _, _⟩) (v := ?_) SM rfl (by decide) (by kernel_rfl) (by kernel_rfl) (by kernel_rfl) (fun _ _ _ h => h) (Or.inl ⟨by rfl, ?_⟩) (H8.out) ?_
            rotate_left
            · intro w9 hw9; obtain ⟨q1, q2, q3, q4, q5, q6⟩ := hw9; go_simp; try with_reducible rfl
            try simp only [Act.put, List.setIfInBounds_toArray, List.set_cons_zero, List.set_cons_succ]
            refine RegL.done_of (by kernel_rfl) ?_ _
            go_wp2_with fail
            go_meet
            exact ⟨rfl, rfl⟩
          · -- gt true
            have a1 : decide (s.known < F.mine) = true := by simp; omega
            have a2 : decide (s.known ≤ F.mine) = true := by simp; omega
            have a3 : decide ((s.known : Int) < (F.mine : Int)) = true := by simp; omega
            have a4 : decide ((s.known : Int) ≤ (F.mine : Int)) = true := by simp; omega
            have a5 : ((F.yours : Int) == (s.life : Int)) = true := by simp; omega
            have a6 : decide (F.yours = s.life) = true := by simp; omega
            have a7 : (F.yours == s.life) = true := by simp; omega
            rw [a1] at c4; rw [a2, a6] at c5
            rw [show (true && true) = true from rfl] at c5
            have H8 : Hid (wd.drew.cell? ⟨b3, 2, none⟩ = some (.int .u64 (F.mine : Int)) ∧ wd.drew.cell? ⟨b3, 3, none⟩ = some (.int .u64 (F.yours : Int)) ∧ wd.drew.cell? ⟨bh, 1, none⟩ = some (.bool false) ∧ wd.drew.cell? ⟨bh, 2, none⟩ = some (.bool true) ∧ wd.drew.cell? ⟨bh, 3, none⟩ = some (.bool true) ∧ wd.drew.cell? ⟨gp, 2 + i, none⟩ = some (.int .u64 (s.life : Int))) := ⟨c1, c2, c3, c4, c5, c6⟩
            clear c1 c2 c3 c4 c5 c6 HAN HFI HZ
            have SM : ∀ (bb0 : Bool) (w9 : World), (fun (_ : Bool) (w9 : World) => w9.cell? ⟨b3, 2, none⟩ = some (.int .u64 (F.mine : Int)) ∧ w9.cell? ⟨b3, 3, none⟩ = some (.int .u64 (F.yours : Int)) ∧ w9.cell? ⟨bh, 1, none⟩ = some (.bool false) ∧ w9.cell? ⟨bh, 2, none⟩ = some (.bool true) ∧ w9.cell? ⟨bh, 3, none⟩ = some (.bool true) ∧ w9.cell? ⟨gp, 2 + i, none⟩ = some (.int .u64 (s.life : Int))) bb0 w9 → (fun (_ : Bool) (w9 : World) => w9.cell? ⟨b3, 2, none⟩ = some (.int .u64 (F.mine : Int)) ∧ w9.cell? ⟨b3, 3, none⟩ = some (.int .u64 (F.yours : Int)) ∧ w9.cell? ⟨bh, 1, none⟩ = some (.bool false) ∧ w9.cell? ⟨bh, 2, none⟩ = some (.bool true) ∧ w9.cell? ⟨bh, 3, none⟩ = some (.bool true) ∧ w9.cell? ⟨gp, 2 + i, none⟩ = some (.int .u64 (s.life : Int))) true w9 := fun _ _ h => h
            refine RegL.begin_of (k := 99) (S := fun (_ : Bool) (w9 : World) => w9.cell? ⟨b3, 2, none⟩ = some (.int .u64 (F.mine : Int)) ∧ w9.cell? ⟨b3, 3, none⟩ = some (.int .u64 (F.yours : Int)) ∧ w9.cell? ⟨bh, 1, none⟩ = some (.bool false) ∧ w9.cell? ⟨bh, 2, none⟩ = some (.bool true) ∧ w9.cell? ⟨bh, 3, none⟩ = some (.bool true) ∧ w9.cell? ⟨gp, 2 + i, none⟩ = some (.int .u64 (s.life : Int))) (by kernel_rfl) ?_
            refine RegL.take_w (i := 0) (oi := ⟨some 35, _, _, _, _, _⟩) (v := ?_) SM rfl (by decide) (by kernel_rfl) (by kernel_rfl) (by kernel_rfl) (fun _ _ _ h => h) (Or.inl ⟨by rfl, ?_⟩) (H8.out) ?_
            rotate_left
            · intro w9 hw9; obtain ⟨q1, q2, q3, q4, q5, q6⟩ := hw9; go_simp; try with_reducible rfl
            try simp only [Act.put, List.setIfInBounds_toArray, List.set_cons_zero, List.set_cons_succ]
            refine RegL.take_w (i := 1) (oi := ⟨some 36, _, _, _, _, _⟩) (v := ?_) SM rfl (by decide) (by kernel_rfl) (by kernel_rfl) (by kernel_rfl) (fun _ _ _ h => h) (Or.inl ⟨by rfl, ?_⟩) (H8.out) ?_
            rotate_left
            · intro w9 hw9; obtain ⟨q1, q2, q3, q4, q5, q6⟩ := hw9; go_simp; try with_reducible rfl
            try simp only [Act.put, List.setIfInBounds_toArray, List.set_cons_zero, List.set_cons_succ]
            refine RegL.take_w (i := 2) (oi := ⟨some 37, _, _, _, _, _⟩) (v := ?_) SM rfl (by decide) (by kernel_rfl) (by kernel_rfl) (by kernel_rfl) (fun _ _ _ h => h) (Or.inl ⟨by rfl, ?_⟩) (H8.out) ?_
            rotate_left
            · intro w9 hw9; obtain ⟨q1, q2, q3, q4, q5, q6⟩ := hw9; go_simp; try with_reducible rfl
            try simp only [Act.put, List.setIfInBounds_toArray, List.set_cons_zero, List.set_cons_succ]
            refine RegL.take_w (i := 3) (oi := ⟨some 38, _, _, _, _, _⟩) (v := ?_) SM rfl (by decide) (by kernel_rfl) (by kernel_rfl) (by kernel_rfl) (fun _ _ _ h => h) (Or.inl ⟨by rfl, ?_⟩) (H8.out) ?_
            rotate_left
            · intro w9 hw9; obtain ⟨q1, q2, q3, q4, q5, q6⟩ := hw9; go_simp; try with_reducible rfl
            try simp only [Act.put, List.setIfInBounds_toArray, List.set_cons_zero, List.set_cons_succ]
            refine RegL.take_w (i := 4) (oi := ⟨some 39, _, _, _, _, _⟩) (v := ?_) SM rfl (by decide) (by kernel_rfl) (by kernel_rfl) (by kernel_rfl) (fun _ _ _ h => h) (Or.inl ⟨by rfl, ?_⟩) (H8.out) ?_
            rotate_left
            · intro w9 hw9; obtain ⟨q1, q2, q3, q4, q5, q6⟩ := hw9; go_simp; try with_reducible rfl
            try simp only [Act.put, List.setIfInBounds_toArray, List.set_cons_zero, List.set_cons_succ]
            refine RegL.take_w (i := 5) (oi := ⟨some 40, _, _, _, _, _⟩) (v := ?_) SM rfl (by decide) (by kernel_rfl) (by kernel_rfl) (by kernel_rfl) (fun _ _ _ h => h) (Or.inl ⟨by rfl, ?_⟩) (H8.out) ?_
            rotate_left
            · intro w9 hw9; obtain ⟨q1, q2, q3, q4, q5, q6⟩ := hw9; go_simp; try with_reducible rfl
            try simp only [Act.put, List.setIfInBounds_toArray, List.set_cons_zero, List.set_cons_succ]
            refine RegL.take_w (i := 6) (oi := ⟨some 41, _, _, _, _, _⟩) (v := ?_) SM rfl (by decide) (by kernel_rfl) (by kernel_rfl) (by kernel_rfl) (fun _ _ _ h => h) (Or.inl ⟨by rfl, ?_⟩) (H8.out) ?_
            rotate_left
            · intro w9 hw9; obtain ⟨q1, q2, q3, q4, q5, q6⟩ := hw9; go_simp; try with_reducible rfl
            try simp only [Act.put, List.setIfInBounds_toArray, List.set_cons_zero, List.set_cons_succ]
            refine RegL.take_w (i := 7) (oi := ⟨some 42, _, _, _, _, _⟩) (v := ?_) SM rfl (by decide) (by kernel_rfl) (by kernel_rfl) (by kernel_rfl) (fun _ _ _ h => h) (Or.inl ⟨by rfl, ?_⟩) (H8.out) ?_
            rotate_left
            · intro w9 hw9; obtain ⟨q1, q2, q3, q4, q5, q6⟩ := hw9; go_simp; try with_reducible rfl
            try simp only [Act.put, List.setIfInBounds_toArray, List.set_cons_zero, List.set_cons_succ]
            refine RegL.take_w (i := 8) (oi := ⟨some 43, _, _, _, _, _⟩) (v := ?_) SM rfl (by decide) (by kernel_rfl) (by kernel_rfl) (by kernel_rfl) (fun _ _ _ h => h) (Or.inl ⟨by rfl, ?_⟩) (H8.out) ?_
            rotate_left
            · intro w9 hw9; obtain ⟨q1, q2, q3, q4, q5, q6⟩ := hw9; go_simp; try with_reducible rfl
            try simp only [Act.put, List.setIfInBounds_toArray, List.set_cons_zero, List.set_cons_succ]
            refine RegL.take_w (i := 9) (oi := ⟨some 44, _, _, _, _, _⟩) (v := ?_) SM rfl (by decide) (by kernel_rfl) (by kernel_rfl) (by kernel_rfl) (fun _ _ _ h => h) (Or.inl ⟨by rfl, ?_⟩) (H8.out) ?_
            rotate_left
            · intro w9 hw9; obtain ⟨q1, q2, q3, q4, q5, q6⟩ := hw9; go_simp; try with_reducible rfl
            try simp only [Act.put, List.setIfInBounds_toArray, List.set_cons_zero, List.set_cons_succ]
            refine RegL.take_w (i := 10) (oi := ⟨some 45, _, _, _, _, _⟩) (v := ?_) SM rfl (by decide) (by kernel_rfl) (by kernel_rfl) (by kernel_rfl) (fun _ _ _ h => h) (Or.inl ⟨by rfl, ?_⟩) (H8.out) ?_
            rotate_left
            · intro w9 hw9; obtain ⟨q1, q2, q3, q4, q5, q6⟩ := hw9; go_simp; try with_reducible rfl
            try simp only [Act.put, List.setIfInBounds_toArray, List.set_cons_zero, List.set_cons_succ]
            refine RegL.take_w (i := 11) (oi := ⟨some 46, _, _, _, _, _⟩) (v := undef) SM rfl (by decide) (by kernel_rfl) (by kernel_rfl) (by kernel_rfl) (fun _ _ _ h => h) (Or.inr ⟨by rfl, rfl⟩) (H8.out) ?_
            try simp only [Act.put, List.setIfInBounds_toArray, List.set_cons_zero, List.set_cons_succ]
            refine RegL.take_w (i := 12) (oi := ⟨some 47, _, _, _, _, _⟩) (v := undef) SM rfl (by decide) (by kernel_rfl) (by kernel_rfl) (by kernel_rfl) (fun _ _ _ h => h) (Or.inr ⟨by rfl, rfl⟩) (H8.out) ?_
            try simp only [Act.put, List.setIfInBounds_toArray, List.set_cons_zero, List.set_cons_succ]
            refine RegL.take_w (i := 13) (oi := ⟨some 48, _, _, _, _, _⟩) (v := undef) SM rfl (by decide) (by kernel_rfl) (by kernel_rfl) (by kernel_rfl) (fun _ _ _ h => h) (Or.inr ⟨by rfl, rfl⟩) (H8.out) ?_
            try simp only [Act.put, List.setIfInBounds_toArray, List.set_cons_zero, List.set_cons_succ]
            refine RegL.take_w (i := 14) (oi := ⟨some 49, _, _, _, _, _⟩) (v := ?_) SM rfl (by decide) (by kernel_rfl) (by kernel_rfl) (by kernel_rfl) (fun _ _ _ h => h) (Or.inl ⟨by rfl, ?_⟩) (H8.out) ?_
            rotate_left
            · intro w9 hw9; obtain ⟨q1, q2, q3, q4, q5, q6⟩ := hw9; go_simp; try with_reducible rfl
            try simp only [Act.put, List.setIfInBounds_toArray, List.set_cons_zero, List.set_cons_succ]
            refine RegL.take_w (i := 15) (oi := ⟨some 50, _, _, _, _, _⟩) (v := ?_) SM rfl (by decide) (by kernel_rfl) (by kernel_rfl) (by kernel_rfl) (fun _ _ _ h => h) (Or.inl ⟨by rfl, ?_⟩) (H8.out) ?_
            rotate_left
            · intro w9 hw9; obtain ⟨q1, q2, q3, q4, q5, q6⟩ := hw9; go_simp; try with_reducible rfl
            try simp only [Act.put, List.setIfInBounds_toArray, List.set_cons_zero, List.set_cons_succ]
            refine RegL.take_w (i := 16) (oi := ⟨some 51, _, _, _, _, _⟩) (v := ?_) SM rfl (by decide) (by kernel_rfl) (by kernel_rfl) (by kernel_rfl) (fun _ _ _ h => h) (Or.inl ⟨by rfl, ?_⟩) (H8.out) ?_
            rotate_left
            · intro w9 hw9; obtain ⟨q1, q2, q3, q4, q5, q6⟩ := hw9; go_simp; try with_reducible rfl
            try simp only [Act.put, List.setIfInBounds_toArray, List.set_cons_zero, List.set_cons_succ]
            refine RegL.take_w (i := 17) (oi := ⟨some 52, _, _, _, _, _⟩) (v := ?_) SM rfl (by decide) (by kernel_rfl) (by kernel_rfl) (by kernel_rfl) (fun _ _ _ h => h) (Or.inl ⟨by rfl, ?_⟩) (H8.out) ?_
            rotate_left
            · intro w9 hw9; obtain ⟨q1, q2, q3, q4, q5, q6⟩ := hw9; go_simp; try with_reducible rfl
            try simp only [Act.put, List.setIfInBounds_toArray, List.set_cons_zero, List.set_cons_succ]
            refine RegL.take_w (i := 18) (oi := ⟨some 53, _, _, _, _, _⟩) (v := ?_) SM rfl (by decide) (by kernel_rfl) (by kernel_rfl) (by kernel_rfl) (fun _ _ _ h => h) (Or.inl ⟨by rfl, ?_⟩) (H8.out) ?_
            rotate_left
            · intro w9 hw9; obtain ⟨q1, q2, q3, q4, q5, q6⟩ := hw9; go_simp; try with_reducible rfl
            try simp only [Act.put, List.setIfInBounds_toArray, List.set_cons_zero, List.set_cons_succ]
            refine RegL.take_w (i := 19) (oi := ⟨some 54, _, _, _, _, _⟩) (v := ?_) SM rfl (by decide) (by kernel_rfl) (by kernel_rfl) (by kernel_rfl) (fun _ _ _ h => h) (Or.inl ⟨by rfl, ?_⟩) (H8.out) ?_
            rotate_left
            · intro w9 hw9; obtain ⟨q1, q2, q3, q4, q5, q6⟩ := hw9; go_simp; try with_reducible rfl
            try simp only [Act.put, List.setIfInBounds_toArray, List.set_cons_zero, List.set_cons_succ]
            refine RegL.take_w (i := 20) (oi := ⟨some 55, _, _, _, _, _⟩) (v := ?_) SM rfl (by decide) (by kernel_rfl) (by kernel_rfl) (by kernel_rfl) (fun _ _ _ h => h) (Or.inl ⟨by rfl, ?_⟩) (H8.out) ?_
            rotate_left
            · intro w9 hw9; obtain ⟨q1, q2, q3, q4, q5, q6⟩ := hw9; go_simp; try with_reducible rfl
            try simp only [Act.put, List.setIfInBounds_toArray, List.set_cons_zero, List.set_cons_succ]
            refine RegL.take_w (i := 21) (oi := ⟨some 56, _, _, _, _, _⟩) (v := ?_) SM rfl (by decide) (by kernel_rfl) (by kernel_rfl) (by kernel_rfl) (fun _ _ _ h => h) (Or.inl ⟨by rfl, ?_⟩) (H8.out) ?_
            rotate_left
            · intro w9 hw9; obtain ⟨q1, q2, q3, q4, q5, q6⟩ := hw9; go_simp; try with_reducible rfl
            try simp only [Act.put, List.setIfInBounds_toArray, List.set_cons_zero, List.set_cons_succ]
            refine RegL.take_w (i := 22) (oi := ⟨some 57, _, _, _, _, _⟩) (v := ?_) SM rfl (by decide) (by kernel_rfl) (by kernel_rfl) (by kernel_rfl) (fun _ _ _ h => h) (Or.inl ⟨by rfl, ?_⟩) (H8.out) ?_
            rotate_left
            · intro w9 hw9; obtain ⟨q1, q2, q3, q4, q5, q6⟩ := hw9; go_simp; try with_reducible rfl
            try simp only [Act.put, List.setIfInBounds_toArray, List.set_cons_zero, List.set_cons_succ]
            refine RegL.take_w (i := 23) (oi := ⟨some 58, _, _, _, _, _⟩) (v := ?_) SM rfl (by decide) (by kernel_rfl) (by kernel_rfl) (by kernel_rfl) (fun _ _ _ h => h) (Or.inl ⟨by rfl, ?_⟩) (H8.out) ?_
            rotate_left
            · intro w9 hw9; obtain ⟨q1, q2, q3, q4, q5, q6⟩ := hw9; go_simp; try with_reducible rfl
            try simp only [Act.put, List.setIfInBounds_toArray, List.set_cons_zero, List.set_cons_succ]
            refine RegL.take_w (i := 24) (oi := ⟨some 59, _, _, _, _, _⟩) (v := ?_) SM rfl (by decide) (by kernel_rfl) (by kernel_rfl) (by kernel_rfl) (fun _ _ _ h => h) (Or.inl ⟨by rfl, ?_⟩) (H8.out) ?_
            rotate_left
            · intro w9 hw9; obtain ⟨q1, q2, q3, q4, q5, q6⟩ := hw9; go_simp; try with_reducible rfl
            try simp only [Act.put, List.setIfInBounds_toArray, List.set_cons_zero, List.set_cons_succ]
            refine RegL.take_w (i := 25) (oi := ⟨some 60, _, _, _, _, _⟩) (v := ?_) SM rfl (by decide) (by kernel_rfl) (by kernel_rfl) (by kernel_rfl) (fun _ _ _ h => h) (Or.inl ⟨by rfl, ?_⟩) (H8.out) ?_
            rotate_left
            · intro w9 hw9; obtain ⟨q1, q2, q3, q4, q5, q6⟩ := hw9; go_simp; try with_reducible rfl
            try simp only [Act.put, List.setIfInBounds_toArray, List.set_cons_zero, List.set_cons_succ]
            refine RegL.take_w (i := 26) (oi := ⟨some 61, _, _, _, _, _⟩) (v := ?_) SM rfl (by decide) (by kernel_rfl) (by kernel_rfl) (by kernel_rfl) (fun _ _ _ h => h) (Or.inl ⟨by rfl, ?_⟩) (H8.out) ?_
            rotate_left
            · intro w9 hw9; obtain ⟨q1, q2, q3, q4, q5, q6⟩ := hw9; go_simp; try with_reducible rfl
            try simp only [Act.put, List.setIfInBounds_toArray, List.set_cons_zero, List.set_cons_succ]
            refine RegL.take_w (i := 27) (oi := ⟨some 62, _, _, _, _, _⟩) (v := ?_) SM rfl (by decide) (by kernel_rfl) (by kernel_rfl) (by kernel_rfl) (fun _ _ _ h => h) (Or.inl ⟨by rfl, ?_⟩) (H8.out) ?_
            rotate_left
            · intro w9 hw9; obtain ⟨q1, q2, q3, q4, q5, q6⟩ := hw9; go_simp; try with_reducible rfl
            try simp only [Act.put, List.setIfInBounds_toArray, List.set_cons_zero, List.set_cons_succ]
            refine RegL.take_w (i := 28) (oi := ⟨some 63, _, _, _, _, _⟩) (v := ?_) SM rfl (by decide) (by kernel_rfl) (by kernel_rfl) (by kernel_rfl) (fun _ _ _ h => h) (Or.inl ⟨by rfl, ?_⟩) (H8.out) ?_
            rotate_left
            · intro w9 hw9; obtain ⟨q1, q2, q3, q4, q5, q6⟩ := hw9; go_simp; try with_reducible rfl
            try simp only [Act.put, List.setIfInBounds_toArray, List.set_cons_zero, List.set_cons_succ]
            refine RegL.take_w (i := 29) (oi := ⟨some 64, _, _, _, _, _⟩) (v := ?_) SM rfl (by decide) (by kernel_rfl) (by kernel_rfl) (by kernel_rfl) (fun _ _ _ h => h) (Or.inl ⟨by rfl, ?_⟩) (H8.out) ?_
            rotate_left
            · intro w9 hw9; obtain ⟨q1, q2, q3, q4, q5, q6⟩ := hw9; go_simp; try with_reducible rfl
            try simp only [Act.put, List.setIfInBounds_toArray, List.set_cons_zero, List.set_cons_succ]
            refine RegL.take_w (i := 30) (oi := ⟨some 65, _, _, _, _, _⟩) (v := ?_) SM rfl (by decide) (by kernel_rfl) (by kernel_rfl) (by kernel_rfl) (fun _ _ _ h => h) (Or.inl ⟨by rfl, ?_⟩) (H8.out) ?_
            rotate_left
            · intro w9 hw9; obtain ⟨q1, q2, q3, q4, q5, q6⟩ := hw9; go_simp; try with_reducible rfl
            try simp only [Act.put, List.setIfInBounds_toArray, List.set_cons_zero, List.set_cons_succ]
            refine RegL.take_w (i := 31) (oi := ⟨some 66, _, _, _, _, _⟩) (v := ?_) SM rfl (by decide) (by kernel_rfl) (by kernel_rfl) (by kernel_rfl) (fun _ _ _ h => h) (Or.inl ⟨by rfl, ?_⟩) (H8.out) ?_
            rotate_left
            · intro w9 hw9; obtain ⟨q1, q2, q3, q4, q5, q6⟩ := hw9; go_simp; try with_reducible rfl
            try simp only [Act.put, List.setIfInBounds_toArray, List.set_cons_zero, List.set_cons_succ]
            refine RegL.take_w (i := 32) (oi := ⟨some 67, _, _, _, _, _⟩) (v := ?_) SM rfl (by decide) (by kernel_rfl) (by kernel_rfl) (by kernel_rfl) (fun _ _ _ h => h) (Or.inl ⟨by rfl, ?_⟩) (H8.out) ?_
            rotate_left
            · intro w9 hw9; obtain ⟨q1, q2, q3, q4, q5, q6⟩ := hw9; go_simp; try with_reducible rfl
            try simp only [Act.put, List.setIfInBounds_toArray, List.set_cons_zero, List.set_cons_succ]
            refine RegL.take_w (i := 33) (oi := ⟨some 68, _, _, _, _, _⟩) (v := ?_) SM rfl (by decide) (by kernel_rfl) (by kernel_rfl) (by kernel_rfl) (fun _ _ _ h => h) (Or.inl ⟨by rfl, ?_⟩) (H8.out) ?_
            rotate_left
            · intro w9 hw9; obtain ⟨q1, q2, q3, q4, q5, q6⟩ := hw9; go_simp; try with_reducible rfl
            try simp only [Act.put, List.setIfInBounds_toArray, List.set_cons_zero, List.set_cons_succ]
            refine RegL.take_w (i := 34) (oi := ⟨some 69, _, _, _, _, _⟩) (v := ?_) SM rfl (by decide) (by kernel_rfl) (by kernel_rfl) (by kernel_rfl) (fun _ _ _ h => h) (Or.inl ⟨by rfl, ?_⟩) (H8.out) ?_
            rotate_left
            · intro w9 hw9; obtain ⟨q1, q2, q3, q4, q5, q6⟩ := hw9; go_simp; try with_reducible rfl
            try simp only [Act.put, List.setIfInBounds_toArray, List.set_cons_zero, List.set_cons_succ]
            refine RegL.take_w (i := 35) (oi := ⟨some 70, _, _, _, _, _⟩) (v := ?_) SM rfl (by decide) (by kernel_rfl) (by kernel_rfl) (by kernel_rfl) (fun _ _ _ h => h) (Or.inl ⟨by rfl, ?_⟩) (H8.out) ?_
            rotate_left
            · intro w9 hw9; obtain ⟨q1, q2, q3, q4, q5, q6⟩ := hw9; go_simp; try with_reducible rfl
            try simp only [Act.put, List.setIfInBounds_toArray, List.set_cons_zero, List.set_cons_succ]
            refine RegL.done_of (by kernel_rfl) ?_ _
            go_wp2_with fail
            go_meet
            exact ⟨rfl, rfl⟩
          · -- gt false
            have a1 : decide (s.known < F.mine) = true := by simp; omega
            have a2 : decide (s.known ≤ F.mine) = true := by simp; omega
            have a3 : decide ((s.known : Int) < (F.mine : Int)) = true := by simp; omega
            have a4 : decide ((s.known : Int) ≤ (F.mine : Int)) = true := by simp; omega
            have a5 : ((F.yours : Int) == (s.life : Int)) = false := by simp; omega
            have a6 : decide (F.yours = s.life) = false := by simp; omega
            have a7 : (F.yours == s.life) = false := by simp; omega
            rw [a1] at c4; rw [a2, a6] at c5
            rw [show (true && false) = false from rfl] at c5
            have H8 : Hid (wd.drew.cell? ⟨b3, 2, none⟩ = some (.int .u64 (F.mine : Int)) ∧ wd.drew.cell? ⟨b3, 3, none⟩ = some (.int .u64 (F.yours : Int)) ∧ wd.drew.cell? ⟨bh, 1, none⟩ = some (.bool false) ∧ wd.drew.cell? ⟨bh, 2, none⟩ = some (.bool true) ∧ wd.drew.cell? ⟨bh, 3, none⟩ = some (.bool false) ∧ wd.drew.cell? ⟨gp, 2 + i, none⟩ = some (.int .u64 (s.life : Int))) := ⟨c1, c2, c3, c4, c5, c6⟩
            clear c1 c2 c3 c4 c5 c6 HAN HFI HZ
            have SM : ∀ (bb0 : Bool) (w9 : World), (fun (_ : Bool) (w9 : World) => w9.cell? ⟨b3, 2, none⟩ = some (.int .u64 (F.mine : Int)) ∧ w9.cell? ⟨b3, 3, none⟩ = some (.int .u64 (F.yours : Int)) ∧ w9.cell? ⟨bh, 1, none⟩ = some (.bool false) ∧ w9.cell? ⟨bh, 2, none⟩ = some (.bool true) ∧ w9.cell? ⟨bh, 3, none⟩ = some (.bool false) ∧ w9.cell? ⟨gp, 2 + i, none⟩ = some (.int .u64 (s.life : Int))) bb0 w9 → (fun (_ : Bool) (w9 : World) => w9.cell? ⟨b3, 2, none⟩ = some (.int .u64 (F.mine : Int)) ∧ w9.cell? ⟨b3, 3, none⟩ = some (.int .u64 (F.yours : Int)) ∧ w9.cell? ⟨bh, 1, none⟩ = some (.bool false) ∧ w9.cell? ⟨bh, 2, none⟩ = some (.bool true) ∧ w9.cell? ⟨bh, 3, none⟩ = some (.bool false) ∧ w9.cell? ⟨gp, 2 + i, none⟩ = some (.int .u64 (s.life : Int))) true w9 := fun _ _ h => h
            refine RegL.begin_of (k := 99) (S := fun (_ : Bool) (w9 : World) => w9.cell? ⟨b3, 2, none⟩ = some (.int .u64 (F.mine : Int)) ∧ w9.cell? ⟨b3, 3, none⟩ = some (.int .u64 (F.yours : Int)) ∧ w9.cell? ⟨bh, 1, none⟩ = some (.bool false) ∧ w9.cell? ⟨bh, 2, none⟩ = some (.bool true) ∧ w9.cell? ⟨bh, 3, none⟩ = some (.bool false) ∧ w9.cell? ⟨gp, 2 + i, none⟩ = some (.int .u64 (s.life : Int))) (by kernel_rfl) ?_
            refine RegL.take_w (i := 0) (oi := ⟨some 35, _, _, _, _, _⟩) (v := ?_) SM rfl (by decide) (by kernel_rfl) (by kernel_rfl) (by kernel_rfl) (fun _ _ _ h => h) (Or.inl ⟨by rfl, ?_⟩) (H8.out) ?_
            rotate_left
            · intro w9 hw9; obtain ⟨q1, q2, q3, q4, q5, q6⟩ := hw9; go_simp; try with_reducible rfl
            try simp only [Act.put, List.setIfInBounds_toArray, List.set_cons_zero, List.set_cons_succ]
            refine RegL.take_w (i := 1) (oi := ⟨some 36, _, _, _, _, _⟩) (v := ?_) SM rfl (by decide) (by kernel_rfl) (by kernel_rfl) (by kernel_rfl) (fun _ _ _ h => h) (Or.inl ⟨by rfl, ?_⟩) (H8.out) ?_
            rotate_left
            · intro w9 hw9; obtain ⟨q1, q2, q3, q4, q5, q6⟩ := hw9; go_simp; try with_reducible rfl
            try simp only [Act.put, List.setIfInBounds_toArray, List.set_cons_zero, List.set_cons_succ]
            refine RegL.take_w (i := 2) (oi := ⟨some 37, _, _, _, _, _⟩) (v := ?_) SM rfl (by decide) (by kernel_rfl) (by kernel_rfl) (by kernel_rfl) (fun _ _ _ h => h) (Or.inl ⟨by rfl, ?_⟩) (H8.out) ?_
            rotate_left
            · intro w9 hw9; obtain ⟨q1, q2, q3, q4, q5, q6⟩ := hw9; go_simp; try with_reducible rfl
            try simp only [Act.put, List.setIfInBounds_toArray, List.set_cons_zero, List.set_cons_succ]
            refine RegL.take_w (i := 3) (oi := ⟨some 38, _, _, _, _, _⟩) (v := ?_) SM rfl (by decide) (by kernel_rfl) (by kernel_rfl) (by kernel_rfl) (fun _ _ _ h => h) (Or.inl ⟨by rfl, ?_⟩) (H8.out) ?_
            rotate_left
            · intro w9 hw9; obtain ⟨q1, q2, q3, q4, q5, q6⟩ := hw9; go_simp; try with_reducible rfl
            try simp only [Act.put, List.setIfInBounds_toArray, List.set_cons_zero, List.set_cons_succ]
            refine RegL.take_w (i := 4) (oi := ⟨some 39, _, _, _, _, _⟩) (v := ?_) SM rfl (by decide) (by kernel_rfl) (by kernel_rfl) (by kernel_rfl) (fun _ _ _ h => h) (Or.inl ⟨by rfl, ?_⟩) (H8.out) ?_
            rotate_left
            · intro w9 hw9; obtain ⟨q1, q2, q3, q4, q5, q6⟩ := hw9; go_simp; try with_reducible rfl
            try simp only [Act.put, List.setIfInBounds_toArray, List.set_cons_zero, List.set_cons_succ]
            refine RegL.take_w (i := 5) (oi := ⟨some 40, _, _, _, _, _⟩) (v := ?_) SM rfl (by decide) (by kernel_rfl) (by kernel_rfl) (by kernel_rfl) (fun _ _ _ h => h) (Or.inl ⟨by rfl, ?_⟩) (H8.out) ?_
            rotate_left
            · intro w9 hw9; obtain ⟨q1, q2, q3, q4, q5, q6⟩ := hw9; go_simp; try with_reducible rfl
            try simp only [Act.put, List.setIfInBounds_toArray, List.set_cons_zero, List.set_cons_succ]
            refine RegL.take_w (i := 6) (oi := ⟨some 41, _, _, _, _, _⟩) (v := ?_) SM rfl (by decide) (by kernel_rfl) (by kernel_rfl) (by kernel_rfl) (fun _ _ _ h => h) (Or.inl ⟨by rfl, ?_⟩) (H8.out) ?_
            rotate_left
            · intro w9 hw9; obtain ⟨q1, q2, q3, q4, q5, q6⟩ := hw9; go_simp; try with_reducible rfl
            try simp only [Act.put, List.setIfInBounds_toArray, List.set_cons_zero, List.set_cons_succ]
            refine RegL.take_w (i := 7) (oi := ⟨some 42, _, _, _, _, _⟩) (v := ?_) SM rfl (by decide) (by kernel_rfl) (by kernel_rfl) (by kernel_rfl) (fun _ _ _ h => h) (Or.inl ⟨by rfl, ?_⟩) (H8.out) ?_
            rotate_left
            · intro w9 hw9; obtain ⟨q1, q2, q3, q4, q5, q6⟩ := hw9; go_simp; try with_reducible rfl
            try simp only [Act.put, List.setIfInBounds_toArray, List.set_cons_zero, List.set_cons_succ]
            refine RegL.take_w (i := 8) (oi := ⟨some 43, _, _, _, _, _⟩) (v := ?_) SM rfl (by decide) (by kernel_rfl) (by kernel_rfl) (by kernel_rfl) (fun _ _ _ h => h) (Or.inl ⟨by rfl, ?_⟩) (H8.out) ?_
            rotate_left
            · intro w9 hw9; obtain ⟨q1, q2, q3, q4, q5, q6⟩ := hw9; go_simp; try with_reducible rfl
            try simp only [Act.put, List.setIfInBounds_toArray, List.set_cons_zero, List.set_cons_succ]
            refine RegL.take_w (i := 9) (oi := ⟨some 44, _, _, _, _, _⟩) (v := ?_) SM rfl (by decide) (by kernel_rfl) (by kernel_rfl) (by kernel_rfl) (fun _ _ _ h => h) (Or.inl ⟨by rfl, ?_⟩) (H8.out) ?_
            rotate_left
            · intro w9 hw9; obtain ⟨q1, q2, q3, q4, q5, q6⟩ := hw9; go_simp; try with_reducible rfl
            try simp only [Act.put, List.setIfInBounds_toArray, List.set_cons_zero, List.set_cons_succ]
            refine RegL.take_w (i := 10) (oi := ⟨some 45, _, _, _, _, _⟩) (v := ?_) SM rfl (by decide) (by kernel_rfl) (by kernel_rfl) (by kernel_rfl) (fun _ _ _ h => h) (Or.inl ⟨by rfl, ?_⟩) (H8.out) ?_
            rotate_left
            · intro w9 hw9; obtain ⟨q1, q2, q3, q4, q5, q6⟩ := hw9; go_simp; try with_reducible rfl
            try simp only [Act.put, List.setIfInBounds_toArray, List.set_cons_zero, List.set_cons_succ]
            refine RegL.take_w (i := 11) (oi := ⟨some 46, _, _, _, _, _⟩) (v := undef) SM rfl (by decide) (by kernel_rfl) (by kernel_rfl) (by kernel_rfl) (fun _ _ _ h => h) (Or.inr ⟨by rfl, rfl⟩) (H8.out) ?_
            try simp only [Act.put, List.setIfInBounds_toArray, List.set_cons_zero, List.set_cons_succ]
            refine RegL.take_w (i := 12) (oi := ⟨some 47, _, _, _, _, _⟩) (v := undef) SM rfl (by decide) (by kernel_rfl) (by kernel_rfl) (by kernel_rfl) (fun _ _ _ h => h) (Or.inr ⟨by rfl, rfl⟩) (H8.out) ?_
            try simp only [Act.put, List.setIfInBounds_toArray, List.set_cons_zero, List.set_cons_succ]
            refine RegL.take_w (i := 13) (oi := ⟨some 48, _, _, _, _, _⟩) (v := undef) SM rfl (by decide) (by kernel_rfl) (by kernel_rfl) (by kernel_rfl) (fun _ _ _ h => h) (Or.inr ⟨by rfl, rfl⟩) (H8.out) ?_
            try simp only [Act.put, List.setIfInBounds_toArray, List.set_cons_zero, List.set_cons_succ]
            refine RegL.take_w (i := 14) (oi := ⟨some 49, _, _, _, _, _⟩) (v := ?_) SM rfl (by decide) (by kernel_rfl) (by kernel_rfl) (by kernel_rfl) (fun _ _ _ h => h) (Or.inl ⟨by rfl, ?_⟩) (H8.out) ?_
            rotate_left
            · intro w9 hw9; obtain ⟨q1, q2, q3, q4, q5, q6⟩ := hw9; go_simp; try with_reducible rfl
            try simp only [Act.put, List.setIfInBounds_toArray, List.set_cons_zero, List.set_cons_succ]
            refine RegL.take_w (i := 15) (oi := ⟨some 50, _, _, _, _, _⟩) (v := ?_) SM rfl (by decide) (by kernel_rfl) (by kernel_rfl) (by kernel_rfl) (fun _ _ _ h => h) (Or.inl ⟨by rfl, ?_⟩) (H8.out) ?_
            rotate_left
            · intro w9 hw9; obtain ⟨q1, q2, q3, q4, q5, q6⟩ := hw9; go_simp; try with_reducible rfl
            try simp only [Act.put, List.setIfInBounds_toArray, List.set_cons_zero, List.set_cons_succ]
            refine RegL.take_w (i := 16) (oi := ⟨some 51, _, _, _, _, _⟩) (v := ?_) SM rfl (by decide) (by kernel_rfl) (by kernel_rfl) (by kernel_rfl) (fun _ _ _ h => h) (Or.inl ⟨by rfl, ?_⟩) (H8.out) ?_
            rotate_left
            · intro w9 hw9; obtain ⟨q1, q2, q3, q4, q5, q6⟩ := hw9; go_simp; try with_reducible rfl
            try simp only [Act.put, List.setIfInBounds_toArray, List.set_cons_zero, List.set_cons_succ]
            refine RegL.take_w (i := 17) (oi := ⟨some 52, _, _, _, _, _⟩) (v := ?_) SM rfl (by decide) (by kernel_rfl) (by kernel_rfl) (by kernel_rfl) (fun _ _ _ h => h) (Or.inl ⟨by rfl, ?_⟩) (H8.out) ?_
            rotate_left
            · intro w9 hw9; obtain ⟨q1, q2, q3, q4, q5, q6⟩ := hw9; go_simp; try with_reducible rfl
            try simp only [Act.put, List.setIfInBounds_toArray, List.set_cons_zero, List.set_cons_succ]
            refine RegL.take_w (i := 18) (oi := ⟨some 53, _, _, _, _, _⟩) (v := ?_) SM rfl (by decide) (by kernel_rfl) (by kernel_rfl) (by kernel_rfl) (fun _ _ _ h => h) (Or.inl ⟨by rfl, ?_⟩) (H8.out) ?_
            rotate_left
            · intro w9 hw9; obtain ⟨q1, q2, q3, q4, q5, q6⟩ := hw9; go_simp; try with_reducible rfl
            try simp only [Act.put, List.setIfInBounds_toArray, List.set_cons_zero, List.set_cons_succ]
            refine RegL.take_w (i := 19) (oi := ⟨some 54, _, _, _, _, _⟩) (v := ?_) SM rfl (by decide) (by kernel_rfl) (by kernel_rfl) (by kernel_rfl) (fun _ _ _ h => h) (Or.inl ⟨by rfl, ?_⟩) (H8.out) ?_
            rotate_left
            · intro w9 hw9; obtain ⟨q1, q2, q3, q4, q5, q6⟩ := hw9; go_simp; try with_reducible rfl
            try simp only [Act.put, List.setIfInBounds_toArray, List.set_cons_zero, List.set_cons_succ]
            refine RegL.take_w (i := 20) (oi := ⟨some 55, _, _, _, _, _⟩) (v := ?_) SM rfl (by decide) (by kernel_rfl) (by kernel_rfl) (by kernel_rfl) (fun _ _ _ h => h) (Or.inl ⟨by rfl, ?_⟩) (H8.out) ?_
            rotate_left
            · intro w9 hw9; obtain ⟨q1, q2, q3, q4, q5, q6⟩ := hw9; go_simp; try with_reducible rfl
            try simp only [Act.put, List.setIfInBounds_toArray, List.set_cons_zero, List.set_cons_succ]
            refine RegL.take_w (i := 21) (oi := ⟨some 56, _, _, _, _, _⟩) (v := ?_) SM rfl (by decide) (by kernel_rfl) (by kernel_rfl) (by kernel_rfl) (fun _ _ _ h => h) (Or.inl ⟨by rfl, ?_⟩) (H8.out) ?_
            rotate_left
            · intro w9 hw9; obtain ⟨q1, q2, q3, q4, q5, q6⟩ := hw9; go_simp; try with_reducible rfl
            try simp only [Act.put, List.setIfInBounds_toArray, List.set_cons_zero, List.set_cons_succ]
            refine RegL.take_w (i := 22) (oi := ⟨some 57, _, _, _, _, _⟩) (v := ?_) SM rfl (by decide) (by kernel_rfl) (by kernel_rfl) (by kernel_rfl) (fun _ _ _ h => h) (Or.inl ⟨by rfl, ?_⟩) (H8.out) ?_
            rotate_left
            · intro w9 hw9; obtain ⟨q1, q2, q3, q4, q5, q6⟩ := hw9; go_simp; try with_reducible rfl
            try simp only [Act.put, List.setIfInBounds_toArray, List.set_cons_zero, List.set_cons_succ]
            refine RegL.take_w (i := 23) (oi := ⟨some 58, _, _, _, _, _⟩) (v := ?_) SM rfl (by decide) (by kernel_rfl) (by kernel_rfl) (by kernel_rfl) (fun _ _ _ h => h) (Or.inl ⟨by rfl, ?_⟩) (H8.out) ?_
            rotate_left
            · intro w9 hw9; obtain ⟨q1, q2, q3, q4, q5, q6⟩ := hw9; go_simp; try with_reducible rfl
            try simp only [Act.put, List.setIfInBounds_toArray, List.set_cons_zero, List.set_cons_succ]
            refine RegL.take_w (i := 24) (oi := ⟨some 59, _, _, _, _, _⟩) (v := ?_) SM rfl (by decide) (by kernel_rfl) (by kernel_rfl) (by kernel_rfl) (fun _ _ _ h => h) (Or.inl ⟨by rfl, ?_⟩) (H8.out) ?_
            rotate_left
            · intro w9 hw9; obtain ⟨q1, q2, q3, q4, q5, q6⟩ := hw9; go_simp; try with_reducible rfl
            try simp only [Act.put, List.setIfInBounds_toArray, List.set_cons_zero, List.set_cons_succ]
            refine RegL.take_w (i := 25) (oi := ⟨some 60, _, _, _, _, _⟩) (v := ?_) SM rfl (by decide) (by kernel_rfl) (by kernel_rfl) (by kernel_rfl) (fun _ _ _ h => h) (Or.inl ⟨by rfl, ?_⟩) (H8.out) ?_
            rotate_left
            · intro w9 hw9; obtain ⟨q1, q2, q3, q4, q5, q6⟩ := hw9; go_simp; try with_reducible rfl
            try simp only [Act.put, List.setIfInBounds_toArray, List.set_cons_zero, List.set_cons_succ]
            refine RegL.take_w (i := 26) (oi := ⟨some 61, _, _, _, _, _⟩) (v := ?_) SM rfl (by decide) (by kernel_rfl) (by kernel_rfl) (by kernel_rfl) (fun _ _ _ h => h) (Or.inl ⟨by rfl, ?_⟩) (H8.out) ?_
            rotate_left
            · intro w9 hw9; obtain ⟨q1, q2, q3, q4, q5, q6⟩ := hw9; go_simp; try with_reducible rfl
            try simp only [Act.put, List.setIfInBounds_toArray, List.set_cons_zero, List.set_cons_succ]
            refine RegL.take_w (i := 27) (oi := ⟨some 62, _, _, _, _, _⟩) (v := ?_) SM rfl (by decide) (by kernel_rfl) (by kernel_rfl) (by kernel_rfl) (fun _ _ _ h => h) (Or.inl ⟨by rfl, ?_⟩) (H8.out) ?_
            rotate_left
            · intro w9 hw9; obtain ⟨q1, q2, q3, q4, q5, q6⟩ := hw9; go_simp; try with_reducible rfl
            try simp only [Act.put, List.setIfInBounds_toArray, List.set_cons_zero, List.set_cons_succ]
            refine RegL.take_w (i := 28) (oi := ⟨some 63, _, _, _, _, _⟩) (v := ?_) SM rfl (by decide) (by kernel_rfl) (by kernel_rfl) (by kernel_rfl) (fun _ _ _ h => h) (Or.inl ⟨by rfl, ?_⟩) (H8.out) ?_
            rotate_left
            · intro w9 hw9; obtain ⟨q1, q2, q3, q4, q5, q6⟩ := hw9; go_simp; try with_reducible rfl
            try simp only [Act.put, List.setIfInBounds_toArray, List.set_cons_zero, List.set_cons_succ]
            refine RegL.take_w (i := 29) (oi := ⟨some 64, _, _, _, _, _⟩) (v := ?_) SM rfl (by decide) (by kernel_rfl) (by kernel_rfl) (by kernel_rfl) (fun _ _ _ h => h) (Or.inl ⟨by rfl, ?_⟩) (H8.out) ?_
            rotate_left
            · intro w9 hw9; obtain ⟨q1, q2, q3, q4, q5, q6⟩ := hw9; go_simp; try with_reducible rfl
            try simp only [Act.put, List.setIfInBounds_toArray, List.set_cons_zero, List.set_cons_succ]
            refine RegL.take_w (i := 30) (oi := ⟨some 65, _, _, _, _, _⟩) (v := ?_) SM rfl (by decide) (by kernel_rfl) (by kernel_rfl) (by kernel_rfl) (fun _ _ _ h => h) (Or.inl ⟨by rfl, ?_⟩) (H8.out) ?_
            rotate_left
            · intro w9 hw9; obtain ⟨q1, q2, q3, q4, q5, q6⟩ := hw9; go_simp; try with_reducible rfl
            try simp only [Act.put, List.setIfInBounds_toArray, List.set_cons_zero, List.set_cons_succ]
            refine RegL.take_w (i := 31) (oi := ⟨some 66, _, _, _, _, _⟩) (v := ?_) SM rfl (by decide) (by kernel_rfl) (by kernel_rfl) (by kernel_rfl) (fun _ _ _ h => h) (Or.inl ⟨by rfl, ?_⟩) (H8.out) ?_
            rotate_left
            · intro w9 hw9; obtain ⟨q1, q2, q3, q4, q5, q6⟩ := hw9; go_simp; try with_reducible rfl
            try simp only [Act.put, List.setIfInBounds_toArray, List.set_cons_zero, List.set_cons_succ]
            refine RegL.take_w (i := 32) (oi := ⟨some 67, _, _, _, _, _⟩) (v := ?_) SM rfl (by decide) (by kernel_rfl) (by kernel_rfl) (by kernel_rfl) (fun _ _ _ h => h) (Or.inl ⟨by rfl, ?_⟩) (H8.out) ?_
            rotate_left
            · intro w9 hw9; obtain ⟨q1, q2, q3, q4, q5, q6⟩ := hw9; go_simp; try with_reducible rfl
            try simp only [Act.put, List.setIfInBounds_toArray, List.set_cons_zero, List.set_cons_succ]
            refine RegL.take_w (i := 33) (oi := ⟨some 68, _, _, _, _, _⟩) (v := ?_) SM rfl (by decide) (by kernel_rfl) (by kernel_rfl) (by kernel_rfl) (fun _ _ _ h => h) (Or.inl ⟨by rfl, ?_⟩) (H8.out) ?_
            rotate_left
            · intro w9 hw9; obtain ⟨q1, q2, q3, q4, q5, q6⟩ := hw9; go_simp; try with_reducible rfl
            try simp only [Act.put, List.setIfInBounds_toArray, List.set_cons_zero, List.set_cons_succ]
            refine RegL.take_w (i := 34) (oi := ⟨some 69, _, _, _, _, _⟩) (v := ?_) SM rfl (by decide) (by kernel_rfl) (by kernel_rfl) (by kernel_rfl) (fun _ _ _ h => h) (Or.inl ⟨by rfl, ?_⟩) (H8.out) ?_
            rotate_left
            · intro w9 hw9; obtain ⟨q1, q2, q3, q4, q5, q6⟩ := hw9; go_simp; try with_reducible rfl
            try simp only [Act.put, List.setIfInBounds_toArray, List.set_cons_zero, List.set_cons_succ]
            refine RegL.take_w (i := 35) (oi := ⟨some 70, _, _, _, _, _⟩) (v := ?_) SM rfl (by decide) (by kernel_rfl) (by kernel_rfl) (by kernel_rfl) (fun _ _ _ h => h) (Or.inl ⟨by rfl, ?_⟩) (H8.out) ?_
            rotate_left
            · intro w9 hw9; obtain ⟨q1, q2, q3, q4, q5, q6⟩ := hw9; go_simp; try with_reducible rfl
            try simp only [Act.put, List.setIfInBounds_toArray, List.set_cons_zero, List.set_cons_succ]
            refine RegL.done_of (by kernel_rfl) ?_ _
            go_wp2_with fail
            go_meet
            exact ⟨rfl, rfl⟩
        case rest =>
          obtain ⟨hs70, hwc⟩ := hcut
          subst hs70
          rw [hwc]
          clear hwc
          have d0 : wd.drew.cell? ⟨bh, 0, none⟩ = some (.slice Av 0 cv) := HZ.out.drew.cellOf (g := bh) (cs := #[.slice Av 0 cv, .bool false, .bool (anewP s F), .bool (fineP s F)]) (t := 91) (by simp) 0 rfl
          have d1 : wd.drew.cell? ⟨bh, 1, none⟩ = some (.bool false) := HZ.out.drew.cellOf (g := bh) (cs := #[.slice Av 0 cv, .bool false, .bool (anewP s F), .bool (fineP s F)]) (t := 91) (by simp) 1 rfl
          have HD0 := Lib.hid (And.intro HV9.out HZ.out)
          clear HZ HV9
          go_wp2_with fail
          go_ret
          exact ⟨rfl, iv, HD0.out.1, HD0.out.2.drew.re (fun x => by simp only [cnt_append, cnt_cons]; omega)⟩
end Go.Proofs.YtoeiaimoppmjdaaDoor.Lk
/- A turn of a pair of links: over whatever holds ahead of each side's tick, and behind each frame that is heard. Printed by gen_pturn.py. -/
namespace Go.Proofs.YtoeiaimoppmjdaaDoor.Lk
open Go.RowKit Go.Proofs.YtoeiaimoppmjdaaDoorW.PrintWords Go.Proofs.YtoeiaimoppmjdaaDoor.Mem Go.Proofs.YtoeiaimoppmjdaaDoor.Wr Go.Proofs.YtoeiaimoppmjdaaDoor.Bytes Go.Proofs.YtoeiaimoppmjdaaDoor.App
set_option linter.unusedVariables false
set_option linter.unusedSimpArgs false
/-- What a turn asks: ahead of side i's tick J0 i, behind it and behind the frames up to number k: J i k; c i frames have gone out ahead of side i's tick. -/
structure Tn (gp : Nat) (J0 : Nat → World → Prop) (J : Nat → Nat → World → Prop) (c : Nat → Nat) : Prop where
  cle : ∀ i, i < 2 → c i ≤ c (i + 1)
  cb : c 2 ≤ 1000000
  drew : ∀ i k W, J i k W → J i k W.drew
  row0 : ∀ i W, i < 2 → J0 i W → ∃ A c', W.cell? ⟨gp, 6, none⟩ = some (.slice A (c i) c')
  tick : ∀ i W, i < 2 → J0 i W → Calls Tryd.prog 88 #[pt gp, .int .i64 i] W fun e w' => e = .returned (.bool true) ∧ J i (c i) w'
  row : ∀ i k W, i < 2 → J i k W → ∃ A c', W.cell? ⟨gp, 6, none⟩ = some (.slice A (c (i + 1)) c')
  hear : ∀ i k W, i < 2 → c i ≤ k → k < c (i + 1) → J i k W → ∃ g cap F v, W.cell? ⟨gp, 6, none⟩ = some (.slice (some ⟨g, 0, none⟩) (c (i + 1)) cap) ∧ (∀ j u, (frV F v)[j]? = some u → W.cell? ⟨g, k * 7 + j, none⟩ = some u) ∧
    Calls Tryd.prog 89 #[pt gp, .agg (frV F v)] W fun e w' => e = .returned (.bool true) ∧ J i (k + 1) w'
  next : ∀ i W, i < 2 → J i (c (i + 1)) W → J0 (i + 1) W
set_option maxRecDepth 20000 in
set_option maxHeartbeats 3200000 in
theorem turn_calls {gp : Nat} {J0 : Nat → World → Prop} {J : Nat → Nat → World → Prop} {c : Nat → Nat} {W : World} (ht : Tn gp J0 J c) (h : J0 0 W) :
    Calls Tryd.prog 52 #[pt gp] W fun e w' => e = .returned (.bool true) ∧ J0 2 w' := by
  have HT := Lib.hid ht
  have HS := Lib.hid h
  clear ht h
  go_enter Tryd.func52, Tryd.ntmps52
  go_wp2_with fail
  go_loopg [3] 2 (fun gk s3 wr => ∃ i : Nat, gk = 2 - i ∧ i ≤ 2 ∧ s3 = .int .i64 i ∧ J0 i wr)
  case atStart => exact ⟨0, rfl, Nat.zero_le _, rfl, HS.out⟩
  case round =>
    obtain ⟨i, hgk, hi, rfl, hj⟩ := hrel
    have HGK := Lib.hid hgk
    have HJ := Lib.hid hj
    clear hgk hj
    obtain ⟨wo, rfl⟩ : ∃ wo : World, wo = wr := ⟨_, rfl⟩
    by_cases hlt : i < 2
    · have i1 : (i : Int) < 2 := by omega
      have i2 : (0 : Int) ≤ (i : Int) := by omega
      obtain ⟨A6, c6, x6⟩ := HT.out.row0 i wo hlt HJ.out
      have CT := Lib.hid (HT.out.tick i wo hlt HJ.out)
      have HLT := Lib.hid hlt
      clear hlt
      go_wp2_with fail
      refine CT.out.mono ?_; rintro e w1 ⟨rfl, hj1⟩
      have HJ1 := Lib.hid hj1
      obtain ⟨A7, c7, x7⟩ := HT.out.row i _ w1 HLT.out hj1
      clear hj1 CT x6
      obtain ⟨a, ha⟩ : ∃ a, a = c i := ⟨_, rfl⟩
      obtain ⟨b, hb⟩ : ∃ b, b = c (i + 1) := ⟨_, rfl⟩
      have hab : a ≤ b := by rw [ha, hb]; exact HT.out.cle i HLT.out
      have hb9 : b ≤ 1000000 := by
        have h2 := HT.out.cb
        rcases (show i = 0 ∨ i = 1 by have := HLT.out; omega) with q | q
        · subst q; have h1 := HT.out.cle 1 (by omega); rw [hb]; exact Nat.le_trans h1 h2
        · subst q; rw [hb]; exact h2
      rw [← ha] at HJ1 ⊢
      rw [← hb] at x7
      have HA := Lib.hid ha
      have HB := Lib.hid hb
      clear ha hb
      go_wp2_with fail
      go_loopg [6] (b - a) (fun gk s6 wr => ∃ k : Nat, gk = b - k ∧ a ≤ k ∧ k ≤ b ∧ s6 = .int .i64 k ∧ J i k wr)
      case atStart => exact ⟨a, rfl, Nat.le_refl _, hab, rfl, HJ1.out⟩
      case round =>
        obtain ⟨k, hgk2, ha2, hk2, rfl, hjk⟩ := hrel
        have HGK2 := Lib.hid hgk2
        have HJK := Lib.hid hjk
        clear hgk2 hjk x7
        by_cases hlk : k < b
        · have k1 : (k : Int) < (b : Int) := by omega
          have k2 : (0 : Int) ≤ (k : Int) := by omega
          obtain ⟨g, cap, F, v, y6, hcs, hcall⟩ := HT.out.hear i k wr HLT.out (by rw [← HA.out]; exact ha2) (by rw [← HB.out]; exact hlk) HJK.out
          rw [← HB.out] at y6
          have HFR := Lib.hid hcs
          have CH : Hid (Calls Tryd.prog 89 #[pt gp, .agg #[.int .i64 F.src, .int .i64 F.dst, .int .u64 (F.mine : Int), .int .u64 (F.yours : Int), .int .u64 (F.seq : Int), .int .u64 (F.ack : Int), v]] wr fun e w' => e = .returned (.bool true) ∧ J i (k + 1) w') := hcall
          clear hcs hcall
          have z0 : wr.cell? ⟨g, k * 7, none⟩ = some (.int .i64 F.src) := HFR.out 0 _ rfl
          have z1 : wr.cell? ⟨g, k * 7 + 1, none⟩ = some (.int .i64 F.dst) := HFR.out 1 _ rfl
          have z2 : wr.cell? ⟨g, k * 7 + 2, none⟩ = some (.int .u64 (F.mine : Int)) := HFR.out 2 _ rfl
          have z3 : wr.cell? ⟨g, k * 7 + 3, none⟩ = some (.int .u64 (F.yours : Int)) := HFR.out 3 _ rfl
          have z4 : wr.cell? ⟨g, k * 7 + 4, none⟩ = some (.int .u64 (F.seq : Int)) := HFR.out 4 _ rfl
          have z5 : wr.cell? ⟨g, k * 7 + 5, none⟩ = some (.int .u64 (F.ack : Int)) := HFR.out 5 _ rfl
          have z6 : wr.cell? ⟨g, k * 7 + 6, none⟩ = some v := HFR.out 6 _ rfl
          have HLK := Lib.hid hlk
          have HA2 := Lib.hid ha2
          clear HFR hlk ha2
          go_wp2_with fail
          refine CH.out.mono ?_; rintro e w4 ⟨rfl, hj4⟩
          have HJ4 := Lib.hid hj4
          clear hj4 CH z0 z1 z2 z3 z4 z5 z6 y6
          go_wp2_with fail
          go_roundg (b - (k + 1))
          case rel => exact ⟨k + 1, rfl, by have := HA2.out; omega, by have := HLK.out; omega, rfl, HJ4.out⟩
          case measure => have := HLK.out; have := HGK2.out; omega
        · have hkb : k = b := by omega
          subst hkb
          have k1 : ¬ (k : Int) < (k : Int) := by omega
          have HN := HT.out.next i wr HLT.out (by rw [← HB.out]; exact HJK.out)
          have HN2 := Lib.hid HN
          clear HN
          go_wp2_with fail
          go_roundg (2 - (i + 1))
          case rel => exact ⟨i + 1, rfl, by have := HLT.out; omega, rfl, HN2.out⟩
          case measure => have := HLT.out; have := HGK.out; omega
    · obtain rfl : i = 2 := by omega
      go_wp2_with fail
      go_ret
      exact ⟨rfl, HJ.out⟩
end Go.Proofs.YtoeiaimoppmjdaaDoor.Lk
/- Two links with nothing to say: which words are said, tick by tick. -/
namespace Go.Proofs.YtoeiaimoppmjdaaDoor.Lk
open Go.RowKit Go.Proofs.YtoeiaimoppmjdaaDoorW.PrintWords Go.Proofs.YtoeiaimoppmjdaaDoor.Mem Go.Proofs.YtoeiaimoppmjdaaDoor.Wr Go.Proofs.YtoeiaimoppmjdaaDoor.Bytes Go.Proofs.YtoeiaimoppmjdaaDoor.App
set_option linter.unusedVariables false
set_option linter.unusedSimpArgs false
/-- What the two know, what is asked of them, whether a word is owed; the frames that have gone out. -/
structure QZ where
  k0 : Nat
  a0 : Bool
  w0 : Bool
  k1 : Nat
  a1 : Bool
  w1 : Bool
  fl : List Frm
def QZ.kn (z : QZ) (i : Nat) : Nat := if i = 0 then z.k0 else z.k1
def QZ.ak (z : QZ) (i : Nat) : Bool := if i = 0 then z.a0 else z.a1
def QZ.wd (z : QZ) (i : Nat) : Bool := if i = 0 then z.w0 else z.w1
/-- A word of side i that knows life y. -/
def wF (i y : Nat) : Frm := ⟨5 * (i : Int), 5 - 5 * (i : Int), 1, y, 0, 0, []⟩
def QZ.tick (z : QZ) (i : Nat) : QZ := if z.ak i = true then (if i = 0 then { z with a0 := false, fl := z.fl ++ [wF i (z.kn i)] } else { z with a1 := false, fl := z.fl ++ [wF i (z.kn i)] }) else z
def QZ.hear (z : QZ) (i y : Nat) : QZ := if i = 0 then { z with k0 := 1, w0 := !(y == 1) } else { z with k1 := 1, w1 := !(y == 1) }
/-- Side i's part of a turn. -/
def QZ.half (z : QZ) (i : Nat) : QZ := if z.ak i = true then (z.tick i).hear (1 - i) (z.kn i) else z
def QZ.owe (z : QZ) (i : Nat) : QZ := if i = 0 then { z with a0 := true } else { z with a1 := true }
structure Qk (i : Nat) (win : Int) (kn : Nat) (ak wd : Bool) (s : LS) : Prop where
  v : LkV s
  me : s.me = 5 * (i : Int)
  ot : s.other = 5 - 5 * (i : Int)
  lf : s.life = 1
  kn : s.known = kn
  wi : s.window = win
  it : s.items = []
  go : s.gone = 0
  ou : s.out = 0
  he : s.heard = 0
  ac : s.ack = false
  ak : s.asked = ak
  wd : s.word = wd
theorem q_row {s : LS} (it : s.items = []) : rowP' s = ([], s.out) := by
  unfold rowP' mayP
  rw [it]
  simp [sayTo]
theorem q_asked {i : Nat} {win : Int} {kn : Nat} {wd : Bool} {s : LS} (h : Qk i win kn true wd s) : saidP s = [wF i kn] ∧ Qk i win kn false wd (tickP s) := by
  have hr := q_row h.it
  have hw : wordP s = true := by unfold wordP; rw [hr, h.ak]; simp
  have hs : saidP s = [wF i kn] := by
    unfold saidP wF; rw [hw, if_pos rfl]
    show [frm s 0 []] = _
    unfold frm; rw [h.me, h.ot, h.lf, h.kn, h.he]
  obtain ⟨l, g, e⟩ := paced_same s
  have hv := pacedP_V h.v
  rw [e] at hv
  refine ⟨hs, ?_⟩
  have et : tickP s = { s with left := l, gap := g, out := s.out, ack := false, asked := false } := by
    unfold tickP; rw [e, hr, hs]; simp
  rw [et]
  exact ⟨⟨hv.c, hv.g, hv.l, hv.row, hv.by_⟩, h.me, h.ot, h.lf, h.kn, h.wi, h.it, h.go, h.ou, h.he, rfl, rfl, h.wd⟩
theorem q_calm {i : Nat} {win : Int} {kn : Nat} {s : LS} (h : Qk i win kn false false s) : saidP s = [] ∧ Qk i win kn false false (tickP s) := by
  have hr := q_row h.it
  have hw : wordP s = false := by unfold wordP; rw [hr, h.ak, h.ac, h.wd]; simp
  have hs : saidP s = [] := by
    unfold saidP; rw [hw, hr]; rfl
  obtain ⟨l, g, e⟩ := paced_same s
  have hv := pacedP_V h.v
  rw [e] at hv
  refine ⟨hs, ?_⟩
  have et : tickP s = { s with left := l, gap := g, out := s.out, ack := s.ack, asked := s.asked } := by
    unfold tickP; rw [e, hr, hs]; simp
  rw [et]
  exact ⟨⟨hv.c, hv.g, hv.l, hv.row, hv.by_⟩, h.me, h.ot, h.lf, h.kn, h.wi, h.it, h.go, h.ou, h.he, h.ac, h.ak, h.wd⟩
theorem wF_fit (i y : Nat) (hi : i < 2) (hy : y ≤ 1) : Fit (wF i y) :=
  ⟨by show (0 : Int) ≤ 5 * (i : Int); omega, by show 5 * (i : Int) ≤ 8; omega, by show (0 : Int) ≤ 5 - 5 * (i : Int); omega, by show 5 - 5 * (i : Int) ≤ 8; omega, Nat.le_refl _, by show 1 ≤ 1099511627776; omega, by show y ≤ 1099511627776; omega, Nat.zero_le _, Nat.zero_le _, Nat.zero_le _, .inr rfl⟩
theorem q_hear {i : Nat} {win : Int} {kn : Nat} {ak wd : Bool} {s : LS} (h : Qk i win kn ak wd s) (hi : i < 2) (hk : kn ≤ 1) (y : Nat) (hy : y ≤ 1) :
    handedP s (wF (1 - i) y) = false ∧ ∀ iv, LkV { hearP s (wF (1 - i) y) with iv := iv } → Qk i win 1 ak (!(y == 1)) { hearP s (wF (1 - i) y) with iv := iv } := by
  have hb : badP s (wF (1 - i) y) = false := by
    have hf := (fit_iff _).2 (wF_fit (1 - i) y (by omega) hy)
    have e1 : (wF (1 - i) y).src = s.other := by rw [h.ot]; show 5 * ((1 - i : Nat) : Int) = _; omega
    have e2 : (wF (1 - i) y).dst = s.me := by rw [h.me]; show 5 - 5 * ((1 - i : Nat) : Int) = _; omega
    have e3 : ¬ (wF (1 - i) y).mine < s.known := by rw [h.kn]; show ¬ 1 < kn; omega
    unfold badP; rw [hf, e1, e2]; simp [e3]
  have hnk : (newP s (wF (1 - i) y)).known = 1 := by
    unfold newP; split
    · rfl
    · rename_i q; have : (wF (1 - i) y).mine = 1 := rfl; rw [h.kn] at *; show kn = 1; omega
  have hnh : (newP s (wF (1 - i) y)).heard = 0 := by
    unfold newP; split
    · rfl
    · exact h.he
  have hni : (newP s (wF (1 - i) y)).items = [] := by
    unfold newP; split
    · rfl
    · exact h.it
  have hng : (newP s (wF (1 - i) y)).gone = 0 := by
    unfold newP; split
    · rfl
    · exact h.go
  have hno : (newP s (wF (1 - i) y)).out = 0 := by
    unfold newP; split
    · rfl
    · exact h.ou
  have hna : (newP s (wF (1 - i) y)).ack = false := by
    unfold newP; split
    · rfl
    · exact h.ac
  have hnk2 : (newP s (wF (1 - i) y)).asked = ak ∧ (newP s (wF (1 - i) y)).me = s.me ∧ (newP s (wF (1 - i) y)).other = s.other ∧ (newP s (wF (1 - i) y)).window = s.window := by
    unfold newP; split
    · exact ⟨h.ak, rfl, rfl, rfl⟩
    · exact ⟨h.ak, rfl, rfl, rfl⟩
  have hup : upB (newP s (wF (1 - i) y)) (wF (1 - i) y) = false := by
    unfold upB; rw [hnh]; rfl
  refine ⟨by unfold handedP; rw [hup]; simp, fun iv hV => ?_⟩
  have hlf : s.life = 1 := h.lf
  generalize hn : newP s (wF (1 - i) y) = n at *
  by_cases q : y = 1
  · have e : hearP s (wF (1 - i) y) = { n with word := false, items := n.items.drop (min ((wF (1 - i) y).ack - n.gone) n.items.length), gone := n.gone + min ((wF (1 - i) y).ack - n.gone) n.items.length } := by
      unfold hearP
      rw [hb, hn, if_neg (by simp), if_pos (show (wF (1 - i) y).yours = s.life by rw [hlf]; exact q)]
      have e1 : ackP { n with word := false } (wF (1 - i) y) = dropP { n with word := false } (wF (1 - i) y).ack := by
        unfold ackP; exact if_pos (Nat.zero_le _)
      unfold upP upB seqP rightP
      rw [e1]
      unfold dropP goneN
      simp only [show (wF (1 - i) y).seq = 0 from rfl, Nat.lt_irrefl, if_false, show decide (0 = n.heard + 1) = false from by simp, Bool.false_eq_true]
    rw [e] at hV ⊢
    exact ⟨hV, by show n.me = _; rw [hnk2.2.1, h.me], by show n.other = _; rw [hnk2.2.2.1, h.ot], by show n.life = _; rw [← hn, newP_life, hlf], hnk, by show n.window = _; rw [hnk2.2.2.2, h.wi], by show n.items.drop _ = []; rw [hni]; exact List.drop_nil, by show n.gone + _ = 0; rw [hni, hng]; rfl, hno, hnh, hna, hnk2.1, by rw [q]; rfl⟩
  · have e : hearP s (wF (1 - i) y) = { n with word := true } := by
      unfold hearP
      rw [hb, hn, if_neg (by simp), if_neg (show ¬ (wF (1 - i) y).yours = s.life by rw [hlf]; exact q)]
    rw [e] at hV ⊢
    exact ⟨hV, by show n.me = _; rw [hnk2.2.1, h.me], by show n.other = _; rw [hnk2.2.2.1, h.ot], by show n.life = _; rw [← hn, newP_life, hlf], hnk, by show n.window = _; rw [hnk2.2.2.2, h.wi], hni, hng, hno, hnh, hna, hnk2.1, by
      show true = _
      have : (y == 1) = false := by rw [beq_eq_false_iff_ne]; exact q
      rw [this]; rfl⟩
theorem upd_same {α : Type} (f : Nat → α) (i : Nat) (v : α) : upd f i v i = v := if_pos rfl
theorem upd_other {α : Type} (f : Nat → α) (i j : Nat) (v : α) (h : j ≠ i) : upd f i v j = f j := if_neg h
theorem frsL_get {fs : List SF} {k : Nat} {x : SF} (h : fs[k]? = some x) (j : Nat) (hj : j < 7) : (frsL fs)[k * 7 + j]? = (frV x.2 x.1)[j]? := by
  induction fs generalizing k with
  | nil => simp at h
  | cons a t ih =>
    unfold frsL at ih ⊢
    rw [List.flatMap_cons]
    cases k with
    | zero =>
      simp at h
      subst h
      rw [Nat.zero_mul, Nat.zero_add, List.getElem?_append_left (by show j < 7; exact hj)]
      simp
    | succ k =>
      simp at h
      rw [List.getElem?_append_right (by show 7 ≤ _; omega)]
      rw [show (k + 1) * 7 + j - (frV a.2 a.1).toList.length = k * 7 + j by show (k + 1) * 7 + j - 7 = _; omega]
      exact ih h
/-- The two links, at rest but for what z says. -/
def QT (v0 : World) (R : List Ent) (gp : Nat) (g : Nat → Nat) (win : Int) (z : QZ) (W : World) : Prop :=
  ∃ (p : PS) (s : Nat → LS) (fs : List SF), p.window = win ∧ (∀ i, i < 2 → p.life i = 1 ∧ p.l i = pt (g i) ∧ Qk i win (z.kn i) (z.ak i) (z.wd i) (s i)) ∧ SentV p.sent fs ∧ fs.map (fun x => x.2) = z.fl ∧
    St v0 W (B gp (pC p) 86 :: (lkE (g 0) (s 0) ++ (lkE (g 1) (s 1) ++ (sentE p.sent fs ++ R))))
section
variable {v0 W : World} {R : List Ent} {gp : Nat} {g : Nat → Nat} {win : Int} {z : QZ}
theorem QT.drew (h : QT v0 R gp g win z W) : QT v0 R gp g win z W.drew := by
  obtain ⟨p, s, fs, a, b, c, d, e⟩ := h
  exact ⟨p, s, fs, a, b, c, d, e.drew⟩
theorem QT.row (h : QT v0 R gp g win z W) : ∃ A c, W.cell? ⟨gp, 6, none⟩ = some (.slice A z.fl.length c) := by
  obtain ⟨p, s, fs, a, b, c, d, e⟩ := h
  obtain ⟨A, c', hc⟩ := row_form c.row
  refine ⟨A, c', ?_⟩
  rw [← d, List.length_map, ← hc]
  exact e.cellOf (g := gp) (cs := pC p) (t := 86) (by simp) 6 rfl
theorem qt_tick (i : Nat) (hi : i < 2) (h : QT v0 R gp g win z W) (hz : z.ak i = true ∨ z.wd i = false) (hk : z.kn i ≤ 1) (hfl : z.fl.length ≤ 900000) (hw : 1 ≤ win ∧ win ≤ 64) (ht : ErrTab v0) (hz0 : 0 < v0.heap.size) :
    Calls Tryd.prog 88 #[pt gp, .int .i64 i] W fun e w' => e = .returned (.bool true) ∧ QT v0 R gp g win (z.tick i) w' := by
  obtain ⟨p, s, fs, ha, hb, hc, hd, he⟩ := h
  obtain ⟨b1, b2, b3⟩ := hb i hi
  obtain ⟨c1, c2, c3⟩ := hb (1 - i) (by omega)
  have hlen : fs.length = z.fl.length := by rw [← hd, List.length_map]
  have hcl := ptick_calls (s := s i) (fs := fs) (g := g i) (R := lkE (g (1 - i)) (s (1 - i)) ++ R) i hi (he.re (M := B gp (pC p) 86 :: (lkE (g i) (s i) ++ (sentE p.sent fs ++ (lkE (g (1 - i)) (s (1 - i)) ++ R)))) (fun x => by
      rcases (show i = 0 ∨ i = 1 by omega) with rfl | rfl <;> simp only [cnt_append, cnt_cons, Nat.sub_self, Nat.sub_zero] <;> omega)) b2 b3.v hc b3.me b3.ot (by rw [b1, b3.lf]) (by rw [b3.lf]; omega) (by rw [b3.kn]; omega) (by rw [b3.he]; omega) (by rw [b3.go, b3.it]; show 0 + 0 < _; omega) (by rw [b3.ou]; omega) (by rw [b3.it]; exact Nat.zero_le _) (by rw [b3.wi, ha]) (by rw [ha]; exact hw) (by omega) ht hz0
  refine hcl.mono ?_
  rintro e w' ⟨rfl, sv, ns, hns, hsv, hV, hst⟩
  have hcase : ∃ zz : QZ, zz = z.tick i ∧ (fs ++ ns).map (fun x => x.2) = zz.fl ∧ (saidP (s i)).length ≤ 1 ∧ Qk i win (zz.kn i) (zz.ak i) (zz.wd i) (tickP (s i)) ∧ zz.kn (1 - i) = z.kn (1 - i) ∧ zz.ak (1 - i) = z.ak (1 - i) ∧ zz.wd (1 - i) = z.wd (1 - i) := by
    refine ⟨_, rfl, ?_⟩
    cases hq : z.ak i with
    | true =>
      rw [hq] at b3
      obtain ⟨q1, q2⟩ := q_asked b3
      rw [List.map_append, hd, hns, q1]
      rcases (show i = 0 ∨ i = 1 by omega) with rfl | rfl <;> (unfold QZ.tick; rw [hq]; exact ⟨rfl, Nat.le_refl _, q2, rfl, rfl, rfl⟩)
    | false =>
      rw [hq] at b3
      have hwd : z.wd i = false := by rcases hz with q | q; · rw [hq] at q; cases q
                                      · exact q
      rw [hwd] at b3
      obtain ⟨q1, q2⟩ := q_calm b3
      rw [List.map_append, hd, hns, q1]
      have et : z.tick i = z := by unfold QZ.tick; rw [hq]; rfl
      rw [et, hq, hwd]
      exact ⟨by simp, Nat.zero_le _, q2, rfl, rfl, rfl⟩
  obtain ⟨zz, hzz, k1, k2, k3, k4, k5, k6⟩ := hcase
  refine ⟨by rw [decide_eq_true (by rw [ha]; omega)], ?_⟩
  rw [← hzz]
  refine ⟨{ p with sent := sv }, upd s i (tickP (s i)), fs ++ ns, ha, ?_, hsv, k1, ?_⟩
  · intro j hj
    by_cases hji : j = i
    · subst hji
      rw [upd_same]
      exact ⟨b1, b2, k3⟩
    · obtain rfl : j = 1 - i := by omega
      rw [upd_other _ _ _ _ hji, k4, k5, k6]
      exact ⟨c1, c2, c3⟩
  · refine hst.re (fun x => ?_)
    rcases (show i = 0 ∨ i = 1 by omega) with rfl | rfl
    · rw [upd_same, upd_other _ _ _ _ (show (1 : Nat) ≠ 0 by omega)]
      simp only [cnt_append, cnt_cons, Nat.sub_zero]; omega
    · rw [upd_same, upd_other _ _ _ _ (show (0 : Nat) ≠ 1 by omega)]
      simp only [cnt_append, cnt_cons, Nat.sub_self]; omega
/-- Side i hears the word that lies at place k of those that have gone out. -/
theorem qt_hear (i : Nat) (hi : i < 2) (h : QT v0 R gp g win z W) (k y : Nat) (hk : z.fl[k]? = some (wF (1 - i) y)) (hy : y ≤ 1) (hkn : z.kn i ≤ 1) :
    ∃ gg cap F v, W.cell? ⟨gp, 6, none⟩ = some (.slice (some ⟨gg, 0, none⟩) z.fl.length cap) ∧ (∀ j u, (frV F v)[j]? = some u → W.cell? ⟨gg, k * 7 + j, none⟩ = some u) ∧
    Calls Tryd.prog 89 #[pt gp, .agg (frV F v)] W fun e w' => e = .returned (.bool true) ∧ QT v0 R gp g win (z.hear i y) w' := by
  obtain ⟨p, s, fs, ha, hb, hc, hd, he⟩ := h
  obtain ⟨b1, b2, b3⟩ := hb i hi
  obtain ⟨c1, c2, c3⟩ := hb (1 - i) (by omega)
  have hlen : fs.length = z.fl.length := by rw [← hd, List.length_map]
  obtain ⟨x, hx, hx2⟩ : ∃ x, fs[k]? = some x ∧ x.2 = wF (1 - i) y := by
    rw [← hd, List.getElem?_map] at hk
    obtain ⟨x, q1, q2⟩ := Option.map_eq_some_iff.1 hk
    exact ⟨x, q1, q2⟩
  obtain ⟨v, F⟩ := x
  simp only at hx2
  subst hx2
  obtain ⟨hkl, _⟩ := List.getElem?_eq_some_iff.1 hx
  have hmem := List.mem_of_getElem? hx
  obtain ⟨hbv, hfit, hbyt⟩ := hc.by_ _ hmem
  simp only at hbv hfit hbyt
  obtain ⟨A, c, rfl⟩ := byV_form hbv
  obtain ⟨gg, cap, hsv⟩ : ∃ gg cap, p.sent = .slice (some ⟨gg, 0, none⟩) fs.length cap := by
    rcases hc.row.2 with ⟨_, q⟩ | ⟨gg, cap, q, _⟩
    · omega
    · exact ⟨gg, cap, q⟩
  have hcnt : ∀ a, cnt a (byR (.slice A (wF (1 - i) y).body.length c) (wF (1 - i) y).body) ≤ cnt a (fs.flatMap fun x => byR x.1 x.2.body) := by
    intro a
    obtain ⟨l1, l2, e⟩ := List.append_of_mem hmem
    rw [e, List.flatMap_append, List.flatMap_cons, cnt_append, cnt_append]; dsimp only; omega
  refine ⟨gg, cap, wF (1 - i) y, .slice A (wF (1 - i) y).body.length c, ?_, ?_, ?_⟩
  · rw [← hlen, ← hsv]
    exact he.cellOf (g := gp) (cs := pC p) (t := 86) (by simp) 6 rfl
  · intro j u hj
    have hj7 : j < 7 := (Array.getElem?_eq_some_iff.1 hj).1
    have hE : St v0 W (rowE (.slice (some ⟨gg, 0, none⟩) fs.length cap) 69 7 fs.length (frsL fs) ++ []) := he.re (fun x => by rw [← hsv]; simp only [sentE, cnt_append, cnt_cons, cnt_nil]; omega)
    rw [(hE.at (k * 7 + j) (by rw [frsL_len]; omega) (frsL_len fs)).1, frsL_get hx j hj7]
    exact hj
  · obtain ⟨q1, q2⟩ := q_hear b3 hi hkn y hy
    have hcl := phear_calls (s := s i) (g := g i) (R := lkE (g (1 - i)) (s (1 - i)) ++ (sentE p.sent fs ++ R)) i hi (wF (1 - i) y) A c (he.re (M := B gp (pC p) 86 :: (lkE (g i) (s i) ++ (lkE (g (1 - i)) (s (1 - i)) ++ (sentE p.sent fs ++ R)))) (fun x => by
        rcases (show i = 0 ∨ i = 1 by omega) with rfl | rfl <;> simp only [cnt_append, cnt_cons, Nat.sub_self, Nat.sub_zero] <;> omega)) b2 b3.v
        (rdR_held hbv (fun a => by have := hcnt a; simp only [sentE, cnt_append]; omega)) hfit hbyt (by rw [b3.ot]; show 5 * ((1 - i : Nat) : Int) = _; omega) (by rw [b3.me]; show 5 - 5 * ((1 - i : Nat) : Int) = _; omega) b3.me (by rw [b1, b3.lf]) (by rw [b3.go, b3.it]; show 0 + 0 < _; omega) (by rw [b3.he]; omega) q1
    refine Calls.mono hcl ?_
    rintro e w' ⟨rfl, iv, hV, hst⟩
    refine ⟨rfl, p, upd s i { hearP (s i) (wF (1 - i) y) with iv := iv }, fs, ha, ?_, hc, ?_, ?_⟩
    · intro j hj
      by_cases hji : j = i
      · subst hji
        rw [upd_same]
        refine ⟨b1, b2, ?_⟩
        have := q2 iv hV
        rcases (show j = 0 ∨ j = 1 by omega) with rfl | rfl <;> exact this
      · obtain rfl : j = 1 - i := by omega
        rw [upd_other _ _ _ _ hji]
        refine ⟨c1, c2, ?_⟩
        rcases (show i = 0 ∨ i = 1 by omega) with rfl | rfl <;> exact c3
    · rw [hd]; unfold QZ.hear; split <;> rfl
    · refine hst.re (fun x => ?_)
      rcases (show i = 0 ∨ i = 1 by omega) with rfl | rfl
      · rw [upd_same, upd_other _ _ _ _ (show (1 : Nat) ≠ 0 by omega)]
        simp only [cnt_append, cnt_cons, Nat.sub_zero]; omega
      · rw [upd_same, upd_other _ _ _ _ (show (0 : Nat) ≠ 1 by omega)]
        simp only [cnt_append, cnt_cons, Nat.sub_self]; omega
def QZ.turn (z : QZ) : QZ := (z.half 0).half 1
/-- May side i's part be played: who is not asked owes no word; nobody knows of a life beyond the first. -/
def QZ.ok (z : QZ) (i : Nat) : Prop := (z.ak i = true ∨ z.wd i = false) ∧ z.k0 ≤ 1 ∧ z.k1 ≤ 1
theorem QZ.tick_len (z : QZ) (i : Nat) : (z.tick i).fl.length = z.fl.length + (if z.ak i = true then 1 else 0) := by
  unfold QZ.tick; split
  · split <;> simp
  · rfl
theorem QZ.hear_fl (z : QZ) (i y : Nat) : (z.hear i y).fl = z.fl := by unfold QZ.hear; split <;> rfl
theorem QZ.half_len (z : QZ) (i : Nat) : (z.half i).fl.length = z.fl.length + (if z.ak i = true then 1 else 0) := by
  unfold QZ.half; split
  · rename_i q; rw [QZ.hear_fl, QZ.tick_len, if_pos q]
  · rfl
theorem QZ.tick_get (z : QZ) (i : Nat) (hi : i < 2) (h : z.ak i = true) : (z.tick i).fl[z.fl.length]? = some (wF (1 - (1 - i)) (z.kn i)) := by
  rw [show 1 - (1 - i) = i by omega]
  unfold QZ.tick; rw [h]; simp only [if_true]; split <;> simp
theorem QZ.tick_kn (z : QZ) (i j : Nat) : (z.tick i).kn j = z.kn j := by
  by_cases r : i = 0
  · subst r; by_cases q : z.ak 0 = true <;> simp [QZ.tick, QZ.kn, q]
  · by_cases q : z.ak i = true <;> simp [QZ.tick, QZ.kn, q, r]
theorem QZ.half_one (z : QZ) (i : Nat) (h : z.k0 ≤ 1 ∧ z.k1 ≤ 1) : (z.half i).k0 ≤ 1 ∧ (z.half i).k1 ≤ 1 := by
  by_cases q : z.ak i = true
  · by_cases r : i = 0
    · subst r; simp [QZ.half, QZ.hear, QZ.tick, q, h.1, h.2]
    · by_cases t : 1 - i = 0
      · simp [QZ.half, QZ.hear, QZ.tick, q, r, t, h.1, h.2]
      · omega
  · simp [QZ.half, q, h.1, h.2]
theorem QZ.kn_le (z : QZ) (i : Nat) (h : z.k0 ≤ 1 ∧ z.k1 ≤ 1) : z.kn i ≤ 1 := by
  unfold QZ.kn; split
  · exact h.1
  · exact h.2
/-- A turn. -/
theorem qt_turn (h : QT v0 R gp g win z W) (h0 : z.ok 0) (h1 : (z.half 0).ok 1) (hfl : z.fl.length ≤ 800000) (hw : 1 ≤ win ∧ win ≤ 64) (ht : ErrTab v0) (hz0 : 0 < v0.heap.size) :
    Calls Tryd.prog 52 #[pt gp] W fun e w' => e = .returned (.bool true) ∧ QT v0 R gp g win z.turn w' := by
  have zi : ∃ f : Nat → QZ, f 0 = z ∧ f 1 = z.half 0 ∧ f 2 = z.turn ∧ (∀ i, i < 2 → f (i + 1) = (f i).half i) ∧ (∀ i, i < 2 → (f i).ok i) :=
    ⟨fun i => if i = 0 then z else if i = 1 then z.half 0 else z.turn, rfl, rfl, rfl, fun i hi => by rcases (show i = 0 ∨ i = 1 by omega) with rfl | rfl <;> rfl, fun i hi => by
      rcases (show i = 0 ∨ i = 1 by omega) with rfl | rfl
      · exact h0
      · exact h1⟩
  obtain ⟨f, f0, f1, f2, fs, fok⟩ := zi
  have hlen1 := QZ.half_len z 0
  have hlen2 := QZ.half_len (z.half 0) 1
  have hc : ∀ i, i < 2 → (f (i + 1)).fl.length = (f i).fl.length + (if (f i).ak i = true then 1 else 0) := fun i hi => by rw [fs i hi, QZ.half_len]
  have hflb : ∀ i, i ≤ 2 → (f i).fl.length ≤ 800002 := by
    intro i hi
    rcases (show i = 0 ∨ i = 1 ∨ i = 2 by omega) with rfl | rfl | rfl
    · rw [f0]; omega
    · rw [f1, hlen1]; split <;> omega
    · rw [f2]; show ((z.half 0).half 1).fl.length ≤ _; rw [hlen2, hlen1]; split <;> split <;> omega
  have T : Tn gp (fun i => QT v0 R gp g win (f i)) (fun i k => if k = (f i).fl.length then QT v0 R gp g win ((f i).tick i) else QT v0 R gp g win (f (i + 1))) (fun i => (f i).fl.length) := by
    refine ⟨fun i hi => by show (f i).fl.length ≤ (f (i + 1)).fl.length; rw [hc i hi]; omega, by show (f 2).fl.length ≤ _; have := hflb 2 (by omega); omega, ?_, ?_, ?_, ?_, ?_, ?_⟩
    · intro i k W hj
      by_cases q : k = (f i).fl.length
      · simp only [if_pos q] at hj ⊢; exact hj.drew
      · simp only [if_neg q] at hj ⊢; exact hj.drew
    · intro i W hi hj; exact hj.row
    · intro i W hi hj
      obtain ⟨q1, q2, q3⟩ := fok i hi
      refine (qt_tick i hi hj q1 (QZ.kn_le _ _ ⟨q2, q3⟩) (by have := hflb i (by omega); omega) hw ht hz0).mono ?_
      rintro e w' ⟨rfl, hq⟩
      refine ⟨rfl, ?_⟩
      simp only [if_pos]; exact hq
    · intro i k W hi hj
      by_cases q : k = (f i).fl.length
      · simp only [if_pos q] at hj
        have := hj.row
        rw [QZ.tick_len, ← hc i hi] at this
        exact this
      · simp only [if_neg q] at hj
        exact hj.row
    · intro i k W hi hk1 hk2 hj
      have hk2' : k < (f (i + 1)).fl.length := hk2
      have hk1' : (f i).fl.length ≤ k := hk1
      rw [hc i hi] at hk2'
      have hak : (f i).ak i = true := by
        cases q : (f i).ak i with
        | true => rfl
        | false => rw [q] at hk2'; simp at hk2'; omega
      rw [if_pos hak] at hk2'
      obtain rfl : k = (f i).fl.length := by omega
      simp only [if_pos] at hj
      obtain ⟨q1, q2, q3⟩ := fok i hi
      have hlt : (f (i + 1)).fl.length = ((f i).tick i).fl.length := by rw [hc i hi, QZ.tick_len]
      obtain ⟨gg, cap, F, v, r1, r2, r3⟩ := qt_hear (1 - i) (by omega) hj (f i).fl.length ((f i).kn i) (QZ.tick_get _ i hi hak) (QZ.kn_le _ _ ⟨q2, q3⟩) (by rw [QZ.tick_kn]; exact QZ.kn_le _ _ ⟨q2, q3⟩)
      refine ⟨gg, cap, F, v, by show _ = some (Value.slice _ (f (i + 1)).fl.length _); rw [hlt]; exact r1, r2, r3.mono ?_⟩
      rintro e w' ⟨rfl, hq⟩
      refine ⟨rfl, ?_⟩
      rw [if_neg (by omega), fs i hi]
      unfold QZ.half; rw [if_pos hak]
      exact hq
    · intro i W hi hj
      have e := hc i hi
      cases q : (f i).ak i with
      | true =>
        rw [q, if_pos rfl] at e
        simp only [e] at hj
        rw [if_neg (by omega)] at hj
        exact hj
      | false =>
        rw [q] at e
        simp only [e] at hj
        have et : (f i).tick i = f (i + 1) := by rw [fs i hi]; unfold QZ.tick QZ.half; rw [q]; rfl
        rw [show (if false = true then 1 else 0) = 0 from rfl, Nat.add_zero, if_pos rfl, et] at hj
        exact hj
  refine (turn_calls T (by show QT v0 R gp g win (f 0) W; rw [f0]; exact h)).mono ?_
  rintro e w' ⟨rfl, hq⟩
  refine ⟨rfl, ?_⟩
  have hq' : QT v0 R gp g win (f 2) w' := hq
  rw [f2] at hq'
  exact hq'
theorem qt_owe (i : Nat) (hi : i < 2) (h : QT v0 R gp g win z W) : Calls Tryd.prog 51 #[pt (g i)] W fun e w' => e = .returned (.tuple #[]) ∧ QT v0 R gp g win (z.owe i) w' := by
  obtain ⟨p, s, fs, ha, hb, hc, hd, he⟩ := h
  obtain ⟨b1, b2, b3⟩ := hb i hi
  obtain ⟨c1, c2, c3⟩ := hb (1 - i) (by omega)
  have hcl := lowe_calls (g := g i) (s := s i) (w0 := v0) (R := B gp (pC p) 86 :: (lkE (g (1 - i)) (s (1 - i)) ++ (sentE p.sent fs ++ R))) (he.re (fun x => by
    rcases (show i = 0 ∨ i = 1 by omega) with rfl | rfl <;> simp only [cnt_append, cnt_cons, Nat.sub_self, Nat.sub_zero] <;> omega))
  refine hcl.mono ?_
  rintro e w' ⟨rfl, hst⟩
  refine ⟨rfl, p, upd s i { s i with asked := true }, fs, ha, ?_, hc, ?_, ?_⟩
  · intro j hj
    by_cases hji : j = i
    · subst hji
      rw [upd_same]
      refine ⟨b1, b2, ?_⟩
      have : Qk j win (z.kn j) true (z.wd j) { s j with asked := true } := ⟨⟨b3.v.c, b3.v.g, b3.v.l, b3.v.row, b3.v.by_⟩, b3.me, b3.ot, b3.lf, b3.kn, b3.wi, b3.it, b3.go, b3.ou, b3.he, b3.ac, rfl, b3.wd⟩
      rcases (show j = 0 ∨ j = 1 by omega) with rfl | rfl <;> exact this
    · obtain rfl : j = 1 - i := by omega
      rw [upd_other _ _ _ _ hji]
      refine ⟨c1, c2, ?_⟩
      rcases (show i = 0 ∨ i = 1 by omega) with rfl | rfl <;> exact c3
  · rw [hd]; unfold QZ.owe; split <;> rfl
  · refine hst.re (fun x => ?_)
    rcases (show i = 0 ∨ i = 1 by omega) with rfl | rfl
    · rw [upd_same, upd_other _ _ _ _ (show (1 : Nat) ≠ 0 by omega)]
      simp only [cnt_append, cnt_cons, Nat.sub_zero]; omega
    · rw [upd_same, upd_other _ _ _ _ (show (0 : Nat) ≠ 1 by omega)]
      simp only [cnt_append, cnt_cons, Nat.sub_self]; omega
end
end Go.Proofs.YtoeiaimoppmjdaaDoor.Lk
/- Sessions: what was handed in and up at a side, in memory; which session is which: plain. -/
namespace Go.Proofs.YtoeiaimoppmjdaaDoor.Lk
open Go.RowKit Go.Proofs.YtoeiaimoppmjdaaDoorW.PrintWords Go.Proofs.YtoeiaimoppmjdaaDoor.Mem Go.Proofs.YtoeiaimoppmjdaaDoor.Wr Go.Proofs.YtoeiaimoppmjdaaDoor.Bytes Go.Proofs.YtoeiaimoppmjdaaDoor.App
set_option linter.unusedVariables false
set_option linter.unusedSimpArgs false
structure Se where
  mine : Nat
  yours : Nat
  iv : Value
  ins : List BI
  uv : Value
  ups : List BI
def seC (x : Se) : Array Value := #[.int .u64 (x.mine : Int), .int .u64 (x.yours : Int), x.iv, x.uv]
def sesL (ss : List Se) : List Value := ss.flatMap fun x => (seC x).toList
def seR (x : Se) : List Ent := outE x.iv x.ins ++ outE x.uv x.ups
def sesE (tv : Value) (ss : List Se) : List Ent := rowE tv 101 4 ss.length (sesL ss) ++ ss.flatMap seR
structure SesV (tv : Value) (ss : List Se) : Prop where
  row : rowV tv 4 ss.length (sesL ss)
  of_ : ∀ x, x ∈ ss → OutV x.iv x.ins ∧ OutV x.uv x.ups
theorem sesV_nil : SesV NL [] := ⟨rowV_nil 4, fun x h => (by cases h)⟩
theorem sesE_nil : sesE NL [] = [] := rfl
theorem sesL_len (ss : List Se) : (sesL ss).length = ss.length * 4 := by
  induction ss with
  | nil => rfl
  | cons a t ih => unfold sesL at ih ⊢; rw [List.flatMap_cons, List.length_append, ih]; show 4 + _ = (t.length + 1) * 4; omega
theorem sesL_get {ss : List Se} {k : Nat} {x : Se} (h : ss[k]? = some x) (j : Nat) (hj : j < 4) : (sesL ss)[k * 4 + j]? = (seC x)[j]? := by
  induction ss generalizing k with
  | nil => simp at h
  | cons a t ih =>
    unfold sesL at ih ⊢
    rw [List.flatMap_cons]
    cases k with
    | zero =>
      simp at h
      subst h
      rw [Nat.zero_mul, Nat.zero_add, List.getElem?_append_left (by show j < 4; exact hj)]
      simp
    | succ k =>
      simp at h
      rw [List.getElem?_append_right (by show 4 ≤ _; omega)]
      rw [show (k + 1) * 4 + j - (seC a).toList.length = k * 4 + j by show (k + 1) * 4 + j - 4 = _; omega]
      exact ih h
/-- A session's cell is written over. -/
theorem sesL_set (ss : List Se) (k : Nat) (x y : Se) (h : ss[k]? = some x) (j : Nat) (hj : j < 4) (u : Value) (e : (seC x).setIfInBounds j u = seC y) : (sesL ss).set (k * 4 + j) u = sesL (ss.set k y) := by
  induction ss generalizing k with
  | nil => simp at h
  | cons a t ih =>
    unfold sesL at ih ⊢
    rw [List.flatMap_cons]
    cases k with
    | zero =>
      simp at h
      subst h
      rw [Nat.zero_mul, Nat.zero_add, List.set_cons_zero, List.flatMap_cons, List.set_append_left _ _ (by show j < 4; exact hj), ← e]
      simp
    | succ k =>
      simp at h
      rw [List.set_cons_succ, List.flatMap_cons, List.set_append_right _ _ (by show 4 ≤ _; omega), show (k + 1) * 4 + j - (seC a).toList.length = k * 4 + j by show (k + 1) * 4 + j - 4 = _; omega, ih k h]
theorem ses_flat_set (ss : List Se) (k : Nat) (x y : Se) (h : ss[k]? = some x) (a : Ent) : cnt a ((ss.set k y).flatMap seR) + cnt a (seR x) = cnt a (ss.flatMap seR) + cnt a (seR y) := by
  induction ss generalizing k with
  | nil => simp at h
  | cons b t ih =>
    cases k with
    | zero =>
      simp at h
      subst h
      rw [List.set_cons_zero, List.flatMap_cons, List.flatMap_cons, cnt_append, cnt_append]; omega
    | succ k =>
      simp at h
      have := ih k h
      rw [List.set_cons_succ, List.flatMap_cons, List.flatMap_cons, cnt_append, cnt_append]; omega
theorem ses_flat_le (ss : List Se) (x : Se) (h : x ∈ ss) (a : Ent) : cnt a (seR x) ≤ cnt a (ss.flatMap seR) := by
  obtain ⟨l1, l2, e⟩ := List.append_of_mem h
  rw [e, List.flatMap_append, List.flatMap_cons, cnt_append, cnt_append]; omega
theorem infoSe : (Tryd.prog.info? 101).map (fun i => (i.zero, i.size, i.bytes)) = some (some (.agg #[.int .u64 0, .int .u64 0, .slice none 0 0, .slice none 0 0]), 4, 64) := by kernel_rfl
/-- One more session behind those that there are. -/
theorem ses_append {w0 W : World} {R : List Ent} {tv : Value} {ss : List Se} (h : St w0 W (rowE tv 101 4 ss.length (sesL ss) ++ R)) (hV : rowV tv 4 ss.length (sesL ss)) (m y : Nat) (hl : ss.length ≤ 1000000) (ad : Addr) (c1 : Nat)
    (hx : ∀ j u, (seC ⟨m, y, NL, [], NL, []⟩).toList[j]? = some u → W.cell? (ad.add j) = some u) :
    ∃ (A' : Option Addr) (c' : Nat) (W' : World), (Builtin.append_ #[83, 83] 83 #[tv, .slice (some ad) 1 c1]).run Tryd.prog W = .ok (.slice A' (ss.length + 1) c') W' ∧ St w0 W' (rowE (.slice A' (ss.length + 1) c') 101 4 (ss.length + 1) (sesL (ss ++ [⟨m, y, NL, [], NL, []⟩])) ++ R) ∧ rowV (.slice A' (ss.length + 1) c') 4 (ss.length + 1) (sesL (ss ++ [⟨m, y, NL, [], NL, []⟩])) := by
  obtain ⟨i0, hi, hzz⟩ := Option.map_eq_some_iff.1 infoSe
  simp only [Prod.mk.injEq] at hzz
  obtain ⟨hz0, hz1, hz2⟩ := hzz
  obtain ⟨v1, w1, hrun, h2, h3, _, h5⟩ := run_append_own_at (P := Tryd.prog) W w0.heap.size 83 83 101 i0 (.agg #[.int .u64 0, .int .u64 0, .slice none 0 0, .slice none 0 0]) 4 64 Tryd.underlying83 hi hz0 hz1 hz2 rfl (by omega) tv ss.length (sesL ss) (h.own hV) ad 1 c1 (seC ⟨m, y, NL, [], NL, []⟩).toList rfl hx
    (by intro q hq; simp [seC] at hq; rcases hq with rfl | rfl | rfl | rfl <;> rfl) (by simp only [maxLen]; omega) (by omega) h.bl.size
  obtain ⟨k1, k2⟩ := h.grown hV h3 h2 (by
    rcases h5 with h5 | h5
    · exact .inl h5
    · right; intro k hk; rw [h5] at hk; injection hk with hk; omega)
  have e : sesL ss ++ (seC ⟨m, y, NL, [], NL, []⟩).toList = sesL (ss ++ [⟨m, y, NL, [], NL, []⟩]) := by unfold sesL; rw [List.flatMap_append]; simp
  rw [e] at k1 k2
  obtain ⟨A', c', rfl⟩ := row_form k2
  exact ⟨A', c', w1, hrun, k1, k2⟩
/-- Which session has these lives: the first one; how many there are, if none. -/
def fnd (m y : Nat) : List Se → Nat
  | [] => 0
  | x :: t => if x.mine = m ∧ x.yours = y then 0 else fnd m y t + 1
theorem fnd_le (m y : Nat) (ss : List Se) : fnd m y ss ≤ ss.length := by
  induction ss with
  | nil => exact Nat.le_refl _
  | cons a t ih =>
    unfold fnd; split
    · exact Nat.zero_le _
    · simp; exact ih
theorem fnd_hit (m y : Nat) (ss : List Se) (x : Se) (h : ss[fnd m y ss]? = some x) : x.mine = m ∧ x.yours = y := by
  induction ss with
  | nil => simp at h
  | cons a t ih =>
    unfold fnd at h
    split at h
    · rename_i q; simp at h; subst h; exact q
    · simp at h; exact ih h
theorem fnd_miss (m y : Nat) (ss : List Se) (k : Nat) (hk : k < fnd m y ss) (x : Se) (h : ss[k]? = some x) : ¬ (x.mine = m ∧ x.yours = y) := by
  induction ss generalizing k with
  | nil => simp at h
  | cons a t ih =>
    unfold fnd at hk
    split at hk
    · omega
    · rename_i q
      cases k with
      | zero => simp at h; subst h; exact q
      | succ k => simp at h; exact ih k (by omega) h
theorem fnd_eq (m y : Nat) (ss : List Se) (k : Nat) (hk : k ≤ fnd m y ss) (x : Se) (h : ss[k]? = some x) (hx : x.mine = m ∧ x.yours = y) : fnd m y ss = k := by
  rcases Nat.lt_or_ge k (fnd m y ss) with q | q
  · exact absurd hx (fnd_miss m y ss k q x h)
  · omega
theorem fnd_step (m y : Nat) (ss : List Se) (k : Nat) (hk : k ≤ fnd m y ss) (x : Se) (h : ss[k]? = some x) (hx : ¬ (x.mine = m ∧ x.yours = y)) : k + 1 ≤ fnd m y ss := by
  rcases Nat.lt_or_ge k (fnd m y ss) with q | q
  · exact q
  · obtain rfl : k = fnd m y ss := by omega
    exact absurd (fnd_hit m y ss x h) hx
def newSe (m y : Nat) : Se := ⟨m, y, NL, [], NL, []⟩
/-- The sessions behind a look at the one that stands; its number. -/
def nowS (m y : Nat) (ss : List Se) : List Se := if y = 0 then ss else if fnd m y ss < ss.length then ss else ss ++ [newSe m y]
def nowN (m y : Nat) (ss : List Se) : Int := if y = 0 then -1 else (fnd m y ss : Int)
/-- What was handed in, in the session with these lives. -/
def insOf (m y : Nat) (ss : List Se) : List BI := match ss[fnd m y ss]? with | some x => x.ins | none => []
def insV (m y : Nat) (ss : List Se) : Value := match ss[fnd m y ss]? with | some x => x.iv | none => NL
theorem pC_t (p : PS) {i : Nat} (h : i < 2) : (pC p)[7 + i]? = some (p.t i) := by
  rcases (show i = 0 ∨ i = 1 by omega) with rfl | rfl <;> rfl
theorem pC_sett (p : PS) {i : Nat} (h : i < 2) (v : Value) : (pC p).setIfInBounds (7 + i) v = pC { p with t := upd p.t i v } := by
  rcases (show i = 0 ∨ i = 1 by omega) with rfl | rfl <;> rfl
theorem upd_self {α : Type} (f : Nat → α) (i : Nat) : upd f i (f i) = f := by
  funext j; unfold upd; split
  · rename_i h; rw [h]
  · rfl
end Go.Proofs.YtoeiaimoppmjdaaDoor.Lk
