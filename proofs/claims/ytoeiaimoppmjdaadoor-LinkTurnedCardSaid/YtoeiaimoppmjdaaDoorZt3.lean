/- Merged by merge.py out of the texts: Enc2, RegL, Say. -/
import Derived.Test.YtoeiaimoppmjdaaDoorZt2
import Derived.Test.YtoeiaimoppmjdaaDoorProg
import Derived.OrdersHeld
import Derived.RegionTactic
import Derived.Deep.RegionWith
/- Contract: EncodeFrame. -/
namespace Go.Proofs.YtoeiaimoppmjdaaDoor.Lk
open Go.RowKit Go.Proofs.YtoeiaimoppmjdaaDoorW.PrintWords Go.Proofs.YtoeiaimoppmjdaaDoor.Mem Go.Proofs.YtoeiaimoppmjdaaDoor.Wr Go.Proofs.YtoeiaimoppmjdaaDoor.Bytes Go.Proofs.YtoeiaimoppmjdaaDoor.Crc
set_option linter.unusedVariables false
set_option linter.unusedSimpArgs false
/-- What lay in memory when the call began reads as it did, behind a call of a Writer made since. -/
theorem keep_reads {w W W' : World} {R : List Ent} {g : Nat} {v : Value} {xs ys : List Int} {A : Option Addr} (h : St w W (wtrE g v xs ++ R)) (hV : byV v xs) (hr : ReadsOf I 0 w A ys.length ys) (hk : KeepBut W W' g v.ownBlock) : ReadsOf I 0 W' A ys.length ys := by
  have hg := h.ge (B g #[v] 112) (List.mem_append_left _ (List.mem_cons_self ..))
  have hb : Below w.heap.size w { W' with os := w.os, tape := w.tape, output := w.output } := by
    refine ⟨rfl, rfl, rfl, Nat.le_trans h.bl.size hk.1, fun k hk2 => ?_⟩
    show W'.heap[k]? = w.heap[k]?
    refine (hk.2 k (Nat.lt_of_lt_of_le hk2 h.bl.size) (fun e => ?_) (fun e => ?_)).trans (h.bl.block k hk2)
    · have : w.heap.size ≤ g := hg
      omega
    · obtain ⟨p, hp, h1⟩ := row_in (e := 5) hV e.symm
      have := h.ge p (List.mem_append_left _ (List.mem_cons_of_mem _ hp))
      omega
  exact (hr.below hb : ReadsOf I 0 { W' with os := w.os, tape := w.tape, output := w.output } A ys.length ys)
set_option maxRecDepth 20000 in
set_option maxHeartbeats 6400000 in
/-- EncodeFrame: the bytes, in new memory. -/
theorem enc_calls (f : Frm) (A : Option Addr) (c : Nat) (w : World) (hr : ReadsOf I 0 w A f.body.length f.body) (hb : Byt f.body) :
    Calls Tryd.prog 46 #[.agg (frC f A c)] w fun e w' => ∃ v, e = .returned v ∧ byV v (encF f) ∧ St w w' (byR v (encF f)) := by
  obtain ⟨W1, hW1⟩ : ∃ W1, W1 = w.alloc (.cells (frC f A c) 69) := ⟨_, rfl⟩
  obtain ⟨bo, hbo⟩ : ∃ bo, bo = w.heap.size := ⟨_, rfl⟩
  have h1 := (St.start w).newB (frC f A c) 69
  rw [← hW1, ← hbo] at h1
  have x0 := h1.cellOf (g := bo) (cs := frC f A c) (t := 69) (by simp) 0 rfl
  have x1 := h1.cellOf (g := bo) (cs := frC f A c) (t := 69) (by simp) 1 rfl
  have x2 := h1.cellOf (g := bo) (cs := frC f A c) (t := 69) (by simp) 2 rfl
  have x3 := h1.cellOf (g := bo) (cs := frC f A c) (t := 69) (by simp) 3 rfl
  have x4 := h1.cellOf (g := bo) (cs := frC f A c) (t := 69) (by simp) 4 rfl
  have x5 := h1.cellOf (g := bo) (cs := frC f A c) (t := 69) (by simp) 5 rfl
  have x6 := h1.cellOf (g := bo) (cs := frC f A c) (t := 69) (by simp) 6 rfl
  have H1 := Lib.hid h1
  have HW1 := Lib.hid hW1
  have HBO := Lib.hid hbo
  have HR := Lib.hid hr
  have HB := Lib.hid hb
  clear h1 hW1 hbo hr hb
  obtain ⟨bf, hbf⟩ : ∃ bf, bf = fitB f := ⟨_, rfl⟩
  have CF := Lib.hid (fit_calls f A c W1)
  rw [← hbf] at CF
  have HBF := Lib.hid hbf
  clear hbf
  cases bf
  · go_enter Tryd.func46, Tryd.ntmps46
    go_wp2_with fail
    rw [← HW1.out]
    refine CF.out.mono ?_; rintro e w2 ⟨rfl, hb2⟩
    have H2 := Lib.hid (H1.out.below hb2)
    clear hb2
    go_wp2_with fail
    go_ret
    have e : encF f = [] := by unfold encF; rw [if_neg (by rw [← HBF.out]; simp)]
    rw [e]
    exact ⟨NL, rfl, byV_nil, H2.out.re (fun x => by simp only [byR_nil, cnt_nil]; omega)⟩
  · have HF := Lib.hid ((fit_iff f).1 HBF.out.symm)
    have hs0 := HF.out.f0
    have hs1 := HF.out.f1
    have hd0 := HF.out.t0
    have hd1 := HF.out.t1
    have ws : IntKind.u8.wrap f.src = f.src := IntWalk.u8_in _ (by omega)
    have wd : IntKind.u8.wrap f.dst = f.dst := IntWalk.u8_in _ (by omega)
    obtain ⟨s, hs⟩ : ∃ s : Nat, f.src = s := ⟨f.src.toNat, by omega⟩
    obtain ⟨d, hd⟩ : ∃ d : Nat, f.dst = d := ⟨f.dst.toNat, by omega⟩
    have HSS := Lib.hid hs
    have HDD := Lib.hid hd
    clear hs hd
    go_enter Tryd.func46, Tryd.ntmps46
    go_wp2_with fail
    rw [← HW1.out, ← HBO.out]
    refine CF.out.mono ?_; rintro e w2 ⟨rfl, hb2⟩
    have CN := Lib.hid (new_calls w2 w.heap.size (H1.out.below hb2).bl.size)
    have H2 := Lib.hid (H1.out.below hb2)
    clear hb2 x0 x1 x2 x3 x4 x5 x6
    go_wp2_with fail
    refine CN.out.mono ?_; rintro e w3 ⟨rfl, hwt, hb3⟩
    obtain ⟨g, hg⟩ : ∃ g, g = w2.heap.size := ⟨_, rfl⟩
    rw [← hg] at hwt ⊢
    have h3 : St w w3 (wtrE g NL [] ++ [B bo (frC f A c) 69]) := (show St w w3 (B g #[NL] 112 :: [B bo (frC f A c) 69]) from H2.out.made hb3 (by rw [hg]; exact Nat.le_refl _) hwt.blk rfl).re (fun x => by simp only [wtrE, byR_nil, cnt_append, cnt_cons, cnt_nil]; omega)
    have x0 := h3.cellOf (g := bo) (cs := frC f A c) (t := 69) (by simp) 0 rfl
    have CA := Lib.hid (wu8_calls s w3 w.heap.size g NL [] (St.wtr h3 byV_nil) h3.bl.size (by have := HSS.out; omega) (by simp))
    rw [← HSS.out] at CA
    have H3 := Lib.hid h3
    clear hg hwt hb3 h3
    go_wp2_with fail
    refine CA.out.mono ?_; rintro e w4 ⟨rfl, v4, hp4⟩
    obtain ⟨h4, hv4⟩ := St.wput H3.out byV_nil hp4
    have x1 := h4.cellOf (g := bo) (cs := frC f A c) (t := 69) (by simp) 1 rfl
    have CB := Lib.hid (wu8_calls d w4 w.heap.size g v4 _ (St.wtr h4 hv4) h4.bl.size (by have := HDD.out; omega) (by simp [fixL]))
    rw [← HDD.out] at CB
    have H4 := Lib.hid h4
    have V4 := Lib.hid hv4
    clear hp4 h4 hv4 x0
    go_wp2_with fail
    refine CB.out.mono ?_; rintro e w5 ⟨rfl, v5, hp5⟩
    obtain ⟨h5, hv5⟩ := St.wput H4.out V4.out hp5
    have e5 : [] ++ fixL s 1 ++ fixL d 1 = [f.src, f.dst] := by
      have q1 := HSS.out; have q2 := HDD.out
      rw [q1, q2]; simp [fixL]; omega
    rw [e5] at h5 hv5
    have y2 := h5.cellOf (g := bo) (cs := frC f A c) (t := 69) (by simp) 2 rfl
    have y3 := h5.cellOf (g := bo) (cs := frC f A c) (t := 69) (by simp) 3 rfl
    have y4 := h5.cellOf (g := bo) (cs := frC f A c) (t := 69) (by simp) 4 rfl
    have y5 := h5.cellOf (g := bo) (cs := frC f A c) (t := 69) (by simp) 5 rfl
    obtain ⟨W6, hW6⟩ : ∃ W6, W6 = w5.alloc (.cells #[.int .u64 (f.mine : Int), .int .u64 (f.yours : Int), .int .u64 (f.seq : Int), .int .u64 (f.ack : Int)] 37) := ⟨_, rfl⟩
    obtain ⟨bl, hbl⟩ : ∃ bl, bl = w5.heap.size := ⟨_, rfl⟩
    have h6 := h5.newB #[.int .u64 (f.mine : Int), .int .u64 (f.yours : Int), .int .u64 (f.seq : Int), .int .u64 (f.ack : Int)] 37
    rw [← hW6, ← hbl] at h6
    have h6' : St w W6 (wtrE g v5 ([f.src, f.dst] ++ ((nums f).take 0).flatMap vr) ++ [B bl #[.int .u64 (f.mine : Int), .int .u64 (f.yours : Int), .int .u64 (f.seq : Int), .int .u64 (f.ack : Int)] 37, B bo (frC f A c) 69]) := h6.re (fun x => by simp only [List.take_zero, List.flatMap_nil, List.append_nil, cnt_append, cnt_cons, cnt_nil]; omega)
    have H6 := Lib.hid h6'
    have V5 := Lib.hid hv5
    have HW6 := Lib.hid hW6
    have HBL := Lib.hid hbl
    clear hp5 h5 hv5 h6 h6' hW6 hbl e5 x1
    go_wp2_with fail
    rw [← HBL.out, ← HW6.out]
    go_loopg [30] 4 (fun gk s30 wr => ∃ (k : Nat) (v : Value), gk = 4 - k ∧ k ≤ 4 ∧ s30 = .int .i64 k ∧ byV v ([f.src, f.dst] ++ ((nums f).take k).flatMap vr) ∧ St w wr (wtrE g v ([f.src, f.dst] ++ ((nums f).take k).flatMap vr) ++ [B bl #[.int .u64 (f.mine : Int), .int .u64 (f.yours : Int), .int .u64 (f.seq : Int), .int .u64 (f.ack : Int)] 37, B bo (frC f A c) 69]))
    case atStart => exact ⟨0, v5, rfl, by omega, rfl, by simpa using V5.out, H6.out⟩
    case round =>
      obtain ⟨k, v, hgk, hk, rfl, hv, hs⟩ := hrel
      have HGK := Lib.hid hgk
      have VV := Lib.hid hv
      have HS := Lib.hid hs
      clear hgk hv hs
      by_cases hlt : k < 4
      · obtain ⟨n, hn⟩ : ∃ n, (nums f)[k]? = some n := ⟨(nums f)[k]'(by rw [nums_len]; exact hlt), List.getElem?_eq_getElem _⟩
        have hcell : (#[.int .u64 (f.mine : Int), .int .u64 (f.yours : Int), .int .u64 (f.seq : Int), .int .u64 (f.ack : Int)] : Array Value)[k]? = some (.int .u64 (n : Int)) := by
          have e : k = 0 ∨ k = 1 ∨ k = 2 ∨ k = 3 := by omega
          rcases e with rfl | rfl | rfl | rfl <;> (simp [nums] at hn; subst hn; rfl)
        have hn64 : n < 18446744073709551616 := by
          have := HF.out.m1; have := HF.out.y; have := HF.out.s; have := HF.out.a
          have e : k = 0 ∨ k = 1 ∨ k = 2 ∨ k = 3 := by omega
          rcases e with rfl | rfl | rfl | rfl <;> (simp [nums] at hn; omega)
        have z := HS.out.cellOf (g := bl) (cs := #[.int .u64 (f.mine : Int), .int .u64 (f.yours : Int), .int .u64 (f.seq : Int), .int .u64 (f.ack : Int)]) (t := 37) (by simp) k hcell
        have hln := vrs_len f HF.out k
        have CV := Lib.hid (wvar_calls n wr w.heap.size g v _ (St.wtr HS.out VV.out) HS.out.bl.size hn64 (by simp only [List.length_append, List.length_cons, List.length_nil]; omega))
        have et : [f.src, f.dst] ++ ((nums f).take k).flatMap vr ++ vr n = [f.src, f.dst] ++ ((nums f).take (k + 1)).flatMap vr := by
          rw [List.take_add_one, hn]; simp
        have ET := Lib.hid et
        have i1 : (k : Int) < 4 := by omega
        have i2 : (0 : Int) ≤ (k : Int) := by omega
        clear hn hcell hn64 hln et
        go_wp2_with fail
        refine CV.out.mono ?_; rintro e w7 ⟨rfl, v7, hp7⟩
        obtain ⟨h7, hv7⟩ := St.wput HS.out VV.out hp7
        rw [ET.out] at h7 hv7
        have H7 := Lib.hid h7
        have V7 := Lib.hid hv7
        clear hp7 h7 hv7 z
        go_wp2_with fail
        go_roundg (4 - (k + 1))
        case measure => have := HGK.out; omega
        case rel => exact ⟨k + 1, v7, rfl, by omega, by go_num, V7.out, H7.out⟩
      · have hk4 : k = 4 := by omega
        subst hk4
        have e4 : (nums f).take 4 = nums f := rfl
        have hs := HS.out
        have hv := VV.out
        rw [e4] at hs hv
        have z6 := hs.cellOf (g := bo) (cs := frC f A c) (t := 69) (by simp) 6 rfl
        have hln := vrs_len f HF.out 4
        rw [e4] at hln
        have hbl := HF.out.b
        have hbd : ReadsOf I 0 w A f.body.length f.body := HR.out
        have CB := Lib.hid (wbytes_calls f.body A c wr w.heap.size g v _ (St.wtr hs hv) hs.bl.size (fun w' hk => keep_reads hs hv hbd hk) (by simp only [List.length_append, List.length_cons, List.length_nil]; omega))
        have HS4 := Lib.hid hs
        have V4' := Lib.hid hv
        have i1 : ¬ (4 : Int) < 4 := by omega
        clear hs hv hln hbl hbd e4
        go_wp2_with fail
        refine CB.out.mono ?_; rintro e w7 ⟨rfl, v7, hp7⟩
        obtain ⟨h7, hv7⟩ := St.wput HS4.out V4'.out hp7
        have ea : [f.src, f.dst] ++ (nums f).flatMap vr ++ (vr f.body.length ++ f.body) = ahead f := rfl
        rw [ea] at h7 hv7
        have hal := ahead_len f HF.out
        have hab := ahead_byt f HF.out HB.out
        have CO := Lib.hid (out_calls w7 w.heap.size w7.heap.size g v7 (ahead f) (St.wtr h7 hv7) (Nat.le_refl _) (by omega))
        have H7 := Lib.hid h7
        have V7 := Lib.hid hv7
        have HAL := Lib.hid hal
        have HAB := Lib.hid hab
        clear hp7 h7 hv7 ea hal hab z6
        go_wp2_with fail
        refine CO.out.mono ?_; rintro e w8 ⟨v8, rfl, ho8, hb8⟩
        obtain ⟨h8, hv8⟩ := H7.out.fresh hb8 ho8
        obtain ⟨A8, c8, rfl⟩ := byV_form hv8
        have CS := Lib.hid (sum_reads (ahead f) A8 c8 w8 (by_reads h8 (fun x => by simp only [byR, cnt_append]; omega) hv8) HAB.out)
        have H8 := Lib.hid (h8.re (M := wtrE g v7 (ahead f) ++ [B bo (frC f A c) 69]) (fun x => by simp only [cnt_append, cnt_cons, cnt_nil]; omega))
        clear hb8 ho8 h8 hv8
        go_wp2_with fail
        refine CS.out.mono ?_; rintro e w9 ⟨rfl, hb9⟩
        have h9 := H8.out.below hb9
        have CU := Lib.hid (wu32_calls (crc (ahead f)).toNat w9 w.heap.size g v7 (ahead f) (St.wtr h9 V7.out) h9.bl.size (crc (ahead f)).isLt (by have := HAL.out; omega))
        have H9 := Lib.hid h9
        clear hb9 h9
        go_wp2_with fail
        refine CU.out.mono ?_; rintro e wa ⟨rfl, va, hpa⟩
        obtain ⟨ha, hva⟩ := St.wput H9.out V7.out hpa
        have ee : ahead f ++ fixL (crc (ahead f)).toNat 4 = encF f := by unfold encF; rw [if_pos HBF.out.symm]
        have hel : (encF f).length ≤ 2104 := by rw [← ee]; have := HAL.out; simp [fixL_length]; omega
        rw [ee] at ha hva
        have CO2 := Lib.hid (out_calls wa w.heap.size wa.heap.size g va (encF f) (St.wtr ha hva) (Nat.le_refl _) (by omega))
        have HA := Lib.hid ha
        clear hpa ha hva ee hel
        go_wp2_with fail
        refine CO2.out.mono ?_; rintro e wb ⟨vb, rfl, hob, hbb⟩
        obtain ⟨hfin, hvb⟩ := HA.out.fresh hbb hob
        obtain ⟨Ab, cb, rfl⟩ := byV_form hvb
        have HFIN := Lib.hid hfin
        have HVB := Lib.hid hvb
        clear hbb hob hfin hvb
        go_wp2_with fail
        go_ret
        exact ⟨.slice Ab (encF f).length cb, rfl, HVB.out, HFIN.out.re (fun x => by simp only [byR, cnt_append]; omega)⟩
end Go.Proofs.YtoeiaimoppmjdaaDoor.Lk
/- A region that draws its order, in which a cell is loaded that the region itself stores into at its end: the condition on the world may fall when a named operation (which waits for that load) has come up. -/
namespace Go.Proofs.YtoeiaimoppmjdaaDoor.RegL
open Go
section
variable {P : Program} {ops : Array Oper} {Q : Exit → Act → World → Prop} {md : Region.Mode} {S : Bool → World → Prop} {k : Nat}
/-- Whatever order is picked from here on; behind each operation S holds of the world, its flag telling whether number k has come up. -/
def anyL (P : Program) (md : Region.Mode) (ops : Array Oper) (Q : Exit → Act → World → Prop) (S : Bool → World → Prop) (k : Nat) : Nat → Array Bool → Act → World → Prop
  | 0, listed, a, w => Region.ready md ops listed = [] ∧ Q .normal a w
  | n + 1, listed, a, w => (Region.ready md ops listed = [] → Q .normal a w) ∧
      ∀ i ∈ Region.ready md ops listed, wpOp P ops Q i (fun a' w' => S ((listed.setIfInBounds i true).getD k true) w' ∧ anyL P md ops Q S k n (listed.setIfInBounds i true) a' w') a w
theorem any_of : ∀ (n : Nat) (listed : Array Bool) (a : Act) (w : World), anyL P md ops Q S k n listed a w → wpAny P md ops Q n listed a w
  | 0, _, _, _, h => h
  | n + 1, _, _, _, h => ⟨h.1, fun i hi => wpOp_mono (fun a' w' q => any_of n _ a' w' q.2) (h.2 i hi)⟩
theorem first_of {i : Nat} {oi : Oper} {v : Value} {T : World → Prop} {G : Array Bool → Prop} (hi : ops[i]? = some oi) (hsel : ∀ (j : Nat) (o : Oper) cs b, ops[j]? = some o → o.op ≠ .select cs b)
    (hQ : ∀ c a w, Q (.panic c) (a.put oi.dst v) w → Q (.panic c) a w) (hik : i ≠ k)
    (hT : ∀ (listed : Array Bool) (j : Nat) (w' : World), i ∈ Region.ready md ops listed → j ∈ Region.ready md ops listed → j ≠ i → G listed → S ((listed.setIfInBounds j true).getD k true) w' → T w' ∧ G (listed.setIfInBounds j true)) :
    ∀ (n : Nat) (listed : Array Bool) (a : Act) (w : World),
      (∀ j oj, ops[j]? = some oj → j ≠ i → listed.getD j true = false → (∀ e ∈ oj.after, Region.binds md e = true → e.on ≠ i) → oi.apart ops oj = true) →
      i ∈ Region.ready md ops listed → G listed → YieldsIf P ops T oi v a → T w → S (listed.getD k true) w →
      anyL P md ops Q S k n (listed.setIfInBounds i true) (a.put oi.dst v) w → anyL P md ops Q S k (n + 1) listed a w := by
  intro n
  induction n with
  | zero =>
    intro listed a w _ hr _ hy hTw hS H
    refine ⟨fun h => (by rw [h] at hr; cases hr), fun j hj => ?_⟩
    by_cases hji : j = i
    · subst hji
      exact hy.wpOp hi hTw ⟨by rw [getD_set_ne true hik]; exact hS, H⟩
    · have := ready_mono hj hji
      rw [H.1] at this
      cases this
  | succ n ih =>
    intro listed a w hfree hr hG hy hTw hS H
    refine ⟨fun h => (by rw [h] at hr; cases hr), fun j hj => ?_⟩
    by_cases hji : j = i
    · subst hji
      exact hy.wpOp hi hTw ⟨by rw [getD_set_ne true hik]; exact hS, H⟩
    · have h1 := H.2 j (ready_mono hj hji)
      obtain ⟨hjun, oj, hoj, hall⟩ := mem_ready.1 hj
      have hnot : ∀ e ∈ oj.after, Region.binds md e = true → e.on ≠ i := by
        intro e he hb heq
        have q1 := hall e he hb
        have q0 := (mem_ready.1 hr).1
        rw [heq] at q1
        rcases Nat.lt_or_ge i listed.size with h' | h'
        · simp [h'] at q0 q1; rw [q0] at q1; cases q1
        · simp [Array.getElem?_eq_none h'] at q1
      have h2 := wpOp_putIf hoj (hfree j oj hoj hji hjun hnot) (fun cs b => hsel i oi cs b hi) (fun cs b => hsel j oj cs b hoj) hQ hy h1
      refine wpOp_mono (fun a' w' h3 => ?_) h2
      have e1 : ((listed.setIfInBounds i true).setIfInBounds j true).getD k true = (listed.setIfInBounds j true).getD k true := by
        rw [Array.setIfInBounds_comm _ _ (Ne.symm hji), getD_set_ne true hik]
      have hS' : S ((listed.setIfInBounds j true).getD k true) w' := by rw [← e1]; exact h3.2.1
      obtain ⟨hT', hG'⟩ := hT listed j w' hr hj hji hG hS'
      refine ⟨hS', ih (listed.setIfInBounds j true) a' w' (fun q oq hq hqi hun hno => ?_) (ready_mono hr (Ne.symm hji)) hG' h3.1 hT' hS' ?_⟩
      · refine hfree q oq hq hqi ?_ hno
        by_cases hjq : j = q
        · subst hjq; exact hjun
        · rw [getD_set_ne true hjq] at hun; exact hun
      · rw [Array.setIfInBounds_comm _ _ hji]
        exact h3.2.2
/-- A load of a cell that nobody in the region writes. -/
theorem take_w {i : Nat} {oi : Oper} {v : Value} {n : Nat} {listed : Array Bool} {a : Act} {w : World} (hm : ∀ b w, S b w → S true w) (hi : ops[i]? = some oi) (hik : i ≠ k)
    (hs : Region.noSelect ops = true) (hf : Region.free md ops listed i = true) (hr : (Region.ready md ops listed).contains i = true)
    (hQ : ∀ c a w, Q (.panic c) (a.put oi.dst v) w → Q (.panic c) a w) (hy : YieldsIf P ops (S true) oi v a) (hS : S (listed.getD k true) w)
    (h : anyL P md ops Q S k n (listed.setIfInBounds i true) (a.put oi.dst v) w) : anyL P md ops Q S k (n + 1) listed a w :=
  first_of (T := S true) (G := fun _ => True) hi (Region.noSelect_spec hs) hQ hik (fun _ _ w' _ _ _ _ q => ⟨hm _ _ q, trivial⟩) n listed a w (Region.free_spec hi hf) (by simpa using hr) trivial hy (hm _ _ hS) hS h
/-- A load of the cell that is stored into behind number k, which waits for it. -/
theorem take_s {i : Nat} {oi ok : Oper} {v : Value} {n : Nat} {listed : Array Bool} {a : Act} {w : World} (hi : ops[i]? = some oi) (hik : i ≠ k) (hok : ops[k]? = some ok) (hw : (ok.after.any fun e => Region.binds md e && e.on == i) = true)
    (hs : Region.noSelect ops = true) (hf : Region.free md ops listed i = true) (hr : (Region.ready md ops listed).contains i = true) (hk : listed.getD k true = false)
    (hQ : ∀ c a w, Q (.panic c) (a.put oi.dst v) w → Q (.panic c) a w) (hy : YieldsIf P ops (S false) oi v a) (hS : S false w)
    (h : anyL P md ops Q S k n (listed.setIfInBounds i true) (a.put oi.dst v) w) : anyL P md ops Q S k (n + 1) listed a w := by
  refine first_of (T := S false) (G := fun l => l.getD k true = false) hi (Region.noSelect_spec hs) hQ hik (fun l j w' hir hjr hji hG q => ?_) n listed a w (Region.free_spec hi hf) (by simpa using hr) hk hy hS (by rw [hk]; exact hS) h
  have hjk : j ≠ k := by
    rintro rfl
    obtain ⟨_, oj, hoj, hall⟩ := mem_ready.1 hjr
    rw [hok] at hoj
    injection hoj with hoj
    subst hoj
    rw [Array.any_eq_true] at hw
    obtain ⟨x, hx, hb⟩ := hw
    simp only [Bool.and_eq_true, beq_iff_eq] at hb
    have q1 := hall ok.after[x] (Array.getElem_mem hx) hb.1
    have q0 := (mem_ready.1 hir).1
    rw [hb.2] at q1
    rcases Nat.lt_or_ge i l.size with h' | h'
    · simp [h'] at q0 q1; rw [q0] at q1; cases q1
    · simp [Array.getElem?_eq_none h'] at q1
  have e : (l.setIfInBounds j true).getD k true = false := by rw [getD_set_ne true hjk]; exact hG
  rw [e] at q
  exact ⟨q, e⟩
theorem all_of {rs : List Nat} {n : Nat} {listed : Array Bool} {a : Act} {w : World} (hr : Region.ready md ops listed = rs) (hne : rs ≠ [])
    (h : ∀ i ∈ rs, wpOp P ops Q i (fun a' w' => S ((listed.setIfInBounds i true).getD k true) w' ∧ anyL P md ops Q S k n (listed.setIfInBounds i true) a' w') a w) : anyL P md ops Q S k (n + 1) listed a w :=
  ⟨fun h0 => absurd (hr ▸ h0) hne, hr ▸ h⟩
theorem done_of {listed : Array Bool} {a : Act} {w : World} (hr : Region.ready md ops listed = []) (h : Q .normal a w) : ∀ n, anyL P md ops Q S k n listed a w
  | 0 => ⟨hr, h⟩
  | _ + 1 => ⟨fun _ => h, by rw [hr]; simp⟩
/-- One that alone may come up: it is carried out; S behind it. -/
theorem step_of {i n : Nat} {o : Oper} {listed : Array Bool} {a : Act} {w : World} (hr : Region.ready md ops listed = [i]) (ho : ops[i]? = some o)
    (h : ∀ K' : Act → World → Prop, (∀ a' w', S ((listed.setIfInBounds i true).getD k true) w' → anyL P md ops Q S k n (listed.setIfInBounds i true) a' w' → K' a' w') → if Region.wanted o (yielded ops a.tmps) = true then Oper.wp P o a w K' Q else K' (a.put o.dst undef) w) :
    anyL P md ops Q S k (n + 1) listed a w :=
  all_of hr (by simp) (fun j hj => by
    obtain rfl := List.mem_singleton.1 hj
    exact wpOp_step ho (fun K' hK => h K' (fun a' w' q1 q2 => hK a' w' ⟨q1, q2⟩)))
theorem begin_of {id : Nat} {a : Act} {w : World} (hm : P.follows .mixedOrders = true) (h : anyL P .any ops Q S k ops.size (Array.replicate ops.size false) a w.drew) : (Code.region id ops true).wp P Q a w :=
  wp_region_any hm (any_of _ _ _ _ h)
end
end Go.Proofs.YtoeiaimoppmjdaaDoor.RegL
/- What a tick says: the literal within Tick. -/
namespace Go.Proofs.YtoeiaimoppmjdaaDoor.Lk
open Go.RowKit Go.Proofs.YtoeiaimoppmjdaaDoorW.PrintWords Go.Proofs.YtoeiaimoppmjdaaDoor.Mem Go.Proofs.YtoeiaimoppmjdaaDoor.Wr Go.Proofs.YtoeiaimoppmjdaaDoor.Bytes Go.Proofs.YtoeiaimoppmjdaaDoor.App
open Go.Proofs.YtoeiaimoppmjdaaDoor.Pace (nxt IsO)
set_option linter.unusedVariables false
set_option linter.unusedSimpArgs false
/-- What goes out: a row of lists of bytes, each in memory of its own. -/
def outE (v : Value) (l : List BI) : List Ent := rowE v 22 1 l.length (l.map fun i => i.1) ++ l.flatMap fun i => byR i.1 i.2
structure OutV (v : Value) (l : List BI) : Prop where
  row : rowV v 1 l.length (l.map fun i => i.1)
  by_ : ∀ i, i ∈ l → byV i.1 i.2
theorem outV_nil : OutV NL [] := ⟨rowV_nil 1, fun i h => (by cases h)⟩
theorem row_form {v : Value} {s n : Nat} {xs : List Value} (h : rowV v s n xs) : ∃ A c, v = .slice A n c := by
  rcases h.2 with ⟨rfl, h0⟩ | ⟨g, c, rfl, _⟩
  · exact ⟨none, 0, by rw [h0]⟩
  · exact ⟨_, _, rfl⟩
abbrev frm (s : LS) (n : Nat) (ys : List Int) : Frm := ⟨s.me, s.other, s.life, s.known, n, s.heard, ys⟩
/-- The cells that Tick's literal reads. -/
def SayL (g bl : Nat) (s : LS) (w9 : World) : Prop := w9.cell? ⟨bl, 0, none⟩ = some (pt g) ∧ w9.cell? ⟨g, 0, none⟩ = some (.int .i64 s.me) ∧ w9.cell? ⟨g, 1, none⟩ = some (.int .i64 s.other) ∧ w9.cell? ⟨g, 2, none⟩ = some (.int .u64 (s.life : Int)) ∧ w9.cell? ⟨g, 3, none⟩ = some (.int .u64 (s.known : Int)) ∧ w9.cell? ⟨g, 8, none⟩ = some (.int .u64 (s.heard : Int))
def SayS (g bo bl : Nat) (s : LS) (ov : Value) (b : Bool) (w9 : World) : Prop := SayL g bl s w9 ∧ (b = false → w9.cell? ⟨bo, 0, none⟩ = some ov)
set_option maxRecDepth 20000 in
set_option maxHeartbeats 6400000 in
theorem say_calls (w0 W : World) (R : List Ent) (g bo bl : Nat) (s : LS) (ov : Value) (l : List BI) (n : Nat) (A : Option Addr) (c : Nat) (ys : List Int) (h : St w0 W (lkE g s ++ (B bo #[ov] 61 :: (B bl #[pt g] 80 :: (outE ov l ++ R))))) (hO : OutV ov l)
    (hr : ReadsOf I 0 W A ys.length ys) (hb : Byt ys) (hl : l.length ≤ 1000) :
    Calls Tryd.prog 97 #[.int .u64 (n : Int), .slice A ys.length c, .pointer (some ⟨bo, 0, none⟩), .pointer (some ⟨bl, 0, none⟩)] W fun e w' => e = .returned (.tuple #[]) ∧ ∃ ov' v, OutV ov' (l ++ [(v, encF (frm s n ys))]) ∧ St w0 w' (lkE g s ++ (B bo #[ov'] 61 :: (B bl #[pt g] 80 :: (outE ov' (l ++ [(v, encF (frm s n ys))]) ++ R)))) := by
  have x2 := h.cellOf (g := bo) (cs := #[ov]) (t := 61) (by simp) 0 rfl
  have x3 := h.cellOf (g := bl) (cs := #[pt g]) (t := 80) (by simp) 0 rfl
  have c0 : W.cell? ⟨g, 0, none⟩ = some (.int .i64 s.me) := lk_cell h 0 rfl
  have c1 : W.cell? ⟨g, 1, none⟩ = some (.int .i64 s.other) := lk_cell h 1 rfl
  have c2 : W.cell? ⟨g, 2, none⟩ = some (.int .u64 (s.life : Int)) := lk_cell h 2 rfl
  have c3 : W.cell? ⟨g, 3, none⟩ = some (.int .u64 (s.known : Int)) := lk_cell h 3 rfl
  have c8 : W.cell? ⟨g, 8, none⟩ = some (.int .u64 (s.heard : Int)) := lk_cell h 8 rfl
  obtain ⟨Ao, co, rfl⟩ := row_form hO.row
  have CE : Hid (Calls Tryd.prog 46 #[.agg #[.int .i64 s.me, .int .i64 s.other, .int .u64 (s.life : Int), .int .u64 (s.known : Int), .int .u64 (n : Int), .int .u64 (s.heard : Int), .slice A ys.length c]] W.drew fun e w' => ∃ v, e = .returned v ∧ byV v (encF (frm s n ys)) ∧ St W.drew w' (byR v (encF (frm s n ys)))) := enc_calls (frm s n ys) A c W.drew (hr.below (Below.refl _ _).drew) hb
  have H := Lib.hid h
  have HO := Lib.hid hO
  have HL := Lib.hid hl
  clear h hO hr hb hl
  go_enter Tryd.func97, Tryd.ntmps97
  go_wp2_with fail
  have SM : ∀ b w9, SayS g bo bl s (.slice Ao l.length co) b w9 → SayS g bo bl s (.slice Ao l.length co) true w9 := fun b w9 h => ⟨h.1, fun e => by cases e⟩
  have SK : Hid (∀ (w9 : World) (L : List Ent), St w0 w9 L → B g (lkC s) 128 ∈ L → B bl #[pt g] 80 ∈ L → SayL g bl s w9) := fun w9 L h hm hn =>
    ⟨h.cellOf hn 0 rfl, h.cellOf hm 0 rfl, h.cellOf hm 1 rfl, h.cellOf hm 2 rfl, h.cellOf hm 3 rfl, h.cellOf hm 8 rfl⟩
  have HALL : Hid (∀ b, SayS g bo bl s (.slice Ao l.length co) b W.drew) := fun b => ⟨SK.out _ _ H.out.drew (by simp [lkE]) (by simp), fun _ => x2⟩
  clear x2 x3 c0 c1 c2 c3 c8
  refine RegL.begin_of (k := 26) (S := SayS g bo bl s (.slice Ao l.length co)) (by kernel_rfl) ?_
  refine RegL.take_s (i := 0) (v := ?_) rfl (by decide) rfl (by kernel_rfl) (by kernel_rfl) (by kernel_rfl) (by kernel_rfl) (by kernel_rfl) (fun _ _ _ h => h) (Or.inl ⟨by rfl, ?_⟩) (HALL.out _) ?_
  rotate_left
  · intro w9 hw9; obtain ⟨⟨q1, q2, q3, q4, q5, q6⟩, q7⟩ := hw9; replace q7 := q7 rfl; go_simp; try with_reducible rfl
  try simp only [Act.put, List.setIfInBounds_toArray, List.set_cons_zero, List.set_cons_succ]
  refine RegL.take_w (i := 1) (v := ?_) SM rfl (by decide) (by kernel_rfl) (by kernel_rfl) (by kernel_rfl) (fun _ _ _ h => h) (Or.inl ⟨by rfl, ?_⟩) (HALL.out _) ?_
  rotate_left
  · intro w9 hw9; obtain ⟨⟨q1, q2, q3, q4, q5, q6⟩, q7⟩ := hw9; clear q7; go_simp; try with_reducible rfl
  try simp only [Act.put, List.setIfInBounds_toArray, List.set_cons_zero, List.set_cons_succ]
  refine RegL.take_w (i := 2) (v := ?_) SM rfl (by decide) (by kernel_rfl) (by kernel_rfl) (by kernel_rfl) (fun _ _ _ h => h) (Or.inl ⟨by rfl, ?_⟩) (HALL.out _) ?_
  rotate_left
  · intro w9 hw9; obtain ⟨⟨q1, q2, q3, q4, q5, q6⟩, q7⟩ := hw9; clear q7; go_simp; try with_reducible rfl
  try simp only [Act.put, List.setIfInBounds_toArray, List.set_cons_zero, List.set_cons_succ]
  refine RegL.take_w (i := 3) (v := ?_) SM rfl (by decide) (by kernel_rfl) (by kernel_rfl) (by kernel_rfl) (fun _ _ _ h => h) (Or.inl ⟨by rfl, ?_⟩) (HALL.out _) ?_
  rotate_left
  · intro w9 hw9; obtain ⟨⟨q1, q2, q3, q4, q5, q6⟩, q7⟩ := hw9; clear q7; go_simp; try with_reducible rfl
  try simp only [Act.put, List.setIfInBounds_toArray, List.set_cons_zero, List.set_cons_succ]
  refine RegL.take_w (i := 4) (v := ?_) SM rfl (by decide) (by kernel_rfl) (by kernel_rfl) (by kernel_rfl) (fun _ _ _ h => h) (Or.inl ⟨by rfl, ?_⟩) (HALL.out _) ?_
  rotate_left
  · intro w9 hw9; obtain ⟨⟨q1, q2, q3, q4, q5, q6⟩, q7⟩ := hw9; clear q7; go_simp; try with_reducible rfl
  try simp only [Act.put, List.setIfInBounds_toArray, List.set_cons_zero, List.set_cons_succ]
  refine RegL.take_w (i := 5) (v := ?_) SM rfl (by decide) (by kernel_rfl) (by kernel_rfl) (by kernel_rfl) (fun _ _ _ h => h) (Or.inl ⟨by rfl, ?_⟩) (HALL.out _) ?_
  rotate_left
  · intro w9 hw9; obtain ⟨⟨q1, q2, q3, q4, q5, q6⟩, q7⟩ := hw9; clear q7; go_simp; try with_reducible rfl
  try simp only [Act.put, List.setIfInBounds_toArray, List.set_cons_zero, List.set_cons_succ]
  refine RegL.take_w (i := 6) (v := ?_) SM rfl (by decide) (by kernel_rfl) (by kernel_rfl) (by kernel_rfl) (fun _ _ _ h => h) (Or.inl ⟨by rfl, ?_⟩) (HALL.out _) ?_
  rotate_left
  · intro w9 hw9; obtain ⟨⟨q1, q2, q3, q4, q5, q6⟩, q7⟩ := hw9; clear q7; go_simp; try with_reducible rfl
  try simp only [Act.put, List.setIfInBounds_toArray, List.set_cons_zero, List.set_cons_succ]
  refine RegL.take_w (i := 7) (v := ?_) SM rfl (by decide) (by kernel_rfl) (by kernel_rfl) (by kernel_rfl) (fun _ _ _ h => h) (Or.inl ⟨by rfl, ?_⟩) (HALL.out _) ?_
  rotate_left
  · intro w9 hw9; obtain ⟨⟨q1, q2, q3, q4, q5, q6⟩, q7⟩ := hw9; clear q7; go_simp; try with_reducible rfl
  try simp only [Act.put, List.setIfInBounds_toArray, List.set_cons_zero, List.set_cons_succ]
  refine RegL.take_w (i := 8) (v := ?_) SM rfl (by decide) (by kernel_rfl) (by kernel_rfl) (by kernel_rfl) (fun _ _ _ h => h) (Or.inl ⟨by rfl, ?_⟩) (HALL.out _) ?_
  rotate_left
  · intro w9 hw9; obtain ⟨⟨q1, q2, q3, q4, q5, q6⟩, q7⟩ := hw9; clear q7; go_simp; try with_reducible rfl
  try simp only [Act.put, List.setIfInBounds_toArray, List.set_cons_zero, List.set_cons_succ]
  refine RegL.take_w (i := 9) (v := ?_) SM rfl (by decide) (by kernel_rfl) (by kernel_rfl) (by kernel_rfl) (fun _ _ _ h => h) (Or.inl ⟨by rfl, ?_⟩) (HALL.out _) ?_
  rotate_left
  · intro w9 hw9; obtain ⟨⟨q1, q2, q3, q4, q5, q6⟩, q7⟩ := hw9; clear q7; go_simp; try with_reducible rfl
  try simp only [Act.put, List.setIfInBounds_toArray, List.set_cons_zero, List.set_cons_succ]
  refine RegL.take_w (i := 10) (v := ?_) SM rfl (by decide) (by kernel_rfl) (by kernel_rfl) (by kernel_rfl) (fun _ _ _ h => h) (Or.inl ⟨by rfl, ?_⟩) (HALL.out _) ?_
  rotate_left
  · intro w9 hw9; obtain ⟨⟨q1, q2, q3, q4, q5, q6⟩, q7⟩ := hw9; clear q7; go_simp; try with_reducible rfl
  try simp only [Act.put, List.setIfInBounds_toArray, List.set_cons_zero, List.set_cons_succ]
  refine RegL.take_w (i := 11) (v := ?_) SM rfl (by decide) (by kernel_rfl) (by kernel_rfl) (by kernel_rfl) (fun _ _ _ h => h) (Or.inl ⟨by rfl, ?_⟩) (HALL.out _) ?_
  rotate_left
  · intro w9 hw9; obtain ⟨⟨q1, q2, q3, q4, q5, q6⟩, q7⟩ := hw9; clear q7; go_simp; try with_reducible rfl
  try simp only [Act.put, List.setIfInBounds_toArray, List.set_cons_zero, List.set_cons_succ]
  refine RegL.take_w (i := 12) (v := ?_) SM rfl (by decide) (by kernel_rfl) (by kernel_rfl) (by kernel_rfl) (fun _ _ _ h => h) (Or.inl ⟨by rfl, ?_⟩) (HALL.out _) ?_
  rotate_left
  · intro w9 hw9; obtain ⟨⟨q1, q2, q3, q4, q5, q6⟩, q7⟩ := hw9; clear q7; go_simp; try with_reducible rfl
  try simp only [Act.put, List.setIfInBounds_toArray, List.set_cons_zero, List.set_cons_succ]
  refine RegL.take_w (i := 13) (v := ?_) SM rfl (by decide) (by kernel_rfl) (by kernel_rfl) (by kernel_rfl) (fun _ _ _ h => h) (Or.inl ⟨by rfl, ?_⟩) (HALL.out _) ?_
  rotate_left
  · intro w9 hw9; obtain ⟨⟨q1, q2, q3, q4, q5, q6⟩, q7⟩ := hw9; clear q7; go_simp; try with_reducible rfl
  try simp only [Act.put, List.setIfInBounds_toArray, List.set_cons_zero, List.set_cons_succ]
  refine RegL.take_w (i := 14) (v := ?_) SM rfl (by decide) (by kernel_rfl) (by kernel_rfl) (by kernel_rfl) (fun _ _ _ h => h) (Or.inl ⟨by rfl, ?_⟩) (HALL.out _) ?_
  rotate_left
  · intro w9 hw9; obtain ⟨⟨q1, q2, q3, q4, q5, q6⟩, q7⟩ := hw9; clear q7; go_simp; try with_reducible rfl
  try simp only [Act.put, List.setIfInBounds_toArray, List.set_cons_zero, List.set_cons_succ]
  refine RegL.take_w (i := 15) (v := ?_) SM rfl (by decide) (by kernel_rfl) (by kernel_rfl) (by kernel_rfl) (fun _ _ _ h => h) (Or.inl ⟨by rfl, ?_⟩) (HALL.out _) ?_
  rotate_left
  · intro w9 hw9; obtain ⟨⟨q1, q2, q3, q4, q5, q6⟩, q7⟩ := hw9; clear q7; go_simp; try with_reducible rfl
  try simp only [Act.put, List.setIfInBounds_toArray, List.set_cons_zero, List.set_cons_succ]
  refine RegL.take_w (i := 16) (v := ?_) SM rfl (by decide) (by kernel_rfl) (by kernel_rfl) (by kernel_rfl) (fun _ _ _ h => h) (Or.inl ⟨by rfl, ?_⟩) (HALL.out _) ?_
  rotate_left
  · intro w9 hw9; obtain ⟨⟨q1, q2, q3, q4, q5, q6⟩, q7⟩ := hw9; clear q7; go_simp; try with_reducible rfl
  try simp only [Act.put, List.setIfInBounds_toArray, List.set_cons_zero, List.set_cons_succ]
  refine RegL.take_w (i := 17) (v := ?_) SM rfl (by decide) (by kernel_rfl) (by kernel_rfl) (by kernel_rfl) (fun _ _ _ h => h) (Or.inl ⟨by rfl, ?_⟩) (HALL.out _) ?_
  rotate_left
  · intro w9 hw9; obtain ⟨⟨q1, q2, q3, q4, q5, q6⟩, q7⟩ := hw9; clear q7; go_simp; try with_reducible rfl
  try simp only [Act.put, List.setIfInBounds_toArray, List.set_cons_zero, List.set_cons_succ]
  refine RegL.take_w (i := 18) (v := ?_) SM rfl (by decide) (by kernel_rfl) (by kernel_rfl) (by kernel_rfl) (fun _ _ _ h => h) (Or.inl ⟨by rfl, ?_⟩) (HALL.out _) ?_
  rotate_left
  · intro w9 hw9; obtain ⟨⟨q1, q2, q3, q4, q5, q6⟩, q7⟩ := hw9; clear q7; go_simp; try with_reducible rfl
  try simp only [Act.put, List.setIfInBounds_toArray, List.set_cons_zero, List.set_cons_succ]
  refine RegL.take_w (i := 19) (v := ?_) SM rfl (by decide) (by kernel_rfl) (by kernel_rfl) (by kernel_rfl) (fun _ _ _ h => h) (Or.inl ⟨by rfl, ?_⟩) (HALL.out _) ?_
  rotate_left
  · intro w9 hw9; obtain ⟨⟨q1, q2, q3, q4, q5, q6⟩, q7⟩ := hw9; clear q7; go_simp; try with_reducible rfl
  try simp only [Act.put, List.setIfInBounds_toArray, List.set_cons_zero, List.set_cons_succ]
  refine RegL.take_w (i := 20) (v := ?_) SM rfl (by decide) (by kernel_rfl) (by kernel_rfl) (by kernel_rfl) (fun _ _ _ h => h) (Or.inl ⟨by rfl, ?_⟩) (HALL.out _) ?_
  rotate_left
  · intro w9 hw9; obtain ⟨⟨q1, q2, q3, q4, q5, q6⟩, q7⟩ := hw9; clear q7; go_simp; try with_reducible rfl
  try simp only [Act.put, List.setIfInBounds_toArray, List.set_cons_zero, List.set_cons_succ]
  refine RegL.take_w (i := 21) (v := ?_) SM rfl (by decide) (by kernel_rfl) (by kernel_rfl) (by kernel_rfl) (fun _ _ _ h => h) (Or.inl ⟨by rfl, ?_⟩) (HALL.out _) ?_
  rotate_left
  · intro w9 hw9; obtain ⟨⟨q1, q2, q3, q4, q5, q6⟩, q7⟩ := hw9; clear q7; go_simp; try with_reducible rfl
  try simp only [Act.put, List.setIfInBounds_toArray, List.set_cons_zero, List.set_cons_succ]
  refine RegL.take_w (i := 22) (v := ?_) SM rfl (by decide) (by kernel_rfl) (by kernel_rfl) (by kernel_rfl) (fun _ _ _ h => h) (Or.inl ⟨by rfl, ?_⟩) (HALL.out _) ?_
  rotate_left
  · intro w9 hw9; obtain ⟨⟨q1, q2, q3, q4, q5, q6⟩, q7⟩ := hw9; clear q7; go_simp; try with_reducible rfl
  try simp only [Act.put, List.setIfInBounds_toArray, List.set_cons_zero, List.set_cons_succ]
  refine RegL.take_w (i := 23) (v := ?_) SM rfl (by decide) (by kernel_rfl) (by kernel_rfl) (by kernel_rfl) (fun _ _ _ h => h) (Or.inl ⟨by rfl, ?_⟩) (HALL.out _) ?_
  rotate_left
  · intro w9 hw9; obtain ⟨⟨q1, q2, q3, q4, q5, q6⟩, q7⟩ := hw9; clear q7; go_simp; try with_reducible rfl
  try simp only [Act.put, List.setIfInBounds_toArray, List.set_cons_zero, List.set_cons_succ]
  refine RegL.step_of (i := 24) (by kernel_rfl) rfl (fun K' hK => ?_)
  go_simp
  go_at_call 46
  (with_reducible refine CE.out.mono ?_)
  rintro e w1 ⟨v, rfl, hv, hs⟩
  obtain ⟨Av, cv, rfl⟩ := byV_form hv
  have h1 := St.lift H.out.drew hs
  have x2' := h1.cellOf (g := bo) (cs := #[.slice Ao l.length co]) (t := 61) (by simp) 0 rfl
  have h2 := h1.newB #[.slice Av (encF (frm s n ys)).length cv] 22
  have x2'' := h2.cellOf (g := bo) (cs := #[.slice Ao l.length co]) (t := 61) (by simp) 0 rfl
  obtain ⟨v3, W3, hrun, h3, hv3⟩ := row_append (P := Tryd.prog) (h2.re (M := rowE (.slice Ao l.length co) 22 1 l.length (l.map fun i => i.1) ++ (byR (.slice Av (encF (frm s n ys)).length cv) (encF (frm s n ys)) ++ (lkE g s ++ (B bo #[.slice Ao l.length co] 61 :: (B bl #[pt g] 80 :: ((l.flatMap fun i => byR i.1 i.2) ++ R)))))) (fun x => by simp only [outE, cnt_append, cnt_cons]; omega)) HO.out.row 61 61 (.slice none 0 0) 24 Tryd.underlying61 infoL rfl (by have := HL.out; omega) (by have := HL.out; omega) ⟨w1.heap.size, 0, none⟩ 1 (.slice Av (encF (frm s n ys)).length cv) (blk_cell h2.hd 0) rfl
  obtain ⟨A3, c3', rfl⟩ := row_form hv3
  have y2 := h3.cellOf (g := bo) (cs := #[.slice Ao l.length co]) (t := 61) (by simp) 0 rfl
  have f2 := h3.freeOf (g := bo) (cs := #[.slice Ao l.length co]) (t := 61) (by simp) 0
  have H4 := Lib.hid ((h3.re (M := B bo #[.slice Ao l.length co] 61 :: (rowE (.slice A3 (l.length + 1) c3') 22 1 (l.length + 1) ((l.map fun i => i.1) ++ [.slice Av (encF (frm s n ys)).length cv]) ++ (byR (.slice Av (encF (frm s n ys)).length cv) (encF (frm s n ys)) ++ (lkE g s ++ (B bl #[pt g] 80 :: ((l.flatMap fun i => byR i.1 i.2) ++ R)))))) (fun x => by simp only [cnt_append, cnt_cons]; omega)).put (cs' := #[.slice A3 (l.length + 1) c3']) 0 (.slice A3 (l.length + 1) c3') rfl)
  have HRUN := Lib.hid hrun
  have H1 := Lib.hid h1
  have H2 := Lib.hid h2
  have H3 := Lib.hid h3
  have V3 := Lib.hid hv3
  have VV := Lib.hid hv
  clear hrun h3 hv3 hv hs h1 h2
  have M1 : SayL g bl s w1 := SK.out _ _ H1.out (by simp [lkE]) (by simp)
  have M2 : SayL g bl s (w1.alloc (.cells #[.slice Av (encF (frm s n ys)).length cv] 22)) := SK.out _ _ H2.out (by simp [lkE]) (by simp)
  have M3 : SayL g bl s W3 := SK.out _ _ H3.out (by simp [lkE]) (by simp)
  have M4 : SayL g bl s (W3.setCell ⟨bo, 0, none⟩ (.slice A3 (l.length + 1) c3')) := SK.out _ _ H4.out (by simp [lkE]) (by simp)
  refine hK _ _ ⟨M1, fun _ => x2'⟩ ?_
  clear hK K'
  refine RegL.step_of (i := 25) (by kernel_rfl) rfl (fun K' hK => ?_)
  go_simp
  refine hK _ _ ⟨M2, fun _ => x2''⟩ ?_
  clear hK K'
  refine RegL.step_of (i := 26) (by kernel_rfl) rfl (fun K' hK => ?_)
  refine step_append_run (o := ⟨some 32, _, _, _, _, _⟩) rfl (.tmp 6) (.tmp 31) 61 rfl (.slice Ao l.length co) (.slice (some ⟨w1.heap.size, 0, none⟩) 1 1) (.slice A3 (l.length + 1) c3') W3 rfl rfl HRUN.out ?_
  refine hK _ _ ⟨M3, fun e => by cases e⟩ ?_
  clear hK K'
  refine RegL.step_of (i := 27) (by kernel_rfl) rfl (fun K' hK => ?_)
  go_simp
  refine hK _ _ ⟨M4, fun e => by cases e⟩ ?_
  clear hK K'
  refine RegL.done_of (by kernel_rfl) ?_ _
  go_wp2_with fail
  go_end0
  refine ⟨rfl, .slice A3 (l.length + 1) c3', .slice Av (encF (frm s n ys)).length cv, ⟨by simpa using V3.out, fun i hi => ?_⟩, ?_⟩
  · rcases List.mem_append.1 hi with hi | hi
    · exact HO.out.by_ i hi
    · obtain rfl := List.mem_singleton.1 hi; exact VV.out
  · exact H4.out.re (fun x => by simp only [outE, List.length_append, List.length_cons, List.length_nil, Nat.zero_add, List.map_append, List.map_cons, List.map_nil, List.flatMap_append, List.flatMap_cons, List.flatMap_nil, cnt_append, cnt_cons, cnt_nil]; omega)
end Go.Proofs.YtoeiaimoppmjdaaDoor.Lk
