/- Merged by merge2.py out of the texts: Enc2, RegL, Say, TickP, Tick. -/
import Derived.Test.YtoeiaimoppmjdaaDoorZm3
import Derived.Test.YtoeiaimoppmjdaaDoorProg
import Derived.OrdersHeld
import Derived.RegionTactic
import Derived.Deep.RegionWith
import Derived.Deep.DeepCutAuto
import Derived.Deep.CutBlock
/- Contract: EncodeFrame. -/
namespace Go.Proofs.YtoeiaimoppmjdaaDoor.Lk
open Go.RowKit Go.Proofs.YtoeiaimoppmjdaaDoorW.PrintWords Go.Proofs.YtoeiaimoppmjdaaDoor.Mem Go.Proofs.YtoeiaimoppmjdaaDoor.Wr Go.Proofs.YtoeiaimoppmjdaaDoor.Bytes Go.Proofs.YtoeiaimoppmjdaaDoor.Crc
set_option linter.unusedVariables false
set_option linter.unusedSimpArgs false
/-- What lay in memory when the call began reads as it did, behind a call of a Writer made since. -/
theorem keep_reads {w W W' : World} {R : List Ent} {g : Nat} {v : Value} {xs ys : List Int} {A : Option Addr} (h : St w W (wtrE g v xs ++ R)) (hV : byV v xs) (hr : ReadsOf I 0 w A ys.length ys) (hk : KeepBut W W' g v.ownBlock) : ReadsOf I 0 W' A ys.length ys := by
  have hg := h.ge (B g #[v] 112) (List.mem_append_left _ (List.mem_cons_self ..))
  have hb : Below w.heap.size w { W' with os := w.os, tape := w.tape, output := w.output } := by
    refine ⟨rfl, rfl, rfl, Nat.le_trans h.bl.size hk.1, fun k hk2 => ?_⟩
    show W'.heap[k]? = w.heap[k]?
    refine (hk.2 k (Nat.lt_of_lt_of_le hk2 h.bl.size) (fun e => ?_) (fun e => ?_)).trans (h.bl.block k hk2)
    · have : w.heap.size ≤ g := hg
      omega
    · obtain ⟨p, hp, h1⟩ := row_in (e := 5) hV e.symm
      have := h.ge p (List.mem_append_left _ (List.mem_cons_of_mem _ hp))
      omega
  exact (hr.below hb : ReadsOf I 0 { W' with os := w.os, tape := w.tape, output := w.output } A ys.length ys)
set_option maxRecDepth 20000 in
set_option maxHeartbeats 6400000 in
/-- EncodeFrame: the bytes, in new memory. -/
theorem enc_calls (f : Frm) (A : Option Addr) (c : Nat) (w : World) (hr : ReadsOf I 0 w A f.body.length f.body) (hb : Byt f.body) :
    Calls Tryd.prog 46 #[.agg (frC f A c)] w fun e w' => ∃ v, e = .returned v ∧ byV v (encF f) ∧ St w w' (byR v (encF f)) := by
  obtain ⟨W1, hW1⟩ : ∃ W1, W1 = w.alloc (.cells (frC f A c) 69) := ⟨_, rfl⟩
  obtain ⟨bo, hbo⟩ : ∃ bo, bo = w.heap.size := ⟨_, rfl⟩
  have h1 := (St.start w).newB (frC f A c) 69
  rw [← hW1, ← hbo] at h1
  have x0 := h1.cellOf (g := bo) (cs := frC f A c) (t := 69) (by simp) 0 rfl
  have x1 := h1.cellOf (g := bo) (cs := frC f A c) (t := 69) (by simp) 1 rfl
  have x2 := h1.cellOf (g := bo) (cs := frC f A c) (t := 69) (by simp) 2 rfl
  have x3 := h1.cellOf (g := bo) (cs := frC f A c) (t := 69) (by simp) 3 rfl
  have x4 := h1.cellOf (g := bo) (cs := frC f A c) (t := 69) (by simp) 4 rfl
  have x5 := h1.cellOf (g := bo) (cs := frC f A c) (t := 69) (by simp) 5 rfl
  have x6 := h1.cellOf (g := bo) (cs := frC f A c) (t := 69) (by simp) 6 rfl
  have H1 := Lib.hid h1
  have HW1 := Lib.hid hW1
  have HBO := Lib.hid hbo
  have HR := Lib.hid hr
  have HB := Lib.hid hb
  clear h1 hW1 hbo hr hb
  obtain ⟨bf, hbf⟩ : ∃ bf, bf = fitB f := ⟨_, rfl⟩
  have CF := Lib.hid (fit_calls f A c W1)
  rw [← hbf] at CF
  have HBF := Lib.hid hbf
  clear hbf
  cases bf
  · go_enter Tryd.func46, Tryd.ntmps46
    go_wp2_with fail
    rw [← HW1.out]
    refine CF.out.mono ?_; rintro e w2 ⟨rfl, hb2⟩
    have H2 := Lib.hid (H1.out.below hb2)
    clear hb2
    go_wp2_with fail
    go_ret
    have e : encF f = [] := by unfold encF; rw [if_neg (by rw [← HBF.out]; simp)]
    rw [e]
    exact ⟨NL, rfl, byV_nil, H2.out.re (fun x => by simp only [byR_nil, cnt_nil]; omega)⟩
  · have HF := Lib.hid ((fit_iff f).1 HBF.out.symm)
    have hs0 := HF.out.f0
    have hs1 := HF.out.f1
    have hd0 := HF.out.t0
    have hd1 := HF.out.t1
    have ws : IntKind.u8.wrap f.src = f.src := IntWalk.u8_in _ (by omega)
    have wd : IntKind.u8.wrap f.dst = f.dst := IntWalk.u8_in _ (by omega)
    obtain ⟨s, hs⟩ : ∃ s : Nat, f.src = s := ⟨f.src.toNat, by omega⟩
    obtain ⟨d, hd⟩ : ∃ d : Nat, f.dst = d := ⟨f.dst.toNat, by omega⟩
    have HSS := Lib.hid hs
    have HDD := Lib.hid hd
    clear hs hd
    go_enter Tryd.func46, Tryd.ntmps46
    go_wp2_with fail
    rw [← HW1.out, ← HBO.out]
    refine CF.out.mono ?_; rintro e w2 ⟨rfl, hb2⟩
    have CN := Lib.hid (new_calls w2 w.heap.size (H1.out.below hb2).bl.size)
    have H2 := Lib.hid (H1.out.below hb2)
    clear hb2 x0 x1 x2 x3 x4 x5 x6
    go_wp2_with fail
    refine CN.out.mono ?_; rintro e w3 ⟨rfl, hwt, hb3⟩
    obtain ⟨g, hg⟩ : ∃ g, g = w2.heap.size := ⟨_, rfl⟩
    rw [← hg] at hwt ⊢
    have h3 : St w w3 (wtrE g NL [] ++ [B bo (frC f A c) 69]) := (show St w w3 (B g #[NL] 112 :: [B bo (frC f A c) 69]) from H2.out.made hb3 (by rw [hg]; exact Nat.le_refl _) hwt.blk rfl).re (fun x => by simp only [wtrE, byR_nil, cnt_append, cnt_cons, cnt_nil]; omega)
    have x0 := h3.cellOf (g := bo) (cs := frC f A c) (t := 69) (by simp) 0 rfl
    have CA := Lib.hid (wu8_calls s w3 w.heap.size g NL [] (St.wtr h3 byV_nil) h3.bl.size (by have := HSS.out; omega) (by simp))
    rw [← HSS.out] at CA
    have H3 := Lib.hid h3
    clear hg hwt hb3 h3
    go_wp2_with fail
    refine CA.out.mono ?_; rintro e w4 ⟨rfl, v4, hp4⟩
    obtain ⟨h4, hv4⟩ := St.wput H3.out byV_nil hp4
    have x1 := h4.cellOf (g := bo) (cs := frC f A c) (t := 69) (by simp) 1 rfl
    have CB := Lib.hid (wu8_calls d w4 w.heap.size g v4 _ (St.wtr h4 hv4) h4.bl.size (by have := HDD.out; omega) (by simp [fixL]))
    rw [← HDD.out] at CB
    have H4 := Lib.hid h4
    have V4 := Lib.hid hv4
    clear hp4 h4 hv4 x0
    go_wp2_with fail
    refine CB.out.mono ?_; rintro e w5 ⟨rfl, v5, hp5⟩
    obtain ⟨h5, hv5⟩ := St.wput H4.out V4.out hp5
    have e5 : [] ++ fixL s 1 ++ fixL d 1 = [f.src, f.dst] := by
      have q1 := HSS.out; have q2 := HDD.out
      rw [q1, q2]; simp [fixL]; omega
    rw [e5] at h5 hv5
    have y2 := h5.cellOf (g := bo) (cs := frC f A c) (t := 69) (by simp) 2 rfl
    have y3 := h5.cellOf (g := bo) (cs := frC f A c) (t := 69) (by simp) 3 rfl
    have y4 := h5.cellOf (g := bo) (cs := frC f A c) (t := 69) (by simp) 4 rfl
    have y5 := h5.cellOf (g := bo) (cs := frC f A c) (t := 69) (by simp) 5 rfl
    obtain ⟨W6, hW6⟩ : ∃ W6, W6 = w5.alloc (.cells #[.int .u64 (f.mine : Int), .int .u64 (f.yours : Int), .int .u64 (f.seq : Int), .int .u64 (f.ack : Int)] 37) := ⟨_, rfl⟩
    obtain ⟨bl, hbl⟩ : ∃ bl, bl = w5.heap.size := ⟨_, rfl⟩
    have h6 := h5.newB #[.int .u64 (f.mine : Int), .int .u64 (f.yours : Int), .int .u64 (f.seq : Int), .int .u64 (f.ack : Int)] 37
    rw [← hW6, ← hbl] at h6
    have h6' : St w W6 (wtrE g v5 ([f.src, f.dst] ++ ((nums f).take 0).flatMap vr) ++ [B bl #[.int .u64 (f.mine : Int), .int .u64 (f.yours : Int), .int .u64 (f.seq : Int), .int .u64 (f.ack : Int)] 37, B bo (frC f A c) 69]) := h6.re (fun x => by simp only [List.take_zero, List.flatMap_nil, List.append_nil, cnt_append, cnt_cons, cnt_nil]; omega)
    have H6 := Lib.hid h6'
    have V5 := Lib.hid hv5
    have HW6 := Lib.hid hW6
    have HBL := Lib.hid hbl
    clear hp5 h5 hv5 h6 h6' hW6 hbl e5 x1
    go_wp2_with fail
    rw [← HBL.out, ← HW6.out]
    go_loopg [30] 4 (fun gk s30 wr => ∃ (k : Nat) (v : Value), gk = 4 - k ∧ k ≤ 4 ∧ s30 = .int .i64 k ∧ byV v ([f.src, f.dst] ++ ((nums f).take k).flatMap vr) ∧ St w wr (wtrE g v ([f.src, f.dst] ++ ((nums f).take k).flatMap vr) ++ [B bl #[.int .u64 (f.mine : Int), .int .u64 (f.yours : Int), .int .u64 (f.seq : Int), .int .u64 (f.ack : Int)] 37, B bo (frC f A c) 69]))
    case atStart => exact ⟨0, v5, rfl, by omega, rfl, by simpa using V5.out, H6.out⟩
    case round =>
      obtain ⟨k, v, hgk, hk, rfl, hv, hs⟩ := hrel
      have HGK := Lib.hid hgk
      have VV := Lib.hid hv
      have HS := Lib.hid hs
      clear hgk hv hs
      by_cases hlt : k < 4
      · obtain ⟨n, hn⟩ : ∃ n, (nums f)[k]? = some n := ⟨(nums f)[k]'(by rw [nums_len]; exact hlt), List.getElem?_eq_getElem _⟩
        have hcell : (#[.int .u64 (f.mine : Int), .int .u64 (f.yours : Int), .int .u64 (f.seq : Int), .int .u64 (f.ack : Int)] : Array Value)[k]? = some (.int .u64 (n : Int)) := by
          have e : k = 0 ∨ k = 1 ∨ k = 2 ∨ k = 3 := by omega
          rcases e with rfl | rfl | rfl | rfl <;> (simp [nums] at hn; subst hn; rfl)
        have hn64 : n < 18446744073709551616 := by
          have := HF.out.m1; have := HF.out.y; have := HF.out.s; have := HF.out.a
          have e : k = 0 ∨ k = 1 ∨ k = 2 ∨ k = 3 := by omega
          rcases e with rfl | rfl | rfl | rfl <;> (simp [nums] at hn; omega)
        have z := HS.out.cellOf (g := bl) (cs := #[.int .u64 (f.mine : Int), .int .u64 (f.yours : Int), .int .u64 (f.seq : Int), .int .u64 (f.ack : Int)]) (t := 37) (by simp) k hcell
        have hln := vrs_len f HF.out k
        have CV := Lib.hid (wvar_calls n wr w.heap.size g v _ (St.wtr HS.out VV.out) HS.out.bl.size hn64 (by simp only [List.length_append, List.length_cons, List.length_nil]; omega))
        have et : [f.src, f.dst] ++ ((nums f).take k).flatMap vr ++ vr n = [f.src, f.dst] ++ ((nums f).take (k + 1)).flatMap vr := by
          rw [List.take_add_one, hn]; simp
        have ET := Lib.hid et
        have i1 : (k : Int) < 4 := by omega
        have i2 : (0 : Int) ≤ (k : Int) := by omega
        clear hn hcell hn64 hln et
        go_wp2_with fail
        refine CV.out.mono ?_; rintro e w7 ⟨rfl, v7, hp7⟩
        obtain ⟨h7, hv7⟩ := St.wput HS.out VV.out hp7
        rw [ET.out] at h7 hv7
        have H7 := Lib.hid h7
        have V7 := Lib.hid hv7
        clear hp7 h7 hv7 z
        go_wp2_with fail
        go_roundg (4 - (k + 1))
        case measure => have := HGK.out; omega
        case rel => exact ⟨k + 1, v7, rfl, by omega, by go_num, V7.out, H7.out⟩
      · have hk4 : k = 4 := by omega
        subst hk4
        have e4 : (nums f).take 4 = nums f := rfl
        have hs := HS.out
        have hv := VV.out
        rw [e4] at hs hv
        have z6 := hs.cellOf (g := bo) (cs := frC f A c) (t := 69) (by simp) 6 rfl
        have hln := vrs_len f HF.out 4
        rw [e4] at hln
        have hbl := HF.out.b
        have hbd : ReadsOf I 0 w A f.body.length f.body := HR.out
        have CB := Lib.hid (wbytes_calls f.body A c wr w.heap.size g v _ (St.wtr hs hv) hs.bl.size (fun w' hk => keep_reads hs hv hbd hk) (by simp only [List.length_append, List.length_cons, List.length_nil]; omega))
        have HS4 := Lib.hid hs
        have V4' := Lib.hid hv
        have i1 : ¬ (4 : Int) < 4 := by omega
        clear hs hv hln hbl hbd e4
        go_wp2_with fail
        refine CB.out.mono ?_; rintro e w7 ⟨rfl, v7, hp7⟩
        obtain ⟨h7, hv7⟩ := St.wput HS4.out V4'.out hp7
        have ea : [f.src, f.dst] ++ (nums f).flatMap vr ++ (vr f.body.length ++ f.body) = ahead f := rfl
        rw [ea] at h7 hv7
        have hal := ahead_len f HF.out
        have hab := ahead_byt f HF.out HB.out
        have CO := Lib.hid (out_calls w7 w.heap.size w7.heap.size g v7 (ahead f) (St.wtr h7 hv7) (Nat.le_refl _) (by omega))
        have H7 := Lib.hid h7
        have V7 := Lib.hid hv7
        have HAL := Lib.hid hal
        have HAB := Lib.hid hab
        clear hp7 h7 hv7 ea hal hab z6
        go_wp2_with fail
        refine CO.out.mono ?_; rintro e w8 ⟨v8, rfl, ho8, hb8⟩
        obtain ⟨h8, hv8⟩ := H7.out.fresh hb8 ho8
        obtain ⟨A8, c8, rfl⟩ := byV_form hv8
        have CS := Lib.hid (sum_reads (ahead f) A8 c8 w8 (by_reads h8 (fun x => by simp only [byR, cnt_append]; omega) hv8) HAB.out)
        have H8 := Lib.hid (h8.re (M := wtrE g v7 (ahead f) ++ [B bo (frC f A c) 69]) (fun x => by simp only [cnt_append, cnt_cons, cnt_nil]; omega))
        clear hb8 ho8 h8 hv8
        go_wp2_with fail
        refine CS.out.mono ?_; rintro e w9 ⟨rfl, hb9⟩
        have h9 := H8.out.below hb9
        have CU := Lib.hid (wu32_calls (crc (ahead f)).toNat w9 w.heap.size g v7 (ahead f) (St.wtr h9 V7.out) h9.bl.size (crc (ahead f)).isLt (by have := HAL.out; omega))
        have H9 := Lib.hid h9
        clear hb9 h9
        go_wp2_with fail
        refine CU.out.mono ?_; rintro e wa ⟨rfl, va, hpa⟩
        obtain ⟨ha, hva⟩ := St.wput H9.out V7.out hpa
        have ee : ahead f ++ fixL (crc (ahead f)).toNat 4 = encF f := by unfold encF; rw [if_pos HBF.out.symm]
        have hel : (encF f).length ≤ 2104 := by rw [← ee]; have := HAL.out; simp [fixL_length]; omega
        rw [ee] at ha hva
        have CO2 := Lib.hid (out_calls wa w.heap.size wa.heap.size g va (encF f) (St.wtr ha hva) (Nat.le_refl _) (by omega))
        have HA := Lib.hid ha
        clear hpa ha hva ee hel
        go_wp2_with fail
        refine CO2.out.mono ?_; rintro e wb ⟨vb, rfl, hob, hbb⟩
        obtain ⟨hfin, hvb⟩ := HA.out.fresh hbb hob
        obtain ⟨Ab, cb, rfl⟩ := byV_form hvb
        have HFIN := Lib.hid hfin
        have HVB := Lib.hid hvb
        clear hbb hob hfin hvb
        go_wp2_with fail
        go_ret
        exact ⟨.slice Ab (encF f).length cb, rfl, HVB.out, HFIN.out.re (fun x => by simp only [byR, cnt_append]; omega)⟩
end Go.Proofs.YtoeiaimoppmjdaaDoor.Lk
/- A region that draws its order, in which a cell is loaded that the region itself stores into at its end: the condition on the world may fall when a named operation (which waits for that load) has come up. -/
namespace Go.Proofs.YtoeiaimoppmjdaaDoor.RegL
open Go
section
variable {P : Program} {ops : Array Oper} {Q : Exit → Act → World → Prop} {md : Region.Mode} {S : Bool → World → Prop} {k : Nat}
/-- Whatever order is picked from here on; behind each operation S holds of the world, its flag telling whether number k has come up. -/
def anyL (P : Program) (md : Region.Mode) (ops : Array Oper) (Q : Exit → Act → World → Prop) (S : Bool → World → Prop) (k : Nat) : Nat → Array Bool → Act → World → Prop
  | 0, listed, a, w => Region.ready md ops listed = [] ∧ Q .normal a w
  | n + 1, listed, a, w => (Region.ready md ops listed = [] → Q .normal a w) ∧
      ∀ i ∈ Region.ready md ops listed, wpOp P ops Q i (fun a' w' => S ((listed.setIfInBounds i true).getD k true) w' ∧ anyL P md ops Q S k n (listed.setIfInBounds i true) a' w') a w
theorem any_of : ∀ (n : Nat) (listed : Array Bool) (a : Act) (w : World), anyL P md ops Q S k n listed a w → wpAny P md ops Q n listed a w
  | 0, _, _, _, h => h
  | n + 1, _, _, _, h => ⟨h.1, fun i hi => wpOp_mono (fun a' w' q => any_of n _ a' w' q.2) (h.2 i hi)⟩
theorem first_of {i : Nat} {oi : Oper} {v : Value} {T : World → Prop} {G : Array Bool → Prop} (hi : ops[i]? = some oi) (hsel : ∀ (j : Nat) (o : Oper) cs b, ops[j]? = some o → o.op ≠ .select cs b)
    (hQ : ∀ c a w, Q (.panic c) (a.put oi.dst v) w → Q (.panic c) a w) (hik : i ≠ k)
    (hT : ∀ (listed : Array Bool) (j : Nat) (w' : World), i ∈ Region.ready md ops listed → j ∈ Region.ready md ops listed → j ≠ i → G listed → S ((listed.setIfInBounds j true).getD k true) w' → T w' ∧ G (listed.setIfInBounds j true)) :
    ∀ (n : Nat) (listed : Array Bool) (a : Act) (w : World),
      (∀ j oj, ops[j]? = some oj → j ≠ i → listed.getD j true = false → (∀ e ∈ oj.after, Region.binds md e = true → e.on ≠ i) → oi.apart ops oj = true) →
      i ∈ Region.ready md ops listed → G listed → YieldsIf P ops T oi v a → T w → S (listed.getD k true) w →
      anyL P md ops Q S k n (listed.setIfInBounds i true) (a.put oi.dst v) w → anyL P md ops Q S k (n + 1) listed a w := by
  intro n
  induction n with
  | zero =>
    intro listed a w _ hr _ hy hTw hS H
    refine ⟨fun h => (by rw [h] at hr; cases hr), fun j hj => ?_⟩
    by_cases hji : j = i
    · subst hji
      exact hy.wpOp hi hTw ⟨by rw [getD_set_ne true hik]; exact hS, H⟩
    · have := ready_mono hj hji
      rw [H.1] at this
      cases this
  | succ n ih =>
    intro listed a w hfree hr hG hy hTw hS H
    refine ⟨fun h => (by rw [h] at hr; cases hr), fun j hj => ?_⟩
    by_cases hji : j = i
    · subst hji
      exact hy.wpOp hi hTw ⟨by rw [getD_set_ne true hik]; exact hS, H⟩
    · have h1 := H.2 j (ready_mono hj hji)
      obtain ⟨hjun, oj, hoj, hall⟩ := mem_ready.1 hj
      have hnot : ∀ e ∈ oj.after, Region.binds md e = true → e.on ≠ i := by
        intro e he hb heq
        have q1 := hall e he hb
        have q0 := (mem_ready.1 hr).1
        rw [heq] at q1
        rcases Nat.lt_or_ge i listed.size with h' | h'
        · simp [h'] at q0 q1; rw [q0] at q1; cases q1
        · simp [Array.getElem?_eq_none h'] at q1
      have h2 := wpOp_putIf hoj (hfree j oj hoj hji hjun hnot) (fun cs b => hsel i oi cs b hi) (fun cs b => hsel j oj cs b hoj) hQ hy h1
      refine wpOp_mono (fun a' w' h3 => ?_) h2
      have e1 : ((listed.setIfInBounds i true).setIfInBounds j true).getD k true = (listed.setIfInBounds j true).getD k true := by
        rw [Array.setIfInBounds_comm _ _ (Ne.symm hji), getD_set_ne true hik]
      have hS' : S ((listed.setIfInBounds j true).getD k true) w' := by rw [← e1]; exact h3.2.1
      obtain ⟨hT', hG'⟩ := hT listed j w' hr hj hji hG hS'
      refine ⟨hS', ih (listed.setIfInBounds j true) a' w' (fun q oq hq hqi hun hno => ?_) (ready_mono hr (Ne.symm hji)) hG' h3.1 hT' hS' ?_⟩
      · refine hfree q oq hq hqi ?_ hno
        by_cases hjq : j = q
        · subst hjq; exact hjun
        · rw [getD_set_ne true hjq] at hun; exact hun
      · rw [Array.setIfInBounds_comm _ _ hji]
        exact h3.2.2
/-- A load of a cell that nobody in the region writes. -/
theorem take_w {i : Nat} {oi : Oper} {v : Value} {n : Nat} {listed : Array Bool} {a : Act} {w : World} (hm : ∀ b w, S b w → S true w) (hi : ops[i]? = some oi) (hik : i ≠ k)
    (hs : Region.noSelect ops = true) (hf : Region.free md ops listed i = true) (hr : (Region.ready md ops listed).contains i = true)
    (hQ : ∀ c a w, Q (.panic c) (a.put oi.dst v) w → Q (.panic c) a w) (hy : YieldsIf P ops (S true) oi v a) (hS : S (listed.getD k true) w)
    (h : anyL P md ops Q S k n (listed.setIfInBounds i true) (a.put oi.dst v) w) : anyL P md ops Q S k (n + 1) listed a w :=
  first_of (T := S true) (G := fun _ => True) hi (Region.noSelect_spec hs) hQ hik (fun _ _ w' _ _ _ _ q => ⟨hm _ _ q, trivial⟩) n listed a w (Region.free_spec hi hf) (by simpa using hr) trivial hy (hm _ _ hS) hS h
/-- A load of the cell that is stored into behind number k, which waits for it. -/
theorem take_s {i : Nat} {oi ok : Oper} {v : Value} {n : Nat} {listed : Array Bool} {a : Act} {w : World} (hi : ops[i]? = some oi) (hik : i ≠ k) (hok : ops[k]? = some ok) (hw : (ok.after.any fun e => Region.binds md e && e.on == i) = true)
    (hs : Region.noSelect ops = true) (hf : Region.free md ops listed i = true) (hr : (Region.ready md ops listed).contains i = true) (hk : listed.getD k true = false)
    (hQ : ∀ c a w, Q (.panic c) (a.put oi.dst v) w → Q (.panic c) a w) (hy : YieldsIf P ops (S false) oi v a) (hS : S false w)
    (h : anyL P md ops Q S k n (listed.setIfInBounds i true) (a.put oi.dst v) w) : anyL P md ops Q S k (n + 1) listed a w := by
  refine first_of (T := S false) (G := fun l => l.getD k true = false) hi (Region.noSelect_spec hs) hQ hik (fun l j w' hir hjr hji hG q => ?_) n listed a w (Region.free_spec hi hf) (by simpa using hr) hk hy hS (by rw [hk]; exact hS) h
  have hjk : j ≠ k := by
    rintro rfl
    obtain ⟨_, oj, hoj, hall⟩ := mem_ready.1 hjr
    rw [hok] at hoj
    injection hoj with hoj
    subst hoj
    rw [Array.any_eq_true] at hw
    obtain ⟨x, hx, hb⟩ := hw
    simp only [Bool.and_eq_true, beq_iff_eq] at hb
    have q1 := hall ok.after[x] (Array.getElem_mem hx) hb.1
    have q0 := (mem_ready.1 hir).1
    rw [hb.2] at q1
    rcases Nat.lt_or_ge i l.size with h' | h'
    · simp [h'] at q0 q1; rw [q0] at q1; cases q1
    · simp [Array.getElem?_eq_none h'] at q1
  have e : (l.setIfInBounds j true).getD k true = false := by rw [getD_set_ne true hjk]; exact hG
  rw [e] at q
  exact ⟨q, e⟩
theorem all_of {rs : List Nat} {n : Nat} {listed : Array Bool} {a : Act} {w : World} (hr : Region.ready md ops listed = rs) (hne : rs ≠ [])
    (h : ∀ i ∈ rs, wpOp P ops Q i (fun a' w' => S ((listed.setIfInBounds i true).getD k true) w' ∧ anyL P md ops Q S k n (listed.setIfInBounds i true) a' w') a w) : anyL P md ops Q S k (n + 1) listed a w :=
  ⟨fun h0 => absurd (hr ▸ h0) hne, hr ▸ h⟩
theorem done_of {listed : Array Bool} {a : Act} {w : World} (hr : Region.ready md ops listed = []) (h : Q .normal a w) : ∀ n, anyL P md ops Q S k n listed a w
  | 0 => ⟨hr, h⟩
  | _ + 1 => ⟨fun _ => h, by rw [hr]; simp⟩
/-- One that alone may come up: it is carried out; S behind it. -/
theorem step_of {i n : Nat} {o : Oper} {listed : Array Bool} {a : Act} {w : World} (hr : Region.ready md ops listed = [i]) (ho : ops[i]? = some o)
    (h : ∀ K' : Act → World → Prop, (∀ a' w', S ((listed.setIfInBounds i true).getD k true) w' → anyL P md ops Q S k n (listed.setIfInBounds i true) a' w' → K' a' w') → if Region.wanted o (yielded ops a.tmps) = true then Oper.wp P o a w K' Q else K' (a.put o.dst undef) w) :
    anyL P md ops Q S k (n + 1) listed a w :=
  all_of hr (by simp) (fun j hj => by
    obtain rfl := List.mem_singleton.1 hj
    exact wpOp_step ho (fun K' hK => h K' (fun a' w' q1 q2 => hK a' w' ⟨q1, q2⟩)))
theorem begin_of {id : Nat} {a : Act} {w : World} (hm : P.follows .mixedOrders = true) (h : anyL P .any ops Q S k ops.size (Array.replicate ops.size false) a w.drew) : (Code.region id ops true).wp P Q a w :=
  wp_region_any hm (any_of _ _ _ _ h)
end
end Go.Proofs.YtoeiaimoppmjdaaDoor.RegL
/- What a tick says: the literal within Tick. -/
namespace Go.Proofs.YtoeiaimoppmjdaaDoor.Lk
open Go.RowKit Go.Proofs.YtoeiaimoppmjdaaDoorW.PrintWords Go.Proofs.YtoeiaimoppmjdaaDoor.Mem Go.Proofs.YtoeiaimoppmjdaaDoor.Wr Go.Proofs.YtoeiaimoppmjdaaDoor.Bytes Go.Proofs.YtoeiaimoppmjdaaDoor.App
open Go.Proofs.YtoeiaimoppmjdaaDoor.Pace (nxt IsO)
set_option linter.unusedVariables false
set_option linter.unusedSimpArgs false
/-- What goes out: a row of lists of bytes, each in memory of its own. -/
def outE (v : Value) (l : List BI) : List Ent := rowE v 22 1 l.length (l.map fun i => i.1) ++ l.flatMap fun i => byR i.1 i.2
structure OutV (v : Value) (l : List BI) : Prop where
  row : rowV v 1 l.length (l.map fun i => i.1)
  by_ : ∀ i, i ∈ l → byV i.1 i.2
theorem outV_nil : OutV NL [] := ⟨rowV_nil 1, fun i h => (by cases h)⟩
theorem row_form {v : Value} {s n : Nat} {xs : List Value} (h : rowV v s n xs) : ∃ A c, v = .slice A n c := by
  rcases h.2 with ⟨rfl, h0⟩ | ⟨g, c, rfl, _⟩
  · exact ⟨none, 0, by rw [h0]⟩
  · exact ⟨_, _, rfl⟩
abbrev frm (s : LS) (n : Nat) (ys : List Int) : Frm := ⟨s.me, s.other, s.life, s.known, n, s.heard, ys⟩
/-- The cells that Tick's literal reads. -/
def SayL (g bl : Nat) (s : LS) (w9 : World) : Prop := w9.cell? ⟨bl, 0, none⟩ = some (pt g) ∧ w9.cell? ⟨g, 0, none⟩ = some (.int .i64 s.me) ∧ w9.cell? ⟨g, 1, none⟩ = some (.int .i64 s.other) ∧ w9.cell? ⟨g, 2, none⟩ = some (.int .u64 (s.life : Int)) ∧ w9.cell? ⟨g, 3, none⟩ = some (.int .u64 (s.known : Int)) ∧ w9.cell? ⟨g, 8, none⟩ = some (.int .u64 (s.heard : Int))
def SayS (g bo bl : Nat) (s : LS) (ov : Value) (b : Bool) (w9 : World) : Prop := SayL g bl s w9 ∧ (b = false → w9.cell? ⟨bo, 0, none⟩ = some ov)
set_option maxRecDepth 20000 in
set_option maxHeartbeats 6400000 in
theorem say_calls (w0 W : World) (R : List Ent) (g bo bl : Nat) (s : LS) (ov : Value) (l : List BI) (n : Nat) (A : Option Addr) (c : Nat) (ys : List Int) (h : St w0 W (lkE g s ++ (B bo #[ov] 61 :: (B bl #[pt g] 80 :: (outE ov l ++ R))))) (hO : OutV ov l)
    (hr : ReadsOf I 0 W A ys.length ys) (hb : Byt ys) (hl : l.length ≤ 1000) :
    Calls Tryd.prog 97 #[.int .u64 (n : Int), .slice A ys.length c, .pointer (some ⟨bo, 0, none⟩), .pointer (some ⟨bl, 0, none⟩)] W fun e w' => e = .returned (.tuple #[]) ∧ ∃ ov' v, OutV ov' (l ++ [(v, encF (frm s n ys))]) ∧ St w0 w' (lkE g s ++ (B bo #[ov'] 61 :: (B bl #[pt g] 80 :: (outE ov' (l ++ [(v, encF (frm s n ys))]) ++ R)))) := by
  have x2 := h.cellOf (g := bo) (cs := #[ov]) (t := 61) (by simp) 0 rfl
  have x3 := h.cellOf (g := bl) (cs := #[pt g]) (t := 80) (by simp) 0 rfl
  have c0 : W.cell? ⟨g, 0, none⟩ = some (.int .i64 s.me) := lk_cell h 0 rfl
  have c1 : W.cell? ⟨g, 1, none⟩ = some (.int .i64 s.other) := lk_cell h 1 rfl
  have c2 : W.cell? ⟨g, 2, none⟩ = some (.int .u64 (s.life : Int)) := lk_cell h 2 rfl
  have c3 : W.cell? ⟨g, 3, none⟩ = some (.int .u64 (s.known : Int)) := lk_cell h 3 rfl
  have c8 : W.cell? ⟨g, 8, none⟩ = some (.int .u64 (s.heard : Int)) := lk_cell h 8 rfl
  obtain ⟨Ao, co, rfl⟩ := row_form hO.row
  have CE : Hid (Calls Tryd.prog 46 #[.agg #[.int .i64 s.me, .int .i64 s.other, .int .u64 (s.life : Int), .int .u64 (s.known : Int), .int .u64 (n : Int), .int .u64 (s.heard : Int), .slice A ys.length c]] W.drew fun e w' => ∃ v, e = .returned v ∧ byV v (encF (frm s n ys)) ∧ St W.drew w' (byR v (encF (frm s n ys)))) := enc_calls (frm s n ys) A c W.drew (hr.below (Below.refl _ _).drew) hb
  have H := Lib.hid h
  have HO := Lib.hid hO
  have HL := Lib.hid hl
  clear h hO hr hb hl
  go_enter Tryd.func97, Tryd.ntmps97
  go_wp2_with fail
  have SM : ∀ b w9, SayS g bo bl s (.slice Ao l.length co) b w9 → SayS g bo bl s (.slice Ao l.length co) true w9 := fun b w9 h => ⟨h.1, fun e => by cases e⟩
  have SK : Hid (∀ (w9 : World) (L : List Ent), St w0 w9 L → B g (lkC s) 128 ∈ L → B bl #[pt g] 80 ∈ L → SayL g bl s w9) := fun w9 L h hm hn =>
    ⟨h.cellOf hn 0 rfl, h.cellOf hm 0 rfl, h.cellOf hm 1 rfl, h.cellOf hm 2 rfl, h.cellOf hm 3 rfl, h.cellOf hm 8 rfl⟩
  have HALL : Hid (∀ b, SayS g bo bl s (.slice Ao l.length co) b W.drew) := fun b => ⟨SK.out _ _ H.out.drew (by simp [lkE]) (by simp), fun _ => x2⟩
  clear x2 x3 c0 c1 c2 c3 c8
  refine RegL.begin_of (k := 26) (S := SayS g bo bl s (.slice Ao l.length co)) (by kernel_rfl) ?_
  refine RegL.take_s (i := 0) (v := ?_) rfl (by decide) rfl (by kernel_rfl) (by kernel_rfl) (by kernel_rfl) (by kernel_rfl) (by kernel_rfl) (fun _ _ _ h => h) (Or.inl ⟨by rfl, ?_⟩) (HALL.out _) ?_
  rotate_left
  · intro w9 hw9; obtain ⟨⟨q1, q2, q3, q4, q5, q6⟩, q7⟩ := hw9; replace q7 := q7 rfl; go_simp; try with_reducible rfl
  try simp only [Act.put, List.setIfInBounds_toArray, List.set_cons_zero, List.set_cons_succ]
  refine RegL.take_w (i := 1) (v := ?_) SM rfl (by decide) (by kernel_rfl) (by kernel_rfl) (by kernel_rfl) (fun _ _ _ h => h) (Or.inl ⟨by rfl, ?_⟩) (HALL.out _) ?_
  rotate_left
  · intro w9 hw9; obtain ⟨⟨q1, q2, q3, q4, q5, q6⟩, q7⟩ := hw9; clear q7; go_simp; try with_reducible rfl
  try simp only [Act.put, List.setIfInBounds_toArray, List.set_cons_zero, List.set_cons_succ]
  refine RegL.take_w (i := 2) (v := ?_) SM rfl (by decide) (by kernel_rfl) (by kernel_rfl) (by kernel_rfl) (fun _ _ _ h => h) (Or.inl ⟨by rfl, ?_⟩) (HALL.out _) ?_
  rotate_left
  · intro w9 hw9; obtain ⟨⟨q1, q2, q3, q4, q5, q6⟩, q7⟩ := hw9; clear q7; go_simp; try with_reducible rfl
  try simp only [Act.put, List.setIfInBounds_toArray, List.set_cons_zero, List.set_cons_succ]
  refine RegL.take_w (i := 3) (v := ?_) SM rfl (by decide) (by kernel_rfl) (by kernel_rfl) (by kernel_rfl) (fun _ _ _ h => h) (Or.inl ⟨by rfl, ?_⟩) (HALL.out _) ?_
  rotate_left
  · intro w9 hw9; obtain ⟨⟨q1, q2, q3, q4, q5, q6⟩, q7⟩ := hw9; clear q7; go_simp; try with_reducible rfl
  try simp only [Act.put, List.setIfInBounds_toArray, List.set_cons_zero, List.set_cons_succ]
  refine RegL.take_w (i := 4) (v := ?_) SM rfl (by decide) (by kernel_rfl) (by kernel_rfl) (by kernel_rfl) (fun _ _ _ h => h) (Or.inl ⟨by rfl, ?_⟩) (HALL.out _) ?_
  rotate_left
  · intro w9 hw9; obtain ⟨⟨q1, q2, q3, q4, q5, q6⟩, q7⟩ := hw9; clear q7; go_simp; try with_reducible rfl
  try simp only [Act.put, List.setIfInBounds_toArray, List.set_cons_zero, List.set_cons_succ]
  refine RegL.take_w (i := 5) (v := ?_) SM rfl (by decide) (by kernel_rfl) (by kernel_rfl) (by kernel_rfl) (fun _ _ _ h => h) (Or.inl ⟨by rfl, ?_⟩) (HALL.out _) ?_
  rotate_left
  · intro w9 hw9; obtain ⟨⟨q1, q2, q3, q4, q5, q6⟩, q7⟩ := hw9; clear q7; go_simp; try with_reducible rfl
  try simp only [Act.put, List.setIfInBounds_toArray, List.set_cons_zero, List.set_cons_succ]
  refine RegL.take_w (i := 6) (v := ?_) SM rfl (by decide) (by kernel_rfl) (by kernel_rfl) (by kernel_rfl) (fun _ _ _ h => h) (Or.inl ⟨by rfl, ?_⟩) (HALL.out _) ?_
  rotate_left
  · intro w9 hw9; obtain ⟨⟨q1, q2, q3, q4, q5, q6⟩, q7⟩ := hw9; clear q7; go_simp; try with_reducible rfl
  try simp only [Act.put, List.setIfInBounds_toArray, List.set_cons_zero, List.set_cons_succ]
  refine RegL.take_w (i := 7) (v := ?_) SM rfl (by decide) (by kernel_rfl) (by kernel_rfl) (by kernel_rfl) (fun _ _ _ h => h) (Or.inl ⟨by rfl, ?_⟩) (HALL.out _) ?_
  rotate_left
  · intro w9 hw9; obtain ⟨⟨q1, q2, q3, q4, q5, q6⟩, q7⟩ := hw9; clear q7; go_simp; try with_reducible rfl
  try simp only [Act.put, List.setIfInBounds_toArray, List.set_cons_zero, List.set_cons_succ]
  refine RegL.take_w (i := 8) (v := ?_) SM rfl (by decide) (by kernel_rfl) (by kernel_rfl) (by kernel_rfl) (fun _ _ _ h => h) (Or.inl ⟨by rfl, ?_⟩) (HALL.out _) ?_
  rotate_left
  · intro w9 hw9; obtain ⟨⟨q1, q2, q3, q4, q5, q6⟩, q7⟩ := hw9; clear q7; go_simp; try with_reducible rfl
  try simp only [Act.put, List.setIfInBounds_toArray, List.set_cons_zero, List.set_cons_succ]
  refine RegL.take_w (i := 9) (v := ?_) SM rfl (by decide) (by kernel_rfl) (by kernel_rfl) (by kernel_rfl) (fun _ _ _ h => h) (Or.inl ⟨by rfl, ?_⟩) (HALL.out _) ?_
  rotate_left
  · intro w9 hw9; obtain ⟨⟨q1, q2, q3, q4, q5, q6⟩, q7⟩ := hw9; clear q7; go_simp; try with_reducible rfl
  try simp only [Act.put, List.setIfInBounds_toArray, List.set_cons_zero, List.set_cons_succ]
  refine RegL.take_w (i := 10) (v := ?_) SM rfl (by decide) (by kernel_rfl) (by kernel_rfl) (by kernel_rfl) (fun _ _ _ h => h) (Or.inl ⟨by rfl, ?_⟩) (HALL.out _) ?_
  rotate_left
  · intro w9 hw9; obtain ⟨⟨q1, q2, q3, q4, q5, q6⟩, q7⟩ := hw9; clear q7; go_simp; try with_reducible rfl
  try simp only [Act.put, List.setIfInBounds_toArray, List.set_cons_zero, List.set_cons_succ]
  refine RegL.take_w (i := 11) (v := ?_) SM rfl (by decide) (by kernel_rfl) (by kernel_rfl) (by kernel_rfl) (fun _ _ _ h => h) (Or.inl ⟨by rfl, ?_⟩) (HALL.out _) ?_
  rotate_left
  · intro w9 hw9; obtain ⟨⟨q1, q2, q3, q4, q5, q6⟩, q7⟩ := hw9; clear q7; go_simp; try with_reducible rfl
  try simp only [Act.put, List.setIfInBounds_toArray, List.set_cons_zero, List.set_cons_succ]
  refine RegL.take_w (i := 12) (v := ?_) SM rfl (by decide) (by kernel_rfl) (by kernel_rfl) (by kernel_rfl) (fun _ _ _ h => h) (Or.inl ⟨by rfl, ?_⟩) (HALL.out _) ?_
  rotate_left
  · intro w9 hw9; obtain ⟨⟨q1, q2, q3, q4, q5, q6⟩, q7⟩ := hw9; clear q7; go_simp; try with_reducible rfl
  try simp only [Act.put, List.setIfInBounds_toArray, List.set_cons_zero, List.set_cons_succ]
  refine RegL.take_w (i := 13) (v := ?_) SM rfl (by decide) (by kernel_rfl) (by kernel_rfl) (by kernel_rfl) (fun _ _ _ h => h) (Or.inl ⟨by rfl, ?_⟩) (HALL.out _) ?_
  rotate_left
  · intro w9 hw9; obtain ⟨⟨q1, q2, q3, q4, q5, q6⟩, q7⟩ := hw9; clear q7; go_simp; try with_reducible rfl
  try simp only [Act.put, List.setIfInBounds_toArray, List.set_cons_zero, List.set_cons_succ]
  refine RegL.take_w (i := 14) (v := ?_) SM rfl (by decide) (by kernel_rfl) (by kernel_rfl) (by kernel_rfl) (fun _ _ _ h => h) (Or.inl ⟨by rfl, ?_⟩) (HALL.out _) ?_
  rotate_left
  · intro w9 hw9; obtain ⟨⟨q1, q2, q3, q4, q5, q6⟩, q7⟩ := hw9; clear q7; go_simp; try with_reducible rfl
  try simp only [Act.put, List.setIfInBounds_toArray, List.set_cons_zero, List.set_cons_succ]
  refine RegL.take_w (i := 15) (v := ?_) SM rfl (by decide) (by kernel_rfl) (by kernel_rfl) (by kernel_rfl) (fun _ _ _ h => h) (Or.inl ⟨by rfl, ?_⟩) (HALL.out _) ?_
  rotate_left
  · intro w9 hw9; obtain ⟨⟨q1, q2, q3, q4, q5, q6⟩, q7⟩ := hw9; clear q7; go_simp; try with_reducible rfl
  try simp only [Act.put, List.setIfInBounds_toArray, List.set_cons_zero, List.set_cons_succ]
  refine RegL.take_w (i := 16) (v := ?_) SM rfl (by decide) (by kernel_rfl) (by kernel_rfl) (by kernel_rfl) (fun _ _ _ h => h) (Or.inl ⟨by rfl, ?_⟩) (HALL.out _) ?_
  rotate_left
  · intro w9 hw9; obtain ⟨⟨q1, q2, q3, q4, q5, q6⟩, q7⟩ := hw9; clear q7; go_simp; try with_reducible rfl
  try simp only [Act.put, List.setIfInBounds_toArray, List.set_cons_zero, List.set_cons_succ]
  refine RegL.take_w (i := 17) (v := ?_) SM rfl (by decide) (by kernel_rfl) (by kernel_rfl) (by kernel_rfl) (fun _ _ _ h => h) (Or.inl ⟨by rfl, ?_⟩) (HALL.out _) ?_
  rotate_left
  · intro w9 hw9; obtain ⟨⟨q1, q2, q3, q4, q5, q6⟩, q7⟩ := hw9; clear q7; go_simp; try with_reducible rfl
  try simp only [Act.put, List.setIfInBounds_toArray, List.set_cons_zero, List.set_cons_succ]
  refine RegL.take_w (i := 18) (v := ?_) SM rfl (by decide) (by kernel_rfl) (by kernel_rfl) (by kernel_rfl) (fun _ _ _ h => h) (Or.inl ⟨by rfl, ?_⟩) (HALL.out _) ?_
  rotate_left
  · intro w9 hw9; obtain ⟨⟨q1, q2, q3, q4, q5, q6⟩, q7⟩ := hw9; clear q7; go_simp; try with_reducible rfl
  try simp only [Act.put, List.setIfInBounds_toArray, List.set_cons_zero, List.set_cons_succ]
  refine RegL.take_w (i := 19) (v := ?_) SM rfl (by decide) (by kernel_rfl) (by kernel_rfl) (by kernel_rfl) (fun _ _ _ h => h) (Or.inl ⟨by rfl, ?_⟩) (HALL.out _) ?_
  rotate_left
  · intro w9 hw9; obtain ⟨⟨q1, q2, q3, q4, q5, q6⟩, q7⟩ := hw9; clear q7; go_simp; try with_reducible rfl
  try simp only [Act.put, List.setIfInBounds_toArray, List.set_cons_zero, List.set_cons_succ]
  refine RegL.take_w (i := 20) (v := ?_) SM rfl (by decide) (by kernel_rfl) (by kernel_rfl) (by kernel_rfl) (fun _ _ _ h => h) (Or.inl ⟨by rfl, ?_⟩) (HALL.out _) ?_
  rotate_left
  · intro w9 hw9; obtain ⟨⟨q1, q2, q3, q4, q5, q6⟩, q7⟩ := hw9; clear q7; go_simp; try with_reducible rfl
  try simp only [Act.put, List.setIfInBounds_toArray, List.set_cons_zero, List.set_cons_succ]
  refine RegL.take_w (i := 21) (v := ?_) SM rfl (by decide) (by kernel_rfl) (by kernel_rfl) (by kernel_rfl) (fun _ _ _ h => h) (Or.inl ⟨by rfl, ?_⟩) (HALL.out _) ?_
  rotate_left
  · intro w9 hw9; obtain ⟨⟨q1, q2, q3, q4, q5, q6⟩, q7⟩ := hw9; clear q7; go_simp; try with_reducible rfl
  try simp only [Act.put, List.setIfInBounds_toArray, List.set_cons_zero, List.set_cons_succ]
  refine RegL.take_w (i := 22) (v := ?_) SM rfl (by decide) (by kernel_rfl) (by kernel_rfl) (by kernel_rfl) (fun _ _ _ h => h) (Or.inl ⟨by rfl, ?_⟩) (HALL.out _) ?_
  rotate_left
  · intro w9 hw9; obtain ⟨⟨q1, q2, q3, q4, q5, q6⟩, q7⟩ := hw9; clear q7; go_simp; try with_reducible rfl
  try simp only [Act.put, List.setIfInBounds_toArray, List.set_cons_zero, List.set_cons_succ]
  refine RegL.take_w (i := 23) (v := ?_) SM rfl (by decide) (by kernel_rfl) (by kernel_rfl) (by kernel_rfl) (fun _ _ _ h => h) (Or.inl ⟨by rfl, ?_⟩) (HALL.out _) ?_
  rotate_left
  · intro w9 hw9; obtain ⟨⟨q1, q2, q3, q4, q5, q6⟩, q7⟩ := hw9; clear q7; go_simp; try with_reducible rfl
  try simp only [Act.put, List.setIfInBounds_toArray, List.set_cons_zero, List.set_cons_succ]
  refine RegL.step_of (i := 24) (by kernel_rfl) rfl (fun K' hK => ?_)
  go_simp
  go_at_call 46
  (with_reducible refine CE.out.mono ?_)
  rintro e w1 ⟨v, rfl, hv, hs⟩
  obtain ⟨Av, cv, rfl⟩ := byV_form hv
  have h1 := St.lift H.out.drew hs
  have x2' := h1.cellOf (g := bo) (cs := #[.slice Ao l.length co]) (t := 61) (by simp) 0 rfl
  have h2 := h1.newB #[.slice Av (encF (frm s n ys)).length cv] 22
  have x2'' := h2.cellOf (g := bo) (cs := #[.slice Ao l.length co]) (t := 61) (by simp) 0 rfl
  obtain ⟨v3, W3, hrun, h3, hv3⟩ := row_append (P := Tryd.prog) (h2.re (M := rowE (.slice Ao l.length co) 22 1 l.length (l.map fun i => i.1) ++ (byR (.slice Av (encF (frm s n ys)).length cv) (encF (frm s n ys)) ++ (lkE g s ++ (B bo #[.slice Ao l.length co] 61 :: (B bl #[pt g] 80 :: ((l.flatMap fun i => byR i.1 i.2) ++ R)))))) (fun x => by simp only [outE, cnt_append, cnt_cons]; omega)) HO.out.row 61 61 (.slice none 0 0) 24 Tryd.underlying61 infoL rfl (by have := HL.out; omega) (by have := HL.out; omega) ⟨w1.heap.size, 0, none⟩ 1 (.slice Av (encF (frm s n ys)).length cv) (blk_cell h2.hd 0) rfl
  obtain ⟨A3, c3', rfl⟩ := row_form hv3
  have y2 := h3.cellOf (g := bo) (cs := #[.slice Ao l.length co]) (t := 61) (by simp) 0 rfl
  have f2 := h3.freeOf (g := bo) (cs := #[.slice Ao l.length co]) (t := 61) (by simp) 0
  have H4 := Lib.hid ((h3.re (M := B bo #[.slice Ao l.length co] 61 :: (rowE (.slice A3 (l.length + 1) c3') 22 1 (l.length + 1) ((l.map fun i => i.1) ++ [.slice Av (encF (frm s n ys)).length cv]) ++ (byR (.slice Av (encF (frm s n ys)).length cv) (encF (frm s n ys)) ++ (lkE g s ++ (B bl #[pt g] 80 :: ((l.flatMap fun i => byR i.1 i.2) ++ R)))))) (fun x => by simp only [cnt_append, cnt_cons]; omega)).put (cs' := #[.slice A3 (l.length + 1) c3']) 0 (.slice A3 (l.length + 1) c3') rfl)
  have HRUN := Lib.hid hrun
  have H1 := Lib.hid h1
  have H2 := Lib.hid h2
  have H3 := Lib.hid h3
  have V3 := Lib.hid hv3
  have VV := Lib.hid hv
  clear hrun h3 hv3 hv hs h1 h2
  have M1 : SayL g bl s w1 := SK.out _ _ H1.out (by simp [lkE]) (by simp)
  have M2 : SayL g bl s (w1.alloc (.cells #[.slice Av (encF (frm s n ys)).length cv] 22)) := SK.out _ _ H2.out (by simp [lkE]) (by simp)
  have M3 : SayL g bl s W3 := SK.out _ _ H3.out (by simp [lkE]) (by simp)
  have M4 : SayL g bl s (W3.setCell ⟨bo, 0, none⟩ (.slice A3 (l.length + 1) c3')) := SK.out _ _ H4.out (by simp [lkE]) (by simp)
  refine hK _ _ ⟨M1, fun _ => x2'⟩ ?_
  clear hK K'
  refine RegL.step_of (i := 25) (by kernel_rfl) rfl (fun K' hK => ?_)
  go_simp
  refine hK _ _ ⟨M2, fun _ => x2''⟩ ?_
  clear hK K'
  refine RegL.step_of (i := 26) (by kernel_rfl) rfl (fun K' hK => ?_)
  refine step_append_run (o := ⟨some 32, _, _, _, _, _⟩) rfl (.tmp 6) (.tmp 31) 61 rfl (.slice Ao l.length co) (.slice (some ⟨w1.heap.size, 0, none⟩) 1 1) (.slice A3 (l.length + 1) c3') W3 rfl rfl HRUN.out ?_
  refine hK _ _ ⟨M3, fun e => by cases e⟩ ?_
  clear hK K'
  refine RegL.step_of (i := 27) (by kernel_rfl) rfl (fun K' hK => ?_)
  go_simp
  refine hK _ _ ⟨M4, fun e => by cases e⟩ ?_
  clear hK K'
  refine RegL.done_of (by kernel_rfl) ?_ _
  go_wp2_with fail
  go_end0
  refine ⟨rfl, .slice A3 (l.length + 1) c3', .slice Av (encF (frm s n ys)).length cv, ⟨by simpa using V3.out, fun i hi => ?_⟩, ?_⟩
  · rcases List.mem_append.1 hi with hi | hi
    · exact HO.out.by_ i hi
    · obtain rfl := List.mem_singleton.1 hi; exact VV.out
  · exact H4.out.re (fun x => by simp only [outE, List.length_append, List.length_cons, List.length_nil, Nat.zero_add, List.map_append, List.map_cons, List.map_nil, List.flatMap_append, List.flatMap_cons, List.flatMap_nil, cnt_append, cnt_cons, cnt_nil]; omega)
end Go.Proofs.YtoeiaimoppmjdaaDoor.Lk
/- What a tick says and leaves: plain. -/

namespace Go.Proofs.YtoeiaimoppmjdaaDoor.Lk
open Go.RowKit Go.Proofs.YtoeiaimoppmjdaaDoorW.PrintWords Go.Proofs.YtoeiaimoppmjdaaDoor.Mem Go.Proofs.YtoeiaimoppmjdaaDoor.Wr Go.Proofs.YtoeiaimoppmjdaaDoor.Bytes
open Go.Proofs.YtoeiaimoppmjdaaDoor.Pace (dbl dbl_range)
set_option linter.unusedVariables false
set_option linter.unusedSimpArgs false
/-- Is the pace asked? -/
def askP (s : LS) : Bool := decide (0 < s.items.length) || s.word
/-- Is it time? -/
def timeP (s : LS) : Bool := askP s && decide (s.left ≤ 1)
/-- Behind the question. -/
def pacedP (s : LS) : LS := if askP s = true then (if s.left ≤ 1 then { s with left := s.gap, gap := dbl s.cap s.gap } else { s with left := s.left - 1 }) else s
/-- What is said of the first q of the row, and up to which number it has gone out then. -/
def sayTo (s : LS) (tm : Bool) : Nat → List Frm × Nat
  | 0 => ([], s.out)
  | q + 1 => if tm = true ∨ (sayTo s tm q).2 < s.gone + q + 1 then ((sayTo s tm q).1 ++ [frm s (s.gone + q + 1) (s.items.getD q (NL, [])).2], max (sayTo s tm q).2 (s.gone + q + 1)) else sayTo s tm q
/-- So many may go out. -/
def mayP (s : LS) : Nat := min s.items.length s.window.toNat
def rowP' (s : LS) : List Frm × Nat := if 0 < s.known then sayTo s (timeP s) (mayP s) else ([], s.out)
/-- Is a word said? -/
def wordP (s : LS) : Bool := (rowP' s).1.isEmpty && (s.ack || s.asked || s.word && timeP s)
def saidP (s : LS) : List Frm := if wordP s = true then [frm s 0 []] else (rowP' s).1
def tickP (s : LS) : LS := { pacedP s with out := (rowP' s).2, ack := s.ack && (saidP s).isEmpty, asked := s.asked && (saidP s).isEmpty }
theorem pacedP_V {s : LS} (h : LkV s) : LkV (pacedP s) := by
  unfold pacedP
  split
  · split
    · exact ⟨h.c, dbl_range _ _ h.c h.g, ⟨by have := h.g; show 0 ≤ s.gap; omega, h.g.2⟩, h.row, h.by_⟩
    · exact ⟨h.c, h.g, ⟨by have := h.l; show 0 ≤ s.left - 1; omega, by have := h.l; show s.left - 1 ≤ s.cap; omega⟩, h.row, h.by_⟩
  · exact h
theorem paced_same (s : LS) : ∃ l g, pacedP s = { s with left := l, gap := g } := by
  unfold pacedP
  split
  · split
    · exact ⟨_, _, rfl⟩
    · exact ⟨_, s.gap, rfl⟩
  · exact ⟨s.left, s.gap, rfl⟩
theorem sayTo_len (s : LS) (tm : Bool) : ∀ q, (sayTo s tm q).1.length ≤ q
  | 0 => Nat.le_refl _
  | q + 1 => by
    have := sayTo_len s tm q
    unfold sayTo
    split
    · simp; exact this
    · omega
theorem sayTo_out (s : LS) (tm : Bool) : ∀ q, s.out ≤ (sayTo s tm q).2 ∧ (sayTo s tm q).2 ≤ max s.out (s.gone + q)
  | 0 => ⟨Nat.le_refl _, Nat.le_max_left _ _⟩
  | q + 1 => by
    have := sayTo_out s tm q
    unfold sayTo
    split
    · simp only; omega
    · omega
end Go.Proofs.YtoeiaimoppmjdaaDoor.Lk
/- Tick of a link. Printed by gen_tick.py. -/
namespace Go.Proofs.YtoeiaimoppmjdaaDoor.Lk
open Go.RowKit Go.Proofs.YtoeiaimoppmjdaaDoorW.PrintWords Go.Proofs.YtoeiaimoppmjdaaDoor.Mem Go.Proofs.YtoeiaimoppmjdaaDoor.Wr Go.Proofs.YtoeiaimoppmjdaaDoor.Bytes Go.Proofs.YtoeiaimoppmjdaaDoor.App
open Go.Proofs.YtoeiaimoppmjdaaDoor.Pace (nxt IsO dbl tick_yes tick_no)
set_option linter.unusedVariables false
set_option linter.unusedSimpArgs false
theorem flat_le (L : List BI) (it : BI) (h : it ∈ L) (x : Ent) : cnt x (byR it.1 it.2) ≤ cnt x (L.flatMap fun i => byR i.1 i.2) := by
  induction L with
  | nil => cases h
  | cons a L ih =>
    rw [List.flatMap_cons, cnt_append]
    rcases List.mem_cons.1 h with rfl | h
    · omega
    · have := ih h; omega
set_option maxRecDepth 20000 in
set_option maxHeartbeats 6400000 in
theorem tick_calls (w0 W : World) (R : List Ent) (g : Nat) (s : LS) (h : St w0 W (lkE g s ++ R)) (hV : LkV s) (hw : -9223372036854775808 ≤ s.window ∧ s.window ≤ 9223372036854775807) (hgo : s.gone + s.items.length + 1 < 18446744073709551616) (hou : s.out < 18446744073709551616) (hni : s.items.length ≤ 900) :
    Calls Tryd.prog 56 #[pt g] W fun e w' => ∃ ov l, e = .returned ov ∧ OutV ov l ∧ l.map (fun i => i.2) = (saidP s).map encF ∧ LkV (tickP s) ∧ St w0 w' (lkE g (tickP s) ++ (outE ov l ++ R)) := by
  obtain ⟨W1, hW1⟩ : ∃ W1, W1 = W.alloc (.cells #[pt g] 80) := ⟨_, rfl⟩
  obtain ⟨bl, hbl⟩ : ∃ bl, bl = W.heap.size := ⟨_, rfl⟩
  have h1 := h.newB #[pt g] 80
  rw [← hW1, ← hbl] at h1
  have h1' : St w0 W1 (lkE g s ++ (B bl #[pt g] 80 :: R)) := h1.re (fun x => by simp only [cnt_append, cnt_cons]; omega)
  obtain ⟨A5, c5, e5⟩ := oV_form hV.row
  obtain ⟨n, hn⟩ : ∃ n, n = s.items.length := ⟨_, rfl⟩
  rw [← hn] at e5 hgo hni
  have HN := Lib.hid hn
  have H1 := Lib.hid h1'
  have HV := Lib.hid hV
  have HW1 := Lib.hid hW1
  have HBL := Lib.hid hbl
  have E5 := Lib.hid e5
  have HW := Lib.hid hw
  have HGO := Lib.hid hgo
  have HOU := Lib.hid hou
  have HNI := Lib.hid hni
  clear h1 h1' h hV hW1 hbl e5 hw hgo hou hni hn
  go_enter Tryd.func56, Tryd.ntmps56
  go_upto_region 1 with fail
  rw [← HW1.out, ← HBL.out]
  go_cut [3] (fun s3 wx => s3 = .bool (timeP s) ∧ St w0 wx (lkE g (pacedP s) ++ (B bl #[pt g] 80 :: R)))
  case first =>
    have x0 := H1.out.cellOf (g := bl) (cs := #[pt g]) (t := 80) (by simp) 0 rfl
    have k5 : W1.cell? ⟨g, 5, none⟩ = some s.iv := lk_cell H1.out 5 rfl
    have k12 : W1.cell? ⟨g, 12, none⟩ = some (.bool s.word) := lk_cell H1.out 12 rfl
    have k9 : W1.cell? ⟨g, 9, none⟩ = some (pt s.gp) := lk_cell H1.out 9 rfl
    rw [E5.out] at k5
    by_cases hn : 0 < n
    · have i1 : (0 : Int) < (n : Int) := by omega
      have HASK : Hid (askP s = true) := by show askP s = true; unfold askP; rw [← HN.out, decide_eq_true hn]; rfl
      clear hn
      by_cases hl : s.left ≤ 1
      · have CP := Lib.hid (tick_yes s.gp s.cap s.left s.gap W1 (St.pace H1.out HV.out) hl)
        have ep : pacedP s = { s with left := s.gap, gap := dbl s.cap s.gap } := by unfold pacedP; rw [if_pos HASK.out, if_pos hl]
        have et : timeP s = true := by unfold timeP; rw [HASK.out, decide_eq_true hl]; rfl
        have EP := Lib.hid ep
        have ET := Lib.hid et
        clear ep et hl
        go_wp2_with fail
        refine CP.out.mono ?_; rintro e w2 ⟨rfl, ho, hg⟩
        have h2 := (St.paced H1.out HV.out ho hg).1
        have H2 := Lib.hid h2
        clear ho hg h2
        go_wp2_with fail
        go_meet
        exact ⟨by rw [ET.out], by rw [EP.out]; exact H2.out⟩
      · have CP := Lib.hid (tick_no s.gp s.cap s.left s.gap W1 (St.pace H1.out HV.out) (by omega))
        have ep : pacedP s = { s with left := s.left - 1, gap := s.gap } := by unfold pacedP; rw [if_pos HASK.out, if_neg hl]
        have et : timeP s = false := by unfold timeP; rw [HASK.out, decide_eq_false hl]; rfl
        have EP := Lib.hid ep
        have ET := Lib.hid et
        clear ep et hl
        go_wp2_with fail
        refine CP.out.mono ?_; rintro e w2 ⟨rfl, ho, hg⟩
        have h2 := (St.paced H1.out HV.out ho hg).1
        have H2 := Lib.hid h2
        clear ho hg h2
        go_wp2_with fail
        go_meet
        exact ⟨by rw [ET.out], by rw [EP.out]; exact H2.out⟩
    · have hn0 : n = 0 := by omega
      rw [hn0] at k5
      cases hwd : s.word with
      | true =>
        have HASK : Hid (askP s = true) := by show askP s = true; unfold askP; rw [hwd, Bool.or_true]
        rw [hwd] at k12
        clear hn
        by_cases hl : s.left ≤ 1
        · have CP := Lib.hid (tick_yes s.gp s.cap s.left s.gap W1 (St.pace H1.out HV.out) hl)
          have ep : pacedP s = { s with left := s.gap, gap := dbl s.cap s.gap } := by unfold pacedP; rw [if_pos HASK.out, if_pos hl]
          have et : timeP s = true := by unfold timeP; rw [HASK.out, decide_eq_true hl]; rfl
          have EP := Lib.hid ep
          have ET := Lib.hid et
          clear ep et hl
          go_wp2_with fail
          refine CP.out.mono ?_; rintro e w2 ⟨rfl, ho, hg⟩
          have h2 := (St.paced H1.out HV.out ho hg).1
          have H2 := Lib.hid h2
          clear ho hg h2
          go_wp2_with fail
          go_meet
          exact ⟨by rw [ET.out], by rw [EP.out]; exact H2.out⟩
        · have CP := Lib.hid (tick_no s.gp s.cap s.left s.gap W1 (St.pace H1.out HV.out) (by omega))
          have ep : pacedP s = { s with left := s.left - 1, gap := s.gap } := by unfold pacedP; rw [if_pos HASK.out, if_neg hl]
          have et : timeP s = false := by unfold timeP; rw [HASK.out, decide_eq_false hl]; rfl
          have EP := Lib.hid ep
          have ET := Lib.hid et
          clear ep et hl
          go_wp2_with fail
          refine CP.out.mono ?_; rintro e w2 ⟨rfl, ho, hg⟩
          have h2 := (St.paced H1.out HV.out ho hg).1
          have H2 := Lib.hid h2
          clear ho hg h2
          go_wp2_with fail
          go_meet
          exact ⟨by rw [ET.out], by rw [EP.out]; exact H2.out⟩
      | false =>
        have HASK : askP s = false := by unfold askP; rw [← HN.out, hwd, decide_eq_false hn]; rfl
        rw [hwd] at k12
        have ep : pacedP s = s := by unfold pacedP; rw [HASK]; rfl
        have et : timeP s = false := by unfold timeP; rw [HASK]; rfl
        have EP := Lib.hid ep
        have ET := Lib.hid et
        clear ep et HASK hn
        go_wp2_with fail
        go_meet
        exact ⟨by rw [ET.out], by rw [EP.out]; exact H1.out⟩
  case rest =>
    obtain ⟨hs3, h2⟩ := hcut
    obtain ⟨tm, htm⟩ : ∃ tm, tm = timeP s := ⟨_, rfl⟩
    rw [← htm] at hs3
    subst hs3
    obtain ⟨w2, hw2⟩ : ∃ w2, w2 = wc := ⟨_, rfl⟩
    rw [← hw2] at h2 ⊢
    clear hw2
    obtain ⟨pl, pg, e2⟩ := paced_same s
    obtain ⟨s2, hs2⟩ : ∃ s2, s2 = pacedP s := ⟨_, rfl⟩
    have V2 := Lib.hid (show LkV s2 by rw [hs2]; exact pacedP_V HV.out)
    rw [← hs2] at h2 e2
    have E2 := Lib.hid e2
    have HS2 := Lib.hid hs2
    have HTM := Lib.hid htm
    obtain ⟨W3, hW3⟩ : ∃ W3, W3 = w2.alloc (.cells #[NL] 61) := ⟨_, rfl⟩
    obtain ⟨bo, hbo⟩ : ∃ bo, bo = w2.heap.size := ⟨_, rfl⟩
    have h3 := h2.newB #[NL] 61
    rw [← hW3, ← hbo] at h3
    have h3' : St w0 W3 (lkE g s2 ++ (B bo #[NL] 61 :: (B bl #[pt g] 80 :: (outE NL [] ++ R)))) := h3.re (fun x => by simp only [outE, rowE_nil, List.length_nil, List.map_nil, List.flatMap_nil, cnt_append, cnt_cons, cnt_nil]; omega)
    have H3 := Lib.hid h3'
    have HW3 := Lib.hid hW3
    have HBO := Lib.hid hbo
    clear h2 e2 hs2 htm h3 h3' hW3 hbo
    go_upto_region 4 with fail
    rw [← HBO.out, ← HW3.out]
    go_cut [34] (fun s34 wx => s34 = .bool (decide (0 < s.known)) ∧ wx = W3)
    case first =>
      have y0 := H3.out.cellOf (g := bl) (cs := #[pt g]) (t := 80) (by simp) 0 rfl
      have d3 : W3.cell? ⟨g, 3, none⟩ = some (.int .u64 (s.known : Int)) := by
        have q : W3.cell? ⟨g, 3, none⟩ = some (.int .u64 (s2.known : Int)) := lk_cell H3.out 3 rfl
        rw [E2.out] at q; exact q
      by_cases hk : 0 < s.known
      · have i1 : (0 : Int) < (s.known : Int) := by omega
        have ek := Lib.hid (decide_eq_true hk)
        go_wp2_with fail
        go_meet
        exact ⟨by rw [ek.out], rfl⟩
      · have i1 : s.known = 0 := by omega
        rw [i1] at d3
        have ek := Lib.hid (decide_eq_false hk)
        clear hk
        go_wp2_with fail
        go_meet
        exact ⟨by rw [ek.out], rfl⟩
    case rest =>
      obtain ⟨hs34, hw3⟩ := hcut
      subst hs34
      rw [hw3]
      clear hw3
      go_upto_if 34 with fail
      go_cut [] (fun wx => ∃ ov l, OutV ov l ∧ l.map (fun i => i.2) = (rowP' s).1.map encF ∧ St w0 wx (lkE g { s2 with out := (rowP' s).2 } ++ (B bo #[ov] 61 :: (B bl #[pt g] 80 :: (outE ov l ++ R)))))
      case first =>
        by_cases hk : 0 < s.known
        · rw [decide_eq_true hk]
          have hcap : n ≤ c5 := by
            rcases HV.out.row.2 with ⟨q1, q2⟩ | ⟨_, _, _, q1, q2, _⟩
            · rw [HN.out, q2]; exact Nat.zero_le _
            · rw [E5.out] at q1; injection q1 with _ _ q1; rw [q1, HN.out]; exact q2
          obtain ⟨wv, hwv⟩ : ∃ wv, wv = s.window := ⟨_, rfl⟩
          obtain ⟨k, hk1⟩ : ∃ k, k = mayP s := ⟨_, rfl⟩
          have hkn : k ≤ n := by rw [hk1, HN.out]; exact Nat.min_le_left _ _
          have hmm : min (n : Int) (max wv 0) = (k : Int) := by rw [hk1, HN.out, hwv]; unfold mayP; omega
          have kc : (k : Int) ≤ (c5 : Int) := by omega
          have k0 : (0 : Int) ≤ (k : Int) := by omega
          have k9 : k ≤ 900 := by have := HNI.out; omega
          have HK1 := Lib.hid hk1
          have HKN := Lib.hid hkn
          have HKK := Lib.hid hk
          have y0 := H3.out.drew.cellOf (g := bl) (cs := #[pt g]) (t := 80) (by simp) 0 rfl
          have d5 : W3.drew.cell? ⟨g, 5, none⟩ = some (.slice A5 n c5) := by
            have q : W3.drew.cell? ⟨g, 5, none⟩ = some s2.iv := lk_cell H3.out.drew 5 rfl
            rw [E2.out] at q; rw [← E5.out]; exact q
          have d4 : W3.drew.cell? ⟨g, 4, none⟩ = some (.int .i64 wv) := by
            have q : W3.drew.cell? ⟨g, 4, none⟩ = some (.int .i64 s2.window) := lk_cell H3.out.drew 4 rfl
            rw [E2.out] at q; rw [hwv]; exact q
          have HALL : Hid (W3.drew.cell? ⟨bl, 0, none⟩ = some (pt g) ∧ W3.drew.cell? ⟨g, 5, none⟩ = some (.slice A5 n c5) ∧ W3.drew.cell? ⟨g, 4, none⟩ = some (.int .i64 wv)) := ⟨y0, d5, d4⟩
          clear hwv hk1 hkn hk y0 d5 d4 hcap
          go_upto_region 5 with fail
          go_cut [52, 53, 54] (fun s52 s53 s54 wx => s52 = .slice A5 k c5 ∧ s53 = .int .i64 k ∧ s54 = .int .i64 0 ∧ wx = W3.drew)
          case first =>
            have SM : ∀ (bb0 : Bool) (w9 : World), (fun (_ : Bool) (w9 : World) => w9.cell? ⟨bl, 0, none⟩ = some (pt g) ∧ w9.cell? ⟨g, 5, none⟩ = some (.slice A5 n c5) ∧ w9.cell? ⟨g, 4, none⟩ = some (.int .i64 wv)) bb0 w9 → (fun (_ : Bool) (w9 : World) => w9.cell? ⟨bl, 0, none⟩ = some (pt g) ∧ w9.cell? ⟨g, 5, none⟩ = some (.slice A5 n c5) ∧ w9.cell? ⟨g, 4, none⟩ = some (.int .i64 wv)) true w9 := fun _ _ h => h
            refine RegL.begin_of (k := 99) (S := fun (_ : Bool) (w9 : World) => w9.cell? ⟨bl, 0, none⟩ = some (pt g) ∧ w9.cell? ⟨g, 5, none⟩ = some (.slice A5 n c5) ∧ w9.cell? ⟨g, 4, none⟩ = some (.int .i64 wv)) (by kernel_rfl) ?_
            refine RegL.take_w (i := 0) (oi := ⟨some 35, _, _, _, _, _⟩) (v := ?_) SM rfl (by decide) (by kernel_rfl) (by kernel_rfl) (by kernel_rfl) (fun _ _ _ h => h) (Or.inl ⟨by rfl, ?_⟩) (HALL.out) ?_
            rotate_left
            · intro w9 hw9; obtain ⟨q1, q2, q3⟩ := hw9; go_simp; try with_reducible rfl
            try simp only [Act.put, List.setIfInBounds_toArray, List.set_cons_zero, List.set_cons_succ]
            refine RegL.take_w (i := 1) (oi := ⟨some 36, _, _, _, _, _⟩) (v := ?_) SM rfl (by decide) (by kernel_rfl) (by kernel_rfl) (by kernel_rfl) (fun _ _ _ h => h) (Or.inl ⟨by rfl, ?_⟩) (HALL.out) ?_
            rotate_left
            · intro w9 hw9; obtain ⟨q1, q2, q3⟩ := hw9; go_simp; try with_reducible rfl
            try simp only [Act.put, List.setIfInBounds_toArray, List.set_cons_zero, List.set_cons_succ]
            refine RegL.take_w (i := 2) (oi := ⟨some 37, _, _, _, _, _⟩) (v := ?_) SM rfl (by decide) (by kernel_rfl) (by kernel_rfl) (by kernel_rfl) (fun _ _ _ h => h) (Or.inl ⟨by rfl, ?_⟩) (HALL.out) ?_
            rotate_left
            · intro w9 hw9; obtain ⟨q1, q2, q3⟩ := hw9; go_simp; try with_reducible rfl
            try simp only [Act.put, List.setIfInBounds_toArray, List.set_cons_zero, List.set_cons_succ]
            refine RegL.take_w (i := 3) (oi := ⟨some 38, _, _, _, _, _⟩) (v := ?_) SM rfl (by decide) (by kernel_rfl) (by kernel_rfl) (by kernel_rfl) (fun _ _ _ h => h) (Or.inl ⟨by rfl, ?_⟩) (HALL.out) ?_
            rotate_left
            · intro w9 hw9; obtain ⟨q1, q2, q3⟩ := hw9; go_simp; try with_reducible rfl
            try simp only [Act.put, List.setIfInBounds_toArray, List.set_cons_zero, List.set_cons_succ]
            refine RegL.take_w (i := 4) (oi := ⟨some 39, _, _, _, _, _⟩) (v := ?_) SM rfl (by decide) (by kernel_rfl) (by kernel_rfl) (by kernel_rfl) (fun _ _ _ h => h) (Or.inl ⟨by rfl, ?_⟩) (HALL.out) ?_
            rotate_left
            · intro w9 hw9; obtain ⟨q1, q2, q3⟩ := hw9; go_simp; try with_reducible rfl
            try simp only [Act.put, List.setIfInBounds_toArray, List.set_cons_zero, List.set_cons_succ]
            refine RegL.take_w (i := 5) (oi := ⟨some 40, _, _, _, _, _⟩) (v := ?_) SM rfl (by decide) (by kernel_rfl) (by kernel_rfl) (by kernel_rfl) (fun _ _ _ h => h) (Or.inl ⟨by rfl, ?_⟩) (HALL.out) ?_
            rotate_left
            · intro w9 hw9; obtain ⟨q1, q2, q3⟩ := hw9; go_simp; try with_reducible rfl
            try simp only [Act.put, List.setIfInBounds_toArray, List.set_cons_zero, List.set_cons_succ]
            refine RegL.take_w (i := 6) (oi := ⟨some 41, _, _, _, _, _⟩) (v := ?_) SM rfl (by decide) (by kernel_rfl) (by kernel_rfl) (by kernel_rfl) (fun _ _ _ h => h) (Or.inl ⟨by rfl, ?_⟩) (HALL.out) ?_
            rotate_left
            · intro w9 hw9; obtain ⟨q1, q2, q3⟩ := hw9; go_simp; try with_reducible rfl
            try simp only [Act.put, List.setIfInBounds_toArray, List.set_cons_zero, List.set_cons_succ]
            refine RegL.take_w (i := 7) (oi := ⟨some 42, _, _, _, _, _⟩) (v := ?_) SM rfl (by decide) (by kernel_rfl) (by kernel_rfl) (by kernel_rfl) (fun _ _ _ h => h) (Or.inl ⟨by rfl, ?_⟩) (HALL.out) ?_
            rotate_left
            · intro w9 hw9; obtain ⟨q1, q2, q3⟩ := hw9; go_simp; try with_reducible rfl
            try simp only [Act.put, List.setIfInBounds_toArray, List.set_cons_zero, List.set_cons_succ]
            refine RegL.take_w (i := 8) (oi := ⟨some 43, _, _, _, _, _⟩) (v := ?_) SM rfl (by decide) (by kernel_rfl) (by kernel_rfl) (by kernel_rfl) (fun _ _ _ h => h) (Or.inl ⟨by rfl, ?_⟩) (HALL.out) ?_
            rotate_left
            · intro w9 hw9; obtain ⟨q1, q2, q3⟩ := hw9; go_simp; try with_reducible rfl
            try simp only [Act.put, List.setIfInBounds_toArray, List.set_cons_zero, List.set_cons_succ]
            refine RegL.take_w (i := 9) (oi := ⟨some 44, _, _, _, _, _⟩) (v := ?_) SM rfl (by decide) (by kernel_rfl) (by kernel_rfl) (by kernel_rfl) (fun _ _ _ h => h) (Or.inl ⟨by rfl, ?_⟩) (HALL.out) ?_
            rotate_left
            · intro w9 hw9; obtain ⟨q1, q2, q3⟩ := hw9; go_simp; try with_reducible rfl
            try simp only [Act.put, List.setIfInBounds_toArray, List.set_cons_zero, List.set_cons_succ]
            refine RegL.take_w (i := 10) (oi := ⟨some 45, _, _, _, _, _⟩) (v := ?_) SM rfl (by decide) (by kernel_rfl) (by kernel_rfl) (by kernel_rfl) (fun _ _ _ h => h) (Or.inl ⟨by rfl, ?_⟩) (HALL.out) ?_
            rotate_left
            · intro w9 hw9; obtain ⟨q1, q2, q3⟩ := hw9; go_simp; try with_reducible rfl
            try simp only [Act.put, List.setIfInBounds_toArray, List.set_cons_zero, List.set_cons_succ]
            refine RegL.take_w (i := 11) (oi := ⟨some 46, _, _, _, _, _⟩) (v := ?_) SM rfl (by decide) (by kernel_rfl) (by kernel_rfl) (by kernel_rfl) (fun _ _ _ h => h) (Or.inl ⟨by rfl, ?_⟩) (HALL.out) ?_
            rotate_left
            · intro w9 hw9; obtain ⟨q1, q2, q3⟩ := hw9; go_simp; try with_reducible rfl
            try simp only [Act.put, List.setIfInBounds_toArray, List.set_cons_zero, List.set_cons_succ]
            refine RegL.take_w (i := 12) (oi := ⟨some 47, _, _, _, _, _⟩) (v := ?_) SM rfl (by decide) (by kernel_rfl) (by kernel_rfl) (by kernel_rfl) (fun _ _ _ h => h) (Or.inl ⟨by rfl, ?_⟩) (HALL.out) ?_
            rotate_left
            · intro w9 hw9; obtain ⟨q1, q2, q3⟩ := hw9; go_simp; try with_reducible rfl
            try simp only [Act.put, List.setIfInBounds_toArray, List.set_cons_zero, List.set_cons_succ]
            refine RegL.take_w (i := 13) (oi := ⟨some 48, _, _, _, _, _⟩) (v := ?_) SM rfl (by decide) (by kernel_rfl) (by kernel_rfl) (by kernel_rfl) (fun _ _ _ h => h) (Or.inl ⟨by rfl, ?_⟩) (HALL.out) ?_
            rotate_left
            · intro w9 hw9; obtain ⟨q1, q2, q3⟩ := hw9; go_simp; try with_reducible rfl
            try simp only [Act.put, List.setIfInBounds_toArray, List.set_cons_zero, List.set_cons_succ]
            refine RegL.take_w (i := 14) (oi := ⟨some 49, _, _, _, _, _⟩) (v := ?_) SM rfl (by decide) (by kernel_rfl) (by kernel_rfl) (by kernel_rfl) (fun _ _ _ h => h) (Or.inl ⟨by rfl, ?_⟩) (HALL.out) ?_
            rotate_left
            · intro w9 hw9; obtain ⟨q1, q2, q3⟩ := hw9; go_simp; try with_reducible rfl
            try simp only [Act.put, List.setIfInBounds_toArray, List.set_cons_zero, List.set_cons_succ]
            refine RegL.take_w (i := 15) (oi := ⟨some 50, _, _, _, _, _⟩) (v := ?_) SM rfl (by decide) (by kernel_rfl) (by kernel_rfl) (by kernel_rfl) (fun _ _ _ h => h) (Or.inl ⟨by rfl, ?_⟩) (HALL.out) ?_
            rotate_left
            · intro w9 hw9; obtain ⟨q1, q2, q3⟩ := hw9; go_simp; try with_reducible rfl
            try simp only [Act.put, List.setIfInBounds_toArray, List.set_cons_zero, List.set_cons_succ]
            refine RegL.take_w (i := 16) (oi := ⟨some 51, _, _, _, _, _⟩) (v := ?_) SM rfl (by decide) (by kernel_rfl) (by kernel_rfl) (by kernel_rfl) (fun _ _ _ h => h) (Or.inl ⟨by rfl, ?_⟩) (HALL.out) ?_
            rotate_left
            · intro w9 hw9; obtain ⟨q1, q2, q3⟩ := hw9; go_simp; try with_reducible rfl
            try simp only [Act.put, List.setIfInBounds_toArray, List.set_cons_zero, List.set_cons_succ]
            refine RegL.take_w (i := 17) (oi := ⟨some 52, _, _, _, _, _⟩) (v := ?_) SM rfl (by decide) (by kernel_rfl) (by kernel_rfl) (by kernel_rfl) (fun _ _ _ h => h) (Or.inl ⟨by rfl, ?_⟩) (HALL.out) ?_
            rotate_left
            · intro w9 hw9; obtain ⟨q1, q2, q3⟩ := hw9; go_simp; try with_reducible rfl
            try simp only [Act.put, List.setIfInBounds_toArray, List.set_cons_zero, List.set_cons_succ]
            refine RegL.take_w (i := 18) (oi := ⟨some 53, _, _, _, _, _⟩) (v := ?_) SM rfl (by decide) (by kernel_rfl) (by kernel_rfl) (by kernel_rfl) (fun _ _ _ h => h) (Or.inl ⟨by rfl, ?_⟩) (HALL.out) ?_
            rotate_left
            · intro w9 hw9; obtain ⟨q1, q2, q3⟩ := hw9; go_simp; try with_reducible rfl
            try simp only [Act.put, List.setIfInBounds_toArray, List.set_cons_zero, List.set_cons_succ]
            refine RegL.take_w (i := 19) (oi := ⟨some 54, _, _, _, _, _⟩) (v := ?_) SM rfl (by decide) (by kernel_rfl) (by kernel_rfl) (by kernel_rfl) (fun _ _ _ h => h) (Or.inl ⟨by rfl, ?_⟩) (HALL.out) ?_
            rotate_left
            · intro w9 hw9; obtain ⟨q1, q2, q3⟩ := hw9; go_simp; try with_reducible rfl
            try simp only [Act.put, List.setIfInBounds_toArray, List.set_cons_zero, List.set_cons_succ]
            refine RegL.done_of (by kernel_rfl) ?_ _
            go_wp2_with fail
            go_meet
            exact ⟨rfl, rfl, rfl, rfl⟩
          case rest =>
            obtain ⟨q52, q53, q54, hwc⟩ := hcut
            subst q52 q53 q54
            rw [hwc]
            clear hwc HALL hmm
            obtain ⟨W4, hW4⟩ : ∃ W4, W4 = W3.drew := ⟨_, rfl⟩
            have h4 := H3.out.drew
            rw [← hW4] at h4 ⊢
            have H4 := Lib.hid h4
            clear hW4 h4
            go_wp2_with fail
            go_loopg [54] k (fun gk s54 wr => ∃ q : Nat, gk = k - q ∧ q ≤ k ∧ s54 = .int .i64 q ∧ ∃ ov l, OutV ov l ∧ l.map (fun i => i.2) = (sayTo s tm q).1.map encF ∧ St w0 wr (lkE g { s2 with out := (sayTo s tm q).2 } ++ (B bo #[ov] 61 :: (B bl #[pt g] 80 :: (outE ov l ++ R)))))
            case atStart =>
              have eo : ({ s2 with out := s.out } : LS) = s2 := by rw [E2.out]
              exact ⟨0, rfl, Nat.zero_le _, rfl, NL, [], outV_nil, rfl, by show St w0 _ (lkE g { s2 with out := s.out } ++ _); rw [eo]; exact H4.out⟩
            case round =>
              obtain ⟨q, hgk, hq, rfl, ov, l, hov, hll, hs⟩ := hrel
              have HGK := Lib.hid hgk
              have HOV := Lib.hid hov
              have HLL := Lib.hid hll
              have HQ := Lib.hid hq
              obtain ⟨o, ho⟩ : ∃ o, o = (sayTo s tm q).2 := ⟨_, rfl⟩
              rw [← ho] at hs
              have HS := Lib.hid hs
              have HO := Lib.hid ho
              clear hgk hov hll hs hq ho
              by_cases hlt : q < k
              · have i1 : (q : Int) < (k : Int) := by omega
                have i2 : (0 : Int) ≤ (q : Int) := by omega
                have hqn : q < s.items.length := by have := HKN.out; have := HN.out; omega
                obtain ⟨g5, off, rfl⟩ : ∃ g5 off, A5 = some ⟨g5, off, none⟩ := by
                  rcases HV.out.row.2 with ⟨q1, q2⟩ | ⟨g5, off, _, q1, _⟩
                  · omega
                  · rw [E5.out] at q1; injection q1 with q1; exact ⟨g5, off, q1⟩
                obtain ⟨it, hit⟩ : ∃ it, it = s.items[q] := ⟨_, rfl⟩
                have him : it ∈ s.items := by rw [hit]; exact List.getElem_mem _
                obtain ⟨hib, hiy, hil⟩ := HV.out.by_ it him
                have zc := o_at (g := g5) (off := off) (m := n) (cap := c5) (n := n) (xs := s.items.map fun i => i.1) (HS.out.re (M := oE (.slice (some ⟨g5, off, none⟩) n c5) 22 n (s.items.map fun i => i.1) ++ []) (fun x => by simp only [lkE, itemsE, E2.out, E5.out, ← HN.out, cnt_append, cnt_cons, cnt_nil]; omega)) (by rw [List.length_map, HN.out]) q (by rw [HN.out]; exact hqn)
                rw [List.getElem?_map, List.getElem?_eq_getElem hqn, Option.map_some, ← hit] at zc
                have hcb : ∀ x, cnt x (byR it.1 it.2) ≤ cnt x (s.items.flatMap fun i => byR i.1 i.2) := flat_le _ _ him
                obtain ⟨iv, ys⟩ := it
                simp only at hib hiy hil zc hcb
                obtain ⟨Ai, ci, rfl⟩ := byV_form hib
                have hry := by_reads HS.out (fun x => by have := hcb x; simp only [lkE, itemsE, E2.out, cnt_append, cnt_cons]; omega) hib
                have hgl : l.length ≤ q := by have := sayTo_len s tm q; have e := congrArg List.length HLL.out; simp at e; omega
                obtain ⟨m, hm⟩ : ∃ m, m = s.gone + q + 1 := ⟨_, rfl⟩
                have u1 : IntKind.u64.wrap (q : Int) = (q : Int) := IntWalk.u64_in _ ⟨by omega, by have := HNI.out; have := HKN.out; omega⟩
                have u2 : IntKind.u64.wrap ((s.gone : Int) + (q : Int)) = (s.gone : Int) + (q : Int) := IntWalk.u64_in _ ⟨by omega, by have := HGO.out; have := HKN.out; omega⟩
                have u3 : IntKind.u64.wrap ((s.gone : Int) + (q : Int) + 1) = (m : Int) := by rw [IntWalk.u64_in _ ⟨by omega, by have := HGO.out; have := HKN.out; omega⟩, hm]; omega
                have ef : frm { s2 with out := o } m ys = frm s m ys := by rw [E2.out]
                have CS := Lib.hid (say_calls w0 wr R g bo bl { s2 with out := o } ov l m Ai ci ys HS.out HOV.out hry hiy (by have := HNI.out; have := HKN.out; omega))
                rw [ef] at CS
                have HEY : Hid (ys = (s.items.getD q (NL, [])).2) := by show ys = _; rw [List.getD_eq_getElem?_getD, List.getElem?_eq_getElem hqn]; show ys = (s.items[q]).2; rw [← hit]
                have c0 : wr.cell? ⟨bl, 0, none⟩ = some (pt g) := HS.out.cellOf (g := bl) (cs := #[pt g]) (t := 80) (by simp) 0 rfl
                have c6 : wr.cell? ⟨g, 6, none⟩ = some (.int .u64 (s.gone : Int)) := by
                  have q : wr.cell? ⟨g, 6, none⟩ = some (.int .u64 (s2.gone : Int)) := lk_cell HS.out 6 rfl
                  rw [E2.out] at q; exact q
                have c7 : wr.cell? ⟨g, 7, none⟩ = some (.int .u64 (o : Int)) := lk_cell HS.out 7 rfl
                have HM := Lib.hid hm
                have HLT := Lib.hid hlt
                clear hit him hib hiy hil hcb hry hgl hm ef hqn hlt
                go_upto_region 9 with fail
                go_cut [76] (fun s76 wx => s76 = .bool (decide (tm = true ∨ o < m)) ∧ wx = wr)
                case first =>
                  cases tm with
                  | true =>
                    go_wp2_with fail
                    go_meet
                    exact ⟨by simp, rfl⟩
                  | false =>
                    by_cases hom : o < m
                    · have j1 : (o : Int) < (m : Int) := by omega
                      go_wp2_with fail
                      go_meet
                      exact ⟨by simp; omega, rfl⟩
                    · have j1 : ¬ (o : Int) < (m : Int) := by omega
                      go_wp2_with fail
                      go_meet
                      exact ⟨by simp; omega, rfl⟩
                case rest =>
                  obtain ⟨hs76, hwc⟩ := hcut
                  subst hs76
                  rw [hwc]
                  clear hwc
                  go_upto_if 76 with fail
                  by_cases hc : tm = true ∨ o < m
                  · rw [decide_eq_true hc]
                    have hst : sayTo s tm (q + 1) = ((sayTo s tm q).1 ++ [frm s m ys], max o m) := by
                      show (if _ then _ else _) = _
                      rw [← HO.out, ← HM.out, if_pos hc, ← HEY.out]
                    have HST := Lib.hid hst
                    obtain ⟨om, hom⟩ : ∃ om, om = max o m := ⟨_, rfl⟩
                    have hmx : max (o : Int) (m : Int) = (om : Int) := by rw [hom]; omega
                    rw [← hom] at HST
                    clear hst hc hom
                    go_wp2_with fail
                    refine CS.out.mono ?_; rintro e w5 ⟨rfl, ov', v, hov', hs5⟩
                    have b0 : w5.cell? ⟨bl, 0, none⟩ = some (pt g) := hs5.cellOf (g := bl) (cs := #[pt g]) (t := 80) (by simp) 0 rfl
                    have b7 : w5.cell? ⟨g, 7, none⟩ = some (.int .u64 (o : Int)) := lk_cell hs5 7 rfl
                    have f7 := lk_free hs5 7
                    have H5 := Lib.hid hs5
                    have HOV' := Lib.hid hov'
                    clear hs5 hov' c0 c6 c7 zc
                    go_wp2_with fail
                    go_region
                    all_goals
                      go_wp2_with fail
                      go_roundg (k - (q + 1))
                      case measure => have := HGK.out; have := HLT.out; omega
                      case rel =>
                        refine ⟨q + 1, rfl, by have := HLT.out; omega, by go_num, ov', l ++ [(v, encF (frm s m ys))], HOV'.out, by rw [HST.out, List.map_append, HLL.out, List.map_append]; rfl, ?_⟩
                        rw [HST.out]
                        show St w0 _ (lkE g { s2 with out := om } ++ _)
                        exact (((H5.out.re (M := B g (lkC { s2 with out := o }) 128 :: (B s2.gp (pcC s2) 135 :: (itemsE s2 ++ (B bo #[ov'] 61 :: (B bl #[pt g] 80 :: (outE ov' (l ++ [(v, encF (frm s m ys))]) ++ R)))))) (fun x => by simp only [lkE, pcC, itemsE, cnt_append, cnt_cons]; omega)).put (cs' := lkC { s2 with out := om }) 7 (.int .u64 (om : Int)) rfl).drew).re (fun x => by simp only [lkE, pcC, itemsE, cnt_append, cnt_cons]; omega)
                  · rw [decide_eq_false hc]
                    have hst : sayTo s tm (q + 1) = sayTo s tm q := by
                      show (if _ then _ else _) = _
                      rw [← HO.out, ← HM.out, if_neg hc]
                    have HST := Lib.hid hst
                    clear hst hc
                    go_wp2_with fail
                    go_roundg (k - (q + 1))
                    case measure => have := HGK.out; have := HLT.out; omega
                    case rel => exact ⟨q + 1, rfl, by have := HLT.out; omega, by go_num, ov, l, HOV.out, by rw [HST.out]; exact HLL.out, by rw [HST.out, ← HO.out]; exact HS.out⟩
              · have hqk : q = k := by have := HQ.out; omega
                have i1 : ¬ (q : Int) < (k : Int) := by omega
                have er : rowP' s = sayTo s tm q := by unfold rowP'; rw [if_pos HKK.out, ← HTM.out, ← HK1.out, hqk]
                have ER := Lib.hid er
                clear er
                go_wp2_with fail
                go_meet
                rw [ER.out, ← HO.out]
                exact ⟨ov, l, HOV.out, HLL.out, HS.out⟩
        · rw [decide_eq_false hk]
          have er : rowP' s = ([], s.out) := by unfold rowP'; rw [if_neg hk]
          have eo : ({ s2 with out := s.out } : LS) = s2 := by rw [E2.out]
          have ER := Lib.hid er
          have EO := Lib.hid eo
          clear er eo hk
          go_wp2_with fail
          go_meet
          rw [ER.out]
          exact ⟨NL, [], outV_nil, rfl, by show St w0 _ (lkE g { s2 with out := s.out } ++ _); rw [EO.out]; exact H3.out⟩
      case rest =>
        obtain ⟨ov, l, hov, hll, hs⟩ := hcut
        obtain ⟨s4, hs4⟩ : ∃ s4 : LS, s4 = { s2 with out := (rowP' s).2 } := ⟨_, rfl⟩
        rw [← hs4] at hs
        obtain ⟨wX, hwX⟩ : ∃ wX, wX = wc := ⟨_, rfl⟩
        rw [← hwX] at hs ⊢
        obtain ⟨n4, hn4⟩ : ∃ n4, n4 = l.length := ⟨_, rfl⟩
        obtain ⟨Ao, co, rfl⟩ := row_form hov.row
        obtain ⟨ak, hak⟩ : ∃ ak, ak = s.ack := ⟨_, rfl⟩
        obtain ⟨aq, haq⟩ : ∃ aq, aq = s.asked := ⟨_, rfl⟩
        obtain ⟨wd, hwd⟩ : ∃ wd, wd = s.word := ⟨_, rfl⟩
        have hre : (rowP' s).1.isEmpty = decide (n4 = 0) := by
          have e := congrArg List.length hll
          simp only [List.length_map] at e
          rw [hn4, e]
          cases (rowP' s).1 <;> simp
        have hwp : wordP s = (decide (n4 = 0) && (ak || aq || wd && tm)) := by unfold wordP; rw [hre, hak, haq, hwd, HTM.out]
        have c0 : wX.cell? ⟨bl, 0, none⟩ = some (pt g) := hs.cellOf (g := bl) (cs := #[pt g]) (t := 80) (by simp) 0 rfl
        have co0 : wX.cell? ⟨bo, 0, none⟩ = some (.slice Ao n4 co) := by rw [hn4]; exact hs.cellOf (g := bo) (cs := #[.slice Ao l.length co]) (t := 61) (by simp) 0 rfl
        have c10 : wX.cell? ⟨g, 10, none⟩ = some (.bool ak) := by
          have q : wX.cell? ⟨g, 10, none⟩ = some (.bool s4.ack) := lk_cell hs 10 rfl
          rw [hs4, E2.out] at q; rw [hak]; exact q
        have c11 : wX.cell? ⟨g, 11, none⟩ = some (.bool aq) := by
          have q : wX.cell? ⟨g, 11, none⟩ = some (.bool s4.asked) := lk_cell hs 11 rfl
          rw [hs4, E2.out] at q; rw [haq]; exact q
        have c12 : wX.cell? ⟨g, 12, none⟩ = some (.bool wd) := by
          have q : wX.cell? ⟨g, 12, none⟩ = some (.bool s4.word) := lk_cell hs 12 rfl
          rw [hs4, E2.out] at q; rw [hwd]; exact q
        have HS := Lib.hid hs
        have HOV := Lib.hid hov
        have HLL := Lib.hid hll
        have HS4 := Lib.hid hs4
        have HN4 := Lib.hid hn4
        have HAK := Lib.hid hak
        have HAQ := Lib.hid haq
        have HWP := Lib.hid hwp
        clear hs hov hll hs4 hwX hn4 hak haq hwd hre hwp
        go_upto_region 13 with fail
        go_cut [114] (fun s114 wx => s114 = .bool (decide (n4 = 0) && (ak || aq || wd && tm)) ∧ wx = wX)
        case first =>
          by_cases h0 : n4 = 0
          · have hd := Lib.hid h0
            rw [h0] at co0
            clear h0
            cases ak with
            | true =>
              go_wp2_with fail
              go_meet
              exact ⟨by rw [hd.out]; simp, rfl⟩
            | false =>
              cases aq with
              | true =>
                go_wp2_with fail
                go_meet
                exact ⟨by rw [hd.out]; simp, rfl⟩
              | false =>
                cases wd with
                | true =>
                  go_wp2_with fail
                  go_meet
                  exact ⟨by rw [hd.out]; simp, rfl⟩
                | false =>
                  go_wp2_with fail
                  go_meet
                  exact ⟨by rw [hd.out]; simp, rfl⟩
          · have j1 : ((n4 : Int) == 0) = false := by rw [beq_eq_false_iff_ne]; omega
            have hd := Lib.hid (decide_eq_false h0)
            clear h0
            go_wp2_with fail
            go_meet
            exact ⟨by rw [hd.out]; rfl, rfl⟩
        case rest =>
          obtain ⟨hs114, hwc⟩ := hcut
          rw [← HWP.out] at hs114
          obtain ⟨wp, hwp⟩ : ∃ wp, wp = wordP s := ⟨_, rfl⟩
          rw [← hwp] at hs114
          subst hs114
          rw [hwc]
          clear hwc co0 c10 c11 c12
          go_upto_if 114 with fail
          go_cut [] (fun wx => ∃ ov l, OutV ov l ∧ l.map (fun i => i.2) = (saidP s).map encF ∧ St w0 wx (lkE g s4 ++ (B bo #[ov] 61 :: (B bl #[pt g] 80 :: (outE ov l ++ R)))))
          case first =>
            cases wp with
            | true =>
              have hsd : saidP s = [frm s 0 []] := by unfold saidP; rw [← hwp]; rfl
              have hl0 : l = [] := by
                have e := HWP.out
                rw [← hwp] at e
                have e1 : decide (n4 = 0) = true := by
                  cases h : decide (n4 = 0) with
                  | true => rfl
                  | false => rw [h] at e; cases e
                exact List.eq_nil_of_length_eq_zero (by rw [← HN4.out]; exact of_decide_eq_true e1)
              have HSD := Lib.hid hsd
              have ef : frm s4 0 [] = frm s 0 [] := by rw [HS4.out, E2.out]
              have CS : Hid (Calls Tryd.prog 97 #[.int .u64 0, .slice none 0 0, .pointer (some ⟨bo, 0, none⟩), .pointer (some ⟨bl, 0, none⟩)] wX fun e w' => e = .returned (.tuple #[]) ∧ ∃ ov' v, OutV ov' (l ++ [(v, encF (frm s 0 []))]) ∧ St w0 w' (lkE g s4 ++ (B bo #[ov'] 61 :: (B bl #[pt g] 80 :: (outE ov' (l ++ [(v, encF (frm s 0 []))]) ++ R))))) := by
                have q := say_calls w0 wX R g bo bl s4 (.slice Ao l.length co) l 0 none 0 [] HS.out HOV.out (ReadsOf.nil I 0 wX) (fun a h => (by cases h)) (by rw [hl0]; simp)
                rw [ef] at q
                exact q
              rw [hl0] at CS
              clear hsd hl0 ef hwp c0
              go_wp2_with fail
              refine CS.out.mono ?_; rintro e w5 ⟨rfl, ov', v, hov', hs5⟩
              have H5 := Lib.hid hs5
              have HOV' := Lib.hid hov'
              clear hs5 hov'
              go_wp2_with fail
              go_meet
              rw [HSD.out]
              exact ⟨ov', [(v, encF (frm s 0 []))], HOV'.out, rfl, H5.out⟩
            | false =>
              have hsd : saidP s = (rowP' s).1 := by unfold saidP; rw [← hwp]; rfl
              have HSD := Lib.hid hsd
              clear hsd hwp
              go_wp2_with fail
              go_meet
              rw [HSD.out]
              exact ⟨.slice Ao l.length co, l, HOV.out, HLL.out, HS.out⟩
          case rest =>
            clear hwp
            obtain ⟨ov, l6, hov, hll6, hs⟩ := hcut
            obtain ⟨wZ, hwZ⟩ : ∃ wZ, wZ = wc := ⟨_, rfl⟩
            rw [← hwZ] at hs ⊢
            obtain ⟨Ap, cp, rfl⟩ := row_form hov.row
            obtain ⟨n6, hn6⟩ : ∃ n6, n6 = l6.length := ⟨_, rfl⟩
            have hse : (saidP s).isEmpty = decide (n6 = 0) := by
              have e := congrArg List.length hll6
              simp only [List.length_map] at e
              rw [hn6, e]
              cases saidP s <;> simp
            have c0 : wZ.cell? ⟨bl, 0, none⟩ = some (pt g) := hs.cellOf (g := bl) (cs := #[pt g]) (t := 80) (by simp) 0 rfl
            have co0 : wZ.cell? ⟨bo, 0, none⟩ = some (.slice Ap n6 cp) := by rw [hn6]; exact hs.cellOf (g := bo) (cs := #[.slice Ap l6.length cp]) (t := 61) (by simp) 0 rfl
            have z10 : wZ.cell? ⟨g, 10, none⟩ = some (.bool s4.ack) := lk_cell hs 10 rfl
            have z11 : wZ.cell? ⟨g, 11, none⟩ = some (.bool s4.asked) := lk_cell hs 11 rfl
            have f10 := lk_free hs 10
            have f11 := lk_free hs 11
            have v4 : LkV s4 := by rw [HS4.out]; exact ⟨V2.out.c, V2.out.g, V2.out.l, V2.out.row, V2.out.by_⟩
            have et : tickP s = { s4 with ack := s.ack && decide (n6 = 0), asked := s.asked && decide (n6 = 0) } := by unfold tickP; rw [← HS2.out, HS4.out, hse]
            have e10 : s4.ack = s.ack := by rw [HS4.out, E2.out]
            have e11 : s4.asked = s.asked := by rw [HS4.out, E2.out]
            have H6 := Lib.hid hs
            have HO6 := Lib.hid hov
            have HL6 := Lib.hid hll6
            have HN6 := Lib.hid hn6
            have V4 := Lib.hid v4
            have ET := Lib.hid et
            have E10 := Lib.hid e10
            have E11 := Lib.hid e11
            clear hwZ hs hov hll6 hn6 hse v4 et e10 e11
            go_upto_region 15 with fail
            by_cases h0 : n6 = 0
            · have es : tickP s = s4 := by rw [ET.out, h0]; simp only [decide_true, Bool.and_true]; rw [← E10.out, ← E11.out]
              have HE := Lib.hid es
              have hd := Lib.hid h0
              rw [h0] at co0
              clear h0 es
              go_wp2_with fail
              go_ret
              rw [HE.out]
              obtain rfl : l6 = [] := List.eq_nil_of_length_eq_zero (by rw [← HN6.out]; exact hd.out)
              exact ⟨.slice Ap 0 cp, [], rfl, HO6.out, HL6.out, V4.out, H6.out.re (fun x => by simp only [List.length_nil, cnt_append, cnt_cons]; omega)⟩
            · have j1 : (0 : Int) < (n6 : Int) := by omega
              have es : tickP s = { s4 with ack := false, asked := false } := by rw [ET.out, decide_eq_false h0]; simp only [Bool.and_false]
              have HE := Lib.hid es
              clear h0 es
              go_wp2_with fail
              go_region
              all_goals
                obtain ⟨W5, hW5⟩ : ∃ W5, W5 = ((wZ.setCell ⟨g, 10, none⟩ (.bool false)).setCell ⟨g, 11, none⟩ (.bool false)).drew := ⟨_, rfl⟩
                have h5 : St w0 W5 (B g (lkC { s4 with ack := false, asked := false }) 128 :: (B s4.gp (pcC s4) 135 :: (itemsE s4 ++ (B bo #[.slice Ap l6.length cp] 61 :: (B bl #[pt g] 80 :: (outE (.slice Ap l6.length cp) l6 ++ R)))))) := by
                  rw [hW5]
                  exact (((H6.out.re (M := B g (lkC s4) 128 :: (B s4.gp (pcC s4) 135 :: (itemsE s4 ++ (B bo #[.slice Ap l6.length cp] 61 :: (B bl #[pt g] 80 :: (outE (.slice Ap l6.length cp) l6 ++ R)))))) (fun x => by simp only [lkE, cnt_append, cnt_cons]; omega)).put (cs' := lkC { s4 with ack := false }) 10 (.bool false) rfl).put (cs' := lkC { s4 with ack := false, asked := false }) 11 (.bool false) rfl).drew
                have u0 : W5.cell? ⟨bo, 0, none⟩ = some (.slice Ap l6.length cp) := h5.cellOf (g := bo) (cs := #[.slice Ap l6.length cp]) (t := 61) (by simp) 0 rfl
                rw [← hW5]
                have H5 := Lib.hid h5
                clear hW5 h5 c0 co0 f10 f11 z10 z11
                go_wp2_with fail
                go_ret
                rw [HE.out]
                exact ⟨.slice Ap l6.length cp, l6, rfl, HO6.out, HL6.out, ⟨V4.out.c, V4.out.g, V4.out.l, V4.out.row, V4.out.by_⟩, H5.out.re (fun x => by simp only [lkE, pcC, itemsE, cnt_append, cnt_cons]; omega)⟩
end Go.Proofs.YtoeiaimoppmjdaaDoor.Lk
