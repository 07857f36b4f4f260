/- Merged by merge.py out of the texts: EqF, Begun, Within, TurnSt, LinkTurned. -/
import Derived.Test.YtoeiaimoppmjdaaDoorZt4
import Derived.Test.YtoeiaimoppmjdaaDoorEq
import Derived.Test.YtoeiaimoppmjdaaDoorCopy
/- Contract: EqFrame. -/
namespace Go.Proofs.YtoeiaimoppmjdaaDoor.Lk
open Go.RowKit Go.Proofs.YtoeiaimoppmjdaaDoorW.PrintWords Go.Proofs.YtoeiaimoppmjdaaDoor.Mem Go.Proofs.YtoeiaimoppmjdaaDoor.Wr Go.Proofs.YtoeiaimoppmjdaaDoor.Bytes
set_option linter.unusedVariables false
set_option linter.unusedSimpArgs false
theorem frm_ext (F G : Frm) : F = G ↔ F.src = G.src ∧ F.dst = G.dst ∧ F.mine = G.mine ∧ F.yours = G.yours ∧ F.seq = G.seq ∧ F.ack = G.ack ∧ F.body = G.body := by
  cases F; cases G; simp
set_option maxRecDepth 20000 in
set_option maxHeartbeats 3200000 in
theorem eqf_calls (F G : Frm) (A B' : Option Addr) (c d : Nat) (w : World) (hx : ReadsOf I 0 w A F.body.length F.body) (hy : ReadsOf I 0 w B' G.body.length G.body) (hm : G.body.length ≤ 140737488355328) :
    Calls Tryd.prog 48 #[.agg (frC F A c), .agg (frC G B' d)] w fun e w' => ∃ b : Bool, e = .returned (.bool b) ∧ (b = true ↔ F = G) ∧ Below w.heap.size w w' := by
  obtain ⟨W1, hW1⟩ : ∃ W1, W1 = w.alloc (.cells (frC F A c) 69) := ⟨_, rfl⟩
  obtain ⟨W2, hW2⟩ : ∃ W2, W2 = W1.alloc (.cells (frC G B' d) 69) := ⟨_, rfl⟩
  obtain ⟨ba, hba⟩ : ∃ ba, ba = w.heap.size := ⟨_, rfl⟩
  obtain ⟨bb, hbb⟩ : ∃ bb, bb = W1.heap.size := ⟨_, rfl⟩
  have h1 := (St.start w).newB (frC F A c) 69
  rw [← hW1, ← hba] at h1
  have h2 := h1.newB (frC G B' d) 69
  rw [← hW2, ← hbb] at h2
  have x0 := h2.cellOf (g := ba) (cs := frC F A c) (t := 69) (by simp) 0 rfl
  have y0 := h2.cellOf (g := bb) (cs := frC G B' d) (t := 69) (by simp) 0 rfl
  have x1 := h2.cellOf (g := ba) (cs := frC F A c) (t := 69) (by simp) 1 rfl
  have y1 := h2.cellOf (g := bb) (cs := frC G B' d) (t := 69) (by simp) 1 rfl
  have x2 := h2.cellOf (g := ba) (cs := frC F A c) (t := 69) (by simp) 2 rfl
  have y2 := h2.cellOf (g := bb) (cs := frC G B' d) (t := 69) (by simp) 2 rfl
  have x3 := h2.cellOf (g := ba) (cs := frC F A c) (t := 69) (by simp) 3 rfl
  have y3 := h2.cellOf (g := bb) (cs := frC G B' d) (t := 69) (by simp) 3 rfl
  have x4 := h2.cellOf (g := ba) (cs := frC F A c) (t := 69) (by simp) 4 rfl
  have y4 := h2.cellOf (g := bb) (cs := frC G B' d) (t := 69) (by simp) 4 rfl
  have x5 := h2.cellOf (g := ba) (cs := frC F A c) (t := 69) (by simp) 5 rfl
  have y5 := h2.cellOf (g := bb) (cs := frC G B' d) (t := 69) (by simp) 5 rfl
  have x6 := h2.cellOf (g := ba) (cs := frC F A c) (t := 69) (by simp) 6 rfl
  have y6 := h2.cellOf (g := bb) (cs := frC G B' d) (t := 69) (by simp) 6 rfl
  have CE := Lib.hid (eq_calls F.body G.body A B' c d W2 (h2.reads hx) (h2.reads hy) hm)
  have HBL := Lib.hid h2.bl
  have HW1 := Lib.hid hW1
  have HW2 := Lib.hid hW2
  have HBA := Lib.hid hba
  have HBB : Hid (bb = ba + 1) := by show bb = _; rw [hbb, hW1, hba]; simp
  have HX := Lib.hid (frm_ext F G)
  clear h1 h2 hW1 hW2 hba hbb hx hy
  go_enter Tryd.func48, Tryd.ntmps48
  go_upto_region 1 with fail
  rw [← HW1.out, ← HBA.out, ← HW2.out, ← HBB.out]
  go_wp2_with (go_at_call 34; refine CE.out.mono ?_; rintro e w3 ⟨b3, rfl, hb3, hbl3⟩; have HB3 := Lib.hid hb3; have HL3 := Lib.hid hbl3; clear hb3 hbl3)
  all_goals
    go_ret
    first
      | exact ⟨_, rfl, by rw [HX.out]; simp only [← HB3.out, decide_eq_true_eq, Bool.false_eq_true, false_iff, true_iff]; first | omega | (constructor; (intro h; exact ⟨by omega, by omega, by omega, by omega, by omega, by omega, h⟩); (intro h; exact h.2.2.2.2.2.2)), HBL.out.trans (HL3.out.mono HBL.out.size)⟩
      | exact ⟨_, rfl, by rw [HX.out]; simp only [beq_iff_eq, decide_eq_true_eq, Bool.false_eq_true, false_iff, true_iff]; omega, HBL.out⟩
end Go.Proofs.YtoeiaimoppmjdaaDoor.Lk
/- begun: a link says a word, and it is read. -/
namespace Go.Proofs.YtoeiaimoppmjdaaDoor.Lk
open Go.RowKit Go.Proofs.YtoeiaimoppmjdaaDoorW.PrintWords Go.Proofs.YtoeiaimoppmjdaaDoor.Mem Go.Proofs.YtoeiaimoppmjdaaDoor.Wr Go.Proofs.YtoeiaimoppmjdaaDoor.Bytes Go.Proofs.YtoeiaimoppmjdaaDoor.App
open Go.Proofs.YtoeiaimoppmjdaaDoor.Pace (dbl)
set_option linter.unusedVariables false
set_option linter.unusedSimpArgs false
abbrev f0 : Frm := ⟨0, 2, 3, 0, 0, 0, []⟩
theorem f0_fit : Fit f0 := ⟨by decide, by decide, by decide, by decide, by decide, by decide, by decide, by decide, by decide, by decide, .inr rfl⟩
theorem encF_byt0 {f : Frm} (hb : Byt f.body) : Byt (encF f) := by
  by_cases h : Fit f
  · rw [encF_fit h]
    intro a ha
    rcases List.mem_append.1 ha with ha | ha
    · exact ahead_byt _ h hb a ha
    · exact fixL_byt _ _ a ha
  · rw [encF_nofit h]; intro a ha; cases ha
set_option maxRecDepth 20000 in
set_option maxHeartbeats 6400000 in
theorem begun_calls (w : World) (ht : ErrTab w) (hz : 0 < w.heap.size) : Calls Tryd.prog 45 #[] w fun e w' => e = .returned (.bool true) ∧ Below w.heap.size w w' := by
  have CN : Hid (Calls Tryd.prog 53 #[.int .i64 0, .int .i64 2, .int .u64 3, .int .i64 2, .int .i64 4] w fun e w' => ∃ g gp c, e = .returned (pt g) ∧ (1 ≤ c ∧ c ≤ 64) ∧ (1 ≤ (4 : Int) ∧ (4 : Int) ≤ 64 → c = 4) ∧ St w w' (lkE g (ls0 0 2 3 2 gp c) ++ [])) := lnew_calls w w [] 0 2 2 4 3 (St.start w)
  have HT := Lib.hid ht
  have HZ := Lib.hid hz
  clear ht hz
  go_enter Tryd.func45, Tryd.ntmps45
  go_wp2_with fail
  refine CN.out.mono ?_; rintro e w1 ⟨g, gp, c, rfl, hc, _, h1⟩
  have hV := ls0V 0 2 3 2 gp c hc
  have CK : Hid (Calls Tryd.prog 83 #[pt g] w1 fun e w' => e = .returned (.bool false) ∧ w1 = w') := lknown_calls h1
  have CL : Hid (Calls Tryd.prog 60 #[pt g] w1 fun e w' => e = .returned (.int .i64 0) ∧ w1 = w') := llen_calls h1 hV
  have CT : Hid (Calls Tryd.prog 56 #[pt g] w1 fun e w' => ∃ ov v, e = .returned ov ∧ OutV ov [(v, encF f0)] ∧ LkV { ls0 0 2 3 2 gp c with left := 1, gap := dbl c 1 } ∧ St w w' (lkE g { ls0 0 2 3 2 gp c with left := 1, gap := dbl c 1 } ++ (outE ov [(v, encF f0)] ++ []))) := tickA_calls w w1 [] g (ls0 0 2 3 2 gp c) h1 hV rfl rfl rfl rfl (by show (0 : Int) ≤ 1; omega) rfl rfl
  clear h1 hV hc
  go_wp2_with fail
  refine CK.out.mono ?_; rintro e w2 ⟨rfl, rfl⟩
  go_wp2_with fail
  refine CL.out.mono ?_; rintro e w2 ⟨rfl, rfl⟩
  go_wp2_with fail
  refine CT.out.mono ?_; rintro e w2 ⟨ov, v, rfl, hov, _, h2⟩
  have h2' := h2.re (M := outE ov [(v, encF f0)]) (fun x => by simp only [cnt_append, cnt_nil]; omega)
  obtain ⟨Ao, co, e1⟩ := row_form hov.row
  have hbv : byV v (encF f0) := hov.by_ (v, encF f0) (by simp)
  obtain ⟨Av, cv, rfl⟩ := byV_form hbv
  obtain ⟨go, cgo, ego, hcell⟩ : ∃ go cgo, ov = .slice (some ⟨go, 0, none⟩) 1 cgo ∧ w2.cell? ⟨go, 0, none⟩ = some (.slice Av (encF f0).length cv) := by
    rcases hov.row.2 with ⟨_, h0⟩ | ⟨go, cgo, e2, _⟩
    · cases h0
    · subst e2
      refine ⟨go, cgo, rfl, ?_⟩
      have hr : St w w2 (rowE (.slice (some ⟨go, 0, none⟩) 1 cgo) 22 1 1 [.slice Av (encF f0).length cv] ++ byR (.slice Av (encF f0).length cv) (encF f0)) := h2'.re (fun x => by simp only [outE, List.length_cons, List.length_nil, Nat.zero_add, List.map_cons, List.map_nil, List.flatMap_cons, List.flatMap_nil, cnt_append, cnt_nil]; omega)
      exact (hr.at 0 (by simp) rfl).1
  subst ego
  have hrd := by_reads h2' (fun x => by simp only [outE, List.flatMap_cons, List.flatMap_nil, cnt_append, cnt_nil]; omega) hbv
  have hby : Byt (encF f0) := encF_byt0 (fun a h => (by cases h))
  have hlen := encF_len f0_fit
  have CD := Lib.hid (dec_calls (encF f0) Av cv w2 hrd hby (HT.out.below h2'.bl HZ.out) (Nat.lt_of_lt_of_le HZ.out h2'.bl.size) (by omega))
  have HB2 := Lib.hid h2'.bl
  clear hov h2 h2' hbv hrd hby hlen e1
  go_wp2_with fail
  refine CD.out.mono ?_; rintro e w3 hpost
  obtain ⟨ok, rd⟩ := dec_enc f0_fit
  rcases hpost with ⟨_, A, c2, rfl, hbv, h3⟩ | ⟨h, _⟩
  rotate_left
  · rw [ok] at h; cases h
  rw [rd] at hbv h3 ⊢
  have h4 := h3.newB (frC f0 A c2) 69
  obtain ⟨W4, hW4⟩ : ∃ W4, W4 = w3.alloc (.cells (frC f0 A c2) 69) := ⟨_, rfl⟩
  obtain ⟨bf, hbf⟩ : ∃ bf, bf = w3.heap.size := ⟨_, rfl⟩
  rw [← hW4, ← hbf] at h4
  have y0 := h4.cellOf (g := bf) (cs := frC f0 A c2) (t := 69) (by simp) 0 rfl
  have y1 := h4.cellOf (g := bf) (cs := frC f0 A c2) (t := 69) (by simp) 1 rfl
  have y2 := h4.cellOf (g := bf) (cs := frC f0 A c2) (t := 69) (by simp) 2 rfl
  have y3 := h4.cellOf (g := bf) (cs := frC f0 A c2) (t := 69) (by simp) 3 rfl
  have y4 := h4.cellOf (g := bf) (cs := frC f0 A c2) (t := 69) (by simp) 4 rfl
  have y5 := h4.cellOf (g := bf) (cs := frC f0 A c2) (t := 69) (by simp) 5 rfl
  have y6 := h4.cellOf (g := bf) (cs := frC f0 A c2) (t := 69) (by simp) 6 rfl
  have hr4 : ReadsOf I 0 W4 A 0 [] := by_reads (xs := []) h4 (fun x => by simp only [cnt_cons]; omega) hbv
  have CE : Hid (Calls Tryd.prog 48 #[.agg #[.int .i64 0, .int .i64 2, .int .u64 3, .int .u64 0, .int .u64 0, .int .u64 0, .slice A 0 c2], .agg #[.int .i64 0, .int .i64 2, .int .u64 3, .int .u64 0, .int .u64 0, .int .u64 0, .slice none 0 0]] W4 fun e w' => ∃ b : Bool, e = .returned (.bool b) ∧ (b = true ↔ f0 = f0) ∧ Below W4.heap.size W4 w') := eqf_calls f0 f0 A none c2 0 W4 hr4 (ReadsOf.nil I 0 W4) (by simp)
  have HB4 := Lib.hid (HB2.out.trans (h4.bl.mono HB2.out.size))
  have HW4 := Lib.hid hW4
  have HBF := Lib.hid hbf
  clear h3 h4 hW4 hbf hr4 hbv hcell ok rd
  go_wp2_with fail
  rw [show (w3.alloc (.cells #[.int .i64 0, .int .i64 2, .int .u64 3, .int .u64 0, .int .u64 0, .int .u64 0, .slice A 0 c2] 69)) = W4 from HW4.out.symm]
  refine CE.out.mono ?_; rintro e w5 ⟨b5, rfl, hb5, hbl5⟩
  obtain rfl : b5 = true := by simpa using hb5
  have HB5 := Lib.hid (HB4.out.trans (hbl5.mono HB4.out.size))
  clear hb5 hbl5 y0 y1 y2 y3 y4 y5 y6
  go_wp2_with fail
  go_ret
  exact ⟨rfl, HB5.out⟩
end Go.Proofs.YtoeiaimoppmjdaaDoor.Lk
/- Contract: Within. -/
namespace Go.Proofs.YtoeiaimoppmjdaaDoor.Lk
open Go.RowKit Go.Proofs.YtoeiaimoppmjdaaDoorW.PrintWords Go.Proofs.YtoeiaimoppmjdaaDoor.Mem Go.Proofs.YtoeiaimoppmjdaaDoor.Wr Go.Proofs.YtoeiaimoppmjdaaDoor.Bytes
set_option linter.unusedVariables false
set_option linter.unusedSimpArgs false
theorem within_calls (i n : Int) (w : World) (hn : 0 < n) (hn2 : n ≤ 1073741824) (h1 : -9223372036854775808 ≤ i) (h2 : i ≤ 9223372036854775807) :
    Calls Tryd.prog 49 #[.int .i64 i, .int .i64 n] w fun e w' => e = .returned (.int .i64 (i % n)) ∧ w = w' := by
  have r1 : ¬ n = 0 := by omega
  have b1 := Int.tmod_lt_of_pos i hn
  have b2 := Int.lt_tmod_of_pos i hn
  by_cases hi : i.tmod n < 0
  · have e : i % n = wrap64 (i.tmod n + n) := by
      rw [show wrap64 (i.tmod n + n) = i.tmod n + n by unfold wrap64; omega]
      have h := Int.mul_tdiv_add_tmod i n
      rw [← Int.emod_eq_of_lt (a := i.tmod n + n) (b := n) (by omega) (by omega)]
      conv => lhs; rw [← h]
      rw [Int.mul_add_emod_self_left, Int.add_emod_right]
    rw [e]
    clear e b1 b2
    go_enter Tryd.func49, Tryd.ntmps49
    go_wp2_with fail
    go_ret
    exact ⟨rfl, rfl⟩
  · have e : i % n = i.tmod n := by
      have h := Int.mul_tdiv_add_tmod i n
      rw [← Int.emod_eq_of_lt (a := i.tmod n) (b := n) (by omega) b1]
      conv => lhs; rw [← h]
      rw [Int.mul_add_emod_self_left]
    rw [e]
    clear e b1 b2
    go_enter Tryd.func49, Tryd.ntmps49
    go_wp2_with fail
    go_ret
    exact ⟨rfl, rfl⟩
end Go.Proofs.YtoeiaimoppmjdaaDoor.Lk
/- A byte list that is held: a byte of it, and that byte written over; a beginning of it is read; one byte more behind it. -/
namespace Go.Proofs.YtoeiaimoppmjdaaDoor.Lk
open Go.RowKit Go.Proofs.YtoeiaimoppmjdaaDoorW.PrintWords Go.Proofs.YtoeiaimoppmjdaaDoor.Mem Go.Proofs.YtoeiaimoppmjdaaDoor.Wr Go.Proofs.YtoeiaimoppmjdaaDoor.Bytes
set_option linter.unusedVariables false
set_option linter.unusedSimpArgs false
theorem by_ptr {A : Option Addr} {c : Nat} {xs : List Int} (h : byV (.slice A xs.length c) xs) (h0 : 0 < xs.length) : ∃ g, A = some ⟨g, 0, none⟩ := by
  rcases h.2 with ⟨h1, h2⟩ | ⟨g, cap, h1, _⟩
  · omega
  · injection h1 with h1; exact ⟨g, h1⟩
theorem by_at {w0 W : World} {R : List Ent} {g c : Nat} {xs : List Int} (h : St w0 W (byR (.slice (some ⟨g, 0, none⟩) xs.length c) xs ++ R)) (j : Nat) (hj : j < xs.length) :
    W.cell? ⟨g, j, none⟩ = some (.int .u8 (xs.getD j 0)) ∧ W.frozen? ⟨g, j, none⟩ = false := by
  have h1 := St.at (e := 5) (s := 1) (n := xs.length) (xs := encs I xs) h j (by simpa [encs] using hj) (by simp [encs])
  refine ⟨?_, h1.2⟩
  rw [h1.1]
  simp [encs, List.getElem?_eq_getElem hj, List.getD_eq_getElem?_getD]
theorem by_store {w0 W : World} {R : List Ent} {g c : Nat} {xs : List Int} (h : St w0 W (byR (.slice (some ⟨g, 0, none⟩) xs.length c) xs ++ R)) (j : Nat) (x : Int) :
    St w0 (W.setCell ⟨g, j, none⟩ (.int .u8 x)) (byR (.slice (some ⟨g, 0, none⟩) (xs.set j x).length c) (xs.set j x) ++ R) := by
  have h1 := St.store (e := 5) (s := 1) (n := xs.length) (xs := encs I xs) h j (.int .u8 x)
  have e : (encs I xs).set j (.int .u8 x) = encs I (xs.set j x) := by simp [encs, List.map_set]
  rw [e] at h1
  unfold byR
  rw [List.length_set]
  exact h1
/-- The bit turned in its place. -/
theorem by_flip {w0 W : World} {R : List Ent} {g c : Nat} {xs : List Int} (h : St w0 W (byR (.slice (some ⟨g, 0, none⟩) xs.length c) xs ++ R)) (n : Nat) :
    St w0 (W.setCell ⟨g, n / 8, none⟩ (.int .u8 (Go.bits .xor .u8 (xs.getD (n / 8) 0) (2 ^ (n % 8) % 256)))) (byR (.slice (some ⟨g, 0, none⟩) (Crc.flip xs n).length c) (Crc.flip xs n) ++ R) := by_store h _ _
theorem by_setV {A : Option Addr} {c : Nat} {xs : List Int} (h : byV (.slice A xs.length c) xs) (j : Nat) (x : Int) : byV (.slice A (xs.set j x).length c) (xs.set j x) := by
  refine ⟨by simp [encs], ?_⟩
  rw [List.length_set]
  exact h.2
theorem by_flipV {A : Option Addr} {c : Nat} {xs : List Int} (h : byV (.slice A xs.length c) xs) (n : Nat) : byV (.slice A (Crc.flip xs n).length c) (Crc.flip xs n) := by_setV h _ _
/-- What is none is read as none. -/
theorem dec_none_st {w0 W : World} {R : List Ent} (b : List Int) (k : Nat) (A : Option Addr) (c : Nat) (h : St w0 W R) (hk : b.length = k) (hr : ReadsOf I 0 W A k b) (hb : Byt b) (ht : ErrTab w0) (hz : 0 < w0.heap.size) (hbl : k ≤ 140737488355328) (hd : decOk b = false) :
    Calls Tryd.prog 47 #[.slice A k c] W fun e w' => e = .returned (.tuple #[.agg frZ, .bool false]) ∧ St w0 w' R := by
  subst hk
  refine (dec_calls b A c W hr hb (ht.below h.bl hz) (Nat.lt_of_lt_of_le hz h.bl.size) hbl).mono fun e w' hp => ?_
  rcases hp with ⟨h1, _⟩ | ⟨_, he, hb'⟩
  · rw [hd] at h1; cases h1
  · exact ⟨he, h.below hb'⟩
/-- Copy, over the blocks that are held. -/
theorem copy_st {w0 W : World} {R : List Ent} (xs : List Int) (k : Nat) (A : Option Addr) (c : Nat) (h : St w0 W R) (hk : xs.length = k) (hr : ReadsOf I 0 W A k xs) (hm : k ≤ 140737488355328) :
    Calls Tryd.prog 15 #[.slice A k c] W fun e w' => ∃ A' c', e = .returned (.slice A' k c') ∧ byV (.slice A' k c') xs ∧ St w0 w' (byR (.slice A' k c') xs ++ R) := by
  subst hk
  refine (copy_calls xs A c W W.heap.size (Nat.le_refl _) hr hm).mono fun e w' ⟨v, he, ho, hb⟩ => ?_
  obtain ⟨h1, hv⟩ := h.fresh hb ho
  obtain ⟨A', c', rfl⟩ := byV_form hv
  exact ⟨A', c', he, hv, h1⟩
theorem by_readsK {w0 W : World} {L : List Ent} {A : Option Addr} {c k : Nat} {xs : List Int} (h : St w0 W L) (hk : xs.length = k) (hc : ∀ a, cnt a (byR (.slice A k c) xs) ≤ cnt a L) (hV : byV (.slice A k c) xs) : ReadsOf I 0 W A k xs := by
  subst hk; exact by_reads h hc hV
theorem by_cap {A : Option Addr} {c k : Nat} {xs : List Int} (h : byV (.slice A k c) xs) : k ≤ c := by
  rcases h.2 with ⟨h1, h2⟩ | ⟨g, cap, h1, h2, _⟩
  · injection h1 with _ h1 h3; omega
  · injection h1 with _ h1 h3; omega
/-- One byte more behind a list. -/
theorem by_append {w0 W : World} {R : List Ent} {A : Option Addr} {c : Nat} {xs : List Int} (h : St w0 W (byR (.slice A xs.length c) xs ++ R)) (hV : byV (.slice A xs.length c) xs) (hl : xs.length + 1 ≤ 140737488355328) (ad : Addr) (c1 : Nat) (a : Int) (hx : W.cell? ad = some (.int .u8 a)) :
    ∃ (A' : Option Addr) (c' : Nat) (W' : World), (Builtin.append_ #[22, 22] 22 #[.slice A xs.length c, .slice (some ad) 1 c1]).run Tryd.prog W = .ok (.slice A' (xs.length + 1) c') W' ∧ St w0 W' (byR (.slice A' (xs ++ [a]).length c') (xs ++ [a]) ++ R) ∧ byV (.slice A' (xs ++ [a]).length c') (xs ++ [a]) := by
  obtain ⟨v', W', hr, h1, h2⟩ := App.row_append (P := Tryd.prog) (e := 5) h hV 22 22 (.int .u8 0) 1 Tryd.underlying22 (by kernel_rfl) rfl (by omega) hl ad c1 (.int .u8 a) hx rfl
  have e : encs I xs ++ [.int .u8 a] = encs I (xs ++ [a]) := by simp [encs]
  rw [e] at h1 h2
  have e2 : xs.length + 1 = (xs ++ [a]).length := by simp
  have hV' : byV v' (xs ++ [a]) := by unfold byV; rw [← e2]; exact h2
  obtain ⟨A', c', rfl⟩ := byV_form hV'
  refine ⟨A', c', W', by rw [e2]; exact hr, ?_, hV'⟩
  unfold byR; rw [← e2]; rw [← e2] at h1; exact h1
theorem byt_take' {xs : List Int} (h : Byt xs) (k : Nat) : Byt (xs.take k) := fun a ha => h a (List.mem_of_mem_take ha)
theorem byt_one {xs : List Int} (h : Byt xs) (a : Int) (h1 : 0 ≤ a ∧ a ≤ 255) : Byt (xs ++ [a]) := fun b hb => by
  rcases List.mem_append.1 hb with hb | hb
  · exact h b hb
  · obtain rfl := List.mem_singleton.1 hb; exact h1
end Go.Proofs.YtoeiaimoppmjdaaDoor.Lk
/- LinkTurned: frames there and back; a bit turned, cut, lengthened: none. -/
namespace Go.Proofs.YtoeiaimoppmjdaaDoor.Lk
open Go Go.ChangeShapes Go.WideShapes Go.RowKit Go.Deep Go.Proofs.YtoeiaimoppmjdaaDoorW.PrintWords Go.Proofs.YtoeiaimoppmjdaaDoor.Mem Go.Proofs.YtoeiaimoppmjdaaDoor.Wr Go.Proofs.YtoeiaimoppmjdaaDoor.Bytes Go.Proofs.YtoeiaimoppmjdaaDoor.Args
set_option linter.unusedVariables false
set_option linter.unusedSimpArgs false
abbrev tuC (A : Option Addr) (n c : Nat) (A2 : Option Addr) (n2 c2 : Nat) (bit : Int) : Array Value := #[.slice A n c, .slice A2 n2 c2, .int .i64 bit]
set_option maxRecDepth 20000 in
set_option maxHeartbeats 6400000 in
theorem turned_walk (w : World) (fs : List CF) (bs : List (List Int)) (bit : Int) (A : Option Addr) (c : Nat) (A2 : Option Addr) (c2 : Nat) (hF : KFr.C w A fs.length fs) (hv : ∀ o, o ∈ fs → VFr o) (hB : KBy.C w A2 bs.length bs) (hvb : ∀ o, o ∈ bs → WB o)
    (hl : fs.length ≤ 140737488355328) (hl2 : bs.length ≤ 140737488355328) (hbit : I64 bit) (ht : ErrTab w) (hz : 0 < w.heap.size) :
    Calls Tryd.prog 8 #[.agg (tuC A fs.length c A2 bs.length c2 bit)] w fun e w' => e = .returned (.bool true) ∧ Below w.heap.size w w' := by
  obtain ⟨W1, hW1⟩ : ∃ W1, W1 = w.alloc (.cells (tuC A fs.length c A2 bs.length c2 bit) 65) := ⟨_, rfl⟩
  obtain ⟨bt, hbt⟩ : ∃ bt, bt = w.heap.size := ⟨_, rfl⟩
  obtain ⟨W2, hW2⟩ : ∃ W2, W2 = W1.alloc (.cells #[.slice A fs.length c, .slice A2 bs.length c2] 63) := ⟨_, rfl⟩
  obtain ⟨b3, hb3⟩ : ∃ b3, b3 = W1.heap.size := ⟨_, rfl⟩
  have h1 := (St.start w).newB (tuC A fs.length c A2 bs.length c2 bit) 65
  rw [← hW1, ← hbt] at h1
  have h2 := h1.newB #[.slice A fs.length c, .slice A2 bs.length c2] 63
  rw [← hW2, ← hb3] at h2
  have CB := Lib.hid (begun_calls W2 (ht.below h2.bl hz) (Nat.lt_of_lt_of_le hz h2.bl.size))
  have H2 := Lib.hid h2
  have HW1 := Lib.hid hW1
  have HBT := Lib.hid hbt
  have HW2 := Lib.hid hW2
  have HB3 : Hid (b3 = bt + 1) := by show b3 = _; rw [hb3, hW1, hbt]; simp
  have HF := Lib.hid hF
  have HV := Lib.hid hv
  have HBB := Lib.hid hB
  have HVB := Lib.hid hvb
  have HT := Lib.hid ht
  have HZ := Lib.hid hz
  have HBI := Lib.hid hbit
  clear h1 h2 hW1 hbt hW2 hb3 hF hv hB hvb ht hz hbit
  go_enter Tryd.func8, Tryd.ntmps8
  go_upto_region 2 with fail
  rw [← HW1.out, ← HBT.out, ← HW2.out, ← HB3.out]
  go_wp2_with fail
  refine CB.out.mono ?_; rintro e w3 ⟨rfl, hb3⟩
  have H3 := Lib.hid (H2.out.below hb3)
  clear hb3
  go_upto_block 0 with fail
  go_cut [] (fun wx => St w wx [B b3 #[.slice A fs.length c, .slice A2 bs.length c2] 63, B bt (tuC A fs.length c A2 bs.length c2 bit) 65])
  case first =>
    go_wp2_with fail
    go_loopg [4] fs.length (fun gk s4 wr => ∃ q : Nat, gk = fs.length - q ∧ q ≤ fs.length ∧ s4 = .int .i64 q ∧ St w wr [B b3 #[.slice A fs.length c, .slice A2 bs.length c2] 63, B bt (tuC A fs.length c A2 bs.length c2 bit) 65])
    case atStart => exact ⟨0, rfl, Nat.zero_le _, rfl, H3.out⟩
    case round =>
      obtain ⟨q, hgk, hq, rfl, hs⟩ := hrel
      have HGK := Lib.hid hgk
      have HS := Lib.hid hs
      have x0 := hs.cellOf (g := b3) (cs := #[.slice A fs.length c, .slice A2 bs.length c2]) (t := 63) (by simp) 0 rfl
      clear hgk hs
      by_cases hlt : q < fs.length
      · have i1 : (q : Int) < (fs.length : Int) := by omega
        have i2 : (0 : Int) ≤ (q : Int) := by omega
        obtain ⟨ad, f, Ab, cb, rfl, hfr⟩ := fr_at HF.out HV.out q hlt rfl
        have hfw := hfr.below HS.out.bl
        have z0 := hfw.c0
        have z1 := hfw.c1
        have z2 := hfw.c2
        have z3 := hfw.c3
        have z4 := hfw.c4
        have z5 := hfw.c5
        have z6 := hfw.c6
        have CE : Hid (Calls Tryd.prog 46 #[.agg (frC f Ab cb)] wr fun e w' => ∃ v, e = .returned v ∧ byV v (encF f) ∧ St wr w' (byR v (encF f))) := enc_calls f Ab cb wr hfw.rd hfw.byt
        have HFR := Lib.hid hfr
        have HLT := Lib.hid hlt
        clear hfr hfw hlt
        go_wp2_with fail
        refine CE.out.mono ?_; rintro e w4 ⟨v, rfl, hve, hse⟩
        have h4 := St.lift HS.out hse
        obtain ⟨Ae, ce, rfl⟩ := byV_form hve
        have H4 := Lib.hid h4
        have HVE := Lib.hid hve
        clear hve hse h4 z0 z1 z2 z3 z4 z5 z6
        by_cases hfit : Fit f
        · have hlen := encF_len hfit
          have j1 : (4 : Int) ≤ ((encF f).length : Int) := by omega
          have j2 : ((encF f).length : Int) ≤ 2104 := by omega
          have j3 : (((encF f).length : Int) == 0) = false := by rw [beq_eq_false_iff_ne]; omega
          have HFIT := Lib.hid hfit
          clear hfit hlen
          have hre := by_reads H4.out (fun x => by simp only [cnt_append]; omega) HVE.out
          have CC := Lib.hid (copy_st (encF f) (encF f).length Ae ce H4.out rfl hre (by omega))
          clear hre
          go_wp2_with fail
          refine CC.out.mono ?_; rintro e w5 ⟨A6, c6, rfl, hv6, h6⟩
          have hr6 := by_reads h6 (fun x => by simp only [cnt_append]; omega) hv6
          have CD := Lib.hid (dec_calls (encF f) A6 c6 w5 hr6 (encF_byt' HFR.out.byt) (HT.out.below h6.bl HZ.out) (Nat.lt_of_lt_of_le HZ.out h6.bl.size) (by omega))
          have H6 := Lib.hid h6
          clear hv6 h6 hr6
          go_wp2_with fail
          refine CD.out.mono ?_; rintro e w6 hpost
          obtain ⟨ok, rd⟩ := dec_enc HFIT.out
          rcases hpost with ⟨_, A7, c7, rfl, hb7, h7⟩ | ⟨h, _⟩
          rotate_left
          · rw [ok] at h; cases h
          rw [rd] at hb7 h7 ⊢
          have h8 := St.lift H6.out h7
          obtain ⟨W8, hW8⟩ : ∃ W8, W8 = w6.alloc (.cells (frC f A7 c7) 69) := ⟨_, rfl⟩
          obtain ⟨b6, hb6⟩ : ∃ b6, b6 = w6.heap.size := ⟨_, rfl⟩
          have h9 := h8.newB (frC f A7 c7) 69
          rw [← hW8, ← hb6] at h9
          have H9 := Lib.hid h9
          have HB7 := Lib.hid hb7
          have HW8 := Lib.hid hW8
          have HB6 := Lib.hid hb6
          clear h7 h8 h9 hb7 hW8 hb6 ok rd
          go_upto_region 10 with fail
          rw [← HW8.out, ← HB6.out]
          go_cut [61] (fun s61 wx => s61 = .bool false ∧ St w wx (byR (.slice Ae (encF f).length ce) (encF f) ++ [B b3 #[.slice (some ad) fs.length c, .slice A2 bs.length c2] 63, B bt (tuC (some ad) fs.length c A2 bs.length c2 bit) 65]))
          case first =>
            have hfw := HFR.out.below H9.out.bl
            have y0 := H9.out.cellOf (g := b6) (cs := frC f A7 c7) (t := 69) (by simp) 0 rfl
            have y1 := H9.out.cellOf (g := b6) (cs := frC f A7 c7) (t := 69) (by simp) 1 rfl
            have y2 := H9.out.cellOf (g := b6) (cs := frC f A7 c7) (t := 69) (by simp) 2 rfl
            have y3 := H9.out.cellOf (g := b6) (cs := frC f A7 c7) (t := 69) (by simp) 3 rfl
            have y4 := H9.out.cellOf (g := b6) (cs := frC f A7 c7) (t := 69) (by simp) 4 rfl
            have y5 := H9.out.cellOf (g := b6) (cs := frC f A7 c7) (t := 69) (by simp) 5 rfl
            have y6 := H9.out.cellOf (g := b6) (cs := frC f A7 c7) (t := 69) (by simp) 6 rfl
            have x0' := H9.out.cellOf (g := b3) (cs := #[.slice (some ad) fs.length c, .slice A2 bs.length c2]) (t := 63) (by simp) 0 rfl
            have z0 := hfw.c0
            have z1 := hfw.c1
            have z2 := hfw.c2
            have z3 := hfw.c3
            have z4 := hfw.c4
            have z5 := hfw.c5
            have z6 := hfw.c6
            have SK : Hid (∀ w9, Below W8.heap.size W8 w9 → w9.cell? ⟨b6, 0, none⟩ = some (.int .i64 f.src) ∧ w9.cell? ⟨b6, 1, none⟩ = some (.int .i64 f.dst) ∧ w9.cell? ⟨b6, 2, none⟩ = some (.int .u64 (f.mine : Int)) ∧ w9.cell? ⟨b6, 3, none⟩ = some (.int .u64 (f.yours : Int)) ∧ w9.cell? ⟨b6, 4, none⟩ = some (.int .u64 (f.seq : Int)) ∧ w9.cell? ⟨b6, 5, none⟩ = some (.int .u64 (f.ack : Int)) ∧ w9.cell? ⟨b6, 6, none⟩ = some (.slice A7 f.body.length c7) ∧ w9.cell? ⟨b3, 0, none⟩ = some (.slice (some ad) fs.length c) ∧ w9.cell? (ad.add (q * 7)) = some (.int .i64 f.src) ∧ w9.cell? (⟨(ad.add (q * 7)).block, (ad.add (q * 7)).off + 1, none⟩) = some (.int .i64 f.dst) ∧ w9.cell? (⟨(ad.add (q * 7)).block, (ad.add (q * 7)).off + 2, none⟩) = some (.int .u64 (f.mine : Int)) ∧ w9.cell? (⟨(ad.add (q * 7)).block, (ad.add (q * 7)).off + 3, none⟩) = some (.int .u64 (f.yours : Int)) ∧ w9.cell? (⟨(ad.add (q * 7)).block, (ad.add (q * 7)).off + 4, none⟩) = some (.int .u64 (f.seq : Int)) ∧ w9.cell? (⟨(ad.add (q * 7)).block, (ad.add (q * 7)).off + 5, none⟩) = some (.int .u64 (f.ack : Int)) ∧ w9.cell? (⟨(ad.add (q * 7)).block, (ad.add (q * 7)).off + 6, none⟩) = some (.slice Ab f.body.length cb)) := fun w9 h => ⟨pw_cell_below h y0, pw_cell_below h y1, pw_cell_below h y2, pw_cell_below h y3, pw_cell_below h y4, pw_cell_below h y5, pw_cell_below h y6, pw_cell_below h x0', pw_cell_below h z0, pw_cell_below h z1, pw_cell_below h z2, pw_cell_below h z3, pw_cell_below h z4, pw_cell_below h z5, pw_cell_below h z6⟩
            have hbd : Below W8.heap.size W8 W8.drew := (Below.refl _ _).drew
            have CQ : Hid (Calls Tryd.prog 48 #[.agg (frC f A7 c7), .agg (frC f Ab cb)] W8.drew fun e w' => e = .returned (.bool true) ∧ Below W8.heap.size W8 w') :=
              (eqf_calls f f A7 Ab c7 cb W8.drew (by_reads H9.out.drew (fun x => by simp only [cnt_append, cnt_cons]; omega) HB7.out) (hfw.rd.below hbd) (by have := HFIT.out.b; omega)).mono fun e w' ⟨b9, he, hb9, hbl9⟩ => by
                obtain rfl : b9 = true := hb9.2 rfl
                exact ⟨he, hbd.trans hbl9⟩
            have HBD := Lib.hid hbd
            clear hfw hbd y0 z0 y1 z1 y2 z2 y3 z3 y4 z4 y5 z5 y6 z6 x0'
            go_region_held3 (fun w9 => w9.cell? ⟨b6, 0, none⟩ = some (.int .i64 f.src) ∧ w9.cell? ⟨b6, 1, none⟩ = some (.int .i64 f.dst) ∧ w9.cell? ⟨b6, 2, none⟩ = some (.int .u64 (f.mine : Int)) ∧ w9.cell? ⟨b6, 3, none⟩ = some (.int .u64 (f.yours : Int)) ∧ w9.cell? ⟨b6, 4, none⟩ = some (.int .u64 (f.seq : Int)) ∧ w9.cell? ⟨b6, 5, none⟩ = some (.int .u64 (f.ack : Int)) ∧ w9.cell? ⟨b6, 6, none⟩ = some (.slice A7 f.body.length c7) ∧ w9.cell? ⟨b3, 0, none⟩ = some (.slice (some ad) fs.length c) ∧ w9.cell? (ad.add (q * 7)) = some (.int .i64 f.src) ∧ w9.cell? (⟨(ad.add (q * 7)).block, (ad.add (q * 7)).off + 1, none⟩) = some (.int .i64 f.dst) ∧ w9.cell? (⟨(ad.add (q * 7)).block, (ad.add (q * 7)).off + 2, none⟩) = some (.int .u64 (f.mine : Int)) ∧ w9.cell? (⟨(ad.add (q * 7)).block, (ad.add (q * 7)).off + 3, none⟩) = some (.int .u64 (f.yours : Int)) ∧ w9.cell? (⟨(ad.add (q * 7)).block, (ad.add (q * 7)).off + 4, none⟩) = some (.int .u64 (f.seq : Int)) ∧ w9.cell? (⟨(ad.add (q * 7)).block, (ad.add (q * 7)).off + 5, none⟩) = some (.int .u64 (f.ack : Int)) ∧ w9.cell? (⟨(ad.add (q * 7)).block, (ad.add (q * 7)).off + 6, none⟩) = some (.slice Ab f.body.length cb))
              (first | (with_reducible exact SK.out _ HBD.out) | (with_reducible exact SK.out _ HBQ.out))
              (first | (go_at_call 48; (with_reducible refine CQ.out.mono ?_); rintro e w9 ⟨rfl, hbq⟩; have HBQ := Lib.hid hbq; clear hbq))
            all_goals
              go_wp2_with fail
              go_meet
              exact ⟨by rw [decide_eq_false (by omega)], (H9.out.below HBQ.out).re (fun x => by simp only [cnt_append, cnt_cons, cnt_nil]; omega)⟩
          case rest =>
            obtain ⟨hs61, hs10⟩ := hcut
            subst hs61
            obtain ⟨wa, hwa⟩ : ∃ wa, wa = wc := ⟨_, rfl⟩
            rw [← hwa] at hs10 ⊢
            have xb := hs10.cellOf (g := bt) (cs := tuC (some ad) fs.length c A2 bs.length c2 bit) (t := 65) (by simp) 2 rfl
            have wm : IntKind.i64.wrap (8 * ((encF f).length : Int)) = 8 * ((encF f).length : Int) := IntWalk.i64_in _ (by omega)
            have CW := Lib.hid (within_calls bit (8 * ((encF f).length : Int)) wa (by omega) (by omega) HBI.out.1 HBI.out.2)
            have CC2 := Lib.hid (copy_st (encF f) (encF f).length Ae ce hs10 rfl (by_reads hs10 (fun x => by simp only [cnt_append]; omega) HVE.out) (by omega))
            obtain ⟨n, hn⟩ : ∃ n : Nat, bit % (8 * ((encF f).length : Int)) = n := ⟨(bit % (8 * ((encF f).length : Int))).toNat, by have := Int.emod_nonneg bit (b := 8 * ((encF f).length : Int)) (by omega); omega⟩
            have hn8 : n < 8 * (encF f).length := by have := Int.emod_lt_of_pos bit (b := 8 * ((encF f).length : Int)) (by omega); omega
            rw [hn] at CW
            have H10 := Lib.hid hs10
            have HN8 := Lib.hid hn8
            clear hwa hs10 hn hn8
            go_wp2_with fail
            refine CW.out.mono ?_; rintro e w11 ⟨rfl, rfl⟩
            go_wp2_with fail
            refine CC2.out.mono ?_; rintro e w11 ⟨A9, c9, rfl, hv9, h11⟩
            have H11 := Lib.hid h11
            have HV9 := Lib.hid hv9
            clear hv9 h11 xb
            obtain ⟨g9, rfl⟩ := by_ptr HV9.out (by omega)
            have hn8 := HN8.out
            obtain ⟨x9, hx9⟩ : ∃ x9, x9 = (encF f).getD (n / 8) 0 := ⟨_, rfl⟩
            have w9 := by_at H11.out (n / 8) (by omega)
            have h12 := by_flip H11.out n
            rw [← hx9] at w9 h12
            have w9c := w9.1
            have w9f := w9.2
            have hv12 := by_flipV HV9.out n
            rw [Crc.flip_length] at h12 hv12
            have e1 : (n : Int).tdiv 8 = ((n / 8 : Nat) : Int) := by rw [Int.tdiv_eq_ediv_of_nonneg (by omega)]; rfl
            have e2 : (n : Int).tmod 8 = ((n % 8 : Nat) : Int) := by rw [Int.tmod_eq_emod_of_nonneg (by omega)]; rfl
            have k1 : (0 : Int) ≤ ((n / 8 : Nat) : Int) := by omega
            have k2 : ((n / 8 : Nat) : Int) < ((encF f).length : Int) := by omega
            have k3 : ((n / 8 : Nat) : Int) ≤ (ce : Int) := by have := by_cap HVE.out; omega
            obtain ⟨W12, hW12⟩ : ∃ W12, W12 = w11.setCell ⟨g9, n / 8, none⟩ (.int .u8 (Go.bits .xor .u8 x9 (2 ^ (n % 8) % 256))) := ⟨_, rfl⟩
            rw [← hW12] at h12
            have CD12 := Lib.hid (dec_none_st (Crc.flip (encF f) n) (encF f).length (some ⟨g9, 0, none⟩) c9 h12 (Crc.flip_length _ _) (by_readsK h12 (Crc.flip_length _ _) (fun x => by simp only [cnt_append]; omega) hv12) (Crc.flip_byt (encF_byt' HFR.out.byt) _) HT.out HZ.out (by omega) (dec_turn HFIT.out HFR.out.byt n hn8))
            have HW12 := Lib.hid hW12
            clear w9 h12 hv12 hW12 hn8 hx9
            go_upto_region 15 with fail
            rw [← HW12.out]
            clear w9c w9f
            go_wp2_with fail
            refine CD12.out.mono ?_; rintro e w13 ⟨rfl, h13⟩
            have h14 := h13.newB frZ 69
            obtain ⟨W14, hW14⟩ : ∃ W14, W14 = w13.alloc (.cells frZ 69) := ⟨_, rfl⟩
            rw [← hW14] at h14
            have h14' : St w W14 (byR (.slice Ae (encF f).length ce) (encF f) ++ [B b3 #[.slice (some ad) fs.length c, .slice A2 bs.length c2] 63, B bt (tuC (some ad) fs.length c A2 bs.length c2 bit) 65]) := h14.re (fun x => by simp only [cnt_append, cnt_cons, cnt_nil]; omega)
            have hre := by_reads h14' (fun x => by simp only [cnt_append]; omega) HVE.out
            have hcl : ((encF f).take (n / 8)).length = n / 8 := by rw [List.length_take]; omega
            have CC14 := Lib.hid (copy_st ((encF f).take (n / 8)) (n / 8) Ae ce h14' hcl (hre.take_ (n / 8) (by omega)) (by omega))
            have HW14 := Lib.hid hW14
            have H14 := Lib.hid h14'
            have HCL := Lib.hid hcl
            clear h13 h14 h14' hW14 hre hcl
            go_upto_region 16 with fail
            rw [← HW14.out]
            go_wp2_with fail
            refine CC14.out.mono ?_; rintro e w15 ⟨A15, c15, rfl, hv15, h15⟩
            have CD15 := Lib.hid (dec_none_st ((encF f).take (n / 8)) (n / 8) A15 c15 h15 HCL.out (by_readsK h15 HCL.out (fun x => by simp only [cnt_append]; omega) hv15) (byt_take' (encF_byt' HFR.out.byt) _) HT.out HZ.out (by omega) (dec_cut HFIT.out (n / 8) (by omega)))
            clear hv15 h15
            go_wp2_with fail
            refine CD15.out.mono ?_; rintro e w16 ⟨rfl, h16⟩
            have h17 := h16.newB frZ 69
            obtain ⟨W17, hW17⟩ : ∃ W17, W17 = w16.alloc (.cells frZ 69) := ⟨_, rfl⟩
            rw [← hW17] at h17
            have h17' : St w W17 (byR (.slice Ae (encF f).length ce) (encF f) ++ [B b3 #[.slice (some ad) fs.length c, .slice A2 bs.length c2] 63, B bt (tuC (some ad) fs.length c A2 bs.length c2 bit) 65]) := h17.re (fun x => by simp only [cnt_append, cnt_cons, cnt_nil]; omega)
            have CC17 := Lib.hid (copy_st (encF f) (encF f).length Ae ce h17' rfl (by_reads h17' (fun x => by simp only [cnt_append]; omega) HVE.out) (by omega))
            have HW17 := Lib.hid hW17
            clear h16 h17 h17' hW17
            go_upto_region 17 with fail
            rw [← HW17.out]
            go_wp2_with fail
            refine CC17.out.mono ?_; rintro e w18 ⟨A18, c18, rfl, hv18, h18⟩
            have h19 := h18.newB #[.int .u8 0] 5
            obtain ⟨W19, hW19⟩ : ∃ W19, W19 = w18.alloc (.cells #[.int .u8 0] 5) := ⟨_, rfl⟩
            obtain ⟨bx, hbx⟩ : ∃ bx, bx = w18.heap.size := ⟨_, rfl⟩
            rw [← hW19, ← hbx] at h19
            have h19' : St w W19 (byR (.slice A18 (encF f).length c18) (encF f) ++ (B bx #[.int .u8 0] 5 :: (byR (.slice Ae (encF f).length ce) (encF f) ++ [B b3 #[.slice (some ad) fs.length c, .slice A2 bs.length c2] 63, B bt (tuC (some ad) fs.length c A2 bs.length c2 bit) 65]))) := h19.re (fun x => by simp only [cnt_append, cnt_cons, cnt_nil]; omega)
            have xx := h19'.cellOf (g := bx) (cs := #[.int .u8 0]) (t := 5) (by simp) 0 rfl
            obtain ⟨A20, c20, W20, hrun, h20, hv20⟩ := by_append h19' hv18 (by omega) ⟨bx, 0, none⟩ 1 0 xx
            have e20 : (encF f ++ [(0 : Int)]).length = (encF f).length + 1 := by simp
            rw [e20] at h20 hv20
            have CD20 := Lib.hid (dec_none_st (encF f ++ [0]) ((encF f).length + 1) A20 c20 h20 e20 (by_readsK h20 e20 (fun x => by simp only [cnt_append]; omega) hv20) (byt_one (encF_byt' HFR.out.byt) 0 ⟨by omega, by omega⟩) HT.out HZ.out (by omega) (dec_long HFIT.out 0))
            have HR := Lib.hid hrun
            have HW19 := Lib.hid hW19
            have HBX := Lib.hid hbx
            clear hv18 h18 h19 h19' hW19 hbx xx hrun h20 hv20 e20
            go_wp2_with (at_builtin; rw [← HW19.out, ← HBX.out]; refine App.wpList_append_run (o := ⟨some 102, _, _, _, _, _⟩) rfl (.tmp 100) (.tmp 101) 22 rfl (.slice A18 (encF f).length c18) (.slice (some ⟨bx, 0, none⟩) 1 1) (.slice A20 ((encF f).length + 1) c20) W20 rfl rfl HR.out ?_)
            refine CD20.out.mono ?_; rintro e w21 ⟨rfl, h21⟩
            have h22 := h21.newB frZ 69
            obtain ⟨W22, hW22⟩ : ∃ W22, W22 = w21.alloc (.cells frZ 69) := ⟨_, rfl⟩
            rw [← hW22] at h22
            have h22' : St w W22 [B b3 #[.slice (some ad) fs.length c, .slice A2 bs.length c2] 63, B bt (tuC (some ad) fs.length c A2 bs.length c2 bit) 65] := h22.re (fun x => by simp only [cnt_append, cnt_cons, cnt_nil]; omega)
            have H22 := Lib.hid h22'
            have HW22 := Lib.hid hW22
            clear h21 h22 h22' hW22
            go_upto_region 18 with fail
            rw [← HW22.out]
            go_wp2_with fail
            go_roundg (fs.length - (q + 1))
            case measure => have := HGK.out; have := HLT.out; omega
            case rel => exact ⟨q + 1, rfl, by have := HLT.out; omega, by go_num, H22.out⟩
        · have he : encF f = [] := encF_nofit hfit
          have j3 : (((encF f).length : Int) == 0) = true := by rw [he]; rfl
          clear he hfit
          go_wp2_with fail
          go_roundg (fs.length - (q + 1))
          case measure => have := HGK.out; have := HLT.out; omega
          case rel => exact ⟨q + 1, rfl, by have := HLT.out; omega, by go_num, H4.out.re (fun x => by simp only [cnt_append, cnt_cons, cnt_nil]; omega)⟩
      · have i1 : ¬ (q : Int) < (fs.length : Int) := by omega
        go_wp2_with fail
        go_meet
        exact HS.out
  case rest =>
    have H5 := Lib.hid hcut
    obtain ⟨wb, hwb⟩ : ∃ wb, wb = wc := ⟨_, rfl⟩
    rw [← hwb] at H5 ⊢
    clear hwb hcut
    go_wp2_with fail
    go_loopg [16] bs.length (fun gk s16 wr => ∃ q : Nat, gk = bs.length - q ∧ q ≤ bs.length ∧ s16 = .int .i64 q ∧ St w wr [B b3 #[.slice A fs.length c, .slice A2 bs.length c2] 63, B bt (tuC A fs.length c A2 bs.length c2 bit) 65])
    case atStart => exact ⟨0, rfl, Nat.zero_le _, rfl, H5.out⟩
    case round =>
      obtain ⟨q, hgk, hq, rfl, hs⟩ := hrel
      have HGK := Lib.hid hgk
      have HS := Lib.hid hs
      have x1 := hs.cellOf (g := b3) (cs := #[.slice A fs.length c, .slice A2 bs.length c2]) (t := 63) (by simp) 1 rfl
      clear hgk hs
      by_cases hlt : q < bs.length
      · have i1 : (q : Int) < (bs.length : Int) := by omega
        have i2 : (0 : Int) ≤ (q : Int) := by omega
        obtain ⟨ad, Ab, cb, rfl, hcb, hrb⟩ := row_at HBB.out q hlt rfl
        obtain ⟨b, hb⟩ : ∃ b, b = bs[q] := ⟨_, rfl⟩
        rw [← hb] at hcb hrb
        have hwb : WB b := by rw [hb]; exact HVB.out _ (List.getElem_mem _)
        have hbl : b.length ≤ 140737488355328 := by have := wb_len hwb; omega
        have hbb := wb_byt hwb
        have z0 := pw_cell_below HS.out.bl hcb
        have CC := Lib.hid (copy_st b b.length Ab cb HS.out rfl (HS.out.reads hrb) hbl)
        have HLT := Lib.hid hlt
        have HCB := Lib.hid hcb
        have HRB := Lib.hid hrb
        have HBL := Lib.hid hbl
        have HBY := Lib.hid hbb
        clear hlt hcb hrb hb hwb hbl hbb
        go_wp2_with fail
        refine CC.out.mono ?_; rintro e w5 ⟨A6, c6, rfl, hv6, h6⟩
        have CD := Lib.hid (dec_calls b A6 c6 w5 (by_reads h6 (fun x => by simp only [cnt_append]; omega) hv6) HBY.out (HT.out.below h6.bl HZ.out) (Nat.lt_of_lt_of_le HZ.out h6.bl.size) HBL.out)
        have H6 := Lib.hid h6
        clear hv6 h6
        go_wp2_with fail
        refine CD.out.mono ?_; rintro e w6 hpost
        have Z0 := Lib.hid z0
        clear z0 x1
        rcases hpost with ⟨hok, A7, c7, rfl, hb7, h7⟩ | ⟨hok, rfl, hb7⟩
        · obtain ⟨hfit, henc⟩ := dec_fit hok
          have hfb := rdF_byt HBY.out
          obtain ⟨F, hF⟩ : ∃ F, F = rdF b := ⟨_, rfl⟩
          rw [← hF] at hb7 h7 hfit henc hfb ⊢
          have h8 := St.lift H6.out h7
          obtain ⟨W8, hW8⟩ : ∃ W8, W8 = w6.alloc (.cells (frC F A7 c7) 69) := ⟨_, rfl⟩
          obtain ⟨b6, hb6⟩ : ∃ b6, b6 = w6.heap.size := ⟨_, rfl⟩
          have h9 := h8.newB (frC F A7 c7) 69
          rw [← hW8, ← hb6] at h9
          have H9 := Lib.hid h9
          have HB7 := Lib.hid hb7
          have HW8 := Lib.hid hW8
          have HB6 := Lib.hid hb6
          have HFIT := Lib.hid hfit
          have HENC := Lib.hid henc
          have HFB := Lib.hid hfb
          clear h7 h8 h9 hb7 hW8 hb6 hok hF hfit henc hfb
          go_upto_region 24 with fail
          rw [← HW8.out, ← HB6.out]
          go_cut [151] (fun s151 wx => s151 = .bool false ∧ St w wx [B b3 #[.slice A fs.length c, .slice (some ad) bs.length c2] 63, B bt (tuC A fs.length c (some ad) bs.length c2 bit) 65])
          case first =>
            have y0 := H9.out.cellOf (g := b6) (cs := frC F A7 c7) (t := 69) (by simp) 0 rfl
            have y1 := H9.out.cellOf (g := b6) (cs := frC F A7 c7) (t := 69) (by simp) 1 rfl
            have y2 := H9.out.cellOf (g := b6) (cs := frC F A7 c7) (t := 69) (by simp) 2 rfl
            have y3 := H9.out.cellOf (g := b6) (cs := frC F A7 c7) (t := 69) (by simp) 3 rfl
            have y4 := H9.out.cellOf (g := b6) (cs := frC F A7 c7) (t := 69) (by simp) 4 rfl
            have y5 := H9.out.cellOf (g := b6) (cs := frC F A7 c7) (t := 69) (by simp) 5 rfl
            have y6 := H9.out.cellOf (g := b6) (cs := frC F A7 c7) (t := 69) (by simp) 6 rfl
            have x1' := H9.out.cellOf (g := b3) (cs := #[.slice A fs.length c, .slice (some ad) bs.length c2]) (t := 63) (by simp) 1 rfl
            have z0' := pw_cell_below H9.out.bl HCB.out
            have SK : Hid (∀ w9, Below W8.heap.size W8 w9 → w9.cell? ⟨b6, 0, none⟩ = some (.int .i64 F.src) ∧ w9.cell? ⟨b6, 1, none⟩ = some (.int .i64 F.dst) ∧ w9.cell? ⟨b6, 2, none⟩ = some (.int .u64 (F.mine : Int)) ∧ w9.cell? ⟨b6, 3, none⟩ = some (.int .u64 (F.yours : Int)) ∧ w9.cell? ⟨b6, 4, none⟩ = some (.int .u64 (F.seq : Int)) ∧ w9.cell? ⟨b6, 5, none⟩ = some (.int .u64 (F.ack : Int)) ∧ w9.cell? ⟨b6, 6, none⟩ = some (.slice A7 F.body.length c7) ∧ w9.cell? ⟨b3, 1, none⟩ = some (.slice (some ad) bs.length c2) ∧ w9.cell? (ad.add q) = some (.slice Ab b.length cb)) := fun w9 h => ⟨pw_cell_below h y0, pw_cell_below h y1, pw_cell_below h y2, pw_cell_below h y3, pw_cell_below h y4, pw_cell_below h y5, pw_cell_below h y6, pw_cell_below h x1', pw_cell_below h z0'⟩
            have hbd : Below W8.heap.size W8 W8.drew := (Below.refl _ _).drew
            have CE : Hid (Calls Tryd.prog 46 #[.agg (frC F A7 c7)] W8.drew fun e w' => ∃ v, e = .returned v ∧ byV v (encF F) ∧ St W8.drew w' (byR v (encF F))) := enc_calls F A7 c7 W8.drew (by_reads H9.out.drew (fun x => by simp only [cnt_append, cnt_cons]; omega) HB7.out) HFB.out
            have HBD := Lib.hid hbd
            clear hbd y0 y1 y2 y3 y4 y5 y6 x1' z0'
            have SM : ∀ (bb0 : Bool) (w9 : World), (fun (_ : Bool) (w9 : World) => w9.cell? ⟨b6, 0, none⟩ = some (.int .i64 F.src) ∧ w9.cell? ⟨b6, 1, none⟩ = some (.int .i64 F.dst) ∧ w9.cell? ⟨b6, 2, none⟩ = some (.int .u64 (F.mine : Int)) ∧ w9.cell? ⟨b6, 3, none⟩ = some (.int .u64 (F.yours : Int)) ∧ w9.cell? ⟨b6, 4, none⟩ = some (.int .u64 (F.seq : Int)) ∧ w9.cell? ⟨b6, 5, none⟩ = some (.int .u64 (F.ack : Int)) ∧ w9.cell? ⟨b6, 6, none⟩ = some (.slice A7 F.body.length c7) ∧ w9.cell? ⟨b3, 1, none⟩ = some (.slice (some ad) bs.length c2) ∧ w9.cell? (ad.add q) = some (.slice Ab b.length cb)) bb0 w9 → (fun (_ : Bool) (w9 : World) => w9.cell? ⟨b6, 0, none⟩ = some (.int .i64 F.src) ∧ w9.cell? ⟨b6, 1, none⟩ = some (.int .i64 F.dst) ∧ w9.cell? ⟨b6, 2, none⟩ = some (.int .u64 (F.mine : Int)) ∧ w9.cell? ⟨b6, 3, none⟩ = some (.int .u64 (F.yours : Int)) ∧ w9.cell? ⟨b6, 4, none⟩ = some (.int .u64 (F.seq : Int)) ∧ w9.cell? ⟨b6, 5, none⟩ = some (.int .u64 (F.ack : Int)) ∧ w9.cell? ⟨b6, 6, none⟩ = some (.slice A7 F.body.length c7) ∧ w9.cell? ⟨b3, 1, none⟩ = some (.slice (some ad) bs.length c2) ∧ w9.cell? (ad.add q) = some (.slice Ab b.length cb)) true w9 := fun _ _ h => h
            refine RegL.begin_of (k := 99) (S := fun (_ : Bool) (w9 : World) => w9.cell? ⟨b6, 0, none⟩ = some (.int .i64 F.src) ∧ w9.cell? ⟨b6, 1, none⟩ = some (.int .i64 F.dst) ∧ w9.cell? ⟨b6, 2, none⟩ = some (.int .u64 (F.mine : Int)) ∧ w9.cell? ⟨b6, 3, none⟩ = some (.int .u64 (F.yours : Int)) ∧ w9.cell? ⟨b6, 4, none⟩ = some (.int .u64 (F.seq : Int)) ∧ w9.cell? ⟨b6, 5, none⟩ = some (.int .u64 (F.ack : Int)) ∧ w9.cell? ⟨b6, 6, none⟩ = some (.slice A7 F.body.length c7) ∧ w9.cell? ⟨b3, 1, none⟩ = some (.slice (some ad) bs.length c2) ∧ w9.cell? (ad.add q) = some (.slice Ab b.length cb)) (by kernel_rfl) ?_
            refine RegL.take_w (i := 0) (oi := ⟨some 130, _, _, _, _, _⟩) (v := ?_) SM rfl (by decide) (by kernel_rfl) (by kernel_rfl) (by kernel_rfl) (fun _ _ _ h => h) (Or.inl ⟨by rfl, ?_⟩) (SK.out _ HBD.out) ?_
            rotate_left
            · intro w9 hw9; obtain ⟨q1, q2, q3, q4, q5, q6, q7, q8, q9⟩ := hw9; go_simp; try with_reducible rfl
            try simp only [Act.put, List.setIfInBounds_toArray, List.set_cons_zero, List.set_cons_succ]
            refine RegL.take_w (i := 1) (oi := ⟨some 131, _, _, _, _, _⟩) (v := ?_) SM rfl (by decide) (by kernel_rfl) (by kernel_rfl) (by kernel_rfl) (fun _ _ _ h => h) (Or.inl ⟨by rfl, ?_⟩) (SK.out _ HBD.out) ?_
            rotate_left
            · intro w9 hw9; obtain ⟨q1, q2, q3, q4, q5, q6, q7, q8, q9⟩ := hw9; go_simp; try with_reducible rfl
            try simp only [Act.put, List.setIfInBounds_toArray, List.set_cons_zero, List.set_cons_succ]
            refine RegL.take_w (i := 2) (oi := ⟨some 132, _, _, _, _, _⟩) (v := ?_) SM rfl (by decide) (by kernel_rfl) (by kernel_rfl) (by kernel_rfl) (fun _ _ _ h => h) (Or.inl ⟨by rfl, ?_⟩) (SK.out _ HBD.out) ?_
            rotate_left
            · intro w9 hw9; obtain ⟨q1, q2, q3, q4, q5, q6, q7, q8, q9⟩ := hw9; go_simp; try with_reducible rfl
            try simp only [Act.put, List.setIfInBounds_toArray, List.set_cons_zero, List.set_cons_succ]
            refine RegL.take_w (i := 4) (oi := ⟨some 134, _, _, _, _, _⟩) (v := ?_) SM rfl (by decide) (by kernel_rfl) (by kernel_rfl) (by kernel_rfl) (fun _ _ _ h => h) (Or.inl ⟨by rfl, ?_⟩) (SK.out _ HBD.out) ?_
            rotate_left
            · intro w9 hw9; obtain ⟨q1, q2, q3, q4, q5, q6, q7, q8, q9⟩ := hw9; go_simp; try with_reducible rfl
            try simp only [Act.put, List.setIfInBounds_toArray, List.set_cons_zero, List.set_cons_succ]
            refine RegL.take_w (i := 5) (oi := ⟨some 135, _, _, _, _, _⟩) (v := ?_) SM rfl (by decide) (by kernel_rfl) (by kernel_rfl) (by kernel_rfl) (fun _ _ _ h => h) (Or.inl ⟨by rfl, ?_⟩) (SK.out _ HBD.out) ?_
            rotate_left
            · intro w9 hw9; obtain ⟨q1, q2, q3, q4, q5, q6, q7, q8, q9⟩ := hw9; go_simp; try with_reducible rfl
            try simp only [Act.put, List.setIfInBounds_toArray, List.set_cons_zero, List.set_cons_succ]
            refine RegL.take_w (i := 6) (oi := ⟨some 136, _, _, _, _, _⟩) (v := ?_) SM rfl (by decide) (by kernel_rfl) (by kernel_rfl) (by kernel_rfl) (fun _ _ _ h => h) (Or.inl ⟨by rfl, ?_⟩) (SK.out _ HBD.out) ?_
            rotate_left
            · intro w9 hw9; obtain ⟨q1, q2, q3, q4, q5, q6, q7, q8, q9⟩ := hw9; go_simp; try with_reducible rfl
            try simp only [Act.put, List.setIfInBounds_toArray, List.set_cons_zero, List.set_cons_succ]
            refine RegL.take_w (i := 7) (oi := ⟨some 137, _, _, _, _, _⟩) (v := ?_) SM rfl (by decide) (by kernel_rfl) (by kernel_rfl) (by kernel_rfl) (fun _ _ _ h => h) (Or.inl ⟨by rfl, ?_⟩) (SK.out _ HBD.out) ?_
            rotate_left
            · intro w9 hw9; obtain ⟨q1, q2, q3, q4, q5, q6, q7, q8, q9⟩ := hw9; go_simp; try with_reducible rfl
            try simp only [Act.put, List.setIfInBounds_toArray, List.set_cons_zero, List.set_cons_succ]
            refine RegL.take_w (i := 8) (oi := ⟨some 138, _, _, _, _, _⟩) (v := ?_) SM rfl (by decide) (by kernel_rfl) (by kernel_rfl) (by kernel_rfl) (fun _ _ _ h => h) (Or.inl ⟨by rfl, ?_⟩) (SK.out _ HBD.out) ?_
            rotate_left
            · intro w9 hw9; obtain ⟨q1, q2, q3, q4, q5, q6, q7, q8, q9⟩ := hw9; go_simp; try with_reducible rfl
            try simp only [Act.put, List.setIfInBounds_toArray, List.set_cons_zero, List.set_cons_succ]
            refine RegL.step_of (i := 3) (o := ⟨some 133, _, _, _, _, _⟩) (by kernel_rfl) rfl (fun K' hK => ?_)
            go_simp
            go_at_call 46
            (with_reducible refine CE.out.mono ?_)
            rintro e w9 ⟨v9, rfl, hv9, hs9⟩
            obtain ⟨A9, c9, rfl⟩ := byV_form hv9
            have HB9 : Hid (Below W8.heap.size W8 w9) := HBD.out.trans hs9.bl
            have CQ := Lib.hid (eq_calls (encF F) b A9 Ab c9 cb w9 (by_reads hs9 (fun x => by omega) hv9) (HRB.out.below (H9.out.bl.trans (HB9.out.mono H9.out.bl.size))) HBL.out)
            clear hv9 hs9
            refine hK _ _ (SK.out _ HB9.out) ?_
            clear hK K'
            try simp only [Act.put, List.setIfInBounds_toArray, List.set_cons_zero, List.set_cons_succ]
            refine RegL.step_of (i := 9) (o := ⟨some 139, _, _, _, _, _⟩) (by kernel_rfl) rfl (fun K' hK => ?_)
            go_simp
            go_at_call 34
            (with_reducible refine CQ.out.mono ?_)
            rintro e w10 ⟨b10, rfl, hb10, hbq⟩
            obtain rfl : b10 = true := hb10.2 HENC.out
            have HBQ : Hid (Below W8.heap.size W8 w10) := HB9.out.trans (hbq.mono HB9.out.size)
            clear hbq hb10
            refine hK _ _ (SK.out _ HBQ.out) ?_
            clear hK K'
            try simp only [Act.put, List.setIfInBounds_toArray, List.set_cons_zero, List.set_cons_succ]
            refine RegL.take_w (i := 10) (oi := ⟨some 140, _, _, _, _, _⟩) (v := ?_) SM rfl (by decide) (by kernel_rfl) (by kernel_rfl) (by kernel_rfl) (fun _ _ _ h => h) (Or.inl ⟨by rfl, ?_⟩) (SK.out _ HBQ.out) ?_
            rotate_left
            · intro w9 hw9; obtain ⟨q1, q2, q3, q4, q5, q6, q7, q8, q9⟩ := hw9; go_simp; try with_reducible rfl
            try simp only [Act.put, List.setIfInBounds_toArray, List.set_cons_zero, List.set_cons_succ]
            refine RegL.take_w (i := 11) (oi := ⟨some 141, _, _, _, _, _⟩) (v := ?_) SM rfl (by decide) (by kernel_rfl) (by kernel_rfl) (by kernel_rfl) (fun _ _ _ h => h) (Or.inl ⟨by rfl, ?_⟩) (SK.out _ HBQ.out) ?_
            rotate_left
            · intro w9 hw9; obtain ⟨q1, q2, q3, q4, q5, q6, q7, q8, q9⟩ := hw9; go_simp; try with_reducible rfl
            try simp only [Act.put, List.setIfInBounds_toArray, List.set_cons_zero, List.set_cons_succ]
            refine RegL.take_w (i := 12) (oi := ⟨some 142, _, _, _, _, _⟩) (v := ?_) SM rfl (by decide) (by kernel_rfl) (by kernel_rfl) (by kernel_rfl) (fun _ _ _ h => h) (Or.inl ⟨by rfl, ?_⟩) (SK.out _ HBQ.out) ?_
            rotate_left
            · intro w9 hw9; obtain ⟨q1, q2, q3, q4, q5, q6, q7, q8, q9⟩ := hw9; go_simp; try with_reducible rfl
            try simp only [Act.put, List.setIfInBounds_toArray, List.set_cons_zero, List.set_cons_succ]
            refine RegL.take_w (i := 13) (oi := ⟨some 143, _, _, _, _, _⟩) (v := ?_) SM rfl (by decide) (by kernel_rfl) (by kernel_rfl) (by kernel_rfl) (fun _ _ _ h => h) (Or.inl ⟨by rfl, ?_⟩) (SK.out _ HBQ.out) ?_
            rotate_left
            · intro w9 hw9; obtain ⟨q1, q2, q3, q4, q5, q6, q7, q8, q9⟩ := hw9; go_simp; try with_reducible rfl
            try simp only [Act.put, List.setIfInBounds_toArray, List.set_cons_zero, List.set_cons_succ]
            refine RegL.take_w (i := 14) (oi := ⟨some 144, _, _, _, _, _⟩) (v := ?_) SM rfl (by decide) (by kernel_rfl) (by kernel_rfl) (by kernel_rfl) (fun _ _ _ h => h) (Or.inl ⟨by rfl, ?_⟩) (SK.out _ HBQ.out) ?_
            rotate_left
            · intro w9 hw9; obtain ⟨q1, q2, q3, q4, q5, q6, q7, q8, q9⟩ := hw9; go_simp; try with_reducible rfl
            try simp only [Act.put, List.setIfInBounds_toArray, List.set_cons_zero, List.set_cons_succ]
            refine RegL.take_w (i := 15) (oi := ⟨some 145, _, _, _, _, _⟩) (v := ?_) SM rfl (by decide) (by kernel_rfl) (by kernel_rfl) (by kernel_rfl) (fun _ _ _ h => h) (Or.inl ⟨by rfl, ?_⟩) (SK.out _ HBQ.out) ?_
            rotate_left
            · intro w9 hw9; obtain ⟨q1, q2, q3, q4, q5, q6, q7, q8, q9⟩ := hw9; go_simp; try with_reducible rfl
            try simp only [Act.put, List.setIfInBounds_toArray, List.set_cons_zero, List.set_cons_succ]
            refine RegL.take_w (i := 16) (oi := ⟨some 146, _, _, _, _, _⟩) (v := undef) SM rfl (by decide) (by kernel_rfl) (by kernel_rfl) (by kernel_rfl) (fun _ _ _ h => h) (Or.inr ⟨by rfl, rfl⟩) (SK.out _ HBQ.out) ?_
            try simp only [Act.put, List.setIfInBounds_toArray, List.set_cons_zero, List.set_cons_succ]
            refine RegL.take_w (i := 17) (oi := ⟨some 147, _, _, _, _, _⟩) (v := undef) SM rfl (by decide) (by kernel_rfl) (by kernel_rfl) (by kernel_rfl) (fun _ _ _ h => h) (Or.inr ⟨by rfl, rfl⟩) (SK.out _ HBQ.out) ?_
            try simp only [Act.put, List.setIfInBounds_toArray, List.set_cons_zero, List.set_cons_succ]
            refine RegL.take_w (i := 18) (oi := ⟨some 148, _, _, _, _, _⟩) (v := undef) SM rfl (by decide) (by kernel_rfl) (by kernel_rfl) (by kernel_rfl) (fun _ _ _ h => h) (Or.inr ⟨by rfl, rfl⟩) (SK.out _ HBQ.out) ?_
            try simp only [Act.put, List.setIfInBounds_toArray, List.set_cons_zero, List.set_cons_succ]
            refine RegL.take_w (i := 19) (oi := ⟨some 149, _, _, _, _, _⟩) (v := undef) SM rfl (by decide) (by kernel_rfl) (by kernel_rfl) (by kernel_rfl) (fun _ _ _ h => h) (Or.inr ⟨by rfl, rfl⟩) (SK.out _ HBQ.out) ?_
            try simp only [Act.put, List.setIfInBounds_toArray, List.set_cons_zero, List.set_cons_succ]
            refine RegL.take_w (i := 20) (oi := ⟨some 150, _, _, _, _, _⟩) (v := ?_) SM rfl (by decide) (by kernel_rfl) (by kernel_rfl) (by kernel_rfl) (fun _ _ _ h => h) (Or.inl ⟨by rfl, ?_⟩) (SK.out _ HBQ.out) ?_
            rotate_left
            · intro w9 hw9; obtain ⟨q1, q2, q3, q4, q5, q6, q7, q8, q9⟩ := hw9; go_simp; try with_reducible rfl
            try simp only [Act.put, List.setIfInBounds_toArray, List.set_cons_zero, List.set_cons_succ]
            refine RegL.take_w (i := 21) (oi := ⟨some 151, _, _, _, _, _⟩) (v := ?_) SM rfl (by decide) (by kernel_rfl) (by kernel_rfl) (by kernel_rfl) (fun _ _ _ h => h) (Or.inl ⟨by rfl, ?_⟩) (SK.out _ HBQ.out) ?_
            rotate_left
            · intro w9 hw9; obtain ⟨q1, q2, q3, q4, q5, q6, q7, q8, q9⟩ := hw9; go_simp; try with_reducible rfl
            try simp only [Act.put, List.setIfInBounds_toArray, List.set_cons_zero, List.set_cons_succ]
            refine RegL.done_of (by kernel_rfl) ?_ _
            go_wp2_with fail
            go_meet
            exact ⟨rfl, (H9.out.below HBQ.out).re (fun x => by simp only [cnt_append, cnt_cons, cnt_nil]; omega)⟩
          case rest =>
            obtain ⟨hs151, hs9⟩ := hcut
            subst hs151
            have HS9 := Lib.hid hs9
            clear hs9
            go_wp2_with fail
            go_roundg (bs.length - (q + 1))
            case measure => have := HGK.out; have := HLT.out; omega
            case rel => exact ⟨q + 1, rfl, by have := HLT.out; omega, by go_num, HS9.out⟩
        · have h8 := H6.out.below hb7
          obtain ⟨W8, hW8⟩ : ∃ W8, W8 = w6.alloc (.cells frZ 69) := ⟨_, rfl⟩
          obtain ⟨b6, hb6⟩ : ∃ b6, b6 = w6.heap.size := ⟨_, rfl⟩
          have h9 := h8.newB frZ 69
          rw [← hW8, ← hb6] at h9
          have H9 := Lib.hid h9
          have HW8 := Lib.hid hW8
          have HB6 := Lib.hid hb6
          clear h8 h9 hb7 hW8 hb6 hok
          go_upto_region 24 with fail
          rw [← HW8.out, ← HB6.out]
          go_cut [151] (fun s151 wx => s151 = .bool false ∧ St w wx [B b3 #[.slice A fs.length c, .slice (some ad) bs.length c2] 63, B bt (tuC A fs.length c (some ad) bs.length c2 bit) 65])
          case first =>
            have y0 := H9.out.cellOf (g := b6) (cs := frZ) (t := 69) (by simp) 0 rfl
            have y1 := H9.out.cellOf (g := b6) (cs := frZ) (t := 69) (by simp) 1 rfl
            have y2 := H9.out.cellOf (g := b6) (cs := frZ) (t := 69) (by simp) 2 rfl
            have y3 := H9.out.cellOf (g := b6) (cs := frZ) (t := 69) (by simp) 3 rfl
            have y4 := H9.out.cellOf (g := b6) (cs := frZ) (t := 69) (by simp) 4 rfl
            have y5 := H9.out.cellOf (g := b6) (cs := frZ) (t := 69) (by simp) 5 rfl
            have y6 := H9.out.cellOf (g := b6) (cs := frZ) (t := 69) (by simp) 6 rfl
            have SK : Hid (∀ w9, Below W8.heap.size W8 w9 → w9.cell? ⟨b6, 0, none⟩ = some (.int .i64 0) ∧ w9.cell? ⟨b6, 1, none⟩ = some (.int .i64 0) ∧ w9.cell? ⟨b6, 2, none⟩ = some (.int .u64 0) ∧ w9.cell? ⟨b6, 3, none⟩ = some (.int .u64 0) ∧ w9.cell? ⟨b6, 4, none⟩ = some (.int .u64 0) ∧ w9.cell? ⟨b6, 5, none⟩ = some (.int .u64 0) ∧ w9.cell? ⟨b6, 6, none⟩ = some (.slice none 0 0)) := fun w9 h => ⟨pw_cell_below h y0, pw_cell_below h y1, pw_cell_below h y2, pw_cell_below h y3, pw_cell_below h y4, pw_cell_below h y5, pw_cell_below h y6⟩
            have hbd : Below W8.heap.size W8 W8.drew := (Below.refl _ _).drew
            have CQ : Hid (Calls Tryd.prog 48 #[.agg frZ, .agg frZ] W8.drew fun e w' => e = .returned (.bool true) ∧ Below W8.heap.size W8 w') :=
              (eqf_calls ⟨0, 0, 0, 0, 0, 0, []⟩ ⟨0, 0, 0, 0, 0, 0, []⟩ none none 0 0 W8.drew (ReadsOf.nil I 0 _) (ReadsOf.nil I 0 _) (Nat.zero_le _)).mono fun e w' ⟨b9, he, hb9, hbl9⟩ => by
                obtain rfl : b9 = true := hb9.2 rfl
                exact ⟨he, hbd.trans hbl9⟩
            have HBD := Lib.hid hbd
            clear hbd y0 y1 y2 y3 y4 y5 y6
            have SM : ∀ (bb0 : Bool) (w9 : World), (fun (_ : Bool) (w9 : World) => w9.cell? ⟨b6, 0, none⟩ = some (.int .i64 0) ∧ w9.cell? ⟨b6, 1, none⟩ = some (.int .i64 0) ∧ w9.cell? ⟨b6, 2, none⟩ = some (.int .u64 0) ∧ w9.cell? ⟨b6, 3, none⟩ = some (.int .u64 0) ∧ w9.cell? ⟨b6, 4, none⟩ = some (.int .u64 0) ∧ w9.cell? ⟨b6, 5, none⟩ = some (.int .u64 0) ∧ w9.cell? ⟨b6, 6, none⟩ = some (.slice none 0 0)) bb0 w9 → (fun (_ : Bool) (w9 : World) => w9.cell? ⟨b6, 0, none⟩ = some (.int .i64 0) ∧ w9.cell? ⟨b6, 1, none⟩ = some (.int .i64 0) ∧ w9.cell? ⟨b6, 2, none⟩ = some (.int .u64 0) ∧ w9.cell? ⟨b6, 3, none⟩ = some (.int .u64 0) ∧ w9.cell? ⟨b6, 4, none⟩ = some (.int .u64 0) ∧ w9.cell? ⟨b6, 5, none⟩ = some (.int .u64 0) ∧ w9.cell? ⟨b6, 6, none⟩ = some (.slice none 0 0)) true w9 := fun _ _ h => h
            refine RegL.begin_of (k := 99) (S := fun (_ : Bool) (w9 : World) => w9.cell? ⟨b6, 0, none⟩ = some (.int .i64 0) ∧ w9.cell? ⟨b6, 1, none⟩ = some (.int .i64 0) ∧ w9.cell? ⟨b6, 2, none⟩ = some (.int .u64 0) ∧ w9.cell? ⟨b6, 3, none⟩ = some (.int .u64 0) ∧ w9.cell? ⟨b6, 4, none⟩ = some (.int .u64 0) ∧ w9.cell? ⟨b6, 5, none⟩ = some (.int .u64 0) ∧ w9.cell? ⟨b6, 6, none⟩ = some (.slice none 0 0)) (by kernel_rfl) ?_
            refine RegL.take_w (i := 0) (oi := ⟨some 130, _, _, _, _, _⟩) (v := ?_) SM rfl (by decide) (by kernel_rfl) (by kernel_rfl) (by kernel_rfl) (fun _ _ _ h => h) (Or.inl ⟨by rfl, ?_⟩) (SK.out _ HBD.out) ?_
            rotate_left
            · intro w9 hw9; obtain ⟨q1, q2, q3, q4, q5, q6, q7⟩ := hw9; go_simp; try with_reducible rfl
            try simp only [Act.put, List.setIfInBounds_toArray, List.set_cons_zero, List.set_cons_succ]
            refine RegL.take_w (i := 1) (oi := ⟨some 131, _, _, _, _, _⟩) (v := ?_) SM rfl (by decide) (by kernel_rfl) (by kernel_rfl) (by kernel_rfl) (fun _ _ _ h => h) (Or.inl ⟨by rfl, ?_⟩) (SK.out _ HBD.out) ?_
            rotate_left
            · intro w9 hw9; obtain ⟨q1, q2, q3, q4, q5, q6, q7⟩ := hw9; go_simp; try with_reducible rfl
            try simp only [Act.put, List.setIfInBounds_toArray, List.set_cons_zero, List.set_cons_succ]
            refine RegL.take_w (i := 2) (oi := ⟨some 132, _, _, _, _, _⟩) (v := undef) SM rfl (by decide) (by kernel_rfl) (by kernel_rfl) (by kernel_rfl) (fun _ _ _ h => h) (Or.inr ⟨by rfl, rfl⟩) (SK.out _ HBD.out) ?_
            try simp only [Act.put, List.setIfInBounds_toArray, List.set_cons_zero, List.set_cons_succ]
            refine RegL.take_w (i := 4) (oi := ⟨some 134, _, _, _, _, _⟩) (v := undef) SM rfl (by decide) (by kernel_rfl) (by kernel_rfl) (by kernel_rfl) (fun _ _ _ h => h) (Or.inr ⟨by rfl, rfl⟩) (SK.out _ HBD.out) ?_
            try simp only [Act.put, List.setIfInBounds_toArray, List.set_cons_zero, List.set_cons_succ]
            refine RegL.take_w (i := 5) (oi := ⟨some 135, _, _, _, _, _⟩) (v := undef) SM rfl (by decide) (by kernel_rfl) (by kernel_rfl) (by kernel_rfl) (fun _ _ _ h => h) (Or.inr ⟨by rfl, rfl⟩) (SK.out _ HBD.out) ?_
            try simp only [Act.put, List.setIfInBounds_toArray, List.set_cons_zero, List.set_cons_succ]
            refine RegL.take_w (i := 6) (oi := ⟨some 136, _, _, _, _, _⟩) (v := undef) SM rfl (by decide) (by kernel_rfl) (by kernel_rfl) (by kernel_rfl) (fun _ _ _ h => h) (Or.inr ⟨by rfl, rfl⟩) (SK.out _ HBD.out) ?_
            try simp only [Act.put, List.setIfInBounds_toArray, List.set_cons_zero, List.set_cons_succ]
            refine RegL.take_w (i := 7) (oi := ⟨some 137, _, _, _, _, _⟩) (v := undef) SM rfl (by decide) (by kernel_rfl) (by kernel_rfl) (by kernel_rfl) (fun _ _ _ h => h) (Or.inr ⟨by rfl, rfl⟩) (SK.out _ HBD.out) ?_
            try simp only [Act.put, List.setIfInBounds_toArray, List.set_cons_zero, List.set_cons_succ]
            refine RegL.take_w (i := 8) (oi := ⟨some 138, _, _, _, _, _⟩) (v := undef) SM rfl (by decide) (by kernel_rfl) (by kernel_rfl) (by kernel_rfl) (fun _ _ _ h => h) (Or.inr ⟨by rfl, rfl⟩) (SK.out _ HBD.out) ?_
            try simp only [Act.put, List.setIfInBounds_toArray, List.set_cons_zero, List.set_cons_succ]
            refine RegL.take_w (i := 3) (oi := ⟨some 133, _, _, _, _, _⟩) (v := undef) SM rfl (by decide) (by kernel_rfl) (by kernel_rfl) (by kernel_rfl) (fun _ _ _ h => h) (Or.inr ⟨by rfl, rfl⟩) (SK.out _ HBD.out) ?_
            try simp only [Act.put, List.setIfInBounds_toArray, List.set_cons_zero, List.set_cons_succ]
            refine RegL.take_w (i := 9) (oi := ⟨some 139, _, _, _, _, _⟩) (v := undef) SM rfl (by decide) (by kernel_rfl) (by kernel_rfl) (by kernel_rfl) (fun _ _ _ h => h) (Or.inr ⟨by rfl, rfl⟩) (SK.out _ HBD.out) ?_
            try simp only [Act.put, List.setIfInBounds_toArray, List.set_cons_zero, List.set_cons_succ]
            refine RegL.take_w (i := 10) (oi := ⟨some 140, _, _, _, _, _⟩) (v := undef) SM rfl (by decide) (by kernel_rfl) (by kernel_rfl) (by kernel_rfl) (fun _ _ _ h => h) (Or.inr ⟨by rfl, rfl⟩) (SK.out _ HBD.out) ?_
            try simp only [Act.put, List.setIfInBounds_toArray, List.set_cons_zero, List.set_cons_succ]
            refine RegL.take_w (i := 11) (oi := ⟨some 141, _, _, _, _, _⟩) (v := ?_) SM rfl (by decide) (by kernel_rfl) (by kernel_rfl) (by kernel_rfl) (fun _ _ _ h => h) (Or.inl ⟨by rfl, ?_⟩) (SK.out _ HBD.out) ?_
            rotate_left
            · intro w9 hw9; obtain ⟨q1, q2, q3, q4, q5, q6, q7⟩ := hw9; go_simp; try with_reducible rfl
            try simp only [Act.put, List.setIfInBounds_toArray, List.set_cons_zero, List.set_cons_succ]
            refine RegL.take_w (i := 12) (oi := ⟨some 142, _, _, _, _, _⟩) (v := ?_) SM rfl (by decide) (by kernel_rfl) (by kernel_rfl) (by kernel_rfl) (fun _ _ _ h => h) (Or.inl ⟨by rfl, ?_⟩) (SK.out _ HBD.out) ?_
            rotate_left
            · intro w9 hw9; obtain ⟨q1, q2, q3, q4, q5, q6, q7⟩ := hw9; go_simp; try with_reducible rfl
            try simp only [Act.put, List.setIfInBounds_toArray, List.set_cons_zero, List.set_cons_succ]
            refine RegL.take_w (i := 13) (oi := ⟨some 143, _, _, _, _, _⟩) (v := ?_) SM rfl (by decide) (by kernel_rfl) (by kernel_rfl) (by kernel_rfl) (fun _ _ _ h => h) (Or.inl ⟨by rfl, ?_⟩) (SK.out _ HBD.out) ?_
            rotate_left
            · intro w9 hw9; obtain ⟨q1, q2, q3, q4, q5, q6, q7⟩ := hw9; go_simp; try with_reducible rfl
            try simp only [Act.put, List.setIfInBounds_toArray, List.set_cons_zero, List.set_cons_succ]
            refine RegL.take_w (i := 14) (oi := ⟨some 144, _, _, _, _, _⟩) (v := ?_) SM rfl (by decide) (by kernel_rfl) (by kernel_rfl) (by kernel_rfl) (fun _ _ _ h => h) (Or.inl ⟨by rfl, ?_⟩) (SK.out _ HBD.out) ?_
            rotate_left
            · intro w9 hw9; obtain ⟨q1, q2, q3, q4, q5, q6, q7⟩ := hw9; go_simp; try with_reducible rfl
            try simp only [Act.put, List.setIfInBounds_toArray, List.set_cons_zero, List.set_cons_succ]
            refine RegL.take_w (i := 15) (oi := ⟨some 145, _, _, _, _, _⟩) (v := ?_) SM rfl (by decide) (by kernel_rfl) (by kernel_rfl) (by kernel_rfl) (fun _ _ _ h => h) (Or.inl ⟨by rfl, ?_⟩) (SK.out _ HBD.out) ?_
            rotate_left
            · intro w9 hw9; obtain ⟨q1, q2, q3, q4, q5, q6, q7⟩ := hw9; go_simp; try with_reducible rfl
            try simp only [Act.put, List.setIfInBounds_toArray, List.set_cons_zero, List.set_cons_succ]
            refine RegL.take_w (i := 16) (oi := ⟨some 146, _, _, _, _, _⟩) (v := ?_) SM rfl (by decide) (by kernel_rfl) (by kernel_rfl) (by kernel_rfl) (fun _ _ _ h => h) (Or.inl ⟨by rfl, ?_⟩) (SK.out _ HBD.out) ?_
            rotate_left
            · intro w9 hw9; obtain ⟨q1, q2, q3, q4, q5, q6, q7⟩ := hw9; go_simp; try with_reducible rfl
            try simp only [Act.put, List.setIfInBounds_toArray, List.set_cons_zero, List.set_cons_succ]
            refine RegL.take_w (i := 17) (oi := ⟨some 147, _, _, _, _, _⟩) (v := ?_) SM rfl (by decide) (by kernel_rfl) (by kernel_rfl) (by kernel_rfl) (fun _ _ _ h => h) (Or.inl ⟨by rfl, ?_⟩) (SK.out _ HBD.out) ?_
            rotate_left
            · intro w9 hw9; obtain ⟨q1, q2, q3, q4, q5, q6, q7⟩ := hw9; go_simp; try with_reducible rfl
            try simp only [Act.put, List.setIfInBounds_toArray, List.set_cons_zero, List.set_cons_succ]
            refine RegL.step_of (i := 18) (o := ⟨some 148, _, _, _, _, _⟩) (by kernel_rfl) rfl (fun K' hK => ?_)
            go_simp
            go_at_call 48
            (with_reducible refine CQ.out.mono ?_)
            rintro e w9 ⟨rfl, hbq⟩
            have HBQ := Lib.hid hbq
            clear hbq
            refine hK _ _ (SK.out _ HBQ.out) ?_
            clear hK K'
            try simp only [Act.put, List.setIfInBounds_toArray, List.set_cons_zero, List.set_cons_succ]
            refine RegL.take_w (i := 19) (oi := ⟨some 149, _, _, _, _, _⟩) (v := ?_) SM rfl (by decide) (by kernel_rfl) (by kernel_rfl) (by kernel_rfl) (fun _ _ _ h => h) (Or.inl ⟨by rfl, ?_⟩) (SK.out _ HBQ.out) ?_
            rotate_left
            · intro w9 hw9; obtain ⟨q1, q2, q3, q4, q5, q6, q7⟩ := hw9; go_simp; try with_reducible rfl
            try simp only [Act.put, List.setIfInBounds_toArray, List.set_cons_zero, List.set_cons_succ]
            refine RegL.take_w (i := 20) (oi := ⟨some 150, _, _, _, _, _⟩) (v := ?_) SM rfl (by decide) (by kernel_rfl) (by kernel_rfl) (by kernel_rfl) (fun _ _ _ h => h) (Or.inl ⟨by rfl, ?_⟩) (SK.out _ HBQ.out) ?_
            rotate_left
            · intro w9 hw9; obtain ⟨q1, q2, q3, q4, q5, q6, q7⟩ := hw9; go_simp; try with_reducible rfl
            try simp only [Act.put, List.setIfInBounds_toArray, List.set_cons_zero, List.set_cons_succ]
            refine RegL.take_w (i := 21) (oi := ⟨some 151, _, _, _, _, _⟩) (v := ?_) SM rfl (by decide) (by kernel_rfl) (by kernel_rfl) (by kernel_rfl) (fun _ _ _ h => h) (Or.inl ⟨by rfl, ?_⟩) (SK.out _ HBQ.out) ?_
            rotate_left
            · intro w9 hw9; obtain ⟨q1, q2, q3, q4, q5, q6, q7⟩ := hw9; go_simp; try with_reducible rfl
            try simp only [Act.put, List.setIfInBounds_toArray, List.set_cons_zero, List.set_cons_succ]
            refine RegL.done_of (by kernel_rfl) ?_ _
            go_wp2_with fail
            go_meet
            exact ⟨rfl, (H9.out.below HBQ.out).re (fun x => by simp only [cnt_append, cnt_cons, cnt_nil]; omega)⟩
          case rest =>
            obtain ⟨hs151, hs9⟩ := hcut
            subst hs151
            have HS9 := Lib.hid hs9
            clear hs9
            go_wp2_with fail
            go_roundg (bs.length - (q + 1))
            case measure => have := HGK.out; have := HLT.out; omega
            case rel => exact ⟨q + 1, rfl, by have := HLT.out; omega, by go_num, HS9.out⟩
      · have i1 : ¬ (q : Int) < (bs.length : Int) := by omega
        have CB2 := Lib.hid (begun_calls wr (HT.out.below HS.out.bl HZ.out) (Nat.lt_of_lt_of_le HZ.out HS.out.bl.size))
        go_wp2_with fail
        refine CB2.out.mono ?_; rintro e w9 ⟨rfl, hb9⟩
        have HE := Lib.hid (HS.out.bl.trans (hb9.mono HS.out.bl.size))
        clear hb9
        go_wp2_with fail
        go_ret
        exact ⟨rfl, HE.out⟩
end Go.Proofs.YtoeiaimoppmjdaaDoor.Lk
