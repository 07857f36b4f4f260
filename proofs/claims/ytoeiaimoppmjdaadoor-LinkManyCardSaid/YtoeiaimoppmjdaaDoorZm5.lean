/- Merged by merge2.py out of the texts: Tick0, Dec, Dec2, Dec3, EqF, Begun, Within, TurnSt. -/
import Derived.Test.YtoeiaimoppmjdaaDoorZm4
import Derived.Test.YtoeiaimoppmjdaaDoorZm2
import Derived.Test.YtoeiaimoppmjdaaDoorEq
import Derived.Test.YtoeiaimoppmjdaaDoorRdr2
import Derived.Lib.Bytes
import Derived.Test.YtoeiaimoppmjdaaDoorZm3
import Derived.Test.YtoeiaimoppmjdaaDoorCopy
/- Tick of a link with an empty row. -/
namespace Go.Proofs.YtoeiaimoppmjdaaDoor.Lk
open Go.RowKit Go.Proofs.YtoeiaimoppmjdaaDoorW.PrintWords Go.Proofs.YtoeiaimoppmjdaaDoor.Mem Go.Proofs.YtoeiaimoppmjdaaDoor.Wr Go.Proofs.YtoeiaimoppmjdaaDoor.Bytes Go.Proofs.YtoeiaimoppmjdaaDoor.App
open Go.Proofs.YtoeiaimoppmjdaaDoor.Pace (nxt IsO dbl tick_yes tick_no)
set_option linter.unusedVariables false
set_option linter.unusedSimpArgs false
set_option maxRecDepth 20000 in
set_option maxHeartbeats 6400000 in
/-- The first tick of a link that knows nobody: a word. -/
theorem tickA_calls (w0 W : World) (R : List Ent) (g : Nat) (s : LS) (h : St w0 W (lkE g s ++ R)) (hV : LkV s) (hi : s.items = []) (hiv : s.iv = NL) (hk : s.known = 0) (hw : s.word = true) (hl : s.left ≤ 1) (ha : s.ack = false) (hq : s.asked = false) :
    Calls Tryd.prog 56 #[pt g] W fun e w' => ∃ ov v, e = .returned ov ∧ OutV ov [(v, encF (frm s 0 []))] ∧ LkV { s with left := s.gap, gap := dbl s.cap s.gap } ∧ St w0 w' (lkE g { s with left := s.gap, gap := dbl s.cap s.gap } ++ (outE ov [(v, encF (frm s 0 []))] ++ R)) := by
  obtain ⟨W1, hW1⟩ : ∃ W1, W1 = W.alloc (.cells #[pt g] 80) := ⟨_, rfl⟩
  obtain ⟨bl, hbl⟩ : ∃ bl, bl = W.heap.size := ⟨_, rfl⟩
  have h1 := h.newB #[pt g] 80
  rw [← hW1, ← hbl] at h1
  have h1' : St w0 W1 (lkE g s ++ (B bl #[pt g] 80 :: R)) := h1.re (fun x => by simp only [cnt_append, cnt_cons]; omega)
  have x0 := h1'.cellOf (g := bl) (cs := #[pt g]) (t := 80) (by simp) 0 rfl
  have c5 : W1.cell? ⟨g, 5, none⟩ = some s.iv := lk_cell h1' 5 rfl
  have c12 : W1.cell? ⟨g, 12, none⟩ = some (.bool s.word) := lk_cell h1' 12 rfl
  have c9 : W1.cell? ⟨g, 9, none⟩ = some (pt s.gp) := lk_cell h1' 9 rfl
  rw [hiv] at c5
  rw [hw] at c12
  have CP := Lib.hid (tick_yes s.gp s.cap s.left s.gap W1 (St.pace h1' hV) hl)
  have H1 := Lib.hid h1'
  have HV := Lib.hid hV
  have HW1 := Lib.hid hW1
  have HBL := Lib.hid hbl
  have HI := Lib.hid hi
  have HIV := Lib.hid hiv
  have HK := Lib.hid hk
  have HWD := Lib.hid hw
  have HA := Lib.hid ha
  have HQ := Lib.hid hq
  clear h1 h1' h hV hW1 hbl hi hiv hk hw hl ha hq
  go_enter Tryd.func56, Tryd.ntmps56
  go_upto_region 1 with fail
  rw [← HW1.out, ← HBL.out]
  go_wp2_with fail
  refine CP.out.mono ?_; rintro e w2 ⟨rfl, ho, hg⟩
  obtain ⟨h2, hv2⟩ := St.paced H1.out HV.out ho hg
  obtain ⟨s2, hs2⟩ : ∃ s2 : LS, s2 = { s with left := s.gap, gap := dbl s.cap s.gap } := ⟨_, rfl⟩
  rw [← hs2] at h2 hv2
  have e3 : s2.known = 0 := by rw [hs2]; exact HK.out
  have e10 : s2.ack = false := by rw [hs2]; exact HA.out
  have e11 : s2.asked = false := by rw [hs2]; exact HQ.out
  have e12 : s2.word = true := by rw [hs2]; exact HWD.out
  have ef : frm s2 0 [] = frm s 0 [] := by rw [hs2]
  obtain ⟨W3, hW3⟩ : ∃ W3, W3 = w2.alloc (.cells #[NL] 61) := ⟨_, rfl⟩
  obtain ⟨bo, hbo⟩ : ∃ bo, bo = w2.heap.size := ⟨_, rfl⟩
  have h3 := h2.newB #[NL] 61
  rw [← hW3, ← hbo] at h3
  have h3' : St w0 W3 (lkE g s2 ++ (B bo #[NL] 61 :: (B bl #[pt g] 80 :: (outE NL [] ++ R)))) := h3.re (fun x => by simp only [outE, rowE_nil, List.length_nil, List.map_nil, List.flatMap_nil, cnt_append, cnt_cons, cnt_nil]; omega)
  have y0 := h3'.cellOf (g := bl) (cs := #[pt g]) (t := 80) (by simp) 0 rfl
  have yo := h3'.cellOf (g := bo) (cs := #[NL]) (t := 61) (by simp) 0 rfl
  have d3 : W3.cell? ⟨g, 3, none⟩ = some (.int .u64 0) := by
    have q : W3.cell? ⟨g, 3, none⟩ = some (.int .u64 (s2.known : Int)) := lk_cell h3' 3 rfl
    rw [e3] at q; exact q
  have d10 : W3.cell? ⟨g, 10, none⟩ = some (.bool s2.ack) := lk_cell h3' 10 rfl
  have d11 : W3.cell? ⟨g, 11, none⟩ = some (.bool s2.asked) := lk_cell h3' 11 rfl
  have d12 : W3.cell? ⟨g, 12, none⟩ = some (.bool s2.word) := lk_cell h3' 12 rfl
  rw [e10] at d10
  rw [e11] at d11
  rw [e12] at d12
  have CS : Hid (Calls Tryd.prog 97 #[.int .u64 0, .slice none 0 0, .pointer (some ⟨bo, 0, none⟩), .pointer (some ⟨bl, 0, none⟩)] W3 fun e w' => e = .returned (.tuple #[]) ∧ ∃ ov' v, OutV ov' [(v, encF (frm s 0 []))] ∧ St w0 w' (lkE g s2 ++ (B bo #[ov'] 61 :: (B bl #[pt g] 80 :: (outE ov' [(v, encF (frm s 0 []))] ++ R))))) := by
    have q := say_calls w0 W3 R g bo bl s2 NL [] 0 none 0 [] h3' outV_nil (ReadsOf.nil I 0 W3) (fun a h => (by cases h)) (by simp)
    rw [ef] at q
    exact q
  have HS2 := Lib.hid hs2
  have V2 := Lib.hid hv2
  have HW3 := Lib.hid hW3
  have HBO := Lib.hid hbo
  have E10 := Lib.hid e10
  have E11 := Lib.hid e11
  clear ho hg h2 hv2 hs2 h3 h3' hW3 hbo e3 e10 e11 e12 ef x0 c5 c12 c9
  go_upto_region 4 with fail
  rw [← HBO.out, ← HW3.out]
  go_wp2_with fail
  refine CS.out.mono ?_; rintro e w4 ⟨rfl, ov, v, hov, hs4⟩
  obtain ⟨Ao, co, rfl⟩ := row_form hov.row
  have z0 := hs4.cellOf (g := bl) (cs := #[pt g]) (t := 80) (by simp) 0 rfl
  have zo : w4.cell? ⟨bo, 0, none⟩ = some (.slice Ao 1 co) := hs4.cellOf (g := bo) (cs := #[.slice Ao 1 co]) (t := 61) (by simp) 0 rfl
  have z9 : w4.cell? ⟨g, 9, none⟩ = some (pt s2.gp) := lk_cell hs4 9 rfl
  have z10 : w4.cell? ⟨g, 10, none⟩ = some (.bool s2.ack) := lk_cell hs4 10 rfl
  have z11 : w4.cell? ⟨g, 11, none⟩ = some (.bool s2.asked) := lk_cell hs4 11 rfl
  have f10 := lk_free hs4 10
  have f11 := lk_free hs4 11
  have H4 := Lib.hid hs4
  have HOV := Lib.hid hov
  clear hs4 hov y0 yo d3 d10 d11 d12
  go_wp2_with fail
  go_region
  all_goals
    obtain ⟨W5, hW5⟩ : ∃ W5, W5 = ((w4.setCell ⟨g, 10, none⟩ (.bool false)).setCell ⟨g, 11, none⟩ (.bool false)).drew := ⟨_, rfl⟩
    have h5 : St w0 W5 (B g (lkC s2) 128 :: (B s2.gp (pcC s2) 135 :: (itemsE s2 ++ (B bo #[.slice Ao 1 co] 61 :: (B bl #[pt g] 80 :: (outE (.slice Ao 1 co) [(v, encF (frm s 0 []))] ++ R)))))) := by
      rw [hW5]
      exact (((H4.out.re (M := B g (lkC s2) 128 :: (B s2.gp (pcC s2) 135 :: (itemsE s2 ++ (B bo #[.slice Ao 1 co] 61 :: (B bl #[pt g] 80 :: (outE (.slice Ao 1 co) [(v, encF (frm s 0 []))] ++ R)))))) (fun x => by simp only [lkE, List.length_cons, List.length_nil, Nat.zero_add, cnt_append, cnt_cons]; omega)).put (cs' := lkC s2) 10 (.bool false) (by rw [← E10.out]; rfl)).put (cs' := lkC s2) 11 (.bool false) (by rw [← E11.out]; rfl)).drew
    have u0 := h5.cellOf (g := bo) (cs := #[.slice Ao 1 co]) (t := 61) (by simp) 0 rfl
    rw [← hW5]
    have H5 := Lib.hid h5
    clear hW5 h5 z0 zo z9 z10 z11 f10 f11
    go_wp2_with fail
    go_ret
    have hov := HOV.out
    rw [← HS2.out]
    exact ⟨.slice Ao 1 co, v, rfl, hov, V2.out, H5.out.re (fun x => by simp only [lkE, cnt_append, cnt_cons]; omega)⟩
end Go.Proofs.YtoeiaimoppmjdaaDoor.Lk
/- Contract: DecodeFrame. -/
namespace Go.Proofs.YtoeiaimoppmjdaaDoor.Lk
open Go.RowKit Go.Proofs.YtoeiaimoppmjdaaDoorW.PrintWords Go.Proofs.YtoeiaimoppmjdaaDoor.Mem Go.Proofs.YtoeiaimoppmjdaaDoor.Wr Go.Proofs.YtoeiaimoppmjdaaDoor.Bytes Go.Proofs.YtoeiaimoppmjdaaDoor.Crc
set_option linter.unusedVariables false
set_option linter.unusedSimpArgs false
theorem bytesOf_inj {xs ys : List Int} (bx : Byt xs) (by_ : Byt ys) (h : Lib.bytesOf xs = Lib.bytesOf ys) : xs = ys := by
  induction xs generalizing ys with
  | nil => cases ys with
    | nil => rfl
    | cons b t => simp [Lib.bytesOf] at h
  | cons a r ih => cases ys with
    | nil => simp [Lib.bytesOf] at h
    | cons b t =>
      simp only [Lib.bytesOf, List.map_cons, List.cons.injEq] at h
      have ha := bx a (List.mem_cons_self ..)
      have hb := by_ b (List.mem_cons_self ..)
      have h1 : a = b := by
        have h2 := congrArg UInt8.toNat h.1
        simp at h2
        omega
      rw [h1, ih (fun x hx => bx x (List.mem_cons_of_mem _ hx)) (fun x hx => by_ x (List.mem_cons_of_mem _ hx)) h.2]
theorem str_beq {xs ys : List Int} (bx : Byt xs) (by_ : Byt ys) : ((strOfNums xs).toList == (strOfNums ys).toList) = (xs == ys) := by
  rw [Lib.strOfNums_toList, Lib.strOfNums_toList, Bool.eq_iff_iff]
  simp only [beq_iff_eq]
  exact ⟨bytesOf_inj bx by_, fun h => by rw [h]⟩
set_option maxRecDepth 20000 in
/-- bytes.Equal. -/
theorem bequal_calls (xs ys : List Int) (A B' : Option Addr) (c d : Nat) (w : World) (hx : ReadsOf I 0 w A xs.length xs) (hy : ReadsOf I 0 w B' ys.length ys) (bx : Byt xs) (by_ : Byt ys) :
    Calls Tryd.prog 86 #[.slice A xs.length c, .slice B' ys.length d] w fun e w' => e = .returned (.bool (xs == ys)) ∧ w = w' := by
  have s1 := string_of_reads (P := Tryd.prog) (src := 22) (dst := 9) (c := c) Tryd.underlying22 Tryd.underlying5 Tryd.underlying9 hx
  have s2 := string_of_reads (P := Tryd.prog) (src := 22) (dst := 9) (c := d) Tryd.underlying22 Tryd.underlying5 Tryd.underlying9 hy
  have HE := Lib.hid (str_beq bx by_)
  clear hx hy bx by_
  cases hs : ((strOfNums xs).toList == (strOfNums ys).toList) with
  | true =>
    go_enter Tryd.func86, Tryd.ntmps86
    go_wp2_with fail
    go_ret
    exact ⟨by rw [← HE.out, hs]; rfl, rfl⟩
  | false =>
    go_enter Tryd.func86, Tryd.ntmps86
    go_wp2_with fail
    go_ret
    exact ⟨by rw [← HE.out, hs]; rfl, rfl⟩
end Go.Proofs.YtoeiaimoppmjdaaDoor.Lk
/- Contract: DecodeFrame. -/
namespace Go.Proofs.YtoeiaimoppmjdaaDoor.Lk
open Go.RowKit Go.Proofs.YtoeiaimoppmjdaaDoorW.PrintWords Go.Proofs.YtoeiaimoppmjdaaDoor.Mem Go.Proofs.YtoeiaimoppmjdaaDoor.Wr Go.Proofs.YtoeiaimoppmjdaaDoor.Bytes Go.Proofs.YtoeiaimoppmjdaaDoor.Crc
set_option linter.unusedVariables false
set_option linter.unusedSimpArgs false
theorem results_cell2 {fn : Func} {a u : Nat} {t : TypeId} (h : fn.results = #[.cell a t, .tmp u]) (tmps : Array Value) (P : Program) (w : World) (ad : Addr) (v x : Value) (ha : tmps.getD a undef = .pointer (some ad)) (hl : (loadVar t ad).run P w = .ok v w) (hx : tmps.getD u undef = x) :
    (results fn tmps).run P w = .ok (.tuple #[v, x]) w := by
  rw [results_cell_tmp h, ha]
  simp [asAddr, Result.andThen, hl, hx]
theorem St.read {w0 W W' : World} {R : List Ent} {g base : Nat} {v : Value} {xs : List Int} (h : St w0 W R) (hr : Rdr W' base g v xs 0 0) (hb : Below W.heap.size W W') (hg : W.heap.size ≤ g) (hv : ∀ b, v.ownBlock = some b → W.heap.size ≤ b) : St w0 W' (rdrE g v xs ⟨0, 0⟩ ++ R) ∧ byV v xs := by
  have hV : byV v xs := own_rowV hr.own
  refine ⟨St.step (F := []) (by simpa using h) (h.bl.trans (hb.mono h.bl.size)) hb.size (fun i hi _ => hb.block i hi) ?_ (fun p hp => ?_) (fun p hp => .inr ?_), hV⟩
  · show (g :: (byR v xs).map (·.1)).Nodup
    refine List.nodup_cons.2 ⟨fun hm => ?_, rowE_nd ..⟩
    obtain ⟨p, hp, e⟩ := List.mem_map.1 hm
    exact rdr_ne hr (by rw [rowE_blk hp hV, e])
  · rcases List.mem_cons.1 hp with rfl | hp
    · exact ⟨_, hr.blk, rfl⟩
    · exact own_has hr.own p hp
  · rcases List.mem_cons.1 hp with rfl | hp
    · exact hg
    · exact hv _ (rowE_blk hp hV)
abbrev frZ : Array Value := #[.int .i64 0, .int .i64 0, .int .u64 0, .int .u64 0, .int .u64 0, .int .u64 0, .slice none 0 0]
def numK (b : List Int) : Nat → Nat
  | 0 => (r3 b).1
  | 1 => (r4 b).1
  | 2 => (r5 b).1
  | _ => (r6 b).1
def stK (b : List Int) : Nat → RS
  | 0 => (r2 b).2
  | 1 => (r3 b).2
  | 2 => (r4 b).2
  | 3 => (r5 b).2
  | _ => (r6 b).2
theorem four {k : Nat} (h : k < 4) : k = 0 ∨ k = 1 ∨ k = 2 ∨ k = 3 := by omega
theorem stK_step (b : List Int) (k : Nat) (h : k < 4) : (rVar b (stK b k) 1099511627776).1 = numK b k ∧ (rVar b (stK b k) 1099511627776).2 = stK b (k + 1) := by
  rcases four h with rfl | rfl | rfl | rfl
  · show (rVar b (r2 b).2 1099511627776).1 = (r3 b).1 ∧ (rVar b (r2 b).2 1099511627776).2 = (r3 b).2
    unfold r3; exact ⟨rfl, rfl⟩
  · show (rVar b (r3 b).2 1099511627776).1 = (r4 b).1 ∧ (rVar b (r3 b).2 1099511627776).2 = (r4 b).2
    unfold r4; exact ⟨rfl, rfl⟩
  · show (rVar b (r4 b).2 1099511627776).1 = (r5 b).1 ∧ (rVar b (r4 b).2 1099511627776).2 = (r5 b).2
    unfold r5; exact ⟨rfl, rfl⟩
  · show (rVar b (r5 b).2 1099511627776).1 = (r6 b).1 ∧ (rVar b (r5 b).2 1099511627776).2 = (r6 b).2
    unfold r6; exact ⟨rfl, rfl⟩
theorem stK_ok (b : List Int) (k : Nat) : (stK b k).Ok b := by
  unfold stK; split
  · exact r2_ok b
  · exact (r3_ok b).1
  · exact (r4_ok b).1
  · exact (r5_ok b).1
  · exact (r6_ok b).1
def numZ (b : List Int) (k i : Nat) : Int := if i < k then (numK b i : Int) else 0
def cellsK (b : List Int) (k : Nat) : Array Value := #[.int .i64 ((r1 b).1 : Int), .int .i64 ((r2 b).1 : Int), .int .u64 (numZ b k 0), .int .u64 (numZ b k 1), .int .u64 (numZ b k 2), .int .u64 (numZ b k 3), .slice none 0 0]
theorem cellsK_step (b : List Int) (k : Nat) (h : k < 4) : (cellsK b k).setIfInBounds (2 + k) (.int .u64 (numK b k : Int)) = cellsK b (k + 1) := by
  rcases four h with rfl | rfl | rfl | rfl <;> rfl
theorem cellsK_end (b : List Int) (A : Option Addr) (c : Nat) : (cellsK b 4).setIfInBounds 6 (.slice A (r7 b).1.length c) = frC (rdF b) A c := by
  unfold rdF
  simp [cellsK, frC, numZ, numK]
def DecPost (w : World) (b : List Int) (e : Ending) (w' : World) : Prop :=
  (decOk b = true ∧ ∃ A c, e = .returned (.tuple #[.agg (frC (rdF b) A c), .bool true]) ∧ byV (.slice A (rdF b).body.length c) (rdF b).body ∧ St w w' (byR (.slice A (rdF b).body.length c) (rdF b).body)) ∨
  (decOk b = false ∧ e = .returned (.tuple #[.agg frZ, .bool false]) ∧ Below w.heap.size w w')
abbrev ptrs (bf : Nat) : Array Value := #[.pointer (some ⟨bf, 2, none⟩), .pointer (some ⟨bf, 3, none⟩), .pointer (some ⟨bf, 4, none⟩), .pointer (some ⟨bf, 5, none⟩)]
theorem ptrs_at (bf k : Nat) (h : k < 4) : (ptrs bf)[k]? = some (.pointer (some ⟨bf, 2 + k, none⟩)) := by
  rcases four h with rfl | rfl | rfl | rfl <;> rfl
theorem cellsK_at (b : List Int) (k : Nat) (h : k < 4) : (cellsK b k)[2 + k]? = some (.int .u64 0) := by
  rcases four h with rfl | rfl | rfl | rfl <;> rfl
theorem decOk_short {b : List Int} (h : b.length < 4 ∨ 2112 < b.length) : decOk b = false := by
  cases e : decOk b with
  | false => rfl
  | true => simp [decOk] at e; omega
theorem decOk_end {b : List Int} (h : ¬ rEnd b (r8 b).2 = 0) : decOk b = false := by
  cases e : decOk b with
  | false => rfl
  | true =>
    simp only [decOk, Bool.and_eq_true, decide_eq_true_eq, beq_iff_eq] at e
    exact absurd e.1.2 h
theorem decOk_eq {b : List Int} (h1 : 4 ≤ b.length) (h2 : b.length ≤ 2112) (h : rEnd b (r8 b).2 = 0) : decOk b = (encF (rdF b) == b) := by
  unfold decOk
  simp [h1, h2, h]
end Go.Proofs.YtoeiaimoppmjdaaDoor.Lk
/- Contract: DecodeFrame: the walk. -/
namespace Go.Proofs.YtoeiaimoppmjdaaDoor.Lk
open Go.RowKit Go.Proofs.YtoeiaimoppmjdaaDoorW.PrintWords Go.Proofs.YtoeiaimoppmjdaaDoor.Mem Go.Proofs.YtoeiaimoppmjdaaDoor.Wr Go.Proofs.YtoeiaimoppmjdaaDoor.Bytes Go.Proofs.YtoeiaimoppmjdaaDoor.Crc
set_option linter.unusedVariables false
set_option linter.unusedSimpArgs false
set_option maxRecDepth 20000 in
set_option maxHeartbeats 6400000 in
theorem dec_calls (b : List Int) (A : Option Addr) (c : Nat) (w : World) (hr : ReadsOf I 0 w A b.length b) (hb : Byt b) (ht : ErrTab w) (hz : 0 < w.heap.size) (hbl : b.length ≤ 140737488355328) :
    Calls Tryd.prog 47 #[.slice A b.length c] w (DecPost w b) := by
  obtain ⟨W1, hW1⟩ : ∃ W1, W1 = w.alloc (.cells frZ 69) := ⟨_, rfl⟩
  obtain ⟨ba, hba⟩ : ∃ ba, ba = w.heap.size := ⟨_, rfl⟩
  have h1 := (St.start w).newB frZ 69
  rw [← hW1, ← hba] at h1
  have H1 := Lib.hid h1
  have HW1 := Lib.hid hW1
  have HBA := Lib.hid hba
  have HR := Lib.hid hr
  have HB := Lib.hid hb
  have HT := Lib.hid ht
  have HZ := Lib.hid hz
  have HBL := Lib.hid hbl
  clear h1 hW1 hba hr hb ht hz hbl
  by_cases hs : b.length < 4 ∨ 2112 < b.length
  · have HS := Lib.hid (decOk_short hs)
    have hc : ((b.length : Int) < 4) ∨ (¬ (b.length : Int) < 4 ∧ (2112 : Int) < (b.length : Int)) := by omega
    have HBl1 := Lib.hid H1.out.bl
    have f0 := H1.out.freeOf (g := ba) (cs := frZ) (t := 69) (by simp) 0
    clear hs
    rcases hc with p1 | ⟨p1, p2⟩
    all_goals
      go_enter Tryd.func47, Tryd.ntmps47
      go_wp2_with fail
      refine bodyPost_ret (results_cell2 rfl _ _ _ ⟨w.heap.size, 0, none⟩ (.agg frZ) (.bool false) rfl (by go_simp) rfl) rfl ?_
      exact .inr ⟨HS.out, rfl, (Below.refl _ _).alloc (Nat.le_refl _) _⟩
  · have p1 : ¬ (b.length : Int) < 4 := by omega
    have p2 : ¬ (2112 : Int) < (b.length : Int) := by omega
    obtain ⟨W2, hW2⟩ : ∃ W2, W2 = W1.alloc (.cells frZ 69) := ⟨_, rfl⟩
    obtain ⟨bf, hbf⟩ : ∃ bf, bf = W1.heap.size := ⟨_, rfl⟩
    have h2 := H1.out.newB frZ 69
    rw [← hW2, ← hbf] at h2
    have CR := Lib.hid (read_calls b A c W2 W2.heap.size (Nat.le_refl _) (h2.reads HR.out) (by omega))
    have H2 := Lib.hid h2
    have HW2 := Lib.hid hW2
    have HBF : Hid (bf = ba + 1) := by show bf = _; rw [hbf, HW1.out, HBA.out]; simp
    clear h2 hW2 hbf hs
    go_enter Tryd.func47, Tryd.ntmps47
    go_wp2_with fail
    rw [← HW1.out, ← HBA.out, ← HW2.out, ← HBF.out]
    refine CR.out.mono ?_; rintro e w3 ⟨g, v, rfl, hrd, hb3, hg3, hv3⟩
    obtain ⟨h3, hv⟩ := St.read H2.out hrd hb3 hg3 hv3
    have C1 : Hid (Calls Tryd.prog 42 #[.pointer (some ⟨g, 0, none⟩)] w3 fun e w' => e = .returned (.int .u8 ((r1 b).1 : Int)) ∧ RdTo w3 w' w.heap.size g v b (r1 b).2) := rd8_calls w3 w.heap.size g v b ⟨0, 0⟩ (St.rdr h3 hv) (r0_ok b) h3.bl.size HB.out
    have VV := Lib.hid hv
    have H3 := Lib.hid h3
    clear hrd hb3 hg3 hv3 h3 hv
    go_wp2_with fail
    refine C1.out.mono ?_; rintro e w4 ⟨rfl, t4⟩
    have h4 := St.rd H3.out VV.out t4
    have C2 : Hid (Calls Tryd.prog 42 #[.pointer (some ⟨g, 0, none⟩)] w4 fun e w' => e = .returned (.int .u8 ((r2 b).1 : Int)) ∧ RdTo w4 w' w.heap.size g v b (r2 b).2) := rd8_calls w4 w.heap.size g v b (r1 b).2 (St.rdr h4 VV.out) (r1_ok b) h4.bl.size HB.out
    have H4 := Lib.hid h4
    have wr1 : IntKind.i64.wrap ((r1 b).1 : Int) = ((r1 b).1 : Int) := IntWalk.i64_in _ (by have := r1_lt HB.out; omega)
    have wr2 : IntKind.i64.wrap ((r2 b).1 : Int) = ((r2 b).1 : Int) := IntWalk.i64_in _ (by have := r2_lt HB.out; omega)
    clear t4 h4
    go_wp2_with fail
    refine C2.out.mono ?_; rintro e w5 ⟨rfl, t5⟩
    have h5 := St.rd H4.out VV.out t5
    have y0 := h5.cellOf (g := bf) (cs := frZ) (t := 69) (by simp) 0 rfl
    have y1 := h5.cellOf (g := bf) (cs := frZ) (t := 69) (by simp) 1 rfl
    have f0 := h5.freeOf (g := bf) (cs := frZ) (t := 69) (by simp) 0
    have f1 := h5.freeOf (g := bf) (cs := frZ) (t := 69) (by simp) 1
    obtain ⟨W6, hW6⟩ : ∃ W6, W6 = (w5.setCell ⟨bf, 0, none⟩ (.int .i64 ((r1 b).1 : Int))).setCell ⟨bf, 1, none⟩ (.int .i64 ((r2 b).1 : Int)) := ⟨_, rfl⟩
    have h6 := ((h5.re (M := B bf frZ 69 :: (rdrE g v b (stK b 0) ++ [B ba frZ 69])) (fun x => by simp only [stK, cnt_append, cnt_cons, cnt_nil]; omega)).put (cs' := #[.int .i64 ((r1 b).1 : Int), .int .i64 0, .int .u64 0, .int .u64 0, .int .u64 0, .int .u64 0, .slice none 0 0]) 0 (.int .i64 ((r1 b).1 : Int)) rfl).put (cs' := cellsK b 0) 1 (.int .i64 ((r2 b).1 : Int)) rfl
    rw [← hW6] at h6
    obtain ⟨W7, hW7⟩ : ∃ W7, W7 = W6.alloc (.cells (ptrs bf) 121) := ⟨_, rfl⟩
    obtain ⟨bl, hbl2⟩ : ∃ bl, bl = W6.heap.size := ⟨_, rfl⟩
    have h7 := h6.newB (ptrs bf) 121
    rw [← hW7, ← hbl2] at h7
    have H7 : Hid (St w W7 (rdrE g v b (stK b 0) ++ [B bl (ptrs bf) 121, B bf (cellsK b 0) 69, B ba frZ 69])) := h7.re (fun x => by simp only [cnt_append, cnt_cons, cnt_nil]; omega)
    have HW6 := Lib.hid hW6
    have HW7 := Lib.hid hW7
    have HBL2 : Hid (bl = w5.heap.size) := by show bl = _; rw [hbl2, hW6]; simp [World.setCell]
    clear t5 h5 h6 h7 hW6 hW7 hbl2
    go_wp2_with fail
    rw [← HW6.out, ← HBL2.out, ← HW7.out]
    clear y0 y1 f0 f1 wr1 wr2
    go_loopg [33] 4 (fun gk s33 wr => ∃ k : Nat, gk = 4 - k ∧ k ≤ 4 ∧ s33 = .int .i64 k ∧ St w wr (rdrE g v b (stK b k) ++ [B bl (ptrs bf) 121, B bf (cellsK b k) 69, B ba frZ 69]))
    case atStart => exact ⟨0, rfl, by omega, rfl, H7.out⟩
    case round =>
      obtain ⟨k, hgk, hk, rfl, hs⟩ := hrel
      have HGK := Lib.hid hgk
      have HS := Lib.hid hs
      clear hgk hs
      by_cases hlt : k < 4
      · have z := HS.out.cellOf (g := bl) (cs := ptrs bf) (t := 121) (by simp) k (ptrs_at bf k hlt)
        have i1 : (k : Int) < 4 := by omega
        have i2 : (0 : Int) ≤ (k : Int) := by omega
        obtain ⟨e1, e2⟩ := stK_step b k hlt
        have CV : Hid (Calls Tryd.prog 69 #[.pointer (some ⟨g, 0, none⟩), .int .u64 1099511627776] wr fun e w' => e = .returned (.int .u64 (numK b k : Int)) ∧ RdTo wr w' w.heap.size g v b (stK b (k + 1))) := by
          have q := varR_calls wr w.heap.size g v b (stK b k) 1099511627776 (St.rdr HS.out VV.out) (stK_ok b k) HS.out.bl.size HB.out HBL.out
          rw [e1, e2] at q
          exact q
        have HLT := Lib.hid hlt
        clear e1 e2 hlt
        go_wp2_with fail
        refine CV.out.mono ?_; rintro e w7 ⟨rfl, t7⟩
        have h7 := St.rd HS.out VV.out t7
        have y := h7.cellOf (g := bf) (cs := cellsK b k) (t := 69) (by simp) (2 + k) (cellsK_at b k HLT.out)
        have f := h7.freeOf (g := bf) (cs := cellsK b k) (t := 69) (by simp) (2 + k)
        have H8 := Lib.hid ((h7.re (M := B bf (cellsK b k) 69 :: (rdrE g v b (stK b (k + 1)) ++ [B bl (ptrs bf) 121, B ba frZ 69])) (fun x => by simp only [cnt_append, cnt_cons, cnt_nil]; omega)).put (2 + k) (.int .u64 (numK b k : Int)) (cellsK_step b k HLT.out))
        clear t7 h7 z
        go_wp2_with fail
        go_roundg (4 - (k + 1))
        case measure => have := HGK.out; have := HLT.out; omega
        case rel => exact ⟨k + 1, rfl, by have := HLT.out; omega, by go_num, H8.out.re (fun x => by simp only [cnt_append, cnt_cons, cnt_nil]; omega)⟩
      · have hk4 : k = 4 := by omega
        subst hk4
        have i1 : ¬ (4 : Int) < 4 := by omega
        have hs4 : St w wr (rdrE g v b (r6 b).2 ++ [B bl (ptrs bf) 121, B bf (cellsK b 4) 69, B ba frZ 69]) := HS.out
        have CY : Hid (Calls Tryd.prog 71 #[.pointer (some ⟨g, 0, none⟩), .int .i64 2048] wr (TakenPost wr w.heap.size g v b (r7 b).1 (r7 b).2)) := by
          have q := bytesR_calls wr w.heap.size g v b (r6 b).2 2048 (St.rdr hs4 VV.out) (r6_ok b).1 hs4.bl.size HB.out HBL.out (by omega) (by omega)
          rw [r7_eq] at q
          exact q
        have H8 := Lib.hid hs4
        clear hs4 hlt
        go_wp2_with fail
        refine CY.out.mono ?_; rintro e w8 ⟨u, rfl, hou, t8⟩
        obtain ⟨h8, hu⟩ := St.taken H8.out VV.out t8 hou
        obtain ⟨A7, c7, rfl⟩ := byV_form hu
        have y := h8.cellOf (g := bf) (cs := cellsK b 4) (t := 69) (by simp) 6 (v := .slice none 0 0) rfl
        have f := h8.freeOf (g := bf) (cs := cellsK b 4) (t := 69) (by simp) 6
        obtain ⟨W9, hW9⟩ : ∃ W9, W9 = w8.setCell ⟨bf, 6, none⟩ (.slice A7 (r7 b).1.length c7) := ⟨_, rfl⟩
        have h9 := (h8.re (M := B bf (cellsK b 4) 69 :: (rdrE g v b (r7 b).2 ++ (byR (.slice A7 (r7 b).1.length c7) (r7 b).1 ++ [B ba frZ 69]))) (fun x => by simp only [cnt_append, cnt_cons, cnt_nil]; omega)).put 6 (.slice A7 (r7 b).1.length c7) (cellsK_end b A7 c7)
        rw [← hW9] at h9
        have h9' : St w W9 (rdrE g v b (r7 b).2 ++ (B bf (frC (rdF b) A7 c7) 69 :: (byR (.slice A7 (r7 b).1.length c7) (r7 b).1 ++ [B ba frZ 69]))) := h9.re (fun x => by simp only [cnt_append, cnt_cons, cnt_nil]; omega)
        have CU : Hid (Calls Tryd.prog 66 #[.pointer (some ⟨g, 0, none⟩)] W9 fun e w' => e = .returned (.int .u32 ((r8 b).1 : Int)) ∧ RdTo W9 w' w.heap.size g v b (r8 b).2) := by
          have q := rd32_calls W9 w.heap.size g v b (r7 b).2 (St.rdr h9' VV.out) (r7_ok b) h9'.bl.size HB.out
          rw [r8_eq] at q
          exact q
        have VU := Lib.hid hu
        have H9 := Lib.hid h9'
        have HW9 := Lib.hid hW9
        clear hou t8 h8 hu hW9 h9 h9'
        go_wp2_with fail
        rw [← HW9.out]
        refine CU.out.mono ?_; rintro e w10 ⟨rfl, t10⟩
        have h10 := St.rd H9.out VV.out t10
        have CE := Lib.hid (end_calls w10 w.heap.size g v b (r8 b).2 (St.rdr h10 VV.out) (r8_ok b) (HT.out.below h10.bl HZ.out) (Nat.lt_of_lt_of_le HZ.out h10.bl.size))
        have H10 := Lib.hid h10
        clear t10 h10 y f
        obtain ⟨en, hen⟩ : ∃ en, en = rEnd b (r8 b).2 := ⟨_, rfl⟩
        rw [← hen] at CE
        have HEN := Lib.hid hen
        clear hen
        by_cases he0 : en = 0
        · subst he0
          have hq := decOk_eq (b := b) (by omega) (by omega) HEN.out.symm
          obtain ⟨ok, hok⟩ : ∃ ok, ok = decOk b := ⟨_, rfl⟩
          rw [← hok] at hq
          obtain ⟨F, hF⟩ : ∃ F, F = rdF b := ⟨_, rfl⟩
          have hbd : F.body = (r7 b).1 := by rw [hF, rdF_body]
          have hbt : Byt F.body := by rw [hF]; exact rdF_byt HB.out
          have hbe : Byt (encF F) := by rw [hF]; exact encF_byt HB.out
          have VU2 : byV (.slice A7 F.body.length c7) F.body := by rw [hbd]; exact VU.out
          have hk10 := H10.out
          rw [← hF, ← hbd] at hk10
          rw [← hF] at hq
          have HBT := Lib.hid hbt
          have HBE := Lib.hid hbe
          have HVU2 := Lib.hid VU2
          have K10 := Lib.hid hk10
          have HF := Lib.hid hF
          have HOK := Lib.hid hok
          have HQ := Lib.hid hq
          clear hok hq hF hbd hbt hbe VU2 hk10 H10
          go_wp2_with fail
          refine CE.out.mono ?_; rintro e w11 ⟨rfl, hb11⟩
          have h11 := K10.out.below hb11
          have y0 := h11.cellOf (g := bf) (cs := frC F A7 c7) (t := 69) (by simp) 0 rfl
          have y1 := h11.cellOf (g := bf) (cs := frC F A7 c7) (t := 69) (by simp) 1 rfl
          have y2 := h11.cellOf (g := bf) (cs := frC F A7 c7) (t := 69) (by simp) 2 rfl
          have y3 := h11.cellOf (g := bf) (cs := frC F A7 c7) (t := 69) (by simp) 3 rfl
          have y4 := h11.cellOf (g := bf) (cs := frC F A7 c7) (t := 69) (by simp) 4 rfl
          have y5 := h11.cellOf (g := bf) (cs := frC F A7 c7) (t := 69) (by simp) 5 rfl
          have y6 := h11.cellOf (g := bf) (cs := frC F A7 c7) (t := 69) (by simp) 6 rfl
          have CN := Lib.hid (enc_calls F A7 c7 w11 (by_reads h11 (fun x => by simp only [cnt_append, cnt_cons, cnt_nil]; omega) HVU2.out) HBT.out)
          have H11 := Lib.hid h11
          clear hb11 h11
          go_wp2_with fail
          refine CN.out.mono ?_; rintro e w12 ⟨vE, rfl, hvE, hsE⟩
          have h12 := St.lift H11.out hsE
          obtain ⟨AE, cE, rfl⟩ := byV_form hvE
          have CB := Lib.hid (bequal_calls (encF F) b AE A cE c w12 (by_reads h12 (fun x => by simp only [cnt_append, cnt_cons, cnt_nil]; omega) hvE) (h12.reads HR.out) HBE.out HB.out)
          rw [← HQ.out] at CB
          have z0 := h12.cellOf (g := bf) (cs := frC F A7 c7) (t := 69) (by simp) 0 rfl
          have z1 := h12.cellOf (g := bf) (cs := frC F A7 c7) (t := 69) (by simp) 1 rfl
          have z2 := h12.cellOf (g := bf) (cs := frC F A7 c7) (t := 69) (by simp) 2 rfl
          have z3 := h12.cellOf (g := bf) (cs := frC F A7 c7) (t := 69) (by simp) 3 rfl
          have z4 := h12.cellOf (g := bf) (cs := frC F A7 c7) (t := 69) (by simp) 4 rfl
          have z5 := h12.cellOf (g := bf) (cs := frC F A7 c7) (t := 69) (by simp) 5 rfl
          have z6 := h12.cellOf (g := bf) (cs := frC F A7 c7) (t := 69) (by simp) 6 rfl
          have x0 := h12.cellOf (g := ba) (cs := frZ) (t := 69) (by simp) 0 rfl
          have fx0 := h12.freeOf (g := ba) (cs := frZ) (t := 69) (by simp) 0
          have x1 := h12.cellOf (g := ba) (cs := frZ) (t := 69) (by simp) 1 rfl
          have fx1 := h12.freeOf (g := ba) (cs := frZ) (t := 69) (by simp) 1
          have x2 := h12.cellOf (g := ba) (cs := frZ) (t := 69) (by simp) 2 rfl
          have fx2 := h12.freeOf (g := ba) (cs := frZ) (t := 69) (by simp) 2
          have x3 := h12.cellOf (g := ba) (cs := frZ) (t := 69) (by simp) 3 rfl
          have fx3 := h12.freeOf (g := ba) (cs := frZ) (t := 69) (by simp) 3
          have x4 := h12.cellOf (g := ba) (cs := frZ) (t := 69) (by simp) 4 rfl
          have fx4 := h12.freeOf (g := ba) (cs := frZ) (t := 69) (by simp) 4
          have x5 := h12.cellOf (g := ba) (cs := frZ) (t := 69) (by simp) 5 rfl
          have fx5 := h12.freeOf (g := ba) (cs := frZ) (t := 69) (by simp) 5
          have x6 := h12.cellOf (g := ba) (cs := frZ) (t := 69) (by simp) 6 rfl
          have fx6 := h12.freeOf (g := ba) (cs := frZ) (t := 69) (by simp) 6
          have H12 := Lib.hid h12
          clear hvE hsE h12 y0 y1 y2 y3 y4 y5 y6
          cases ok
          · go_wp2_with fail
            refine CB.out.mono ?_; rintro e w13 ⟨rfl, rfl⟩
            go_wp2_with fail
            obtain ⟨Wz, hWz⟩ : ∃ Wz, Wz = (((((((w12.setCell ⟨ba, 0, none⟩ (.int .i64 0)).setCell ⟨ba, 1, none⟩ (.int .i64 0)).setCell ⟨ba, 2, none⟩ (.int .u64 0)).setCell ⟨ba, 3, none⟩ (.int .u64 0)).setCell ⟨ba, 4, none⟩ (.int .u64 0)).setCell ⟨ba, 5, none⟩ (.int .u64 0)).setCell ⟨ba, 6, none⟩ (.slice none 0 0)) := ⟨_, rfl⟩
            have hz : St w Wz (B ba (frZ) 69 :: (byR (.slice AE (encF F).length cE) (encF F) ++ (rdrE g v b (r8 b).2 ++ (B bf (frC F A7 c7) 69 :: byR (.slice A7 F.body.length c7) F.body)))) := by rw [hWz]; exact ((((((((H12.out.re (M := B ba frZ 69 :: (byR (.slice AE (encF F).length cE) (encF F) ++ (rdrE g v b (r8 b).2 ++ (B bf (frC F A7 c7) 69 :: byR (.slice A7 F.body.length c7) F.body)))) (fun x => by simp only [cnt_append, cnt_cons, cnt_nil]; omega)).put (cs' := #[.int .i64 0, .int .i64 0, .int .u64 0, .int .u64 0, .int .u64 0, .int .u64 0, .slice none 0 0]) 0 (.int .i64 0) rfl).put (cs' := #[.int .i64 0, .int .i64 0, .int .u64 0, .int .u64 0, .int .u64 0, .int .u64 0, .slice none 0 0]) 1 (.int .i64 0) rfl).put (cs' := #[.int .i64 0, .int .i64 0, .int .u64 0, .int .u64 0, .int .u64 0, .int .u64 0, .slice none 0 0]) 2 (.int .u64 0) rfl).put (cs' := #[.int .i64 0, .int .i64 0, .int .u64 0, .int .u64 0, .int .u64 0, .int .u64 0, .slice none 0 0]) 3 (.int .u64 0) rfl).put (cs' := #[.int .i64 0, .int .i64 0, .int .u64 0, .int .u64 0, .int .u64 0, .int .u64 0, .slice none 0 0]) 4 (.int .u64 0) rfl).put (cs' := #[.int .i64 0, .int .i64 0, .int .u64 0, .int .u64 0, .int .u64 0, .int .u64 0, .slice none 0 0]) 5 (.int .u64 0) rfl).put (cs' := #[.int .i64 0, .int .i64 0, .int .u64 0, .int .u64 0, .int .u64 0, .int .u64 0, .slice none 0 0]) 6 (.slice none 0 0) rfl)
            rw [← hWz]
            have q0 := hz.cellOf (g := ba) (cs := frZ) (t := 69) (by simp) 0 rfl
            have q1 := hz.cellOf (g := ba) (cs := frZ) (t := 69) (by simp) 1 rfl
            have q2 := hz.cellOf (g := ba) (cs := frZ) (t := 69) (by simp) 2 rfl
            have q3 := hz.cellOf (g := ba) (cs := frZ) (t := 69) (by simp) 3 rfl
            have q4 := hz.cellOf (g := ba) (cs := frZ) (t := 69) (by simp) 4 rfl
            have q5 := hz.cellOf (g := ba) (cs := frZ) (t := 69) (by simp) 5 rfl
            have q6 := hz.cellOf (g := ba) (cs := frZ) (t := 69) (by simp) 6 rfl
            clear hWz x0 fx0 x1 fx1 x2 fx2 x3 fx3 x4 fx4 x5 fx5 x6 fx6
            refine bodyPost_ret (results_cell2 rfl _ _ _ ⟨ba, 0, none⟩ (.agg (frZ)) (.bool false) rfl (by go_simp) rfl) rfl ?_
            exact .inr ⟨HOK.out.symm, rfl, hz.bl⟩
          · go_wp2_with fail
            refine CB.out.mono ?_; rintro e w13 ⟨rfl, rfl⟩
            go_wp2_with fail
            obtain ⟨Wz, hWz⟩ : ∃ Wz, Wz = (((((((w12.setCell ⟨ba, 0, none⟩ (.int .i64 F.src)).setCell ⟨ba, 1, none⟩ (.int .i64 F.dst)).setCell ⟨ba, 2, none⟩ (.int .u64 (F.mine : Int))).setCell ⟨ba, 3, none⟩ (.int .u64 (F.yours : Int))).setCell ⟨ba, 4, none⟩ (.int .u64 (F.seq : Int))).setCell ⟨ba, 5, none⟩ (.int .u64 (F.ack : Int))).setCell ⟨ba, 6, none⟩ (.slice A7 F.body.length c7)) := ⟨_, rfl⟩
            have hz : St w Wz (B ba (frC F A7 c7) 69 :: (byR (.slice AE (encF F).length cE) (encF F) ++ (rdrE g v b (r8 b).2 ++ (B bf (frC F A7 c7) 69 :: byR (.slice A7 F.body.length c7) F.body)))) := by rw [hWz]; exact ((((((((H12.out.re (M := B ba frZ 69 :: (byR (.slice AE (encF F).length cE) (encF F) ++ (rdrE g v b (r8 b).2 ++ (B bf (frC F A7 c7) 69 :: byR (.slice A7 F.body.length c7) F.body)))) (fun x => by simp only [cnt_append, cnt_cons, cnt_nil]; omega)).put (cs' := #[.int .i64 F.src, .int .i64 0, .int .u64 0, .int .u64 0, .int .u64 0, .int .u64 0, .slice none 0 0]) 0 (.int .i64 F.src) rfl).put (cs' := #[.int .i64 F.src, .int .i64 F.dst, .int .u64 0, .int .u64 0, .int .u64 0, .int .u64 0, .slice none 0 0]) 1 (.int .i64 F.dst) rfl).put (cs' := #[.int .i64 F.src, .int .i64 F.dst, .int .u64 (F.mine : Int), .int .u64 0, .int .u64 0, .int .u64 0, .slice none 0 0]) 2 (.int .u64 (F.mine : Int)) rfl).put (cs' := #[.int .i64 F.src, .int .i64 F.dst, .int .u64 (F.mine : Int), .int .u64 (F.yours : Int), .int .u64 0, .int .u64 0, .slice none 0 0]) 3 (.int .u64 (F.yours : Int)) rfl).put (cs' := #[.int .i64 F.src, .int .i64 F.dst, .int .u64 (F.mine : Int), .int .u64 (F.yours : Int), .int .u64 (F.seq : Int), .int .u64 0, .slice none 0 0]) 4 (.int .u64 (F.seq : Int)) rfl).put (cs' := #[.int .i64 F.src, .int .i64 F.dst, .int .u64 (F.mine : Int), .int .u64 (F.yours : Int), .int .u64 (F.seq : Int), .int .u64 (F.ack : Int), .slice none 0 0]) 5 (.int .u64 (F.ack : Int)) rfl).put (cs' := #[.int .i64 F.src, .int .i64 F.dst, .int .u64 (F.mine : Int), .int .u64 (F.yours : Int), .int .u64 (F.seq : Int), .int .u64 (F.ack : Int), .slice A7 F.body.length c7]) 6 (.slice A7 F.body.length c7) rfl)
            rw [← hWz]
            have q0 := hz.cellOf (g := ba) (cs := frC F A7 c7) (t := 69) (by simp) 0 rfl
            have q1 := hz.cellOf (g := ba) (cs := frC F A7 c7) (t := 69) (by simp) 1 rfl
            have q2 := hz.cellOf (g := ba) (cs := frC F A7 c7) (t := 69) (by simp) 2 rfl
            have q3 := hz.cellOf (g := ba) (cs := frC F A7 c7) (t := 69) (by simp) 3 rfl
            have q4 := hz.cellOf (g := ba) (cs := frC F A7 c7) (t := 69) (by simp) 4 rfl
            have q5 := hz.cellOf (g := ba) (cs := frC F A7 c7) (t := 69) (by simp) 5 rfl
            have q6 := hz.cellOf (g := ba) (cs := frC F A7 c7) (t := 69) (by simp) 6 rfl
            clear hWz x0 fx0 x1 fx1 x2 fx2 x3 fx3 x4 fx4 x5 fx5 x6 fx6
            refine bodyPost_ret (results_cell2 rfl _ _ _ ⟨ba, 0, none⟩ (.agg (frC F A7 c7)) (.bool true) rfl (by go_simp) rfl) rfl ?_
            exact .inl ⟨HOK.out.symm, A7, c7, by rw [← HF.out], by rw [← HF.out]; exact HVU2.out, by rw [← HF.out]; exact hz.re (fun x => by simp only [cnt_append, cnt_cons, cnt_nil]; omega)⟩
        · have HNO := Lib.hid (decOk_end (b := b) (by rw [← HEN.out]; exact he0))
          go_wp2_with fail
          refine CE.out.mono ?_; rintro e w11 ⟨rfl, hb11⟩
          have h11 := H10.out.below hb11
          have x0 := h11.cellOf (g := ba) (cs := frZ) (t := 69) (by simp) 0 rfl
          have fx0 := h11.freeOf (g := ba) (cs := frZ) (t := 69) (by simp) 0
          have x1 := h11.cellOf (g := ba) (cs := frZ) (t := 69) (by simp) 1 rfl
          have fx1 := h11.freeOf (g := ba) (cs := frZ) (t := 69) (by simp) 1
          have x2 := h11.cellOf (g := ba) (cs := frZ) (t := 69) (by simp) 2 rfl
          have fx2 := h11.freeOf (g := ba) (cs := frZ) (t := 69) (by simp) 2
          have x3 := h11.cellOf (g := ba) (cs := frZ) (t := 69) (by simp) 3 rfl
          have fx3 := h11.freeOf (g := ba) (cs := frZ) (t := 69) (by simp) 3
          have x4 := h11.cellOf (g := ba) (cs := frZ) (t := 69) (by simp) 4 rfl
          have fx4 := h11.freeOf (g := ba) (cs := frZ) (t := 69) (by simp) 4
          have x5 := h11.cellOf (g := ba) (cs := frZ) (t := 69) (by simp) 5 rfl
          have fx5 := h11.freeOf (g := ba) (cs := frZ) (t := 69) (by simp) 5
          have x6 := h11.cellOf (g := ba) (cs := frZ) (t := 69) (by simp) 6 rfl
          have fx6 := h11.freeOf (g := ba) (cs := frZ) (t := 69) (by simp) 6
          have H11 := Lib.hid h11
          clear hb11 h11
          go_wp2_with fail
          obtain ⟨Wz, hWz⟩ : ∃ Wz, Wz = (((((((w11.setCell ⟨ba, 0, none⟩ (.int .i64 0)).setCell ⟨ba, 1, none⟩ (.int .i64 0)).setCell ⟨ba, 2, none⟩ (.int .u64 0)).setCell ⟨ba, 3, none⟩ (.int .u64 0)).setCell ⟨ba, 4, none⟩ (.int .u64 0)).setCell ⟨ba, 5, none⟩ (.int .u64 0)).setCell ⟨ba, 6, none⟩ (.slice none 0 0)) := ⟨_, rfl⟩
          have hz : St w Wz (B ba (frZ) 69 :: (rdrE g v b (r8 b).2 ++ (B bf (frC (rdF b) A7 c7) 69 :: byR (.slice A7 (r7 b).1.length c7) (r7 b).1))) := by rw [hWz]; exact ((((((((H11.out.re (M := B ba frZ 69 :: (rdrE g v b (r8 b).2 ++ (B bf (frC (rdF b) A7 c7) 69 :: byR (.slice A7 (r7 b).1.length c7) (r7 b).1))) (fun x => by simp only [cnt_append, cnt_cons, cnt_nil]; omega)).put (cs' := #[.int .i64 0, .int .i64 0, .int .u64 0, .int .u64 0, .int .u64 0, .int .u64 0, .slice none 0 0]) 0 (.int .i64 0) rfl).put (cs' := #[.int .i64 0, .int .i64 0, .int .u64 0, .int .u64 0, .int .u64 0, .int .u64 0, .slice none 0 0]) 1 (.int .i64 0) rfl).put (cs' := #[.int .i64 0, .int .i64 0, .int .u64 0, .int .u64 0, .int .u64 0, .int .u64 0, .slice none 0 0]) 2 (.int .u64 0) rfl).put (cs' := #[.int .i64 0, .int .i64 0, .int .u64 0, .int .u64 0, .int .u64 0, .int .u64 0, .slice none 0 0]) 3 (.int .u64 0) rfl).put (cs' := #[.int .i64 0, .int .i64 0, .int .u64 0, .int .u64 0, .int .u64 0, .int .u64 0, .slice none 0 0]) 4 (.int .u64 0) rfl).put (cs' := #[.int .i64 0, .int .i64 0, .int .u64 0, .int .u64 0, .int .u64 0, .int .u64 0, .slice none 0 0]) 5 (.int .u64 0) rfl).put (cs' := #[.int .i64 0, .int .i64 0, .int .u64 0, .int .u64 0, .int .u64 0, .int .u64 0, .slice none 0 0]) 6 (.slice none 0 0) rfl)
          rw [← hWz]
          have q0 := hz.cellOf (g := ba) (cs := frZ) (t := 69) (by simp) 0 rfl
          have q1 := hz.cellOf (g := ba) (cs := frZ) (t := 69) (by simp) 1 rfl
          have q2 := hz.cellOf (g := ba) (cs := frZ) (t := 69) (by simp) 2 rfl
          have q3 := hz.cellOf (g := ba) (cs := frZ) (t := 69) (by simp) 3 rfl
          have q4 := hz.cellOf (g := ba) (cs := frZ) (t := 69) (by simp) 4 rfl
          have q5 := hz.cellOf (g := ba) (cs := frZ) (t := 69) (by simp) 5 rfl
          have q6 := hz.cellOf (g := ba) (cs := frZ) (t := 69) (by simp) 6 rfl
          clear hWz x0 fx0 x1 fx1 x2 fx2 x3 fx3 x4 fx4 x5 fx5 x6 fx6
          refine bodyPost_ret (results_cell2 rfl _ _ _ ⟨ba, 0, none⟩ (.agg (frZ)) (.bool false) rfl (by go_simp) rfl) rfl ?_
          exact .inr ⟨HNO.out, rfl, hz.bl⟩
end Go.Proofs.YtoeiaimoppmjdaaDoor.Lk
/- Contract: EqFrame. -/
namespace Go.Proofs.YtoeiaimoppmjdaaDoor.Lk
open Go.RowKit Go.Proofs.YtoeiaimoppmjdaaDoorW.PrintWords Go.Proofs.YtoeiaimoppmjdaaDoor.Mem Go.Proofs.YtoeiaimoppmjdaaDoor.Wr Go.Proofs.YtoeiaimoppmjdaaDoor.Bytes
set_option linter.unusedVariables false
set_option linter.unusedSimpArgs false
theorem frm_ext (F G : Frm) : F = G ↔ F.src = G.src ∧ F.dst = G.dst ∧ F.mine = G.mine ∧ F.yours = G.yours ∧ F.seq = G.seq ∧ F.ack = G.ack ∧ F.body = G.body := by
  cases F; cases G; simp
set_option maxRecDepth 20000 in
set_option maxHeartbeats 3200000 in
theorem eqf_calls (F G : Frm) (A B' : Option Addr) (c d : Nat) (w : World) (hx : ReadsOf I 0 w A F.body.length F.body) (hy : ReadsOf I 0 w B' G.body.length G.body) (hm : G.body.length ≤ 140737488355328) :
    Calls Tryd.prog 48 #[.agg (frC F A c), .agg (frC G B' d)] w fun e w' => ∃ b : Bool, e = .returned (.bool b) ∧ (b = true ↔ F = G) ∧ Below w.heap.size w w' := by
  obtain ⟨W1, hW1⟩ : ∃ W1, W1 = w.alloc (.cells (frC F A c) 69) := ⟨_, rfl⟩
  obtain ⟨W2, hW2⟩ : ∃ W2, W2 = W1.alloc (.cells (frC G B' d) 69) := ⟨_, rfl⟩
  obtain ⟨ba, hba⟩ : ∃ ba, ba = w.heap.size := ⟨_, rfl⟩
  obtain ⟨bb, hbb⟩ : ∃ bb, bb = W1.heap.size := ⟨_, rfl⟩
  have h1 := (St.start w).newB (frC F A c) 69
  rw [← hW1, ← hba] at h1
  have h2 := h1.newB (frC G B' d) 69
  rw [← hW2, ← hbb] at h2
  have x0 := h2.cellOf (g := ba) (cs := frC F A c) (t := 69) (by simp) 0 rfl
  have y0 := h2.cellOf (g := bb) (cs := frC G B' d) (t := 69) (by simp) 0 rfl
  have x1 := h2.cellOf (g := ba) (cs := frC F A c) (t := 69) (by simp) 1 rfl
  have y1 := h2.cellOf (g := bb) (cs := frC G B' d) (t := 69) (by simp) 1 rfl
  have x2 := h2.cellOf (g := ba) (cs := frC F A c) (t := 69) (by simp) 2 rfl
  have y2 := h2.cellOf (g := bb) (cs := frC G B' d) (t := 69) (by simp) 2 rfl
  have x3 := h2.cellOf (g := ba) (cs := frC F A c) (t := 69) (by simp) 3 rfl
  have y3 := h2.cellOf (g := bb) (cs := frC G B' d) (t := 69) (by simp) 3 rfl
  have x4 := h2.cellOf (g := ba) (cs := frC F A c) (t := 69) (by simp) 4 rfl
  have y4 := h2.cellOf (g := bb) (cs := frC G B' d) (t := 69) (by simp) 4 rfl
  have x5 := h2.cellOf (g := ba) (cs := frC F A c) (t := 69) (by simp) 5 rfl
  have y5 := h2.cellOf (g := bb) (cs := frC G B' d) (t := 69) (by simp) 5 rfl
  have x6 := h2.cellOf (g := ba) (cs := frC F A c) (t := 69) (by simp) 6 rfl
  have y6 := h2.cellOf (g := bb) (cs := frC G B' d) (t := 69) (by simp) 6 rfl
  have CE := Lib.hid (eq_calls F.body G.body A B' c d W2 (h2.reads hx) (h2.reads hy) hm)
  have HBL := Lib.hid h2.bl
  have HW1 := Lib.hid hW1
  have HW2 := Lib.hid hW2
  have HBA := Lib.hid hba
  have HBB : Hid (bb = ba + 1) := by show bb = _; rw [hbb, hW1, hba]; simp
  have HX := Lib.hid (frm_ext F G)
  clear h1 h2 hW1 hW2 hba hbb hx hy
  go_enter Tryd.func48, Tryd.ntmps48
  go_upto_region 1 with fail
  rw [← HW1.out, ← HBA.out, ← HW2.out, ← HBB.out]
  go_wp2_with (go_at_call 34; refine CE.out.mono ?_; rintro e w3 ⟨b3, rfl, hb3, hbl3⟩; have HB3 := Lib.hid hb3; have HL3 := Lib.hid hbl3; clear hb3 hbl3)
  all_goals
    go_ret
    first
      | exact ⟨_, rfl, by rw [HX.out]; simp only [← HB3.out, decide_eq_true_eq, Bool.false_eq_true, false_iff, true_iff]; first | omega | (constructor; (intro h; exact ⟨by omega, by omega, by omega, by omega, by omega, by omega, h⟩); (intro h; exact h.2.2.2.2.2.2)), HBL.out.trans (HL3.out.mono HBL.out.size)⟩
      | exact ⟨_, rfl, by rw [HX.out]; simp only [beq_iff_eq, decide_eq_true_eq, Bool.false_eq_true, false_iff, true_iff]; omega, HBL.out⟩
end Go.Proofs.YtoeiaimoppmjdaaDoor.Lk
/- begun: a link says a word, and it is read. -/
namespace Go.Proofs.YtoeiaimoppmjdaaDoor.Lk
open Go.RowKit Go.Proofs.YtoeiaimoppmjdaaDoorW.PrintWords Go.Proofs.YtoeiaimoppmjdaaDoor.Mem Go.Proofs.YtoeiaimoppmjdaaDoor.Wr Go.Proofs.YtoeiaimoppmjdaaDoor.Bytes Go.Proofs.YtoeiaimoppmjdaaDoor.App
open Go.Proofs.YtoeiaimoppmjdaaDoor.Pace (dbl)
set_option linter.unusedVariables false
set_option linter.unusedSimpArgs false
abbrev f0 : Frm := ⟨0, 2, 3, 0, 0, 0, []⟩
theorem f0_fit : Fit f0 := ⟨by decide, by decide, by decide, by decide, by decide, by decide, by decide, by decide, by decide, by decide, .inr rfl⟩
theorem encF_byt0 {f : Frm} (hb : Byt f.body) : Byt (encF f) := by
  by_cases h : Fit f
  · rw [encF_fit h]
    intro a ha
    rcases List.mem_append.1 ha with ha | ha
    · exact ahead_byt _ h hb a ha
    · exact fixL_byt _ _ a ha
  · rw [encF_nofit h]; intro a ha; cases ha
set_option maxRecDepth 20000 in
set_option maxHeartbeats 6400000 in
theorem begun_calls (w : World) (ht : ErrTab w) (hz : 0 < w.heap.size) : Calls Tryd.prog 45 #[] w fun e w' => e = .returned (.bool true) ∧ Below w.heap.size w w' := by
  have CN : Hid (Calls Tryd.prog 53 #[.int .i64 0, .int .i64 2, .int .u64 3, .int .i64 2, .int .i64 4] w fun e w' => ∃ g gp c, e = .returned (pt g) ∧ (1 ≤ c ∧ c ≤ 64) ∧ (1 ≤ (4 : Int) ∧ (4 : Int) ≤ 64 → c = 4) ∧ St w w' (lkE g (ls0 0 2 3 2 gp c) ++ [])) := lnew_calls w w [] 0 2 2 4 3 (St.start w)
  have HT := Lib.hid ht
  have HZ := Lib.hid hz
  clear ht hz
  go_enter Tryd.func45, Tryd.ntmps45
  go_wp2_with fail
  refine CN.out.mono ?_; rintro e w1 ⟨g, gp, c, rfl, hc, _, h1⟩
  have hV := ls0V 0 2 3 2 gp c hc
  have CK : Hid (Calls Tryd.prog 83 #[pt g] w1 fun e w' => e = .returned (.bool false) ∧ w1 = w') := lknown_calls h1
  have CL : Hid (Calls Tryd.prog 60 #[pt g] w1 fun e w' => e = .returned (.int .i64 0) ∧ w1 = w') := llen_calls h1 hV
  have CT : Hid (Calls Tryd.prog 56 #[pt g] w1 fun e w' => ∃ ov v, e = .returned ov ∧ OutV ov [(v, encF f0)] ∧ LkV { ls0 0 2 3 2 gp c with left := 1, gap := dbl c 1 } ∧ St w w' (lkE g { ls0 0 2 3 2 gp c with left := 1, gap := dbl c 1 } ++ (outE ov [(v, encF f0)] ++ []))) := tickA_calls w w1 [] g (ls0 0 2 3 2 gp c) h1 hV rfl rfl rfl rfl (by show (0 : Int) ≤ 1; omega) rfl rfl
  clear h1 hV hc
  go_wp2_with fail
  refine CK.out.mono ?_; rintro e w2 ⟨rfl, rfl⟩
  go_wp2_with fail
  refine CL.out.mono ?_; rintro e w2 ⟨rfl, rfl⟩
  go_wp2_with fail
  refine CT.out.mono ?_; rintro e w2 ⟨ov, v, rfl, hov, _, h2⟩
  have h2' := h2.re (M := outE ov [(v, encF f0)]) (fun x => by simp only [cnt_append, cnt_nil]; omega)
  obtain ⟨Ao, co, e1⟩ := row_form hov.row
  have hbv : byV v (encF f0) := hov.by_ (v, encF f0) (by simp)
  obtain ⟨Av, cv, rfl⟩ := byV_form hbv
  obtain ⟨go, cgo, ego, hcell⟩ : ∃ go cgo, ov = .slice (some ⟨go, 0, none⟩) 1 cgo ∧ w2.cell? ⟨go, 0, none⟩ = some (.slice Av (encF f0).length cv) := by
    rcases hov.row.2 with ⟨_, h0⟩ | ⟨go, cgo, e2, _⟩
    · cases h0
    · subst e2
      refine ⟨go, cgo, rfl, ?_⟩
      have hr : St w w2 (rowE (.slice (some ⟨go, 0, none⟩) 1 cgo) 22 1 1 [.slice Av (encF f0).length cv] ++ byR (.slice Av (encF f0).length cv) (encF f0)) := h2'.re (fun x => by simp only [outE, List.length_cons, List.length_nil, Nat.zero_add, List.map_cons, List.map_nil, List.flatMap_cons, List.flatMap_nil, cnt_append, cnt_nil]; omega)
      exact (hr.at 0 (by simp) rfl).1
  subst ego
  have hrd := by_reads h2' (fun x => by simp only [outE, List.flatMap_cons, List.flatMap_nil, cnt_append, cnt_nil]; omega) hbv
  have hby : Byt (encF f0) := encF_byt0 (fun a h => (by cases h))
  have hlen := encF_len f0_fit
  have CD := Lib.hid (dec_calls (encF f0) Av cv w2 hrd hby (HT.out.below h2'.bl HZ.out) (Nat.lt_of_lt_of_le HZ.out h2'.bl.size) (by omega))
  have HB2 := Lib.hid h2'.bl
  clear hov h2 h2' hbv hrd hby hlen e1
  go_wp2_with fail
  refine CD.out.mono ?_; rintro e w3 hpost
  obtain ⟨ok, rd⟩ := dec_enc f0_fit
  rcases hpost with ⟨_, A, c2, rfl, hbv, h3⟩ | ⟨h, _⟩
  rotate_left
  · rw [ok] at h; cases h
  rw [rd] at hbv h3 ⊢
  have h4 := h3.newB (frC f0 A c2) 69
  obtain ⟨W4, hW4⟩ : ∃ W4, W4 = w3.alloc (.cells (frC f0 A c2) 69) := ⟨_, rfl⟩
  obtain ⟨bf, hbf⟩ : ∃ bf, bf = w3.heap.size := ⟨_, rfl⟩
  rw [← hW4, ← hbf] at h4
  have y0 := h4.cellOf (g := bf) (cs := frC f0 A c2) (t := 69) (by simp) 0 rfl
  have y1 := h4.cellOf (g := bf) (cs := frC f0 A c2) (t := 69) (by simp) 1 rfl
  have y2 := h4.cellOf (g := bf) (cs := frC f0 A c2) (t := 69) (by simp) 2 rfl
  have y3 := h4.cellOf (g := bf) (cs := frC f0 A c2) (t := 69) (by simp) 3 rfl
  have y4 := h4.cellOf (g := bf) (cs := frC f0 A c2) (t := 69) (by simp) 4 rfl
  have y5 := h4.cellOf (g := bf) (cs := frC f0 A c2) (t := 69) (by simp) 5 rfl
  have y6 := h4.cellOf (g := bf) (cs := frC f0 A c2) (t := 69) (by simp) 6 rfl
  have hr4 : ReadsOf I 0 W4 A 0 [] := by_reads (xs := []) h4 (fun x => by simp only [cnt_cons]; omega) hbv
  have CE : Hid (Calls Tryd.prog 48 #[.agg #[.int .i64 0, .int .i64 2, .int .u64 3, .int .u64 0, .int .u64 0, .int .u64 0, .slice A 0 c2], .agg #[.int .i64 0, .int .i64 2, .int .u64 3, .int .u64 0, .int .u64 0, .int .u64 0, .slice none 0 0]] W4 fun e w' => ∃ b : Bool, e = .returned (.bool b) ∧ (b = true ↔ f0 = f0) ∧ Below W4.heap.size W4 w') := eqf_calls f0 f0 A none c2 0 W4 hr4 (ReadsOf.nil I 0 W4) (by simp)
  have HB4 := Lib.hid (HB2.out.trans (h4.bl.mono HB2.out.size))
  have HW4 := Lib.hid hW4
  have HBF := Lib.hid hbf
  clear h3 h4 hW4 hbf hr4 hbv hcell ok rd
  go_wp2_with fail
  rw [show (w3.alloc (.cells #[.int .i64 0, .int .i64 2, .int .u64 3, .int .u64 0, .int .u64 0, .int .u64 0, .slice A 0 c2] 69)) = W4 from HW4.out.symm]
  refine CE.out.mono ?_; rintro e w5 ⟨b5, rfl, hb5, hbl5⟩
  obtain rfl : b5 = true := by simpa using hb5
  have HB5 := Lib.hid (HB4.out.trans (hbl5.mono HB4.out.size))
  clear hb5 hbl5 y0 y1 y2 y3 y4 y5 y6
  go_wp2_with fail
  go_ret
  exact ⟨rfl, HB5.out⟩
end Go.Proofs.YtoeiaimoppmjdaaDoor.Lk
/- Contract: Within. -/
namespace Go.Proofs.YtoeiaimoppmjdaaDoor.Lk
open Go.RowKit Go.Proofs.YtoeiaimoppmjdaaDoorW.PrintWords Go.Proofs.YtoeiaimoppmjdaaDoor.Mem Go.Proofs.YtoeiaimoppmjdaaDoor.Wr Go.Proofs.YtoeiaimoppmjdaaDoor.Bytes
set_option linter.unusedVariables false
set_option linter.unusedSimpArgs false
theorem within_calls (i n : Int) (w : World) (hn : 0 < n) (hn2 : n ≤ 1073741824) (h1 : -9223372036854775808 ≤ i) (h2 : i ≤ 9223372036854775807) :
    Calls Tryd.prog 49 #[.int .i64 i, .int .i64 n] w fun e w' => e = .returned (.int .i64 (i % n)) ∧ w = w' := by
  have r1 : ¬ n = 0 := by omega
  have b1 := Int.tmod_lt_of_pos i hn
  have b2 := Int.lt_tmod_of_pos i hn
  by_cases hi : i.tmod n < 0
  · have e : i % n = wrap64 (i.tmod n + n) := by
      rw [show wrap64 (i.tmod n + n) = i.tmod n + n by unfold wrap64; omega]
      have h := Int.mul_tdiv_add_tmod i n
      rw [← Int.emod_eq_of_lt (a := i.tmod n + n) (b := n) (by omega) (by omega)]
      conv => lhs; rw [← h]
      rw [Int.mul_add_emod_self_left, Int.add_emod_right]
    rw [e]
    clear e b1 b2
    go_enter Tryd.func49, Tryd.ntmps49
    go_wp2_with fail
    go_ret
    exact ⟨rfl, rfl⟩
  · have e : i % n = i.tmod n := by
      have h := Int.mul_tdiv_add_tmod i n
      rw [← Int.emod_eq_of_lt (a := i.tmod n) (b := n) (by omega) b1]
      conv => lhs; rw [← h]
      rw [Int.mul_add_emod_self_left]
    rw [e]
    clear e b1 b2
    go_enter Tryd.func49, Tryd.ntmps49
    go_wp2_with fail
    go_ret
    exact ⟨rfl, rfl⟩
end Go.Proofs.YtoeiaimoppmjdaaDoor.Lk
/- A byte list that is held: a byte of it, and that byte written over; a beginning of it is read; one byte more behind it. -/
namespace Go.Proofs.YtoeiaimoppmjdaaDoor.Lk
open Go.RowKit Go.Proofs.YtoeiaimoppmjdaaDoorW.PrintWords Go.Proofs.YtoeiaimoppmjdaaDoor.Mem Go.Proofs.YtoeiaimoppmjdaaDoor.Wr Go.Proofs.YtoeiaimoppmjdaaDoor.Bytes
set_option linter.unusedVariables false
set_option linter.unusedSimpArgs false
theorem by_ptr {A : Option Addr} {c : Nat} {xs : List Int} (h : byV (.slice A xs.length c) xs) (h0 : 0 < xs.length) : ∃ g, A = some ⟨g, 0, none⟩ := by
  rcases h.2 with ⟨h1, h2⟩ | ⟨g, cap, h1, _⟩
  · omega
  · injection h1 with h1; exact ⟨g, h1⟩
theorem by_at {w0 W : World} {R : List Ent} {g c : Nat} {xs : List Int} (h : St w0 W (byR (.slice (some ⟨g, 0, none⟩) xs.length c) xs ++ R)) (j : Nat) (hj : j < xs.length) :
    W.cell? ⟨g, j, none⟩ = some (.int .u8 (xs.getD j 0)) ∧ W.frozen? ⟨g, j, none⟩ = false := by
  have h1 := St.at (e := 5) (s := 1) (n := xs.length) (xs := encs I xs) h j (by simpa [encs] using hj) (by simp [encs])
  refine ⟨?_, h1.2⟩
  rw [h1.1]
  simp [encs, List.getElem?_eq_getElem hj, List.getD_eq_getElem?_getD]
theorem by_store {w0 W : World} {R : List Ent} {g c : Nat} {xs : List Int} (h : St w0 W (byR (.slice (some ⟨g, 0, none⟩) xs.length c) xs ++ R)) (j : Nat) (x : Int) :
    St w0 (W.setCell ⟨g, j, none⟩ (.int .u8 x)) (byR (.slice (some ⟨g, 0, none⟩) (xs.set j x).length c) (xs.set j x) ++ R) := by
  have h1 := St.store (e := 5) (s := 1) (n := xs.length) (xs := encs I xs) h j (.int .u8 x)
  have e : (encs I xs).set j (.int .u8 x) = encs I (xs.set j x) := by simp [encs, List.map_set]
  rw [e] at h1
  unfold byR
  rw [List.length_set]
  exact h1
/-- The bit turned in its place. -/
theorem by_flip {w0 W : World} {R : List Ent} {g c : Nat} {xs : List Int} (h : St w0 W (byR (.slice (some ⟨g, 0, none⟩) xs.length c) xs ++ R)) (n : Nat) :
    St w0 (W.setCell ⟨g, n / 8, none⟩ (.int .u8 (Go.bits .xor .u8 (xs.getD (n / 8) 0) (2 ^ (n % 8) % 256)))) (byR (.slice (some ⟨g, 0, none⟩) (Crc.flip xs n).length c) (Crc.flip xs n) ++ R) := by_store h _ _
theorem by_setV {A : Option Addr} {c : Nat} {xs : List Int} (h : byV (.slice A xs.length c) xs) (j : Nat) (x : Int) : byV (.slice A (xs.set j x).length c) (xs.set j x) := by
  refine ⟨by simp [encs], ?_⟩
  rw [List.length_set]
  exact h.2
theorem by_flipV {A : Option Addr} {c : Nat} {xs : List Int} (h : byV (.slice A xs.length c) xs) (n : Nat) : byV (.slice A (Crc.flip xs n).length c) (Crc.flip xs n) := by_setV h _ _
/-- What is none is read as none. -/
theorem dec_none_st {w0 W : World} {R : List Ent} (b : List Int) (k : Nat) (A : Option Addr) (c : Nat) (h : St w0 W R) (hk : b.length = k) (hr : ReadsOf I 0 W A k b) (hb : Byt b) (ht : ErrTab w0) (hz : 0 < w0.heap.size) (hbl : k ≤ 140737488355328) (hd : decOk b = false) :
    Calls Tryd.prog 47 #[.slice A k c] W fun e w' => e = .returned (.tuple #[.agg frZ, .bool false]) ∧ St w0 w' R := by
  subst hk
  refine (dec_calls b A c W hr hb (ht.below h.bl hz) (Nat.lt_of_lt_of_le hz h.bl.size) hbl).mono fun e w' hp => ?_
  rcases hp with ⟨h1, _⟩ | ⟨_, he, hb'⟩
  · rw [hd] at h1; cases h1
  · exact ⟨he, h.below hb'⟩
/-- Copy, over the blocks that are held. -/
theorem copy_st {w0 W : World} {R : List Ent} (xs : List Int) (k : Nat) (A : Option Addr) (c : Nat) (h : St w0 W R) (hk : xs.length = k) (hr : ReadsOf I 0 W A k xs) (hm : k ≤ 140737488355328) :
    Calls Tryd.prog 15 #[.slice A k c] W fun e w' => ∃ A' c', e = .returned (.slice A' k c') ∧ byV (.slice A' k c') xs ∧ St w0 w' (byR (.slice A' k c') xs ++ R) := by
  subst hk
  refine (copy_calls xs A c W W.heap.size (Nat.le_refl _) hr hm).mono fun e w' ⟨v, he, ho, hb⟩ => ?_
  obtain ⟨h1, hv⟩ := h.fresh hb ho
  obtain ⟨A', c', rfl⟩ := byV_form hv
  exact ⟨A', c', he, hv, h1⟩
theorem by_readsK {w0 W : World} {L : List Ent} {A : Option Addr} {c k : Nat} {xs : List Int} (h : St w0 W L) (hk : xs.length = k) (hc : ∀ a, cnt a (byR (.slice A k c) xs) ≤ cnt a L) (hV : byV (.slice A k c) xs) : ReadsOf I 0 W A k xs := by
  subst hk; exact by_reads h hc hV
theorem by_cap {A : Option Addr} {c k : Nat} {xs : List Int} (h : byV (.slice A k c) xs) : k ≤ c := by
  rcases h.2 with ⟨h1, h2⟩ | ⟨g, cap, h1, h2, _⟩
  · injection h1 with _ h1 h3; omega
  · injection h1 with _ h1 h3; omega
/-- One byte more behind a list. -/
theorem by_append {w0 W : World} {R : List Ent} {A : Option Addr} {c : Nat} {xs : List Int} (h : St w0 W (byR (.slice A xs.length c) xs ++ R)) (hV : byV (.slice A xs.length c) xs) (hl : xs.length + 1 ≤ 140737488355328) (ad : Addr) (c1 : Nat) (a : Int) (hx : W.cell? ad = some (.int .u8 a)) :
    ∃ (A' : Option Addr) (c' : Nat) (W' : World), (Builtin.append_ #[22, 22] 22 #[.slice A xs.length c, .slice (some ad) 1 c1]).run Tryd.prog W = .ok (.slice A' (xs.length + 1) c') W' ∧ St w0 W' (byR (.slice A' (xs ++ [a]).length c') (xs ++ [a]) ++ R) ∧ byV (.slice A' (xs ++ [a]).length c') (xs ++ [a]) := by
  obtain ⟨v', W', hr, h1, h2⟩ := App.row_append (P := Tryd.prog) (e := 5) h hV 22 22 (.int .u8 0) 1 Tryd.underlying22 (by kernel_rfl) rfl (by omega) hl ad c1 (.int .u8 a) hx rfl
  have e : encs I xs ++ [.int .u8 a] = encs I (xs ++ [a]) := by simp [encs]
  rw [e] at h1 h2
  have e2 : xs.length + 1 = (xs ++ [a]).length := by simp
  have hV' : byV v' (xs ++ [a]) := by unfold byV; rw [← e2]; exact h2
  obtain ⟨A', c', rfl⟩ := byV_form hV'
  refine ⟨A', c', W', by rw [e2]; exact hr, ?_, hV'⟩
  unfold byR; rw [← e2]; rw [← e2] at h1; exact h1
theorem byt_take' {xs : List Int} (h : Byt xs) (k : Nat) : Byt (xs.take k) := fun a ha => h a (List.mem_of_mem_take ha)
theorem byt_one {xs : List Int} (h : Byt xs) (a : Int) (h1 : 0 ≤ a ∧ a ≤ 255) : Byt (xs ++ [a]) := fun b hb => by
  rcases List.mem_append.1 hb with hb | hb
  · exact h b hb
  · obtain rfl := List.mem_singleton.1 hb; exact h1
end Go.Proofs.YtoeiaimoppmjdaaDoor.Lk
