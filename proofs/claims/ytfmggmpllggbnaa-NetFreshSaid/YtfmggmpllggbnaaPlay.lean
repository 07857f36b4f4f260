/- play: the calls, one behind the other, where nothing is kept of what is told; NetExact. -/
import Derived.Test.YtfmggmpllggbnaaPlays5
import Derived.Test.YtfmggmpllggbnaaOpen
import Derived.SizedLaws
namespace Go.Proofs.Ytfmggmpllggbnaa.RNet
open Go Go.ChangeShapes Go.WideShapes Go.RowKit Go.Deep Go.Proofs.YtfmggmpllggbnaaW.PrintWords Go.Proofs.Ytfmggmpllggbnaa.Net Go.Proofs.Ytfmggmpllggbnaa.Mem
set_option linter.unusedVariables false
set_option linter.unusedSimpArgs false
open Go.Proofs.Ytfmggmpllggbnaa.BookE (bookCells Bk0)
abbrev KI := Kd.int .i64
abbrev KBy := Kd.slice 5 (Kd.int .u8)
abbrev KOp := Kd.pair KI (Kd.pair KI (Kd.pair KI (Kd.pair KI KBy)))
abbrev CO := Int × Int × Int × Int × List Int
abbrev I64 (a : Int) : Prop := -9223372036854775808 ≤ a ∧ a ≤ 9223372036854775807
/-- One call of the script, as its cells say it. -/
structure OpAt (w : World) (ad : Addr) (o : CO) (Ab : Option Addr) (cb : Nat) : Prop where
  c0 : w.cell? ad = some (.int .i64 o.1)
  c1 : w.cell? ⟨ad.block, ad.off + 1, none⟩ = some (.int .i64 o.2.1)
  c2 : w.cell? ⟨ad.block, ad.off + 2, none⟩ = some (.int .i64 o.2.2.1)
  c3 : w.cell? ⟨ad.block, ad.off + 3, none⟩ = some (.int .i64 o.2.2.2.1)
  c4 : w.cell? ⟨ad.block, ad.off + 4, none⟩ = some (.slice Ab o.2.2.2.2.length cb)
  rd : ReadsOf U 0 w Ab o.2.2.2.2.length o.2.2.2.2
  cap : o.2.2.2.2.length ≤ cb
theorem op_at {w : World} {A : Option Addr} {os : List CO} {n : Nat} (h : KOp.C w A n os) (k : Nat) (hk : k < os.length) (hn : n = os.length) : ∃ ad Ab cb, A = some ad ∧ OpAt w (ad.add (k * 5)) os[k] Ab cb := by
  subst hn
  obtain ⟨ad, cq, rfl, hlq, hKq, hcq⟩ := Kd.C_get h (0, 0, 0, 0, []) (k : Int) (by omega) (by omega)
  have hgq : os.getD (k : Int).toNat (0, 0, 0, 0, []) = os[k] := by rw [Int.toNat_natCast, List.getD_eq_getElem?_getD, List.getElem?_eq_getElem hk]; rfl
  rw [hgq] at hKq
  rw [Int.toNat_natCast] at hcq
  obtain ⟨q, hq⟩ : ∃ q, q = os[k] := ⟨_, rfl⟩
  rw [← hq] at hKq ⊢
  obtain ⟨k0, k1, k2, k3, b⟩ := q
  obtain ⟨_, _, rfl, rfl, _, _, rfl, rfl, _, _, rfl, rfl, _, _, rfl, rfl, Ab, cb, rfl, hcap, hb⟩ := hKq
  refine ⟨ad, Ab, cb, rfl, hcq 0 _ rfl, ?_, ?_, ?_, ?_, Kd.reads_of_C hb, hcap⟩
  · rw [← add_field _ _ 1 (by omega)]; exact hcq 1 _ rfl
  · rw [← add_field _ _ 2 (by omega)]; exact hcq 2 _ rfl
  · rw [← add_field _ _ 3 (by omega)]; exact hcq 3 _ rfl
  · rw [← add_field _ _ 4 (by omega)]; exact hcq 4 _ rfl
theorem OpAt.below {w w1 : World} {ad : Addr} {o : CO} {Ab : Option Addr} {cb : Nat} (h : OpAt w ad o Ab cb) (hb : Below w.heap.size w w1) : OpAt w1 ad o Ab cb :=
  ⟨pw_cell_below hb h.c0, pw_cell_below hb h.c1, pw_cell_below hb h.c2, pw_cell_below hb h.c3, pw_cell_below hb h.c4, h.rd.below hb, h.cap⟩
theorem built107 : Try.prog.built 107 [] = some bookCells := by kernel_rfl
theorem wpList_book {ops : Array Oper} {rest : List Oper} {o : Oper} {a : Act} {w : World} {Q : Exit → Act → World → Prop} (hg : o.guard = none) (ho : o.op = .build 107 #[]) (h : wpList Try.prog ops Q rest (a.put o.dst (.agg bookCells)) w) : wpList Try.prog ops Q (o :: rest) a w :=
  wpList_plain hg fun _ hK => by
    unfold Oper.wp execOp
    simp only [ho, Sem.run_bind, List.map_toArray, List.map_nil, Array.map_empty, run_build w 107 #[] bookCells built107, Result.andThen_ok]
    exact hK _ _ h
abbrev scr (r0 r1 : Int) (A : Option Addr) (n c : Nat) : Array Value := #[.int .i64 r0, .int .i64 r1, .slice A n c]
set_option maxRecDepth 20000 in
set_option maxHeartbeats 6400000 in
theorem play_calls (w0 W : World) (R : List Ent) (r0 r1 : Int) (A : Option Addr) (os : List CO) (c : Nat) (H : St w0 W R) (hr : KOp.C w0 A os.length os) (hm : os.length ≤ 9223372036854775807)
    (hv : ∀ o, o ∈ os → I64 o.2.1 ∧ I64 o.2.2.1 ∧ Byt o.2.2.2.2) :
    Calls Try.prog 19 #[.agg (scr r0 r1 A os.length c), .bool false] W fun e W' => e = .returned (.bool true) ∧ St w0 W' R := by
  obtain ⟨W1, hW1⟩ : ∃ W1, W1 = W.alloc (.cells (scr r0 r1 A os.length c) 48) := ⟨_, rfl⟩
  obtain ⟨W2, hW2⟩ : ∃ W2, W2 = W1.alloc (.cells bookCells 107) := ⟨_, rfl⟩
  obtain ⟨bs, hbs⟩ : ∃ bs, bs = W.heap.size := ⟨_, rfl⟩
  obtain ⟨b, hb⟩ : ∃ b, b = W1.heap.size := ⟨_, rfl⟩
  obtain ⟨t, ht⟩ : ∃ t, t = W2.heap.size := ⟨_, rfl⟩
  obtain ⟨W3, hW3⟩ : ∃ W3, W3 = W2.alloc (.cells #[nilp, nilp, nilp, nilp, pt b, .bool false] 112) := ⟨_, rfl⟩
  have h1 := H.newB (scr r0 r1 A os.length c) 48
  rw [← hW1, ← hbs] at h1
  have h2 := h1.newB bookCells 107
  rw [← hW2, ← hb] at h2
  have h3 := h2.newB #[nilp, nilp, nilp, nilp, pt b, .bool false] 112
  rw [← hW3, ← ht] at h3
  have h3' : St w0 W3 (B t (stg b false none none) 112 :: (B b bookCells 107 :: B bs (scr r0 r1 A os.length c) 48 :: R)) := h3
  have CF := Lib.hid (fresh_calls w0 W3 _ t 0 (stg b false none none) r0 h3' (by omega) rfl)
  have HS := Lib.hid h3'
  have HW1 := Lib.hid hW1
  have HW2 := Lib.hid hW2
  have HW3 := Lib.hid hW3
  have HBS := Lib.hid hbs
  have HB : Hid (b = bs + 1) := by show b = _; rw [hb, hW1, hbs]; simp
  have HT : Hid (t = b + 1) := by show t = _; rw [ht, hW2, hb]; simp
  have HR := Lib.hid hr
  have HV := Lib.hid hv
  clear hW1 hW2 hW3 hbs hb ht h1 h2 h3 h3' H hr hv
  go_enter Try.func19, Try.ntmps19
  go_wp2_with (refine wpList_book rfl rfl ?_)
  rw [← HBS.out, ← HB.out, ← HT.out, ← HW1.out, ← HW2.out, ← HW3.out]
  refine CF.out.mono ?_; rintro e w4 ⟨rfl, o0, hv0, hs4⟩
  have hs4' : St w0 w4 (B t (stg b false o0 none) 112 :: (plE o0 ++ (B b bookCells 107 :: B bs (scr r0 r1 A os.length c) 48 :: R))) := hs4
  have x1 := hs4'.cellOf (g := bs) (cs := scr r0 r1 A os.length c) (t := 48) (by simp) 1 rfl
  have CF2 := Lib.hid (fresh_calls w0 w4 _ t 1 (stg b false o0 none) r1 hs4' (by omega) rfl)
  have HV0 := Lib.hid hv0
  clear hv0 hs4 hs4'
  go_wp2_with fail
  refine CF2.out.mono ?_; rintro e w5 ⟨rfl, o1, hv1, hs5⟩
  have hs5' : St w0 w5 (B t (stg b false o0 o1) 112 :: (plE o0 ++ (plE o1 ++ (B b bookCells 107 :: B bs (scr r0 r1 A os.length c) 48 :: R)))) := (show St w0 w5 (B t (stg b false o0 o1) 112 :: (plE o1 ++ (plE o0 ++ (B b bookCells 107 :: B bs (scr r0 r1 A os.length c) 48 :: R)))) from hs5).re (fun x => by simp only [cnt_append, cnt_cons]; omega)
  have HV1 := Lib.hid hv1
  have H5 := Lib.hid hs5'
  clear hv1 hs5 hs5' x1
  go_wp2_with fail
  go_loopw [6] (fun i wr => ∃ (q : Nat) (s0 s1 : Option Sd), i = .int .i64 q ∧ q ≤ os.length ∧ q ≤ 400 ∧ plV (9000 * q) s0 ∧ plV (9000 * q) s1 ∧ St w0 wr (B t (stg b false s0 s1) 112 :: (plE s0 ++ (plE s1 ++ (B b bookCells 107 :: B bs (scr r0 r1 A os.length c) 48 :: R))))) (fun i _ => 400 - (intOf i).toNat)
  case atStart => exact ⟨0, o0, o1, rfl, Nat.zero_le _, by omega, HV0.out, HV1.out, H5.out⟩
  case round =>
    obtain ⟨q, s0, s1, rfl, hq, hq4, v0, v1, hs⟩ := hrel
    have x2 := hs.cellOf (g := bs) (cs := scr r0 r1 A os.length c) (t := 48) (by simp) 2 rfl
    have y4 := hs.cellOf (g := t) (cs := stg b false s0 s1) (t := 112) (by simp) 4 rfl
    have V0 := Lib.hid v0
    have V1 := Lib.hid v1
    have HR5 := Lib.hid hs
    clear v0 v1
    by_cases hlt : q < os.length ∧ q < 400
    · obtain ⟨hlt, hlt4⟩ := hlt
      have i1 : (q : Int) < (os.length : Int) := by omega
      have i2 : (q : Int) < 400 := by omega
      have i3 : (0 : Int) ≤ (q : Int) := by omega
      obtain ⟨ad, Ab, cb, rfl, ho⟩ := op_at HR.out q hlt rfl
      obtain ⟨o, hoo⟩ : ∃ o, o = os[q] := ⟨_, rfl⟩
      have hvo := HV.out o (by rw [hoo]; exact List.getElem_mem hlt)
      rw [← hoo] at ho
      have hb := ho.below hs.bl
      have z0 := hb.c0
      have z1 := hb.c1
      have z2 := hb.c2
      have z3 := hb.c3
      have z4 := hb.c4
      have CP := Lib.hid (plays_calls w0 wr _ t b (9000 * q) s0 s1 o.1 o.2.1 o.2.2.1 o.2.2.2.1 Ab o.2.2.2.2 cb hs V0.out V1.out (by omega) hvo.1.1 hvo.1.2 hvo.2.1.1 hvo.2.1.2 ho.rd hvo.2.2 ho.cap)
      clear hs hoo hvo ho hb
      go_wp2_with fail
      refine CP.out.mono ?_; rintro e w6 ⟨rfl, s0', s1', v0', v1', hs6⟩
      have y6 := hs6.cellOf (g := t) (cs := stg b false s0' s1') (t := 112) (by simp) 4 rfl
      have CL := Lib.hid (Go.Proofs.Ytfmggmpllggbnaa.BookE.look_calls w6 b (hs6.blk (g := b) (cs := bookCells) (t := 107) (by simp)))
      have V0' := Lib.hid v0'
      have V1' := Lib.hid v1'
      have H6 := Lib.hid hs6
      clear v0' v1' hs6
      go_wp2_with fail
      refine CL.out.mono ?_; rintro e w7 ⟨rfl, hb7⟩
      have H7 := Lib.hid (H6.out.below hb7)
      clear hb7
      go_wp2_with fail
      go_roundw
      case rel => exact ⟨q + 1, s0', s1', by go_num, by omega, by omega, plV_mono V0'.out (by omega), plV_mono V1'.out (by omega), H7.out⟩
      case measure => simp [intOf]; omega
    · have CA0 := Lib.hid (all_calls w0 wr _ t b (9000 * q) false s0 s1 hs V0.out V1.out 0 (by omega))
      have CA1 : Hid (∀ w', St w0 w' (B t (stg b false s0 s1) 112 :: (plE s0 ++ (plE s1 ++ (B b bookCells 107 :: B bs (scr r0 r1 A os.length c) 48 :: R)))) → _) := fun w' h' => all_calls w0 w' _ t b (9000 * q) false s0 s1 h' V0.out V1.out 1 (by omega)
      have hcase : ¬ (q : Int) < (os.length : Int) ∨ ((q : Int) < (os.length : Int) ∧ ¬ (q : Int) < 400) := by omega
      clear hs hlt
      rcases hcase with p1 | ⟨p1, p2⟩
      all_goals
        go_wp2_with fail
        refine CA0.out.mono ?_; rintro e w6 ⟨rfl, hs6⟩
        have H6 := Lib.hid hs6
        clear hs6
        go_wp2_with fail
        refine (CA1.out w6 H6.out).mono ?_; rintro e w7 ⟨rfl, hs7⟩
        have H7 := Lib.hid hs7
        clear hs7
        go_wp2_with fail
        refine (lives_calls w7).mono ?_; rintro e w8 ⟨rfl, hb8⟩
        have H8 := Lib.hid (H7.out.below hb8)
        clear hb8
        go_wp2_with fail
        go_ret
        exact ⟨rfl, H8.out.re (fun x => by simp only [cnt_append, cnt_cons]; omega)⟩
end Go.Proofs.Ytfmggmpllggbnaa.RNet
