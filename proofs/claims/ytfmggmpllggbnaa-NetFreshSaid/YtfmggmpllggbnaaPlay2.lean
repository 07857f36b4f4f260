/- play with the mark set: printed by gen_playm.py out of Plays4, Plays5 and Play. -/
import Derived.Test.YtfmggmpllggbnaaPlay
import Derived.Test.YtfmggmpllggbnaaPlays6
namespace Go.Proofs.Ytfmggmpllggbnaa.RNet
open Go Go.ChangeShapes Go.WideShapes Go.RowKit Go.Deep Go.Proofs.YtfmggmpllggbnaaW.PrintWords Go.Proofs.Ytfmggmpllggbnaa.Net Go.Proofs.Ytfmggmpllggbnaa.Mem
open Go.Proofs.Ytfmggmpllggbnaa.Book (BkS BkV bkE bkC NL rowV_form)
set_option linter.unusedVariables false
set_option linter.unusedSimpArgs false
/-- A call on a place that has its nets. -/
theorem playsM_one (w0 W : World) (R : List Ent) (b : Nat) (bs : BkS) (t k : Nat) (cs : Array Value) (s : Sd) (d wh a tt : Int) (A : Option Addr) (xs : List Int) (c : Nat) (H : St w0 W (B t cs 112 :: (sdE s ++ (bkE b bs ++ R)))) (hV : SdV s) (hl : s.lost ≤ 1099511627776) (hk : k < 2)
    (hc0 : cs[k]? = some (pt s.g)) (hc1 : cs[2 + k]? = some (pt s.h)) (hc5 : cs[5]? = some (.bool true)) (hc4 : cs[4]? = some (pt b)) (hB : BkV bs) (htn : bs.turn < 1099511627776) (hw : wh % 2 = (k : Int)) (ha : -9223372036854775808 ≤ wh) (ha' : wh ≤ 9223372036854775807) (hb : -9223372036854775808 ≤ a) (hb' : a ≤ 9223372036854775807)
    (hx : ReadsOf U 0 w0 A xs.length xs) (hxb : Byt xs) (hc : xs.length ≤ c) (hd : d ≠ 6) :
    Calls Try.prog 38 #[pt t, .agg (opCells d wh a tt A xs.length c)] W fun e W' => e = .returned (.bool true) ∧ AftM w0 [B t cs 112] R s 9000 b bs W' := by
  have hin : (a < 0 ∨ (s.rs.length : Int) ≤ a) ∨ ∃ i : Nat, a = i ∧ i < s.rs.length := by
    by_cases h : a < 0 ∨ (s.rs.length : Int) ≤ a
    · exact .inl h
    · exact .inr ⟨a.toNat, by omega, by omega⟩
  by_cases h1 : d = 1
  · subst h1; exact (plays_send w0 W (bkE b bs ++ R) t k cs s wh a tt A xs c H hV hl hk hc0 hc1 hw ha ha' hx hxb hc).mono fun e W' ⟨he, h⟩ => ⟨he, bs, hB, Nat.le_succ _, h⟩
  by_cases h2 : d = 2
  · subst h2
    rcases hin with h | ⟨i, rfl, h⟩
    · exact playsM_look0 w0 W R b bs t k cs s wh a tt A _ c H hV hl hk hc0 hc1 hc5 hc4 hB htn hw ha ha' h
    · exact playsM_look1 w0 W R b bs t k cs s wh 0 tt A _ c H hV hl hk hc0 hc1 hc5 hc4 hB htn hw ha ha' i h
  by_cases h3 : d = 3
  · subst h3
    rcases hin with h | ⟨i, rfl, h⟩
    · exact playsM_take0 w0 W R b bs t k cs s wh a tt A _ c H hV hl hk hc0 hc1 hc5 hc4 hB htn hw ha ha' h
    · exact playsM_take1 w0 W R b bs t k cs s wh 0 tt A _ c H hV hl hk hc0 hc1 hc5 hc4 hB htn hw ha ha' i h
  by_cases h4 : d = 4
  · subst h4
    rcases hin with h | ⟨i, rfl, h⟩
    · exact (plays_drop0 w0 W (bkE b bs ++ R) t k cs s wh a tt A _ c H hV hl hk hc0 hc1 hw ha ha' h).mono fun e W' ⟨he, h⟩ => ⟨he, bs, hB, Nat.le_succ _, h⟩
    · exact (plays_drop1 w0 W (bkE b bs ++ R) t k cs s wh 0 tt A _ c H hV hl hk hc0 hc1 hw ha ha' i h).mono fun e W' ⟨he, h⟩ => ⟨he, bs, hB, Nat.le_succ _, h⟩
  by_cases h5 : d = 5
  · subst h5
    rcases hin with h | ⟨i, rfl, h⟩
    · exact (plays_double0 w0 W (bkE b bs ++ R) t k cs s wh a tt A _ c H hV hl hk hc0 hc1 hw ha ha' h).mono fun e W' ⟨he, h⟩ => ⟨he, bs, hB, Nat.le_succ _, h⟩
    · by_cases hr : (s.rs.length : Int) < s.room
      · exact (plays_doubleR w0 W (bkE b bs ++ R) t k cs s wh 0 tt A _ c H hV hl hk hc0 hc1 hw ha ha' i h hr).mono fun e W' ⟨he, h⟩ => ⟨he, bs, hB, Nat.le_succ _, h⟩
      · exact (plays_doubleF w0 W (bkE b bs ++ R) t k cs s wh 0 tt A _ c H hV hl hk hc0 hc1 hw ha ha' i h (by omega)).mono fun e W' ⟨he, h⟩ => ⟨he, bs, hB, Nat.le_succ _, h⟩
  by_cases h7 : d = 7
  · subst h7; exact (plays_fill w0 W (bkE b bs ++ R) t k cs s wh a tt A _ c H hV hl hk hc0 hc1 hw ha ha' hb hb').mono fun e W' ⟨he, h⟩ => ⟨he, bs, hB, Nat.le_succ _, h⟩
  exact (plays_other w0 W (bkE b bs ++ R) t k cs s wh a tt A _ c H hV hl hk hc0 hc1 hw ha ha' d ⟨h1, h2, h3, h4, h5, hd, h7⟩).mono fun e W' ⟨he, h⟩ => ⟨he, bs, hB, Nat.le_succ _, h⟩
/-- One step of the stage. -/
theorem playsM_calls (w0 W : World) (R : List Ent) (t b N : Nat) (bs : BkS) (hB : BkV bs) (htn : bs.turn < 1099511627776) (s0 s1 : Option Sd) (d wh a tt : Int) (A : Option Addr) (xs : List Int) (c : Nat) (H : St w0 W (B t (stg b true s0 s1) 112 :: (plE s0 ++ (plE s1 ++ (bkE b bs ++ R))))) (h0 : plV N s0) (h1 : plV N s1) (hN : N ≤ 1099511627776)
    (ha : -9223372036854775808 ≤ wh) (ha' : wh ≤ 9223372036854775807) (hb : -9223372036854775808 ≤ a) (hb' : a ≤ 9223372036854775807) (hx : ReadsOf U 0 w0 A xs.length xs) (hxb : Byt xs) (hc : xs.length ≤ c) :
    Calls Try.prog 38 #[pt t, .agg (opCells d wh a tt A xs.length c)] W fun e W' => e = .returned (.bool true) ∧ ∃ (bs' : BkS) (s0' s1' : Option Sd), BkV bs' ∧ bs'.turn ≤ bs.turn + 1 ∧ plV (N + 9000) s0' ∧ plV (N + 9000) s1' ∧ St w0 W' (B t (stg b true s0' s1') 112 :: (plE s0' ++ (plE s1' ++ (bkE b bs' ++ R)))) := by
  have hk : wh % 2 = ((0 : Nat) : Int) ∨ wh % 2 = ((1 : Nat) : Int) := by omega
  rcases hk with hk | hk
  · by_cases hd : d = 6
    · subst hd
      exact (plays_new w0 W (plE s1 ++ (bkE b bs ++ R)) t 0 (stg b true s0 s1) wh a tt A _ c (H.re (fun x => by simp only [cnt_append, cnt_cons]; omega)) (by omega) rfl hk ha ha').mono fun e W' ⟨he, o, hv, hs⟩ => ⟨he, bs, o, s1, hB, Nat.le_succ _, plV_mono hv (by omega), plV_mono h1 (by omega), hs⟩
    · cases s0 with
      | none => exact (plays_nil w0 W _ t 0 (stg b true none s1) d wh a tt A _ c H (by omega) rfl rfl hd hk ha ha').mono fun e W' ⟨he, hs⟩ => ⟨he, bs, none, s1, hB, Nat.le_succ _, trivial, plV_mono h1 (by omega), hs⟩
      | some s =>
        exact (playsM_one w0 W (plE s1 ++ R) b bs t 0 (stg b true (some s) s1) s d wh a tt A xs c (H.re (fun x => by simp only [plE, cnt_append, cnt_cons]; omega)) h0.1 (Nat.le_trans h0.2 hN) (by omega) rfl rfl rfl rfl hB htn hk ha ha' hb hb' hx hxb hc hd).mono fun e W' ⟨he, bs', hB', hT', s', hv, hg, hh, hr, hl, hs⟩ =>
          ⟨he, bs', some s', s1, hB', hT', ⟨hv, by have := h0.2; omega⟩, plV_mono h1 (by omega), by show St w0 W' (B t #[pt s'.g, plN s1, pt s'.h, plM s1, pt b, .bool true] 112 :: _); rw [hg, hh]; exact (show St w0 W' ([B t #[pt s.g, plN s1, pt s.h, plM s1, pt b, .bool true] 112] ++ (sdE s' ++ (bkE b bs' ++ (plE s1 ++ R)))) from hs).re (fun x => by simp only [plE, cnt_append, cnt_cons, cnt_nil]; omega)⟩
  · by_cases hd : d = 6
    · subst hd
      exact (plays_new w0 W (plE s0 ++ (bkE b bs ++ R)) t 1 (stg b true s0 s1) wh a tt A _ c (H.re (fun x => by simp only [cnt_append, cnt_cons]; omega)) (by omega) rfl hk ha ha').mono fun e W' ⟨he, o, hv, hs⟩ => ⟨he, bs, s0, o, hB, Nat.le_succ _, plV_mono h0 (by omega), plV_mono hv (by omega), hs.re (M := B t (stg b true s0 o) 112 :: (plE s0 ++ (plE o ++ (bkE b bs ++ R)))) (fun x => by
        show _ ≤ cnt x (B t (stg b true s0 o) 112 :: _)
        simp only [cnt_append, cnt_cons]; omega)⟩
    · cases s1 with
      | none => exact (plays_nil w0 W _ t 1 (stg b true s0 none) d wh a tt A _ c H (by omega) rfl rfl hd hk ha ha').mono fun e W' ⟨he, hs⟩ => ⟨he, bs, s0, none, hB, Nat.le_succ _, plV_mono h0 (by omega), trivial, hs⟩
      | some s =>
        exact (playsM_one w0 W (plE s0 ++ R) b bs t 1 (stg b true s0 (some s)) s d wh a tt A xs c (H.re (fun x => by simp only [plE, cnt_append, cnt_cons]; omega)) h1.1 (Nat.le_trans h1.2 hN) (by omega) rfl rfl rfl rfl hB htn hk ha ha' hb hb' hx hxb hc hd).mono fun e W' ⟨he, bs', hB', hT', s', hv, hg, hh, hr, hl, hs⟩ =>
          ⟨he, bs', s0, some s', hB', hT', plV_mono h0 (by omega), ⟨hv, by have := h1.2; omega⟩, by show St w0 W' (B t #[plN s0, pt s'.g, plM s0, pt s'.h, pt b, .bool true] 112 :: _); rw [hg, hh]; exact (show St w0 W' ([B t #[plN s0, pt s.g, plM s0, pt s.h, pt b, .bool true] 112] ++ (sdE s' ++ (bkE b bs' ++ (plE s0 ++ R)))) from hs).re (fun x => by simp only [plE, cnt_append, cnt_cons, cnt_nil]; omega)⟩
def bk0 : BkS := ⟨NL, NL, [], 0, 0, 0, 0, []⟩
theorem bk0V : BkV bk0 := ⟨rowV_nil 1, rowV_nil 1, fun l hl => (by cases hl), Nat.le_refl _, by simp [bk0], by simp [bk0], fun l hl => (by cases hl), fun i hi => (by simp [bk0] at hi), Nat.le_refl _⟩
theorem built107M : Try.prog.built 107 [] = some (bkC bk0) := by kernel_rfl
theorem wpList_bookM {ops : Array Oper} {rest : List Oper} {o : Oper} {a : Act} {w : World} {Q : Exit → Act → World → Prop} (hg : o.guard = none) (ho : o.op = .build 107 #[]) (h : wpList Try.prog ops Q rest (a.put o.dst (.agg (bkC bk0))) w) : wpList Try.prog ops Q (o :: rest) a w :=
  wpList_plain hg fun _ hK => by
    unfold Oper.wp execOp
    simp only [ho, Sem.run_bind, List.map_toArray, List.map_nil, Array.map_empty, run_build w 107 #[] (bkC bk0) built107M, Result.andThen_ok]
    exact hK _ _ h
set_option maxRecDepth 20000 in
set_option maxHeartbeats 6400000 in
theorem playM_calls (w0 W : World) (R : List Ent) (r0 r1 : Int) (A : Option Addr) (os : List CO) (c : Nat) (H : St w0 W R) (hr : KOp.C w0 A os.length os) (hm : os.length ≤ 9223372036854775807)
    (hv : ∀ o, o ∈ os → I64 o.2.1 ∧ I64 o.2.2.1 ∧ Byt o.2.2.2.2) :
    Calls Try.prog 19 #[.agg (scr r0 r1 A os.length c), .bool true] W fun e W' => e = .returned (.bool true) ∧ St w0 W' R := by
  obtain ⟨W1, hW1⟩ : ∃ W1, W1 = W.alloc (.cells (scr r0 r1 A os.length c) 48) := ⟨_, rfl⟩
  obtain ⟨W2, hW2⟩ : ∃ W2, W2 = W1.alloc (.cells (bkC bk0) 107) := ⟨_, rfl⟩
  obtain ⟨bs, hbs⟩ : ∃ bs, bs = W.heap.size := ⟨_, rfl⟩
  obtain ⟨b, hb⟩ : ∃ b, b = W1.heap.size := ⟨_, rfl⟩
  obtain ⟨t, ht⟩ : ∃ t, t = W2.heap.size := ⟨_, rfl⟩
  obtain ⟨W3, hW3⟩ : ∃ W3, W3 = W2.alloc (.cells #[nilp, nilp, nilp, nilp, pt b, .bool true] 112) := ⟨_, rfl⟩
  have h1 := H.newB (scr r0 r1 A os.length c) 48
  rw [← hW1, ← hbs] at h1
  have h2 := h1.newB (bkC bk0) 107
  rw [← hW2, ← hb] at h2
  have h3 := h2.newB #[nilp, nilp, nilp, nilp, pt b, .bool true] 112
  rw [← hW3, ← ht] at h3
  have h3' : St w0 W3 (B t (stg b true none none) 112 :: (B b (bkC bk0) 107 :: B bs (scr r0 r1 A os.length c) 48 :: R)) := h3
  have CF := Lib.hid (fresh_calls w0 W3 _ t 0 (stg b true none none) r0 h3' (by omega) rfl)
  have HS := Lib.hid h3'
  have HW1 := Lib.hid hW1
  have HW2 := Lib.hid hW2
  have HW3 := Lib.hid hW3
  have HBS := Lib.hid hbs
  have HB : Hid (b = bs + 1) := by show b = _; rw [hb, hW1, hbs]; simp
  have HT : Hid (t = b + 1) := by show t = _; rw [ht, hW2, hb]; simp
  have HR := Lib.hid hr
  have HV := Lib.hid hv
  clear hW1 hW2 hW3 hbs hb ht h1 h2 h3 h3' H hr hv
  go_enter Try.func19, Try.ntmps19
  go_wp2_with (refine wpList_bookM rfl rfl ?_)
  rw [← HBS.out, ← HB.out, ← HT.out, ← HW1.out, ← HW2.out, ← HW3.out]
  refine CF.out.mono ?_; rintro e w4 ⟨rfl, o0, hv0, hs4⟩
  have hs4' : St w0 w4 (B t (stg b true o0 none) 112 :: (plE o0 ++ (B b (bkC bk0) 107 :: B bs (scr r0 r1 A os.length c) 48 :: R))) := hs4
  have x1 := hs4'.cellOf (g := bs) (cs := scr r0 r1 A os.length c) (t := 48) (by simp) 1 rfl
  have CF2 := Lib.hid (fresh_calls w0 w4 _ t 1 (stg b true o0 none) r1 hs4' (by omega) rfl)
  have HV0 := Lib.hid hv0
  clear hv0 hs4 hs4'
  go_wp2_with fail
  refine CF2.out.mono ?_; rintro e w5 ⟨rfl, o1, hv1, hs5⟩
  have hs5' : St w0 w5 (B t (stg b true o0 o1) 112 :: (plE o0 ++ (plE o1 ++ (B b (bkC bk0) 107 :: B bs (scr r0 r1 A os.length c) 48 :: R)))) := (show St w0 w5 (B t (stg b true o0 o1) 112 :: (plE o1 ++ (plE o0 ++ (B b (bkC bk0) 107 :: B bs (scr r0 r1 A os.length c) 48 :: R)))) from hs5).re (fun x => by simp only [cnt_append, cnt_cons]; omega)
  have HV1 := Lib.hid hv1
  have H5 := Lib.hid hs5'
  clear hv1 hs5 hs5' x1
  go_wp2_with fail
  go_loopw [6] (fun i wr => ∃ (q : Nat) (bq : BkS) (s0 s1 : Option Sd), BkV bq ∧ bq.turn ≤ q ∧ i = .int .i64 q ∧ q ≤ os.length ∧ q ≤ 400 ∧ plV (9000 * q) s0 ∧ plV (9000 * q) s1 ∧ St w0 wr (B t (stg b true s0 s1) 112 :: (plE s0 ++ (plE s1 ++ (bkE b bq ++ (B bs (scr r0 r1 A os.length c) 48 :: R)))))) (fun i _ => 400 - (intOf i).toNat)
  case atStart => exact ⟨0, bk0, o0, o1, bk0V, Nat.le_refl _, rfl, Nat.zero_le _, by omega, HV0.out, HV1.out, H5.out.re (fun x => by have e1 : cnt x (bkE b bk0) = one x (B b (bkC bk0) 107) := rfl; simp only [cnt_append, cnt_cons, e1]; omega)⟩
  case round =>
    obtain ⟨q, bq, s0, s1, hbq, htq, rfl, hq, hq4, v0, v1, hs⟩ := hrel
    have x2 := hs.cellOf (g := bs) (cs := scr r0 r1 A os.length c) (t := 48) (by simp) 2 rfl
    have y4 := hs.cellOf (g := t) (cs := stg b true s0 s1) (t := 112) (by simp) 4 rfl
    have V0 := Lib.hid v0
    have V1 := Lib.hid v1
    have HR5 := Lib.hid hs
    have HBQ := Lib.hid hbq
    have HTQ := Lib.hid htq
    clear v0 v1 hbq htq
    by_cases hlt : q < os.length ∧ q < 400
    · obtain ⟨hlt, hlt4⟩ := hlt
      have i1 : (q : Int) < (os.length : Int) := by omega
      have i2 : (q : Int) < 400 := by omega
      have i3 : (0 : Int) ≤ (q : Int) := by omega
      obtain ⟨ad, Ab, cb, rfl, ho⟩ := op_at HR.out q hlt rfl
      obtain ⟨o, hoo⟩ : ∃ o, o = os[q] := ⟨_, rfl⟩
      have hvo := HV.out o (by rw [hoo]; exact List.getElem_mem hlt)
      rw [← hoo] at ho
      have hb := ho.below hs.bl
      have z0 := hb.c0
      have z1 := hb.c1
      have z2 := hb.c2
      have z3 := hb.c3
      have z4 := hb.c4
      have CP := Lib.hid (playsM_calls w0 wr _ t b (9000 * q) bq HBQ.out (by have := HTQ.out; omega) s0 s1 o.1 o.2.1 o.2.2.1 o.2.2.2.1 Ab o.2.2.2.2 cb hs V0.out V1.out (by omega) hvo.1.1 hvo.1.2 hvo.2.1.1 hvo.2.1.2 ho.rd hvo.2.2 ho.cap)
      clear hs hoo hvo ho hb
      go_wp2_with fail
      refine CP.out.mono ?_; rintro e w6 ⟨rfl, b6, s0', s1', hB6, hT6, v0', v1', hs6⟩
      have y6 := hs6.cellOf (g := t) (cs := stg b true s0' s1') (t := 112) (by simp) 4 rfl
      have CL := Lib.hid (Go.Proofs.Ytfmggmpllggbnaa.Book.look_calls w0 w6 _ b b6 (hs6.re (M := bkE b b6 ++ (B t (stg b true s0' s1') 112 :: (plE s0' ++ (plE s1' ++ (B bs (scr r0 r1 (some ad) os.length c) 48 :: R))))) (fun x => by simp only [cnt_append, cnt_cons]; omega)) hB6 (by have := HTQ.out; omega))
      have HT6 := Lib.hid hT6
      have V0' := Lib.hid v0'
      have V1' := Lib.hid v1'
      have H6 := Lib.hid hs6
      clear v0' v1' hs6 hB6 hT6
      go_wp2_with fail
      refine CL.out.mono ?_; rintro e w7 ⟨rfl, b7, hB7, hT7, hs7⟩
      have H7 := Lib.hid hs7
      have HB7 := Lib.hid hB7
      have HT7 := Lib.hid hT7
      clear hB7 hT7 hs7
      go_wp2_with fail
      go_roundw
      case rel => exact ⟨q + 1, b7, s0', s1', HB7.out, by have h1 := HT7.out; have h2 := HT6.out; have h3 := HTQ.out; omega, by go_num, by omega, by omega, plV_mono V0'.out (by omega), plV_mono V1'.out (by omega), H7.out.re (fun x => by simp only [cnt_append, cnt_cons]; omega)⟩
      case measure => simp [intOf]; omega
    · have CA0 := Lib.hid (all_calls w0 wr _ t b (9000 * q) true s0 s1 hs V0.out V1.out 0 (by omega))
      have CA1 : Hid (∀ w', St w0 w' (B t (stg b true s0 s1) 112 :: (plE s0 ++ (plE s1 ++ (bkE b bq ++ (B bs (scr r0 r1 A os.length c) 48 :: R))))) → _) := fun w' h' => all_calls w0 w' _ t b (9000 * q) true s0 s1 h' V0.out V1.out 1 (by omega)
      have hcase : ¬ (q : Int) < (os.length : Int) ∨ ((q : Int) < (os.length : Int) ∧ ¬ (q : Int) < 400) := by omega
      clear hs hlt
      rcases hcase with p1 | ⟨p1, p2⟩
      all_goals
        go_wp2_with fail
        refine CA0.out.mono ?_; rintro e w6 ⟨rfl, hs6⟩
        have H6 := Lib.hid hs6
        clear hs6
        go_wp2_with fail
        refine (CA1.out w6 H6.out).mono ?_; rintro e w7 ⟨rfl, hs7⟩
        have H7 := Lib.hid hs7
        clear hs7
        go_wp2_with fail
        refine (lives_calls w7).mono ?_; rintro e w8 ⟨rfl, hb8⟩
        have H8 := Lib.hid (H7.out.below hb8)
        clear hb8
        go_wp2_with fail
        go_ret
        exact ⟨rfl, H8.out.re (fun x => by simp only [cnt_append, cnt_cons]; omega)⟩
end Go.Proofs.Ytfmggmpllggbnaa.RNet
