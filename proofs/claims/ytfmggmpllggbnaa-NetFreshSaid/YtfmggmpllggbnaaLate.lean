/- Answers that are held untouched (Late): Add, same, Settle. -/
import Derived.Test.YtfmggmpllggbnaaBookL
import Derived.Laws.IdiomStrings
namespace Go.Proofs.Ytfmggmpllggbnaa.Late
open Go.RowKit Go.Proofs.YtfmggmpllggbnaaW.PrintWords Go.Proofs.Ytfmggmpllggbnaa.Mem Go.Proofs.Ytfmggmpllggbnaa.Book
set_option linter.unusedVariables false
set_option linter.unusedSimpArgs false
abbrev U := Value.int IntKind.u8
abbrev Byt (xs : List Int) : Prop := ∀ a, a ∈ xs → 0 ≤ a ∧ a ≤ 255
/-- A block of bytes that begins with these; of no cell of it is anything frozen. -/
def gotP (xs : List Int) (c : Nat) (o : Obj) : Prop := ∃ (cur : Array Value) (f : Nat × Nat), o = .cells cur 5 f ∧ (f = (0, 0) ∨ f.1 = cur.size) ∧ c ≤ cur.size ∧ xs.length ≤ cur.size ∧ ∀ j, j < xs.length → cur[j]? = some (.int .u8 (xs.getD j 0))
def gotE (g : Option Nat) (xs : List Int) (c : Nat) : List Ent := match g with
  | none => []
  | some x => [(x, gotP xs c)]
/-- An answer and what it must hold. -/
structure LI where
  g : Option Nat
  c : Nat
  xs : List Int
  wg : Nat
  wc : Nat
def LI.got (i : LI) : Value := .slice (i.g.map fun g => ⟨g, 0, none⟩) i.xs.length i.c
def LI.want (i : LI) : Value := .slice (some ⟨i.wg, 0, none⟩) i.xs.length i.wc
def itE (i : LI) : List Ent := gotE i.g i.xs i.c ++ gotE (some i.wg) i.xs i.wc
def lateR (gv wv : Value) (l : List LI) : List Ent := rowE gv 62 1 l.length (l.map LI.got) ++ rowE wv 62 1 l.length (l.map LI.want)
def lateE (t : Nat) (gv wv : Value) (l : List LI) : List Ent := B t #[gv, wv] 119 :: (lateR gv wv l ++ l.flatMap itE)
structure LateV (gv wv : Value) (l : List LI) : Prop where
  g : rowV gv 1 l.length (l.map LI.got)
  w : rowV wv 1 l.length (l.map LI.want)
  by_ : ∀ i, i ∈ l → i.xs.length ≤ 16777216 ∧ (i.g = none → i.xs = [] ∧ i.c = 0)
  len : l.length ≤ 1073741824
theorem got_reads {w0 W : World} {L : List Ent} (h : St w0 W L) {g : Option Nat} {xs : List Int} {c : Nat} (hc : ∀ p, p ∈ gotE g xs c → p ∈ L) (hn : g = none → xs = []) (hl : xs.length ≤ 16777216) : ReadsOf U 0 W (g.map fun g => ⟨g, 0, none⟩) xs.length xs := by
  refine ⟨rfl, by omega, fun h0 => ?_⟩
  cases g with
  | none => rw [hn rfl] at h0; cases h0
  | some x =>
    obtain ⟨o, ho, cur, f, rfl, hf, h1, h2, h3⟩ := h.has (x, gotP xs c) (hc _ (by simp [gotE]))
    exact ⟨⟨x, 0, none⟩, rfl, fun j hj => by rw [add_plain, cell_of_row W x j _ _ _ ho]; exact h3 j hj⟩
/-- The bytes of a string that was made of a list, as a block. -/
theorem got_conv (xs : List Int) (hx : Byt xs) (c : Nat) (hc : xs.length ≤ c) : gotP xs c (.cells (bytesRow (strOfNums xs) c) 5 ((bytesRow (strOfNums xs) c).size, (bytesRow (strOfNums xs) c).size + 1)) := by
  have hsz : (bytesRow (strOfNums xs) c).size = c := by
    have := strOfNums_size xs
    unfold bytesRow
    simp only [Array.size_append, Array.size_map, Array.size_replicate]
    simp only [ByteArray.size] at this ⊢
    omega
  refine ⟨_, _, rfl, .inr rfl, by rw [hsz]; exact Nat.le_refl _, by omega, fun j hj => ?_⟩
  have hs : j < (strOfNums xs).data.size := by have := strOfNums_size xs; simp only [ByteArray.size] at this; omega
  rw [bytesRow_at _ _ _ hs]
  have hb := hx (xs[j]) (List.getElem_mem hj)
  have e2 : (strOfNums xs).data[j] = UInt8.ofNat (xs[j]).toNat := by simp [strOfNums]
  have e3 : xs.getD j 0 = xs[j] := by simp [List.getD, List.getElem?_eq_getElem hj]
  rw [e2, e3]
  congr 2
  simp
  omega
theorem got_free {xs : List Int} {c : Nat} (o : Obj) (h : gotP xs c o) : freeP xs.length c o := by
  obtain ⟨cur, f, h1, h2, h3, h4, _⟩ := h
  exact ⟨cur, f, h1, h2, h3, h4⟩
theorem gotE_ownE {w0 W : World} {R : List Ent} {g : Option Nat} {xs : List Int} {c : Nat} (h : St w0 W (gotE g xs c ++ R)) : St w0 W (ownE g xs.length c ++ R) := by
  cases g with
  | none => exact h
  | some x => exact St.weak (P := gotP xs c) h got_free
theorem itE_mid (A C : List LI) (i : LI) (x : Ent) : cnt x ((A ++ i :: C).flatMap itE) = cnt x (gotE i.g i.xs i.c) + cnt x (gotE (some i.wg) i.xs i.wc) + (cnt x (A.flatMap itE) + cnt x (C.flatMap itE)) := by
  simp only [List.flatMap_append, List.flatMap_cons, itE, cnt_append]; omega
/-- Each answer of the list, and its fellow, read as the same bytes. -/
theorem late_reads {w0 W : World} {L : List Ent} {gv wv : Value} {l : List LI} (h : St w0 W L) (hc : ∀ p, p ∈ l.flatMap itE → p ∈ L) (hV : LateV gv wv l) (k : Nat) (hk : k < l.length) :
    ReadsOf U 0 W ((l[k]).g.map fun g => ⟨g, 0, none⟩) (l[k]).xs.length (l[k]).xs ∧ ReadsOf U 0 W (some ⟨(l[k]).wg, 0, none⟩) (l[k]).xs.length (l[k]).xs := by
  have hm := List.getElem_mem hk
  have hb := hV.by_ _ hm
  exact ⟨got_reads h (c := (l[k]).c) (fun p hp => hc p (List.mem_flatMap.2 ⟨_, hm, List.mem_append_left _ hp⟩)) (fun e => (hb.2 e).1) hb.1,
    got_reads (g := some (l[k]).wg) h (c := (l[k]).wc) (fun p hp => hc p (List.mem_flatMap.2 ⟨_, hm, List.mem_append_right _ hp⟩)) (fun e => by cases e) hb.1⟩
theorem late_facts' {gv wv : Value} {l : List LI} (hV : LateV gv wv l) (w0 : World) (t k : Nat) (hk : k < l.length) :
    ∃ g c g2 c2, gv = .slice (some ⟨g, 0, none⟩) l.length c ∧ wv = .slice (some ⟨g2, 0, none⟩) l.length c2 ∧ ∀ w' L, St w0 w' L → (∀ a, cnt a (B t #[gv, wv] 119 :: lateR gv wv l) ≤ cnt a L) →
      (w'.cell? ⟨t, 0, none⟩ = some (.slice (some ⟨g, 0, none⟩) l.length c) ∧ w'.cell? ⟨t, 1, none⟩ = some (.slice (some ⟨g2, 0, none⟩) l.length c2) ∧
      w'.cell? ⟨g, k, none⟩ = some (l[k]).got ∧ w'.cell? ⟨g2, k, none⟩ = some (l[k]).want) := by
  obtain ⟨g, c, e⟩ := rowV_val hV.g (by omega)
  obtain ⟨g2, c2, e2⟩ := rowV_val hV.w (by omega)
  refine ⟨g, c, g2, c2, e, e2, fun w' L h0 hc0 => ?_⟩
  have h := h0.re hc0
  refine ⟨?_, ?_, ?_, ?_⟩
  · rw [← e]; exact h.cellOf (g := t) (cs := #[gv, wv]) (t := 119) (by simp) 0 rfl
  · rw [← e2]; exact h.cellOf (g := t) (cs := #[gv, wv]) (t := 119) (by simp) 1 rfl
  · obtain ⟨g', c', e', hc⟩ := rowV_nth (e := 62) h (fun x => by simp only [lateR, cnt_append, cnt_cons]; omega) hV.g (by omega)
    rw [e] at e'; simp at e'
    rw [e'.1, hc k hk]; simp [hk]
  · obtain ⟨g', c', e', hc⟩ := rowV_nth (e := 62) h (fun x => by simp only [lateR, cnt_append, cnt_cons]; omega) hV.w (by omega)
    rw [e2] at e'; simp at e'
    rw [e'.1, hc k hk]; simp [hk]
theorem late_facts {gv wv : Value} {l : List LI} (hV : LateV gv wv l) (w0 : World) (R : List Ent) (t k : Nat) (hk : k < l.length) :
    ∃ g c g2 c2, gv = .slice (some ⟨g, 0, none⟩) l.length c ∧ wv = .slice (some ⟨g2, 0, none⟩) l.length c2 ∧ ∀ w', St w0 w' (lateE t gv wv l ++ R) →
      (w'.cell? ⟨t, 0, none⟩ = some (.slice (some ⟨g, 0, none⟩) l.length c) ∧ w'.cell? ⟨t, 1, none⟩ = some (.slice (some ⟨g2, 0, none⟩) l.length c2) ∧
      w'.cell? ⟨g, k, none⟩ = some (l[k]).got ∧ w'.cell? ⟨g2, k, none⟩ = some (l[k]).want) := by
  obtain ⟨g, c, g2, c2, e, e2, h⟩ := late_facts' hV w0 t k hk
  exact ⟨g, c, g2, c2, e, e2, fun w' hs => h w' _ hs (fun a => by simp only [lateE, cnt_append, cnt_cons]; omega)⟩
set_option maxRecDepth 20000 in
set_option maxHeartbeats 3200000 in
theorem same_calls (w0 W : World) (R : List Ent) (t : Nat) (gv wv : Value) (l : List LI) (h : St w0 W (lateE t gv wv l ++ R)) (hV : LateV gv wv l) :
    Calls Try.prog 70 #[pt t] W fun e w' => e = .returned (.bool true) ∧ St w0 w' (lateE t gv wv l ++ R) := by
  have hll := hV.len
  have HS := Lib.hid h
  have HV := Lib.hid hV
  obtain ⟨A0, q0, e0⟩ := rowV_form hV.g
  have HE0 := Lib.hid e0
  clear h hV e0
  go_enter Try.func70, Try.ntmps70
  go_wp2_with fail
  go_loopw [3] (fun i wr => ∃ k : Nat, i = .int .i64 k ∧ k ≤ l.length ∧ St w0 wr (lateE t gv wv l ++ R)) (fun i _ => l.length - (intOf i).toNat)
  case atStart => exact ⟨0, rfl, Nat.zero_le _, HS.out⟩
  case round =>
    obtain ⟨k, rfl, hk, hs⟩ := hrel
    by_cases hlt : k < l.length
    · obtain ⟨g, c, g2, c2, ev, ew, hf⟩ := late_facts HV.out w0 R t k hlt
      obtain ⟨x0, x1, x2, x3⟩ := hf wr hs
      have hrd := fun n : Nat => late_reads (hs.below (pw_below_drewN (Below.refl _ _) n)) (fun p hp => by simp [lateE]; right; right; left; simpa using hp) HV.out k hlt
      obtain ⟨it, hit⟩ : ∃ it, it = l[k] := ⟨_, rfl⟩
      rw [← hit] at x2 x3 hrd
      obtain ⟨xs, hxs⟩ : ∃ xs, xs = it.xs := ⟨_, rfl⟩
      obtain ⟨A1, hA1⟩ : ∃ A1 : Option Addr, A1 = it.g.map fun g => ⟨g, 0, none⟩ := ⟨_, rfl⟩
      have x2' : wr.cell? ⟨g, k, none⟩ = some (.slice A1 xs.length it.c) := by rw [hA1, hxs]; exact x2
      have x3' : wr.cell? ⟨g2, k, none⟩ = some (.slice (some ⟨it.wg, 0, none⟩) xs.length it.wc) := by rw [hxs]; exact x3
      rw [← hA1, ← hxs] at hrd
      have s1 : ∀ n, (convert 62 9 (.slice A1 xs.length it.c)).run Try.prog (wr.drewN n) = .ok (.string (strOfNums xs)) (wr.drewN n) := fun n => string_of_reads (P := Try.prog) (src := 62) (dst := 9) (c := it.c) Try.underlying62 Try.underlying5 Try.underlying9 (hrd n).1
      have s2 : ∀ n, (convert 62 9 (.slice (some ⟨it.wg, 0, none⟩) xs.length it.wc)).run Try.prog (wr.drewN n) = .ok (.string (strOfNums xs)) (wr.drewN n) := fun n => string_of_reads (P := Try.prog) (src := 62) (dst := 9) (c := it.wc) Try.underlying62 Try.underlying5 Try.underlying9 (hrd n).2
      have j1 : (k : Int) < (l.length : Int) := by omega
      have j2 : (0 : Int) ≤ (k : Int) := by omega
      have HR := Lib.hid hs
      clear ev ew hf hrd hit hxs hA1 x2 x3 hs
      go_wp2_with fail
      go_quiet (fail)
      go_wp2_with fail
      go_roundw
      case rel => exact ⟨k + 1, by go_num, by omega, HR.out.below (pw_below_drewN (Below.refl _ _) _)⟩
      case measure => simp [intOf]; omega
    · have x0 : wr.cell? ⟨t, 0, none⟩ = some (.slice A0 l.length q0) := by rw [← HE0.out]; exact hs.cellOf (g := t) (cs := #[gv, wv]) (t := 119) (by simp [lateE]) 0 rfl
      have HR := Lib.hid hs
      clear hs
      go_wp2_with fail
      go_ret
      exact ⟨rfl, HR.out⟩
/-- Behind a Settle: nothing is held any more, or all as it was. -/
def LateTo (w0 : World) (t b : Nat) (R : List Ent) (s : BkS) (l : List LI) (w' : World) : Prop :=
  ∃ (gv' wv' : Value) (l' : List LI) (s' : BkS), LateV gv' wv' l' ∧ BkV s' ∧ s'.turn + l'.length ≤ s.turn + l.length ∧ St w0 w' (lateE t gv' wv' l' ++ (bkE b s' ++ R))
theorem lateV_nil : LateV (.slice none 0 0) (.slice none 0 0) [] := ⟨rowV_nil 1, rowV_nil 1, fun i hi => (by cases hi), by simp⟩
set_option maxRecDepth 20000 in
set_option maxHeartbeats 6400000 in
theorem settle_calls (w0 W : World) (R : List Ent) (t b : Nat) (gv wv : Value) (l : List LI) (s : BkS) (n : Int) (h : St w0 W (lateE t gv wv l ++ (bkE b s ++ R))) (hV : LateV gv wv l) (hB : BkV s) (ht : s.turn + l.length ≤ 1099511627776) :
    Calls Try.prog 49 #[pt t, pt b, .int .i64 n] W fun e w' => e = .returned (.bool true) ∧ LateTo w0 t b R s l w' := by
  have hll := hV.len
  have x0 : W.cell? ⟨t, 0, none⟩ = some gv := h.cellOf (g := t) (cs := #[gv, wv]) (t := 119) (by simp [lateE]) 0 rfl
  obtain ⟨A0, q0, e0⟩ := rowV_form hV.g
  rw [e0] at x0
  have HS := Lib.hid h
  have HV := Lib.hid hV
  have HB := Lib.hid hB
  have HE0 := Lib.hid e0
  by_cases hn : (l.length : Int) < n
  · clear h hV hB e0
    go_enter Try.func49, Try.ntmps49
    go_wp2_with fail
    go_ret
    exact ⟨rfl, gv, wv, l, s, HV.out, HB.out, Nat.le_refl _, HS.out⟩
  · have CS := Lib.hid (same_calls w0 W (bkE b s ++ R) t gv wv l h hV)
    clear h hV hB e0
    go_enter Try.func49, Try.ntmps49
    go_wp2_with fail
    refine CS.out.mono ?_; rintro e w1 ⟨rfl, hs1⟩
    have H1 := Lib.hid hs1
    clear hs1 x0
    go_wp2_with fail
    go_loopw [7] (fun i wr => ∃ (k : Nat) (s1 : BkS), i = .int .i64 k ∧ k ≤ l.length ∧ BkV s1 ∧ s1.turn = s.turn + k ∧ St w0 wr (B t #[gv, wv] 119 :: (lateR gv wv l ++ ((l.drop k).flatMap itE ++ (bkE b s1 ++ R))))) (fun i _ => l.length - (intOf i).toNat)
    case atStart => exact ⟨0, s, rfl, Nat.zero_le _, HB.out, rfl, H1.out.re (fun x => by simp only [lateE, List.drop_zero, cnt_append, cnt_cons]; omega)⟩
    case round =>
      obtain ⟨k, s1, rfl, hk, hB1, hT1, hs⟩ := hrel
      by_cases hlt : k < l.length
      · obtain ⟨g, c, g2, c2, ev, ew, hf⟩ := late_facts' HV.out w0 t k hlt
        obtain ⟨x0, x1, x2, x3⟩ := hf wr _ hs (fun a => by simp only [cnt_append, cnt_cons]; omega)
        have hmem := HV.out.by_ _ (List.getElem_mem hlt)
        have ed : l.drop k = l[k] :: l.drop (k + 1) := List.drop_eq_getElem_cons hlt
        rw [ed] at hs
        obtain ⟨it, hit⟩ : ∃ it, it = l[k] := ⟨_, rfl⟩
        rw [← hit] at x2 hs hmem
        obtain ⟨A1, hA1⟩ : ∃ A1 : Option Addr, A1 = it.g.map fun g => ⟨g, 0, none⟩ := ⟨_, rfl⟩
        have x2' : wr.cell? ⟨g, k, none⟩ = some (.slice A1 it.xs.length it.c) := by rw [hA1]; exact x2
        have hs2 := gotE_ownE (hs.re (M := gotE it.g it.xs it.c ++ (bkE b s1 ++ (B t #[gv, wv] 119 :: (lateR gv wv l ++ ((l.drop (k + 1)).flatMap itE ++ R))))) (fun x => by simp only [List.flatMap_cons, itE, cnt_append, cnt_cons]; omega))
        have CB := Lib.hid (bytes_calls w0 wr _ b s1 it.g A1 it.xs.length it.c hA1 (hs2.re (M := bkE b s1 ++ (ownE it.g it.xs.length it.c ++ (B t #[gv, wv] 119 :: (lateR gv wv l ++ ((l.drop (k + 1)).flatMap itE ++ R))))) (fun x => by simp only [cnt_append, cnt_cons]; omega)) hB1 (fun e => by have := hmem.2 e; rw [this.1]; exact ⟨rfl, this.2⟩) hmem.1 (by omega))
        have HT1 := Lib.hid hT1
        have j1 : (k : Int) < (l.length : Int) := by omega
        have j2 : (0 : Int) ≤ (k : Int) := by omega
        clear ev ew hf hmem ed hit x2 hA1 hs hs2 hB1 hT1
        go_wp2_with fail
        refine CB.out.mono ?_; rintro e w2 ⟨rfl, s2, hB2, hT2, hs3⟩
        have HB2 := Lib.hid hB2
        have HT2 := Lib.hid hT2
        have H3 := Lib.hid hs3
        clear hB2 hT2 hs3
        go_wp2_with fail
        go_roundw
        case rel => exact ⟨k + 1, s2, by go_num, by omega, HB2.out, by have h1 := HT1.out; have h2 := HT2.out; omega, H3.out.re (fun x => by simp only [cnt_append, cnt_cons]; omega)⟩
        case measure => simp [intOf]; omega
      · have hkl : k = l.length := by omega
        have x0 : wr.cell? ⟨t, 0, none⟩ = some (.slice A0 l.length q0) := by rw [← HE0.out]; exact blk_cell hs.hd 0
        have x1 : wr.cell? ⟨t, 1, none⟩ = some wv := blk_cell hs.hd 1
        have f0 := blk_frozen hs.hd 0
        have f1 := blk_frozen hs.hd 1
        have hp := (hs.put (cs' := #[.slice none 0 0, wv]) 0 (.slice none 0 0) rfl).put (cs' := #[.slice none 0 0, .slice none 0 0]) 1 (.slice none 0 0) rfl
        have CL := Lib.hid (look_calls w0 _ (B t #[.slice none 0 0, .slice none 0 0] 119 :: R) b s1 (hp.re (M := bkE b s1 ++ (B t #[.slice none 0 0, .slice none 0 0] 119 :: R)) (fun x => by simp only [cnt_append, cnt_cons]; omega)) hB1 (by omega))
        have HT1 : Hid (s1.turn = s.turn + l.length) := by show _ = _; omega
        have j1 : ¬ (k : Int) < (l.length : Int) := by omega
        obtain ⟨A1, q1, e1⟩ := rowV_form HV.out.w
        rw [e1] at x1
        clear hp hs hB1 hT1 hkl e1
        go_wp2_with fail
        refine CL.out.mono ?_; rintro e w2 ⟨rfl, s2, hB2, hT2, hs3⟩
        have HB2 := Lib.hid hB2
        have HT2 := Lib.hid hT2
        have H3 := Lib.hid hs3
        clear hB2 hT2 hs3
        go_wp2_with fail
        go_ret
        exact ⟨rfl, .slice none 0 0, .slice none 0 0, [], s2, lateV_nil, HB2.out, by have h1 := HT1.out; have h2 := HT2.out; simp; omega, H3.out.re (fun x => by simp only [lateE, lateR, rowE_nil, List.flatMap_nil, List.length_nil, List.map_nil, cnt_append, cnt_cons, cnt_nil]; omega)⟩
section
variable {P : Program}
/-- A string made of a list, as bytes in new memory. -/
theorem conv_new {w0 W : World} {L : List Ent} (h : St w0 W L) (xs : List Int) (hx : Byt xs) (src dst : TypeId) (hs : P.underlying src = some .string) (hd : P.underlying dst = some (.slice 5)) (he : P.underlying 5 = some (.int .u8)) :
    ∃ c' W', (convert src dst (.string (strOfNums xs))).run P W = .ok (.slice (some ⟨W.heap.size, 0, none⟩) xs.length c') W' ∧ W'.heap.size = W.heap.size + 1 ∧ St w0 W' ((W.heap.size, gotP xs c') :: L) := by
  have hr := run_bytes_of_string (P := P) W src dst 5 (strOfNums xs) hs hd he
  rw [strOfNums_size] at hr
  refine ⟨_, _, hr, by simp, ?_⟩
  have h2 := h.drew.new (.cells (bytesRow (strOfNums xs) (grownCap W xs.length 0 5)) 5 ((bytesRow (strOfNums xs) (grownCap W xs.length 0 5)).size, (bytesRow (strOfNums xs) (grownCap W xs.length 0 5)).size + 1)) (got_conv xs hx _ (grownCap_ge W xs.length 0 5))
  exact h2
theorem step_append_run {ops : Array Oper} {o : Oper} {a : Act} {W : World} {K : Act → World → Prop} {Q : Exit → Act → World → Prop} {E : Prop} (hgd : o.guard = none) (s x : Operand) (t : TypeId)
    (ho : o.op = .call { callee := .builtin .append, args := #[s, x], argTypes := #[t, t] }) (v y v' : Value) (W' : World) (hs : a.eval s = v) (hx : a.eval x = y) (hr : (Builtin.append_ #[t, t] o.type #[v, y]).run P W = .ok v' W') (h : K (a.put o.dst v') W') :
    if Region.wanted o (yielded ops a.tmps) = true then Oper.wp P o a W K Q else E := by
  have hw : Region.wanted o (yielded ops a.tmps) = true := by simp [Region.wanted, hgd]
  rw [if_pos hw]
  unfold Oper.wp execOp
  simp only [ho, resolve, invoke, builtin, Sem.run_bind, Sem.run_pure, Result.andThen_ok, List.map_toArray, List.map_cons, List.map_nil, hs, hx, hr]
  exact h
end
def LateAdd (w0 : World) (t : Nat) (R : List Ent) (l : List LI) (xs : List Int) (w' : World) : Prop := ∃ gv' wv' i, LateV gv' wv' (l ++ [i]) ∧ St w0 w' (lateE t gv' wv' (l ++ [i]) ++ R)
set_option maxRecDepth 20000 in
set_option maxHeartbeats 6400000 in
theorem add_calls (w0 W : World) (R : List Ent) (t : Nat) (gv wv : Value) (l : List LI) (g : Option Nat) (xs : List Int) (c : Nat) (A Aw : Option Addr) (cw : Nat) (hA : A = g.map fun g => ⟨g, 0, none⟩) (h : St w0 W (lateE t gv wv l ++ (gotE g xs c ++ R))) (hV : LateV gv wv l)
    (hg : g = none → xs = [] ∧ c = 0) (hx : Byt xs) (hl : xs.length ≤ 16777216) (hll : l.length < 1073741824) (hw : ∀ W', St w0 W' (gotE g xs c ++ R) → ReadsOf U 0 W' Aw xs.length xs) :
    Calls Try.prog 47 #[pt t, .slice A xs.length c, .slice Aw xs.length cw] W fun e w' => e = .returned (.tuple #[]) ∧ LateAdd w0 t R l xs w' := by
  obtain ⟨A0, c0, e0⟩ := rowV_form hV.g
  obtain ⟨A1, c1, e1⟩ := rowV_form hV.w
  have x0 : W.cell? ⟨t, 0, none⟩ = some (.slice A0 l.length c0) := by rw [← e0]; exact h.cellOf (g := t) (cs := #[gv, wv]) (t := 119) (by simp [lateE]) 0 rfl
  have h2 := h.newB #[.slice A xs.length c] 62
  obtain ⟨v2, W3, hr2, hs3, hv3⟩ := row_append (P := Try.prog) (h2.re (M := rowE gv 62 1 l.length (l.map LI.got) ++ (B t #[gv, wv] 119 :: (rowE wv 62 1 l.length (l.map LI.want) ++ (l.flatMap itE ++ (gotE g xs c ++ R))))) (fun x => by simp only [lateE, lateR, cnt_append, cnt_cons]; omega)) hV.g 88 88 (.slice none 0 0) 24 Try.underlying88 infoL rfl (by omega) (by omega) ⟨W.heap.size, 0, none⟩ 1 (.slice A xs.length c) (blk_cell h2.hd 0) rfl
  obtain ⟨A2, c2, rfl⟩ := rowV_form hv3
  have y0 : W3.cell? ⟨t, 0, none⟩ = some (.slice A0 l.length c0) := by rw [← e0]; exact hs3.cellOf (g := t) (cs := #[gv, wv]) (t := 119) (by simp) 0 rfl
  have f0 := hs3.freeOf (g := t) (cs := #[gv, wv]) (t := 119) (by simp) 0
  have hs4 := (hs3.re (M := B t #[gv, wv] 119 :: (rowE (.slice A2 (l.length + 1) c2) 62 1 (l.length + 1) (l.map LI.got ++ [.slice A xs.length c]) ++ (rowE wv 62 1 l.length (l.map LI.want) ++ (l.flatMap itE ++ (gotE g xs c ++ R))))) (fun x => by simp only [cnt_append, cnt_cons]; omega)).put (cs' := #[.slice A2 (l.length + 1) c2, wv]) 0 (.slice A2 (l.length + 1) c2) rfl
  obtain ⟨W4, hW4⟩ : ∃ W4, W4 = W3.setCell ⟨t, 0, none⟩ (.slice A2 (l.length + 1) c2) := ⟨_, rfl⟩
  rw [← hW4] at hs4
  have z1 : W4.cell? ⟨t, 1, none⟩ = some (.slice A1 l.length c1) := by rw [← e1]; exact blk_cell hs4.hd 1
  have s1 := string_of_reads (P := Try.prog) (src := 62) (dst := 9) (c := cw) Try.underlying62 Try.underlying5 Try.underlying9 (hw W4.drew (hs4.drew.re (fun x => by simp only [cnt_append, cnt_cons]; omega)))
  obtain ⟨c5, W5, hr5, hsz5, hs5⟩ := conv_new (P := Try.prog) hs4.drew xs hx 9 62 Try.underlying9 Try.underlying62 Try.underlying5
  rw [show W4.drew.heap.size = W4.heap.size from rfl] at hr5 hsz5 hs5
  have u1 : W5.cell? ⟨t, 1, none⟩ = some (.slice A1 l.length c1) := by rw [← e1]; exact hs5.cellOf (g := t) (cs := #[.slice A2 (l.length + 1) c2, wv]) (t := 119) (by simp) 1 rfl
  have h6 := hs5.newB #[.slice (some ⟨W4.heap.size, 0, none⟩) xs.length c5] 62
  have u2 : (W5.alloc (.cells #[.slice (some ⟨W4.heap.size, 0, none⟩) xs.length c5] 62)).cell? ⟨t, 1, none⟩ = some (.slice A1 l.length c1) := by rw [← e1]; exact h6.cellOf (g := t) (cs := #[.slice A2 (l.length + 1) c2, wv]) (t := 119) (by simp) 1 rfl
  obtain ⟨v7, W7, hr7, hs7, hv7⟩ := row_append (P := Try.prog) (h6.re (M := rowE wv 62 1 l.length (l.map LI.want) ++ (B t #[.slice A2 (l.length + 1) c2, wv] 119 :: ((W4.heap.size, gotP xs c5) :: (rowE (.slice A2 (l.length + 1) c2) 62 1 (l.length + 1) (l.map LI.got ++ [.slice A xs.length c]) ++ (l.flatMap itE ++ (gotE g xs c ++ R)))))) (fun x => by simp only [cnt_append, cnt_cons]; omega)) hV.w 88 88 (.slice none 0 0) 24 Try.underlying88 infoL rfl (by omega) (by omega) ⟨W5.heap.size, 0, none⟩ 1 (.slice (some ⟨W4.heap.size, 0, none⟩) xs.length c5) (blk_cell h6.hd 0) rfl
  obtain ⟨A7, c7, rfl⟩ := rowV_form hv7
  have y1 : W7.cell? ⟨t, 1, none⟩ = some (.slice A1 l.length c1) := by rw [← e1]; exact hs7.cellOf (g := t) (cs := #[.slice A2 (l.length + 1) c2, wv]) (t := 119) (by simp) 1 rfl
  have f1 := hs7.freeOf (g := t) (cs := #[.slice A2 (l.length + 1) c2, wv]) (t := 119) (by simp) 1
  have hs8 := (hs7.re (M := B t #[.slice A2 (l.length + 1) c2, wv] 119 :: (rowE (.slice A7 (l.length + 1) c7) 62 1 (l.length + 1) (l.map LI.want ++ [.slice (some ⟨W4.heap.size, 0, none⟩) xs.length c5]) ++ ((W4.heap.size, gotP xs c5) :: (rowE (.slice A2 (l.length + 1) c2) 62 1 (l.length + 1) (l.map LI.got ++ [.slice A xs.length c]) ++ (l.flatMap itE ++ (gotE g xs c ++ R)))))) (fun x => by simp only [cnt_append, cnt_cons]; omega)).put (cs' := #[.slice A2 (l.length + 1) c2, .slice A7 (l.length + 1) c7]) 1 (.slice A7 (l.length + 1) c7) rfl
  have hnew : LateV (.slice A2 (l.length + 1) c2) (.slice A7 (l.length + 1) c7) (l ++ [⟨g, c, xs, W4.heap.size, c5⟩]) :=
    ⟨by simpa [LI.got, hA] using hv3, by simpa [LI.want] using hv7, fun i hi => by
      rcases List.mem_append.1 hi with hi | hi
      · exact hV.by_ i hi
      · obtain rfl := List.mem_singleton.1 hi; exact ⟨hl, hg⟩, by simp; omega⟩
  have hfin := hs8.re (M := lateE t (.slice A2 (l.length + 1) c2) (.slice A7 (l.length + 1) c7) (l ++ [⟨g, c, xs, W4.heap.size, c5⟩]) ++ R) (fun x => by simp only [lateE, lateR, itE, gotE, LI.got, LI.want, hA, List.flatMap_append, List.flatMap_cons, List.flatMap_nil, List.map_append, List.map_cons, List.map_nil, List.length_append, List.length_cons, List.length_nil, Nat.zero_add, cnt_append, cnt_cons, cnt_nil]; omega)
  have HN := Lib.hid hnew
  have HF := Lib.hid hfin
  have HR2 := Lib.hid hr2
  have HR7 := Lib.hid hr7
  have HW4 := Lib.hid hW4
  rw [e0] at HR2
  rw [e1] at HR7
  clear h hV hg hx hw e0 e1 h2 hr2 hs3 hv3 hs4 hs5 hsz5 h6 hr7 hs7 hv7 hs8 hnew hfin hA hW4
  go_enter Try.func47, Try.ntmps47
  go_wp2_with (at_builtin; refine wpList_append_run (o := ⟨some 13, _, _, _, _, _⟩) rfl (.tmp 10) (.tmp 12) 88 rfl (.slice A0 l.length c0) (.slice (some ⟨W.heap.size, 0, none⟩) 1 1) (.slice A2 (l.length + 1) c2) W3 rfl rfl HR2.out ?_)
  rw [← HW4.out]
  go_region_law (first
    | (refine step_append_run (o := ⟨some 25, _, _, _, _, _⟩) rfl (.tmp 20) (.tmp 24) 88 rfl (.slice A1 l.length c1) (.slice (some ⟨W5.heap.size, 0, none⟩) 1 1) (.slice A7 (l.length + 1) c7) W7 rfl rfl HR7.out ?_))
  all_goals
    go_end0
    exact ⟨rfl, _, _, _, HN.out, HF.out⟩
end Go.Proofs.Ytfmggmpllggbnaa.Late
