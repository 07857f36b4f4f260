/- A book takes a list of bytes. -/
import Derived.Test.YtfmggmpllggbnaaBook
namespace Go.Proofs.Ytfmggmpllggbnaa.Book
open Go.RowKit Go.Proofs.YtfmggmpllggbnaaW.PrintWords Go.Proofs.Ytfmggmpllggbnaa.Mem
set_option linter.unusedVariables false
set_option linter.unusedSimpArgs false
/-- The block of a list that is written full, as far as byte k. -/
def fb (g : Option Nat) (m k c : Nat) : List BB := match g with
  | none => []
  | some x => [⟨x, m, k, c⟩]
/-- A list that is handed over: nil, or in a block of its own. -/
def ownE (g : Option Nat) (n c : Nat) : List Ent := match g with
  | none => []
  | some x => [(x, freeP n c)]
def fillE (g : Option Nat) (m k n c : Nat) : List Ent := match g with
  | none => []
  | some x => [(x, fillP m k n c)]
theorem own_fill {w0 W : World} {R : List Ent} {g : Option Nat} {n c : Nat} (m : Nat) (h : St w0 W (ownE g n c ++ R)) : St w0 W (fillE g m 0 n c ++ R) := by
  cases g with
  | none => exact h
  | some x => exact St.weak (P := freeP n c) h (fun o ⟨cur, f, h1, h2, h3, h4⟩ => ⟨cur, f, h1, h2, h3, h4, fun j hj => absurd hj (Nat.not_lt_zero _)⟩)
theorem fill_fb {w0 W : World} {R : List Ent} {g : Option Nat} {n c m : Nat} (h : St w0 W (fillE g m n n c ++ R)) : St w0 W (blkE (fb g m n c) ++ R) := by
  cases g with
  | none => exact h
  | some x => exact St.weak (P := fillP m n n c) h (fun o h => h)
theorem bkv_kept {s : BkS} (h : BkV s) (v vo : Value) (l : BL) (d : Nat) (hd : 97 ≤ d) (hu : s.used + d ≤ 16777216) (hn : l.n ≤ 16777216) (hm : l.m = s.turn + 1) (Bs : List BB) (hM : More s.Bs Bs) (hg : Good Bs l)
    (hv : rowV v 1 (s.kept.length + 1) (s.kept.map BL.val ++ [l.val])) (hvo : rowV vo 1 (s.kept.length + 1) (marksOf s.kept ++ [.int .i64 (l.m : Int)])) :
    BkV { s with v := v, vo := vo, kept := s.kept ++ [l], turn := s.turn + 1, used := s.used + d, Bs := Bs } := by
  have h1 := h.at_
  have h2 := h.num
  refine ⟨by simpa using hv, by simpa [marksOf] using hvo, fun x hx => ?_, by simp; omega, by simp; omega, hu, fun x hx => ?_, fun i hi hge => ?_, Nat.le_succ_of_le h.done⟩
  · rcases List.mem_append.1 hx with hx | hx
    · exact hM _ (h.good x hx)
    · obtain rfl := List.mem_singleton.1 hx; exact hg
  · rcases List.mem_append.1 hx with hx | hx
    · exact ⟨(h.sz x hx).1, Nat.le_succ_of_le (h.sz x hx).2⟩
    · obtain rfl := List.mem_singleton.1 hx; exact ⟨by omega, by simp only; omega⟩
  · by_cases hlt : i < s.kept.length
    · simp only [List.getElem_append_left hlt]; exact h.new i hlt hge
    · have hi' : i = s.kept.length := by simp at hi; omega
      subst hi'
      simpa using hn
theorem rowV_form {v : Value} {s n : Nat} {xs : List Value} (h : rowV v s n xs) : ∃ A c, v = .slice A n c := by
  rcases h.2 with ⟨rfl, rfl⟩ | ⟨g, cap, rfl, _⟩
  · exact ⟨_, _, rfl⟩
  · exact ⟨_, _, rfl⟩
theorem bkv_turn {s : BkS} (h : BkV s) : BkV { s with turn := s.turn + 1 } :=
  ⟨h.v, h.vo, h.good, h.at_, h.num, h.used, fun x hx => ⟨(h.sz x hx).1, Nat.le_succ_of_le (h.sz x hx).2⟩, h.new, Nat.le_succ_of_le h.done⟩
set_option maxRecDepth 20000 in
set_option maxHeartbeats 6400000 in
theorem bytes_calls (w0 W : World) (R : List Ent) (b : Nat) (s : BkS) (g : Option Nat) (A : Option Addr) (n c : Nat) (hA : A = g.map fun g => ⟨g, 0, none⟩) (h : St w0 W (bkE b s ++ (ownE g n c ++ R))) (hV : BkV s) (hg : g = none → n = 0 ∧ c = 0) (hn : n ≤ 16777216) (ht : s.turn < 1099511627776) :
    Calls Try.prog 71 #[pt b, .slice A n c] W fun e w' => e = .returned (.tuple #[]) ∧ ∃ s' : BkS, BkV s' ∧ s'.turn = s.turn + 1 ∧ St w0 w' (bkE b s' ++ R) := by
  have h0 := h.re (M := B b (bkC s) 107 :: (blkE [] ++ (ownE g n c ++ (bkR s ++ (blkE s.Bs ++ R))))) (fun x => by simp only [bkE, blkE, List.map_nil, cnt_append, cnt_cons, cnt_nil]; omega)
  have c54 : W.cell? ⟨b, 54, none⟩ = some (.int .i64 (s.turn : Int)) := blk_cell h0.hd 54
  have f54 := blk_frozen h0.hd 54
  obtain ⟨W1, hW1⟩ : ∃ W1, W1 = W.setCell ⟨b, 54, none⟩ (.int .i64 ((s.turn : Int) + 1)) := ⟨_, rfl⟩
  have h1 := h0.put (cs' := bkC { s with turn := s.turn + 1 }) 54 (.int .i64 ((s.turn : Int) + 1)) rfl
  rw [← hW1] at h1
  have h2 : St w0 W1 (fillE g (s.turn + 1) 0 n c ++ (B b (bkC { s with turn := s.turn + 1 }) 107 :: (bkR s ++ (blkE s.Bs ++ R)))) := own_fill _ (h1.re (fun x => by simp only [blkE, List.map_nil, cnt_append, cnt_cons, cnt_nil]; omega))
  have H2 := Lib.hid h2
  have HW1 := Lib.hid hW1
  have HV := Lib.hid hV
  have HG := Lib.hid hg
  have HA := Lib.hid hA
  have i1 : (s.turn : Int) ≤ 1099511627776 := by omega
  have i2 : (n : Int) ≤ 16777216 := by omega
  obtain ⟨m, hm⟩ : ∃ m, m = s.turn + 1 := ⟨_, rfl⟩
  have hm' : (s.turn : Int) + 1 = (m : Int) := by omega
  have hmm : m ≤ 1099511627776 := by omega
  have HM : Hid (m = s.turn + 1) := hm
  rw [← hm] at H2
  rw [hm'] at hW1
  have HM1 : Hid ((s.turn : Int) + 1 = (m : Int)) := hm'
  clear h h0 h1 h2 hV hg hA hm hm' hW1
  go_enter Try.func71, Try.ntmps71
  go_wp2_with fail
  rw [← HW1.out]
  rw [HM1.out]
  clear c54 f54
  go_loopw [5] (fun i wr => ∃ k : Nat, i = .int .i64 k ∧ k ≤ n ∧ St w0 wr (fillE g m k n c ++ (B b (bkC { s with turn := m }) 107 :: (bkR s ++ (blkE s.Bs ++ R))))) (fun i _ => n - (intOf i).toNat)
  case atStart => exact ⟨0, rfl, Nat.zero_le _, H2.out⟩
  case round =>
    obtain ⟨k, rfl, hk, hs⟩ := hrel
    by_cases hlt : k < n
    · obtain ⟨x, rfl⟩ : ∃ x, g = some x := by
        cases g with
        | none => have := (HG.out rfl).1; omega
        | some x => exact ⟨x, rfl⟩
      obtain rfl : A = some ⟨x, 0, none⟩ := HA.out
      obtain ⟨⟨u, cu⟩, fu, hst⟩ := mark_store (x := x) (m := m) (k := k) (n := n) (c := c) hs hlt
      have CA := fun w => Lib.hid (at_calls m k w hmm (by omega))
      have HST := Lib.hid hst
      have j1 : (k : Int) < (n : Int) := by omega
      have j2 : (0 : Int) ≤ (k : Int) := by omega
      clear hs hst
      go_wp2_with fail
      refine (CA _).out.mono ?_; rintro e w1 ⟨rfl, rfl⟩
      go_wp2_with fail
      exact ⟨⟨k + 1, by go_num, by omega, HST.out⟩, by simp [intOf]; omega⟩
    · obtain rfl : k = n := by omega
      replace hs := fill_fb hs
      have HS := Lib.hid hs
      have hB := hs.re (M := B b (bkC { s with turn := m }) 107 :: (blkE (fb g m k c) ++ (bkR s ++ (blkE s.Bs ++ R)))) (fun x => by simp only [cnt_append, cnt_cons]; omega)
      have HB := Lib.hid hB
      have hu := HV.out.used
      by_cases htt : 16777216 < s.used + (1200 + 3 * k)
      · have CT := Lib.hid (tight_yes wr b { s with turn := m } (1200 + 3 * k) hB.hd hu (by omega) htt)
        have e1 : ((1200 + 3 * k : Nat) : Int) = 1200 + 3 * (k : Int) := by omega
        rw [e1] at CT
        clear hs hB hu htt e1 hlt
        go_wp2_with fail
        refine CT.out.mono ?_; rintro e w1 ⟨rfl, rfl⟩
        go_wp2_with fail
        refine bodyPost_ret (results_none rfl _ _ _) rfl ?_
        exact ⟨rfl, { s with turn := m }, by rw [HM.out]; exact bkv_turn HV.out, HM.out, HB.out.re (fun x => by simp only [bkE, bkR, cnt_append, cnt_cons]; omega)⟩
      · have CT := Lib.hid (tight_no w0 wr _ b { s with turn := m } (1200 + 3 * k) hB (by simp only; omega))
        have e1 : ((1200 + 3 * k : Nat) : Int) = 1200 + 3 * (k : Int) := by omega
        rw [e1] at CT
        have HTT := Lib.hid htt
        clear hs hB hu htt e1 hlt
        go_wp2_with fail
        refine CT.out.mono ?_; rintro e w1 ⟨rfl, hs1⟩
        obtain ⟨A0, c0, e0⟩ := rowV_form HV.out.v
        obtain ⟨A1, c1, e1⟩ := rowV_form HV.out.vo
        have hlen := HV.out.num
        have x0 : w1.cell? ⟨b, 0, none⟩ = some s.v := blk_cell hs1.hd 0
        have h2 := hs1.newB #[.slice A k c] 62
        obtain ⟨v2, W3, hr2, hs3, hv3⟩ := row_append (P := Try.prog) (h2.re (M := rowE s.v 62 1 s.kept.length (s.kept.map BL.val) ++ (B b (bkC { s with turn := m, used := s.used + (1200 + 3 * k) }) 107 :: (blkE (fb g m k c) ++ (rowE s.vo 3 1 s.kept.length (marksOf s.kept) ++ (blkE s.Bs ++ R))))) (fun x => by simp only [bkR, cnt_append, cnt_cons]; omega)) HV.out.v 88 88 (.slice none 0 0) 24 Try.underlying88 infoL rfl (by have := HV.out.used; omega) (by have := HV.out.used; omega) ⟨w1.heap.size, 0, none⟩ 1 (.slice A k c) (blk_cell h2.hd 0) rfl
        obtain ⟨A2, c2, rfl⟩ := rowV_form hv3
        have y0 : W3.cell? ⟨b, 0, none⟩ = some s.v := hs3.cellOf (g := b) (cs := bkC { s with turn := m, used := s.used + (1200 + 3 * k) }) (t := 107) (by simp) 0 rfl
        have g0 := hs3.freeOf (g := b) (cs := bkC { s with turn := m, used := s.used + (1200 + 3 * k) }) (t := 107) (by simp) 0
        have hs4 := (hs3.re (M := B b (bkC { s with turn := m, used := s.used + (1200 + 3 * k) }) 107 :: (rowE s.vo 3 1 s.kept.length (marksOf s.kept) ++ (rowE (.slice A2 (s.kept.length + 1) c2) 62 1 (s.kept.length + 1) (s.kept.map BL.val ++ [.slice A k c]) ++ (blkE (fb g m k c) ++ (blkE s.Bs ++ R))))) (fun x => by simp only [cnt_append, cnt_cons]; omega)).put (cs' := bkC { s with v := .slice A2 (s.kept.length + 1) c2, turn := m, used := s.used + (1200 + 3 * k) }) 0 (.slice A2 (s.kept.length + 1) c2) rfl
        have z1 : (W3.setCell ⟨b, 0, none⟩ (.slice A2 (s.kept.length + 1) c2)).cell? ⟨b, 1, none⟩ = some s.vo := blk_cell hs4.hd 1
        have h5 := hs4.newB #[.int .i64 (m : Int)] 3
        rw [show (W3.setCell ⟨b, 0, none⟩ (.slice A2 (s.kept.length + 1) c2)).heap.size = W3.heap.size by simp [World.setCell]] at h5
        obtain ⟨v6, W6, hr6, hs6, hv6⟩ := row_append (P := Try.prog) (h5.re (M := rowE s.vo 3 1 s.kept.length (marksOf s.kept) ++ (B b (bkC { s with v := .slice A2 (s.kept.length + 1) c2, turn := m, used := s.used + (1200 + 3 * k) }) 107 :: (rowE (.slice A2 (s.kept.length + 1) c2) 62 1 (s.kept.length + 1) (s.kept.map BL.val ++ [.slice A k c]) ++ (blkE (fb g m k c) ++ (blkE s.Bs ++ R))))) (fun x => by simp only [cnt_append, cnt_cons]; omega)) HV.out.vo 38 38 (.int .i64 0) 8 Try.underlying38 infoN rfl (by have := HV.out.used; omega) (by have := HV.out.used; omega) ⟨W3.heap.size, 0, none⟩ 1 (.int .i64 (m : Int)) (blk_cell h5.hd 0) rfl
        obtain ⟨A6, c6, rfl⟩ := rowV_form hv6
        have y1 : W6.cell? ⟨b, 1, none⟩ = some s.vo := hs6.cellOf (g := b) (cs := bkC { s with v := .slice A2 (s.kept.length + 1) c2, turn := m, used := s.used + (1200 + 3 * k) }) (t := 107) (by simp) 1 rfl
        have g1 := hs6.freeOf (g := b) (cs := bkC { s with v := .slice A2 (s.kept.length + 1) c2, turn := m, used := s.used + (1200 + 3 * k) }) (t := 107) (by simp) 1
        have hs7 := (hs6.re (M := B b (bkC { s with v := .slice A2 (s.kept.length + 1) c2, turn := m, used := s.used + (1200 + 3 * k) }) 107 :: (rowE (.slice A2 (s.kept.length + 1) c2) 62 1 (s.kept.length + 1) (s.kept.map BL.val ++ [.slice A k c]) ++ (rowE (.slice A6 (s.kept.length + 1) c6) 3 1 (s.kept.length + 1) (marksOf s.kept ++ [.int .i64 (m : Int)]) ++ (blkE (fb g m k c) ++ (blkE s.Bs ++ R))))) (fun x => by simp only [cnt_append, cnt_cons]; omega)).put (cs' := bkC { s with v := .slice A2 (s.kept.length + 1) c2, vo := .slice A6 (s.kept.length + 1) c6, turn := m, used := s.used + (1200 + 3 * k) }) 1 (.slice A6 (s.kept.length + 1) c6) rfl
        have HE0 := Lib.hid e0
        have HE1 := Lib.hid e1
        have HR2 := Lib.hid hr2
        have HR6 := Lib.hid hr6
        have HV3 := Lib.hid hv3
        have HV6 := Lib.hid hv6
        have H7 := Lib.hid hs7
        rw [e0] at HR2 x0 y0
        rw [e1] at HR6 z1 y1
        clear hlen h2 hs3 hs4 h5 hs6 hs7 hs1 hr2 hr6 hv3 hv6 e0 e1
        go_wp2_with (at_builtin; first | (refine wpList_append_run (o := ⟨some 42, _, _, _, _, _⟩) rfl (.tmp 39) (.tmp 41) 88 rfl (.slice A0 s.kept.length c0) (.slice (some ⟨w1.heap.size, 0, none⟩) 1 1) (.slice A2 (s.kept.length + 1) c2) W3 rfl rfl HR2.out ?_) | (refine wpList_append_run (o := ⟨some 52, _, _, _, _, _⟩) rfl (.tmp 49) (.tmp 51) 38 rfl (.slice A1 s.kept.length c1) (.slice (some ⟨W3.heap.size, 0, none⟩) 1 1) (.slice A6 (s.kept.length + 1) c6) W6 rfl rfl HR6.out ?_))
        go_end0
        refine ⟨rfl, { s with v := .slice A2 (s.kept.length + 1) c2, vo := .slice A6 (s.kept.length + 1) c6, kept := s.kept ++ [⟨g, k, c, m⟩], turn := m, used := s.used + (1200 + 3 * k), Bs := fb g m k c ++ s.Bs }, ?_, HM.out, H7.out.re (fun x => by simp only [bkE, bkR, bkC, marksOf, blkE, BL.val, HA.out, List.length_append, List.length_cons, List.length_nil, List.map_append, List.map_cons, List.map_nil, Nat.zero_add, cnt_append, cnt_cons]; omega)⟩
        have hn2 : (fb g m k c ++ s.Bs : List BB) = fb g m k c ++ s.Bs := rfl
        have hM : More s.Bs (fb g m k c ++ s.Bs) := fun l hl => by
          rcases hl with hl | ⟨y, hy, hl⟩
          · exact .inl hl
          · exact .inr ⟨y, List.mem_append_right _ hy, hl⟩
        have hg : Good (fb g m k c ++ s.Bs) ⟨g, k, c, m⟩ := by
          cases hgg : g with
          | none => exact .inl ⟨rfl, (HG.out hgg).1, (HG.out hgg).2⟩
          | some x => exact .inr ⟨⟨x, m, k, c⟩, by simp [fb], rfl, rfl, Nat.le_refl _, rfl⟩
        have hb := bkv_kept HV.out (.slice A2 (s.kept.length + 1) c2) (.slice A6 (s.kept.length + 1) c6) ⟨g, k, c, m⟩ (1200 + 3 * k) (by omega) (by have := HTT.out; omega) (by simpa using hn) HM.out (fb g m k c ++ s.Bs) hM hg (by rw [show (BL.val ⟨g, k, c, m⟩) = .slice A k c by rw [HA.out]; rfl]; exact HV3.out) HV6.out
        rw [← HM.out] at hb
        exact hb
end Go.Proofs.Ytfmggmpllggbnaa.Book
