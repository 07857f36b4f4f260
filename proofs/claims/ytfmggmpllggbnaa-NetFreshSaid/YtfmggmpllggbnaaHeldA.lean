/- held: what it holds of memory: answers held untouched, one list in which what is sent lies each time, other nets made meanwhile. -/
import Derived.Test.YtfmggmpllggbnaaPlace
import Derived.Test.YtfmggmpllggbnaaPlay2
namespace Go.Proofs.Ytfmggmpllggbnaa.RNet
open Go.RowKit Go.Proofs.YtfmggmpllggbnaaW.PrintWords Go.Proofs.Ytfmggmpllggbnaa.Net Go.Proofs.Ytfmggmpllggbnaa.Mem
open Go.Proofs.Ytfmggmpllggbnaa.Late (gotE gotP LI lateE LateV LateAdd add_calls)
open Go.Proofs.Ytfmggmpllggbnaa.Place (plcE PlcV bytes_first bytes_next)
open Go.Proofs.Ytfmggmpllggbnaa.Book (BkS BkV bkE bkC NL rowV_form row_append)
set_option linter.unusedVariables false
set_option linter.unusedSimpArgs false
theorem told_got {xs : List Int} {c : Nat} (hx : Byt xs) (o : Obj) (h : toldP (strOfNums xs) c o) : gotP xs c o := by
  obtain ⟨m, rfl⟩ := h
  have hsz : (bytesRow (strOfNums xs) c).size = xs.length + (c - xs.length) := by
    have := strOfNums_size xs
    unfold bytesRow
    simp only [Array.size_append, Array.size_map, Array.size_replicate]
    simp only [ByteArray.size] at this ⊢
    omega
  refine ⟨_, _, rfl, .inr rfl, by omega, by omega, fun j hj => ?_⟩
  have hs : j < (strOfNums xs).data.size := by have := strOfNums_size xs; simp only [ByteArray.size] at this; omega
  rw [bytesRow_at _ _ _ hs]
  have hb := hx (xs[j]) (List.getElem_mem hj)
  have e2 : (strOfNums xs).data[j] = UInt8.ofNat (xs[j]).toNat := by simp [strOfNums]
  have e3 : xs.getD j 0 = xs[j] := by simp [List.getD, List.getElem?_eq_getElem hj]
  rw [e2, e3]
  congr 2
  simp
  omega
/-- Both nets are looked into at a place: the same answer, in new memory. -/
theorem look_two {w0 : World} {s : Sd} (hV : SdV s) (j : Int) : ∃ (N : Int) (xs : List Int) (okb : Bool), xs.length ≤ 4096 ∧ Byt xs ∧
    (∀ (W : World) (R : List Ent), St w0 W (sdE s ++ R) → Calls Try.prog 44 #[pt s.g, .int .i64 j] W fun e w' => ∃ (g : Option Nat) (A : Option Addr) (c : Nat), e = .returned (.tuple #[.agg #[.int .i64 N, .slice A xs.length c], .bool okb]) ∧ A = (g.map fun g => ⟨g, 0, none⟩) ∧ (g = none → xs = [] ∧ c = 0) ∧ St w0 w' (gotE g xs c ++ (sdE s ++ R))) ∧
    (∀ (W : World) (R : List Ent), St w0 W (sdE s ++ R) → Calls Try.prog 46 #[pt s.h, .int .i64 j] W fun e w' => ∃ (A : Option Addr) (c : Nat), e = .returned (.tuple #[.agg #[.int .i64 N, .slice A xs.length c], .bool okb]) ∧ rowV (.slice A xs.length c) 1 xs.length (encs U xs) ∧ St w0 w' (rowE (.slice A xs.length c) 5 1 xs.length (encs U xs) ++ (sdE s ++ R))) := by
  by_cases hj : j < 0 ∨ (s.rs.length : Int) ≤ j
  · refine ⟨0, [], false, Nat.zero_le _, fun a h => (by cases h), fun W R h => ?_, fun W R h => ?_⟩
    · exact (nlook0 j (h.re (M := netE s.g s.v s.room s.lost (tell s.rs) ++ (rnetE s.h s.vr s.room s.lost s.rs ++ R)) (fun x => by simp only [sdE, cnt_append]; omega)) hV.nv (by rw [tell_length]; exact hj)).mono fun e w' ⟨he, hs⟩ =>
        ⟨none, none, 0, he, rfl, fun _ => ⟨rfl, rfl⟩, hs.re (fun x => by simp only [gotE, sdE, cnt_append, cnt_nil]; omega)⟩
    · exact (mlook0 j (h.re (M := rnetE s.h s.vr s.room s.lost s.rs ++ (netE s.g s.v s.room s.lost (tell s.rs) ++ R)) (fun x => by simp only [sdE, cnt_append]; omega)) hV.rv hj).mono fun e w' ⟨he, hs⟩ =>
        ⟨none, 0, he, rowV_nil 1, hs.re (fun x => by simp only [List.length_nil, rowE_nil, sdE, cnt_append, cnt_nil]; omega)⟩
  · obtain ⟨i, rfl⟩ : ∃ i : Nat, j = i := ⟨j.toNat, by omega⟩
    have hi : i < s.rs.length := by omega
    obtain ⟨q, hq⟩ : ∃ q, q = s.rs[i] := ⟨_, rfl⟩
    have hmem : q ∈ s.rs := by rw [hq]; exact List.getElem_mem hi
    have hby := hV.by_ q hmem
    refine ⟨q.1, q.2.2, true, hby.2, hby.1, fun W R h => ?_, fun W R h => ?_⟩
    · have hl := nlook1 i q.1 (strOfNums q.2.2) (h.re (M := netE s.g s.v s.room s.lost (tell s.rs) ++ (rnetE s.h s.vr s.room s.lost s.rs ++ R)) (fun x => by simp only [sdE, cnt_append]; omega)) hV.nv (by rw [tell_length]; exact hi) (by rw [tell_get _ _ hi]; subst hq; rfl)
      rw [strOfNums_size] at hl
      exact hl.mono fun e w' ⟨g, c, he, hs⟩ => ⟨some g, _, c, he, rfl, fun e => (by cases e), (hs.weak (told_got hby.1)).re (fun x => by simp only [gotE, sdE, cnt_append, cnt_cons, cnt_nil]; omega)⟩
    · have hl := mlook1 i q.1 q.2.1 q.2.2 (h.re (M := rnetE s.h s.vr s.room s.lost s.rs ++ (netE s.g s.v s.room s.lost (tell s.rs) ++ R)) (fun x => by simp only [sdE, cnt_append]; omega)) hV.rv hi (by rw [← hq]) hby.2
      exact hl.mono fun e w' ⟨A, c, he, hv, hs⟩ => ⟨A, c, he, hv, hs.re (fun x => by simp only [sdE, cnt_append]; omega)⟩
/-- What the Place holds: nothing yet, or one list. -/
abbrev PS := Value × Value × Value × List Int
def plcO (p : Nat) : Option PS → List Ent
  | none => [B p #[NL, NL] 122]
  | some a => plcE p a.1 a.2.1 a.2.2.1 a.2.2.2
def PlcOV : Option PS → Prop
  | none => True
  | some a => PlcV a.1 a.2.1 a.2.2.1 a.2.2.2
theorem plc_bytes (w0 W : World) (R : List Ent) (p : Nat) (o : Option PS) (A : Option Addr) (c : Nat) (xs : List Int) (h : St w0 W (plcO p o ++ R)) (hV : PlcOV o) (hr : ReadsOf U 0 w0 A xs.length xs) (hx : xs.length ≤ 4096) :
    Calls Try.prog 41 #[pt p, .slice A xs.length c] W fun e w' => ∃ vo vi Ax cx, e = .returned (.slice Ax xs.length cx) ∧ PlcOV (some (vo, vi, .slice Ax xs.length cx, xs)) ∧ St w0 w' (plcO p (some (vo, vi, .slice Ax xs.length cx, xs)) ++ R) := by
  have fin : ∀ {e : Ending} {w' : World}, (∃ vo vi x, e = .returned x ∧ PlcV vo vi x xs ∧ St w0 w' (plcE p vo vi x xs ++ R)) → ∃ vo vi Ax cx, e = .returned (.slice Ax xs.length cx) ∧ PlcOV (some (vo, vi, .slice Ax xs.length cx, xs)) ∧ St w0 w' (plcO p (some (vo, vi, .slice Ax xs.length cx, xs)) ++ R) := by
    rintro e w' ⟨vo, vi, x, he, hv, hs⟩
    obtain ⟨Ax, cx, rfl⟩ := rowV_form hv.x
    exact ⟨vo, vi, Ax, cx, he, hv, hs⟩
  cases o with
  | none => exact (bytes_first w0 W R p A c xs h hr hx).mono fun e w' q => fin q
  | some a => exact (bytes_next w0 W R p a.1 a.2.1 a.2.2.1 a.2.2.2 A c xs h hV hr hx).mono fun e w' q => fin q
theorem plc_reads {w0 W : World} {L : List Ent} {p : Nat} {vo vi : Value} {Ax : Option Addr} {cx : Nat} {xs : List Int} (h : St w0 W L) (hc : ∀ a, cnt a (plcO p (some (vo, vi, .slice Ax xs.length cx, xs))) ≤ cnt a L) (hV : PlcOV (some (vo, vi, .slice Ax xs.length cx, xs))) : ReadsOf U 0 W Ax xs.length xs := by
  have hx := h.own_in (e := 5) (fun a => by have := hc a; simp only [plcO, plcE, cnt_append, cnt_cons] at this ⊢; omega) hV.x
  exact Go.Proofs.Ytfmggmpllggbnaa.Bytes.own_reads (xs := xs) hx (by simp)
/-- The other nets: where each lies, its row, its number; each has one message of its own. -/
abbrev ON := Nat × Value × Nat
def two (n : Nat) : List Int := [(n : Int), 111]
def othN (o : ON) : List Ent := netE o.1 o.2.1 1 0 [((o.2.2 : Int), strOfNums (two o.2.2))]
def othE (v : Value) (l : List ON) : List Ent := rowE v 54 1 l.length (l.map fun o => pt o.1) ++ l.flatMap othN
structure OthV (v : Value) (l : List ON) : Prop where
  row : rowV v 1 l.length (l.map fun o => pt o.1)
  by_ : ∀ o, o ∈ l → netV o.2.1 [((o.2.2 : Int), strOfNums (two o.2.2))]
  at_ : ∀ j (h : j < l.length), (l[j]).2.2 = j
theorem othV_nil : OthV NL [] := ⟨rowV_nil 1, fun o h => (by cases h), fun j h => (by cases h)⟩
theorem infoP : (Try.prog.info? 54).map (fun i => (i.zero, i.size, i.bytes)) = some (some (.pointer none), 1, 8) := by kernel_rfl
/-- One more of them. -/
theorem oth_add {w0 W : World} {R : List Ent} {v v2 : Value} {l : List ON} (g : Nat) (hV : OthV v l) (hs : St w0 W (netE g v2 1 0 [((l.length : Int), strOfNums (two l.length))] ++ (othE v l ++ R))) (hv2 : netV v2 [((l.length : Int), strOfNums (two l.length))]) (hl : l.length ≤ 1000) :
    ∃ (gl : Nat) (v' : Value) (W' : World), gl = W.heap.size ∧ (Builtin.append_ #[123, 123] 123 #[v, .slice (some ⟨gl, 0, none⟩) 1 1]).run Try.prog (W.alloc (.cells #[pt g] 54)) = .ok v' W' ∧ OthV v' (l ++ [(g, v2, l.length)]) ∧ St w0 W' (othE v' (l ++ [(g, v2, l.length)]) ++ R) := by
  have h2 := hs.newB #[pt g] 54
  obtain ⟨v', W', hr, h3, hv'⟩ := row_append (P := Try.prog) (h2.re (M := rowE v 54 1 l.length (l.map fun o => pt o.1) ++ (netE g v2 1 0 [((l.length : Int), strOfNums (two l.length))] ++ (l.flatMap othN ++ R))) (fun x => by simp only [othE, cnt_append, cnt_cons]; omega)) hV.row 123 123 (.pointer none) 8 Try.underlying123 infoP rfl (by omega) (by omega) ⟨W.heap.size, 0, none⟩ 1 (pt g) (blk_cell h2.hd 0) rfl
  refine ⟨_, v', W', rfl, hr, ⟨by simpa using hv', fun o ho => ?_, fun j hj => ?_⟩, h3.re (fun x => by simp only [othE, othN, List.length_append, List.length_cons, List.length_nil, Nat.zero_add, List.map_append, List.map_cons, List.map_nil, List.flatMap_append, List.flatMap_cons, List.flatMap_nil, cnt_append, cnt_cons, cnt_nil]; omega)⟩
  · rcases List.mem_append.1 ho with ho | ho
    · exact hV.by_ o ho
    · obtain rfl := List.mem_singleton.1 ho; exact hv2
  · by_cases h : j < l.length
    · rw [List.getElem_append_left h]; exact hV.at_ j h
    · rw [List.getElem_append_right (by omega)]; simp at hj ⊢; omega
end Go.Proofs.Ytfmggmpllggbnaa.RNet
