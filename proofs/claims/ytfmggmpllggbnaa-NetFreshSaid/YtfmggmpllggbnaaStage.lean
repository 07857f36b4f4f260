/- Contracts of both nets over the blocks that are held. -/
import Derived.Test.YtfmggmpllggbnaaNetSt
namespace Go.Proofs.Ytfmggmpllggbnaa.RNet
open Go.RowKit Go.Proofs.YtfmggmpllggbnaaW.PrintWords Go.Proofs.Ytfmggmpllggbnaa.Net Go.Proofs.Ytfmggmpllggbnaa.Mem
set_option linter.unusedVariables false
set_option linter.unusedSimpArgs false
abbrev pt (g : Nat) : Value := .pointer (some ⟨g, 0, none⟩)
abbrev nilp : Value := .pointer none
/-- What was told out of a string: a block of its own. -/
def toldP (s : ByteArray) (c : Nat) (o : Obj) : Prop := ∃ m, o = .cells (bytesRow s c) 5 ((bytesRow s c).size, m)
section
variable {w0 W : World} {R : List Ent} {g : Nat} {v : Value} {room : Int} {lost : Nat} {ms : List (Int × ByteArray)}
theorem nsendR (t : Int) (A : Option Addr) (n c : Nat) (xs : List Int) (hr : ReadsInt W .u8 A n xs) (h : St w0 W (netE g v room lost ms ++ R)) (hV : netV v ms) (hro : (ms.length : Int) < room) (hm : room ≤ 8192) :
    Calls Try.prog 25 #[pt g, .int .i64 t, .slice A n c] W fun e w' => e = .returned (.bool true) ∧ ∃ v', netV v' (ms ++ [(t, strOfNums xs)]) ∧ St w0 w' (netE g v' room lost (ms ++ [(t, strOfNums xs)]) ++ R) :=
  (send_room t A n c xs W hr w0.heap.size g v room lost ms (St.nt h hV) h.bl.size hro (by omega)).mono fun e w' ⟨he, v', hp⟩ => ⟨he, v', (St.nput h hV hp).2, (St.nput h hV hp).1⟩
theorem nsendF (t : Int) (A : Option Addr) (n c : Nat) (xs : List Int) (hr : ReadsInt W .u8 A n xs) (h : St w0 W (netE g v room lost ms ++ R)) (hV : netV v ms) (hro : room ≤ (ms.length : Int)) (hl : lost < 18446744073709551615) :
    Calls Try.prog 25 #[pt g, .int .i64 t, .slice A n c] W fun e w' => e = .returned (.bool false) ∧ St w0 w' (netE g v room (lost + 1) ms ++ R) :=
  (send_full t A n c xs W hr w0.heap.size g v room lost ms (St.nt h hV) h.bl.size hro hl).mono fun e w' ⟨he, hp⟩ => ⟨he, (St.nput h hV hp).1⟩
theorem nlook0 (i : Int) (h : St w0 W (netE g v room lost ms ++ R)) (hV : netV v ms) (hi : i < 0 ∨ (ms.length : Int) ≤ i) :
    Calls Try.prog 44 #[pt g, .int .i64 i] W fun e w' => e = .returned (.tuple #[.agg #[.int .i64 0, .slice none 0 0], .bool false]) ∧ St w0 w' (netE g v room lost ms ++ R) :=
  (look_none i W w0.heap.size g v room lost ms (St.nt h hV) hi).mono fun e w' ⟨he, hb⟩ => ⟨he, h.below hb⟩
theorem nlook1 (i : Nat) (n : Int) (s : ByteArray) (h : St w0 W (netE g v room lost ms ++ R)) (hV : netV v ms) (hi : i < ms.length) (hms : ms[i] = (n, s)) :
    Calls Try.prog 44 #[pt g, .int .i64 i] W fun e w' => ∃ g2 c, e = .returned (.tuple #[.agg #[.int .i64 n, .slice (some ⟨g2, 0, none⟩) s.size c], .bool true]) ∧ St w0 w' ((g2, toldP s c) :: (netE g v room lost ms ++ R)) :=
  (look_calls i W w0.heap.size g v room lost ms (St.nt h hV) hi n s hms).mono fun e w' ⟨g2, c, he, ⟨m, hm⟩, hg, hb⟩ => ⟨g2, c, he, h.made hb hg hm ⟨m, rfl⟩⟩
theorem ntake0 (i : Int) (h : St w0 W (netE g v room lost ms ++ R)) (hV : netV v ms) (hi : i < 0 ∨ (ms.length : Int) ≤ i) :
    Calls Try.prog 28 #[pt g, .int .i64 i] W fun e w' => e = .returned (.tuple #[.agg #[.int .i64 0, .slice none 0 0], .bool false]) ∧ St w0 w' (netE g v room lost ms ++ R) :=
  (take_none i W w0.heap.size g v room lost ms (St.nt h hV) hi).mono fun e w' ⟨he, hb⟩ => ⟨he, h.below hb⟩
theorem ntake1 (i : Nat) (n : Int) (s : ByteArray) (h : St w0 W (netE g v room lost ms ++ R)) (hV : netV v ms) (hi : i < ms.length) (hl : ms.length ≤ 8192) (hms : ms[i] = (n, s)) :
    Calls Try.prog 28 #[pt g, .int .i64 i] W fun e w' => ∃ g2 c v', e = .returned (.tuple #[.agg #[.int .i64 n, .slice (some ⟨g2, 0, none⟩) s.size c], .bool true]) ∧ netV v' (ms.eraseIdx i) ∧ St w0 w' ((g2, toldP s c) :: (netE g v' room lost (ms.eraseIdx i) ++ R)) :=
  (take_calls i W w0.heap.size g v room lost ms (St.nt h hV) h.bl.size hi (by omega) n s hms).mono fun e w' ⟨g2, c, v', he, ⟨m, hm⟩, hg, hp⟩ => by
    obtain ⟨h1, h2⟩ := St.nput h hV hp
    refine ⟨g2, c, v', he, h2, h1.add (Nat.le_trans h.bl.size hg) (fun p hp' e => ?_) hm ⟨m, rfl⟩⟩
    rcases List.mem_append.1 hp' with hp' | hp'
    · rcases List.mem_cons.1 hp' with rfl | hp'
      · have h3 := hp.nt.blk
        rw [show g = g2 from e, hm] at h3
        simp at h3
      · obtain ⟨cs, hk⟩ := own_kind hp.nt.own _ (rowE_blk hp' h2)
        rw [e, hm] at hk
        simp at hk
    · have := h.lt (List.mem_append_right _ hp')
      omega
theorem ndrop0 (i : Int) (h : St w0 W (netE g v room lost ms ++ R)) (hV : netV v ms) (hi : i < 0 ∨ (ms.length : Int) ≤ i) :
    Calls Try.prog 27 #[pt g, .int .i64 i] W fun e w' => e = .returned (.bool false) ∧ St w0 w' (netE g v room lost ms ++ R) :=
  (drop_none i W w0.heap.size g v room lost ms (St.nt h hV) hi).mono fun e w' ⟨he, hb⟩ => ⟨he, hb ▸ h⟩
theorem ndrop1 (i : Nat) (h : St w0 W (netE g v room lost ms ++ R)) (hV : netV v ms) (hi : i < ms.length) (hl : ms.length ≤ 8192) :
    Calls Try.prog 27 #[pt g, .int .i64 i] W fun e w' => e = .returned (.bool true) ∧ ∃ v', netV v' (ms.eraseIdx i) ∧ St w0 w' (netE g v' room lost (ms.eraseIdx i) ++ R) :=
  (drop_calls i W w0.heap.size g v room lost ms (St.nt h hV) h.bl.size hi (by omega)).mono fun e w' ⟨he, v', hp⟩ => ⟨he, v', (St.nput h hV hp).2, (St.nput h hV hp).1⟩
theorem ndouble0 (i : Int) (h : St w0 W (netE g v room lost ms ++ R)) (hV : netV v ms) (hi : i < 0 ∨ (ms.length : Int) ≤ i) :
    Calls Try.prog 30 #[pt g, .int .i64 i] W fun e w' => e = .returned (.bool false) ∧ St w0 w' (netE g v room lost ms ++ R) :=
  (double_none i W w0.heap.size g v room lost ms (St.nt h hV) hi).mono fun e w' ⟨he, hb⟩ => ⟨he, hb ▸ h⟩
theorem ndoubleF (i : Nat) (h : St w0 W (netE g v room lost ms ++ R)) (hV : netV v ms) (hi : i < ms.length) (hr : room ≤ (ms.length : Int)) :
    Calls Try.prog 30 #[pt g, .int .i64 i] W fun e w' => e = .returned (.bool false) ∧ St w0 w' (netE g v room lost ms ++ R) :=
  (double_full i W w0.heap.size g v room lost ms (St.nt h hV) hi hr).mono fun e w' ⟨he, hb⟩ => ⟨he, h.below hb⟩
theorem ndoubleR (i : Nat) (h : St w0 W (netE g v room lost ms ++ R)) (hV : netV v ms) (hi : i < ms.length) (hr : (ms.length : Int) < room) (hm : room ≤ 8192) :
    Calls Try.prog 30 #[pt g, .int .i64 i] W fun e w' => e = .returned (.bool true) ∧ ∃ v', netV v' (ms ++ [ms[i]]) ∧ St w0 w' (netE g v' room lost (ms ++ [ms[i]]) ++ R) :=
  (double_room i W w0.heap.size g v room lost ms (St.nt h hV) h.bl.size hi hr (by omega)).mono fun e w' ⟨he, v', hp⟩ => ⟨he, v', (St.nput h hV hp).2, (St.nput h hV hp).1⟩
theorem nlen (h : St w0 W (netE g v room lost ms ++ R)) (hV : netV v ms) : Calls Try.prog 31 #[pt g] W fun e w' => e = .returned (.int .i64 (ms.length : Int)) ∧ w' = W := len_calls W w0.heap.size g v room lost ms (St.nt h hV)
theorem nlost (h : St w0 W (netE g v room lost ms ++ R)) (hV : netV v ms) : Calls Try.prog 32 #[pt g] W fun e w' => e = .returned (.int .u64 (lost : Int)) ∧ w' = W := lost_calls W w0.heap.size g v room lost ms (St.nt h hV)
end
section
variable {w0 W : World} {R : List Ent} {g : Nat} {v : Value} {room : Int} {gone : Nat} {rs : List RM}
theorem msendR (t : Int) (A : Option Addr) (c : Nat) (xs : List Int) (hx : ReadsOf U 0 W A xs.length xs) (hxl : xs.length ≤ 4096) (h : St w0 W (rnetE g v room gone rs ++ R)) (hV : rnetV v rs) (hro : (rs.length : Int) < room) (hm : room ≤ 8192) :
    Calls Try.prog 43 #[pt g, .int .i64 t, .slice A xs.length c] W fun e w' => e = .returned (.bool true) ∧ ∃ v' u, rnetV v' (rs ++ [(t, u, xs)]) ∧ St w0 w' (rnetE g v' room gone (rs ++ [(t, u, xs)]) ++ R) :=
  (rsend_room t xs A c W w0.heap.size g v room gone rs (St.rn h hV) h.bl.size hro (by omega) hx (by omega)).mono fun e w' ⟨he, v', u, hp, hu⟩ => ⟨he, v', u, (St.rput h hV hp (.inr ⟨_, rfl, hu⟩)).2, (St.rput h hV hp (.inr ⟨_, rfl, hu⟩)).1⟩
theorem msendF (t : Int) (B : Value) (h : St w0 W (rnetE g v room gone rs ++ R)) (hV : rnetV v rs) (hro : room ≤ (rs.length : Int)) (hl : gone < 18446744073709551615) :
    Calls Try.prog 43 #[pt g, .int .i64 t, B] W fun e w' => e = .returned (.bool false) ∧ St w0 w' (rnetE g v room (gone + 1) rs ++ R) :=
  (rsend_full t B W w0.heap.size g v room gone rs (St.rn h hV) h.bl.size hro hl).mono fun e w' ⟨he, hp⟩ => ⟨he, (St.rput h hV hp (.inl (List.Sublist.refl _))).1⟩
theorem mlook0 (i : Int) (h : St w0 W (rnetE g v room gone rs ++ R)) (hV : rnetV v rs) (hi : i < 0 ∨ (rs.length : Int) ≤ i) :
    Calls Try.prog 46 #[pt g, .int .i64 i] W fun e w' => e = .returned (.tuple #[.agg #[.int .i64 0, .slice none 0 0], .bool false]) ∧ St w0 w' (rnetE g v room gone rs ++ R) :=
  (rlook_none i W w0.heap.size g v room gone rs (St.rn h hV) hi).mono fun e w' ⟨he, hb⟩ => ⟨he, h.below hb⟩
theorem mlook1 (i : Nat) (n : Int) (q : Value) (xs : List Int) (h : St w0 W (rnetE g v room gone rs ++ R)) (hV : rnetV v rs) (hi : i < rs.length) (hms : rs[i] = (n, q, xs)) (hxl : xs.length ≤ 4096) :
    Calls Try.prog 46 #[pt g, .int .i64 i] W fun e w' => ∃ A c, e = .returned (.tuple #[.agg #[.int .i64 n, .slice A xs.length c], .bool true]) ∧ rowV (.slice A xs.length c) 1 xs.length (encs U xs) ∧ St w0 w' (rowE (.slice A xs.length c) 5 1 xs.length (encs U xs) ++ (rnetE g v room gone rs ++ R)) := by
  have hk := rlook_calls i W w0.heap.size g v room gone rs (St.rn h hV) hi (by rw [hms]; exact Nat.le_trans hxl (by omega))
  rw [hms] at hk
  exact hk.mono fun e w' ⟨A, c, he, ho, hb⟩ => ⟨A, c, he, (h.fresh hb ho).2, (h.fresh hb ho).1⟩
theorem mtake0 (i : Int) (h : St w0 W (rnetE g v room gone rs ++ R)) (hV : rnetV v rs) (hi : i < 0 ∨ (rs.length : Int) ≤ i) :
    Calls Try.prog 58 #[pt g, .int .i64 i] W fun e w' => e = .returned (.tuple #[.agg #[.int .i64 0, .slice none 0 0], .bool false]) ∧ St w0 w' (rnetE g v room gone rs ++ R) :=
  (rtake_none i W w0.heap.size g v room gone rs (St.rn h hV) hi).mono fun e w' ⟨he, hb⟩ => ⟨he, h.below hb⟩
theorem mtake1 (i : Nat) (n : Int) (q : Value) (xs : List Int) (h : St w0 W (rnetE g v room gone rs ++ R)) (hV : rnetV v rs) (hi : i < rs.length) (hl : rs.length ≤ 8192) (hms : rs[i] = (n, q, xs)) (hxl : xs.length ≤ 4096) :
    Calls Try.prog 58 #[pt g, .int .i64 i] W fun e w' => ∃ A c v', e = .returned (.tuple #[.agg #[.int .i64 n, .slice A xs.length c], .bool true]) ∧ rnetV v' (rs.eraseIdx i) ∧ ReadsOf U 0 w' A xs.length xs ∧ St w0 w' (rnetE g v' room gone (rs.eraseIdx i) ++ R) := by
  have hk := rtake_calls i W w0.heap.size g v room gone rs (St.rn h hV) h.bl.size hi (by omega) (by rw [hms]; exact Nat.le_trans hxl (by omega))
  rw [hms] at hk
  exact hk.mono fun e w' ⟨A, c, v', he, ho, hp⟩ => ⟨A, c, v', he, (St.rput h hV hp (.inl (List.eraseIdx_sublist ..))).2, Go.Proofs.Ytfmggmpllggbnaa.Bytes.own_reads (xs := xs) ho (by simp), (St.rput h hV hp (.inl (List.eraseIdx_sublist ..))).1⟩
theorem mdrop0 (i : Int) (h : St w0 W (rnetE g v room gone rs ++ R)) (hV : rnetV v rs) (hi : i < 0 ∨ (rs.length : Int) ≤ i) :
    Calls Try.prog 59 #[pt g, .int .i64 i] W fun e w' => e = .returned (.bool false) ∧ St w0 w' (rnetE g v room gone rs ++ R) :=
  (rdrop_none i W w0.heap.size g v room gone rs (St.rn h hV) hi).mono fun e w' ⟨he, hb⟩ => ⟨he, hb ▸ h⟩
theorem mdrop1 (i : Nat) (h : St w0 W (rnetE g v room gone rs ++ R)) (hV : rnetV v rs) (hi : i < rs.length) (hl : rs.length ≤ 8192) :
    Calls Try.prog 59 #[pt g, .int .i64 i] W fun e w' => e = .returned (.bool true) ∧ ∃ v', rnetV v' (rs.eraseIdx i) ∧ St w0 w' (rnetE g v' room gone (rs.eraseIdx i) ++ R) :=
  (rdrop_calls i W w0.heap.size g v room gone rs (St.rn h hV) h.bl.size hi (by omega)).mono fun e w' ⟨he, v', hp⟩ => ⟨he, v', (St.rput h hV hp (.inl (List.eraseIdx_sublist ..))).2, (St.rput h hV hp (.inl (List.eraseIdx_sublist ..))).1⟩
theorem mdouble0 (i : Int) (h : St w0 W (rnetE g v room gone rs ++ R)) (hV : rnetV v rs) (hi : i < 0 ∨ (rs.length : Int) ≤ i) :
    Calls Try.prog 60 #[pt g, .int .i64 i] W fun e w' => e = .returned (.bool false) ∧ St w0 w' (rnetE g v room gone rs ++ R) :=
  (rdouble_none i W w0.heap.size g v room gone rs (St.rn h hV) hi).mono fun e w' ⟨he, hb⟩ => ⟨he, h.below hb⟩
theorem mdoubleF (i : Nat) (h : St w0 W (rnetE g v room gone rs ++ R)) (hV : rnetV v rs) (hi : i < rs.length) (hr : room ≤ (rs.length : Int)) :
    Calls Try.prog 60 #[pt g, .int .i64 i] W fun e w' => e = .returned (.bool false) ∧ St w0 w' (rnetE g v room gone rs ++ R) :=
  (rdouble_full i W w0.heap.size g v room gone rs (St.rn h hV) hi hr).mono fun e w' ⟨he, hb⟩ => ⟨he, h.below hb⟩
theorem mdoubleR (i : Nat) (n : Int) (q : Value) (xs : List Int) (h : St w0 W (rnetE g v room gone rs ++ R)) (hV : rnetV v rs) (hi : i < rs.length) (hr : (rs.length : Int) < room) (hm : room ≤ 8192) (hms : rs[i] = (n, q, xs)) (hxl : xs.length ≤ 4096) :
    Calls Try.prog 60 #[pt g, .int .i64 i] W fun e w' => e = .returned (.bool true) ∧ ∃ v' u, rnetV v' (rs ++ [(n, u, xs)]) ∧ St w0 w' (rnetE g v' room gone (rs ++ [(n, u, xs)]) ++ R) := by
  have hk := rdouble_room i W w0.heap.size g v room gone rs (St.rn h hV) h.bl.size hi hr (by omega) (by rw [hms]; exact Nat.le_trans hxl (by omega))
  rw [hms] at hk
  exact hk.mono fun e w' ⟨he, v', u, hp, hu⟩ => ⟨he, v', u, (St.rput h hV hp (.inr ⟨_, rfl, hu⟩)).2, (St.rput h hV hp (.inr ⟨_, rfl, hu⟩)).1⟩
theorem mlen (h : St w0 W (rnetE g v room gone rs ++ R)) (hV : rnetV v rs) : Calls Try.prog 45 #[pt g] W fun e w' => e = .returned (.int .i64 (rs.length : Int)) ∧ w' = W := rlen_calls W w0.heap.size g v room gone rs (St.rn h hV)
theorem mlost (h : St w0 W (rnetE g v room gone rs ++ R)) (hV : rnetV v rs) : Calls Try.prog 62 #[pt g] W fun e w' => e = .returned (.int .u64 (gone : Int)) ∧ w' = W := rlost_calls W w0.heap.size g v room gone rs (St.rn h hV)
end
end Go.Proofs.Ytfmggmpllggbnaa.RNet
