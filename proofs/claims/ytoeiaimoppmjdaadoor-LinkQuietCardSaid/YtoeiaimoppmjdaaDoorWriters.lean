/- Writers in memory: what one holds, what a call leaves; contracts of the small functions. -/
import Derived.Test.YtoeiaimoppmjdaaDoorVarPlain
import Derived.Test.YtoeiaimoppmjdaaDoorLen64
import Derived.Lib.ItoaNum
import Derived.Deep.AppendLies
import Derived.Deep.RegionLaw
import Derived.BigRegion
namespace Go.Proofs.YtoeiaimoppmjdaaDoor.Wr
open Go.RowKit Go.Proofs.YtoeiaimoppmjdaaDoorW.PrintWords Go.Proofs.YtoeiaimoppmjdaaDoor.Bytes
set_option linter.unusedVariables false
set_option linter.unusedSimpArgs false
theorem own_kind {w : World} {b s n : Nat} {e : TypeId} {v : Value} {xs : List Value} (h : w.ownsRow b e s v n xs) (g : Nat) (hg : v.ownBlock = some g) : ∃ cs, w.heap[g]? = some (.cells cs e (0, 0)) := by
  rcases h.2 with ⟨rfl, _⟩ | ⟨g', cap, cur, rfl, _, hh, _⟩
  · simp [Value.ownBlock] at hg
  · have : g' = g := by simpa [Value.ownBlock] using hg
    exact ⟨_, this ▸ hh⟩
/-- Writer g holds xs, in the row v. -/
structure Wtr (W : World) (base g : Nat) (v : Value) (xs : List Int) : Prop where
  blk : W.heap[g]? = some (.cells #[v] 112 (0, 0))
  le : base ≤ g
  own : W.ownsRow base 5 1 v xs.length (encs I xs)
theorem Wtr.ne {W : World} {base g : Nat} {v : Value} {xs : List Int} (h : Wtr W base g v xs) : some g ≠ v.ownBlock := by
  intro e
  obtain ⟨cs, hk⟩ := own_kind h.own g e.symm
  have := h.blk
  rw [this] at hk
  simp at hk
/-- What a writing call leaves. -/
structure Put (W W' : World) (base g : Nat) (v v' : Value) (xs' : List Int) : Prop where
  wt : Wtr W' base g v' xs'
  bl : Below base W W'
  kb : KeepBut W W' g v.ownBlock
  hat : v'.ownBlock = v.ownBlock ∨ ∃ b, v'.ownBlock = some b ∧ W.heap.size ≤ b
theorem Put.refl {W : World} {base g : Nat} {v : Value} {xs : List Int} (h : Wtr W base g v xs) : Put W W base g v v xs := ⟨h, Below.refl _ _, KeepBut.refl _ _ _, .inl rfl⟩
theorem Put.trans {W W1 W2 : World} {base g : Nat} {v v1 v2 : Value} {xs1 xs2 : List Int} (h : Put W W1 base g v v1 xs1) (k : Put W1 W2 base g v1 v2 xs2) : Put W W2 base g v v2 xs2 := by
  refine ⟨k.wt, h.bl.trans k.bl, h.kb.trans k.kb h.hat, ?_⟩
  rcases k.hat with e | ⟨b, e, hb⟩
  · rw [e]; exact h.hat
  · exact .inr ⟨b, e, Nat.le_trans h.kb.1 hb⟩
theorem grown_set (W : World) (g j : Nat) (u : Value) : W.grownBy (W.setCell ⟨g, j, none⟩ u) (some g) :=
  ⟨rfl, rfl, rfl, by simp [World.setCell], fun k _ hne => Below.heap_setCell W ⟨g, j, none⟩ u k (fun e => hne (by rw [e]))⟩
theorem put_one {W w1 : World} {base g : Nat} {v v1 : Value} {xs ys : List Int} (h : Wtr W base g v xs) (hb : base ≤ W.heap.size) (ho : w1.ownsRow base 5 1 v1 (xs ++ ys).length (encs I (xs ++ ys))) (hg : W.grownBy w1 v.ownBlock)
    (hat : v1.ownBlock = v.ownBlock ∨ ∃ b, v1.ownBlock = some b ∧ W.heap.size ≤ b) : Put W (w1.setCell ⟨g, 0, none⟩ v1) base g v v1 (xs ++ ys) := by
  have hblk := blk_grown h.blk hg h.ne
  have hne : v1.ownBlock ≠ some g := by
    intro e
    obtain ⟨cs, hk⟩ := own_kind ho g e
    rw [hblk] at hk
    simp at hk
  refine ⟨⟨blk_put hblk 0 v1 rfl, h.le, own_other ho (grown_set w1 g 0 v1) (.inr hne)⟩, ?_, (KeepBut.of_grown hg g).set_ 0 v1, hat⟩
  exact ((Below.refl base W).grown hg hb (own_base h.own)).grown (grown_set w1 g 0 v1) (Nat.le_trans hb hg.size) (fun k hk => by injection hk with hk; rw [← hk]; exact h.le)
theorem slice_form {w : World} {base size n : Nat} {e : TypeId} {v : Value} {xs : List Value} (h : w.ownsRow base e size v n xs) : ∃ A m c, v = .slice A m c := by
  rcases h.2 with ⟨rfl, _⟩ | ⟨g', cap, cur, rfl, _⟩
  · exact ⟨_, _, _, rfl⟩
  · exact ⟨_, _, _, rfl⟩
theorem new_calls (w : World) (base : Nat) (hb : base ≤ w.heap.size) : Calls Tryd.prog 29 #[] w fun e w' => e = .returned (.pointer (some ⟨w.heap.size, 0, none⟩)) ∧ Wtr w' base w.heap.size (.slice none 0 0) [] ∧ Below w.heap.size w w' := by
  go_enter Tryd.func29, Tryd.ntmps29
  go_wp2_with fail
  go_ret
  refine ⟨rfl, ⟨by simpa using heap_alloc_new w _, hb, own_nil _ _ _ _⟩, (Below.refl _ _).alloc (Nat.le_refl _) _⟩
/-- A row of bytes made and copied: Out. -/
theorem info5' : (Tryd.prog.info? 5).map (·.size) = some 1 := by kernel_rfl
set_option maxRecDepth 20000 in
set_option maxHeartbeats 1600000 in
theorem taken_calls (xs : List Int) (A : Option Addr) (c : Nat) (w : World) (base : Nat) (hbase : base ≤ w.heap.size) (hr : ReadsOf I 0 w A xs.length xs) (hm : xs.length ≤ 140737488355328) :
    Calls Tryd.prog 64 #[.slice A xs.length c] w fun e w' => ∃ v, e = .returned v ∧ w'.ownsRow base 5 1 v xs.length (encs I xs) ∧ Below base w w' := by
  have HR := Lib.hid hr
  have HBS := Lib.hid hbase
  have hmk := print_make_of (P := Tryd.prog) 22 5 (.int .u8 0) 1 Tryd.underlying22 info5 rfl (by omega) xs.length (by omega)
  have HO := Lib.hid (own_made_of' (enc := I) (d := (0 : Int)) w base 5 xs.length hbase (by omega))
  clear hr hbase
  go_enter Tryd.func64, Tryd.ntmps64
  go_wp2_with (refine Kd.R_copy (enc := I) (h1 := fun _ => rfl) (0 : Int) (w0 := w) base rfl (.tmp 7) (.tmp 8) 22 22 5 rfl Tryd.underlying22 info5' (.slice (some ⟨w.heap.size, 0, none⟩) xs.length xs.length) (List.replicate xs.length 0) xs A xs.length c (fun _ => True) rfl rfl ?h1 ?h2 ?h3 ?h4 ?_; (case h1 => exact Kd.R_of_own HO.out (fun _ _ => trivial)); (case h2 => exact Kd.C_of_reads (reads_keep HR.out ((Below.refl _ _).alloc (Nat.le_refl _) _))); (case h3 => exact (Below.refl _ _).alloc HBS.out _); (case h4 => have := HBS.out; simp; omega); intro w1 ho1 hb1 hg1; have HO1 := Lib.hid (Kd.own_of_R ho1); have HB1 := Lib.hid hb1; clear ho1 hb1 hg1)
  go_wp2_with fail
  go_ret
  exact ⟨_, rfl, by simpa using HO1.out, HB1.out⟩
theorem len_calls (W : World) (base g : Nat) (v : Value) (xs : List Int) (h : Wtr W base g v xs) : Calls Tryd.prog 41 #[.pointer (some ⟨g, 0, none⟩)] W fun e w' => e = .returned (.int .i64 (xs.length : Int)) ∧ w' = W := by
  obtain ⟨A, c, rfl, hr⟩ := own_reads_of (d := (0 : Int)) h.own
  have hc := blk_cell h.blk 0
  simp at hc
  clear hr h
  go_enter Tryd.func41, Tryd.ntmps41
  go_wp2_with fail
  go_ret
  exact ⟨rfl, rfl⟩
theorem out_calls (W : World) (base base' g : Nat) (v : Value) (xs : List Int) (h : Wtr W base g v xs) (hbase : base' ≤ W.heap.size) (hm : xs.length ≤ 140737488355328) :
    Calls Tryd.prog 36 #[.pointer (some ⟨g, 0, none⟩)] W fun e w' => ∃ v', e = .returned v' ∧ w'.ownsRow base' 5 1 v' xs.length (encs I xs) ∧ Below base' W w' := by
  obtain ⟨A, c, rfl, hr⟩ := own_reads_of (d := (0 : Int)) h.own
  have hc := blk_cell h.blk 0
  simp at hc
  have HC := Lib.hid (taken_calls xs A c W base' hbase hr hm)
  clear hr h
  go_enter Tryd.func36, Tryd.ntmps36
  go_wp2_with fail
  refine HC.out.mono ?_; rintro e w1 ⟨v1, rfl, ho1, hb1⟩
  have HO1 := Lib.hid ho1
  have HB1 := Lib.hid hb1
  clear ho1 hb1
  go_wp2_with fail
  go_ret
  exact ⟨_, rfl, HO1.out, HB1.out⟩
set_option maxRecDepth 20000 in
theorem raw_calls (W : World) (base g : Nat) (v : Value) (xs ys : List Int) (A : Option Addr) (c : Nat) (h : Wtr W base g v xs) (hbase : base ≤ W.heap.size) (hr : ReadsOf I 0 W A ys.length ys) (hm : xs.length + ys.length ≤ 140737488355328) :
    Calls Tryd.prog 33 #[.pointer (some ⟨g, 0, none⟩), .slice A ys.length c] W fun e w' => e = .returned (.tuple #[]) ∧ ∃ v', Put W w' base g v v' (xs ++ ys) := by
  have H := Lib.hid h
  have HR := Lib.hid hr
  have HBS := Lib.hid hbase
  have HM := Lib.hid hm
  have hc := blk_cell h.blk 0
  simp at hc
  clear h hr hbase hm
  go_enter Tryd.func33, Tryd.ntmps33
  go_wp2_with (at_builtin; refine print_append_row_of I 0 (w0 := W) base rfl (.tmp 8) (.tmp 9) 22 5 (.int .u8 0) 1 rfl Tryd.underlying22 info5 rfl (by omega) (fun _ => rfl) v xs ys A ys.length c rfl rfl ?h1 ?h2 ?h3 ?h4 ?h5 ?_; (case h1 => exact H.out.own); (case h2 => exact HR.out); (case h3 => exact Below.refl _ _); (case h4 => exact HBS.out); (case h5 => have := HM.out; simp; omega); intro v1 w1 ho1 hb1 hg1 hat1; obtain ⟨A1, m1, c1, rfl⟩ := slice_form ho1; have HP := Lib.hid (put_one H.out HBS.out ho1 hg1 hat1); have hblk := blk_grown H.out.blk hg1 H.out.ne; have f0 := blk_frozen hblk 0; have c0 := blk_cell hblk 0; simp at c0; clear ho1 hb1 hg1 hat1 hblk)
  go_wp2_with fail
  go_end0
  exact ⟨rfl, _, HP.out⟩
end Go.Proofs.YtoeiaimoppmjdaaDoor.Wr
