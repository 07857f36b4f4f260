/- The document's net in memory; contracts of New, Len, Lost, Send where it is full; Copy. -/
import Derived.Test.YtfmggmpllggbnaaNetEq
namespace Go.Proofs.Ytfmggmpllggbnaa.RNet
open Go.RowKit Go.Proofs.YtfmggmpllggbnaaW.PrintWords Go.Proofs.Ytfmggmpllggbnaa.Net
set_option linter.unusedVariables false
set_option linter.unusedSimpArgs false
/-- A message of it: whom to, the list's value, the list. -/
abbrev RM := Int × Value × List Int
def rmc (m : RM) : List Value := [.int .i64 m.1, m.2.1]
def rCells (ms : List RM) : List Value := ms.flatMap rmc
theorem rCells_length (ms : List RM) : (rCells ms).length = ms.length * 2 := by
  induction ms with
  | nil => rfl
  | cons m ms ih =>
    show (rmc m ++ rCells ms).length = _
    simp [ih, rmc]; omega
theorem rCells_append (ms ns : List RM) : rCells (ms ++ ns) = rCells ms ++ rCells ns := by simp [rCells]
theorem rCells_get (ms : List RM) (k j : Nat) (hk : k < ms.length) (hj : j < 2) : (rCells ms)[k * 2 + j]? = (rmc (ms[k]'hk))[j]? := by
  induction ms generalizing k with
  | nil => simp at hk
  | cons o os ih =>
    have hl : (rmc o).length = 2 := rfl
    show (rmc o ++ rCells os)[k * 2 + j]? = _
    cases k with
    | zero => rw [List.getElem?_append_left (by omega)]; simp
    | succ k =>
      rw [List.getElem?_append_right (by omega), show (k + 1) * 2 + j - (rmc o).length = k * 2 + j by omega]
      exact ih k (by simpa using hk)
structure Rn (W : World) (base g : Nat) (v : Value) (room : Int) (gone : Nat) (rs : List RM) : Prop where
  blk : W.heap[g]? = some (.cells #[v, .int .i64 room, .int .u64 gone] 143 (0, 0))
  le : base ≤ g
  own : W.ownsRow base 71 2 v rs.length (rCells rs)
  by_ : ∀ r, r ∈ rs → W.ownsRow base 5 1 r.2.1 r.2.2.length (encs U r.2.2)
theorem rn_below {W W1 : World} {base g : Nat} {v : Value} {room : Int} {gone : Nat} {rs : List RM} (h : Rn W base g v room gone rs) (hb : Below W.heap.size W W1) : Rn W1 base g v room gone rs :=
  ⟨blk_below h.blk hb, h.le, pw_own_below h.own hb, fun r hr => pw_own_below (h.by_ r hr) hb⟩
theorem Rn.ne {W : World} {base g : Nat} {v : Value} {room : Int} {gone : Nat} {rs : List RM} (h : Rn W base g v room gone rs) : some g ≠ v.ownBlock := by
  intro e
  obtain ⟨cs, hk⟩ := own_kind h.own g e.symm
  rw [h.blk] at hk
  simp at hk
/-- What a call of it leaves. -/
structure RPut (W W' : World) (base g : Nat) (v v' : Value) (room : Int) (gone : Nat) (rs : List RM) : Prop where
  rn : Rn W' base g v' room gone rs
  bl : Below base W W'
  kb : KeepBut W W' g v.ownBlock
  hat : v'.ownBlock = none ∨ v'.ownBlock = v.ownBlock ∨ ∃ b, v'.ownBlock = some b ∧ W.heap.size ≤ b
theorem RPut.refl {W : World} {base g : Nat} {v : Value} {room : Int} {gone : Nat} {rs : List RM} (h : Rn W base g v room gone rs) : RPut W W base g v v room gone rs := ⟨h, Below.refl _ _, KeepBut.refl _ _ _, .inr (.inl rfl)⟩
theorem RPut.trans {W W1 W2 : World} {base g : Nat} {v v1 v2 : Value} {r1 r2 : Int} {l1 l2 : Nat} {ms1 ms2 : List RM} (h : RPut W W1 base g v v1 r1 l1 ms1) (k : RPut W1 W2 base g v1 v2 r2 l2 ms2) : RPut W W2 base g v v2 r2 l2 ms2 := by
  refine ⟨k.rn, h.bl.trans k.bl, ?_, ?_⟩
  · rcases h.hat with e | e | e
    · have hk : KeepBut W1 W2 g v.ownBlock := ⟨k.kb.1, fun i hi h1 _ => k.kb.2 i hi h1 (by rw [e]; simp)⟩
      exact h.kb.trans hk (.inl rfl)
    · exact h.kb.trans k.kb (.inl e)
    · exact h.kb.trans k.kb (.inr e)
  · rcases k.hat with e | e | ⟨b, e, hb⟩
    · exact .inl e
    · rw [e]; exact h.hat
    · exact .inr (.inr ⟨b, e, Nat.le_trans h.kb.1 hb⟩)
theorem RPut.below {W W1 W2 : World} {base g : Nat} {v v1 : Value} {room : Int} {gone : Nat} {rs : List RM} (h : RPut W W1 base g v v1 room gone rs) (hb0 : base ≤ W.heap.size) (hb : Below W1.heap.size W1 W2) : RPut W W2 base g v v1 room gone rs :=
  ⟨rn_below h.rn hb, h.bl.trans (hb.mono (Nat.le_trans hb0 h.bl.size)), h.kb.trans (KeepBut.of_below hb g v.ownBlock) (.inl rfl), h.hat⟩
theorem own_ne_t {W : World} {base n e s : Nat} {v : Value} {xs : List Value} (h : W.ownsRow base e s v n xs) {q : Nat} {cs : Array Value} {t : TypeId} (hb : W.heap[q]? = some (.cells cs t (0, 0))) (ht : t ≠ e) : v.ownBlock ≠ some q := by
  intro e
  obtain ⟨cs', hk⟩ := own_kind h q e
  rw [hb] at hk
  injection hk with hk
  injection hk with _ hk _
  exact ht hk
theorem own_apart {w : World} {b1 e1 s1 n1 b2 e2 s2 n2 : Nat} {v1 v2 : Value} {xs1 xs2 : List Value} (h1 : w.ownsRow b1 e1 s1 v1 n1 xs1) (h2 : w.ownsRow b2 e2 s2 v2 n2 xs2) (hne : e2 ≠ e1) : v1.ownBlock = none ∨ v1.ownBlock ≠ v2.ownBlock := by
  cases hv : v2.ownBlock with
  | none => cases h : v1.ownBlock with
    | none => exact .inl rfl
    | some b => exact .inr (by simp)
  | some q =>
    obtain ⟨cs, hk⟩ := own_kind h2 q hv
    exact .inr (own_ne_t h1 hk hne)
theorem rn_set {W : World} {base g : Nat} {v : Value} {room : Int} {gone : Nat} {rs : List RM} (h : Rn W base g v room gone rs) (k : Nat) : RPut W (W.setCell ⟨g, 2, none⟩ (.int .u64 (k : Int))) base g v v room k rs :=
  ⟨⟨blk_put h.blk 2 _ rfl, h.le, own_other h.own (grown_set W g 2 _) (.inr (fun e => h.ne e.symm)), fun r hr => own_other (h.by_ r hr) (grown_set W g 2 _) (.inr (own_ne_t (h.by_ r hr) h.blk (by decide)))⟩, (Below.refl _ _).setCell h.le _, (KeepBut.refl _ _ _).set_ 2 _, .inr (.inl rfl)⟩
theorem rput_lies {W w1 w2 : World} {base g g2 cap2 n : Nat} {v : Value} {room : Int} {gone : Nat} {rs : List RM} {m : RM} (h : Rn W base g v room gone rs) (hb : base ≤ W.heap.size) (hn : n = rs.length + 1)
    (ho : w2.ownsRow base 71 2 (.slice (some ⟨g2, 0, none⟩) n cap2) n (rCells rs ++ rmc m)) (hm : w1.ownsRow W.heap.size 5 1 m.2.1 m.2.2.length (encs U m.2.2)) (h1 : W.grownBy w1 v.ownBlock) (hg : w1.grownBy w2 v.ownBlock) (hat : v.ownBlock = some g2 ∨ g2 = w1.heap.size) :
    RPut W (w2.setCell ⟨g, 0, none⟩ (.slice (some ⟨g2, 0, none⟩) n cap2)) base g v (.slice (some ⟨g2, 0, none⟩) n cap2) room gone (rs ++ [m]) := by
  have hgg := World.grownBy.trans h1 hg
  have hblk := blk_grown h.blk hgg h.ne
  have hne : (Value.slice (some ⟨g2, 0, none⟩) n cap2).ownBlock ≠ some g := own_ne_t ho hblk (by decide)
  have hmv : m.2.1.ownBlock = none ∨ m.2.1.ownBlock ≠ v.ownBlock := by
    cases hv : m.2.1.ownBlock with
    | none => exact .inl rfl
    | some b => exact .inr (fun e => by have := own_base hm b hv; have := own_lt h.own b e.symm; omega)
  have hm2 := own_other hm hg hmv
  refine ⟨⟨blk_put hblk 0 _ rfl, h.le, ?_, ?_⟩, ?_, (KeepBut.of_grown hgg g).set_ 0 _, ?_⟩
  · have e : rCells (rs ++ [m]) = rCells rs ++ rmc m := by rw [rCells_append]; simp [rCells]
    rw [e, show (rs ++ [m]).length = n by simp [hn]]
    exact own_other ho (grown_set w2 g 0 _) (.inr hne)
  · intro r hr
    rcases List.mem_append.1 hr with hr | hr
    · have k1 := own_other (h.by_ r hr) hgg (own_apart (h.by_ r hr) h.own (by decide))
      exact own_other k1 (grown_set w2 g 0 _) (.inr (own_ne_t k1 hblk (by decide)))
    · obtain rfl : r = m := by simpa using hr
      exact own_less (own_other hm2 (grown_set w2 g 0 _) (.inr (own_ne_t hm2 hblk (by decide)))) hb
  · exact ((Below.refl base W).grown hgg hb (own_base h.own)).grown (grown_set w2 g 0 _) (Nat.le_trans hb hgg.size) (fun k hk => by injection hk with hk; rw [← hk]; exact h.le)
  · rcases hat with e | e
    · exact .inr (.inl e.symm)
    · exact .inr (.inr ⟨g2, rfl, by rw [e]; exact h1.size⟩)
theorem rnew_calls (n : Int) (w : World) (base : Nat) (hb : base ≤ w.heap.size) (h1 : 1 ≤ n) (h2 : n ≤ 8192) :
    Calls Try.prog 53 #[.int .i64 n] w fun e w' => e = .returned (.tuple #[.pointer (some ⟨w.heap.size, 0, none⟩), .int .i64 0]) ∧ Rn w' base w.heap.size (.slice none 0 0) n 0 [] ∧ Below w.heap.size w w' := by
  have i1 : ¬ n < 1 := by omega
  have i2 : ¬ 8192 < n := by omega
  go_enter Try.func53, Try.ntmps53
  go_wp2_with fail
  go_ret2
  exact ⟨rfl, ⟨blk_new w _, hb, own_nil _ _ _ _, fun r hr => by cases hr⟩, (Below.refl _ _).alloc (Nat.le_refl _) _⟩
theorem rnew_refused (n : Int) (w : World) (h : n < 1 ∨ 8192 < n) :
    Calls Try.prog 53 #[.int .i64 n] w fun e w' => e = .returned (.tuple #[.pointer none, .int .i64 60]) ∧ w' = w := by
  rcases h with h | h
  · go_enter Try.func53, Try.ntmps53
    go_wp2_with fail
    go_ret2
    exact ⟨rfl, rfl⟩
  · have i1 : ¬ n < 1 := by omega
    go_enter Try.func53, Try.ntmps53
    go_wp2_with fail
    go_ret2
    exact ⟨rfl, rfl⟩
theorem rlen_calls (W : World) (base g : Nat) (v : Value) (room : Int) (gone : Nat) (rs : List RM) (h : Rn W base g v room gone rs) :
    Calls Try.prog 45 #[.pointer (some ⟨g, 0, none⟩)] W fun e w' => e = .returned (.int .i64 (rs.length : Int)) ∧ w' = W := by
  obtain ⟨A, c, rfl⟩ := slice_form h.own
  have hc := blk_cell h.blk 0
  simp at hc
  clear h
  go_enter Try.func45, Try.ntmps45
  go_wp2_with fail
  go_ret
  exact ⟨rfl, rfl⟩
theorem rlost_calls (W : World) (base g : Nat) (v : Value) (room : Int) (gone : Nat) (rs : List RM) (h : Rn W base g v room gone rs) :
    Calls Try.prog 62 #[.pointer (some ⟨g, 0, none⟩)] W fun e w' => e = .returned (.int .u64 (gone : Int)) ∧ w' = W := by
  have hc := blk_cell h.blk 2
  simp at hc
  clear h
  go_enter Try.func62, Try.ntmps62
  go_wp2_with fail
  go_ret
  exact ⟨rfl, rfl⟩
theorem info5 : (Try.prog.info? 5).map (fun i => (i.zero, i.size, i.bytes)) = some (some (.int .u8 0), 1, 1) := by kernel_rfl
set_option maxHeartbeats 1600000 in
set_option maxRecDepth 20000 in
theorem copy_calls (xs : List Int) (A : Option Addr) (c : Nat) (w : World) (base : Nat) (hbase : base ≤ w.heap.size) (hr : ReadsOf U 0 w A xs.length xs) (hm : xs.length ≤ 140737488355328) :
    Calls Try.prog 66 #[.slice A xs.length c] w fun e w' => ∃ v, e = .returned v ∧ w'.ownsRow base 5 1 v xs.length (encs U xs) ∧ Below base w w' := by
  have HBS := Lib.hid hbase
  have HR := Lib.hid hr
  have HM := Lib.hid hm
  clear hr hm hbase
  go_enter Try.func66, Try.ntmps66
  go_wp2_with (at_builtin; refine print_append_row_of U 0 (w0 := w) base rfl (.tmp 4) (.tmp 5) 62 5 (.int .u8 0) 1 rfl Try.underlying62 info5 rfl (by omega) (fun _ => rfl) (.slice none 0 0) [] xs A xs.length c rfl rfl ?h1 HR.out ?h2 HBS.out ?h3 ?_; (case h1 => exact own_nil w base 5 1); (case h2 => exact Below.refl _ _); (case h3 => have := HM.out; simp; omega); intro v1 w1 ho1 hb1 hg1 hat1; have HO1 := Lib.hid ho1; have HB1 := Lib.hid hb1; clear ho1 hb1 hg1 hat1)
  go_wp2_with fail
  go_ret
  exact ⟨_, rfl, by simpa using HO1.out, HB1.out⟩
set_option maxRecDepth 20000 in
theorem rsend_full (tt : Int) (B : Value) (W : World) (base g : Nat) (v : Value) (room : Int) (gone : Nat) (rs : List RM) (h : Rn W base g v room gone rs) (hb : base ≤ W.heap.size) (hr : room ≤ rs.length) (hg : gone < 18446744073709551615) :
    Calls Try.prog 43 #[.pointer (some ⟨g, 0, none⟩), .int .i64 tt, B] W fun e w' => e = .returned (.bool false) ∧ RPut W w' base g v v room (gone + 1) rs := by
  obtain ⟨A, c, rfl⟩ := slice_form h.own
  have d0 := blk_cell h.blk 0
  have d1 := blk_cell h.blk 1
  have d2 := blk_cell h.blk 2
  have f2 := blk_frozen h.blk 2
  simp at d0 d1 d2
  have H := Lib.hid h
  have i1 : room ≤ (rs.length : Int) := hr
  have q1 : IntKind.u64.wrap ((gone : Int) + 1) = (gone : Int) + 1 := IntWalk.u64_in _ ⟨by omega, by omega⟩
  have HBS := Lib.hid hb
  clear h hr hg hb
  go_enter Try.func43, Try.ntmps43
  go_wp2_with fail
  go_quiet (fail)
  go_wp2_with fail
  go_ret
  have hb1 : Below W.heap.size W (W.drewN nq) := pw_below_drewN (Below.refl _ _) nq
  exact ⟨rfl, by have h := ((RPut.refl H.out).below HBS.out hb1).trans (rn_set (rn_below H.out hb1) (gone + 1)); simpa using h⟩
theorem info71 : (Try.prog.info? 71).map (fun i => (i.zero, i.size, i.bytes)) = some (some (.agg #[.int .i64 0, .slice none 0 0]), 2, 32) := by kernel_rfl
set_option maxRecDepth 20000 in
set_option maxHeartbeats 3200000 in
theorem rsend_room (tt : Int) (xs : List Int) (B : Option Addr) (cb : Nat) (W : World) (base g : Nat) (v : Value) (room : Int) (gone : Nat) (rs : List RM) (h : Rn W base g v room gone rs) (hb : base ≤ W.heap.size) (hr : (rs.length : Int) < room) (hm : rs.length ≤ 1099511627776)
    (hx : ReadsOf U 0 W B xs.length xs) (hxl : xs.length ≤ 140737488355328) :
    Calls Try.prog 43 #[.pointer (some ⟨g, 0, none⟩), .int .i64 tt, .slice B xs.length cb] W fun e w' => e = .returned (.bool true) ∧ ∃ v' u, RPut W w' base g v v' room gone (rs ++ [(tt, u, xs)]) ∧ ∀ k, u.ownBlock = some k → W.heap.size ≤ k := by
  obtain ⟨A, c, rfl⟩ := slice_form h.own
  have d0 := blk_cell h.blk 0
  have d1 := blk_cell h.blk 1
  simp at d0 d1
  have H := Lib.hid h
  have HBS := Lib.hid hb
  have HM := Lib.hid hm
  have i1 : ¬ room ≤ (rs.length : Int) := by omega
  have CC : Hid (∀ W', Below W.heap.size W W' → Calls Try.prog 66 #[.slice B xs.length cb] W' fun e w' => ∃ v, e = .returned v ∧ w'.ownsRow W'.heap.size 5 1 v xs.length (encs U xs) ∧ Below W'.heap.size W' w') := fun W' hw => copy_calls xs B cb W' W'.heap.size (Nat.le_refl _) (hx.below hw) hxl
  obtain ⟨i0, hi0, hzz⟩ := Option.map_eq_some_iff.1 info71
  simp only [Prod.mk.injEq] at hzz
  obtain ⟨hz0, hs0, hb0⟩ := hzz
  clear h hr hm hb hx hxl
  go_enter Try.func43, Try.ntmps43
  go_wp2_with fail
  go_quiet (fail)
  go_wp2_with fail
  obtain ⟨W1, hW1⟩ : ∃ W1, W1 = W.drewN nq := ⟨_, rfl⟩
  rw [← hW1]
  have hb1 : Below W.heap.size W W1 := by rw [hW1]; exact pw_below_drewN (Below.refl _ _) nq
  have h1 := rn_below H.out hb1
  have d0 := blk_cell h1.blk 0
  simp at d0
  have H1 := Lib.hid h1
  have HB1 := Lib.hid hb1
  have HBW : Hid (base ≤ W1.heap.size) := Nat.le_trans HBS.out hb1.size
  clear h1 hb1 hW1
  go_region_law (first
    | (refine step_append_lies _ rfl (.tmp 28) (.tmp 33) 141 rfl base 71 i0 (.agg #[.int .i64 0, .slice none 0 0]) 2 32 Try.underlying141 hi0 hz0 hs0 hb0 rfl (by omega) (.slice A rs.length c) rs.length (rCells rs) rfl ?h1 ⟨w3.heap.size, 0, none⟩ 1 1 (rmc (tt, .slice Au xs.length cu, xs)) rfl rfl ?h2 ?h3 (by omega) ?h4 ?h5 ?h6 _ rfl ?_; (case h1 => exact own_alloc H3.out.own _); (case h2 => exact World.news_of_block (blk_new w3 _)); (case h3 => simp [rmc, Value.oneCell']); (case h4 => have := HM.out; simp [maxLen]; omega); (case h5 => have := HM.out; omega); (case h6 => have := HBW.out; have := HB3.out.size; simp at this ⊢; omega); intro g2 cap2 w2 ho2 hg2 hat2 hlt2; have HP2 := Lib.hid (rput_lies (m := (tt, .slice Au xs.length cu, xs)) H1.out HBW.out rfl ho2 (own_alloc HU3.out _) (World.grownBy.trans (grown_of_below HB3.out _) (World.grownBy_alloc w3 _ _)) hg2 hat2); have hblk := blk_grown H3.out.blk (World.grownBy.trans (World.grownBy_alloc w3 _ _) hg2) H1.out.ne; have f0 := blk_frozen hblk 0; have c0 := blk_cell hblk 0; simp at c0; clear ho2 hg2 hat2 hlt2 hblk)
    | (go_simp; go_at_call 66; refine (CC.out _ (HB1.out.trans ((Below.refl _ W1).drew.mono HB1.out.size))).mono ?_; rintro e w3 ⟨u3, rfl, hu3, hb3⟩; obtain ⟨Au, cu, rfl⟩ := slice_form hu3; have hbw : Below W1.heap.size W1 w3 := (Below.refl _ W1).drew.trans hb3; have h3 := rn_below H1.out hbw; have x0 := blk_cell h3.blk 0; simp at x0; have x0a : ∀ o, (w3.alloc o).cell? ⟨g, 0, none⟩ = some (.slice A rs.length c) := (fun o => by simpa using blk_cell (blk_alloc h3.blk o) 0); have HU3 := Lib.hid hu3; have HB3 := Lib.hid hbw; have H3 := Lib.hid h3; clear hu3 hb3 hbw h3))
  all_goals (go_wp2_with fail; go_ret; exact ⟨rfl, _, _, ((RPut.refl H.out).below HBS.out HB1.out).trans HP2.out, fun k hk => Nat.le_trans HB1.out.size (own_base HU3.out k hk)⟩)
end Go.Proofs.Ytfmggmpllggbnaa.RNet
