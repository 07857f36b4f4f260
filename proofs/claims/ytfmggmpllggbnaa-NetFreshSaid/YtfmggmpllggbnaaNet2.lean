/- Contract of put: a message laid behind the others, where there is room. -/
import Derived.Test.YtfmggmpllggbnaaNet
namespace Go.Proofs.Ytfmggmpllggbnaa.Net
open Go.RowKit Go.Proofs.YtfmggmpllggbnaaW.PrintWords
set_option linter.unusedVariables false
set_option linter.unusedSimpArgs false
structure NtPut (W W' : World) (base g : Nat) (v v' : Value) (room : Int) (lost : Nat) (ms : List (Int × ByteArray)) : Prop where
  nt : Nt W' base g v' room lost ms
  bl : Below base W W'
  kb : KeepBut W W' g v.ownBlock
  hat : v'.ownBlock = v.ownBlock ∨ ∃ b, v'.ownBlock = some b ∧ W.heap.size ≤ b
theorem NtPut.refl {W : World} {base g : Nat} {v : Value} {room : Int} {lost : Nat} {ms : List (Int × ByteArray)} (h : Nt W base g v room lost ms) : NtPut W W base g v v room lost ms := ⟨h, Below.refl _ _, KeepBut.refl _ _ _, .inl rfl⟩
theorem NtPut.trans {W W1 W2 : World} {base g : Nat} {v v1 v2 : Value} {r1 r2 : Int} {l1 l2 : Nat} {ms1 ms2 : List (Int × ByteArray)} (h : NtPut W W1 base g v v1 r1 l1 ms1) (k : NtPut W1 W2 base g v1 v2 r2 l2 ms2) : NtPut W W2 base g v v2 r2 l2 ms2 := by
  refine ⟨k.nt, h.bl.trans k.bl, h.kb.trans k.kb h.hat, ?_⟩
  rcases k.hat with e | ⟨b, e, hb⟩
  · rw [e]; exact h.hat
  · exact .inr ⟨b, e, Nat.le_trans h.kb.1 hb⟩
theorem nt_below {W W1 : World} {base g : Nat} {v : Value} {room : Int} {lost : Nat} {ms : List (Int × ByteArray)} (h : Nt W base g v room lost ms) (hb : Below W.heap.size W W1) : Nt W1 base g v room lost ms :=
  ⟨blk_below h.blk hb, h.le, pw_own_below h.own hb⟩
theorem NtPut.below {W W1 W2 : World} {base g : Nat} {v v1 : Value} {room : Int} {lost : Nat} {ms : List (Int × ByteArray)} (h : NtPut W W1 base g v v1 room lost ms) (hb0 : base ≤ W.heap.size) (hb : Below W1.heap.size W1 W2) : NtPut W W2 base g v v1 room lost ms :=
  ⟨nt_below h.nt hb, h.bl.trans (hb.mono (Nat.le_trans hb0 h.bl.size)), h.kb.trans (KeepBut.of_below hb g v.ownBlock) (.inl rfl), h.hat⟩
theorem grown_set (W : World) (g j : Nat) (u : Value) : W.grownBy (W.setCell ⟨g, j, none⟩ u) (some g) :=
  ⟨rfl, rfl, rfl, by simp [World.setCell], fun k _ hne => Below.heap_setCell W ⟨g, j, none⟩ u k (fun e => hne (by rw [e]))⟩
theorem put_lies {W w1 w2 : World} {base g g2 cap2 n : Nat} {v : Value} {room : Int} {lost : Nat} {ms : List (Int × ByteArray)} {m : Int × ByteArray} (h : Nt W base g v room lost ms) (hb : base ≤ W.heap.size) (hn : n = ms.length + 1)
    (ho : w2.ownsRow base 130 2 (.slice (some ⟨g2, 0, none⟩) n cap2) n (cellsOf ms ++ msg m)) (h1 : W.grownBy w1 v.ownBlock) (hg : w1.grownBy w2 v.ownBlock) (hat : v.ownBlock = some g2 ∨ g2 = w1.heap.size) :
    NtPut W (w2.setCell ⟨g, 0, none⟩ (.slice (some ⟨g2, 0, none⟩) n cap2)) base g v (.slice (some ⟨g2, 0, none⟩) n cap2) room lost (ms ++ [m]) := by
  have hgg := World.grownBy.trans h1 hg
  have hblk := blk_grown h.blk hgg h.ne
  have hne : (Value.slice (some ⟨g2, 0, none⟩) n cap2).ownBlock ≠ some g := by
    intro e
    obtain ⟨cs, hk⟩ := own_kind ho g e
    rw [hblk] at hk
    simp at hk
  refine ⟨⟨blk_put hblk 0 _ rfl, h.le, ?_⟩, ?_, (KeepBut.of_grown hgg g).set_ 0 _, ?_⟩
  · have e : cellsOf (ms ++ [m]) = cellsOf ms ++ msg m := by rw [cellsOf_append]; simp [cellsOf]
    rw [e, show (ms ++ [m]).length = n by simp [hn]]
    exact own_other ho (grown_set w2 g 0 _) (.inr hne)
  · exact ((Below.refl base W).grown hgg hb (own_base h.own)).grown (grown_set w2 g 0 _) (Nat.le_trans hb hgg.size) (fun k hk => by injection hk with hk; rw [← hk]; exact h.le)
  · rcases hat with e | e
    · exact .inl e.symm
    · exact .inr ⟨g2, rfl, by rw [e]; exact h1.size⟩
theorem info130 : (Try.prog.info? 130).map (fun i => (i.zero, i.size, i.bytes)) = some (some (.agg #[.int .i64 0, .string ByteArray.empty]), 2, 24) := by kernel_rfl
set_option maxRecDepth 20000 in
set_option maxHeartbeats 1600000 in
theorem put_full (m : Int × ByteArray) (W : World) (base g : Nat) (v : Value) (room : Int) (lost : Nat) (ms : List (Int × ByteArray)) (h : Nt W base g v room lost ms) (hr : room ≤ ms.length) :
    Calls Try.prog 50 #[.pointer (some ⟨g, 0, none⟩), .agg #[.int .i64 m.1, .string m.2]] W fun e w' => e = .returned (.bool false) ∧ Below W.heap.size W w' := by
  obtain ⟨A, c, rfl⟩ := slice_form h.own
  have hc0 : ∀ o, (W.alloc o).cell? ⟨g, 0, none⟩ = some (.slice A ms.length c) := fun o => by simpa using blk_cell (blk_alloc h.blk o) 0
  have hc1 : ∀ o, (W.alloc o).cell? ⟨g, 1, none⟩ = some (.int .i64 room) := fun o => by simpa using blk_cell (blk_alloc h.blk o) 1
  have i1 : room ≤ (ms.length : Int) := hr
  clear h hr
  go_enter Try.func50, Try.ntmps50
  go_wp2_with fail
  go_quiet (fail)
  go_wp2_with fail
  go_ret
  exact ⟨rfl, pw_below_drewN ((Below.refl _ _).alloc (Nat.le_refl _) _) _⟩
theorem grown_alloc_drew (W : World) (o : Obj) (row : Option Nat) : W.grownBy (W.alloc o).drew row :=
  have h := World.grownBy_alloc W o row
  ⟨h.os, h.tape, h.output, h.size, h.block⟩
set_option maxRecDepth 20000 in
set_option maxHeartbeats 1600000 in
theorem put_room (m : Int × ByteArray) (W : World) (base g : Nat) (v : Value) (room : Int) (lost : Nat) (ms : List (Int × ByteArray)) (h : Nt W base g v room lost ms) (hbase : base ≤ W.heap.size) (hr : (ms.length : Int) < room) (hm : ms.length ≤ 1099511627776) :
    Calls Try.prog 50 #[.pointer (some ⟨g, 0, none⟩), .agg #[.int .i64 m.1, .string m.2]] W fun e w' => e = .returned (.bool true) ∧ ∃ v', NtPut W w' base g v v' room lost (ms ++ [m]) := by
  obtain ⟨A, c, rfl⟩ := slice_form h.own
  obtain ⟨tt, bs⟩ := m
  have hc0 : ∀ o, (W.alloc o).cell? ⟨g, 0, none⟩ = some (.slice A ms.length c) := fun o => by simpa using blk_cell (blk_alloc h.blk o) 0
  have hc1 : ∀ o, (W.alloc o).cell? ⟨g, 1, none⟩ = some (.int .i64 room) := fun o => by simpa using blk_cell (blk_alloc h.blk o) 1
  have i1 : ¬ room ≤ (ms.length : Int) := by omega
  have H := Lib.hid h
  have HBS := Lib.hid hbase
  have HM := Lib.hid hm
  obtain ⟨i0, hi0, hzz⟩ := Option.map_eq_some_iff.1 info130
  simp only [Prod.mk.injEq] at hzz
  obtain ⟨hz0, hs0, hb0⟩ := hzz
  clear h hr hbase hm
  go_enter Try.func50, Try.ntmps50
  go_wp2_with fail
  go_quiet (fail)
  go_wp2_with fail
  obtain ⟨W1, hW1⟩ : ∃ W1, W1 = (W.alloc (.cells #[.int .i64 tt, .string bs] 130)).drewN nq := ⟨_, rfl⟩
  rw [← hW1]
  have hb1 : Below W.heap.size W W1 := by rw [hW1]; exact pw_below_drewN ((Below.refl _ _).alloc (Nat.le_refl _) _) nq
  have hbx : W1.heap[W.heap.size]? = some (.cells #[.int .i64 tt, .string bs] 130 (0, 0)) := by rw [hW1]; exact blk_drewN (blk_new W _) nq
  have h1 := nt_below H.out hb1
  have H1 := Lib.hid h1
  have HB1 := Lib.hid hb1
  have d0 := blk_cell h1.blk 0
  have x0 := blk_cell hbx 0
  have x1 := blk_cell hbx 1
  simp at d0 x0 x1
  have d0a : ∀ o, (W1.alloc o).cell? ⟨g, 0, none⟩ = some (.slice A ms.length c) := fun o => by simpa using blk_cell (blk_alloc h1.blk o) 0
  have x0a : ∀ o, (W1.alloc o).cell? ⟨W.heap.size, 0, none⟩ = some (.int .i64 tt) := fun o => by simpa using blk_cell (blk_alloc hbx o) 0
  have x1a : ∀ o, (W1.alloc o).cell? ⟨W.heap.size, 1, none⟩ = some (.string bs) := fun o => by simpa using blk_cell (blk_alloc hbx o) 1
  have HBW : Hid (base ≤ W1.heap.size) := Nat.le_trans HBS.out hb1.size
  clear h1 hb1 hbx hW1 hc0 hc1
  go_region_law (refine step_append_lies _ rfl (.tmp 19) (.tmp 21) 65 rfl base 130 i0 (.agg #[.int .i64 0, .string ByteArray.empty]) 2 24 Try.underlying65 hi0 hz0 hs0 hb0 rfl (by omega) (.slice A ms.length c) ms.length (cellsOf ms) rfl ?h1 ⟨W1.heap.size, 0, none⟩ 1 1 (msg (tt, bs)) rfl rfl ?h2 ?h3 (by omega) ?h4 ?h5 ?h6 _ rfl ?_; (case h1 => exact own_drew (own_alloc H1.out.own _)); (case h2 => exact World.news_of_block (blk_drew (blk_new W1 _))); (case h3 => simp [msg, Value.oneCell']); (case h4 => have := HM.out; simp [maxLen]; omega); (case h5 => have := HM.out; omega); (case h6 => have := HBW.out; simp; omega); intro g2 cap2 w2 ho2 hg2 hat2 hlt2; have HP2 := Lib.hid (put_lies H1.out HBW.out rfl ho2 (grown_alloc_drew W1 _ _) hg2 hat2); have hblk := blk_grown H1.out.blk (World.grownBy.trans (grown_alloc_drew W1 _ _) hg2) H1.out.ne; have f0 := blk_frozen hblk 0; have c0 := blk_cell hblk 0; simp at c0; clear ho2 hg2 hat2 hlt2 hblk)
  all_goals (go_wp2_with fail; go_ret; exact ⟨rfl, _, ((NtPut.refl H.out).below HBS.out HB1.out).trans HP2.out⟩)
end Go.Proofs.Ytfmggmpllggbnaa.Net
