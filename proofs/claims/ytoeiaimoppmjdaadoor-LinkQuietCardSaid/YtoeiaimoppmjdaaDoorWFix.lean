/- Contract of the Writer's fixed. -/
import Derived.Test.YtoeiaimoppmjdaaDoorFixed
import Derived.Deep.RegionLaw
namespace Go.Proofs.YtoeiaimoppmjdaaDoor.Wr
open Go.RowKit Go.Proofs.YtoeiaimoppmjdaaDoorW.PrintWords Go.Proofs.YtoeiaimoppmjdaaDoor.Bytes
set_option linter.unusedVariables false
set_option linter.unusedSimpArgs false
theorem wrap_in {n : Int} (h1 : -9223372036854775808 ≤ n) (h2 : n ≤ 9223372036854775807) : IntKind.i64.wrap n = n := by
  rw [IntKind.wrap_i64]; omega
theorem put_lies {W w1 w2 : World} {base g g2 cap2 n : Nat} {v : Value} {xs ys : List Int} (h : Wtr W base g v xs) (hb : base ≤ W.heap.size) (hn : n = xs.length + ys.length) (ho : w2.ownsRow base 5 1 (.slice (some ⟨g2, 0, none⟩) n cap2) n (encs I xs ++ encs I ys))
    (h1 : W.grownBy w1 v.ownBlock) (hg : w1.grownBy w2 v.ownBlock) (hat : v.ownBlock = some g2 ∨ g2 = w1.heap.size) : Put W (w2.setCell ⟨g, 0, none⟩ (.slice (some ⟨g2, 0, none⟩) n cap2)) base g v (.slice (some ⟨g2, 0, none⟩) n cap2) (xs ++ ys) := by
  refine put_one h hb ?_ (World.grownBy.trans h1 hg) ?_
  · rw [encs_append, show (xs ++ ys).length = n by simp [hn]]; exact ho
  · rcases hat with e | e
    · exact .inl e.symm
    · exact .inr ⟨g2, rfl, by rw [e]; exact h1.size⟩
theorem grown_alloc_drew (W : World) (o : Obj) (row : Option Nat) : W.grownBy (W.alloc o).drew row :=
  have h := World.grownBy_alloc W o row
  ⟨h.os, h.tape, h.output, h.size, h.block⟩
set_option maxRecDepth 20000 in
set_option maxHeartbeats 1600000 in
theorem wfixed_calls (n size : Nat) (W : World) (base g : Nat) (v : Value) (xs : List Int) (h : Wtr W base g v xs) (hbase : base ≤ W.heap.size) (hn : n < 18446744073709551616) (hs : size ≤ 8) (hm : xs.length ≤ 70368744177664) :
    Calls Tryd.prog 80 #[.pointer (some ⟨g, 0, none⟩), .int .u64 n, .int .i64 size] W fun e w' => e = .returned (.tuple #[]) ∧ ∃ v', Put W w' base g v v' (xs ++ fixL n size) := by
  have HBS := Lib.hid hbase
  have HN := Lib.hid hn
  have H := Lib.hid h
  have HM := Lib.hid hm
  clear h hbase hm
  go_enter Tryd.func80, Tryd.ntmps80
  go_wp2_with fail
  go_loopw [8] (fun i wr => ∃ (k : Nat) (v' : Value), i = .int .i64 k ∧ k ≤ size ∧ Put W wr base g v v' (xs ++ (fixL n size).take k)) (fun i _ => size - (intOf i).toNat)
  case atStart => exact ⟨0, v, rfl, by omega, by simpa using Put.refl H.out⟩
  case round =>
    obtain ⟨k, v', rfl, hk, hp⟩ := hrel
    have HP := Lib.hid hp
    by_cases hlt : k < size
    · obtain ⟨r, hr⟩ : ∃ r, r = size - 1 - k := ⟨_, rfl⟩
      have q1 : IntKind.i64.wrap ((size : Int) - 1) = (size : Int) - 1 := wrap_in (by omega) (by omega)
      have q2 : IntKind.i64.wrap ((size : Int) - 1 - (k : Int)) = (r : Int) := by rw [wrap_in (by omega) (by omega)]; omega
      have q3 : IntKind.i64.wrap (8 * (r : Int)) = ((8 * r : Nat) : Int) := by rw [wrap_in (by omega) (by omega)]; omega
      have j1 : (0 : Int) ≤ 8 * (r : Int) := by omega
      have j2 : 8 * (r : Int) ≤ 64 := by omega
      obtain ⟨x, hx⟩ : ∃ x : Int, x = ((n / 256 ^ r % 256 : Nat) : Int) := ⟨_, rfl⟩
      have qv : IntKind.u8.wrap ((n : Int) / 2 ^ (8 * (r : Int)).toNat) = x := by
        rw [show (8 * (r : Int)).toNat = 8 * r by omega, IntKind.wrap_u8, sh, hx]
      have HXX : Hid ((fixL n size).take (k + 1) = (fixL n size).take k ++ [x]) := by
        show (fixL n size).take (k + 1) = (fixL n size).take k ++ [x]
        rw [take_getD _ _ (by rw [fixL_length]; omega), fixL_get _ _ _ (by omega), hx, hr]
      have HRR := Lib.hid hr
      clear hr hx
      have hc := blk_cell hp.wt.blk 0
      simp at hc
      have hca : ∀ o, (wr.alloc o).cell? ⟨g, 0, none⟩ = some v' := fun o => by simpa using blk_cell (blk_alloc hp.wt.blk o) 0
      have i1 : (k : Int) < (size : Int) := by omega
      obtain ⟨i0, hi0, hz0, hs0, hb0⟩ := info_parts info5
      have HLEN : Hid ((xs ++ (fixL n size).take k).length ≤ 70368744177680) := by
        have := HM.out
        show (xs ++ (fixL n size).take k).length ≤ 70368744177680
        rw [List.length_append, List.length_take, fixL_length]; omega
      obtain ⟨zs, hzs⟩ : ∃ zs, zs = xs ++ (fixL n size).take k := ⟨_, rfl⟩
      rw [← hzs] at HP HLEN hp
      have HZ := Lib.hid hzs
      clear hp hzs
      go_wp2_with fail
      go_region_law (refine step_append_lies _ rfl (.tmp 15) (.tmp 24) 22 rfl base 5 i0 (.int .u8 0) 1 1 Tryd.underlying22 hi0 hz0 hs0 hb0 rfl (by omega) v' zs.length (encs I zs) rfl ?h1 ⟨wr.heap.size, 0, none⟩ 1 1 (encs I [x]) rfl rfl ?h2 ?h3 (by omega) ?h4 ?h5 ?h6 _ rfl ?_; (case h1 => exact own_drew (own_alloc HP.out.wt.own _)); (case h2 => exact World.news_of_block (blk_drew (blk_new wr _))); (case h3 => simp [encs, Value.oneCell']); (case h4 => have := HLEN.out; simp [maxLen]; omega); (case h5 => have := HLEN.out; omega); (case h6 => have := HBS.out; have := HP.out.bl.size; simp; omega); intro g2 cap2 w2 ho2 hg2 hat2 hlt2; have HP2 := Lib.hid (put_lies HP.out.wt (Nat.le_trans HBS.out HP.out.bl.size) rfl ho2 (grown_alloc_drew wr _ _) hg2 hat2); have hblk := blk_grown HP.out.wt.blk (World.grownBy.trans (grown_alloc_drew wr _ _) hg2) HP.out.wt.ne; have f0 := blk_frozen hblk 0; have c0 := blk_cell hblk 0; simp at c0; clear ho2 hg2 hat2 hlt2 hblk)
      all_goals (go_wp2_with fail; go_roundw; (case rel => exact ⟨k + 1, _, by go_num, by omega, by have h := HP.out.trans HP2.out; rw [show zs ++ [x] = xs ++ (fixL n size).take (k + 1) by rw [HXX.out, HZ.out, List.append_assoc]] at h; exact h⟩); (case measure => simp [intOf]; omega))
    · have HF : Hid (Put W wr base g v v' (xs ++ fixL n size)) := by
        have h := hp
        rw [List.take_of_length_le (by rw [fixL_length]; omega)] at h
        exact h
      clear hp
      have i1 : ¬ (k : Int) < (size : Int) := by omega
      go_wp2_with fail
      go_end0
      exact ⟨rfl, _, HF.out⟩
end Go.Proofs.YtoeiaimoppmjdaaDoor.Wr
