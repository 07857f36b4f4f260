/- Contracts of Eq, same, lives. -/
import Derived.Test.YtfmggmpllggbnaaNetB
import Derived.Lib.SlBytesConst
namespace Go.Proofs.Ytfmggmpllggbnaa.Net
open Go.RowKit Go.Proofs.YtfmggmpllggbnaaW.PrintWords Go.Sort
set_option linter.unusedVariables false
set_option linter.unusedSimpArgs false
abbrev U := Value.int IntKind.u8
theorem reads_at {w : World} {A : Option Addr} {xs : List Int} (h : ReadsOf U 0 w A xs.length xs) (k : Nat) (hk : k < xs.length) : ∃ ad, A = some ad ∧ w.cell? (ad.add k) = some (.int .u8 (xs.getD k 0)) := by
  obtain ⟨ad, e, hc⟩ := h.2.2 (by omega)
  exact ⟨ad, e, hc k hk⟩
set_option maxRecDepth 20000 in
set_option maxHeartbeats 1600000 in
theorem eq_calls (xs ys : List Int) (A B : Option Addr) (c d : Nat) (w : World) (hx : ReadsOf U 0 w A xs.length xs) (hy : ReadsOf U 0 w B ys.length ys) (hm : ys.length ≤ 140737488355328) :
    Calls Try.prog 69 #[.slice A xs.length c, .slice B ys.length d] w fun e w' => ∃ b : Bool, e = .returned (.bool b) ∧ (b = true ↔ xs = ys) ∧ Below w.heap.size w w' := by
  have HX := Lib.hid hx
  have HY := Lib.hid hy
  clear hx hy
  by_cases hl : xs.length = ys.length
  · have HL := Lib.hid hl
    rw [hl]
    clear hl
    go_enter Try.func69, Try.ntmps69
    go_wp2_with fail
    go_loopw [5] (fun i wr => ∃ k : Nat, i = .int .i64 k ∧ k ≤ ys.length ∧ (∀ j, j < k → xs.getD j 0 = ys.getD j 0) ∧ Below w.heap.size w wr) (fun i _ => ys.length - (intOf i).toNat)
    case atStart => exact ⟨0, rfl, by omega, by omega, Below.refl _ _⟩
    case round =>
      obtain ⟨k, rfl, hk, hs, hb⟩ := hrel
      have HS := Lib.hid hs
      have HB := Lib.hid hb
      clear hs hb
      by_cases hlt : k < ys.length
      · obtain ⟨a1, rfl, x1⟩ := reads_at HX.out k (by have := HL.out; omega)
        obtain ⟨a2, rfl, x2⟩ := reads_at HY.out k hlt
        have y1 := pw_cell_below HB.out x1
        have y2 := pw_cell_below HB.out x2
        obtain ⟨p, hp⟩ : ∃ p, p = xs.getD k 0 := ⟨_, rfl⟩
        obtain ⟨q, hq⟩ : ∃ p, p = ys.getD k 0 := ⟨_, rfl⟩
        rw [← hp] at y1
        rw [← hq] at y2
        have HP := Lib.hid hp
        have HQ := Lib.hid hq
        have i1 : (0 : Int) ≤ (k : Int) := by omega
        have i2 : (k : Int) < (ys.length : Int) := by omega
        clear hp hq x1 x2
        by_cases hpq : p = q
        · have hb2 : (p != q) = false := bne_eq_false_iff_eq.2 hpq
          have HPQ := Lib.hid hpq
          clear hpq
          go_wp2_with fail
          go_region
          go_wp2_with fail
          go_roundw
          case rel => exact ⟨k + 1, by go_num, by omega, fun j hj => by
            rcases Nat.lt_or_ge j k with h | h
            · exact HS.out j h
            · obtain rfl : j = k := by omega
              rw [← HP.out, ← HQ.out]; exact HPQ.out, by first | exact HB.out.drew | exact HB.out⟩
          case measure => simp [intOf]; omega
        · have hne : ¬ xs = ys := fun e => hpq (by rw [HP.out, HQ.out, e])
          have HD := Lib.hid hne
          have hb2 : (p != q) = true := bne_iff_ne.2 hpq
          clear hne hpq
          go_wp2_with fail
          go_region
          go_wp2_with fail
          go_ret
          exact ⟨false, rfl, ⟨fun h => (by simp at h), fun h => absurd h HD.out⟩, by first | exact HB.out.drew | exact HB.out⟩
      · have he : xs = ys := by
          apply List.ext_getElem HL.out
          intro j h1 h2
          have := HS.out j (by omega)
          rwa [List.getD_eq_getElem?_getD, List.getD_eq_getElem?_getD, List.getElem?_eq_getElem h1, List.getElem?_eq_getElem h2] at this
        have HD := Lib.hid he
        clear he
        go_wp2_with fail
        go_ret
        exact ⟨true, rfl, ⟨fun _ => HD.out, fun _ => rfl⟩, HB.out⟩
  · have HD : Hid (¬ xs = ys) := fun e => hl (by rw [e])
    have hl' : ((xs.length : Int) != (ys.length : Int)) = true := bne_iff_ne.2 (by omega)
    clear hl
    go_enter Try.func69, Try.ntmps69
    go_wp2_with fail
    go_ret
    exact ⟨false, rfl, ⟨fun h => (by simp at h), fun h => absurd h HD.out⟩, Below.refl _ _⟩
theorem reads_told {W : World} {g c : Nat} {s : ByteArray} (h : ∃ m, W.heap[g]? = some (.cells (bytesRow s c) 5 ((bytesRow s c).size, m))) (hs : s.size ≤ 9223372036854775807) : ReadsOf U 0 W (some ⟨g, 0, none⟩) s.size (bytesOf s) := by
  obtain ⟨m, hm⟩ := h
  refine ⟨bytesOf_length s, hs, fun _ => ⟨_, rfl, fun j hj => ?_⟩⟩
  rw [add_plain, cell_of_row W g j _ _ _ hm, bytesRow_at _ _ j hj]
  have h' : j < s.data.toList.length := by rw [data_length]; exact hj
  simp [bytesOf, List.getD_eq_getElem?_getD, List.getElem?_eq_getElem h']
set_option maxRecDepth 20000 in
set_option maxHeartbeats 1600000 in
theorem same_calls (t u : Int) (xs ys : List Int) (A B : Option Addr) (c d : Nat) (w : World) (hx : ReadsOf U 0 w A xs.length xs) (hy : ReadsOf U 0 w B ys.length ys) (hm : ys.length ≤ 140737488355328) :
    Calls Try.prog 48 #[.agg #[.int .i64 t, .slice A xs.length c], .agg #[.int .i64 u, .slice B ys.length d]] w fun e w' => ∃ b : Bool, e = .returned (.bool b) ∧ (b = true ↔ t = u ∧ xs = ys) ∧ Below w.heap.size w w' := by
  have EQ := fun W' (hb : Below w.heap.size w W') => (eq_calls xs ys A B c d W' (hx.below hb) (hy.below hb) hm).mono (fun e w' (h : ∃ b : Bool, e = .returned (.bool b) ∧ (b = true ↔ xs = ys) ∧ Below W'.heap.size W' w') => (by obtain ⟨b, h1, h2, h3⟩ := h; exact ⟨b, h1, h2, hb.trans (h3.mono hb.size)⟩ : ∃ b : Bool, e = .returned (.bool b) ∧ (b = true ↔ xs = ys) ∧ Below w.heap.size w w'))
  have HE := Lib.hid EQ
  clear EQ hx hy
  by_cases htu : t = u
  · have h1 : (t == u) = true := by simpa using htu
    have HTU := Lib.hid htu
    clear htu
    go_enter Try.func48, Try.ntmps48
    go_wp2_with fail
    refine (HE.out _ (((Below.refl _ _).alloc (Nat.le_refl _) _).alloc (by simp) _)).mono ?_; rintro e w1 ⟨b, rfl, hb, hb1⟩
    have HB1 := Lib.hid hb1
    have HB := Lib.hid hb
    clear hb1 hb
    go_wp2_with fail
    go_ret
    exact ⟨b, rfl, ⟨fun h => ⟨HTU.out, HB.out.1 h⟩, fun h => HB.out.2 h.2⟩, HB1.out⟩
  · have h1 : (t == u) = false := by simpa using htu
    have HTU := Lib.hid htu
    clear htu
    go_enter Try.func48, Try.ntmps48
    go_wp2_with fail
    go_ret
    exact ⟨false, rfl, ⟨fun h => (by cases h), fun h => absurd h.1 HTU.out⟩, (((Below.refl _ _).alloc (Nat.le_refl _) _).alloc (by simp) _)⟩
theorem bytesOf_num (a : Int) (h0 : 0 ≤ a) (h : a ≤ 255) : bytesOf (strOfNums [a]) = [a] := by
  simp [bytesOf, strOfNums]; omega
set_option maxRecDepth 20000 in
set_option maxHeartbeats 3200000 in
theorem lives_calls (w : World) : Calls Try.prog 24 #[] w fun e w' => e = .returned (.bool true) ∧ Below w.heap.size w w' := by
  have CN := Lib.hid (new_calls 1 w w.heap.size (Nat.le_refl _) (by omega) (by omega))
  have CU := fun w => Lib.hid (num_calls 0 w)
  have kc := fun (w : World) (C : Array Value) (n c : Nat) => Lib.run_convert_bytes_const (P := Try.prog) w 62 5 C n c Try.underlying62 Try.underlying5
  go_enter Try.func24, Try.ntmps24
  go_wp2_with fail
  refine CN.out.mono ?_; rintro e w1 ⟨rfl, hn1, hb1⟩
  have HN1 := Lib.hid hn1
  have HB1 := Lib.hid hb1
  clear hn1 hb1
  go_wp2_with fail
  refine (CU _).out.mono ?_; rintro e w2 ⟨rfl, rfl⟩
  go_wp2_with fail
  obtain ⟨W2, hW2⟩ : ∃ W2, W2 = w2.alloc (.cells #[.int .u8 120] 5 (1, 2)) := ⟨_, rfl⟩
  have hk := blk_new w2 (.cells #[.int .u8 120] 5 (1, 2))
  have hb2 : Below w2.heap.size w2 W2 := by rw [hW2]; exact (Below.refl _ _).alloc (Nat.le_refl _) _
  rw [← hW2] at hk
  have hrd : ReadsInt W2 .u8 (some ⟨w2.heap.size, 0, none⟩) 1 [120] := ⟨rfl, by omega, fun _ => ⟨_, rfl, fun j hj => by
    obtain rfl : j = 0 := by omega
    rw [add_plain, cell_of_row W2 _ 0 _ _ _ hk]; rfl⟩⟩
  have hsz : w.heap.size ≤ W2.heap.size := Nat.le_trans HB1.out.size hb2.size
  have CS := Lib.hid (send_room 3 _ 1 1 [120] W2 hrd w.heap.size w.heap.size (.slice none 0 0) 1 0 [] (nt_below HN1.out hb2) hsz (by simp) (by simp))
  have hww : Below w.heap.size w W2 := HB1.out.trans (hb2.mono HB1.out.size)
  have HWW := Lib.hid hww
  have HSZ := Lib.hid hsz

  first | rw [← hW2] | skip
  clear hW2 hk hb2 hrd hww hsz
  refine CS.out.mono ?_; rintro e w3 ⟨rfl, v3, hp3⟩
  have HP3 := Lib.hid hp3
  have hb3 := Nat.le_trans HSZ.out hp3.kb.1
  have CF := Lib.hid (send_full 4 none 0 0 [] w3 (ReadsOf.nil (Value.int .u8) (0 : Int) w3) w.heap.size w.heap.size v3 1 0 [(3, strOfNums [120])] hp3.nt hb3 (by simp) (by omega))
  clear hp3 hb3
  go_wp2_with fail
  refine CF.out.mono ?_; rintro e w4 ⟨rfl, hp4⟩
  have CL := Lib.hid (lost_calls w4 w.heap.size w.heap.size v3 1 (0 + 1) [(3, strOfNums [120])] hp4.nt)
  have HP4 := Lib.hid hp4
  clear hp4
  go_wp2_with fail
  refine CL.out.mono ?_; rintro e w5 ⟨rfl, rfl⟩
  have hb5 : w.heap.size ≤ w5.heap.size := Nat.le_trans HSZ.out (Nat.le_trans HP3.out.kb.1 HP4.out.kb.1)
  have CT := Lib.hid (take_calls 0 w5 w.heap.size w.heap.size v3 1 (0 + 1) [(3, strOfNums [120])] HP4.out.nt hb5 (by simp) (by simp) 3 (strOfNums [120]) rfl)
  go_wp2_with fail
  refine CT.out.mono ?_; rintro e w6 ⟨g6, c6, v6, rfl, hg6, hl6, hp6⟩
  have hs6 := reads_told hg6 (by simp [strOfNums_size])
  rw [strOfNums_size] at hs6
  rw [strOfNums_size]
  simp only [List.length_cons, List.length_nil, Nat.zero_add] at hs6 ⊢
  rw [bytesOf_num 120 (by omega) (by omega)] at hs6
  have HS6 := Lib.hid hs6
  have HP6 := Lib.hid hp6
  have hb6 : w.heap.size ≤ w6.heap.size := Nat.le_trans hb5 hp6.kb.1
  clear hg6 hl6 hp6 hs6
  have kc2 : ∀ o, (convert 62 62 (.slice (some ⟨w6.heap.size + 1, 0, none⟩) 1 1)).run Try.prog ((w6.alloc o).alloc (.cells #[.int .u8 120] 5)) = .ok (.slice (some ⟨w6.heap.size + 1, 0, none⟩) 1 1) ((w6.alloc o).alloc (.cells #[.int .u8 120] 5 (1, 2))) := fun o => by
    have h := kc (w6.alloc o) #[.int .u8 120] 1 1
    have hs : (w6.alloc o).heap.size = w6.heap.size + 1 := by simp
    rw [hs] at h
    exact h
  go_wp2_with fail
  obtain ⟨W7, hW7⟩ : ∃ W7, W7 = (w6.alloc (.cells #[.int .i64 3, .slice (some ⟨g6, 0, none⟩) 1 c6] 71)).alloc (.cells #[.int .u8 120] 5 (1, 2)) := ⟨_, rfl⟩
  rw [← hW7]
  have hb7 : Below w6.heap.size w6 W7 := by rw [hW7]; exact ((Below.refl _ _).alloc (Nat.le_refl _) _).alloc (by simp) _
  have hk7 : W7.heap[w6.heap.size + 1]? = some (.cells #[.int .u8 120] 5 (1, 2)) := by
    rw [hW7]
    have h := blk_new (w6.alloc (.cells #[.int .i64 3, .slice (some ⟨g6, 0, none⟩) 1 c6] 71)) (.cells #[.int .u8 120] 5 (1, 2))
    have hs : (w6.alloc (.cells #[.int .i64 3, .slice (some ⟨g6, 0, none⟩) 1 c6] 71)).heap.size = w6.heap.size + 1 := by simp
    rw [hs] at h
    exact h
  have hrd7 : ReadsOf U 0 W7 (some ⟨w6.heap.size + 1, 0, none⟩) 1 [120] := ⟨rfl, by omega, fun _ => ⟨_, rfl, fun j hj => by
    obtain rfl : j = 0 := by omega
    rw [add_plain, cell_of_row W7 _ 0 _ _ _ hk7]; rfl⟩⟩
  have SM := Lib.hid (same_calls 3 3 [120] [120] (some ⟨g6, 0, none⟩) (some ⟨w6.heap.size + 1, 0, none⟩) c6 1 W7 (HS6.out.below hb7) hrd7 (by simp))
  have LN := Lib.hid (fun W' (hw : Below w6.heap.size w6 W') => len_calls W' w.heap.size w.heap.size v6 1 (0 + 1) _ (nt_below HP6.out.nt hw))
  have HB7 := Lib.hid hb7
  clear hW7 hb7 hk7 hrd7 kc kc2
  refine SM.out.mono ?_; rintro e w8 ⟨b, rfl, hb, hb8⟩
  have hbt : b = true := hb.2 ⟨rfl, rfl⟩
  subst hbt
  have hb78 := HB7.out.trans (hb8.mono HB7.out.size)
  have HB78 := Lib.hid hb78
  have CL8 := Lib.hid (LN.out w8 hb78)
  clear hb hb8 hb78
  go_wp2_with fail
  refine CL8.out.mono ?_; rintro e w9 ⟨rfl, rfl⟩
  go_wp2_with fail
  go_ret
  refine ⟨rfl, HWW.out.trans (HP3.out.bl.trans (HP4.out.bl.trans (HP6.out.bl.trans (HB78.out.mono hb6))))⟩
end Go.Proofs.Ytfmggmpllggbnaa.Net
