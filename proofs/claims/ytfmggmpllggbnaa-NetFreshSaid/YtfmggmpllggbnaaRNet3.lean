/- Contracts of Drop, Take, Double of the document's net. -/
import Derived.Test.YtfmggmpllggbnaaRNet2
namespace Go.Proofs.Ytfmggmpllggbnaa.RNet
open Go.RowKit Go.Proofs.YtfmggmpllggbnaaW.PrintWords Go.Proofs.Ytfmggmpllggbnaa.Net
set_option linter.unusedVariables false
set_option linter.unusedSimpArgs false
theorem er_same (rs : List RM) (i : Nat) (hi : i < rs.length) : (rs.take (i + 1)).eraseIdx i = (rs.take i).eraseIdx i := by
  rw [List.take_succ_eq_append_getElem hi, List.eraseIdx_append_of_length_le (by simp; omega), List.eraseIdx_of_length_le (l := rs.take i) (by simp; omega)]
  simp [show i - min i rs.length = 0 by omega]
theorem er_more (rs : List RM) (i k : Nat) (hk : k < rs.length) (hne : k ≠ i) : (rs.take (k + 1)).eraseIdx i = (rs.take k).eraseIdx i ++ [rs[k]] := by
  rw [List.take_succ_eq_append_getElem hk]
  rcases Nat.lt_or_ge k i with h | h
  · rw [List.eraseIdx_of_length_le (by simp; omega), List.eraseIdx_of_length_le (by simp; omega)]
  · rw [List.eraseIdx_append_of_lt_length (by simp; omega)]
theorem er_all (rs : List RM) (i : Nat) : (rs.take rs.length).eraseIdx i = rs.eraseIdx i := by rw [List.take_length]
theorem rput_row {W w0 : World} {base g : Nat} {v v' : Value} {room : Int} {gone : Nat} {rs rs' : List RM} (h : Rn W base g v room gone rs) (hb0 : base ≤ W.heap.size) (hb : Below W.heap.size W w0) (ho : w0.ownsRow W.heap.size 71 2 v' rs'.length (rCells rs')) (hsub : ∀ r, r ∈ rs' → r ∈ rs) : RPut W (w0.setCell ⟨g, 0, none⟩ v') base g v v' room gone rs' := by
  have hblk := blk_below h.blk hb
  refine ⟨⟨blk_put hblk 0 v' rfl, h.le, own_less (own_other ho (grown_set w0 g 0 v') (.inr (own_ne_t ho hblk (by decide)))) hb0, fun r hr => ?_⟩, ((Below.refl base W).trans (hb.mono hb0)).setCell h.le _, (KeepBut.of_below hb g v.ownBlock).set_ 0 v', ?_⟩
  · have k1 := pw_own_below (h.by_ r (hsub r hr)) hb
    exact own_other k1 (grown_set w0 g 0 v') (.inr (own_ne_t k1 hblk (by decide)))
  · cases hv : v'.ownBlock with
    | none => exact .inl rfl
    | some b => exact .inr (.inr ⟨b, rfl, own_base ho b hv⟩)
/-- A store into a cell that is younger. -/
theorem rput_set {W W1 : World} {base g q : Nat} {v v1 : Value} {room : Int} {gone : Nat} {rs : List RM} (h : RPut W W1 base g v v1 room gone rs) (hgl : g < W.heap.size) (hq : W.heap.size ≤ q) (hb : base ≤ W.heap.size) (hne : v1.ownBlock ≠ some q) {cs : Array Value} (hby : W1.heap[q]? = some (.cells cs 71 (0, 0))) (j : Nat) (u : Value) : RPut W (W1.setCell ⟨q, j, none⟩ u) base g v v1 room gone rs :=
  ⟨⟨((KeepBut.refl W1 q none).set_ j u).blk h.rn.blk (by omega) (by simp), h.rn.le, own_other h.rn.own (grown_set W1 q j u) (.inr hne), fun r hr => own_other (h.rn.by_ r hr) (grown_set W1 q j u) (.inr (own_ne_t (h.rn.by_ r hr) hby (by decide)))⟩,
    h.bl.setCell (Nat.le_trans hb hq) _, keep_far h.kb hq u, h.hat⟩
theorem rdrop_none (i : Int) (W : World) (base g : Nat) (v : Value) (room : Int) (gone : Nat) (rs : List RM) (h : Rn W base g v room gone rs) (hi : i < 0 ∨ (rs.length : Int) ≤ i) :
    Calls Try.prog 59 #[.pointer (some ⟨g, 0, none⟩), .int .i64 i] W fun e w' => e = .returned (.bool false) ∧ w' = W := by
  obtain ⟨A, c, rfl⟩ := slice_form h.own
  have hc := blk_cell h.blk 0
  simp at hc
  clear h
  by_cases h0 : i < 0
  · go_enter Try.func59, Try.ntmps59
    go_wp2_with fail
    go_ret
    exact ⟨rfl, rfl⟩
  · have i2 : (rs.length : Int) ≤ i := by omega
    go_enter Try.func59, Try.ntmps59
    go_wp2_with fail
    go_ret
    exact ⟨rfl, rfl⟩
set_option maxRecDepth 20000 in
set_option maxHeartbeats 3200000 in
theorem rdrop_calls (i : Nat) (W : World) (base g : Nat) (v : Value) (room : Int) (gone : Nat) (rs : List RM) (h : Rn W base g v room gone rs) (hbase : base ≤ W.heap.size) (hi : i < rs.length) (hm : rs.length ≤ 1099511627776) :
    Calls Try.prog 59 #[.pointer (some ⟨g, 0, none⟩), .int .i64 i] W fun e w' => e = .returned (.bool true) ∧ ∃ v', RPut W w' base g v v' room gone (rs.eraseIdx i) := by
  obtain ⟨gv, cap, rfl, _, _⟩ := h.own.form (by omega)
  have hc := blk_cell h.blk 0
  simp at hc
  have H := Lib.hid h
  have HBS := Lib.hid hbase
  have i1 : ¬ (i : Int) < 0 := by omega
  have i3 : ¬ (rs.length : Int) ≤ (i : Int) := by omega
  obtain ⟨i0, hi0, hzz⟩ := Option.map_eq_some_iff.1 info71
  simp only [Prod.mk.injEq] at hzz
  obtain ⟨hz0, hs0, hb0⟩ := hzz
  have HGL : Hid (g < W.heap.size) := blk_lt h.blk
  clear h hbase
  go_enter Try.func59, Try.ntmps59
  go_wp2_with fail
  go_loopw [5, 6] (fun l j wr => ∃ k : Nat, j = .int .i64 k ∧ k ≤ rs.length ∧ wr.ownsRow W.heap.size 71 2 l ((rs.take k).eraseIdx i).length (rCells ((rs.take k).eraseIdx i)) ∧ Below W.heap.size W wr) (fun _ j _ => rs.length - (intOf j).toNat)
  case atStart => exact ⟨0, rfl, by omega, by simpa [rCells] using own_nil W W.heap.size 71 2, Below.refl _ _⟩
  case round =>
    obtain ⟨k, rfl, hk, ho, hb⟩ := hrel
    obtain ⟨w0, rfl⟩ : ∃ w0, w0 = wr := ⟨_, rfl⟩
    have h1 := rn_below H.out hb
    have c0 := blk_cell h1.blk 0
    have f0 := blk_frozen h1.blk 0
    simp at c0
    have HO := Lib.hid ho
    have HB := Lib.hid hb
    have H1 := Lib.hid h1
    by_cases hlt : k < rs.length
    · have q0 := rmsg_cell h1.own k 0 hlt (by omega)
      have q1 := rmsg_cell h1.own k 1 hlt (by omega)
      have i4 : (0 : Int) ≤ (k : Int) := by omega
      have i5 : (k : Int) < (rs.length : Int) := by omega
      by_cases hki : k = i
      · subst hki
        have HE := Lib.hid (er_same rs k hlt)
        clear ho hb h1
        go_wp2_with fail
        exact ⟨⟨k + 1, by go_num, by omega, by rw [HE.out]; exact HO.out, HB.out⟩, by simp [intOf]; omega⟩
      · have HE := Lib.hid (er_more rs i k hlt hki)
        obtain ⟨r, hrr⟩ : ∃ r, r = rs[k] := ⟨_, rfl⟩
        rw [← hrr] at q0 q1 HE
        obtain ⟨tt, u, xs⟩ := r
        have hby := h1.by_ (tt, u, xs) (by rw [hrr]; exact List.getElem_mem hlt)
        have hby3 : w0.ownsRow base 5 1 u xs.length (encs U xs) := hby
        obtain ⟨Ab, cb, rfl⟩ := slice_form hby3
        simp [rmc] at q0 q1
        have i6 : ((k : Int) == (i : Int)) = false := by simp; omega
        have i7 : ¬ (k : Int) = (i : Int) := by omega
        have hlen : ((rs.take k).eraseIdx i).length ≤ rs.length := Nat.le_trans (List.eraseIdx_sublist _ _).length_le (by simp; omega)
        have HLN := Lib.hid hlen
        obtain ⟨n0, hn0⟩ : ∃ n, n = ((rs.take k).eraseIdx i).length := ⟨_, rfl⟩
        obtain ⟨es, hes⟩ : ∃ n, n = (rs.take k).eraseIdx i := ⟨_, rfl⟩
        rw [← hes] at HO HE HLN
        obtain ⟨Al, cl, hlv⟩ := slice_form HO.out
        subst hlv
        clear ho hb h1 hrr hby hby3 hlen hn0 hes
        go_wp2_with (at_builtin; refine wpList_append_lies _ rfl (.tmp 30) (.tmp 38) 141 rfl W.heap.size 71 i0 (.agg #[.int .i64 0, .slice none 0 0]) 2 32 Try.underlying141 hi0 hz0 hs0 hb0 rfl (by omega) (.slice Al es.length cl) es.length (rCells es) rfl ?h1 ⟨w0.heap.size, 0, none⟩ 1 1 (rmc (tt, .slice Ab xs.length cb, xs)) rfl rfl ?h2 ?h3 (by omega) ?h4 ?h5 ?h6 _ rfl ?_; (case h1 => exact own_alloc HO.out _); (case h2 => exact World.news_of_block (blk_new w0 _)); (case h3 => simp [rmc, Value.oneCell']); (case h4 => have := HLN.out; simp [maxLen]; omega); (case h5 => have := HLN.out; omega); (case h6 => have := HB.out.size; simp; omega); intro g2 cap2 w2 ho2 hg2 hat2 hlt2; have HO2 := Lib.hid ho2; have HG2 := Lib.hid hg2; clear ho2 hg2 hat2 hlt2)
        go_wp2_with fail
        exact ⟨⟨k + 1, by go_num, by omega, by
          have h := HO2.out
          have e : rCells (es ++ [(tt, .slice Ab xs.length cb, xs)]) = rCells es ++ rmc (tt, .slice Ab xs.length cb, xs) := by rw [rCells_append]; simp [rCells]
          rw [HE.out, e, List.length_append]
          exact h, (((Below.refl _ w0).alloc (Nat.le_refl _) _).mono HB.out.size |> HB.out.trans).grown HG2.out (by have := HB.out.size; simp; omega) (fun b hb => own_base HO.out b hb)⟩, by simp [intOf]; omega⟩
    · have hk' : k = rs.length := by omega
      rw [hk', er_all] at HO
      rw [hk']
      obtain ⟨Al, cl, hlv⟩ := slice_form HO.out
      subst hlv
      clear hb h1 ho hk' hlt
      go_wp2_with fail
      go_ret
      exact ⟨rfl, _, rput_row H.out HBS.out HB.out HO.out (fun r hr => List.mem_of_mem_eraseIdx hr)⟩
set_option maxRecDepth 20000 in
set_option maxHeartbeats 1600000 in
theorem rtake_none (i : Int) (W : World) (base g : Nat) (v : Value) (room : Int) (gone : Nat) (rs : List RM) (h : Rn W base g v room gone rs) (hi : i < 0 ∨ (rs.length : Int) ≤ i) :
    Calls Try.prog 58 #[.pointer (some ⟨g, 0, none⟩), .int .i64 i] W fun e w' => e = .returned (.tuple #[.agg #[.int .i64 0, .slice none 0 0], .bool false]) ∧ Below W.heap.size W w' := by
  obtain ⟨W1, hW1⟩ : ∃ W1, W1 = W.alloc (.cells #[.int .i64 0, .slice none 0 0] 71) := ⟨_, rfl⟩
  have hb1 : Below W.heap.size W W1 := by rw [hW1]; exact (Below.refl _ _).alloc (Nat.le_refl _) _
  have hby : W1.heap[W.heap.size]? = some (.cells #[.int .i64 0, .slice none 0 0] 71 (0, 0)) := by rw [hW1]; exact blk_new W _
  have CL := Lib.hid (rlook_none i W1 base g v room gone rs (rn_below h hb1) hi)
  have CD : Hid (∀ w', Below W1.heap.size W1 w' → _) := fun w' hw => rdrop_none i w' base g v room gone rs (rn_below (rn_below h hb1) hw) hi
  have HB1 := Lib.hid hb1
  have HBY := Lib.hid hby
  have HW1 := Lib.hid hW1
  clear h hi hb1 hby hW1
  go_enter Try.func58, Try.ntmps58
  go_wp2_with fail
  rw [← HW1.out]
  refine CL.out.mono ?_; rintro e w2 ⟨rfl, hb2⟩
  have C2 := Lib.hid (CD.out _ (hb2.alloc hb2.size (.cells #[.int .i64 0, .slice none 0 0] 71)))
  have h4 := blk_alloc (blk_below HBY.out hb2) (.cells #[.int .i64 0, .slice none 0 0] 71)
  have h5 := blk_new w2 (.cells #[.int .i64 0, .slice none 0 0] 71)
  have z0 := blk_cell h4 0
  have z1 := blk_cell h4 1
  have f0 := blk_frozen h4 0
  have f1 := blk_frozen h4 1
  have y0 := blk_cell h5 0
  have y1 := blk_cell h5 1
  simp at z0 z1 y0 y1
  have HB2 := Lib.hid hb2
  clear hb2 h4 h5
  go_wp2_with fail
  refine C2.out.mono ?_; rintro e w3 ⟨rfl, rfl⟩
  go_wp2_with fail
  refine bodyPost_ret (results_cell2 rfl _ _ _ ⟨W.heap.size, 0, none⟩ (.agg #[.int .i64 0, .slice none 0 0]) (.bool false) rfl (by go_simp) rfl) rfl ?_
  have hB : Below W.heap.size W w2 := HB1.out.trans (HB2.out.mono HB1.out.size)
  exact ⟨rfl, ((hB.alloc hB.size _).setCell (Nat.le_refl _) _).setCell (Nat.le_refl _) _⟩
set_option maxRecDepth 20000 in
set_option maxHeartbeats 1600000 in
theorem rtake_calls (i : Nat) (W : World) (base g : Nat) (v : Value) (room : Int) (gone : Nat) (rs : List RM) (h : Rn W base g v room gone rs) (hbase : base ≤ W.heap.size) (hi : i < rs.length) (hm : rs.length ≤ 1099511627776) (hxl : (rs[i]).2.2.length ≤ 140737488355328) :
    Calls Try.prog 58 #[.pointer (some ⟨g, 0, none⟩), .int .i64 i] W fun e w' => ∃ Au cu v', e = .returned (.tuple #[.agg #[.int .i64 (rs[i]).1, .slice Au (rs[i]).2.2.length cu], .bool true]) ∧ w'.ownsRow W.heap.size 5 1 (.slice Au (rs[i]).2.2.length cu) (rs[i]).2.2.length (encs U (rs[i]).2.2) ∧ RPut W w' base g v v' room gone (rs.eraseIdx i) := by
  obtain ⟨W1, hW1⟩ : ∃ W1, W1 = W.alloc (.cells #[.int .i64 0, .slice none 0 0] 71) := ⟨_, rfl⟩
  have hb1 : Below W.heap.size W W1 := by rw [hW1]; exact (Below.refl _ _).alloc (Nat.le_refl _) _
  have hby : W1.heap[W.heap.size]? = some (.cells #[.int .i64 0, .slice none 0 0] 71 (0, 0)) := by rw [hW1]; exact blk_new W _
  have CL := Lib.hid (rlook_calls i W1 base g v room gone rs (rn_below h hb1) hi hxl)
  have CD : Hid (∀ w', Below W1.heap.size W1 w' → _) := fun w' hw => rdrop_calls i w' base g v room gone rs (rn_below (rn_below h hb1) hw) (Nat.le_trans hbase (Nat.le_trans hb1.size hw.size)) hi hm
  have H := Lib.hid h
  have HB1 := Lib.hid hb1
  have HBY := Lib.hid hby
  have HW1 := Lib.hid hW1
  have HBS := Lib.hid hbase
  obtain ⟨r, hrr⟩ : ∃ r, r = rs[i] := ⟨_, rfl⟩
  rw [← hrr] at CL ⊢
  obtain ⟨tt, u, xs⟩ := r
  simp only at CL ⊢
  clear h hi hb1 hby hW1 hbase hm hxl hrr
  go_enter Try.func58, Try.ntmps58
  go_wp2_with fail
  rw [← HW1.out]
  refine CL.out.mono ?_; rintro e w2 ⟨Au, cu, rfl, hu, hb2⟩
  have hb2a := hb2.alloc hb2.size (.cells #[.int .i64 tt, .slice Au xs.length cu] 71)
  have C2 := Lib.hid (CD.out _ hb2a)
  have h4 := blk_alloc (blk_below HBY.out hb2) (.cells #[.int .i64 tt, .slice Au xs.length cu] 71)
  have h5 := blk_new w2 (.cells #[.int .i64 tt, .slice Au xs.length cu] 71)
  have HB2 := Lib.hid hb2
  have HB2A := Lib.hid hb2a
  have HU := Lib.hid (own_alloc hu (.cells #[.int .i64 tt, .slice Au xs.length cu] 71))
  have H4 := Lib.hid h4
  have H5 := Lib.hid h5
  clear hb2 hb2a h4 h5 hu
  go_wp2_with fail
  refine C2.out.mono ?_; rintro e w3 ⟨rfl, v3, hp⟩
  have l1 := blk_lt H.out.blk
  have l2 := HB1.out.size
  have l3 := HB2.out.size
  have lv : ∀ b, v.ownBlock = some b → b < W.heap.size := fun b hb => own_lt H.out.own b hb
  have h4 := hp.kb.blk H4.out (by omega) (fun e => by have := lv _ e.symm; omega)
  have h5 := hp.kb.blk H5.out (by omega) (fun e => by have := lv _ e.symm; omega)
  have hu := hp.kb.own HU.out (own_ne_t HU.out (rn_below H.out (HB1.out.trans (HB2A.out.mono HB1.out.size))).blk (by decide)) (by
    cases hq : (Value.slice Au xs.length cu).ownBlock with
    | none => exact .inl rfl
    | some b => exact .inr (fun e => by have := lv b e.symm; have := own_base HU.out b hq; omega))
  have z0 := blk_cell h4 0
  have z1 := blk_cell h4 1
  have f0 := blk_frozen h4 0
  have f1 := blk_frozen h4 1
  have y0 := blk_cell h5 0
  have y1 := blk_cell h5 1
  simp at z0 z1 y0 y1
  have H4' := Lib.hid h4
  have HU3 := Lib.hid hu
  have HP3 := Lib.hid hp
  clear hp hu h4 h5 l1 l2 l3 lv
  go_wp2_with fail
  refine bodyPost_ret (results_cell2 rfl _ _ _ ⟨W.heap.size, 0, none⟩ (.agg #[.int .i64 tt, .slice Au xs.length cu]) (.bool true) rfl (by go_simp) rfl) rfl ?_
  have k1 : w3.ownsRow W.heap.size 5 1 (.slice Au xs.length cu) xs.length (encs U xs) := own_less HU3.out HB1.out.size
  have k2 := own_other k1 (grown_set w3 W.heap.size 0 (.int .i64 tt)) (.inr (own_ne_t k1 H4'.out (by decide)))
  have h5 := blk_put H4'.out 0 (.int .i64 tt) rfl
  have k3 := own_other k2 (grown_set _ W.heap.size 1 (.slice Au xs.length cu)) (.inr (own_ne_t k2 h5 (by decide)))
  have hP := ((RPut.refl H.out).below HBS.out (HB1.out.trans (HB2A.out.mono HB1.out.size))).trans HP3.out
  have hl := blk_lt H.out.blk
  have hv3 : v3.ownBlock ≠ some W.heap.size := by
    intro e
    rcases HP3.out.hat with h | h | ⟨b, h, hb⟩
    · rw [h] at e; cases e
    · rw [h] at e; have := own_lt H.out.own _ e; omega
    · rw [h] at e; injection e with e; have := HB1.out.size; have := HB2.out.size; have := HB2A.out.size; have := blk_lt HBY.out; omega
  exact ⟨Au, cu, v3, rfl, k3, rput_set (rput_set hP hl (Nat.le_refl _) HBS.out hv3 H4'.out 0 _) hl (Nat.le_refl _) HBS.out hv3 h5 1 _⟩
end Go.Proofs.Ytfmggmpllggbnaa.RNet
