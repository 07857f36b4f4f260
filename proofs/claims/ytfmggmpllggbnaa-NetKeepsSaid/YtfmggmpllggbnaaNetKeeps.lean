/- NetKeeps: messages with numbers of their own: what is sent or doubled and neither taken nor dropped is there, in its order. -/
import Derived.Test.YtfmggmpllggbnaaNetEq
import Derived.Test.YtfmggmpllggbnaaGen
import Derived.Test.YtfmggmpllggbnaaOpen
namespace Go.Proofs.Ytfmggmpllggbnaa.NetKeeps
open Go.RowKit Go.Proofs.YtfmggmpllggbnaaW.PrintWords Go.Proofs.Ytfmggmpllggbnaa.Net Go.Proofs.Ytfmggmpllggbnaa.Opn
open Go.Sort (grow)
set_option linter.unusedVariables false
set_option linter.unusedSimpArgs false
abbrev I64 (a : Int) : Prop := -9223372036854775808 ≤ a ∧ a ≤ 9223372036854775807
abbrev KM := Kd.pair (Kd.int .i64) (Kd.int .i64)
theorem info3 : (Try.prog.info? 3).map (fun i => (i.zero, i.size, i.bytes)) = some (some (.int .i64 0), 1, 8) := by kernel_rfl
/-- The row of numbers that the law keeps. -/
structure Row (W : World) (base : Nat) (rv : Value) (rs : List Nat) (i : Nat) : Prop where
  own : W.ownsRow base 3 1 rv rs.length (nums .i64 (rs.map Int.ofNat))
  lt : ∀ r ∈ rs, r < 300
  len : rs.length ≤ i
structure St (W0 W : World) (base g : Nat) (v rv : Value) (R : Int) (lost i : Nat) (rs : List Nat) : Prop where
  nt : Nt W base g v R lost (rs.map mg)
  row : Row W base rv rs i
  lo : lost ≤ i
  bl : Below base W0 W
theorem Row.ne {W : World} {base g : Nat} {v rv : Value} {R : Int} {lost i : Nat} {rs : List Nat} {ms : List (Int × ByteArray)} (h : Row W base rv rs i) (hn : Nt W base g v R lost ms) : rv.ownBlock ≠ some g := by
  intro e
  obtain ⟨cs, hk⟩ := own_kind h.own g e
  rw [hn.blk] at hk
  simp at hk
theorem Row.put {W W1 : World} {base g : Nat} {v v' rv : Value} {R : Int} {lost l2 i : Nat} {rs : List Nat} {ms ms' : List (Int × ByteArray)} (h : Row W base rv rs i) (hn : Nt W base g v R lost ms) (hp : NtPut W W1 base g v v' R l2 ms') : Row W1 base rv rs i :=
  ⟨hp.kb.own h.own (h.ne hn) (own_type_ne h.own hn.own (by decide)), h.lt, h.len⟩
theorem St.below {W0 W W1 : World} {base g : Nat} {v rv : Value} {R : Int} {lost i : Nat} {rs : List Nat} (h : St W0 W base g v rv R lost i rs) (hb : Below W.heap.size W W1) (hz : base ≤ W0.heap.size) : St W0 W1 base g v rv R lost i rs :=
  ⟨nt_below h.nt hb, ⟨pw_own_below h.row.own hb, h.row.lt, h.row.len⟩, h.lo, h.bl.trans (hb.mono (Nat.le_trans hz h.bl.size))⟩
theorem St.put {W0 W W1 : World} {base g : Nat} {v v' rv : Value} {R : Int} {lost l2 i i2 : Nat} {rs rs2 : List Nat} (h : St W0 W base g v rv R lost i rs) (hp : NtPut W W1 base g v v' R l2 (rs2.map mg)) (hl : l2 ≤ i2) (hr : Row W1 base rv rs2 i2) : St W0 W1 base g v' rv R l2 i2 rs2 :=
  ⟨hp.nt, hr, hl, h.bl.trans hp.bl⟩
theorem Row.less {W : World} {base : Nat} {rv : Value} {rs : List Nat} {i j : Nat} (h : Row W base rv rs i) (hij : i ≤ j) : Row W base rv rs j := ⟨h.own, h.lt, Nat.le_trans h.len hij⟩
theorem Nt.grown_row {W W1 : World} {base g : Nat} {v rv : Value} {R : Int} {l i : Nat} {rs : List Nat} {ms : List (Int × ByteArray)} (hn : Nt W base g v R l ms) (hr : Row W base rv rs i) (hg : W.grownBy W1 rv.ownBlock) : Nt W1 base g v R l ms :=
  ⟨blk_grown hn.blk hg (fun e => hr.ne hn e.symm), hn.le, own_other hn.own hg (own_type_ne hn.own hr.own (by decide))⟩
theorem Row.snoc {W : World} {base : Nat} {v : Value} {rs : List Nat} {r i : Nat} (ho : W.ownsRow base 3 1 v (rs.length + 1) (nums .i64 (rs.map Int.ofNat ++ [(r : Int)]))) (hl : ∀ a ∈ rs, a < 300) (hr : r < 300) (hn : rs.length ≤ i) : Row W base v (rs ++ [r]) (i + 1) := by
  refine ⟨?_, ?_, by simp; omega⟩
  · rw [List.map_append, List.length_append]; exact ho
  · intro a ha
    rcases List.mem_append.1 ha with h | h
    · exact hl a h
    · simp at h; omega
theorem erase_map (rs : List Nat) (k : Nat) : (rs.map mg).eraseIdx k = (rs.eraseIdx k).map mg := by rw [List.eraseIdx_eq_take_drop_succ, List.eraseIdx_eq_take_drop_succ, List.map_append, List.map_take, List.map_drop]
theorem erase_nums (rs : List Nat) (k : Nat) : (rs.map Int.ofNat).take k ++ (rs.map Int.ofNat).drop (k + 1) = (rs.eraseIdx k).map Int.ofNat := by rw [List.eraseIdx_eq_take_drop_succ, List.map_append, List.map_take, List.map_drop]
theorem Row.erase {W : World} {base : Nat} {v : Value} {rs : List Nat} {k i : Nat} (hk : k < rs.length) (ho : W.ownsRow base 3 1 v (rs.length - 1) (encs (Value.int .i64) ((rs.map Int.ofNat).take k ++ (rs.map Int.ofNat).drop (k + 1)))) (hl : ∀ a ∈ rs, a < 300) (hn : rs.length ≤ i) : Row W base v (rs.eraseIdx k) (i + 1) := by
  refine ⟨?_, fun a ha => hl a (List.mem_of_mem_eraseIdx ha), by rw [List.length_eraseIdx_of_lt hk]; omega⟩
  rw [erase_nums] at ho
  rw [List.length_eraseIdx_of_lt hk]
  exact ho
theorem Row.reads {W : World} {base n c i : Nat} {A : Option Addr} {rs : List Nat} (h : Row W base (.slice A n c) rs i) (hn : n = rs.length) : ReadsOf (Value.int .i64) (0 : Int) W A rs.length (rs.map Int.ofNat) := by
  subst hn
  exact own_reads_of' h.own
theorem St.less {W0 W : World} {base g : Nat} {v rv : Value} {R : Int} {lost i j : Nat} {rs : List Nat} (h : St W0 W base g v rv R lost i rs) (hij : i ≤ j) : St W0 W base g v rv R lost j rs := ⟨h.nt, h.row.less hij, Nat.le_trans h.lo hij, h.bl⟩
theorem Row.cell {W : World} {base gr n c i : Nat} {rs : List Nat} (h : Row W base (.slice (some ⟨gr, 0, none⟩) n c) rs i) (k : Nat) (hk : k < rs.length) (hn : n = rs.length) : W.cell? ⟨gr, k, none⟩ = some (.int .i64 ((rs[k]'hk : Nat) : Int)) := by
  subst hn
  rw [h.own.cellAt k (by omega)]
  simp [nums, hk]
theorem grown_lit {B g n c : Nat} {w W W1 : World} (h : Below B w W) (hs : B ≤ W.heap.size) (hg : W.grownBy W1 (Value.slice (some ⟨g, 0, none⟩) n c).ownBlock) (hB : B ≤ g) : Below B w W1 :=
  h.grown hg hs (fun b hb => by simp [Value.ownBlock] at hb; omega)
theorem hat_lit {B g n c H : Nat} {x : Value} (hat : x.ownBlock = (Value.slice (some ⟨g, 0, none⟩) n c).ownBlock ∨ x.ownBlock = some H) (hB : B ≤ g) (hH : B ≤ H) : ∀ b, x.ownBlock = some b → B ≤ b := fun b hb => by
  rcases hat with h | h
  · rw [h] at hb; simp [Value.ownBlock] at hb; omega
  · rw [h] at hb; injection hb with hb; omega
theorem nums_map (rs : List Nat) : (nums .i64 (rs.map Int.ofNat)).length = rs.length := by simp [nums]
set_option maxHeartbeats 12800000 in
set_option maxRecDepth 100000 in
theorem walk (room : Int) (mv : List (Int × Int)) (A : Option Addr) (c : Nat) (w : World)
    (hr : KM.C w A mv.length mv) (hv : ∀ q, q ∈ mv → I64 q.1 ∧ I64 q.2) (hroom : I64 room) :
    Calls Try.prog 8 #[.agg #[.int .i64 room, .slice A mv.length c]] w fun e w' => e = .returned (.bool true) ∧ Below w.heap.size w w' := by
  have hn := Kd.C_max hr
  have HR := Lib.hid hr
  have HV := Lib.hid hv
  have HB0 : Hid (Below w.heap.size w (w.alloc (.cells #[.int .i64 room, .slice A mv.length c] 53))) := (Below.refl _ _).alloc (Nat.le_refl _) _
  have hbox0 : (w.alloc (.cells #[.int .i64 room, .slice A mv.length c] 53)).cell? ⟨w.heap.size, 0, none⟩ = some (.int .i64 room) := by go_simp
  have hbox1 : (w.alloc (.cells #[.int .i64 room, .slice A mv.length c] 53)).cell? ⟨w.heap.size, 1, none⟩ = some (.slice A mv.length c) := by go_simp
  obtain ⟨W0, hW0⟩ : ∃ W0, W0 = w.alloc (.cells #[.int .i64 room, .slice A mv.length c] 53) := ⟨_, rfl⟩
  have hsz : W0.heap.size = w.heap.size + 1 := by rw [hW0]; simp
  rw [← hW0] at hbox0 hbox1 HB0
  have HX1 := Lib.hid hbox1
  have HW0 := Lib.hid hW0
  have HSZ := Lib.hid hsz
  have HBX : Hid (∀ (W : World) (j : Nat) (v : Value), Below W0.heap.size W0 W → W0.cell? ⟨w.heap.size, j, none⟩ = some v → W.cell? ⟨w.heap.size, j, none⟩ = some v) := fun W j v hb h => (hb.cell (p := ⟨w.heap.size, j, none⟩) (by have := HSZ.out; simp; omega)).trans h
  have HCI := Lib.hid (into_gen room 40 · (by omega) (by omega) hroom.1 hroom.2)
  obtain ⟨m0, hm0⟩ : ∃ m, m = room % 40 := ⟨_, rfl⟩
  have hm0r : 0 ≤ m0 ∧ m0 < 40 := by omega
  rw [← hm0] at HCI
  clear hW0 hsz hbox1 hr hv hroom hm0
  obtain ⟨hm1, hm2⟩ := hm0r
  have CN := Lib.hid (new_calls (1 + m0) W0 W0.heap.size (Nat.le_refl _) (by omega) (by omega))
  have CU := fun w => Lib.hid (num_calls 0 w)
  have CLV := fun w => Lib.hid (lives_calls w)
  go_enter Try.func8, Try.ntmps8
  go_wp2_with fail
  rw [← HW0.out]
  go_wp2_with fail
  refine (HCI.out _).mono ?_; rintro e w1 ⟨rfl, rfl⟩
  go_wp2_with fail
  refine CN.out.mono ?_; rintro e w2 ⟨rfl, hn2, hb2⟩
  have HN2 := Lib.hid hn2
  have HB2 := Lib.hid hb2
  clear hn2 hb2
  go_wp2_with fail
  refine (CU _).out.mono ?_; rintro e w3 ⟨rfl, rfl⟩
  go_wp2_with fail
  refine (CLV _).out.mono ?_; rintro e w4 ⟨rfl, hb4⟩
  have HN4 := Lib.hid (nt_below HN2.out hb4)
  have HB4 := Lib.hid (HB2.out.trans (hb4.mono HB2.out.size))
  clear hb4 CU CLV hbox0
  go_wp2_with fail
  have ST0 : Hid (St w1 w4 w1.heap.size w1.heap.size (.slice none 0 0) (.slice none 0 0) (1 + m0) 0 0 []) := ⟨HN4.out, ⟨own_nil _ _ _ _, by simp, by simp⟩, Nat.le_refl _, HB4.out⟩
  go_loopw [6, 7, 8] (fun rv lo iv wr => ∃ (i : Nat) (rs : List Nat) (lost : Nat) (v' : Value), lo = .int .u64 (lost : Int) ∧ iv = .int .i64 (i : Int) ∧ i ≤ mv.length ∧ i ≤ 300 ∧ St w1 wr w1.heap.size w1.heap.size v' rv (1 + m0) lost i rs) (fun _ _ i _ => 300 - (intOf i).toNat)
  case atStart => exact ⟨0, [], 0, _, rfl, rfl, Nat.zero_le _, Nat.zero_le _, ST0.out⟩
  case round =>
    obtain ⟨i, rs, lost, v', rfl, rfl, hi1, hi2, hst⟩ := hrel
    have ST := Lib.hid hst
    have hx1 := HBX.out _ _ _ hst.bl HX1.out
    obtain ⟨Ar, cr, hrv⟩ := slice_form hst.row.own
    subst hrv
    clear hst
    by_cases hgo : i < mv.length ∧ i < 300
    · obtain ⟨g1, g2⟩ := hgo
      obtain ⟨ad, cq, rfl, hlq, hKq, hcq⟩ := Kd.C_get (Kd.C_below (Kd.C_below HR.out HB0.out) ST.out.bl) (0, 0) (i : Int) (by omega) (by omega)
      have hgq : mv.getD (i : Int).toNat (0, 0) = mv[i] := by rw [Int.toNat_natCast, List.getD_eq_getElem?_getD, List.getElem?_eq_getElem g1]; rfl
      have hvq := HV.out mv[i] (List.getElem_mem g1)
      rw [hgq] at hKq
      obtain ⟨q, hqd⟩ : ∃ q, q = mv[i] := ⟨_, rfl⟩
      rw [← hqd] at hKq hvq
      clear hqd hgq
      obtain ⟨d, at_⟩ := q
      obtain ⟨_, _, rfl, rfl, rfl⟩ := hKq
      rw [Int.toNat_natCast] at hcq
      have hq0 : wr.cell? (ad.add (i * 2)) = some (.int .i64 d) := hcq 0 _ rfl
      have hq1 : wr.cell? ⟨(ad.add (i * 2)).block, (ad.add (i * 2)).off + 1, none⟩ = some (.int .i64 at_) := by rw [← add_field _ _ 1 (by omega)]; exact hcq 1 _ rfl
      obtain ⟨hd, hat⟩ := hvq
      have b1 : (i : Int) < (mv.length : Int) := by omega
      have b2 : (i : Int) < 300 := by omega
      have b3 : (0 : Int) ≤ (i : Int) := by omega
      clear hcq hd hat
      by_cases hd1 : d = 1
      · subst hd1
        have hcase : (0 ≤ at_ ∧ at_ < (rs.length : Int)) ∨ (0 ≤ at_ ∧ ¬ at_ < (rs.length : Int)) ∨ ¬ 0 ≤ at_ := by omega
        have CT := fun (W : World) hb => Lib.hid (tag_calls i W w1.heap.size hb (by omega))
        obtain ⟨t7, ht7⟩ : ∃ t7 : Int, t7 = ((i % 7 : Nat) : Int) := ⟨_, rfl⟩
        have hrem : (i : Int) % 7 = t7 := by rw [ht7]; omega
        have HT7 := Lib.hid ht7
        have HMG : Hid ((t7, strOfNums [((i % 256 : Nat) : Int), ((i / 256 : Nat) : Int)]) = mg i) := by rw [ht7]; rfl
        have HRD : Hid (∀ W W' : World, W'.heap[W.heap.size]? = some (.cells #[.int .u8 ((i % 256 : Nat) : Int), .int .u8 ((i / 256 : Nat) : Int)] 5 (0, 0)) → ReadsInt W' .u8 (some ⟨W.heap.size, 0, none⟩) 2 [((i % 256 : Nat) : Int), ((i / 256 : Nat) : Int)]) := fun W W' hb => ⟨rfl, by omega, fun _ => ⟨_, rfl, fun j hj => by
          have : j = 0 ∨ j = 1 := by omega
          rcases this with rfl | rfl <;> (rw [add_plain, cell_of_row W' _ _ _ _ _ hb]; rfl)⟩⟩
        have HCTB := Lib.hid (CT wr ST.out.bl.size)
        clear ht7 CT
        by_cases hro : (rs.length : Int) < 1 + m0
        · as_aux_lemma =>
            rcases hcase with ⟨h0, h1⟩ | ⟨h0, h1⟩ | h0
            all_goals
              go_wp2_with fail
              refine HCTB.out.out.mono ?_; rintro e w5 ⟨rfl, hk5, hb5⟩
              have hst5 := ST.out.below hb5 (Nat.le_refl _)
              have CS := Lib.hid (send_room t7 _ 2 2 _ w5 (HRD.out wr w5 hk5) w1.heap.size w1.heap.size v' (1 + m0) lost (rs.map mg) hst5.nt hst5.bl.size (by simpa using hro) (by have := hst5.row.len; simp; omega))
              rw [HMG.out] at CS
              have ST5 := Lib.hid hst5
              clear hk5 hb5 hst5
              go_wp2_with fail
              refine CS.out.mono ?_; rintro e w6 ⟨rfl, v6, hp6⟩
              have HP6 := Lib.hid hp6
              have ROW6 := Lib.hid (ST5.out.row.put ST5.out.nt hp6)
              clear hp6
              have HBL6 : Hid (Below w1.heap.size w1 w6) := ST5.out.bl.trans HP6.out.bl
              have HLE : Hid ((rs.map Int.ofNat ++ [(i : Int)]).length = rs.length + 1) := by show _ = _; simp
              go_wp2_with (at_builtin; refine print_append_num (w0 := w1) w1.heap.size rfl (.tmp 82) (.tmp 84) 38 3 .i64 8 rfl Try.underlying38 info3 (by omega) (.slice Ar rs.length cr) (rs.map Int.ofNat) (i : Int) rfl rfl ?h1 ?h2 ?h3 ?h4 ?_; (case h1 => have := ROW6.out.own; simpa using this); (case h2 => exact HBL6.out); (case h3 => exact HBL6.out.size); (case h4 => have := ROW6.out.len; simp; omega); intro v9 w9 ho9 hb9 hg9 hat9; rw [HLE.out] at ho9; obtain ⟨A9, c9, rfl⟩ := own_slice ho9; have HO9 := Lib.hid ho9; have HB9 := Lib.hid hb9; have HG9 := Lib.hid hg9; clear ho9 hb9 hg9 hat9)
              have NT9 := Lib.hid (Nt.grown_row HP6.out.nt ROW6.out HG9.out)
              have R9 := Lib.hid (Row.snoc HO9.out ROW6.out.lt g2 ROW6.out.len)
              have CL9 := Lib.hid (len_calls w9 w1.heap.size w1.heap.size v6 (1 + m0) lost _ NT9.out)
              have CO9 := Lib.hid (lost_calls w9 w1.heap.size w1.heap.size v6 (1 + m0) lost _ NT9.out)
              rw [show (rs.map mg ++ [mg i]).length = rs.length + 1 by simp] at CL9
              refine CL9.out.mono ?_; rintro e w10 ⟨rfl, rfl⟩
              go_wp2_with fail
              refine CO9.out.mono ?_; rintro e w11 ⟨rfl, rfl⟩
              go_wp2_with fail
              go_roundw
              case rel => exact ⟨i + 1, rs ++ [i], lost, v6, rfl, by go_num, by omega, by omega, ⟨by rw [List.map_append]; exact NT9.out, R9.out, Nat.le_succ_of_le ST5.out.lo, HB9.out⟩⟩
              case measure => simp [intOf]; omega
        · as_aux_lemma =>
            have i5 : (lost : Int) ≤ 300 := by have := ST.out.lo; omega
            have i6 : (0 : Int) ≤ (lost : Int) := by omega
            rcases hcase with ⟨h0, h1⟩ | ⟨h0, h1⟩ | h0
            all_goals
              go_wp2_with fail
              refine HCTB.out.out.mono ?_; rintro e w5 ⟨rfl, hk5, hb5⟩
              have hst5 := ST.out.below hb5 (Nat.le_refl _)
              have CS := Lib.hid (send_full t7 _ 2 2 _ w5 (HRD.out wr w5 hk5) w1.heap.size w1.heap.size v' (1 + m0) lost (rs.map mg) hst5.nt hst5.bl.size (by simp; omega) (by omega))
              have ST5 := Lib.hid hst5
              clear hk5 hb5 hst5
              go_wp2_with fail
              refine CS.out.mono ?_; rintro e w6 ⟨rfl, hp6⟩
              have ST6 := Lib.hid (ST5.out.put (i2 := i + 1) hp6 (by have := ST5.out.lo; omega) ((ST5.out.row.put ST5.out.nt hp6).less (Nat.le_succ i)))
              clear hp6
              have CLZ := Lib.hid (len_calls w6 w1.heap.size w1.heap.size v' (1 + m0) (lost + 1) _ ST6.out.nt)
              have COZ := Lib.hid (lost_calls w6 w1.heap.size w1.heap.size v' (1 + m0) (lost + 1) _ ST6.out.nt)
              rw [show (rs.map mg).length = rs.length by simp] at CLZ
              go_wp2_with fail
              refine CLZ.out.mono ?_; rintro e wz1 ⟨rfl, rfl⟩
              go_wp2_with fail
              refine COZ.out.mono ?_; rintro e wz2 ⟨rfl, rfl⟩
              go_wp2_with fail
              go_roundw
              case rel => exact ⟨i + 1, rs, lost + 1, v', by go_num, by go_num, by omega, by omega, ST6.out⟩
              case measure => simp [intOf]; omega
      · by_cases hin : 0 ≤ at_ ∧ at_ < (rs.length : Int)
        · obtain ⟨h0, h1⟩ := hin
          obtain ⟨k, rfl⟩ := Int.eq_ofNat_of_zero_le h0
          have hk : k < rs.length := by omega
          have hkm : k < (rs.map mg).length := by simp; omega
          obtain ⟨gr, cr2, hA, _, _⟩ := ST.out.row.own.form (by omega)
          injection hA with hA1 hA2 hA3
          subst hA1
          clear hA2 hA3 cr2
          have hlc : rs.length ≤ cr := own_le ST.out.row.own
          have hkc : k ≤ cr := by omega
          have hkc2 : k + 1 ≤ cr := by omega
          have hkc3 : k + 1 ≤ rs.length := by omega
          have hmm : (rs.map mg).length ≤ 1099511627776 := by have := ST.out.row.len; simp; omega
          have HCUT : Hid (∀ W : World, (Instr.slice 38 (.slice (some ⟨gr, 0, none⟩) rs.length cr) none (some (.int .i64 (k : Int))) none).run Try.prog W = .ok (.slice (some ⟨gr, 0, none⟩) k cr) W) := fun W => by
            obtain ⟨i0, hi0, hz0, hz1, hz2⟩ := info_parts info3
            have h := cut_to (P := Try.prog) 38 3 .i64 Try.underlying38 hi0 (some ⟨gr, 0, none⟩) rs.length cr (k : Int) (by omega) (by omega) (own_le ST.out.row.own) W
            rwa [Int.toNat_natCast] at h
          obtain ⟨A2, HCUT2, HRD2⟩ : ∃ A2 : Option Addr, Hid (∀ W : World, (Instr.slice 38 (.slice (some ⟨gr, 0, none⟩) rs.length cr) (some (.int .i64 ((k : Int) + 1))) none none).run Try.prog W = .ok (.slice A2 (rs.length - (k + 1)) (cr - (k + 1))) W) ∧
              Hid (∀ (w : World), ReadsOf (Value.int .i64) (0 : Int) w (some ⟨gr, 0, none⟩) rs.length (rs.map Int.ofNat) → ReadsOf (Value.int .i64) (0 : Int) w A2 (rs.length - (k + 1)) ((rs.map Int.ofNat).drop (k + 1))) := by
            obtain ⟨i0, hi0, hz0, hz1, hz2⟩ := info_parts info3
            obtain ⟨A2, h1, h2⟩ := print_cut (P := Try.prog) 38 3 .i64 Try.underlying38 hi0 hz1 (some ⟨gr, 0, none⟩) rs.length cr (k + 1) (by omega)
            refine ⟨A2, fun W => ?_, fun w h => h2 w .i64 (rs.map Int.ofNat) (own_le ST.out.row.own) h⟩
            have := h1 W
            simpa using this
          by_cases hd3 : d = 3
          · as_aux_lemma =>
              subst hd3
              have CD := Lib.hid (drop_calls k wr w1.heap.size w1.heap.size v' (1 + m0) lost (rs.map mg) ST.out.nt ST.out.bl.size hkm hmm)
              rw [erase_map] at CD
              go_wp2_with fail
              refine CD.out.mono ?_; rintro e w5 ⟨rfl, v5, hp5⟩
              have ROW5 := Lib.hid (ST.out.row.put ST.out.nt hp5)
              have HP5 := Lib.hid hp5
              have HB5 : Hid (Below w1.heap.size w1 w5) := ST.out.bl.trans hp5.bl
              clear hp5
              have hcut := HCUT.out
              have hcut2 := HCUT2.out
              go_wp2_with fail
              obtain ⟨WL, hWL⟩ : ∃ WL, WL = (w5.alloc (.cells #[] 3)).drew := ⟨_, rfl⟩
              have HLIT : Hid (WL.ownsRow w1.heap.size 3 1 (.slice (some ⟨w5.heap.size, 0, none⟩) 0 0) 0 (encs (Value.int .i64) [])) := by
                rw [hWL]
                exact own_drew (own_lit w5 w1.heap.size 3 .i64 [] HB5.out.size (by simp))
              have HBL : Hid (Below w5.heap.size w5 WL) := by rw [hWL]; exact ((Below.refl _ _).alloc (Nat.le_refl _) _).drew
              have HRL := Lib.hid (ROW5.out.reads rfl)
              have HKL : Hid (k ≤ rs.length) := by show k ≤ rs.length; omega
              have HHK : Hid (k < rs.length) := hk
              have HH5 : Hid (rs.length ≤ 300) := by have := ST.out.row.len; show rs.length ≤ 300; omega
              have HWL := Lib.hid hWL
              have hwk : IntKind.i64.wrap ((k : Int) + 1) = (k : Int) + 1 := IntWalk.i64_in _ ⟨by omega, by have := HH5.out; omega⟩
              clear hWL
              first | (go_region_law (first
                | (refine Gen.step_append_reads rfl (.tmp 139) (.tmp 142) 38 3 rfl (Value.int .i64) (0 : Int) w1.heap.size (.int .i64 0) 8 Try.underlying38 info3 rfl (by omega) (fun _ => rfl) (.slice (some ⟨w5.heap.size, 0, none⟩) 0 0) [] ((rs.map Int.ofNat).take k) (some ⟨gr, 0, none⟩) k cr rfl rfl (by rw [← HWL.out]; exact HLIT.out) (by rw [← HWL.out]; exact (HRL.out.below HBL.out).take_ k HKL.out) (by rw [← HWL.out]; exact Nat.le_trans HB5.out.size HBL.out.size) (by have := HKL.out; have := HH5.out; simp; omega) k (by simp) ?_; intro A10 c10 w10 ho10 hg10 hat10; rw [← HWL.out] at hg10 hat10; have hb10 := grown_lit HBL.out HBL.out.size hg10 (Nat.le_refl _); have hat := hat_lit hat10 (Nat.le_refl _) HBL.out.size; have HO10 := Lib.hid ho10; have HB10 := Lib.hid hb10; have HAT10 := Lib.hid hat; clear ho10 hg10 hat10 hb10 hat)
                | (refine Gen.step_append_reads rfl (.tmp 143) (.tmp 147) 38 3 rfl (Value.int .i64) (0 : Int) w1.heap.size (.int .i64 0) 8 Try.underlying38 info3 rfl (by omega) (fun _ => rfl) (.slice A10 k c10) ((rs.map Int.ofNat).take k) ((rs.map Int.ofNat).drop (k + 1)) A2 (rs.length - (k + 1)) (cr - (k + 1)) rfl rfl (by have := HO10.out; rw [List.nil_append] at this; rw [List.length_take, List.length_map, Nat.min_eq_left HKL.out]; exact this) (by exact HRD2.out _ (HRL.out.below HB10.out)) (by exact Nat.le_trans HB5.out.size HB10.out.size) (by have := HKL.out; have := HH5.out; rw [List.length_take, List.length_map]; omega) (rs.length - 1) (by have := HKL.out; have := HHK.out; rw [List.length_take, List.length_map]; omega) ?_; intro A11 c11 w11 ho11 hg11 hat11; have HO11 := Lib.hid ho11; have HB11 := Lib.hid (HB10.out.grown hg11 HB10.out.size HAT10.out); clear ho11 hg11 hat11))) | fail
              clear hcut hcut2 hwk
              have HBW := Lib.hid HB11.out
              have ROWZ := Lib.hid (Row.erase HHK.out HO11.out ST.out.row.lt ST.out.row.len)
              have STZ : Hid (St w1 w11 w1.heap.size w1.heap.size v5 (.slice A11 (rs.length - 1) c11) (1 + m0) lost (i + 1) (rs.eraseIdx k)) := ⟨nt_below HP5.out.nt HBW.out, ROWZ.out, Nat.le_succ_of_le ST.out.lo, HB5.out.trans (HBW.out.mono HB5.out.size)⟩
              have CLZ := Lib.hid (len_calls w11 w1.heap.size w1.heap.size v5 (1 + m0) (lost) _ STZ.out.nt)
              have COZ := Lib.hid (lost_calls w11 w1.heap.size w1.heap.size v5 (1 + m0) (lost) _ STZ.out.nt)
              rw [show ((rs.eraseIdx k).map mg).length = rs.length - 1 by simp [List.length_eraseIdx_of_lt HHK.out]] at CLZ
              go_wp2_with fail
              refine CLZ.out.mono ?_; rintro e wz1 ⟨rfl, rfl⟩
              go_wp2_with fail
              refine COZ.out.mono ?_; rintro e wz2 ⟨rfl, rfl⟩
              go_wp2_with fail
              go_roundw
              case rel => exact ⟨i + 1, rs.eraseIdx k, lost, v5, by go_num, by go_num, by omega, by omega, STZ.out⟩
              case measure => simp [intOf]; omega
          · by_cases hd2 : d = 2
            · as_aux_lemma =>
                subst hd2
                obtain ⟨r, hr⟩ : ∃ r, r = rs[k] := ⟨_, rfl⟩
                have hr3 : r < 300 := by rw [hr]; exact ST.out.row.lt _ (List.getElem_mem _)
                have hms : (rs.map mg)[k] = ((mg r).1, (mg r).2) := by simp [hr]
                have CT := Lib.hid (take_calls k wr w1.heap.size w1.heap.size v' (1 + m0) lost (rs.map mg) ST.out.nt ST.out.bl.size hkm hmm (mg r).1 (mg r).2 hms)
                rw [erase_map] at CT
                simp only [mg_size] at CT
                obtain ⟨t, ht⟩ : ∃ t : Int, t = (mg r).1 := ⟨_, rfl⟩
                rw [← ht] at CT
                have hmod : (r : Int).tmod 7 = t := by rw [ht]; simp only [mg]; rw [Int.tmod_eq_emod_of_nonneg (by omega)]; omega
                have HR3 := Lib.hid hr3
                have HRR := Lib.hid hr
                clear hr hms ht
                go_wp2_with fail
                refine CT.out.mono ?_; rintro e w4b ⟨g1, c1, v5, rfl, hg1, hl1, hp5⟩
                have ROW4 := Lib.hid (ST.out.row.put ST.out.nt hp5)
                have HP5 := Lib.hid hp5
                have HG1 := Lib.hid hg1
                clear hp5 hg1 hl1
                go_wp2_with fail
                obtain ⟨W2, hW2⟩ : ∃ W2, W2 = w4b.alloc (.cells #[.int .i64 t, .slice (some ⟨g1, 0, none⟩) 2 c1] 71) := ⟨_, rfl⟩
                rw [← hW2]
                have hblk3 := blk_new w4b (.cells #[.int .i64 t, .slice (some ⟨g1, 0, none⟩) 2 c1] 71)
                have hb2 : Below w4b.heap.size w4b W2 := by rw [hW2]; exact (Below.refl _ _).alloc (Nat.le_refl _) _
                rw [← hW2] at hblk3
                have x0 := blk_cell hblk3 0
                have x2 := blk_cell hblk3 1
                simp at x0 x2
                have hrow2 : Row W2 w1.heap.size (.slice (some ⟨gr, 0, none⟩) rs.length cr) rs i := ⟨pw_own_below ROW4.out.own hb2, ROW4.out.lt, ROW4.out.len⟩
                have hcr := hrow2.cell k hk rfl
                rw [← HRR.out] at hcr
                have CW : ∀ d os, Calls Try.prog 29 #[.agg #[.int .i64 t, .slice (some ⟨g1, 0, none⟩) 2 c1]] (grow (redrawn W2 d) os) fun e w'' => e = .returned (.int .i64 (r : Int)) ∧ ∃ p : Regrown, w'' = grow (redrawn W2 p.d) p.os := fun d os =>
                  Gen.calls_regrown (which_mg r g1 c1 (by have := HR3.out; omega) W2 _ t (by obtain ⟨m, hm⟩ := HG1.out; exact ⟨m, blk_below hm hb2⟩) (below_regrown W2 d os))
                have HB2' := Lib.hid hb2
                have HROW2 := Lib.hid hrow2
                have y0 := cell_regrown x0
                have y2 := cell_regrown x2
                have y3 := cell_regrown hcr
                clear hW2 hblk3 hb2 hrow2 x0 x2 hcr
                refine wp_region_quiet_below (by kernel_rfl) (by kernel_rfl) ?_
                repeat (quiet_step (first | with_reducible exact CW _ _))
                refine wpQuiet_nil ?_
                intro w5 hw'
                have hb25 : Below W2.heap.size W2 w5 := by obtain ⟨⟨dq, osq⟩, hw''⟩ := hw'; rw [hw'']; exact below_regrown W2 dq osq
                clear hw'
                have HB5 : Hid (Below w1.heap.size w1 w5) := (ST.out.bl.trans HP5.out.bl).trans ((HB2'.out.trans (hb25.mono HB2'.out.size)).mono (Nat.le_trans ST.out.bl.size HP5.out.bl.size))
                have HNT5 : Hid (Nt w5 w1.heap.size w1.heap.size v5 (1 + m0) lost ((rs.eraseIdx k).map mg)) := nt_below (nt_below HP5.out.nt HB2'.out) hb25
                have ROW5 : Hid (Row w5 w1.heap.size (.slice (some ⟨gr, 0, none⟩) rs.length cr) rs i) := ⟨pw_own_below HROW2.out.own hb25, HROW2.out.lt, HROW2.out.len⟩
                have hcut := HCUT.out
                have hcut2 := HCUT2.out
                clear hb25 y0 y2 y3 CW
                go_wp2_with fail
                obtain ⟨WL, hWL⟩ : ∃ WL, WL = (w5.alloc (.cells #[] 3)).drew := ⟨_, rfl⟩
                have HLIT : Hid (WL.ownsRow w1.heap.size 3 1 (.slice (some ⟨w5.heap.size, 0, none⟩) 0 0) 0 (encs (Value.int .i64) [])) := by
                  rw [hWL]
                  exact own_drew (own_lit w5 w1.heap.size 3 .i64 [] HB5.out.size (by simp))
                have HBL : Hid (Below w5.heap.size w5 WL) := by rw [hWL]; exact ((Below.refl _ _).alloc (Nat.le_refl _) _).drew
                have HRL := Lib.hid (ROW5.out.reads rfl)
                have HKL : Hid (k ≤ rs.length) := by show k ≤ rs.length; omega
                have HHK : Hid (k < rs.length) := hk
                have HH5 : Hid (rs.length ≤ 300) := by have := ST.out.row.len; show rs.length ≤ 300; omega
                have HWL := Lib.hid hWL
                have hwk : IntKind.i64.wrap ((k : Int) + 1) = (k : Int) + 1 := IntWalk.i64_in _ ⟨by omega, by have := HH5.out; omega⟩
                clear hWL
                first | (go_region_law (first
                  | (refine Gen.step_append_reads rfl (.tmp 139) (.tmp 142) 38 3 rfl (Value.int .i64) (0 : Int) w1.heap.size (.int .i64 0) 8 Try.underlying38 info3 rfl (by omega) (fun _ => rfl) (.slice (some ⟨w5.heap.size, 0, none⟩) 0 0) [] ((rs.map Int.ofNat).take k) (some ⟨gr, 0, none⟩) k cr rfl rfl (by rw [← HWL.out]; exact HLIT.out) (by rw [← HWL.out]; exact (HRL.out.below HBL.out).take_ k HKL.out) (by rw [← HWL.out]; exact Nat.le_trans HB5.out.size HBL.out.size) (by have := HKL.out; have := HH5.out; simp; omega) k (by simp) ?_; intro A10 c10 w10 ho10 hg10 hat10; rw [← HWL.out] at hg10 hat10; have hb10 := grown_lit HBL.out HBL.out.size hg10 (Nat.le_refl _); have hat := hat_lit hat10 (Nat.le_refl _) HBL.out.size; have HO10 := Lib.hid ho10; have HB10 := Lib.hid hb10; have HAT10 := Lib.hid hat; clear ho10 hg10 hat10 hb10 hat)
                  | (refine Gen.step_append_reads rfl (.tmp 143) (.tmp 147) 38 3 rfl (Value.int .i64) (0 : Int) w1.heap.size (.int .i64 0) 8 Try.underlying38 info3 rfl (by omega) (fun _ => rfl) (.slice A10 k c10) ((rs.map Int.ofNat).take k) ((rs.map Int.ofNat).drop (k + 1)) A2 (rs.length - (k + 1)) (cr - (k + 1)) rfl rfl (by have := HO10.out; rw [List.nil_append] at this; rw [List.length_take, List.length_map, Nat.min_eq_left HKL.out]; exact this) (by exact HRD2.out _ (HRL.out.below HB10.out)) (by exact Nat.le_trans HB5.out.size HB10.out.size) (by have := HKL.out; have := HH5.out; rw [List.length_take, List.length_map]; omega) (rs.length - 1) (by have := HKL.out; have := HHK.out; rw [List.length_take, List.length_map]; omega) ?_; intro A11 c11 w11 ho11 hg11 hat11; have HO11 := Lib.hid ho11; have HB11 := Lib.hid (HB10.out.grown hg11 HB10.out.size HAT10.out); clear ho11 hg11 hat11))) | fail
                clear hcut hcut2 hwk
                have HBW := Lib.hid HB11.out
                have ROWZ := Lib.hid (Row.erase HHK.out HO11.out ST.out.row.lt ST.out.row.len)
                have STZ : Hid (St w1 w11 w1.heap.size w1.heap.size v5 (.slice A11 (rs.length - 1) c11) (1 + m0) lost (i + 1) (rs.eraseIdx k)) := ⟨nt_below HNT5.out HBW.out, ROWZ.out, Nat.le_succ_of_le ST.out.lo, HB5.out.trans (HBW.out.mono HB5.out.size)⟩
                have CLZ := Lib.hid (len_calls w11 w1.heap.size w1.heap.size v5 (1 + m0) (lost) _ STZ.out.nt)
                have COZ := Lib.hid (lost_calls w11 w1.heap.size w1.heap.size v5 (1 + m0) (lost) _ STZ.out.nt)
                rw [show ((rs.eraseIdx k).map mg).length = rs.length - 1 by simp [List.length_eraseIdx_of_lt HHK.out]] at CLZ
                go_wp2_with fail
                refine CLZ.out.mono ?_; rintro e wz1 ⟨rfl, rfl⟩
                go_wp2_with fail
                refine COZ.out.mono ?_; rintro e wz2 ⟨rfl, rfl⟩
                go_wp2_with fail
                go_roundw
                case rel => exact ⟨i + 1, rs.eraseIdx k, lost, v5, by go_num, by go_num, by omega, by omega, STZ.out⟩
                case measure => simp [intOf]; omega
            · by_cases hd4 : d = 4
              · subst hd4
                by_cases hro : (rs.length : Int) < 1 + m0
                · as_aux_lemma =>
                    obtain ⟨r, hr⟩ : ∃ r, r = rs[k] := ⟨_, rfl⟩
                    have hr3 : r < 300 := by rw [hr]; exact ST.out.row.lt _ (List.getElem_mem _)
                    have CD := Lib.hid (double_room k wr w1.heap.size w1.heap.size v' (1 + m0) lost (rs.map mg) ST.out.nt ST.out.bl.size hkm (by simpa using hro) hmm)
                    rw [show (rs.map mg)[k] = mg r by simp [hr]] at CD
                    have HR3 := Lib.hid hr3
                    have HRR := Lib.hid hr
                    clear hr hr3
                    go_wp2_with fail
                    refine CD.out.mono ?_; rintro e w5 ⟨rfl, v5, hp5⟩
                    have ROW5 := Lib.hid (ST.out.row.put ST.out.nt hp5)
                    have HP5 := Lib.hid hp5
                    have HB5 : Hid (Below w1.heap.size w1 w5) := ST.out.bl.trans hp5.bl
                    have hcr := ROW5.out.cell k hk rfl
                    rw [← HRR.out] at hcr
                    have HLE : Hid ((rs.map Int.ofNat ++ [(r : Int)]).length = rs.length + 1) := by show _ = _; simp
                    clear hp5
                    go_wp2_with (at_builtin; refine print_append_num (w0 := w1) w1.heap.size rfl (.tmp 166) (.tmp 171) 38 3 .i64 8 rfl Try.underlying38 info3 (by omega) (.slice (some ⟨gr, 0, none⟩) rs.length cr) (rs.map Int.ofNat) (r : Int) rfl rfl ?k1 ?k2 ?k3 ?k4 ?_; (case k1 => have := ROW5.out.own; simpa using this); (case k2 => exact HB5.out); (case k3 => exact HB5.out.size); (case k4 => have := ROW5.out.len; simp; omega); intro v9 w9 ho9 hb9 hg9 hat9; rw [HLE.out] at ho9; obtain ⟨A9, c9, rfl⟩ := own_slice ho9; have HO9 := Lib.hid ho9; have HB9 := Lib.hid hb9; have HG9 := Lib.hid hg9; clear ho9 hb9 hg9 hat9)
                    have NT9 := Lib.hid (Nt.grown_row HP5.out.nt ROW5.out HG9.out)
                    have R9 := Lib.hid (Row.snoc HO9.out ROW5.out.lt HR3.out ROW5.out.len)
                    have CLZ := Lib.hid (len_calls w9 w1.heap.size w1.heap.size v5 (1 + m0) (lost) _ NT9.out)
                    have COZ := Lib.hid (lost_calls w9 w1.heap.size w1.heap.size v5 (1 + m0) (lost) _ NT9.out)
                    rw [show (rs.map mg ++ [mg r]).length = rs.length + 1 by simp] at CLZ
                    skip
                    refine CLZ.out.mono ?_; rintro e wz1 ⟨rfl, rfl⟩
                    go_wp2_with fail
                    refine COZ.out.mono ?_; rintro e wz2 ⟨rfl, rfl⟩
                    go_wp2_with fail
                    go_roundw
                    case rel => exact ⟨i + 1, rs ++ [r], lost, v5, by go_num, by go_num, by omega, by omega, ⟨by rw [List.map_append]; exact NT9.out, R9.out, Nat.le_succ_of_le ST.out.lo, HB9.out⟩⟩
                    case measure => simp [intOf]; omega
                · as_aux_lemma =>
                    have CD := Lib.hid (double_full k wr w1.heap.size w1.heap.size v' (1 + m0) lost (rs.map mg) ST.out.nt hkm (by simp; omega))
                    go_wp2_with fail
                    refine CD.out.mono ?_; rintro e w5 ⟨rfl, hb5⟩
                    have STZ := Lib.hid ((ST.out.below hb5 (Nat.le_refl _)).less (Nat.le_succ i))
                    clear hb5
                    have CLZ := Lib.hid (len_calls w5 w1.heap.size w1.heap.size v' (1 + m0) (lost) _ STZ.out.nt)
                    have COZ := Lib.hid (lost_calls w5 w1.heap.size w1.heap.size v' (1 + m0) (lost) _ STZ.out.nt)
                    rw [show (rs.map mg).length = rs.length by simp] at CLZ
                    go_wp2_with fail
                    refine CLZ.out.mono ?_; rintro e wz1 ⟨rfl, rfl⟩
                    go_wp2_with fail
                    refine COZ.out.mono ?_; rintro e wz2 ⟨rfl, rfl⟩
                    go_wp2_with fail
                    go_roundw
                    case rel => exact ⟨i + 1, rs, lost, v', by go_num, by go_num, by omega, by omega, STZ.out⟩
                    case measure => simp [intOf]; omega
              · as_aux_lemma =>
                  have STZ := Lib.hid (ST.out.less (Nat.le_succ i))
                  have CLZ := Lib.hid (len_calls wr w1.heap.size w1.heap.size v' (1 + m0) (lost) _ STZ.out.nt)
                  have COZ := Lib.hid (lost_calls wr w1.heap.size w1.heap.size v' (1 + m0) (lost) _ STZ.out.nt)
                  rw [show (rs.map mg).length = rs.length by simp] at CLZ
                  go_wp2_with fail
                  refine CLZ.out.mono ?_; rintro e wz1 ⟨rfl, rfl⟩
                  go_wp2_with fail
                  refine COZ.out.mono ?_; rintro e wz2 ⟨rfl, rfl⟩
                  go_wp2_with fail
                  go_roundw
                  case rel => exact ⟨i + 1, rs, lost, v', by go_num, by go_num, by omega, by omega, STZ.out⟩
                  case measure => simp [intOf]; omega
        · have hout : at_ < 0 ∨ ((rs.map mg).length : Int) ≤ at_ := by simp; omega
          have hcase : (0 ≤ at_ ∧ ¬ at_ < (rs.length : Int)) ∨ ¬ 0 ≤ at_ := by omega
          have HOUT := Lib.hid hout
          clear hout hin
          by_cases hd3 : d = 3
          · as_aux_lemma =>
              subst hd3
              have CD := Lib.hid (drop_none at_ wr w1.heap.size w1.heap.size v' (1 + m0) lost (rs.map mg) ST.out.nt HOUT.out)
              rcases hcase with ⟨h0, h1⟩ | h0
              all_goals
                go_wp2_with fail
                refine CD.out.mono ?_; rintro e w5 ⟨rfl, rfl⟩
                have STZ := Lib.hid (ST.out.less (Nat.le_succ i))
                have CLZ := Lib.hid (len_calls w5 w1.heap.size w1.heap.size v' (1 + m0) (lost) _ STZ.out.nt)
                have COZ := Lib.hid (lost_calls w5 w1.heap.size w1.heap.size v' (1 + m0) (lost) _ STZ.out.nt)
                rw [show (rs.map mg).length = rs.length by simp] at CLZ
                go_wp2_with fail
                refine CLZ.out.mono ?_; rintro e wz1 ⟨rfl, rfl⟩
                go_wp2_with fail
                refine COZ.out.mono ?_; rintro e wz2 ⟨rfl, rfl⟩
                go_wp2_with fail
                go_roundw
                case rel => exact ⟨i + 1, rs, lost, v', by go_num, by go_num, by omega, by omega, STZ.out⟩
                case measure => simp [intOf]; omega
          · by_cases hd2 : d = 2
            · as_aux_lemma =>
                subst hd2
                have CT := Lib.hid (take_none at_ wr w1.heap.size w1.heap.size v' (1 + m0) lost (rs.map mg) ST.out.nt HOUT.out)
                rcases hcase with ⟨h0, h1⟩ | h0
                all_goals
                  go_wp2_with fail
                  refine CT.out.mono ?_; rintro e w5 ⟨rfl, hb5⟩
                  have hst5 := ST.out.below hb5 (Nat.le_refl _)
                  have STA := Lib.hid (hst5.below ((Below.refl _ _).alloc (Nat.le_refl _) (.cells #[.int .i64 0, .slice none 0 0] 71)) (Nat.le_refl _))
                  clear hb5 hst5
                  go_wp2_with fail
                  go_quiet (fail)
                  obtain ⟨w6, hw6⟩ : ∃ w6, w6 = (w5.alloc (.cells #[.int .i64 0, .slice none 0 0] 71)).drewN nq := ⟨_, rfl⟩
                  rw [← hw6]
                  have STZ : Hid (St w1 w6 w1.heap.size w1.heap.size v' (.slice Ar rs.length cr) (1 + m0) lost (i + 1) rs) := by rw [hw6]; exact (STA.out.below (pw_below_drewN (Below.refl _ _) nq) (Nat.le_refl _)).less (Nat.le_succ i)
                  clear hw6
                  have CLZ := Lib.hid (len_calls w6 w1.heap.size w1.heap.size v' (1 + m0) (lost) _ STZ.out.nt)
                  have COZ := Lib.hid (lost_calls w6 w1.heap.size w1.heap.size v' (1 + m0) (lost) _ STZ.out.nt)
                  rw [show (rs.map mg).length = rs.length by simp] at CLZ
                  go_wp2_with fail
                  refine CLZ.out.mono ?_; rintro e wz1 ⟨rfl, rfl⟩
                  go_wp2_with fail
                  refine COZ.out.mono ?_; rintro e wz2 ⟨rfl, rfl⟩
                  go_wp2_with fail
                  go_roundw
                  case rel => exact ⟨i + 1, rs, lost, v', by go_num, by go_num, by omega, by omega, STZ.out⟩
                  case measure => simp [intOf]; omega
            · by_cases hd4 : d = 4
              · subst hd4
                have CD := Lib.hid (double_none at_ wr w1.heap.size w1.heap.size v' (1 + m0) lost (rs.map mg) ST.out.nt HOUT.out)
                rcases hcase with ⟨h0, h1⟩ | h0
                all_goals
                  go_wp2_with fail
                  refine CD.out.mono ?_; rintro e w5 ⟨rfl, rfl⟩
                  have STZ := Lib.hid (ST.out.less (Nat.le_succ i))
                  have CLZ := Lib.hid (len_calls w5 w1.heap.size w1.heap.size v' (1 + m0) (lost) _ STZ.out.nt)
                  have COZ := Lib.hid (lost_calls w5 w1.heap.size w1.heap.size v' (1 + m0) (lost) _ STZ.out.nt)
                  rw [show (rs.map mg).length = rs.length by simp] at CLZ
                  go_wp2_with fail
                  refine CLZ.out.mono ?_; rintro e wz1 ⟨rfl, rfl⟩
                  go_wp2_with fail
                  refine COZ.out.mono ?_; rintro e wz2 ⟨rfl, rfl⟩
                  go_wp2_with fail
                  go_roundw
                  case rel => exact ⟨i + 1, rs, lost, v', by go_num, by go_num, by omega, by omega, STZ.out⟩
                  case measure => simp [intOf]; omega
              · as_aux_lemma =>
                  rcases hcase with ⟨h0, h1⟩ | h0
                  all_goals
                    have STZ := Lib.hid (ST.out.less (Nat.le_succ i))
                    have CLZ := Lib.hid (len_calls wr w1.heap.size w1.heap.size v' (1 + m0) (lost) _ STZ.out.nt)
                    have COZ := Lib.hid (lost_calls wr w1.heap.size w1.heap.size v' (1 + m0) (lost) _ STZ.out.nt)
                    rw [show (rs.map mg).length = rs.length by simp] at CLZ
                    go_wp2_with fail
                    refine CLZ.out.mono ?_; rintro e wz1 ⟨rfl, rfl⟩
                    go_wp2_with fail
                    refine COZ.out.mono ?_; rintro e wz2 ⟨rfl, rfl⟩
                    go_wp2_with fail
                    go_roundw
                    case rel => exact ⟨i + 1, rs, lost, v', by go_num, by go_num, by omega, by omega, STZ.out⟩
                    case measure => simp [intOf]; omega
    · as_aux_lemma =>
        have hcase : ¬ (i : Int) < (mv.length : Int) ∨ ((i : Int) < (mv.length : Int) ∧ ¬ (i : Int) < 300) := by omega
        have CDR := Lib.hid (drains_calls rs (.slice Ar rs.length cr) wr w1.heap.size w1.heap.size v' (1 + m0) lost ST.out.nt ST.out.bl.size (by have := ST.out.row.len; omega) (fun r hr => by have := ST.out.row.lt r hr; omega) ST.out.row.own)
        clear hgo
        rcases hcase with h0 | ⟨h0, h1⟩
        all_goals
          go_wp2_with fail
          refine CDR.out.mono ?_; rintro e w5 ⟨rfl, hb5⟩
          have HB5 := Lib.hid hb5
          clear hb5
          go_wp2_with fail
          go_ret
          exact ⟨rfl, HB0.out.trans ((ST.out.bl.trans HB5.out).mono (by have := HSZ.out; omega))⟩
end Go.Proofs.Ytfmggmpllggbnaa.NetKeeps
