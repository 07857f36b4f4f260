/- Contracts of tilllaw3.lend and intact: a list in new memory with two marks behind it; is it as it was? -/
import Derived.Test.YtidofjmflpcglaaTotal2
import Derived.OwnWalk
namespace Go.Proofs.Ytidofjmflpcglaa.Total
open Go.RowKit Go.Proofs.Ytidofjmflpcglaa.SumPlain Go.Proofs.YtidofjmflpcglaaW.PrintWords
set_option linter.unusedVariables false
set_option linter.unusedSimpArgs false
theorem info2 : (Try.prog.info? 2).map (fun i => (i.zero, i.size, i.bytes)) = some (some (.int .i64 0), 1, 8) := by kernel_rfl
abbrev I := Value.int IntKind.i64
def marked (xs : List Int) : List Int := xs ++ [4242, -4242]
theorem marked_length (xs : List Int) : (marked xs).length = xs.length + 2 := by simp [marked]
theorem lit_reads (W : World) (e : TypeId) (xs : List Int) (hm : xs.length ≤ 9223372036854775807) : ReadsOf I 0 (W.alloc (.cells (encs I xs).toArray e)) (some ⟨W.heap.size, 0, none⟩) xs.length xs := by
  obtain ⟨A, c, he, hr⟩ := own_reads_of (d := 0) (own_lit_of (enc := I) W W.heap.size e xs (Nat.le_refl _) hm)
  injection he with h1 h2 h3
  rw [h1]; exact hr
theorem own_cap {w : World} {base n cap size : Nat} {e : TypeId} {A : Option Addr} {xs : List Value} (h : w.ownsRow base e size (.slice A n cap) n xs) : n ≤ cap := by
  rcases h.2 with ⟨h', h0⟩ | ⟨g', cap', cur, h', _, _, hn, _⟩
  · omega
  · injection h' with _ _ h'; omega
set_option maxHeartbeats 800000 in
theorem lend_calls (xs : List Int) (A : Option Addr) (c : Nat) (w : World) (hr : (Kd.int .i64).C w A xs.length xs) (hb : xs.length ≤ 1048576) :
    Calls Try.prog 21 #[.slice A xs.length c] w fun e w' => ∃ g cap, e = .returned (.slice (some ⟨g, 0, none⟩) xs.length cap) ∧
      w'.ownsRow w.heap.size 2 1 (.slice (some ⟨g, 0, none⟩) (marked xs).length cap) (marked xs).length (encs I (marked xs)) ∧ Below w.heap.size w w' := by
  have HR : Hid (ReadsOf I 0 w A xs.length xs) := Kd.reads_of_C hr
  clear hr
  go_enter Try.func21, Try.ntmps21
  go_wp2_with (first
    | (at_builtin; refine print_append_row_of I 0 (w0 := w) w.heap.size rfl (.tmp 4) (.tmp 5) 49 2 (.int .i64 0) 8 rfl Try.underlying49 info2 rfl (by omega) (fun _ => rfl) (.slice none 0 0) [] xs A xs.length c rfl rfl ?h1 HR.out ?h2 (Nat.le_refl _) ?h3 ?_; (case h1 => exact own_nil w w.heap.size 2 1); (case h2 => exact Below.refl _ _); (case h3 => simp; omega); intro v1 w1 ho1 hb1 hg1 hat1; rw [List.nil_append] at ho1; have HO1 := Lib.hid ho1; have HB1 := Lib.hid hb1; clear ho1 hb1 hg1 hat1)
    | (at_builtin; refine print_append_row_of I 0 (w0 := w) w.heap.size rfl (.tmp 7) (.tmp 8) 49 2 (.int .i64 0) 8 rfl Try.underlying49 info2 rfl (by omega) (fun _ => rfl) v1 xs [4242, -4242] (some ⟨w1.heap.size, 0, none⟩) 2 2 rfl rfl ?h4 ?h5 ?h6 ?h7 ?h8 ?_; (case h4 => exact HO1.out.alloc _); (case h5 => exact lit_reads w1 2 [4242, -4242] (by simp)); (case h6 => exact HB1.out.alloc HB1.out.size _); (case h7 => have := HB1.out.size; simp; omega); (case h8 => omega); intro v2 w2 ho2 hb2 hg2 hat2; change w2.ownsRow w.heap.size 2 1 v2 (marked xs).length (encs I (marked xs)) at ho2; obtain ⟨g, cap, rfl, hgb, hgl⟩ := ho2.form (by rw [marked_length]; omega); have hcap : xs.length ≤ cap := (by have h9 := own_cap ho2; rw [marked_length] at h9; omega); have HO2 := Lib.hid ho2; have HB2 := Lib.hid hb2; clear ho2 hb2 hg2 hat2))
  go_ret
  exact ⟨g, cap, rfl, HO2.out, HB2.out⟩
/-- Element j of a row of one's own. -/
theorem own_cell {w : World} {base g n cap : Nat} {e : TypeId} {xs : List Int} (h : w.ownsRow base e 1 (.slice (some ⟨g, 0, none⟩) n cap) n (encs I xs)) (j : Nat) (hj : j < xs.length) : w.cell? ⟨g, j, none⟩ = some (I (rd xs (j : Int))) := by
  have hl : xs.length = n := by have := h.1; rw [encs_length] at this; omega
  have := (own_at_of (d := 0) h (j : Int) (by omega) (by omega)).1
  rwa [Int.toNat_natCast] at this
theorem rd_marked (xs : List Int) (j : Nat) (hj : j < xs.length) : rd (marked xs) (j : Int) = rd xs (j : Int) := by
  unfold rd marked
  rw [Int.toNat_natCast, List.getD_eq_getElem?_getD, List.getD_eq_getElem?_getD, List.getElem?_append_left hj]
theorem rd_mark0 (xs : List Int) : rd (marked xs) (xs.length : Int) = 4242 := by
  unfold rd marked
  rw [Int.toNat_natCast, List.getD_eq_getElem?_getD, List.getElem?_append_right (Nat.le_refl _), Nat.sub_self]; rfl
theorem rd_mark1 (xs : List Int) : rd (marked xs) ((xs.length + 1 : Nat) : Int) = -4242 := by
  unfold rd marked
  rw [Int.toNat_natCast, List.getD_eq_getElem?_getD, List.getElem?_append_right (by omega), show xs.length + 1 - xs.length = 1 by omega]; rfl
set_option maxHeartbeats 1600000 in
theorem intact_calls (xs : List Int) (A : Option Addr) (c g cap base : Nat) (w : World) (hr : (Kd.int .i64).C w A xs.length xs) (hb : xs.length ≤ 1048576)
    (ho : w.ownsRow base 2 1 (.slice (some ⟨g, 0, none⟩) (marked xs).length cap) (marked xs).length (encs I (marked xs))) :
    Calls Try.prog 25 #[.slice (some ⟨g, 0, none⟩) xs.length cap, .slice A xs.length c] w fun e w' => e = .returned (.bool true) ∧ Drawn0 w w' := by
  have hcap : xs.length + 2 ≤ cap := by have h9 := own_cap ho; rwa [marked_length] at h9
  have HO := Lib.hid ho
  have HR := Lib.hid hr
  clear ho hr
  have hm0 : w.cell? ⟨g, xs.length, none⟩ = some (I 4242) := by have := own_cell HO.out xs.length (by rw [marked_length]; omega); rwa [rd_mark0] at this
  have hm1 : w.cell? ⟨g, xs.length + 1, none⟩ = some (I (-4242)) := by have := own_cell HO.out (xs.length + 1) (by rw [marked_length]; omega); rwa [rd_mark1] at this
  go_enter Try.func25, Try.ntmps25
  go_wp2_with fail
  go_loopw [6] (fun i wr => ∃ k : Nat, k ≤ xs.length ∧ i = .int .i64 k ∧ Drawn0 w wr) (fun i _ => xs.length - (intOf i).toNat)
  case atStart => exact ⟨0, Nat.zero_le _, rfl, Drawn0.refl _⟩
  case round =>
    obtain ⟨k, hk, rfl, ⟨nd, rfl⟩⟩ := hrel
    by_cases hlt : k < xs.length
    · obtain ⟨ad, rfl, hc⟩ := Kd.at_int HR.out k (by omega) (by omega)
      rw [Int.toNat_natCast] at hc
      have hg : w.cell? ⟨g, k, none⟩ = some (I (rd xs (k : Int))) := by have := own_cell HO.out k (by rw [marked_length]; omega); rwa [rd_marked xs k hlt] at this
      have b1 : (k : Int) < (xs.length : Int) := by omega
      have b2 : (k : Int) < (xs.length : Int) + 2 := by omega
      go_wp2_with fail
      go_quiet (fail)
      go_wp2_with fail
      go_roundw
      case rel => exact ⟨k + 1, by omega, by go_num, ⟨⟨_, rfl⟩⟩⟩
      case measure => simp [intOf]; omega
    · go_wp2_with fail
      go_ret
      exact ⟨rfl, ⟨⟨_, rfl⟩⟩⟩
/-- Element k of a list of lists that came in. -/
theorem at_list {α : Type} {e : Nat} {d : Kd α} {w : World} {A : Option Addr} {ll : List (List α)} (h : (Kd.slice e d).C w A ll.length ll) (k : Nat) (hk : k < ll.length) :
    ∃ ad Ak ck, A = some ad ∧ w.cell? (ad.add k) = some (.slice Ak (ll[k]'hk).length ck) ∧ (ll[k]'hk).length ≤ ck ∧ d.C w Ak (ll[k]'hk).length (ll[k]'hk) := by
  obtain ⟨ad, c, e1, _, hK, hc⟩ := Kd.C_get h [] (k : Int) (by omega) (by omega)
  have hg : ll.getD (k : Int).toNat [] = ll[k]'hk := by rw [Int.toNat_natCast, List.getD_eq_getElem?_getD, List.getElem?_eq_getElem hk]; rfl
  rw [hg] at hK
  obtain ⟨Ak, ck, rfl, hl, hC⟩ := hK
  refine ⟨ad, Ak, ck, e1, ?_, hl, hC⟩
  have := hc 0 _ rfl
  rw [Int.toNat_natCast] at this
  simpa [Kd.slice] using this
/-- A beginning of a row of one's own is read. -/
theorem own_C {w : World} {base n cap : Nat} {e : TypeId} {A : Option Addr} {ys xs : List Int} (h : w.ownsRow base e 1 (.slice A n cap) n (encs I ys)) (hp : xs = ys.take xs.length) : (Kd.int .i64).C w A xs.length xs := by
  obtain ⟨A', c', he, hr⟩ := own_reads_of (d := 0) h
  injection he with h1 h2 h3
  subst h1
  have hl : ys.length = n := hr.1
  have hle : xs.length ≤ n := by have := congrArg List.length hp; simp at this; omega
  have := hr.take_ xs.length hle
  rw [← hp] at this
  exact Kd.C_of_reads this
def neg1 (a : Int) : Int := -1 - a
def fl (j : Nat) (xs : List Int) : List Int := (xs.take j).map neg1 ++ xs.drop j
theorem fl_length (j : Nat) (xs : List Int) : (fl j xs).length = xs.length := by simp [fl]; omega
theorem fl_zero (xs : List Int) : fl 0 xs = xs := by simp [fl]
theorem fl_all (xs : List Int) : fl xs.length xs = xs.map neg1 := by simp [fl]
theorem fl_rd (j : Nat) (xs : List Int) (m : List Int) (h : j < xs.length) : rd (fl j xs ++ m) (j : Int) = rd xs (j : Int) := by
  unfold rd fl
  rw [Int.toNat_natCast, List.getD_eq_getElem?_getD, List.getD_eq_getElem?_getD, List.getElem?_append_left (by simp; omega), List.getElem?_append_right (by simp; omega)]
  simp
  congr 2
  omega
theorem fl_set (j : Nat) (xs : List Int) (m : List Int) (h : j < xs.length) : (fl j xs ++ m).set j (neg1 (rd xs (j : Int))) = fl (j + 1) xs ++ m := by
  have hl : (xs.take j).length = j := by simp; omega
  rw [rd_get xs j h]
  unfold fl
  rw [List.take_succ_eq_append_getElem h, List.map_append, List.append_assoc, List.append_assoc, List.append_assoc]
  have hd : xs.drop j = xs[j] :: xs.drop (j + 1) := List.drop_eq_getElem_cons h
  have hm : ((xs.take j).map neg1).length = j := by rw [List.length_map, hl]
  rw [hd, List.set_append_right _ _ (by omega), hm, Nat.sub_self]
  rfl
theorem neg1_in {a : Int} (h : I64 a) : I64 (neg1 a) := by unfold I64 neg1 at *; omega
end Go.Proofs.Ytidofjmflpcglaa.Total
