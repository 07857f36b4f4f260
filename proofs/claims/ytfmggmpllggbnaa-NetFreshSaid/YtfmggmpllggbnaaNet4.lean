/- Contract of Drop: the message at a place is lost. -/
import Derived.Test.YtfmggmpllggbnaaNet3
namespace Go.Proofs.Ytfmggmpllggbnaa.Net
open Go.RowKit Go.Proofs.YtfmggmpllggbnaaW.PrintWords
set_option linter.unusedVariables false
set_option linter.unusedSimpArgs false
theorem put_cut {W w1 : World} {base g gv n cap : Nat} {v : Value} {room : Int} {lost : Nat} {ms ns : List (Int × ByteArray)} (h : Nt W base g v room lost ms) (hb : base ≤ W.heap.size) (hv : v.ownBlock = some gv)
    (ho : w1.ownsRow base 130 2 (.slice (some ⟨gv, 0, none⟩) n cap) n (cellsOf ns)) (hn : n = ns.length) (hg : W.grownBy w1 (some gv)) :
    NtPut W (w1.setCell ⟨g, 0, none⟩ (.slice (some ⟨gv, 0, none⟩) n cap)) base g v (.slice (some ⟨gv, 0, none⟩) n cap) room lost ns := by
  have hg' : W.grownBy w1 v.ownBlock := by rw [hv]; exact hg
  have hblk := blk_grown h.blk hg' h.ne
  have hne : (Value.slice (some ⟨gv, 0, none⟩) n cap).ownBlock ≠ some g := by
    intro e
    obtain ⟨cs, hk⟩ := own_kind ho g e
    rw [hblk] at hk
    simp at hk
  refine ⟨⟨blk_put hblk 0 _ rfl, h.le, ?_⟩, ?_, (KeepBut.of_grown hg' g).set_ 0 _, .inl hv.symm⟩
  · rw [← hn]
    exact own_other ho (grown_set w1 g 0 _) (.inr hne)
  · exact ((Below.refl base W).grown hg' hb (own_base h.own)).grown (grown_set w1 g 0 _) (Nat.le_trans hb hg'.size) (fun k hk => by injection hk with hk; rw [← hk]; exact h.le)
set_option maxRecDepth 20000 in
set_option maxHeartbeats 1600000 in
theorem drop_calls (i : Nat) (W : World) (base g : Nat) (v : Value) (room : Int) (lost : Nat) (ms : List (Int × ByteArray)) (h : Nt W base g v room lost ms) (hbase : base ≤ W.heap.size) (hi : i < ms.length) (hm : ms.length ≤ 1099511627776) :
    Calls Try.prog 27 #[.pointer (some ⟨g, 0, none⟩), .int .i64 i] W fun e w' => e = .returned (.bool true) ∧ ∃ v', NtPut W w' base g v v' room lost (ms.eraseIdx i) := by
  obtain ⟨gv, cap, rfl, _, _⟩ := h.own.form (by omega)
  have hc := blk_cell h.blk 0
  simp at hc
  have CD := Lib.hid (delete_calls W base gv cap i ms h.own hi hm)
  have H := Lib.hid h
  have HBS := Lib.hid hbase
  have i1 : ¬ (i : Int) < 0 := by omega
  have i2 : ¬ (ms.length : Int) ≤ (i : Int) := by omega
  have i3 : (i : Int) < (ms.length : Int) := by omega
  have i4 : (ms.length : Int) ≤ 1099511627776 := by omega
  have HL : Hid (ms.length - 1 = (ms.eraseIdx i).length) := by rw [List.length_eraseIdx_of_lt hi]; exact rfl
  clear h hbase hi hm
  go_enter Try.func27, Try.ntmps27
  go_wp2_with fail
  refine CD.out.mono ?_; rintro e w1 ⟨rfl, ho1, hg1⟩
  have HP := Lib.hid (put_cut H.out HBS.out rfl ho1 HL.out hg1)
  have hblk := blk_grown H.out.blk hg1 H.out.ne
  have f0 := blk_frozen hblk 0
  have c0 := blk_cell hblk 0
  simp at c0
  clear ho1 hg1 hblk
  go_wp2_with fail
  go_ret
  exact ⟨rfl, _, HP.out⟩
theorem drop_none (i : Int) (W : World) (base g : Nat) (v : Value) (room : Int) (lost : Nat) (ms : List (Int × ByteArray)) (h : Nt W base g v room lost ms) (hi : i < 0 ∨ (ms.length : Int) ≤ i) :
    Calls Try.prog 27 #[.pointer (some ⟨g, 0, none⟩), .int .i64 i] W fun e w' => e = .returned (.bool false) ∧ w' = W := by
  obtain ⟨A, c, rfl⟩ := slice_form h.own
  have hc := blk_cell h.blk 0
  simp at hc
  clear h
  by_cases h0 : i < 0
  · go_enter Try.func27, Try.ntmps27
    go_wp2_with fail
    go_ret
    exact ⟨rfl, rfl⟩
  · have i2 : (ms.length : Int) ≤ i := by omega
    go_enter Try.func27, Try.ntmps27
    go_wp2_with fail
    go_ret
    exact ⟨rfl, rfl⟩
end Go.Proofs.Ytfmggmpllggbnaa.Net
