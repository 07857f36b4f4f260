/- Contracts of Send. -/
import Derived.Test.YtfmggmpllggbnaaNet9
import Derived.StillTailTactics
namespace Go.Proofs.Ytfmggmpllggbnaa.Net
open Go.RowKit Go.Proofs.YtfmggmpllggbnaaW.PrintWords
set_option linter.unusedVariables false
set_option linter.unusedSimpArgs false
set_option maxRecDepth 20000 in
set_option maxHeartbeats 1600000 in
theorem send_room (t : Int) (A : Option Addr) (n c : Nat) (xs : List Int) (W : World) (hr : ReadsInt W .u8 A n xs) (base g : Nat) (v : Value) (room : Int) (lost : Nat) (ms : List (Int × ByteArray)) (h : Nt W base g v room lost ms) (hbase : base ≤ W.heap.size) (hro : (ms.length : Int) < room) (hm : ms.length ≤ 1099511627776) :
    Calls Try.prog 25 #[.pointer (some ⟨g, 0, none⟩), .int .i64 t, .slice A n c] W fun e w' => e = .returned (.bool true) ∧ ∃ v', NtPut W w' base g v v' room lost (ms ++ [(t, strOfNums xs)]) := by
  have s1 : ∀ k, (convert 62 9 (.slice A n c)).run Try.prog (W.drewN k) = .ok (.string (strOfNums xs)) (W.drewN k) := fun k => string_of_reads (P := Try.prog) (src := 62) (dst := 9) (c := c) Try.underlying62 Try.underlying5 Try.underlying9 (ReadsOf.drewN (enc := Value.int .u8) (d := (0:Int)) hr k)
  have s0 := s1 0
  have s2 := s1 1
  simp [World.drewN] at s0 s2
  have PR := Lib.hid (put_room (t, strOfNums xs) W.drew base g v room lost ms (nt_below h ((Below.refl _ _).drew)) hbase hro hm)
  have H := Lib.hid h
  have HBS := Lib.hid hbase
  clear h hbase hro hm hr s1
  go_enter Try.func25, Try.ntmps25
  go_wp2_with fail
  first | (go_region_law (first | (go_simp; go_at_call 50; refine PR.out.mono ?_; rintro e w3 ⟨rfl, v3, hp3⟩; have HP3 := Lib.hid hp3; clear hp3)) ) | fail
  go_wp2_with fail
  go_ret
  exact ⟨rfl, v3, ((NtPut.refl H.out).below HBS.out ((Below.refl _ _).drew)).trans HP3.out⟩
def lostMore (l : Nat) : Nat := if l < 18446744073709551615 then l + 1 else l
theorem NtPut.lose {W W1 : World} {base g : Nat} {v v' : Value} {room : Int} {l l' : Nat} {ms : List (Int × ByteArray)} (h : NtPut W W1 base g v v' room l ms) : NtPut W (W1.setCell ⟨g, 2, none⟩ (.int .u64 (l' : Int))) base g v v' room l' ms := by
  refine ⟨⟨blk_put h.nt.blk 2 _ rfl, h.nt.le, own_other h.nt.own (grown_set W1 g 2 _) (.inr (fun e => h.nt.ne e.symm))⟩, h.bl.setCell h.nt.le _, h.kb.set_ 2 _, h.hat⟩
set_option maxRecDepth 20000 in
set_option maxHeartbeats 1600000 in
theorem send_full (t : Int) (A : Option Addr) (n c : Nat) (xs : List Int) (W : World) (hr : ReadsInt W .u8 A n xs) (base g : Nat) (v : Value) (room : Int) (lost : Nat) (ms : List (Int × ByteArray)) (h : Nt W base g v room lost ms) (hbase : base ≤ W.heap.size) (hro : room ≤ (ms.length : Int)) (hl : lost < 18446744073709551615) :
    Calls Try.prog 25 #[.pointer (some ⟨g, 0, none⟩), .int .i64 t, .slice A n c] W fun e w' => e = .returned (.bool false) ∧ NtPut W w' base g v v room (lost + 1) ms := by
  have s1 : ∀ k, (convert 62 9 (.slice A n c)).run Try.prog (W.drewN k) = .ok (.string (strOfNums xs)) (W.drewN k) := fun k => string_of_reads (P := Try.prog) (src := 62) (dst := 9) (c := c) Try.underlying62 Try.underlying5 Try.underlying9 (ReadsOf.drewN (enc := Value.int .u8) (d := (0:Int)) hr k)
  have s0 := s1 0
  have s2 := s1 1
  simp [World.drewN] at s0 s2
  have PR := Lib.hid (put_full (t, strOfNums xs) W.drew base g v room lost ms (nt_below h ((Below.refl _ _).drew)) hro)
  have H := Lib.hid h
  have HBS := Lib.hid hbase
  have i1 : (lost : Int) < 18446744073709551615 := by omega
  have i2 : (lost : Int) + 1 ≤ 18446744073709551615 := by omega
  clear h hbase hro hr s1
  go_enter Try.func25, Try.ntmps25
  go_wp2_with fail
  first | (go_region_law (first | (go_simp; go_at_call 50; refine PR.out.mono ?_; rintro e w3 ⟨rfl, hb3⟩; have HB3 := Lib.hid hb3; clear hb3)) ) | fail
  have HP : Hid (NtPut W w3 base g v v room lost ms) := (NtPut.refl H.out).below HBS.out (((Below.refl W.heap.size W).drew).trans HB3.out)
  have c0 := blk_cell HP.out.nt.blk 2
  have f0 := blk_frozen HP.out.nt.blk 2
  simp at c0
  go_wp2_with fail
  go_ret
  exact ⟨rfl, by first | exact NtPut.lose HP.out | (have := NtPut.lose (l' := lost + 1) HP.out; simpa using this)⟩
end Go.Proofs.Ytfmggmpllggbnaa.Net
