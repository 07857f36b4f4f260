/- stage.told with the mark set: what was told is handed to the book, which writes it full. -/
import Derived.Test.YtfmggmpllggbnaaPlays4
import Derived.Test.YtfmggmpllggbnaaBookL
namespace Go.Proofs.Ytfmggmpllggbnaa.RNet
open Go.RowKit Go.Proofs.YtfmggmpllggbnaaW.PrintWords Go.Proofs.Ytfmggmpllggbnaa.Net Go.Proofs.Ytfmggmpllggbnaa.Mem
open Go.Proofs.Ytfmggmpllggbnaa.Book (BkS BkV bkE ownE freeP bytes_calls)
set_option linter.unusedVariables false
set_option linter.unusedSimpArgs false
theorem told_free {xs : List Int} {c : Nat} (o : Obj) (h : toldP (strOfNums xs) c o) : freeP xs.length c o := by
  obtain ⟨m, rfl⟩ := h
  have hsz : (bytesRow (strOfNums xs) c).size = xs.length + (c - xs.length) := by
    have := strOfNums_size xs
    unfold bytesRow
    simp only [Array.size_append, Array.size_map, Array.size_replicate]
    simp only [ByteArray.size] at this ⊢
    omega
  exact ⟨_, _, rfl, .inr rfl, by omega, by omega⟩
/-- As Aft; the book has one turn more. -/
def AftM (w0 : World) (F R : List Ent) (s : Sd) (d b : Nat) (bs : BkS) (W' : World) : Prop := ∃ bs' : BkS, BkV bs' ∧ bs'.turn ≤ bs.turn + 1 ∧ Aft w0 F (bkE b bs' ++ R) s d W'
set_option maxRecDepth 20000 in
set_option maxHeartbeats 3200000 in
theorem toldM (w0 W : World) (R : List Ent) (t b : Nat) (cs : Array Value) (bs : BkS) (tt : Int) (xs : List Int) (g : Option Nat) (A A' : Option Addr) (c d : Nat) (okb : Bool) (hA : A = g.map fun g => ⟨g, 0, none⟩)
    (H : St w0 W (B t cs 112 :: (bkE b bs ++ (ownE g xs.length c ++ R)))) (hB : BkV bs) (hc4 : cs[4]? = some (pt b)) (hc : cs[5]? = some (.bool true))
    (hg : g = none → xs.length = 0 ∧ c = 0) (ht : bs.turn < 1099511627776)
    (hx : ReadsOf U 0 W A xs.length xs) (hy : ReadsOf U 0 W A' xs.length xs) (hm : xs.length ≤ 4096) :
    Calls Try.prog 57 #[pt t, .agg #[.int .i64 tt, .slice A xs.length c], .bool okb, .agg #[.int .i64 tt, .slice A' xs.length d], .bool okb] W fun e W' => e = .returned (.bool true) ∧ ∃ bs' : BkS, BkV bs' ∧ bs'.turn = bs.turn + 1 ∧ St w0 W' (B t cs 112 :: (bkE b bs' ++ R)) := by
  have h2 : Below W.heap.size W ((W.alloc (.cells #[.int .i64 tt, .slice A xs.length c] 71)).alloc (.cells #[.int .i64 tt, .slice A' xs.length d] 71)) := ((Below.refl _ _).alloc (Nat.le_refl _) _).alloc (by simp) _
  have SM := Lib.hid (same_calls tt tt xs xs A A' c d _ (hx.below h2) (hy.below h2) (by omega))
  have HC := Lib.hid hc
  have HC4 := Lib.hid hc4
  have hN := H.newB #[.int .i64 tt, .slice A xs.length c] 71
  have H2 := Lib.hid (hN.newB #[.int .i64 tt, .slice A' xs.length d] 71)
  have HBV := Lib.hid hB
  have HG := Lib.hid hg
  have HA := Lib.hid hA
  have HT := Lib.hid ht
  have HM := Lib.hid hm
  clear H hc hc4 hx hy h2 hN hB hg hA ht hm
  cases okb
  all_goals
    go_enter Try.func57, Try.ntmps57
    go_wp2_with fail
    refine SM.out.mono ?_; rintro e w1 ⟨b1, rfl, hb, hb1⟩
    obtain rfl : b1 = true := by simpa using hb
    have h1 := H2.out.below hb1
    have c1 := h1.cellOf (g := t) (cs := cs) (t := 112) (by simp) 5 HC.out
    have c4 := h1.cellOf (g := t) (cs := cs) (t := 112) (by simp) 4 HC4.out
    have c0 := h1.cellOf (g := W.heap.size) (cs := #[.int .i64 tt, .slice A xs.length c]) (t := 71) (by simp) 1 rfl
    have CB := Lib.hid (bytes_calls w0 w1.drew (B t cs 112 :: R) b bs g A xs.length c HA.out (h1.drew.re (fun x => by simp only [cnt_append, cnt_cons]; omega)) HBV.out HG.out (by have := HM.out; omega) HT.out)
    clear hb hb1 h1
    go_wp2_with fail
    go_region_law (first | (go_simp; go_at_call 71; refine CB.out.mono ?_; rintro e w2 ⟨rfl, bs2, hB2, hT2, hs2⟩; have HB2 := Lib.hid hB2; have HT2 := Lib.hid hT2; have H3 := Lib.hid hs2; clear hB2 hT2 hs2))
    all_goals
      go_wp2_with fail
      go_ret
      exact ⟨by trivial, bs2, HB2.out, HT2.out, H3.out.re (fun x => by simp only [cnt_append, cnt_cons]; omega)⟩
end Go.Proofs.Ytfmggmpllggbnaa.RNet
