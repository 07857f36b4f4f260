/- A link in memory; New, Known, Len, Life, Owe. -/
import Derived.Test.YtoeiaimoppmjdaaDoorLkSt
import Derived.Test.YtoeiaimoppmjdaaDoorPace
import Derived.Test.YtoeiaimoppmjdaaDoorRowO
namespace Go.Proofs.YtoeiaimoppmjdaaDoor.Lk
open Go.RowKit Go.Proofs.YtoeiaimoppmjdaaDoorW.PrintWords Go.Proofs.YtoeiaimoppmjdaaDoor.Mem Go.Proofs.YtoeiaimoppmjdaaDoor.Wr Go.Proofs.YtoeiaimoppmjdaaDoor.Bytes
open Go.Proofs.YtoeiaimoppmjdaaDoor.App (oE oV oE_nil oV_nil oV_form)
open Go.Proofs.YtoeiaimoppmjdaaDoor.Pace (nxt IsP IsO dbl dbl_range new_yes new_no tick_yes tick_no reset_calls)
set_option linter.unusedVariables false
set_option linter.unusedSimpArgs false
/-- A body in the row: its value, its bytes. -/
abbrev BI := Value × List Int
/-- What a link is. -/
structure LS where
  me : Int
  other : Int
  life : Nat
  known : Nat
  window : Int
  iv : Value
  items : List BI
  gone : Nat
  out : Nat
  heard : Nat
  gp : Nat
  cap : Int
  left : Int
  gap : Int
  ack : Bool
  asked : Bool
  word : Bool
def lkC (s : LS) : Array Value := #[.int .i64 s.me, .int .i64 s.other, .int .u64 (s.life : Int), .int .u64 (s.known : Int), .int .i64 s.window, s.iv, .int .u64 (s.gone : Int), .int .u64 (s.out : Int), .int .u64 (s.heard : Int), pt s.gp, .bool s.ack, .bool s.asked, .bool s.word]
def pcC (s : LS) : Array Value := #[.int .i64 s.cap, .int .i64 s.left, .int .i64 s.gap, nxt s.gp (decide (s.left ≤ 1))]
def itemsE (s : LS) : List Ent := oE s.iv 22 s.items.length (s.items.map fun i => i.1) ++ s.items.flatMap fun i => byR i.1 i.2
def lkE (g : Nat) (s : LS) : List Ent := B g (lkC s) 128 :: (B s.gp (pcC s) 135 :: itemsE s)
structure LkV (s : LS) : Prop where
  c : 1 ≤ s.cap ∧ s.cap ≤ 64
  g : 1 ≤ s.gap ∧ s.gap ≤ s.cap
  l : 0 ≤ s.left ∧ s.left ≤ s.cap
  row : oV s.iv s.items.length (s.items.map fun i => i.1)
  by_ : ∀ i, i ∈ s.items → byV i.1 i.2 ∧ Byt i.2 ∧ i.2.length ≤ 2048
theorem St.pace {w0 W : World} {R : List Ent} {g : Nat} {s : LS} (h : St w0 W (lkE g s ++ R)) (hV : LkV s) : IsO W s.gp s.cap s.left s.gap :=
  ⟨h.blk (g := s.gp) (cs := pcC s) (t := 135) (by simp [lkE]), hV.c, hV.g, hV.l⟩
/-- Behind a call of the pace. -/
theorem St.paced {w0 W W' : World} {R : List Ent} {g : Nat} {s : LS} {left gap : Int} (h : St w0 W (lkE g s ++ R)) (hV : LkV s) (ho : IsO W' s.gp s.cap left gap) (hg : W.grownBy W' (some s.gp)) :
    St w0 W' (lkE g { s with left := left, gap := gap } ++ R) ∧ LkV { s with left := left, gap := gap } := by
  have h1 : St w0 W (B s.gp (pcC s) 135 :: (B g (lkC s) 128 :: (itemsE s ++ R))) := h.re (fun x => by simp only [lkE, cnt_append, cnt_cons]; omega)
  have hgp := h1.ge _ (List.mem_cons_self ..)
  refine ⟨?_, ⟨hV.c, ho.g, ho.l, hV.row, hV.by_⟩⟩
  have h2 := St.step (F := [B s.gp (pcC s) 135]) (G := [B s.gp (pcC { s with left := left, gap := gap }) 135]) (R := B g (lkC s) 128 :: (itemsE s ++ R)) h1
    (h1.bl.grown hg h1.bl.size (fun k hk => by cases hk; exact hgp)) hg.size (fun k hk hne => hg.block k hk (fun e => hne _ (List.mem_singleton.2 rfl) (by injection e with e; exact e.symm))) (by simp)
    (fun p hp => by obtain rfl := List.mem_singleton.1 hp; exact ⟨_, ho.p, rfl⟩) (fun p hp => .inl ⟨_, List.mem_singleton.2 rfl, by obtain rfl := List.mem_singleton.1 hp; rfl⟩)
  exact h2.re (fun x => by simp only [lkE, lkC, itemsE, cnt_append, cnt_cons, cnt_nil]; omega)
/-- A link that knows nothing. -/
def ls0 (me other : Int) (life : Nat) (window : Int) (gp : Nat) (cap : Int) : LS := ⟨me, other, life, 0, window, NL, [], 0, 0, 0, gp, cap, 0, 1, false, false, true⟩
theorem ls0V (me other : Int) (life : Nat) (window : Int) (gp : Nat) (cap : Int) (h : 1 ≤ cap ∧ cap ≤ 64) : LkV (ls0 me other life window gp cap) :=
  ⟨h, ⟨Int.le_refl _, h.1⟩, ⟨Int.le_refl _, by show 0 ≤ cap; omega⟩, oV_nil, fun i hi => (by cases hi)⟩
set_option maxRecDepth 20000 in
set_option maxHeartbeats 1600000 in
theorem lnew_calls (w0 w : World) (R : List Ent) (me other window cap : Int) (life : Nat) (h : St w0 w R) :
    Calls Tryd.prog 53 #[.int .i64 me, .int .i64 other, .int .u64 (life : Int), .int .i64 window, .int .i64 cap] w fun e w' => ∃ g gp c, e = .returned (pt g) ∧ (1 ≤ c ∧ c ≤ 64) ∧ (1 ≤ cap ∧ cap ≤ 64 → c = cap) ∧ St w0 w' (lkE g (ls0 me other life window gp c) ++ R) := by
  by_cases hc : 1 ≤ cap ∧ cap ≤ 64
  · have CN := Lib.hid (new_yes cap w hc)
    have H := Lib.hid h
    have HC := Lib.hid hc
    clear h hc
    go_enter Tryd.func53, Tryd.ntmps53
    go_wp2_with fail
    refine CN.out.mono ?_; rintro e w1 ⟨rfl, ho, hb⟩
    have h1 : St w0 w1 (B w.heap.size (pcC (ls0 me other life window w.heap.size cap)) 135 :: R) := H.out.made hb (Nat.le_refl _) ho.p rfl
    obtain ⟨gp, hgp⟩ : ∃ gp, gp = w.heap.size := ⟨_, rfl⟩
    rw [← hgp] at h1 ⊢
    have h2 := h1.newB (lkC (ls0 me other life window gp cap)) 128
    have H2 := Lib.hid h2
    clear ho hb h1 h2 hgp
    go_wp2_with fail
    go_ret
    exact ⟨w1.heap.size, gp, cap, rfl, HC.out, fun _ => rfl, H2.out.re (fun x => by simp only [lkE, itemsE, ls0, oE_nil, List.flatMap_nil, List.length_nil, List.map_nil, cnt_append, cnt_cons, cnt_nil]; omega)⟩
  · have hn : cap < 1 ∨ 64 < cap := by omega
    have CN := Lib.hid (new_no cap w hn)
    have CY := fun w' => Lib.hid (new_yes 1 w' (by omega))
    have H := Lib.hid h
    have HC := Lib.hid hc
    clear h hc hn
    go_enter Tryd.func53, Tryd.ntmps53
    go_wp2_with fail
    refine CN.out.mono ?_; rintro e w1 ⟨rfl, rfl⟩
    go_wp2_with fail
    refine (CY w).out.mono ?_; rintro e w1 ⟨rfl, ho, hb⟩
    have h1 : St w0 w1 (B w.heap.size (pcC (ls0 me other life window w.heap.size 1)) 135 :: R) := H.out.made hb (Nat.le_refl _) ho.p rfl
    obtain ⟨gp, hgp⟩ : ∃ gp, gp = w.heap.size := ⟨_, rfl⟩
    rw [← hgp] at h1 ⊢
    have h2 := h1.newB (lkC (ls0 me other life window gp 1)) 128
    have H2 := Lib.hid h2
    clear ho hb h1 h2 hgp
    go_wp2_with fail
    go_ret
    exact ⟨w1.heap.size, gp, 1, rfl, ⟨by omega, by omega⟩, fun h => absurd h HC.out, H2.out.re (fun x => by simp only [lkE, itemsE, ls0, oE_nil, List.flatMap_nil, List.length_nil, List.map_nil, cnt_append, cnt_cons, cnt_nil]; omega)⟩
section
variable {w0 W : World} {R : List Ent} {g : Nat} {s : LS}
theorem lk_cell (h : St w0 W (lkE g s ++ R)) (j : Nat) {v : Value} (hj : (lkC s)[j]? = some v) : W.cell? ⟨g, j, none⟩ = some v := h.cellOf (g := g) (cs := lkC s) (t := 128) (by simp [lkE]) j hj
theorem lk_free (h : St w0 W (lkE g s ++ R)) (j : Nat) : W.frozen? ⟨g, j, none⟩ = false := h.freeOf (g := g) (cs := lkC s) (t := 128) (by simp [lkE]) j
theorem lknown_calls (h : St w0 W (lkE g s ++ R)) : Calls Tryd.prog 83 #[pt g] W fun e w' => e = .returned (.bool (decide (0 < s.known))) ∧ W = w' := by
  have x3 : W.cell? ⟨g, 3, none⟩ = some (.int .u64 (s.known : Int)) := lk_cell h 3 rfl
  clear h
  by_cases hk : 0 < s.known
  · have h1 : (0 : Int) < (s.known : Int) := by omega
    rw [decide_eq_true hk]
    go_enter Tryd.func83, Tryd.ntmps83
    go_wp2_with fail
    go_ret
    exact ⟨rfl, rfl⟩
  · have h1 : s.known = 0 := by omega
    rw [decide_eq_false hk]
    rw [h1] at x3
    clear hk
    go_enter Tryd.func83, Tryd.ntmps83
    go_wp2_with fail
    go_ret
    exact ⟨rfl, rfl⟩
theorem llife_calls (h : St w0 W (lkE g s ++ R)) : Calls Tryd.prog 59 #[pt g] W fun e w' => e = .returned (.int .u64 (s.known : Int)) ∧ W = w' := by
  have x3 := lk_cell h 3 rfl
  clear h
  go_enter Tryd.func59, Tryd.ntmps59
  go_wp2_with fail
  go_ret
  exact ⟨rfl, rfl⟩
theorem llen_calls (h : St w0 W (lkE g s ++ R)) (hV : LkV s) : Calls Tryd.prog 60 #[pt g] W fun e w' => e = .returned (.int .i64 (s.items.length : Int)) ∧ W = w' := by
  have x5 : W.cell? ⟨g, 5, none⟩ = some s.iv := lk_cell h 5 rfl
  obtain ⟨A, c, e⟩ := oV_form hV.row
  rw [e] at x5
  clear h hV e
  go_enter Tryd.func60, Tryd.ntmps60
  go_wp2_with fail
  go_ret
  exact ⟨rfl, rfl⟩
theorem lowe_calls (h : St w0 W (lkE g s ++ R)) : Calls Tryd.prog 51 #[pt g] W fun e w' => e = .returned (.tuple #[]) ∧ St w0 w' (lkE g { s with asked := true } ++ R) := by
  have x := lk_cell h 11 rfl
  have f := lk_free h 11
  have h2 := (h.re (M := B g (lkC s) 128 :: (B s.gp (pcC s) 135 :: (itemsE s ++ R))) (fun x => by simp only [lkE, cnt_append, cnt_cons]; omega)).put (cs' := lkC { s with asked := true }) 11 (.bool true) rfl
  have H := Lib.hid h2
  clear h h2
  go_enter Tryd.func51, Tryd.ntmps51
  go_wp2_with fail
  go_end0
  exact ⟨rfl, H.out.re (fun x => by simp only [lkE, pcC, itemsE, cnt_append, cnt_cons]; omega)⟩
end
end Go.Proofs.YtoeiaimoppmjdaaDoor.Lk
