/- Contracts of the stage: fresh; told, where nothing is kept of what is told. -/
import Derived.Test.YtfmggmpllggbnaaStage2
namespace Go.Proofs.Ytfmggmpllggbnaa.RNet
open Go.RowKit Go.Proofs.YtfmggmpllggbnaaW.PrintWords Go.Proofs.Ytfmggmpllggbnaa.Net Go.Proofs.Ytfmggmpllggbnaa.Mem
set_option linter.unusedVariables false
set_option linter.unusedSimpArgs false
/-- A place of the stage: a pair of nets, or none where New refused. -/
def plE : Option Sd → List Ent
  | none => []
  | some s => sdE s
def plN : Option Sd → Value
  | none => nilp
  | some s => pt s.g
def plM : Option Sd → Value
  | none => nilp
  | some s => pt s.h
def plV (N : Nat) : Option Sd → Prop
  | none => True
  | some s => SdV s ∧ s.lost ≤ N
theorem madeB {w0 W W1 : World} {L : List Ent} (h : St w0 W L) (hb : Below W.heap.size W W1) {g : Nat} (hg : W.heap.size ≤ g) {cs : Array Value} {t : TypeId} (ho : W1.heap[g]? = some (.cells cs t (0, 0))) : St w0 W1 (B g cs t :: L) := h.made hb hg ho rfl
set_option maxRecDepth 20000 in
set_option maxHeartbeats 1600000 in
/-- fresh: a new pair, or none; both pointers are laid into the stage. -/
theorem fresh_calls (w0 W : World) (R : List Ent) (t k : Nat) (cs : Array Value) (room : Int) (H : St w0 W (B t cs 112 :: R)) (hk : k < 2) (hs : cs.size = 6) :
    Calls Try.prog 37 #[pt t, .int .i64 k, .int .i64 room] W fun e W' => e = .returned (.bool true) ∧ ∃ o : Option Sd, plV 0 o ∧ St w0 W' (B t ((cs.setIfInBounds k (plN o)).setIfInBounds (2 + k) (plM o)) 112 :: (plE o ++ R)) := by
  have k1 : (0 : Int) ≤ (k : Int) := by omega
  have k2 : (k : Int) < 2 := by omega
  have CU := fun e w => Lib.hid (num_calls e w)
  by_cases hr : 1 ≤ room ∧ room ≤ 8192
  · have CN := Lib.hid (new_calls room W w0.heap.size H.bl.size hr.1 hr.2)
    have CM := fun W' (hw : w0.heap.size ≤ W'.heap.size) => Lib.hid (rnew_calls room W' w0.heap.size hw hr.1 hr.2)
    have HS := Lib.hid H
    have HR := Lib.hid hr
    clear H hr
    go_enter Try.func37, Try.ntmps37
    go_wp2_with fail
    refine CN.out.mono ?_; rintro e w1 ⟨rfl, hn1, hb1⟩
    have h1 := madeB HS.out hb1 (Nat.le_refl _) hn1.blk
    have H1 := Lib.hid h1
    clear hn1 hb1 h1
    go_wp2_with fail
    refine (CM w1 H1.out.bl.size).out.mono ?_; rintro e w2 ⟨rfl, hn2, hb2⟩
    have h2 := madeB H1.out hb2 (Nat.le_refl _) hn2.blk
    obtain ⟨g, hg⟩ : ∃ g, g = W.heap.size := ⟨_, rfl⟩
    obtain ⟨h, hh⟩ : ∃ h, h = w1.heap.size := ⟨_, rfl⟩
    rw [← hg, ← hh] at h2
    rw [← hg, ← hh]
    have f1 : ∃ x, cs[k]? = some x := ⟨_, Array.getElem?_eq_getElem (by omega)⟩
    have f2 : ∃ x, cs[2 + k]? = some x := ⟨_, Array.getElem?_eq_getElem (by omega)⟩
    obtain ⟨x1, f1⟩ := f1
    obtain ⟨x2, f2⟩ := f2
    have c1 := h2.cellOf (g := t) (cs := cs) (t := 112) (by simp) k f1
    have c2 := h2.cellOf (g := t) (cs := cs) (t := 112) (by simp) (2 + k) f2
    have z1 := h2.freeOf (g := t) (cs := cs) (t := 112) (by simp) k
    have z2 := h2.freeOf (g := t) (cs := cs) (t := 112) (by simp) (2 + k)
    have h3 := (h2.re (M := B t cs 112 :: B g #[.slice none 0 0, .int .i64 room, .int .u64 ((0 : Nat) : Int)] 69 :: B h #[.slice none 0 0, .int .i64 room, .int .u64 ((0 : Nat) : Int)] 143 :: R) (fun x => by simp only [cnt_append, cnt_cons, cnt_nil]; omega)).put k (pt g) rfl
    have h4 := h3.put (2 + k) (pt h) rfl
    have H4 := Lib.hid h4
    clear hn2 hb2 h2 hg hh f1 f2 h3 h4
    go_wp2_with fail
    refine (CU _ _).out.mono ?_; rintro e w3 ⟨rfl, rfl⟩
    go_wp2_with fail
    go_ret
    exact ⟨rfl, some ⟨g, h, .slice none 0 0, .slice none 0 0, room, 0, []⟩, ⟨⟨rowV_nil _, ⟨rowV_nil _, fun r hr => by cases hr⟩, HR.out.1, HR.out.2, by simp; have := HR.out.1; omega, fun r hr => by cases hr⟩, Nat.le_refl _⟩, H4.out.re (fun x => by simp only [plE, plN, plM, sdE, netE, rnetE, byE, rowE, tell, List.map_nil, List.flatMap_nil, cnt_append, cnt_cons, cnt_nil]; omega)⟩
  · have hr' : room < 1 ∨ 8192 < room := by omega
    have CN := Lib.hid (new_refused room W hr')
    have CM := fun W' => Lib.hid (rnew_refused room W' hr')
    have HS := Lib.hid H
    clear H hr hr'
    go_enter Try.func37, Try.ntmps37
    go_wp2_with fail
    refine CN.out.mono ?_; rintro e w1 ⟨rfl, rfl⟩
    go_wp2_with fail
    refine (CM _).out.mono ?_; rintro e w2 ⟨rfl, rfl⟩
    have f1 : ∃ x, cs[k]? = some x := ⟨_, Array.getElem?_eq_getElem (by omega)⟩
    have f2 : ∃ x, cs[2 + k]? = some x := ⟨_, Array.getElem?_eq_getElem (by omega)⟩
    obtain ⟨x1, f1⟩ := f1
    obtain ⟨x2, f2⟩ := f2
    have c1 := HS.out.cellOf (g := t) (cs := cs) (t := 112) (by simp) k f1
    have c2 := HS.out.cellOf (g := t) (cs := cs) (t := 112) (by simp) (2 + k) f2
    have z1 := HS.out.freeOf (g := t) (cs := cs) (t := 112) (by simp) k
    have z2 := HS.out.freeOf (g := t) (cs := cs) (t := 112) (by simp) (2 + k)
    have h4 := (HS.out.put k nilp rfl).put (2 + k) nilp rfl
    have H4 := Lib.hid h4
    clear f1 f2 h4
    go_wp2_with fail
    refine (CU _ _).out.mono ?_; rintro e w3 ⟨rfl, rfl⟩
    go_wp2_with fail
    go_ret
    exact ⟨rfl, none, trivial, H4.out⟩
set_option maxRecDepth 20000 in
set_option maxHeartbeats 1600000 in
theorem told0 (w0 W : World) (R : List Ent) (t : Nat) (cs : Array Value) (tt : Int) (xs : List Int) (A A' : Option Addr) (c d : Nat) (okb : Bool) (H : St w0 W (B t cs 112 :: R)) (hc : cs[5]? = some (.bool false))
    (hx : ReadsOf U 0 W A xs.length xs) (hy : ReadsOf U 0 W A' xs.length xs) (hm : xs.length ≤ 4096) :
    Calls Try.prog 57 #[pt t, .agg #[.int .i64 tt, .slice A xs.length c], .bool okb, .agg #[.int .i64 tt, .slice A' xs.length d], .bool okb] W fun e W' => e = .returned (.bool true) ∧ St w0 W' (B t cs 112 :: R) := by
  have h2 : Below W.heap.size W ((W.alloc (.cells #[.int .i64 tt, .slice A xs.length c] 71)).alloc (.cells #[.int .i64 tt, .slice A' xs.length d] 71)) := ((Below.refl _ _).alloc (Nat.le_refl _) _).alloc (by simp) _
  have SM := Lib.hid (same_calls tt tt xs xs A A' c d _ (hx.below h2) (hy.below h2) (by omega))
  have HS := Lib.hid H
  have HC := Lib.hid hc
  have H2 := Lib.hid (H.below h2)
  clear H hc hx hy h2
  cases okb
  all_goals
    go_enter Try.func57, Try.ntmps57
    go_wp2_with fail
    refine SM.out.mono ?_; rintro e w1 ⟨b, rfl, hb, hb1⟩
    obtain rfl : b = true := by simpa using hb
    have h1 := H2.out.below hb1
    have c1 := h1.cellOf (g := t) (cs := cs) (t := 112) (by simp) 5 HC.out
    have H1 := Lib.hid h1
    clear hb hb1 h1
    go_wp2_with fail
    go_ret
    exact ⟨by trivial, H1.out⟩
end Go.Proofs.Ytfmggmpllggbnaa.RNet
