/- Merged by merge2.py out of the texts: Pt, InvP, InvQ, InvR, PStep, PArgs, LinkSessions, LinkSessionsC. -/
import Derived.Test.YtoeiaimoppmjdaaDoorZu6
import Derived.Test.YtoeiaimoppmjdaaDoorZu5
import Derived.Test.YtoeiaimoppmjdaaDoorZu2
import Derived.Test.YtoeiaimoppmjdaaDoorZu3
import Derived.Test.YtoeiaimoppmjdaaDoorZu4
import Derived.Test.YtoeiaimoppmjdaaDoorZu1
/- A pair of links with its sessions: what a call of each kind leaves. -/
namespace Go.Proofs.YtoeiaimoppmjdaaDoor.Lk
open Go.RowKit Go.Proofs.YtoeiaimoppmjdaaDoorW.PrintWords Go.Proofs.YtoeiaimoppmjdaaDoor.Mem Go.Proofs.YtoeiaimoppmjdaaDoor.Wr Go.Proofs.YtoeiaimoppmjdaaDoor.Bytes Go.Proofs.YtoeiaimoppmjdaaDoor.App
set_option linter.unusedVariables false
set_option linter.unusedSimpArgs false
/-- Lives, links, frames that have gone out, sessions. -/
structure PM where
  lf : Nat → Nat
  s : Nat → LS
  fs : List SF
  ss : Nat → List Se
def ptL (gp : Nat) (p : PS) (g : Nat → Nat) (M : PM) (R : List Ent) : List Ent := B gp (pC p) 86 :: (lkE (g 0) (M.s 0) ++ (lkE (g 1) (M.s 1) ++ (sentE p.sent M.fs ++ (sesE (p.t 0) (M.ss 0) ++ (sesE (p.t 1) (M.ss 1) ++ R)))))
def PT (v0 : World) (R : List Ent) (gp : Nat) (win most : Int) (M : PM) (W : World) : Prop :=
  ∃ (p : PS) (g : Nat → Nat), p.window = win ∧ p.most = most ∧ (∀ i, i < 2 → p.life i = M.lf i ∧ p.l i = pt (g i) ∧ LkV (M.s i) ∧ SesV (p.t i) (M.ss i)) ∧ SentV p.sent M.fs ∧ St v0 W (ptL gp p g M R)
section
variable {v0 W : World} {R : List Ent} {gp : Nat} {win most : Int} {M : PM}
theorem ptL_side (gp : Nat) (p : PS) (g : Nat → Nat) (M : PM) (R : List Ent) (i j : Nat) (hi : i < 2) (hj : j + i = 1) (a : Ent) :
    cnt a (ptL gp p g M R) = one a (B gp (pC p) 86) + (cnt a (lkE (g i) (M.s i)) + (cnt a (lkE (g j) (M.s j)) + (cnt a (sentE p.sent M.fs) + (cnt a (sesE (p.t i) (M.ss i)) + (cnt a (sesE (p.t j) (M.ss j)) + cnt a R))))) := by
  unfold ptL
  rcases (show i = 0 ∧ j = 1 ∨ i = 1 ∧ j = 0 by omega) with ⟨rfl, rfl⟩ | ⟨rfl, rfl⟩ <;> simp only [cnt_append, cnt_cons] <;> omega
theorem PT.drew (h : PT v0 R gp win most M W) : PT v0 R gp win most M W.drew := by
  obtain ⟨p, g, a, b, c, d, e⟩ := h
  exact ⟨p, g, a, b, c, d, e.drew⟩
theorem PT.below {W' : World} (h : PT v0 R gp win most M W) (hb : Below W.heap.size W W') : PT v0 R gp win most M W' := by
  obtain ⟨p, g, a, b, c, d, e⟩ := h
  exact ⟨p, g, a, b, c, d, e.below hb⟩
theorem PT.bl (h : PT v0 R gp win most M W) : Below v0.heap.size v0 W := by
  obtain ⟨p, g, a, b, c, d, e⟩ := h
  exact e.bl
theorem PT.less {R' : List Ent} (h : PT v0 R gp win most M W) (hc : ∀ a, cnt a R' ≤ cnt a R) : PT v0 R' gp win most M W := by
  obtain ⟨p, g, a, b, c, d, e⟩ := h
  refine ⟨p, g, a, b, c, d, e.re (fun x => ?_)⟩
  have := hc x
  unfold ptL
  simp only [cnt_append, cnt_cons]; omega
theorem PT.cell (h : PT v0 R gp win most M W) {b : Nat} {cs : Array Value} {t : TypeId} (hm : B b cs t ∈ R) (j : Nat) {v : Value} (hj : cs[j]? = some v) : W.cell? ⟨b, j, none⟩ = some v := by
  obtain ⟨p, g, _, _, c, d, e⟩ := h
  exact e.cellOf (g := b) (cs := cs) (t := t) (by unfold ptL; simp [hm]) j hj
theorem PT.free (h : PT v0 R gp win most M W) {b : Nat} {cs : Array Value} {t : TypeId} (hm : B b cs t ∈ R) (j : Nat) : W.frozen? ⟨b, j, none⟩ = false := by
  obtain ⟨p, g, _, _, c, d, e⟩ := h
  exact e.freeOf (g := b) (cs := cs) (t := t) (by unfold ptL; simp [hm]) j
theorem PT.new (h : PT v0 R gp win most M W) (cs : Array Value) (t : TypeId) : PT v0 (B W.heap.size cs t :: R) gp win most M (W.alloc (.cells cs t)) := by
  obtain ⟨p, g, a, b, c, d, e⟩ := h
  refine ⟨p, g, a, b, c, d, (e.newB cs t).re (fun x => ?_)⟩
  unfold ptL
  simp only [cnt_append, cnt_cons]; omega
theorem PT.lifeC (h : PT v0 R gp win most M W) (i : Nat) (hi : i < 2) : W.cell? ⟨gp, 2 + i, none⟩ = some (.int .u64 (M.lf i : Int)) := by
  obtain ⟨p, g, _, _, c, d, e⟩ := h
  exact e.cellOf (g := gp) (cs := pC p) (t := 86) (by unfold ptL; simp) (2 + i) (by rw [pC_life p hi, (c i hi).1])
theorem PT.winC (h : PT v0 R gp win most M W) : W.cell? ⟨gp, 0, none⟩ = some (.int .i64 win) ∧ W.cell? ⟨gp, 1, none⟩ = some (.int .i64 most) := by
  obtain ⟨p, g, a, b, c, d, e⟩ := h
  exact ⟨e.cellOf (g := gp) (cs := pC p) (t := 86) (by unfold ptL; simp) 0 (by rw [← a]; rfl), e.cellOf (g := gp) (cs := pC p) (t := 86) (by unfold ptL; simp) 1 (by rw [← b]; rfl)⟩
theorem PT.sentC (h : PT v0 R gp win most M W) : ∃ A c, W.cell? ⟨gp, 6, none⟩ = some (.slice A M.fs.length c) := by
  obtain ⟨p, g, a, b, c, d, e⟩ := h
  obtain ⟨A, c', hc⟩ := row_form d.row
  refine ⟨A, c', ?_⟩
  rw [← hc]
  exact e.cellOf (g := gp) (cs := pC p) (t := 86) (by unfold ptL; simp) 6 rfl
theorem pt_now (i j : Nat) (hi : i < 2) (hj : j + i = 1) (h : PT v0 R gp win most M W) (hn : (M.ss i).length ≤ 1000000) :
    Calls Tryd.prog 61 #[pt gp, .int .i64 i] W fun e w' => e = .returned (.int .i64 (nowN (M.lf i) (M.s i).known (M.ss i))) ∧ PT v0 R gp win most { M with ss := upd M.ss i (nowS (M.lf i) (M.s i).known (M.ss i)) } w' := by
  obtain ⟨p, g, hw, hm, hc, hd, he⟩ := h
  obtain ⟨c1, c2, c3, c4⟩ := hc i hi
  obtain ⟨d1, d2, d3, d4⟩ := hc j (by omega)
  have hcl := now_calls (w0 := v0) (gp := gp) (p := p) (g := g i) (s := M.s i) (ss := M.ss i) (R := lkE (g j) (M.s j) ++ (sentE p.sent M.fs ++ (sesE (p.t j) (M.ss j) ++ R))) i hi (he.re (fun x => by rw [ptL_side gp p g M R i j hi hj]; simp only [cnt_append, cnt_cons]; omega)) c2 c4 hn
  refine hcl.mono ?_
  rintro e w' ⟨rfl, tv, hV, hs⟩
  rw [c1] at hV hs ⊢
  refine ⟨rfl, { p with t := upd p.t i tv }, g, hw, hm, ?_, hd, hs.re (fun x => ?_)⟩
  · intro k hk
    by_cases hki : k = i
    · subst hki
      exact ⟨c1, c2, c3, by show SesV (upd p.t k tv k) (upd M.ss k _ k); rw [upd_same, upd_same]; exact hV⟩
    · obtain rfl : k = j := by omega
      exact ⟨d1, d2, d3, by show SesV (upd p.t i tv k) (upd M.ss i _ k); rw [upd_other _ _ _ _ hki, upd_other _ _ _ _ hki]; exact d4⟩
  · rw [ptL_side gp _ g _ R i j hi hj]
    show _ + (_ + (_ + (_ + (cnt x (sesE (upd p.t i tv i) (upd M.ss i _ i)) + (cnt x (sesE (upd p.t i tv j) (upd M.ss i _ j)) + _))))) ≤ _
    rw [upd_same, upd_same, upd_other _ _ _ _ (by omega), upd_other _ _ _ _ (by omega)]
    simp only [cnt_append, cnt_cons]; omega
theorem pt_tick (i j : Nat) (hi : i < 2) (hj : j + i = 1) (h : PT v0 R gp win most M W) (hme : (M.s i).me = 5 * (i : Int)) (hot : (M.s i).other = 5 - 5 * (i : Int)) (hlf : M.lf i = (M.s i).life) (hlf2 : 1 ≤ (M.s i).life ∧ (M.s i).life ≤ 1099511627776) (hkn : (M.s i).known ≤ 1099511627776) (hhe : (M.s i).heard ≤ 1099511627776)
    (hgo : (M.s i).gone + (M.s i).items.length < 1099511627776) (hou : (M.s i).out < 18446744073709551616) (hni : (M.s i).items.length ≤ 900) (hwi : (M.s i).window = win) (hw : 1 ≤ win ∧ win ≤ 64) (hfs : M.fs.length ≤ 900000) (hsl : ((saidP (M.s i)).length : Int) ≤ win) (ht : ErrTab v0) (hz : 0 < v0.heap.size) :
    Calls Tryd.prog 88 #[pt gp, .int .i64 i] W fun e w' => e = .returned (.bool true) ∧ ∃ ns : List SF, ns.map (fun x => x.2) = saidP (M.s i) ∧ PT v0 R gp win most { M with s := upd M.s i (tickP (M.s i)), fs := M.fs ++ ns } w' := by
  obtain ⟨p, g, hpw, hpm, hc, hd, he⟩ := h
  obtain ⟨c1, c2, c3, c4⟩ := hc i hi
  obtain ⟨d1, d2, d3, d4⟩ := hc j (by omega)
  have hcl := ptick_calls (w0 := v0) (gp := gp) (p := p) (s := M.s i) (fs := M.fs) (g := g i) (R := lkE (g j) (M.s j) ++ (sesE (p.t i) (M.ss i) ++ (sesE (p.t j) (M.ss j) ++ R))) i hi (he.re (fun x => by rw [ptL_side gp p g M R i j hi hj]; simp only [cnt_append, cnt_cons]; omega)) c2 c3 hd hme hot (by rw [c1, hlf]) hlf2 hkn hhe hgo hou hni (by rw [hwi, hpw]) (by rw [hpw]; exact hw) hfs ht hz
  refine hcl.mono ?_
  rintro e w' ⟨rfl, sv, ns, hns, hsv, hV, hs⟩
  refine ⟨by rw [hpw, decide_eq_true hsl], ns, hns, { p with sent := sv }, g, hpw, hpm, ?_, hsv, hs.re (fun x => ?_)⟩
  · intro k hk
    by_cases hki : k = i
    · subst hki
      exact ⟨c1, c2, by show LkV (upd M.s k _ k); rw [upd_same]; exact hV, c4⟩
    · obtain rfl : k = j := by omega
      exact ⟨d1, d2, by show LkV (upd M.s i _ k); rw [upd_other _ _ _ _ hki]; exact d3, d4⟩
  · rw [ptL_side gp _ g _ R i j hi hj]
    show _ + (cnt x (lkE (g i) (upd M.s i _ i)) + (cnt x (lkE (g j) (upd M.s i _ j)) + _)) ≤ _
    rw [upd_same, upd_other _ _ _ _ (by omega)]
    simp only [cnt_append, cnt_cons]; omega
/-- Side i hears the frame at place k of those that have gone out. -/
theorem pt_hear (i j : Nat) (hi : i < 2) (hj : j + i = 1) (h : PT v0 R gp win most M W) (k : Nat) (x : SF) (hk : M.fs[k]? = some x) (hfit : Fit x.2) (hsrc : x.2.src = 5 - 5 * (i : Int)) (hdst : x.2.dst = 5 * (i : Int)) (hme : (M.s i).me = 5 * (i : Int)) (hot : (M.s i).other = 5 - 5 * (i : Int)) (hlf : M.lf i = (M.s i).life)
    (hgo : (M.s i).gone + (M.s i).items.length < 18446744073709551616) (hhe : (M.s i).heard + 1 < 18446744073709551616) (hni : (M.ss i).length ≤ 900000) (hnj : (M.ss j).length ≤ 900000) (hup : (upsOf (M.lf i) x.2.mine (M.ss i)).length ≤ 900000) (hin : (insOf x.2.mine (M.lf i) (M.ss j)).length ≤ 900000)
    (hok : handedP (M.s i) x.2 = true → ∃ b0 : BI, (insOf x.2.mine (M.lf i) (M.ss j))[(upsOf (M.lf i) x.2.mine (M.ss i)).length]? = some b0 ∧ b0.2 = x.2.body) :
    ∃ gg cap, W.cell? ⟨gp, 6, none⟩ = some (.slice (some ⟨gg, 0, none⟩) M.fs.length cap) ∧ (∀ r u, (frV x.2 x.1)[r]? = some u → W.cell? ⟨gg, k * 7 + r, none⟩ = some u) ∧
    Calls Tryd.prog 89 #[pt gp, .agg (frV x.2 x.1)] W fun e w' => e = .returned (.bool true) ∧ ∃ iv S, (handedP (M.s i) x.2 = false → S = M.ss i) ∧ (handedP (M.s i) x.2 = true → ∃ uv bv, S = upS (M.lf i) x.2.mine (M.ss i) uv (bv, x.2.body)) ∧
      PT v0 R gp win most { M with s := upd M.s i { hearP (M.s i) x.2 with iv := iv }, ss := upd M.ss i S } w' := by
  obtain ⟨p, g, hpw, hpm, hc, hd, he⟩ := h
  obtain ⟨c1, c2, c3, c4⟩ := hc i hi
  obtain ⟨d1, d2, d3, d4⟩ := hc j (by omega)
  obtain ⟨v, F⟩ := x
  simp only at hfit hsrc hdst hup hin hok ⊢
  obtain ⟨hkl, _⟩ := List.getElem?_eq_some_iff.1 hk
  have hmem := List.mem_of_getElem? hk
  obtain ⟨hbv, _, hbyt⟩ := hd.by_ _ hmem
  simp only at hbv hbyt
  obtain ⟨A, c, rfl⟩ := byV_form hbv
  obtain ⟨gg, cap, hsv⟩ : ∃ gg cap, p.sent = .slice (some ⟨gg, 0, none⟩) M.fs.length cap := by
    rcases hd.row.2 with ⟨_, q⟩ | ⟨gg, cap, q, _⟩
    · omega
    · exact ⟨gg, cap, q⟩
  have hcnt : ∀ a, cnt a (byR (.slice A F.body.length c) F.body) ≤ cnt a (M.fs.flatMap fun x => byR x.1 x.2.body) := by
    intro a
    obtain ⟨l1, l2, e⟩ := List.append_of_mem hmem
    rw [e, List.flatMap_append, List.flatMap_cons, cnt_append, cnt_append]; dsimp only; omega
  refine ⟨gg, cap, ?_, ?_, ?_⟩
  · rw [← hsv]
    exact he.cellOf (g := gp) (cs := pC p) (t := 86) (by unfold ptL; simp) 6 rfl
  · intro r u hr
    have hr7 : r < 7 := (Array.getElem?_eq_some_iff.1 hr).1
    have hE : St v0 W (rowE (.slice (some ⟨gg, 0, none⟩) M.fs.length cap) 69 7 M.fs.length (frsL M.fs) ++ []) := he.re (fun x => by rw [ptL_side gp p g M R i j hi hj, ← hsv]; simp only [sentE, cnt_append, cnt_cons, cnt_nil]; omega)
    rw [(hE.at (k * 7 + r) (by rw [frsL_len]; omega) (frsL_len M.fs)).1, frsL_get hk r hr7]
    exact hr
  · have hpart : ∀ s' S tv, LkV s' → SesV tv S → ∀ k, k < 2 → ({ p with t := upd p.t i tv } : PS).life k = M.lf k ∧ ({ p with t := upd p.t i tv } : PS).l k = pt (g k) ∧ LkV (upd M.s i s' k) ∧ SesV (({ p with t := upd p.t i tv } : PS).t k) (upd M.ss i S k) := by
      intro s' S tv h1 h2 k hk
      by_cases hki : k = i
      · subst hki
        exact ⟨c1, c2, by rw [upd_same]; exact h1, by show SesV (upd p.t k tv k) _; rw [upd_same, upd_same]; exact h2⟩
      · obtain rfl : k = j := by omega
        exact ⟨d1, d2, by rw [upd_other _ _ _ _ hki]; exact d3, by show SesV (upd p.t i tv k) _; rw [upd_other _ _ _ _ hki, upd_other _ _ _ _ hki]; exact d4⟩
    have hperm : ∀ (w' : World) s' S tv, St v0 w' (B gp (pC { p with t := upd p.t i tv }) 86 :: (lkE (g i) s' ++ (sesE tv S ++ (sesE (p.t j) (M.ss j) ++ (lkE (g j) (M.s j) ++ (sentE p.sent M.fs ++ R)))))) → St v0 w' (ptL gp { p with t := upd p.t i tv } g { M with s := upd M.s i s', ss := upd M.ss i S } R) := by
      intro w' s' S tv hs
      refine hs.re (fun x => ?_)
      rw [ptL_side gp _ g _ R i j hi hj]
      show _ + (cnt x (lkE (g i) (upd M.s i s' i)) + (cnt x (lkE (g j) (upd M.s i s' j)) + (_ + (cnt x (sesE (upd p.t i tv i) (upd M.ss i S i)) + (cnt x (sesE (upd p.t i tv j) (upd M.ss i S j)) + _))))) ≤ _
      rw [upd_same, upd_same, upd_same, upd_other _ _ _ _ (by omega), upd_other _ _ _ _ (by omega), upd_other _ _ _ _ (by omega)]
      simp only [cnt_append, cnt_cons]; omega
    cases hh : handedP (M.s i) F with
    | false =>
      have hcl := phear_calls (w0 := v0) (gp := gp) (p := p) (s := M.s i) (g := g i) (R := sesE (p.t i) (M.ss i) ++ (sesE (p.t j) (M.ss j) ++ (lkE (g j) (M.s j) ++ (sentE p.sent M.fs ++ R)))) i hi F A c (he.re (fun x => by rw [ptL_side gp p g M R i j hi hj]; simp only [cnt_append, cnt_cons]; omega)) c2 c3
        (rdR_held hbv (fun a => by have := hcnt a; simp only [sentE, cnt_append]; omega)) hfit hbyt (by rw [hsrc, hot]) (by rw [hdst, hme]) hme (by rw [c1, hlf]) hgo hhe hh
      refine Calls.mono hcl ?_
      rintro e w' ⟨rfl, iv, hV, hst⟩
      refine ⟨rfl, iv, M.ss i, fun _ => rfl, (fun q => absurd q (by simp)), { p with t := upd p.t i (p.t i) }, g, hpw, hpm, hpart _ _ _ hV c4, hd, hperm _ _ _ _ (by rw [upd_self]; exact hst)⟩
    | true =>
      obtain ⟨b0, hb0, hb1⟩ := hok hh
      have hcl := phear2_calls (w0 := v0) (gp := gp) (p := p) (s := M.s i) (g := g i) (si := M.ss i) (sj := M.ss j) (R0 := lkE (g j) (M.s j) ++ (sentE p.sent M.fs ++ R)) i j hi hj F A c (he.re (fun x => by rw [ptL_side gp p g M R i j hi hj]; simp only [cnt_append, cnt_cons]; omega)) c2 c3 c4 d4
        (rdR_held hbv (fun a => by have := hcnt a; simp only [sentE, cnt_append]; omega)) hfit hbyt (by rw [hsrc, hot]) (by rw [hdst, hme]) hme (by rw [c1, hlf]) hgo hhe hh hni hnj (by rw [c1]; exact hup) (by rw [c1]; exact hin) b0 (by rw [c1]; exact hb0) hb1
      refine Calls.mono hcl ?_
      rintro e w' ⟨rfl, iv, hV, tv, uv, bv, hS, hst⟩
      rw [c1] at hS hst
      exact ⟨rfl, iv, _, (fun q => absurd q (by simp)), fun _ => ⟨uv, bv, rfl⟩, { p with t := upd p.t i tv }, g, hpw, hpm, hpart _ _ _ hV hS, hd, hperm _ _ _ _ hst⟩
theorem pt_lives (i j n : Nat) (hi : i < 2) (hj : j + i = 1) (h : PT v0 R gp win most M W) (hm : 1 ≤ most ∧ most ≤ 64) :
    Calls Tryd.prog 87 #[pt gp, .int .i64 i, .int .u64 n] W fun e w' => e = .returned (.bool true) ∧ ∃ gc, PT v0 R gp win most { M with lf := upd M.lf i n, s := upd M.s i (ls0 (5 * (i : Int)) (5 - 5 * (i : Int)) n win gc most) } w' := by
  obtain ⟨p, g, hpw, hpm, hc, hd, he⟩ := h
  obtain ⟨c1, c2, c3, c4⟩ := hc i hi
  obtain ⟨d1, d2, d3, d4⟩ := hc j (by omega)
  have hcl := lives_calls (w0 := v0) (gp := gp) (p := p) (R := lkE (g j) (M.s j) ++ (sentE p.sent M.fs ++ (sesE (p.t i) (M.ss i) ++ (sesE (p.t j) (M.ss j) ++ R)))) i n hi (he.re (fun x => by rw [ptL_side gp p g M R i j hi hj]; simp only [cnt_append, cnt_cons]; omega)) (by rw [hpm]; exact hm)
  refine hcl.mono ?_
  rintro e w' ⟨rfl, g', gc, hs⟩
  rw [hpw, hpm] at hs
  refine ⟨rfl, gc, { window := win, most := most, life := upd p.life i n, l := upd p.l i (pt g'), sent := p.sent, t := p.t }, upd g i g', rfl, rfl, ?_, hd, hs.re (fun x => ?_)⟩
  · intro k hk
    by_cases hki : k = i
    · subst hki
      exact ⟨by show upd p.life k n k = upd M.lf k n k; rw [upd_same, upd_same], by show upd p.l k _ k = pt (upd g k g' k); rw [upd_same, upd_same], by show LkV (upd M.s k _ k); rw [upd_same]; exact ls0V _ _ _ _ _ _ hm, c4⟩
    · obtain rfl : k = j := by omega
      exact ⟨by show upd p.life i n k = upd M.lf i n k; rw [upd_other _ _ _ _ hki, upd_other _ _ _ _ hki]; exact d1, by show upd p.l i _ k = pt (upd g i g' k); rw [upd_other _ _ _ _ hki, upd_other _ _ _ _ hki]; exact d2, by show LkV (upd M.s i _ k); rw [upd_other _ _ _ _ hki]; exact d3, d4⟩
  · rw [ptL_side gp _ _ _ R i j hi hj]
    show _ + (cnt x (lkE (upd g i g' i) (upd M.s i _ i)) + (cnt x (lkE (upd g i g' j) (upd M.s i _ j)) + _)) ≤ _
    rw [upd_same, upd_same, upd_other _ _ _ _ (by omega), upd_other _ _ _ _ (by omega)]
    simp only [cnt_append, cnt_cons]; omega
/-- The link of side i, by itself; what a call that turns it leaves. -/
theorem PT.link (i j : Nat) (hi : i < 2) (hj : j + i = 1) (h : PT v0 R gp win most M W) : ∃ gi X, W.cell? ⟨gp, 4 + i, none⟩ = some (pt gi) ∧ LkV (M.s i) ∧ St v0 W (lkE gi (M.s i) ++ (R ++ X)) ∧
    ∀ w' s', St v0 w' (lkE gi s' ++ (R ++ X)) → LkV s' → PT v0 R gp win most { M with s := upd M.s i s' } w' ∧ w'.cell? ⟨gp, 4 + i, none⟩ = some (pt gi) := by
  obtain ⟨p, g, hpw, hpm, hc, hd, he⟩ := h
  obtain ⟨c1, c2, c3, c4⟩ := hc i hi
  obtain ⟨d1, d2, d3, d4⟩ := hc j (by omega)
  have hcell : ∀ (w' : World) L, St v0 w' L → B gp (pC p) 86 ∈ L → w'.cell? ⟨gp, 4 + i, none⟩ = some (pt (g i)) := fun w' L hs hm => hs.cellOf hm (4 + i) (by rw [pC_l p hi, c2])
  refine ⟨g i, B gp (pC p) 86 :: (lkE (g j) (M.s j) ++ (sentE p.sent M.fs ++ (sesE (p.t i) (M.ss i) ++ sesE (p.t j) (M.ss j)))), hcell _ _ he (by unfold ptL; simp), c3, he.re (fun x => by rw [ptL_side gp p g M R i j hi hj]; simp only [cnt_append, cnt_cons]; omega), ?_⟩
  intro w' s' hs hV
  refine ⟨⟨p, g, hpw, hpm, ?_, hd, hs.re (fun x => ?_)⟩, hcell _ _ hs (by simp)⟩
  · intro k hk
    by_cases hki : k = i
    · subst hki
      exact ⟨c1, c2, by show LkV (upd M.s k _ k); rw [upd_same]; exact hV, c4⟩
    · obtain rfl : k = j := by omega
      exact ⟨d1, d2, by show LkV (upd M.s i _ k); rw [upd_other _ _ _ _ hki]; exact d3, d4⟩
  · rw [ptL_side gp _ g _ R i j hi hj]
    show _ + (cnt x (lkE (g i) (upd M.s i _ i)) + (cnt x (lkE (g j) (upd M.s i _ j)) + _)) ≤ _
    rw [upd_same, upd_other _ _ _ _ (by omega)]
    simp only [cnt_append, cnt_cons]; omega
theorem PT.any (h : PT v0 R gp win most M W) : ∃ L, St v0 W (R ++ L) ∧ ∀ w' X, St v0 w' (X ++ (R ++ L)) → PT v0 (X ++ R) gp win most M w' := by
  obtain ⟨p, g, hpw, hpm, hc, hd, he⟩ := h
  refine ⟨ptL gp p g M [], he.re (fun x => by unfold ptL; simp only [cnt_append, cnt_cons, cnt_nil]; omega), fun w' X hs => ⟨p, g, hpw, hpm, hc, hd, hs.re (fun x => by unfold ptL; simp only [cnt_append, cnt_cons, cnt_nil]; omega)⟩⟩
end
theorem and_one_i64 (E : Int) : bits BinOp.and IntKind.i64 E 1 = E % 2 := by
  show IntKind.i64.wrap _ = _
  have h1 : (BitVec.ofInt 64 E &&& BitVec.ofInt 64 1).toNat = (E % 2).toNat := by
    rw [BitVec.toNat_and, show (BitVec.ofInt 64 1).toNat = 1 from rfl, Nat.and_one_is_mod, BitVec.toNat_ofInt]
    have h2 : (((2 ^ 64 : Nat) : Int)) = 18446744073709551616 := by decide
    rw [h2]
    omega
  show IntKind.i64.wrap (((BitVec.ofInt 64 E &&& BitVec.ofInt 64 1).toNat : Nat) : Int) = _
  rw [h1]
  have e : (((E % 2).toNat : Nat) : Int) = E % 2 := by omega
  rw [e]
  exact IntWalk.i64_in _ ⟨by omega, by omega⟩
end Go.Proofs.YtoeiaimoppmjdaaDoor.Lk
/- Sessions over a bad net, plain: what holds of two links, their sessions and the frames that have gone out, whatever is played. -/
namespace Go.Proofs.YtoeiaimoppmjdaaDoor.Lk
open Go.RowKit Go.Proofs.YtoeiaimoppmjdaaDoorW.PrintWords Go.Proofs.YtoeiaimoppmjdaaDoor.Mem Go.Proofs.YtoeiaimoppmjdaaDoor.Wr Go.Proofs.YtoeiaimoppmjdaaDoor.Bytes Go.Proofs.YtoeiaimoppmjdaaDoor.App
open Go.Proofs.YtoeiaimoppmjdaaDoor.Pace (dbl)
set_option linter.unusedVariables false
set_option linter.unusedSimpArgs false
abbrev bods (l : List BI) : List (List Int) := l.map fun b => b.2
theorem fnd_append (m y : Nat) (ss l : List Se) (h : fnd m y ss < ss.length) : fnd m y (ss ++ l) = fnd m y ss := by
  induction ss with
  | nil => simp at h
  | cons a t ih =>
    unfold fnd at h ⊢
    rw [List.cons_append]
    show (if _ then _ else _) = _
    by_cases q : a.mine = m ∧ a.yours = y
    · rw [if_pos q, if_pos q]
    · rw [if_neg q, if_neg q]
      rw [if_neg q] at h
      rw [ih (by simp at h; omega)]
theorem fnd_append' (m y : Nat) (ss : List Se) (x : Se) (h : fnd m y ss = ss.length) : fnd m y (ss ++ [x]) = if x.mine = m ∧ x.yours = y then ss.length else ss.length + 1 := by
  induction ss with
  | nil => show (if _ then _ else _) = _; split <;> rfl
  | cons a t ih =>
    unfold fnd at h
    rw [List.cons_append]
    show (if _ then _ else _) = _
    by_cases q : a.mine = m ∧ a.yours = y
    · rw [if_pos q] at h; simp at h
    · rw [if_neg q] at h ⊢
      rw [ih (by simp at h; omega)]
      split <;> simp
theorem fnd_set (m y : Nat) (ss : List Se) (k : Nat) (x x' : Se) (h : ss[k]? = some x) (hm : x'.mine = x.mine) (hy : x'.yours = x.yours) : fnd m y (ss.set k x') = fnd m y ss := by
  induction ss generalizing k with
  | nil => simp at h
  | cons a t ih =>
    cases k with
    | zero =>
      simp at h; subst h
      rw [List.set_cons_zero]
      unfold fnd
      rw [hm, hy]
    | succ k =>
      simp at h
      rw [List.set_cons_succ]
      unfold fnd
      rw [ih k h]
/-- A look at the session that stands changes nothing of what was handed in or up. -/
theorem nowS_of (m y m' y' : Nat) (ss : List Se) : insOf m y (nowS m' y' ss) = insOf m y ss ∧ upsOf m y (nowS m' y' ss) = upsOf m y ss := by
  unfold nowS
  split
  · exact ⟨rfl, rfl⟩
  · split
    · exact ⟨rfl, rfl⟩
    · unfold insOf upsOf
      rcases Nat.lt_or_ge (fnd m y ss) ss.length with q | q
      · rw [fnd_append m y ss _ q, List.getElem?_append_left q]
        exact ⟨rfl, rfl⟩
      · have e : fnd m y ss = ss.length := by have := fnd_le m y ss; omega
        rw [fnd_append' m y ss _ e, e, List.getElem?_eq_none (Nat.le_refl _)]
        by_cases r : (newSe m' y').mine = m ∧ (newSe m' y').yours = y
        · rw [if_pos r, List.getElem?_append_right (Nat.le_refl _), Nat.sub_self]
          exact ⟨rfl, rfl⟩
        · rw [if_neg r, List.getElem?_eq_none (by simp)]
          exact ⟨rfl, rfl⟩
theorem nowS_mem (m y : Nat) (ss : List Se) (x : Se) (h : x ∈ nowS m y ss) : x ∈ ss ∨ (x = newSe m y ∧ y ≠ 0) := by
  unfold nowS at h
  split at h
  · exact .inl h
  · rename_i q
    split at h
    · exact .inl h
    · rcases List.mem_append.1 h with h | h
      · exact .inl h
      · exact .inr ⟨List.mem_singleton.1 h, q⟩
theorem nowS_len (m y : Nat) (ss : List Se) : (nowS m y ss).length ≤ ss.length + 1 := by
  unfold nowS; split
  · omega
  · split
    · omega
    · simp
theorem nowS_fnd (m y m' y' : Nat) (ss : List Se) (x : Se) (h : (nowS m y ss)[fnd m y ss]? = some x) (hx : x.mine = m ∧ x.yours = y) : fnd m y (nowS m y ss) = fnd m y ss := by
  unfold nowS at h ⊢
  split at h
  · rw [if_pos (by assumption)]
  · rw [if_neg (by assumption)]
    split at h
    · rw [if_pos (by assumption)]
    · rename_i q
      rw [if_neg q]
      have e : fnd m y ss = ss.length := by have := fnd_le m y ss; omega
      rw [fnd_append' m y ss _ e, if_pos ⟨rfl, rfl⟩, e]
/-- The session that stands, with another record in its place. -/
theorem set_of (m y a b : Nat) (ss : List Se) (x x' : Se) (h : (nowS m y ss)[fnd m y ss]? = some x) (hx : x.mine = m ∧ x.yours = y) (hx' : x'.mine = m ∧ x'.yours = y) :
    insOf a b ((nowS m y ss).set (fnd m y ss) x') = (if a = m ∧ b = y then x'.ins else insOf a b ss) ∧ upsOf a b ((nowS m y ss).set (fnd m y ss) x') = (if a = m ∧ b = y then x'.ups else upsOf a b ss) := by
  have hf := fnd_set a b (nowS m y ss) (fnd m y ss) x x' h (by rw [hx.1, hx'.1]) (by rw [hx.2, hx'.2])
  have hlt := (List.getElem?_eq_some_iff.1 h).1
  by_cases q : a = m ∧ b = y
  · obtain ⟨rfl, rfl⟩ := q
    have hn := nowS_fnd a b a b ss x h hx
    unfold insOf upsOf
    rw [hf, hn, List.getElem?_set_self hlt, if_pos ⟨rfl, rfl⟩, if_pos ⟨rfl, rfl⟩]
    exact ⟨rfl, rfl⟩
  · rw [if_neg q, if_neg q]
    have hne : fnd a b (nowS m y ss) ≠ fnd m y ss := by
      intro e
      rw [← e] at h
      have := fnd_hit a b _ x h
      exact q ⟨by rw [← this.1, hx.1], by rw [← this.2, hx.2]⟩
    have h2 := nowS_of a b m y ss
    unfold insOf upsOf at h2 ⊢
    rw [hf, List.getElem?_set_ne (Ne.symm hne)]
    exact h2
theorem upS_eq (m y : Nat) (ss : List Se) (hy : y ≠ 0) (uv : Value) (b : BI) : ∃ x, (nowS m y ss)[fnd m y ss]? = some x ∧ x.mine = m ∧ x.yours = y ∧ x.ups = upsOf m y ss ∧ x.ins = insOf m y ss ∧
    upS m y ss uv b = (nowS m y ss).set (fnd m y ss) { x with uv := uv, ups := x.ups ++ [b] } := by
  obtain ⟨x, h1, h2, h3, h4, h5⟩ := nowS_get m y ss hy
  exact ⟨x, h1, h2, h3, h4, h5, by unfold upS; rw [h1]⟩
theorem ins_len (m y t : Nat) (ss : List Se) (h : ∀ x, x ∈ ss → x.ins.length ≤ t) : (insOf m y ss).length ≤ t := by
  unfold insOf; split
  · rename_i x hx; exact h x (List.mem_of_getElem? hx)
  · exact Nat.zero_le _
theorem ups_len (m y t : Nat) (ss : List Se) (h : ∀ x, x ∈ ss → x.ups.length ≤ t) : (upsOf m y ss).length ≤ t := by
  unfold upsOf; split
  · rename_i x hx; exact h x (List.mem_of_getElem? hx)
  · exact Nat.zero_le _
/-- No session with these lives. -/
theorem of_none (m y : Nat) (ss : List Se) (h : ∀ x, x ∈ ss → ¬ (x.mine = m ∧ x.yours = y)) : insOf m y ss = [] ∧ upsOf m y ss = [] := by
  unfold insOf upsOf
  cases e : ss[fnd m y ss]? with
  | none => exact ⟨rfl, rfl⟩
  | some x => exact absurd (fnd_hit m y ss x e) (h x (List.mem_of_getElem? e))
structure SideI (win most : Int) (t u : Nat) (M : PM) (i j : Nat) : Prop where
  me : (M.s i).me = 5 * (i : Int)
  ot : (M.s i).other = 5 - 5 * (i : Int)
  wi : (M.s i).window = win
  ca : (M.s i).cap = most
  lf : (M.s i).life = M.lf i
  l1 : 1 ≤ M.lf i
  l2 : M.lf i ≤ 1 + 3 * t
  kn : (M.s i).known ≤ M.lf j
  rec_ : ∀ x, x ∈ M.ss i → x.mine ≤ M.lf i ∧ (x.mine = M.lf i → x.yours ≤ (M.s i).known)
  small : ∀ x, x ∈ M.ss i → x.ins.length ≤ t ∧ x.ups.length ≤ u
  nss : (M.ss i).length ≤ u
  row1 : (M.s i).known ≠ 0 → (M.s i).gone ≤ (insOf (M.lf i) (M.s i).known (M.ss i)).length
  row2 : (M.s i).known ≠ 0 → (bods (insOf (M.lf i) (M.s i).known (M.ss i))).drop (M.s i).gone = bods (M.s i).items
  up : (M.s i).known ≠ 0 → (M.s i).heard = (upsOf (M.lf i) (M.s i).known (M.ss i)).length
  z : (M.s i).known = 0 → (M.s i).gone = 0 ∧ (M.s i).out = 0 ∧ (M.s i).heard = 0
  ou : (M.s i).out ≤ (M.s i).gone + (M.s i).items.length
  go : (M.s i).gone ≤ (M.s i).out
  ow : ((M.s i).out : Int) ≤ ((M.s i).gone : Int) + (M.s i).window
  ni : (M.s i).gone + (M.s i).items.length ≤ t
  he : (M.s i).heard ≤ u
  g1 : (M.s i).known = M.lf j → 0 < (M.s i).gone → (M.s j).known = M.lf i ∧ (M.s i).gone ≤ (M.s j).heard
  g2 : (M.s i).known = M.lf j → 0 < (M.s i).heard → (M.s j).known = M.lf i ∧ (M.s i).heard ≤ (M.s j).out
/-- A frame that has gone out from side j. -/
structure FrI (M : PM) (F : Frm) (j : Nat) : Prop where
  fit : Fit F
  src : F.src = 5 * (j : Int)
  dst : F.dst = 5 - 5 * (j : Int)
  mi : F.mine ≤ M.lf j
  yo : F.mine = M.lf j → F.yours ≤ (M.s j).known
  seq : 0 < F.seq → ∃ b, (insOf F.mine F.yours (M.ss j))[F.seq - 1]? = some b ∧ b.2 = F.body
  ex : F.mine = M.lf j → F.yours = (M.s j).known → F.ack ≤ (M.s j).heard ∧ F.seq ≤ (M.s j).out
structure Inv (win most : Int) (t u : Nat) (M : PM) : Prop where
  side : ∀ i j, i < 2 → j + i = 1 → SideI win most t u M i j
  fr : ∀ x, x ∈ M.fs → ∃ j, j < 2 ∧ FrI M x.2 j
  nfs : M.fs.length ≤ 5 * u
/-- A frame from side k stays what it is where side i (another, or the same with its lives) has turned. -/
theorem FrI.mono {M M' : PM} {F : Frm} {k : Nat} (h : FrI M F k) (hlf : M.lf k ≤ M'.lf k) (hins : ∀ (m y : Nat) (b : BI) (n : Nat), (insOf m y (M.ss k))[n]? = some b → (insOf m y (M'.ss k))[n]? = some b)
    (hkn : M'.lf k = M.lf k → (M.s k).known ≤ (M'.s k).known) (hsame : M'.lf k = M.lf k → (M'.s k).known = (M.s k).known → (M.s k).heard ≤ (M'.s k).heard ∧ (M.s k).out ≤ (M'.s k).out) : FrI M' F k := by
  refine ⟨h.fit, h.src, h.dst, by have := h.mi; omega, fun e => ?_, fun e => ?_, fun e1 e2 => ?_⟩
  · have e2 : M'.lf k = M.lf k := by have := h.mi; omega
    have := h.yo (by omega); have := hkn e2; omega
  · obtain ⟨b, h1, h2⟩ := h.seq e
    exact ⟨b, hins _ _ _ _ h1, h2⟩
  · have e3 : M'.lf k = M.lf k := by have := h.mi; omega
    have e4 := h.yo (by omega)
    have e5 := hkn e3
    have e6 : (M'.s k).known = (M.s k).known := by omega
    have := hsame e3 e6
    have := h.ex (by omega) (by omega)
    omega
end Go.Proofs.YtoeiaimoppmjdaaDoor.Lk
/- Sessions over a bad net, plain: each step keeps what holds. -/
namespace Go.Proofs.YtoeiaimoppmjdaaDoor.Lk
open Go.RowKit Go.Proofs.YtoeiaimoppmjdaaDoorW.PrintWords Go.Proofs.YtoeiaimoppmjdaaDoor.Mem Go.Proofs.YtoeiaimoppmjdaaDoor.Wr Go.Proofs.YtoeiaimoppmjdaaDoor.Bytes Go.Proofs.YtoeiaimoppmjdaaDoor.App
open Go.Proofs.YtoeiaimoppmjdaaDoor.Pace (dbl)
set_option linter.unusedVariables false
set_option linter.unusedSimpArgs false
section
variable {win most : Int} {t u : Nat} {M : PM}
theorem SideI.other {M' : PM} {i j t' u' : Nat} (h : SideI win most t u M j i) (hs : M'.s j = M.s j) (hss : M'.ss j = M.ss j) (hl : M'.lf j = M.lf j) (hli : M.lf i ≤ M'.lf i) (ht : t ≤ t') (hu : u ≤ u')
    (g1 : (M.s j).known = M'.lf i → 0 < (M.s j).gone → (M'.s i).known = M.lf j ∧ (M.s j).gone ≤ (M'.s i).heard) (g2 : (M.s j).known = M'.lf i → 0 < (M.s j).heard → (M'.s i).known = M.lf j ∧ (M.s j).heard ≤ (M'.s i).out) : SideI win most t' u' M' j i := by
  have k1 := h.l2; have k2 := h.kn; have k3 := h.nss; have k4 := h.ni; have k5 := h.he
  refine ⟨by rw [hs]; exact h.me, by rw [hs]; exact h.ot, by rw [hs]; exact h.wi, by rw [hs]; exact h.ca, by rw [hs, hl]; exact h.lf, by rw [hl]; exact h.l1, by rw [hl]; omega, by rw [hs]; omega, by rw [hs, hss, hl]; exact h.rec_, ?_, by rw [hss]; omega, by rw [hs, hss, hl]; exact h.row1, by rw [hs, hss, hl]; exact h.row2, by rw [hs, hss, hl]; exact h.up, by rw [hs]; exact h.z, by rw [hs]; exact h.ou, by rw [hs]; exact h.go, by rw [hs]; exact h.ow, by rw [hs]; omega, by rw [hs]; omega, by rw [hs, hl]; exact g1, by rw [hs, hl]; exact g2⟩
  rw [hss]
  intro x hx
  have := h.small x hx
  omega
/-- What side i's part of it is, told by its new link, its new life and its new sessions alone. -/
structure Core (win most : Int) (t u i : Nat) (l lj : Nat) (s : LS) (S : List Se) : Prop where
  me : s.me = 5 * (i : Int)
  ot : s.other = 5 - 5 * (i : Int)
  wi : s.window = win
  ca : s.cap = most
  lf : s.life = l
  l1 : 1 ≤ l
  l2 : l ≤ 1 + 3 * t
  kn : s.known ≤ lj
  rec_ : ∀ x, x ∈ S → x.mine ≤ l ∧ (x.mine = l → x.yours ≤ s.known)
  small : ∀ x, x ∈ S → x.ins.length ≤ t ∧ x.ups.length ≤ u
  nss : S.length ≤ u
  row1 : s.known ≠ 0 → s.gone ≤ (insOf l s.known S).length
  row2 : s.known ≠ 0 → (bods (insOf l s.known S)).drop s.gone = bods s.items
  up : s.known ≠ 0 → s.heard = (upsOf l s.known S).length
  z : s.known = 0 → s.gone = 0 ∧ s.out = 0 ∧ s.heard = 0
  ou : s.out ≤ s.gone + s.items.length
  go : s.gone ≤ s.out
  ow : (s.out : Int) ≤ (s.gone : Int) + s.window
  ni : s.gone + s.items.length ≤ t
  he : s.heard ≤ u
theorem SideI.core {i j : Nat} (h : SideI win most t u M i j) : Core win most t u i (M.lf i) (M.lf j) (M.s i) (M.ss i) :=
  ⟨h.me, h.ot, h.wi, h.ca, h.lf, h.l1, h.l2, h.kn, h.rec_, h.small, h.nss, h.row1, h.row2, h.up, h.z, h.ou, h.go, h.ow, h.ni, h.he⟩
theorem Core.more {i l lj : Nat} {s : LS} {S : List Se} {t' u' : Nat} (h : Core win most t u i l lj s S) (ht : t ≤ t') (hu : u ≤ u') : Core win most t' u' i l lj s S :=
  ⟨h.me, h.ot, h.wi, h.ca, h.lf, h.l1, by have := h.l2; omega, h.kn, h.rec_, fun x hx => by have := h.small x hx; omega, by have := h.nss; omega, h.row1, h.row2, h.up, h.z, h.ou, h.go, h.ow, by have := h.ni; omega, by have := h.he; omega⟩
/-- Side i has turned: what is to be shown. -/
theorem inv_turn (hI : Inv win most t u M) (i j : Nat) (hi : i < 2) (hj : j + i = 1) (l : Nat) (s : LS) (S : List Se) (ns : List SF) {t' u' : Nat} (ht : t ≤ t') (hu : u ≤ u') (hll : M.lf i ≤ l)
    (hc : Core win most t' u' i l (M.lf j) s S) (hins : ∀ (m y : Nat) (b : BI) (n : Nat), (insOf m y (M.ss i))[n]? = some b → (insOf m y S)[n]? = some b)
    (hkn : l = M.lf i → (M.s i).known ≤ s.known) (hsame : l = M.lf i → s.known = (M.s i).known → (M.s i).heard ≤ s.heard ∧ (M.s i).out ≤ s.out)
    (g1 : s.known = M.lf j → 0 < s.gone → (M.s j).known = l ∧ s.gone ≤ (M.s j).heard) (g2 : s.known = M.lf j → 0 < s.heard → (M.s j).known = l ∧ s.heard ≤ (M.s j).out)
    (hgj : (M.s j).known = l → (0 < (M.s j).gone → s.known = M.lf j ∧ (M.s j).gone ≤ s.heard) ∧ (0 < (M.s j).heard → s.known = M.lf j ∧ (M.s j).heard ≤ s.out))
    (hns : ns.length ≤ 5 * (u' - u)) (hfr : ∀ x, x ∈ ns → Fit x.2 ∧ x.2.src = 5 * (i : Int) ∧ x.2.dst = 5 - 5 * (i : Int) ∧ x.2.mine = l ∧ x.2.yours = s.known ∧ x.2.ack = s.heard ∧ x.2.seq ≤ s.out ∧ (0 < x.2.seq → ∃ b, (insOf l s.known S)[x.2.seq - 1]? = some b ∧ b.2 = x.2.body)) :
    Inv win most t' u' { lf := upd M.lf i l, s := upd M.s i s, fs := M.fs ++ ns, ss := upd M.ss i S } := by
  have hij := hI.side i j hi hj
  have hji := hI.side j i (by omega) (by omega)
  have hne : j ≠ i := by omega
  obtain ⟨M', hM⟩ : ∃ M' : PM, M' = { lf := upd M.lf i l, s := upd M.s i s, fs := M.fs ++ ns, ss := upd M.ss i S } := ⟨_, rfl⟩
  have e1 : M'.lf i = l := by rw [hM]; exact upd_same ..
  have e2 : M'.s i = s := by rw [hM]; exact upd_same ..
  have e3 : M'.ss i = S := by rw [hM]; exact upd_same ..
  have e4 : M'.lf j = M.lf j := by rw [hM]; exact upd_other _ _ _ _ hne
  have e5 : M'.s j = M.s j := by rw [hM]; exact upd_other _ _ _ _ hne
  have e6 : M'.ss j = M.ss j := by rw [hM]; exact upd_other _ _ _ _ hne
  have e7 : M'.fs = M.fs ++ ns := by rw [hM]
  rw [← hM]
  have A : SideI win most t' u' M' i j := by
    refine ⟨by rw [e2]; exact hc.me, by rw [e2]; exact hc.ot, by rw [e2]; exact hc.wi, by rw [e2]; exact hc.ca, by rw [e2, e1]; exact hc.lf, by rw [e1]; exact hc.l1, by rw [e1]; exact hc.l2, by rw [e2, e4]; exact hc.kn, by rw [e2, e3, e1]; exact hc.rec_, by rw [e3]; exact hc.small, by rw [e3]; exact hc.nss, by rw [e2, e3, e1]; exact hc.row1, by rw [e2, e3, e1]; exact hc.row2, by rw [e2, e3, e1]; exact hc.up, by rw [e2]; exact hc.z, by rw [e2]; exact hc.ou, by rw [e2]; exact hc.go, by rw [e2]; exact hc.ow, by rw [e2]; exact hc.ni, by rw [e2]; exact hc.he, by rw [e2, e4, e5, e1]; exact g1, by rw [e2, e4, e5, e1]; exact g2⟩
  have B : SideI win most t' u' M' j i := hji.other e5 e6 e4 (by rw [e1]; exact hll) ht hu (by rw [e1, e2]; exact fun a b => (hgj a).1 b) (by rw [e1, e2]; exact fun a b => (hgj a).2 b)
  refine ⟨fun a b ha hb => ?_, fun x hx => ?_, by rw [e7, List.length_append]; have := hI.nfs; omega⟩
  · rcases (show a = i ∧ b = j ∨ a = j ∧ b = i by omega) with ⟨rfl, rfl⟩ | ⟨rfl, rfl⟩
    · exact A
    · exact B
  · rw [e7] at hx
    rcases List.mem_append.1 hx with hx | hx
    · obtain ⟨k, hk, h⟩ := hI.fr x hx
      refine ⟨k, hk, ?_⟩
      rcases (show k = i ∨ k = j by omega) with rfl | rfl
      · exact h.mono (by rw [e1]; exact hll) (by rw [e3]; exact hins) (by rw [e1, e2]; exact hkn) (by rw [e1, e2]; exact hsame)
      · exact h.mono (by rw [e4]; exact Nat.le_refl _) (by rw [e6]; exact fun _ _ _ _ h => h) (by rw [e5]; exact fun _ => Nat.le_refl _) (by rw [e5]; exact fun _ _ => ⟨Nat.le_refl _, Nat.le_refl _⟩)
    · obtain ⟨f1, f2, f3, f4, f5, f6, f7, f8⟩ := hfr x hx
      refine ⟨i, hi, f1, f2, f3, by rw [e1]; omega, fun _ => by rw [e2]; omega, fun h => ?_, fun _ _ => by rw [e2]; omega⟩
      rw [e3, f4, f5]; exact f8 h
/-- The link of side i differs in what does not count here. -/
structure Like (s s' : LS) : Prop where
  me : s'.me = s.me
  ot : s'.other = s.other
  wi : s'.window = s.window
  ca : s'.cap = s.cap
  lf : s'.life = s.life
  kn : s'.known = s.known
  it : s'.items = s.items
  gone : s'.gone = s.gone
  he : s'.heard = s.heard
theorem Core.like {i l lj : Nat} {s s' : LS} {S : List Se} (h : Core win most t u i l lj s S) (k : Like s s') (ho : s.out ≤ s'.out) (ho2 : s'.out ≤ s.gone + s.items.length) (hz : s.known = 0 → s'.out = 0) (ho3 : (s'.out : Int) ≤ (s.gone : Int) + s.window) : Core win most t u i l lj s' S := by
  refine ⟨by rw [k.me]; exact h.me, by rw [k.ot]; exact h.ot, by rw [k.wi]; exact h.wi, by rw [k.ca]; exact h.ca, by rw [k.lf]; exact h.lf, h.l1, h.l2, by rw [k.kn]; exact h.kn, by rw [k.kn]; exact h.rec_, h.small, h.nss, by rw [k.kn, k.gone]; exact h.row1, by rw [k.kn, k.gone, k.it]; exact h.row2, by rw [k.kn, k.he]; exact h.up, ?_, by rw [k.gone, k.it]; exact ho2, by rw [k.gone]; have := h.go; omega, by rw [k.gone, k.wi]; exact ho3, by rw [k.gone, k.it]; exact h.ni, by rw [k.he]; exact h.he⟩
  rw [k.kn, k.gone, k.he]
  exact fun e => ⟨(h.z e).1, hz e, (h.z e).2.2⟩
theorem inv_like (hI : Inv win most t u M) (i j : Nat) (hi : i < 2) (hj : j + i = 1) (s' : LS) (ns : List SF) {u' : Nat} (hu : u ≤ u') (k : Like (M.s i) s') (ho : (M.s i).out ≤ s'.out) (ho2 : s'.out ≤ (M.s i).gone + (M.s i).items.length) (hz : (M.s i).known = 0 → s'.out = 0) (ho3 : (s'.out : Int) ≤ ((M.s i).gone : Int) + (M.s i).window) (hns : ns.length ≤ 5 * (u' - u))
    (hfr : ∀ x, x ∈ ns → Fit x.2 ∧ x.2.src = 5 * (i : Int) ∧ x.2.dst = 5 - 5 * (i : Int) ∧ x.2.mine = M.lf i ∧ x.2.yours = (M.s i).known ∧ x.2.ack = (M.s i).heard ∧ x.2.seq ≤ s'.out ∧ (0 < x.2.seq → ∃ b, (insOf (M.lf i) (M.s i).known (M.ss i))[x.2.seq - 1]? = some b ∧ b.2 = x.2.body)) :
    Inv win most t u' { M with s := upd M.s i s', fs := M.fs ++ ns } := by
  have hij := hI.side i j hi hj
  have hji := hI.side j i (by omega) (by omega)
  have := inv_turn hI i j hi hj (M.lf i) s' (M.ss i) ns (Nat.le_refl t) hu (Nat.le_refl _) ((hij.core.like k ho ho2 hz ho3).more (Nat.le_refl t) hu) (fun _ _ _ _ h => h) (fun _ => by rw [k.kn]; exact Nat.le_refl _) (fun _ _ => ⟨by rw [k.he]; exact Nat.le_refl _, ho⟩)
    (by rw [k.kn, k.gone]; exact hij.g1) (by rw [k.kn, k.he]; exact hij.g2) (fun e => ⟨fun h => by rw [k.kn, k.he]; exact hji.g1 e h, fun h => by rw [k.kn]; obtain ⟨q1, q2⟩ := hji.g2 e h; exact ⟨q1, by omega⟩⟩) hns
    (fun x hx => by rw [k.kn, k.he]; exact hfr x hx)
  rw [upd_self, upd_self] at this
  exact this
theorem inv_owe (hI : Inv win most t u M) (i j : Nat) (hi : i < 2) (hj : j + i = 1) : Inv win most t u { M with s := upd M.s i { M.s i with asked := true } } := by
  have hij := hI.side i j hi hj
  have := inv_like hI i j hi hj { M.s i with asked := true } [] (Nat.le_refl u) ⟨rfl, rfl, rfl, rfl, rfl, rfl, rfl, rfl, rfl⟩ (Nat.le_refl _) hij.ou (fun e => (hij.z e).2.1) hij.ow (Nat.zero_le _) (fun x hx => by cases hx)
  rw [List.append_nil] at this
  exact this
theorem inv_now (hI : Inv win most t u M) (i j : Nat) (hi : i < 2) (hj : j + i = 1) : Inv win most t (u + 1) { M with ss := upd M.ss i (nowS (M.lf i) (M.s i).known (M.ss i)) } := by
  have hij := hI.side i j hi hj
  have hji := hI.side j i (by omega) (by omega)
  have hof := fun m y => nowS_of m y (M.lf i) (M.s i).known (M.ss i)
  have := inv_turn hI i j hi hj (M.lf i) (M.s i) (nowS (M.lf i) (M.s i).known (M.ss i)) [] (Nat.le_refl t) (Nat.le_succ u) (Nat.le_refl _)
    ⟨hij.me, hij.ot, hij.wi, hij.ca, hij.lf, hij.l1, hij.l2, hij.kn, fun x hx => (by
      rcases nowS_mem _ _ _ _ hx with h | ⟨rfl, h⟩
      · exact hij.rec_ x h
      · exact ⟨Nat.le_refl _, fun _ => Nat.le_refl _⟩), fun x hx => (by
      rcases nowS_mem _ _ _ _ hx with h | ⟨rfl, h⟩
      · have := hij.small x h; omega
      · exact ⟨Nat.zero_le _, Nat.zero_le _⟩), (by have := nowS_len (M.lf i) (M.s i).known (M.ss i); have := hij.nss; omega), by rw [(hof _ _).1]; exact hij.row1, by rw [(hof _ _).1]; exact hij.row2, by rw [(hof _ _).2]; exact hij.up, hij.z, hij.ou, hij.go, hij.ow, hij.ni, (by have := hij.he; omega)⟩
    (fun m y b n h => by rw [(hof _ _).1]; exact h) (fun _ => Nat.le_refl _) (fun _ _ => ⟨Nat.le_refl _, Nat.le_refl _⟩) hij.g1 hij.g2 (fun e => ⟨hji.g1 e, hji.g2 e⟩) (Nat.zero_le _) (fun x hx => by cases hx)
  rw [List.append_nil, upd_self, upd_self] at this
  exact this
theorem inv_lives (hI : Inv win most t u M) (hwin : 0 ≤ win) (i j n : Nat) (hi : i < 2) (hj : j + i = 1) (hn : M.lf i < n) (hn2 : n ≤ M.lf i + 3) (gc : Nat) : Inv win most (t + 1) u { M with lf := upd M.lf i n, s := upd M.s i (ls0 (5 * (i : Int)) (5 - 5 * (i : Int)) n win gc most) } := by
  have hij := hI.side i j hi hj
  have hji := hI.side j i (by omega) (by omega)
  have := inv_turn hI i j hi hj n (ls0 (5 * (i : Int)) (5 - 5 * (i : Int)) n win gc most) (M.ss i) [] (Nat.le_succ t) (Nat.le_refl u) (by omega)
    ⟨rfl, rfl, rfl, rfl, rfl, (by omega), (by have := hij.l2; omega), Nat.zero_le _, fun x hx => (by have := (hij.rec_ x hx).1; exact ⟨by omega, fun e => by omega⟩), fun x hx => (by have := hij.small x hx; omega), hij.nss, fun h => absurd rfl h, fun h => absurd rfl h, fun h => absurd rfl h, fun _ => ⟨rfl, rfl, rfl⟩, Nat.zero_le _, Nat.zero_le _, (by show (0 : Int) ≤ 0 + win; omega), (by show 0 + 0 ≤ _; omega), Nat.zero_le _⟩
    (fun _ _ _ _ h => h) (fun e => by omega) (fun e => by omega) (fun e => by have := hji.l1; have e' : 0 = M.lf j := e; omega) (fun e => by have := hji.l1; have e' : 0 = M.lf j := e; omega) (fun e => by have := hji.kn; omega) (Nat.zero_le _) (fun x hx => by cases hx)
  rw [List.append_nil, upd_self] at this
  exact this
/-- A body is handed in. -/
theorem inv_send0 (hI : Inv win most t u M) (i j : Nat) (hi : i < 2) (hj : j + i = 1) (h0 : (M.s i).known = 0) (iv : Value) (b : BI) : Inv win most (t + 1) (u + 1) { M with s := upd M.s i { sentP (M.s i) with iv := iv, items := (M.s i).items ++ [b] } } := by
  have hij := hI.side i j hi hj
  have hji := hI.side j i (by omega) (by omega)
  obtain ⟨z1, z2, z3⟩ := hij.z h0
  have es : ∃ l g, ({ sentP (M.s i) with iv := iv, items := (M.s i).items ++ [b] } : LS) = { M.s i with left := l, gap := g, iv := iv, items := (M.s i).items ++ [b] } := by
    unfold sentP; split
    · exact ⟨_, _, rfl⟩
    · exact ⟨(M.s i).left, (M.s i).gap, rfl⟩
  obtain ⟨lft, gp, es⟩ := es
  rw [es]
  have := inv_turn hI i j hi hj (M.lf i) { M.s i with left := lft, gap := gp, iv := iv, items := (M.s i).items ++ [b] } (M.ss i) [] (Nat.le_succ t) (Nat.le_succ u) (Nat.le_refl _)
    ⟨hij.me, hij.ot, hij.wi, hij.ca, hij.lf, hij.l1, (by have := hij.l2; omega), hij.kn, hij.rec_, fun x hx => (by have := hij.small x hx; omega), (by have := hij.nss; omega), fun h => absurd h0 h, fun h => absurd h0 h, fun h => absurd h0 h, hij.z, (by show (M.s i).out ≤ (M.s i).gone + ((M.s i).items ++ [b]).length; rw [z2]; exact Nat.zero_le _), hij.go, hij.ow, (by show (M.s i).gone + ((M.s i).items ++ [b]).length ≤ _; rw [List.length_append]; have := hij.ni; show _ + (_ + 1) ≤ _; omega), (by have := hij.he; show (M.s i).heard ≤ _; omega)⟩
    (fun _ _ _ _ h => h) (fun _ => Nat.le_refl _) (fun _ _ => ⟨Nat.le_refl _, Nat.le_refl _⟩) hij.g1 hij.g2 (fun e => ⟨hji.g1 e, hji.g2 e⟩) (Nat.zero_le _) (fun x hx => by cases hx)
  rw [List.append_nil, upd_self, upd_self] at this
  exact this
theorem inv_send (hI : Inv win most t u M) (i j : Nat) (hi : i < 2) (hj : j + i = 1) (h0 : (M.s i).known ≠ 0) (iv v1 : Value) (b b2 : BI) (hb : b.2 = b2.2) (x : Se) (hx : (nowS (M.lf i) (M.s i).known (M.ss i))[fnd (M.lf i) (M.s i).known (M.ss i)]? = some x) (hx2 : x.mine = M.lf i ∧ x.yours = (M.s i).known ∧ x.ups = upsOf (M.lf i) (M.s i).known (M.ss i) ∧ x.ins = insOf (M.lf i) (M.s i).known (M.ss i)) :
    Inv win most (t + 1) (u + 1) { M with s := upd M.s i { sentP (M.s i) with iv := iv, items := (M.s i).items ++ [b] }, ss := upd M.ss i ((nowS (M.lf i) (M.s i).known (M.ss i)).set (fnd (M.lf i) (M.s i).known (M.ss i)) { x with iv := v1, ins := x.ins ++ [b2] }) } := by
  have hij := hI.side i j hi hj
  have hji := hI.side j i (by omega) (by omega)
  have es : ∃ l g, ({ sentP (M.s i) with iv := iv, items := (M.s i).items ++ [b] } : LS) = { M.s i with left := l, gap := g, iv := iv, items := (M.s i).items ++ [b] } := by
    unfold sentP; split
    · exact ⟨_, _, rfl⟩
    · exact ⟨(M.s i).left, (M.s i).gap, rfl⟩
  obtain ⟨lft, gp, es⟩ := es
  rw [es]
  obtain ⟨x', hx'⟩ : ∃ x' : Se, x' = { x with iv := v1, ins := x.ins ++ [b2] } := ⟨_, rfl⟩
  rw [← hx']
  obtain ⟨S, hS⟩ : ∃ S, S = (nowS (M.lf i) (M.s i).known (M.ss i)).set (fnd (M.lf i) (M.s i).known (M.ss i)) x' := ⟨_, rfl⟩
  have hof := fun m y => set_of (M.lf i) (M.s i).known m y (M.ss i) x x' hx ⟨hx2.1, hx2.2.1⟩ (by rw [hx']; exact ⟨hx2.1, hx2.2.1⟩)
  rw [← hS] at hof ⊢
  have hcur := hof (M.lf i) (M.s i).known
  rw [if_pos ⟨rfl, rfl⟩, if_pos ⟨rfl, rfl⟩] at hcur
  have e1 : x'.ins = insOf (M.lf i) (M.s i).known (M.ss i) ++ [b2] := by rw [hx', ← hx2.2.2.2]
  have e2 : x'.ups = upsOf (M.lf i) (M.s i).known (M.ss i) := by rw [hx', ← hx2.2.2.1]
  rw [e1, e2] at hcur
  have r1 := hij.row1 h0
  have r2 := hij.row2 h0
  have hil : (insOf (M.lf i) (M.s i).known (M.ss i)).length ≤ t := ins_len _ _ _ _ (fun x hx => (hij.small x hx).1)
  have hul : (upsOf (M.lf i) (M.s i).known (M.ss i)).length ≤ u := ups_len _ _ _ _ (fun x hx => (hij.small x hx).2)
  have hmem : ∀ z, z ∈ S → z = x' ∨ z ∈ M.ss i ∨ z = newSe (M.lf i) (M.s i).known := fun z hz => by
    rw [hS] at hz
    rcases List.mem_or_eq_of_mem_set hz with hz | rfl
    · rcases nowS_mem _ _ _ _ hz with h | ⟨h, _⟩
      · exact .inr (.inl h)
      · exact .inr (.inr h)
    · exact .inl rfl
  have := inv_turn hI i j hi hj (M.lf i) { M.s i with left := lft, gap := gp, iv := iv, items := (M.s i).items ++ [b] } S [] (Nat.le_succ t) (Nat.le_succ u) (Nat.le_refl _)
    ⟨hij.me, hij.ot, hij.wi, hij.ca, hij.lf, hij.l1, (by have := hij.l2; omega), hij.kn, fun z hz => (by
      rcases hmem z hz with rfl | h | rfl
      · rw [hx']; exact ⟨by show x.mine ≤ _; omega, fun _ => by show x.yours ≤ (M.s i).known; omega⟩
      · exact hij.rec_ z h
      · exact ⟨Nat.le_refl _, fun _ => Nat.le_refl _⟩), fun z hz => (by
      rcases hmem z hz with rfl | h | rfl
      · rw [e1, e2, List.length_append]; exact ⟨by show _ + 1 ≤ _; omega, by omega⟩
      · have := hij.small z h; omega
      · exact ⟨Nat.zero_le _, Nat.zero_le _⟩), (by rw [hS, List.length_set]; have := nowS_len (M.lf i) (M.s i).known (M.ss i); have := hij.nss; omega),
      (fun _ => by show (M.s i).gone ≤ (insOf (M.lf i) (M.s i).known S).length; rw [hcur.1, List.length_append]; omega), (fun _ => by
        show (bods (insOf (M.lf i) (M.s i).known S)).drop (M.s i).gone = bods ((M.s i).items ++ [b])
        rw [hcur.1]
        unfold bods at r2 ⊢
        rw [List.map_append, List.map_append, List.drop_append_of_le_length (by rw [List.length_map]; exact r1), r2]
        simp [hb]), (fun _ => by show (M.s i).heard = (upsOf (M.lf i) (M.s i).known S).length; rw [hcur.2]; exact hij.up h0), fun e => absurd e h0, (by show (M.s i).out ≤ (M.s i).gone + ((M.s i).items ++ [b]).length; rw [List.length_append]; have := hij.ou; omega), hij.go, hij.ow, (by show (M.s i).gone + ((M.s i).items ++ [b]).length ≤ _; rw [List.length_append]; have := hij.ni; show _ + (_ + 1) ≤ _; omega), (by have := hij.he; show (M.s i).heard ≤ _; omega)⟩
    (fun m y c n h => by
      rw [(hof m y).1]
      by_cases q : m = M.lf i ∧ y = (M.s i).known
      · rw [if_pos q, e1, ← q.1, ← q.2]
        obtain ⟨hlt, _⟩ := List.getElem?_eq_some_iff.1 h
        rw [List.getElem?_append_left hlt]; exact h
      · rw [if_neg q]; exact h) (fun _ => Nat.le_refl _) (fun _ _ => ⟨Nat.le_refl _, Nat.le_refl _⟩) hij.g1 hij.g2 (fun e => ⟨hji.g1 e, hji.g2 e⟩) (Nat.zero_le _) (fun x hx => by cases hx)
  rw [List.append_nil, upd_self] at this
  exact this
end
end Go.Proofs.YtoeiaimoppmjdaaDoor.Lk
/- Sessions over a bad net, plain: a tick, a frame that is heard. -/
namespace Go.Proofs.YtoeiaimoppmjdaaDoor.Lk
open Go.RowKit Go.Proofs.YtoeiaimoppmjdaaDoorW.PrintWords Go.Proofs.YtoeiaimoppmjdaaDoor.Mem Go.Proofs.YtoeiaimoppmjdaaDoor.Wr Go.Proofs.YtoeiaimoppmjdaaDoor.Bytes Go.Proofs.YtoeiaimoppmjdaaDoor.App
open Go.Proofs.YtoeiaimoppmjdaaDoor.Pace (dbl)
set_option linter.unusedVariables false
set_option linter.unusedSimpArgs false
theorem sayTo_mem (s : LS) (tm : Bool) (F : Frm) : ∀ q, F ∈ (sayTo s tm q).1 → ∃ k, k < q ∧ F = frm s (s.gone + k + 1) (s.items.getD k (NL, [])).2 ∧ s.gone + k + 1 ≤ (sayTo s tm q).2
  | 0, h => by cases h
  | q + 1, h => by
    unfold sayTo at h ⊢
    split at h
    · rename_i c
      rw [if_pos c]
      rcases List.mem_append.1 h with h | h
      · obtain ⟨k, h1, h2, h3⟩ := sayTo_mem s tm F q h
        exact ⟨k, by omega, h2, by show _ ≤ max _ _; omega⟩
      · exact ⟨q, by omega, List.mem_singleton.1 h, by show _ ≤ max _ _; omega⟩
    · rename_i c
      rw [if_neg c]
      obtain ⟨k, h1, h2, h3⟩ := sayTo_mem s tm F q h
      exact ⟨k, by omega, h2, h3⟩
theorem tick_like (s : LS) : Like s (tickP s) := by
  obtain ⟨l, g, e⟩ := paced_same s
  unfold tickP; rw [e]
  exact ⟨rfl, rfl, rfl, rfl, rfl, rfl, rfl, rfl, rfl⟩
theorem tick_out (s : LS) : (tickP s).out = (rowP' s).2 := rfl
theorem rowP_out (s : LS) : s.out ≤ (rowP' s).2 ∧ (rowP' s).2 ≤ max s.out (s.gone + s.items.length) ∧ (s.known = 0 → (rowP' s).2 = s.out) := by
  unfold rowP'; split
  · have := sayTo_out s (timeP s) (mayP s)
    have h2 : mayP s ≤ s.items.length := Nat.min_le_left _ _
    exact ⟨this.1, by omega, fun e => by omega⟩
  · exact ⟨Nat.le_refl _, Nat.le_max_left _ _, fun _ => rfl⟩
theorem rowP_ow (s : LS) (h : (s.out : Int) ≤ (s.gone : Int) + s.window) (hw : 0 ≤ s.window) : ((rowP' s).2 : Int) ≤ (s.gone : Int) + s.window := by
  unfold rowP'; split
  · have := sayTo_out s (timeP s) (mayP s)
    have h2 : mayP s ≤ s.window.toNat := Nat.min_le_right _ _
    omega
  · exact h
theorem said_len (s : LS) (h : 1 ≤ s.window) : ((saidP s).length : Int) ≤ s.window := by
  unfold saidP; split
  · show (1 : Int) ≤ _; exact h
  · unfold rowP'; split
    · have := sayTo_len s (timeP s) (mayP s)
      have h2 : mayP s ≤ s.window.toNat := Nat.min_le_right _ _
      omega
    · show (0 : Int) ≤ _; omega
section
variable {win most : Int} {t u : Nat} {M : PM}
theorem inv_tick (hI : Inv win most t u M) (i j : Nat) (hi : i < 2) (hj : j + i = 1) (hw : 1 ≤ win ∧ win ≤ 5) (hV : LkV (M.s i)) (ht : t ≤ 1000000) (hu : u ≤ 1000000) (ns : List SF) (hns : ns.map (fun x => x.2) = saidP (M.s i)) :
    Inv win most t (u + 1) { M with s := upd M.s i (tickP (M.s i)), fs := M.fs ++ ns } := by
  have hij := hI.side i j hi hj
  have hji := hI.side j i (by omega) (by omega)
  have ho := rowP_out (M.s i)
  have hou := hij.ou
  have hlen : ns.length = (saidP (M.s i)).length := by rw [← hns, List.length_map]
  have hsl := said_len (M.s i) (by rw [hij.wi]; exact hw.1)
  rw [hij.wi] at hsl
  have l2 := hij.l2
  have l2' := hji.l2
  have kn := hij.kn
  have ni := hij.ni
  have he := hij.he
  refine inv_like hI i j hi hj (tickP (M.s i)) ns (Nat.le_succ u) (tick_like _) ho.1 (by rw [tick_out]; omega) (fun e => by rw [tick_out, ho.2.2 e]; exact (hij.z e).2.1) (by rw [tick_out]; have := rowP_ow (M.s i) hij.ow (by rw [hij.wi]; omega); exact this) (by omega) (fun x hx => ?_)
  have hxm : x.2 ∈ saidP (M.s i) := by rw [← hns]; exact List.mem_map.2 ⟨x, hx, rfl⟩
  obtain ⟨f1, _, f3, f4, f5, f6⟩ := said_fit hV (by rw [hij.me]; omega) (by rw [hij.ot]; omega) (by rw [hij.lf]; have := hij.l1; omega) (by omega) (by omega) (by omega) x.2 hxm
  have hlf := hij.lf
  have hmore : x.2.ack = (M.s i).heard ∧ x.2.seq ≤ (tickP (M.s i)).out ∧ (0 < x.2.seq → ∃ b, (insOf (M.lf i) (M.s i).known (M.ss i))[x.2.seq - 1]? = some b ∧ b.2 = x.2.body) := by
    have hxm2 := hxm
    unfold saidP at hxm2
    split at hxm2
    · rw [List.mem_singleton.1 hxm2]
      exact ⟨rfl, Nat.zero_le _, fun h => by cases h⟩
    · unfold rowP' at hxm2
      split at hxm2
      · rename_i hk
        obtain ⟨k, h1, h2, h3⟩ := sayTo_mem _ _ _ _ hxm2
        have hkl : k < (M.s i).items.length := Nat.lt_of_lt_of_le h1 (Nat.min_le_left _ _)
        have hout : (tickP (M.s i)).out = (sayTo (M.s i) (timeP (M.s i)) (mayP (M.s i))).2 := by rw [tick_out]; unfold rowP'; rw [if_pos hk]
        rw [h2]
        refine ⟨rfl, by rw [hout]; exact h3, fun _ => ?_⟩
        have r2 := hij.row2 (by omega)
        have hg : (bods (M.s i).items)[k]? = some ((M.s i).items.getD k (NL, [])).2 := by
          unfold bods
          rw [List.getElem?_map, List.getElem?_eq_getElem hkl, List.getD_eq_getElem?_getD, List.getElem?_eq_getElem hkl]; rfl
        rw [← r2, List.getElem?_drop] at hg
        unfold bods at hg
        rw [List.getElem?_map] at hg
        obtain ⟨b, hb1, hb2⟩ := Option.map_eq_some_iff.1 hg
        exact ⟨b, by show (insOf _ _ _)[(M.s i).gone + k + 1 - 1]? = _; rw [show (M.s i).gone + k + 1 - 1 = (M.s i).gone + k by omega]; exact hb1, hb2⟩
      · cases hxm2
  exact ⟨f1, by rw [f3, hij.me], by rw [f4, hij.ot], by rw [f5, hlf], f6, hmore⟩
/-- A life that is new: the row, what was heard, all begins anew. -/
theorem inv_new (hI : Inv win most t u M) (hwin : 0 ≤ win) (i j : Nat) (hi : i < 2) (hj : j + i = 1) (F : Frm) (hm : F.mine ≤ M.lf j) : Inv win most t u { M with s := upd M.s i (newP (M.s i) F) } := by
  have hij := hI.side i j hi hj
  have hji := hI.side j i (by omega) (by omega)
  unfold newP
  split
  · rename_i hlt
    have hnone := of_none (M.lf i) F.mine (M.ss i) (fun x hx ⟨h1, h2⟩ => by have := (hij.rec_ x hx).2 h1; omega)
    have hkn := hij.kn
    have := inv_turn hI i j hi hj (M.lf i) { M.s i with known := F.mine, iv := NL, items := [], gone := 0, out := 0, heard := 0, ack := false, left := 0, gap := 1 } (M.ss i) [] (Nat.le_refl t) (Nat.le_refl u) (Nat.le_refl _)
      ⟨hij.me, hij.ot, hij.wi, hij.ca, hij.lf, hij.l1, hij.l2, hm, fun x hx => ⟨(hij.rec_ x hx).1, fun e => (by have := (hij.rec_ x hx).2 e; show x.yours ≤ F.mine; omega)⟩, hij.small, hij.nss, fun _ => Nat.zero_le _, fun _ => (by show (bods (insOf (M.lf i) F.mine (M.ss i))).drop 0 = []; rw [hnone.1]; rfl), fun _ => (by show 0 = (upsOf (M.lf i) F.mine (M.ss i)).length; rw [hnone.2]; rfl), fun _ => ⟨rfl, rfl, rfl⟩, Nat.zero_le _, Nat.zero_le _, (by show (0 : Int) ≤ 0 + (M.s i).window; rw [hij.wi]; omega), (by show 0 + 0 ≤ _; omega), Nat.zero_le _⟩
      (fun _ _ _ _ h => h) (fun _ => by show (M.s i).known ≤ F.mine; omega) (fun _ e => by have e' : F.mine = (M.s i).known := e; omega) (fun _ h => by cases h) (fun _ h => by cases h)
      (fun e => ⟨fun h => by have := (hji.g1 e h).1; omega, fun h => by have := (hji.g2 e h).1; omega⟩) (Nat.zero_le _) (fun x hx => by cases hx)
    rw [List.append_nil, upd_self, upd_self] at this
    exact this
  · rw [upd_self]; exact hI
/-- A frame of the session that stands. -/
theorem inv_right (hI : Inv win most t u M) (i j : Nat) (hi : i < 2) (hj : j + i = 1) (F : Frm) (hF : FrI M F j) (hk : (M.s i).known = F.mine) (hy : F.yours = M.lf i) (iv : Value) (S : List Se) (hS0 : upB (M.s i) F = false → S = M.ss i)
    (hS1 : upB (M.s i) F = true → ∃ uv bv, S = upS (M.lf i) F.mine (M.ss i) uv (bv, F.body)) : Inv win most t (u + 1) { M with s := upd M.s i { upP (seqP (rightP (M.s i) F) F) F with iv := iv }, ss := upd M.ss i S } := by
  have hij := hI.side i j hi hj
  have hji := hI.side j i (by omega) (by omega)
  have hk0 : (M.s i).known ≠ 0 := by have := hF.fit.m0; omega
  have r1 := hij.row1 hk0
  have r2 := hij.row2 hk0
  have hup := hij.up hk0
  have hou := hij.ou
  have hni := hij.ni
  have hgo := hij.go
  have hhe := hij.he
  have hnss := hij.nss
  -- what is let go
  obtain ⟨d, hd⟩ : ∃ d, d = if F.ack ≤ (M.s i).out then goneN (M.s i) F.ack else 0 := ⟨_, rfl⟩
  have hd1 : d ≤ (M.s i).items.length ∧ (M.s i).gone + d ≤ (M.s i).out ∧ (0 < (M.s i).gone + d → 0 < (M.s i).gone ∧ d = 0 ∨ (M.s i).gone + d ≤ F.ack) := by
    rw [hd]; unfold goneN; split
    · refine ⟨Nat.min_le_right _ _, by omega, fun _ => ?_⟩
      by_cases q : F.ack ≤ (M.s i).gone
      · left
        refine ⟨?_, by omega⟩
        omega
      · right; omega
    · exact ⟨Nat.zero_le _, by omega, fun h => .inl ⟨by omega, rfl⟩⟩
  obtain ⟨he2, hhe2⟩ : ∃ h, h = if upB (M.s i) F = true then (M.s i).heard + 1 else (M.s i).heard := ⟨_, rfl⟩
  obtain ⟨s', hs'⟩ : ∃ s', s' = ({ upP (seqP (rightP (M.s i) F) F) F with iv := iv } : LS) := ⟨_, rfl⟩
  have eub : upB (seqP (rightP (M.s i) F) F) F = upB (M.s i) F := by unfold upB; rw [heard_right]
  have es : s'.me = (M.s i).me ∧ s'.other = (M.s i).other ∧ s'.window = (M.s i).window ∧ s'.cap = (M.s i).cap ∧ s'.life = (M.s i).life ∧ s'.known = (M.s i).known ∧ s'.out = (M.s i).out ∧ s'.items = (M.s i).items.drop d ∧ s'.gone = (M.s i).gone + d ∧ s'.heard = he2 := by
    rw [hs', hd, hhe2]
    unfold upP
    rw [eub]
    unfold seqP rightP ackP dropP goneN
    (repeat' split) <;> simp_all
  obtain ⟨e1, e2, e3, e4, e5, e6, e7, e8, e9, e10⟩ := es
  rw [← hs']
  have hF2 : F.mine = M.lf j → F.yours = (M.s j).known := fun e => by have := hF.yo e; have := hji.kn; omega
  have hseq : upB (M.s i) F = true → F.seq = (M.s i).heard + 1 := fun e => by unfold upB at e; simpa using e
  -- the sessions
  have hSS : (∀ m y, insOf m y S = insOf m y (M.ss i)) ∧ (upsOf (M.lf i) F.mine S).length = he2 ∧ (∀ z, z ∈ S → z ∈ M.ss i ∨ (z.mine = M.lf i ∧ z.yours = F.mine ∧ z.ins.length ≤ t ∧ z.ups.length ≤ u + 1)) ∧ S.length ≤ u + 1 := by
    cases q : upB (M.s i) F with
    | false =>
      rw [hS0 q, hhe2, q]
      refine ⟨fun _ _ => rfl, ?_, fun z hz => .inl hz, by omega⟩
      rw [hk] at hup
      simp; omega
    | true =>
      obtain ⟨uv, bv, rfl⟩ := hS1 q
      obtain ⟨x, x1, x2, x3, x4, x5, x6⟩ := upS_eq (M.lf i) F.mine (M.ss i) (by omega) uv (bv, F.body)
      obtain ⟨x', hx'⟩ : ∃ x' : Se, x' = { x with uv := uv, ups := x.ups ++ [(bv, F.body)] } := ⟨_, rfl⟩
      rw [← hx'] at x6
      have hof := fun m y => set_of (M.lf i) F.mine m y (M.ss i) x x' x1 ⟨x2, x3⟩ (by rw [hx']; exact ⟨x2, x3⟩)
      have hul : (upsOf (M.lf i) F.mine (M.ss i)).length ≤ u := ups_len _ _ _ _ (fun x hx => (hij.small x hx).2)
      have hil : (insOf (M.lf i) F.mine (M.ss i)).length ≤ t := ins_len _ _ _ _ (fun x hx => (hij.small x hx).1)
      rw [hk] at hup
      rw [x6]
      refine ⟨fun m y => ?_, ?_, fun z hz => ?_, ?_⟩
      · rw [(hof m y).1]; split
        · rename_i e; rw [hx', e.1, e.2]; exact x5
        · rfl
      · rw [(hof _ _).2, if_pos ⟨rfl, rfl⟩, hx', hhe2, if_pos q]
        show (x.ups ++ _).length = _
        rw [List.length_append, x4, ← hup]; rfl
      · rcases List.mem_or_eq_of_mem_set hz with hz | rfl
        · rcases nowS_mem _ _ _ _ hz with h | ⟨rfl, _⟩
          · exact .inl h
          · exact .inr ⟨rfl, rfl, Nat.zero_le _, Nat.zero_le _⟩
        · right
          rw [hx']
          refine ⟨x2, x3, by show x.ins.length ≤ _; rw [x5]; exact hil, ?_⟩
          show (x.ups ++ _).length ≤ _
          rw [List.length_append, x4]; show _ + 1 ≤ _; omega
      · rw [List.length_set]; have := nowS_len (M.lf i) F.mine (M.ss i); omega
  obtain ⟨s1, s2, s3, s4⟩ := hSS
  have hh2 : (M.s i).heard ≤ he2 ∧ he2 ≤ u + 1 := by rw [hhe2]; split <;> omega
  have := inv_turn hI i j hi hj (M.lf i) s' S [] (Nat.le_refl t) (Nat.le_succ u) (Nat.le_refl _)
    ⟨by rw [e1]; exact hij.me, by rw [e2]; exact hij.ot, by rw [e3]; exact hij.wi, by rw [e4]; exact hij.ca, by rw [e5]; exact hij.lf, hij.l1, hij.l2, by rw [e6]; exact hij.kn, fun z hz => (by
      rw [e6]
      rcases s3 z hz with h | ⟨h1, h2, _⟩
      · exact hij.rec_ z h
      · exact ⟨by omega, fun _ => by omega⟩), fun z hz => (by
      rcases s3 z hz with h | ⟨_, _, h1, h2⟩
      · have := hij.small z h; omega
      · exact ⟨h1, h2⟩), s4, (by rw [e6, e9, s1]; intro _; have e := congrArg List.length r2; unfold bods at e; rw [List.length_drop, List.length_map, List.length_map] at e; omega), (by
      rw [e6, e9, s1, e8]
      intro _
      unfold bods at r2 ⊢
      rw [List.map_drop, ← r2, List.drop_drop]), (by rw [e6, e10, hk]; intro _; exact s2.symm), fun e => absurd (e6 ▸ e) hk0, (by rw [e7, e9, e8, List.length_drop]; omega), (by rw [e9, e7]; exact hd1.2.1), (by rw [e7, e9, e3]; have := hij.ow; omega), (by rw [e9, e8, List.length_drop]; omega), by rw [e10]; exact hh2.2⟩
    (fun m y b n h => by rw [s1]; exact h) (fun _ => by rw [e6]; exact Nat.le_refl _) (fun _ _ => by rw [e10, e7]; exact ⟨hh2.1, Nat.le_refl _⟩)
    (by
      rw [e6, e9]
      intro e h
      have h1 := hF2 (by omega)
      rcases hd1.2.2 h with ⟨q1, q2⟩ | q
      · have := hij.g1 e q1; rw [q2]; exact this
      · have := (hF.ex (by omega) h1).1
        exact ⟨by omega, by omega⟩)
    (by
      rw [e6, e10]
      intro e h
      have h1 := hF2 (by omega)
      rw [hhe2] at h ⊢
      cases q : upB (M.s i) F with
      | true =>
        rw [if_pos rfl]
        have := (hF.ex (by omega) h1).2
        have := hseq q
        exact ⟨by omega, by omega⟩
      | false =>
        rw [q] at h
        simp at h ⊢
        exact hij.g2 e h)
    (fun e => ⟨fun h => by rw [e6, e10]; have := hji.g1 e h; exact ⟨this.1, by omega⟩, fun h => by rw [e6, e7]; exact hji.g2 e h⟩) (Nat.zero_le _) (fun x hx => by cases hx)
  rw [List.append_nil, upd_self] at this
  exact this
theorem bad_of {s : LS} {F : Frm} (hf : Fit F) (h1 : F.src = s.other) (h2 : F.dst = s.me) : badP s F = decide (F.mine < s.known) := by
  unfold badP
  rw [(fit_iff F).2 hf, h1, h2]
  simp
/-- A frame is heard. -/
theorem inv_hear (hI : Inv win most t u M) (hwin : 0 ≤ win) (i j : Nat) (hi : i < 2) (hj : j + i = 1) (F : Frm) (hF : FrI M F j) (iv : Value) (S : List Se) (hS0 : handedP (M.s i) F = false → S = M.ss i)
    (hS1 : handedP (M.s i) F = true → ∃ uv bv, S = upS (M.lf i) F.mine (M.ss i) uv (bv, F.body)) : Inv win most t (u + 1) { M with s := upd M.s i { hearP (M.s i) F with iv := iv }, ss := upd M.ss i S } := by
  have hij := hI.side i j hi hj
  have hji := hI.side j i (by omega) (by omega)
  have hne : j ≠ i := by omega
  have hb := bad_of (s := M.s i) hF.fit (by rw [hF.src, hij.ot]; omega) (by rw [hF.dst, hij.me]; omega)
  by_cases q : F.mine < (M.s i).known
  · have hbt : badP (M.s i) F = true := by rw [hb]; simp [q]
    have hh : handedP (M.s i) F = false := by unfold handedP; rw [hbt]; rfl
    have e : hearP (M.s i) F = M.s i := by unfold hearP; rw [if_pos hbt]
    rw [hS0 hh, upd_self, e]
    have := inv_like hI i j hi hj { M.s i with iv := iv } [] (Nat.le_succ u) ⟨rfl, rfl, rfl, rfl, rfl, rfl, rfl, rfl, rfl⟩ (Nat.le_refl _) hij.ou (fun e => (hij.z e).2.1) hij.ow (Nat.zero_le _) (fun x hx => by cases hx)
    rw [List.append_nil] at this
    exact this
  · have hbf : badP (M.s i) F = false := by rw [hb]; simp [q]
    have hN := inv_new hI hwin i j hi hj F hF.mi
    obtain ⟨n, hn⟩ : ∃ n, n = newP (M.s i) F := ⟨_, rfl⟩
    rw [← hn] at hN
    have hnk : n.known = F.mine := by
      rw [hn]; unfold newP; split
      · rfl
      · omega
    have hnl : n.life = (M.s i).life := by rw [hn]; exact newP_life _ _
    obtain ⟨M1, hM1⟩ : ∃ M1 : PM, M1 = { M with s := upd M.s i n } := ⟨_, rfl⟩
    rw [← hM1] at hN
    have m1 : M1.s i = n := by rw [hM1]; exact upd_same ..
    have m2 : M1.lf = M.lf ∧ M1.ss = M.ss ∧ M1.fs = M.fs := by rw [hM1]; exact ⟨rfl, rfl, rfl⟩
    have m3 : M1.s j = M.s j := by rw [hM1]; exact upd_other _ _ _ _ hne
    have hNi := hN.side i j hi hj
    have mm : ∀ s', upd M1.s i s' = upd M.s i s' := fun s' => by
      rw [hM1]; funext k; unfold upd; split
      · rfl
      · rename_i h; exact if_neg h
    by_cases y : F.yours = (M.s i).life
    · have e : hearP (M.s i) F = upP (seqP (rightP n F) F) F := by unfold hearP; rw [hbf, if_neg (by simp), if_pos y, hn]
      have hh : handedP (M.s i) F = upB n F := by unfold handedP; rw [hbf, ← hn]; simp [y]
      rw [e]
      rw [hh] at hS0 hS1
      have hF1 : FrI M1 F j := ⟨hF.fit, hF.src, hF.dst, by rw [m2.1]; exact hF.mi, by rw [m2.1, m3]; exact hF.yo, by rw [m2.2.1]; exact hF.seq, by rw [m2.1, m3]; exact hF.ex⟩
      have := inv_right hN i j hi hj F hF1 (by rw [m1]; exact hnk) (by rw [m2.1, y, hij.lf]) iv S (by rw [m1, m2.2.1]; exact hS0) (by rw [m1, m2.1, m2.2.1]; exact hS1)
      rw [m1, mm, m2.1, m2.2.1, m2.2.2] at this
      exact this
    · have e : hearP (M.s i) F = { n with word := true } := by unfold hearP; rw [hbf, if_neg (by simp), if_neg y, hn]
      have hh : handedP (M.s i) F = false := by unfold handedP; simp [y]
      rw [hS0 hh, upd_self, e]
      have := inv_like hN i j hi hj { n with word := true, iv := iv } [] (Nat.le_succ u) (by rw [m1]; exact ⟨rfl, rfl, rfl, rfl, rfl, rfl, rfl, rfl, rfl⟩) (by rw [m1]; exact Nat.le_refl _) (by rw [m1]; have := hNi.ou; rw [m1] at this; exact this) (fun e => by have := (hNi.z e).2.1; rw [m1] at this; exact this) (by rw [m1]; have := hNi.ow; rw [m1] at this; exact this) (Nat.zero_le _) (fun x hx => by cases hx)
      rw [List.append_nil, mm, m2.1, m2.2.1, m2.2.2] at this
      exact this
/-- What is handed up is the next one of what the other side was handed in. -/
theorem hear_next (hI : Inv win most t u M) (i j : Nat) (hi : i < 2) (hj : j + i = 1) (F : Frm) (hF : FrI M F j) (hh : handedP (M.s i) F = true) : ∃ b0 : BI, (insOf F.mine (M.lf i) (M.ss j))[(upsOf (M.lf i) F.mine (M.ss i)).length]? = some b0 ∧ b0.2 = F.body := by
  have hij := hI.side i j hi hj
  unfold handedP at hh
  simp only [Bool.and_eq_true, decide_eq_true_eq, Bool.not_eq_true'] at hh
  obtain ⟨⟨h1, h2⟩, h3⟩ := hh
  have hb := bad_of (s := M.s i) hF.fit (by rw [hF.src, hij.ot]; omega) (by rw [hF.dst, hij.me]; omega)
  rw [hb] at h1
  have h1' : (M.s i).known ≤ F.mine := by simpa using h1
  have hs : F.seq = (newP (M.s i) F).heard + 1 := by unfold upB at h3; simpa using h3
  have hnh : (newP (M.s i) F).heard = (upsOf (M.lf i) F.mine (M.ss i)).length := by
    unfold newP; split
    · rename_i hlt
      rw [(of_none (M.lf i) F.mine (M.ss i) (fun x hx ⟨a, b⟩ => by have := (hij.rec_ x hx).2 a; omega)).2]; rfl
    · have e : (M.s i).known = F.mine := by omega
      rw [← e]
      exact hij.up (by have := hF.fit.m0; omega)
  obtain ⟨b, hb1, hb2⟩ := hF.seq (by omega)
  rw [h2, hij.lf] at hb1
  refine ⟨b, ?_, hb2⟩
  rw [← hnh]
  rw [show F.seq - 1 = (newP (M.s i) F).heard by omega] at hb1
  exact hb1
end
end Go.Proofs.YtoeiaimoppmjdaaDoor.Lk
/- One step of a play. Printed by gen_step.py. -/
namespace Go.Proofs.YtoeiaimoppmjdaaDoor.Lk
open Go.RowKit Go.Proofs.YtoeiaimoppmjdaaDoorW.PrintWords Go.Proofs.YtoeiaimoppmjdaaDoor.Mem Go.Proofs.YtoeiaimoppmjdaaDoor.Wr Go.Proofs.YtoeiaimoppmjdaaDoor.Bytes Go.Proofs.YtoeiaimoppmjdaaDoor.App
set_option linter.unusedVariables false
set_option linter.unusedSimpArgs false
theorem num14_calls (e : Int) (w : World) : Calls Tryd.prog 100 #[.int .i64 e] w fun x w' => x = .returned (.int .i64 e) ∧ w = w' := by
  go_enter Tryd.func100, Tryd.ntmps100
  go_wp2
  go_ret
  exact ⟨rfl, rfl⟩
theorem Inv.more {win most : Int} {t u t' u' : Nat} {M : PM} (h : Inv win most t u M) (ht : t ≤ t') (hu : u ≤ u') : Inv win most t' u' M :=
  ⟨fun i j hi hj => (h.side i j hi hj).other rfl rfl rfl (Nat.le_refl _) ht hu (h.side i j hi hj).g1 (h.side i j hi hj).g2, h.fr, by have := h.nfs; omega⟩
/-- A copy of a body that came in, beside the pair. -/
theorem pt_copy {v0 W : World} {R : List Ent} {gp : Nat} {win most : Int} {M : PM} (h : PT v0 R gp win most M W) (xs : List Int) (A : Option Addr) (c : Nat) (hr : ReadsOf I 0 v0 A xs.length xs) (hm : xs.length ≤ 140737488355328) :
    Calls Tryd.prog 15 #[.slice A xs.length c] W fun e w' => ∃ A' c', e = .returned (.slice A' xs.length c') ∧ byV (.slice A' xs.length c') xs ∧ PT v0 (byR (.slice A' xs.length c') xs ++ R) gp win most M w' := by
  obtain ⟨L, hs, hb⟩ := h.any
  refine (copy_st xs xs.length A c hs rfl (hr.below h.bl) hm).mono ?_
  rintro e w' ⟨A', c', rfl, hv, hst⟩
  exact ⟨A', c', rfl, hv, hb _ _ hst⟩
/-- The sessions of side i, by themselves; what is left of the pair when one of them has turned. -/
theorem PT.sess {v0 W : World} {R : List Ent} {gp : Nat} {win most : Int} {M : PM} (h : PT v0 R gp win most M W) (i j : Nat) (hi : i < 2) (hj : j + i = 1) : ∃ (p1 : PS) (tv : Value) (T0 : List Ent), p1.t i = tv ∧ (pC p1)[7 + i]? = some tv ∧ SesV tv (M.ss i) ∧ B gp (pC p1) 86 ∈ T0 ∧ St v0 W (sesE tv (M.ss i) ++ (T0 ++ R)) ∧
    ∀ w' S tv' R', St v0 w' (sesE tv' S ++ (T0 ++ R')) → tv' = tv → SesV tv S → PT v0 R' gp win most { M with ss := upd M.ss i S } w' := by
  obtain ⟨p, g, hpw, hpm, hc, hd, he⟩ := h
  obtain ⟨c1, c2, c3, c4⟩ := hc i hi
  obtain ⟨d1, d2, d3, d4⟩ := hc j (by omega)
  refine ⟨p, p.t i, B gp (pC p) 86 :: (lkE (g i) (M.s i) ++ (lkE (g j) (M.s j) ++ (sentE p.sent M.fs ++ sesE (p.t j) (M.ss j)))), rfl, pC_t p hi, c4, by simp, he.re (fun x => by rw [ptL_side gp p g M R i j hi hj]; simp only [cnt_append, cnt_cons]; omega), ?_⟩
  rintro w' S tv' R' hs rfl hV
  refine ⟨p, g, hpw, hpm, ?_, hd, hs.re (fun x => ?_)⟩
  · intro k hk
    by_cases hki : k = i
    · subst hki
      exact ⟨c1, c2, c3, by show SesV _ (upd M.ss k S k); rw [upd_same]; exact hV⟩
    · obtain rfl : k = j := by omega
      exact ⟨d1, d2, d3, by show SesV _ (upd M.ss i S k); rw [upd_other _ _ _ _ hki]; exact d4⟩
  · rw [ptL_side gp p g _ R' i j hi hj]
    show _ + (_ + (_ + (_ + (cnt x (sesE (p.t i) (upd M.ss i S i)) + (cnt x (sesE (p.t j) (upd M.ss i S j)) + _))))) ≤ _
    rw [upd_same, upd_other _ _ _ _ (by omega)]
    simp only [cnt_append, cnt_cons]; omega
set_option maxRecDepth 20000 in
set_option maxHeartbeats 12800000 in
theorem step_calls {v0 W : World} {R : List Ent} {gp : Nat} {win most : Int} {t u : Nat} {M : PM} (hI : Inv win most t u M) (h : PT v0 R gp win most M W) (ht : t ≤ 850) (hu : u ≤ 20000) (hw : 1 ≤ win ∧ win ≤ 5) (hm : 1 ≤ most ∧ most ≤ 64)
    (kd on pick more : Int) (xs : List Int) (A : Option Addr) (c : Nat) (hr : ReadsOf I 0 v0 A xs.length xs) (hby : Byt xs) (hx : xs.length ≤ 140737488355328) (hon : -9223372036854775808 ≤ on ∧ on ≤ 9223372036854775807) (hpi : -9223372036854775808 ≤ pick ∧ pick ≤ 9223372036854775807) (hmo : -9223372036854775808 ≤ more ∧ more ≤ 9223372036854775807) (hEt : ErrTab v0) (hz : 0 < v0.heap.size) :
    Calls Tryd.prog 58 #[pt gp, .agg #[.int .i64 kd, .int .i64 on, .slice A xs.length c, .int .i64 pick, .int .i64 more]] W fun e w' => e = .returned (.bool true) ∧ ∃ M', Inv win most (t + 1) (u + 1) M' ∧ PT v0 R gp win most M' w' := by
  obtain ⟨i, hi0⟩ : ∃ i : Nat, i = (on % 2).toNat := ⟨_, rfl⟩
  have hi : i < 2 := by omega
  have hand : bits BinOp.and IntKind.i64 on 1 = (i : Int) := by rw [and_one_i64]; omega
  obtain ⟨j, hj⟩ : ∃ j, j + i = 1 := ⟨1 - i, by omega⟩
  have i1 : (0 : Int) ≤ (i : Int) := by omega
  have i2 : (i : Int) < 2 := by omega
  have hij := hI.side i j hi hj
  have hji := hI.side j i (by omega) (by omega)
  obtain ⟨W1, hW1⟩ : ∃ W1, W1 = W.alloc (.cells #[.int .i64 kd, .int .i64 on, .slice A xs.length c, .int .i64 pick, .int .i64 more] 98) := ⟨_, rfl⟩
  obtain ⟨bo, hbo⟩ : ∃ bo, bo = W.heap.size := ⟨_, rfl⟩
  have h1 := h.new #[.int .i64 kd, .int .i64 on, .slice A xs.length c, .int .i64 pick, .int .i64 more] 98
  rw [← hW1, ← hbo] at h1
  obtain ⟨oc, hoc⟩ : ∃ oc : Array Value, oc = #[.int .i64 kd, .int .i64 on, .slice A xs.length c, .int .i64 pick, .int .i64 more] := ⟨_, rfl⟩
  have o0 : oc[0]? = some (.int .i64 kd) := by rw [hoc]; rfl
  have o1 : oc[1]? = some (.int .i64 on) := by rw [hoc]; rfl
  have HO2 : Hid (oc[2]? = some (.slice A xs.length c)) := by show _ = _; rw [hoc]; rfl
  have HO3 : Hid (oc[3]? = some (.int .i64 pick)) := by show _ = _; rw [hoc]; rfl
  have HO4 : Hid (oc[4]? = some (.int .i64 more)) := by show _ = _; rw [hoc]; rfl
  rw [← hoc] at h1
  clear hoc
  have x0 : W1.cell? ⟨bo, 0, none⟩ = some (.int .i64 kd) := h1.cell (b := bo) (cs := oc) (t := 98) (by simp) 0 o0
  have x1 : W1.cell? ⟨bo, 1, none⟩ = some (.int .i64 on) := h1.cell (b := bo) (cs := oc) (t := 98) (by simp) 1 o1
  have HI := Lib.hid hi
  have HJ := Lib.hid hj
  have HII := Lib.hid hI
  have HIJ := Lib.hid hij
  have HJI := Lib.hid hji
  have HT := Lib.hid ht
  have HU := Lib.hid hu
  have HW := Lib.hid hw
  have HM := Lib.hid hm
  have HR := Lib.hid hr
  have HBY := Lib.hid hby
  have HXL := Lib.hid hx
  have HPI := Lib.hid hpi
  have HMO := Lib.hid hmo
  have HET := Lib.hid hEt
  have HZ := Lib.hid hz
  have HW1 := Lib.hid hW1
  have HBO := Lib.hid hbo
  have H1 := Lib.hid h1
  clear h hi0 hi hj hI hij hji ht hu hw hm hr hby hx hpi hmo hEt hz hW1 hbo h1 hon o0 o1
  go_enter Tryd.func58, Tryd.ntmps58
  go_upto_region 2 with fail
  rw [← HW1.out, ← HBO.out]
  by_cases k1 : kd = 1
  · subst k1
    have CN := Lib.hid (pt_now i j HI.out HJ.out H1.out (by have := HIJ.out.nss; have := HU.out; omega))
    clear x1
    go_wp2_with fail
    refine CN.out.mono ?_; rintro e w2 ⟨rfl, h2⟩
    have x2 : w2.cell? ⟨bo, 2, none⟩ = some (.slice A xs.length c) := h2.cell (b := bo) (cs := oc) (t := 98) (by simp) 2 HO2.out
    have CC := Lib.hid (pt_copy h2 xs A c HR.out HXL.out)
    clear x0 CN h2
    go_wp2_with fail
    refine CC.out.mono ?_; rintro e w3 ⟨A7, c7, rfl, hv7, h3⟩
    have HV7 := Lib.hid hv7
    have H3 := Lib.hid h3
    clear CC hv7 h3 x2
    by_cases hbig : 2048 < xs.length
    · have g1 : (2048 : Int) < (xs.length : Int) := by omega
      obtain ⟨gi, X, y4, hV3, hL3, hback⟩ := H3.out.link i j HI.out HJ.out
      have CS := Lib.hid (send_long xs A7 c7 hL3 hbig HXL.out)
      have CU := Lib.hid (num14_calls 140 w3)
      clear hV3 hL3 hback hbig
      go_wp2_with fail
      refine CS.out.mono ?_; rintro e w4 ⟨rfl, rfl⟩
      go_wp2_with fail
      refine CU.out.mono ?_; rintro e w4 ⟨rfl, rfl⟩
      go_wp2_with fail
      go_ret
      exact ⟨rfl, _, (inv_now HII.out i j HI.out HJ.out).more (Nat.le_succ t) (Nat.le_refl _), H3.out.less (fun a => by simp only [cnt_append, cnt_cons]; omega)⟩
    · have g1 : ¬ (2048 : Int) < (xs.length : Int) := by omega
      by_cases hk0 : (M.s i).known = 0
      · have hn0 : nowN (M.lf i) (M.s i).known (M.ss i) = -1 := by unfold nowN; rw [if_pos hk0]
        have hs0 : nowS (M.lf i) (M.s i).known (M.ss i) = M.ss i := by unfold nowS; rw [if_pos hk0]
        have h3 := H3.out
        rw [hs0, upd_self] at h3
        obtain ⟨gi, X, y4, hV3, hL3, hback⟩ := h3.link i j HI.out HJ.out
        have CS := Lib.hid (send_yes xs A7 c7 hL3 hV3 (rdR_held HV7.out (fun z => by simp only [cnt_append]; omega)) HBY.out (by omega) (by show (M.s i).items.length ≤ _; have := HIJ.out.ni; have := HT.out; omega) (by show (M.s i).gone + (M.s i).items.length < _; have := HIJ.out.ni; have := HT.out; omega))
        have HB := Lib.hid hback
        have HK0 := Lib.hid hk0
        rw [hn0]
        clear hV3 hL3 hback hk0 hn0 hs0 h3
        go_wp2_with fail
        refine CS.out.mono ?_; rintro e w4 ⟨rfl, iv', v, hV4, hs4⟩
        have hq := (HB.out _ _ hs4 hV4).1
        have HQ := Lib.hid hq
        have CU := Lib.hid (num14_calls 0 w4)
        clear hV4 hs4 hq
        go_wp2_with fail
        refine CU.out.mono ?_; rintro e w5 ⟨rfl, rfl⟩
        go_wp2_with fail
        go_ret
        exact ⟨rfl, _, inv_send0 HII.out i j HI.out HJ.out HK0.out iv' (v, xs), HQ.out.less (fun a => by simp only [cnt_append, cnt_cons]; omega)⟩
      · obtain ⟨q, hq⟩ : ∃ q, q = fnd (M.lf i) (M.s i).known (M.ss i) := ⟨_, rfl⟩
        have hn0 : nowN (M.lf i) (M.s i).known (M.ss i) = (q : Int) := by unfold nowN; rw [if_neg hk0, hq]
        obtain ⟨ss1, hss1⟩ : ∃ ss1, ss1 = nowS (M.lf i) (M.s i).known (M.ss i) := ⟨_, rfl⟩
        obtain ⟨x, hx, hxm, hxy, hxu, hxi⟩ := nowS_get (M.lf i) (M.s i).known (M.ss i) hk0
        rw [← hss1, ← hq] at hx
        have h3 := H3.out
        rw [← hss1] at h3
        obtain ⟨p1, tv, T0, p1t, p17, hV1, hgpm, hs3, hback⟩ := h3.sess i j HI.out HJ.out
        have e0 : (upd M.ss i ss1) i = ss1 := upd_same ..
        simp only [e0] at hV1 hs3
        obtain ⟨At, ct, htv⟩ := row_form hV1.row
        obtain ⟨n, hnn⟩ : ∃ n, n = ss1.length := ⟨_, rfl⟩
        rw [← hnn] at htv
        have hqn : q < n := by rw [hnn]; exact (List.getElem?_eq_some_iff.1 hx).1
        have hn9 : n ≤ 30000 := by have := nowS_len (M.lf i) (M.s i).known (M.ss i); have := HIJ.out.nss; have := HU.out; rw [hnn, hss1]; omega
        obtain ⟨gt, hgt⟩ : ∃ gt, At = some ⟨gt, 0, none⟩ := by
          rcases hV1.row.2 with ⟨q1, q2⟩ | ⟨gt, _, q1, _⟩
          · omega
          · rw [htv] at q1; injection q1 with q1; exact ⟨gt, q1⟩
        subst hgt
        subst htv
        have hov := hV1.of_ x (List.mem_of_getElem? hx)
        obtain ⟨Au, cu, hxuv⟩ := row_form hov.1.row
        obtain ⟨nu, hnu⟩ : ∃ nu, nu = x.ins.length := ⟨_, rfl⟩
        rw [← hnu] at hxuv
        have hnu9 : nu ≤ 1000 := by
          have := ins_len (M.lf i) (M.s i).known t (M.ss i) (fun x hx => (HIJ.out.small x hx).1)
          rw [← hxi] at this; have := HT.out; omega
        obtain ⟨l1, l2, hll, hl1⟩ : ∃ l1 l2, ss1 = l1 ++ x :: l2 ∧ l1.length = q := by
          have h9 := (List.getElem?_eq_some_iff.1 hx).1
          refine ⟨ss1.take q, ss1.drop (q + 1), ?_, by rw [List.length_take]; omega⟩
          have e2 : ss1[q] = x := (List.getElem?_eq_some_iff.1 hx).2
          rw [← e2, List.getElem_cons_drop, List.take_append_drop]
        obtain ⟨T, hT⟩ : ∃ T, T = l1.flatMap seR ++ (l2.flatMap seR ++ (outE x.uv x.ups ++ ((x.ins.flatMap fun b => byR b.1 b.2) ++ (T0 ++ (byR (.slice A7 xs.length c7) xs ++ (B bo oc 98 :: R)))))) := ⟨_, rfl⟩
        have rowlen : (sesL ss1).length = n * 4 := by rw [sesL_len, ← hnn]
        have z3 : ∀ w9 L9, St v0 w9 (rowE (.slice (some ⟨gt, 0, none⟩) n ct) 101 4 n (sesL ss1) ++ L9) → w9.cell? ⟨gt, q * 4 + 2, none⟩ = some (.slice Au nu cu) := fun w9 L9 h9 => by
          have := (h9.at (q * 4 + 2) (by rw [rowlen]; omega) rowlen).1
          rw [sesL_get hx 2 (by omega)] at this
          rw [this]; show some x.iv = _; rw [hxuv]
        have h4 : St v0 w3 (rowE (.slice (some ⟨gt, 0, none⟩) n ct) 101 4 n (sesL ss1) ++ (rowE (.slice Au nu cu) 22 1 nu (x.ins.map fun b => b.1) ++ T)) := hs3.re (fun z => by
          rw [hT]; simp only [sesE, ← hnn]; rw [hll, List.flatMap_append, List.flatMap_cons]; simp only [seR, outE, hxuv, ← hnu, cnt_append, cnt_cons]; omega)
        have HTG : Hid (B gp (pC p1) 86 ∈ T) := by show _ ∈ _; rw [hT]; simp [hgpm]
        have HTB : Hid (B bo oc 98 ∈ T) := by show _ ∈ _; rw [hT]; simp
        have hd := h4.drew
        have HALL : Hid (∀ bb1 : Bool, (w3.drew.cell? ⟨gp, 7 + i, none⟩ = some (.slice (some ⟨gt, 0, none⟩) n ct) ∧ w3.drew.cell? ⟨bo, 2, none⟩ = some (.slice A xs.length c)) ∧ (bb1 = false → w3.drew.cell? ⟨gt, q * 4 + 2, none⟩ = some (.slice Au nu cu))) := fun _ => ⟨⟨hd.cellOf (g := gp) (cs := pC p1) (t := 86) (by simp [HTG.out]) (7 + i) p17, hd.cellOf (g := bo) (cs := oc) (t := 98) (by simp [HTB.out]) 2 HO2.out⟩, fun _ => z3 _ _ hd⟩
        have CC2 := Lib.hid (copy_st xs xs.length A c hd rfl (HR.out.below hd.bl) HXL.out)
        have HT9 : Hid (∀ z, cnt z (rowE (.slice (some ⟨gt, 0, none⟩) n ct) 101 4 n (sesL ss1) ++ (rowE (.slice Au nu cu) 22 1 nu (x.ins.map fun b => b.1) ++ T)) ≤ cnt z (rowE (.slice (some ⟨gt, 0, none⟩) n ct) 101 4 n (sesL ss1) ++ (rowE (.slice Au nu cu) 22 1 nu (x.ins.map fun b => b.1) ++ T))) := fun z => Nat.le_refl _
        have HROW : Hid (rowV (.slice Au nu cu) 1 nu (x.ins.map fun b => b.1)) := by have := hov.1.row; rw [hxuv, ← hnu] at this; exact this
        have HZ3 := Lib.hid z3
        have HP17 := Lib.hid p17
        have HRL := Lib.hid rowlen
        have HQN := Lib.hid hqn
        have HX := Lib.hid hx
        have HNU9 := Lib.hid hnu9
        have HBACK := Lib.hid hback
        have HXX := Lib.hid (And.intro hxm (And.intro hxy (And.intro hxu hxi)))
        have HV1 := Lib.hid hV1
        have HSS := Lib.hid hss1
        have HQQ := Lib.hid hq
        have HNN := Lib.hid hnn
        have HNU := Lib.hid hnu
        have HLS := Lib.hid (And.intro hll hl1)
        have HTT := Lib.hid hT
        have HK0 := Lib.hid hk0
        have qq1 : (0 : Int) ≤ (q : Int) := by omega
        have qd : decide ((0 : Int) ≤ (q : Int)) = true := by simp
        have qn1 : (q : Int) < (n : Int) := by omega
        have HB2 : Hid (¬ 2048 < xs.length) := hbig
        rw [hn0]
        clear hk0 hq hn0 hss1 hx hxm hxy hxu hxi h3 p1t p17 hV1 hgpm hs3 hback e0 hnn hqn hn9 hov hxuv hnu hnu9 hll hl1 hT rowlen z3 h4 hd hbig
        go_wp2_with fail
        clear qd
        have SM : ∀ (bb0 : Bool) (w9 : World), (fun (b : Bool) (w9 : World) => (w9.cell? ⟨gp, 7 + i, none⟩ = some (.slice (some ⟨gt, 0, none⟩) n ct) ∧ w9.cell? ⟨bo, 2, none⟩ = some (.slice A xs.length c)) ∧ (b = false → w9.cell? ⟨gt, q * 4 + 2, none⟩ = some (.slice Au nu cu))) bb0 w9 → (fun (b : Bool) (w9 : World) => (w9.cell? ⟨gp, 7 + i, none⟩ = some (.slice (some ⟨gt, 0, none⟩) n ct) ∧ w9.cell? ⟨bo, 2, none⟩ = some (.slice A xs.length c)) ∧ (b = false → w9.cell? ⟨gt, q * 4 + 2, none⟩ = some (.slice Au nu cu))) true w9 := fun _ _ h => ⟨h.1, fun e => by cases e⟩
        refine RegL.begin_of (k := 21) (S := fun (b : Bool) (w9 : World) => (w9.cell? ⟨gp, 7 + i, none⟩ = some (.slice (some ⟨gt, 0, none⟩) n ct) ∧ w9.cell? ⟨bo, 2, none⟩ = some (.slice A xs.length c)) ∧ (b = false → w9.cell? ⟨gt, q * 4 + 2, none⟩ = some (.slice Au nu cu))) (by kernel_rfl) ?_
        refine RegL.take_w (i := 0) (oi := ⟨some 37, _, _, _, _, _⟩) (v := ?_) SM rfl (by decide) (by kernel_rfl) (by kernel_rfl) (by kernel_rfl) (fun _ _ _ h => h) (Or.inl ⟨by rfl, ?_⟩) (HALL.out _) ?_
        rotate_left
        · intro w9 hw9; obtain ⟨⟨q1, q2⟩, q0⟩ := hw9; go_simp; try with_reducible rfl
        try simp only [Act.put, List.setIfInBounds_toArray, List.set_cons_zero, List.set_cons_succ]
        refine RegL.take_w (i := 1) (oi := ⟨some 38, _, _, _, _, _⟩) (v := ?_) SM rfl (by decide) (by kernel_rfl) (by kernel_rfl) (by kernel_rfl) (fun _ _ _ h => h) (Or.inl ⟨by rfl, ?_⟩) (HALL.out _) ?_
        rotate_left
        · intro w9 hw9; obtain ⟨⟨q1, q2⟩, q0⟩ := hw9; go_simp; try with_reducible rfl
        try simp only [Act.put, List.setIfInBounds_toArray, List.set_cons_zero, List.set_cons_succ]
        refine RegL.take_w (i := 2) (oi := ⟨some 39, _, _, _, _, _⟩) (v := ?_) SM rfl (by decide) (by kernel_rfl) (by kernel_rfl) (by kernel_rfl) (fun _ _ _ h => h) (Or.inl ⟨by rfl, ?_⟩) (HALL.out _) ?_
        rotate_left
        · intro w9 hw9; obtain ⟨⟨q1, q2⟩, q0⟩ := hw9; go_simp; try with_reducible rfl
        try simp only [Act.put, List.setIfInBounds_toArray, List.set_cons_zero, List.set_cons_succ]
        refine RegL.take_w (i := 3) (oi := ⟨some 40, _, _, _, _, _⟩) (v := ?_) SM rfl (by decide) (by kernel_rfl) (by kernel_rfl) (by kernel_rfl) (fun _ _ _ h => h) (Or.inl ⟨by rfl, ?_⟩) (HALL.out _) ?_
        rotate_left
        · intro w9 hw9; obtain ⟨⟨q1, q2⟩, q0⟩ := hw9; go_simp; try with_reducible rfl
        try simp only [Act.put, List.setIfInBounds_toArray, List.set_cons_zero, List.set_cons_succ]
        refine RegL.take_w (i := 4) (oi := ⟨some 41, _, _, _, _, _⟩) (v := ?_) SM rfl (by decide) (by kernel_rfl) (by kernel_rfl) (by kernel_rfl) (fun _ _ _ h => h) (Or.inl ⟨by rfl, ?_⟩) (HALL.out _) ?_
        rotate_left
        · intro w9 hw9; obtain ⟨⟨q1, q2⟩, q0⟩ := hw9; go_simp; try with_reducible rfl
        try simp only [Act.put, List.setIfInBounds_toArray, List.set_cons_zero, List.set_cons_succ]
        refine RegL.take_w (i := 5) (oi := ⟨some 42, _, _, _, _, _⟩) (v := ?_) SM rfl (by decide) (by kernel_rfl) (by kernel_rfl) (by kernel_rfl) (fun _ _ _ h => h) (Or.inl ⟨by rfl, ?_⟩) (HALL.out _) ?_
        rotate_left
        · intro w9 hw9; obtain ⟨⟨q1, q2⟩, q0⟩ := hw9; go_simp; try with_reducible rfl
        try simp only [Act.put, List.setIfInBounds_toArray, List.set_cons_zero, List.set_cons_succ]
        refine RegL.take_w (i := 6) (oi := ⟨some 43, _, _, _, _, _⟩) (v := ?_) SM rfl (by decide) (by kernel_rfl) (by kernel_rfl) (by kernel_rfl) (fun _ _ _ h => h) (Or.inl ⟨by rfl, ?_⟩) (HALL.out _) ?_
        rotate_left
        · intro w9 hw9; obtain ⟨⟨q1, q2⟩, q0⟩ := hw9; go_simp; try with_reducible rfl
        try simp only [Act.put, List.setIfInBounds_toArray, List.set_cons_zero, List.set_cons_succ]
        refine RegL.take_w (i := 7) (oi := ⟨some 44, _, _, _, _, _⟩) (v := ?_) SM rfl (by decide) (by kernel_rfl) (by kernel_rfl) (by kernel_rfl) (fun _ _ _ h => h) (Or.inl ⟨by rfl, ?_⟩) (HALL.out _) ?_
        rotate_left
        · intro w9 hw9; obtain ⟨⟨q1, q2⟩, q0⟩ := hw9; go_simp; try with_reducible rfl
        try simp only [Act.put, List.setIfInBounds_toArray, List.set_cons_zero, List.set_cons_succ]
        refine RegL.take_w (i := 8) (oi := ⟨some 45, _, _, _, _, _⟩) (v := ?_) SM rfl (by decide) (by kernel_rfl) (by kernel_rfl) (by kernel_rfl) (fun _ _ _ h => h) (Or.inl ⟨by rfl, ?_⟩) (HALL.out _) ?_
        rotate_left
        · intro w9 hw9; obtain ⟨⟨q1, q2⟩, q0⟩ := hw9; go_simp; try with_reducible rfl
        try simp only [Act.put, List.setIfInBounds_toArray, List.set_cons_zero, List.set_cons_succ]
        refine RegL.take_w (i := 9) (oi := ⟨some 46, _, _, _, _, _⟩) (v := ?_) SM rfl (by decide) (by kernel_rfl) (by kernel_rfl) (by kernel_rfl) (fun _ _ _ h => h) (Or.inl ⟨by rfl, ?_⟩) (HALL.out _) ?_
        rotate_left
        · intro w9 hw9; obtain ⟨⟨q1, q2⟩, q0⟩ := hw9; go_simp; try with_reducible rfl
        try simp only [Act.put, List.setIfInBounds_toArray, List.set_cons_zero, List.set_cons_succ]
        refine RegL.take_w (i := 10) (oi := ⟨some 47, _, _, _, _, _⟩) (v := ?_) SM rfl (by decide) (by kernel_rfl) (by kernel_rfl) (by kernel_rfl) (fun _ _ _ h => h) (Or.inl ⟨by rfl, ?_⟩) (HALL.out _) ?_
        rotate_left
        · intro w9 hw9; obtain ⟨⟨q1, q2⟩, q0⟩ := hw9; go_simp; try with_reducible rfl
        try simp only [Act.put, List.setIfInBounds_toArray, List.set_cons_zero, List.set_cons_succ]
        refine RegL.take_w (i := 11) (oi := ⟨some 48, _, _, _, _, _⟩) (v := ?_) SM rfl (by decide) (by kernel_rfl) (by kernel_rfl) (by kernel_rfl) (fun _ _ _ h => h) (Or.inl ⟨by rfl, ?_⟩) (HALL.out _) ?_
        rotate_left
        · intro w9 hw9; obtain ⟨⟨q1, q2⟩, q0⟩ := hw9; go_simp; try with_reducible rfl
        try simp only [Act.put, List.setIfInBounds_toArray, List.set_cons_zero, List.set_cons_succ]
        refine RegL.take_w (i := 12) (oi := ⟨some 49, _, _, _, _, _⟩) (v := ?_) SM rfl (by decide) (by kernel_rfl) (by kernel_rfl) (by kernel_rfl) (fun _ _ _ h => h) (Or.inl ⟨by rfl, ?_⟩) (HALL.out _) ?_
        rotate_left
        · intro w9 hw9; obtain ⟨⟨q1, q2⟩, q0⟩ := hw9; go_simp; try with_reducible rfl
        try simp only [Act.put, List.setIfInBounds_toArray, List.set_cons_zero, List.set_cons_succ]
        refine RegL.take_w (i := 13) (oi := ⟨some 50, _, _, _, _, _⟩) (v := ?_) SM rfl (by decide) (by kernel_rfl) (by kernel_rfl) (by kernel_rfl) (fun _ _ _ h => h) (Or.inl ⟨by rfl, ?_⟩) (HALL.out _) ?_
        rotate_left
        · intro w9 hw9; obtain ⟨⟨q1, q2⟩, q0⟩ := hw9; go_simp; try with_reducible rfl
        try simp only [Act.put, List.setIfInBounds_toArray, List.set_cons_zero, List.set_cons_succ]
        refine RegL.take_w (i := 14) (oi := ⟨some 51, _, _, _, _, _⟩) (v := ?_) SM rfl (by decide) (by kernel_rfl) (by kernel_rfl) (by kernel_rfl) (fun _ _ _ h => h) (Or.inl ⟨by rfl, ?_⟩) (HALL.out _) ?_
        rotate_left
        · intro w9 hw9; obtain ⟨⟨q1, q2⟩, q0⟩ := hw9; go_simp; try with_reducible rfl
        try simp only [Act.put, List.setIfInBounds_toArray, List.set_cons_zero, List.set_cons_succ]
        refine RegL.take_w (i := 15) (oi := ⟨some 52, _, _, _, _, _⟩) (v := ?_) SM rfl (by decide) (by kernel_rfl) (by kernel_rfl) (by kernel_rfl) (fun _ _ _ h => h) (Or.inl ⟨by rfl, ?_⟩) (HALL.out _) ?_
        rotate_left
        · intro w9 hw9; obtain ⟨⟨q1, q2⟩, q0⟩ := hw9; go_simp; try with_reducible rfl
        try simp only [Act.put, List.setIfInBounds_toArray, List.set_cons_zero, List.set_cons_succ]
        refine RegL.take_s (i := 16) (oi := ⟨some 53, _, _, _, _, _⟩) (ok := ⟨some 58, _, _, _, _, _⟩) (v := ?_) rfl (by decide) rfl (by kernel_rfl) (by kernel_rfl) (by kernel_rfl) (by kernel_rfl) (by kernel_rfl) (fun _ _ _ h => h) (Or.inl ⟨by rfl, ?_⟩) (HALL.out _) ?_
        rotate_left
        · intro w9 hw9; obtain ⟨q9, q0⟩ := hw9; have q1 := q0 rfl; clear q0 q9; go_simp; try with_reducible rfl
        try simp only [Act.put, List.setIfInBounds_toArray, List.set_cons_zero, List.set_cons_succ]
        refine RegL.take_w (i := 17) (oi := ⟨some 54, _, _, _, _, _⟩) (v := ?_) SM rfl (by decide) (by kernel_rfl) (by kernel_rfl) (by kernel_rfl) (fun _ _ _ h => h) (Or.inl ⟨by rfl, ?_⟩) (HALL.out _) ?_
        rotate_left
        · intro w9 hw9; obtain ⟨⟨q1, q2⟩, q0⟩ := hw9; go_simp; try with_reducible rfl
        try simp only [Act.put, List.setIfInBounds_toArray, List.set_cons_zero, List.set_cons_succ]
        refine RegL.take_w (i := 18) (oi := ⟨some 55, _, _, _, _, _⟩) (v := ?_) SM rfl (by decide) (by kernel_rfl) (by kernel_rfl) (by kernel_rfl) (fun _ _ _ h => h) (Or.inl ⟨by rfl, ?_⟩) (HALL.out _) ?_
        rotate_left
        · intro w9 hw9; obtain ⟨⟨q1, q2⟩, q0⟩ := hw9; go_simp; try with_reducible rfl
        try simp only [Act.put, List.setIfInBounds_toArray, List.set_cons_zero, List.set_cons_succ]
        refine RegL.step_of (i := 19) (o := ⟨some 56, _, _, _, _, _⟩) (by kernel_rfl) rfl (fun K' hK => ?_)
        go_simp
        go_at_call 15
        (with_reducible refine CC2.out.mono ?_)
        rintro e w5 ⟨A5, c5, rfl, hv5, h5⟩
        have h6 : St v0 w5 (rowE (.slice (some ⟨gt, 0, none⟩) n ct) 101 4 n (sesL ss1) ++ (rowE (.slice Au nu cu) 22 1 nu (x.ins.map fun b => b.1) ++ (byR (.slice A5 xs.length c5) xs ++ T))) := h5.re (fun z => by have := HT9.out z; simp only [cnt_append]; simp only [cnt_append] at this; omega)
        have hgp5 : B gp (pC p1) 86 ∈ T := HTG.out
        have hbo5 : B bo oc 98 ∈ T := HTB.out
        have z3 : ∀ w9 L9, St v0 w9 (rowE (.slice (some ⟨gt, 0, none⟩) n ct) 101 4 n (sesL ss1) ++ L9) → w9.cell? ⟨gt, q * 4 + 2, none⟩ = some (.slice Au nu cu) := HZ3.out
        have M1 : Hid ((w5.cell? ⟨gp, 7 + i, none⟩ = some (.slice (some ⟨gt, 0, none⟩) n ct) ∧ w5.cell? ⟨bo, 2, none⟩ = some (.slice A xs.length c)) ∧ w5.cell? ⟨gt, q * 4 + 2, none⟩ = some (.slice Au nu cu)) := ⟨⟨h6.cellOf (g := gp) (cs := pC p1) (t := 86) (by simp [hgp5]) (7 + i) HP17.out, h6.cellOf (g := bo) (cs := oc) (t := 98) (by simp [hbo5]) 2 HO2.out⟩, z3 _ _ h6⟩
        obtain ⟨Wb, hWb⟩ : ∃ Wb, Wb = w5.alloc (.cells #[.slice A5 xs.length c5] 22) := ⟨_, rfl⟩
        obtain ⟨bb, hbb⟩ : ∃ bb, bb = w5.heap.size := ⟨_, rfl⟩
        have hb := h6.newB #[.slice A5 xs.length c5] 22
        rw [← hWb, ← hbb] at hb
        obtain ⟨v2, Wa, hrun, ha, hva⟩ := row_append (P := Tryd.prog) (w0 := v0) (W := Wb) (v := .slice Au nu cu) (e := 22) (n := nu) (xs := x.ins.map fun b => b.1) (R := rowE (.slice (some ⟨gt, 0, none⟩) n ct) 101 4 n (sesL ss1) ++ (byR (.slice A5 xs.length c5) xs ++ T)) (hb.re (fun z => by simp only [cnt_append, cnt_cons]; omega)) HROW.out 61 61 NL 24 Tryd.underlying61 info22 rfl (by have := HNU9.out; omega) (by have := HNU9.out; omega) ⟨bb, 0, none⟩ 1 (.slice A5 xs.length c5) (hb.cellOf (g := bb) (cs := #[.slice A5 xs.length c5]) (t := 22) (by simp) 0 rfl) rfl
        obtain ⟨A2, c2, rfl⟩ := row_form hva
        have ha' : St v0 Wa (rowE (.slice (some ⟨gt, 0, none⟩) n ct) 101 4 n (sesL ss1) ++ (rowE (.slice A2 (nu + 1) c2) 22 1 (nu + 1) ((x.ins.map fun b => b.1) ++ [.slice A5 xs.length c5]) ++ (byR (.slice A5 xs.length c5) xs ++ T))) := ha.re (fun z => by simp only [cnt_append, cnt_cons]; omega)
        have za3 : Wa.cell? ⟨gt, q * 4 + 2, none⟩ = some (.slice Au nu cu) := z3 _ _ ha'
        have fza3 := (ha'.at (q * 4 + 2) (by rw [HRL.out]; have := HQN.out; omega) HRL.out).2
        obtain ⟨x2, hx2⟩ : ∃ x2 : Se, x2 = { x with iv := .slice A2 (nu + 1) c2, ins := x.ins ++ [(.slice A5 xs.length c5, xs)] } := ⟨_, rfl⟩
        have hset : (sesL ss1).set (q * 4 + 2) (.slice A2 (nu + 1) c2) = sesL (ss1.set q x2) := sesL_set ss1 q x x2 HX.out 2 (by omega) _ (by rw [hx2]; rfl)
        have hc := ha'.store (q * 4 + 2) (.slice A2 (nu + 1) c2)
        rw [hset] at hc
        obtain ⟨Wc, hWc⟩ : ∃ Wc, Wc = Wa.setCell ⟨gt, q * 4 + 2, none⟩ (.slice A2 (nu + 1) c2) := ⟨_, rfl⟩
        rw [← hWc] at hc
        have M2 : Hid ((Wb.cell? ⟨gp, 7 + i, none⟩ = some (.slice (some ⟨gt, 0, none⟩) n ct) ∧ Wb.cell? ⟨bo, 2, none⟩ = some (.slice A xs.length c)) ∧ Wb.cell? ⟨gt, q * 4 + 2, none⟩ = some (.slice Au nu cu)) := ⟨⟨hb.cellOf (g := gp) (cs := pC p1) (t := 86) (by simp [hgp5]) (7 + i) HP17.out, hb.cellOf (g := bo) (cs := oc) (t := 98) (by simp [hbo5]) 2 HO2.out⟩, z3 _ [] (hb.re (fun z => by simp only [cnt_append, cnt_cons, cnt_nil]; omega))⟩
        have M3 : Hid (Wa.cell? ⟨gp, 7 + i, none⟩ = some (.slice (some ⟨gt, 0, none⟩) n ct) ∧ Wa.cell? ⟨bo, 2, none⟩ = some (.slice A xs.length c)) := ⟨ha'.cellOf (g := gp) (cs := pC p1) (t := 86) (by simp [hgp5]) (7 + i) HP17.out, ha'.cellOf (g := bo) (cs := oc) (t := 98) (by simp [hbo5]) 2 HO2.out⟩
        have m4 : (Wc.cell? ⟨gp, 7 + i, none⟩ = some (.slice (some ⟨gt, 0, none⟩) n ct) ∧ Wc.cell? ⟨bo, 2, none⟩ = some (.slice A xs.length c)) := ⟨hc.cellOf (g := gp) (cs := pC p1) (t := 86) (by simp [hgp5]) (7 + i) HP17.out, hc.cellOf (g := bo) (cs := oc) (t := 98) (by simp [hbo5]) 2 HO2.out⟩
        rw [hWc] at m4
        have M4 : Hid ((Wa.setCell ⟨gt, q * 4 + 2, none⟩ (.slice A2 (nu + 1) c2)).cell? ⟨gp, 7 + i, none⟩ = some (.slice (some ⟨gt, 0, none⟩) n ct) ∧ (Wa.setCell ⟨gt, q * 4 + 2, none⟩ (.slice A2 (nu + 1) c2)).cell? ⟨bo, 2, none⟩ = some (.slice A xs.length c)) := m4
        have HRUN := Lib.hid hrun
        have HC := Lib.hid hc
        have HVA := Lib.hid hva
        have HWb := Lib.hid hWb
        have HBB := Lib.hid hbb
        have HWC := Lib.hid hWc
        have HX2 := Lib.hid hx2
        have HV5 := Lib.hid hv5
        clear hv5 h5 h6 hgp5 hbo5 z3 hWb hbb hb hrun ha hva ha' hx2 hset hc hWc m4
        refine hK _ _ (⟨M1.out.1, fun _ => M1.out.2⟩) ?_
        clear hK K'
        try simp only [Act.put, List.setIfInBounds_toArray, List.set_cons_zero, List.set_cons_succ]
        refine RegL.step_of (i := 20) (o := ⟨some 57, _, _, _, _, _⟩) (by kernel_rfl) rfl (fun K' hK => ?_)
        go_simp
        rw [← HWb.out, ← HBB.out]
        refine hK _ _ (⟨M2.out.1, fun _ => M2.out.2⟩) ?_
        clear hK K'
        try simp only [Act.put, List.setIfInBounds_toArray, List.set_cons_zero, List.set_cons_succ]
        refine RegL.step_of (i := 21) (o := ⟨some 58, _, _, _, _, _⟩) (by kernel_rfl) rfl (fun K' hK => ?_)
        refine step_append_run (o := ⟨some 58, _, _, _, _, _⟩) rfl (.tmp 53) (.tmp 57) 61 rfl (.slice Au nu cu) (.slice (some ⟨bb, 0, none⟩) 1 1) (.slice A2 (nu + 1) c2) Wa rfl rfl HRUN.out ?_
        refine hK _ _ (⟨M3.out, fun e => by cases e⟩) ?_
        clear hK K'
        try simp only [Act.put, List.setIfInBounds_toArray, List.set_cons_zero, List.set_cons_succ]
        refine RegL.take_w (i := 22) (oi := ⟨some 59, _, _, _, _, _⟩) (v := ?_) SM rfl (by decide) (by kernel_rfl) (by kernel_rfl) (by kernel_rfl) (fun _ _ _ h => h) (Or.inl ⟨by rfl, ?_⟩) (⟨M3.out, fun e => by cases e⟩) ?_
        rotate_left
        · intro w9 hw9; obtain ⟨⟨q1, q2⟩, q0⟩ := hw9; go_simp; try with_reducible rfl
        try simp only [Act.put, List.setIfInBounds_toArray, List.set_cons_zero, List.set_cons_succ]
        refine RegL.take_w (i := 23) (oi := ⟨some 60, _, _, _, _, _⟩) (v := ?_) SM rfl (by decide) (by kernel_rfl) (by kernel_rfl) (by kernel_rfl) (fun _ _ _ h => h) (Or.inl ⟨by rfl, ?_⟩) (⟨M3.out, fun e => by cases e⟩) ?_
        rotate_left
        · intro w9 hw9; obtain ⟨⟨q1, q2⟩, q0⟩ := hw9; go_simp; try with_reducible rfl
        try simp only [Act.put, List.setIfInBounds_toArray, List.set_cons_zero, List.set_cons_succ]
        refine RegL.step_of (i := 24) (o := ⟨none, _, _, _, _, _⟩) (by kernel_rfl) rfl (fun K' hK => ?_)
        go_simp
        refine hK _ _ (⟨M4.out, fun e => by cases e⟩) ?_
        clear hK K'
        try simp only [Act.put, List.setIfInBounds_toArray, List.set_cons_zero, List.set_cons_succ]
        refine RegL.done_of (by kernel_rfl) ?_ _
        rw [← HWC.out]
        clear za3 fza3 M1 M2 M3 M4 HALL
        have hc := HC.out
        have hslen : (sesL (ss1.set q x2)).length = n * 4 := by rw [sesL_len, List.length_set, ← HNN.out]
        have hV2 : SesV (.slice (some ⟨gt, 0, none⟩) n ct) (ss1.set q x2) := by
          refine ⟨⟨by rw [hslen, List.length_set, ← HNN.out], ?_⟩, fun z hz => ?_⟩
          · rcases HV1.out.row.2 with ⟨q1, q2⟩ | ⟨g9, c9, q1, q2, q3⟩
            · cases q1
            · injection q1 with q4 q5 q6
              injection q4 with q4
              injection q4 with q4
              subst q6
              subst q4
              exact .inr ⟨gt, ct, by rw [List.length_set, ← HNN.out], by rw [List.length_set]; exact q2, q3⟩
          · rcases List.mem_or_eq_of_mem_set hz with hz | rfl
            · exact HV1.out.of_ z hz
            · rw [HX2.out]
              refine ⟨⟨?_, fun b hb => ?_⟩, (HV1.out.of_ x (List.mem_of_getElem? HX.out)).2⟩
              · have := HVA.out
                show rowV (.slice A2 (nu + 1) c2) 1 (x.ins ++ [(Value.slice A5 xs.length c5, xs)]).length ((x.ins ++ [(Value.slice A5 xs.length c5, xs)]).map fun b => b.1)
                rw [List.length_append, ← HNU.out, List.map_append]; exact this
              · rcases List.mem_append.1 hb with hb | hb
                · exact (HV1.out.of_ x (List.mem_of_getElem? HX.out)).1.by_ b hb
                · obtain rfl := List.mem_singleton.1 hb
                  exact HV5.out
        have hpt := HBACK.out Wc (ss1.set q x2) (.slice (some ⟨gt, 0, none⟩) n ct) (byR (.slice A7 xs.length c7) xs ++ (B bo oc 98 :: R)) (hc.re (fun z => by
          have e2 : ss1.set q x2 = l1 ++ x2 :: l2 := by
            rw [HLS.out.1, List.set_append_right _ _ (by rw [HLS.out.2]; exact Nat.le_refl _), HLS.out.2, Nat.sub_self]; rfl
          rw [HTT.out]
          simp only [sesE, List.length_set, ← HNN.out]
          rw [e2, List.flatMap_append, List.flatMap_cons]
          simp only [seR, outE, HX2.out, List.length_append, List.length_cons, List.length_nil, Nat.zero_add, ← HNU.out, List.map_append, List.map_cons, List.map_nil, List.flatMap_append, List.flatMap_cons, List.flatMap_nil, cnt_append, cnt_cons, cnt_nil]
          omega)) rfl hV2
        have euu : upd (upd M.ss i ss1) i (ss1.set q x2) = upd M.ss i (ss1.set q x2) := by
          funext k; unfold upd; split
          · rfl
          · rename_i h9; first | rfl | exact if_neg h9
        rw [euu] at hpt
        obtain ⟨gi, X, y4, hV3, hL3, hback⟩ := hpt.link i j HI.out HJ.out
        have CS := Lib.hid (send_yes xs A7 c7 hL3 hV3 (rdR_held HV7.out (fun z => by simp only [cnt_append]; omega)) HBY.out (by have := HB2.out; omega) (by show (M.s i).items.length ≤ _; have := HIJ.out.ni; have := HT.out; omega) (by show (M.s i).gone + (M.s i).items.length < _; have := HIJ.out.ni; have := HT.out; omega))
        have HB := Lib.hid hback
        clear hc hslen hV2 hpt euu hV3 hL3 hback
        go_wp2_with fail
        refine CS.out.mono ?_; rintro e w9 ⟨rfl, iv', v, hV4, hs4⟩
        have hq := (HB.out _ _ hs4 hV4).1
        have HQ := Lib.hid hq
        have CU := Lib.hid (num14_calls 0 w9)
        clear hV4 hs4 hq
        go_wp2_with fail
        refine CU.out.mono ?_; rintro e w10 ⟨rfl, rfl⟩
        go_wp2_with fail
        go_ret
        have hinv := inv_send HII.out i j HI.out HJ.out HK0.out iv' (.slice A2 (nu + 1) c2) (v, xs) (.slice A5 xs.length c5, xs) rfl x (by rw [← HSS.out, ← HQQ.out]; exact HX.out) HXX.out
        rw [← HSS.out, ← HQQ.out, ← HX2.out] at hinv
        exact ⟨rfl, _, hinv, HQ.out.less (fun a => by simp only [cnt_append, cnt_cons]; omega)⟩
  · by_cases k2 : kd = 2
    · subst k2
      have hlnk := H1.out.link i j HI.out HJ.out
      obtain ⟨gi, X, y4, hV3, hL3, hback⟩ := hlnk
      have HV3 : Hid (LkV (M.s i)) := hV3
      have hsl := said_len (M.s i) (by rw [HIJ.out.wi]; exact HW.out.1)
      rw [HIJ.out.wi] at hsl
      have CT := Lib.hid (pt_tick i j HI.out HJ.out H1.out HIJ.out.me HIJ.out.ot HIJ.out.lf.symm (by rw [HIJ.out.lf]; have := HIJ.out.l1; have := HIJ.out.l2; have := HT.out; omega) (by have := HIJ.out.kn; have := HJI.out.l2; have := HT.out; omega) (by have := HIJ.out.he; have := HU.out; omega) (by have := HIJ.out.ni; have := HT.out; omega) (by have := HIJ.out.ou; have := HIJ.out.ni; have := HT.out; omega) (by have := HIJ.out.ni; have := HT.out; omega) HIJ.out.wi (by have := HW.out; omega) (by have := HII.out.nfs; have := HU.out; omega) hsl HET.out HZ.out)
      clear hV3 hL3 hback y4 hsl x1
      go_wp2_with fail
      refine CT.out.mono ?_; rintro e w2 ⟨rfl, ns, hns, h2⟩
      have H2 := Lib.hid (And.intro hns h2)
      clear CT hns h2
      go_wp2_with fail
      go_ret
      exact ⟨rfl, _, (inv_tick HII.out i j HI.out HJ.out HW.out HV3.out (by have := HT.out; omega) (by have := HU.out; omega) ns H2.out.1).more (Nat.le_succ t) (Nat.le_refl _), H2.out.2.less (fun a => by simp only [cnt_append, cnt_cons]; omega)⟩
    · by_cases k34 : kd = 3 ∨ kd = 4
      · skip
        obtain ⟨A6, c6, y6⟩ := H1.out.drew.sentC
        by_cases hfs : M.fs.length = 0
        · have y7 : W1.cell? ⟨gp, 6, none⟩ = some (.slice A6 0 c6) := by rw [← hfs]; exact y6
          clear y6 x1 k1 k2 hfs
          rcases k34 with rfl | rfl
          · go_wp2_with fail
            go_ret
            exact ⟨rfl, _, HII.out.more (Nat.le_succ t) (Nat.le_succ u), H1.out.less (fun a => by simp only [cnt_cons]; omega)⟩
          · go_wp2_with fail
            go_ret
            exact ⟨rfl, _, HII.out.more (Nat.le_succ t) (Nat.le_succ u), H1.out.less (fun a => by simp only [cnt_cons]; omega)⟩
        · have y7 : W1.cell? ⟨gp, 6, none⟩ = some (.slice A6 M.fs.length c6) := y6
          have hf9 : M.fs.length ≤ 100000 := by have := HII.out.nfs; have := HU.out; omega
          have hlz : ((M.fs.length : Int) == 0) = false := by rw [beq_eq_false_iff_ne]; omega
          have CW := within_calls pick (M.fs.length : Int) W1.drew (by omega) (by omega) HPI.out.1 HPI.out.2
          have hm1 := Int.emod_nonneg pick (b := (M.fs.length : Int)) (by omega)
          have hm2 := Int.emod_lt_of_pos pick (b := (M.fs.length : Int)) (by omega)
          obtain ⟨k, hk⟩ : ∃ k : Nat, pick % (M.fs.length : Int) = (k : Int) := ⟨(pick % (M.fs.length : Int)).toNat, by omega⟩
          have hkl : k < M.fs.length := by omega
          rw [hk] at CW
          have CW := Lib.hid CW
          have hb3 : W1.drew.cell? ⟨bo, 3, none⟩ = some (.int .i64 pick) := H1.out.drew.cell (b := bo) (cs := oc) (t := 98) (by simp) 3 HO3.out
          have H17 : Hid (W1.drew.cell? ⟨bo, 3, none⟩ = some (.int .i64 pick) ∧ W1.drew.cell? ⟨gp, 6, none⟩ = some (.slice A6 M.fs.length c6)) := ⟨hb3, y6⟩
          have hb0 : W1.drew.cell? ⟨bo, 0, none⟩ = some (.int .i64 kd) := x0
          have HF9 := Lib.hid hf9
          clear hm1 hm2 hk y6 hb3 x1 k1 k2 hf9
          rcases k34 with rfl | rfl
          · go_wp2_with fail
            clear y7
            have SM : ∀ (bb0 : Bool) (w9 : World), (fun (_ : Bool) (w9 : World) => w9.cell? ⟨bo, 3, none⟩ = some (.int .i64 pick) ∧ w9.cell? ⟨gp, 6, none⟩ = some (.slice A6 M.fs.length c6)) bb0 w9 → (fun (_ : Bool) (w9 : World) => w9.cell? ⟨bo, 3, none⟩ = some (.int .i64 pick) ∧ w9.cell? ⟨gp, 6, none⟩ = some (.slice A6 M.fs.length c6)) true w9 := fun _ _ h => h
            refine RegL.begin_of (k := 99) (S := fun (_ : Bool) (w9 : World) => w9.cell? ⟨bo, 3, none⟩ = some (.int .i64 pick) ∧ w9.cell? ⟨gp, 6, none⟩ = some (.slice A6 M.fs.length c6)) (by kernel_rfl) ?_
            refine RegL.take_w (i := 0) (oi := ⟨some 85, _, _, _, _, _⟩) (v := ?_) SM rfl (by decide) (by kernel_rfl) (by kernel_rfl) (by kernel_rfl) (fun _ _ _ h => h) (Or.inl ⟨by rfl, ?_⟩) (H17.out) ?_
            rotate_left
            · intro w9 hw9; obtain ⟨q1, q2⟩ := hw9; go_simp; try with_reducible rfl
            try simp only [Act.put, List.setIfInBounds_toArray, List.set_cons_zero, List.set_cons_succ]
            refine RegL.take_w (i := 1) (oi := ⟨some 86, _, _, _, _, _⟩) (v := ?_) SM rfl (by decide) (by kernel_rfl) (by kernel_rfl) (by kernel_rfl) (fun _ _ _ h => h) (Or.inl ⟨by rfl, ?_⟩) (H17.out) ?_
            rotate_left
            · intro w9 hw9; obtain ⟨q1, q2⟩ := hw9; go_simp; try with_reducible rfl
            try simp only [Act.put, List.setIfInBounds_toArray, List.set_cons_zero, List.set_cons_succ]
            refine RegL.take_w (i := 2) (oi := ⟨some 87, _, _, _, _, _⟩) (v := ?_) SM rfl (by decide) (by kernel_rfl) (by kernel_rfl) (by kernel_rfl) (fun _ _ _ h => h) (Or.inl ⟨by rfl, ?_⟩) (H17.out) ?_
            rotate_left
            · intro w9 hw9; obtain ⟨q1, q2⟩ := hw9; go_simp; try with_reducible rfl
            try simp only [Act.put, List.setIfInBounds_toArray, List.set_cons_zero, List.set_cons_succ]
            refine RegL.take_w (i := 3) (oi := ⟨some 88, _, _, _, _, _⟩) (v := ?_) SM rfl (by decide) (by kernel_rfl) (by kernel_rfl) (by kernel_rfl) (fun _ _ _ h => h) (Or.inl ⟨by rfl, ?_⟩) (H17.out) ?_
            rotate_left
            · intro w9 hw9; obtain ⟨q1, q2⟩ := hw9; go_simp; try with_reducible rfl
            try simp only [Act.put, List.setIfInBounds_toArray, List.set_cons_zero, List.set_cons_succ]
            refine RegL.take_w (i := 4) (oi := ⟨some 89, _, _, _, _, _⟩) (v := ?_) SM rfl (by decide) (by kernel_rfl) (by kernel_rfl) (by kernel_rfl) (fun _ _ _ h => h) (Or.inl ⟨by rfl, ?_⟩) (H17.out) ?_
            rotate_left
            · intro w9 hw9; obtain ⟨q1, q2⟩ := hw9; go_simp; try with_reducible rfl
            try simp only [Act.put, List.setIfInBounds_toArray, List.set_cons_zero, List.set_cons_succ]
            refine RegL.take_w (i := 5) (oi := ⟨some 90, _, _, _, _, _⟩) (v := ?_) SM rfl (by decide) (by kernel_rfl) (by kernel_rfl) (by kernel_rfl) (fun _ _ _ h => h) (Or.inl ⟨by rfl, ?_⟩) (H17.out) ?_
            rotate_left
            · intro w9 hw9; obtain ⟨q1, q2⟩ := hw9; go_simp; try with_reducible rfl
            try simp only [Act.put, List.setIfInBounds_toArray, List.set_cons_zero, List.set_cons_succ]
            refine RegL.take_w (i := 6) (oi := ⟨some 91, _, _, _, _, _⟩) (v := ?_) SM rfl (by decide) (by kernel_rfl) (by kernel_rfl) (by kernel_rfl) (fun _ _ _ h => h) (Or.inl ⟨by rfl, ?_⟩) (H17.out) ?_
            rotate_left
            · intro w9 hw9; obtain ⟨q1, q2⟩ := hw9; go_simp; try with_reducible rfl
            try simp only [Act.put, List.setIfInBounds_toArray, List.set_cons_zero, List.set_cons_succ]
            refine RegL.step_of (i := 7) (o := ⟨some 92, _, _, _, _, _⟩) (by kernel_rfl) rfl (fun K' hK => ?_)
            go_simp
            go_at_call 49
            (with_reducible refine CW.out.mono ?_)
            rintro e w9 ⟨rfl, rfl⟩
            refine hK _ _ (H17.out) ?_
            clear hK K'
            try simp only [Act.put, List.setIfInBounds_toArray, List.set_cons_zero, List.set_cons_succ]
            refine RegL.take_w (i := 8) (oi := ⟨some 8, _, _, _, _, _⟩) (v := ?_) SM rfl (by decide) (by kernel_rfl) (by kernel_rfl) (by kernel_rfl) (fun _ _ _ h => h) (Or.inl ⟨by rfl, ?_⟩) (H17.out) ?_
            rotate_left
            · intro w9 hw9; obtain ⟨q1, q2⟩ := hw9; go_simp; try with_reducible rfl
            try simp only [Act.put, List.setIfInBounds_toArray, List.set_cons_zero, List.set_cons_succ]
            refine RegL.done_of (by kernel_rfl) ?_ _
            obtain ⟨x, hx⟩ : ∃ x, M.fs[k]? = some x := ⟨_, List.getElem?_eq_getElem hkl⟩
            obtain ⟨jj, hj2, hF⟩ := HII.out.fr x (List.mem_of_getElem? hx)
            obtain ⟨ii, hii⟩ : ∃ ii, jj + ii = 1 := ⟨1 - jj, by omega⟩
            have hIJ := HII.out.side ii jj (by omega) hii
            have hJI := HII.out.side jj ii (by omega) (by omega)
            have hnx := hear_next HII.out ii jj (by omega) hii x.2 hF
            have hT9 := HT.out
            have hU9 := HU.out
            have hul := ups_len (M.lf ii) x.2.mine u (M.ss ii) (fun x hx => (hIJ.small x hx).2)
            have hil := ins_len x.2.mine (M.lf ii) t (M.ss jj) (fun x hx => (hJI.small x hx).1)
            obtain ⟨gg, cap, y6, hcs, hcall⟩ := pt_hear ii jj (by omega) hii (H1.out.drew) k x hx hF.fit (by rw [hF.src]; omega) (by rw [hF.dst]; omega) hIJ.me hIJ.ot hIJ.lf.symm (by have := hIJ.ni; omega) (by have := hIJ.he; omega) (by have := hIJ.nss; omega) (by have := hJI.nss; omega) (by omega) (by omega) hnx
            obtain ⟨v, F⟩ := x
            simp only at hF hcs hcall
            have z0 : (W1.drew).cell? ⟨gg, k * 7, none⟩ = some (.int .i64 F.src) := hcs 0 _ rfl
            have z1 : (W1.drew).cell? ⟨gg, k * 7 + 1, none⟩ = some (.int .i64 F.dst) := hcs 1 _ rfl
            have z2 : (W1.drew).cell? ⟨gg, k * 7 + 2, none⟩ = some (.int .u64 (F.mine : Int)) := hcs 2 _ rfl
            have z3 : (W1.drew).cell? ⟨gg, k * 7 + 3, none⟩ = some (.int .u64 (F.yours : Int)) := hcs 3 _ rfl
            have z4 : (W1.drew).cell? ⟨gg, k * 7 + 4, none⟩ = some (.int .u64 (F.seq : Int)) := hcs 4 _ rfl
            have z5 : (W1.drew).cell? ⟨gg, k * 7 + 5, none⟩ = some (.int .u64 (F.ack : Int)) := hcs 5 _ rfl
            have z6 : (W1.drew).cell? ⟨gg, k * 7 + 6, none⟩ = some v := hcs 6 _ rfl
            have HCALL : Hid (Calls Tryd.prog 89 #[pt gp, .agg #[(.int .i64 F.src), (.int .i64 F.dst), (.int .u64 (F.mine : Int)), (.int .u64 (F.yours : Int)), (.int .u64 (F.seq : Int)), (.int .u64 (F.ack : Int)), v]] (W1.drew) fun e w' => e = .returned (.bool true) ∧ ∃ iv S, (handedP (M.s ii) F = false → S = M.ss ii) ∧ (handedP (M.s ii) F = true → ∃ uv bv, S = upS (M.lf ii) F.mine (M.ss ii) uv (bv, F.body)) ∧ PT v0 (B bo oc 98 :: R) gp win most { M with s := upd M.s ii { hearP (M.s ii) F with iv := iv }, ss := upd M.ss ii S } w') := hcall
            have HF := Lib.hid hF
            have HIJ2 := Lib.hid (And.intro hii (show ii < 2 by omega))
            have kk1 : (k : Int) < (M.fs.length : Int) := by omega
            have kk2 : (0 : Int) ≤ (k : Int) := by omega
            have HKL := Lib.hid hkl
            clear hx hj2 hii hF hIJ hJI hnx hT9 hU9 hul hil hcs hcall hkl
            go_wp2_with fail
            refine HCALL.out.mono ?_; rintro e w9 ⟨rfl, iv, S, hS0, hS1, h9⟩
            have H9 := Lib.hid (And.intro hS0 (And.intro hS1 h9))
            clear hS0 hS1 h9 z0 z1 z2 z3 z4 z5 z6 y6
            go_wp2_with fail
            go_ret
            exact ⟨rfl, _, (inv_hear HII.out (by have := HW.out; omega) ii jj HIJ2.out.2 HIJ2.out.1 F HF.out iv S H9.out.1 H9.out.2.1).more (Nat.le_succ t) (Nat.le_refl _), H9.out.2.2.less (fun a => by simp only [cnt_cons]; omega)⟩
          · have CW2 := within_calls pick 40 W1.drew.drew (by omega) (by omega) HPI.out.1 HPI.out.2
            have hm1 := Int.emod_nonneg pick (b := 40) (by omega)
            have hm2 := Int.emod_lt_of_pos pick (b := 40) (by omega)
            obtain ⟨r, hr⟩ : ∃ r : Nat, pick % 40 = (r : Int) := ⟨(pick % 40).toNat, by omega⟩
            have hr40 : r < 40 := by omega
            rw [hr] at CW2
            have CW2 := Lib.hid CW2
            have w1 : IntKind.i64.wrap ((M.fs.length : Int) - 1) = (M.fs.length : Int) - 1 := IntWalk.i64_in _ ⟨by omega, by have := HF9.out; omega⟩
            have w2 : IntKind.i64.wrap ((M.fs.length : Int) - 1 - (r : Int)) = (M.fs.length : Int) - 1 - (r : Int) := IntWalk.i64_in _ ⟨by omega, by have := HF9.out; omega⟩
            have H19 : Hid (W1.drew.drew.cell? ⟨bo, 3, none⟩ = some (.int .i64 pick) ∧ W1.drew.drew.cell? ⟨gp, 6, none⟩ = some (.slice A6 M.fs.length c6)) := H17.out
            have HR40 := Lib.hid hr40
            clear hm1 hm2 hr hr40
            go_wp2_with fail
            clear y7
            have SM : ∀ (bb0 : Bool) (w9 : World), (fun (_ : Bool) (w9 : World) => w9.cell? ⟨bo, 3, none⟩ = some (.int .i64 pick) ∧ w9.cell? ⟨gp, 6, none⟩ = some (.slice A6 M.fs.length c6)) bb0 w9 → (fun (_ : Bool) (w9 : World) => w9.cell? ⟨bo, 3, none⟩ = some (.int .i64 pick) ∧ w9.cell? ⟨gp, 6, none⟩ = some (.slice A6 M.fs.length c6)) true w9 := fun _ _ h => h
            refine RegL.begin_of (k := 99) (S := fun (_ : Bool) (w9 : World) => w9.cell? ⟨bo, 3, none⟩ = some (.int .i64 pick) ∧ w9.cell? ⟨gp, 6, none⟩ = some (.slice A6 M.fs.length c6)) (by kernel_rfl) ?_
            refine RegL.take_w (i := 0) (oi := ⟨some 85, _, _, _, _, _⟩) (v := ?_) SM rfl (by decide) (by kernel_rfl) (by kernel_rfl) (by kernel_rfl) (fun _ _ _ h => h) (Or.inl ⟨by rfl, ?_⟩) (H17.out) ?_
            rotate_left
            · intro w9 hw9; obtain ⟨q1, q2⟩ := hw9; go_simp; try with_reducible rfl
            try simp only [Act.put, List.setIfInBounds_toArray, List.set_cons_zero, List.set_cons_succ]
            refine RegL.take_w (i := 1) (oi := ⟨some 86, _, _, _, _, _⟩) (v := ?_) SM rfl (by decide) (by kernel_rfl) (by kernel_rfl) (by kernel_rfl) (fun _ _ _ h => h) (Or.inl ⟨by rfl, ?_⟩) (H17.out) ?_
            rotate_left
            · intro w9 hw9; obtain ⟨q1, q2⟩ := hw9; go_simp; try with_reducible rfl
            try simp only [Act.put, List.setIfInBounds_toArray, List.set_cons_zero, List.set_cons_succ]
            refine RegL.take_w (i := 2) (oi := ⟨some 87, _, _, _, _, _⟩) (v := ?_) SM rfl (by decide) (by kernel_rfl) (by kernel_rfl) (by kernel_rfl) (fun _ _ _ h => h) (Or.inl ⟨by rfl, ?_⟩) (H17.out) ?_
            rotate_left
            · intro w9 hw9; obtain ⟨q1, q2⟩ := hw9; go_simp; try with_reducible rfl
            try simp only [Act.put, List.setIfInBounds_toArray, List.set_cons_zero, List.set_cons_succ]
            refine RegL.take_w (i := 3) (oi := ⟨some 88, _, _, _, _, _⟩) (v := ?_) SM rfl (by decide) (by kernel_rfl) (by kernel_rfl) (by kernel_rfl) (fun _ _ _ h => h) (Or.inl ⟨by rfl, ?_⟩) (H17.out) ?_
            rotate_left
            · intro w9 hw9; obtain ⟨q1, q2⟩ := hw9; go_simp; try with_reducible rfl
            try simp only [Act.put, List.setIfInBounds_toArray, List.set_cons_zero, List.set_cons_succ]
            refine RegL.take_w (i := 4) (oi := ⟨some 89, _, _, _, _, _⟩) (v := ?_) SM rfl (by decide) (by kernel_rfl) (by kernel_rfl) (by kernel_rfl) (fun _ _ _ h => h) (Or.inl ⟨by rfl, ?_⟩) (H17.out) ?_
            rotate_left
            · intro w9 hw9; obtain ⟨q1, q2⟩ := hw9; go_simp; try with_reducible rfl
            try simp only [Act.put, List.setIfInBounds_toArray, List.set_cons_zero, List.set_cons_succ]
            refine RegL.take_w (i := 5) (oi := ⟨some 90, _, _, _, _, _⟩) (v := ?_) SM rfl (by decide) (by kernel_rfl) (by kernel_rfl) (by kernel_rfl) (fun _ _ _ h => h) (Or.inl ⟨by rfl, ?_⟩) (H17.out) ?_
            rotate_left
            · intro w9 hw9; obtain ⟨q1, q2⟩ := hw9; go_simp; try with_reducible rfl
            try simp only [Act.put, List.setIfInBounds_toArray, List.set_cons_zero, List.set_cons_succ]
            refine RegL.take_w (i := 6) (oi := ⟨some 91, _, _, _, _, _⟩) (v := ?_) SM rfl (by decide) (by kernel_rfl) (by kernel_rfl) (by kernel_rfl) (fun _ _ _ h => h) (Or.inl ⟨by rfl, ?_⟩) (H17.out) ?_
            rotate_left
            · intro w9 hw9; obtain ⟨q1, q2⟩ := hw9; go_simp; try with_reducible rfl
            try simp only [Act.put, List.setIfInBounds_toArray, List.set_cons_zero, List.set_cons_succ]
            refine RegL.step_of (i := 7) (o := ⟨some 92, _, _, _, _, _⟩) (by kernel_rfl) rfl (fun K' hK => ?_)
            go_simp
            go_at_call 49
            (with_reducible refine CW.out.mono ?_)
            rintro e w9 ⟨rfl, rfl⟩
            refine hK _ _ (H17.out) ?_
            clear hK K'
            try simp only [Act.put, List.setIfInBounds_toArray, List.set_cons_zero, List.set_cons_succ]
            refine RegL.take_w (i := 8) (oi := ⟨some 8, _, _, _, _, _⟩) (v := ?_) SM rfl (by decide) (by kernel_rfl) (by kernel_rfl) (by kernel_rfl) (fun _ _ _ h => h) (Or.inl ⟨by rfl, ?_⟩) (H17.out) ?_
            rotate_left
            · intro w9 hw9; obtain ⟨q1, q2⟩ := hw9; go_simp; try with_reducible rfl
            try simp only [Act.put, List.setIfInBounds_toArray, List.set_cons_zero, List.set_cons_succ]
            refine RegL.done_of (by kernel_rfl) ?_ _
            go_wp2_with fail
            have SM : ∀ (bb0 : Bool) (w9 : World), (fun (_ : Bool) (w9 : World) => w9.cell? ⟨bo, 3, none⟩ = some (.int .i64 pick) ∧ w9.cell? ⟨gp, 6, none⟩ = some (.slice A6 M.fs.length c6)) bb0 w9 → (fun (_ : Bool) (w9 : World) => w9.cell? ⟨bo, 3, none⟩ = some (.int .i64 pick) ∧ w9.cell? ⟨gp, 6, none⟩ = some (.slice A6 M.fs.length c6)) true w9 := fun _ _ h => h
            refine RegL.begin_of (k := 99) (S := fun (_ : Bool) (w9 : World) => w9.cell? ⟨bo, 3, none⟩ = some (.int .i64 pick) ∧ w9.cell? ⟨gp, 6, none⟩ = some (.slice A6 M.fs.length c6)) (by kernel_rfl) ?_
            refine RegL.take_w (i := 0) (oi := ⟨some 96, _, _, _, _, _⟩) (v := ?_) SM rfl (by decide) (by kernel_rfl) (by kernel_rfl) (by kernel_rfl) (fun _ _ _ h => h) (Or.inl ⟨by rfl, ?_⟩) (H19.out) ?_
            rotate_left
            · intro w9 hw9; obtain ⟨q1, q2⟩ := hw9; go_simp; try with_reducible rfl
            try simp only [Act.put, List.setIfInBounds_toArray, List.set_cons_zero, List.set_cons_succ]
            refine RegL.take_w (i := 1) (oi := ⟨some 97, _, _, _, _, _⟩) (v := ?_) SM rfl (by decide) (by kernel_rfl) (by kernel_rfl) (by kernel_rfl) (fun _ _ _ h => h) (Or.inl ⟨by rfl, ?_⟩) (H19.out) ?_
            rotate_left
            · intro w9 hw9; obtain ⟨q1, q2⟩ := hw9; go_simp; try with_reducible rfl
            try simp only [Act.put, List.setIfInBounds_toArray, List.set_cons_zero, List.set_cons_succ]
            refine RegL.take_w (i := 2) (oi := ⟨some 98, _, _, _, _, _⟩) (v := ?_) SM rfl (by decide) (by kernel_rfl) (by kernel_rfl) (by kernel_rfl) (fun _ _ _ h => h) (Or.inl ⟨by rfl, ?_⟩) (H19.out) ?_
            rotate_left
            · intro w9 hw9; obtain ⟨q1, q2⟩ := hw9; go_simp; try with_reducible rfl
            try simp only [Act.put, List.setIfInBounds_toArray, List.set_cons_zero, List.set_cons_succ]
            refine RegL.take_w (i := 3) (oi := ⟨some 99, _, _, _, _, _⟩) (v := ?_) SM rfl (by decide) (by kernel_rfl) (by kernel_rfl) (by kernel_rfl) (fun _ _ _ h => h) (Or.inl ⟨by rfl, ?_⟩) (H19.out) ?_
            rotate_left
            · intro w9 hw9; obtain ⟨q1, q2⟩ := hw9; go_simp; try with_reducible rfl
            try simp only [Act.put, List.setIfInBounds_toArray, List.set_cons_zero, List.set_cons_succ]
            refine RegL.take_w (i := 4) (oi := ⟨some 100, _, _, _, _, _⟩) (v := ?_) SM rfl (by decide) (by kernel_rfl) (by kernel_rfl) (by kernel_rfl) (fun _ _ _ h => h) (Or.inl ⟨by rfl, ?_⟩) (H19.out) ?_
            rotate_left
            · intro w9 hw9; obtain ⟨q1, q2⟩ := hw9; go_simp; try with_reducible rfl
            try simp only [Act.put, List.setIfInBounds_toArray, List.set_cons_zero, List.set_cons_succ]
            refine RegL.take_w (i := 5) (oi := ⟨some 101, _, _, _, _, _⟩) (v := ?_) SM rfl (by decide) (by kernel_rfl) (by kernel_rfl) (by kernel_rfl) (fun _ _ _ h => h) (Or.inl ⟨by rfl, ?_⟩) (H19.out) ?_
            rotate_left
            · intro w9 hw9; obtain ⟨q1, q2⟩ := hw9; go_simp; try with_reducible rfl
            try simp only [Act.put, List.setIfInBounds_toArray, List.set_cons_zero, List.set_cons_succ]
            refine RegL.take_w (i := 6) (oi := ⟨some 102, _, _, _, _, _⟩) (v := ?_) SM rfl (by decide) (by kernel_rfl) (by kernel_rfl) (by kernel_rfl) (fun _ _ _ h => h) (Or.inl ⟨by rfl, ?_⟩) (H19.out) ?_
            rotate_left
            · intro w9 hw9; obtain ⟨q1, q2⟩ := hw9; go_simp; try with_reducible rfl
            try simp only [Act.put, List.setIfInBounds_toArray, List.set_cons_zero, List.set_cons_succ]
            refine RegL.take_w (i := 7) (oi := ⟨some 103, _, _, _, _, _⟩) (v := ?_) SM rfl (by decide) (by kernel_rfl) (by kernel_rfl) (by kernel_rfl) (fun _ _ _ h => h) (Or.inl ⟨by rfl, ?_⟩) (H19.out) ?_
            rotate_left
            · intro w9 hw9; obtain ⟨q1, q2⟩ := hw9; go_simp; try with_reducible rfl
            try simp only [Act.put, List.setIfInBounds_toArray, List.set_cons_zero, List.set_cons_succ]
            refine RegL.step_of (i := 8) (o := ⟨some 104, _, _, _, _, _⟩) (by kernel_rfl) rfl (fun K' hK => ?_)
            go_simp
            go_at_call 49
            (with_reducible refine CW2.out.mono ?_)
            rintro e w9 ⟨rfl, rfl⟩
            refine hK _ _ (H19.out) ?_
            clear hK K'
            try simp only [Act.put, List.setIfInBounds_toArray, List.set_cons_zero, List.set_cons_succ]
            refine RegL.take_w (i := 9) (oi := ⟨some 105, _, _, _, _, _⟩) (v := ?_) SM rfl (by decide) (by kernel_rfl) (by kernel_rfl) (by kernel_rfl) (fun _ _ _ h => h) (Or.inl ⟨by rfl, ?_⟩) (H19.out) ?_
            rotate_left
            · intro w9 hw9; obtain ⟨q1, q2⟩ := hw9; go_simp; try with_reducible rfl
            try simp only [Act.put, List.setIfInBounds_toArray, List.set_cons_zero, List.set_cons_succ]
            refine RegL.take_w (i := 10) (oi := ⟨some 8, _, _, _, _, _⟩) (v := ?_) SM rfl (by decide) (by kernel_rfl) (by kernel_rfl) (by kernel_rfl) (fun _ _ _ h => h) (Or.inl ⟨by rfl, ?_⟩) (H19.out) ?_
            rotate_left
            · intro w9 hw9; obtain ⟨q1, q2⟩ := hw9; go_simp; try with_reducible rfl
            try simp only [Act.put, List.setIfInBounds_toArray, List.set_cons_zero, List.set_cons_succ]
            refine RegL.done_of (by kernel_rfl) ?_ _
            by_cases hneg : (M.fs.length : Int) - 1 - (r : Int) < 0
            · clear hkl
              have hkl : 0 < M.fs.length := by omega
              obtain ⟨x, hx⟩ : ∃ x, M.fs[0]? = some x := ⟨_, List.getElem?_eq_getElem hkl⟩
              obtain ⟨jj, hj2, hF⟩ := HII.out.fr x (List.mem_of_getElem? hx)
              obtain ⟨ii, hii⟩ : ∃ ii, jj + ii = 1 := ⟨1 - jj, by omega⟩
              have hIJ := HII.out.side ii jj (by omega) hii
              have hJI := HII.out.side jj ii (by omega) (by omega)
              have hnx := hear_next HII.out ii jj (by omega) hii x.2 hF
              have hT9 := HT.out
              have hU9 := HU.out
              have hul := ups_len (M.lf ii) x.2.mine u (M.ss ii) (fun x hx => (hIJ.small x hx).2)
              have hil := ins_len x.2.mine (M.lf ii) t (M.ss jj) (fun x hx => (hJI.small x hx).1)
              obtain ⟨gg, cap, y6, hcs, hcall⟩ := pt_hear ii jj (by omega) hii (H1.out.drew.drew) 0 x hx hF.fit (by rw [hF.src]; omega) (by rw [hF.dst]; omega) hIJ.me hIJ.ot hIJ.lf.symm (by have := hIJ.ni; omega) (by have := hIJ.he; omega) (by have := hIJ.nss; omega) (by have := hJI.nss; omega) (by omega) (by omega) hnx
              obtain ⟨v, F⟩ := x
              simp only at hF hcs hcall
              have z0 : (W1.drew.drew).cell? ⟨gg, 0, none⟩ = some (.int .i64 F.src) := hcs 0 _ rfl
              have z1 : (W1.drew.drew).cell? ⟨gg, 0 + 1, none⟩ = some (.int .i64 F.dst) := hcs 1 _ rfl
              have z2 : (W1.drew.drew).cell? ⟨gg, 0 + 2, none⟩ = some (.int .u64 (F.mine : Int)) := hcs 2 _ rfl
              have z3 : (W1.drew.drew).cell? ⟨gg, 0 + 3, none⟩ = some (.int .u64 (F.yours : Int)) := hcs 3 _ rfl
              have z4 : (W1.drew.drew).cell? ⟨gg, 0 + 4, none⟩ = some (.int .u64 (F.seq : Int)) := hcs 4 _ rfl
              have z5 : (W1.drew.drew).cell? ⟨gg, 0 + 5, none⟩ = some (.int .u64 (F.ack : Int)) := hcs 5 _ rfl
              have z6 : (W1.drew.drew).cell? ⟨gg, 0 + 6, none⟩ = some v := hcs 6 _ rfl
              have HCALL : Hid (Calls Tryd.prog 89 #[pt gp, .agg #[(.int .i64 F.src), (.int .i64 F.dst), (.int .u64 (F.mine : Int)), (.int .u64 (F.yours : Int)), (.int .u64 (F.seq : Int)), (.int .u64 (F.ack : Int)), v]] (W1.drew.drew) fun e w' => e = .returned (.bool true) ∧ ∃ iv S, (handedP (M.s ii) F = false → S = M.ss ii) ∧ (handedP (M.s ii) F = true → ∃ uv bv, S = upS (M.lf ii) F.mine (M.ss ii) uv (bv, F.body)) ∧ PT v0 (B bo oc 98 :: R) gp win most { M with s := upd M.s ii { hearP (M.s ii) F with iv := iv }, ss := upd M.ss ii S } w') := hcall
              have HF := Lib.hid hF
              have HIJ2 := Lib.hid (And.intro hii (show ii < 2 by omega))
              have kk1 : (0 : Int) < (M.fs.length : Int) := by omega
              have kk2 : (0 : Int) ≤ (0 : Int) := by omega
              have HKL := Lib.hid hkl
              clear hx hj2 hii hF hIJ hJI hnx hT9 hU9 hul hil hcs hcall hkl
              go_wp2_with fail
              refine HCALL.out.mono ?_; rintro e w9 ⟨rfl, iv, S, hS0, hS1, h9⟩
              have H9 := Lib.hid (And.intro hS0 (And.intro hS1 h9))
              clear hS0 hS1 h9 z0 z1 z2 z3 z4 z5 z6 y6
              go_wp2_with fail
              go_ret
              exact ⟨rfl, _, (inv_hear HII.out (by have := HW.out; omega) ii jj HIJ2.out.2 HIJ2.out.1 F HF.out iv S H9.out.1 H9.out.2.1).more (Nat.le_succ t) (Nat.le_refl _), H9.out.2.2.less (fun a => by simp only [cnt_cons]; omega)⟩
            · clear hkl
              obtain ⟨k2, hk2⟩ : ∃ k2 : Nat, (M.fs.length : Int) - 1 - (r : Int) = (k2 : Int) := ⟨((M.fs.length : Int) - 1 - (r : Int)).toNat, by omega⟩
              have hkl : k2 < M.fs.length := by omega
              rw [hk2]
              clear hneg w1 w2 hk2
              obtain ⟨x, hx⟩ : ∃ x, M.fs[k2]? = some x := ⟨_, List.getElem?_eq_getElem hkl⟩
              obtain ⟨jj, hj2, hF⟩ := HII.out.fr x (List.mem_of_getElem? hx)
              obtain ⟨ii, hii⟩ : ∃ ii, jj + ii = 1 := ⟨1 - jj, by omega⟩
              have hIJ := HII.out.side ii jj (by omega) hii
              have hJI := HII.out.side jj ii (by omega) (by omega)
              have hnx := hear_next HII.out ii jj (by omega) hii x.2 hF
              have hT9 := HT.out
              have hU9 := HU.out
              have hul := ups_len (M.lf ii) x.2.mine u (M.ss ii) (fun x hx => (hIJ.small x hx).2)
              have hil := ins_len x.2.mine (M.lf ii) t (M.ss jj) (fun x hx => (hJI.small x hx).1)
              obtain ⟨gg, cap, y6, hcs, hcall⟩ := pt_hear ii jj (by omega) hii (H1.out.drew.drew) k2 x hx hF.fit (by rw [hF.src]; omega) (by rw [hF.dst]; omega) hIJ.me hIJ.ot hIJ.lf.symm (by have := hIJ.ni; omega) (by have := hIJ.he; omega) (by have := hIJ.nss; omega) (by have := hJI.nss; omega) (by omega) (by omega) hnx
              obtain ⟨v, F⟩ := x
              simp only at hF hcs hcall
              have z0 : (W1.drew.drew).cell? ⟨gg, k2 * 7, none⟩ = some (.int .i64 F.src) := hcs 0 _ rfl
              have z1 : (W1.drew.drew).cell? ⟨gg, k2 * 7 + 1, none⟩ = some (.int .i64 F.dst) := hcs 1 _ rfl
              have z2 : (W1.drew.drew).cell? ⟨gg, k2 * 7 + 2, none⟩ = some (.int .u64 (F.mine : Int)) := hcs 2 _ rfl
              have z3 : (W1.drew.drew).cell? ⟨gg, k2 * 7 + 3, none⟩ = some (.int .u64 (F.yours : Int)) := hcs 3 _ rfl
              have z4 : (W1.drew.drew).cell? ⟨gg, k2 * 7 + 4, none⟩ = some (.int .u64 (F.seq : Int)) := hcs 4 _ rfl
              have z5 : (W1.drew.drew).cell? ⟨gg, k2 * 7 + 5, none⟩ = some (.int .u64 (F.ack : Int)) := hcs 5 _ rfl
              have z6 : (W1.drew.drew).cell? ⟨gg, k2 * 7 + 6, none⟩ = some v := hcs 6 _ rfl
              have HCALL : Hid (Calls Tryd.prog 89 #[pt gp, .agg #[(.int .i64 F.src), (.int .i64 F.dst), (.int .u64 (F.mine : Int)), (.int .u64 (F.yours : Int)), (.int .u64 (F.seq : Int)), (.int .u64 (F.ack : Int)), v]] (W1.drew.drew) fun e w' => e = .returned (.bool true) ∧ ∃ iv S, (handedP (M.s ii) F = false → S = M.ss ii) ∧ (handedP (M.s ii) F = true → ∃ uv bv, S = upS (M.lf ii) F.mine (M.ss ii) uv (bv, F.body)) ∧ PT v0 (B bo oc 98 :: R) gp win most { M with s := upd M.s ii { hearP (M.s ii) F with iv := iv }, ss := upd M.ss ii S } w') := hcall
              have HF := Lib.hid hF
              have HIJ2 := Lib.hid (And.intro hii (show ii < 2 by omega))
              have kk1 : (k2 : Int) < (M.fs.length : Int) := by omega
              have kk2 : (0 : Int) ≤ (k2 : Int) := by omega
              have HKL := Lib.hid hkl
              clear hx hj2 hii hF hIJ hJI hnx hT9 hU9 hul hil hcs hcall hkl
              go_wp2_with fail
              refine HCALL.out.mono ?_; rintro e w9 ⟨rfl, iv, S, hS0, hS1, h9⟩
              have H9 := Lib.hid (And.intro hS0 (And.intro hS1 h9))
              clear hS0 hS1 h9 z0 z1 z2 z3 z4 z5 z6 y6
              go_wp2_with fail
              go_ret
              exact ⟨rfl, _, (inv_hear HII.out (by have := HW.out; omega) ii jj HIJ2.out.2 HIJ2.out.1 F HF.out iv S H9.out.1 H9.out.2.1).more (Nat.le_succ t) (Nat.le_refl _), H9.out.2.2.less (fun a => by simp only [cnt_cons]; omega)⟩
      · by_cases k5 : kd = 5
        · subst k5
          obtain ⟨r, hr⟩ : ∃ r : Nat, more % 3 = (r : Int) := ⟨(more % 3).toNat, by omega⟩
          have hr3 : r ≤ 2 := by omega
          have hl9 : M.lf i ≤ 3000 := by have := HIJ.out.l2; have := HT.out; omega
          have CW := within_calls more 3 W1.drew (by omega) (by omega) HMO.out.1 HMO.out.2
          rw [hr] at CW
          have CW := Lib.hid CW
          have CL := pt_lives i j (M.lf i + 1 + r) HI.out HJ.out H1.out.drew HM.out
          rw [show (((M.lf i + 1 + r : Nat)) : Int) = (M.lf i : Int) + 1 + (r : Int) by omega] at CL
          have CL := Lib.hid CL
          have u1 : IntKind.u64.wrap ((M.lf i : Int) + 1) = (M.lf i : Int) + 1 := by simp only [IntKind.wrap_u64]; omega
          have u2 : IntKind.u64.wrap (r : Int) = (r : Int) := by simp only [IntKind.wrap_u64]; omega
          have u3 : IntKind.u64.wrap ((M.lf i : Int) + 1 + (r : Int)) = (M.lf i : Int) + 1 + (r : Int) := by simp only [IntKind.wrap_u64]; omega
          have hb4 : W1.drew.cell? ⟨bo, 4, none⟩ = some (.int .i64 more) := H1.out.drew.cell (b := bo) (cs := oc) (t := 98) (by simp) 4 HO4.out
          have HB4 := Lib.hid hb4
          have HR3 := Lib.hid hr3
          have H24 : Hid (∀ b : Bool, (W1.drew.cell? ⟨bo, 4, none⟩ = some (.int .i64 more)) ∧ (b = false → W1.drew.cell? ⟨gp, 2 + i, none⟩ = some (.int .u64 (M.lf i : Int)))) := fun _ => ⟨hb4, fun _ => H1.out.drew.lifeC i HI.out⟩
          clear hr hr3 hl9 hb4 x1 k1 k2 k34
          go_wp2_with fail
          have SM : ∀ (bb0 : Bool) (w9 : World), (fun (b : Bool) (w9 : World) => (w9.cell? ⟨bo, 4, none⟩ = some (.int .i64 more)) ∧ (b = false → w9.cell? ⟨gp, 2 + i, none⟩ = some (.int .u64 (M.lf i : Int)))) bb0 w9 → (fun (b : Bool) (w9 : World) => (w9.cell? ⟨bo, 4, none⟩ = some (.int .i64 more)) ∧ (b = false → w9.cell? ⟨gp, 2 + i, none⟩ = some (.int .u64 (M.lf i : Int)))) true w9 := fun _ _ h => ⟨h.1, fun e => by cases e⟩
          refine RegL.begin_of (k := 8) (S := fun (b : Bool) (w9 : World) => (w9.cell? ⟨bo, 4, none⟩ = some (.int .i64 more)) ∧ (b = false → w9.cell? ⟨gp, 2 + i, none⟩ = some (.int .u64 (M.lf i : Int)))) (by kernel_rfl) ?_
          refine RegL.take_w (i := 0) (oi := ⟨some 119, _, _, _, _, _⟩) (v := ?_) SM rfl (by decide) (by kernel_rfl) (by kernel_rfl) (by kernel_rfl) (fun _ _ _ h => h) (Or.inl ⟨by rfl, ?_⟩) (H24.out _) ?_
          rotate_left
          · intro w9 hw9; obtain ⟨q1, q0⟩ := hw9; go_simp; try with_reducible rfl
          try simp only [Act.put, List.setIfInBounds_toArray, List.set_cons_zero, List.set_cons_succ]
          refine RegL.take_w (i := 1) (oi := ⟨some 120, _, _, _, _, _⟩) (v := ?_) SM rfl (by decide) (by kernel_rfl) (by kernel_rfl) (by kernel_rfl) (fun _ _ _ h => h) (Or.inl ⟨by rfl, ?_⟩) (H24.out _) ?_
          rotate_left
          · intro w9 hw9; obtain ⟨q1, q0⟩ := hw9; go_simp; try with_reducible rfl
          try simp only [Act.put, List.setIfInBounds_toArray, List.set_cons_zero, List.set_cons_succ]
          refine RegL.take_w (i := 2) (oi := ⟨some 121, _, _, _, _, _⟩) (v := ?_) SM rfl (by decide) (by kernel_rfl) (by kernel_rfl) (by kernel_rfl) (fun _ _ _ h => h) (Or.inl ⟨by rfl, ?_⟩) (H24.out _) ?_
          rotate_left
          · intro w9 hw9; obtain ⟨q1, q0⟩ := hw9; go_simp; try with_reducible rfl
          try simp only [Act.put, List.setIfInBounds_toArray, List.set_cons_zero, List.set_cons_succ]
          refine RegL.take_w (i := 3) (oi := ⟨some 122, _, _, _, _, _⟩) (v := ?_) SM rfl (by decide) (by kernel_rfl) (by kernel_rfl) (by kernel_rfl) (fun _ _ _ h => h) (Or.inl ⟨by rfl, ?_⟩) (H24.out _) ?_
          rotate_left
          · intro w9 hw9; obtain ⟨q1, q0⟩ := hw9; go_simp; try with_reducible rfl
          try simp only [Act.put, List.setIfInBounds_toArray, List.set_cons_zero, List.set_cons_succ]
          refine RegL.take_w (i := 4) (oi := ⟨some 123, _, _, _, _, _⟩) (v := ?_) SM rfl (by decide) (by kernel_rfl) (by kernel_rfl) (by kernel_rfl) (fun _ _ _ h => h) (Or.inl ⟨by rfl, ?_⟩) (H24.out _) ?_
          rotate_left
          · intro w9 hw9; obtain ⟨q1, q0⟩ := hw9; go_simp; try with_reducible rfl
          try simp only [Act.put, List.setIfInBounds_toArray, List.set_cons_zero, List.set_cons_succ]
          refine RegL.take_w (i := 5) (oi := ⟨some 124, _, _, _, _, _⟩) (v := ?_) SM rfl (by decide) (by kernel_rfl) (by kernel_rfl) (by kernel_rfl) (fun _ _ _ h => h) (Or.inl ⟨by rfl, ?_⟩) (H24.out _) ?_
          rotate_left
          · intro w9 hw9; obtain ⟨q1, q0⟩ := hw9; go_simp; try with_reducible rfl
          try simp only [Act.put, List.setIfInBounds_toArray, List.set_cons_zero, List.set_cons_succ]
          refine RegL.take_w (i := 6) (oi := ⟨some 125, _, _, _, _, _⟩) (v := ?_) SM rfl (by decide) (by kernel_rfl) (by kernel_rfl) (by kernel_rfl) (fun _ _ _ h => h) (Or.inl ⟨by rfl, ?_⟩) (H24.out _) ?_
          rotate_left
          · intro w9 hw9; obtain ⟨q1, q0⟩ := hw9; go_simp; try with_reducible rfl
          try simp only [Act.put, List.setIfInBounds_toArray, List.set_cons_zero, List.set_cons_succ]
          refine RegL.take_s (i := 7) (oi := ⟨some 126, _, _, _, _, _⟩) (ok := ⟨some 127, _, _, _, _, _⟩) (v := ?_) rfl (by decide) rfl (by kernel_rfl) (by kernel_rfl) (by kernel_rfl) (by kernel_rfl) (by kernel_rfl) (fun _ _ _ h => h) (Or.inl ⟨by rfl, ?_⟩) (H24.out _) ?_
          rotate_left
          · intro w9 hw9; obtain ⟨q9, q0⟩ := hw9; have q1 := q0 rfl; clear q0 q9; go_simp; try with_reducible rfl
          try simp only [Act.put, List.setIfInBounds_toArray, List.set_cons_zero, List.set_cons_succ]
          refine RegL.take_w (i := 9) (oi := ⟨some 128, _, _, _, _, _⟩) (v := ?_) SM rfl (by decide) (by kernel_rfl) (by kernel_rfl) (by kernel_rfl) (fun _ _ _ h => h) (Or.inl ⟨by rfl, ?_⟩) (H24.out _) ?_
          rotate_left
          · intro w9 hw9; obtain ⟨q1, q0⟩ := hw9; go_simp; try with_reducible rfl
          try simp only [Act.put, List.setIfInBounds_toArray, List.set_cons_zero, List.set_cons_succ]
          refine RegL.take_w (i := 10) (oi := ⟨some 129, _, _, _, _, _⟩) (v := ?_) SM rfl (by decide) (by kernel_rfl) (by kernel_rfl) (by kernel_rfl) (fun _ _ _ h => h) (Or.inl ⟨by rfl, ?_⟩) (H24.out _) ?_
          rotate_left
          · intro w9 hw9; obtain ⟨q1, q0⟩ := hw9; go_simp; try with_reducible rfl
          try simp only [Act.put, List.setIfInBounds_toArray, List.set_cons_zero, List.set_cons_succ]
          refine RegL.all_of (rs := [8, 11]) (by kernel_rfl) (by simp) (fun jj hjj => ?_)
          rcases (show jj = 8 ∨ jj = 11 by simpa using hjj) with rfl | rfl
          · refine wpOp_step (o := ⟨some 127, _, _, _, _, _⟩) rfl (fun K' hK => ?_)
            go_simp
            refine hK _ _ ⟨⟨HB4.out, fun e => by cases e⟩, ?_⟩
            clear hK K'
            try simp only [Act.put, List.setIfInBounds_toArray, List.set_cons_zero, List.set_cons_succ]
            refine RegL.step_of (i := 11) (o := ⟨some 130, _, _, _, _, _⟩) (by kernel_rfl) rfl (fun K' hK => ?_)
            go_simp
            go_at_call 49
            (with_reducible refine CW.out.mono ?_)
            rintro e w9 ⟨rfl, rfl⟩
            refine hK _ _ (⟨HB4.out, fun e => by cases e⟩) ?_
            clear hK K'
            try simp only [Act.put, List.setIfInBounds_toArray, List.set_cons_zero, List.set_cons_succ]
            refine RegL.take_w (i := 12) (oi := ⟨some 131, _, _, _, _, _⟩) (v := ?_) SM rfl (by decide) (by kernel_rfl) (by kernel_rfl) (by kernel_rfl) (fun _ _ _ h => h) (Or.inl ⟨by rfl, ?_⟩) (⟨HB4.out, fun e => by cases e⟩) ?_
            rotate_left
            · intro w9 hw9; obtain ⟨q1, q0⟩ := hw9; go_simp; try with_reducible rfl
            try simp only [Act.put, List.setIfInBounds_toArray, List.set_cons_zero, List.set_cons_succ]
            refine RegL.take_w (i := 13) (oi := ⟨some 132, _, _, _, _, _⟩) (v := ?_) SM rfl (by decide) (by kernel_rfl) (by kernel_rfl) (by kernel_rfl) (fun _ _ _ h => h) (Or.inl ⟨by rfl, ?_⟩) (⟨HB4.out, fun e => by cases e⟩) ?_
            rotate_left
            · intro w9 hw9; obtain ⟨q1, q0⟩ := hw9; go_simp; try with_reducible rfl
            try simp only [Act.put, List.setIfInBounds_toArray, List.set_cons_zero, List.set_cons_succ]
            refine RegL.step_of (i := 14) (o := ⟨some 133, _, _, _, _, _⟩) (by kernel_rfl) rfl (fun K' hK => ?_)
            go_simp
            go_at_call 87
            (with_reducible refine CL.out.mono ?_)
            rintro e w9 ⟨rfl, gc, h9⟩
            have H9 := Lib.hid h9
            clear h9
            refine hK _ _ ⟨H9.out.cell (b := bo) (cs := oc) (t := 98) (by simp) 4 HO4.out, fun e => by cases e⟩ ?_
            clear hK K'
            try simp only [Act.put, List.setIfInBounds_toArray, List.set_cons_zero, List.set_cons_succ]
            refine RegL.take_w (i := 15) (oi := ⟨some 4, _, _, _, _, _⟩) (v := ?_) SM rfl (by decide) (by kernel_rfl) (by kernel_rfl) (by kernel_rfl) (fun _ _ _ h => h) (Or.inl ⟨by rfl, ?_⟩) (⟨H9.out.cell (b := bo) (cs := oc) (t := 98) (by simp) 4 HO4.out, fun e => by cases e⟩) ?_
            rotate_left
            · intro w9 hw9; obtain ⟨q1, q0⟩ := hw9; go_simp; try with_reducible rfl
            try simp only [Act.put, List.setIfInBounds_toArray, List.set_cons_zero, List.set_cons_succ]
            refine RegL.done_of (by kernel_rfl) ?_ _
            go_wp2_with fail
            go_ret
            exact ⟨rfl, _, (inv_lives HII.out (by have := HW.out; omega) i j _ HI.out HJ.out (by omega) (by have := HR3.out; omega) gc).more (Nat.le_refl _) (Nat.le_succ u), H9.out.less (fun a => by simp only [cnt_cons]; omega)⟩
          · refine wpOp_step (o := ⟨some 130, _, _, _, _, _⟩) rfl (fun K' hK => ?_)
            go_simp
            go_at_call 49
            (with_reducible refine CW.out.mono ?_)
            rintro e w9 ⟨rfl, rfl⟩
            refine hK _ _ ⟨H24.out _, ?_⟩
            clear hK K'
            try simp only [Act.put, List.setIfInBounds_toArray, List.set_cons_zero, List.set_cons_succ]
            refine RegL.take_w (i := 12) (oi := ⟨some 131, _, _, _, _, _⟩) (v := ?_) SM rfl (by decide) (by kernel_rfl) (by kernel_rfl) (by kernel_rfl) (fun _ _ _ h => h) (Or.inl ⟨by rfl, ?_⟩) (H24.out _) ?_
            rotate_left
            · intro w9 hw9; obtain ⟨q1, q0⟩ := hw9; go_simp; try with_reducible rfl
            try simp only [Act.put, List.setIfInBounds_toArray, List.set_cons_zero, List.set_cons_succ]
            refine RegL.step_of (i := 8) (o := ⟨some 127, _, _, _, _, _⟩) (by kernel_rfl) rfl (fun K' hK => ?_)
            go_simp
            refine hK _ _ (⟨HB4.out, fun e => by cases e⟩) ?_
            clear hK K'
            try simp only [Act.put, List.setIfInBounds_toArray, List.set_cons_zero, List.set_cons_succ]
            refine RegL.take_w (i := 13) (oi := ⟨some 132, _, _, _, _, _⟩) (v := ?_) SM rfl (by decide) (by kernel_rfl) (by kernel_rfl) (by kernel_rfl) (fun _ _ _ h => h) (Or.inl ⟨by rfl, ?_⟩) (⟨HB4.out, fun e => by cases e⟩) ?_
            rotate_left
            · intro w9 hw9; obtain ⟨q1, q0⟩ := hw9; go_simp; try with_reducible rfl
            try simp only [Act.put, List.setIfInBounds_toArray, List.set_cons_zero, List.set_cons_succ]
            refine RegL.step_of (i := 14) (o := ⟨some 133, _, _, _, _, _⟩) (by kernel_rfl) rfl (fun K' hK => ?_)
            go_simp
            go_at_call 87
            (with_reducible refine CL.out.mono ?_)
            rintro e w9 ⟨rfl, gc, h9⟩
            have H9 := Lib.hid h9
            clear h9
            refine hK _ _ ⟨H9.out.cell (b := bo) (cs := oc) (t := 98) (by simp) 4 HO4.out, fun e => by cases e⟩ ?_
            clear hK K'
            try simp only [Act.put, List.setIfInBounds_toArray, List.set_cons_zero, List.set_cons_succ]
            refine RegL.take_w (i := 15) (oi := ⟨some 4, _, _, _, _, _⟩) (v := ?_) SM rfl (by decide) (by kernel_rfl) (by kernel_rfl) (by kernel_rfl) (fun _ _ _ h => h) (Or.inl ⟨by rfl, ?_⟩) (⟨H9.out.cell (b := bo) (cs := oc) (t := 98) (by simp) 4 HO4.out, fun e => by cases e⟩) ?_
            rotate_left
            · intro w9 hw9; obtain ⟨q1, q0⟩ := hw9; go_simp; try with_reducible rfl
            try simp only [Act.put, List.setIfInBounds_toArray, List.set_cons_zero, List.set_cons_succ]
            refine RegL.done_of (by kernel_rfl) ?_ _
            go_wp2_with fail
            go_ret
            exact ⟨rfl, _, (inv_lives HII.out (by have := HW.out; omega) i j _ HI.out HJ.out (by omega) (by have := HR3.out; omega) gc).more (Nat.le_refl _) (Nat.le_succ u), H9.out.less (fun a => by simp only [cnt_cons]; omega)⟩
        · by_cases k6 : kd = 6
          · subst k6
            obtain ⟨gi, X, y4, hV3, hL3, hback⟩ := H1.out.link i j HI.out HJ.out
            have CO := Lib.hid (lowe_calls hL3)
            have HB := Lib.hid hback
            have HV3 := Lib.hid hV3
            clear hV3 hL3 hback x1 k1 k2 k34 k5
            go_wp2_with fail
            refine CO.out.mono ?_; rintro e w2 ⟨rfl, h2⟩
            have hV : LkV { M.s i with asked := true } := ⟨HV3.out.c, HV3.out.g, HV3.out.l, HV3.out.row, HV3.out.by_⟩
            have H2 := Lib.hid (HB.out _ _ h2 hV).1
            clear h2 hV
            go_wp2_with fail
            go_ret
            exact ⟨rfl, _, (inv_owe HII.out i j HI.out HJ.out).more (Nat.le_succ t) (Nat.le_succ u), H2.out.less (fun a => by simp only [cnt_append, cnt_cons]; omega)⟩
          · have d1 : (kd == 1) = false := by rw [beq_eq_false_iff_ne]; exact k1
            have d2 : (kd == 2) = false := by rw [beq_eq_false_iff_ne]; exact k2
            have d3 : (kd == 3) = false := by rw [beq_eq_false_iff_ne]; omega
            have d4 : (kd == 4) = false := by rw [beq_eq_false_iff_ne]; omega
            have d5 : (kd == 5) = false := by rw [beq_eq_false_iff_ne]; exact k5
            have d6 : (kd == 6) = false := by rw [beq_eq_false_iff_ne]; exact k6
            clear x1 k1 k2 k34 k5 k6
            go_wp2_with fail
            go_ret
            exact ⟨rfl, _, HII.out.more (Nat.le_succ t) (Nat.le_succ u), H1.out.less (fun a => by simp only [cnt_cons]; omega)⟩
end Go.Proofs.YtoeiaimoppmjdaaDoor.Lk
/- A play as it comes in: what its cells say. -/
namespace Go.Proofs.YtoeiaimoppmjdaaDoor.Lk
open Go Go.ChangeShapes Go.WideShapes Go.RowKit Go.Deep Go.Proofs.YtoeiaimoppmjdaaDoorW.PrintWords Go.Proofs.YtoeiaimoppmjdaaDoor.OpnS Go.Proofs.YtoeiaimoppmjdaaDoor.Bytes Go.Proofs.YtoeiaimoppmjdaaDoor.Args
set_option linter.unusedVariables false
set_option linter.unusedSimpArgs false
abbrev KStep := Kd.pair KI (Kd.pair KI (Kd.pair KBy (Kd.pair KI KI)))
abbrev CStep := Int × Int × List Int × Int × Int
abbrev VStep (x : CStep) : Prop := (Lit.int .i64 x.1).wf = true ∧ (Lit.int .i64 x.2.1).wf = true ∧ WB x.2.2.1 ∧ (Lit.int .i64 x.2.2.2.1).wf = true ∧ (Lit.int .i64 x.2.2.2.2).wf = true
abbrev BStep (x : CStep) : Nat := 1 + (1 + ((sumB (fun _ => 1) x.2.2.1 + 1) + (1 + 1))) + 1
theorem opens_Step : Opens Tryd.prog 98 KStep VStep BStep := by
  have ho := opens_struct (P := Tryd.prog) Tryd.underlying98 (by kernel_rfl) (opensF_cons (opens_int Tryd.underlying3 (by kernel_rfl)) (opensF_cons (opens_int Tryd.underlying3 (by kernel_rfl)) (opensF_cons opens_bytes (opensF_cons (opens_int Tryd.underlying3 (by kernel_rfl)) (opensF_one (opens_int Tryd.underlying3 (by kernel_rfl))) rfl) rfl) rfl) rfl)
  exact ho
abbrev KPlay := Kd.pair KI (Kd.pair KI (Kd.slice 98 KStep))
theorem opens_Play : Opens Tryd.prog 77 KPlay
    (fun x => (Lit.int .i64 x.1).wf = true ∧ (Lit.int .i64 x.2.1).wf = true ∧ (∀ o, o ∈ x.2.2 → VStep o) ∧ x.2.2.length * Tryd.prog.bytesOf 98 ≤ reachBytes)
    (fun x => 1 + (1 + (sumB BStep x.2.2 + 1)) + 1) := by
  have ho := opens_struct (P := Tryd.prog) Tryd.underlying77 (by kernel_rfl) (opensF_cons (opens_int Tryd.underlying3 (by kernel_rfl)) (opensF_cons (opens_int Tryd.underlying3 (by kernel_rfl)) (opensF_one (opens_slice Tryd.underlying75 (by kernel_rfl) opens_Step)) rfl) rfl)
  exact ho
/-- A step of the list, as its cells say it. -/
structure StAt (w : World) (ad : Addr) (kd on : Int) (A : Option Addr) (c : Nat) (xs : List Int) (pick more : Int) : Prop where
  c0 : w.cell? ad = some (.int .i64 kd)
  c1 : w.cell? ⟨ad.block, ad.off + 1, none⟩ = some (.int .i64 on)
  c2 : w.cell? ⟨ad.block, ad.off + 2, none⟩ = some (.slice A xs.length c)
  c3 : w.cell? ⟨ad.block, ad.off + 3, none⟩ = some (.int .i64 pick)
  c4 : w.cell? ⟨ad.block, ad.off + 4, none⟩ = some (.int .i64 more)
  rd : ReadsOf I 0 w A xs.length xs
  byt : Byt xs
  len : xs.length ≤ 140737488351232
  on_ : I64 on
  pi_ : I64 pick
  mo_ : I64 more
theorem st_at {w : World} {A : Option Addr} {os : List CStep} {n : Nat} (h : KStep.C w A n os) (hv : ∀ o, o ∈ os → VStep o) (k : Nat) (hk : k < os.length) (hn : n = os.length) : ∃ ad kd on Ab cb xs pick more, A = some ad ∧ StAt w (ad.add (k * 5)) kd on Ab cb xs pick more := by
  subst hn
  obtain ⟨ad, cq, rfl, hlq, hKq, hcq⟩ := Kd.C_get h (0, 0, [], 0, 0) (k : Int) (by omega) (by omega)
  have hgq : os.getD (k : Int).toNat (0, 0, [], 0, 0) = os[k] := by rw [Int.toNat_natCast, List.getD_eq_getElem?_getD, List.getElem?_eq_getElem hk]; rfl
  rw [hgq] at hKq
  rw [Int.toNat_natCast] at hcq
  have hvo := hv _ (List.getElem_mem hk)
  obtain ⟨q, hq⟩ : ∃ q, q = os[k] := ⟨_, rfl⟩
  rw [← hq] at hKq hvo
  obtain ⟨k0, k1, xs, k3, k4⟩ := q
  obtain ⟨_, _, rfl, rfl, _, _, rfl, rfl, _, _, rfl, ⟨Ab, cb, rfl, hcap, hb⟩, _, _, rfl, rfl, rfl⟩ := hKq
  refine ⟨ad, k0, k1, Ab, cb, xs, k3, k4, rfl, hcq 0 _ rfl, ?_, ?_, ?_, ?_, Args.by_reads hb, wb_byt hvo.2.2.1, wb_len hvo.2.2.1, in64 hvo.2.1, in64 hvo.2.2.2.1, in64 hvo.2.2.2.2⟩
  · rw [← add_field _ _ 1 (by omega)]; exact hcq 1 _ rfl
  · rw [← add_field _ _ 2 (by omega)]; exact hcq 2 _ rfl
  · rw [← add_field _ _ 3 (by omega)]; exact hcq 3 _ rfl
  · rw [← add_field _ _ 4 (by omega)]; exact hcq 4 _ rfl
theorem StAt.below {w w1 : World} {ad : Addr} {kd on : Int} {A : Option Addr} {c : Nat} {xs : List Int} {pick more : Int} (h : StAt w ad kd on A c xs pick more) (hb : Below w.heap.size w w1) : StAt w1 ad kd on A c xs pick more :=
  ⟨pw_cell_below hb h.c0, pw_cell_below hb h.c1, pw_cell_below hb h.c2, pw_cell_below hb h.c3, pw_cell_below hb h.c4, h.rd.below hb, h.byt, h.len, h.on_, h.pi_, h.mo_⟩
end Go.Proofs.YtoeiaimoppmjdaaDoor.Lk
/- LinkSessions: whatever is played, each step answers as it must. -/
namespace Go.Proofs.YtoeiaimoppmjdaaDoor.Lk
open Go.RowKit Go.Proofs.YtoeiaimoppmjdaaDoorW.PrintWords Go.Proofs.YtoeiaimoppmjdaaDoor.Mem Go.Proofs.YtoeiaimoppmjdaaDoor.Wr Go.Proofs.YtoeiaimoppmjdaaDoor.Bytes Go.Proofs.YtoeiaimoppmjdaaDoor.App Go.Proofs.YtoeiaimoppmjdaaDoor.Args
set_option linter.unusedVariables false
set_option linter.unusedSimpArgs false
/-- Two links that know nothing, no frames, no sessions. -/
def M0 (win most : Int) (c0 c1 : Nat) : PM := ⟨fun _ => 1, fun i => if i = 0 then ls0 0 5 1 win c0 most else ls0 5 0 1 win c1 most, [], fun _ => []⟩
theorem inv_start (win most : Int) (hwin : 0 ≤ win) (c0 c1 : Nat) : Inv win most 0 0 (M0 win most c0 c1) := by
  refine ⟨fun i j hi hj => ?_, fun x hx => (by cases hx), Nat.le_refl _⟩
  rcases (show i = 0 ∧ j = 1 ∨ i = 1 ∧ j = 0 by omega) with ⟨rfl, rfl⟩ | ⟨rfl, rfl⟩
  · exact ⟨rfl, rfl, rfl, rfl, rfl, Nat.le_refl _, Nat.le_refl _, Nat.zero_le _, fun x hx => (by cases hx), fun x hx => (by cases hx), Nat.le_refl _, fun h => absurd rfl h, fun h => absurd rfl h, fun h => absurd rfl h, fun _ => ⟨rfl, rfl, rfl⟩, Nat.le_refl _, Nat.le_refl _, (by show (0 : Int) ≤ 0 + win; omega), Nat.le_refl _, Nat.le_refl _, fun h => (by cases h), fun h => (by cases h)⟩
  · exact ⟨rfl, rfl, rfl, rfl, rfl, Nat.le_refl _, Nat.le_refl _, Nat.zero_le _, fun x hx => (by cases hx), fun x hx => (by cases hx), Nat.le_refl _, fun h => absurd rfl h, fun h => absurd rfl h, fun h => absurd rfl h, fun _ => ⟨rfl, rfl, rfl⟩, Nat.le_refl _, Nat.le_refl _, (by show (0 : Int) ≤ 0 + win; omega), Nat.le_refl _, Nat.le_refl _, fun h => (by cases h), fun h => (by cases h)⟩
theorem pt_start {w0 W : World} {R : List Ent} {gp g0 g1 c0 c1 : Nat} {win most : Int} (hm : 1 ≤ most ∧ most ≤ 64) (h : St w0 W (B gp (pC (p2 win most g0 g1)) 86 :: (lkE g1 (ls0 5 0 1 win c1 most) ++ (lkE g0 (ls0 0 5 1 win c0 most) ++ R)))) : PT w0 R gp win most (M0 win most c0 c1) W := by
  refine ⟨p2 win most g0 g1, fun i => if i = 0 then g0 else g1, rfl, rfl, ?_, sentV_nil, h.re (fun x => ?_)⟩
  · intro i hi
    rcases (show i = 0 ∨ i = 1 by omega) with rfl | rfl
    · exact ⟨rfl, rfl, ls0V _ _ _ _ _ _ hm, sesV_nil⟩
    · exact ⟨rfl, rfl, ls0V _ _ _ _ _ _ hm, sesV_nil⟩
  · show cnt x (B gp (pC (p2 win most g0 g1)) 86 :: (lkE g0 (ls0 0 5 1 win c0 most) ++ (lkE g1 (ls0 5 0 1 win c1 most) ++ (sentE NL [] ++ (sesE NL [] ++ (sesE NL [] ++ R)))))) ≤ _
    rw [sentE_nil, sesE_nil]
    simp only [cnt_append, cnt_cons, cnt_nil]; omega
set_option maxRecDepth 20000 in
set_option maxHeartbeats 3200000 in
theorem sessions_walk (w : World) (a b : Int) (A : Option Addr) (os : List CStep) (c : Nat) (ha : -9223372036854775808 ≤ a ∧ a ≤ 9223372036854775807) (hb : -9223372036854775808 ≤ b ∧ b ≤ 9223372036854775807) (hS : KStep.C w A os.length os) (hv : ∀ o, o ∈ os → VStep o) (hl : os.length ≤ 140737488355328) (ht : ErrTab w) (hz : 0 < w.heap.size) :
    Calls Tryd.prog 11 #[.agg #[.int .i64 a, .int .i64 b, .slice A os.length c]] w fun e w' => e = .returned (.bool true) ∧ Below w.heap.size w w' := by
  obtain ⟨ac, hac⟩ : ∃ ac : Array Value, ac = #[.int .i64 a, .int .i64 b, .slice A os.length c] := ⟨_, rfl⟩
  have h1 := (St.start w).newB #[.int .i64 a, .int .i64 b, .slice A os.length c] 77
  obtain ⟨W1, hW1⟩ : ∃ W1, W1 = w.alloc (.cells #[.int .i64 a, .int .i64 b, .slice A os.length c] 77) := ⟨_, rfl⟩
  obtain ⟨bt, hbt⟩ : ∃ bt, bt = w.heap.size := ⟨_, rfl⟩
  rw [← hW1, ← hbt, ← hac] at h1
  have x0 : W1.cell? ⟨bt, 0, none⟩ = some (.int .i64 a) := h1.cellOf (g := bt) (cs := ac) (t := 77) (by simp) 0 (by rw [hac]; rfl)
  have x1 : W1.cell? ⟨bt, 1, none⟩ = some (.int .i64 b) := h1.cellOf (g := bt) (cs := ac) (t := 77) (by simp) 1 (by rw [hac]; rfl)
  have HA2 : Hid (ac[2]? = some (.slice A os.length c)) := by show _ = _; rw [hac]; rfl
  have CP := Lib.hid (paired_calls a b h1 ha hb)
  obtain ⟨n, hn⟩ : ∃ n, n = os.length := ⟨_, rfl⟩
  have HW1 := Lib.hid hW1
  have HBT := Lib.hid hbt
  have HT := Lib.hid ht
  have HZ := Lib.hid hz
  have HS := Lib.hid hS
  have HV := Lib.hid hv
  have HL := Lib.hid hl
  have HN := Lib.hid hn
  obtain ⟨win, hwin⟩ : ∃ win, win = 1 + a % 5 := ⟨_, rfl⟩
  obtain ⟨most, hmost⟩ : ∃ most, most = 1 + b % 16 := ⟨_, rfl⟩
  have HM : Hid (1 ≤ most ∧ most ≤ 64) := ⟨by have := Int.emod_nonneg b (b := 16) (by omega); omega, by have := Int.emod_lt_of_pos b (b := 16) (by omega); omega⟩
  have HWI : Hid (1 ≤ win ∧ win ≤ 5) := ⟨by have := Int.emod_nonneg a (b := 5) (by omega); omega, by have := Int.emod_lt_of_pos a (b := 5) (by omega); omega⟩
  rw [← hwin, ← hmost] at CP
  rw [← hn] at HA2 ⊢
  have HW1 : Hid (W1 = w.alloc (.cells #[.int .i64 a, .int .i64 b, .slice A n c] 77)) := by show _ = _; rw [hn]; exact HW1.out
  clear h1 ha hb hW1 hbt ht hz hwin hmost hac hS hv hl hn
  go_enter Tryd.func11, Tryd.ntmps11
  go_upto_region 1 with fail
  rw [← HW1.out, ← HBT.out]
  go_wp2_with fail
  refine CP.out.mono ?_; rintro e w2 ⟨gp, g0, c0, g1, c1, rfl, h2⟩
  have hpt := pt_start HM.out h2
  obtain ⟨R, hR⟩ : ∃ R, R = [B bt ac 77] := ⟨_, rfl⟩
  have HRM : Hid (B bt ac 77 ∈ R) := by show _ ∈ _; rw [hR]; simp
  rw [← hR] at hpt
  have CB := Lib.hid (begun_calls w2 (HT.out.below hpt.bl HZ.out) (Nat.lt_of_lt_of_le HZ.out hpt.bl.size))
  have HP := Lib.hid hpt
  clear CP h2 hpt hR x0 x1
  go_wp2_with fail
  refine CB.out.mono ?_; rintro e w3 ⟨rfl, hb3⟩
  have HP3 := Lib.hid (HP.out.below hb3)
  clear hb3 CB HP
  go_wp2_with fail
  go_loopg [4] 800 (fun gk s4 wr => ∃ k : Nat, gk = 800 - k ∧ k ≤ n ∧ k ≤ 800 ∧ s4 = .int .i64 k ∧ ∃ M, Inv win most k k M ∧ PT w R gp win most M wr)
  case atStart => exact ⟨0, rfl, Nat.zero_le _, Nat.zero_le _, rfl, _, inv_start win most (by have := HWI.out; omega) c0 c1, HP3.out⟩
  case round =>
    obtain ⟨k, hgk, hk, hk8, rfl, M, hI, hP⟩ := hrel
    have x2 : wr.cell? ⟨bt, 2, none⟩ = some (.slice A n c) := hP.cell HRM.out 2 HA2.out
    have HGK := Lib.hid hgk
    have HI := Lib.hid hI
    have HQ := Lib.hid hP
    clear hgk hI hP
    have k0 : (0 : Int) ≤ (k : Int) := by omega
    by_cases hlt : k < n ∧ k < 800
    · have k1 : (k : Int) < (n : Int) := by omega
      have k2 : (k : Int) < 800 := by omega
      obtain ⟨ad, kd, on, Ab, cb, xs, pick, more, hA, hst⟩ := st_at HS.out HV.out k (by rw [← HN.out]; exact hlt.1) rfl
      subst hA
      have hsw := hst.below HQ.out.bl
      have z0 := hsw.c0
      have z1 := hsw.c1
      have z2 := hsw.c2
      have z3 := hsw.c3
      have z4 := hsw.c4
      have CS := Lib.hid (step_calls HI.out HQ.out (by omega) (by omega) HWI.out HM.out kd on pick more xs Ab cb hst.rd hst.byt (by have := hst.len; omega) hst.on_ hst.pi_ hst.mo_ HT.out HZ.out)
      have HLT := Lib.hid hlt
      clear hst hsw hlt
      go_wp2_with fail
      refine CS.out.mono ?_; rintro e w4 ⟨rfl, M', hI', hP'⟩
      have H4 := Lib.hid (And.intro hI' hP')
      clear hI' hP' CS z0 z1 z2 z3 z4 x2
      go_wp2_with fail
      go_roundg (800 - (k + 1))
      case rel => exact ⟨k + 1, rfl, by have := HLT.out; omega, by have := HLT.out; omega, by go_num, M', H4.out.1, H4.out.2⟩
      case measure => have := HLT.out; have := HGK.out; omega
    · have CB := Lib.hid (begun_calls wr (HT.out.below HQ.out.bl HZ.out) (Nat.lt_of_lt_of_le HZ.out HQ.out.bl.size))
      by_cases hkn : k < n
      · have k1 : (k : Int) < (n : Int) := by omega
        have k2 : ¬ (k : Int) < 800 := by omega
        clear hlt hkn
        go_wp2_with fail
        refine CB.out.mono ?_; rintro e w9 ⟨rfl, hb9⟩
        have HE := Lib.hid (HQ.out.bl.trans (hb9.mono HQ.out.bl.size))
        clear hb9
        go_wp2_with fail
        go_ret
        exact ⟨rfl, HE.out⟩
      · have k1 : ¬ (k : Int) < (n : Int) := by omega
        clear hlt hkn
        go_wp2_with fail
        refine CB.out.mono ?_; rintro e w9 ⟨rfl, hb9⟩
        have HE := Lib.hid (HQ.out.bl.trans (hb9.mono HQ.out.bl.size))
        clear hb9
        go_wp2_with fail
        go_ret
        exact ⟨rfl, HE.out⟩
end Go.Proofs.YtoeiaimoppmjdaaDoor.Lk
/- LinkSessions over the form's reading. -/
namespace Go.Proofs.YtoeiaimoppmjdaaDoor.LinkSessions
open Go Go.ChangeShapes Go.WideShapes Go.RowKit Go.Deep Go.Proofs.YtoeiaimoppmjdaaDoorW.PrintWords Go.Proofs.YtoeiaimoppmjdaaDoor.OpnS Go.Proofs.YtoeiaimoppmjdaaDoor.Args Go.Proofs.YtoeiaimoppmjdaaDoor.Lk
set_option linter.unusedVariables false
set_option linter.unusedSimpArgs false
theorem few {n b : Nat} (h : n * b ≤ reachBytes) (hb : 1 ≤ b) : n ≤ 140737488355328 := by
  have h1 : n * 1 ≤ n * b := Nat.mul_le_mul_left n hb
  have h2 : reachBytes ≤ 140737488355328 := by decide
  omega
set_option maxRecDepth 20000 in
theorem contract {H : Type} {enc : TypeId × Value → H} (W : World) (base : Nat) (v0 : Value) (d0 : DataW H) (p0 : List MemPlace) (hok : Value.okWide Tryd.prog W .any base 77 v0)
    (h0 : DataW.Trod enc Tryd.prog W 0 (fun _ => true) true 77 v0 d0 p0) (hlt : ∀ x ∈ p0, x.block < W.heap.size) (hsz : (DataW.weightsEach Tryd.prog [77] [d0]).all (· ≤ reachBytes) = true)
    (hL : laidMetH Tryd.prog [("till/code.errnos", Rows.laid_till_code_errnos)] W) :
    Calls Tryd.prog 11 #[v0] W fun e W' => e = .returned (.bool true) ∧ Below W.heap.size W W' := by
  obtain ⟨⟨a, b, os⟩, cs, rfl, ⟨c1, c2, hcs, hK1, ⟨c3, c4, rfl, hK2, hK3⟩⟩, ⟨ha, hb, hvs, hls⟩, hB⟩ := open_arg Tryd.underlying77 opens_Play hok h0 hsz
  obtain ⟨A1, n1, rfl, _, hC1⟩ := hK3
  obtain rfl : c1 = [Value.int .i64 a] := hK1
  obtain rfl : c3 = [Value.int .i64 b] := hK2
  obtain rfl : cs = #[.int .i64 a, .int .i64 b, .slice A1 os.length n1] := by
    cases cs; simp at hcs; rw [hcs]
  have hb1 : 1 ≤ Tryd.prog.bytesOf 98 := by
    have : (Nat.ble 1 (Tryd.prog.bytesOf 98)) = true := by kernel_rfl
    exact Nat.le_of_ble_eq_true this
  obtain ⟨ht, hz⟩ := Wr.errtab hL
  exact sessions_walk W a b A1 os n1 (in64 ha) (in64 hb) hC1 hvs (few hls hb1) ht hz
end Go.Proofs.YtoeiaimoppmjdaaDoor.LinkSessions
