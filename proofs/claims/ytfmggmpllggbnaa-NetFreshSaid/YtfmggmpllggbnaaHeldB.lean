/- held: the stage seen from one of its two places. -/
import Derived.Test.YtfmggmpllggbnaaHeldA
namespace Go.Proofs.Ytfmggmpllggbnaa.RNet
open Go.RowKit Go.Proofs.YtfmggmpllggbnaaW.PrintWords Go.Proofs.Ytfmggmpllggbnaa.Net Go.Proofs.Ytfmggmpllggbnaa.Mem
open Go.Proofs.Ytfmggmpllggbnaa.Late (gotE gotP LI lateE LateV LateAdd add_calls)
open Go.Proofs.Ytfmggmpllggbnaa.Book (BkS BkV bkE bkC NL rowV_form)
set_option linter.unusedVariables false
set_option linter.unusedSimpArgs false
def sel (k : Nat) (s0 s1 : Option Sd) : Option Sd := if k = 0 then s0 else s1
def nsel (k : Nat) (s0 s1 : Option Sd) : Option Sd := if k = 0 then s1 else s0
theorem sel_cnt (k : Nat) (s0 s1 : Option Sd) (x : Ent) : cnt x (plE (sel k s0 s1)) + cnt x (plE (nsel k s0 s1)) = cnt x (plE s0) + cnt x (plE s1) := by
  unfold sel nsel; split <;> omega
theorem stg_n (b : Nat) (m : Bool) (k : Nat) (hk : k < 2) (s0 s1 : Option Sd) : (stg b m s0 s1)[k]? = some (plN (sel k s0 s1)) := by
  have : k = 0 ∨ k = 1 := by omega
  rcases this with rfl | rfl <;> rfl
theorem stg_m (b : Nat) (m : Bool) (k : Nat) (hk : k < 2) (s0 s1 : Option Sd) : (stg b m s0 s1)[2 + k]? = some (plM (sel k s0 s1)) := by
  have : k = 0 ∨ k = 1 := by omega
  rcases this with rfl | rfl <;> rfl
theorem plV_sel {N k : Nat} {s0 s1 : Option Sd} (h0 : plV N s0) (h1 : plV N s1) : plV N (sel k s0 s1) := by
  unfold sel; split <;> assumption
/-- A place's nets, written anew. -/
theorem sel_put {N b : Nat} {m : Bool} {k : Nat} (hk : k < 2) {s0 s1 : Option Sd} {s s' : Sd} (hs : sel k s0 s1 = some s) (hg : s'.g = s.g) (hh : s'.h = s.h) (h0 : plV N s0) (h1 : plV N s1) (h' : plV N (some s')) :
    ∃ s0' s1' : Option Sd, plV N s0' ∧ plV N s1' ∧ stg b m s0' s1' = stg b m s0 s1 ∧ sel k s0' s1' = some s' ∧ ∀ x, cnt x (plE s0') + cnt x (plE s1') = cnt x (sdE s') + cnt x (plE (nsel k s0 s1)) := by
  have : k = 0 ∨ k = 1 := by omega
  rcases this with rfl | rfl
  · obtain rfl : s0 = some s := hs
    exact ⟨some s', s1, h', h1, by simp [plN, plM, hg, hh], rfl, fun x => rfl⟩
  · obtain rfl : s1 = some s := hs
    exact ⟨s0, some s', h0, h', by simp [plN, plM, hg, hh], rfl, fun x => by show cnt x (plE s0) + cnt x (sdE s') = _ + cnt x (plE s0); omega⟩
/-- Is the call no Send, or is there no net? -/
def tstB (d : Int) (o : Option Sd) : Bool := d != 1 || o.isNone
theorem tstB_ne {d : Int} {o : Option Sd} (h : d ≠ 1) : tstB d o = true := by simp [tstB, h]
theorem tstB_none : tstB 1 none = true := rfl
theorem tstB_some (s : Sd) : tstB 1 (some s) = false := rfl
/-- Where a Send is to come: the call is one, and there are nets. -/
theorem tstB_false {d : Int} {o : Option Sd} (h : tstB d o = false) : d = 1 ∧ ∃ s, o = some s := by
  unfold tstB at h
  cases o with
  | none => simp at h
  | some s => exact ⟨by simpa using h, s, rfl⟩
/-- What held holds of memory, behind the stage. -/
def hE (lt p b bs : Nat) (sc : Array Value) (gv wv : Value) (l : List LI) (po : Option PS) (ov : Value) (ol : List ON) (R : List Ent) : List Ent :=
  lateE lt gv wv l ++ (plcO p po ++ (othE ov ol ++ (B b (bkC bk0) 107 :: B bs sc 48 :: R)))
/-- Ahead of a call of the script. -/
def HRel (w0 : World) (t b lt p bs : Nat) (sc : Array Value) (R : List Ent) (q : Nat) (ov : Value) (wr : World) : Prop :=
  ∃ (s0 s1 : Option Sd) (gv wv : Value) (l : List LI) (po : Option PS) (ol : List ON), plV (9000 * q) s0 ∧ plV (9000 * q) s1 ∧ LateV gv wv l ∧ l.length ≤ 4 * q ∧ PlcOV po ∧ OthV ov ol ∧ 8 * ol.length ≤ q + 2 ∧
    St w0 wr (B t (stg b false s0 s1) 112 :: (plE s0 ++ (plE s1 ++ hE lt p b bs sc gv wv l po ov ol R)))
/-- Within it: behind the call, and behind j looks. -/
def HMid (w0 : World) (t b lt p bs bo : Nat) (sc oc : Array Value) (R : List Ent) (q j : Nat) (ov : Value) (ol : List ON) (wr : World) : Prop :=
  ∃ (s0 s1 : Option Sd) (gv wv : Value) (l : List LI) (po : Option PS), plV (9000 * (q + 1)) s0 ∧ plV (9000 * (q + 1)) s1 ∧ LateV gv wv l ∧ l.length ≤ 4 * q + 2 * j ∧ PlcOV po ∧
    St w0 wr (B bo oc 116 :: B t (stg b false s0 s1) 112 :: (plE s0 ++ (plE s1 ++ hE lt p b bs sc gv wv l po ov ol R)))
end Go.Proofs.Ytfmggmpllggbnaa.RNet
