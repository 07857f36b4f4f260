/- Contracts of the stage: fresh, told (nothing is kept of what is told), fills. -/
import Derived.Test.YtfmggmpllggbnaaStage
namespace Go.Proofs.Ytfmggmpllggbnaa.RNet
open Go.RowKit Go.Proofs.YtfmggmpllggbnaaW.PrintWords Go.Proofs.Ytfmggmpllggbnaa.Net Go.Proofs.Ytfmggmpllggbnaa.Mem
set_option linter.unusedVariables false
set_option linter.unusedSimpArgs false
theorem tell_length (rs : List RM) : (tell rs).length = rs.length := by simp [tell]
theorem tell_append (rs : List RM) (m : RM) : tell (rs ++ [m]) = tell rs ++ [(m.1, strOfNums m.2.2)] := by simp [tell]
theorem tell_erase (rs : List RM) (i : Nat) : tell (rs.eraseIdx i) = (tell rs).eraseIdx i := by
  induction rs generalizing i with
  | nil => rfl
  | cons r rs ih =>
    cases i with
    | zero => rfl
    | succ i => simp only [tell, List.eraseIdx_cons_succ, List.map_cons] at ih ⊢; rw [ih]
theorem tell_get (rs : List RM) (i : Nat) (h : i < rs.length) (h' : i < (tell rs).length) : (tell rs)[i] = ((rs[i]).1, strOfNums (rs[i]).2.2) := by simp [tell]
/-- One place of the stage: the program's net and the document's, over the same messages. -/
structure Sd where
  g : Nat
  h : Nat
  v : Value
  vr : Value
  room : Int
  lost : Nat
  rs : List RM
def sdE (s : Sd) : List Ent := netE s.g s.v s.room s.lost (tell s.rs) ++ rnetE s.h s.vr s.room s.lost s.rs
structure SdV (s : Sd) : Prop where
  nv : netV s.v (tell s.rs)
  rv : rnetV s.vr s.rs
  r1 : 1 ≤ s.room
  r2 : s.room ≤ 8192
  len : (s.rs.length : Int) ≤ s.room
  by_ : ∀ r, r ∈ s.rs → Byt r.2.2 ∧ r.2.2.length ≤ 4096
/-- What a call on that place leaves. -/
def Aft (w0 : World) (F R : List Ent) (s : Sd) (d : Nat) (W' : World) : Prop := ∃ s' : Sd, SdV s' ∧ s'.g = s.g ∧ s'.h = s.h ∧ s'.room = s.room ∧ s'.lost ≤ s.lost + d ∧ St w0 W' (F ++ (sdE s' ++ R))
abbrev opCells (d wh a tt : Int) (A : Option Addr) (n c : Nat) : Array Value := #[.int .i64 d, .int .i64 wh, .int .i64 a, .int .i64 tt, .slice A n c]
/-- A message sent through both. -/
theorem both_room {s : Sd} (hV : SdV s) (tt : Int) {xs : List Int} (u v' vr' : Value) (hx : Byt xs) (hl : xs.length ≤ 4096) (hr : (s.rs.length : Int) < s.room) (n1 : netV v' (tell s.rs ++ [(tt, strOfNums xs)])) (n2 : rnetV vr' (s.rs ++ [(tt, u, xs)])) :
    SdV { s with v := v', vr := vr', rs := s.rs ++ [(tt, u, xs)] } :=
  ⟨by rw [← tell_append s.rs (tt, u, xs)] at n1; exact n1, n2, hV.r1, hV.r2, by simp; omega, fun r hr => by
    rcases List.mem_append.1 hr with h | h
    · exact hV.by_ r h
    · obtain rfl := List.mem_singleton.1 h; exact ⟨hx, hl⟩⟩
theorem two_reads {W : World} {g : Nat} {a b : Int} (h : W.heap[g]? = some (.cells #[.int .u8 a, .int .u8 b] 5 (0, 0))) : ReadsOf U 0 W (some ⟨g, 0, none⟩) 2 [a, b] :=
  ⟨rfl, by omega, fun _ => ⟨_, rfl, fun j hj => by
    rw [add_plain, cell_of_row W g j _ _ _ h]
    have : j = 0 ∨ j = 1 := by omega
    rcases this with rfl | rfl <;> rfl⟩⟩
set_option maxRecDepth 20000 in
set_option maxHeartbeats 3200000 in
theorem fills_calls (w0 W : World) (R : List Ent) (t k : Nat) (cs : Array Value) (s : Sd) (d wh a tt : Int) (A : Option Addr) (n c : Nat) (H : St w0 W (B t cs 112 :: (sdE s ++ R))) (hV : SdV s) (hl : s.lost ≤ 1099511627776) (hk : k < 2)
    (hc0 : cs[k]? = some (pt s.g)) (hc1 : cs[2 + k]? = some (pt s.h)) (ha : -9223372036854775808 ≤ a) (ha' : a ≤ 9223372036854775807) :
    Calls Try.prog 61 #[pt t, .int .i64 k, .agg (opCells d wh a tt A n c)] W fun e W' => e = .returned (.bool true) ∧ Aft w0 [B t cs 112] R s 9000 W' := by
  obtain ⟨W1, hW1⟩ : ∃ W1, W1 = W.alloc (.cells (opCells d wh a tt A n c) 116) := ⟨_, rfl⟩
  have h1 := H.newB (opCells d wh a tt A n c) 116
  rw [← hW1] at h1
  have HS := Lib.hid h1
  have HW1 := Lib.hid hW1
  have HV := Lib.hid hV
  have HC0 := Lib.hid hc0
  have HC1 := Lib.hid hc1
  have CI := fun W' => Lib.hid (into_gen a 9000 W' (by omega) (by omega) ha ha')
  obtain ⟨m, hm⟩ : ∃ m : Nat, (m : Int) = a % 9000 := ⟨(a % 9000).toNat, by omega⟩
  have hm9 : m < 9000 := by omega
  rw [← hm] at CI
  obtain ⟨bo, hbo⟩ : ∃ bo, bo = W.heap.size := ⟨_, rfl⟩
  rw [← hbo] at HS
  clear h1 hW1 H hV hc0 hc1 ha ha' hm
  go_enter Try.func61, Try.ntmps61
  go_wp2_with fail
  rw [← HW1.out]
  rw [← hbo]
  clear hbo
  go_loopw [7] (fun i wr => ∃ q : Nat, i = .int .i64 q ∧ q ≤ m ∧ Aft w0 [B bo (opCells d wh a tt A n c) 116, B t cs 112] R s q wr) (fun i _ => m - (intOf i).toNat)
  case atStart => exact ⟨0, rfl, by omega, s, HV.out, rfl, rfl, rfl, Nat.le_refl _, HS.out⟩
  case round =>
    obtain ⟨q, rfl, hq, s1, hV1, e1, e2, e3, hl1, hs1⟩ := hrel
    have x0 := hs1.cellOf (g := bo) (cs := opCells d wh a tt A n c) (t := 116) (by simp) 2 rfl
    have HS1 := Lib.hid hs1
    have HV1 := Lib.hid hV1
    have E1 := Lib.hid e1
    have E2 := Lib.hid e2
    have E3 := Lib.hid e3
    have HL1 := Lib.hid hl1
    clear hs1 hV1 e1 e2 e3 hl1
    by_cases hlt : q < m
    · obtain ⟨p, hp⟩ : ∃ p : Int, p = (q : Int) % 256 := ⟨_, rfl⟩
      obtain ⟨p2, hp2⟩ : ∃ p2 : Int, p2 = (q : Int) / 256 := ⟨_, rfl⟩
      have hq1 : (q : Int) ≤ 9000 := by omega
      have q1 : (q : Int) % 256 = p := hp.symm
      have q2 : (q : Int) / 256 = p2 := hp2.symm
      have q3 : p2 ≤ 255 := by omega
      have q4 : 0 ≤ p2 := by omega
      have HP : Hid (0 ≤ p ∧ p ≤ 255) := by constructor <;> omega
      clear hp hp2
      go_wp2_with fail
      refine (CI _).out.mono ?_; rintro e w1 ⟨rfl, rfl⟩
      go_wp2_with fail
      obtain ⟨W2, hW2⟩ : ∃ W2, W2 = w1.alloc (.cells #[.int .u8 p, .int .u8 p2] 5) := ⟨_, rfl⟩
      obtain ⟨gb, hgb⟩ : ∃ gb, gb = w1.heap.size := ⟨_, rfl⟩
      have hs2 := HS1.out.newB #[.int .u8 p, .int .u8 p2] 5
      rw [← hW2, ← hgb] at hs2
      rw [← hW2, ← hgb]
      have hs3 := hs2.drew
      have c0 : cs[k]? = some (pt s1.g) := by rw [E1.out]; exact HC0.out
      have c1 : cs[2 + k]? = some (pt s1.h) := by rw [E2.out]; exact HC1.out
      have C0 := Lib.hid c0
      have C1 := Lib.hid c1
      have y1 := hs2.cellOf (g := t) (cs := cs) (t := 112) (by simp) k c0
      have y2 := hs2.cellOf (g := t) (cs := cs) (t := 112) (by simp) (2 + k) c1
      have y3 := hs2.cellOf (g := bo) (cs := opCells d wh a tt A n c) (t := 116) (by simp) 3 rfl
      have k1 : (0 : Int) ≤ (k : Int) := by omega
      have k2 : (k : Int) < 2 := by omega
      have hby : Byt [p, p2] := by have := HP.out; intro x hx; simp at hx; rcases hx with rfl | rfl <;> omega
      have hrd := two_reads (hs3.blk (g := gb) (cs := #[.int .u8 p, .int .u8 p2]) (t := 5) (by simp))
      have hs3' := hs3.re (M := netE s1.g s1.v s1.room s1.lost (tell s1.rs) ++ (rnetE s1.h s1.vr s1.room s1.lost s1.rs ++ (B gb #[.int .u8 p, .int .u8 p2] 5 :: B bo (opCells d wh a tt A n c) 116 :: B t cs 112 :: R))) (fun x => by simp only [sdE, cnt_append, cnt_cons, cnt_nil]; omega)
      by_cases hr : (s1.rs.length : Int) < s1.room
      · have CA := Lib.hid (nsendR tt _ 2 2 [p, p2] hrd hs3' HV1.out.nv (by rw [tell_length]; exact hr) HV1.out.r2)
        have CB : Hid (∀ w3 v3, St w0 w3 (netE s1.g v3 s1.room s1.lost (tell s1.rs ++ [(tt, strOfNums [p, p2])]) ++ (rnetE s1.h s1.vr s1.room s1.lost s1.rs ++ (B gb #[.int .u8 p, .int .u8 p2] 5 :: B bo (opCells d wh a tt A n c) 116 :: B t cs 112 :: R))) → Calls Try.prog 43 #[pt s1.h, .int .i64 tt, .slice (some ⟨gb, 0, none⟩) 2 2] w3 fun e w' => e = .returned (.bool true) ∧ ∃ v' u, rnetV v' (s1.rs ++ [(tt, u, [p, p2])]) ∧ St w0 w' (rnetE s1.h v' s1.room s1.lost (s1.rs ++ [(tt, u, [p, p2])]) ++ (netE s1.g v3 s1.room s1.lost (tell s1.rs ++ [(tt, strOfNums [p, p2])]) ++ (B gb #[.int .u8 p, .int .u8 p2] 5 :: B bo (opCells d wh a tt A n c) 116 :: B t cs 112 :: R)))) := fun w3 v3 h3 =>
          msendR tt (some ⟨gb, 0, none⟩) 2 [p, p2] (two_reads (h3.blk (g := gb) (cs := #[.int .u8 p, .int .u8 p2]) (t := 5) (by simp))) (by simp) (h3.re (fun x => by simp only [sdE, cnt_append, cnt_cons, cnt_nil]; omega)) HV1.out.rv hr HV1.out.r2
        have HR := Lib.hid hr
        have HBY := Lib.hid hby
        clear hs2 hs3 hs3' hrd hW2 hgb c0 c1 hr hby
        go_region_law (first
          | (go_simp; go_at_call 25; refine CA.out.mono ?_; rintro e w3 ⟨rfl, v3, hn3, hs3⟩; have z1 := hs3.cellOf (g := t) (cs := cs) (t := 112) (by simp) k C0.out; have z2 := hs3.cellOf (g := t) (cs := cs) (t := 112) (by simp) (2 + k) C1.out; have z3 := hs3.cellOf (g := bo) (cs := opCells d wh a tt A n c) (t := 116) (by simp) 3 rfl; have HS3 := Lib.hid hs3; have HN3 := Lib.hid hn3; clear hs3 hn3)
          | (go_simp; go_at_call 43; refine (CB.out w3 v3 HS3.out).mono ?_; rintro e w4 ⟨rfl, v4, u4, hn4, hs4⟩; have HS4 := Lib.hid hs4; have HN4 := Lib.hid hn4; clear hs4 hn4))
        all_goals (go_wp2_with fail; exact ⟨⟨q + 1, by go_num, by omega, { s1 with v := v3, vr := v4, rs := s1.rs ++ [(tt, u4, [p, p2])] }, both_room HV1.out tt u4 v3 v4 HBY.out (by simp) HR.out HN3.out HN4.out, E1.out, E2.out, E3.out, by have := HL1.out; simp only; omega, HS4.out.re (fun x => by simp only [sdE, tell_append, cnt_append, cnt_cons, cnt_nil]; omega)⟩, by simp [intOf]; omega⟩)
      · have hr' : s1.room ≤ (s1.rs.length : Int) := by omega
        have hlo : s1.lost < 18446744073709551615 := by have := HL1.out; omega
        have CA := Lib.hid (nsendF tt _ 2 2 [p, p2] hrd hs3' HV1.out.nv (by rw [tell_length]; exact hr') hlo)
        have CB : Hid (∀ w3, St w0 w3 (netE s1.g s1.v s1.room (s1.lost + 1) (tell s1.rs) ++ (rnetE s1.h s1.vr s1.room s1.lost s1.rs ++ (B gb #[.int .u8 p, .int .u8 p2] 5 :: B bo (opCells d wh a tt A n c) 116 :: B t cs 112 :: R))) → Calls Try.prog 43 #[pt s1.h, .int .i64 tt, .slice (some ⟨gb, 0, none⟩) 2 2] w3 fun e w' => e = .returned (.bool false) ∧ St w0 w' (rnetE s1.h s1.vr s1.room (s1.lost + 1) s1.rs ++ (netE s1.g s1.v s1.room (s1.lost + 1) (tell s1.rs) ++ (B gb #[.int .u8 p, .int .u8 p2] 5 :: B bo (opCells d wh a tt A n c) 116 :: B t cs 112 :: R)))) := fun w3 h3 =>
          msendF tt _ (h3.re (fun x => by simp only [sdE, cnt_append, cnt_cons, cnt_nil]; omega)) HV1.out.rv hr' hlo
        clear hs2 hs3 hs3' hrd hW2 hgb c0 c1 hr hby hr' hlo
        go_region_law (first
          | (go_simp; go_at_call 25; refine CA.out.mono ?_; rintro e w3 ⟨rfl, hs3⟩; have z1 := hs3.cellOf (g := t) (cs := cs) (t := 112) (by simp) k C0.out; have z2 := hs3.cellOf (g := t) (cs := cs) (t := 112) (by simp) (2 + k) C1.out; have z3 := hs3.cellOf (g := bo) (cs := opCells d wh a tt A n c) (t := 116) (by simp) 3 rfl; have HS3 := Lib.hid hs3; clear hs3)
          | (go_simp; go_at_call 43; refine (CB.out w3 HS3.out).mono ?_; rintro e w4 ⟨rfl, hs4⟩; have HS4 := Lib.hid hs4; clear hs4))
        all_goals (go_wp2_with fail; exact ⟨⟨q + 1, by go_num, by omega, { s1 with lost := s1.lost + 1 }, ⟨HV1.out.nv, HV1.out.rv, HV1.out.r1, HV1.out.r2, HV1.out.len, HV1.out.by_⟩, E1.out, E2.out, E3.out, by have := HL1.out; simp only; omega, HS4.out.re (fun x => by simp only [sdE, cnt_append, cnt_cons, cnt_nil]; omega)⟩, by simp [intOf]; omega⟩)
    · go_wp2_with fail
      refine (CI _).out.mono ?_; rintro e w1 ⟨rfl, rfl⟩
      go_wp2_with fail
      go_ret
      exact ⟨rfl, s1, HV1.out, E1.out, E2.out, E3.out, by have := HL1.out; omega, HS1.out.re (fun x => by simp only [cnt_append, cnt_cons, cnt_nil]; omega)⟩
end Go.Proofs.Ytfmggmpllggbnaa.RNet
