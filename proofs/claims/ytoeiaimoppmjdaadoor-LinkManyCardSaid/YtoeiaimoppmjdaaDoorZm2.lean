/- Merged by merge2.py out of the texts: LkSt, FrPlain, TArgs, DecPlain, Flip, TurnedP. -/
import Derived.Test.YtoeiaimoppmjdaaDoorMem
import Derived.Test.YtoeiaimoppmjdaaDoorTexts
import Derived.Test.YtoeiaimoppmjdaaDoorRBytes
import Derived.Test.YtoeiaimoppmjdaaDoorRWPlain
import Derived.Test.YtoeiaimoppmjdaaDoorCrcRef
import Derived.Test.YtoeiaimoppmjdaaDoorArgs
import Derived.Test.YtoeiaimoppmjdaaDoorOrder
import Derived.Test.YtoeiaimoppmjdaaDoorInto
/- Writers and Readers as blocks that are held (the part of WtrSt that wants no book). -/
namespace Go.Proofs.YtoeiaimoppmjdaaDoor.Lk
open Go.RowKit Go.Proofs.YtoeiaimoppmjdaaDoorW.PrintWords Go.Proofs.YtoeiaimoppmjdaaDoor.Mem Go.Proofs.YtoeiaimoppmjdaaDoor.Wr Go.Proofs.YtoeiaimoppmjdaaDoor.Bytes
set_option linter.unusedVariables false
set_option linter.unusedSimpArgs false
abbrev pt (g : Nat) : Value := .pointer (some ⟨g, 0, none⟩)
abbrev nilp : Value := .pointer none
abbrev NL : Value := .slice none 0 0
def byR (v : Value) (xs : List Int) : List Ent := rowE v 5 1 xs.length (encs I xs)
def byV (v : Value) (xs : List Int) : Prop := rowV v 1 xs.length (encs I xs)
theorem byV_nil : byV NL [] := rowV_nil 1
theorem byR_nil : byR NL [] = [] := rfl
def wtrE (g : Nat) (v : Value) (xs : List Int) : List Ent := B g #[v] 112 :: byR v xs
def rdrE (g : Nat) (v : Value) (xs : List Int) (s : RS) : List Ent := B g #[v, .int .i64 (s.at_ : Int), .int .i64 (s.met : Int)] 105 :: byR v xs
theorem byV_form {v : Value} {xs : List Int} (h : byV v xs) : ∃ A c, v = .slice A xs.length c := by
  rcases h.2 with ⟨rfl, h0⟩ | ⟨g, c, rfl, _⟩
  · exact ⟨none, 0, by rw [h0]⟩
  · exact ⟨_, _, rfl⟩
theorem by_reads {w0 W : World} {L : List Ent} {A : Option Addr} {c : Nat} {xs : List Int} (h : St w0 W L) (hc : ∀ a, cnt a (byR (.slice A xs.length c) xs) ≤ cnt a L) (hV : byV (.slice A xs.length c) xs) : ReadsOf I 0 W A xs.length xs := by
  have hx := h.own_in (e := 5) hc hV
  exact own_reads (xs := xs) hx (by simp)
theorem St.wtr {w0 W : World} {R : List Ent} {g : Nat} {v : Value} {xs : List Int} (h : St w0 W (wtrE g v xs ++ R)) (hV : byV v xs) : Wtr W w0.heap.size g v xs :=
  ⟨h.blk (List.mem_append_left _ (List.mem_cons_self ..)), h.ge (B g _ _) (List.mem_append_left _ (List.mem_cons_self ..)), h.own_in (fun a => by rw [cnt_append, wtrE, cnt_cons, byR]; omega) hV⟩
theorem St.rdr {w0 W : World} {R : List Ent} {g : Nat} {v : Value} {xs : List Int} {s : RS} (h : St w0 W (rdrE g v xs s ++ R)) (hV : byV v xs) : Rdr W w0.heap.size g v xs s.at_ s.met :=
  ⟨h.blk (List.mem_append_left _ (List.mem_cons_self ..)), h.ge (B g _ _) (List.mem_append_left _ (List.mem_cons_self ..)), h.own_in (fun a => by rw [cnt_append, rdrE, cnt_cons, byR]; omega) hV⟩
/-- What a call that begins in the world W makes, beside what was held. -/
theorem St.lift {w0 W W' : World} {R M : List Ent} (h : St w0 W R) (k : St W W' M) : St w0 W' (M ++ R) := by
  have := St.step (F := []) (G := M) (R := R) (by simpa using h) (h.bl.trans (k.bl.mono h.bl.size)) k.bl.size (fun i hi _ => k.bl.block i hi) k.nd k.has (fun p hp => .inr (k.ge p hp))
  exact this
theorem row_in {v : Value} {e : TypeId} {s n k : Nat} {xs : List Value} (hV : rowV v s n xs) (hk : v.ownBlock = some k) : ∃ p, p ∈ rowE v e s n xs ∧ p.1 = k := by
  rcases hV.2 with ⟨rfl, _⟩ | ⟨g, cap, rfl, _⟩
  · simp [Value.ownBlock] at hk
  · exact ⟨_, mem_row .., by simpa [Value.ownBlock] using hk⟩
/-- Behind a call of a Writer. -/
theorem St.wput {w0 W W' : World} {R : List Ent} {g : Nat} {v v' : Value} {xs xs' : List Int} (H : St w0 W (wtrE g v xs ++ R)) (hv : byV v xs) (t : Put W W' w0.heap.size g v v' xs') : St w0 W' (wtrE g v' xs' ++ R) ∧ byV v' xs' := by
  have hv' : byV v' xs' := own_rowV t.wt.own
  refine ⟨H.step (H.bl.trans t.bl) t.bl.size (fun k hk hne => t.kb.2 k hk (fun e => hne (B g _ _) (List.mem_cons_self ..) e.symm) (fun e => ?_)) ?_ (fun p hp => ?_) (fun p hp => ?_), hv'⟩
  · obtain ⟨p, hp, h1⟩ := row_in (e := 5) hv e.symm
    exact hne p (List.mem_cons_of_mem _ hp) h1
  · show (g :: (byR v' xs').map (·.1)).Nodup
    refine List.nodup_cons.2 ⟨fun hm => ?_, rowE_nd ..⟩
    obtain ⟨p, hp, e⟩ := List.mem_map.1 hm
    exact t.wt.ne (by rw [rowE_blk hp hv', e])
  · rcases List.mem_cons.1 hp with rfl | hp
    · exact ⟨_, t.wt.blk, rfl⟩
    · exact own_has t.wt.own p hp
  · rcases List.mem_cons.1 hp with rfl | hp
    · exact .inl ⟨_, List.mem_cons_self .., rfl⟩
    · have e1 := rowE_blk hp hv'
      rcases t.hat with e | ⟨b, e, hb⟩
      · obtain ⟨q, hq, e2⟩ := row_in (e := 5) hv (e ▸ e1)
        exact .inl ⟨q, List.mem_cons_of_mem _ hq, e2⟩
      · rw [e1] at e; injection e with e; exact .inr (by rw [e]; exact hb)
/-- Behind a call of a Reader. -/
theorem St.rd {w0 W W' : World} {R : List Ent} {g : Nat} {v : Value} {xs : List Int} {s s1 : RS} (H : St w0 W (rdrE g v xs s ++ R)) (hv : byV v xs) (t : RdTo W W' w0.heap.size g v xs s1) : St w0 W' (rdrE g v xs s1 ++ R) := by
  refine H.step (H.bl.trans t.bl) t.bl.size (fun k hk hne => t.kb.2 k hk (fun e => hne (B g _ _) (List.mem_cons_self ..) e.symm) (by simp)) ?_ (fun p hp => ?_) (fun p hp => ?_)
  · show (g :: (byR v xs).map (·.1)).Nodup
    refine List.nodup_cons.2 ⟨fun hm => ?_, rowE_nd ..⟩
    obtain ⟨p, hp, e⟩ := List.mem_map.1 hm
    exact rdr_ne t.rd (by rw [rowE_blk hp hv, e])
  · rcases List.mem_cons.1 hp with rfl | hp
    · exact ⟨_, t.rd.blk, rfl⟩
    · exact own_has t.rd.own p hp
  · rcases List.mem_cons.1 hp with rfl | hp
    · exact .inl ⟨_, List.mem_cons_self .., rfl⟩
    · exact .inl ⟨p, List.mem_cons_of_mem _ hp, rfl⟩
/-- Behind a call of a Reader that makes a list. -/
theorem St.taken {w0 W W' : World} {R : List Ent} {g : Nat} {v u : Value} {xs l : List Int} {s s1 : RS} (H : St w0 W (rdrE g v xs s ++ R)) (hv : byV v xs) (t : RdTo W W' w0.heap.size g v xs s1) (ho : W'.ownsRow W.heap.size 5 1 u l.length (encs I l)) :
    St w0 W' (byR u l ++ (rdrE g v xs s1 ++ R)) ∧ byV u l := by
  have hu : byV u l := own_rowV ho
  have hst := H.step (G := byR u l ++ rdrE g v xs s1) (H.bl.trans t.bl) t.bl.size (fun k hk hne => t.kb.2 k hk (fun e => hne (B g _ _) (List.mem_cons_self ..) e.symm) (by simp)) ?_ ?_ ?_
  · exact ⟨hst.re (fun a => by simp only [cnt_append]; omega), hu⟩
  · rw [List.map_append]
    have hrv : ((rdrE g v xs s1).map (·.1)).Nodup := by
      show (g :: (byR v xs).map (·.1)).Nodup
      refine List.nodup_cons.2 ⟨fun hm => ?_, rowE_nd ..⟩
      obtain ⟨p, hp, e⟩ := List.mem_map.1 hm
      exact rdr_ne t.rd (by rw [rowE_blk hp hv, e])
    refine List.nodup_append.2 ⟨rowE_nd .., hrv, fun a ha b hb e => ?_⟩
    obtain ⟨p, hp, rfl⟩ := List.mem_map.1 ha
    have h1 := (ho.lt _ (rowE_blk hp hu)).1
    obtain ⟨q, hq, rfl⟩ := List.mem_map.1 hb
    have h2 : q.1 < W.heap.size := by
      rcases List.mem_cons.1 hq with rfl | hq
      · exact H.lt (p := B g #[v, .int .i64 (s.at_ : Int), .int .i64 (s.met : Int)] 105) (List.mem_append_left _ (List.mem_cons_self ..))
      · exact H.lt (List.mem_append_left _ (List.mem_cons_of_mem _ hq))
    omega
  · intro p hp
    rcases List.mem_append.1 hp with hp | hp
    · exact own_has ho p hp
    · rcases List.mem_cons.1 hp with rfl | hp
      · exact ⟨_, t.rd.blk, rfl⟩
      · exact own_has t.rd.own p hp
  · intro p hp
    rcases List.mem_append.1 hp with hp | hp
    · exact .inr (ho.lt _ (rowE_blk hp hu)).1
    · rcases List.mem_cons.1 hp with rfl | hp
      · exact .inl ⟨_, List.mem_cons_self .., rfl⟩
      · exact .inl ⟨p, List.mem_cons_of_mem _ hp, rfl⟩
end Go.Proofs.YtoeiaimoppmjdaaDoor.Lk
/- Frames in bytes: plain. -/
namespace Go.Proofs.YtoeiaimoppmjdaaDoor.Lk
open Go.Proofs.YtoeiaimoppmjdaaDoor.Wr Go.Proofs.YtoeiaimoppmjdaaDoor.Bytes Go.Proofs.YtoeiaimoppmjdaaDoor.Crc
structure Frm where
  src : Int
  dst : Int
  mine : Nat
  yours : Nat
  seq : Nat
  ack : Nat
  body : List Int
/-- May a frame be? -/
def endsB (f : Frm) : Bool := decide (0 ≤ f.src) && decide (f.src ≤ 8) && decide (0 ≤ f.dst) && decide (f.dst ≤ 8)
def livesB (f : Frm) : Bool := decide (1 ≤ f.mine) && decide (f.mine ≤ 1099511627776) && decide (f.yours ≤ 1099511627776)
def fitB (f : Frm) : Bool := endsB f && livesB f && decide (f.seq ≤ 1099511627776) && decide (f.ack ≤ 1099511627776) && decide (f.body.length ≤ 2048) && (decide (0 < f.seq) || decide (f.body.length = 0))
structure Fit (f : Frm) : Prop where
  f0 : 0 ≤ f.src
  f1 : f.src ≤ 8
  t0 : 0 ≤ f.dst
  t1 : f.dst ≤ 8
  m0 : 1 ≤ f.mine
  m1 : f.mine ≤ 1099511627776
  y : f.yours ≤ 1099511627776
  s : f.seq ≤ 1099511627776
  a : f.ack ≤ 1099511627776
  b : f.body.length ≤ 2048
  sb : 0 < f.seq ∨ f.body.length = 0
theorem fit_iff (f : Frm) : fitB f = true ↔ Fit f := by
  unfold fitB endsB livesB
  simp only [Bool.and_eq_true, Bool.or_eq_true, decide_eq_true_eq]
  constructor
  · rintro ⟨⟨⟨⟨⟨⟨⟨⟨h1, h2⟩, h3⟩, h4⟩, ⟨h5, h6⟩, h7⟩, h8⟩, h9⟩, h10⟩, h11⟩
    exact ⟨h1, h2, h3, h4, h5, h6, h7, h8, h9, h10, h11⟩
  · rintro ⟨h1, h2, h3, h4, h5, h6, h7, h8, h9, h10, h11⟩
    exact ⟨⟨⟨⟨⟨⟨⟨⟨h1, h2⟩, h3⟩, h4⟩, ⟨h5, h6⟩, h7⟩, h8⟩, h9⟩, h10⟩, h11⟩
def nums (f : Frm) : List Nat := [f.mine, f.yours, f.seq, f.ack]
/-- The bytes ahead of the sum. -/
def ahead (f : Frm) : List Int := [f.src, f.dst] ++ (nums f).flatMap vr ++ (vr f.body.length ++ f.body)
def encF (f : Frm) : List Int := if fitB f = true then ahead f ++ fixL (crc (ahead f)).toNat 4 else []
theorem nums_len (f : Frm) : (nums f).length = 4 := rfl
theorem vrs_len (f : Frm) (h : Fit f) (k : Nat) : (((nums f).take k).flatMap vr).length ≤ 40 := by
  have h1 := vr_length f.mine 9 (by have := h.m1; omega)
  have h2 := vr_length f.yours 9 (by have := h.y; omega)
  have h3 := vr_length f.seq 9 (by have := h.s; omega)
  have h4 := vr_length f.ack 9 (by have := h.a; omega)
  have e : k = 0 ∨ k = 1 ∨ k = 2 ∨ k = 3 ∨ 4 ≤ k := by omega
  rcases e with rfl | rfl | rfl | rfl | e
  · simp [nums]
  · simp [nums]; omega
  · simp [nums]; omega
  · simp [nums]; omega
  · rw [List.take_of_length_le (by rw [nums_len]; exact e)]; simp [nums]; omega
theorem ahead_byt (f : Frm) (h : Fit f) (hb : Byt f.body) : Byt (ahead f) := by
  have := h.f0; have := h.f1; have := h.t0; have := h.t1
  intro a ha
  simp only [ahead, nums, List.flatMap_cons, List.flatMap_nil, List.mem_append, List.mem_cons, List.not_mem_nil, or_false, List.append_nil] at ha
  rcases ha with (((rfl | rfl) | ha | ha | ha | ha) | ha | ha)
  · omega
  · omega
  · exact vr_byt _ a ha
  · exact vr_byt _ a ha
  · exact vr_byt _ a ha
  · exact vr_byt _ a ha
  · exact vr_byt _ a ha
  · exact hb a ha
theorem ahead_len (f : Frm) (h : Fit f) : (ahead f).length ≤ 2100 := by
  have h1 := vrs_len f h 4
  rw [List.take_of_length_le (by rw [nums_len]; exact Nat.le_refl _)] at h1
  have h2 := vr_length f.body.length 9 (by have := h.b; omega)
  have := h.b
  simp only [ahead, List.length_append, List.length_cons, List.length_nil]
  omega
end Go.Proofs.YtoeiaimoppmjdaaDoor.Lk
/- Frames and bytes as they come in (Frames, Turned): what their cells say. -/
namespace Go.Proofs.YtoeiaimoppmjdaaDoor.Lk
open Go Go.ChangeShapes Go.WideShapes Go.RowKit Go.Deep Go.Proofs.YtoeiaimoppmjdaaDoorW.PrintWords Go.Proofs.YtoeiaimoppmjdaaDoor.OpnS Go.Proofs.YtoeiaimoppmjdaaDoor.Bytes Go.Proofs.YtoeiaimoppmjdaaDoor.Args
set_option linter.unusedVariables false
set_option linter.unusedSimpArgs false
abbrev KU := Kd.int .u64
abbrev KFr := Kd.pair KI (Kd.pair KI (Kd.pair KU (Kd.pair KU (Kd.pair KU (Kd.pair KU KBy)))))
abbrev CF := Int × Int × Int × Int × Int × Int × List Int
abbrev KRow := Kd.slice 22 KBy
abbrev VFr (x : CF) : Prop := (Lit.int .i64 x.1).wf = true ∧ (Lit.int .i64 x.2.1).wf = true ∧ (Lit.int .u64 x.2.2.1).wf = true ∧ (Lit.int .u64 x.2.2.2.1).wf = true ∧ (Lit.int .u64 x.2.2.2.2.1).wf = true ∧ (Lit.int .u64 x.2.2.2.2.2.1).wf = true ∧ WB x.2.2.2.2.2.2
abbrev BFr (x : CF) : Nat := 1 + (1 + (1 + (1 + (1 + (1 + (sumB (fun _ => 1) x.2.2.2.2.2.2 + 1)))))) + 1
theorem opens_Fr : Opens Tryd.prog 69 KFr VFr BFr := by
  have ho := opens_struct (P := Tryd.prog) Tryd.underlying69 (by kernel_rfl) (opensF_cons (opens_int Tryd.underlying3 (by kernel_rfl)) (opensF_cons (opens_int Tryd.underlying3 (by kernel_rfl)) (opensF_cons (opens_int Tryd.underlying37 (by kernel_rfl)) (opensF_cons (opens_int Tryd.underlying37 (by kernel_rfl)) (opensF_cons (opens_int Tryd.underlying37 (by kernel_rfl)) (opensF_cons (opens_int Tryd.underlying37 (by kernel_rfl)) (opensF_one opens_bytes) rfl) rfl) rfl) rfl) rfl) rfl)
  exact ho
abbrev CFs := List CF × List (List Int)
abbrev KFs := Kd.pair (Kd.slice 69 KFr) KRow
theorem opens_Frames : Opens Tryd.prog 63 KFs
    (fun x => ((∀ o, o ∈ x.1 → VFr o) ∧ x.1.length * Tryd.prog.bytesOf 69 ≤ reachBytes) ∧ ((∀ o, o ∈ x.2 → WB o) ∧ x.2.length * Tryd.prog.bytesOf 22 ≤ reachBytes))
    (fun x => (sumB BFr x.1 + 1) + (sumB (fun l => sumB (fun _ => 1) l + 1) x.2 + 1) + 1) := by
  have ho := opens_struct (P := Tryd.prog) Tryd.underlying63 (by kernel_rfl) (opensF_cons (opens_slice Tryd.underlying60 (by kernel_rfl) opens_Fr) (opensF_one (opens_slice Tryd.underlying61 (by kernel_rfl) opens_bytes)) rfl)
  exact ho
theorem opens_Turned : Opens Tryd.prog 65 (Kd.pair KFs KI)
    (fun x => (((∀ o, o ∈ x.1.1 → VFr o) ∧ x.1.1.length * Tryd.prog.bytesOf 69 ≤ reachBytes) ∧ ((∀ o, o ∈ x.1.2 → WB o) ∧ x.1.2.length * Tryd.prog.bytesOf 22 ≤ reachBytes)) ∧ (Lit.int .i64 x.2).wf = true)
    (fun x => ((sumB BFr x.1.1 + 1) + (sumB (fun l => sumB (fun _ => 1) l + 1) x.1.2 + 1) + 1) + 1 + 1) := by
  have ho := opens_struct (P := Tryd.prog) Tryd.underlying65 (by kernel_rfl) (opensF_cons opens_Frames (opensF_one (opens_int Tryd.underlying3 (by kernel_rfl))) rfl)
  exact ho
/-- A frame of the list, as its cells say it. -/
structure FrAt (w : World) (ad : Addr) (f : Frm) (Ab : Option Addr) (cb : Nat) : Prop where
  c0 : w.cell? ad = some (.int .i64 f.src)
  c1 : w.cell? ⟨ad.block, ad.off + 1, none⟩ = some (.int .i64 f.dst)
  c2 : w.cell? ⟨ad.block, ad.off + 2, none⟩ = some (.int .u64 (f.mine : Int))
  c3 : w.cell? ⟨ad.block, ad.off + 3, none⟩ = some (.int .u64 (f.yours : Int))
  c4 : w.cell? ⟨ad.block, ad.off + 4, none⟩ = some (.int .u64 (f.seq : Int))
  c5 : w.cell? ⟨ad.block, ad.off + 5, none⟩ = some (.int .u64 (f.ack : Int))
  c6 : w.cell? ⟨ad.block, ad.off + 6, none⟩ = some (.slice Ab f.body.length cb)
  rd : ReadsOf I 0 w Ab f.body.length f.body
  byt : Byt f.body
theorem fr_at {w : World} {A : Option Addr} {os : List CF} {n : Nat} (h : KFr.C w A n os) (hv : ∀ o, o ∈ os → VFr o) (k : Nat) (hk : k < os.length) (hn : n = os.length) : ∃ ad f Ab cb, A = some ad ∧ FrAt w (ad.add (k * 7)) f Ab cb := by
  subst hn
  obtain ⟨ad, cq, rfl, hlq, hKq, hcq⟩ := Kd.C_get h (0, 0, 0, 0, 0, 0, []) (k : Int) (by omega) (by omega)
  have hgq : os.getD (k : Int).toNat (0, 0, 0, 0, 0, 0, []) = os[k] := by rw [Int.toNat_natCast, List.getD_eq_getElem?_getD, List.getElem?_eq_getElem hk]; rfl
  rw [hgq] at hKq
  rw [Int.toNat_natCast] at hcq
  have hvo := hv _ (List.getElem_mem hk)
  obtain ⟨q, hq⟩ : ∃ q, q = os[k] := ⟨_, rfl⟩
  rw [← hq] at hKq hvo
  obtain ⟨k0, k1, k2, k3, k4, k5, b⟩ := q
  obtain ⟨_, _, rfl, rfl, _, _, rfl, rfl, _, _, rfl, rfl, _, _, rfl, rfl, _, _, rfl, rfl, _, _, rfl, rfl, Ab, cb, rfl, hcap, hb⟩ := hKq
  have u2 := inu64 hvo.2.2.1
  have u3 := inu64 hvo.2.2.2.1
  have u4 := inu64 hvo.2.2.2.2.1
  have u5 := inu64 hvo.2.2.2.2.2.1
  obtain ⟨m2, e2⟩ : ∃ m : Nat, k2 = m := ⟨k2.toNat, by simp only at u2; omega⟩
  obtain ⟨m3, e3⟩ : ∃ m : Nat, k3 = m := ⟨k3.toNat, by simp only at u3; omega⟩
  obtain ⟨m4, e4⟩ : ∃ m : Nat, k4 = m := ⟨k4.toNat, by simp only at u4; omega⟩
  obtain ⟨m5, e5⟩ : ∃ m : Nat, k5 = m := ⟨k5.toNat, by simp only at u5; omega⟩
  subst e2 e3 e4 e5
  refine ⟨ad, ⟨k0, k1, m2, m3, m4, m5, b⟩, Ab, cb, rfl, hcq 0 _ rfl, ?_, ?_, ?_, ?_, ?_, ?_, Args.by_reads hb, wb_byt hvo.2.2.2.2.2.2⟩
  · rw [← add_field _ _ 1 (by omega)]; exact hcq 1 _ rfl
  · rw [← add_field _ _ 2 (by omega)]; exact hcq 2 _ rfl
  · rw [← add_field _ _ 3 (by omega)]; exact hcq 3 _ rfl
  · rw [← add_field _ _ 4 (by omega)]; exact hcq 4 _ rfl
  · rw [← add_field _ _ 5 (by omega)]; exact hcq 5 _ rfl
  · rw [← add_field _ _ 6 (by omega)]; exact hcq 6 _ rfl
theorem FrAt.below {w w1 : World} {ad : Addr} {f : Frm} {Ab : Option Addr} {cb : Nat} (h : FrAt w ad f Ab cb) (hb : Below w.heap.size w w1) : FrAt w1 ad f Ab cb :=
  ⟨pw_cell_below hb h.c0, pw_cell_below hb h.c1, pw_cell_below hb h.c2, pw_cell_below hb h.c3, pw_cell_below hb h.c4, pw_cell_below hb h.c5, pw_cell_below hb h.c6, h.rd.below hb, h.byt⟩
/-- A list of bytes of the list. -/
theorem row_at {w : World} {A : Option Addr} {os : List (List Int)} {n : Nat} (h : KBy.C w A n os) (k : Nat) (hk : k < os.length) (hn : n = os.length) : ∃ ad Ab cb, A = some ad ∧ w.cell? (ad.add k) = some (.slice Ab (os[k]).length cb) ∧ ReadsOf I 0 w Ab (os[k]).length os[k] := by
  subst hn
  obtain ⟨ad, cq, rfl, hlq, hKq, hcq⟩ := Kd.C_get h [] (k : Int) (by omega) (by omega)
  have hgq : os.getD (k : Int).toNat [] = os[k] := by rw [Int.toNat_natCast, List.getD_eq_getElem?_getD, List.getElem?_eq_getElem hk]; rfl
  rw [hgq] at hKq
  rw [Int.toNat_natCast] at hcq
  obtain ⟨Ab, cb, rfl, hcap, hb⟩ := hKq
  have h9 := hcq 0 _ rfl
  rw [show KBy.sz = 1 from rfl] at h9
  exact ⟨ad, Ab, cb, rfl, by simpa using h9, Args.by_reads hb⟩
end Go.Proofs.YtoeiaimoppmjdaaDoor.Lk
/- Frames read: plain. -/
namespace Go.Proofs.YtoeiaimoppmjdaaDoor.Lk
open Go.RowKit Go.Proofs.YtoeiaimoppmjdaaDoor.Wr Go.Proofs.YtoeiaimoppmjdaaDoor.Bytes Go.Proofs.YtoeiaimoppmjdaaDoor.Crc
set_option linter.unusedVariables false
set_option linter.unusedSimpArgs false
theorem take_mid (p b t : List Int) : ((p ++ b ++ t).drop p.length).take b.length = b := by simp
theorem varR_of_vr (most : Nat) (h64 : most < 18446744073709551616) (m : Nat) : ∀ (t : List Int) (i n0 : Nat), n0 + m * 128 ^ i ≤ most → (0 < i → 0 < m) → varR most (vr m ++ t) i n0 = .ok (n0 + m * 128 ^ i) (i + (vr m).length) := by
  induction m using Nat.strongRecOn with
  | _ m ih =>
    intro t i n0 hle hpos
    have hi10 : ¬ 10 ≤ i := by
      intro h10
      have hm := hpos (by omega)
      have h1 : (128 : Nat) ^ 10 ≤ 128 ^ i := Nat.pow_le_pow_right (by omega) h10
      have h2 : 1 * 128 ^ i ≤ m * 128 ^ i := Nat.mul_le_mul_right _ hm
      have h3 : (128 : Nat) ^ 10 = 1180591620717411303424 := by decide
      omega
    have h9 : i = 9 → m ≤ 1 := by
      intro e
      subst e
      have h3 : (128 : Nat) ^ 9 = 9223372036854775808 := by decide
      rw [h3] at hle
      omega
    by_cases h : m < 128
    · rw [vr_small h]
      show varR most ((m : Int) :: t) i n0 = _
      rw [varR, if_neg hi10, if_neg (by intro ⟨a, b⟩; have := h9 a; omega), if_neg (by omega), if_neg (by intro ⟨a, b⟩; have := hpos b; omega)]
      simp only [Int.toNat_natCast, Nat.mod_eq_of_lt h]
      rw [if_neg (by omega)]
      simp
    · rw [vr_great h]
      show varR most (((128 + m % 128 : Nat) : Int) :: (vr (m / 128) ++ t)) i n0 = _
      have e : n0 + (m % 128) * 128 ^ i + m / 128 * 128 ^ (i + 1) = n0 + m * 128 ^ i := by
        rw [Nat.pow_succ, Nat.mul_comm (128 ^ i) 128, ← Nat.mul_assoc, Nat.add_assoc, ← Nat.add_mul]
        congr 2
        omega
      rw [varR, if_neg hi10, if_neg (by intro ⟨a, b⟩; have := h9 a; omega), if_pos (by omega)]
      simp only [Int.toNat_natCast]
      rw [show (128 + m % 128) % 128 = m % 128 by omega, ih (m / 128) (by omega) t (i + 1) _ (by rw [e]; exact hle) (fun _ => by omega), e]
      simp; omega
/-- Bytes that all go on: too few. -/
theorem rVar_of (p t : List Int) (n most : Nat) (hn : n ≤ most) (h64 : most < 18446744073709551616) : rVar (p ++ vr n ++ t) ⟨p.length, 0⟩ most = (n, ⟨p.length + (vr n).length, 0⟩) := by
  unfold rVar
  simp only [if_true]
  have e : (p ++ vr n ++ t).drop p.length = vr n ++ t := by simp
  rw [e, varR_of_vr most h64 n t 0 0 (by simpa using hn) (fun h => by omega)]
  simp
theorem rNext_of (p b t : List Int) : rNext (p ++ b ++ t) ⟨p.length, 0⟩ (b.length : Int) = (b, ⟨p.length + b.length, 0⟩) := by
  unfold rNext
  simp only [if_true, Int.toNat_natCast]
  rw [if_pos (by simp; omega), take_mid]
theorem rFix_of (p t : List Int) (n size : Nat) (h : n < 256 ^ size) : rFix (p ++ fixL n size ++ t) ⟨p.length, 0⟩ size = (n, ⟨p.length + size, 0⟩) := by
  unfold rFix
  simp only [if_true]
  have h2 := take_mid p (fixL n size) t
  rw [fixL_length] at h2
  rw [if_pos (by simp [fixL_length]), h2, numBE_fixL n size h]
/-- An item is read back. -/
theorem rBytes_of (p t b : List Int) (most : Nat) (hn : b.length ≤ most) (h64 : most < 9223372036854775808) : rBytes (p ++ (vr b.length ++ b) ++ t) ⟨p.length, 0⟩ (most : Int) = (b, ⟨p.length + (vr b.length ++ b).length, 0⟩) := by
  have h1 := rVar_of p (b ++ t) b.length most hn (by omega)
  have h2 := rNext_of (p ++ vr b.length) b t
  have e : p ++ (vr b.length ++ b) ++ t = p ++ vr b.length ++ (b ++ t) := by simp
  rw [e] at *
  have e2 : p ++ vr b.length ++ b ++ t = p ++ vr b.length ++ (b ++ t) := by simp
  rw [e2, List.length_append] at h2
  unfold rBytes
  rw [show ((most : Int)).toNat = most from rfl, h1]
  simp only [true_and]
  rw [if_neg (by simp; omega), h2]
  simp; omega
/-- What DecodeFrame reads: the frame that the answers spell, and where the Reader then stands. -/
def r1 (b : List Int) := rFix b ⟨0, 0⟩ 1
def r2 (b : List Int) := rFix b (r1 b).2 1
def r3 (b : List Int) := rVar b (r2 b).2 1099511627776
def r4 (b : List Int) := rVar b (r3 b).2 1099511627776
def r5 (b : List Int) := rVar b (r4 b).2 1099511627776
def r6 (b : List Int) := rVar b (r5 b).2 1099511627776
def r7 (b : List Int) := rBytes b (r6 b).2 2048
def r8 (b : List Int) := rFix b (r7 b).2 4
def rdF (b : List Int) : Frm := ⟨((r1 b).1 : Int), ((r2 b).1 : Int), (r3 b).1, (r4 b).1, (r5 b).1, (r6 b).1, (r7 b).1⟩
def decOk (b : List Int) : Bool := decide (4 ≤ b.length) && decide (b.length ≤ 2112) && (rEnd b (r8 b).2 == 0) && (encF (rdF b) == b)
theorem encF_fit {f : Frm} (h : Fit f) : encF f = ahead f ++ fixL (crc (ahead f)).toNat 4 := by unfold encF; rw [if_pos ((fit_iff f).2 h)]
theorem encF_nofit {f : Frm} (h : ¬ Fit f) : encF f = [] := by unfold encF; rw [if_neg (fun e => h ((fit_iff f).1 e))]
theorem encF_len {f : Frm} (h : Fit f) : 4 ≤ (encF f).length ∧ (encF f).length ≤ 2104 := by
  rw [encF_fit h]; have := ahead_len f h; simp [fixL_length]; omega
/-- A frame's bytes, read. -/
theorem rd_enc {f : Frm} (h : Fit f) : r1 (encF f) = (f.src.toNat, ⟨1, 0⟩) ∧ rdF (encF f) = f ∧ (r8 (encF f)).2 = ⟨(encF f).length, 0⟩ := by
  have q0 := h.f0; have q1 := h.f1; have q2 := h.t0; have q3 := h.t1
  obtain ⟨s, hs⟩ : ∃ s : Nat, f.src = s := ⟨f.src.toNat, by omega⟩
  obtain ⟨d, hd⟩ : ∃ d : Nat, f.dst = d := ⟨f.dst.toNat, by omega⟩
  obtain ⟨u, hu⟩ : ∃ u, u = fixL (crc (ahead f)).toNat 4 := ⟨_, rfl⟩
  have e : encF f = fixL s 1 ++ fixL d 1 ++ vr f.mine ++ vr f.yours ++ vr f.seq ++ vr f.ack ++ (vr f.body.length ++ f.body) ++ u := by
    have e1 : fixL s 1 = [f.src] := by rw [hs]; simp [fixL]; omega
    have e2 : fixL d 1 = [f.dst] := by rw [hd]; simp [fixL]; omega
    rw [encF_fit h, ← hu, e1, e2]; simp [ahead, nums]
  obtain ⟨b, hb⟩ : ∃ b, b = encF f := ⟨_, rfl⟩
  rw [← hb] at e ⊢
  have l1 : (fixL s 1).length = 1 := fixL_length _ _
  have l2 : (fixL d 1).length = 1 := fixL_length _ _
  have x1 : r1 b = (s, ⟨1, 0⟩) := by
    have := rFix_of [] (fixL d 1 ++ vr f.mine ++ vr f.yours ++ vr f.seq ++ vr f.ack ++ (vr f.body.length ++ f.body) ++ u) s 1 (by omega)
    unfold r1; rw [e]; simpa using this
  have x2 : r2 b = (d, ⟨2, 0⟩) := by
    have := rFix_of (fixL s 1) (vr f.mine ++ vr f.yours ++ vr f.seq ++ vr f.ack ++ (vr f.body.length ++ f.body) ++ u) d 1 (by omega)
    unfold r2; rw [x1, e]; rw [l1] at this; simpa [List.append_assoc] using this
  have x3 : r3 b = (f.mine, ⟨2 + (vr f.mine).length, 0⟩) := by
    have := rVar_of (fixL s 1 ++ fixL d 1) (vr f.yours ++ vr f.seq ++ vr f.ack ++ (vr f.body.length ++ f.body) ++ u) f.mine 1099511627776 h.m1 (by omega)
    unfold r3; rw [x2, e]; rw [List.length_append, l1, l2] at this; simpa [List.append_assoc] using this
  have x4 : r4 b = (f.yours, ⟨2 + (vr f.mine).length + (vr f.yours).length, 0⟩) := by
    have := rVar_of (fixL s 1 ++ fixL d 1 ++ vr f.mine) (vr f.seq ++ vr f.ack ++ (vr f.body.length ++ f.body) ++ u) f.yours 1099511627776 h.y (by omega)
    unfold r4; rw [x3, e]; simp only [List.length_append, l1, l2] at this; simpa [List.append_assoc] using this
  have x5 : r5 b = (f.seq, ⟨2 + (vr f.mine).length + (vr f.yours).length + (vr f.seq).length, 0⟩) := by
    have := rVar_of (fixL s 1 ++ fixL d 1 ++ vr f.mine ++ vr f.yours) (vr f.ack ++ (vr f.body.length ++ f.body) ++ u) f.seq 1099511627776 h.s (by omega)
    unfold r5; rw [x4, e]; simp only [List.length_append, l1, l2] at this; simpa [List.append_assoc] using this
  have x6 : r6 b = (f.ack, ⟨2 + (vr f.mine).length + (vr f.yours).length + (vr f.seq).length + (vr f.ack).length, 0⟩) := by
    have := rVar_of (fixL s 1 ++ fixL d 1 ++ vr f.mine ++ vr f.yours ++ vr f.seq) ((vr f.body.length ++ f.body) ++ u) f.ack 1099511627776 h.a (by omega)
    unfold r6; rw [x5, e]; simp only [List.length_append, l1, l2] at this; simpa [List.append_assoc] using this
  have x7 : r7 b = (f.body, ⟨2 + (vr f.mine).length + (vr f.yours).length + (vr f.seq).length + (vr f.ack).length + (vr f.body.length ++ f.body).length, 0⟩) := by
    have := rBytes_of (fixL s 1 ++ fixL d 1 ++ vr f.mine ++ vr f.yours ++ vr f.seq ++ vr f.ack) u f.body 2048 h.b (by omega)
    unfold r7; rw [x6, e]; simp only [List.length_append, l1, l2] at this ⊢; simpa [List.append_assoc] using this
  have x8 : (r8 b).2 = ⟨b.length, 0⟩ := by
    have := rFix_of (fixL s 1 ++ fixL d 1 ++ vr f.mine ++ vr f.yours ++ vr f.seq ++ vr f.ack ++ (vr f.body.length ++ f.body)) [] (crc (ahead f)).toNat 4 (crc (ahead f)).isLt
    rw [← hu] at this
    unfold r8; rw [x7, e]; simp only [List.length_append, l1, l2, List.append_nil] at this ⊢
    rw [this, hu, fixL_length]
  refine ⟨by rw [x1, hs]; rfl, ?_, x8⟩
  unfold rdF; rw [x1, x2, x3, x4, x5, x6, x7]
  cases f; simp at hs hd ⊢; omega
theorem dec_enc {f : Frm} (h : Fit f) : decOk (encF f) = true ∧ rdF (encF f) = f := by
  obtain ⟨_, h1, h2⟩ := rd_enc h
  have hl := encF_len h
  refine ⟨?_, h1⟩
  unfold decOk
  rw [h1, h2]
  simp [rEnd, errN]
  omega
theorem dec_fit {b : List Int} (h : decOk b = true) : Fit (rdF b) ∧ encF (rdF b) = b := by
  simp only [decOk, Bool.and_eq_true, decide_eq_true_eq, beq_iff_eq] at h
  refine ⟨?_, h.2⟩
  refine Classical.byContradiction fun hn => ?_
  have h4 := h.1.1.1
  rw [← h.2, encF_nofit hn] at h4
  simp at h4
theorem rNext_mem {xs : List Int} {s : RS} {n : Int} {a : Int} (h : a ∈ (rNext xs s n).1) : a ∈ xs := by
  unfold rNext at h
  split at h
  · split at h
    · exact List.mem_of_mem_drop (List.mem_of_mem_take h)
    · cases h
  · cases h
theorem rBytes_mem {xs : List Int} {s : RS} {n : Int} {a : Int} (h : a ∈ (rBytes xs s n).1) : a ∈ xs := by
  unfold rBytes at h
  split at h
  · cases h
  · exact rNext_mem h
theorem r7_mem {b : List Int} {a : Int} (h : a ∈ (r7 b).1) : a ∈ b := by unfold r7 at h; exact rBytes_mem h
theorem rdF_body (b : List Int) : (rdF b).body = (r7 b).1 := by unfold rdF; rfl
theorem rdF_byt {b : List Int} (hb : Byt b) : Byt (rdF b).body := by
  rw [rdF_body]
  intro a ha
  exact hb a (r7_mem ha)
theorem r0_ok (b : List Int) : (⟨0, 0⟩ : RS).Ok b := ⟨Nat.zero_le _, Nat.zero_le _⟩
theorem r1_ok (b : List Int) : (r1 b).2.Ok b := by unfold r1; exact rFix_ok (r0_ok b) 1
theorem r2_ok (b : List Int) : (r2 b).2.Ok b := by unfold r2; exact rFix_ok (r1_ok b) 1
theorem r3_ok (b : List Int) : (r3 b).2.Ok b ∧ (r3 b).1 ≤ 1099511627776 := by unfold r3; exact rVar_ok (r2_ok b) _
theorem r4_ok (b : List Int) : (r4 b).2.Ok b ∧ (r4 b).1 ≤ 1099511627776 := by unfold r4; exact rVar_ok (r3_ok b).1 _
theorem r5_ok (b : List Int) : (r5 b).2.Ok b ∧ (r5 b).1 ≤ 1099511627776 := by unfold r5; exact rVar_ok (r4_ok b).1 _
theorem r6_ok (b : List Int) : (r6 b).2.Ok b ∧ (r6 b).1 ≤ 1099511627776 := by unfold r6; exact rVar_ok (r5_ok b).1 _
theorem r7_ok (b : List Int) : (r7 b).2.Ok b := by unfold r7; exact rBytes_ok (r6_ok b).1 _
theorem r8_ok (b : List Int) : (r8 b).2.Ok b := by unfold r8; exact rFix_ok (r7_ok b) 4
theorem r1_lt {b : List Int} (hb : Byt b) : (r1 b).1 < 256 := by unfold r1; exact rFix_lt hb _ 1
theorem r2_lt {b : List Int} (hb : Byt b) : (r2 b).1 < 256 := by unfold r2; exact rFix_lt hb _ 1
theorem encF_byt {b : List Int} (hb : Byt b) : Byt (encF (rdF b)) := by
  by_cases h : Fit (rdF b)
  · rw [encF_fit h]
    intro a ha
    rcases List.mem_append.1 ha with ha | ha
    · exact ahead_byt _ h (rdF_byt hb) a ha
    · exact fixL_byt _ _ a ha
  · rw [encF_nofit h]; intro a ha; cases ha
theorem r7_eq (b : List Int) : rBytes b (r6 b).2 2048 = r7 b := by unfold r7; rfl
theorem r8_eq (b : List Int) : rFix b (r7 b).2 4 = r8 b := by unfold r8; rfl
end Go.Proofs.YtoeiaimoppmjdaaDoor.Lk
/- Plain: a bit turned over in a text, and what that does to its sum. -/
namespace Go.Proofs.YtoeiaimoppmjdaaDoor.Crc
open Go.RowKit Go.Proofs.YtoeiaimoppmjdaaDoor.Bytes
set_option linter.unusedVariables false
set_option linter.unusedSimpArgs false
theorem ofInt_nat (n : Nat) : BitVec.ofInt 32 (n : Int) = BitVec.ofNat 32 n := BitVec.ofInt_natCast 32 n
theorem xor8 (a b : Int) (ha : 0 ≤ a ∧ a ≤ 255) (hb : 0 ≤ b ∧ b ≤ 255) : BitVec.ofInt 32 (Go.bits .xor .u8 a b) = BitVec.ofInt 32 a ^^^ BitVec.ofInt 32 b := by
  obtain ⟨m, rfl⟩ := Int.eq_ofNat_of_zero_le ha.1
  obtain ⟨n, rfl⟩ := Int.eq_ofNat_of_zero_le hb.1
  have hx : m ^^^ n < 2 ^ 8 := Nat.xor_lt_two_pow (by omega) (by omega)
  rw [u8_xor_nat m n (by omega) (by omega), ofInt_nat, ofInt_nat, ofInt_nat]
  apply BitVec.eq_of_toNat_eq
  rw [BitVec.toNat_xor, BitVec.toNat_ofNat, BitVec.toNat_ofNat, BitVec.toNat_ofNat, Nat.mod_eq_of_lt (by omega), Nat.mod_eq_of_lt (by omega), Nat.mod_eq_of_lt (by omega)]
/-- The text with its bit number i turned over. -/
def flip (xs : List Int) (i : Nat) : List Int := xs.set (i / 8) (Go.bits .xor .u8 (xs.getD (i / 8) 0) (2 ^ (i % 8) % 256))
theorem flip_length (xs : List Int) (i : Nat) : (flip xs i).length = xs.length := by simp [flip]
theorem mask_byte (m : Nat) (h : m < 8) : (0 : Int) ≤ 2 ^ m % 256 ∧ (2 : Int) ^ m % 256 ≤ 255 := by omega
theorem mask_bv : ∀ m, m < 8 → BitVec.ofInt 32 (2 ^ m % 256) = 1#32 <<< m := by decide
theorem it_mask : ∀ m, m < 32 → it m (1#32 <<< m) = 1#32 := by decide +kernel
theorem flip_byt {xs : List Int} (h : Byt xs) (i : Nat) : Byt (flip xs i) := by
  intro a ha
  rcases List.mem_or_eq_of_mem_set ha with h1 | h1
  · exact h a h1
  · rw [h1]; exact ⟨bits_lo_u8 _ _ _, bits_hi_u8 _ _ _⟩
theorem eat_xor (r s : B) (a : Int) : eat (r ^^^ s) a = eat r a ^^^ it 8 s := by
  unfold eat
  rw [show (r ^^^ s) ^^^ BitVec.ofInt 32 a = (r ^^^ BitVec.ofInt 32 a) ^^^ s by generalize BitVec.ofInt 32 a = p; ac_rfl]
  rw [it_xor, it_xor, ← it_add 4 4 s]
theorem fold_xor (t : List Int) (r s : B) : t.foldl eat (r ^^^ s) = t.foldl eat r ^^^ it (8 * t.length) s := by
  induction t generalizing r s with
  | nil => rfl
  | cons a t ih =>
    simp only [List.foldl_cons, List.length_cons]
    rw [eat_xor, ih, ← it_add, Nat.mul_succ]
theorem reg_flip (xs : List Int) (hv : Byt xs) (i : Nat) (hi : i < 8 * xs.length) : reg (flip xs i) = reg xs ^^^ it (8 * xs.length - i) 1#32 := by
  obtain ⟨j, hj⟩ : ∃ j, j = i / 8 := ⟨_, rfl⟩
  obtain ⟨m, hm⟩ : ∃ m, m = i % 8 := ⟨_, rfl⟩
  have hjl : j < xs.length := by omega
  unfold flip reg
  rw [← hj, ← hm]
  have hg : xs.getD j 0 = xs[j] := by rw [List.getD_eq_getElem?_getD, List.getElem?_eq_getElem hjl]; rfl
  rw [hg]
  have hb := hv xs[j] (List.getElem_mem hjl)
  have hx : xs = xs.take j ++ xs[j] :: xs.drop (j + 1) := by rw [← List.drop_eq_getElem_cons hjl, List.take_append_drop]
  have hs : ∀ y, xs.set j y = xs.take j ++ y :: xs.drop (j + 1) := by
    intro y
    conv => lhs; rw [hx]
    rw [List.set_append_right _ _ (by simp; omega)]
    have : (xs.take j).length = j := by simp; omega
    rw [this, Nat.sub_self]
    rfl
  rw [hs]
  conv => rhs; lhs; rw [hx]
  rw [List.foldl_append, List.foldl_append, List.foldl_cons, List.foldl_cons]
  generalize (xs.take j).foldl eat (BitVec.allOnes 32) = r
  have he : eat r (Go.bits .xor .u8 xs[j] (2 ^ m % 256)) = eat r xs[j] ^^^ it 8 (1#32 <<< m) := by
    unfold eat
    rw [xor8 _ _ hb (mask_byte m (by omega)), mask_bv m (by omega), ← BitVec.xor_assoc, it_xor, it_xor, ← it_add 4 4 (1#32 <<< m)]
  rw [he, fold_xor]
  congr 1
  have h8 : it 8 (1#32 <<< m) = it (8 - m) 1#32 := by
    conv => lhs; rw [show 8 = (8 - m) + m by omega]
    rw [it_add, it_mask m (by omega)]
  rw [h8, ← it_add]
  congr 1
  simp
  omega
theorem crc_ne {xs ys : List Int} (h : reg ys ≠ reg xs) : ¬ ((crc ys).toNat : Int) = ((crc xs).toNat : Int) := by
  intro e
  apply h
  have e1 : (crc ys).toNat = (crc xs).toNat := by omega
  have e2 : crc ys = crc xs := BitVec.eq_of_toNat_eq e1
  unfold crc at e2
  exact BitVec.not_inj.1 e2
theorem crc_eq {xs ys : List Int} (h : reg ys = reg xs) : ((crc ys).toNat : Int) = ((crc xs).toNat : Int) := by unfold crc; rw [h]
theorem one_ne (n : Nat) : it n 1#32 ≠ 0#32 := fun h => absurd (it_inj0 n _ h) (by decide)
theorem xor_ne {r d : B} (h : d ≠ 0#32) : r ^^^ d ≠ r := by
  intro e
  apply h
  have h2 : r ^^^ (r ^^^ d) = r ^^^ r := by rw [e]
  rwa [← BitVec.xor_assoc, BitVec.xor_self, BitVec.zero_xor] at h2
theorem flip_one (xs : List Int) (hv : Byt xs) (i : Nat) (hi : i < 8 * xs.length) : ¬ ((crc (flip xs i)).toNat : Int) = ((crc xs).toNat : Int) :=
  crc_ne (by rw [reg_flip xs hv i hi]; exact xor_ne (one_ne _))
end Go.Proofs.YtoeiaimoppmjdaaDoor.Crc
/- Frames cut, lengthened, with a bit turned: plain. -/
namespace Go.Proofs.YtoeiaimoppmjdaaDoor.Lk
open Go.RowKit Go.Proofs.YtoeiaimoppmjdaaDoor.Wr Go.Proofs.YtoeiaimoppmjdaaDoor.Bytes Go.Proofs.YtoeiaimoppmjdaaDoor.Crc
set_option linter.unusedVariables false
set_option linter.unusedSimpArgs false
/-- A frame's bytes, read, whatever stands behind them. -/
theorem rd_tail {f : Frm} (h : Fit f) (t : List Int) : rdF (encF f ++ t) = f := by
  have q0 := h.f0; have q1 := h.f1; have q2 := h.t0; have q3 := h.t1
  obtain ⟨s, hs⟩ : ∃ s : Nat, f.src = s := ⟨f.src.toNat, by omega⟩
  obtain ⟨d, hd⟩ : ∃ d : Nat, f.dst = d := ⟨f.dst.toNat, by omega⟩
  obtain ⟨u, hu⟩ : ∃ u, u = fixL (crc (ahead f)).toNat 4 := ⟨_, rfl⟩
  have e : encF f ++ t = fixL s 1 ++ fixL d 1 ++ vr f.mine ++ vr f.yours ++ vr f.seq ++ vr f.ack ++ (vr f.body.length ++ f.body) ++ (u ++ t) := by
    have e1 : fixL s 1 = [f.src] := by rw [hs]; simp [fixL]; omega
    have e2 : fixL d 1 = [f.dst] := by rw [hd]; simp [fixL]; omega
    rw [encF_fit h, ← hu, e1, e2]; simp [ahead, nums]
  obtain ⟨b, hb⟩ : ∃ b, b = encF f ++ t := ⟨_, rfl⟩
  rw [← hb] at e ⊢
  have l1 : (fixL s 1).length = 1 := fixL_length _ _
  have l2 : (fixL d 1).length = 1 := fixL_length _ _
  have x1 : r1 b = (s, ⟨1, 0⟩) := by
    have := rFix_of [] (fixL d 1 ++ vr f.mine ++ vr f.yours ++ vr f.seq ++ vr f.ack ++ (vr f.body.length ++ f.body) ++ (u ++ t)) s 1 (by omega)
    unfold r1; rw [e]; simpa using this
  have x2 : r2 b = (d, ⟨2, 0⟩) := by
    have := rFix_of (fixL s 1) (vr f.mine ++ vr f.yours ++ vr f.seq ++ vr f.ack ++ (vr f.body.length ++ f.body) ++ (u ++ t)) d 1 (by omega)
    unfold r2; rw [x1, e]; rw [l1] at this; simpa [List.append_assoc] using this
  have x3 : r3 b = (f.mine, ⟨2 + (vr f.mine).length, 0⟩) := by
    have := rVar_of (fixL s 1 ++ fixL d 1) (vr f.yours ++ vr f.seq ++ vr f.ack ++ (vr f.body.length ++ f.body) ++ (u ++ t)) f.mine 1099511627776 h.m1 (by omega)
    unfold r3; rw [x2, e]; rw [List.length_append, l1, l2] at this; simpa [List.append_assoc] using this
  have x4 : r4 b = (f.yours, ⟨2 + (vr f.mine).length + (vr f.yours).length, 0⟩) := by
    have := rVar_of (fixL s 1 ++ fixL d 1 ++ vr f.mine) (vr f.seq ++ vr f.ack ++ (vr f.body.length ++ f.body) ++ (u ++ t)) f.yours 1099511627776 h.y (by omega)
    unfold r4; rw [x3, e]; simp only [List.length_append, l1, l2] at this; simpa [List.append_assoc] using this
  have x5 : r5 b = (f.seq, ⟨2 + (vr f.mine).length + (vr f.yours).length + (vr f.seq).length, 0⟩) := by
    have := rVar_of (fixL s 1 ++ fixL d 1 ++ vr f.mine ++ vr f.yours) (vr f.ack ++ (vr f.body.length ++ f.body) ++ (u ++ t)) f.seq 1099511627776 h.s (by omega)
    unfold r5; rw [x4, e]; simp only [List.length_append, l1, l2] at this; simpa [List.append_assoc] using this
  have x6 : r6 b = (f.ack, ⟨2 + (vr f.mine).length + (vr f.yours).length + (vr f.seq).length + (vr f.ack).length, 0⟩) := by
    have := rVar_of (fixL s 1 ++ fixL d 1 ++ vr f.mine ++ vr f.yours ++ vr f.seq) ((vr f.body.length ++ f.body) ++ (u ++ t)) f.ack 1099511627776 h.a (by omega)
    unfold r6; rw [x5, e]; simp only [List.length_append, l1, l2] at this; simpa [List.append_assoc] using this
  have x7 : r7 b = (f.body, ⟨2 + (vr f.mine).length + (vr f.yours).length + (vr f.seq).length + (vr f.ack).length + (vr f.body.length ++ f.body).length, 0⟩) := by
    have := rBytes_of (fixL s 1 ++ fixL d 1 ++ vr f.mine ++ vr f.yours ++ vr f.seq ++ vr f.ack) (u ++ t) f.body 2048 h.b (by omega)
    unfold r7; rw [x6, e]; simp only [List.length_append, l1, l2] at this ⊢; simpa [List.append_assoc] using this
  unfold rdF; rw [x1, x2, x3, x4, x5, x6, x7]
  cases f; simp at hs hd ⊢; omega
/-- With something behind it it is none. -/
theorem dec_long {f : Frm} (h : Fit f) (a : Int) : decOk (encF f ++ [a]) = false := by
  cases e : decOk (encF f ++ [a]) with
  | false => rfl
  | true =>
    have h1 := (dec_fit e).2
    rw [rd_tail h] at h1
    have := congrArg List.length h1
    simp at this
/-- Cut it is none. -/
theorem dec_cut {f : Frm} (h : Fit f) (k : Nat) (hk : k < (encF f).length) : decOk ((encF f).take k) = false := by
  cases e : decOk ((encF f).take k) with
  | false => rfl
  | true =>
    obtain ⟨hg, h1⟩ := dec_fit e
    have h2 := rd_tail hg ((encF f).drop k)
    rw [h1, List.take_append_drop] at h2
    have h3 := rd_tail h []
    rw [List.append_nil] at h3
    rw [← h2, h3] at h1
    have := congrArg List.length h1
    simp at this
    omega
/-- Of two frames' bytes that are as long and differ in one place alone the sums differ: where the sums of what stands ahead differ whenever it does, one of them is none. -/
theorem dec_other {f : Frm} (h : Fit f) {b : List Int} (hl : b.length = (encF f).length) (hne : b ≠ encF f)
    (hs : b.take (ahead f).length ≠ ahead f → (b.drop (ahead f).length = (encF f).drop (ahead f).length) ∧ ¬ (crc (b.take (ahead f).length)).toNat = (crc (ahead f)).toNat) : decOk b = false := by
  cases e : decOk b with
  | false => rfl
  | true =>
    exfalso
    obtain ⟨hg, h1⟩ := dec_fit e
    obtain ⟨g, hgg⟩ : ∃ g, g = rdF b := ⟨_, rfl⟩
    rw [← hgg] at hg h1
    have ef := encF_fit h
    have eg := encF_fit hg
    have la : (ahead g).length = (ahead f).length := by
      rw [← h1, eg, ef] at hl
      simp [fixL_length] at hl
      exact hl
    have t1 : b.take (ahead f).length = ahead g := by rw [← h1, eg, ← la]; simp
    have t2 : b.drop (ahead f).length = fixL (crc (ahead g)).toNat 4 := by rw [← h1, eg, ← la]; simp
    have t3 : (encF f).drop (ahead f).length = fixL (crc (ahead f)).toNat 4 := by rw [ef]; simp
    by_cases hc : b.take (ahead f).length = ahead f
    · rw [t1] at hc
      rw [hc] at eg
      exact hne (by rw [← h1, eg, ef])
    · obtain ⟨q1, q2⟩ := hs hc
      rw [t2, t3] at q1
      rw [t1] at q2
      have n1 := numBE_fixL (crc (ahead g)).toNat 4 (crc (ahead g)).isLt
      have n2 := numBE_fixL (crc (ahead f)).toNat 4 (crc (ahead f)).isLt
      rw [q1, n2] at n1
      exact q2 n1.symm
theorem flip_left (a t : List Int) (i : Nat) (h : i < 8 * a.length) : Crc.flip (a ++ t) i = flip a i ++ t := by
  unfold Crc.flip
  have hj : i / 8 < a.length := by omega
  rw [List.set_append_left _ _ hj, List.getD_eq_getElem?_getD, List.getD_eq_getElem?_getD, List.getElem?_append_left hj]
theorem flip_right (a t : List Int) (i : Nat) (h : 8 * a.length ≤ i) : (Crc.flip (a ++ t) i).take a.length = a := by
  unfold Crc.flip
  have hj : a.length ≤ i / 8 := by omega
  rw [List.set_append_right _ _ hj]
  simp
theorem encF_byt' {f : Frm} (hb : Byt f.body) : Byt (encF f) := by
  by_cases h : Fit f
  · rw [encF_fit h]
    intro a ha
    rcases List.mem_append.1 ha with ha | ha
    · exact ahead_byt _ h hb a ha
    · exact fixL_byt _ _ a ha
  · rw [encF_nofit h]; intro a ha; cases ha
/-- With a bit turned it is none. -/
theorem dec_turn {f : Frm} (h : Fit f) (hb : Byt f.body) (i : Nat) (hi : i < 8 * (encF f).length) : decOk (Crc.flip (encF f) i) = false := by
  have hne : Crc.flip (encF f) i ≠ encF f := fun e => flip_one (encF f) (encF_byt' hb) i hi (by rw [e])
  refine dec_other h (flip_length _ _) hne (fun hc => ?_)
  have ef := encF_fit h
  by_cases ha : i < 8 * (ahead f).length
  · rw [ef, flip_left _ _ _ ha]
    have hl : (Crc.flip (ahead f) i).length = (ahead f).length := flip_length _ _
    have e1 : (Crc.flip (ahead f) i ++ fixL (crc (ahead f)).toNat 4).take (ahead f).length = Crc.flip (ahead f) i := by rw [← hl]; simp
    have e2 : (Crc.flip (ahead f) i ++ fixL (crc (ahead f)).toNat 4).drop (ahead f).length = fixL (crc (ahead f)).toNat 4 := by rw [← hl]; simp
    rw [e1, e2]
    refine ⟨by simp, fun q => ?_⟩
    exact flip_one (ahead f) (ahead_byt f h hb) i ha (by rw [q])
  · exact absurd (by rw [ef]; exact flip_right _ _ _ (by omega)) hc
end Go.Proofs.YtoeiaimoppmjdaaDoor.Lk
