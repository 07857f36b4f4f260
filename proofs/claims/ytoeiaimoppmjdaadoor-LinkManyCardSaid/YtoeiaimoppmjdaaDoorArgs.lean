/- A script's calls as they come in: what their cells say. -/
import Derived.Test.YtoeiaimoppmjdaaDoorOpenS
import Derived.Test.YtoeiaimoppmjdaaDoorRBytes
import Derived.SizedLaws
namespace Go.Proofs.YtoeiaimoppmjdaaDoor.Args
open Go Go.ChangeShapes Go.WideShapes Go.RowKit Go.Deep Go.Proofs.YtoeiaimoppmjdaaDoorW.PrintWords Go.Proofs.YtoeiaimoppmjdaaDoor.OpnS Go.Proofs.YtoeiaimoppmjdaaDoor.Bytes
set_option linter.unusedVariables false
set_option linter.unusedSimpArgs false
abbrev KI := Kd.int .i64
abbrev KBy := Kd.slice 5 (Kd.int .u8)
abbrev KOp := Kd.pair KI (Kd.pair KI (Kd.pair KI (Kd.pair (Kd.int .u64) KBy)))
abbrev CO := Int × Int × Int × Int × List Int
abbrev I64 (a : Int) : Prop := -9223372036854775808 ≤ a ∧ a ≤ 9223372036854775807
theorem in8 {n : Int} (h : (Lit.int .u8 n).wf = true) : 0 ≤ n ∧ n ≤ 255 := by
  simpa [Lit.wf, IntKind.min, IntKind.max, IntKind.signed, IntKind.bits] using h
theorem inu64 {n : Int} (h : (Lit.int .u64 n).wf = true) : 0 ≤ n ∧ n ≤ 18446744073709551615 := by
  simpa [Lit.wf, IntKind.min, IntKind.max, IntKind.signed, IntKind.bits] using h
theorem in64 {n : Int} (h : (Lit.int .i64 n).wf = true) : I64 n := by
  simpa [Lit.wf, IntKind.min, IntKind.max, IntKind.signed, IntKind.bits, I64] using h
abbrev WB (l : List Int) : Prop := (∀ a, a ∈ l → (Lit.int .u8 a).wf = true) ∧ l.length * Tryd.prog.bytesOf 5 ≤ reachBytes
theorem wb_byt {l : List Int} (h : WB l) : Byt l := fun a ha => in8 (h.1 a ha)
theorem bytes5 : Tryd.prog.bytesOf 5 = 1 := by kernel_rfl
theorem wb_len {l : List Int} (h : WB l) : l.length ≤ 140737488351232 := by
  have h2 := h.2
  rw [bytes5, Nat.mul_one] at h2
  exact h2
theorem opens_bytes : Opens Tryd.prog 22 KBy WB (fun l => sumB (fun _ => 1) l + 1) := opens_slice Tryd.underlying22 (by kernel_rfl) (opens_int Tryd.underlying5 (by kernel_rfl))
abbrev VOp (x : CO) : Prop := (Lit.int .i64 x.1).wf = true ∧ (Lit.int .i64 x.2.1).wf = true ∧ (Lit.int .i64 x.2.2.1).wf = true ∧ (Lit.int .u64 x.2.2.2.1).wf = true ∧ WB x.2.2.2.2
abbrev BOp (x : CO) : Nat := 1 + (1 + (1 + (1 + (sumB (fun _ => 1) x.2.2.2.2 + 1)))) + 1
theorem opens_Op : Opens Tryd.prog 39 KOp VOp BOp := by
  have ho := opens_struct (P := Tryd.prog) Tryd.underlying39 (by kernel_rfl) (opensF_cons (opens_int Tryd.underlying3 (by kernel_rfl)) (opensF_cons (opens_int Tryd.underlying3 (by kernel_rfl)) (opensF_cons (opens_int Tryd.underlying3 (by kernel_rfl)) (opensF_cons (opens_int Tryd.underlying37 (by kernel_rfl)) (opensF_one opens_bytes) rfl) rfl) rfl) rfl)
  exact ho
theorem opens_Script : Opens Tryd.prog 26 (Kd.pair (Kd.pair KBy KBy) (Kd.slice 39 KOp))
    (fun x => (WB x.1.1 ∧ WB x.1.2) ∧ (∀ o, o ∈ x.2 → VOp o) ∧ x.2.length * Tryd.prog.bytesOf 39 ≤ reachBytes)
    (fun x => sumB (fun _ => 1) x.1.1 + 1 + (sumB (fun _ => 1) x.1.2 + 1) + 1 + (sumB BOp x.2 + 1) + 1) := by
  have ho := opens_struct (P := Tryd.prog) Tryd.underlying26 (by kernel_rfl) (opensF_cons (opens_two Tryd.underlying23 (by kernel_rfl) opens_bytes) (opensF_one (opens_slice Tryd.underlying24 (by kernel_rfl) opens_Op)) rfl)
  exact ho
/-- A list of bytes that came in is read. -/
theorem by_reads {w : World} {A : Option Addr} {l : List Int} {n : Nat} (h : (Kd.int .u8).C w A n l) : ReadsOf I 0 w A n l := Kd.reads_of_C h
/-- One call of the script, as its cells say it. -/
structure OpAt (w : World) (ad : Addr) (o : CO) (Ab : Option Addr) (cb : Nat) : Prop where
  c0 : w.cell? ad = some (.int .i64 o.1)
  c1 : w.cell? ⟨ad.block, ad.off + 1, none⟩ = some (.int .i64 o.2.1)
  c2 : w.cell? ⟨ad.block, ad.off + 2, none⟩ = some (.int .i64 o.2.2.1)
  c3 : w.cell? ⟨ad.block, ad.off + 3, none⟩ = some (.int .u64 o.2.2.2.1)
  c4 : w.cell? ⟨ad.block, ad.off + 4, none⟩ = some (.slice Ab o.2.2.2.2.length cb)
  rd : ReadsOf I 0 w Ab o.2.2.2.2.length o.2.2.2.2
  cap : o.2.2.2.2.length ≤ cb
theorem op_at {w : World} {A : Option Addr} {os : List CO} {n : Nat} (h : KOp.C w A n os) (k : Nat) (hk : k < os.length) (hn : n = os.length) : ∃ ad Ab cb, A = some ad ∧ OpAt w (ad.add (k * 5)) os[k] Ab cb := by
  subst hn
  obtain ⟨ad, cq, rfl, hlq, hKq, hcq⟩ := Kd.C_get h (0, 0, 0, 0, []) (k : Int) (by omega) (by omega)
  have hgq : os.getD (k : Int).toNat (0, 0, 0, 0, []) = os[k] := by rw [Int.toNat_natCast, List.getD_eq_getElem?_getD, List.getElem?_eq_getElem hk]; rfl
  rw [hgq] at hKq
  rw [Int.toNat_natCast] at hcq
  obtain ⟨q, hq⟩ : ∃ q, q = os[k] := ⟨_, rfl⟩
  rw [← hq] at hKq ⊢
  obtain ⟨k0, k1, k2, k3, b⟩ := q
  obtain ⟨_, _, rfl, rfl, _, _, rfl, rfl, _, _, rfl, rfl, _, _, rfl, rfl, Ab, cb, rfl, hcap, hb⟩ := hKq
  refine ⟨ad, Ab, cb, rfl, hcq 0 _ rfl, ?_, ?_, ?_, ?_, by_reads hb, hcap⟩
  · rw [← add_field _ _ 1 (by omega)]; exact hcq 1 _ rfl
  · rw [← add_field _ _ 2 (by omega)]; exact hcq 2 _ rfl
  · rw [← add_field _ _ 3 (by omega)]; exact hcq 3 _ rfl
  · rw [← add_field _ _ 4 (by omega)]; exact hcq 4 _ rfl
theorem OpAt.below {w w1 : World} {ad : Addr} {o : CO} {Ab : Option Addr} {cb : Nat} (h : OpAt w ad o Ab cb) (hb : Below w.heap.size w w1) : OpAt w1 ad o Ab cb :=
  ⟨pw_cell_below hb h.c0, pw_cell_below hb h.c1, pw_cell_below hb h.c2, pw_cell_below hb h.c3, pw_cell_below hb h.c4, h.rd.below hb, h.cap⟩
end Go.Proofs.YtoeiaimoppmjdaaDoor.Args
