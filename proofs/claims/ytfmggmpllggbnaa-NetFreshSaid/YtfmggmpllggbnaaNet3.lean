/- Contract of slices.Delete at the messages: one is taken out. -/
import Derived.Test.YtfmggmpllggbnaaOver
import Derived.Lib.SliceRun
namespace Go.Proofs.Ytfmggmpllggbnaa.Net
open Go.RowKit Go.Proofs.YtfmggmpllggbnaaW.PrintWords
set_option linter.unusedVariables false
set_option linter.unusedSimpArgs false
theorem clear_one (w : World) (t e ty : TypeId) (z z0 z1 : Value) (ht : Try.prog.underlying t = some (.slice e)) (hv : ∀ w, (zeroValue e).run Try.prog w = .ok z w) (hz : z.cells = #[z0, z1]) (h0 : z0.oneCell' = true) (h1 : z1.oneCell' = true) (b o c : Nat)
    (hc : ∀ j, j < 2 → (w.cell? ⟨b, o + j, none⟩).isSome = true) (hf : ∀ j, j < 2 → w.frozen? ⟨b, o + j, none⟩ = false) :
    (Builtin.clear_ #[t] ty #[.slice (some ⟨b, o, none⟩) 1 c]).run Try.prog w = .ok (.tuple #[]) (w.setCells b o [z0, z1]) := by
  have hzc : (Builtin.zeroCells z.cells 1).toList = [z0, z1] := by
    rw [hz]; simp [Builtin.zeroCells]
    apply List.ext_getElem
    · simp
    · intro i h1 h2
      have : i = 0 ∨ i = 1 := by simp at h1; omega
      rcases this with rfl | rfl <;> simp
  have hst := run_storeCells_cells (P := Try.prog) b o [z0, z1] 0 w (by simpa using hc) (by simpa using hf) (by intro v hv'; simp at hv'; rcases hv' with rfl | rfl <;> assumption)
  simp only [Nat.add_zero] at hst
  simp [Builtin.clear_, run_underlying ht, hv, hzc, hst]
theorem cut_one (W : World) (gv N cap : Nat) (i : TypeInfo) (hi : Try.prog.info? 130 = some i) (hs : i.size = 2) (hc : N + 1 ≤ cap) : (Instr.slice 65 (.slice (some ⟨gv, 0, none⟩) N cap) (some (.int .i64 (N : Int))) (some (.int .i64 ((N : Int) + 1))) none).run Try.prog W = .ok (.slice (some ⟨gv, N * 2, none⟩) 1 (cap - N)) W := by
  have hel : Try.prog.elem 65 = 130 := by simp [Program.elem, Try.underlying65]
  have hu : Try.prog.underlying 65 = some (.slice (Try.prog.elem 65)) := by rw [hel]; exact Try.underlying65
  rw [run_slice_lh W 65 (some ⟨gv, 0, none⟩) N cap hu .i64 .i64 (N : Int) ((N : Int) + 1) (by omega) (by omega) (by omega), hel]
  have e : ¬ cap = N := by omega
  simp [sizeOf, typeInfo, hi, hs, sliced, Result.andThen, e, Addr.add]
  omega
set_option maxRecDepth 20000 in
set_option maxHeartbeats 1600000 in
theorem delete_calls (W : World) (base gv cap i : Nat) (ms : List (Int × ByteArray)) (ho : W.ownsRow base 130 2 (.slice (some ⟨gv, 0, none⟩) ms.length cap) ms.length (cellsOf ms)) (hi : i < ms.length) (hm : ms.length ≤ 1099511627776) :
    Calls Try.prog 51 #[.slice (some ⟨gv, 0, none⟩) ms.length cap, .int .i64 i, .int .i64 ((i : Int) + 1)] W fun e w' => e = .returned (.slice (some ⟨gv, 0, none⟩) (ms.length - 1) cap) ∧ w'.ownsRow base 130 2 (.slice (some ⟨gv, 0, none⟩) (ms.length - 1) cap) (ms.length - 1) (cellsOf (ms.eraseIdx i)) ∧ W.grownBy w' (some gv) := by
  have hcap : ms.length ≤ cap := by
    rcases ho.2 with ⟨e, _⟩ | ⟨_, _, _, e, _, _, h5, _⟩
    · cases e
    · injection e with _ _ e; omega
  have i1 : (0 : Int) ≤ (i : Int) := by omega
  have i2 : (i : Int) + 1 ≤ (ms.length : Int) := by omega
  have i3 : (ms.length : Int) ≤ (cap : Int) := by omega
  have i4 : (i : Int) ≤ (i : Int) + 1 := by omega
  have i5 : ¬ (i : Int) = (i : Int) + 1 := by omega
  obtain ⟨i0, hi0, hzz⟩ := Option.map_eq_some_iff.1 info130
  simp only [Prod.mk.injEq] at hzz
  obtain ⟨hz0, hs0, hb0⟩ := hzz
  have qa : ∀ W : World, (Instr.slice 65 (.slice (some ⟨gv, 0, none⟩) ms.length cap) none (some (.int .i64 (i : Int))) none).run Try.prog W = .ok (.slice (some ⟨gv, 0, none⟩) i cap) W := fun W => by
    have h := cut_to (P := Try.prog) 65 130 .i64 Try.underlying65 hi0 (some ⟨gv, 0, none⟩) ms.length cap (i : Int) (by omega) (by omega) hcap W
    rwa [Int.toNat_natCast] at h
  obtain ⟨ad, hqb, HAD⟩ : ∃ ad : Addr, (∀ W : World, (Instr.slice 65 (.slice (some ⟨gv, 0, none⟩) ms.length cap) (some (.int .i64 ((i : Int) + 1))) none none).run Try.prog W = .ok (.slice (some ad) (ms.length - (i + 1)) (cap - (i + 1))) W) ∧
      Hid (∀ W : World, W.ownsRow base 130 2 (.slice (some ⟨gv, 0, none⟩) ms.length cap) ms.length (cellsOf ms) → ∀ j u, ((cellsOf ms).drop ((i + 1) * 2))[j]? = some u → W.cell? (ad.add j) = some u) := by
    by_cases hc : cap = i + 1
    · refine ⟨⟨gv, 0, none⟩, fun W => ?_, fun W ho j u hu => ?_⟩
      · have h := cut_from (P := Try.prog) 65 130 .i64 Try.underlying65 hi0 2 hs0 (some ⟨gv, 0, none⟩) ms.length cap ((i : Int) + 1) (by omega) (by omega) W
        rw [show ((i : Int) + 1).toNat = i + 1 by omega, if_pos hc] at h
        exact h
      · rw [List.drop_of_length_le (by rw [cellsOf_length]; omega)] at hu
        simp at hu
    · refine ⟨⟨gv, (i + 1) * 2, none⟩, fun W => ?_, fun W ho j u hu => ?_⟩
      · have h := cut_from (P := Try.prog) 65 130 .i64 Try.underlying65 hi0 2 hs0 (some ⟨gv, 0, none⟩) ms.length cap ((i : Int) + 1) (by omega) (by omega) W
        rw [show ((i : Int) + 1).toNat = i + 1 by omega, if_neg hc] at h
        simpa [Addr.add] using h
      · rw [List.getElem?_drop] at hu
        have e : (⟨gv, (i + 1) * 2, none⟩ : Addr).add j = ⟨gv, (i + 1) * 2 + j, none⟩ := by unfold Addr.add; split <;> simp_all
        have hl : (i + 1) * 2 + j < ms.length * 2 := by
          rcases Nat.lt_or_ge ((i + 1) * 2 + j) (ms.length * 2) with h | h
          · exact h
          · rw [List.getElem?_eq_none (by rw [cellsOf_length]; exact h)] at hu; cases hu
        rw [e, ho.cellAt _ hl]; exact hu
  have HO := Lib.hid ho
  have HM := Lib.hid hm
  clear ho hm
  go_enter Try.func51, Try.ntmps51
  go_wp2_with fail
  go_region_law (refine step_append_room rfl (.tmp 22) (.tmp 25) 65 rfl 130 i0 2 Try.underlying65 hi0 hs0 gv 0 i cap rfl ad (ms.length - (i + 1)) (cap - (i + 1)) ((cellsOf ms).drop ((i + 1) * 2)) rfl ?h1 ?h2 ?h3 ?h4 ?h5 ?_; (case h1 => rw [List.length_drop, cellsOf_length]; omega); (case h2 => exact HAD.out _ (own_drew HO.out)); (case h3 => intro u hu; have hu2 := List.mem_of_mem_drop hu; simp only [cellsOf, List.mem_flatMap, msg] at hu2; obtain ⟨a, _, ha⟩ := hu2; simp at ha; rcases ha with rfl | rfl <;> rfl); (case h4 => omega); (case h5 => intro j hj; rw [List.length_drop, cellsOf_length] at hj; refine ⟨?_, (own_drew HO.out).frozenAt _⟩; rw [(own_drew HO.out).cellAt _ (by omega)]; rw [List.getElem?_eq_getElem (by rw [cellsOf_length]; omega)]; rfl))
  obtain ⟨N, hN⟩ : ∃ N, ms.length = N + 1 := ⟨ms.length - 1, by omega⟩
  obtain ⟨W2, hW2⟩ : ∃ W2, W2 = W.drew.setCells gv (i * 2) ((cellsOf ms).drop ((i + 1) * 2)) := ⟨_, rfl⟩
  have o2 := own_over ((cellsOf ms).drop ((i + 1) * 2)) W.drew (cellsOf ms) (i * 2) (own_drew HO.out)
  rw [← hW2] at o2
  have O2 := Lib.hid o2
  have qc : ∀ ty, (Builtin.clear_ #[65] ty #[.slice (some ⟨gv, N * 2, none⟩) 1 (cap - N)]).run Try.prog W2 = .ok (.tuple #[]) (W2.setCells gv (N * 2) [.int .i64 0, .string ByteArray.empty]) := fun ty => by
    have hl := o2.1.1
    refine clear_one W2 65 130 ty (.agg #[.int .i64 0, .string ByteArray.empty]) _ _ Try.underlying65 (fun w => Try.zeroValue130 w) rfl rfl rfl gv (N * 2) (cap - N) (fun j hj => ?_) (fun j hj => o2.1.frozenAt _)
    rw [o2.1.cellAt _ (by omega), List.getElem?_eq_getElem (by rw [hl]; omega)]; rfl
  have qd : ∀ W : World, (Instr.slice 65 (.slice (some ⟨gv, 0, none⟩) N cap) (some (.int .i64 (N : Int))) (some (.int .i64 ((N : Int) + 1))) none).run Try.prog W = .ok (.slice (some ⟨gv, N * 2, none⟩) 1 (cap - N)) W := fun W => cut_one W gv N cap i0 hi0 hs0 (by omega)
  have e1 : i + (ms.length - (i + 1)) = N := by omega
  have e2 : (ms.length : Int) = (N : Int) + 1 := by omega
  rw [e1, ← hW2]
  have HN := Lib.hid hN
  have HI := Lib.hid hi
  clear o2 hW2 e1 hN hi qa hqb
  go_wp2_with fail
  go_ret
  have o3 := own_over [.int .i64 0, .string ByteArray.empty] W2 _ (N * 2) O2.out.1
  have o4 := own_take o3.1 (show N ≤ ms.length by have := HN.out; omega)
  have e5 : ms.length - 1 = N := by have := HN.out; omega
  have e6 := over_erase ms i HI.out (.int .i64 0) (.string ByteArray.empty)
  rw [e5, Nat.zero_add] at e6
  rw [e6] at o4
  rw [e5]
  exact ⟨rfl, o4, World.grownBy.trans (World.grownBy.trans (show W.grownBy W.drew (some gv) from ⟨rfl, rfl, rfl, Nat.le_refl _, fun _ _ _ => rfl⟩) O2.out.2) o3.2⟩
end Go.Proofs.Ytfmggmpllggbnaa.Net
