/- Contract of told: a message in memory of the caller's own. -/
import Derived.Test.YtfmggmpllggbnaaNet6
import Derived.Laws.IdiomStrings
namespace Go.Proofs.Ytfmggmpllggbnaa.Net
open Go.RowKit Go.Proofs.YtfmggmpllggbnaaW.PrintWords
set_option linter.unusedVariables false
set_option linter.unusedSimpArgs false
theorem results_cell {fn : Func} {a : Nat} {t : TypeId} (h : fn.results = #[.cell a t]) (tmps : Array Value) (P : Program) (w : World) (ad : Addr) (v : Value) (ha : tmps.getD a undef = .pointer (some ad)) (hl : (loadVar t ad).run P w = .ok v w) :
    (results fn tmps).run P w = .ok v w := by
  rw [Array.getD_eq_getD_getElem?] at ha
  simp [results, h, ha, asAddr, hl]
set_option maxRecDepth 20000 in
set_option maxHeartbeats 1600000 in
theorem told_calls (n : Int) (s : ByteArray) (w : World) : Calls Try.prog 67 #[.agg #[.int .i64 n, .string s]] w fun e w' => ∃ g c, e = .returned (.agg #[.int .i64 n, .slice (some ⟨g, 0, none⟩) s.size c]) ∧ (∃ m, w'.heap[g]? = some (.cells (bytesRow s c) 5 ((bytesRow s c).size, m))) ∧ w.heap.size ≤ g ∧ Below w.heap.size w w' := by
  have qv := fun w : World => run_bytes_of_string (P := Try.prog) w 9 62 5 s Try.underlying9 Try.underlying62 Try.underlying5
  go_enter Try.func67, Try.ntmps67
  go_wp2_with fail
  generalize hcc : grownCap _ s.size 0 5 = cc
  refine bodyPost_ret (results_cell rfl _ _ _ ⟨w.heap.size + 1, 0, none⟩ (.agg #[.int .i64 n, .slice (some ⟨w.heap.size + 1 + 1, 0, none⟩) s.size cc]) rfl (by go_simp)) rfl ?_
  refine ⟨w.heap.size + 1 + 1, cc, rfl, ⟨(bytesRow s cc).size + 1, ?_⟩, by omega, (((((Below.refl _ _).alloc (Nat.le_refl _) _).alloc (by simp) _).alloc (by simp; omega) _)).drew⟩
  have h := blk_new ((w.alloc (.cells #[.int .i64 n, .string s] 130)).alloc (.cells #[.int .i64 n, .slice (some ⟨w.heap.size + 1 + 1, 0, none⟩) s.size cc] 71)) (.cells (bytesRow s cc) 5 ((bytesRow s cc).size, (bytesRow s cc).size + 1))
  rw [show ((w.alloc (.cells #[.int .i64 n, .string s] 130)).alloc (.cells #[.int .i64 n, .slice (some ⟨w.heap.size + 1 + 1, 0, none⟩) s.size cc] 71)).heap.size = w.heap.size + 1 + 1 by simp] at h
  exact h
end Go.Proofs.Ytfmggmpllggbnaa.Net
