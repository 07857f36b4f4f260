/- A net in memory; contracts of New, Len, Lost, put. -/
import Derived.Test.YtfmggmpllggbnaaProg
import Derived.WalkKit
import Derived.WalkSpells
import Derived.WalkLawsBesides
import Derived.Below
import Derived.Outline
import Derived.Lib.Hide
import Derived.LoopTactic
import Derived.Deep.QuietTactic
import Derived.BigQuiet
import Derived.BigRegion
import Derived.Laws.Rows
import Derived.KernelRfl
import Derived.OwnWalk
import Derived.Deep.AppendLies
import Derived.Deep.RegionLaw
import Derived.Test.YtfmggmpllggbnaaWWords
namespace Go.Proofs.Ytfmggmpllggbnaa.Net
open Go.RowKit Go.Proofs.YtfmggmpllggbnaaW.PrintWords
set_option linter.unusedVariables false
set_option linter.unusedSimpArgs false
/-- A message, as it lies in a row. -/
def msg (m : Int × ByteArray) : List Value := [.int .i64 m.1, .string m.2]
def cellsOf (ms : List (Int × ByteArray)) : List Value := ms.flatMap msg
theorem cellsOf_length (ms : List (Int × ByteArray)) : (cellsOf ms).length = ms.length * 2 := by
  induction ms with
  | nil => rfl
  | cons m ms ih =>
    show (msg m ++ cellsOf ms).length = _
    rw [List.length_append, ih]; simp [msg]; omega
theorem cellsOf_append (ms ns : List (Int × ByteArray)) : cellsOf (ms ++ ns) = cellsOf ms ++ cellsOf ns := by simp [cellsOf]
theorem cellsOf_get (ms : List (Int × ByteArray)) (k j : Nat) (hk : k < ms.length) (hj : j < 2) : (cellsOf ms)[k * 2 + j]? = (msg (ms[k]'hk))[j]? := by
  induction ms generalizing k with
  | nil => simp at hk
  | cons o os ih =>
    have hl : (msg o).length = 2 := rfl
    have e : cellsOf (o :: os) = msg o ++ cellsOf os := rfl
    rw [e]
    cases k with
    | zero => rw [List.getElem?_append_left (by omega)]; simp
    | succ k =>
      rw [List.getElem?_append_right (by omega), show (k + 1) * 2 + j - (msg o).length = k * 2 + j by omega]
      exact ih k (by simpa using hk)
/-- Net g: its row v of messages, the room, how many were lost. -/
structure Nt (W : World) (base g : Nat) (v : Value) (room : Int) (lost : Nat) (ms : List (Int × ByteArray)) : Prop where
  blk : W.heap[g]? = some (.cells #[v, .int .i64 room, .int .u64 lost] 69 (0, 0))
  le : base ≤ g
  own : W.ownsRow base 130 2 v ms.length (cellsOf ms)
theorem own_kind {w : World} {b s n : Nat} {e : TypeId} {v : Value} {xs : List Value} (h : w.ownsRow b e s v n xs) (g : Nat) (hg : v.ownBlock = some g) : ∃ cs, w.heap[g]? = some (.cells cs e (0, 0)) := by
  rcases h.2 with ⟨rfl, _⟩ | ⟨g', cap, cur, rfl, _, hh, _⟩
  · simp [Value.ownBlock] at hg
  · have : g' = g := by simpa [Value.ownBlock] using hg
    exact ⟨_, this ▸ hh⟩
theorem Nt.ne {W : World} {base g : Nat} {v : Value} {room : Int} {lost : Nat} {ms : List (Int × ByteArray)} (h : Nt W base g v room lost ms) : some g ≠ v.ownBlock := by
  intro e
  obtain ⟨cs, hk⟩ := own_kind h.own g e.symm
  rw [h.blk] at hk
  simp at hk
theorem slice_form {w : World} {base size n : Nat} {e : TypeId} {v : Value} {xs : List Value} (h : w.ownsRow base e size v n xs) : ∃ A c, v = .slice A n c := by
  rcases h.2 with ⟨rfl, rfl⟩ | ⟨g', cap, cur, rfl, _⟩
  · exact ⟨_, _, rfl⟩
  · exact ⟨_, _, rfl⟩
theorem new_calls (n : Int) (w : World) (base : Nat) (hb : base ≤ w.heap.size) (h1 : 1 ≤ n) (h2 : n ≤ 8192) :
    Calls Try.prog 22 #[.int .i64 n] w fun e w' => e = .returned (.tuple #[.pointer (some ⟨w.heap.size, 0, none⟩), .int .i64 0]) ∧ Nt w' base w.heap.size (.slice none 0 0) n 0 [] ∧ Below w.heap.size w w' := by
  have i1 : ¬ n < 1 := by omega
  have i2 : ¬ 8192 < n := by omega
  go_enter Try.func22, Try.ntmps22
  go_wp2_with fail
  go_ret2
  exact ⟨rfl, ⟨blk_new w _, hb, own_nil _ _ _ _⟩, (Below.refl _ _).alloc (Nat.le_refl _) _⟩
theorem new_refused (n : Int) (w : World) (h : n < 1 ∨ 8192 < n) :
    Calls Try.prog 22 #[.int .i64 n] w fun e w' => e = .returned (.tuple #[.pointer none, .int .i64 60]) ∧ w' = w := by
  rcases h with h | h
  · go_enter Try.func22, Try.ntmps22
    go_wp2_with fail
    go_ret2
    exact ⟨rfl, rfl⟩
  · have i1 : ¬ n < 1 := by omega
    go_enter Try.func22, Try.ntmps22
    go_wp2_with fail
    go_ret2
    exact ⟨rfl, rfl⟩
theorem len_calls (W : World) (base g : Nat) (v : Value) (room : Int) (lost : Nat) (ms : List (Int × ByteArray)) (h : Nt W base g v room lost ms) :
    Calls Try.prog 31 #[.pointer (some ⟨g, 0, none⟩)] W fun e w' => e = .returned (.int .i64 (ms.length : Int)) ∧ w' = W := by
  obtain ⟨A, c, rfl⟩ := slice_form h.own
  have hc := blk_cell h.blk 0
  simp at hc
  clear h
  go_enter Try.func31, Try.ntmps31
  go_wp2_with fail
  go_ret
  exact ⟨rfl, rfl⟩
theorem lost_calls (W : World) (base g : Nat) (v : Value) (room : Int) (lost : Nat) (ms : List (Int × ByteArray)) (h : Nt W base g v room lost ms) :
    Calls Try.prog 32 #[.pointer (some ⟨g, 0, none⟩)] W fun e w' => e = .returned (.int .u64 (lost : Int)) ∧ w' = W := by
  have hc := blk_cell h.blk 2
  simp at hc
  clear h
  go_enter Try.func32, Try.ntmps32
  go_wp2_with fail
  go_ret
  exact ⟨rfl, rfl⟩
end Go.Proofs.Ytfmggmpllggbnaa.Net
