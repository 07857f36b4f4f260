/- Look of an empty book: it holds. -/
import Derived.Test.YtfmggmpllggbnaaRNet4
namespace Go.Proofs.Ytfmggmpllggbnaa.BookE
open Go.RowKit Go.Proofs.YtfmggmpllggbnaaW.PrintWords
set_option linter.unusedVariables false
set_option linter.unusedSimpArgs false
abbrev NL : Value := .slice none 0 0
abbrev Z : Value := .int .i64 0
/-- A book that nothing was laid into. -/
abbrev bookCells : Array Value := #[NL, NL, Z, NL, NL, Z, NL, NL, Z, NL, NL, Z, NL, NL, Z, NL, NL, Z, NL, NL, Z, NL, NL, Z, NL, NL, Z, NL, NL, Z, NL, NL, Z, NL, NL, Z, NL, NL, Z, NL, NL, Z, NL, NL, Z, NL, NL, Z, NL, NL, Z, NL, NL, Z, Z, Z, Z]
abbrev Bk0 (W : World) (b : Nat) : Prop := W.heap[b]? = some (.cells bookCells 107 (0, 0))
set_option maxRecDepth 20000 in
set_option maxHeartbeats 1600000 in
theorem hold73_calls (W : World) (b : Nat) (h : Bk0 W b) : Calls Try.prog 73 #[.pointer (some ⟨b, 0, none⟩)] W fun e w' => e = .returned (.bool true) ∧ w' = W := by
  have c0 : W.cell? ⟨b, 0, none⟩ = some NL := blk_cell h 0
  have c3 : W.cell? ⟨b, 3, none⟩ = some NL := blk_cell h 3
  clear h
  go_enter Try.func73, Try.ntmps73
  go_wp2_with fail
  go_loop [3] (fun i => i = .int .i64 0) (fun _ => 0)
  case atStart => rfl
  case round =>
    subst hrel
    go_wp2_with fail
    go_loop [5] (fun i => i = .int .i64 0) (fun _ => 0)
    case atStart => rfl
    case round =>
      subst hrel
      go_wp2_with fail
      go_ret
      exact ⟨rfl, rfl⟩
set_option maxRecDepth 20000 in
set_option maxHeartbeats 1600000 in
theorem hold74_calls (W : World) (b : Nat) (h : Bk0 W b) : Calls Try.prog 74 #[.pointer (some ⟨b, 0, none⟩)] W fun e w' => e = .returned (.bool true) ∧ w' = W := by
  have c6 : W.cell? ⟨b, 6, none⟩ = some NL := blk_cell h 6
  have c9 : W.cell? ⟨b, 9, none⟩ = some NL := blk_cell h 9
  have c12 : W.cell? ⟨b, 12, none⟩ = some NL := blk_cell h 12
  have c15 : W.cell? ⟨b, 15, none⟩ = some NL := blk_cell h 15
  clear h
  go_enter Try.func74, Try.ntmps74
  go_wp2_with fail
  go_loop [3] (fun i => i = .int .i64 0) (fun _ => 0)
  case atStart => rfl
  case round =>
    subst hrel
    go_wp2_with fail
    go_loop [5] (fun i => i = .int .i64 0) (fun _ => 0)
    case atStart => rfl
    case round =>
      subst hrel
      go_wp2_with fail
      go_loop [7] (fun i => i = .int .i64 0) (fun _ => 0)
      case atStart => rfl
      case round =>
        subst hrel
        go_wp2_with fail
        go_loop [9] (fun i => i = .int .i64 0) (fun _ => 0)
        case atStart => rfl
        case round =>
          subst hrel
          go_wp2_with fail
          go_ret
          exact ⟨rfl, rfl⟩
set_option maxRecDepth 20000 in
set_option maxHeartbeats 1600000 in
theorem hold75_calls (W : World) (b : Nat) (h : Bk0 W b) : Calls Try.prog 75 #[.pointer (some ⟨b, 0, none⟩)] W fun e w' => e = .returned (.bool true) ∧ w' = W := by
  have c18 : W.cell? ⟨b, 18, none⟩ = some NL := blk_cell h 18
  have c21 : W.cell? ⟨b, 21, none⟩ = some NL := blk_cell h 21
  have c24 : W.cell? ⟨b, 24, none⟩ = some NL := blk_cell h 24
  have c27 : W.cell? ⟨b, 27, none⟩ = some NL := blk_cell h 27
  clear h
  go_enter Try.func75, Try.ntmps75
  go_wp2_with fail
  go_loop [3] (fun i => i = .int .i64 0) (fun _ => 0)
  case atStart => rfl
  case round =>
    subst hrel
    go_wp2_with fail
    go_loop [5] (fun i => i = .int .i64 0) (fun _ => 0)
    case atStart => rfl
    case round =>
      subst hrel
      go_wp2_with fail
      go_loop [7] (fun i => i = .int .i64 0) (fun _ => 0)
      case atStart => rfl
      case round =>
        subst hrel
        go_wp2_with fail
        go_loop [9] (fun i => i = .int .i64 0) (fun _ => 0)
        case atStart => rfl
        case round =>
          subst hrel
          go_wp2_with fail
          go_ret
          exact ⟨rfl, rfl⟩
set_option maxRecDepth 20000 in
set_option maxHeartbeats 1600000 in
theorem hold76_calls (W : World) (b : Nat) (h : Bk0 W b) : Calls Try.prog 76 #[.pointer (some ⟨b, 0, none⟩)] W fun e w' => e = .returned (.bool true) ∧ w' = W := by
  have c30 : W.cell? ⟨b, 30, none⟩ = some NL := blk_cell h 30
  have c33 : W.cell? ⟨b, 33, none⟩ = some NL := blk_cell h 33
  have c36 : W.cell? ⟨b, 36, none⟩ = some NL := blk_cell h 36
  have c39 : W.cell? ⟨b, 39, none⟩ = some NL := blk_cell h 39
  clear h
  go_enter Try.func76, Try.ntmps76
  go_wp2_with fail
  go_loop [3] (fun i => i = .int .i64 0) (fun _ => 0)
  case atStart => rfl
  case round =>
    subst hrel
    go_wp2_with fail
    go_loop [5] (fun i => i = .int .i64 0) (fun _ => 0)
    case atStart => rfl
    case round =>
      subst hrel
      go_wp2_with fail
      go_loop [7] (fun i => i = .int .i64 0) (fun _ => 0)
      case atStart => rfl
      case round =>
        subst hrel
        go_wp2_with fail
        go_loop [11] (fun i => i = .int .i64 0) (fun _ => 0)
        case atStart => rfl
        case round =>
          subst hrel
          go_wp2_with fail
          go_ret
          exact ⟨rfl, rfl⟩
set_option maxRecDepth 20000 in
set_option maxHeartbeats 1600000 in
theorem hold77_calls (W : World) (b : Nat) (h : Bk0 W b) : Calls Try.prog 77 #[.pointer (some ⟨b, 0, none⟩)] W fun e w' => e = .returned (.bool true) ∧ w' = W := by
  have c42 : W.cell? ⟨b, 42, none⟩ = some NL := blk_cell h 42
  have c45 : W.cell? ⟨b, 45, none⟩ = some NL := blk_cell h 45
  have c48 : W.cell? ⟨b, 48, none⟩ = some NL := blk_cell h 48
  have c51 : W.cell? ⟨b, 51, none⟩ = some NL := blk_cell h 51
  clear h
  go_enter Try.func77, Try.ntmps77
  go_wp2_with fail
  go_loop [3] (fun i => i = .int .i64 0) (fun _ => 0)
  case atStart => rfl
  case round =>
    subst hrel
    go_wp2_with fail
    go_loop [7] (fun i => i = .int .i64 0) (fun _ => 0)
    case atStart => rfl
    case round =>
      subst hrel
      go_wp2_with fail
      go_loop [11] (fun i => i = .int .i64 0) (fun _ => 0)
      case atStart => rfl
      case round =>
        subst hrel
        go_wp2_with fail
        go_loop [15] (fun i => i = .int .i64 0) (fun _ => 0)
        case atStart => rfl
        case round =>
          subst hrel
          go_wp2_with fail
          go_ret
          exact ⟨rfl, rfl⟩
set_option maxRecDepth 20000 in
theorem holds_calls (W : World) (b : Nat) (h : Bk0 W b) : Calls Try.prog 63 #[.pointer (some ⟨b, 0, none⟩)] W fun e w' => e = .returned (.bool true) ∧ w' = W := by
  have C1 := Lib.hid (hold73_calls W b h)
  have C2 := Lib.hid (hold74_calls W b h)
  have C3 := Lib.hid (hold75_calls W b h)
  have C4 := Lib.hid (hold76_calls W b h)
  have C5 := Lib.hid (hold77_calls W b h)
  clear h
  go_enter Try.func63, Try.ntmps63
  go_wp2_with fail
  refine C1.out.mono ?_; rintro e w1 ⟨rfl, hw⟩
  rw [hw]
  clear hw
  go_wp2_with fail
  refine C2.out.mono ?_; rintro e w2 ⟨rfl, hw⟩
  rw [hw]
  clear hw
  go_wp2_with fail
  refine C3.out.mono ?_; rintro e w3 ⟨rfl, hw⟩
  rw [hw]
  clear hw
  go_wp2_with fail
  refine C4.out.mono ?_; rintro e w4 ⟨rfl, hw⟩
  rw [hw]
  clear hw
  go_wp2_with fail
  refine C5.out.mono ?_; rintro e w5 ⟨rfl, hw⟩
  rw [hw]
  clear hw
  go_wp2_with fail
  go_ret
  exact ⟨rfl, rfl⟩
set_option maxRecDepth 20000 in
theorem look_calls (W : World) (b : Nat) (h : Bk0 W b) : Calls Try.prog 39 #[.pointer (some ⟨b, 0, none⟩)] W fun e w' => e = .returned (.bool true) ∧ Below W.heap.size W w' := by
  have C1 := Lib.hid (holds_calls W b h)
  have c54 : W.cell? ⟨b, 54, none⟩ = some Z := blk_cell h 54
  have c55 : W.cell? ⟨b, 55, none⟩ = some Z := blk_cell h 55
  clear h
  go_enter Try.func39, Try.ntmps39
  go_wp2_with fail
  refine C1.out.mono ?_; rintro e w1 ⟨rfl, hw⟩
  rw [hw]
  clear hw
  go_wp2_with fail
  go_quiet (fail)
  go_wp2_with fail
  go_ret
  exact ⟨rfl, pw_below_drewN (Below.refl _ _) _⟩
end Go.Proofs.Ytfmggmpllggbnaa.BookE
