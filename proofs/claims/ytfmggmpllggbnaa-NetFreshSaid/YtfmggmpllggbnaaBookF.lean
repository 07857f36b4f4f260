/- A book of byte lists: the other kinds are empty: they hold, and nothing grows. -/
import Derived.Test.YtfmggmpllggbnaaBookD
import Derived.Lib.Hide
import Derived.LoopTactic
import Derived.WalkSpells
import Derived.Outline
import Derived.Test.YtfmggmpllggbnaaProg
namespace Go.Proofs.Ytfmggmpllggbnaa.Book
open Go.RowKit Go.Proofs.YtfmggmpllggbnaaW.PrintWords Go.Proofs.Ytfmggmpllggbnaa.Mem
set_option linter.unusedVariables false
set_option linter.unusedSimpArgs false

set_option maxRecDepth 20000 in
set_option maxHeartbeats 1600000 in
theorem kept_calls (W : World) (b : Nat) (s : BkS) (h : W.heap[b]? = some (.cells (bkC s) 107 (0, 0))) : Calls Try.prog 74 #[pt b] W fun e w' => e = .returned (.bool true) ∧ w' = W := by
  have c6 : W.cell? ⟨b, 6, none⟩ = some NL := blk_cell h 6
  have c9 : W.cell? ⟨b, 9, none⟩ = some NL := blk_cell h 9
  have c12 : W.cell? ⟨b, 12, none⟩ = some NL := blk_cell h 12
  have c15 : W.cell? ⟨b, 15, none⟩ = some NL := blk_cell h 15
  clear h
  go_enter Try.func74, Try.ntmps74
  go_wp2_with fail
  go_loop [3] (fun i => i = .int .i64 0) (fun _ => 0)
  case atStart => rfl
  case round =>
    subst hrel
    go_wp2_with fail
    go_loop [5] (fun i => i = .int .i64 0) (fun _ => 0)
    case atStart => rfl
    case round =>
      subst hrel
      go_wp2_with fail
      go_loop [7] (fun i => i = .int .i64 0) (fun _ => 0)
      case atStart => rfl
      case round =>
        subst hrel
        go_wp2_with fail
        go_loop [9] (fun i => i = .int .i64 0) (fun _ => 0)
        case atStart => rfl
        case round =>
          subst hrel
          go_wp2_with fail
          go_ret
          exact ⟨rfl, rfl⟩
set_option maxRecDepth 20000 in
set_option maxHeartbeats 1600000 in
theorem told_calls (W : World) (b : Nat) (s : BkS) (h : W.heap[b]? = some (.cells (bkC s) 107 (0, 0))) : Calls Try.prog 75 #[pt b] W fun e w' => e = .returned (.bool true) ∧ w' = W := by
  have c18 : W.cell? ⟨b, 18, none⟩ = some NL := blk_cell h 18
  have c21 : W.cell? ⟨b, 21, none⟩ = some NL := blk_cell h 21
  have c24 : W.cell? ⟨b, 24, none⟩ = some NL := blk_cell h 24
  have c27 : W.cell? ⟨b, 27, none⟩ = some NL := blk_cell h 27
  clear h
  go_enter Try.func75, Try.ntmps75
  go_wp2_with fail
  go_loop [3] (fun i => i = .int .i64 0) (fun _ => 0)
  case atStart => rfl
  case round =>
    subst hrel
    go_wp2_with fail
    go_loop [5] (fun i => i = .int .i64 0) (fun _ => 0)
    case atStart => rfl
    case round =>
      subst hrel
      go_wp2_with fail
      go_loop [7] (fun i => i = .int .i64 0) (fun _ => 0)
      case atStart => rfl
      case round =>
        subst hrel
        go_wp2_with fail
        go_loop [9] (fun i => i = .int .i64 0) (fun _ => 0)
        case atStart => rfl
        case round =>
          subst hrel
          go_wp2_with fail
          go_ret
          exact ⟨rfl, rfl⟩
set_option maxRecDepth 20000 in
set_option maxHeartbeats 1600000 in
theorem held_calls (W : World) (b : Nat) (s : BkS) (h : W.heap[b]? = some (.cells (bkC s) 107 (0, 0))) : Calls Try.prog 76 #[pt b] W fun e w' => e = .returned (.bool true) ∧ w' = W := by
  have c30 : W.cell? ⟨b, 30, none⟩ = some NL := blk_cell h 30
  have c33 : W.cell? ⟨b, 33, none⟩ = some NL := blk_cell h 33
  have c36 : W.cell? ⟨b, 36, none⟩ = some NL := blk_cell h 36
  have c39 : W.cell? ⟨b, 39, none⟩ = some NL := blk_cell h 39
  clear h
  go_enter Try.func76, Try.ntmps76
  go_wp2_with fail
  go_loop [3] (fun i => i = .int .i64 0) (fun _ => 0)
  case atStart => rfl
  case round =>
    subst hrel
    go_wp2_with fail
    go_loop [5] (fun i => i = .int .i64 0) (fun _ => 0)
    case atStart => rfl
    case round =>
      subst hrel
      go_wp2_with fail
      go_loop [7] (fun i => i = .int .i64 0) (fun _ => 0)
      case atStart => rfl
      case round =>
        subst hrel
        go_wp2_with fail
        go_loop [11] (fun i => i = .int .i64 0) (fun _ => 0)
        case atStart => rfl
        case round =>
          subst hrel
          go_wp2_with fail
          go_ret
          exact ⟨rfl, rfl⟩
set_option maxRecDepth 20000 in
set_option maxHeartbeats 1600000 in
theorem sent_calls (W : World) (b : Nat) (s : BkS) (h : W.heap[b]? = some (.cells (bkC s) 107 (0, 0))) : Calls Try.prog 77 #[pt b] W fun e w' => e = .returned (.bool true) ∧ w' = W := by
  have c42 : W.cell? ⟨b, 42, none⟩ = some NL := blk_cell h 42
  have c45 : W.cell? ⟨b, 45, none⟩ = some NL := blk_cell h 45
  have c48 : W.cell? ⟨b, 48, none⟩ = some NL := blk_cell h 48
  have c51 : W.cell? ⟨b, 51, none⟩ = some NL := blk_cell h 51
  clear h
  go_enter Try.func77, Try.ntmps77
  go_wp2_with fail
  go_loop [3] (fun i => i = .int .i64 0) (fun _ => 0)
  case atStart => rfl
  case round =>
    subst hrel
    go_wp2_with fail
    go_loop [7] (fun i => i = .int .i64 0) (fun _ => 0)
    case atStart => rfl
    case round =>
      subst hrel
      go_wp2_with fail
      go_loop [11] (fun i => i = .int .i64 0) (fun _ => 0)
      case atStart => rfl
      case round =>
        subst hrel
        go_wp2_with fail
        go_loop [15] (fun i => i = .int .i64 0) (fun _ => 0)
        case atStart => rfl
        case round =>
          subst hrel
          go_wp2_with fail
          go_ret
          exact ⟨rfl, rfl⟩
set_option maxRecDepth 20000 in
set_option maxHeartbeats 1600000 in
theorem growRows_calls (w0 W : World) (R : List Ent) (b : Nat) (s : BkS) (h : St w0 W (B b (bkC s) 107 :: R)) : Calls Try.prog 79 #[pt b] W fun e w' => e = .returned (.tuple #[]) ∧ St w0 w' (B b (bkC s) 107 :: R) := by
  have c0 : W.cell? ⟨b, 3, none⟩ = some NL := blk_cell h.hd 3
  have c2 : W.cell? ⟨b, 5, none⟩ = some Z := blk_cell h.hd 5
  have f2 := blk_frozen h.hd 5
  have HP := Lib.hid (h.put (cs' := bkC s) 5 Z rfl)
  clear h
  go_enter Try.func79, Try.ntmps79
  go_wp2_with fail
  go_loop [3] (fun i => i = .int .i64 0) (fun _ => 0)
  case atStart => rfl
  case round =>
    subst hrel
    go_wp2_with fail
    go_end0
    exact ⟨rfl, HP.out⟩
set_option maxRecDepth 20000 in
set_option maxHeartbeats 1600000 in
theorem growTexts_calls (w0 W : World) (R : List Ent) (b : Nat) (s : BkS) (h : St w0 W (B b (bkC s) 107 :: R)) : Calls Try.prog 80 #[pt b] W fun e w' => e = .returned (.tuple #[]) ∧ St w0 w' (B b (bkC s) 107 :: R) := by
  have c0 : W.cell? ⟨b, 6, none⟩ = some NL := blk_cell h.hd 6
  have c2 : W.cell? ⟨b, 8, none⟩ = some Z := blk_cell h.hd 8
  have f2 := blk_frozen h.hd 8
  have HP := Lib.hid (h.put (cs' := bkC s) 8 Z rfl)
  clear h
  go_enter Try.func80, Try.ntmps80
  go_wp2_with fail
  go_loop [3] (fun i => i = .int .i64 0) (fun _ => 0)
  case atStart => rfl
  case round =>
    subst hrel
    go_wp2_with fail
    go_end0
    exact ⟨rfl, HP.out⟩
set_option maxRecDepth 20000 in
set_option maxHeartbeats 1600000 in
theorem growInts_calls (w0 W : World) (R : List Ent) (b : Nat) (s : BkS) (h : St w0 W (B b (bkC s) 107 :: R)) : Calls Try.prog 81 #[pt b] W fun e w' => e = .returned (.tuple #[]) ∧ St w0 w' (B b (bkC s) 107 :: R) := by
  have c0 : W.cell? ⟨b, 9, none⟩ = some NL := blk_cell h.hd 9
  have c2 : W.cell? ⟨b, 11, none⟩ = some Z := blk_cell h.hd 11
  have f2 := blk_frozen h.hd 11
  have HP := Lib.hid (h.put (cs' := bkC s) 11 Z rfl)
  clear h
  go_enter Try.func81, Try.ntmps81
  go_wp2_with fail
  go_loop [3] (fun i => i = .int .i64 0) (fun _ => 0)
  case atStart => rfl
  case round =>
    subst hrel
    go_wp2_with fail
    go_end0
    exact ⟨rfl, HP.out⟩
set_option maxRecDepth 20000 in
set_option maxHeartbeats 1600000 in
theorem growWords_calls (w0 W : World) (R : List Ent) (b : Nat) (s : BkS) (h : St w0 W (B b (bkC s) 107 :: R)) : Calls Try.prog 82 #[pt b] W fun e w' => e = .returned (.tuple #[]) ∧ St w0 w' (B b (bkC s) 107 :: R) := by
  have c0 : W.cell? ⟨b, 12, none⟩ = some NL := blk_cell h.hd 12
  have c2 : W.cell? ⟨b, 14, none⟩ = some Z := blk_cell h.hd 14
  have f2 := blk_frozen h.hd 14
  have HP := Lib.hid (h.put (cs' := bkC s) 14 Z rfl)
  clear h
  go_enter Try.func82, Try.ntmps82
  go_wp2_with fail
  go_loop [3] (fun i => i = .int .i64 0) (fun _ => 0)
  case atStart => rfl
  case round =>
    subst hrel
    go_wp2_with fail
    go_end0
    exact ⟨rfl, HP.out⟩
set_option maxRecDepth 20000 in
set_option maxHeartbeats 1600000 in
theorem growBools_calls (w0 W : World) (R : List Ent) (b : Nat) (s : BkS) (h : St w0 W (B b (bkC s) 107 :: R)) : Calls Try.prog 83 #[pt b] W fun e w' => e = .returned (.tuple #[]) ∧ St w0 w' (B b (bkC s) 107 :: R) := by
  have c0 : W.cell? ⟨b, 15, none⟩ = some NL := blk_cell h.hd 15
  have c2 : W.cell? ⟨b, 17, none⟩ = some Z := blk_cell h.hd 17
  have f2 := blk_frozen h.hd 17
  have HP := Lib.hid (h.put (cs' := bkC s) 17 Z rfl)
  clear h
  go_enter Try.func83, Try.ntmps83
  go_wp2_with fail
  go_loop [3] (fun i => i = .int .i64 0) (fun _ => 0)
  case atStart => rfl
  case round =>
    subst hrel
    go_wp2_with fail
    go_end0
    exact ⟨rfl, HP.out⟩
set_option maxRecDepth 20000 in
set_option maxHeartbeats 1600000 in
theorem growLines_calls (w0 W : World) (R : List Ent) (b : Nat) (s : BkS) (h : St w0 W (B b (bkC s) 107 :: R)) : Calls Try.prog 84 #[pt b] W fun e w' => e = .returned (.tuple #[]) ∧ St w0 w' (B b (bkC s) 107 :: R) := by
  have c0 : W.cell? ⟨b, 18, none⟩ = some NL := blk_cell h.hd 18
  have c2 : W.cell? ⟨b, 20, none⟩ = some Z := blk_cell h.hd 20
  have f2 := blk_frozen h.hd 20
  have HP := Lib.hid (h.put (cs' := bkC s) 20 Z rfl)
  clear h
  go_enter Try.func84, Try.ntmps84
  go_wp2_with fail
  go_loop [3] (fun i => i = .int .i64 0) (fun _ => 0)
  case atStart => rfl
  case round =>
    subst hrel
    go_wp2_with fail
    go_end0
    exact ⟨rfl, HP.out⟩
set_option maxRecDepth 20000 in
set_option maxHeartbeats 1600000 in
theorem growGuards_calls (w0 W : World) (R : List Ent) (b : Nat) (s : BkS) (h : St w0 W (B b (bkC s) 107 :: R)) : Calls Try.prog 85 #[pt b] W fun e w' => e = .returned (.tuple #[]) ∧ St w0 w' (B b (bkC s) 107 :: R) := by
  have c0 : W.cell? ⟨b, 21, none⟩ = some NL := blk_cell h.hd 21
  have c2 : W.cell? ⟨b, 23, none⟩ = some Z := blk_cell h.hd 23
  have f2 := blk_frozen h.hd 23
  have HP := Lib.hid (h.put (cs' := bkC s) 23 Z rfl)
  clear h
  go_enter Try.func85, Try.ntmps85
  go_wp2_with fail
  go_loop [3] (fun i => i = .int .i64 0) (fun _ => 0)
  case atStart => rfl
  case round =>
    subst hrel
    go_wp2_with fail
    go_end0
    exact ⟨rfl, HP.out⟩
set_option maxRecDepth 20000 in
set_option maxHeartbeats 1600000 in
theorem growSets_calls (w0 W : World) (R : List Ent) (b : Nat) (s : BkS) (h : St w0 W (B b (bkC s) 107 :: R)) : Calls Try.prog 86 #[pt b] W fun e w' => e = .returned (.tuple #[]) ∧ St w0 w' (B b (bkC s) 107 :: R) := by
  have c0 : W.cell? ⟨b, 24, none⟩ = some NL := blk_cell h.hd 24
  have c2 : W.cell? ⟨b, 26, none⟩ = some Z := blk_cell h.hd 26
  have f2 := blk_frozen h.hd 26
  have HP := Lib.hid (h.put (cs' := bkC s) 26 Z rfl)
  clear h
  go_enter Try.func86, Try.ntmps86
  go_wp2_with fail
  go_loop [3] (fun i => i = .int .i64 0) (fun _ => 0)
  case atStart => rfl
  case round =>
    subst hrel
    go_wp2_with fail
    go_end0
    exact ⟨rfl, HP.out⟩
set_option maxRecDepth 20000 in
set_option maxHeartbeats 1600000 in
theorem growRights_calls (w0 W : World) (R : List Ent) (b : Nat) (s : BkS) (h : St w0 W (B b (bkC s) 107 :: R)) : Calls Try.prog 87 #[pt b] W fun e w' => e = .returned (.tuple #[]) ∧ St w0 w' (B b (bkC s) 107 :: R) := by
  have c0 : W.cell? ⟨b, 27, none⟩ = some NL := blk_cell h.hd 27
  have c2 : W.cell? ⟨b, 29, none⟩ = some Z := blk_cell h.hd 29
  have f2 := blk_frozen h.hd 29
  have HP := Lib.hid (h.put (cs' := bkC s) 29 Z rfl)
  clear h
  go_enter Try.func87, Try.ntmps87
  go_wp2_with fail
  go_loop [3] (fun i => i = .int .i64 0) (fun _ => 0)
  case atStart => rfl
  case round =>
    subst hrel
    go_wp2_with fail
    go_end0
    exact ⟨rfl, HP.out⟩
set_option maxRecDepth 20000 in
set_option maxHeartbeats 1600000 in
theorem growPrices_calls (w0 W : World) (R : List Ent) (b : Nat) (s : BkS) (h : St w0 W (B b (bkC s) 107 :: R)) : Calls Try.prog 88 #[pt b] W fun e w' => e = .returned (.tuple #[]) ∧ St w0 w' (B b (bkC s) 107 :: R) := by
  have c0 : W.cell? ⟨b, 30, none⟩ = some NL := blk_cell h.hd 30
  have c2 : W.cell? ⟨b, 32, none⟩ = some Z := blk_cell h.hd 32
  have f2 := blk_frozen h.hd 32
  have HP := Lib.hid (h.put (cs' := bkC s) 32 Z rfl)
  clear h
  go_enter Try.func88, Try.ntmps88
  go_wp2_with fail
  go_loop [3] (fun i => i = .int .i64 0) (fun _ => 0)
  case atStart => rfl
  case round =>
    subst hrel
    go_wp2_with fail
    go_end0
    exact ⟨rfl, HP.out⟩
set_option maxRecDepth 20000 in
set_option maxHeartbeats 1600000 in
theorem growHelds_calls (w0 W : World) (R : List Ent) (b : Nat) (s : BkS) (h : St w0 W (B b (bkC s) 107 :: R)) : Calls Try.prog 89 #[pt b] W fun e w' => e = .returned (.tuple #[]) ∧ St w0 w' (B b (bkC s) 107 :: R) := by
  have c0 : W.cell? ⟨b, 33, none⟩ = some NL := blk_cell h.hd 33
  have c2 : W.cell? ⟨b, 35, none⟩ = some Z := blk_cell h.hd 35
  have f2 := blk_frozen h.hd 35
  have HP := Lib.hid (h.put (cs' := bkC s) 35 Z rfl)
  clear h
  go_enter Try.func89, Try.ntmps89
  go_wp2_with fail
  go_loop [3] (fun i => i = .int .i64 0) (fun _ => 0)
  case atStart => rfl
  case round =>
    subst hrel
    go_wp2_with fail
    go_end0
    exact ⟨rfl, HP.out⟩
set_option maxRecDepth 20000 in
set_option maxHeartbeats 1600000 in
theorem growPools_calls (w0 W : World) (R : List Ent) (b : Nat) (s : BkS) (h : St w0 W (B b (bkC s) 107 :: R)) : Calls Try.prog 90 #[pt b] W fun e w' => e = .returned (.tuple #[]) ∧ St w0 w' (B b (bkC s) 107 :: R) := by
  have c0 : W.cell? ⟨b, 36, none⟩ = some NL := blk_cell h.hd 36
  have c2 : W.cell? ⟨b, 38, none⟩ = some Z := blk_cell h.hd 38
  have f2 := blk_frozen h.hd 38
  have HP := Lib.hid (h.put (cs' := bkC s) 38 Z rfl)
  clear h
  go_enter Try.func90, Try.ntmps90
  go_wp2_with fail
  go_loop [3] (fun i => i = .int .i64 0) (fun _ => 0)
  case atStart => rfl
  case round =>
    subst hrel
    go_wp2_with fail
    go_end0
    exact ⟨rfl, HP.out⟩
set_option maxRecDepth 20000 in
set_option maxHeartbeats 1600000 in
theorem growActs_calls (w0 W : World) (R : List Ent) (b : Nat) (s : BkS) (h : St w0 W (B b (bkC s) 107 :: R)) : Calls Try.prog 91 #[pt b] W fun e w' => e = .returned (.tuple #[]) ∧ St w0 w' (B b (bkC s) 107 :: R) := by
  have c0 : W.cell? ⟨b, 39, none⟩ = some NL := blk_cell h.hd 39
  have c2 : W.cell? ⟨b, 41, none⟩ = some Z := blk_cell h.hd 41
  have f2 := blk_frozen h.hd 41
  have HP := Lib.hid (h.put (cs' := bkC s) 41 Z rfl)
  clear h
  go_enter Try.func91, Try.ntmps91
  go_wp2_with fail
  go_loop [3] (fun i => i = .int .i64 0) (fun _ => 0)
  case atStart => rfl
  case round =>
    subst hrel
    go_wp2_with fail
    go_end0
    exact ⟨rfl, HP.out⟩
set_option maxRecDepth 20000 in
set_option maxHeartbeats 1600000 in
theorem growEntries_calls (w0 W : World) (R : List Ent) (b : Nat) (s : BkS) (h : St w0 W (B b (bkC s) 107 :: R)) : Calls Try.prog 92 #[pt b] W fun e w' => e = .returned (.tuple #[]) ∧ St w0 w' (B b (bkC s) 107 :: R) := by
  have c0 : W.cell? ⟨b, 42, none⟩ = some NL := blk_cell h.hd 42
  have c2 : W.cell? ⟨b, 44, none⟩ = some Z := blk_cell h.hd 44
  have f2 := blk_frozen h.hd 44
  have HP := Lib.hid (h.put (cs' := bkC s) 44 Z rfl)
  clear h
  go_enter Try.func92, Try.ntmps92
  go_wp2_with fail
  go_loop [3] (fun i => i = .int .i64 0) (fun _ => 0)
  case atStart => rfl
  case round =>
    subst hrel
    go_wp2_with fail
    go_end0
    exact ⟨rfl, HP.out⟩
set_option maxRecDepth 20000 in
set_option maxHeartbeats 1600000 in
theorem growFlights_calls (w0 W : World) (R : List Ent) (b : Nat) (s : BkS) (h : St w0 W (B b (bkC s) 107 :: R)) : Calls Try.prog 93 #[pt b] W fun e w' => e = .returned (.tuple #[]) ∧ St w0 w' (B b (bkC s) 107 :: R) := by
  have c0 : W.cell? ⟨b, 45, none⟩ = some NL := blk_cell h.hd 45
  have c2 : W.cell? ⟨b, 47, none⟩ = some Z := blk_cell h.hd 47
  have f2 := blk_frozen h.hd 47
  have HP := Lib.hid (h.put (cs' := bkC s) 47 Z rfl)
  clear h
  go_enter Try.func93, Try.ntmps93
  go_wp2_with fail
  go_loop [3] (fun i => i = .int .i64 0) (fun _ => 0)
  case atStart => rfl
  case round =>
    subst hrel
    go_wp2_with fail
    go_end0
    exact ⟨rfl, HP.out⟩
set_option maxRecDepth 20000 in
set_option maxHeartbeats 1600000 in
theorem growFiles_calls (w0 W : World) (R : List Ent) (b : Nat) (s : BkS) (h : St w0 W (B b (bkC s) 107 :: R)) : Calls Try.prog 94 #[pt b] W fun e w' => e = .returned (.tuple #[]) ∧ St w0 w' (B b (bkC s) 107 :: R) := by
  have c0 : W.cell? ⟨b, 48, none⟩ = some NL := blk_cell h.hd 48
  have c2 : W.cell? ⟨b, 50, none⟩ = some Z := blk_cell h.hd 50
  have f2 := blk_frozen h.hd 50
  have HP := Lib.hid (h.put (cs' := bkC s) 50 Z rfl)
  clear h
  go_enter Try.func94, Try.ntmps94
  go_wp2_with fail
  go_loop [3] (fun i => i = .int .i64 0) (fun _ => 0)
  case atStart => rfl
  case round =>
    subst hrel
    go_wp2_with fail
    go_end0
    exact ⟨rfl, HP.out⟩
set_option maxRecDepth 20000 in
set_option maxHeartbeats 1600000 in
theorem growItems_calls (w0 W : World) (R : List Ent) (b : Nat) (s : BkS) (h : St w0 W (B b (bkC s) 107 :: R)) : Calls Try.prog 95 #[pt b] W fun e w' => e = .returned (.tuple #[]) ∧ St w0 w' (B b (bkC s) 107 :: R) := by
  have c0 : W.cell? ⟨b, 51, none⟩ = some NL := blk_cell h.hd 51
  have c2 : W.cell? ⟨b, 53, none⟩ = some Z := blk_cell h.hd 53
  have f2 := blk_frozen h.hd 53
  have HP := Lib.hid (h.put (cs' := bkC s) 53 Z rfl)
  clear h
  go_enter Try.func95, Try.ntmps95
  go_wp2_with fail
  go_loop [3] (fun i => i = .int .i64 0) (fun _ => 0)
  case atStart => rfl
  case round =>
    subst hrel
    go_wp2_with fail
    go_end0
    exact ⟨rfl, HP.out⟩
end Go.Proofs.Ytfmggmpllggbnaa.Book
