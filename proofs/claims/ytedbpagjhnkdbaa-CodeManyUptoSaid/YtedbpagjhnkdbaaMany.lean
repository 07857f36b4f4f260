/- CodeMany: what each step keeps of the Writers, the lists, the Readers. -/
import Derived.Test.YtedbpagjhnkdbaaFam
import Derived.Test.YtedbpagjhnkdbaaReader2
namespace Go.Proofs.Ytedbpagjhnkdbaa.Wr
open Go.RowKit Go.Proofs.YtedbpagjhnkdbaaW.PrintWords Go.Proofs.Ytedbpagjhnkdbaa.Bytes
set_option linter.unusedVariables false
set_option linter.unusedSimpArgs false
theorem into_gen (i n : Int) (w : World) (hn : 0 < n) (hn2 : n ≤ 1073741824) (h1 : -9223372036854775808 ≤ i) (h2 : i ≤ 9223372036854775807) :
    Calls Try.prog 20 #[.int .i64 i, .int .i64 n] w fun e w' => e = .returned (.int .i64 (i % n)) ∧ w' = w := by
  have r1 : ¬ n = 0 := by omega
  have b1 := Int.tmod_lt_of_pos i hn
  have b2 := Int.lt_tmod_of_pos i hn
  by_cases hi : i.tmod n < 0
  · have e : i % n = wrap64 (i.tmod n + n) := by
      rw [show wrap64 (i.tmod n + n) = i.tmod n + n by unfold wrap64; omega]
      have h := Int.mul_tdiv_add_tmod i n
      rw [← Int.emod_eq_of_lt (a := i.tmod n + n) (b := n) (by omega) (by omega)]
      conv => lhs; rw [← h]
      rw [Int.mul_add_emod_self_left, Int.add_emod_right]
    rw [e]
    clear e b1 b2
    go_enter Try.func20, Try.ntmps20
    go_wp2_with fail
    go_ret
    exact ⟨rfl, rfl⟩
  · have e : i % n = i.tmod n := by
      have h := Int.mul_tdiv_add_tmod i n
      rw [← Int.emod_eq_of_lt (a := i.tmod n) (b := n) (by omega) b1]
      conv => lhs; rw [← h]
      rw [Int.mul_add_emod_self_left]
    rw [e]
    clear e b1 b2
    go_enter Try.func20, Try.ntmps20
    go_wp2_with fail
    go_ret
    exact ⟨rfl, rfl⟩
theorem info42 : (Try.prog.info? 42).map (fun i => (i.zero, i.size, i.bytes)) = some (some (.pointer none), 1, 8) := by kernel_rfl
theorem info61 : (Try.prog.info? 61).map (fun i => (i.zero, i.size, i.bytes)) = some (some (.pointer none), 1, 8) := by kernel_rfl
theorem info27 : (Try.prog.info? 27).map (fun i => (i.zero, i.size, i.bytes)) = some (some (.slice none 0 0), 1, 24) := by kernel_rfl
abbrev ptr (a : Nat) : Value := .pointer (some ⟨a, 0, none⟩)
/-- A new Writer, laid behind the others; nothing in the list for it. -/
theorem Many.add {W W1 W2 W3 : World} {B n : Nat} {g : Nat → Nat} {v h : Nat → Value} {x : Nat → List Int} {wv hv wv2 hv2 : Value} {g' : Nat} (m : Many W B n g v h x wv hv) (hb : Below W.heap.size W W1) (hw : Wtr W1 B g' (.slice none 0 0) []) (hg' : W.heap.size ≤ g')
    (h2 : W1.grownBy W2 wv.ownBlock) (r2 : W2.ownsRow B 42 1 wv2 (n + 1) (((List.range n).map fun i => Value.pointer (some ⟨g i, 0, none⟩)) ++ [Value.pointer (some ⟨g', 0, none⟩)]))
    (h3 : W2.grownBy W3 hv.ownBlock) (r3 : W3.ownsRow B 27 1 hv2 (n + 1) (((List.range n).map fun i => h i) ++ [Value.slice none 0 0])) :
    Many W3 B (n + 1) (upd g n g') (upd v n (.slice none 0 0)) (upd h n (.slice none 0 0)) (upd x n []) wv2 hv2 := by
  have m1 := m.below hb
  have q1 : W2.ownsRow B 27 1 hv n ((List.range n).map fun i => h i) := own_other m1.hr h2 (type_ne m1.hr m1.wr (by decide))
  have f2 := m1.fam.grow h2 (own_types m1.wr (by decide) (by decide))
  have f3 := f2.grow h3 (own_types q1 (by decide) (by decide))
  have w2 := wtr_grown hw h2 (fun e => by
    obtain ⟨cs, t, hk, _, h100⟩ := own_types m1.wr (by decide) (by decide) g' e.symm
    rw [hw.blk] at hk; injection hk with hk; injection hk with _ hk; exact h100 hk.symm) (.inl rfl)
  have w3 := wtr_grown w2 h3 (fun e => by
    obtain ⟨cs, t, hk, _, h100⟩ := own_types q1 (by decide) (by decide) g' e.symm
    rw [w2.blk] at hk; injection hk with hk; injection hk with _ hk; exact h100 hk.symm) (.inl rfl)
  refine ⟨f3.add w3 (fun i hi => by have := blk_lt (m.fam.wt i hi).blk; omega), ?_, ?_⟩
  · have e := map_add g (fun a => Value.pointer (some ⟨a, 0, none⟩)) n g'
    rw [← e]; exact own_other r2 h3 (type_ne r2 q1 (by decide))
  · have e := map_add h (fun a => a) n (Value.slice none 0 0)
    rw [← e]; exact r3
/-- A list of the call's own laid in the place of a Writer's list. -/
theorem Two.swap {W W1 W2 : World} {B g : Nat} {v h v' h' r : Value} {xs zs ys : List Int} (t : Two W W1 B g v h v' h' xs zs) (hB : B ≤ W.heap.size) (hb : Below W1.heap.size W1 W2) (ho : W2.ownsRow W1.heap.size 5 1 r ys.length (encs I ys)) (hpos : 0 < ys.length) : Two W W2 B g v h v' r xs ys := by
  obtain ⟨gr, cap, rfl, hle, _⟩ := ho.form hpos
  have t2 := t.below hB hb
  refine ⟨t2.wt, own_less ho (Nat.le_trans hB t.size), fun k hk hk2 => ?_, t2.bl, t2.fr, t2.hv, .inr ⟨gr, rfl, Nat.le_trans t.size hle⟩⟩
  have h1 := own_lt t.wt.own k hk
  simp [Value.ownBlock] at hk2
  omega
/-- A block of another type than the Writers', the lists', the rows' is written. -/
theorem Many.keep {W W' : World} {B n : Nat} {g : Nat → Nat} {v h : Nat → Value} {x : Nat → List Int} {wv hv : Value} (m : Many W B n g v h x wv hv) {b : Nat} (hk : KeepBut W W' b none) {cs : Array Value} (hb : W.heap[b]? = some (.cells cs 108 (0, 0))) : Many W' B n g v h x wv hv :=
  ⟨⟨fun i hi => ⟨hk.blk (m.fam.wt i hi).blk (blk_ne (m.fam.wt i hi).blk hb (by decide)) (by simp), (m.fam.wt i hi).le, hk.own (m.fam.wt i hi).own (ne_blockT hb (by decide) (m.fam.wt i hi).own) (by cases (v i).ownBlock <;> simp)⟩,
    fun i hi => hk.own (m.fam.ho i hi) (ne_blockT hb (by decide) (m.fam.ho i hi)) (by cases (h i).ownBlock <;> simp), m.fam.nvh, m.fam.nvv, m.fam.nhh, m.fam.gg⟩,
    hk.own m.wr (ne_blockT hb (by decide) m.wr) (by cases wv.ownBlock <;> simp), hk.own m.hr (ne_blockT hb (by decide) m.hr) (by cases hv.ownBlock <;> simp)⟩
theorem rdr_keep {W W' : World} {base g : Nat} {v : Value} {xs : List Int} {a m : Int} (h : Rdr W base g v xs a m) {b : Nat} (hk : KeepBut W W' b none) {cs : Array Value} (hb : W.heap[b]? = some (.cells cs 108 (0, 0))) (hne : g ≠ b) : Rdr W' base g v xs a m :=
  ⟨hk.blk h.blk hne (by simp), h.le, hk.own h.own (ne_blockT hb (by decide) h.own) (by cases v.ownBlock <;> simp)⟩
theorem rdr_grown {W W' : World} {base g n : Nat} {v : Value} {xs : List Int} {a m : Int} (h : Rdr W base g v xs a m) {u : Value} {us : List Value} (ho : W.ownsRow base 61 1 u n us) (hg : W.grownBy W' u.ownBlock) : Rdr W' base g v xs a m :=
  ⟨blk_grown h.blk hg (fun e => ne_blockT h.blk (by decide) ho e.symm), h.le, own_other h.own hg (type_ne h.own ho (by decide))⟩
theorem Many.grown {W W' : World} {B n : Nat} {g : Nat → Nat} {v h : Nat → Value} {x : Nat → List Int} {wv hv : Value} (m : Many W B n g v h x wv hv) {k : Nat} {u : Value} {us : List Value} (ho : W.ownsRow B 61 1 u k us) (hg : W.grownBy W' u.ownBlock) : Many W' B n g v h x wv hv :=
  ⟨m.fam.grow hg (own_types ho (by decide) (by decide)), own_other m.wr hg (type_ne m.wr ho (by decide)), own_other m.hr hg (type_ne m.hr ho (by decide))⟩
/-- The list of the Readers; those from place k on have not read. -/
structure Rds (W : World) (B n k : Nat) (gr : Nat → Nat) (rv : Nat → Value) (x : Nat → List Int) (u : Value) : Prop where
  row : W.ownsRow B 61 1 u n ((List.range n).map fun i => Value.pointer (some ⟨gr i, 0, none⟩))
  rd : ∀ i, i < n → k ≤ i → Rdr W B (gr i) (rv i) (x i) 0 0
  ne : ∀ i j, i < n → j < n → i ≠ j → gr i ≠ gr j
  lt : ∀ i, i < n → gr i < W.heap.size
theorem Rds.below {W W' : World} {B n k : Nat} {gr : Nat → Nat} {rv : Nat → Value} {x : Nat → List Int} {u : Value} (r : Rds W B n k gr rv x u) (hb : Below W.heap.size W W') : Rds W' B n k gr rv x u :=
  ⟨pw_own_below r.row hb, fun i hi hk => rdr_below (r.rd i hi hk) hb, r.ne, fun i hi => Nat.lt_of_lt_of_le (r.lt i hi) hb.size⟩
theorem Rds.zero (W : World) (B : Nat) (gr : Nat → Nat) (rv : Nat → Value) (x : Nat → List Int) : Rds W B 0 0 gr rv x (.slice none 0 0) :=
  ⟨own_nil _ _ _ _, fun i h => absurd h (by omega), fun i j h => absurd h (by omega), fun i h => absurd h (by omega)⟩
theorem Rds.add {W W1 W2 : World} {B n : Nat} {gr : Nat → Nat} {rv : Nat → Value} {x : Nat → List Int} {u u2 : Value} (r : Rds W B n 0 gr rv x u) (hb : Below W.heap.size W W1) {g' : Nat} {v' : Value} (hd : Rdr W1 B g' v' (x n) 0 0) (hg' : W.heap.size ≤ g')
    (h2 : W1.grownBy W2 u.ownBlock) (r2 : W2.ownsRow B 61 1 u2 (n + 1) (((List.range n).map fun i => Value.pointer (some ⟨gr i, 0, none⟩)) ++ [Value.pointer (some ⟨g', 0, none⟩)])) : Rds W2 B (n + 1) 0 (upd gr n g') (upd rv n v') x u2 := by
  have r1 := r.below hb
  refine ⟨?_, fun i hi _ => ?_, fun i j hi hj hq => ?_, fun i hi => ?_⟩
  · have e := map_add gr (fun a => Value.pointer (some ⟨a, 0, none⟩)) n g'
    rw [← e]; exact r2
  · by_cases e : i = n
    · subst e; rw [upd_self, upd_self]; exact rdr_grown hd r1.row h2
    · rw [upd_ne gr _ e, upd_ne rv _ e]; exact rdr_grown (r1.rd i (by omega) (by omega)) r1.row h2
  · by_cases e : i = n
    · subst e
      rw [upd_self, upd_ne gr _ (fun q => hq q.symm)]; have := r.lt j (by omega); omega
    · by_cases e2 : j = n
      · subst e2; rw [upd_self, upd_ne gr _ e]; have := r.lt i (by omega); omega
      · rw [upd_ne gr _ e, upd_ne gr _ e2]; exact r.ne i j (by omega) (by omega) hq
  · by_cases e : i = n
    · subst e; rw [upd_self]; exact Nat.lt_of_lt_of_le (blk_lt hd.blk) h2.size
    · rw [upd_ne gr _ e]; exact Nat.lt_of_lt_of_le (r1.lt i (by omega)) h2.size
/-- Reader k has read. -/
theorem Rds.step {W W' : World} {B n k : Nat} {gr : Nat → Nat} {rv : Nat → Value} {x : Nat → List Int} {u : Value} (r : Rds W B n k gr rv x u) (hk : k < n) (h : KeepBut W W' (gr k) none) : Rds W' B n (k + 1) gr rv x u := by
  have hb := (r.rd k hk (Nat.le_refl _)).blk
  exact ⟨h.own r.row (ne_blockT hb (by decide) r.row) (by cases u.ownBlock <;> simp), fun i hi hki => rdr_keep (r.rd i hi (by omega)) h hb (r.ne i k hi hk (by omega)), r.ne, fun i hi => Nat.lt_of_lt_of_le (r.lt i hi) h.1⟩
end Go.Proofs.Ytedbpagjhnkdbaa.Wr
