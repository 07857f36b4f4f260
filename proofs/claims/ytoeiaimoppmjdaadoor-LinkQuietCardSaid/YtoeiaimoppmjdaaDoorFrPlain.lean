/- Frames in bytes: plain. -/
import Derived.Test.YtoeiaimoppmjdaaDoorRWPlain
import Derived.Test.YtoeiaimoppmjdaaDoorCrcRef
namespace Go.Proofs.YtoeiaimoppmjdaaDoor.Lk
open Go.Proofs.YtoeiaimoppmjdaaDoor.Wr Go.Proofs.YtoeiaimoppmjdaaDoor.Bytes Go.Proofs.YtoeiaimoppmjdaaDoor.Crc
structure Frm where
  src : Int
  dst : Int
  mine : Nat
  yours : Nat
  seq : Nat
  ack : Nat
  body : List Int
/-- May a frame be? -/
def endsB (f : Frm) : Bool := decide (0 ≤ f.src) && decide (f.src ≤ 8) && decide (0 ≤ f.dst) && decide (f.dst ≤ 8)
def livesB (f : Frm) : Bool := decide (1 ≤ f.mine) && decide (f.mine ≤ 1099511627776) && decide (f.yours ≤ 1099511627776)
def fitB (f : Frm) : Bool := endsB f && livesB f && decide (f.seq ≤ 1099511627776) && decide (f.ack ≤ 1099511627776) && decide (f.body.length ≤ 2048) && (decide (0 < f.seq) || decide (f.body.length = 0))
structure Fit (f : Frm) : Prop where
  f0 : 0 ≤ f.src
  f1 : f.src ≤ 8
  t0 : 0 ≤ f.dst
  t1 : f.dst ≤ 8
  m0 : 1 ≤ f.mine
  m1 : f.mine ≤ 1099511627776
  y : f.yours ≤ 1099511627776
  s : f.seq ≤ 1099511627776
  a : f.ack ≤ 1099511627776
  b : f.body.length ≤ 2048
  sb : 0 < f.seq ∨ f.body.length = 0
theorem fit_iff (f : Frm) : fitB f = true ↔ Fit f := by
  unfold fitB endsB livesB
  simp only [Bool.and_eq_true, Bool.or_eq_true, decide_eq_true_eq]
  constructor
  · rintro ⟨⟨⟨⟨⟨⟨⟨⟨h1, h2⟩, h3⟩, h4⟩, ⟨h5, h6⟩, h7⟩, h8⟩, h9⟩, h10⟩, h11⟩
    exact ⟨h1, h2, h3, h4, h5, h6, h7, h8, h9, h10, h11⟩
  · rintro ⟨h1, h2, h3, h4, h5, h6, h7, h8, h9, h10, h11⟩
    exact ⟨⟨⟨⟨⟨⟨⟨⟨h1, h2⟩, h3⟩, h4⟩, ⟨h5, h6⟩, h7⟩, h8⟩, h9⟩, h10⟩, h11⟩
def nums (f : Frm) : List Nat := [f.mine, f.yours, f.seq, f.ack]
/-- The bytes ahead of the sum. -/
def ahead (f : Frm) : List Int := [f.src, f.dst] ++ (nums f).flatMap vr ++ (vr f.body.length ++ f.body)
def encF (f : Frm) : List Int := if fitB f = true then ahead f ++ fixL (crc (ahead f)).toNat 4 else []
theorem nums_len (f : Frm) : (nums f).length = 4 := rfl
theorem vrs_len (f : Frm) (h : Fit f) (k : Nat) : (((nums f).take k).flatMap vr).length ≤ 40 := by
  have h1 := vr_length f.mine 9 (by have := h.m1; omega)
  have h2 := vr_length f.yours 9 (by have := h.y; omega)
  have h3 := vr_length f.seq 9 (by have := h.s; omega)
  have h4 := vr_length f.ack 9 (by have := h.a; omega)
  have e : k = 0 ∨ k = 1 ∨ k = 2 ∨ k = 3 ∨ 4 ≤ k := by omega
  rcases e with rfl | rfl | rfl | rfl | e
  · simp [nums]
  · simp [nums]; omega
  · simp [nums]; omega
  · simp [nums]; omega
  · rw [List.take_of_length_le (by rw [nums_len]; exact e)]; simp [nums]; omega
theorem ahead_byt (f : Frm) (h : Fit f) (hb : Byt f.body) : Byt (ahead f) := by
  have := h.f0; have := h.f1; have := h.t0; have := h.t1
  intro a ha
  simp only [ahead, nums, List.flatMap_cons, List.flatMap_nil, List.mem_append, List.mem_cons, List.not_mem_nil, or_false, List.append_nil] at ha
  rcases ha with (((rfl | rfl) | ha | ha | ha | ha) | ha | ha)
  · omega
  · omega
  · exact vr_byt _ a ha
  · exact vr_byt _ a ha
  · exact vr_byt _ a ha
  · exact vr_byt _ a ha
  · exact vr_byt _ a ha
  · exact hb a ha
theorem ahead_len (f : Frm) (h : Fit f) : (ahead f).length ≤ 2100 := by
  have h1 := vrs_len f h 4
  rw [List.take_of_length_le (by rw [nums_len]; exact Nat.le_refl _)] at h1
  have h2 := vr_length f.body.length 9 (by have := h.b; omega)
  have := h.b
  simp only [ahead, List.length_append, List.length_cons, List.length_nil]
  omega
end Go.Proofs.YtoeiaimoppmjdaaDoor.Lk
