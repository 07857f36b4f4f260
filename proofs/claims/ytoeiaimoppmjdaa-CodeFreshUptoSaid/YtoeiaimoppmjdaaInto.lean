/- Contract of tilllaw1's Into; the sums' contracts over what is read. -/
import Derived.Test.YtoeiaimoppmjdaaOther
namespace Go.Proofs.Ytoeiaimoppmjdaa.Bytes
open Go.RowKit Go.Proofs.YtoeiaimoppmjdaaW.PrintWords Go.Proofs.Ytoeiaimoppmjdaa.Crc
set_option linter.unusedVariables false
set_option linter.unusedSimpArgs false
theorem only_refl (w : World) (g : Nat) : w.grownBy w (some g) := ⟨rfl, rfl, rfl, Nat.le_refl _, fun _ _ _ => rfl⟩
theorem only_trans {a b c : World} {g : Nat} (h1 : a.grownBy b (some g)) (h2 : b.grownBy c (some g)) : a.grownBy c (some g) :=
  ⟨h2.os.trans h1.os, h2.tape.trans h1.tape, h2.output.trans h1.output, Nat.le_trans h1.size h2.size, fun k hk hne => (h2.block k (Nat.lt_of_lt_of_le hk h1.size) hne).trans (h1.block k hk hne)⟩
def mix (ys zs : List Int) (k : Nat) : List Int := ys.take k ++ zs.drop k
theorem mix_length (ys zs : List Int) (k : Nat) (h1 : k ≤ ys.length) (h2 : k ≤ zs.length) : (mix ys zs k).length = zs.length := by simp [mix]; omega
theorem mix_set (ys zs : List Int) (k : Nat) (h1 : k < ys.length) (h2 : k < zs.length) : (mix ys zs k).set k (ys.getD k 0) = mix ys zs (k + 1) := by
  have hl : (ys.take k).length = k := by simp; omega
  unfold mix
  have hd : zs.drop k = zs[k] :: zs.drop (k + 1) := List.drop_eq_getElem_cons h2
  rw [hd, List.set_append_right _ _ (by omega), hl, Nat.sub_self, List.take_succ_eq_append_getElem h1, List.append_assoc, List.getD_eq_getElem?_getD, List.getElem?_eq_getElem h1]
  rfl
theorem crc_five : ((crc [1, 2, 3, 4, 5]).toNat : Int) = 1191942644 := by decide +kernel
theorem crc_nil : ((crc []).toNat : Int) = 0 := by decide +kernel
theorem nil_reads (w : World) : ReadsOf I 0 w none 0 [] := ⟨rfl, by omega, fun h => by omega⟩
theorem lit_reads (W : World) (e : TypeId) (xs : List Int) (hm : xs.length ≤ 9223372036854775807) : ReadsOf I 0 (W.alloc (.cells (encs I xs).toArray e)) (some ⟨W.heap.size, 0, none⟩) xs.length xs := by
  obtain ⟨A, c, he, hr⟩ := own_reads_of (d := 0) (own_lit_of (enc := I) W W.heap.size e xs (Nat.le_refl _) hm)
  injection he with h1 h2 h3
  rw [h1]; exact hr
/-- Element k of a list of lists that came in. -/
theorem at_list {α : Type} {e : Nat} {d : Kd α} {w : World} {A : Option Addr} {ll : List (List α)} (h : (Kd.slice e d).C w A ll.length ll) (k : Nat) (hk : k < ll.length) :
    ∃ ad Ak ck, A = some ad ∧ w.cell? (ad.add k) = some (.slice Ak (ll[k]'hk).length ck) ∧ (ll[k]'hk).length ≤ ck ∧ d.C w Ak (ll[k]'hk).length (ll[k]'hk) := by
  obtain ⟨ad, c, e1, _, hK, hc⟩ := Kd.C_get h [] (k : Int) (by omega) (by omega)
  have hg : ll.getD (k : Int).toNat [] = ll[k]'hk := by rw [Int.toNat_natCast, List.getD_eq_getElem?_getD, List.getElem?_eq_getElem hk]; rfl
  rw [hg] at hK
  obtain ⟨Ak, ck, rfl, hl, hC⟩ := hK
  refine ⟨ad, Ak, ck, e1, ?_, hl, hC⟩
  have := hc 0 _ rfl
  rw [Int.toNat_natCast] at this
  simpa [Kd.slice] using this
end Go.Proofs.Ytoeiaimoppmjdaa.Bytes
