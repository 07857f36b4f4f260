/- Contract of tilllaw1's Into; the sums' contracts over what is read. -/
import Derived.Test.YtoeiaimoppmjdaaDoorOther
namespace Go.Proofs.YtoeiaimoppmjdaaDoor.Bytes
open Go.RowKit Go.Proofs.YtoeiaimoppmjdaaDoorW.PrintWords Go.Proofs.YtoeiaimoppmjdaaDoor.Crc
set_option linter.unusedVariables false
set_option linter.unusedSimpArgs false
theorem only_refl (w : World) (g : Nat) : w.grownBy w (some g) := ⟨rfl, rfl, rfl, Nat.le_refl _, fun _ _ _ => rfl⟩
theorem only_trans {a b c : World} {g : Nat} (h1 : a.grownBy b (some g)) (h2 : b.grownBy c (some g)) : a.grownBy c (some g) :=
  ⟨h2.os.trans h1.os, h2.tape.trans h1.tape, h2.output.trans h1.output, Nat.le_trans h1.size h2.size, fun k hk hne => (h2.block k (Nat.lt_of_lt_of_le hk h1.size) hne).trans (h1.block k hk hne)⟩
def mix (ys zs : List Int) (k : Nat) : List Int := ys.take k ++ zs.drop k
theorem mix_length (ys zs : List Int) (k : Nat) (h1 : k ≤ ys.length) (h2 : k ≤ zs.length) : (mix ys zs k).length = zs.length := by simp [mix]; omega
theorem mix_set (ys zs : List Int) (k : Nat) (h1 : k < ys.length) (h2 : k < zs.length) : (mix ys zs k).set k (ys.getD k 0) = mix ys zs (k + 1) := by
  have hl : (ys.take k).length = k := by simp; omega
  unfold mix
  have hd : zs.drop k = zs[k] :: zs.drop (k + 1) := List.drop_eq_getElem_cons h2
  rw [hd, List.set_append_right _ _ (by omega), hl, Nat.sub_self, List.take_succ_eq_append_getElem h1, List.append_assoc, List.getD_eq_getElem?_getD, List.getElem?_eq_getElem h1]
  rfl
set_option maxHeartbeats 1600000 in
set_option maxRecDepth 20000 in
theorem into_calls (n : Nat) (ys zs : List Int) (g cap : Nat) (D : Option Addr) (cap2 base base2 : Nat) (w : World) (hl : ys.length = n) (hz : n ≤ zs.length) (hn : n ≤ 1048576)
    (ho : w.ownsRow base 5 1 (.slice (some ⟨g, 0, none⟩) zs.length cap) zs.length (encs I zs)) (hb : w.ownsRow base2 5 1 (.slice D ys.length cap2) ys.length (encs I ys)) (hne : (Value.slice D ys.length cap2).ownBlock = none ∨ (Value.slice D ys.length cap2).ownBlock ≠ some g) :
    Calls Tryd.prog 32 #[.slice (some ⟨g, 0, none⟩) n cap, .slice D n cap2] w fun e w' => e = .returned (.tuple #[]) ∧ w'.ownsRow base 5 1 (.slice (some ⟨g, 0, none⟩) zs.length cap) zs.length (encs I (ys ++ zs.drop n)) ∧ w.grownBy w' (some g) := by
  have HO := Lib.hid ho
  have HBO := Lib.hid hb
  have HNE := Lib.hid hne
  clear ho hb hne
  go_enter Tryd.func32, Tryd.ntmps32
  go_wp2_with fail
  go_loopw [4] (fun i wr => ∃ k : Nat, i = .int .i64 k ∧ k ≤ n ∧ wr.ownsRow base 5 1 (.slice (some ⟨g, 0, none⟩) zs.length cap) zs.length (encs I (mix ys zs k)) ∧ w.grownBy wr (some g)) (fun i _ => n - (intOf i).toNat)
  case atStart => exact ⟨0, rfl, by omega, by simpa [mix] using HO.out, only_refl _ _⟩
  case round =>
    obtain ⟨k, rfl, hk, hok, hgk⟩ := hrel
    have HOK := Lib.hid hok
    have HGK := Lib.hid hgk
    clear hok hgk
    by_cases hlt : k < n
    · have hb2 := own_other HBO.out HGK.out HNE.out
      obtain ⟨g2, cap3, hD, _, _⟩ := hb2.form (by omega)
      injection hD with hD1 hD2 hD3
      subst hD1
      clear hD2 hD3
      have c1 := own_cell hb2 k (by omega)
      have hat := own_at_of (d := 0) HOK.out (k : Int) (by omega) (by omega)
      rw [Int.toNat_natCast] at hat
      obtain ⟨b, hbd⟩ : ∃ b, b = ys.getD k 0 := ⟨_, rfl⟩
      have hst := own_store_of HOK.out (k : Int) (ys.getD k 0)
      rw [Int.toNat_natCast, mix_set ys zs k (by omega) (by omega)] at hst
      rw [← hbd] at c1 hst
      have a1 := hat.1
      have a2 := hat.2
      have HST := Lib.hid hst
      have i1 : (0 : Int) ≤ (k : Int) := by omega
      have i2 : (k : Int) < (n : Int) := by omega
      clear hb2 hat hst hbd
      go_wp2_with fail
      go_roundw
      case rel => exact ⟨k + 1, by go_num, by omega, HST.out.1, only_trans HGK.out HST.out.2⟩
      case measure => simp [intOf]; omega
    · have hk' : k = n := by omega
      have HF : Hid (wr.ownsRow base 5 1 (.slice (some ⟨g, 0, none⟩) zs.length cap) zs.length (encs I (ys ++ zs.drop n))) := by
        have := HOK.out
        rw [hk', mix, List.take_of_length_le (by omega)] at this
        exact this
      clear hk'
      go_wp2_with fail
      go_end0
      exact ⟨rfl, HF.out, HGK.out⟩
theorem sum_reads (xs : List Int) (A : Option Addr) (c : Nat) (w : World) (hr : ReadsOf I 0 w A xs.length xs) (hv : Byt xs) :
    Calls Tryd.prog 85 #[.slice A xs.length c] w fun e w' => e = .returned (.int .u32 ((crc xs).toNat : Int)) ∧ Below w.heap.size w w' :=
  sum_walk xs A c w hr.2.1 (fun k hk => reads_at hr k hk) hv
theorem rsum_reads (xs : List Int) (A : Option Addr) (c : Nat) (w : World) (hr : ReadsOf I 0 w A xs.length xs) (hv : Byt xs) (hb : xs.length ≤ 1048576) :
    Calls Tryd.prog 106 #[.slice A xs.length c] w fun e w' => e = .returned (.int .u32 ((crc xs).toNat : Int)) ∧ Below w.heap.size w w' :=
  rsum_walk xs A c w (by omega) (fun k hk => reads_at hr k hk) hv
theorem crc_five : ((crc [1, 2, 3, 4, 5]).toNat : Int) = 1191942644 := by decide +kernel
theorem crc_nil : ((crc []).toNat : Int) = 0 := by decide +kernel
theorem nil_reads (w : World) : ReadsOf I 0 w none 0 [] := ⟨rfl, by omega, fun h => by omega⟩
theorem lit_reads (W : World) (e : TypeId) (xs : List Int) (hm : xs.length ≤ 9223372036854775807) : ReadsOf I 0 (W.alloc (.cells (encs I xs).toArray e)) (some ⟨W.heap.size, 0, none⟩) xs.length xs := by
  obtain ⟨A, c, he, hr⟩ := own_reads_of (d := 0) (own_lit_of (enc := I) W W.heap.size e xs (Nat.le_refl _) hm)
  injection he with h1 h2 h3
  rw [h1]; exact hr
/-- Element k of a list of lists that came in. -/
theorem at_list {α : Type} {e : Nat} {d : Kd α} {w : World} {A : Option Addr} {ll : List (List α)} (h : (Kd.slice e d).C w A ll.length ll) (k : Nat) (hk : k < ll.length) :
    ∃ ad Ak ck, A = some ad ∧ w.cell? (ad.add k) = some (.slice Ak (ll[k]'hk).length ck) ∧ (ll[k]'hk).length ≤ ck ∧ d.C w Ak (ll[k]'hk).length (ll[k]'hk) := by
  obtain ⟨ad, c, e1, _, hK, hc⟩ := Kd.C_get h [] (k : Int) (by omega) (by omega)
  have hg : ll.getD (k : Int).toNat [] = ll[k]'hk := by rw [Int.toNat_natCast, List.getD_eq_getElem?_getD, List.getElem?_eq_getElem hk]; rfl
  rw [hg] at hK
  obtain ⟨Ak, ck, rfl, hl, hC⟩ := hK
  refine ⟨ad, Ak, ck, e1, ?_, hl, hC⟩
  have := hc 0 _ rfl
  rw [Int.toNat_natCast] at this
  simpa [Kd.slice] using this
end Go.Proofs.YtoeiaimoppmjdaaDoor.Bytes
