/- Contract of a Reader's Bytes: the length, and the bytes. -/
import Derived.Test.YtoeiaimoppmjdaaDoorRVar
namespace Go.Proofs.YtoeiaimoppmjdaaDoor.Wr
open Go.RowKit Go.Proofs.YtoeiaimoppmjdaaDoorW.PrintWords Go.Proofs.YtoeiaimoppmjdaaDoor.Bytes
set_option linter.unusedVariables false
set_option linter.unusedSimpArgs false
theorem rNext_len (xs : List Int) (s : RS) (n : Int) : (rNext xs s n).1.length ≤ xs.length := by
  unfold rNext
  split
  · split
    · simp; omega
    · simp
  · simp
set_option maxRecDepth 20000 in
set_option maxHeartbeats 1600000 in
theorem bytesR_calls (W : World) (base g : Nat) (v : Value) (xs : List Int) (s : RS) (most : Int) (h : Rdr W base g v xs s.at_ s.met) (hs : s.Ok xs) (hb : base ≤ W.heap.size) (hx : Byt xs) (hxl : xs.length ≤ 140737488355328) (hm1 : -9223372036854775808 ≤ most) (hm2 : most ≤ 9223372036854775807) :
    Calls Tryd.prog 71 #[.pointer (some ⟨g, 0, none⟩), .int .i64 most] W (TakenPost W base g v xs (rBytes xs s most).1 (rBytes xs s most).2) := by
  obtain ⟨mm, hmm⟩ : ∃ mm, mm = most.toNat := ⟨_, rfl⟩
  have hmax : max (0 : Int) most = (mm : Int) := by omega
  have CV := Lib.hid (varR_calls W base g v xs s mm h hs hb hx hxl)
  have hok := rVar_ok hs mm
  have HF : Hid (rBytes xs s most = if (rVar xs s mm).2.met = 0 ∧ xs.length < (rVar xs s mm).2.at_ + (rVar xs s mm).1 then ([], ⟨s.at_, 1⟩) else rNext xs (rVar xs s mm).2 ((rVar xs s mm).1 : Int)) := by
    show _ = _
    rw [hmm]; rfl
  obtain ⟨q, hq⟩ : ∃ q, q = rVar xs s mm := ⟨_, rfl⟩
  rw [← hq] at CV hok HF
  obtain ⟨n, s1⟩ := q
  have hn63 : n ≤ mm := hok.2
  have c1 := blk_cell h.blk 1
  simp at c1
  have hwm : (mm : Int) ≤ 9223372036854775807 := by omega
  have hnn : (n : Int) ≤ 9223372036854775807 := by omega
  have HB := Lib.hid hb
  have HOK : Hid (s1.Ok xs) := hok.1
  have HS0 := Lib.hid hs
  have HXL := Lib.hid hxl
  clear h hs hb hx hm2 hok hq hmm hn63 hm1
  go_enter Tryd.func71, Tryd.ntmps71
  go_wp2_with fail
  refine CV.out.mono ?_; rintro e w1 ⟨rfl, h1⟩
  have H1 := Lib.hid h1
  have d2 := blk_cell h1.rd.blk 2
  simp at d2
  by_cases hm : s1.met = 0
  · have hm' : (s1.met : Int) = 0 := by omega
    rw [hm'] at d2
    have CL := Lib.hid (left_calls w1 base g v xs s1.at_ 0 (by have := h1.rd; rwa [hm'] at this) (by omega) (by have := HOK.out.at_; omega))
    by_cases hov : xs.length < s1.at_ + n
    · have e : rBytes xs s most = ([], ⟨s.at_, 1⟩) := by rw [HF.out, if_pos ⟨hm, hov⟩]
      have HE := Lib.hid e
      have o1 : (xs.length : Int) - (s1.at_ : Int) < (n : Int) := by omega
      have o2 : (0 : Int) ≤ (xs.length : Int) - (s1.at_ : Int) := by have := HOK.out.at_; omega
      have o3 : (xs.length : Int) ≤ 140737488355328 := by have := HXL.out; omega
      have CS := fun W' h' => Lib.hid (stop_calls W' base g v xs s1 s.at_ 1 h')
      have HS := Lib.hid CS
      have CN := fun W' h' => Lib.hid (nextR_calls W' base g v xs ⟨s.at_, 1⟩ (n : Int) h')
      have HCN := Lib.hid CN
      clear h1 hm hm' hov e CS CN hxl
      go_wp2_with fail
      refine CL.out.mono ?_; rintro e w2 ⟨rfl, hb2⟩
      have CS2 := Lib.hid (HS.out w2 (rdr_below H1.out.rd hb2))
      have HB2 := Lib.hid hb2
      clear hb2
      go_wp2_with fail
      refine CS2.out.out.mono ?_; rintro e w3 ⟨rfl, h3⟩
      have H13 := Lib.hid ((H1.out.below HB.out HB2.out).trans h3)
      have CN3 := Lib.hid (HCN.out w3 h3.rd ⟨HS0.out.at_, by simp⟩ (Nat.le_trans HB.out H13.out.kb.1) (fun e => by simp at e))
      rw [rNext_stopped (by simp)] at CN3
      clear h3
      go_wp2_with fail
      refine CN3.out.mono ?_; rintro e w4 ⟨A2, c2', rfl, hr4, h4⟩
      have CT := Lib.hid (taken_calls [] A2 c2' w4 w4.heap.size (Nat.le_refl _) hr4 (by simp))
      have H4 := Lib.hid (H13.out.trans h4)
      clear hr4 h4
      go_wp2_with fail
      refine CT.out.mono ?_; rintro e w5 ⟨u, rfl, hu, hb5⟩
      have HU := Lib.hid hu
      have HB5 := Lib.hid hb5
      clear hu hb5
      go_wp2_with fail
      go_ret
      rw [HE.out]; exact ⟨u, rfl, own_less HU.out H4.out.kb.1, H4.out.below HB.out HB5.out⟩
    · have e : rBytes xs s most = rNext xs s1 (n : Int) := by rw [HF.out, if_neg (by simp [hov])]
      have o1 : ¬ (xs.length : Int) - (s1.at_ : Int) < (n : Int) := by omega
      have o2 : (0 : Int) ≤ (xs.length : Int) - (s1.at_ : Int) := by have := HOK.out.at_; omega
      have o3 : (xs.length : Int) ≤ 140737488355328 := by have := HXL.out; omega
      have CN := fun W' h' => Lib.hid (nextR_calls W' base g v xs s1 (n : Int) h' HOK.out)
      have HCN := Lib.hid CN
      have HLN : Hid ((rNext xs s1 (n : Int)).1.length ≤ 140737488355328) := Nat.le_trans (rNext_len xs s1 n) HXL.out
      obtain ⟨q, hq⟩ : ∃ q, q = rNext xs s1 (n : Int) := ⟨_, rfl⟩
      rw [← hq] at HLN HCN
      obtain ⟨l, s2⟩ := q
      have HE : Hid (rBytes xs s most = (l, s2)) := e.trans hq.symm
      clear h1 hm hm' hov e CN hxl hq
      go_wp2_with fail
      refine CL.out.mono ?_; rintro e w2 ⟨rfl, hb2⟩
      have H12 := Lib.hid (H1.out.below HB.out hb2)
      have CN3 := Lib.hid (HCN.out w2 H12.out.rd (Nat.le_trans HB.out H12.out.kb.1) (fun e => by omega))
      clear hb2
      go_wp2_with fail
      refine CN3.out.mono ?_; rintro e w4 ⟨A2, c2', rfl, hr4, h4⟩
      have CT := Lib.hid (taken_calls l A2 c2' w4 w4.heap.size (Nat.le_refl _) hr4 HLN.out)
      have H4 := Lib.hid (H12.out.trans h4)
      clear hr4 h4
      go_wp2_with fail
      refine CT.out.mono ?_; rintro e w5 ⟨u, rfl, hu, hb5⟩
      have HU := Lib.hid hu
      have HB5 := Lib.hid hb5
      clear hu hb5
      go_wp2_with fail
      go_ret
      rw [HE.out]; exact ⟨u, rfl, own_less HU.out H4.out.kb.1, H4.out.below HB.out HB5.out⟩
  · have hm' : ¬ (s1.met : Int) = 0 := by omega
    have e : rBytes xs s most = rNext xs s1 (n : Int) := by rw [HF.out, if_neg (by simp [hm])]
    have CN := Lib.hid (nextR_calls w1 base g v xs s1 (n : Int) h1.rd HOK.out (Nat.le_trans HB.out h1.kb.1) (fun e => absurd e hm))
    have HLN : Hid ((rNext xs s1 (n : Int)).1.length ≤ 140737488355328) := Nat.le_trans (rNext_len xs s1 n) HXL.out
    obtain ⟨q, hq⟩ : ∃ q, q = rNext xs s1 (n : Int) := ⟨_, rfl⟩
    rw [← hq] at HLN CN
    obtain ⟨l, s2⟩ := q
    have HE : Hid (rBytes xs s most = (l, s2)) := e.trans hq.symm
    clear h1 hm e hxl hq
    go_wp2_with fail
    refine CN.out.mono ?_; rintro e w4 ⟨A2, c2', rfl, hr4, h4⟩
    have CT := Lib.hid (taken_calls l A2 c2' w4 w4.heap.size (Nat.le_refl _) hr4 HLN.out)
    have H4 := Lib.hid (H1.out.trans h4)
    clear hr4 h4
    go_wp2_with fail
    refine CT.out.mono ?_; rintro e w5 ⟨u, rfl, hu, hb5⟩
    have HU := Lib.hid hu
    have HB5 := Lib.hid hb5
    clear hu hb5
    go_wp2_with fail
    go_ret
    rw [HE.out]; exact ⟨u, rfl, own_less HU.out H4.out.kb.1, H4.out.below HB.out HB5.out⟩
end Go.Proofs.YtoeiaimoppmjdaaDoor.Wr
